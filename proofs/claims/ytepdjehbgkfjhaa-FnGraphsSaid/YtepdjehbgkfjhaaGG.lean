/-
  Contracts: the program's LeastRounds at a valid graph and small numbers.
  Conditions: as the theorem says.
-/
import Derived.Test.YtepdjehbgkfjhaaGF
import Derived.Test.YtepdjehbgkfjhaaCS
import Derived.Test.YtepdjehbgkfjhaaFR
namespace Go.Proofs.Ytepdjehbgkfjhaa
open Go.RowKit

theorem hardL_eq (soft : List Nat) : soft.map hardB = hardL soft := rfl
theorem infoF32S : (Try.prog.info? 30).map (fun i => (i.zero, i.size, i.bytes)) = some (some (.slice none 0 0), 1, 24) := by kernel_rfl
theorem cell_new2 (w : World) (o : Go.Obj) (u : Value) (e : TypeId) : ((w.alloc o).alloc (.cells #[u] e)).cell? ⟨w.heap.size + 1, 0, none⟩ = some u := by
  have h := cell_new1 (w.alloc o) u e
  have e1 : (w.alloc o).heap.size = w.heap.size + 1 := by simp
  rw [e1] at h
  exact h
theorem own_dalloc' {w : World} {n base : Nat} {e : TypeId} {v : Value} {xs : List Value} (h : Ow w base e v xs) (o : Go.Obj) : Ow ((w.drewN n).alloc o) base e v xs := World.ownsRow.alloc (w := w.drewN n) h o
theorem Own2.set {W : World} {base base2 g n c : Nat} {v : Value} {ms : List RowG} {xs : List Value} (h : Own2 W base v ms) (hr : W.ownsRow base2 4 1 (.slice (some ⟨g, 0, none⟩) n c) n xs) (i : Nat) (u : Value) : Own2 (W.setCell ⟨g, i, none⟩ u) base v ms := by
  have hg : W.grownBy (W.setCell ⟨g, i, none⟩ u) (some g) := grownBy_set W g i u
  refine ⟨⟨h.1.1, ?_⟩, fun r hr2 => (h.2 r hr2).kept hr (by decide) hg⟩
  rcases h.1.2 with hn | ⟨g', cap', cur, hv, hb, hgb, rest⟩
  · exact .inl hn
  · exact .inr ⟨g', cap', cur, hv, hb, Obj.kept hgb hg (Obj.not_row hgb (by decide) hr), rest⟩
theorem set_upto {C : List Bool} {N : Nat → Bool} {z ns : Nat} (hl : C.length = ns) (hz : z < ns) (h : ∀ b, b < z → C.getD b false = N b) : (C.set z (N z)).length = ns ∧ ∀ b, b < z + 1 → (C.set z (N z)).getD b false = N b := by
  refine ⟨by rw [List.length_set]; exact hl, fun b hb => ?_⟩
  rw [List.getD_eq_getElem?_getD, List.getElem?_set]
  by_cases e : z = b
  · subst e
    rw [if_pos rfl, if_pos (by omega)]
    rfl
  · rw [if_neg e, ← List.getD_eq_getElem?_getD]
    exact h b (by omega)
theorem vg_one {m : Int} {D : List (List Int)} (h : validGraphB m D = true) : ∀ l ∈ D, 1 ≤ l.length := by
  intro l hl
  unfold validGraphB at h
  rw [Bool.and_eq_true, List.all_eq_true] at h
  have h2 := h.2 l hl
  unfold rowOk at h2
  rw [Bool.and_eq_true, decide_eq_true_eq] at h2
  exact h2.1
theorem nxtM_take {D : List (List Int)} {soft : List Nat} {n r : Nat} {M : List (List Nat)} (h : r < n) : (nxtM D soft n M).take (r + 1) = (nxtM D soft n M).take r ++ [nxtRow D soft n M r] := by
  have hl : r < (nxtM D soft n M).length := by simpa [nxtM] using h
  rw [List.take_succ_eq_append_getElem hl]
  simp [nxtM]
theorem inR_made (W : World) (base k : Nat) (hb : base ≤ W.heap.size) : InR (W.alloc (.cells (zeroRow (.float .f32 0) k) 46)) base (some ⟨W.heap.size, 0, none⟩, k, List.replicate k 0) := by
  refine ⟨W.heap.size, _, rfl, hb, heap_alloc_new W _, ?_⟩
  simp [zeroRow]
theorem zeroM_take {D : List (List Int)} {k : Nat} (h : k < D.length) : (zeroM D).take (k + 1) = (zeroM D).take k ++ [List.replicate (D.getD k []).length 0] := by
  have hk : k < (zeroM D).length := by simpa [zeroM] using h
  rw [List.take_succ_eq_append_getElem hk]
  simp [zeroM, List.getD_eq_getElem?_getD, h]
/-- what LeastRounds leaves -/
def LeastPost (w : World) (D : List (List Int)) (soft : List Nat) (n K : Nat) (e : Ending) (w' : World) : Prop :=
  Below w.heap.size w w' ∧ match leastAt D soft n K with
  | some k => ∃ v, e = .returned (.tuple #[v, .int .i64 (k : Int), .bool true]) ∧ Ow w' w.heap.size 4 v ((bitsK D soft n k).map Value.bool)
  | none => e = .returned (.tuple #[.slice none 0 0, .int .i64 0, .bool false])


set_option maxRecDepth 100000 in
set_option maxHeartbeats 20000000 in
theorem impl_Least_c (w : World) (A As : Option Addr) (n cap ns caps K : Nat) (ys : List RowH) (D : List (List Int)) (soft : List Nat) (hd : dat ys = D) (hl : ys.length = n) (hn : n ≤ 32) (hr : ∀ r ∈ ys, r.2.2.length ≤ 32) (hx0 : Sl2 w w.heap.size A ys)
    (hls : soft.length = ns) (hns : ns ≤ 32) (hs0 : Sl w w.heap.size As (soft.map (Value.float .f32))) (hv : validGraphB (ns : Int) D = true) (hf : softB soft = true) (hK : K ≤ 64) (hS : ∀ b, Low 10 (soft.getD b 0)) (hb : 10 + (2 * n + 1) * K + 2 * n ≤ 118) (ho : ∀ r, r < n → Once (D.getD r [])) :
    Calls Try.prog 10 #[.agg #[.int .i64 (ns : Int), .slice A n cap], .slice As ns caps, .int .i64 (K : Int)] w (LeastPost w D soft n K) := by
  obtain ⟨w1, ew⟩ : ∃ q : World, q = w.alloc (.cells #[.int .i64 (ns : Int), .slice A n cap] 26) := ⟨_, rfl⟩
  have hB : Below w.heap.size w w1 := by rw [ew]; exact (Below.refl _ _).alloc (Nat.le_refl _) _
  have c0 : w1.cell? ⟨w.heap.size, 0, none⟩ = some (.int .i64 (ns : Int)) := by rw [ew]; (first | (simp; done) | (simp (disch := (first | (simp; done) | (simp; omega))) [World.cell?_alloc_at]; done) | (simp (disch := (first | (simp; done) | (simp; omega))) [World.cell?_alloc_past]; done) | (simp (disch := (first | (simp; done) | (simp; omega))) [World.cell?_alloc_at, World.cell?_alloc_past]; done) | (simp (disch := (first | (simp; done) | (simp; omega))) [World.frozen?_alloc_at]; done) | (simp (disch := (first | (simp; done) | (simp; omega))) [World.frozen?_alloc_past]; done) | (simp (disch := (first | (simp; done) | (simp; omega))) [World.frozen?_alloc_at, World.frozen?_alloc_past]; done))
  have c1 : w1.cell? ⟨w.heap.size, 1, none⟩ = some (.slice A n cap) := by rw [ew]; (first | (simp; done) | (simp (disch := (first | (simp; done) | (simp; omega))) [World.cell?_alloc_at]; done) | (simp (disch := (first | (simp; done) | (simp; omega))) [World.cell?_alloc_past]; done) | (simp (disch := (first | (simp; done) | (simp; omega))) [World.cell?_alloc_at, World.cell?_alloc_past]; done) | (simp (disch := (first | (simp; done) | (simp; omega))) [World.frozen?_alloc_at]; done) | (simp (disch := (first | (simp; done) | (simp; omega))) [World.frozen?_alloc_past]; done) | (simp (disch := (first | (simp; done) | (simp; omega))) [World.frozen?_alloc_at, World.frozen?_alloc_past]; done))
  have hz : w1.heap.size = w.heap.size + 1 := by rw [ew]; simp
  have hx := (hx0.below hB).more hB.size
  have hs := (hs0.below hB).more hB.size
  have hdl : D.length = n := by rw [← hd, dat_len, hl]
  have hin := vg_in hv
  obtain ⟨hm1, hm2, hn32, h32⟩ := vg_short hv
  have hw := (inB_true (n := (K : Int)) (lo := 0) (hi := 64)).2 (by omega)
  have HV := Lib.hid hv
  have HF := Lib.hid hf
  have HW := Lib.hid hw
  have HIN := Lib.hid hin
  have HH := Lib.hid h32
  have HO := Lib.hid ho
  have HSS := Lib.hid hS
  have HBD := Lib.hid hb
  have HX := Lib.hid hx
  have HSL := Lib.hid hs
  have HB := Lib.hid hB
  have hr2 : ∀ r ∈ ys, r.2.2.length ≤ 1048576 := fun r h => Nat.le_trans (hr r h) (by decide)
  have HR := Lib.hid hr
  have HR2 := Lib.hid hr2
  clear hx0 hs0 hv hf hw hin h32 ho hS hb hx hs hr hr2
  go_enter Try.func10, Try.ntmps10
  go_wp2_with fail
  rw [← ew]
  clear ew
  refine (impl_ValidGraph_c w1 _ A n cap ys D hd hl (by omega) HR2.out HX.out).mono ?_
  rintro e w2 ⟨rfl, hb2⟩
  rw [HV.out]
  have d0 := (hb2.cell (p := ⟨w.heap.size, 0, none⟩) (by simp only []; omega)).trans c0
  have d1 := (hb2.cell (p := ⟨w.heap.size, 1, none⟩) (by simp only []; omega)).trans c1
  have hB2 := HB.out.trans (hb2.mono HB.out.size)
  have hz2 := hb2.size
  have HX2 := Lib.hid (HX.out.up hb2)
  have HS2 := Lib.hid ((HSL.out.below hb2).more hb2.size)
  have HB2 := Lib.hid hB2
  have hg1 : ((ns : Int) != (ns : Int)) = false := by simp
  clear c0 c1 hb2 hB2 HX HSL HB
  go_wp2_with (first
    | (go_at_call 29; refine (impl_IsSoft_c w2 _ As ns caps soft hls HS2.out).mono ?_; rintro e w' ⟨rfl, q, rfl⟩; rw [HF.out])
    | (go_at_call 20; refine (impl_within_c _ _ _ _).mono ?_; rintro e w' ⟨rfl, rfl⟩; rw [HW.out]))
  refine (impl_hard_c (w2.drewN q) As ns caps soft hls (by omega) (HS2.out.drewN q)).mono ?_
  rintro e w3 ⟨v, rfl, ho3, hb3⟩
  rw [hardL_eq] at ho3
  obtain ⟨S3, k3, rfl, hp3⟩ := ho3.opn
  have hhl : (hardL soft).length = ns := by simp [hardL, hls]
  rw [hhl] at hp3 ⊢
  obtain ⟨g, q3, hv3, hbg, hgs⟩ := hp3.form (by omega)
  injection hv3 with hv1 hv2 hv4
  subst hv1
  clear hv2 hv4 ho3
  have hb3 : Below w2.heap.size w2 w3 := (below_of_drewN w2.heap.size w2 q).trans hb3
  have e0 := (hb3.cell (p := ⟨w.heap.size, 0, none⟩) (by simp only []; omega)).trans d0
  have e1 := (hb3.cell (p := ⟨w.heap.size, 1, none⟩) (by simp only []; omega)).trans d1
  have hz3 := hb3.size
  have HX3 := Lib.hid (HX2.out.up hb3)
  have HX2' := Lib.hid (HX2.out.below hb3)
  have HS2' := Lib.hid (HS2.out.below hb3)
  have hz23 : w2.heap.size ≤ w3.heap.size := hb3.size
  have HS3 := Lib.hid ((HS2.out.below hb3).more hb3.size)
  have HB3 := Lib.hid (HB2.out.trans (hb3.mono HB2.out.size))
  have HP3 := Lib.hid hp3
  have hwz : w.heap.size < w3.heap.size := by omega
  have hw2 : w.heap.size < w2.heap.size := by omega
  clear d0 d1 hb3 HX2 HS2 hp3 hz hz2 hz3
  go_wp2_with fail
  have hnil := Own2.nil w3 w3.heap.size (Nat.le_refl _)
  have hbn : Below w3.heap.size w3 (w3.alloc (.cells #[] 30)) := (Below.refl _ _).alloc (Nat.le_refl _) _
  go_loopw [10, 49] (fun v i wr => ∃ (k : Nat) (ms : List RowG), k ≤ n ∧ i = .int .i64 (k : Int) ∧ Own2 wr w3.heap.size v ms ∧ datG ms = (zeroM D).take k ∧ Below w3.heap.size w3 wr) (fun _ i _ => n - (intOf i).toNat)
  case atStart => exact ⟨0, [], Nat.zero_le _, rfl, hnil, rfl, hbn⟩
  case round =>
    clear hnil hbn
    obtain ⟨k, ms, hk, rfl, hms, hdm, hb⟩ := hrel
    obtain ⟨w4, rfl⟩ : ∃ w4 : World, w4 = wr := ⟨_, rfl⟩
    have hz4 := hb.size
    by_cases hlt : k < n
    · have hky : k < ys.length := by omega
      obtain ⟨b1, o1, rfl, hbb1, cr⟩ := (HX3.out.1.below hb).get k hky
      have hlen := HR.out (ys[k]'hky) (List.getElem_mem _)
      have hd1 : D.getD k [] = (ys[k]'hky).2.2 := by rw [← hd]; simp [dat, List.getD_eq_getElem?_getD, hky]
      have hzt := zeroM_take (D := D) (k := k) (by omega)
      rw [hd1] at hzt
      obtain ⟨⟨ra, rc, rl⟩, hrr⟩ : ∃ x, ys[k]'hky = x := ⟨_, rfl⟩
      rw [hrr] at cr hlen hzt
      simp only [rowV] at cr hlen hzt
      obtain ⟨ln, hln⟩ : ∃ ln, rl.length = ln := ⟨_, rfl⟩
      rw [hln] at cr hlen hzt
      have hmk := fun W : World => run_mk (P := Try.prog) Try.underlying30 infoFloat32 rfl (by decide) ln (by omega) .i64 .i64 W
      have hml : ms.length = k := by
        have := congrArg List.length hdm
        simp [datG, zeroM] at this
        omega
      have hinr := (inR_made w4 w3.heap.size ln hz4).grown (World.grownBy_alloc _ (.cells #[.slice (some ⟨w4.heap.size, 0, none⟩) ln ln] 30) none)
      have hms2 := (hms.below ((Below.refl w4.heap.size w4).alloc (Nat.le_refl _) (.cells (zeroRow (.float .f32 0) ln) 46)))
      have hms3 := hms2.below ((Below.refl _ _).alloc (Nat.le_refl _) (.cells #[.slice (some ⟨w4.heap.size, 0, none⟩) ln ln] 30))
      have hlen2 : (ms.map rowGV).length + 1 ≤ 1099511627776 := by rw [List.length_map, hml]; exact Nat.le_trans (Nat.succ_le_succ (Nat.le_trans hk hn)) (by decide)
      have HIN2 := Lib.hid hinr
      have HM3 := Lib.hid hms3
      have HZT := Lib.hid hzt
      have HDM := Lib.hid hdm
      clear hinr hms hms2 hms3 hzt hdm hd1 hrr hln
      go_wp2_with (at_builtin; go_must (refine appO Try.underlying58 infoF32S rfl (by decide) rfl _ _ rfl _ _ _ rfl HM3.out.1 _ _ (.slice (some ⟨w4.heap.size, 0, none⟩) ln ln) rfl (cell_new2 _ _ _ _) rfl hlen2 (by simp; omega) ?_); intro v' w5 ho5 hg5)
      have hrv : Value.slice (some ⟨w4.heap.size, 0, none⟩) ln ln = rowGV (some ⟨w4.heap.size, 0, none⟩, ln, List.replicate ln 0) := by simp [rowGV]
      rw [hrv] at ho5
      have hap := HM3.out.app HIN2.out ho5 hg5
      have hb5 : Below w3.heap.size w3 w5 := ((hb.alloc hz4 _).alloc (by simp; omega) _).grown hg5 (by simp; omega) (fun k hk => (World.ownsRow.lt HM3.out.1 k hk).1)
      have HAP := Lib.hid hap
      have HB5 := Lib.hid hb5
      clear hap hb5 ho5 hg5
      go_roundw
      case rel =>
        refine ⟨k + 1, _, hlt, by go_num, HAP.out, ?_, HB5.out⟩
        rw [Own2.datG_snoc, HDM.out, HZT.out]
      case measure => simp [intOf]; omega
    · have hkn : k = n := by omega
      subst hkn
      have hzl : (zeroM D).length = k := by simp [zeroM, hdl]
      rw [List.take_of_length_le (Nat.le_of_eq hzl)] at hdm
      have hp4 := own_below HP3.out hb (Nat.le_refl _)
      have hb4 : Below w3.heap.size w3 w4 := hb
      have HM4 := Lib.hid hms
      have HDM := Lib.hid hdm
      have HP4 := Lib.hid hp4
      have HB4 := Lib.hid hb4
      have HITL := Lib.hid (iterM_low (D := D) (soft := soft) (n := k) (a := 10) hdl (Nat.le_refl _) HSS.out HO.out)
      have hbk : ∀ t, (bitsK D soft k t).length = ns := by
        intro t
        cases t with
        | zero => exact hhl
        | succ t => simp [bitsK, bitsM, hls]
      have HBK := Lib.hid hbk
      clear hms hdm hp4 hb4 hb hz4 hzl hbk
      go_wp2_with fail
      go_loopw [10, 13] (fun v i wr => ∃ (t : Nat) (ms : List RowG), t ≤ K ∧ i = .int .i64 (t : Int) ∧ Own2 wr w3.heap.size v ms ∧ datG ms = iterM D soft k t ∧ wr.ownsRow w2.heap.size 4 1 (.slice (some ⟨g, 0, none⟩) ns k3) ns ((bitsK D soft k t).map Value.bool) ∧ (∀ j, j < t → memberB D (bitsK D soft k j) = false) ∧ Below w2.heap.size w3 wr) (fun _ i _ => K - (intOf i).toNat)
      case atStart => exact ⟨0, ms, Nat.zero_le _, rfl, HM4.out, HDM.out, HP4.out, fun j hj => by omega, HB4.out.mono (Nat.le_trans hbg (Nat.le_of_lt hgs))⟩
      case round =>
        obtain ⟨t, ms2, ht, rfl, hms, hdm, hp, hnm, hb⟩ := hrel
        obtain ⟨w5, rfl⟩ : ∃ w5 : World, w5 = wr := ⟨_, rfl⟩
        have hz5 := hb.size
        have f0 := (hb.cell (p := ⟨w.heap.size, 0, none⟩) hw2).trans e0
        have f1 := (hb.cell (p := ⟨w.heap.size, 1, none⟩) hw2).trans e1
        have hz5' : w2.heap.size ≤ w5.heap.size := Nat.le_trans hz23 hz5
        have HX5 := Lib.hid ((HX2'.out.below hb).more hz5')
        have hIM := fun (W : World) (hW : Below w5.heap.size w5 W) => impl_isMember_c W (ns : Int) A k cap ys D hd hl (by omega) HR2.out ((HX5.out.below hW).more hW.size) (some ⟨g, 0, none⟩) ns k3 (bitsK D soft k t) (HBK.out t) (by omega) (sl_of_own (own_below hp hW (Nat.le_refl _))) HIN.out
        have HIM := Lib.hid hIM
        have HP := Lib.hid hp
        have HB5 := Lib.hid hb
        have hB5 : Below w.heap.size w w5 := HB3.out.trans (hb.mono (Nat.le_of_lt hw2))
        have HBW := Lib.hid hB5
        have hfin : ∀ (W : World), Below w5.heap.size w5 W → Ow W w.heap.size 4 (.slice (some ⟨g, 0, none⟩) ns k3) ((bitsK D soft k t).map Value.bool) := by
          intro W hW
          unfold Ow
          rw [List.length_map, HBK.out t]
          exact own_base (own_below hp hW (Nat.le_refl _)) (Nat.le_of_lt hw2)
        have HFIN := Lib.hid hfin
        cases hmem : memberB D (bitsK D soft k t)
        · by_cases hlt : t < K
          · have hmulK : (2 * k + 1) * t ≤ (2 * k + 1) * K := Nat.mul_le_mul_left _ ht
            have hbd := HBD.out
            have hlowT := HITL.out t (by omega)
            obtain ⟨a, ha⟩ : ∃ a, 10 + (2 * k + 1) * t = a := ⟨_, rfl⟩
            have ha10 : 10 ≤ a := by omega
            have ha118 : a + 2 * k ≤ 118 := by omega
            rw [ha] at hlowT
            obtain ⟨M, hM⟩ : ∃ M, iterM D soft k t = M := ⟨_, rfl⟩
            have hnx : iterM D soft k (t + 1) = nxtM D soft k M := by rw [← hM]; rfl
            rw [hM] at hlowT hdm
            have hm2l : ms2.length = k := by
              have := congrArg List.length hdm
              rw [hlowT.1] at this
              simpa [datG] using this
            obtain ⟨Am, capm, rfl, hsg⟩ := hms.sl
            rw [hm2l]
            have hsh : ∀ r (h1 : r < ms2.length) (h2 : r < ys.length), ms2[r].2.2.length = ys[r].2.2.length := by
              intro r h1 h2
              have h3 := (hlowT.2 r (by omega)).1
              rw [← hdm, ← hd] at h3
              simpa [datG, dat, List.getD_eq_getElem?_getD, h1, h2] using h3
            have HS5 := Lib.hid ((HS2'.out.below hb).more hz5')
            have hT : ∀ W, Below w5.heap.size w5 W → ∀ (bit : Nat) (wo : Int), bit < ns → -1 ≤ wo → wo ≤ 32 → Calls Try.prog 31 #[.agg #[.int .i64 (ns : Int), .slice A k cap], .slice As ns caps, .slice Am k capm, .int .i64 (bit : Int), .int .i64 wo] W fun e w' => e = .returned (.float .f32 (toldW D M (soft.getD bit 0) bit wo k)) ∧ Below W.heap.size W w' := by
              intro W hW bit wo h1 h2 h3
              have h := impl_told_c W (ns : Int) A As Am k cap ns caps k capm a bit ys ms2 soft wo hl (by omega) HR.out ((HX5.out.below hW).more hW.size) hls ((HS5.out.below hW).more hW.size) hm2l rfl (⟨(hsg.below hW).1.more hW.size, fun r hr => ((hsg.below hW).2 r hr).more hW.size⟩) hsh h1 h2 h3 (by omega) ((HSS.out bit).mono ha10) (by
                rw [hd, hdm]
                exact fun r hr => (hlowT.2 r hr).2) (by rw [hd]; exact HO.out)
              rw [hd, hdm] at h
              exact h
            have HT := Lib.hid hT
            have HLT := Lib.hid hlowT
            have HNX := Lib.hid hnx
            have HME := Lib.hid hmem
            have HNM := Lib.hid hnm
            clear hT hlowT hnx hmem hnm hbd hmulK hM hsh hms hsg hdm
            go_wp2_with (go_at_call 22; refine (HIM.out w5 (Below.refl _ _)).mono ?_; rintro e w6 ⟨rfl, hb6⟩; rw [HME.out]; have g0 := (hb6.cell (p := ⟨w.heap.size, 0, none⟩) (by simp only []; omega)).trans f0; have g1 := (hb6.cell (p := ⟨w.heap.size, 1, none⟩) (by simp only []; omega)).trans f1; have hw6 : w.heap.size < w6.heap.size := by (have := hb6.size; omega))
            have hz6 := hb6.size
            have HX6 := Lib.hid ((HX5.out.below hb6).more hz6)
            have HP6 := Lib.hid (own_below HP.out hb6 (Nat.le_refl _))
            have HB6 := Lib.hid hb6
            have hnil := Own2.nil w6 w6.heap.size (Nat.le_refl _)
            have hbn : Below w6.heap.size w6 (w6.alloc (.cells #[] 30)) := (Below.refl _ _).alloc (Nat.le_refl _) _
            have HE0 := Lib.hid e0
            have HE1 := Lib.hid e1
            clear hb6 hb hp hfin hIM hz5 f0 f1 e0 e1
            go_loopw [14, 75] (fun v i wr => ∃ (r : Nat) (ms3 : List RowG), r ≤ k ∧ i = .int .i64 (r : Int) ∧ Own2 wr w6.heap.size v ms3 ∧ datG ms3 = (nxtM D soft k M).take r ∧ Below w6.heap.size w6 wr) (fun _ i _ => k - (intOf i).toNat)
            case atStart => exact ⟨0, [], Nat.zero_le _, rfl, hnil, rfl, hbn⟩
            case round =>
              clear hnil hbn
              obtain ⟨r, ms3, hrk, rfl, hms3, hdm3, hb7⟩ := hrel
              obtain ⟨w7, rfl⟩ : ∃ w7 : World, w7 = wr := ⟨_, rfl⟩
              have hz7 := hb7.size
              have k0 := (hb7.cell (p := ⟨w.heap.size, 0, none⟩) hw6).trans g0
              have k1 := (hb7.cell (p := ⟨w.heap.size, 1, none⟩) hw6).trans g1
              by_cases hlr : r < k
              · have hry : r < ys.length := by omega
                obtain ⟨b1, o1, rfl, hbb1, cr⟩ := (HX6.out.1.below hb7).get r hry
                have hrow := (HX6.out.2 (ys[r]'hry) (List.getElem_mem _)).below hb7
                have hlen := HR.out (ys[r]'hry) (List.getElem_mem _)
                have hd1 : D.getD r [] = (ys[r]'hry).2.2 := by rw [← hd]; simp [dat, List.getD_eq_getElem?_getD, hry]
                have hDm : (ys[r]'hry).2.2 ∈ D := by rw [← hd]; exact List.mem_map.2 ⟨_, List.getElem_mem hry, rfl⟩
                have hbits := HIN.out _ hDm
                have hl1 := vg_one HV.out _ hDm
                obtain ⟨⟨ra, rc, rl⟩, hrr⟩ : ∃ x, ys[r]'hry = x := ⟨_, rfl⟩
                rw [hrr] at cr hrow hlen hd1 hbits hl1
                simp only [rowV] at cr hrow hlen hd1 hbits hl1
                have htl : toL D soft k M r = rl.map fun bit => toldW D M (soft.getD bit.toNat 0) bit r k := by unfold toL; rw [hd1]
                have hnr : nxtRow D soft k M r = (List.range rl.length).map fun q => ansW (toL D soft k M r) q := by unfold nxtRow; rw [hd1]
                obtain ⟨T, hT2⟩ : ∃ T, toL D soft k M r = T := ⟨_, rfl⟩
                rw [hT2] at htl hnr
                obtain ⟨ln, hln⟩ : ∃ ln, rl.length = ln := ⟨_, rfl⟩
                rw [hln] at cr hlen hnr hl1
                have HROW := Lib.hid hrow
                have HBITS := Lib.hid hbits
                have HTL := Lib.hid htl
                have HNR := Lib.hid hnr
                have HLN := Lib.hid hln
                have HB7 := Lib.hid hb7
                have HM3' := Lib.hid hms3
                have HDM3 := Lib.hid hdm3
                have hln32 : ln ≤ 32 := by omega
                have hr32 : r ≤ 32 := by omega
                clear hrow hbits htl hnr hln hms3 hdm3 hd1 hDm hrr hb7 hT2 hlen
                go_wp2_with fail
                have ho0 := own_empty w7 w7.heap.size 46 (Nat.le_refl _)
                have hbn : Below w7.heap.size w7 (w7.alloc (.cells #[] 46)) := (Below.refl _ _).alloc (Nat.le_refl _) _
                have hw7 : w.heap.size < w7.heap.size := by omega
                go_loopw [17, 83] (fun v i wr => ∃ q : Nat, q ≤ ln ∧ i = .int .i64 (q : Int) ∧ Ow wr w7.heap.size 46 v ((T.take q).map (Value.float .f32)) ∧ Below w7.heap.size w7 wr) (fun _ i _ => ln - (intOf i).toNat)
                case atStart => exact ⟨0, Nat.zero_le _, rfl, ho0, hbn⟩
                case round =>
                  clear ho0 hbn
                  obtain ⟨q, hq, rfl, ho8, hb8⟩ := hrel
                  obtain ⟨w8, rfl⟩ : ∃ w8 : World, w8 = wr := ⟨_, rfl⟩
                  have hz8 := hb8.size
                  have m0 := (hb8.cell (p := ⟨w.heap.size, 0, none⟩) hw7).trans k0
                  have m1 := (hb8.cell (p := ⟨w.heap.size, 1, none⟩) hw7).trans k1
                  by_cases hlq : q < ln
                  · have hql : q < rl.length := by rw [HLN.out]; exact hlq
                    obtain ⟨b2, o2, rfl, hbb2, cq⟩ := (HROW.out.below (hb8.mono hz7)).get q hql
                    have hbq := HBITS.out _ (List.getElem_mem hql)
                    obtain ⟨bit, hbit⟩ : ∃ bit : Nat, rl[q]'hql = (bit : Int) := ⟨(rl[q]'hql).toNat, by omega⟩
                    have hTl : q < T.length := by rw [HTL.out, List.length_map]; exact hql
                    have hTq : T.take (q + 1) = T.take q ++ [toldW D M (soft.getD bit 0) bit r k] := by
                      rw [List.take_succ_eq_append_getElem hTl]
                      congr 2
                      simp only [HTL.out, List.getElem_map, hbit, Int.toNat_natCast]
                    rw [hbit] at cq hbq
                    have hB58 : Below w5.heap.size w5 w8 := HB6.out.trans ((HB7.out.trans (hb8.mono hz7)).mono hz6)
                    have HTC := Lib.hid (HT.out w8 hB58 bit (r : Int) (by omega) (by omega) (by omega))
                    have hlen8 : ((T.take q).map (Value.float .f32)).length + 1 ≤ 1099511627776 := by rw [List.length_map, List.length_take]; omega
                    have HTQ := Lib.hid hTq
                    have HO8 := Lib.hid ho8
                    have HB8 := Lib.hid hb8
                    clear hTq hbit hB58 ho8 hb8 hbq hTl
                    go_wp2_with (first
                      | (go_at_call 31; refine HTC.out.mono ?_; rintro e w9 ⟨rfl, hb9⟩; have hz9 := hb9.size; have ho9 := own_below HO8.out hb9 (Nat.le_refl _))
                      | (at_builtin; go_must (refine app1 Try.underlying30 infoFloat32 rfl (by decide) rfl _ _ rfl _ _ _ rfl (World.ownsRow.alloc ho9 _) _ _ _ rfl (cell_new1 _ _ _) rfl hlen8 (by simp; omega) ?_); intro v' w10 ho10 hb10))
                    go_roundw
                    case rel =>
                      refine ⟨q + 1, hlq, by go_num, ?_, ((HB8.out.trans (hb9.mono hz8)).alloc (by omega) _).trans hb10⟩
                      rw [HTQ.out, List.map_append]
                      exact ho10
                    case measure => simp [intOf]; omega
                  · have hqln : q = ln := by omega
                    subst hqln
                    have hTlen : T.length = q := by rw [HTL.out, List.length_map, HLN.out]
                    rw [List.take_of_length_le (Nat.le_of_eq hTlen)] at ho8
                    obtain ⟨AT, capT, rfl, hcT, hST⟩ := ho8.sl
                    rw [List.length_map, hTlen] at hcT ⊢
                    have hTlow : ∀ x ∈ T, Low (a + 2 * k) x := by
                      intro x hx
                      rw [HTL.out] at hx
                      obtain ⟨bit, _, rfl⟩ := List.mem_map.1 hx
                      exact toldW_low (by omega) ((HSS.out _).mono ha10) (fun r hr => (HLT.out.2 r hr).2) HO.out k (Nat.le_refl _)
                    have hB68 : Below w6.heap.size w6 w8 := HB7.out.trans (hb8.mono hz7)
                    have HAN := Lib.hid (fun (W : World) (hW : Below w8.heap.size w8 W) (z : Nat) (hz : z ≤ 64) => impl_answer_c W w8.heap.size AT q capT z (a + 2 * k) T hTlen (by omega) hz (by omega) (by omega) hTlow (hST.below hW))
                    have HB8 := Lib.hid hb8
                    have HB68 := Lib.hid hB68
                    clear hTlow hST ho8 hb8 hB68 hcT
                    go_wp2_with fail
                    have ho0 := own_empty w8 w8.heap.size 46 (Nat.le_refl _)
                    have hbn : Below w8.heap.size w8 (w8.alloc (.cells #[] 46)) := (Below.refl _ _).alloc (Nat.le_refl _) _
                    go_loopw [20, 100] (fun v i wr => ∃ z : Nat, z ≤ q ∧ i = .int .i64 (z : Int) ∧ Ow wr w8.heap.size 46 v (((List.range z).map (ansW T)).map (Value.float .f32)) ∧ Below w8.heap.size w8 wr) (fun _ i _ => q - (intOf i).toNat)
                    case atStart => exact ⟨0, Nat.zero_le _, rfl, ho0, hbn⟩
                    case round =>
                      clear ho0 hbn
                      obtain ⟨z, hz, rfl, ho9, hb9⟩ := hrel
                      obtain ⟨w9, rfl⟩ : ∃ w9 : World, w9 = wr := ⟨_, rfl⟩
                      have hz9 := hb9.size
                      by_cases hlz : z < q
                      · have hrg : (List.range (z + 1)).map (ansW T) = (List.range z).map (ansW T) ++ [ansW T z] := by simp [List.range_succ]
                        have HAC := Lib.hid (HAN.out w9 hb9 z (by omega))
                        have hlen9 : (((List.range z).map (ansW T)).map (Value.float .f32)).length + 1 ≤ 1099511627776 := by rw [List.length_map, List.length_map, List.length_range]; omega
                        have HRG := Lib.hid hrg
                        clear hrg
                        go_wp2_with (first
                          | (go_at_call 32; refine HAC.out.mono ?_; rintro e w10 ⟨rfl, d10, rfl⟩)
                          | (at_builtin; go_must (refine app1 Try.underlying30 infoFloat32 rfl (by decide) rfl _ _ rfl _ _ _ rfl (own_dalloc' ho9 _) _ _ _ rfl (cell_new1 _ _ _) rfl hlen9 (by simp; omega) ?_); intro v' w11 ho11 hb11))
                        go_roundw
                        case rel =>
                          refine ⟨z + 1, hlz, by go_num, ?_, ((below_drewN hb9 _).alloc hz9 _).trans hb11⟩
                          rw [HRG.out, List.map_append]
                          exact ho11
                        case measure => simp [intOf]; omega
                      · have hzq : z = q := by omega
                        subst hzq
                        obtain ⟨bf, cf, rfl, hinr⟩ := InR.of_own ho9 (by rw [List.length_map, List.length_range]; exact hl1)
                        have hfl : ((List.range z).map (ansW T)).length = z := by rw [List.length_map, List.length_range]
                        rw [hfl]
                        have hb79 : Below w7.heap.size w7 w9 := HB8.out.trans (hb9.mono HB8.out.size)
                        have hm9 := HM3'.out.below hb79
                        have hal := (Below.refl w9.heap.size w9).alloc (Nat.le_refl _) (.cells #[.slice (some ⟨bf, 0, none⟩) z cf] 30)
                        have hm10 := hm9.below hal
                        have hin10 := (hinr.below hal).base HB68.out.size
                        have hml3 : ms3.length = r := by
                          have := congrArg List.length HDM3.out
                          rw [List.length_take] at this
                          simp [datG, nxtM] at this
                          omega
                        have hlen3 : (ms3.map rowGV).length + 1 ≤ 1099511627776 := by rw [List.length_map, hml3]; omega
                        have hB69 : Below w6.heap.size w6 w9 := HB68.out.trans (hb9.mono HB68.out.size)
                        have hdn : datG (ms3 ++ [(some ⟨bf, 0, none⟩, cf, (List.range z).map (ansW T))]) = (nxtM D soft k M).take (r + 1) := by
                          rw [Own2.datG_snoc, HDM3.out, nxtM_take hlr, HNR.out]
                        have HM10 := Lib.hid hm10
                        have HIN10 := Lib.hid hin10
                        have HB69 := Lib.hid hB69
                        have HDN := Lib.hid hdn
                        have hz69 := hB69.size
                        clear hm9 hm10 hin10 hinr hal hb79 hB69 hdn ho9 hb9
                        go_wp2_with (at_builtin; go_must (refine appO Try.underlying58 infoF32S rfl (by decide) rfl _ _ rfl _ _ _ rfl HM10.out.1 _ _ (.slice (some ⟨bf, 0, none⟩) z cf) rfl (cell_new1 _ _ _) rfl hlen3 (by simp; omega) ?_); intro v' w10 ho10 hg10)
                        have hrv : Value.slice (some ⟨bf, 0, none⟩) z cf = rowGV (some ⟨bf, 0, none⟩, cf, (List.range z).map (ansW T)) := by unfold rowGV; rw [hfl]
                        rw [hrv] at ho10
                        have HAP := Lib.hid (HM10.out.app HIN10.out ho10 hg10)
                        have HB610 := Lib.hid ((HB69.out.alloc hz69 (.cells #[.slice (some ⟨bf, 0, none⟩) z cf] 30)).grown hg10 (by simp; omega) (fun j hj => (World.ownsRow.lt HM10.out.1 j hj).1))
                        clear ho10 hg10 hrv
                        go_roundw
                        case rel => exact ⟨r + 1, _, hlr, by go_num, HAP.out, HDN.out, HB610.out⟩
                        case measure => simp [intOf]; omega
              · have hrk2 : r = k := by omega
                subst hrk2
                have hnl : (nxtM D soft r M).length = r := by simp [nxtM]
                rw [List.take_of_length_le (Nat.le_of_eq hnl)] at hdm3
                have hlow1 := HITL.out (t + 1) (by
                  have h1 : (2 * r + 1) * (t + 1) ≤ (2 * r + 1) * K := Nat.mul_le_mul_left _ (show t + 1 ≤ K by omega)
                  have h2 := HBD.out
                  omega)
                have ha1 : 10 ≤ 10 + (2 * r + 1) * (t + 1) := by omega
                have ha2 : 10 + (2 * r + 1) * (t + 1) + 2 * r ≤ 118 := by
                  have h1 : (2 * r + 1) * (t + 1) ≤ (2 * r + 1) * K := Nat.mul_le_mul_left _ (show t + 1 ≤ K by omega)
                  have h2 := HBD.out
                  omega
                obtain ⟨a1, hae⟩ : ∃ a1, 10 + (2 * r + 1) * (t + 1) = a1 := ⟨_, rfl⟩
                rw [hae] at hlow1 ha1 ha2
                rw [HNX.out] at hlow1
                obtain ⟨M1, hM1⟩ : ∃ M1, nxtM D soft r M = M1 := ⟨_, rfl⟩
                rw [hM1] at hlow1 hdm3
                have hbk1 : bitsK D soft r (t + 1) = bitsM D soft r M1 := by rw [← hM1, ← HNX.out]; rfl
                have hit1 : iterM D soft r (t + 1) = M1 := by rw [HNX.out, hM1]
                have hml3 : ms3.length = r := by
                  have := congrArg List.length hdm3
                  rw [hlow1.1] at this
                  simpa [datG] using this
                have hsh1 : ∀ q (h1 : q < ms3.length) (h2 : q < ys.length), ms3[q].2.2.length = ys[q].2.2.length := by
                  intro q h1 h2
                  have h3 := (hlow1.2 q (by omega)).1
                  rw [← hdm3, ← hd] at h3
                  simpa [datG, dat, List.getD_eq_getElem?_getD, h1, h2] using h3
                obtain ⟨A9, cap9, hv9, _⟩ := hms3.sl
                subst hv9
                rw [hml3] at hms3 ⊢
                have hb37 : Below w2.heap.size w3 w7 := HB5.out.trans ((HB6.out.trans (hb7.mono hz6)).mono hz5')
                have hz37 := hb37.size
                have hp7 := own_below HP6.out hb7 (Nat.le_refl _)
                have HS1 := Lib.hid hsh1
                have HL1 := Lib.hid hlow1
                have HBK1 := Lib.hid hbk1
                have HIT1 := Lib.hid hit1
                have HDM3 := Lib.hid hdm3
                have HMS3 := Lib.hid (hms3.base (show w3.heap.size ≤ w6.heap.size by have := HB5.out.size; omega))
                clear hms3 hdm3 hlow1 hbk1 hit1 hsh1 hb7 hM1 hae hnl
                go_wp2_with fail
                go_loopw [118] (fun i wr => ∃ (z : Nat) (C : List Bool), z ≤ ns ∧ i = .int .i64 (z : Int) ∧ C.length = ns ∧ (∀ b : Nat, b < z → C.getD b false = gtB (toldW D M1 (soft.getD b 0) b (-1) r)) ∧ wr.ownsRow w2.heap.size 4 1 (.slice (some ⟨g, 0, none⟩) ns k3) ns (C.map Value.bool) ∧ Own2 wr w3.heap.size (.slice A9 r cap9) ms3 ∧ Below w2.heap.size w3 wr) (fun i _ => ns - (intOf i).toNat)
                case atStart => exact ⟨0, _, Nat.zero_le _, rfl, HBK.out t, fun b hb => by omega, hp7, HMS3.out, hb37⟩
                case round =>
                  clear hp7 hb37 k0 k1 g0 g1
                  obtain ⟨z, C, hz, rfl, hCl, hC, hp8, hm8, hb8⟩ := hrel
                  obtain ⟨w8, rfl⟩ : ∃ w8 : World, w8 = wr := ⟨_, rfl⟩
                  by_cases hlz : z < ns
                  · have hz8 := hb8.size
                    have m0 := (hb8.cell (p := ⟨w.heap.size, 0, none⟩) hw2).trans HE0.out
                    have m1 := (hb8.cell (p := ⟨w.heap.size, 1, none⟩) hw2).trans HE1.out
                    obtain ⟨A', cap', hv', hsg⟩ := hm8.sl
                    rw [hml3] at hv'
                    injection hv' with hv1 hv2 hv3
                    subst hv1
                    have hz28 : w2.heap.size ≤ w8.heap.size := Nat.le_trans hz23 hz8
                    have hTC := impl_told_c w8 (ns : Int) A As A9 r cap ns caps r cap9 a1 z ys ms3 soft (-1) hl (by omega) HR.out ((HX2'.out.below hb8).more hz28) hls ((HS2'.out.below hb8).more hz28) hml3 rfl hsg HS1.out hlz (by decide) (by decide) (by omega) ((HSS.out z).mono ha1) (by
                      rw [hd, HDM3.out]
                      exact fun q hq => (HL1.out.2 q hq).2) (by rw [hd]; exact HO.out)
                    rw [hd, HDM3.out] at hTC
                    obtain ⟨x, hx⟩ : ∃ x, toldW D M1 (soft.getD z 0) z (-1) r = x := ⟨_, rfl⟩
                    rw [hx] at hTC
                    have hup := set_upto (N := fun b : Nat => gtB (toldW D M1 (soft.getD b 0) b (-1) r)) hCl hlz hC
                    rw [hx] at hup
                    have HTC := Lib.hid hTC
                    have HUP := Lib.hid hup
                    have HP8 := Lib.hid hp8
                    have HM8 := Lib.hid hm8
                    have HB8 := Lib.hid hb8
                    have hzC : z < (C.map Value.bool).length := by rw [List.length_map, hCl]; exact hlz
                    clear hTC hup hp8 hm8 hb8 hC hsg hx
                    have HH2 := Lib.hid hbg
                    clear hv2 hv3 hgs ha1 ha2 ha10 ha118
                    go_wp2_with fail
                    refine HTC.out.mono ?_
                    rintro e w9 ⟨rfl, hb9⟩
                    have hz9 := hb9.size
                    have hp9 := own_below HP8.out hb9 (Nat.le_refl _)
                    have hc9 := World.ownsRow.cellAt hp9 z (by omega)
                    rw [List.getElem?_eq_getElem hzC] at hc9
                    have hf9 := World.ownsRow.frozenAt hp9 z
                    have HP9 := Lib.hid hp9
                    clear hp9
                    go_wp2_with fail
                    have hp9 := HP9.out
                    have hst := (World.ownsRow.stored hp9 z (.bool (gtB x))).1
                    rw [show (C.map Value.bool).set z (.bool (gtB x)) = (C.set z (gtB x)).map Value.bool by rw [List.map_set]] at hst
                    have hms9 := (HM8.out.below hb9).set hp9 z (.bool (gtB x))
                    have hb10 := below_put (HB8.out.trans (hb9.mono hz28)) (show w2.heap.size ≤ g from hbg) z (.bool (gtB x))
                    go_roundw
                    case rel => exact ⟨z + 1, C.set z (gtB x), hlz, by go_num, HUP.out.1, HUP.out.2, hst, hms9, hb10⟩
                    case measure => simp [intOf]; omega
                  · have hzn : z = ns := by omega
                    subst hzn
                    have hCe : C = bitsM D soft r M1 := by
                      apply List.ext_getElem (by rw [hCl]; simp [bitsM, hls])
                      intro b h1 h2
                      have h3 := hC b (by omega)
                      rw [List.getD_eq_getElem?_getD, List.getElem?_eq_getElem h1] at h3
                      have h4 : C[b] = gtB (toldW D M1 (soft.getD b 0) b (-1) r) := h3
                      rw [h4]
                      simp [bitsM]
                    have HP8 := Lib.hid hp8
                    have HM8 := Lib.hid hm8
                    have HB8 := Lib.hid hb8
                    clear hp8 hm8 hb8 hC
                    go_wp2_with fail
                    go_roundw
                    case rel =>
                      refine ⟨t + 1, ms3, by omega, by go_num, HM8.out, by rw [HDM3.out, HIT1.out], ?_, ?_, HB8.out⟩
                      · rw [HBK1.out, ← hCe]; exact HP8.out
                      · intro j hj
                        by_cases e : j = t
                        · rw [e]; exact HME.out
                        · exact HNM.out j (by omega)
                    case measure => simp [intOf]; omega
          · have htK : t = K := by omega
            subst htK
            have hla := leastAt_none (D := D) (soft := soft) (n := k) (most := t) (fun j hj => by
              by_cases e : j = t
              · rw [e]; exact hmem
              · exact hnm j (by omega))
            have HLA := Lib.hid hla
            have HME := Lib.hid hmem
            have d1 : decide ((t : Int) < (t : Int)) = false := decide_eq_false (by omega)
            clear hla hmem hnm hp hb hB5 hfin hIM hms hdm
            go_wp2_with (go_at_call 22; refine (HIM.out w5 (Below.refl _ _)).mono ?_; rintro e w6 ⟨rfl, hb6⟩; rw [HME.out])
            go_ret3
            refine ⟨HBW.out.trans (hb6.mono HBW.out.size), ?_⟩
            rw [HLA.out]
            rfl
        · have hla := leastAt_some (D := D) (soft := soft) (n := k) (most := K) ht hmem hnm
          have HLA := Lib.hid hla
          have HME := Lib.hid hmem
          clear hla hmem hnm hp hb hB5 hfin hIM hms hdm
          by_cases hlt : t < K
          · go_wp2_with (first
              | (go_at_call 22; refine (HIM.out w5 (Below.refl _ _)).mono ?_; rintro e w6 ⟨rfl, hb6⟩; rw [HME.out]; have g0 := (hb6.cell (p := ⟨w.heap.size, 0, none⟩) (by simp only []; omega)).trans f0; have g1 := (hb6.cell (p := ⟨w.heap.size, 1, none⟩) (by simp only []; omega)).trans f1)
              | (go_at_call 22; refine (HIM.out w6 hb6).mono ?_; rintro e w7 ⟨rfl, hb7⟩; rw [HME.out]))
            go_ret3
            have hb67 := hb6.trans (hb7.mono hb6.size)
            refine ⟨HBW.out.trans (hb67.mono HBW.out.size), ?_⟩
            rw [HLA.out]
            exact ⟨_, rfl, HFIN.out w7 hb67⟩
          · have htK : t = K := by omega
            subst htK
            have d1 : decide ((t : Int) < (t : Int)) = false := decide_eq_false (by omega)
            go_wp2_with (go_at_call 22; refine (HIM.out w5 (Below.refl _ _)).mono ?_; rintro e w6 ⟨rfl, hb6⟩; rw [HME.out])
            go_ret3
            refine ⟨HBW.out.trans (hb6.mono HBW.out.size), ?_⟩
            rw [HLA.out]
            exact ⟨_, rfl, HFIN.out w6 hb6⟩

end Go.Proofs.Ytepdjehbgkfjhaa
