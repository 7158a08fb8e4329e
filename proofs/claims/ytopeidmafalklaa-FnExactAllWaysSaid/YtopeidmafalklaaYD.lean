/-
  Contract: the moves of a place, of the program.
  Conditions: a coder of one to four bits of memory and one to four masks; a part as long as the masks are many.
-/
import Derived.Test.YtopeidmafalklaaYC
namespace Go.Proofs.Ytopeidmafalklaa
open Go.RowKit Go.Shelf

/-- laid are the states before s, and of s so many bits -/
def dn (s j : Nat) (s' : Nat) (c : Bool) : Bool := decide (s' < s) || (decide (s' = s) && decide (bN c < j))
theorem dn_next (s : Nat) (s' : Nat) (c : Bool) : dn s 2 s' c = dn (s + 1) 0 s' c := by
  have hb : bN c ≤ 1 := by cases c <;> decide
  unfold dn
  by_cases h : s' < s
  · rw [decide_eq_true h, decide_eq_true (show s' < s + 1 by omega)]; rfl
  · by_cases h2 : s' = s
    · rw [decide_eq_false h, decide_eq_true h2, decide_eq_true (show bN c < 2 by omega), decide_eq_true (show s' < s + 1 by omega)]; rfl
    · rw [decide_eq_false h, decide_eq_false h2, decide_eq_false (show ¬ s' < s + 1 by omega)]; simp
theorem dn_zero (s' : Nat) (c : Bool) : dn 0 0 s' c = false := by unfold dn; simp
theorem dn_at (s : Nat) (c : Bool) : dn s (bN c) s c = false := by unfold dn; simp
theorem dn_put (s : Nat) (c : Bool) : dn s (bN c + 1) s c = true := by unfold dn; simp
theorem dn_else (s : Nat) (c : Bool) (s' : Nat) (c' : Bool) (h : s' ≠ s ∨ c' ≠ c) : dn s (bN c + 1) s' c' = dn s (bN c) s' c' := by
  unfold dn
  rcases h with h | h
  · rw [decide_eq_false h]; simp
  · have hb : bN c' ≠ bN c := by cases c <;> cases c' <;> first | exact absurd rfl h | decide
    have : decide (bN c' < bN c + 1) = decide (bN c' < bN c) := decide_eq_decide.2 (by omega)
    rw [this]
theorem dn_all {S s' : Nat} (h : s' < S) (c : Bool) : dn S 0 s' c = true := by unfold dn; rw [decide_eq_true h]; rfl
theorem MRow.congr {M : Nat} {ms : List Int} {part : List Nat} {last : Bool} {done done' : Nat → Bool → Bool} {W : World} {b S : Nat} (h : MRow M ms part last done W b S) (hd : ∀ s c, s < S → done' s c = done s c) : MRow M ms part last done' W b S := by
  obtain ⟨cs, hO, h2, h3⟩ := h
  exact ⟨cs, hO, h2, fun s hs c => by rw [hd s c hs]; exact h3 s hs c⟩
/-- where the bit's move is not to be laid -/
theorem MRow.skip {M : Nat} {ms : List Int} {part : List Nat} {done done' : Nat → Bool → Bool} {W : World} {b S : Nat} (h : MRow M ms part true done W b S) (hd : ∀ s c, s < S → c = false → done' s c = done s c) : MRow M ms part true done' W b S := by
  obtain ⟨cs, hO, h2, h3⟩ := h
  refine ⟨cs, hO, h2, fun s hs c => ?_⟩
  have h4 := h3 s hs c
  cases c
  · rw [hd s false hs rfl]; exact h4
  · unfold MvC at h4 ⊢
    simpa using h4


set_option maxRecDepth 100000 in
set_option maxHeartbeats 4000000 in
theorem impl_moves_c (w : World) (M : Nat) (hM1 : 1 ≤ M) (hM4 : M ≤ 4) (A : Option Addr) (k cap : Nat) (ms : List Int) (hl : ms.length = k) (hk1 : 1 ≤ k) (hk4 : k ≤ 4) (hr : ∀ x ∈ ms, 0 ≤ x ∧ x ≤ 31) (hx : Sl w w.heap.size A (ms.map (Value.int .i64)))
    (A2 : Option Addr) (cap2 : Nat) (pt : List Nat) (hp : pt.length = k) (hy : Sl w w.heap.size A2 (pt.map (Value.float .f32))) (last : Bool) :
    Calls Try.prog 44 #[.agg #[.int .i64 (M : Int), .slice A k cap], .slice A2 k cap2, .bool last] w fun e w' => ∃ b, e = .returned (.slice (some ⟨b, 0, none⟩) (2 ^ M) (2 ^ M)) ∧ w.heap.size ≤ b ∧ MRow M ms pt last (fun _ _ => true) w' b (2 ^ M) ∧ Below w.heap.size w w' := by
  obtain ⟨S, hS⟩ : ∃ S : Nat, 2 ^ M = S := ⟨_, rfl⟩
  have hSI : (2 : Int) ^ M = (S : Int) := by rw [← hS]; push_cast; rfl
  have hS16 : S ≤ 16 := by rw [← hS]; exact Nat.pow_le_pow_right (n := 2) (by decide) hM4
  have hS1 : 1 ≤ S := by rw [← hS]; exact Nat.pow_pos (by decide)
  have hst := fun W : World => impl_states_c W M hM1 hM4 A k cap
  rw [hSI] at hst
  have hmk := fun W : World => run_mkMove S (by omega) .i64 .i64 W
  obtain ⟨w1, e1⟩ : ∃ q : World, q = w.alloc (.cells #[.int .i64 (M : Int), .slice A k cap] 29) := ⟨_, rfl⟩
  have b1 : Below w.heap.size w w1 := by rw [e1]; exact (Below.refl _ _).alloc (Nat.le_refl _) _
  have z1 : w1.heap.size = w.heap.size + 1 := by rw [e1]; simp
  have hO : Obj w1 w.heap.size 29 #[.int .i64 (M : Int), .slice A k cap] := by rw [e1]; exact Obj.new _ _ _
  have hsz := hO.lt
  obtain ⟨⟨C0, C1⟩, -⟩ := hO.two
  rw [hS]
  have HS := Lib.hid hS
  have HSI := Lib.hid hSI
  have HST := Lib.hid hst
  have HO := Lib.hid hO
  have HX := Lib.hid hx
  have HY := Lib.hid hy
  have HSW : Hid (∀ (W : World) (s b : Int), Below w.heap.size w W → 0 ≤ s → s ≤ 15 → 0 ≤ b → b ≤ 1 → Calls Try.prog 58 #[.agg #[.int .i64 (M : Int), .slice A k cap], .int .i64 s, .int .i64 b] W fun e w' => ∃ v, e = .returned (.tuple #[v, .int .i64 ((2 * s + b) % 2 ^ M)]) ∧ Ow w' W.heap.size 4 v ((sentL ms (2 * s + b)).map Value.bool) ∧ Below W.heap.size W w') :=
    Lib.hid fun W s b hb h0 h1 h2 h3 => impl_send_c W M hM1 hM4 A k cap ms hl hk4 hr ((hx.below hb).more hb.size) s b h0 h1 h2 h3
  clear hx hy hO hS hSI hst
  go_enter Try.func44, Try.ntmps44
  go_wp2_with (first
    | (rw [← e1]; clear e1))
  refine (HST.out w1).mono ?_
  rintro e w2 ⟨rfl, hb2⟩
  have B2 : Below w.heap.size w w2 := b1.trans (hb2.mono b1.size)
  have z2 := hb2.size
  have O2 := HO.out.below hb2 hsz
  obtain ⟨⟨D0, D1⟩, -⟩ := O2.two
  obtain ⟨w3, e3⟩ : ∃ q : World, q = w2.alloc (.cells (madeCells #[Value.bool false, .int .i64 0, .float .f32 0, .bool false, .int .i64 0, .float .f32 0] (S * 6)) 94) := ⟨_, rfl⟩
  have R3 : MRow M ms pt last (fun _ _ => false) w3 w2.heap.size S := by rw [e3]; exact MRow.new M ms pt last w2 S
  have B3 : Below w.heap.size w w3 := by rw [e3]; exact B2.alloc B2.size _
  have O3 : Obj w3 w.heap.size 29 #[.int .i64 (M : Int), .slice A k cap] := by rw [e3]; exact O2.alloc _
  obtain ⟨⟨E0, E1⟩, -⟩ := O3.two
  have z3 : w2.heap.size + 1 ≤ w3.heap.size := by rw [e3]; simp
  have b23 : Below w2.heap.size w2 w3 := by rw [e3]; exact (Below.refl _ _).alloc (Nat.le_refl _) _
  have HO2 := Lib.hid O2
  have HR3 := Lib.hid R3
  have HO3 := Lib.hid O3
  clear O2 O3 R3 C0 C1
  go_wp2_with (rw [← e3]; clear e3)
  refine (HST.out w3).mono ?_
  rintro e w4 ⟨rfl, hb4⟩
  have B4 : Below w.heap.size w w4 := B3.trans (hb4.mono B3.size)
  have z4 := hb4.size
  have R4 := HR3.out.below hb4 z3
  have O4 := HO3.out.below hb4 (by omega)
  have HR4 := Lib.hid R4
  have HO4 := Lib.hid O4
  have hbw2 := B2.size
  have HB4 := Lib.hid (show Below w2.heap.size w2 w4 from b23.trans (hb4.mono (by omega)))
  clear E0 E1 D0 D1 R4 O4
  clear hmk
  go_wp2
  go_loopw [17] (fun i wr => ∃ s : Nat, s ≤ S ∧ i = .int .i64 s ∧ MRow M ms pt last (dn s 0) wr w2.heap.size S ∧ Below w2.heap.size w2 wr) (fun i _ => S - (intOf i).toNat)
  case atStart => exact ⟨0, Nat.zero_le _, rfl, HR4.out.congr (fun s c _ => by rw [dn_zero]), (show Below w2.heap.size w2 w4 from HB4.out)⟩
  case round =>
    clear b1 z1 z2 z4 hsz
    obtain ⟨s, hs, rfl, hmr, hbr⟩ := hrel
    obtain ⟨wA, rfl⟩ : ∃ q : World, q = wr := ⟨_, rfl⟩
    by_cases hlt : s < S
    · have HMR := Lib.hid hmr
      clear hmr
      go_wp2
      go_loopw [20] (fun i wr => ∃ j : Nat, j ≤ 2 ∧ i = .int .i64 j ∧ MRow M ms pt last (dn s j) wr w2.heap.size S ∧ Below w2.heap.size w2 wr) (fun i _ => 2 - (intOf i).toNat)
      case atStart => exact ⟨0, by omega, rfl, HMR.out, hbr⟩
      case round =>
        clear HMR hbr
        obtain ⟨j, hj, rfl, hmr, hbr⟩ := hrel
        obtain ⟨wF, rfl⟩ : ∃ q : World, q = wr := ⟨_, rfl⟩
        by_cases hj2 : j < 2
        · obtain ⟨c, rfl⟩ : ∃ c : Bool, j = bN c := by
            rcases (show j = 0 ∨ j = 1 by omega) with rfl | rfl
            · exact ⟨false, rfl⟩
            · exact ⟨true, rfl⟩
          obtain ⟨jj, hjj⟩ : ∃ jj, bN c = jj := ⟨_, rfl⟩
          have hcb : ((jj : Nat) : Int) = bitI c := by rw [← hjj]; exact bN_bit c
          have hje : ((jj : Int) == 1) = c := by rw [hcb]; cases c <;> rfl
          have hj1 : jj ≤ 1 := by omega
          have HMR := Lib.hid hmr
          have HCB := Lib.hid hcb
          rw [hjj] at HMR ⊢
          clear hmr hcb hj hj2
          by_cases hskip : (c && last) = true
          · obtain ⟨rfl, rfl⟩ : c = true ∧ last = true := by simpa using hskip
            have HJJ := Lib.hid hjj
            clear hskip hjj
            go_wp2
            go_roundw
            case rel =>
              refine ⟨jj + 1, by omega, by go_num, HMR.out.skip fun s' c' _ hc' => ?_, hbr⟩
              subst hc'
              have h1 := HJJ.out
              rw [← h1]
              exact dn_else s true s' false (.inr (by decide))
            case measure => simp [intOf]; omega
          · have hcl : (c && last) = false := by simpa using hskip
            have OF := HO2.out.below hbr HO2.out.lt
            obtain ⟨⟨D0, D1⟩, -⟩ := OF.two
            have hbwF : Below w.heap.size w wF := B2.trans (hbr.mono hbw2)
            obtain ⟨to, eto⟩ : ∃ to, toS M s c = to := ⟨_, rfl⟩
            have hto : to < S := by rw [← eto, ← HS.out]; exact toS_lt c
            have htv : (2 * (s : Int) + (jj : Int)) % 2 ^ M = (to : Int) := by rw [HCB.out, ← eto]; exact toS_eq M s c
            have hsx : sentL ms (2 * (s : Int) + (jj : Int)) = sentL ms (2 * (s : Int) + bitI c) := by rw [HCB.out]
            have HTV := Lib.hid htv
            have HSX := Lib.hid hsx
            have HTO := Lib.hid eto
            have HCL := Lib.hid hcl
            have hOF := Lib.hid OF
            have hs15 : s ≤ 15 := by omega
            have HJJ := Lib.hid hjj
            have hcl2 : c = true → last = false := by rintro rfl; simpa using hcl
            clear htv hsx eto hcl hskip OF hjj
            have hlast : c = false ∨ (c = true ∧ last = false) := by
              cases c
              · exact .inl rfl
              · exact .inr ⟨rfl, hcl2 rfl⟩
            clear hcl2
            have hcall := HSW.out wF (s : Int) (jj : Int) hbwF (by omega) (by omega) (by omega) (by omega)
            have HCALL := Lib.hid hcall
            clear hcall
            rcases hlast with rfl | ⟨rfl, rfl⟩
            all_goals go_wp2_with fail
            all_goals refine HCALL.out.mono ?_
            all_goals rintro e wG ⟨v, rfl, hoG, hbG⟩
            all_goals rw [HTV.out]
            all_goals rw [HSX.out] at hoG
            all_goals obtain ⟨S3, q3, rfl, hp3⟩ := hoG.opn
            all_goals go_wp2_with fail
            · refine wp_region_rel_lit_tail (fun _ _ v => ∃ x, v = .float .f32 x ∧ fl .f32 x = gainO (some 0) (sentL ms (2 * (s : Int) + bitI false)) pt ms.length) 11 (by kernel_rfl) (by kernel_rfl) ?_
              simp only [List.take_succ_cons, List.take_zero, List.drop_succ_cons, List.drop_zero]
              iterate 6 (refine wpRel_step (fun K hK => ?_); go_simp; (try intro n1); refine hK _ ?_; clear hK K)
              refine wpRel_step (fun K hK => ?_)
              go_simp
              intro n2
              refine ⟨calls_rel0 ((impl_gain_c (wG.drewN n2) 0 wG.heap.size w.heap.size S3 _ q3 (sentL ms (2 * (s : Int) + bitI false)) rfl (by rw [sentL_len]; omega) (sl_of_own hp3) A2 k cap2 pt hp (by rw [sentL_len]; omega) (by omega) (((HY.out.below hbwF).below (hbG.mono hbwF.size)).drewN _)).mono fun e w' ⟨x, h1, h2, h3⟩ => ⟨⟨_, h1, x, rfl, by rw [h2, sentL_len, fl0, hl]⟩, h3⟩), fun v x hv hx => ?_⟩
              subst hv
              refine hK _ ?_
              clear hK K
              have HXX := Lib.hid hx
              clear hx
              iterate 4 (refine wpRel_step (fun K hK => ?_); go_simp; (try intro n1); refine hK _ ?_; clear hK K)
              refine wpRel_nil ?_
              intro nq
              have HMG := HMR.out.below hbG HMR.out.lt
              have hJ := HJJ.out
              have hdn : dn s jj s false = false := by rw [← hJ]; exact dn_at s false
              obtain ⟨k1, k2, k3⟩ := HMG.old hlt (c := false) (by rw [hdn]; rfl)
              have z1 := HMG.frz (s * 6 + bN false * 3)
              have z2 := HMG.frz (s * 6 + bN false * 3 + 1)
              have z3 := HMG.frz (s * 6 + bN false * 3 + 1 + 1)
              rw [hJ] at k1 k2 k3 z1 z2 z3
              have HMG := Lib.hid HMG
              go_wp2
              go_roundw
              case rel =>
                have hput := MRow.put (W := wG.drewN nq) (done' := dn s (jj + 1)) (show MRow M ms pt _ (dn s jj) (wG.drewN nq) w2.heap.size S from HMG.out) hlt (c := false) (by rfl) (x := fres .quo .f32 x 1073741824 wG.tape (wG.drewN n1).drawn) (by rw [fl_fres, HXX.out, show fl .f32 1073741824 = some 1073741824 by decide, half_eqO, ← hl]; rfl) (by rw [← hJ]; exact dn_put s false) (fun s' c' _ h => by rw [← hJ]; exact dn_else s false s' c' h)
                rw [hJ, HTO.out] at hput
                refine ⟨jj + 1, by omega, by go_num, hput, ?_⟩
                exact Below.setCell (p := ⟨w2.heap.size, s * 6 + jj * 3 + 2, none⟩) (Below.setCell (p := ⟨w2.heap.size, s * 6 + jj * 3 + 1, none⟩) (Below.setCell (p := ⟨w2.heap.size, s * 6 + jj * 3, none⟩) (below_drewN (hbr.trans (hbG.mono hbr.size)) _) (Nat.le_refl _) _) (Nat.le_refl _) _) (Nat.le_refl _) _
              case measure => simp [intOf]; omega
            · refine wp_region_rel_lit_tail (fun _ _ v => ∃ x, v = .float .f32 x ∧ fl .f32 x = gainO (some 0) (sentL ms (2 * (s : Int) + bitI true)) pt ms.length) 11 (by kernel_rfl) (by kernel_rfl) ?_
              simp only [List.take_succ_cons, List.take_zero, List.drop_succ_cons, List.drop_zero]
              iterate 6 (refine wpRel_step (fun K hK => ?_); go_simp; (try intro n1); refine hK _ ?_; clear hK K)
              refine wpRel_step (fun K hK => ?_)
              go_simp
              intro n2
              refine ⟨calls_rel0 ((impl_gain_c (wG.drewN n2) 0 wG.heap.size w.heap.size S3 _ q3 (sentL ms (2 * (s : Int) + bitI true)) rfl (by rw [sentL_len]; omega) (sl_of_own hp3) A2 k cap2 pt hp (by rw [sentL_len]; omega) (by omega) (((HY.out.below hbwF).below (hbG.mono hbwF.size)).drewN _)).mono fun e w' ⟨x, h1, h2, h3⟩ => ⟨⟨_, h1, x, rfl, by rw [h2, sentL_len, fl0, hl]⟩, h3⟩), fun v x hv hx => ?_⟩
              subst hv
              refine hK _ ?_
              clear hK K
              have HXX := Lib.hid hx
              clear hx
              iterate 4 (refine wpRel_step (fun K hK => ?_); go_simp; (try intro n1); refine hK _ ?_; clear hK K)
              refine wpRel_nil ?_
              intro nq
              have HMG := HMR.out.below hbG HMR.out.lt
              have hJ := HJJ.out
              have hdn : dn s jj s true = false := by rw [← hJ]; exact dn_at s true
              obtain ⟨k1, k2, k3⟩ := HMG.old hlt (c := true) (by rw [hdn]; rfl)
              have z1 := HMG.frz (s * 6 + bN true * 3)
              have z2 := HMG.frz (s * 6 + bN true * 3 + 1)
              have z3 := HMG.frz (s * 6 + bN true * 3 + 1 + 1)
              rw [hJ] at k1 k2 k3 z1 z2 z3
              have HMG := Lib.hid HMG
              go_wp2
              go_roundw
              case rel =>
                have hput := MRow.put (W := wG.drewN nq) (done' := dn s (jj + 1)) (show MRow M ms pt _ (dn s jj) (wG.drewN nq) w2.heap.size S from HMG.out) hlt (c := true) (by rfl) (x := fres .quo .f32 x 1073741824 wG.tape (wG.drewN n1).drawn) (by rw [fl_fres, HXX.out, show fl .f32 1073741824 = some 1073741824 by decide, half_eqO, ← hl]; rfl) (by rw [← hJ]; exact dn_put s true) (fun s' c' _ h => by rw [← hJ]; exact dn_else s true s' c' h)
                rw [hJ, HTO.out] at hput
                refine ⟨jj + 1, by omega, by go_num, hput, ?_⟩
                exact Below.setCell (p := ⟨w2.heap.size, s * 6 + jj * 3 + 2, none⟩) (Below.setCell (p := ⟨w2.heap.size, s * 6 + jj * 3 + 1, none⟩) (Below.setCell (p := ⟨w2.heap.size, s * 6 + jj * 3, none⟩) (below_drewN (hbr.trans (hbG.mono hbr.size)) _) (Nat.le_refl _) _) (Nat.le_refl _) _) (Nat.le_refl _) _
              case measure => simp [intOf]; omega
        · obtain rfl : j = 2 := by omega
          have HMR := Lib.hid hmr
          clear hmr
          go_wp2
          go_roundw
          case rel => exact ⟨s + 1, by omega, by go_num, HMR.out.congr (fun s' c' _ => (dn_next s s' c').symm), hbr⟩
          case measure => simp [intOf]; omega
    · obtain rfl : s = S := by omega
      have HMR := Lib.hid hmr
      clear hmr
      go_wp2
      go_ret
      exact ⟨_, rfl, hbw2, HMR.out.congr (fun s' c' h => (dn_all h c').symm), B2.trans (hbr.mono hbw2)⟩

end Go.Proofs.Ytopeidmafalklaa
