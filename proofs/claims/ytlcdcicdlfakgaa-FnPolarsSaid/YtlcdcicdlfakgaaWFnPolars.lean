/-
  FnPolars returns true for every input, and leaves its arguments as they were.
  Conditions: none beyond the given statement's own.
-/
import Derived.Test.YtlcdcicdlfakgaaDB
import Derived.Test.YtlcdcicdlfakgaaKM
import Derived.Test.YtlcdcicdlfakgaaKN
import Derived.Test.YtlcdcicdlfakgaaXB
namespace Go.Proofs.Ytlcdcicdlfakgaa
open Go.RowKit

theorem isTwo_all : ∀ P : Nat, P ≤ 5 → isTwo (2 ^ P) = true := by
  intro P hP
  have h6 : P = 0 ∨ P = 1 ∨ P = 2 ∨ P = 3 ∨ P = 4 ∨ P = 5 := by omega
  rcases h6 with rfl | rfl | rfl | rfl | rfl | rfl <;> decide

theorem fres_one {op : BinOp} {k : FloatKind} {x y r : Nat} (h : floatBits op k x y = some r) (t : Tape) (d : Nat) : fres op k x y t d = r := by simp [fres, h]
theorem fcv_one {s k : FloatKind} {b r : Nat} (h : floatToFloatBits s b k = some r) (t : Tape) (d : Nat) : fcv s b k t d = r := by simp [fcv, h]
theorem fcvd_one {s k : FloatKind} {b r : Nat} (h : floatToFloatBits s b k = some r) : fcvd s b k = 0 := by simp [fcvd, h]
theorem wid_some {z : Nat} (h : (floatToFloatBits .f32 z .f64).isSome = true) : floatToFloatBits .f32 z .f64 = some (widW z) := by
  unfold widW
  cases e : floatToFloatBits .f32 z .f64 with
  | none => rw [e] at h; cases h
  | some r => rfl
/-- the greatest of two -/
def maxW (x y : Nat) : Nat := match FloatKind.f32.format.order x y with
  | some .lt => y
  | some .gt => x
  | _ => if (FloatKind.f32.decode x).neg then y else x
theorem maxW_or (x y : Nat) : maxW x y = x ∨ maxW x y = y := by
  unfold maxW
  split
  · exact .inr rfl
  · exact .inl rfl
  · split
    · exact .inr rfl
    · exact .inl rfl
theorem run_max32 {P : Program} {x y : Nat} (w : World) (t : Array TypeId) (ty : TypeId) (hx : x % 2147483648 < 2139095040) (hy : y % 2147483648 < 2139095040) : (Builtin.max_ t ty #[.float .f32 x, .float .f32 y]).run P w = .ok (.float .f32 (maxW x y)) w := by
  have ho := order_key hx hy
  unfold maxW
  rw [ho]
  cases hc : compare (keyW x) (keyW y) <;> simp [Builtin.max_, Builtin.max2, ho, hc]
/-- a bound of all that are not taken -/
def Wst (L S : List Nat) (N : Nat) (v : Value) : Prop := ∃ x, v = .float .f32 x ∧ x % 2147483648 < 2139095040 ∧ ∀ i, i < N → i ∉ S → keyW x ≤ keyL L i
/-- the first k places are marked -/
def Tkn (S : List Nat) (N k : Nat) (T : List Bool) : Prop := T.length = N ∧ ∀ i, i < N → (T.getD i false = true ↔ i ∈ S.take k)
theorem Tkn.step {S : List Nat} {N k : Nat} {T : List Bool} (h : Tkn S N k T) (hk : k < S.length) (hl : S[k] < N) : Tkn S N (k + 1) (T.set S[k] true) := by
  refine ⟨by rw [List.length_set]; exact h.1, fun i hi => ?_⟩
  rw [List.take_succ_eq_append_getElem hk, List.mem_append, List.mem_singleton, ← h.2 i hi, List.getD_eq_getElem?_getD, List.getElem?_set]
  by_cases e : S[k] = i
  · rw [if_pos e, if_pos (by rw [h.1]; exact hl)]
    simp [e]
  · rw [if_neg e, List.getD_eq_getElem?_getD]
    constructor
    · intro h; exact .inl h
    · rintro (h | h)
      · exact h
      · exact absurd h.symm e

set_option maxRecDepth 100000 in
theorem b10Gap_c (w : World) (a b g : Nat) (h : gapO a b = some g) : Calls Try.prog 14 #[.float .f64 a, .float .f64 b] w fun e w' => e = .returned (.float .f64 g) ∧ ∃ k, w' = w.drewN k := by
  unfold gapO at h
  by_cases ho : FloatKind.f64.format.order a b = some .lt
  · rw [ho] at h
    have h1 : floatBits .sub .f64 b a = some g := h
    have f1 := fun t d => fres_one h1 t d
    have f2 := fdr_is0 h1
    clear h h1
    go_enter Try.func14, Try.ntmps14
    go_wp2
    go_ret
    exact ⟨rfl, _, rfl⟩
  · have hb : (FloatKind.f64.format.order a b == some Ordering.lt) = false := by simpa using ho
    rw [hb] at h
    have h1 : floatBits .sub .f64 a b = some g := h
    have f1 := fun t d => fres_one h1 t d
    have f2 := fdr_is0 h1
    clear h h1 ho
    go_enter Try.func14, Try.ntmps14
    go_wp2
    go_ret
    exact ⟨rfl, _, rfl⟩
theorem gapB_ex {b n s : Nat} (h : gapB b n s = true) : ∃ m q g, floatBits .mul .f64 (widW (lostW b)) (floatOfInt .f64 (n : Int)) = some m ∧ floatBits .mul .f64 4562254508917369340 (floatOfInt .f64 (n : Int)) = some q ∧ gapO s m = some g ∧ (FloatKind.f64.format.order g q == some .gt) = false := by
  unfold gapB at h
  split at h
  · rename_i m q hm hq
    split at h
    · rename_i g hg
      exact ⟨m, q, g, hm, hq, hg, by simpa using h⟩
    · exact absurd h (by decide)
  · exact absurd h (by decide)
/-- the soft numbers made of the bits sent -/
def softW (c : List Int) (sent : List Bool) (k : Nat) : List Nat := (List.range k).map fun i : Nat => if sent.getD i false then hvW ((atB c i 8).toNat + 1) else Op.negFloat .f32 (hvW ((atB c i 8).toNat + 1))
theorem softW_len (c : List Int) (sent : List Bool) (k : Nat) : (softW c sent k).length = k := by simp [softW]
theorem softW_succ (c : List Int) (sent : List Bool) (k : Nat) : softW c sent (k + 1) = softW c sent k ++ [if sent.getD k false then hvW ((atB c k 8).toNat + 1) else Op.negFloat .f32 (hvW ((atB c k 8).toNat + 1))] := by simp [softW, List.range_succ]
theorem softW_amp (c : List Int) (sent : List Bool) (k i : Nat) (h : i < (softW c sent k).length) : Amp 3 (fun_ sent i) (softW c sent k)[i] := by
  have hb := atB_bd c i 8 (by decide)
  have ha := hv_amp (k := (atB c i 8).toNat) (by omega)
  have e : (softW c sent k)[i] = if sent.getD i false then hvW ((atB c i 8).toNat + 1) else Op.negFloat .f32 (hvW ((atB c i 8).toNat + 1)) := by simp [softW]
  rw [e]
  show Amp 3 (sent.getD i false) _
  obtain ⟨x, hx⟩ : ∃ x, hvW ((atB c i 8).toNat + 1) = x := ⟨_, rfl⟩
  rw [hx] at ha ⊢
  cases sent.getD i false
  · rw [if_neg (by decide)]; exact neg_amp ha
  · rw [if_pos rfl]; exact ha
theorem own_cap {w : World} {base n cap : Nat} {e : TypeId} {A : Option Addr} {xs : List Value} (h : w.ownsRow base e 1 (.slice A n cap) n xs) : n ≤ cap := by
  rcases h.2 with ⟨h0, h1⟩ | ⟨g', cap', cur, hv, hbg, hgb, h1, _⟩
  · omega
  · injection hv with hv1 hv2 hv3
    omega

set_option maxRecDepth 100000 in
set_option maxHeartbeats 40000000 in
theorem law_FnPolars (w : World) (A1 : Option Addr) (n1 cap1 : Nat) (c : List Int) (A2 : Option Addr) (n2 cap2 : Nat) (m : List Int) (hl1 : c.length = n1) (hm1 : n1 ≤ maxLen) (hb1 : ∀ x ∈ c, 0 ≤ x ∧ x ≤ 255) (hx1 : Sl w w.heap.size A1 (c.map (Value.int .u8)))
    (hl2 : m.length = n2) (hm2 : n2 ≤ maxLen) (hb2 : ∀ x ∈ m, 0 ≤ x ∧ x ≤ 255) (hx2 : Sl w w.heap.size A2 (m.map (Value.int .u8))) :
    Calls Try.prog 3 #[.slice A1 n1 cap1, .slice A2 n2 cap2] w fun e w' => e = .returned (.bool true) ∧ Below w.heap.size w w' := by
  by_cases hlong : 1048576 < n1 ∨ 1048576 < n2
  · go_enter Try.func3, Try.ntmps3
    go_wp2_with (go_at_call 6; refine (b10Long_c _ _ _ _ _ _ _ true (by simp; omega) hm1 hm2).mono ?_; rintro e w' ⟨rfl, rfl⟩)
    go_ret
    exact ⟨rfl, Below.refl _ _⟩
  have hn1 : n1 ≤ 1048576 := by omega
  have hn2 : n2 ≤ 1048576 := by omega
  have hfl : false = (decide (1048576 < n1) || decide (1048576 < n2)) := by rw [decide_eq_false (by omega), decide_eq_false (by omega)]; rfl
  have HFL := Lib.hid hfl
  clear hfl hlong
  obtain ⟨p1, p2⟩ := atB_bd m 0 6 (by decide)
  obtain ⟨P, hP⟩ : ∃ P : Nat, atB m 0 6 = (P : Int) := ⟨(atB m 0 6).toNat, by omega⟩
  have hP5 : P ≤ 5 := by omega
  have HP := Lib.hid hP
  obtain ⟨N, hN1, hN32, hN, hw1, hw2⟩ := pow_n hP5
  obtain ⟨q1, q2⟩ := atB_bd m 1 17 (by decide)
  obtain ⟨b, hb⟩ : ∃ b : Nat, atB m 1 17 = (b : Int) := ⟨(atB m 1 17).toNat, by omega⟩
  have hb17 : b < 17 := by omega
  have HBv := Lib.hid hb
  obtain ⟨r1, r2⟩ := atB_bd m 2 ((N : Int) + 1) (by omega)
  obtain ⟨C, hC⟩ : ∃ C : Nat, atB m 2 ((N : Int) + 1) = (C : Int) := ⟨(atB m 2 ((N : Int) + 1)).toNat, by omega⟩
  have hCN : C ≤ N := by omega
  have HCv := Lib.hid hC
  clear p1 p2 q1 q2 r1 r2 hP hb hC
  obtain ⟨l1, l2, l3, l4⟩ := loss_all b hb17
  have l5 := l4 P (by omega)
  have htw : isTwo N = true := by rw [← hN]; exact isTwo_all P hP5
  have hlo : lossOk (P : Int) (lostW b) = true := by unfold lossOk; rw [l2, inB_true.2 (by omega)]; rfl
  have hLe : lossL (P : Int) (lostW b) = lossIt (lostW b) P := by unfold lossL; rw [hlo]; rfl
  have hlen := lossIt_len (lostW b) P
  rw [hN] at hlen
  have hpo : pbOk (P : Int) (lostW b) (C : Int) = true := by unfold pbOk; rw [hlo, Int.toNat_natCast, hN, inB_true.2 (by omega)]; rfl
  have hpl : pbL (P : Int) (lostW b) (C : Int) = zl (bestOf (keyL (lossIt (lostW b) P)) N C) := by unfold pbL; rw [hpo, Int.toNat_natCast, Int.toNat_natCast, hN]; rfl
  obtain ⟨L, hL⟩ : ∃ L, lossIt (lostW b) P = L := ⟨_, rfl⟩
  have hlb : lossB b P = true := l5
  unfold lossB at hlb
  rw [hL] at hLe hlen hpl hlb
  obtain ⟨S, hS⟩ : ∃ S, bestOf (keyL L) N C = S := ⟨_, rfl⟩
  have hSl : S.length = C := by rw [← hS]; exact bestOf_len hCN
  rw [hS] at hpl
  have HN := Lib.hid hN
  have HW1 := Lib.hid hw1
  have HTW := Lib.hid htw
  have HLO := Lib.hid hlo
  have HLE := Lib.hid hLe
  have HPO := Lib.hid hpo
  have HPL := Lib.hid hpl
  have HS := Lib.hid hS
  have HLB := Lib.hid hlb
  have HL := Lib.hid hL
  have hfq := fun t d => fres_vop l1 t d
  have hfq2 := fdr_is0 l1
  have hlw : vop .quo (floatOfInt .f32 (b : Int)) 1098907648 = lostW b := rfl
  rw [hlw] at hfq
  have hL3 := l3
  clear hN hw1 hw2 htw hlo hLe hpo hpl hS hlb hL l1 l2 l4 l5 hlw l3
  have hat := fun (W : World) (hb : Below w.heap.size w W) (i q : Int) (g0 : 0 ≤ i) (g1 : i ≤ 1048576) (g2 : 1 ≤ q) (g3 : q ≤ 1048576) => b10At_c W w.heap.size A1 n1 cap1 c hl1 hb1 (hx1.below hb) i q g0 g1 g2 g3
  have hat2 := fun (W : World) (hb : Below w.heap.size w W) (i q : Int) (g0 : 0 ≤ i) (g1 : i ≤ 1048576) (g2 : 1 ≤ q) (g3 : q ≤ 1048576) => b10At_c W w.heap.size A2 n2 cap2 m hl2 hb2 (hx2.below hb) i q g0 g1 g2 g3
  have HA1 := Lib.hid hat
  have HA2 := Lib.hid hat2
  have HX1 := Lib.hid hx1
  have HBB := Lib.hid hb1
  clear hat hat2 hx1 hx2 hb1 hb2
  go_enter Try.func3, Try.ntmps3
  go_wp2_with (first
    | (go_at_call 6; refine (b10Long_c _ _ _ _ _ _ _ false HFL.out hm1 hm2).mono ?_; rintro e w' ⟨rfl, rfl⟩)
    | (go_at_call 7; refine (HA2.out _ (Below.refl _ _) 0 6 (by decide) (by decide) (by decide) (by decide)).mono ?_; rintro e w' ⟨rfl, rfl⟩; rw [HP.out]))
  rw [HW1.out]
  refine (B10Bools_c w A1 n1 cap1 c hl1 hn1 HBB.out HX1.out N (by omega)).mono ?_
  rintro e w1 ⟨v, bs, rfl, hbl, ho1, hb1⟩
  obtain ⟨S1, k1, rfl, hp1⟩ := ho1.opn
  rw [hbl] at hp1 ⊢
  clear ho1
  go_wp2_with fail
  refine (impl_PolarTurn_c w1 S1 N k1 bs hbl (by omega) (sl_of_own hp1)).mono ?_
  rintro e w2 ⟨v, rfl, ho2, hb2⟩
  have hpt : polarTurnL bs = turnL bs := by unfold polarTurnL; rw [hbl, HTW.out]; rfl
  rw [HTW.out]
  rw [hpt] at ho2
  obtain ⟨S2, k2, rfl, hp2⟩ := ho2.opn
  have htl : (turnL bs).length = N := by rw [turnL_len, hbl]
  rw [htl] at hp2 ⊢
  have hp1 := own_below hp1 hb2 (Nat.le_refl _)
  have hB2 : Below w.heap.size w w2 := hb1.trans (hb2.mono hb1.size)
  clear ho2 hb2 hb1
  go_wp2_with fail
  refine (impl_PolarTurn_c w2 S2 N k2 (turnL bs) htl (by omega) (sl_of_own hp2)).mono ?_
  rintro e w3 ⟨v, rfl, ho3, hb3⟩
  have hpt2 : polarTurnL (turnL bs) = bs := by unfold polarTurnL; rw [htl, HTW.out]; exact turn_turn hP5 (by rw [hbl, HN.out])
  rw [HTW.out]
  rw [hpt2] at ho3
  obtain ⟨S3, k3, rfl, hp3⟩ := ho3.opn
  rw [hbl] at hp3 ⊢
  have hp1 := own_below hp1 hb3 (Nat.le_refl _)
  have hB3 : Below w.heap.size w w3 := hB2.trans (hb3.mono hB2.size)
  have hp2z := hb3.size
  clear ho3 hb3 hB2 hp2
  go_wp2_with (go_at_call 7; refine (HA2.out _ hB3 1 17 (by decide) (by decide) (by decide) (by decide)).mono ?_; rintro e w' ⟨rfl, rfl⟩; rw [HBv.out])
  rw [show w3.drewN 0 = w3 from rfl]
  refine (impl_PolarLosses_c w3 (P : Int) (lostW b)).mono ?_
  rintro e w4 ⟨v, rfl, ho4, hb4⟩
  rw [HLO.out]
  rw [HLE.out] at ho4
  obtain ⟨S4, k4, rfl, hp4⟩ := ho4.opn
  rw [hlen] at hp4 ⊢
  have hp1 := own_below hp1 hb4 (Nat.le_refl _)
  have hp3 := own_below hp3 hb4 (Nat.le_refl _)
  have hB4 : Below w.heap.size w w4 := hB3.trans (hb4.mono hB3.size)
  clear ho4 hb4 hB3
  go_wp2_with fail
  refine (HA2.out w4 hB4 2 ((N : Int) + 1) (by decide) (by decide) (by omega) (by omega)).mono ?_
  rintro e w' ⟨rfl, rfl⟩
  rw [HCv.out]
  go_wp2_with fail
  refine (impl_PolarBest_c w4 (P : Int) (lostW b) (C : Int)).mono ?_
  rintro e w5 ⟨v, rfl, ho5, hb5⟩
  rw [HPO.out]
  rw [HPL.out] at ho5
  obtain ⟨S5, k5, rfl, hp5⟩ := ho5.opn
  rw [zl_len, hSl] at hp5 ⊢
  have hp1 := own_below hp1 hb5 (Nat.le_refl _)
  have hp3 := own_below hp3 hb5 (Nat.le_refl _)
  have hp4 := own_below hp4 hb5 (Nat.le_refl _)
  have hB5 : Below w.heap.size w w5 := hB4.trans (hb5.mono hB4.size)
  clear ho5 hb5 hB4
  have g1 : ((N : Int) != (N : Int)) = false := by simp
  have g2 : ((C : Int) != (C : Int)) = false := by simp
  go_wp2_with (go_at_call 12; refine (b10Bools_t w5 w5.heap.size S3 S1 N k3 N k1 bs hbl (by omega) rfl (sl_of_own hp3) (sl_of_own hp1)).mono ?_; rintro e w' ⟨rfl, d5, rfl⟩)
  have hlb := HLB.out
  rw [Bool.and_eq_true, List.all_eq_true] at hlb
  obtain ⟨hza, hsum⟩ := hlb
  rw [HN.out] at hsum
  obtain ⟨s0, hs0⟩ : ∃ s0, sumO L N = some s0 := by
    cases e : sumO L N with
    | none => rw [e] at hsum; cases hsum
    | some s0 => exact ⟨s0, rfl⟩
  rw [hs0] at hsum
  have hpre := sumO_some (L := L) (n := N) (by rw [hs0]; rfl) (by omega)
  have HZA := Lib.hid hza
  have HGP := Lib.hid hsum
  have HPR := Lib.hid hpre
  have HS0 := Lib.hid hs0
  have hsl4 := sl_of_own hp4
  have HSL4 := Lib.hid hsl4
  have HP1 := Lib.hid hp1
  have HP5 := Lib.hid hp5
  have HB5 := Lib.hid hB5
  clear hza hsum hpre hs0 hp1 hp3 hp4 hp5 hB5 hsl4
  go_loopw [18, 113] (fun v i wr => ∃ k d s : Nat, k ≤ N ∧ i = .int .i64 (k : Int) ∧ sumO L k = some s ∧ v = .float .f64 s ∧ wr = w5.drewN d) (fun _ i _ => N - (intOf i).toNat)
  case atStart => exact ⟨0, d5, 0, Nat.zero_le _, rfl, rfl, rfl, rfl⟩
  case round =>
    obtain ⟨k, d, s, hk, rfl, hs, rfl, rfl⟩ := hrel
    by_cases hlt : k < N
    · obtain ⟨b4, o4, rfl, hbb4, c4⟩ := HSL4.out.get k (by omega)
      have hkl : k < L.length := by omega
      have hz := HZA.out _ (List.getElem_mem hkl)
      rw [Bool.and_eq_true] at hz
      have hw := wid_some hz.1
      have hsu := sumO_succ hkl
      obtain ⟨s', hs'⟩ : ∃ s', sumO L (k + 1) = some s' := by
        have := HPR.out (N - (k + 1)) (k + 1) (by omega)
        cases e : sumO L (k + 1) with
        | none => rw [e] at this; cases this
        | some s' => exact ⟨s', rfl⟩
      rw [hs', hs] at hsu
      have hsu2 : floatBits .add .f64 s (widW (L[k]'hkl)) = some s' := hsu.symm
      obtain ⟨z, hzz⟩ : ∃ z, L[k]'hkl = z := ⟨_, rfl⟩
      simp only [hzz] at c4 hw hsu2
      have f1 := fun t d => fcv_one hw t d
      have f2 := fcvd_one hw
      have f3 := fun t d => fres_one hsu2 t d
      have f4 := fdr_is0 hsu2
      have HSS := Lib.hid hs'
      clear hz hw hsu hsu2 hzz hs hs'
      go_wp2_with fail
      go_roundw
      case rel => exact ⟨k + 1, _, s', hlt, by go_num, HSS.out, rfl, rfl⟩
      case measure => simp [intOf]; omega
    · have hkN : k = N := by omega
      subst hkN
      have hse : s = s0 := by have := hs; rw [HS0.out] at this; exact (Option.some.inj this).symm
      subst hse
      clear hs
      have hmk := fun W : World => run_mk (P := Try.prog) Try.underlying25 infoBool rfl (by decide) k (by omega) .i64 .i64 W
      go_wp2_with fail
      have ho6 := own_mk (w5.drewN d) w5.heap.size 4 (.bool false) k (Nat.le_refl _) (by omega)
      have ho6 : ((w5.drewN d).alloc (.cells (zeroRow (.bool false) k) 4)).ownsRow w5.heap.size 4 1 (.slice (some ⟨w5.heap.size, 0, none⟩) k k) k ((List.replicate k false).map Value.bool) := by
        rw [List.map_replicate]; exact ho6
      have hb6 : Below w5.heap.size w5 ((w5.drewN d).alloc (.cells (zeroRow (.bool false) k) 4)) := (below_of_drewN w5.heap.size w5 d).alloc (Nat.le_refl _) _
      have hnon : ∀ i, i < k → 0 ≤ keyL L i := by
        intro i hi
        have := HZA.out _ (List.getElem_mem (show i < L.length by omega))
        rw [Bool.and_eq_true, decide_eq_true_eq] at this
        unfold keyL
        rw [List.getD_eq_getElem?_getD, List.getElem?_eq_getElem (show i < L.length by omega)]
        exact this.2
      have hw0 : Wst L S k (.float .f32 3212836864) := ⟨_, rfl, by decide, fun i hi _ => by have := hnon i hi; have := key_m1; omega⟩
      have ht0 : Tkn S k 0 (List.replicate k false) := ⟨by simp, fun i hi => by simp [List.getD_eq_getElem?_getD, hi]⟩
      have hfinL : ∀ z ∈ L, z % 2147483648 < 2139095040 := by rw [← HL.out]; exact loss_fin (loss_all b hb17).2.1 hP5
      have hSlt : ∀ i ∈ S, i < k := by rw [← HS.out]; intro i hi; exact bestOf_lt hi
      have hSp : S.Pairwise (· < ·) := by rw [← HS.out]; exact bestOf_pair _ _ _
      have HFL := Lib.hid hfinL
      have HSLT := Lib.hid hSlt
      have HSP := Lib.hid hSp
      clear hfinL hSlt hSp hnon
      obtain ⟨g5, hg5⟩ : ∃ g5, w5.heap.size = g5 := ⟨_, rfl⟩
      rw [hg5] at ho6 hb6 ⊢
      have HG5 := Lib.hid hg5
      clear hg5
      go_loopw [20, 128] (fun v i wr => ∃ (t : Nat) (T : List Bool), t ≤ C ∧ i = .int .i64 (t : Int) ∧ Wst L S k v ∧ Tkn S k t T ∧ wr.ownsRow g5 4 1 (.slice (some ⟨g5, 0, none⟩) k k) k (T.map Value.bool) ∧ Below g5 w5 wr) (fun _ i _ => C - (intOf i).toNat)
      case atStart => exact ⟨0, _, Nat.zero_le _, rfl, hw0, ht0, ho6, hb6⟩
      case round =>
        clear ho6 hb6 hw0 ht0
        obtain ⟨t, T, ht, rfl, ⟨x, rfl, hx1, hx2⟩, hT, ho, hb⟩ := hrel
        obtain ⟨w6, rfl⟩ : ∃ w6 : World, w6 = wr := ⟨_, rfl⟩
        by_cases hlt2 : t < C
        · have htS : t < S.length := by omega
          have hq := HSLT.out _ (List.getElem_mem htS)
          obtain ⟨b5, o5, rfl, hbb5, c5⟩ := ((sl_of_own HP5.out).below (HG5.out ▸ hb)).get t (by rw [zl_len]; exact htS)
          obtain ⟨b4, o4, rfl, hbb4, c4⟩ := (HSL4.out.below (HG5.out ▸ hb)).get (S[t]'htS) (by omega)
          have e5 : (zl S)[t]'(by rw [zl_len]; exact htS) = ((S[t]'htS : Nat) : Int) := by simp [zl]
          rw [e5] at c5
          have hprev : ∀ t', t = t' + 1 → ∃ y : Nat, w6.cell? ⟨b5, o5 + t', none⟩ = some (.int .i64 (y : Int)) ∧ y < S[t]'htS := by
            intro t' he
            obtain ⟨b', o', e', _, c'⟩ := ((sl_of_own HP5.out).below (HG5.out ▸ hb)).get t' (by rw [zl_len]; omega)
            cases e'
            have e6 : (zl S)[t']'(by rw [zl_len]; omega) = ((S[t']'(by omega) : Nat) : Int) := by simp [zl]
            rw [e6] at c'
            exact ⟨_, c', List.pairwise_iff_getElem.1 HSP.out t' t (by omega) htS (by omega)⟩
          have hf := HFL.out _ (List.getElem_mem (show (S[t]'htS) < L.length by omega))
          have hTs := hT.step htS hq
          have hkl : keyL L (S[t]'htS) = keyW (L[S[t]'htS]'(by omega)) := by unfold keyL; rw [List.getD_eq_getElem?_getD, List.getElem?_eq_getElem (by omega)]; rfl
          have hkey : ∀ i, i < k → i ∉ S → keyW (L[S[t]'htS]'(by omega)) ≤ keyL L i := by
            intro i hi hni
            rw [← hkl]
            exact best_le (by rw [HS.out]; exact List.getElem_mem htS) hi (by rw [HS.out]; exact hni)
          obtain ⟨l, hle⟩ : ∃ l, L[S[t]'htS]'(by omega) = l := ⟨_, rfl⟩
          simp only [hle] at c4 hf hkey
          have hst := (World.ownsRow.stored ho (S[t]'htS) (.bool true)).1
          have hfz := World.ownsRow.frozenAt ho (S[t]'htS)
          have hc6 := World.ownsRow.cellAt ho (S[t]'htS) (by have := hT.1; omega)
          have hc6 : w6.cell? ⟨g5, S[t]'htS, none⟩ = some (.bool (T.getD (S[t]'htS) false)) := by
            rw [hc6, List.getElem?_map, List.getD_eq_getElem?_getD, List.getElem?_eq_getElem (by rw [hT.1]; exact hq)]
            rfl
          rw [show (T.map Value.bool).set (S[t]'htS) (.bool true) = (T.set (S[t]'htS) true).map Value.bool by rw [List.map_set]] at hst
          obtain ⟨p, hp⟩ : ∃ p, S[t]'htS = p := ⟨_, rfl⟩
          simp only [hp] at c5 c4 hq hprev hst hfz hc6 hTs
          have hc4 : (w6.setCell ⟨g5, p, none⟩ (.bool true)).cell? ⟨b4, o4 + p, none⟩ = some (.float .f32 l) := by
            rw [Below.cell (B := g5) (below_put (Below.refl g5 w6) (Nat.le_refl _) p (.bool true)) (by show b4 < g5; exact HG5.out ▸ hbb4)]
            exact c4
          have hc5 : (w6.setCell ⟨g5, p, none⟩ (.bool true)).cell? ⟨b5, o5 + t, none⟩ = some (.int .i64 (p : Int)) := by
            rw [Below.cell (B := g5) (below_put (Below.refl g5 w6) (Nat.le_refl _) p (.bool true)) (by show b5 < g5; exact HG5.out ▸ hbb5)]
            exact c5
          have hb7 := below_put hb (Nat.le_refl _) p (.bool true)
          have hbg4 : b4 < g5 := HG5.out ▸ hbb4
          have hbg5 : b5 < g5 := HG5.out ▸ hbb5
          have hmax := fun (W : World) (tt : Array TypeId) (ty : TypeId) => run_max32 (P := Try.prog) W tt ty hx1 hf
          have hwst : Wst L S k (.float .f32 (maxW x l)) := by
            rcases maxW_or x l with e | e
            · rw [e]; exact ⟨x, rfl, hx1, hx2⟩
            · rw [e]; exact ⟨l, rfl, hf, hkey⟩
          have d1 : decide ((p : Int) < 0) = false := decide_eq_false (by omega)
          have d2 : decide ((k : Int) ≤ (p : Int)) = false := decide_eq_false (by omega)
          have d2n : decide (k ≤ p) = false := decide_eq_false (by omega)
          have HTS := Lib.hid hTs
          have HST := Lib.hid hst
          have HB7 := Lib.hid hb7
          have HWST := Lib.hid hwst
          have HMAX := Lib.hid hmax
          clear hTs hst hb7 hwst hkey hx2 hT hle hp e5 hkl ho hmax hmk hb hx1 hf hlt hk
          rcases Nat.eq_zero_or_pos t with h0 | hpos
          · have d3 : decide ((0 : Int) < (t : Int)) = false := decide_eq_false (by omega)
            have d3n : decide (0 < t) = false := decide_eq_false (by omega)
            have H0 := Lib.hid h0
            clear hprev h0
            go_wp2_with fail
            go_quiet (fail)
            have hmax := HMAX.out
            clear HMAX
            go_wp2_with fail
            go_roundw
            case rel => exact ⟨t + 1, _, hlt2, by go_num, HWST.out, HTS.out, HST.out, ⟨HB7.out.os, HB7.out.tape, HB7.out.output, HB7.out.size, HB7.out.block⟩⟩
            case measure => simp [intOf]; omega
          · obtain ⟨t', ht'⟩ : ∃ t', t = t' + 1 := ⟨t - 1, by omega⟩
            obtain ⟨y, cp, hyp⟩ := hprev t' ht'
            have hsub : IntKind.i64.wrap ((t : Int) - 1) = (t' : Int) := by rw [IntWalk.i64_in _ (by omega)]; omega
            have d3 : decide ((0 : Int) < (t : Int)) = true := decide_eq_true (by omega)
            have d4 : decide ((p : Int) ≤ (y : Int)) = false := decide_eq_false (by omega)
            have d4n : decide (p ≤ y) = false := decide_eq_false (by omega)
            have ht2 : t' < C := by omega
            have d3n : decide (0 < t) = true := decide_eq_true hpos
            have HT' := Lib.hid ht'
            clear hprev ht' hyp
            go_wp2_with fail
            go_quiet (fail)
            have hmax := HMAX.out
            clear HMAX
            go_wp2_with fail
            go_roundw
            case rel => exact ⟨t + 1, _, hlt2, by go_num, HWST.out, HTS.out, HST.out, ⟨HB7.out.os, HB7.out.tape, HB7.out.output, HB7.out.size, HB7.out.block⟩⟩
            case measure => simp [intOf]; omega
        · have htC : t = C := by omega
          subst htC
          have hTm : ∀ i, i < k → (T.getD i false = true ↔ i ∈ S) := by
            intro i hi
            have := hT.2 i hi
            rwa [List.take_of_length_le (by omega)] at this
          have HTM := Lib.hid hTm
          have HX2 := Lib.hid hx2
          have hTl := hT.1
          have HB6 := Lib.hid hb
          have HO6 := Lib.hid ho
          clear hTm hx2 hT hb ho hmk
          go_wp2_with fail
          go_loopw [178] (fun v wr => ∃ i : Nat, i ≤ k ∧ v = .int .i64 (i : Int) ∧ wr = w6) (fun v _ => k - (intOf v).toNat)
          case atStart => exact ⟨0, Nat.zero_le _, rfl, rfl⟩
          case round =>
            obtain ⟨i, hi, rfl, hwr⟩ := hrel
            rw [hwr]
            clear hwr
            by_cases hlt3 : i < k
            · have hc6a := World.ownsRow.cellAt HO6.out i (by omega)
              have hc6 : w6.cell? ⟨g5, i, none⟩ = some (.bool (T.getD i false)) := by
                rw [hc6a, List.getElem?_map, List.getD_eq_getElem?_getD, List.getElem?_eq_getElem (by omega)]
                rfl
              clear hc6a
              cases hTi : T.getD i false
              · rw [hTi] at hc6
                obtain ⟨b4, o4, rfl, hbb4, c4⟩ := (HSL4.out.below (HG5.out ▸ HB6.out)).get i (by omega)
                have hf := HFL.out _ (List.getElem_mem (show i < L.length by omega))
                have hni : i ∉ S := fun h => by
                  have := (HTM.out i hlt3).2 h
                  rw [hTi] at this
                  cases this
                have hle := HX2.out i hlt3 hni
                have hkl : keyL L i = keyW (L[i]'(by omega)) := by unfold keyL; rw [List.getD_eq_getElem?_getD, List.getElem?_eq_getElem (by omega)]; rfl
                rw [hkl] at hle
                obtain ⟨l, hl⟩ : ∃ l, L[i]'(by omega) = l := ⟨_, rfl⟩
                simp only [hl] at c4 hf hle
                have hnl : (FloatKind.f32.format.order l x == some Ordering.lt) = false := by
                  rw [order_key hf hx1]
                  rcases Int.lt_or_eq_of_le hle with h | h
                  · rw [Int.compare_eq_gt.2 h]; rfl
                  · rw [h]; simp
                clear hl hkl hle hni hTi hf
                go_wp2_with fail
                go_roundw
                case rel => exact ⟨i + 1, hlt3, by go_num, trivial⟩
                case measure => simp [intOf]; omega
              · rw [hTi] at hc6
                clear hTi
                go_wp2_with fail
                go_roundw
                case rel => exact ⟨i + 1, hlt3, by go_num, trivial⟩
                case measure => simp [intOf]; omega
            · have hik : i = k := by omega
              subst hik
              have hp1' := own_below HP1.out HB6.out (Nat.le_of_eq HG5.out)
              have hp5' := own_below HP5.out HB6.out (Nat.le_of_eq HG5.out)
              obtain ⟨ga, ka, hva, hga, _⟩ := hp1'.form (by omega)
              injection hva with hva1 hva2 hva3
              subst hva1
              subst hva3
              have hcap1 := own_cap hp1'
              have htk : t ≤ k1 := by omega
              have hone : ∀ u' ∈ (bs.take t).map Value.bool, u'.oneCell' = true := by
                intro u' hu
                obtain ⟨x, _, rfl⟩ := List.mem_map.1 hu
                rfl
              have hil : (bs.take t).length = t := by rw [List.length_take]; omega
              have hiv : ((bs.take t).map Value.bool).length = t := by rw [List.length_map, hil]
              have hcs : ∀ j' u', ((bs.take t).map Value.bool)[j']? = some u' → w6.cell? ⟨ga, j', none⟩ = some u' := by
                intro j' u' hu
                have hj := (List.getElem?_eq_some_iff.1 hu).1
                rw [hiv] at hj
                have h1 := World.ownsRow.cellAt hp1' j' (by omega)
                rw [h1]
                rw [List.map_take, List.getElem?_take_of_lt hj] at hu
                exact hu
              have HCS := Lib.hid (fun (o : Go.Obj) (j' : Nat) (u' : Value) (hu : ((bs.take t).map Value.bool)[j']? = some u') => ((Below.refl w6.heap.size w6).alloc (Nat.le_refl _) o).cell (p := ⟨ga, j', none⟩) (hp1'.lt ga rfl).2 |>.trans (hcs j' u' hu))
              have HONE := Lib.hid hone
              have HP5' := Lib.hid hp5'
              have hBw6 : Below w.heap.size w w6 := HB5.out.trans (HB6.out.mono (HG5.out ▸ HB5.out.size))
              have HBW := Lib.hid hBw6
              have ho7 := own_empty w6 w6.heap.size 4 (Nat.le_refl _)
              have hln : ([] : List Value).length + t ≤ 1099511627776 := by simp; omega
              clear hcs hone hp1' hp5' hBw6 HSL4 HFL HTM HX2 hga
              go_wp2_with (at_builtin; refine appN Try.underlying25 infoBool rfl (by decide) rfl _ _ rfl _ _ _ rfl ho7 ga t _ _ rfl hiv (HCS.out _) HONE.out hln (by simp) ?_; intro v' w7 ho7 hb7)
              have hb67 : Below w6.heap.size w6 w7 := ((Below.refl w6.heap.size w6).alloc (Nat.le_refl _) _).trans hb7
              have hp5 := own_below HP5'.out hb67 (Nat.le_refl _)
              have ho7 : Ow w7 w6.heap.size 4 v' ((bs.take t).map Value.bool) := ho7
              obtain ⟨info, hinfo⟩ : ∃ info, bs.take t = info := ⟨_, rfl⟩
              rw [hinfo] at ho7 hil
              obtain ⟨S7, k7, rfl, hp7⟩ := ho7.opn
              rw [hil] at hp7 ⊢
              have hpl := places_of hP5 HSP.out (fun q hq => by rw [HN.out]; exact HSLT.out q hq)
              have hzl : (zl S).length = t := by rw [zl_len, hSl]
              have hsok : sendOk (P : Int) (zl S) info = true := by
                unfold sendOk
                rw [hpl, hil, hzl]
                simp
              have hsL : sendL (P : Int) (zl S) info = turnL (sendR (2 ^ P) (zl S) info S.length) := by
                unfold sendL
                rw [hsok, zl_len, if_pos rfl, Int.toNat_natCast]
              obtain ⟨sent, hsent⟩ : ∃ sent, turnL (sendR (2 ^ P) (zl S) info S.length) = sent := ⟨_, rfl⟩
              have hsl : sent.length = i := by rw [← hsent, turnL_len, sendR_len, HN.out]
              rw [hsent] at hsL
              have HBW7 := Lib.hid (HBW.out.trans (hb67.mono HBW.out.size))
              have HSOK := Lib.hid hsok
              have HSLL := Lib.hid hsL
              have HSE := Lib.hid hsent
              have HPLA := Lib.hid hpl
              clear hb67 hb7 ho7 hpl hsok hsL hsent hiv hln HCS HONE HP5' HBW hinfo
              refine (impl_PolarSend_c w7 (P : Int) S5 t k5 (zl S) hzl (by omega) (sl_of_own hp5) S7 t k7 info hil (by omega) (sl_of_own hp7)).mono ?_
              rintro e w8 ⟨v, rfl, ho8, hb8⟩
              rw [HSOK.out]
              rw [HSLL.out] at ho8
              obtain ⟨S8, k8, rfl, hp8⟩ := ho8.opn
              rw [hsl] at hp8 ⊢
              have hp5 := own_below hp5 hb8 (Nat.le_refl _)
              have hp7 := own_below hp7 hb8 (Nat.le_refl _)
              have hB8 := HBW7.out.trans (hb8.mono HBW7.out.size)
              obtain ⟨gm, gq, gg, e1, e2, e3, e4⟩ := gapB_ex HGP.out
              have hwl := wid_some hL3
              have f1 := fun t d => fcv_one hwl t d
              have f2 := fcvd_one hwl
              have f3 := fun t d => fres_one e1 t d
              have f4 := fdr_is0 e1
              have f5 := fun t d => fres_one e2 t d
              have f6 := fdr_is0 e2
              have g3 : ((i : Int) != (i : Int)) = false := by simp
              have HGG := Lib.hid e3
              have HP5 := Lib.hid hp5
              have HP7 := Lib.hid hp7
              have HP8 := Lib.hid hp8
              have HB8 := Lib.hid hB8
              clear ho8 hb8 hp5 hp7 hp8 hB8 e1 e2 e3 hwl hfq hfq2
              go_wp2_with (go_at_call 14; refine (b10Gap_c _ s gm gg HGG.out).mono ?_; rintro e w' ⟨rfl, d8, rfl⟩)
              clear f1 f2 f3 f4 f5 f6 e4 g3 HGG HLB HZA HPR HGP HS0 HFL HPL HPO HLE HLO hL3
              go_loopw [27, 231] (fun v z wr => ∃ q : Nat, q ≤ i ∧ z = .int .i64 (q : Int) ∧ Ow wr w8.heap.size 29 v ((softW c sent q).map (Value.float .f32)) ∧ Below w8.heap.size w8 wr) (fun _ z _ => i - (intOf z).toNat)
              case atStart => exact ⟨0, Nat.zero_le _, rfl, own_empty _ _ _ (Nat.le_refl _), (below_of_drewN _ _ _).alloc (Nat.le_refl _) _⟩
              case round =>
                obtain ⟨q, hq, rfl, ho, hb⟩ := hrel
                obtain ⟨w9, rfl⟩ : ∃ w9 : World, w9 = wr := ⟨_, rfl⟩
                have hz := hb.size
                by_cases hlt4 : q < i
                · obtain ⟨b8, o8, rfl, hbb8, c8⟩ := ((sl_of_own HP8.out).below hb).get q (by omega)
                  have hb9 : Below w.heap.size w w9 := HB8.out.trans (hb.mono HB8.out.size)
                  have hba := atB_bd c (q : Int) 8 (by decide)
                  obtain ⟨j, hj⟩ : ∃ j : Nat, atB c (q : Int) 8 = (j : Int) := ⟨(atB c (q : Int) 8).toNat, by omega⟩
                  have hj8 : j < 8 := by omega
                  have hst := softW_succ c sent q
                  rw [hj, Int.toNat_natCast] at hst
                  have hgd : sent.getD q false = sent[q]'(by omega) := by rw [List.getD_eq_getElem?_getD, List.getElem?_eq_getElem (by omega)]; rfl
                  rw [hgd] at hst
                  obtain ⟨bit, hbit⟩ : ∃ bit, sent[q]'(by omega) = bit := ⟨_, rfl⟩
                  rw [hbit] at hst c8
                  have hv1 := (hv_all j hj8).1
                  rw [show (((j + 1 : Nat)) : Int) = 1 + (j : Int) by omega] at hv1
                  obtain ⟨u, hu⟩ : ∃ u, hvW (j + 1) = u := ⟨_, rfl⟩
                  rw [hu] at hst hv1
                  have f1 := fun t d => fres_one hv1 t d
                  have f2 := fdr_is0 hv1
                  have hlen9 : ((softW c sent q).map (Value.float .f32)).length + 1 ≤ 1099511627776 := by rw [List.length_map, softW_len]; exact Nat.le_trans (Nat.succ_le_succ (Nat.le_trans hq hN32)) (by decide)
                  have HJ := Lib.hid hj
                  have HB9 := Lib.hid hb9
                  have HLT := Lib.hid hlt4
                  clear hba hj hgd hbit hu hv1 hb9
                  cases bit
                  all_goals
                    simp only [Bool.false_eq_true, if_false, if_true] at hst
                    have HST := Lib.hid hst
                    clear hst
                    go_wp2_with (first
                      | (go_at_call 7; refine (HA1.out w9 HB9.out (q : Int) 8 (by omega) (by omega) (by decide) (by decide)).mono ?_; rintro e w' ⟨rfl, rfl⟩; rw [HJ.out])
                      | (at_builtin; refine app1 Try.underlying30 infoFloat32 rfl (by decide) rfl _ _ rfl _ _ _ rfl (own_dalloc ho _) _ _ _ rfl (cell_new1 _ _ _) rfl hlen9 (by simp; omega) ?_; intro v' w10 ho1 hb1))
                    go_roundw
                    case rel =>
                      refine ⟨q + 1, HLT.out, by go_num, ?_, ((below_drewN hb _).alloc hz _).trans hb1⟩
                      rw [HST.out, List.map_append]
                      exact ho1
                    case measure => have := HLT.out; simp [intOf]; omega
                · have hqi : q = i := by omega
                  subst hqi
                  have hB9 : Below w.heap.size w w9 := HB8.out.trans (hb.mono HB8.out.size)
                  have hp5 := own_below HP5.out hb (Nat.le_refl _)
                  have hp7 := own_below HP7.out hb (Nat.le_refl _)
                  obtain ⟨S9, k9, rfl, hp9⟩ := ho.opn
                  rw [softW_len] at hp9 ⊢
                  have hk9 := own_cap hp9
                  have hzl2 : (zl S).length = t := by rw [zl_len, hSl]
                  have hsin : ∀ k, sentU q S info k = true → (k : Int) ∈ zl S := sentU_in HSP.out HSLT.out
                  have hamp : ∀ z (hz : z < (softW c sent q).length), Amp 3 (enc (sentU q S info) P z) (softW c sent q)[z] := by
                    intro z hz
                    have h1 := softW_amp c sent q z hz
                    have h2 := sent_enc hP5 S info
                    rw [HSE.out, HN.out] at h2
                    rw [h2] at h1
                    exact h1
                  have hrd : readsOf (sentU q S info) (zl S) 0 q = info := by
                    have h1 := reads_best (key := keyL L) (N := q) (k := t) (bs := info) (by rw [HS.out, hil, hSl])
                    rw [HS.out] at h1
                    exact h1
                  have HC := Lib.hid (impl_PolarRead_c w9 w9.heap.size P t k5 q k9 3 S5 S9 (zl S) (softW c sent q) (sentU q S info) hP5 HN.out.symm hzl2 (by omega) HPLA.out hsin (softW_len _ _ _) hk9 (by decide) hamp (Nat.le_refl _) (sl_of_own hp9) (sl_of_own hp5))
                  have HP7' := Lib.hid hp7
                  have HB9 := Lib.hid hB9
                  have HRD := Lib.hid hrd
                  clear hsin hamp hrd hp5 hp7 hp9 hB9 ho
                  go_wp2_with fail
                  refine HC.out.mono ?_
                  rintro e w11 ⟨v, rfl, ho11, hb11⟩
                  rw [HRD.out] at ho11
                  obtain ⟨S11, k11, rfl, hp11⟩ := ho11.opn
                  rw [hil] at hp11 ⊢
                  have hp7 := own_below HP7'.out hb11 (Nat.le_refl _)
                  have HB11 := Lib.hid (HB9.out.trans (hb11.mono HB9.out.size))
                  have HBB := Lib.hid (b10Bools_t w11 w11.heap.size S11 S7 t k11 t k7 info hil (by omega) rfl (sl_of_own hp11) (sl_of_own hp7))
                  clear ho11 hp11 hp7 hb11
                  go_wp2_with (go_at_call 12; refine HBB.out.mono ?_; rintro e w' ⟨rfl, d11, rfl⟩)
                  go_ret
                  exact ⟨rfl, below_drewN HB11.out _⟩

end Go.Proofs.Ytlcdcicdlfakgaa
