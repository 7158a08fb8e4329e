/-
  Contracts: bits turned in place, and places of a power.
  Conditions: lengths are powers of two up to 32 where bits are turned.
-/
import Derived.Test.YtlcdcicdlfakgaaCB
import Derived.Test.YtlcdcicdlfakgaaH
import Derived.Test.YtlcdcicdlfakgaaPT
import Derived.StillTailTactics
namespace Go.Proofs.Ytlcdcicdlfakgaa
open Go.RowKit

theorem bool_cell {w : World} {base g n cap : Nat} {l : List Bool} (h : w.ownsRow base 4 1 (.slice (some ⟨g, 0, none⟩) n cap) n (l.map Value.bool)) {q : Nat} (hq : q < n) (hl : l.length = n) :
    w.cell? ⟨g, q, none⟩ = some (.bool (l.getD q false)) := by
  rw [h.cellAt q (by omega)]
  simp [List.getD, show q < l.length by omega]

theorem and_even : ∀ h ∈ [1, 2, 4, 8, 16], ∀ i < 32, (bits BinOp.and IntKind.i64 (i : Nat) (h : Nat) == 0) = decide (i / h % 2 = 0) := by decide +kernel


set_option maxRecDepth 100000 in
set_option maxHeartbeats 1000000 in
theorem impl_polarTurn_c (w : World) (base g n cap : Nat) (l : List Bool) (hl : l.length = n) (hn : n ∈ [1, 2, 4, 8, 16, 32]) (ho : w.ownsRow base 4 1 (.slice (some ⟨g, 0, none⟩) n cap) n (l.map Value.bool)) :
    Calls Try.prog 29 #[.slice (some ⟨g, 0, none⟩) n cap] w fun e w' => e = .returned (.slice (some ⟨g, 0, none⟩) n cap) ∧ w'.ownsRow base 4 1 (.slice (some ⟨g, 0, none⟩) n cap) n ((turnL l).map Value.bool) ∧ Below base w w' := by
  have hst := Half.start hn
  have HN := Lib.hid hn
  have hn32 := hst.le.1
  clear hn
  have hbg := (ho.lt g rfl).1
  go_enter Try.func29, Try.ntmps29
  go_wp2
  go_loopw [3] (fun t wr => ∃ (f h : Nat) (cur : List Bool), t = .int .i64 h ∧ Half n h ∧ h < 2 ^ f ∧ cur.length = n ∧ tgo f h cur = turnL l ∧ wr.ownsRow base 4 1 (.slice (some ⟨g, 0, none⟩) n cap) n (cur.map Value.bool) ∧ Below base w wr) (fun t _ => (intOf t).toNat)
  case atStart => exact ⟨5, n / 2, l, by go_num, hst, by omega, hl, by unfold turnL; rw [hl], ho, Below.refl _ _⟩
  case round =>
    clear ho hst hl
    obtain ⟨f, h, cur, rfl, hH, hf, hlen, ht, ho, hb⟩ := hrel
    have HH := Lib.hid hH
    have HT := Lib.hid ht
    have HF := Lib.hid hf
    have hh16 := hH.le.2
    clear hH ht hf
    by_cases h0 : h = 0
    · subst h0
      go_wp2
      go_ret
      refine ⟨rfl, ?_, hb⟩
      rw [← HT.out, tgo_zero]
      exact ho
    · have hpos : 1 ≤ h := by omega
      have hdp : decide ((1 : Int) ≤ (h : Int)) = true := by simp; omega
      clear h0
      go_wp2
      obtain ⟨wo, rfl⟩ : ∃ wo : World, wo = wr := ⟨_, rfl⟩
      go_loopw [14] (fun t wr => ∃ (k : Nat), k ≤ n ∧ t = .int .i64 k ∧ wr.ownsRow base 4 1 (.slice (some ⟨g, 0, none⟩) n cap) n ((tround h cur k).map Value.bool) ∧ Below base w wr) (fun t _ => n - (intOf t).toNat)
      case atStart => exact ⟨0, Nat.zero_le _, rfl, ho, hb⟩
      case round =>
        clear ho hb
        obtain ⟨k, hk, rfl, ho, hb⟩ := hrel
        have hlk := tround_len h cur k
        rw [hlen] at hlk
        have hnx : tround h cur (k + 1) = tstep h (tround h cur k) k := rfl
        obtain ⟨q, hq⟩ : ∃ q, tround h cur k = q := ⟨_, rfl⟩
        rw [hq] at hnx hlk ho
        have HX := Lib.hid hnx
        have HQ := Lib.hid hq
        clear hnx hq
        by_cases hlt : k < n
        · have hand := and_even h (by
            have h1 := HH.out.2.1
            simp only [List.mem_cons, List.not_mem_nil, or_false] at h1 ⊢
            omega) k (by omega)
          by_cases he : k / h % 2 = 0
          · have hbd := HH.out.bd (by omega) hlt he
            rw [decide_eq_true he] at hand
            have hc1 := bool_cell ho (q := k) (by omega) hlk
            have hc2 := bool_cell ho (q := k + h) (by omega) hlk
            have hfz := ho.frozenAt k
            have hsd := ho.stored k (.bool (q.getD k false != q.getD (k + h) false))
            have HS := Lib.hid hsd
            have HE := Lib.hid he
            obtain ⟨b1, hb1⟩ : ∃ b, q.getD k false = b := ⟨_, rfl⟩
            obtain ⟨b2, hb2⟩ : ∃ b, q.getD (k + h) false = b := ⟨_, rfl⟩
            rw [hb1] at hc1 HS
            rw [hb2] at hc2 HS
            have HB1 := Lib.hid hb1
            have HB2 := Lib.hid hb2
            clear hsd he ho hb1 hb2
            go_wp2
            have hs1 : IntKind.i64.wrap ((k : Int) + (h : Int)) = (k : Int) + (h : Int) := IntWalk.i64_in _ (by omega)
            have hs2 : (0 : Int) ≤ (k : Int) + (h : Int) := by omega
            have hs3 : (k : Int) + (h : Int) < (n : Int) := by omega
            have hs4 : ((k : Int) + (h : Int)).toNat = k + h := by omega
            refine wp_region_rel_lit_tail (fun _ _ _ => False) 13 (by kernel_rfl) (by kernel_rfl) ?_
            simp only [List.take_succ_cons, List.take_zero, List.drop_succ_cons, List.drop_zero]
            iterate 13 (refine wpRel_step (fun K hK => ?_); go_simp; (try intro n1); refine hK _ ?_; clear hK K)
            refine wpRel_nil ?_
            intro nq
            go_wp2
            go_roundw
            case rel =>
              refine ⟨k + 1, by omega, by go_num, ?_, (below_drewN hb _).setCell (p := ⟨g, k, none⟩) hbg _⟩
              rw [HX.out, tstep, if_pos HE.out, HB1.out, HB2.out, List.map_set]
              exact HS.out.1
            case measure => simp [intOf]; omega
          · rw [decide_eq_false he] at hand
            have HE := Lib.hid he
            clear he
            go_wp2
            go_roundw
            case rel =>
              refine ⟨k + 1, by omega, by go_num, ?_, hb⟩
              rw [HX.out, tstep, if_neg HE.out]
              exact ho
            case measure => simp [intOf]; omega
        · have : k = n := by omega
          subst this
          go_wp2
          go_roundw
          case rel =>
            obtain ⟨f', rfl⟩ : ∃ f', f = f' + 1 := by
              cases f with
              | zero => have := HF.out; omega
              | succ f' => exact ⟨f', rfl⟩
            refine ⟨f', h / 2, tround h cur k, by go_num, HH.out.next, ?_, ?_, ?_, ?_, hb⟩
            · have h2 := HF.out
              rw [Nat.pow_succ] at h2
              omega
            · rw [tround_len]; exact hlen
            · have h3 := HT.out
              rw [tgo_pos f' h cur (by omega), hlen] at h3
              exact h3
            · rw [HQ.out]; exact ho
          case measure => simp [intOf]; omega


def pcI (x : Int) : Int := x % 2 + x / 2 % 2 + x / 4 % 2 + x / 8 % 2 + x / 16 % 2 + x / 32 % 2
set_option maxRecDepth 100000 in
set_option maxHeartbeats 1000000 in
theorem OnesCount64_c (w : World) (x : Int) (h0 : 0 ≤ x) (h1 : x ≤ 32) : Calls Try.prog 59 #[.int .u64 x] w fun e w' => e = .returned (.int .i64 (pcI x)) ∧ w = w' := by
  go_enter Try.func59, Try.ntmps59
  go_wp2
  go_ret
  refine ⟨ret_int ?_, rfl⟩
  obtain ⟨n, hn, rfl⟩ : ∃ n : Nat, n < 33 ∧ x = n := ⟨x.toNat, by omega, by omega⟩
  clear h0 h1 w
  revert n
  decide +kernel


theorem OnesCount_c (w : World) (x : Int) (h0 : 0 ≤ x) (h1 : x ≤ 32) : Calls Try.prog 28 #[.int .u64 x] w fun e w' => e = .returned (.int .i64 (pcI x)) ∧ w = w' := by
  go_enter Try.func28, Try.ntmps28
  go_wp2_with (go_at_call 59; refine (OnesCount64_c _ _ h0 h1).mono ?_; rintro e w' ⟨rfl, rfl⟩)
  go_ret
  exact ⟨rfl, rfl⟩



set_option maxRecDepth 100000 in
set_option maxHeartbeats 400000 in
theorem Clone_bool_c (w : World) (A : Option Addr) (n cap : Nat) (l : List Bool) (hl : l.length = n) (hn : n ≤ 1099511627775) (hx : Sl w w.heap.size A (l.map Value.bool)) :
    Calls Try.prog 30 #[.slice A n cap] w fun e w' => ∃ v, e = .returned v ∧ Ow w' w.heap.size 4 v (l.map Value.bool) ∧ Below w.heap.size w w' := by
  cases A with
  | none =>
    have hn : l = [] := by
      rcases hx with h0 | ⟨b, off, he, _⟩
      · simpa using h0
      · cases he
    subst hn
    have hl0 : n = 0 := hl.symm
    subst hl0
    have he := Lib.run_eql_slice_nil (P := Try.prog)
    go_enter Try.func30, Try.ntmps30
    go_wp2
    go_ret
    exact ⟨_, rfl, World.ownsRow_nil _ _ _ _, Below.refl _ _⟩
  | some ad =>
    have he := Lib.run_eql_slice_nil (P := Try.prog)
    go_enter Try.func30, Try.ntmps30
    go_wp2_with (at_builtin; refine appS Try.underlying25 infoBool rfl (by decide) rfl _ _ rfl _ _ [] rfl (own_empty _ _ _ (Nat.le_refl _)) _ _ n cap (l.map Value.bool) rfl (by simpa using hl) (hx.alloc (Nat.le_refl _) _) one_bool (by simp; omega) (by simp) ?_; intro v' w1 ho1 hb1)
    go_ret
    exact ⟨_, rfl, by simpa using ho1, ((Below.refl _ _).alloc (Nat.le_refl _) _).trans hb1⟩


def isTwo (n : Nat) : Bool := n == 1 || n == 2 || n == 4 || n == 8 || n == 16 || n == 32
theorem isTwo_mem {n : Nat} (h : isTwo n = true) : n ∈ [1, 2, 4, 8, 16, 32] := by
  unfold isTwo at h
  simp at h ⊢
  omega
def polarTurnL (l : List Bool) : List Bool := if isTwo l.length then turnL l else []
theorem polarTurnL_len (l : List Bool) : (polarTurnL l).length ≤ l.length := by
  unfold polarTurnL
  split
  · rw [turnL_len]; exact Nat.le_refl _
  · exact Nat.zero_le _


theorem pc_two : ∀ n < 33, 1 ≤ n → (pcI ((n : Nat) : Int) != 1) = !isTwo n := by decide +kernel

set_option maxRecDepth 100000 in
set_option maxHeartbeats 1000000 in
theorem impl_PolarTurn_c (w : World) (A : Option Addr) (n cap : Nat) (l : List Bool) (hl : l.length = n) (hn : n ≤ 1048576) (hx : Sl w w.heap.size A (l.map Value.bool)) :
    Calls Try.prog 9 #[.slice A n cap] w fun e w' => ∃ v, e = .returned (.tuple #[v, .bool (isTwo n)]) ∧ Ow w' w.heap.size 4 v ((polarTurnL l).map Value.bool) ∧ Below w.heap.size w w' := by
  by_cases hb : 1 ≤ n ∧ n ≤ 32
  · obtain ⟨h1, h32⟩ := hb
    have hpc := pc_two n (by omega) h1
    have hcv : IntKind.u64.wrap (n : Int) = (n : Int) := IntWalk.u64_in _ (by omega)
    have hd1 : decide ((n : Int) < 1) = false := by simp; omega
    have hd2 : decide ((32 : Int) < (n : Int)) = false := by simp; omega
    cases h2 : isTwo n
    · have e2 : polarTurnL l = [] := by unfold polarTurnL; rw [hl, h2]; rfl
      rw [e2]
      clear e2
      rw [h2] at hpc
      clear h2
      go_enter Try.func9, Try.ntmps9
      go_wp2_with (go_at_call 28; refine (OnesCount_c _ _ (by omega) (by omega)).mono ?_; rintro e w' ⟨rfl, rfl⟩)
      go_ret2
      exact ⟨_, rfl, World.ownsRow_nil _ _ _ _, Below.refl _ _⟩
    · have e2 : polarTurnL l = turnL l := by unfold polarTurnL; rw [hl, h2]; rfl
      rw [e2]
      clear e2
      have hm := Lib.hid (isTwo_mem h2)
      rw [h2] at hpc
      clear h2
      go_enter Try.func9, Try.ntmps9
      go_wp2_with (go_at_call 28; refine (OnesCount_c _ _ (by omega) (by omega)).mono ?_; rintro e w' ⟨rfl, rfl⟩)
      refine (Clone_bool_c _ A n cap l hl (by omega) hx).mono ?_
      rintro e w1 ⟨v, rfl, ho, hb1⟩
      obtain ⟨A1, c1, rfl, hp1⟩ := ho.opn
      clear ho
      rw [hl] at hp1
      rw [hl]
      obtain ⟨g, c2, hv, hbg, hgs⟩ := hp1.form (by omega)
      injection hv with hv1 hv2 hv3
      subst hv1
      clear hv2 hv3
      go_wp2_with fail
      refine (impl_polarTurn_c _ _ g n c1 l hl hm.out hp1).mono ?_
      rintro e w2 ⟨rfl, ho2, hb2⟩
      go_wp2
      go_ret2
      refine ⟨_, rfl, ?_, hb1.trans hb2⟩
      unfold Ow
      rw [List.length_map, turnL_len, hl]
      exact ho2
  · have h2 : isTwo n = false := by
      unfold isTwo
      simp
      omega
    have e2 : polarTurnL l = [] := by unfold polarTurnL; rw [hl, h2]; rfl
    rw [e2, h2]
    clear e2 h2
    by_cases h1 : n < 1
    · have hd1 : decide ((n : Int) < 1) = true := by simp; omega
      go_enter Try.func9, Try.ntmps9
      go_wp2
      go_ret2
      exact ⟨_, rfl, World.ownsRow_nil _ _ _ _, Below.refl _ _⟩
    · have hd1 : decide ((n : Int) < 1) = false := by simp; omega
      have hd2 : decide ((32 : Int) < (n : Int)) = true := by simp; omega
      go_enter Try.func9, Try.ntmps9
      go_wp2
      go_ret2
      exact ⟨_, rfl, World.ownsRow_nil _ _ _ _, Below.refl _ _⟩

end Go.Proofs.Ytlcdcicdlfakgaa
