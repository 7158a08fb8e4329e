/-
  Contracts: the other code of a code, of the program.
  Conditions: valid codes.
-/
import Derived.Test.YtldnhflgpbcmeaaEF
namespace Go.Proofs.Ytldnhflgpbcmeaa
open Go.RowKit

def tK (E : List Int) (k : Nat) : Nat := ors (fun _ => true) (TT E) 0 k
def wK (E : List Int) (i k : Nat) : Nat := ors (fun q => (rowF E q).testBit i) (TT E) (2 ^ i) k
theorem tK_succ (E : List Int) (k : Nat) : tK E (k + 1) = tK E k ||| 2 ^ TT E k := rfl
theorem wK_succ (E : List Int) (i k : Nat) : wK E i (k + 1) = if (rowF E k).testBit i then wK E i k ||| 2 ^ TT E k else wK E i k := rfl
def dK (E : List Int) (n i : Nat) : List Int := (((List.range i).filter fun b => !(topsN (TT E) n).testBit b).map (wordN (rowF E) (TT E) n)).map fun x : Nat => (x : Int)
theorem dK_skip {E : List Int} {n i : Nat} (h : (topsN (TT E) n).testBit i = true) : dK E n (i + 1) = dK E n i := by
  unfold dK
  rw [List.range_succ, List.filter_append]
  simp [h]
theorem dK_take {E : List Int} {n i : Nat} (h : (topsN (TT E) n).testBit i = false) : dK E n (i + 1) = dK E n i ++ [((wK E i n : Nat) : Int)] := by
  unfold dK
  rw [List.range_succ, List.filter_append]
  simp [h]
  rfl
theorem dK_len (E : List Int) (n i : Nat) : (dK E n i).length ≤ i := by
  unfold dK
  rw [List.length_map, List.length_map]
  exact Nat.le_trans (List.length_filter_le _ _) (by rw [List.length_range]; exact Nat.le_refl _)
/-- what the walk needs of rows in steps -/
structure Ew (M n : Nat) (E : List Int) : Prop where
  m : M ≤ 16
  len : E.length = n
  pos : ∀ q, q < n → rowF E q ≠ 0
  lt : ∀ q, q < n → rowF E q < 65536
  tt : ∀ q, q < n → TT E q < 16
  val : ∀ q, E.getD q 0 = ((rowF E q : Nat) : Int)
theorem Du.ew {M : Nat} {xs : List Int} (h : Du M xs) : Ew M xs.length (echL M xs) := by
  have hM := h.m
  have hp := pow16N hM
  refine ⟨h.m, h.el, fun q hq e => ?_, fun q _ => ?_, fun q hq => ?_, fun q => (rowF_cast h.em q).symm⟩
  · have := h.ec.one q (by rw [h.el]; exact hq)
    rw [e, Nat.zero_testBit] at this
    cases this
  · have := rowF_lt h.em q; omega
  · have := h.ec.lt (fun i _ => rowF_lt h.em i) (q := q) (by rw [h.el]; exact hq); omega
theorem tK_lt {M n : Nat} {E : List Int} (h : Ew M n E) {k : Nat} (hk : k ≤ n) : tK E k < 65536 := ors_lt (m := 16) (by decide) k fun q hq => h.tt q (by omega)
theorem wK_lt {M n : Nat} {E : List Int} (h : Ew M n E) {i k : Nat} (hi : i < 16) (hk : k ≤ n) : wK E i k < 65536 := ors_lt (m := 16) (Nat.pow_lt_pow_right (by decide) hi) k fun q hq => h.tt q (by omega)
theorem or_step {a l : Nat} (ha : a < 65536) (hl : l < 16) : bits .or .i64 (a : Int) (wrap64 (2 ^ l)) = ((a ||| 2 ^ l : Nat) : Int) := by
  rw [(wrap16 (M := l) (by omega)).2.1]
  have := or_nat a (2 ^ l) ha (Nat.lt_of_lt_of_le (Nat.pow_lt_pow_right (by decide) hl) (by decide))
  rw [← this]
  push_cast
  rfl

set_option maxRecDepth 100000 in
set_option maxHeartbeats 2000000 in
theorem impl_dual_c (w : World) (M : Nat) (A : Option Addr) (n cap : Nat) (xs : List Int) (hl : xs.length = n) (hx : Sl w w.heap.size A (xs.map (Value.int .i64))) (hv : validParB (M : Int) xs = true) :
    Calls Try.prog 47 #[.agg #[.int .i64 (M : Int), .slice A n cap]] w fun e w' => ∃ v, e = .returned v ∧ Ow w' w.heap.size 2 v ((dualL M xs).map (Value.int .i64)) ∧ Below w.heap.size w w' := by
  have hd := du_of hv
  have hm := hd.m
  have h1 := hd.n1
  have h8 := hd.n8
  have hew := hd.ew
  have hdl : dualL M xs = dK (echL M xs) n M := by unfold dualL dualN freeL dK; rw [hd.el, hl]
  rw [hl] at h1 h8 hew
  rw [hdl]
  clear hd hdl
  obtain ⟨E, hE⟩ : ∃ E, echL M xs = E := ⟨_, rfl⟩
  have hE' : (stepsOf (M : Int) xs).1 = E := hE
  rw [hE] at hew ⊢
  clear hE
  obtain ⟨w1, e1⟩ : ∃ q : World, q = w.alloc (.cells #[.int .i64 (M : Int), .slice A n cap] 27) := ⟨_, rfl⟩
  have b1 : Below w.heap.size w w1 := by rw [e1]; exact (Below.refl _ _).alloc (Nat.le_refl _) _
  have z1 : w1.heap.size = w.heap.size + 1 := by rw [e1]; simp
  have hq : Obj w1 w.heap.size 27 #[.int .i64 (M : Int), .slice A n cap] := by rw [e1]; exact Obj.new _ _ _
  have hx1 := (hx.below b1).more b1.size
  obtain ⟨⟨c0, c1⟩, -⟩ := hq.two
  have HX := Lib.hid hx1
  have HQ := Lib.hid hq
  clear hx hx1 hq hv
  go_enter Try.func47, Try.ntmps47
  go_wp2_with (rw [← e1]; clear e1)
  clear c0 c1
  refine (impl_echelon_c w1 M hm A n cap xs hl h1 h8 HX.out).mono ?_
  rintro e w2 ⟨v, rfl, ho, b2⟩
  obtain ⟨S, kc, rfl, hp⟩ := ho.opn
  clear ho
  rw [hE', hew.len] at hp
  rw [hE', hew.len]
  obtain ⟨g, kc, hv2, hbg, hgs⟩ := hp.form h1
  cases hv2
  clear hE'
  have z2 := b2.size
  have hq := HQ.out.below b2 (by omega)
  have hcell : ∀ k, k < n → w2.cell? ⟨g, k, none⟩ = some (.int .i64 ((rowF E k : Nat) : Int)) := fun k hk => by rw [row_cell hp hk, hew.val]
  have hgz : g < w2.heap.size := by have := own_in hp g rfl; omega
  have HW := Lib.hid hew
  have HC := Lib.hid hcell
  have HQ2 := Lib.hid hq
  clear hew hcell hq hp
  go_wp2_with fail
  go_loopw [5, 23] (fun t i wr => ∃ k : Nat, k ≤ n ∧ i = .int .i64 k ∧ t = .int .i64 (tK E k : Int) ∧ wr = w2) (fun _ i _ => n - (intOf i).toNat)
  case atStart => exact ⟨0, Nat.zero_le _, rfl, rfl, rfl⟩
  case round =>
    obtain ⟨k, hk, rfl, rfl, rfl⟩ := hrel
    by_cases hlt : k < n
    · have hc1 := HC.out k hlt
      have hT := HW.out.tt k hlt
      have hst := tK_succ E k
      have hor := or_step (tK_lt HW.out hk) hT
      rw [← hst] at hor
      have h0 := HW.out.pos k hlt
      have hr := HW.out.lt k hlt
      have HTO := Lib.hid (fun W => impl_topOf_c W (rowF E k) h0 hr)
      have HOR := Lib.hid hor
      have eT : (rowF E k).log2 = TT E k := rfl
      rw [eT] at HTO
      obtain ⟨l, hl2⟩ : ∃ l, TT E k = l := ⟨_, rfl⟩
      rw [hl2] at HTO HOR hT
      clear hst hor h0 hr eT hl2
      go_wp2_with (go_at_call 57; refine (HTO.out _).mono ?_; rintro e w' ⟨rfl, rfl⟩)
      go_roundw
      case rel => exact ⟨k + 1, by omega, by go_num, congrArg (Value.int .i64) HOR.out, trivial⟩
      case measure => simp [intOf]; omega
    · obtain rfl : k = n := by omega
      obtain ⟨wo, rfl⟩ : ∃ wo : World, wo = wr := ⟨_, rfl⟩
      obtain ⟨w3, e3⟩ : ∃ q : World, q = wo.alloc (.cells #[] 2) := ⟨_, rfl⟩
      have ho0 := own_empty wo wo.heap.size 2 (Nat.le_refl _)
      rw [← e3] at ho0
      have b3 : Below wo.heap.size wo w3 := by rw [e3]; exact (Below.refl _ _).alloc (Nat.le_refl _) _
      have hq := HQ2.out.below b3 (by omega)
      have z3 := b3.size
      have hc3 : ∀ j, j < k → w3.cell? ⟨g, j, none⟩ = some (.int .i64 ((rowF E j : Nat) : Int)) := fun j hj => (b3.cell (p := ⟨g, j, none⟩) (by simpa using hgz)).trans (HC.out j hj)
      have HC3 := Lib.hid hc3
      obtain ⟨⟨c0, c1⟩, -⟩ := hq.two
      have B3 : Below w.heap.size w w3 := (b1.trans (b2.mono b1.size)).trans (b3.mono (by omega))
      obtain ⟨T, hT⟩ : ∃ T, tK E k = T := ⟨_, rfl⟩
      have hTb : T < 65536 := by rw [← hT]; exact tK_lt HW.out hk
      rw [hT]
      have HT := Lib.hid hT
      obtain ⟨D, hD⟩ : ∃ D, wo.heap.size = D := ⟨_, rfl⟩
      rw [hD] at ho0 b3 z3 hgz
      have HB3 := Lib.hid b3
      clear HC HQ2 hc3 hq hT hlt
      go_wp2_with (rw [← e3]; clear e3)
      clear c0 c1
      go_loopw [8, 36] (fun v i wq => ∃ j : Nat, j ≤ M ∧ i = .int .i64 j ∧ Ow wq D 2 v ((dK E k j).map (Value.int .i64)) ∧ Below D w3 wq) (fun _ i _ => M - (intOf i).toNat)
      case atStart => exact ⟨0, Nat.zero_le _, rfl, ho0, Below.refl _ _⟩
      case round =>
        obtain ⟨j, hj, rfl, ho, hb⟩ := hrel
        clear ho0
        have zq := hb.size
        by_cases hjM : j < M
        · have hdg := hasD_bit j hTb
          have htp : topsN (TT E) k = T := HT.out
          cases hbit : T.testBit j
          · rw [hbit] at hdg
            have hst := dK_take (E := E) (n := k) (i := j) (by rw [htp]; exact hbit)
            have HS := Lib.hid hst
            have HD := Lib.hid hdg
            have hw0 : wrap64 (2 ^ j) = ((wK E j 0 : Nat) : Int) := by
              rw [(wrap16 (M := j) (by omega)).2.1]
              show _ = ((2 ^ j : Nat) : Int)
              push_cast
              rfl
            have HW0 := Lib.hid hw0
            have HO := Lib.hid ho
            have HB := Lib.hid hb
            clear hst hdg hbit htp hw0 ho hb
            go_wp2_with (go_at_call 32; refine (impl_hasDigit_c _ _ _ (by omega) (by omega)).mono ?_; rintro e w' ⟨rfl, rfl⟩; rw [HD.out])
            obtain ⟨wp, rfl⟩ : ∃ wp : World, wp = wr := ⟨_, rfl⟩
            go_loopw [10, 46] (fun t i wr => ∃ q : Nat, q ≤ k ∧ i = .int .i64 q ∧ t = .int .i64 (wK E j q : Int) ∧ wr = wp) (fun _ i _ => k - (intOf i).toNat)
            case atStart => exact ⟨0, Nat.zero_le _, rfl, congrArg (Value.int .i64) HW0.out, rfl⟩
            case round =>
              obtain ⟨q, hq, rfl, rfl, rfl⟩ := hrel
              by_cases hlt : q < k
              · have hc1 := (HB.out.cell (p := ⟨g, q, none⟩) (by simp only []; omega)).trans (HC3.out q hlt)
                have hd2 := hasD_bit j (HW.out.lt q hlt)
                have hsu := wK_succ E j q
                have hT := HW.out.tt q hlt
                have hor := or_step (wK_lt HW.out (i := j) (k := q) (by omega) hq) hT
                have h0 := HW.out.pos q hlt
                have hr := HW.out.lt q hlt
                have HTO := Lib.hid (fun W => impl_topOf_c W (rowF E q) h0 hr)
                have eT : (rowF E q).log2 = TT E q := rfl
                rw [eT] at HTO
                obtain ⟨x, hx⟩ : ∃ x, rowF E q = x := ⟨_, rfl⟩
                rw [hx] at hc1 hd2 hsu HTO
                cases hb2 : x.testBit j
                · rw [hb2] at hd2 hsu
                  have HD2 := Lib.hid hd2
                  have HSU := Lib.hid hsu
                  clear hd2 hsu hor h0 hr HTO eT hx hT hb2
                  go_wp2_with (go_at_call 32; refine (impl_hasDigit_c _ _ _ (by omega) (by omega)).mono ?_; rintro e w' ⟨rfl, rfl⟩; rw [HD2.out])
                  go_roundw
                  case rel => exact ⟨q + 1, by omega, by go_num, by rw [HSU.out]; rfl, trivial⟩
                  case measure => simp [intOf]; omega
                · rw [hb2, if_pos rfl] at hsu
                  rw [hb2] at hd2
                  rw [← hsu] at hor
                  have HD2 := Lib.hid hd2
                  have HOR := Lib.hid hor
                  obtain ⟨l, hl2⟩ : ∃ l, TT E q = l := ⟨_, rfl⟩
                  rw [hl2] at HTO HOR hT
                  clear hd2 hsu hor h0 hr eT hx hb2 hl2
                  go_wp2_with (first
                    | (go_at_call 32; refine (impl_hasDigit_c _ _ _ (by omega) (by omega)).mono ?_; rintro e w' ⟨rfl, rfl⟩; rw [HD2.out])
                    | (go_at_call 57; refine (HTO.out _).mono ?_; rintro e w' ⟨rfl, rfl⟩))
                  go_roundw
                  case rel => exact ⟨q + 1, by omega, by go_num, congrArg (Value.int .i64) HOR.out, trivial⟩
                  case measure => simp [intOf]; omega
              · obtain rfl : q = k := by omega
                obtain ⟨wp, rfl⟩ : ∃ wp : World, wp = wr := ⟨_, rfl⟩
                obtain ⟨y, hy⟩ : ∃ y, ((wK E j q : Nat) : Int) = y := ⟨_, rfl⟩
                have hln := dK_len E q j
                have hlen : ((dK E q j).map (Value.int .i64)).length + 1 ≤ 1099511627776 := by rw [List.length_map]; omega
                rw [hy]
                have HY := Lib.hid hy
                clear hy
                go_wp2_with (at_builtin; refine app1 Try.underlying25 infoInt64 rfl (by decide) rfl _ _ rfl _ _ _ rfl (HO.out.alloc _) _ _ _ rfl (cell_new1 _ _ _) rfl hlen (by simp; omega) ?_; intro v' w4 ho4 hb4)
                go_roundw
                case rel =>
                  refine ⟨j + 1, by omega, by go_num, ?_, (HB.out.alloc (by omega) _).trans hb4⟩
                  rw [HS.out, HY.out, List.map_append]
                  exact ho4
                case measure => simp [intOf]; omega
          · rw [hbit] at hdg
            have hst := dK_skip (E := E) (n := k) (i := j) (by rw [htp]; exact hbit)
            have HS := Lib.hid hst
            have HD := Lib.hid hdg
            clear hst hdg hbit htp
            go_wp2_with (go_at_call 32; refine (impl_hasDigit_c _ _ _ (by omega) (by omega)).mono ?_; rintro e w' ⟨rfl, rfl⟩; rw [HD.out])
            go_roundw
            case rel => exact ⟨j + 1, by omega, by go_num, by rw [HS.out]; exact ho, hb⟩
            case measure => simp [intOf]; omega
        · obtain rfl : j = M := by omega
          go_wp2
          go_ret
          exact ⟨_, rfl, own_base ho (by omega), B3.trans (hb.mono (by omega))⟩

end Go.Proofs.Ytldnhflgpbcmeaa
