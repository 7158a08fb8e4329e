/-
  Contracts: what is sent at places.
  Conditions: lengths at most 1048576.
-/
import Derived.Test.YtlcdcicdlfakgaaCP
namespace Go.Proofs.Ytlcdcicdlfakgaa
open Go.RowKit

def sendR (N : Nat) (xs : List Int) (bs : List Bool) : Nat → List Bool
  | 0 => List.replicate N false
  | k + 1 => (sendR N xs bs k).set (xs.getD k 0).toNat (bs.getD k false)
theorem sendR_len (N : Nat) (xs : List Int) (bs : List Bool) (k : Nat) : (sendR N xs bs k).length = N := by
  induction k with
  | zero => simp [sendR]
  | succ k ih => simp [sendR, ih]
def sendOk (p : Int) (xs : List Int) (bs : List Bool) : Bool := placesB p xs && (bs.length == xs.length)
def sendL (p : Int) (xs : List Int) (bs : List Bool) : List Bool := if sendOk p xs bs then turnL (sendR (2 ^ p.toNat) xs bs xs.length) else []
theorem sendL_len (p : Int) (xs : List Int) (bs : List Bool) : (sendL p xs bs).length ≤ 32 := by
  unfold sendL sendOk placesB
  split
  · rename_i h
    rw [turnL_len, sendR_len]
    simp only [Bool.and_eq_true] at h
    have h1 := inB_true.1 h.1.1
    have : p.toNat ≤ 5 := by omega
    exact Nat.le_trans (Nat.pow_le_pow_right (by omega) this) (by decide)
  · simp
theorem send_n {p : Int} (h : inB p 0 5 = true) : ∃ N : Nat, N ∈ [1, 2, 4, 8, 16, 32] ∧ 2 ^ p.toNat = N ∧ wrap64 (2 ^ p.toNat) = (N : Int) ∧ (2 ^ p.toNat - 1 : Int) = N - 1 := by
  rw [inB_true] at h
  have h6 : p = 0 ∨ p = 1 ∨ p = 2 ∨ p = 3 ∨ p = 4 ∨ p = 5 := by omega
  rcases h6 with rfl | rfl | rfl | rfl | rfl | rfl <;> exact ⟨_, by decide +kernel, rfl, by decide +kernel, by decide +kernel⟩



set_option maxRecDepth 100000 in
set_option maxHeartbeats 1000000 in
theorem impl_PolarSend_b (w : World) (A A2 : Option Addr) (n cap n2 cap2 : Nat) (p : Int) (xs : List Int) (bs : List Bool) (hl : xs.length = n) (hl2 : bs.length = n2) (hn : n ≤ 1048576) (hn2 : n2 ≤ 1048576)
    (hx : Sl w w.heap.size A (xs.map (Value.int .i64))) (hy : Sl w w.heap.size A2 (bs.map Value.bool)) :
    Calls Try.prog 13 #[.int .i64 p, .slice A n cap, .slice A2 n2 cap2] w fun e w' => ∃ v, e = .returned (.tuple #[v, .bool (sendOk p xs bs)]) ∧ Ow w' w.heap.size 4 v ((sendL p xs bs).map Value.bool) ∧ Below w.heap.size w w' := by
  cases hp : placesB p xs
  · have e1 : sendOk p xs bs = false := by unfold sendOk; rw [hp]; rfl
    have e2 : sendL p xs bs = [] := by unfold sendL; rw [e1]; rfl
    rw [e1, e2]
    have HP := Lib.hid hp
    clear e1 e2 hp
    go_enter Try.func13, Try.ntmps13
    go_wp2_with (go_at_call 39; refine (impl_arePlaces_c _ _ A n cap xs hl (by omega) hx _).mono ?_; rintro e w' ⟨rfl, m, rfl⟩; rw [HP.out])
    go_ret2
    exact ⟨_, rfl, World.ownsRow_nil _ _ _ _, below_of_drewN _ _ _⟩
  · by_cases hne : n2 = n
    · subst hne
      have e1 : sendOk p xs bs = true := by unfold sendOk; rw [hp, hl, hl2]; simp
      have e2 : sendL p xs bs = turnL (sendR (2 ^ p.toNat) xs bs n2) := by unfold sendL; rw [e1, hl]; rfl
      rw [e1, e2]
      have hq := hp
      unfold placesB at hq
      rw [Bool.and_eq_true] at hq
      obtain ⟨N, hN, hN1, hN2, hN3⟩ := send_n hq.1
      have hmem := setB_mem hq.2
      rw [hN3] at hmem
      rw [hN1]
      have HP := Lib.hid hp
      have HM := Lib.hid hmem
      have HN := Lib.hid hN
      have hN32 : N ≤ 32 := by
        simp only [List.mem_cons, List.not_mem_nil, or_false] at hN
        omega
      have hp05 := inB_true.1 hq.1
      obtain ⟨hp0, hp5⟩ := hp05
      clear e1 e2 hp hq hmem hN hN1 hN3
      have he : ((n2 : Int) == (n2 : Int)) = true := by simp
      have hmk := fun W : World => run_mk (P := Try.prog) Try.underlying25 infoBool rfl (by decide) N (by omega) .i64 .i64 W
      go_enter Try.func13, Try.ntmps13
      go_wp2_with (go_at_call 39; refine (impl_arePlaces_c _ _ A n2 cap xs hl (by omega) hx _).mono ?_; rintro e w' ⟨rfl, m, rfl⟩; rw [HP.out])
      rw [hN2]
      have ho1 := own_mk (w.drewN m) w.heap.size 4 (.bool false) N (Nat.le_refl _) (by omega)
      have hb1 := (below_of_drewN w.heap.size w m).alloc (by simp) (.cells (zeroRow (.bool false) N) 4)
      have ho1 : ((w.drewN m).alloc (.cells (zeroRow (.bool false) N) 4)).ownsRow w.heap.size 4 1 (.slice (some ⟨w.heap.size, 0, none⟩) N N) N (List.replicate N (.bool false)) := ho1
      go_loopw [27] (fun t wr => ∃ k : Nat, k ≤ n2 ∧ t = .int .i64 (k : Int) ∧ wr.ownsRow w.heap.size 4 1 (.slice (some ⟨w.heap.size, 0, none⟩) N N) N ((sendR N xs bs k).map Value.bool) ∧ Below w.heap.size w wr) (fun t _ => n2 - (intOf t).toNat)
      case atStart =>
        refine ⟨0, Nat.zero_le _, rfl, ?_, hb1⟩
        simpa [sendR] using ho1
      case round =>
        clear ho1 hb1
        obtain ⟨k, hk, rfl, ho, hb⟩ := hrel
        by_cases hlt : k < n2
        · have hnx : sendR N xs bs (k + 1) = (sendR N xs bs k).set (xs.getD k 0).toNat (bs.getD k false) := rfl
          have hlen := sendR_len N xs bs k
          obtain ⟨row, hrow⟩ : ∃ row, sendR N xs bs k = row := ⟨_, rfl⟩
          rw [hrow] at hnx hlen ho
          have HX := Lib.hid hnx
          clear hnx hrow
          obtain ⟨b, off, rfl, hbb, hc1⟩ := (hx.below hb).get k (by omega)
          obtain ⟨b2, off2, rfl, hbb2, hc2⟩ := (hy.below hb).get k (by omega)
          have hm2 := HM.out (xs[k]'(by omega)) (List.getElem_mem _)
          have hk1 : xs.getD k 0 = xs[k]'(by omega) := getD_eq (by omega)
          have hk2 : bs.getD k false = bs[k]'(by omega) := by simp [List.getD, show k < bs.length by omega]
          obtain ⟨x, hxx⟩ : ∃ x, xs[k]'(by omega) = x := ⟨_, rfl⟩
          obtain ⟨y, hyy⟩ : ∃ y, bs[k]'(by omega) = y := ⟨_, rfl⟩
          rw [hxx] at hc1 hm2 hk1
          rw [hyy] at hc2 hk2
          rw [hk1, hk2] at HX
          obtain ⟨q, rfl⟩ : ∃ q : Nat, x = q := ⟨x.toNat, by omega⟩
          rw [Int.toNat_natCast] at HX
          have hqN : q < N := by omega
          have hfz := ho.frozenAt q
          have hc3 := bool_cell ho hqN hlen
          have hst := ho.stored q (.bool y)
          have HS := Lib.hid hst
          clear hst hm2 hxx hyy hx hy hk1 hk2 ho
          go_wp2
          go_roundw
          case rel =>
            refine ⟨k + 1, by omega, by go_num, ?_, hb.setCell (p := ⟨w.heap.size, q, none⟩) (Nat.le_refl _) _⟩
            rw [HX.out, List.map_set]
            exact HS.out.1
          case measure => simp [intOf]; omega
        · have : k = n2 := by omega
          subst this
          go_wp2_with (go_at_call 29; refine (impl_polarTurn_c _ w.heap.size w.heap.size N N _ (sendR_len _ _ _ _) HN.out ho).mono ?_; rintro e w' ⟨rfl, ho2, hb2⟩)
          go_ret2
          refine ⟨_, rfl, ?_, hb.trans hb2⟩
          unfold Ow
          rw [List.length_map, turnL_len, sendR_len]
          exact ho2
    · have e1 : sendOk p xs bs = false := by unfold sendOk; rw [hl, hl2]; simp [hne]
      have e2 : sendL p xs bs = [] := by unfold sendL; rw [e1]; rfl
      rw [e1, e2]
      have HP := Lib.hid hp
      have he : ((n2 : Int) == (n : Int)) = false := by simp; omega
      clear e1 e2 hp
      go_enter Try.func13, Try.ntmps13
      go_wp2_with (go_at_call 39; refine (impl_arePlaces_c _ _ A n cap xs hl (by omega) hx _).mono ?_; rintro e w' ⟨rfl, m, rfl⟩; rw [HP.out])
      go_ret2
      exact ⟨_, rfl, World.ownsRow_nil _ _ _ _, below_of_drewN _ _ _⟩

theorem impl_PolarSend_c (w : World) (p : Int) (A : Option Addr) (n cap : Nat) (xs : List Int) (hl : xs.length = n) (hn : n ≤ 1048576) (hx : Sl w w.heap.size A (xs.map (Value.int .i64)))
    (A2 : Option Addr) (n2 cap2 : Nat) (bs : List Bool) (hl2 : bs.length = n2) (hn2 : n2 ≤ 1048576) (hy : Sl w w.heap.size A2 (bs.map Value.bool)) :
    Calls Try.prog 13 #[.int .i64 p, .slice A n cap, .slice A2 n2 cap2] w fun e w' => ∃ v, e = .returned (.tuple #[v, .bool (sendOk p xs bs)]) ∧ Ow w' w.heap.size 4 v ((sendL p xs bs).map Value.bool) ∧ Below w.heap.size w w' :=
  impl_PolarSend_b w A A2 n cap n2 cap2 p xs bs hl hl2 hn hn2 hx hy

end Go.Proofs.Ytlcdcicdlfakgaa
