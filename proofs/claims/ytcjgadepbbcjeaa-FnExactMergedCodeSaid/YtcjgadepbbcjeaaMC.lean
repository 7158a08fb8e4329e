/-
  Contracts: the first bunch of the least weight is found again.
  Conditions: 1 to 1048576 bunches.
-/
import Derived.Test.YtcjgadepbbcjeaaMB
namespace Go.Proofs.Ytcjgadepbbcjeaa
open Go.RowKit

/-- bunches, to be read: a weight and a slice, two cells each -/
def Bun (W : World) (B b off : Nat) (ws : List Int) (us : List Value) : Prop :=
  b < B ∧ us.length = ws.length ∧ ∀ i, i < ws.length → W.cell? ⟨b, off + i * 2, none⟩ = some (.int .i64 (ws.getD i 0)) ∧ W.cell? ⟨b, off + i * 2 + 1, none⟩ = some (us.getD i undef)
theorem Bun.below {W W' : World} {B b off : Nat} {ws : List Int} {us : List Value} (h : Bun W B b off ws us) (hb : Below B W W') : Bun W' B b off ws us :=
  ⟨h.1, h.2.1, fun i hi => ⟨(hb.cell (p := ⟨b, off + i * 2, none⟩) h.1).trans (h.2.2 i hi).1, (hb.cell (p := ⟨b, off + i * 2 + 1, none⟩) h.1).trans (h.2.2 i hi).2⟩⟩


set_option maxRecDepth 100000 in
theorem takeLeast1_c (w : World) (a c : Int) (A : Option Addr) (n cap B : Nat) (hB : B < w.heap.size) (hc : w.cell? ⟨B, 0, none⟩ = some (.int .i64 c)) :
    Calls Try.prog 27 #[.agg #[.int .i64 a, .slice A n cap], .pointer (some ⟨B, 0, none⟩)] w fun e w' => e = .returned (.bool (a == c)) ∧ Below w.heap.size w w' := by
  obtain ⟨w1, e1⟩ : ∃ q : World, q = w.alloc (.cells #[.int .i64 a, .slice A n cap] 42) := ⟨_, rfl⟩
  have b1 : Below w.heap.size w w1 := by rw [e1]; exact (Below.refl _ _).alloc (Nat.le_refl _) _
  have c1 : w1.cell? ⟨w.heap.size, 0, none⟩ = some (.int .i64 a) := by rw [e1]; (first | (simp; done) | (simp (disch := (first | (simp; done) | (simp; omega))) [World.cell?_alloc_at]; done) | (simp (disch := (first | (simp; done) | (simp; omega))) [World.cell?_alloc_past]; done) | (simp (disch := (first | (simp; done) | (simp; omega))) [World.cell?_alloc_at, World.cell?_alloc_past]; done) | (simp (disch := (first | (simp; done) | (simp; omega))) [World.frozen?_alloc_at]; done) | (simp (disch := (first | (simp; done) | (simp; omega))) [World.frozen?_alloc_past]; done) | (simp (disch := (first | (simp; done) | (simp; omega))) [World.frozen?_alloc_at, World.frozen?_alloc_past]; done))
  have c2 : w1.cell? ⟨B, 0, none⟩ = some (.int .i64 c) := (b1.cell (p := ⟨B, 0, none⟩) hB).trans hc
  clear hc
  go_enter Try.func27, Try.ntmps27
  go_wp2_with (rw [← e1]; clear e1)
  go_ret
  exact ⟨rfl, b1⟩


set_option maxRecDepth 100000 in
set_option maxHeartbeats 1000000 in
theorem IndexFunc_bunch_c (w : World) (b off n cap B : Nat) (ws : List Int) (us : List Value) (hl : ws.length = n) (h1 : 1 ≤ n) (hn : n ≤ 1048576) (hb : Bun w w.heap.size b off ws us) (hs : ∀ u ∈ us, ∃ A k c, u = .slice A k c) (hB : B < w.heap.size) (hc : w.cell? ⟨B, 0, none⟩ = some (.int .i64 (ws.getD (leastI ws) 0))) :
    Calls Try.prog 26 #[.slice (some ⟨b, off, none⟩) n cap, .func (.func 27) #[] #[.pointer (some ⟨B, 0, none⟩)]] w fun e w' => e = .returned (.int .i64 (leastI ws : Int)) ∧ Below w.heap.size w w' := by
  have hlt := leastI_lt (ws := ws) (by omega)
  have hmin := (leastK_min ws (ws.length - 1)).2
  have hL : leastK ws (ws.length - 1) = leastI ws := rfl
  rw [hL] at hmin
  obtain ⟨L, eL⟩ : ∃ L, leastI ws = L := ⟨_, rfl⟩
  obtain ⟨c, ec⟩ : ∃ c, ws.getD L 0 = c := ⟨_, rfl⟩
  rw [eL] at hlt hmin hc ⊢
  rw [ec] at hmin hc
  have HMIN := Lib.hid hmin
  have HB := Lib.hid hb
  have HS := Lib.hid hs
  have HC := Lib.hid hc
  have HEC := Lib.hid ec
  clear hL eL hmin hb hs hc ec
  go_enter Try.func26, Try.ntmps26
  go_wp2
  go_loopw [8] (fun i wr => ∃ j : Nat, j ≤ L ∧ i = .int .i64 j ∧ Below w.heap.size w wr) (fun i _ => n - (intOf i).toNat)
  case atStart => exact ⟨0, Nat.zero_le _, rfl, Below.refl _ _⟩
  case round =>
    obtain ⟨j, hj, rfl, hbw⟩ := hrel
    have hjn : j < n := by omega
    obtain ⟨k1, k2⟩ := (HB.out.below hbw).2.2 j (by omega)
    have hju : j < us.length := by rw [HB.out.2.1]; omega
    have hgu : us.getD j undef = us[j] := by simp [List.getD, hju]
    obtain ⟨A, q, d, hu⟩ := HS.out us[j] (List.getElem_mem hju)
    rw [hgu, hu] at k2
    obtain ⟨a, ea⟩ : ∃ a, ws.getD j 0 = a := ⟨_, rfl⟩
    rw [ea] at k1
    have hz := hbw.size
    have HT := Lib.hid (takeLeast1_c wr a c A q d B (by omega) ((hbw.cell (p := ⟨B, 0, none⟩) hB).trans HC.out))
    have HEA := Lib.hid ea
    clear ea hu hgu
    by_cases hjL : j = L
    · have hac : (a == c) = true := by rw [← HEA.out, ← HEC.out, hjL]; simp
      have HJL := Lib.hid hjL
      rw [hac] at HT
      clear hac hjL
      go_wp2_with fail
      refine HT.out.mono ?_
      rintro e w2 ⟨rfl, b2⟩
      go_wp2
      go_ret
      exact ⟨ret_int (by rw [HJL.out]), hbw.trans (b2.mono hz)⟩
    · have hac : (a == c) = false := by
        have h2 := HMIN.out j (by omega)
        rw [HEA.out] at h2
        rw [beq_eq_false_iff_ne]
        omega
      rw [hac] at HT
      clear hac
      go_wp2_with fail
      refine HT.out.mono ?_
      rintro e w2 ⟨rfl, b2⟩
      go_wp2
      go_roundw
      case rel => exact ⟨j + 1, by omega, by go_num, hbw.trans (b2.mono hz)⟩
      case measure => simp [intOf]; omega

end Go.Proofs.Ytcjgadepbbcjeaa
