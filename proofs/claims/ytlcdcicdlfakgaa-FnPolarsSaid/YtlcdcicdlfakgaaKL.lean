/-
  Contracts: PolarRead of soft numbers of known signs.
  Conditions: as the theorem says.
-/
import Derived.Test.YtlcdcicdlfakgaaKJ
import Derived.Test.YtlcdcicdlfakgaaKD
import Derived.Test.YtlcdcicdlfakgaaCP
import Derived.Test.YtlcdcicdlfakgaaCQ
namespace Go.Proofs.Ytlcdcicdlfakgaa
open Go.RowKit

theorem far_of_sl {w : World} {B rb r : Nat} {A : Option Addr} {xs : List Value} (h : Sl w B A xs) (hB : B ≤ w.heap.size) (h1 : B ≤ rb) (h2 : B ≤ r) : Far w rb r A xs := by
  rcases h with h | ⟨b, off, e, hb, hc⟩
  · exact .inl h
  · exact .inr ⟨b, off, e, by omega, by omega, by omega, hc⟩
/-- an empty literal and the box that holds it -/
theorem rd_new (W : World) (D : Nat) (hD : D ≤ W.heap.size) : Rd ((W.alloc (.cells #[] 4)).alloc (.cells #[.slice (some ⟨W.heap.size, 0, none⟩) 0 0] 25)) D (W.heap.size + 1) W.heap.size [] := by
  refine ⟨0, ?_, World.ownsRow.alloc (own_empty W D 4 hD) _⟩
  have := heap_alloc_new (W.alloc (.cells #[] 4)) (.cells #[.slice (some ⟨W.heap.size, 0, none⟩) 0 0] 25)
  simpa [Boxed] using this


set_option maxRecDepth 100000 in
set_option maxHeartbeats 4000000 in
theorem impl_PolarRead_c (w : World) (B : Nat) (P np capp n cap amp : Nat) (Ap A : Option Addr) (pl : List Int) (soft : List Nat) (U : Nat → Bool) (hP : P ≤ 5) (hn : n = 2 ^ P) (hnp : pl.length = np) (hnp2 : np ≤ 32) (hpl : placesB (P : Int) pl = true) (hUp : ∀ k, U k = true → (k : Int) ∈ pl)
    (hl : soft.length = n) (hcap : n ≤ cap) (hamp : amp ≤ 50) (hx : ∀ i (h : i < soft.length), Amp amp (enc U P i) soft[i]) (hB : B ≤ w.heap.size) (hA : Sl w B A (soft.map (Value.float .f32))) (hAp : Sl w B Ap (pl.map (Value.int .i64))) :
    Calls Try.prog 15 #[.int .i64 (P : Int), .slice Ap np capp, .slice A n cap] w fun e w' => ∃ v, e = .returned (.tuple #[v, .bool true]) ∧ Ow w' B 4 v ((readsOf U pl 0 n).map Value.bool) ∧ Below B w w' := by
  obtain ⟨N, hN1, hN32, hN, hw1, hw2⟩ := pow_n hP
  have hnN : n = N := by rw [hn, hN]
  have hfin : (soft.all fun x => finB (fl .f32 x)) = true := by
    rw [List.all_eq_true]
    intro z hz
    obtain ⟨i, hi, rfl⟩ := List.getElem_of_mem hz
    exact low_fin (by omega) (hx i hi).low
  have hsoft : softB soft = true := by
    unfold softB
    rw [hfin, hl, decide_eq_true (Nat.le_trans (Nat.le_of_eq hnN) (Nat.le_trans hN32 (by decide)))]
    rfl
  have HIH := Lib.hid (PR_all B (w.heap.size + 1) np U pl hnp (by omega) hUp P hP)
  have HPL := Lib.hid hpl
  have HPP : Hid (amp + 2 * P ≤ 100) := Lib.hid (by omega)
  have HS := Lib.hid hsoft
  have HA := Lib.hid hA
  have HAP := Lib.hid hAp
  have HX := Lib.hid hx
  have HN := Lib.hid hn
  have HW1 := Lib.hid hw1
  have HW2 := Lib.hid hw2
  subst hnN
  have hnn : ((n : Int) == wrap64 (2 ^ P)) = true := by rw [hw1]; simp
  have hnn2 : ((n : Int) != wrap64 (2 ^ P)) = false := by rw [hw1]; simp
  have hnn3 : ((n : Int) != wrap64 (2 ^ min P 64)) = false := by rw [Nat.min_eq_left (by omega)]; exact hnn2
  clear hpl hsoft hx hn hw1 hw2 hfin hUp hP hN
  go_enter Try.func15, Try.ntmps15
  go_wp2_with (first
    | (go_at_call 39; refine (impl_arePlaces_c _ _ Ap np capp pl hnp (by omega) hAp _).mono ?_; rintro e w' ⟨rfl, m1, rfl⟩; rw [HPL.out])
    | (go_at_call 40; refine (impl_IsSoft_c _ _ A n cap soft hl (hA.drewN _)).mono ?_; rintro e w' ⟨rfl, m2, rfl⟩; rw [HS.out]; (try rw [HW1.out]); (try rw [HW2.out])))
  have h100 : amp + 2 * P ≤ 100 := HPP.out
  have hrd := rd_new (w.drewN (m1 + m2)) B hB
  have hb1 : Below w.heap.size w (((w.drewN (m1 + m2)).alloc (.cells #[] 4)).alloc (.cells #[.slice (some ⟨w.heap.size, 0, none⟩) 0 0] 25)) :=
    ((below_of_drewN w.heap.size w (m1 + m2)).alloc (Nat.le_refl _) _).alloc (by simp) _
  obtain ⟨w1, ew⟩ : ∃ w1 : World, w1 = (((w.drewN (m1 + m2)).alloc (.cells #[] 4)).alloc (.cells #[.slice (some ⟨w.heap.size, 0, none⟩) 0 0] 25)) := ⟨_, rfl⟩
  have hrd : Rd w1 B (w.heap.size + 1) w.heap.size [] := by rw [ew]; exact hrd
  rw [← ew] at hb1 ⊢
  clear ew
  have hbB := hb1.mono hB
  have hBw : B ≤ w1.heap.size := Nat.le_trans hB hbB.size
  refine (HIH.out w1 w.heap.size [] A Ap cap capp n 0 0 amp soft HN.out (by simp) (by omega) h100 hl hcap (fun i hi => by rw [Nat.zero_add]; exact HX.out i hi) (far_of_sl (HA.out.below hbB) hBw (by omega) hB) (far_of_sl (HAP.out.below hbB) hBw (by omega) hB) hrd hBw (by simp; omega)).mono ?_
  rintro e w2 ⟨v, r1, B1, rfl, hk, hr, hv, hB1, hrB⟩
  obtain ⟨cap2, hbx, hrow⟩ := hr
  have cb := hbx.cell
  have HB2 := Lib.hid (hbB.trans (hk.below (by omega) hB hBw))
  have HRW := Lib.hid hrow
  clear hbx hrow hk hv
  go_wp2_with fail
  go_ret2
  exact ⟨_, rfl, by simpa using HRW.out, HB2.out⟩

end Go.Proofs.Ytlcdcicdlfakgaa
