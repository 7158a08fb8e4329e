/-
  Contract: half of a gain, of the reference.
  Conditions: a coder of one to four masks; a place of the soft numbers.
-/
import Derived.Test.YtopeidmafalklaaYC
import Derived.Deep.RegionHeld3
namespace Go.Proofs.Ytopeidmafalklaa
open Go.RowKit Go.Shelf


set_option maxRecDepth 100000 in
set_option maxHeartbeats 4000000 in
theorem spec_l07Half_c (w : World) (b : Nat) (A : Option Addr) (k cap : Nat) (ms : List Int) (hl : ms.length = k) (hk1 : 1 ≤ k) (hk4 : k ≤ 4) (hr : ∀ x ∈ ms, 0 ≤ x ∧ x ≤ 31) (hb : b < w.heap.size) (f1 : w.cell? ⟨b, 1, none⟩ = some (.slice A k cap)) (hx : Sl w w.heap.size A (ms.map (Value.int .i64)))
    (A2 : Option Addr) (n2 cap2 : Nat) (xs : List Nat) (hl2 : xs.length = n2) (hy : Sl w w.heap.size A2 (xs.map (Value.float .f32))) (hcap2 : n2 ≤ cap2) (t : Nat) (ht : (t + 1) * k ≤ n2) (ht44 : t ≤ 43) (s : Nat) (hs : s ≤ 15) (c : Bool) :
    Calls Try.prog 39 #[.pointer (some ⟨b, 0, none⟩), .slice A2 n2 cap2, .int .i64 (t : Int), .int .i64 (s : Int), .bool c] w fun e w' => ∃ v, e = .returned (.float .f32 v) ∧ fl .f32 v = halfO ms (partL k xs t) s c ∧ Below w.heap.size w w' := by
  have hn2 : 0 < n2 := Nat.lt_of_lt_of_le (Nat.mul_pos (Nat.succ_pos t) hk1) ht
  obtain ⟨bx, ox, eA2, hbx, hcx⟩ := hy.get 0 (by omega)
  obtain ⟨pt, ept⟩ : ∃ pt, partL k xs t = pt := ⟨_, rfl⟩
  have hpt : pt = (xs.drop (t * k)).take k := by rw [← ept]; rfl
  have hk44 : t * k ≤ 43 * 4 := Nat.mul_le_mul ht44 hk4
  have hlo2 : (t + 1) * k = t * k + k := Nat.succ_mul t k
  obtain ⟨lo, elo⟩ : ∃ lo, t * k = lo := ⟨_, rfl⟩
  rw [hlo2] at ht
  rw [elo] at hlo2 hk44 hpt ht
  obtain ⟨hi, ehi⟩ : ∃ hi, lo + k = hi := ⟨_, rfl⟩
  rw [ehi] at hlo2 ht
  have i0 : (0 : Int) ≤ (lo : Int) := by omega
  have i1 : (lo : Int) ≤ (hi : Int) := by omega
  have i2 : (hi : Int) ≤ (cap2 : Int) := by omega
  have i3 : lo ≤ hi := by omega
  have i4 : hi ≤ cap2 := by omega
  have hhi : hi - lo = k := by omega
  have m1 : IntKind.i64.wrap ((t : Int) * (k : Int)) = (lo : Int) := by rw [← elo, ← Int.natCast_mul]; exact IntWalk.i64_in _ (by omega)
  have m2 : IntKind.i64.wrap (((t : Int) + 1) * (k : Int)) = (hi : Int) := by rw [← hlo2]; exact IntWalk.i64_in (((t + 1) * k : Nat) : Int) (by omega)
  have m3 : IntKind.i64.wrap ((t : Int) + 1) = (t : Int) + 1 := IntWalk.i64_in _ (by omega)
  have hy1 : Sl w w.heap.size (some ⟨bx, ox + lo, none⟩) (pt.map (Value.float .f32)) := by
    rw [hpt, List.map_take, List.map_drop]
    rw [eA2] at hy
    exact sl_part hy lo k
  have hptl : pt.length = k := by rw [hpt]; simp; omega
  rw [ept]
  have HX := Lib.hid hx
  have HY := Lib.hid hy1
  have HF := Lib.hid f1
  clear hcx hlo2 elo hpt ehi hx hy hy1 ept
  subst eA2
  go_enter Try.func39, Try.ntmps39
  go_wp2_with fail
  clear f1
  have f1 := HF.out
  have HH := Lib.hid hhi
  have hi_len := HH.out
  have hb0 := Below.refl w.heap.size w
  go_region_with
    (first
      | (go_at_call 75; refine (spec_l07Gain_c w3 0 w3.heap.size w.heap.size S3 _ q3 (sentL ms (2 * (s : Int) + bitI c)) rfl (by rw [sentL_len]; omega) (sl_of_own hp3) (some ⟨bx, ox + lo, none⟩) k _ pt hptl (by rw [sentL_len]; omega) (by omega) hy3).mono ?_; rintro e w4 ⟨x, rfl, hx4, q4, rfl⟩)
      | (go_at_call 76; refine (spec_l07Sends_c w.drew b w.heap.size A k cap ms hl hk4 hr hb (Nat.le_refl _) HX.out (s : Int) c (by omega) (by omega) f1).mono ?_; rintro e w3 ⟨v3, rfl, ho3, hb3⟩; have hb3 := below_undrew hb3; obtain ⟨S3, q3, rfl, hp3⟩ := ho3.opn; have hy3 := HY.out.below hb3))
  go_wp2
  go_ret
  refine ⟨_, rfl, ?_, below_drewN hb3 _⟩
  show fl .f32 (fres .mul .f32 1056964608 x w3.tape (w3.drewN q4).drawn) = _
  rw [fl_fres, hx4, sentL_len, fl0, show fl .f32 1056964608 = some 1056964608 by decide]
  rfl

end Go.Proofs.Ytopeidmafalklaa
