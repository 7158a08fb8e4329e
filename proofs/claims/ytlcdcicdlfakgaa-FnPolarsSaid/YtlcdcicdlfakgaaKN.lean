/-
  Plain: the numbers of FnPolars, all cases computed.
  Conditions: losses of sixteenths, at most 32 places.
-/
import Derived.Test.YtlcdcicdlfakgaaKL
namespace Go.Proofs.Ytlcdcicdlfakgaa
open Go.RowKit

def lostW (b : Nat) : Nat := vop .quo (floatOfInt .f32 (b : Int)) 1098907648
def widW (z : Nat) : Nat := (floatToFloatBits .f32 z .f64).getD 0
/-- the sum of the first k in double precision -/
def sumO (L : List Nat) (k : Nat) : Option Nat := (L.take k).foldlM (fun s z => floatBits .add .f64 s (widW z)) 0
theorem sumO_succ {L : List Nat} {k : Nat} (h : k < L.length) : sumO L (k + 1) = (sumO L k).bind fun s => floatBits .add .f64 s (widW L[k]) := by
  unfold sumO
  rw [List.take_succ_eq_append_getElem h, List.foldlM_append]
  show (Option.bind _ _) = _
  congr 1
  funext s
  simp
theorem sumO_some {L : List Nat} {n : Nat} (h : (sumO L n).isSome = true) (hn : n ≤ L.length) : ∀ d k, n = k + d → (sumO L k).isSome = true := by
  intro d
  induction d with
  | zero => intro k hk; have e : n = k := by omega
            rw [← e]; exact h
  | succ d ih =>
    intro k hk
    have h1 := ih (k + 1) (by omega)
    rw [sumO_succ (by omega)] at h1
    cases hs : sumO L k with
    | none => rw [hs] at h1; cases h1
    | some s => rfl
def gapO (s m : Nat) : Option Nat := if FloatKind.f64.format.order s m == some .lt then floatBits .sub .f64 m s else floatBits .sub .f64 s m
/-- the gap is small -/
def gapB (b n s : Nat) : Bool :=
  match floatBits .mul .f64 (widW (lostW b)) (floatOfInt .f64 (n : Int)), floatBits .mul .f64 4562254508917369340 (floatOfInt .f64 (n : Int)) with
  | some m, some q => match gapO s m with
    | some g => !(FloatKind.f64.format.order g q == some .gt)
    | none => false
  | _, _ => false
def lossB (b P : Nat) : Bool :=
  let L := lossIt (lostW b) P
  (L.all fun z => (floatToFloatBits .f32 z .f64).isSome && decide (0 ≤ keyW z)) && (match sumO L (2 ^ P) with | some s => gapB b (2 ^ P) s | none => false)
set_option maxRecDepth 100000 in
theorem loss_all : ∀ b : Nat, b < 17 → floatBits .quo .f32 (floatOfInt .f32 (b : Int)) 1098907648 = some (lostW b) ∧ shareB (lostW b) = true ∧ (floatToFloatBits .f32 (lostW b) .f64).isSome = true ∧ ∀ P : Nat, P < 6 → lossB b P = true := by decide +kernel
def hvW (k : Nat) : Nat := vop .quo (floatOfInt .f32 (k : Int)) 1073741824
theorem hv_all : ∀ k : Nat, k < 8 → floatBits .quo .f32 (floatOfInt .f32 ((k + 1 : Nat) : Int)) 1073741824 = some (hvW (k + 1)) ∧ hvW (k + 1) % 2147483648 < (3 + 127) * 8388608 ∧ 1 ≤ hvW (k + 1) % 2147483648 ∧ hvW (k + 1) / 2147483648 = 0 := by decide +kernel
theorem hv_amp {k : Nat} (h : k < 8) : Amp 3 true (hvW (k + 1)) := ⟨(hv_all k h).2.1, (hv_all k h).2.2.1, (hv_all k h).2.2.2⟩
theorem key_m1 : keyW 3212836864 < 0 := by decide +kernel

end Go.Proofs.Ytlcdcicdlfakgaa
