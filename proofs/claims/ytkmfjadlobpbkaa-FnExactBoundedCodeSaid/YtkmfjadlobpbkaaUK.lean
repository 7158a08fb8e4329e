/-
  Contracts: the stable sort of int64 of a row of the call's own.
  Conditions: at most 39 places, that hold their own numbers at first.
-/
import Derived.Test.YtkmfjadlobpbkaaUN
namespace Go.Proofs.Ytkmfjadlobpbkaa
open Go.RowKit

theorem parts_of {q1 q2 : Nat → Nat} {n k : Nat} {key : Nat → Int} (s1 : Srt key q1 0 k) (f1 : Shuf (fun i => i) q1 0 k) (s2 : Srt key q2 k n) (f2 : Shuf q1 q2 k n) (_hk : k ≤ n) : Parts key q2 0 k n ∧ Shuf (fun i => i) q2 0 n := by
  refine ⟨⟨s1.same fun i h1 h2 => f2.out i (by omega), s2, fun i j h1 h2 h3 h4 => ?_⟩, (f1.wide (Nat.le_refl _) _hk).trans (f2.wide (Nat.zero_le _) (Nat.le_refl _))⟩
  rw [f2.out i (by omega)]
  obtain ⟨x, x1, x2, x3⟩ := (f1.img (q1 i)).1 ⟨i, h1, h2, rfl⟩
  obtain ⟨y, y1, y2, y3⟩ := (f2.img (q2 j)).1 ⟨j, h3, h4, rfl⟩
  rw [← x3, ← y3, f1.out y (by omega)]
  show x < y
  omega


set_option maxRecDepth 100000 in
set_option maxHeartbeats 8000000 in
theorem stable_c (w : World) (base g n cap : Nat) (ts : List (Int × Value)) (key : Nat → Int) (cz : Nat → Nat → Int) (hn : n ≤ 39) (h : RowS w base g n cap ts (fun i => i)) (hC : Cmp ts key cz ∧ Sls ts) :
    Calls Try.prog 29 #[.slice (some ⟨g, 0, none⟩) n cap, .int .i64 n, cmpV] w fun e w' => e = .returned (.tuple #[]) ∧ ∃ q, RowS w' base g n cap ts q ∧ Srt key q 0 n ∧ Shuf (fun i => i) q 0 n ∧ w.grownBy w' (some g) := by
  have H0 := Lib.hid h
  have HC := Lib.hid hC
  clear h hC
  by_cases h20 : 20 ≤ n
  · have HI1 := Lib.hid (insertion_c w base g n cap ts (fun i => i) key cz 0 20 (Nat.zero_le _) h20 (by omega) H0.out (fun i hi => hi) (fun i _ _ => rfl) HC.out)
    unfold cmpV at *
    have d1 : decide ((20 : Int) ≤ (n : Int)) = true := decide_eq_true (by omega)
    have d2 : decide ((40 : Int) ≤ (n : Int)) = false := decide_eq_false (by omega)
    go_enter Try.func29, Try.ntmps29
    go_wp2
    go_loopw [7, 8] (fun x y wr => (x = .int .i64 0 ∧ y = .int .i64 20 ∧ wr = w) ∨ (x = .int .i64 20 ∧ y = .int .i64 40 ∧ ∃ q1, RowS wr base g n cap ts q1 ∧ Srt key q1 0 20 ∧ Shuf (fun i => i) q1 0 20 ∧ w.grownBy wr (some g))) (fun x _ _ => 20 - (intOf x).toNat)
    case atStart => exact .inl ⟨rfl, rfl, rfl⟩
    case round =>
      rcases hrel with ⟨rfl, rfl, hw⟩ | ⟨rfl, rfl, q1, hr, hs, hf, hg⟩
      · rw [hw]
        clear hw
        go_wp2_with fail
        refine HI1.out.mono ?_
        rintro e w1 ⟨rfl, q, h1, s1, f1, g1⟩
        go_wp2_with fail
        go_roundw
        case rel => exact .inr ⟨rfl, rfl, q, h1, s1, f1, g1⟩
        case measure => simp [intOf]
      · obtain ⟨w1, rfl⟩ : ∃ q' : World, q' = wr := ⟨_, rfl⟩
        have hlt : ∀ i, i < n → q1 i < n := fun i hi => shuf_lt hf h20 (fun j hj => hj) hi
        have HI2 := Lib.hid (insertion_c w1 base g n cap ts q1 key cz 20 n h20 (Nat.le_refl _) (by omega) hr hlt (fun i i1 i2 => hf.out i (by omega)) HC.out)
        unfold cmpV at *
        have HS := Lib.hid hs
        have HF := Lib.hid hf
        have HG := Lib.hid hg
        have HLT := Lib.hid hlt
        clear hs hf hg hr hlt
        go_wp2_with fail
        refine HI2.out.mono ?_
        rintro e w2 ⟨rfl, q2, h2, s2, f2, g2⟩
        have hparts := parts_of HS.out HF.out s2 f2 h20
        have HPT := Lib.hid hparts
        have HR2 := Lib.hid h2
        have HG2 := Lib.hid (grownT HG.out g2)
        have HLT2 : Hid (∀ i, i < n → q2 i < n) := Lib.hid (fun i hi => shuf_lt f2 (Nat.le_refl _) HLT.out hi)
        have HS2 := Lib.hid s2
        clear hparts h2 s2 f2 g2
        by_cases hn20 : n = 20
        · have d3 : decide ((20 : Int) < (n : Int)) = false := decide_eq_false (by omega)
          have HS3 : Hid (Srt key q2 0 n) := Lib.hid (by
            have h := HPT.out.1.l
            rwa [← hn20] at h)
          go_wp2_with fail
          go_loopw [6] (fun x wr => x = .int .i64 20 ∧ wr = w2) (fun _ _ => 0)
          case atStart => exact ⟨rfl, rfl⟩
          case round =>
            obtain ⟨rfl, hw⟩ := hrel
            rw [hw]
            clear hw
            go_wp2_with fail
            go_end0
            exact ⟨rfl, q2, HR2.out, HS3.out, HPT.out.2, HG2.out⟩
        · have d3 : decide ((20 : Int) < (n : Int)) = true := decide_eq_true (by omega)
          have d4 : decide ((40 : Int) < (n : Int)) = false := decide_eq_false (by omega)
          have HM := Lib.hid (merge_c base g n cap ts key cz (by omega) n w2 q2 0 20 n (by omega) (by omega) (by omega) (Nat.le_refl _) HR2.out HLT2.out HPT.out.1 HC.out)
          unfold MergePost cmpV at HM
          go_wp2_with fail
          go_loopw [6] (fun x wr => (x = .int .i64 20 ∧ wr = w2) ∨ (x = .int .i64 40 ∧ ∃ q, RowS wr base g n cap ts q ∧ Srt key q 0 n ∧ Shuf q2 q 0 n ∧ w2.grownBy wr (some g))) (fun x _ => 40 - (intOf x).toNat)
          case atStart => exact .inl ⟨rfl, rfl⟩
          case round =>
            rcases hrel with ⟨rfl, hw⟩ | ⟨rfl, q, hr, hs, hf, hg⟩
            · rw [hw]
              clear hw
              go_wp2_with fail
              go_loopw [7, 8] (fun x y wr => x = .int .i64 0 ∧ y = .int .i64 40 ∧ wr = w2) (fun _ _ _ => 0)
              case atStart => exact ⟨rfl, rfl, rfl⟩
              case round =>
                obtain ⟨rfl, rfl, hw⟩ := hrel
                rw [hw]
                clear hw
                go_wp2_with fail
                refine HM.out.mono ?_
                rintro e w3 ⟨rfl, q, h3, s3, f3, g3⟩
                go_wp2_with fail
                go_roundw
                case rel => exact .inr ⟨rfl, q, h3, s3, f3, g3⟩
                case measure => simp [intOf]
            · have HR := Lib.hid hr
              clear hr
              go_wp2_with fail
              go_end0
              exact ⟨rfl, q, HR.out, hs, HPT.out.2.trans hf, grownT HG2.out hg⟩
  · have HI1 := Lib.hid (insertion_c w base g n cap ts (fun i => i) key cz 0 n (Nat.zero_le _) (Nat.le_refl _) (by omega) H0.out (fun i hi => hi) (fun i _ _ => rfl) HC.out)
    unfold cmpV at *
    have d1 : decide ((20 : Int) ≤ (n : Int)) = false := decide_eq_false (by omega)
    have d2 : decide ((20 : Int) < (n : Int)) = false := decide_eq_false (by omega)
    go_enter Try.func29, Try.ntmps29
    go_wp2
    go_loopw [7, 8] (fun x y wr => x = .int .i64 0 ∧ y = .int .i64 20 ∧ wr = w) (fun _ _ _ => 0)
    case atStart => exact ⟨rfl, rfl, rfl⟩
    case round =>
      obtain ⟨rfl, rfl, hw⟩ := hrel
      rw [hw]
      clear hw
      go_wp2_with fail
      refine HI1.out.mono ?_
      rintro e w1 ⟨rfl, q, h1, s1, f1, g1⟩
      have HR := Lib.hid h1
      clear h1
      go_wp2_with fail
      go_loopw [6] (fun x wr => x = .int .i64 20 ∧ wr = w1) (fun _ _ => 0)
      case atStart => exact ⟨rfl, rfl⟩
      case round =>
        obtain ⟨rfl, hw⟩ := hrel
        rw [hw]
        clear hw
        go_wp2_with fail
        go_end0
        exact ⟨rfl, q, HR.out, s1, f1, g1⟩
set_option maxRecDepth 100000 in
theorem SortStable_c (w : World) (base g n cap : Nat) (ts : List (Int × Value)) (key : Nat → Int) (cz : Nat → Nat → Int) (hn : n ≤ 39) (h : RowS w base g n cap ts (fun i => i)) (hC : Cmp ts key cz ∧ Sls ts) :
    Calls Try.prog 21 #[.slice (some ⟨g, 0, none⟩) n cap, cmpV] w fun e w' => e = .returned (.tuple #[]) ∧ ∃ q, RowS w' base g n cap ts q ∧ Srt key q 0 n ∧ Shuf (fun i => i) q 0 n ∧ w.grownBy w' (some g) := by
  have HS := Lib.hid (stable_c w base g n cap ts key cz hn h hC)
  unfold cmpV at *
  clear h hC
  go_enter Try.func21, Try.ntmps21
  go_wp2_with fail
  refine HS.out.mono ?_
  rintro e w1 ⟨rfl, hq⟩
  go_wp2_with fail
  go_end0
  exact ⟨rfl, hq⟩

end Go.Proofs.Ytkmfjadlobpbkaa
