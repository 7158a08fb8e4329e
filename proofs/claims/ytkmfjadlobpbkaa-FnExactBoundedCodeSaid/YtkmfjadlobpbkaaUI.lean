/-
  Contracts: an insertion sort of bunches of a row of the call's own, by a comparison that leaves memory alone.
  Conditions: at most 64 places.
-/
import Derived.Test.YtkmfjadlobpbkaaUZ
import Derived.Test.YtkmfjadlobpbkaaSC
namespace Go.Proofs.Ytkmfjadlobpbkaa
open Go.RowKit

/-- the comparison, handed over as a function value -/
def cmpV : Value := .func (.func 22) #[] #[]
/-- what is known of the comparison: its sign is that of the keys -/
structure Cmp (ts : List (Int × Value)) (key : Nat → Int) (cz : Nat → Nat → Int) : Prop where
  calls : ∀ (W : World) (x y : Nat), Calls Try.prog 22 #[.agg #[.int .i64 (el ts x).1, (el ts x).2], .agg #[.int .i64 (el ts y).1, (el ts y).2]] W fun e W' => e = .returned (.int .i64 (cz x y)) ∧ Below W.heap.size W W'
  sign : ∀ x y : Nat, cz x y < 0 ↔ key x < key y
theorem cmp_by (ts : List (Int × Value)) : Cmp ts (fun v => (el ts v).1) (fun x y => cmpI (el ts x).1 (el ts y).1) := by
  refine ⟨fun W x y => impl_byWeight_c W _ _ _ _, fun x y => ?_⟩
  unfold cmpI
  split
  · rename_i h; exact ⟨fun _ => h, fun _ => by omega⟩
  · rename_i h
    split
    · exact ⟨fun h => by omega, fun h2 => absurd h2 h⟩
    · exact ⟨fun h => by omega, fun h2 => absurd h2 h⟩
theorem shuf_lt {p q : Nat → Nat} {a b n : Nat} (h : Shuf p q a b) (hb : b ≤ n) (hp : ∀ i, i < n → p i < n) {i : Nat} (hi : i < n) : q i < n := by
  by_cases h1 : i < a ∨ b ≤ i
  · rw [h.out i h1]; exact hp i hi
  · obtain ⟨j, j1, j2, j3⟩ := (h.img (q i)).1 ⟨i, by omega, by omega, rfl⟩
    rw [← j3]; exact hp j (by omega)


set_option maxRecDepth 100000 in
set_option maxHeartbeats 8000000 in
theorem insertion_c (w : World) (base g n cap : Nat) (ts : List (Int × Value)) (p : Nat → Nat) (key : Nat → Int) (cz : Nat → Nat → Int) (a b : Nat) (ha : a ≤ n) (hb : b ≤ n) (hn : n ≤ 64) (h : RowS w base g n cap ts p) (hp : ∀ i, i < n → p i < n) (hid : ∀ i, a ≤ i → i < b → p i = i) (hC : Cmp ts key cz ∧ Sls ts) :
    Calls Try.prog 34 #[.slice (some ⟨g, 0, none⟩) n cap, .int .i64 a, .int .i64 b, cmpV] w fun e w' => e = .returned (.tuple #[]) ∧ ∃ q, RowS w' base g n cap ts q ∧ Srt key q a b ∧ Shuf p q a b ∧ w.grownBy w' (some g) := by
  have H0 := Lib.hid h
  have HP := Lib.hid hp
  have HID := Lib.hid hid
  have HC := Lib.hid hC
  clear h hp hid hC
  unfold cmpV
  by_cases hab : b ≤ a + 1
  · go_enter Try.func34, Try.ntmps34
    go_wp2
    go_loopw [8] (fun x wr => x = .int .i64 ((a + 1 : Nat) : Int) ∧ wr = w) (fun _ _ => 0)
    case atStart => exact ⟨rfl, rfl⟩
    case round =>
      obtain ⟨rfl, rfl⟩ := hrel
      go_wp2
      go_end0
      exact ⟨rfl, p, H0.out, fun i j h1 h2 h3 => by omega, Shuf.refl _ _ _, grownR _ _⟩
  · go_enter Try.func34, Try.ntmps34
    go_wp2
    go_loopw [8] (fun x wr => ∃ (i : Nat) (q : Nat → Nat), a + 1 ≤ i ∧ i ≤ b ∧ x = .int .i64 i ∧ RowS wr base g n cap ts q ∧ Srt key q a i ∧ Shuf p q a i ∧ w.grownBy wr (some g)) (fun x _ => b - (intOf x).toNat)
    case atStart => exact ⟨a + 1, p, Nat.le_refl _, by omega, rfl, H0.out, fun i j h1 h2 h3 => by omega, Shuf.refl _ _ _, grownR _ _⟩
    case round =>
      obtain ⟨i, q, i1, i2, rfl, hr, hs, hf, hg⟩ := hrel
      obtain ⟨w1, rfl⟩ : ∃ q' : World, q' = wr := ⟨_, rfl⟩
      by_cases hlt : i < b
      · have hqi : q i = i := by rw [hf.out i (by omega)]; exact HID.out i (by omega) hlt
        have hqt : ∀ t, a ≤ t → t < i → q t < i := fun t t1 t2 => by
          obtain ⟨s, s1, s2, s3⟩ := (hf.img (q t)).1 ⟨t, t1, t2, rfl⟩
          rw [← s3, HID.out s s1 (by omega)]; exact s2
        have hd := Down.start hs (by omega)
        rw [hqi] at hd
        have HD := Lib.hid hd
        have HR := Lib.hid hr
        have HF := Lib.hid (hf.wide (Nat.le_refl a) (show i ≤ i + 1 by omega))
        have HG := Lib.hid hg
        have HT := Lib.hid hqt
        clear hd hr hf hg hqt hs
        go_wp2
        go_loopw [9] (fun y wr => ∃ (j : Nat) (u : Nat → Nat), a ≤ j ∧ j ≤ i ∧ y = .int .i64 j ∧ RowS wr base g n cap ts u ∧ Down key u a i j i ∧ (∀ t, a ≤ t → t ≤ i → t ≠ j → u t < i) ∧ Shuf p u a (i + 1) ∧ w.grownBy wr (some g)) (fun y _ => (intOf y).toNat)
        case atStart => exact ⟨i, q, by omega, Nat.le_refl _, rfl, HR.out, HD.out, fun t t1 t2 t3 => HT.out t t1 (by omega), HF.out, HG.out⟩
        case round =>
          obtain ⟨j, u, j1, j2, rfl, hr, hd, ht, hf, hg⟩ := hrel
          obtain ⟨w2, rfl⟩ : ∃ q' : World, q' = wr := ⟨_, rfl⟩
          have HR2 := Lib.hid hr
          have HD2 := Lib.hid hd
          have HT2 := Lib.hid ht
          have HF2 := Lib.hid hf
          have HG2 := Lib.hid hg
          by_cases hja : a < j
          · obtain ⟨l, hl⟩ : ∃ l, j - 1 = l := ⟨_, rfl⟩
            obtain ⟨c1, c3⟩ := hr.get (i := j) (by omega)
            obtain ⟨c2, c4⟩ := hr.get (i := l) (by omega)
            have hcall := HC.out.1.calls w2.drew (u j) (u l)
            have hsg := HC.out.1.sign (u j) (u l)
            have hw1 : IntKind.i64.wrap ((j : Int) - 1) = (l : Int) := by rw [IntWalk.i64_in _ (by omega)]; omega
            have hw2 : wrap64 ((j : Int) - 1) = (l : Int) := by rw [IntWalk.wrap64_in _ (by omega)]; omega
            have q1 : (0 : Int) ≤ (j : Int) := by omega
            have q2 : (j : Int) < (n : Int) := by omega
            have q3 : (0 : Int) ≤ (l : Int) := by omega
            have q4 : (l : Int) < (n : Int) := by omega
            have q5 : (a : Int) < (j : Int) := by omega
            have hb0 : decide ((a : Int) < (j : Int)) = true := decide_eq_true q5
            obtain ⟨Ai, mi, di, hvi⟩ := HC.out.2 (u j)
            obtain ⟨Aj, mj, dj, hvj⟩ := HC.out.2 (u l)
            rw [hvi] at c3 hcall
            rw [hvj] at c4 hcall
            obtain ⟨x, ex⟩ : ∃ x : Int, (el ts (u j)).1 = x := ⟨_, rfl⟩
            obtain ⟨y, ey⟩ : ∃ y : Int, (el ts (u l)).1 = y := ⟨_, rfl⟩
            obtain ⟨z, ez⟩ : ∃ z : Int, cz (u j) (u l) = z := ⟨_, rfl⟩
            rw [ex] at c1 hcall
            rw [ey] at c2 hcall
            rw [ez] at hsg hcall
            have HVI := Lib.hid hvi
            have HVJ := Lib.hid hvj
            have HCL := Lib.hid hcall
            have HSG := Lib.hid hsg
            have HL := Lib.hid hl
            have HEX := Lib.hid ex
            have HEY := Lib.hid ey
            clear hcall hsg hl ex ey ez hr hd ht hf hg hvi hvj
            by_cases hz : z < 0
            · have hz0 : decide (z < 0) = true := decide_eq_true hz
              go_wp2_with fail
              go_region_held3 (fun w' => (w'.cell? ⟨g, j * 2, none⟩ = some (.int .i64 x) ∧ w'.cell? ⟨g, j * 2 + 1, none⟩ = some (.slice Ai mi di)) ∧ w'.cell? ⟨g, l * 2, none⟩ = some (.int .i64 y) ∧ w'.cell? ⟨g, l * 2 + 1, none⟩ = some (.slice Aj mj dj))
                (first | exact ⟨⟨n0, n2⟩, n1, n3⟩ | exact ⟨⟨c1, c3⟩, c2, c4⟩ | fail)
                (first
                  | (go_at_call 22; refine HCL.out.mono ?_; rintro e w3 ⟨rfl, b3⟩; have b3 := below_undrew b3; have n0 := (b3.cell (p := ⟨g, j * 2, none⟩) HR2.out.lt.2).trans c1; have n1 := (b3.cell (p := ⟨g, l * 2, none⟩) HR2.out.lt.2).trans c2; have n2 := (b3.cell (p := ⟨g, j * 2 + 1, none⟩) HR2.out.lt.2).trans c3; have n3 := (b3.cell (p := ⟨g, l * 2 + 1, none⟩) HR2.out.lt.2).trans c4))
              have RS3 := RowS.below (W' := w3) (HR2.out : RowS w2 base g n cap ts u) b3
              have HR3 := Lib.hid RS3
              have G3 := Lib.hid (grownT HG2.out (grownB b3 (some g)))
              obtain ⟨f0, f2⟩ := RS3.frz j
              obtain ⟨f1, f3⟩ := RS3.frz l
              have hput := RS3.put j l
              have hputg := grown_put4 (W := w3) (g := g) (i := j) (j := l) x y (.slice Ai mi di) (.slice Aj mj dj)
              rw [HEX.out, HEY.out, HVI.out, HVJ.out] at hput
              have HPT := Lib.hid hput
              have HPG := Lib.hid (grownT G3.out hputg)
              have hjl2 := HL.out
              have hne : ¬ j = l := by omega
              have hn1 : ¬ j * 2 = l * 2 := by omega
              have hn2 : ¬ j * 2 + 1 = l * 2 := by omega
              have hn3 : ¬ j * 2 = l * 2 + 1 := by omega
              clear RS3 hput hputg c1 c2 c3 c4 hjl2
              go_wp2_with fail
              go_region
              go_wp2_with fail
              go_roundw
              case rel =>
                have hjl := HL.out
                subst hjl
                have hlo : lo key i (u (j - 1)) := by
                  have h1 := HSG.out.1 hz
                  rw [HD2.out.at_] at h1
                  exact lo_of_lt key h1
                refine ⟨j - 1, swp u j (j - 1), by omega, by omega, rfl, RowS.below HPT.out (below_drewN (Below.refl _ _) 1), HD2.out.step hja hlo, ?_, ?_, grownT HPG.out (grownB (below_drewN (Below.refl _ _) 1) _)⟩
                · intro t t1 t2 t3
                  unfold swp
                  by_cases h1 : t = j
                  · rw [if_pos h1]; exact HT2.out _ (by omega) (by omega) (by omega)
                  · rw [if_neg h1, if_neg t3]; exact HT2.out t t1 t2 h1
                · exact HF2.out.trans (swp_shuf u (by omega) (by omega))
              case measure => have := HL.out; simp [intOf]; omega
            · have hz0 : decide (z < 0) = false := decide_eq_false hz
              go_wp2_with fail
              go_region_held3 (fun w' => (w'.cell? ⟨g, j * 2, none⟩ = some (.int .i64 x) ∧ w'.cell? ⟨g, j * 2 + 1, none⟩ = some (.slice Ai mi di)) ∧ w'.cell? ⟨g, l * 2, none⟩ = some (.int .i64 y) ∧ w'.cell? ⟨g, l * 2 + 1, none⟩ = some (.slice Aj mj dj))
                (first | exact ⟨⟨n0, n2⟩, n1, n3⟩ | exact ⟨⟨c1, c3⟩, c2, c4⟩ | fail)
                (first
                  | (go_at_call 22; refine HCL.out.mono ?_; rintro e w3 ⟨rfl, b3⟩; have b3 := below_undrew b3; have n0 := (b3.cell (p := ⟨g, j * 2, none⟩) HR2.out.lt.2).trans c1; have n1 := (b3.cell (p := ⟨g, l * 2, none⟩) HR2.out.lt.2).trans c2; have n2 := (b3.cell (p := ⟨g, j * 2 + 1, none⟩) HR2.out.lt.2).trans c3; have n3 := (b3.cell (p := ⟨g, l * 2 + 1, none⟩) HR2.out.lt.2).trans c4))
              have HR3 := Lib.hid (RowS.below (W' := w3) (HR2.out : RowS w2 base g n cap ts u) b3)
              have G3 := Lib.hid (grownT HG2.out (grownB b3 (some g)))
              clear c1 c2 c3 c4 n0 n1 n2 n3
              go_wp2_with fail
              go_roundw
              case rel =>
                have hjl := HL.out
                subst hjl
                have hlo : lo key (u (j - 1)) i := by
                  have h1 : ¬ key (u j) < key (u (j - 1)) := fun h => by have := HSG.out.2 h; omega
                  rw [HD2.out.at_] at h1
                  exact lo_of_not key (HT2.out _ (by omega) (by omega) (by omega)) h1
                exact ⟨i + 1, u, by omega, by omega, by go_num, HR3.out, HD2.out.done (fun _ => hlo), HF2.out, G3.out⟩
              case measure => simp [intOf]; omega
          · obtain rfl : j = a := by omega
            have hb0 : decide ((j : Int) < (j : Int)) = false := by simp
            have HR3 := Lib.hid (fun N => RowS.below hr (below_of_drewN _ w2 N))
            have G3 := Lib.hid (fun N => grownT hg (grownB (below_of_drewN _ w2 N) (some g)))
            clear hr hd ht hf hg
            go_wp2_with fail
            go_quiet (fail)
            go_wp2_with fail
            go_roundw
            case rel => exact ⟨i + 1, u, by omega, by omega, by go_num, HR3.out _, HD2.out.done (fun h => by omega), HF2.out, G3.out _⟩
            case measure => simp [intOf]; omega
      · obtain rfl : i = b := by omega
        have HR := Lib.hid hr
        have HF := Lib.hid hf
        have HS := Lib.hid hs
        clear hr hf hs
        go_wp2
        go_end0
        exact ⟨rfl, q, HR.out, HS.out, HF.out, hg⟩

end Go.Proofs.Ytkmfjadlobpbkaa
