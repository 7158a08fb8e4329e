/-
  Contracts: an insertion sort of int64 of a row of the call's own, by a comparison that leaves memory alone.
  Conditions: at most 64 places.
-/
import Derived.Test.YtlcdcicdlfakgaaSZ
import Derived.Test.YtlcdcicdlfakgaaSC
namespace Go.Proofs.Ytlcdcicdlfakgaa
open Go.RowKit

/-- the comparison, handed over as a function value -/
def cmpV (lb : Nat) : Value := .func (.func 36) #[] #[.pointer (some ⟨lb, 0, none⟩)]
/-- what is known of the comparison, in whatever world has grown from one: its sign is that of the keys -/
structure Cmp (w : World) (g lb n : Nat) (key : Nat → Int) (cz : Nat → Nat → Int) : Prop where
  calls : ∀ W, w.grownBy W (some g) → ∀ x y : Nat, x < n → y < n → Calls Try.prog 36 #[.int .i64 (x : Int), .int .i64 (y : Int), .pointer (some ⟨lb, 0, none⟩)] W fun e W' => e = .returned (.int .i64 (cz x y)) ∧ Below W.heap.size W W'
  sign : ∀ x y : Nat, cz x y < 0 ↔ key x < key y
theorem Cmp.grown {w W : World} {g lb n : Nat} {key : Nat → Int} {cz : Nat → Nat → Int} (h : Cmp w g lb n key cz) (hg : w.grownBy W (some g)) : Cmp W g lb n key cz :=
  ⟨fun W2 h2 => h.calls W2 (grownT hg h2), h.sign⟩
theorem shuf_lt {p q : Nat → Nat} {a b n : Nat} (h : Shuf p q a b) (hb : b ≤ n) (hp : ∀ i, i < n → p i < n) {i : Nat} (hi : i < n) : q i < n := by
  by_cases h1 : i < a ∨ b ≤ i
  · rw [h.out i h1]; exact hp i hi
  · obtain ⟨j, j1, j2, j3⟩ := (h.img (q i)).1 ⟨i, by omega, by omega, rfl⟩
    rw [← j3]; exact hp j (by omega)


set_option maxRecDepth 100000 in
set_option maxHeartbeats 8000000 in
theorem insertion_c (w : World) (base g n cap lb : Nat) (p : Nat → Nat) (key : Nat → Int) (cz : Nat → Nat → Int) (a b : Nat) (ha : a ≤ n) (hb : b ≤ n) (hn : n ≤ 64) (h : RowS w base g n cap p) (hp : ∀ i, i < n → p i < n) (hid : ∀ i, a ≤ i → i < b → p i = i) (hC : Cmp w g lb n key cz) :
    Calls Try.prog 79 #[.slice (some ⟨g, 0, none⟩) n cap, .int .i64 a, .int .i64 b, cmpV lb] w fun e w' => e = .returned (.tuple #[]) ∧ ∃ q, RowS w' base g n cap q ∧ Srt key q a b ∧ Shuf p q a b ∧ w.grownBy w' (some g) := by
  have H0 := Lib.hid h
  have HP := Lib.hid hp
  have HID := Lib.hid hid
  have HC := Lib.hid hC
  clear h hp hid hC
  unfold cmpV
  by_cases hab : b ≤ a + 1
  · go_enter Try.func79, Try.ntmps79
    go_wp2
    go_loopw [8] (fun x wr => x = .int .i64 ((a + 1 : Nat) : Int) ∧ wr = w) (fun _ _ => 0)
    case atStart => exact ⟨rfl, rfl⟩
    case round =>
      obtain ⟨rfl, rfl⟩ := hrel
      go_wp2
      go_end0
      exact ⟨rfl, p, H0.out, fun i j h1 h2 h3 => by omega, Shuf.refl _ _ _, grownR _ _⟩
  · go_enter Try.func79, Try.ntmps79
    go_wp2
    go_loopw [8] (fun x wr => ∃ (i : Nat) (q : Nat → Nat), a + 1 ≤ i ∧ i ≤ b ∧ x = .int .i64 i ∧ RowS wr base g n cap q ∧ Srt key q a i ∧ Shuf p q a i ∧ w.grownBy wr (some g)) (fun x _ => b - (intOf x).toNat)
    case atStart => exact ⟨a + 1, p, Nat.le_refl _, by omega, rfl, H0.out, fun i j h1 h2 h3 => by omega, Shuf.refl _ _ _, grownR _ _⟩
    case round =>
      obtain ⟨i, q, i1, i2, rfl, hr, hs, hf, hg⟩ := hrel
      obtain ⟨w1, rfl⟩ : ∃ q' : World, q' = wr := ⟨_, rfl⟩
      by_cases hlt : i < b
      · have hqi : q i = i := by rw [hf.out i (by omega)]; exact HID.out i (by omega) hlt
        have hqt : ∀ t, a ≤ t → t < i → q t < i := fun t t1 t2 => by
          obtain ⟨s, s1, s2, s3⟩ := (hf.img (q t)).1 ⟨t, t1, t2, rfl⟩
          rw [← s3, HID.out s s1 (by omega)]; exact s2
        have hd := Down.start hs (by omega)
        rw [hqi] at hd
        have HD := Lib.hid hd
        have HR := Lib.hid hr
        have HF := Lib.hid (hf.wide (Nat.le_refl a) (show i ≤ i + 1 by omega))
        have HG := Lib.hid hg
        have HT := Lib.hid hqt
        clear hd hr hf hg hqt hs
        go_wp2
        go_loopw [9] (fun y wr => ∃ (j : Nat) (u : Nat → Nat), a ≤ j ∧ j ≤ i ∧ y = .int .i64 j ∧ RowS wr base g n cap u ∧ Down key u a i j i ∧ (∀ t, a ≤ t → t ≤ i → t ≠ j → u t < i) ∧ Shuf p u a (i + 1) ∧ w.grownBy wr (some g)) (fun y _ => (intOf y).toNat)
        case atStart => exact ⟨i, q, by omega, Nat.le_refl _, rfl, HR.out, HD.out, fun t t1 t2 t3 => HT.out t t1 (by omega), HF.out, HG.out⟩
        case round =>
          obtain ⟨j, u, j1, j2, rfl, hr, hd, ht, hf, hg⟩ := hrel
          obtain ⟨w2, rfl⟩ : ∃ q' : World, q' = wr := ⟨_, rfl⟩
          have HR2 := Lib.hid hr
          have HD2 := Lib.hid hd
          have HT2 := Lib.hid ht
          have HF2 := Lib.hid hf
          have HG2 := Lib.hid hg
          by_cases hja : a < j
          · obtain ⟨l, hl⟩ : ∃ l, j - 1 = l := ⟨_, rfl⟩
            have c1 := hr.get (i := j) (by omega)
            have c2 := hr.get (i := l) (by omega)
            have huj : u j < n := shuf_lt hf (by omega) HP.out (by omega)
            have hul : u l < n := shuf_lt hf (by omega) HP.out (by omega)
            have hcall := HC.out.calls w2.drew (grownT hg (grownB (below_of_drewN _ w2 1) _)) (u j) (u l) huj hul
            have hsg := HC.out.sign (u j) (u l)
            have hw1 : IntKind.i64.wrap ((j : Int) - 1) = (l : Int) := by rw [IntWalk.i64_in _ (by omega)]; omega
            have hw2 : wrap64 ((j : Int) - 1) = (l : Int) := by rw [IntWalk.wrap64_in _ (by omega)]; omega
            have q1 : (0 : Int) ≤ (j : Int) := by omega
            have q2 : (j : Int) < (n : Int) := by omega
            have q3 : (0 : Int) ≤ (l : Int) := by omega
            have q4 : (l : Int) < (n : Int) := by omega
            have q5 : (a : Int) < (j : Int) := by omega
            have hb0 : decide ((a : Int) < (j : Int)) = true := decide_eq_true q5
            obtain ⟨x, ex⟩ : ∃ x : Int, ((u j : Nat) : Int) = x := ⟨_, rfl⟩
            obtain ⟨y, ey⟩ : ∃ y : Int, ((u l : Nat) : Int) = y := ⟨_, rfl⟩
            obtain ⟨z, ez⟩ : ∃ z : Int, cz (u j) (u l) = z := ⟨_, rfl⟩
            rw [ex] at c1 hcall
            rw [ey] at c2 hcall
            rw [ez] at hsg hcall
            have HCL := Lib.hid hcall
            have HSG := Lib.hid hsg
            have HL := Lib.hid hl
            have HEX := Lib.hid ex
            have HEY := Lib.hid ey
            clear hcall hsg hl ex ey ez hr hd ht hf hg
            by_cases hz : z < 0
            · have hz0 : decide (z < 0) = true := decide_eq_true hz
              go_wp2_with fail
              go_region_held3 (fun w' => w'.cell? ⟨g, j, none⟩ = some (.int .i64 x) ∧ w'.cell? ⟨g, l, none⟩ = some (.int .i64 y))
                (first | exact ⟨n0, n1⟩ | exact ⟨c1, c2⟩ | fail)
                (first
                  | (go_at_call 36; refine HCL.out.mono ?_; rintro e w3 ⟨rfl, b3⟩; have b3 := below_undrew b3; have n0 := (b3.cell (p := ⟨g, j, none⟩) HR2.out.lt.2).trans c1; have n1 := (b3.cell (p := ⟨g, l, none⟩) HR2.out.lt.2).trans c2))
              have RS3 := RowS.below (W' := w3) (HR2.out : RowS w2 base g n cap u) b3
              have HR3 := Lib.hid RS3
              have G3 := Lib.hid (grownT HG2.out (grownB b3 (some g)))
              have f0 := RS3.frz j
              have f1 := RS3.frz l
              have hput := RS3.put (i := j) (j := l) (by omega)
              have hputg := grown_two (W := w3) (g := g) (i := j) (j := l) (.int .i64 y) (.int .i64 x)
              rw [HEX.out, HEY.out] at hput
              have HPT := Lib.hid hput
              have HPG := Lib.hid (grownT G3.out hputg)
              have hne : ¬ j = l := by have := HL.out; omega
              clear RS3 hput hputg c1 c2
              go_wp2_with fail
              go_region
              go_wp2_with fail
              go_roundw
              case rel =>
                have hjl := HL.out
                subst hjl
                have hlo : lo key i (u (j - 1)) := by
                  have h1 := HSG.out.1 hz
                  rw [HD2.out.at_] at h1
                  exact lo_of_lt key h1
                refine ⟨j - 1, swp u j (j - 1), by omega, by omega, rfl, RowS.below HPT.out (below_drewN (Below.refl _ _) 1), HD2.out.step hja hlo, ?_, ?_, grownT HPG.out (grownB (below_drewN (Below.refl _ _) 1) _)⟩
                · intro t t1 t2 t3
                  unfold swp
                  by_cases h1 : t = j
                  · rw [if_pos h1]; exact HT2.out _ (by omega) (by omega) (by omega)
                  · rw [if_neg h1, if_neg t3]; exact HT2.out t t1 t2 h1
                · exact HF2.out.trans (swp_shuf u (by omega) (by omega))
              case measure => have := HL.out; simp [intOf]; omega
            · have hz0 : decide (z < 0) = false := decide_eq_false hz
              go_wp2_with fail
              go_region_held3 (fun w' => w'.cell? ⟨g, j, none⟩ = some (.int .i64 x) ∧ w'.cell? ⟨g, l, none⟩ = some (.int .i64 y))
                (first | exact ⟨n0, n1⟩ | exact ⟨c1, c2⟩ | fail)
                (first
                  | (go_at_call 36; refine HCL.out.mono ?_; rintro e w3 ⟨rfl, b3⟩; have b3 := below_undrew b3; have n0 := (b3.cell (p := ⟨g, j, none⟩) HR2.out.lt.2).trans c1; have n1 := (b3.cell (p := ⟨g, l, none⟩) HR2.out.lt.2).trans c2))
              have HR3 := Lib.hid (RowS.below (W' := w3) (HR2.out : RowS w2 base g n cap u) b3)
              have G3 := Lib.hid (grownT HG2.out (grownB b3 (some g)))
              clear c1 c2 n0 n1
              go_wp2_with fail
              go_roundw
              case rel =>
                have hjl := HL.out
                subst hjl
                have hlo : lo key (u (j - 1)) i := by
                  have h1 : ¬ key (u j) < key (u (j - 1)) := fun h => by have := HSG.out.2 h; omega
                  rw [HD2.out.at_] at h1
                  exact lo_of_not key (HT2.out _ (by omega) (by omega) (by omega)) h1
                exact ⟨i + 1, u, by omega, by omega, by go_num, HR3.out, HD2.out.done (fun _ => hlo), HF2.out, G3.out⟩
              case measure => simp [intOf]; omega
          · obtain rfl : j = a := by omega
            have hb0 : decide ((j : Int) < (j : Int)) = false := by simp
            have HR3 := Lib.hid (fun N => RowS.below hr (below_of_drewN _ w2 N))
            have G3 := Lib.hid (fun N => grownT hg (grownB (below_of_drewN _ w2 N) (some g)))
            clear hr hd ht hf hg
            go_wp2_with fail
            go_quiet (fail)
            go_wp2_with fail
            go_roundw
            case rel => exact ⟨i + 1, u, by omega, by omega, by go_num, HR3.out _, HD2.out.done (fun h => by omega), HF2.out, G3.out _⟩
            case measure => simp [intOf]; omega
      · obtain rfl : i = b := by omega
        have HR := Lib.hid hr
        have HF := Lib.hid hf
        have HS := Lib.hid hs
        clear hr hf hs
        go_wp2
        go_end0
        exact ⟨rfl, q, HR.out, HS.out, HF.out, hg⟩

end Go.Proofs.Ytlcdcicdlfakgaa
