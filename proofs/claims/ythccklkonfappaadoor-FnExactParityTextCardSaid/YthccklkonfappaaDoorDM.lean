/-
  Contracts: texts of codes and of parities, of both.
  Conditions: at most 1048576 numbers; the table of the powers of ten lies there.
-/
import Derived.Test.YthccklkonfappaaDoorDL
import Derived.Test.YthccklkonfappaaDoorVC
import Derived.Test.YthccklkonfappaaDoorPV
import Derived.Deep.RegionHeld3
namespace Go.Proofs.YthccklkonfappaaDoor
open Go.RowKit

def ctS (xs : List Int) : ByteArray := if codeB xs then lisS xs else ⟨#[]⟩
theorem code_ok {xs : List Int} (h : codeB xs = true) : numsOk xs ∧ xs.length ≤ 16 := by
  unfold codeB at h
  rw [Bool.and_eq_true, Bool.and_eq_true, Bool.and_eq_true] at h
  refine ⟨fun x hx => ?_, of_decide_eq_true h.1.1.2⟩
  have := all_in h.1.2 x hx
  omega


theorem impl_CodeText_c (w : World) (A : Option Addr) (n cap : Nat) (xs : List Int) (hl : xs.length = n) (hn : n ≤ 1048576) (hx : Sl w w.heap.size A (xs.map (Value.int .i64))) (ht : Tab w) :
    Calls Tryd.prog 10 #[.agg #[.slice A n cap]] w fun e w' => e = .returned (.tuple #[.string (ctS xs), .bool (codeB xs)]) ∧ Below w.heap.size w w' := by
  obtain ⟨w0, e0⟩ : ∃ q : World, q = w.alloc (.cells #[.slice A n cap] 28) := ⟨_, rfl⟩
  have hb0 : Below w.heap.size w w0 := by rw [e0]; exact (Below.refl _ _).alloc (Nat.le_refl _) _
  have hz0 : w0.heap.size = w.heap.size + 1 := by rw [e0]; simp
  have c0 : w0.cell? ⟨w.heap.size, 0, none⟩ = some (.slice A n cap) := by rw [e0]; (first | (simp; done) | (simp (disch := (first | (simp; done) | (simp; omega))) [World.cell?_alloc_at]; done) | (simp (disch := (first | (simp; done) | (simp; omega))) [World.cell?_alloc_past]; done) | (simp (disch := (first | (simp; done) | (simp; omega))) [World.cell?_alloc_at, World.cell?_alloc_past]; done) | (simp (disch := (first | (simp; done) | (simp; omega))) [World.frozen?_alloc_at]; done) | (simp (disch := (first | (simp; done) | (simp; omega))) [World.frozen?_alloc_past]; done) | (simp (disch := (first | (simp; done) | (simp; omega))) [World.frozen?_alloc_at, World.frozen?_alloc_past]; done))
  have hx0 := (hx.below hb0).more hb0.size
  have ht0 := ht.below hb0 (Nat.le_refl _)
  have HV := Lib.hid (impl_ValidCode_c w0 A n cap xs hl hn hx0)
  have HT := Lib.hid (fun W (hW : Below w0.heap.size w0 W) (hc : codeB xs = true) => impl_ListText_c W A n cap xs hl (by have := (code_ok hc).2; omega) (code_ok hc).1 ((hx0.below hW).more hW.size) (ht0.below hW (Nat.le_refl _)))
  clear hx hx0 ht ht0
  go_enter Tryd.func10, Tryd.ntmps10
  go_wp2_with fail
  rw [← e0]
  clear e0
  go_wp2_with fail
  refine HV.out.mono ?_
  rintro e w1 ⟨rfl, hb1⟩
  have c1 := (hb1.cell (p := ⟨w.heap.size, 0, none⟩) (by simp only []; omega)).trans c0
  have hB1 := hb0.trans (hb1.mono hb0.size)
  cases hc : codeB xs
  · have HCS := Lib.hid (show ctS xs = ⟨#[]⟩ by unfold ctS; rw [hc]; rfl)
    have HC := Lib.hid hc
    clear hc
    clear c0 c1
    go_wp2
    go_ret2
    exact ⟨by rw [HCS.out, HC.out]; rfl, hB1⟩
  · have H2 := Lib.hid (HT.out w1 hb1 hc)
    have HCS := Lib.hid (show ctS xs = lisS xs by unfold ctS; rw [hc]; rfl)
    have HC := Lib.hid hc
    clear hc
    go_wp2_with fail
    refine H2.out.mono ?_
    rintro e w2 ⟨rfl, hb2⟩
    go_wp2
    go_ret2
    exact ⟨by rw [HCS.out, HC.out]; rfl, hB1.trans (hb2.mono (by have := hb1.size; omega))⟩


theorem spec_CodeText_c (w : World) (A : Option Addr) (n cap : Nat) (xs : List Int) (hl : xs.length = n) (hn : n ≤ 1048576) (hx : Sl w w.heap.size A (xs.map (Value.int .i64))) :
    Calls Tryd.prog 8 #[.agg #[.slice A n cap]] w fun e w' => e = .returned (.tuple #[.string (ctS xs), .bool (codeB xs)]) ∧ Below w.heap.size w w' := by
  obtain ⟨w0, e0⟩ : ∃ q : World, q = w.alloc (.cells #[.slice A n cap] 28) := ⟨_, rfl⟩
  have hb0 : Below w.heap.size w w0 := by rw [e0]; exact (Below.refl _ _).alloc (Nat.le_refl _) _
  have hz0 : w0.heap.size = w.heap.size + 1 := by rw [e0]; simp
  have c0 : w0.cell? ⟨w.heap.size, 0, none⟩ = some (.slice A n cap) := by rw [e0]; (first | (simp; done) | (simp (disch := (first | (simp; done) | (simp; omega))) [World.cell?_alloc_at]; done) | (simp (disch := (first | (simp; done) | (simp; omega))) [World.cell?_alloc_past]; done) | (simp (disch := (first | (simp; done) | (simp; omega))) [World.cell?_alloc_at, World.cell?_alloc_past]; done) | (simp (disch := (first | (simp; done) | (simp; omega))) [World.frozen?_alloc_at]; done) | (simp (disch := (first | (simp; done) | (simp; omega))) [World.frozen?_alloc_past]; done) | (simp (disch := (first | (simp; done) | (simp; omega))) [World.frozen?_alloc_at, World.frozen?_alloc_past]; done))
  have hx0 := (hx.below hb0).more hb0.size
  have HV := Lib.hid (spec_l04Is_c w0 w.heap.size 0 w0.heap.size A n cap xs c0 hl hn hx0)
  have HT := Lib.hid (fun (hc : codeB xs = true) => spec_l01Text_c w0 A n cap xs hl (by have := (code_ok hc).2; omega) (code_ok hc).1 hx0)
  clear hx hx0
  go_enter Tryd.func8, Tryd.ntmps8
  go_wp2_with fail
  rw [← e0]
  clear e0
  go_wp2_with fail
  refine HV.out.mono ?_
  rintro e w' ⟨rfl, rfl⟩
  cases hc : codeB xs
  · have HCS := Lib.hid (show ctS xs = ⟨#[]⟩ by unfold ctS; rw [hc]; rfl)
    have HC := Lib.hid hc
    clear hc
    clear c0
    go_wp2
    go_ret2
    exact ⟨by rw [HCS.out, HC.out]; rfl, hb0⟩
  · have H2 := Lib.hid (HT.out hc)
    have HCS := Lib.hid (show ctS xs = lisS xs by unfold ctS; rw [hc]; rfl)
    have HC := Lib.hid hc
    clear hc
    go_wp2_with fail
    refine H2.out.mono ?_
    rintro e w2 ⟨rfl, hb2⟩
    go_wp2
    go_ret2
    exact ⟨by rw [HCS.out, HC.out]; rfl, hb0.trans (hb2.mono (by omega))⟩


theorem par_ok {m : Int} {xs : List Int} (h : validParB m xs = true) : numsOk xs ∧ xs.length ≤ 8 ∧ 1 ≤ m ∧ m ≤ 16 := by
  unfold validParB at h
  rw [Bool.and_eq_true] at h
  have h1 := h.1
  unfold parRows at h1
  rw [Bool.and_eq_true, Bool.and_eq_true, Bool.and_eq_true] at h1
  have hm := inB_true.1 h1.1.1.1
  refine ⟨fun x hx => ?_, of_decide_eq_true h1.1.2, hm.1, hm.2⟩
  have hb := inB_true.1 (List.all_eq_true.1 h1.2 x hx)
  have hp := (pow16 (M := m.toNat) (by omega)).2
  omega
def ptS (m : Int) (xs : List Int) : ByteArray := decS m.toNat ++ ⟨#[59]⟩ ++ lisS xs

def parS (m : Int) (xs : List Int) : ByteArray := if validParB m xs then ptS m xs else ⟨#[]⟩


set_option maxRecDepth 100000 in
set_option maxHeartbeats 1000000 in
theorem impl_ParityText_c (w : World) (m : Int) (A : Option Addr) (n cap : Nat) (xs : List Int) (hl : xs.length = n) (hn : n ≤ 1048576) (hx : Sl w w.heap.size A (xs.map (Value.int .i64))) (ht : Tab w) :
    Calls Tryd.prog 15 #[.agg #[.int .i64 m, .slice A n cap]] w fun e w' => e = .returned (.tuple #[.string (parS m xs), .bool (validParB m xs)]) ∧ Below w.heap.size w w' := by
  obtain ⟨w0, e0⟩ : ∃ q : World, q = w.alloc (.cells #[.int .i64 m, .slice A n cap] 36) := ⟨_, rfl⟩
  have hb0 : Below w.heap.size w w0 := by rw [e0]; exact (Below.refl _ _).alloc (Nat.le_refl _) _
  have hz0 : w0.heap.size = w.heap.size + 1 := by rw [e0]; simp
  have c0 : w0.cell? ⟨w.heap.size, 0, none⟩ = some (.int .i64 m) := by rw [e0]; (first | (simp; done) | (simp (disch := (first | (simp; done) | (simp; omega))) [World.cell?_alloc_at]; done) | (simp (disch := (first | (simp; done) | (simp; omega))) [World.cell?_alloc_past]; done) | (simp (disch := (first | (simp; done) | (simp; omega))) [World.cell?_alloc_at, World.cell?_alloc_past]; done) | (simp (disch := (first | (simp; done) | (simp; omega))) [World.frozen?_alloc_at]; done) | (simp (disch := (first | (simp; done) | (simp; omega))) [World.frozen?_alloc_past]; done) | (simp (disch := (first | (simp; done) | (simp; omega))) [World.frozen?_alloc_at, World.frozen?_alloc_past]; done))
  have c1 : w0.cell? ⟨w.heap.size, 1, none⟩ = some (.slice A n cap) := by rw [e0]; (first | (simp; done) | (simp (disch := (first | (simp; done) | (simp; omega))) [World.cell?_alloc_at]; done) | (simp (disch := (first | (simp; done) | (simp; omega))) [World.cell?_alloc_past]; done) | (simp (disch := (first | (simp; done) | (simp; omega))) [World.cell?_alloc_at, World.cell?_alloc_past]; done) | (simp (disch := (first | (simp; done) | (simp; omega))) [World.frozen?_alloc_at]; done) | (simp (disch := (first | (simp; done) | (simp; omega))) [World.frozen?_alloc_past]; done) | (simp (disch := (first | (simp; done) | (simp; omega))) [World.frozen?_alloc_at, World.frozen?_alloc_past]; done))
  have hx0 := (hx.below hb0).more hb0.size
  have ht0 := ht.below hb0 (Nat.le_refl _)
  have HV := Lib.hid (impl_ValidParity_c w0 m A n cap xs hl hn hx0)
  have HT := Lib.hid (fun W (hW : Below w0.heap.size w0 W) (hc : validParB m xs = true) => impl_listText_c W A n cap xs hl (by have := (par_ok hc).2.1; omega) (par_ok hc).1 ((hx0.below hW).more hW.size) (ht0.below hW (Nat.le_refl _)))
  have HD := Lib.hid (fun W (hW : Below w0.heap.size w0 W) (hc : validParB m xs = true) => impl_Decimal_c W m.toNat (by have := (par_ok hc).2.2; omega) (ht0.below hW (Nat.le_refl _)))
  clear hx hx0 ht ht0
  go_enter Tryd.func15, Tryd.ntmps15
  go_wp2_with fail
  rw [← e0]
  clear e0
  go_wp2_with fail
  refine HV.out.mono ?_
  rintro e w1 ⟨rfl, hb1⟩
  have hz1 := hb1.size
  have d0 := (hb1.cell (p := ⟨w.heap.size, 0, none⟩) (by simp only []; omega)).trans c0
  have d1 := (hb1.cell (p := ⟨w.heap.size, 1, none⟩) (by simp only []; omega)).trans c1
  have hB1 := hb0.trans (hb1.mono hb0.size)
  clear c0 c1
  cases hc : validParB m xs
  · have HCS := Lib.hid (show parS m xs = ⟨#[]⟩ by unfold parS; rw [hc]; rfl)
    have HC := Lib.hid hc
    clear hc
    clear d0 d1
    go_wp2
    go_ret2
    exact ⟨by rw [HCS.out, HC.out]; rfl, hB1⟩
  · have HCS := Lib.hid (show parS m xs = ptS m xs by unfold parS; rw [hc]; rfl)
    have HC := Lib.hid hc
    obtain ⟨_, hx8, hm1, hm2⟩ := par_ok hc
    obtain ⟨M, rfl⟩ : ∃ M : Nat, m = (M : Int) := ⟨m.toNat, by omega⟩
    have hd := HD.out
    rw [Int.toNat_natCast] at hd
    have H1 := Lib.hid (fun W hW => hd W hW hc)
    have H2 := Lib.hid (fun W hW => HT.out W hW hc)
    have hds := decS_size M
    have hls := com_len (decL xs) (decL_small (par_ok hc).1)
    rw [decL_len] at hls
    have hls2 : (lisS xs).size ≤ 10000000000 := by unfold lisS; omega
    have hds2 : (decS M).size ≤ 20 := by omega
    have HPS := Lib.hid (show ptS (M : Int) xs = decS M ++ ⟨#[59]⟩ ++ lisS xs by unfold ptS; rw [Int.toNat_natCast])
    generalize lisS xs = LS at hls2 H2 HPS
    generalize decS M = DS at hds2 H1 HPS
    have hlt : w.heap.size < w1.heap.size := by omega
    have e1 : (⟨#[59]⟩ : ByteArray).size = 1 := rfl
    have q1 := fun W : World => run_string_add_sum (P := Tryd.prog) W DS ⟨#[59]⟩ (by rw [e1]; omega)
    have q2 := fun W : World => run_string_add_sum (P := Tryd.prog) W (DS ++ ⟨#[59]⟩) LS (by rw [ByteArray.size_append, e1]; omega)
    have q3 : ¬ 9223372036854775807 ≤ DS.size := by omega
    have q4 : ¬ 9223372036854775807 < DS.size + 1 + LS.size := by omega
    clear e1
    clear hc hd hls hds
    go_wp2_with fail
    go_region_held3 (fun w' => w'.cell? ⟨w.heap.size, 0, none⟩ = some (.int .i64 (M : Int)) ∧ w'.cell? ⟨w.heap.size, 1, none⟩ = some (.slice A n cap))
      (first | exact ⟨g0, g1⟩ | exact ⟨f0, f1⟩ | exact ⟨d0, d1⟩)
      (first
        | (go_at_call 37; refine (H2.out w2 (hb1.trans (hb2.mono hz1))).mono ?_; rintro e w3 ⟨rfl, hb3⟩; have g0 := (hb3.cell (p := ⟨w.heap.size, 0, none⟩) (by simp only []; omega)).trans f0; have g1 := (hb3.cell (p := ⟨w.heap.size, 1, none⟩) (by simp only []; omega)).trans f1)
        | (go_at_call 36; refine (H1.out w1.drew (below_drewN hb1 1)).mono ?_; rintro e w2 ⟨rfl, hb2⟩; have hb2 := below_undrew hb2; have hz2 := hb2.size; have f0 := (hb2.cell (p := ⟨w.heap.size, 0, none⟩) (by simp only []; omega)).trans d0; have f1 := (hb2.cell (p := ⟨w.heap.size, 1, none⟩) (by simp only []; omega)).trans d1))
    all_goals
      go_wp2
      go_ret2
      exact ⟨by rw [HCS.out, HC.out, HPS.out]; rfl, hB1.trans ((hb2.trans (hb3.mono hz2)).mono (by omega))⟩


set_option maxRecDepth 100000 in
set_option maxHeartbeats 1000000 in
theorem spec_l08Parity_c (w : World) (b : Nat) (m : Int) (A : Option Addr) (n cap : Nat) (xs : List Int) (hb : b < w.heap.size) (c0 : w.cell? ⟨b, 0, none⟩ = some (.int .i64 m)) (c1 : w.cell? ⟨b, 1, none⟩ = some (.slice A n cap)) (hl : xs.length = n) (hx : Sl w w.heap.size A (xs.map (Value.int .i64))) (hc : validParB m xs = true) :
    Calls Tryd.prog 34 #[.pointer (some ⟨b, 0, none⟩)] w fun e w' => e = .returned (.string (ptS m xs)) ∧ Below w.heap.size w w' := by
  obtain ⟨hok, hx8, hm1, hm2⟩ := par_ok hc
  obtain ⟨M, rfl⟩ : ∃ M : Nat, m = (M : Int) := ⟨m.toNat, by omega⟩
  have H1 := Lib.hid (fun W => spec_l01Dec_c W M (by omega))
  have H2 := Lib.hid (fun W (hW : Below w.heap.size w W) => spec_l01Text_c W A n cap xs hl (by omega) hok ((hx.below hW).more hW.size))
  have hds := decS_size M
  have hls := com_len (decL xs) (decL_small hok)
  rw [decL_len] at hls
  have hls2 : (lisS xs).size ≤ 10000000000 := by unfold lisS; omega
  have hds2 : (decS M).size ≤ 20 := by omega
  have HPS := Lib.hid (show ptS (M : Int) xs = decS M ++ ⟨#[59]⟩ ++ lisS xs by unfold ptS; rw [Int.toNat_natCast])
  generalize lisS xs = LS at hls2 H2 HPS
  generalize decS M = DS at hds2 H1 HPS
  have e1 : (⟨#[59]⟩ : ByteArray).size = 1 := rfl
  have q1 := fun W : World => run_string_add_sum (P := Tryd.prog) W DS ⟨#[59]⟩ (by rw [e1]; omega)
  have q2 := fun W : World => run_string_add_sum (P := Tryd.prog) W (DS ++ ⟨#[59]⟩) LS (by rw [ByteArray.size_append, e1]; omega)
  have q3 : ¬ 9223372036854775807 ≤ DS.size := by omega
  have q4 : ¬ 9223372036854775807 < DS.size + 1 + LS.size := by omega
  clear e1 hc hds hls hok hx
  go_enter Tryd.func34, Tryd.ntmps34
  go_wp2_with fail
  go_region_held3 (fun w' => w'.cell? ⟨b, 0, none⟩ = some (.int .i64 (M : Int)) ∧ w'.cell? ⟨b, 1, none⟩ = some (.slice A n cap))
    (first | exact ⟨g0, g1⟩ | exact ⟨f0, f1⟩ | exact ⟨c0, c1⟩)
    (first
      | (go_at_call 28; refine (H2.out w2 hb2).mono ?_; rintro e w3 ⟨rfl, hb3⟩; have g0 := (hb3.cell (p := ⟨b, 0, none⟩) (by simp only []; omega)).trans f0; have g1 := (hb3.cell (p := ⟨b, 1, none⟩) (by simp only []; omega)).trans f1)
      | (go_at_call 49; refine (H1.out w.drew).mono ?_; rintro e w2 ⟨rfl, hb2⟩; have hb2 := below_undrew hb2; have hz2 := hb2.size; have f0 := (hb2.cell (p := ⟨b, 0, none⟩) (by simp only []; omega)).trans c0; have f1 := (hb2.cell (p := ⟨b, 1, none⟩) (by simp only []; omega)).trans c1))
  all_goals
    go_wp2
    go_ret
    exact ⟨by rw [HPS.out]; rfl, hb2.trans (hb3.mono hz2)⟩


theorem spec_ParityText_c (w : World) (m : Int) (A : Option Addr) (n cap : Nat) (xs : List Int) (hl : xs.length = n) (hn : n ≤ 1048576) (hx : Sl w w.heap.size A (xs.map (Value.int .i64))) :
    Calls Tryd.prog 13 #[.agg #[.int .i64 m, .slice A n cap]] w fun e w' => e = .returned (.tuple #[.string (parS m xs), .bool (validParB m xs)]) ∧ Below w.heap.size w w' := by
  obtain ⟨w0, e0⟩ : ∃ q : World, q = w.alloc (.cells #[.int .i64 m, .slice A n cap] 36) := ⟨_, rfl⟩
  have hb0 : Below w.heap.size w w0 := by rw [e0]; exact (Below.refl _ _).alloc (Nat.le_refl _) _
  have hz0 : w0.heap.size = w.heap.size + 1 := by rw [e0]; simp
  have c0 : w0.cell? ⟨w.heap.size, 0, none⟩ = some (.int .i64 m) := by rw [e0]; (first | (simp; done) | (simp (disch := (first | (simp; done) | (simp; omega))) [World.cell?_alloc_at]; done) | (simp (disch := (first | (simp; done) | (simp; omega))) [World.cell?_alloc_past]; done) | (simp (disch := (first | (simp; done) | (simp; omega))) [World.cell?_alloc_at, World.cell?_alloc_past]; done) | (simp (disch := (first | (simp; done) | (simp; omega))) [World.frozen?_alloc_at]; done) | (simp (disch := (first | (simp; done) | (simp; omega))) [World.frozen?_alloc_past]; done) | (simp (disch := (first | (simp; done) | (simp; omega))) [World.frozen?_alloc_at, World.frozen?_alloc_past]; done))
  have c1 : w0.cell? ⟨w.heap.size, 1, none⟩ = some (.slice A n cap) := by rw [e0]; (first | (simp; done) | (simp (disch := (first | (simp; done) | (simp; omega))) [World.cell?_alloc_at]; done) | (simp (disch := (first | (simp; done) | (simp; omega))) [World.cell?_alloc_past]; done) | (simp (disch := (first | (simp; done) | (simp; omega))) [World.cell?_alloc_at, World.cell?_alloc_past]; done) | (simp (disch := (first | (simp; done) | (simp; omega))) [World.frozen?_alloc_at]; done) | (simp (disch := (first | (simp; done) | (simp; omega))) [World.frozen?_alloc_past]; done) | (simp (disch := (first | (simp; done) | (simp; omega))) [World.frozen?_alloc_at, World.frozen?_alloc_past]; done))
  have hx0 := (hx.below hb0).more hb0.size
  have HV := Lib.hid (spec_l06Is_c w0 w.heap.size w0.heap.size m A n cap xs c0 c1 (by omega) (Nat.le_refl _) hl hn hx0)
  have HP := Lib.hid (fun W (hW : Below w0.heap.size w0 W) (hc : validParB m xs = true) => spec_l08Parity_c W w.heap.size m A n cap xs (by have := hW.size; omega) ((hW.cell (p := ⟨w.heap.size, 0, none⟩) (by simp only []; omega)).trans c0) ((hW.cell (p := ⟨w.heap.size, 1, none⟩) (by simp only []; omega)).trans c1) hl ((hx0.below hW).more hW.size) hc)
  clear hx hx0
  go_enter Tryd.func13, Tryd.ntmps13
  go_wp2_with fail
  rw [← e0]
  clear e0 c0 c1
  go_wp2_with fail
  refine HV.out.mono ?_
  rintro e w1 ⟨rfl, hb1⟩
  have hB1 := hb0.trans (hb1.mono hb0.size)
  have hz1 := hb1.size
  cases hc : validParB m xs
  · have HCS := Lib.hid (show parS m xs = ⟨#[]⟩ by unfold parS; rw [hc]; rfl)
    have HC := Lib.hid hc
    clear hc
    go_wp2
    go_ret2
    exact ⟨by rw [HCS.out, HC.out]; rfl, hB1⟩
  · have HCS := Lib.hid (show parS m xs = ptS m xs by unfold parS; rw [hc]; rfl)
    have HC := Lib.hid hc
    have H2 := Lib.hid (HP.out w1 hb1 hc)
    clear hc
    go_wp2_with fail
    refine H2.out.mono ?_
    rintro e w2 ⟨rfl, hb2⟩
    go_wp2
    go_ret2
    exact ⟨by rw [HCS.out, HC.out]; rfl, hB1.trans (hb2.mono (by omega))⟩

end Go.Proofs.YthccklkonfappaaDoor
