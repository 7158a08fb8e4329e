/-
  FnGraphs returns true for every input, and leaves its arguments as they were.
  Conditions: none beyond the given statement's own.
-/
import Derived.Test.YtepdjehbgkfjhaaDB
import Derived.Test.YtepdjehbgkfjhaaGI
import Derived.Test.YtepdjehbgkfjhaaGJ
import Derived.Test.YtepdjehbgkfjhaaGS
import Derived.Test.YtepdjehbgkfjhaaAQ
namespace Go.Proofs.Ytepdjehbgkfjhaa
open Go.RowKit

theorem same_graph (m : Int) (D : List (List Int)) : sameGraphB m D m D = true := by unfold sameGraphB; simp
theorem Rows2.valid {W : World} {base M : Nat} {v : Value} {ys : List RowH} (h : Rows2 W base M v ys) (h1 : 1 ≤ M) (h2 : M ≤ 8) (h3 : 1 ≤ ys.length) (h4 : ys.length ≤ 5) : validGraphB (M : Int) (dat ys) = true ∧ (∀ r ∈ ys, r.2.2.length ≤ 8) ∧ ∀ r, r < ys.length → Once ((dat ys).getD r []) := by
  refine ⟨?_, fun r hr => Nat.le_trans (h.2 r hr).2.1.2.2 h2, fun r hr => ?_⟩
  · unfold validGraphB
    rw [dat_len, inB_true.2 (by omega), decide_eq_true h3, decide_eq_true (by omega), Bool.true_and, Bool.true_and, Bool.true_and, List.all_eq_true]
    intro l hl
    obtain ⟨r, hr, rfl⟩ := List.mem_map.1 hl
    exact (h.2 r hr).2.1.row (h.2 r hr).2.2
  · have e : (dat ys).getD r [] = ys[r].2.2 := by simp [dat, List.getD_eq_getElem?_getD, hr]
    rw [e]
    exact (h.2 _ (List.getElem_mem hr)).2.1.once
theorem low_all {xs : List Nat} (h : ∀ x ∈ xs, Low 10 x) : softB xs = true ∨ 160 < xs.length := by
  by_cases hl : 160 < xs.length
  · exact .inr hl
  · left
    unfold softB
    rw [decide_eq_true (by omega), Bool.true_and, List.all_eq_true]
    exact fun x hx => low_fin (by decide) (h x hx)
theorem low_get {xs : List Nat} (h : ∀ x ∈ xs, Low 10 x) (b : Nat) : Low 10 (xs.getD b 0) := by
  rw [List.getD_eq_getElem?_getD]
  cases hb : xs[b]? with
  | none => show Low 10 0; unfold Low; decide
  | some x => exact h x (List.mem_of_getElem? hb)

def lsL (D : List (List Int)) (soft : List Nat) (n K : Nat) : List Bool := match leastAt D soft n K with | some k => bitsK D soft n k | none => []
def lsR (D : List (List Int)) (soft : List Nat) (n K : Nat) : Int := match leastAt D soft n K with | some k => (k : Int) | none => 0
def lsO (D : List (List Int)) (soft : List Nat) (n K : Nat) : Bool := (leastAt D soft n K).isSome
theorem LeastPost.get {w w' : World} {D : List (List Int)} {soft : List Nat} {n K : Nat} {e : Ending} (h : LeastPost w D soft n K e w') : ∃ v, e = .returned (.tuple #[v, .int .i64 (lsR D soft n K), .bool (lsO D soft n K)]) ∧ Ow w' w.heap.size 4 v ((lsL D soft n K).map Value.bool) ∧ Below w.heap.size w w' := by
  obtain ⟨hb, h⟩ := h
  unfold lsR lsO lsL
  cases hl : leastAt D soft n K with
  | none => rw [hl] at h; exact ⟨_, h, ⟨rfl, .inl ⟨rfl, rfl⟩⟩, hb⟩
  | some k =>
    rw [hl] at h
    obtain ⟨v, h1, h2⟩ := h
    exact ⟨v, h1, h2, hb⟩
theorem lsO_yes {D : List (List Int)} {soft : List Nat} {n K M : Nat} (hM : soft.length = M) (h : lsO D soft n K = true) : memberB D (lsL D soft n K) = true ∧ (lsL D soft n K).length = M := by
  unfold lsO at h
  obtain ⟨k, hk⟩ := Option.isSome_iff_exists.1 h
  unfold lsL
  rw [hk]
  exact ⟨(leastAt_mem hk).1, bitsK_len hM k⟩

set_option maxRecDepth 100000 in
set_option maxHeartbeats 40000000 in
theorem law_FnGraphs (w : World) (A1 : Option Addr) (n1 cap1 : Nat) (c : List Int) (A2 : Option Addr) (n2 cap2 : Nat) (m : List Int) (hl1 : c.length = n1) (hm1 : n1 ≤ maxLen) (hb1 : ∀ x ∈ c, 0 ≤ x ∧ x ≤ 255) (hx1 : Sl w w.heap.size A1 (c.map (Value.int .u8)))
    (hl2 : m.length = n2) (hm2 : n2 ≤ maxLen) (hb2 : ∀ x ∈ m, 0 ≤ x ∧ x ≤ 255) (hx2 : Sl w w.heap.size A2 (m.map (Value.int .u8))) :
    Calls Try.prog 3 #[.slice A1 n1 cap1, .slice A2 n2 cap2] w fun e w' => e = .returned (.bool true) ∧ Below w.heap.size w w' := by
  by_cases hlong : 1048576 < n1 ∨ 1048576 < n2
  · go_enter Try.func3, Try.ntmps3
    go_wp2_with (go_at_call 4; refine (b10Long_c _ _ _ _ _ _ _ true (by simp; omega) hm1 hm2).mono ?_; rintro e w' ⟨rfl, rfl⟩)
    go_ret
    exact ⟨rfl, Below.refl _ _⟩
  have hn1 : n1 ≤ 1048576 := by omega
  have hn2 : n2 ≤ 1048576 := by omega
  have hfl : false = (decide (1048576 < n1) || decide (1048576 < n2)) := by rw [decide_eq_false (by omega), decide_eq_false (by omega)]; rfl
  have HFL := Lib.hid hfl
  have HX2 := Lib.hid hx2
  have HBB1 := Lib.hid hb1
  have HBB2 := Lib.hid hb2
  have HX1 := Lib.hid hx1
  clear hfl hlong hx1 hx2 hb1 hb2
  go_enter Try.func3, Try.ntmps3
  go_wp2_with (first
    | (go_at_call 4; refine (b10Long_c _ _ _ _ _ _ _ false HFL.out hm1 hm2).mono ?_; rintro e w' ⟨rfl, rfl⟩))
  refine (B10Graph_c w A1 n1 cap1 c hl1 hn1 HBB1.out HX1.out).mono ?_
  rintro e w1 ⟨M, v, ys, rfl, hM1, hM8, hy1, hy5, hrw, hb1⟩
  obtain ⟨V, kv, rfl, hpv⟩ := hrw.1.opn
  obtain ⟨hval, hr8, honce⟩ := hrw.valid hM1 hM8 hy1 hy5
  obtain ⟨n, hn⟩ : ∃ n, ys.length = n := ⟨_, rfl⟩
  rw [hn] at hrw hpv hy1 hy5 honce ⊢
  obtain ⟨D, hD⟩ : ∃ D, dat ys = D := ⟨_, rfl⟩
  rw [hD] at hval honce
  have hsl : Sl2 w1 w1.heap.size V ys := ⟨sl_of_own hpv, fun y hy => sl_of_own (hrw.2 y hy).1⟩
  have HVAL := Lib.hid hval
  have HON := Lib.hid honce
  have HR8 := Lib.hid hr8
  have HSL := Lib.hid hsl
  have HB1 := Lib.hid hb1
  have hz1 := hb1.size
  clear hval honce hr8 hsl hb1 hpv hrw HX1 HBB1
  go_wp2_with fail
  obtain ⟨G, hG⟩ : ∃ G, w1.heap.size = G := ⟨_, rfl⟩
  rw [hG]
  obtain ⟨w2, ew2⟩ : ∃ q : World, q = w1.alloc (.cells #[.int .i64 (M : Int), .slice V n kv] 26) := ⟨_, rfl⟩
  rw [← ew2]
  have hal : Below w1.heap.size w1 w2 := by rw [ew2]; exact (Below.refl _ _).alloc (Nat.le_refl _) _
  have c0 : w2.cell? ⟨G, 0, none⟩ = some (.int .i64 (M : Int)) := by rw [ew2, ← hG]; (first | (simp; done) | (simp (disch := (first | (simp; done) | (simp; omega))) [World.cell?_alloc_at]; done) | (simp (disch := (first | (simp; done) | (simp; omega))) [World.cell?_alloc_past]; done) | (simp (disch := (first | (simp; done) | (simp; omega))) [World.cell?_alloc_at, World.cell?_alloc_past]; done) | (simp (disch := (first | (simp; done) | (simp; omega))) [World.frozen?_alloc_at]; done) | (simp (disch := (first | (simp; done) | (simp; omega))) [World.frozen?_alloc_past]; done) | (simp (disch := (first | (simp; done) | (simp; omega))) [World.frozen?_alloc_at, World.frozen?_alloc_past]; done))
  have c1 : w2.cell? ⟨G, 1, none⟩ = some (.slice V n kv) := by rw [ew2, ← hG]; (first | (simp; done) | (simp (disch := (first | (simp; done) | (simp; omega))) [World.cell?_alloc_at]; done) | (simp (disch := (first | (simp; done) | (simp; omega))) [World.cell?_alloc_past]; done) | (simp (disch := (first | (simp; done) | (simp; omega))) [World.cell?_alloc_at, World.cell?_alloc_past]; done) | (simp (disch := (first | (simp; done) | (simp; omega))) [World.frozen?_alloc_at]; done) | (simp (disch := (first | (simp; done) | (simp; omega))) [World.frozen?_alloc_past]; done) | (simp (disch := (first | (simp; done) | (simp; omega))) [World.frozen?_alloc_at, World.frozen?_alloc_past]; done))
  have hz2 : w2.heap.size = G + 1 := by rw [ew2]; simp [hG]
  have HSL2 := Lib.hid (HSL.out.up hal)
  have HB2 := Lib.hid (HB1.out.trans (hal.mono hz1))
  clear ew2 hal HSL HB1
  refine (B10Bools_c w2 A2 n2 cap2 m hl2 hn2 HBB2.out (HX2.out.below HB2.out |>.more (by omega)) M (by omega)).mono ?_
  rintro e w3 ⟨vb, bs, rfl, hbl, hob, hb3⟩
  obtain ⟨Vb, kb, rfl, hpb⟩ := hob.opn
  rw [hbl] at hpb ⊢
  have hz3 := hb3.size
  have d0 := (hb3.cell (p := ⟨G, 0, none⟩) (by simp only []; omega)).trans c0
  have d1 := (hb3.cell (p := ⟨G, 1, none⟩) (by simp only []; omega)).trans c1
  have HSL3 := Lib.hid (HSL2.out.up hb3)
  have HB3 := Lib.hid (HB2.out.trans (hb3.mono HB2.out.size))
  have HPB := Lib.hid hpb
  clear c0 c1 hb3 HSL2 hob hpb
  go_wp2_with fail
  refine (B10Soft_c w3 A2 n2 cap2 m hl2 hn2 HBB2.out (HX2.out.below HB3.out |>.more (by omega)) M (by omega)).mono ?_
  rintro e w4 ⟨vs, xs, rfl, hxl, hlow, hos, hb4⟩
  obtain ⟨Vs, ks, rfl, hps⟩ := hos.opn
  rw [hxl] at hps ⊢
  have hz4 := hb4.size
  have e0 := (hb4.cell (p := ⟨G, 0, none⟩) (by simp only []; omega)).trans d0
  have e1 := (hb4.cell (p := ⟨G, 1, none⟩) (by simp only []; omega)).trans d1
  have hst : ∀ W, Below w4.heap.size w4 W → Sl2 W W.heap.size V ys ∧ Sl W W.heap.size Vb (bs.map Value.bool) ∧ Sl W W.heap.size Vs (xs.map (Value.float .f32)) ∧ W.cell? ⟨G, 0, none⟩ = some (.int .i64 (M : Int)) ∧ W.cell? ⟨G, 1, none⟩ = some (.slice V n kv) ∧ Below w.heap.size w W := by
    intro W hW
    exact ⟨(HSL3.out.up hb4).up hW, sl_of_own (own_below (own_below HPB.out hb4 (Nat.le_refl _)) hW (Nat.le_refl _)), sl_of_own (own_below hps hW (Nat.le_refl _)), (hW.cell (p := ⟨G, 0, none⟩) (by simp only []; omega)).trans e0, (hW.cell (p := ⟨G, 1, none⟩) (by simp only []; omega)).trans e1, (HB3.out.trans (hb4.mono HB3.out.size)).trans (hW.mono (by have := HB3.out.size; omega))⟩
  have HST := Lib.hid hst
  have hsf : softB xs = true := (low_all hlow).resolve_right (by omega)
  have HSF := Lib.hid hsf
  have HLOW := Lib.hid (low_get hlow)
  have hG4 : G < w4.heap.size := by omega
  have hww4 : w.heap.size ≤ w4.heap.size := by omega
  clear d0 d1 hb4 HSL3 HB3 HPB hps hos hlow hsf hst HX2 HBB2 HB2 hz1 hz2 hz3 hz4 hG
  have hr2 : Hid (∀ r ∈ ys, r.2.2.length ≤ 1048576) := Lib.hid fun r h => Nat.le_trans (HR8.out r h) (by decide)
  have hr32 : Hid (∀ r ∈ ys, r.2.2.length ≤ 32) := Lib.hid fun r h => Nat.le_trans (HR8.out r h) (by decide)
  go_wp2_with fail
  obtain ⟨s1, s2, s3, _⟩ := HST.out w4 (Below.refl _ _)
  refine (impl_FlipRounds_c w4 M V n kv ys D hD hn (by omega) hr2.out s1 Vb M kb bs hbl (by omega) s2 8).mono ?_
  rintro e w5 ⟨v5, rfl, ho5, hb5⟩
  clear s1 s2 s3
  have HB5 := Lib.hid hb5
  obtain ⟨s1, s2, s3, s4, s5, s6⟩ := HST.out w5 hb5
  have S := Lib.hid (And.intro s1 (And.intro s2 s3))
  clear s1 s2 s3 s6 e0 e1 hb5
  obtain ⟨V5, k5, rfl, hp5⟩ := ho5.opn
  obtain ⟨fL, hfL⟩ : ∃ fL, flipL (M : Int) D bs 8 = fL := ⟨_, rfl⟩
  obtain ⟨fR, hfR⟩ : ∃ fR, flipR (M : Int) D bs 8 = fR := ⟨_, rfl⟩
  obtain ⟨fO, hfO⟩ : ∃ fO, flipOk (M : Int) D bs 8 = fO := ⟨_, rfl⟩
  have hfy := fun h => flipOk_yes (m := (M : Int)) (D := D) (bs := bs) (k := 8) h
  rw [hfL, hbl, hfO] at hfy
  rw [hfL] at hp5
  rw [hfL, hfR, hfO]
  obtain ⟨fN, hfN⟩ : ∃ fN, fL.length = fN := ⟨_, rfl⟩
  rw [hfN] at hp5 hfy ⊢
  have HFL2 := Lib.hid hfL
  have HFR := Lib.hid hfR
  have HFO := Lib.hid hfO
  have HFY := Lib.hid hfy
  have HFN := Lib.hid hfN
  have HP5 := Lib.hid hp5
  clear ho5 hp5 hfL hfR hfO hfy hfN
  go_wp2_with fail
  refine (spec_FlipRounds_c w5 M V n kv ys D hD hn (by omega) hr2.out S.out.1 Vb M kb bs hbl (by omega) S.out.2.1 8).mono ?_
  rintro e w6 ⟨v6, rfl, ho6, hb6⟩
  rw [HFL2.out] at ho6
  rw [HFR.out, HFO.out]
  obtain ⟨V6, k6, rfl, hp6⟩ := ho6.opn
  rw [HFN.out] at hp6 ⊢
  have HB6 := Lib.hid (HB5.out.trans (hb6.mono HB5.out.size))
  clear S s4 s5
  obtain ⟨s1, s2, s3, s4, s5, s6⟩ := HST.out w6 HB6.out
  have S := Lib.hid (And.intro s1 (And.intro s2 s3))
  have HP56 := Lib.hid (own_below HP5.out hb6 (Nat.le_refl _))
  have HP6 := Lib.hid hp6
  clear s1 s2 s3 s6 hp6 ho6 hb6 HP5
  go_wp2_with fail
  refine (impl_Least_c w6 V Vs n kv M ks 8 ys D xs hD hn (by omega) hr32.out S.out.1 hxl (by omega) S.out.2.2 HVAL.out HSF.out (by decide) HLOW.out (by omega) HON.out).mono ?_
  intro e w7 hP7
  obtain ⟨v7, rfl, ho7, hb7⟩ := hP7.get
  obtain ⟨V7, k7, rfl, hp7⟩ := ho7.opn
  obtain ⟨lL, hlL⟩ : ∃ lL, lsL D xs n 8 = lL := ⟨_, rfl⟩
  obtain ⟨lR, hlR⟩ : ∃ lR, lsR D xs n 8 = lR := ⟨_, rfl⟩
  obtain ⟨lO, hlO⟩ : ∃ lO, lsO D xs n 8 = lO := ⟨_, rfl⟩
  have hly := lsO_yes (D := D) (n := n) (K := 8) hxl
  rw [hlL, hlO] at hly
  rw [hlL] at hp7
  rw [hlL, hlR, hlO]
  obtain ⟨lN, hlN⟩ : ∃ lN, lL.length = lN := ⟨_, rfl⟩
  rw [hlN] at hp7 hly ⊢
  have HLL := Lib.hid hlL
  have HLR := Lib.hid hlR
  have HLO := Lib.hid hlO
  have HLY := Lib.hid hly
  have HLN := Lib.hid hlN
  have HB7 := Lib.hid (HB6.out.trans (hb7.mono HB6.out.size))
  clear S s4 s5
  obtain ⟨s1, s2, s3, s4, s5, s6⟩ := HST.out w7 HB7.out
  have S := Lib.hid (And.intro s1 (And.intro s2 s3))
  have HP57 := Lib.hid (own_below HP56.out hb7 (Nat.le_refl _))
  have HP67 := Lib.hid (own_below HP6.out hb7 (Nat.le_refl _))
  have HP7 := Lib.hid hp7
  clear s1 s2 s3 s6 hb7 HP56 HP6 hP7 ho7 hp7 hlL hlR hlO hly hlN
  go_wp2_with fail
  refine (spec_Least_c w7 V Vs n kv M ks 8 ys D xs hD hn (by omega) hr32.out S.out.1 hxl (by omega) S.out.2.2 HVAL.out HSF.out (by decide) HLOW.out (by omega) HON.out).mono ?_
  intro e w8 hP8
  obtain ⟨v8, rfl, ho8, hb8⟩ := hP8.get
  obtain ⟨V8, k8, rfl, hp8⟩ := ho8.opn
  rw [HLL.out, HLN.out] at hp8
  rw [HLL.out, HLR.out, HLO.out, HLN.out]
  have HB8 := Lib.hid (HB7.out.trans (hb8.mono HB7.out.size))
  clear S s4 s5
  obtain ⟨s1, s2, s3, s4, s5, s6⟩ := HST.out w8 HB8.out
  have S := Lib.hid (And.intro s1 (And.intro s2 s3))
  have HP58 := Lib.hid (own_below HP57.out hb8 (Nat.le_refl _))
  have HP68 := Lib.hid (own_below HP67.out hb8 (Nat.le_refl _))
  have HP78 := Lib.hid (own_below HP7.out hb8 (Nat.le_refl _))
  have HP8 := Lib.hid hp8
  clear s1 s2 s3 s6 hb8 HP57 HP67 HP7 hP8 ho8 hp8
  have hmk := fun W : World => run_mk (P := Try.prog) Try.underlying28 infoBool rfl (by decide) M (by omega) .i64 .i64 W
  have hG8 : G < w8.heap.size := by have := HB8.out.size; omega
  go_wp2_with fail
  clear hmk
  obtain ⟨w9, ew9⟩ : ∃ q : World, q = w8.alloc (.cells (zeroRow (.bool false) M) 4) := ⟨_, rfl⟩
  rw [← ew9]
  have hp9 : w9.ownsRow w8.heap.size 4 1 (.slice (some ⟨w8.heap.size, 0, none⟩) M M) M ((List.replicate M false).map Value.bool) := by
    rw [ew9]
    have h := own_mk w8 w8.heap.size 4 (.bool false) M (Nat.le_refl _) (by omega)
    simpa using h
  have hb9 : Below w8.heap.size w8 w9 := by rw [ew9]; exact (Below.refl _ _).alloc (Nat.le_refl _) _
  obtain ⟨V9, hV9⟩ : ∃ V9, some (⟨w8.heap.size, 0, none⟩ : Addr) = V9 := ⟨_, rfl⟩
  rw [hV9] at hp9 ⊢
  have HB9 := Lib.hid (HB8.out.trans (hb9.mono HB8.out.size))
  clear S s4 s5
  obtain ⟨s1, s2, s3, s4, s5, s6⟩ := HST.out w9 HB9.out
  have S := Lib.hid (And.intro s1 (And.intro s2 s3))
  have HP59 := Lib.hid (own_below HP58.out hb9 (Nat.le_refl _))
  have HP69 := Lib.hid (own_below HP68.out hb9 (Nat.le_refl _))
  have HP79 := Lib.hid (own_below HP78.out hb9 (Nat.le_refl _))
  have HP89 := Lib.hid (own_below HP8.out hb9 (Nat.le_refl _))
  have HP9 := Lib.hid hp9
  obtain ⟨i1, i2⟩ := isMem_yes (bs := List.replicate M false) HVAL.out (by simp)
  rw [member_none] at i2
  obtain ⟨j1, j2, j3⟩ := flip_none HVAL.out
  have HI := Lib.hid (And.intro i1 i2)
  have HJ := Lib.hid (And.intro j1 (And.intro j2 j3))
  clear s1 s2 s3 s6 hb9 HP58 HP68 HP78 HP8 hV9 ew9 i1 i2 j1 j2 j3 hp9
  refine (impl_IsMember_c w9 M V n kv ys D hD hn (by omega) hr2.out S.out.1 V9 M M (List.replicate M false) (by simp) (by omega) (sl_of_own HP9.out)).mono ?_
  rintro e w10 ⟨rfl, hb10⟩
  rw [HI.out.1, HI.out.2]
  have HB10 := Lib.hid (HB9.out.trans (hb10.mono HB9.out.size))
  clear S s4 s5
  obtain ⟨s1, s2, s3, s4, s5, s6⟩ := HST.out w10 HB10.out
  have S := Lib.hid (And.intro s1 (And.intro s2 s3))
  have HP59' := Lib.hid (own_below HP59.out hb10 (Nat.le_refl _))
  have HP69' := Lib.hid (own_below HP69.out hb10 (Nat.le_refl _))
  have HP79' := Lib.hid (own_below HP79.out hb10 (Nat.le_refl _))
  have HP89' := Lib.hid (own_below HP89.out hb10 (Nat.le_refl _))
  have HP9' := Lib.hid (own_below HP9.out hb10 (Nat.le_refl _))
  clear s1 s2 s3 s6 hb10 HP59 HP69 HP79 HP89 HP9
  go_wp2_with fail
  refine (impl_FlipRounds_c w10 M V n kv ys D hD hn (by omega) hr2.out S.out.1 V9 M M (List.replicate M false) (by simp) (by omega) (sl_of_own HP9'.out) 0).mono ?_
  rintro e w11 ⟨v11, rfl, ho11, hb11⟩
  rw [HJ.out.2.2] at ho11
  rw [HJ.out.1, HJ.out.2.1]
  obtain ⟨V11, k11, rfl, hp11⟩ := ho11.opn
  rw [List.length_replicate] at hp11 ⊢
  have HB11 := Lib.hid (HB10.out.trans (hb11.mono HB10.out.size))
  clear S s4 s5
  have hP := fun (W : World) (hW : Below w11.heap.size w11 W) => And.intro (own_below (own_below HP59'.out hb11 (Nat.le_refl _)) hW (Nat.le_refl _)) (And.intro (own_below (own_below HP69'.out hb11 (Nat.le_refl _)) hW (Nat.le_refl _)) (And.intro (own_below (own_below HP79'.out hb11 (Nat.le_refl _)) hW (Nat.le_refl _)) (And.intro (own_below (own_below HP89'.out hb11 (Nat.le_refl _)) hW (Nat.le_refl _)) (And.intro (own_below (own_below HP9'.out hb11 (Nat.le_refl _)) hW (Nat.le_refl _)) (own_below hp11 hW (Nat.le_refl _))))))
  have hSS := fun (W : World) (hW : Below w11.heap.size w11 W) => HST.out W (HB11.out.trans (hW.mono HB11.out.size))
  have HP := Lib.hid hP
  have HSS := Lib.hid hSS
  obtain ⟨_, _, _, t0, t1, hw11⟩ := hSS w11 (Below.refl _ _)
  have HW11 := Lib.hid hw11
  have hG11 : G < w11.heap.size := by have := HB11.out.size; omega
  have hV := Lib.hid (And.intro HVAL.out (same_graph (M : Int) D))
  clear hP hSS hb11 HP59' HP69' HP79' HP89' HP9' ho11 hp11 HST hw11
  have hnf : (fR != fR) = false := by simp
  have hnl : (lR != lR) = false := by simp
  have HL1 := Lib.hid (fun (W : World) (hW : Below w11.heap.size w11 W) => b10Bools_t W W.heap.size V11 V9 M k11 M M (List.replicate M false) (by simp) (by omega) rfl (sl_of_own (HP.out W hW).2.2.2.2.2) (sl_of_own (HP.out W hW).2.2.2.2.1))
  have HVG := Lib.hid (fun (W : World) (hW : Below w11.heap.size w11 W) => impl_ValidGraph_c W (M : Int) V n kv ys D hD hn (by omega) hr2.out (HSS.out W hW).1)
  have HSG := Lib.hid (fun (W : World) (hW : Below w11.heap.size w11 W) => impl_SameGraph_c W (M : Int) V n kv ys D hD hn (by omega) hr2.out (HSS.out W hW).1 (M : Int) V n kv ys D hD hn (by omega) hr2.out (HSS.out W hW).1)
  have HFF := Lib.hid (fun (W : World) (hW : Below w11.heap.size w11 W) (hN : fN ≤ 1048576) => b10Bools_t W W.heap.size V5 V6 fN k5 fN k6 fL HFN.out hN rfl (sl_of_own (HP.out W hW).1) (sl_of_own (HP.out W hW).2.1))
  have HLL2 := Lib.hid (fun (W : World) (hW : Below w11.heap.size w11 W) (hN : lN ≤ 1048576) => b10Bools_t W W.heap.size V7 V8 lN k7 lN k8 lL HLN.out hN rfl (sl_of_own (HP.out W hW).2.2.1) (sl_of_own (HP.out W hW).2.2.2.1))
  have HMF := Lib.hid (fun (W : World) (hW : Below w11.heap.size w11 W) (hN : fN = M) => impl_IsMember_c W (M : Int) V n kv ys D hD hn (by omega) hr2.out (HSS.out W hW).1 V5 fN k5 fL HFN.out (by omega) (sl_of_own (HP.out W hW).1))
  have HML := Lib.hid (fun (W : World) (hW : Below w11.heap.size w11 W) (hN : lN = M) => impl_IsMember_c W (M : Int) V n kv ys D hD hn (by omega) hr2.out (HSS.out W hW).1 V7 lN k7 lL HLN.out (by omega) (sl_of_own (HP.out W hW).2.2.1))
  cases fO <;> cases lO
  · have HMEM := Lib.hid (And.intro trivial trivial)
    go_wp2_with fail
    refine (HL1.out w11 (Below.refl _ _)).mono ?_
    rintro e w' ⟨rfl, q12, rfl⟩
    obtain ⟨w12, ew12⟩ : ∃ x : World, x = w11.drewN q12 := ⟨_, rfl⟩
    rw [← ew12]
    have HB12 := Lib.hid (show Below w11.heap.size w11 w12 by (rw [ew12]; exact below_of_drewN _ _ _))
    have hG12 : G < w12.heap.size := (Nat.lt_of_lt_of_le hG11 HB12.out.size)
    have u12 := (HSS.out w12 HB12.out).2.2.2.1
    have x12 := (HSS.out w12 HB12.out).2.2.2.2.1
    clear ew12
    go_wp2_with fail
    refine (HVG.out w12 HB12.out).mono ?_
    rintro e w13 ⟨rfl, hb13⟩
    rw [hV.out.1]
    have HB13 := Lib.hid (HB12.out.trans (hb13.mono HB12.out.size))
    have hG13 : G < w13.heap.size := (Nat.lt_of_lt_of_le hG11 HB13.out.size)
    have u13 := (HSS.out w13 HB13.out).2.2.2.1
    have x13 := (HSS.out w13 HB13.out).2.2.2.2.1
    clear hb13
    go_wp2_with fail
    refine (HSG.out w13 HB13.out).mono ?_
    rintro e w14 ⟨rfl, hb14⟩
    rw [hV.out.2]
    have HB14 := Lib.hid (HB13.out.trans (hb14.mono HB13.out.size))
    have hG14 : G < w14.heap.size := (Nat.lt_of_lt_of_le hG11 HB14.out.size)
    have u14 := (HSS.out w14 HB14.out).2.2.2.1
    have x14 := (HSS.out w14 HB14.out).2.2.2.2.1
    clear hb14
    go_wp2_with fail
    all_goals
      go_ret
      exact ⟨rfl, (HSS.out w14 HB14.out).2.2.2.2.2⟩
  · obtain ⟨hml, hlN⟩ := HLY.out rfl
    subst hlN
    have HMEM := Lib.hid (And.intro trivial hml)
    clear hml
    go_wp2_with fail
    refine (HL1.out w11 (Below.refl _ _)).mono ?_
    rintro e w' ⟨rfl, q12, rfl⟩
    obtain ⟨w12, ew12⟩ : ∃ x : World, x = w11.drewN q12 := ⟨_, rfl⟩
    rw [← ew12]
    have HB12 := Lib.hid (show Below w11.heap.size w11 w12 by (rw [ew12]; exact below_of_drewN _ _ _))
    have hG12 : G < w12.heap.size := (Nat.lt_of_lt_of_le hG11 HB12.out.size)
    have u12 := (HSS.out w12 HB12.out).2.2.2.1
    have x12 := (HSS.out w12 HB12.out).2.2.2.2.1
    clear ew12
    go_wp2_with fail
    refine (HVG.out w12 HB12.out).mono ?_
    rintro e w13 ⟨rfl, hb13⟩
    rw [hV.out.1]
    have HB13 := Lib.hid (HB12.out.trans (hb13.mono HB12.out.size))
    have hG13 : G < w13.heap.size := (Nat.lt_of_lt_of_le hG11 HB13.out.size)
    have u13 := (HSS.out w13 HB13.out).2.2.2.1
    have x13 := (HSS.out w13 HB13.out).2.2.2.2.1
    clear hb13
    go_wp2_with fail
    refine (HSG.out w13 HB13.out).mono ?_
    rintro e w14 ⟨rfl, hb14⟩
    rw [hV.out.2]
    have HB14 := Lib.hid (HB13.out.trans (hb14.mono HB13.out.size))
    have hG14 : G < w14.heap.size := (Nat.lt_of_lt_of_le hG11 HB14.out.size)
    have u14 := (HSS.out w14 HB14.out).2.2.2.1
    have x14 := (HSS.out w14 HB14.out).2.2.2.2.1
    clear hb14
    go_wp2_with fail
    all_goals
      refine (HLL2.out w14 HB14.out (Nat.le_trans hM8 (by decide))).mono ?_
      rintro e w' ⟨rfl, q16, rfl⟩
      obtain ⟨w16, ew16⟩ : ∃ x : World, x = w14.drewN q16 := ⟨_, rfl⟩
      rw [← ew16]
      have HB16 := Lib.hid (show Below w11.heap.size w11 w16 by (rw [ew16]; exact HB14.out.trans (below_of_drewN _ _ _)))
      have hG16 : G < w16.heap.size := (Nat.lt_of_lt_of_le hG11 HB16.out.size)
      have u16 := (HSS.out w16 HB16.out).2.2.2.1
      have x16 := (HSS.out w16 HB16.out).2.2.2.2.1
      clear ew16
      go_wp2_with fail
      all_goals
        refine (HML.out w16 HB16.out (by trivial)).mono ?_
        rintro e w18 ⟨rfl, hb18⟩
        rw [(isMem_yes HVAL.out HLN.out).1, (isMem_yes HVAL.out HLN.out).2, HMEM.out.2]
        have HB18 := Lib.hid (HB16.out.trans (hb18.mono HB16.out.size))
        have hG18 : G < w18.heap.size := (Nat.lt_of_lt_of_le hG11 HB18.out.size)
        have u18 := (HSS.out w18 HB18.out).2.2.2.1
        have x18 := (HSS.out w18 HB18.out).2.2.2.2.1
        clear hb18
        go_wp2_with fail
        all_goals
          go_ret
          exact ⟨rfl, (HSS.out w18 HB18.out).2.2.2.2.2⟩
  · obtain ⟨hmf, hfN⟩ := HFY.out rfl
    subst hfN
    have HMEM := Lib.hid (And.intro hmf trivial)
    clear hmf 
    go_wp2_with fail
    refine (HL1.out w11 (Below.refl _ _)).mono ?_
    rintro e w' ⟨rfl, q12, rfl⟩
    obtain ⟨w12, ew12⟩ : ∃ x : World, x = w11.drewN q12 := ⟨_, rfl⟩
    rw [← ew12]
    have HB12 := Lib.hid (show Below w11.heap.size w11 w12 by (rw [ew12]; exact below_of_drewN _ _ _))
    have hG12 : G < w12.heap.size := (Nat.lt_of_lt_of_le hG11 HB12.out.size)
    have u12 := (HSS.out w12 HB12.out).2.2.2.1
    have x12 := (HSS.out w12 HB12.out).2.2.2.2.1
    clear ew12
    go_wp2_with fail
    refine (HVG.out w12 HB12.out).mono ?_
    rintro e w13 ⟨rfl, hb13⟩
    rw [hV.out.1]
    have HB13 := Lib.hid (HB12.out.trans (hb13.mono HB12.out.size))
    have hG13 : G < w13.heap.size := (Nat.lt_of_lt_of_le hG11 HB13.out.size)
    have u13 := (HSS.out w13 HB13.out).2.2.2.1
    have x13 := (HSS.out w13 HB13.out).2.2.2.2.1
    clear hb13
    go_wp2_with fail
    refine (HSG.out w13 HB13.out).mono ?_
    rintro e w14 ⟨rfl, hb14⟩
    rw [hV.out.2]
    have HB14 := Lib.hid (HB13.out.trans (hb14.mono HB13.out.size))
    have hG14 : G < w14.heap.size := (Nat.lt_of_lt_of_le hG11 HB14.out.size)
    have u14 := (HSS.out w14 HB14.out).2.2.2.1
    have x14 := (HSS.out w14 HB14.out).2.2.2.2.1
    clear hb14
    go_wp2_with fail
    all_goals
      refine (HFF.out w14 HB14.out (Nat.le_trans hM8 (by decide))).mono ?_
      rintro e w' ⟨rfl, q15, rfl⟩
      obtain ⟨w15, ew15⟩ : ∃ x : World, x = w14.drewN q15 := ⟨_, rfl⟩
      rw [← ew15]
      have HB15 := Lib.hid (show Below w11.heap.size w11 w15 by (rw [ew15]; exact HB14.out.trans (below_of_drewN _ _ _)))
      have hG15 : G < w15.heap.size := (Nat.lt_of_lt_of_le hG11 HB15.out.size)
      have u15 := (HSS.out w15 HB15.out).2.2.2.1
      have x15 := (HSS.out w15 HB15.out).2.2.2.2.1
      clear ew15
      go_wp2_with fail
      all_goals
        refine (HMF.out w15 HB15.out (by trivial)).mono ?_
        rintro e w17 ⟨rfl, hb17⟩
        rw [(isMem_yes HVAL.out HFN.out).1, (isMem_yes HVAL.out HFN.out).2, HMEM.out.1]
        have HB17 := Lib.hid (HB15.out.trans (hb17.mono HB15.out.size))
        have hG17 : G < w17.heap.size := (Nat.lt_of_lt_of_le hG11 HB17.out.size)
        have u17 := (HSS.out w17 HB17.out).2.2.2.1
        have x17 := (HSS.out w17 HB17.out).2.2.2.2.1
        clear hb17
        go_wp2_with fail
        all_goals
          go_ret
          exact ⟨rfl, (HSS.out w17 HB17.out).2.2.2.2.2⟩
  · obtain ⟨hmf, hfN⟩ := HFY.out rfl
    subst hfN
    obtain ⟨hml, hlN⟩ := HLY.out rfl
    subst hlN
    have HMEM := Lib.hid (And.intro hmf hml)
    clear hmf hml
    go_wp2_with fail
    refine (HL1.out w11 (Below.refl _ _)).mono ?_
    rintro e w' ⟨rfl, q12, rfl⟩
    obtain ⟨w12, ew12⟩ : ∃ x : World, x = w11.drewN q12 := ⟨_, rfl⟩
    rw [← ew12]
    have HB12 := Lib.hid (show Below w11.heap.size w11 w12 by (rw [ew12]; exact below_of_drewN _ _ _))
    have hG12 : G < w12.heap.size := (Nat.lt_of_lt_of_le hG11 HB12.out.size)
    have u12 := (HSS.out w12 HB12.out).2.2.2.1
    have x12 := (HSS.out w12 HB12.out).2.2.2.2.1
    clear ew12
    go_wp2_with fail
    refine (HVG.out w12 HB12.out).mono ?_
    rintro e w13 ⟨rfl, hb13⟩
    rw [hV.out.1]
    have HB13 := Lib.hid (HB12.out.trans (hb13.mono HB12.out.size))
    have hG13 : G < w13.heap.size := (Nat.lt_of_lt_of_le hG11 HB13.out.size)
    have u13 := (HSS.out w13 HB13.out).2.2.2.1
    have x13 := (HSS.out w13 HB13.out).2.2.2.2.1
    clear hb13
    go_wp2_with fail
    refine (HSG.out w13 HB13.out).mono ?_
    rintro e w14 ⟨rfl, hb14⟩
    rw [hV.out.2]
    have HB14 := Lib.hid (HB13.out.trans (hb14.mono HB13.out.size))
    have hG14 : G < w14.heap.size := (Nat.lt_of_lt_of_le hG11 HB14.out.size)
    have u14 := (HSS.out w14 HB14.out).2.2.2.1
    have x14 := (HSS.out w14 HB14.out).2.2.2.2.1
    clear hb14
    go_wp2_with fail
    refine (HFF.out w14 HB14.out (Nat.le_trans hM8 (by decide))).mono ?_
    rintro e w' ⟨rfl, q15, rfl⟩
    obtain ⟨w15, ew15⟩ : ∃ x : World, x = w14.drewN q15 := ⟨_, rfl⟩
    rw [← ew15]
    have HB15 := Lib.hid (show Below w11.heap.size w11 w15 by (rw [ew15]; exact HB14.out.trans (below_of_drewN _ _ _)))
    have hG15 : G < w15.heap.size := (Nat.lt_of_lt_of_le hG11 HB15.out.size)
    have u15 := (HSS.out w15 HB15.out).2.2.2.1
    have x15 := (HSS.out w15 HB15.out).2.2.2.2.1
    clear ew15
    go_wp2_with fail
    refine (HLL2.out w15 HB15.out (Nat.le_trans hM8 (by decide))).mono ?_
    rintro e w' ⟨rfl, q16, rfl⟩
    obtain ⟨w16, ew16⟩ : ∃ x : World, x = w15.drewN q16 := ⟨_, rfl⟩
    rw [← ew16]
    have HB16 := Lib.hid (show Below w11.heap.size w11 w16 by (rw [ew16]; exact HB15.out.trans (below_of_drewN _ _ _)))
    have hG16 : G < w16.heap.size := (Nat.lt_of_lt_of_le hG11 HB16.out.size)
    have u16 := (HSS.out w16 HB16.out).2.2.2.1
    have x16 := (HSS.out w16 HB16.out).2.2.2.2.1
    clear ew16
    go_wp2_with fail
    refine (HMF.out w16 HB16.out (by trivial)).mono ?_
    rintro e w17 ⟨rfl, hb17⟩
    rw [(isMem_yes HVAL.out HFN.out).1, (isMem_yes HVAL.out HFN.out).2, HMEM.out.1]
    have HB17 := Lib.hid (HB16.out.trans (hb17.mono HB16.out.size))
    have hG17 : G < w17.heap.size := (Nat.lt_of_lt_of_le hG11 HB17.out.size)
    have u17 := (HSS.out w17 HB17.out).2.2.2.1
    have x17 := (HSS.out w17 HB17.out).2.2.2.2.1
    clear hb17
    go_wp2_with fail
    refine (HML.out w17 HB17.out (by trivial)).mono ?_
    rintro e w18 ⟨rfl, hb18⟩
    rw [(isMem_yes HVAL.out HLN.out).1, (isMem_yes HVAL.out HLN.out).2, HMEM.out.2]
    have HB18 := Lib.hid (HB17.out.trans (hb18.mono HB17.out.size))
    have hG18 : G < w18.heap.size := (Nat.lt_of_lt_of_le hG11 HB18.out.size)
    have u18 := (HSS.out w18 HB18.out).2.2.2.1
    have x18 := (HSS.out w18 HB18.out).2.2.2.2.1
    clear hb18
    go_wp2_with fail
    all_goals
      have hz18 := HB18.out.size
      have ho0 := own_empty w18 w18.heap.size 4 (Nat.le_refl _)
      have hbn : Below w18.heap.size w18 (w18.alloc (.cells #[] 4)) := (Below.refl _ _).alloc (Nat.le_refl _) _
      go_loopw [30, 195] (fun v i wr => ∃ z : Nat, z ≤ lN ∧ i = .int .i64 (z : Int) ∧ Ow wr w18.heap.size 4 v ((bothL fL lL z).map Value.bool) ∧ Below w18.heap.size w18 wr) (fun _ i _ => lN - (intOf i).toNat)
      case atStart => exact ⟨0, Nat.zero_le _, rfl, ho0, hbn⟩
      case round =>
        clear ho0 hbn
        obtain ⟨z, hz, rfl, ho, hb⟩ := hrel
        obtain ⟨w19, rfl⟩ : ∃ w19 : World, w19 = wr := ⟨_, rfl⟩
        have hz19 := hb.size
        have hB19 := HB18.out.trans (hb.mono hz18)
        by_cases hlz : z < lN
        · obtain ⟨b1, o1, rfl, hbb1, cc1⟩ := ((sl_of_own (HP.out w18 HB18.out).1).below hb).get z (by rw [HFN.out]; exact hlz)
          obtain ⟨b2, o2, rfl, hbb2, cc2⟩ := ((sl_of_own (HP.out w18 HB18.out).2.2.1).below hb).get z (by rw [HLN.out]; exact hlz)
          have g1 : fL.getD z false = fL[z]'(by rw [HFN.out]; exact hlz) := by rw [List.getD_eq_getElem?_getD, List.getElem?_eq_getElem (by rw [HFN.out]; exact hlz)]; rfl
          have g2 : lL.getD z false = lL[z]'(by rw [HLN.out]; exact hlz) := by rw [List.getD_eq_getElem?_getD, List.getElem?_eq_getElem (by rw [HLN.out]; exact hlz)]; rfl
          have hsn := bothL_succ fL lL z
          rw [g1, g2] at hsn
          obtain ⟨x, hx⟩ : ∃ x, fL[z]'(by rw [HFN.out]; exact hlz) = x := ⟨_, rfl⟩
          obtain ⟨y, hy⟩ : ∃ y, lL[z]'(by rw [HLN.out]; exact hlz) = y := ⟨_, rfl⟩
          rw [hx, hy] at hsn
          rw [hx] at cc1
          rw [hy] at cc2
          have HSN := Lib.hid hsn
          have HB19 := Lib.hid hb
          have hlen : ((bothL fL lL z).map Value.bool).length + 1 ≤ 1099511627776 := by rw [List.length_map, bothL_len]; omega
          have qa : ∀ (o : Go.Obj) (k : Nat) (b : Nat), b < w19.heap.size → (w19.alloc o).cell? ⟨b, k, none⟩ = w19.cell? ⟨b, k, none⟩ := fun o k b hb => ((Below.refl w19.heap.size w19).alloc (Nat.le_refl _) o).cell (p := ⟨b, k, none⟩) hb
          have QA := Lib.hid qa
          clear qa hsn hx hy g1 g2 hb hB19 HL1 HVG HSG HFF HLL2 HMF HML HP HSS HMEM
          go_wp2_with fail
          go_region_held3 (fun w' => w'.cell? ⟨b1, o1 + z, none⟩ = some (.bool x) ∧ w'.cell? ⟨b2, o2 + z, none⟩ = some (.bool y))
            (first | exact ⟨p1, p2⟩ | exact ⟨cc1, cc2⟩ | exact ⟨(QA.out _ _ _ (Nat.lt_of_lt_of_le hbb1 hz19)).trans cc1, (QA.out _ _ _ (Nat.lt_of_lt_of_le hbb2 hz19)).trans cc2⟩)
            (first
              | (refine step_app1 Try.underlying28 infoBool rfl (by decide) (by rfl) _ _ (by rfl) w18.heap.size u30 _ (by rfl) (World.ownsRow.alloc ho _) _ _ _ (by rfl) (cell_new1 _ _ _) rfl hlen (by simp; omega) ?_; intro v' w20 ho20 hg20; have hb20 : Below w18.heap.size w19 w20 := (below_drewN ((Below.refl w18.heap.size w19).alloc hz19 _) 1).grown hg20 (by show w18.heap.size ≤ (World.alloc _ _).heap.size; simp; omega) (fun k hk => (World.ownsRow.lt ho k hk).1); have p1 := (hb20.cell (p := ⟨b1, o1 + z, none⟩) hbb1).trans cc1; have p2 := (hb20.cell (p := ⟨b2, o2 + z, none⟩) hbb2).trans cc2))
          go_wp2
          go_roundw
          case rel =>
            refine ⟨z + 1, hlz, by go_num, ?_, HB19.out.trans hb20⟩
            rw [HSN.out, List.map_append]
            exact ho20
          case measure => simp [intOf] <;> omega
        · have hze : z = lN := by omega
          subst hze
          obtain ⟨VB, kB, rfl, hpB⟩ := ho.opn
          rw [bothL_len] at hpB ⊢
          have hmb := member_both HFN.out HLN.out HMEM.out.1 HMEM.out.2
          have him := isMem_yes HVAL.out (bothL_len fL lL z)
          rw [hmb] at him
          have HIM := Lib.hid him
          have HCB := Lib.hid (impl_IsMember_c w19 (z : Int) V n kv ys D hD hn (by omega) hr2.out (HSS.out w19 hB19).1 VB z kB (bothL fL lL z) (bothL_len fL lL z) (by omega) (sl_of_own hpB))
          have y0 := (HSS.out w19 hB19).2.2.2.1
          have y1 := (HSS.out w19 hB19).2.2.2.2.1
          have HBZ := Lib.hid (HSS.out w19 hB19).2.2.2.2.2
          have hG19 : G < w19.heap.size := Nat.lt_of_lt_of_le hG11 hB19.size
          clear HL1 HVG HSG HFF HLL2 HMF HML HMEM hpB hmb him ho hb hB19
          go_wp2_with fail
          refine HCB.out.mono ?_
          rintro e w20 ⟨rfl, hb20⟩
          rw [HIM.out.1, HIM.out.2]
          go_wp2_with fail
          go_ret
          exact ⟨rfl, HBZ.out.trans (hb20.mono HBZ.out.size)⟩

end Go.Proofs.Ytepdjehbgkfjhaa
