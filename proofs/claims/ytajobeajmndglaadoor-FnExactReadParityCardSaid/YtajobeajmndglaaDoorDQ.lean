/-
  Contracts: codes read, of both.
  Conditions: texts of at most 1048576 bytes; the tables and variables of the library lie there.
-/
import Derived.Test.YtajobeajmndglaaDoorDO
import Derived.Test.YtajobeajmndglaaDoorVC
namespace Go.Proofs.YtajobeajmndglaaDoor
open Go.RowKit

/-- a code that may be none, as two results -/
def asV (A : Option Addr) (n cap : Nat) : Bool → Value
  | true => .tuple #[.agg #[.slice A n cap], .bool true]
  | false => .tuple #[.agg #[.slice none 0 0], .bool false]


set_option maxRecDepth 100000 in
theorem impl_asCode_c (w : World) (A : Option Addr) (n cap : Nat) (xs : List Int) (hl : xs.length = n) (hn : n ≤ 1048576) (hx : Sl w w.heap.size A (xs.map (Value.int .i64))) :
    Calls Tryd.prog 17 #[.slice A n cap] w fun e w' => e = .returned (asV A n cap (codeB xs)) ∧ Below w.heap.size w w' := by
  obtain ⟨w0, e0⟩ : ∃ q : World, q = (w.alloc (.cells #[.slice none 0 0] 24)).alloc (.cells #[.slice A n cap] 24) := ⟨_, rfl⟩
  have hb0 : Below w.heap.size w w0 := by rw [e0]; exact ((Below.refl _ _).alloc (Nat.le_refl _) _).alloc (by simp) _
  have hz0 : w0.heap.size = w.heap.size + 2 := by rw [e0]; simp
  have c0 : w0.cell? ⟨w.heap.size, 0, none⟩ = some (.slice none 0 0) := by rw [e0]; (first | (simp; done) | (simp (disch := (first | (simp; done) | (simp; omega))) [World.cell?_alloc_at]; done) | (simp (disch := (first | (simp; done) | (simp; omega))) [World.cell?_alloc_past]; done) | (simp (disch := (first | (simp; done) | (simp; omega))) [World.cell?_alloc_at, World.cell?_alloc_past]; done) | (simp (disch := (first | (simp; done) | (simp; omega))) [World.frozen?_alloc_at]; done) | (simp (disch := (first | (simp; done) | (simp; omega))) [World.frozen?_alloc_past]; done) | (simp (disch := (first | (simp; done) | (simp; omega))) [World.frozen?_alloc_at, World.frozen?_alloc_past]; done))
  have f0 : w0.frozen? ⟨w.heap.size, 0, none⟩ = false := by rw [e0]; (first | (simp; done) | (simp (disch := (first | (simp; done) | (simp; omega))) [World.cell?_alloc_at]; done) | (simp (disch := (first | (simp; done) | (simp; omega))) [World.cell?_alloc_past]; done) | (simp (disch := (first | (simp; done) | (simp; omega))) [World.cell?_alloc_at, World.cell?_alloc_past]; done) | (simp (disch := (first | (simp; done) | (simp; omega))) [World.frozen?_alloc_at]; done) | (simp (disch := (first | (simp; done) | (simp; omega))) [World.frozen?_alloc_past]; done) | (simp (disch := (first | (simp; done) | (simp; omega))) [World.frozen?_alloc_at, World.frozen?_alloc_past]; done))
  have c1 : w0.cell? ⟨w.heap.size + 1, 0, none⟩ = some (.slice A n cap) := by rw [e0]; (first | (simp; done) | (simp (disch := (first | (simp; done) | (simp; omega))) [World.cell?_alloc_at]; done) | (simp (disch := (first | (simp; done) | (simp; omega))) [World.cell?_alloc_past]; done) | (simp (disch := (first | (simp; done) | (simp; omega))) [World.cell?_alloc_at, World.cell?_alloc_past]; done) | (simp (disch := (first | (simp; done) | (simp; omega))) [World.frozen?_alloc_at]; done) | (simp (disch := (first | (simp; done) | (simp; omega))) [World.frozen?_alloc_past]; done) | (simp (disch := (first | (simp; done) | (simp; omega))) [World.frozen?_alloc_at, World.frozen?_alloc_past]; done))
  have hx0 := (hx.below hb0).more hb0.size
  have HV := Lib.hid (impl_ValidCode_c w0 A n cap xs hl hn hx0)
  clear hx hx0
  go_enter Tryd.func17, Tryd.ntmps17
  go_wp2_with fail
  rw [← e0]
  clear e0
  refine HV.out.mono ?_
  rintro e w1 ⟨rfl, hb1⟩
  have d0 := (hb1.cell (p := ⟨w.heap.size, 0, none⟩) (by simp only []; omega)).trans c0
  have f0 := (hb1.frozen (p := ⟨w.heap.size, 0, none⟩) (by simp only []; omega)).trans f0
  have d1 := (hb1.cell (p := ⟨w.heap.size + 1, 0, none⟩) (by simp only []; omega)).trans c1
  have hB1 := hb0.trans (hb1.mono hb0.size)
  have hz1 := hb1.size
  have hlt : w.heap.size < w1.heap.size := by omega
  clear c0 c1
  cases hc : codeB xs
  · have HC := Lib.hid hc
    clear hc
    go_wp2
    refine bodyPost_ret (v := .tuple #[.agg #[.slice none 0 0], .bool false]) (by unfold results; rw [Tryd.results17]; go_simp) rfl ?_
    exact ⟨by rw [HC.out]; rfl, hB1.setCell (p := ⟨w.heap.size, 0, none⟩) (Nat.le_refl _) _⟩
  · have HC := Lib.hid hc
    clear hc
    go_wp2
    refine bodyPost_ret (v := .tuple #[.agg #[.slice A n cap], .bool true]) (by unfold results; rw [Tryd.results17]; go_simp) rfl ?_
    exact ⟨by rw [HC.out]; rfl, hB1.setCell (p := ⟨w.heap.size, 0, none⟩) (Nat.le_refl _) _⟩


set_option maxRecDepth 100000 in
theorem spec_l04Give_c (w : World) (A : Option Addr) (n cap : Nat) (xs : List Int) (hl : xs.length = n) (hn : n ≤ 1048576) (hx : Sl w w.heap.size A (xs.map (Value.int .i64))) :
    Calls Tryd.prog 26 #[.slice A n cap] w fun e w' => e = .returned (asV A n cap (codeB xs)) ∧ Below w.heap.size w w' := by
  obtain ⟨w0, e0⟩ : ∃ q : World, q = (w.alloc (.cells #[.slice none 0 0] 24)).alloc (.cells #[.slice A n cap] 24) := ⟨_, rfl⟩
  have hb0 : Below w.heap.size w w0 := by rw [e0]; exact ((Below.refl _ _).alloc (Nat.le_refl _) _).alloc (by simp) _
  have hz0 : w0.heap.size = w.heap.size + 2 := by rw [e0]; simp
  have c0 : w0.cell? ⟨w.heap.size, 0, none⟩ = some (.slice none 0 0) := by rw [e0]; (first | (simp; done) | (simp (disch := (first | (simp; done) | (simp; omega))) [World.cell?_alloc_at]; done) | (simp (disch := (first | (simp; done) | (simp; omega))) [World.cell?_alloc_past]; done) | (simp (disch := (first | (simp; done) | (simp; omega))) [World.cell?_alloc_at, World.cell?_alloc_past]; done) | (simp (disch := (first | (simp; done) | (simp; omega))) [World.frozen?_alloc_at]; done) | (simp (disch := (first | (simp; done) | (simp; omega))) [World.frozen?_alloc_past]; done) | (simp (disch := (first | (simp; done) | (simp; omega))) [World.frozen?_alloc_at, World.frozen?_alloc_past]; done))
  have f0 : w0.frozen? ⟨w.heap.size, 0, none⟩ = false := by rw [e0]; (first | (simp; done) | (simp (disch := (first | (simp; done) | (simp; omega))) [World.cell?_alloc_at]; done) | (simp (disch := (first | (simp; done) | (simp; omega))) [World.cell?_alloc_past]; done) | (simp (disch := (first | (simp; done) | (simp; omega))) [World.cell?_alloc_at, World.cell?_alloc_past]; done) | (simp (disch := (first | (simp; done) | (simp; omega))) [World.frozen?_alloc_at]; done) | (simp (disch := (first | (simp; done) | (simp; omega))) [World.frozen?_alloc_past]; done) | (simp (disch := (first | (simp; done) | (simp; omega))) [World.frozen?_alloc_at, World.frozen?_alloc_past]; done))
  have c1 : w0.cell? ⟨w.heap.size + 1, 0, none⟩ = some (.slice A n cap) := by rw [e0]; (first | (simp; done) | (simp (disch := (first | (simp; done) | (simp; omega))) [World.cell?_alloc_at]; done) | (simp (disch := (first | (simp; done) | (simp; omega))) [World.cell?_alloc_past]; done) | (simp (disch := (first | (simp; done) | (simp; omega))) [World.cell?_alloc_at, World.cell?_alloc_past]; done) | (simp (disch := (first | (simp; done) | (simp; omega))) [World.frozen?_alloc_at]; done) | (simp (disch := (first | (simp; done) | (simp; omega))) [World.frozen?_alloc_past]; done) | (simp (disch := (first | (simp; done) | (simp; omega))) [World.frozen?_alloc_at, World.frozen?_alloc_past]; done))
  have hx0 := (hx.below hb0).more hb0.size
  have HV := Lib.hid (spec_l04Is_c w0 (w.heap.size + 1) 0 _ A n cap xs c1 hl hn hx0)
  clear hx hx0
  go_enter Tryd.func26, Tryd.ntmps26
  go_wp2_with fail
  rw [← e0]
  clear e0
  refine HV.out.mono ?_
  rintro e w1 ⟨rfl, rfl⟩
  have hlt : w.heap.size < w0.heap.size := by omega
  cases hc : codeB xs
  · have HC := Lib.hid hc
    clear hc
    go_wp2
    refine bodyPost_ret (v := .tuple #[.agg #[.slice none 0 0], .bool false]) (by unfold results; rw [Tryd.results26]; go_simp) rfl ?_
    exact ⟨by rw [HC.out]; rfl, hb0.setCell (p := ⟨w.heap.size, 0, none⟩) (Nat.le_refl _) _⟩
  · have HC := Lib.hid hc
    clear hc
    go_wp2
    refine bodyPost_ret (v := .tuple #[.agg #[.slice A n cap], .bool true]) (by unfold results; rw [Tryd.results26]; go_simp) rfl ?_
    exact ⟨by rw [HC.out]; rfl, hb0.setCell (p := ⟨w.heap.size, 0, none⟩) (Nat.le_refl _) _⟩

/-- the code with a text, and whether there is one -/
noncomputable def rcZ (s : ByteArray) : List Int × Bool := match lstZ s with
  | some D => if codeB D then (D, true) else ([], false)
  | none => ([], false)
theorem rc_none {s : ByteArray} (h : lstZ s = none) : rcZ s = ([], false) := by unfold rcZ; rw [h]
theorem rc_no {s : ByteArray} {D : List Int} (h : lstZ s = some D) (hc : codeB D = false) : rcZ s = ([], false) := by
  unfold rcZ
  rw [h]
  simp only [hc]
  rfl
theorem rc_yes {s : ByteArray} {D : List Int} (h : lstZ s = some D) (hc : codeB D = true) : rcZ s = (D, true) := by
  unfold rcZ
  rw [h]
  simp only [hc]
  rfl
def RcPost (w : World) (s : ByteArray) (e : Ending) (w' : World) : Prop := ∃ v, e = .returned (.tuple #[.agg #[v], .bool (rcZ s).2]) ∧ Ow w' w.heap.size 2 v ((rcZ s).1.map (Value.int .i64)) ∧ Below w.heap.size w w'


set_option maxRecDepth 100000 in
theorem impl_ReadCode_c (w : World) (s : ByteArray) (hs : s.size ≤ 1048576) (hm : maxLenOk w) (ht : Tab w) (he : Errs w) :
    Calls Tryd.prog 6 #[.string s] w (RcPost w s) := by
  obtain ⟨w0, e0⟩ : ∃ q : World, q = w.alloc (.cells #[.slice none 0 0] 24) := ⟨_, rfl⟩
  have hb0 : Below w.heap.size w w0 := by rw [e0]; exact (Below.refl _ _).alloc (Nat.le_refl _) _
  have hz0 : w0.heap.size = w.heap.size + 1 := by rw [e0]; simp
  have c0 : w0.cell? ⟨w.heap.size, 0, none⟩ = some (.slice none 0 0) := by rw [e0]; (first | (simp; done) | (simp (disch := (first | (simp; done) | (simp; omega))) [World.cell?_alloc_at]; done) | (simp (disch := (first | (simp; done) | (simp; omega))) [World.cell?_alloc_past]; done) | (simp (disch := (first | (simp; done) | (simp; omega))) [World.cell?_alloc_at, World.cell?_alloc_past]; done) | (simp (disch := (first | (simp; done) | (simp; omega))) [World.frozen?_alloc_at]; done) | (simp (disch := (first | (simp; done) | (simp; omega))) [World.frozen?_alloc_past]; done) | (simp (disch := (first | (simp; done) | (simp; omega))) [World.frozen?_alloc_at, World.frozen?_alloc_past]; done))
  have f0 : w0.frozen? ⟨w.heap.size, 0, none⟩ = false := by rw [e0]; (first | (simp; done) | (simp (disch := (first | (simp; done) | (simp; omega))) [World.cell?_alloc_at]; done) | (simp (disch := (first | (simp; done) | (simp; omega))) [World.cell?_alloc_past]; done) | (simp (disch := (first | (simp; done) | (simp; omega))) [World.cell?_alloc_at, World.cell?_alloc_past]; done) | (simp (disch := (first | (simp; done) | (simp; omega))) [World.frozen?_alloc_at]; done) | (simp (disch := (first | (simp; done) | (simp; omega))) [World.frozen?_alloc_past]; done) | (simp (disch := (first | (simp; done) | (simp; omega))) [World.frozen?_alloc_at, World.frozen?_alloc_past]; done))
  have hml := hm.lt
  have HR := Lib.hid (fun W (hW : Below w.heap.size w W) => impl_ReadList_c W s hs (hm.below hW hml) (ht.below hW (Nat.le_refl _)) (he.below hW (Nat.le_refl _)))
  clear hm ht he
  unfold RcPost
  go_enter Tryd.func6, Tryd.ntmps6
  go_wp2_with fail
  rw [← e0]
  clear e0
  cases hv : lstZ s with
  | none =>
    have H1 := HR.out w0 hb0
    unfold LzPost at H1
    rw [hv] at H1
    have HH := Lib.hid H1
    have HRC := Lib.hid (rc_none hv)
    clear H1 hv
    refine HH.out.mono ?_
    rintro e w1 ⟨v, rfl, ho, hb1⟩
    have d0 := (hb1.cell (p := ⟨w.heap.size, 0, none⟩) (by simp only []; omega)).trans c0
    have f0 := (hb1.frozen (p := ⟨w.heap.size, 0, none⟩) (by simp only []; omega)).trans f0
    have hB1 := hb0.trans (hb1.mono hb0.size)
    have hlt : w.heap.size < w1.heap.size := by have := hb1.size; omega
    clear c0
    go_wp2
    refine bodyPost_ret (v := .tuple #[.agg #[.slice none 0 0], .bool false]) (by unfold results; rw [Tryd.results6]; go_simp) rfl ?_
    exact ⟨_, by rw [HRC.out], by rw [HRC.out]; exact own_nil _ _ _, hB1.setCell (p := ⟨w.heap.size, 0, none⟩) (Nat.le_refl _) _⟩
  | some D =>
    have hD := lstZ_len hv
    have H1 := HR.out w0 hb0
    unfold LzPost at H1
    rw [hv] at H1
    have HH := Lib.hid H1
    have HLV := Lib.hid hv
    clear H1 hv
    refine HH.out.mono ?_
    rintro e w1 ⟨v, rfl, ho, hb1⟩
    have hgd : ((some D).getD []) = D := rfl
    rw [hgd] at ho
    obtain ⟨A, cap, rfl, hp⟩ := ho.opn
    have d0 := (hb1.cell (p := ⟨w.heap.size, 0, none⟩) (by simp only []; omega)).trans c0
    have f0 := (hb1.frozen (p := ⟨w.heap.size, 0, none⟩) (by simp only []; omega)).trans f0
    have hB1 := hb0.trans (hb1.mono hb0.size)
    have hz1 := hb1.size
    obtain ⟨n, hn⟩ : ∃ n, D.length = n := ⟨_, rfl⟩
    rw [hn] at hp hD ⊢
    have HA := Lib.hid (impl_asCode_c w1 A n cap D hn (by omega) (sl_of_own hp))
    have HP := Lib.hid hp
    have HN := Lib.hid hn
    clear c0 hgd ho hp hn
    go_wp2_with fail
    refine HA.out.mono ?_
    rintro e w2 ⟨rfl, hb2⟩
    have d1 := (hb2.cell (p := ⟨w.heap.size, 0, none⟩) (by simp only []; omega)).trans d0
    have f0 := (hb2.frozen (p := ⟨w.heap.size, 0, none⟩) (by have := hb1.size; simp only []; omega)).trans f0
    have hB2 := hB1.trans (hb2.mono hB1.size)
    have hlt : w.heap.size < w2.heap.size := by have := hb2.size; omega
    have hp2 := own_below HP.out hb2 (Nat.le_refl _)
    clear d0
    cases hc : codeB D
    · have HRC := Lib.hid (rc_no HLV.out hc)
      clear hc
      unfold asV
      go_wp2
      refine bodyPost_ret (v := .tuple #[.agg #[.slice none 0 0], .bool false]) (by unfold results; rw [Tryd.results6]; go_simp) rfl ?_
      exact ⟨_, by rw [HRC.out], by rw [HRC.out]; exact own_nil _ _ _, hB2.setCell (p := ⟨w.heap.size, 0, none⟩) (Nat.le_refl _) _⟩
    · have HRC := Lib.hid (rc_yes HLV.out hc)
      clear hc
      unfold asV
      go_wp2
      refine bodyPost_ret (v := .tuple #[.agg #[.slice A n cap], .bool true]) (by unfold results; rw [Tryd.results6]; go_simp) rfl ?_
      refine ⟨_, by rw [HRC.out], ?_, hB2.setCell (p := ⟨w.heap.size, 0, none⟩) (Nat.le_refl _) _⟩
      have hin := own_in HP.out
      have h3 := hp2.kept (only_setCell (World.grownBy.refl w2 (some w.heap.size)) (p := ⟨w.heap.size, 0, none⟩) rfl (.slice A n cap)) (by
        cases hvb : (Value.slice A n cap).ownBlock with
        | none => exact .inl rfl
        | some g =>
          refine .inr fun he => ?_
          have := hin g hvb
          injection he with he
          omega)
      have h4 := own_base h3 hb0.size
      unfold Ow
      rw [HRC.out, List.length_map, HN.out]
      exact h4


set_option maxRecDepth 100000 in
theorem spec_l08ReadCode_c (w : World) (s : ByteArray) (hs : s.size ≤ 1048576) :
    Calls Tryd.prog 15 #[.string s] w (RcPost w s) := by
  obtain ⟨w0, e0⟩ : ∃ q : World, q = w.alloc (.cells #[.slice none 0 0] 24) := ⟨_, rfl⟩
  have hb0 : Below w.heap.size w w0 := by rw [e0]; exact (Below.refl _ _).alloc (Nat.le_refl _) _
  have hz0 : w0.heap.size = w.heap.size + 1 := by rw [e0]; simp
  have c0 : w0.cell? ⟨w.heap.size, 0, none⟩ = some (.slice none 0 0) := by rw [e0]; (first | (simp; done) | (simp (disch := (first | (simp; done) | (simp; omega))) [World.cell?_alloc_at]; done) | (simp (disch := (first | (simp; done) | (simp; omega))) [World.cell?_alloc_past]; done) | (simp (disch := (first | (simp; done) | (simp; omega))) [World.cell?_alloc_at, World.cell?_alloc_past]; done) | (simp (disch := (first | (simp; done) | (simp; omega))) [World.frozen?_alloc_at]; done) | (simp (disch := (first | (simp; done) | (simp; omega))) [World.frozen?_alloc_past]; done) | (simp (disch := (first | (simp; done) | (simp; omega))) [World.frozen?_alloc_at, World.frozen?_alloc_past]; done))
  have f0 : w0.frozen? ⟨w.heap.size, 0, none⟩ = false := by rw [e0]; (first | (simp; done) | (simp (disch := (first | (simp; done) | (simp; omega))) [World.cell?_alloc_at]; done) | (simp (disch := (first | (simp; done) | (simp; omega))) [World.cell?_alloc_past]; done) | (simp (disch := (first | (simp; done) | (simp; omega))) [World.cell?_alloc_at, World.cell?_alloc_past]; done) | (simp (disch := (first | (simp; done) | (simp; omega))) [World.frozen?_alloc_at]; done) | (simp (disch := (first | (simp; done) | (simp; omega))) [World.frozen?_alloc_past]; done) | (simp (disch := (first | (simp; done) | (simp; omega))) [World.frozen?_alloc_at, World.frozen?_alloc_past]; done))
  have HR := Lib.hid (fun W (hW : Below w.heap.size w W) => spec_l01Numbers_c W s hs)
  clear hs
  unfold RcPost
  go_enter Tryd.func15, Tryd.ntmps15
  go_wp2_with fail
  rw [← e0]
  clear e0
  cases hv : lstZ s with
  | none =>
    have H1 := HR.out w0 hb0
    unfold LzPost at H1
    rw [hv] at H1
    have HH := Lib.hid H1
    have HRC := Lib.hid (rc_none hv)
    clear H1 hv
    refine HH.out.mono ?_
    rintro e w1 ⟨v, rfl, ho, hb1⟩
    have d0 := (hb1.cell (p := ⟨w.heap.size, 0, none⟩) (by simp only []; omega)).trans c0
    have f0 := (hb1.frozen (p := ⟨w.heap.size, 0, none⟩) (by simp only []; omega)).trans f0
    have hB1 := hb0.trans (hb1.mono hb0.size)
    have hlt : w.heap.size < w1.heap.size := by have := hb1.size; omega
    clear c0
    go_wp2
    refine bodyPost_ret (v := .tuple #[.agg #[.slice none 0 0], .bool false]) (by unfold results; rw [Tryd.results15]; go_simp) rfl ?_
    exact ⟨_, by rw [HRC.out], by rw [HRC.out]; exact own_nil _ _ _, hB1.setCell (p := ⟨w.heap.size, 0, none⟩) (Nat.le_refl _) _⟩
  | some D =>
    have hD := lstZ_len hv
    have H1 := HR.out w0 hb0
    unfold LzPost at H1
    rw [hv] at H1
    have HH := Lib.hid H1
    have HLV := Lib.hid hv
    clear H1 hv
    refine HH.out.mono ?_
    rintro e w1 ⟨v, rfl, ho, hb1⟩
    have hgd : ((some D).getD []) = D := rfl
    rw [hgd] at ho
    obtain ⟨A, cap, rfl, hp⟩ := ho.opn
    have d0 := (hb1.cell (p := ⟨w.heap.size, 0, none⟩) (by simp only []; omega)).trans c0
    have f0 := (hb1.frozen (p := ⟨w.heap.size, 0, none⟩) (by simp only []; omega)).trans f0
    have hB1 := hb0.trans (hb1.mono hb0.size)
    have hz1 := hb1.size
    obtain ⟨n, hn⟩ : ∃ n, D.length = n := ⟨_, rfl⟩
    rw [hn] at hp hD ⊢
    have HA := Lib.hid (spec_l04Give_c w1 A n cap D hn (by omega) (sl_of_own hp))
    have HP := Lib.hid hp
    have HN := Lib.hid hn
    clear c0 hgd ho hp hn
    go_wp2_with fail
    refine HA.out.mono ?_
    rintro e w2 ⟨rfl, hb2⟩
    have d1 := (hb2.cell (p := ⟨w.heap.size, 0, none⟩) (by simp only []; omega)).trans d0
    have f0 := (hb2.frozen (p := ⟨w.heap.size, 0, none⟩) (by have := hb1.size; simp only []; omega)).trans f0
    have hB2 := hB1.trans (hb2.mono hB1.size)
    have hlt : w.heap.size < w2.heap.size := by have := hb2.size; omega
    have hp2 := own_below HP.out hb2 (Nat.le_refl _)
    clear d0
    cases hc : codeB D
    · have HRC := Lib.hid (rc_no HLV.out hc)
      clear hc
      unfold asV
      go_wp2
      refine bodyPost_ret (v := .tuple #[.agg #[.slice none 0 0], .bool false]) (by unfold results; rw [Tryd.results15]; go_simp) rfl ?_
      exact ⟨_, by rw [HRC.out], by rw [HRC.out]; exact own_nil _ _ _, hB2.setCell (p := ⟨w.heap.size, 0, none⟩) (Nat.le_refl _) _⟩
    · have HRC := Lib.hid (rc_yes HLV.out hc)
      clear hc
      unfold asV
      go_wp2
      refine bodyPost_ret (v := .tuple #[.agg #[.slice A n cap], .bool true]) (by unfold results; rw [Tryd.results15]; go_simp) rfl ?_
      refine ⟨_, by rw [HRC.out], ?_, hB2.setCell (p := ⟨w.heap.size, 0, none⟩) (Nat.le_refl _) _⟩
      have hin := own_in HP.out
      have h3 := hp2.kept (only_setCell (World.grownBy.refl w2 (some w.heap.size)) (p := ⟨w.heap.size, 0, none⟩) rfl (.slice A n cap)) (by
        cases hvb : (Value.slice A n cap).ownBlock with
        | none => exact .inl rfl
        | some g =>
          refine .inr fun he => ?_
          have := hin g hvb
          injection he with he
          omega)
      have h4 := own_base h3 hb0.size
      unfold Ow
      rw [HRC.out, List.length_map, HN.out]
      exact h4


set_option maxRecDepth 100000 in
theorem spec_ReadCode_c (w : World) (s : ByteArray) (hs : s.size ≤ 1048576) : Calls Tryd.prog 5 #[.string s] w (RcPost w s) := by
  obtain ⟨w0, e0⟩ : ∃ q : World, q = w.alloc (.cells #[.slice none 0 0] 24) := ⟨_, rfl⟩
  have hb0 : Below w.heap.size w w0 := by rw [e0]; exact (Below.refl _ _).alloc (Nat.le_refl _) _
  have hz0 : w0.heap.size = w.heap.size + 1 := by rw [e0]; simp
  have c0 : w0.cell? ⟨w.heap.size, 0, none⟩ = some (.slice none 0 0) := by rw [e0]; (first | (simp; done) | (simp (disch := (first | (simp; done) | (simp; omega))) [World.cell?_alloc_at]; done) | (simp (disch := (first | (simp; done) | (simp; omega))) [World.cell?_alloc_past]; done) | (simp (disch := (first | (simp; done) | (simp; omega))) [World.cell?_alloc_at, World.cell?_alloc_past]; done) | (simp (disch := (first | (simp; done) | (simp; omega))) [World.frozen?_alloc_at]; done) | (simp (disch := (first | (simp; done) | (simp; omega))) [World.frozen?_alloc_past]; done) | (simp (disch := (first | (simp; done) | (simp; omega))) [World.frozen?_alloc_at, World.frozen?_alloc_past]; done))
  have f0 : w0.frozen? ⟨w.heap.size, 0, none⟩ = false := by rw [e0]; (first | (simp; done) | (simp (disch := (first | (simp; done) | (simp; omega))) [World.cell?_alloc_at]; done) | (simp (disch := (first | (simp; done) | (simp; omega))) [World.cell?_alloc_past]; done) | (simp (disch := (first | (simp; done) | (simp; omega))) [World.cell?_alloc_at, World.cell?_alloc_past]; done) | (simp (disch := (first | (simp; done) | (simp; omega))) [World.frozen?_alloc_at]; done) | (simp (disch := (first | (simp; done) | (simp; omega))) [World.frozen?_alloc_past]; done) | (simp (disch := (first | (simp; done) | (simp; omega))) [World.frozen?_alloc_at, World.frozen?_alloc_past]; done))
  have HR := Lib.hid (spec_l08ReadCode_c w0 s hs)
  clear hs
  unfold RcPost at HR ⊢
  go_enter Tryd.func5, Tryd.ntmps5
  go_wp2_with fail
  rw [← e0]
  clear e0
  refine HR.out.mono ?_
  rintro e w1 ⟨v, rfl, ho, hb1⟩
  obtain ⟨A, cap, rfl, hp⟩ := ho.opn
  have d0 := (hb1.cell (p := ⟨w.heap.size, 0, none⟩) (by simp only []; omega)).trans c0
  have f0 := (hb1.frozen (p := ⟨w.heap.size, 0, none⟩) (by simp only []; omega)).trans f0
  have hB1 := hb0.trans (hb1.mono hb0.size)
  have hlt : w.heap.size < w1.heap.size := by have := hb1.size; omega
  have HP := Lib.hid hp
  obtain ⟨n, hn⟩ : ∃ n, (rcZ s).1.length = n := ⟨_, rfl⟩
  obtain ⟨b, hb⟩ : ∃ b, (rcZ s).2 = b := ⟨_, rfl⟩
  rw [hn] at HP ⊢
  rw [hb]
  have HN := Lib.hid hn
  have HB := Lib.hid hb
  clear c0 ho hp hn hb
  go_wp2
  refine bodyPost_ret (v := .tuple #[.agg #[.slice A n cap], .bool b]) (by unfold results; rw [Tryd.results5]; go_simp) rfl ?_
  refine ⟨_, by rw [HB.out], ?_, hB1.setCell (p := ⟨w.heap.size, 0, none⟩) (Nat.le_refl _) _⟩
  have hin := own_in HP.out
  have h3 := HP.out.kept (only_setCell (World.grownBy.refl w1 (some w.heap.size)) (p := ⟨w.heap.size, 0, none⟩) rfl (.slice A n cap)) (by
    cases hvb : (Value.slice A n cap).ownBlock with
    | none => exact .inl rfl
    | some g =>
      refine .inr fun he => ?_
      have := hin g hvb
      injection he with he
      omega)
  have h4 := own_base h3 hb0.size
  unfold Ow
  rw [List.length_map, HN.out]
  exact h4

end Go.Proofs.YtajobeajmndglaaDoor
