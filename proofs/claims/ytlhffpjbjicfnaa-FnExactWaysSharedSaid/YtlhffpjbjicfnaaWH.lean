/-
  Contracts: the best ways of lists, of the program and of the reference.
  Conditions: lengths at most 1048576.
-/
import Derived.Test.YtlhffpjbjicfnaaWG
import Derived.Test.YtlhffpjbjicfnaaNG
namespace Go.Proofs.Ytlhffpjbjicfnaa
open Go.RowKit

def waysOk (m : Int) (ms : List Int) (L : List (List Nat)) (wk : Int) : Bool := validCoderB m ms && decide (L.length ≤ 8) && inB wk 1 8 && L.all (bestOk m ms)
def waysL (m : Int) (ms : List Int) (L : List (List Nat)) (wk : Int) : List (List Bool) := if waysOk m ms L wk then L.map (bestL m ms) else []
theorem waysL_len (m : Int) (ms : List Int) (L : List (List Nat)) (wk : Int) : (waysL m ms L wk).length ≤ 8 := by
  unfold waysL
  split
  · rename_i h
    unfold waysOk at h
    simp only [Bool.and_eq_true, decide_eq_true_eq] at h
    rw [List.length_map]
    exact h.1.1.2
  · exact Nat.zero_le _
theorem waysL_row (m : Int) (ms : List Int) (L : List (List Nat)) (wk : Int) : ∀ l ∈ waysL m ms L wk, l.length ≤ 40 := by
  unfold waysL
  split
  · intro l hl
    obtain ⟨x, _, rfl⟩ := List.mem_map.1 hl
    exact bestL_len m ms x
  · intro l hl
    cases hl
/-- rows of bits that a call has made so far -/
def WaysInv (w wr : World) (v : Value) (L : List (List Bool)) (ys : List RowHB) : Prop :=
  datB ys = L ∧ (∀ y ∈ ys, wr.ownsRow w.heap.size 4 1 (rowVB y) y.2.2.length (y.2.2.map Value.bool)) ∧ ys.Pairwise sepB ∧ Ow wr w.heap.size 27 v (ys.map rowVB) ∧ Below w.heap.size w wr
theorem WaysInv.step {w wr w2 w3 : World} {v v' : Value} {L : List (List Bool)} {ys : List RowHB} {y : RowHB} (h : WaysInv w wr v L ys) (b2 : Below wr.heap.size wr w2) (hy : w2.ownsRow wr.heap.size 4 1 (rowVB y) y.2.2.length (y.2.2.map Value.bool)) (o : Go.Obj)
    (hg : (w2.alloc o).grownBy w3 v.ownBlock) (ho : Ow w3 w.heap.size 27 v' (ys.map rowVB ++ [rowVB y])) : WaysInv w w3 v' (L ++ [y.2.2]) (ys ++ [y]) := by
  obtain ⟨h1, h2, h3, h4, h5⟩ := h
  have hz := h5.size
  have h4b : w2.ownsRow w.heap.size 27 1 v (ys.map rowVB).length (ys.map rowVB) := own_below h4 b2 (Nat.le_refl _)
  have h4c := World.ownsRow.alloc h4b o
  have keep : ∀ (base : Nat) (u : Value) (k : Nat) (xs : List Value), w2.ownsRow base 4 1 u k xs → w3.ownsRow base 4 1 u k xs := fun base u k xs hu => by
    refine (World.ownsRow.alloc hu o).kept hg ?_
    cases hb : u.ownBlock with
    | none => exact .inl rfl
    | some g => exact .inr fun he => own_types (World.ownsRow.alloc hu o) h4c (by decide) g hb he.symm
  have hin : ∀ z ∈ ys, In (rowVB z) w.heap.size wr.heap.size := fun z hz' => own_in (h2 z hz')
  have hiy : In (rowVB y) wr.heap.size w2.heap.size := own_in hy
  refine ⟨by unfold datB at *; rw [List.map_append, h1]; rfl, ?_, ?_, by rw [List.map_append]; exact ho, ?_⟩
  · intro z hz'
    rcases List.mem_append.1 hz' with h6 | h6
    · exact keep _ _ _ _ (own_below (h2 z h6) b2 (Nat.le_refl _))
    · rw [List.mem_singleton.1 h6]
      exact keep _ _ _ _ (own_base hy hz)
  · rw [List.pairwise_append]
    refine ⟨h3, List.pairwise_singleton _ _, fun a ha b hb => ?_⟩
    rw [List.mem_singleton.1 hb]
    intro g h7 h8
    have h9 := hin a ha g h7
    have h10 := hiy g h8
    omega
  · exact ((h5.trans (b2.mono hz)).alloc (Nat.le_trans hz b2.size) o).grown hg (by have := b2.size; simp; omega) fun k hk => (h4c.lt k hk).1
theorem WaysInv.down {w w1 wr : World} {v : Value} {L : List (List Bool)} {ys : List RowHB} (h : WaysInv w1 wr v L ys) (hb : Below w.heap.size w w1) : WaysInv w wr v L ys :=
  ⟨h.1, fun y hy => own_base (h.2.1 y hy) hb.size, h.2.2.1, own_base h.2.2.2.1 hb.size, hb.trans (h.2.2.2.2.mono hb.size)⟩
/-- what is handed back -/
def WaysPost (w : World) (m : Int) (ms : List Int) (L : List (List Nat)) (wk : Int) (e : Ending) (w' : World) : Prop :=
  ∃ v ys, e = .returned (.tuple #[v, .bool (waysOk m ms L wk)]) ∧ WaysInv w w' v (waysL m ms L wk) ys
theorem ways_fail {w w' : World} {m : Int} {ms : List Int} {L : List (List Nat)} {wk : Int} (h : waysOk m ms L wk = false) (hb : Below w.heap.size w w') : WaysPost w m ms L wk (.returned (.tuple #[.slice none 0 0, .bool false])) w' := by
  refine ⟨.slice none 0 0, [], by rw [h], ?_⟩
  have : waysL m ms L wk = [] := by unfold waysL; rw [h]; rfl
  rw [this]
  exact ⟨rfl, fun y hy => (by cases hy), List.Pairwise.nil, ⟨rfl, .inl ⟨rfl, rfl⟩⟩, hb⟩
theorem ways_no {m : Int} {ms : List Int} {rs : List RowHF} {wk : Int} {k : Nat} (hk : k < rs.length) (h : bestOk m ms rs[k].2.2 = false) : waysOk m ms (datF rs) wk = false := by
  have : (datF rs).all (bestOk m ms) = false := by
    rw [List.all_eq_false]
    refine ⟨rs[k].2.2, ?_, by rw [h]; decide⟩
    unfold datF
    exact List.mem_map_of_mem (List.getElem_mem hk)
  unfold waysOk
  rw [this, Bool.and_false]
theorem ways_snoc {m : Int} {ms : List Int} {rs : List RowHF} {k : Nat} (hk : k < rs.length) : (datF (rs.take (k + 1))).map (bestL m ms) = (datF (rs.take k)).map (bestL m ms) ++ [bestL m ms rs[k].2.2] := by
  rw [List.take_succ_eq_append_getElem hk]
  unfold datF
  rw [List.map_append, List.map_append]
  rfl


set_option maxRecDepth 100000 in
set_option maxHeartbeats 2000000 in
theorem impl_WaysShared_c (w : World) (m : Int) (A : Option Addr) (k cap : Nat) (ms : List Int) (hl : ms.length = k) (hk : k ≤ 1048576) (hx : Sl w w.heap.size A (ms.map (Value.int .i64)))
    (A2 : Option Addr) (n cap2 : Nat) (rs : List RowHF) (hl2 : rs.length = n) (hn : n ≤ 1048576) (hr : ∀ r ∈ rs, r.2.2.length ≤ 1048576) (hy : Sl2F w w.heap.size A2 rs) (hA : ∀ r ∈ rs, RowA r.1 r.2.2.length r.2.1) (wk : Int) :
    Calls Try.prog 22 #[.agg #[.int .i64 m, .slice A k cap], .slice A2 n cap2, .int .i64 wk] w (WaysPost w m ms (datF rs) wk) := by
  obtain ⟨w1, e1⟩ : ∃ q : World, q = w.alloc (.cells #[.int .i64 m, .slice A k cap] 31) := ⟨_, rfl⟩
  have b1 : Below w.heap.size w w1 := by rw [e1]; exact (Below.refl _ _).alloc (Nat.le_refl _) _
  have z1 : w1.heap.size = w.heap.size + 1 := by rw [e1]; simp
  have hO : Obj w1 w.heap.size 31 #[.int .i64 m, .slice A k cap] := by rw [e1]; exact Obj.new _ _ _
  have hx1 := (hx.below b1).more b1.size
  have HV := Lib.hid (impl_ValidCoder_c w1 m A k cap ms hl hk hx1)
  have hy1 := (hy.below b1).more b1.size
  have C0 : w1.cell? ⟨w.heap.size, 0, none⟩ = some (.int .i64 m) := hO.cell 0
  have C1 : w1.cell? ⟨w.heap.size, 1, none⟩ = some (.slice A k cap) := hO.cell 1
  have HO := Lib.hid hO
  have HX := Lib.hid hx1
  have HY := Lib.hid hy1
  have HR := Lib.hid hr
  have HA := Lib.hid hA
  clear hx hy hO hr hA hx1 hy1
  cases hv : validCoderB m ms
  · have hno : waysOk m ms (datF rs) wk = false := by unfold waysOk; rw [hv]; rfl
    rw [hv] at HV
    have HNO := Lib.hid hno
    clear hv hno
    go_enter Try.func22, Try.ntmps22
    go_wp2_with (rw [← e1]; clear e1)
    refine HV.out.mono ?_
    rintro e w2 ⟨rfl, b2⟩
    go_wp2
    go_ret2
    exact ways_fail HNO.out (b1.trans (b2.mono b1.size))
  · rw [hv] at HV
    by_cases h8 : n ≤ 8
    · cases hw : inB wk 1 8
      · have hno : waysOk m ms (datF rs) wk = false := by unfold waysOk; rw [hw, Bool.and_false]; rfl
        have HNO := Lib.hid hno
        have HW := Lib.hid (fun W : World => impl_within_c W wk 1 8)
        rw [hw] at HW
        have h8d : decide (8 < (n : Int)) = false := decide_eq_false (by omega)
        clear hv hno hw
        go_enter Try.func22, Try.ntmps22
        go_wp2_with (rw [← e1]; clear e1)
        refine HV.out.mono ?_
        rintro e w2 ⟨rfl, b2⟩
        go_wp2_with (go_at_call 49; refine (HW.out _).mono ?_; rintro e w' ⟨rfl, rfl⟩)
        go_ret2
        exact ways_fail HNO.out (b1.trans (b2.mono b1.size))
      · have HW := Lib.hid (fun W : World => impl_within_c W wk 1 8)
        rw [hw] at HW
        have h8d : decide (8 < (n : Int)) = false := decide_eq_false (by omega)
        have hyes : (datF rs).all (bestOk m ms) = true → waysOk m ms (datF rs) wk = true := fun h => by
          unfold waysOk
          rw [hv, hw, h, dat_lenF, hl2, decide_eq_true h8]
          rfl
        have HYES := Lib.hid hyes
        clear hv hw hyes
        go_enter Try.func22, Try.ntmps22
        go_wp2_with (rw [← e1]; clear e1)
        refine HV.out.mono ?_
        rintro e w2 ⟨rfl, b2⟩
        have hz2 := b2.size
        have B2 : Below w.heap.size w w2 := b1.trans (b2.mono b1.size)
        clear C0 C1
        go_wp2_with (go_at_call 49; refine (HW.out _).mono ?_; rintro e w' ⟨rfl, rfl⟩)
        go_loopw [8, 30] (fun v i wr => ∃ (j : Nat) (ys : List RowHB), j ≤ n ∧ i = .int .i64 j ∧ Hid (WaysInv w2 wr v ((datF (rs.take j)).map (bestL m ms)) ys) ∧ Hid ((datF (rs.take j)).all (bestOk m ms) = true)) (fun _ i _ => n - (intOf i).toNat)
        case atStart =>
          refine ⟨0, [], Nat.zero_le _, rfl, Lib.hid ⟨rfl, fun y hy => (by cases hy), List.Pairwise.nil, own_empty _ _ _ (Nat.le_refl _), (Below.refl _ _).alloc (Nat.le_refl _) _⟩, Lib.hid rfl⟩
        case round =>
          obtain ⟨j, ys, hj, rfl, HI, HALL⟩ := hrel
          obtain ⟨wA, rfl⟩ : ∃ wA : World, wA = wr := ⟨_, rfl⟩
          have hbr : Below w2.heap.size w2 wA := HI.out.2.2.2.2
          have hbA : Below w.heap.size w wA := B2.trans (hbr.mono B2.size)
          have hb1A : Below w1.heap.size w1 wA := b2.trans (hbr.mono hz2)
          have hOA := HO.out.below hb1A HO.out.lt
          have C0 : wA.cell? ⟨w.heap.size, 0, none⟩ = some (.int .i64 m) := hOA.cell 0
          have C1 : wA.cell? ⟨w.heap.size, 1, none⟩ = some (.slice A k cap) := hOA.cell 1
          have hzA := hb1A.size
          clear hOA
          by_cases hlt : j < n
          · have hjr : j < rs.length := by omega
            obtain ⟨bb, off, rfl, hbb, hc1⟩ := (HY.out.below hb1A).1.get j hjr
            have hsl := (HY.out.below hb1A).2 (rs[j]'hjr) (List.getElem_mem _)
            have hrk := HR.out (rs[j]'hjr) (List.getElem_mem _)
            have hak := HA.out (rs[j]'hjr) (List.getElem_mem _)
            have hsn := ways_snoc (m := m) (ms := ms) hjr
            have hno := fun h => ways_no (m := m) (ms := ms) (wk := wk) hjr h
            have hal : (datF (rs.take (j + 1))).all (bestOk m ms) = ((datF (rs.take j)).all (bestOk m ms) && bestOk m ms (rs[j]'hjr).2.2) := by
              rw [List.take_succ_eq_append_getElem hjr]
              unfold datF
              rw [List.map_append, List.all_append]
              simp
            obtain ⟨⟨a, c, l⟩, hxx⟩ : ∃ x, rs[j]'hjr = x := ⟨_, rfl⟩
            rw [hxx] at hc1 hsl hrk hak hsn hno hal
            simp only [rowVF] at hc1 hsl hrk hak
            have HB := Lib.hid (impl_BestWay_c wA m A k cap ms hl hk ((HX.out.below hb1A).more hzA) a l.length c l rfl hrk (hsl.more hzA) hak)
            have HSN := Lib.hid hsn
            have HNO := Lib.hid hno
            have HAL := Lib.hid hal
            clear hsl hrk hak hsn hno hal hxx
            go_wp2_with fail
            refine HB.out.mono ?_
            rintro e w3 ⟨v3, g3, rfl, -, ho3, hb3⟩
            cases hbo : bestOk m ms l
            · have HBO := Lib.hid (HNO.out hbo)
              clear hbo
              go_wp2
              go_ret2
              exact ways_fail HBO.out (hbA.trans (hb3.mono hbA.size))
            · have hal2 := HAL.out
              rw [hbo, HALL.out, Bool.true_and] at hal2
              have HAL2 := Lib.hid hal2
              obtain ⟨S3, q3, rfl, hp3⟩ := ho3.opn
              have hIn := HI.out
              have hou := hIn.2.2.2.1
              have hlen : (ys.map rowVB).length + 1 ≤ 1099511627776 := by
                have h1 := congrArg List.length hIn.1
                rw [dat_lenB, List.length_map, dat_lenF, List.length_take] at h1
                rw [List.length_map]
                omega
              have hob := own_below hou hb3 (Nat.le_refl _)
              have HP3 := Lib.hid hp3
              have hz3 := hb3.size
              clear hbo hal2 hou hIn ho3 hp3
              go_wp2_with (at_builtin; refine appGW Try.underlying45 infoBools rfl (by decide) rfl _ _ rfl _ _ _ rfl (World.ownsRow.alloc hob _) _ _ _ rfl (cell_new1 _ _ _) rfl hlen (by have := hbr.size; simp; omega) ?_; intro v4 w4 ho4 hg4)
              go_roundw
              case rel =>
                refine ⟨j + 1, ys ++ [(S3, q3, bestL m ms l)], by omega, by go_num, Lib.hid ?_, HAL2⟩
                rw [HSN.out]
                exact HI.out.step hb3 HP3.out _ hg4 ho4
              case measure => simp [intOf]; omega
          · obtain rfl : j = n := by omega
            have hok := HYES.out (by have := HALL.out; rwa [List.take_of_length_le (by omega)] at this)
            have hiv := HI.out
            rw [List.take_of_length_le (by omega)] at hiv
            have HOK := Lib.hid hok
            have HIV := Lib.hid hiv
            clear hok hiv
            go_wp2
            go_ret2
            refine ⟨_, ys, by rw [HOK.out]; rfl, ?_⟩
            have : waysL m ms (datF rs) wk = (datF rs).map (bestL m ms) := by unfold waysL; rw [HOK.out]; rfl
            rw [this]
            exact HIV.out.down B2
    · have hno : waysOk m ms (datF rs) wk = false := by
        unfold waysOk
        rw [dat_lenF, hl2, decide_eq_false h8, Bool.and_false, Bool.false_and, Bool.false_and]
      have HNO := Lib.hid hno
      have h8d : decide (8 < (n : Int)) = true := decide_eq_true (by omega)
      clear hv hno
      go_enter Try.func22, Try.ntmps22
      go_wp2_with (rw [← e1]; clear e1)
      refine HV.out.mono ?_
      rintro e w2 ⟨rfl, b2⟩
      go_wp2
      go_ret2
      exact ways_fail HNO.out (b1.trans (b2.mono b1.size))


set_option maxRecDepth 100000 in
set_option maxHeartbeats 2000000 in
theorem spec_WaysShared_c (w : World) (m : Int) (A : Option Addr) (k cap : Nat) (ms : List Int) (hl : ms.length = k) (hk : k ≤ 1048576) (hx : Sl w w.heap.size A (ms.map (Value.int .i64)))
    (A2 : Option Addr) (n cap2 : Nat) (rs : List RowHF) (hl2 : rs.length = n) (hn : n ≤ 1048576) (hr : ∀ r ∈ rs, r.2.2.length ≤ 1048576) (hy : Sl2F w w.heap.size A2 rs) (hA : ∀ r ∈ rs, RowA r.1 r.2.2.length r.2.1) (wk : Int) :
    Calls Try.prog 20 #[.agg #[.int .i64 m, .slice A k cap], .slice A2 n cap2, .int .i64 wk] w (WaysPost w m ms (datF rs) wk) := by
  obtain ⟨w1, e1⟩ : ∃ q : World, q = w.alloc (.cells #[.int .i64 m, .slice A k cap] 31) := ⟨_, rfl⟩
  have b1 : Below w.heap.size w w1 := by rw [e1]; exact (Below.refl _ _).alloc (Nat.le_refl _) _
  have z1 : w1.heap.size = w.heap.size + 1 := by rw [e1]; simp
  have hO : Obj w1 w.heap.size 31 #[.int .i64 m, .slice A k cap] := by rw [e1]; exact Obj.new _ _ _
  have hx1 := (hx.below b1).more b1.size
  have hy1 := (hy.below b1).more b1.size
  have C0 : w1.cell? ⟨w.heap.size, 0, none⟩ = some (.int .i64 m) := hO.cell 0
  have C1 : w1.cell? ⟨w.heap.size, 1, none⟩ = some (.slice A k cap) := hO.cell 1
  have HV := Lib.hid (spec_l07Coder_c w1 w.heap.size m w.heap.size A k cap ms C0 C1 hl hk (hx.below b1))
  have HO := Lib.hid hO
  have HX := Lib.hid hx1
  have HY := Lib.hid hy1
  have HR := Lib.hid hr
  have HA := Lib.hid hA
  clear hx hy hO hr hA hx1 hy1
  cases hv : validCoderB m ms
  · have hno : waysOk m ms (datF rs) wk = false := by unfold waysOk; rw [hv]; rfl
    rw [hv] at HV
    have HNO := Lib.hid hno
    clear hv hno
    go_enter Try.func20, Try.ntmps20
    go_wp2_with (rw [← e1]; clear e1)
    refine HV.out.mono ?_
    rintro e w2 ⟨rfl, q, rfl⟩
    have b2 : Below w1.heap.size w1 (w1.drewN q) := below_of_drewN _ _ _
    go_wp2
    go_ret2
    exact ways_fail HNO.out (b1.trans (b2.mono b1.size))
  · rw [hv] at HV
    by_cases h8 : n ≤ 8
    · cases hw : inB wk 1 8
      · have hno : waysOk m ms (datF rs) wk = false := by unfold waysOk; rw [hw, Bool.and_false]; rfl
        have HNO := Lib.hid hno
        have HW := Lib.hid (fun W : World => spec_l00In_c W wk 1 8)
        rw [hw] at HW
        have h8d : decide (8 < (n : Int)) = false := decide_eq_false (by omega)
        clear hv hno hw
        go_enter Try.func20, Try.ntmps20
        go_wp2_with (rw [← e1]; clear e1)
        refine HV.out.mono ?_
        rintro e w2 ⟨rfl, q, rfl⟩
        have b2 : Below w1.heap.size w1 (w1.drewN q) := below_of_drewN _ _ _
        go_wp2_with (go_at_call 47; refine (HW.out _).mono ?_; rintro e w' ⟨rfl, rfl⟩)
        go_ret2
        exact ways_fail HNO.out (b1.trans (b2.mono b1.size))
      · have HW := Lib.hid (fun W : World => spec_l00In_c W wk 1 8)
        rw [hw] at HW
        have h8d : decide (8 < (n : Int)) = false := decide_eq_false (by omega)
        have hyes : (datF rs).all (bestOk m ms) = true → waysOk m ms (datF rs) wk = true := fun h => by
          unfold waysOk
          rw [hv, hw, h, dat_lenF, hl2, decide_eq_true h8]
          rfl
        have HYES := Lib.hid hyes
        clear hv hw hyes
        go_enter Try.func20, Try.ntmps20
        go_wp2_with (rw [← e1]; clear e1)
        refine HV.out.mono ?_
        rintro e w2 ⟨rfl, q, rfl⟩
        have b2 : Below w1.heap.size w1 (w1.drewN q) := below_of_drewN _ _ _
        obtain ⟨w2, e2⟩ : ∃ W : World, W = w1.drewN q := ⟨_, rfl⟩
        rw [← e2] at b2 ⊢
        clear e2
        have hz2 := b2.size
        have B2 : Below w.heap.size w w2 := b1.trans (b2.mono b1.size)
        clear C0 C1
        go_wp2_with (go_at_call 47; refine (HW.out _).mono ?_; rintro e w' ⟨rfl, rfl⟩)
        go_loopw [8, 28] (fun v i wr => ∃ (j : Nat) (ys : List RowHB), j ≤ n ∧ i = .int .i64 j ∧ Hid (WaysInv w2 wr v ((datF (rs.take j)).map (bestL m ms)) ys) ∧ Hid ((datF (rs.take j)).all (bestOk m ms) = true)) (fun _ i _ => n - (intOf i).toNat)
        case atStart =>
          refine ⟨0, [], Nat.zero_le _, rfl, Lib.hid ⟨rfl, fun y hy => (by cases hy), List.Pairwise.nil, own_empty _ _ _ (Nat.le_refl _), (Below.refl _ _).alloc (Nat.le_refl _) _⟩, Lib.hid rfl⟩
        case round =>
          obtain ⟨j, ys, hj, rfl, HI, HALL⟩ := hrel
          obtain ⟨wA, rfl⟩ : ∃ wA : World, wA = wr := ⟨_, rfl⟩
          have hbr : Below w2.heap.size w2 wA := HI.out.2.2.2.2
          have hbA : Below w.heap.size w wA := B2.trans (hbr.mono B2.size)
          have hb1A : Below w1.heap.size w1 wA := b2.trans (hbr.mono hz2)
          have hOA := HO.out.below hb1A HO.out.lt
          have C0 : wA.cell? ⟨w.heap.size, 0, none⟩ = some (.int .i64 m) := hOA.cell 0
          have C1 : wA.cell? ⟨w.heap.size, 1, none⟩ = some (.slice A k cap) := hOA.cell 1
          have hzA := hb1A.size
          have hwz : w.heap.size < wA.heap.size := by omega
          clear hOA
          by_cases hlt : j < n
          · have hjr : j < rs.length := by omega
            obtain ⟨bb, off, rfl, hbb, hc1⟩ := (HY.out.below hb1A).1.get j hjr
            have hsl := (HY.out.below hb1A).2 (rs[j]'hjr) (List.getElem_mem _)
            have hrk := HR.out (rs[j]'hjr) (List.getElem_mem _)
            have hak := HA.out (rs[j]'hjr) (List.getElem_mem _)
            have hsn := ways_snoc (m := m) (ms := ms) hjr
            have hno := fun h => ways_no (m := m) (ms := ms) (wk := wk) hjr h
            have hal : (datF (rs.take (j + 1))).all (bestOk m ms) = ((datF (rs.take j)).all (bestOk m ms) && bestOk m ms (rs[j]'hjr).2.2) := by
              rw [List.take_succ_eq_append_getElem hjr]
              unfold datF
              rw [List.map_append, List.all_append]
              simp
            obtain ⟨⟨a, c, l⟩, hxx⟩ : ∃ x, rs[j]'hjr = x := ⟨_, rfl⟩
            rw [hxx] at hc1 hsl hrk hak hsn hno hal
            simp only [rowVF] at hc1 hsl hrk hak
            have HB := Lib.hid (spec_BestWay_c wA.drew m A k cap ms hl hk ((HX.out.below (below_drewN hb1A 1)).more hzA) a l.length c l rfl hrk (show Sl wA.drew wA.heap.size a (l.map (Value.float .f32)) from hsl.more hzA) hak)
            have HSN := Lib.hid hsn
            have HNO := Lib.hid hno
            have HAL := Lib.hid hal
            clear hsl hrk hak hsn hno hal hxx
            go_wp2_with fail
            go_region_held3 (fun w' => w'.cell? ⟨w.heap.size, 0, none⟩ = some (.int .i64 m) ∧ w'.cell? ⟨w.heap.size, 1, none⟩ = some (.slice A k cap) ∧ w'.cell? ⟨bb, off + j, none⟩ = some (.slice a l.length c))
              (first | exact ⟨p0, p1, p2⟩ | exact ⟨C0, C1, hc1⟩)
              (first | (go_at_call 7; refine HB.out.mono ?_; rintro e w3 ⟨v3, g3, rfl, -, ho3, hb3⟩; have ho3 : Ow w3 wA.heap.size 4 v3 _ := ho3; have hb3 := below_undrew hb3; have p0 := (hb3.cell (p := ⟨w.heap.size, 0, none⟩) (by simp only []; omega)).trans C0; have p1 := (hb3.cell (p := ⟨w.heap.size, 1, none⟩) (by simp only []; omega)).trans C1; have p2 := (hb3.cell (p := ⟨bb, off + j, none⟩) (by simp only []; omega)).trans hc1))
            cases hbo : bestOk m ms l
            · have HBO := Lib.hid (HNO.out hbo)
              clear hbo
              go_wp2
              go_ret2
              exact ways_fail HBO.out (hbA.trans (hb3.mono hbA.size))
            · have hal2 := HAL.out
              rw [hbo, HALL.out, Bool.true_and] at hal2
              have HAL2 := Lib.hid hal2
              obtain ⟨S3, q3, rfl, hp3⟩ := ho3.opn
              have hIn := HI.out
              have hou := hIn.2.2.2.1
              have hlen : (ys.map rowVB).length + 1 ≤ 1099511627776 := by
                have h1 := congrArg List.length hIn.1
                rw [dat_lenB, List.length_map, dat_lenF, List.length_take] at h1
                rw [List.length_map]
                omega
              have hob := own_below hou hb3 (Nat.le_refl _)
              have HP3 := Lib.hid hp3
              have hz3 := hb3.size
              clear hbo hal2 hou hIn ho3 hp3
              go_wp2_with (at_builtin; refine appGW Try.underlying45 infoBools rfl (by decide) rfl _ _ rfl _ _ _ rfl (World.ownsRow.alloc hob _) _ _ _ rfl (cell_new1 _ _ _) rfl hlen (by have := hbr.size; simp; omega) ?_; intro v4 w4 ho4 hg4)
              go_roundw
              case rel =>
                refine ⟨j + 1, ys ++ [(S3, q3, bestL m ms l)], by omega, by go_num, Lib.hid ?_, HAL2⟩
                rw [HSN.out]
                exact HI.out.step hb3 HP3.out _ hg4 ho4
              case measure => simp [intOf]; omega
          · obtain rfl : j = n := by omega
            have hok := HYES.out (by have := HALL.out; rwa [List.take_of_length_le (by omega)] at this)
            have hiv := HI.out
            rw [List.take_of_length_le (by omega)] at hiv
            have HOK := Lib.hid hok
            have HIV := Lib.hid hiv
            clear hok hiv
            go_wp2
            go_ret2
            refine ⟨_, ys, by rw [HOK.out]; rfl, ?_⟩
            have : waysL m ms (datF rs) wk = (datF rs).map (bestL m ms) := by unfold waysL; rw [HOK.out]; rfl
            rw [this]
            exact HIV.out.down B2
    · have hno : waysOk m ms (datF rs) wk = false := by
        unfold waysOk
        rw [dat_lenF, hl2, decide_eq_false h8, Bool.and_false, Bool.false_and, Bool.false_and]
      have HNO := Lib.hid hno
      have h8d : decide (8 < (n : Int)) = true := decide_eq_true (by omega)
      clear hv hno
      go_enter Try.func20, Try.ntmps20
      go_wp2_with (rw [← e1]; clear e1)
      refine HV.out.mono ?_
      rintro e w2 ⟨rfl, q, rfl⟩
      have b2 : Below w1.heap.size w1 (w1.drewN q) := below_of_drewN _ _ _
      go_wp2
      go_ret2
      exact ways_fail HNO.out (b1.trans (b2.mono b1.size))


end Go.Proofs.Ytlhffpjbjicfnaa
