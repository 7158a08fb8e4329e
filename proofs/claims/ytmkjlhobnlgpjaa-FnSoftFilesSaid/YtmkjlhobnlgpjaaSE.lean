/-
  Contracts: the bytes of several saved ones, of the program and of the reference.
  Conditions: lengths at most 1048576.
-/
import Derived.Test.YtmkjlhobnlgpjaaSA
namespace Go.Proofs.Ytmkjlhobnlgpjaa
open Go.RowKit

def vld (d : SavD) : Bool := validSavedB d.1 d.2.1 d.2.2
def stS (d : SavD) : ByteArray := storeS d.1 d.2.1 d.2.2
def catS (ds : List SavD) : ByteArray := ds.foldl (fun a d => a ++ stS d) ⟨#[]⟩
theorem catS_snoc (ds : List SavD) (d : SavD) : catS (ds ++ [d]) = catS ds ++ stS d := by simp [catS]
theorem stS_size {d : SavD} (h : vld d = true) : (stS d).size ≤ 700 := by
  obtain ⟨h1, h2, h3⟩ := valid_facts h
  unfold stS storeS
  rw [strOfNums_size]
  have h4 := headL_len d.1 d.2.1 d.2.2
  have h5 := chN8 d.2.1.length h2
  simp [storeN]
  omega
theorem catS_size : ∀ {ds : List SavD}, (∀ d ∈ ds, vld d = true) → (catS ds).size ≤ 700 * ds.length := by
  intro ds
  have key : ∀ (ds : List SavD) (a : ByteArray), (∀ d ∈ ds, vld d = true) → (ds.foldl (fun a d => a ++ stS d) a).size ≤ a.size + 700 * ds.length := by
    intro ds
    induction ds with
    | nil => intro a _; simp
    | cons d ds ih =>
      intro a h
      have h1 := ih (a ++ stS d) (fun x hx => h x (List.mem_cons_of_mem _ hx))
      have h2 := stS_size (h d List.mem_cons_self)
      rw [ByteArray.size_append] at h1
      rw [List.foldl_cons, List.length_cons]
      omega
  intro h
  have := key ds ⟨#[]⟩ h
  unfold catS
  have e : (⟨#[]⟩ : ByteArray).size = 0 := rfl
  omega
def allB (ds : List SavD) : Bool := decide (ds.length ≤ 8) && ds.all vld
def allS (ds : List SavD) : ByteArray := if allB ds then catS ds else ⟨#[]⟩
theorem sd_take {rs : List SavH} {k : Nat} (hk : k < rs.length) : sdat (rs.take (k + 1)) = sdat (rs.take k) ++ [sd1 rs[k]] := by
  rw [List.take_succ_eq_append_getElem hk]
  unfold sdat
  rw [List.map_append]
  rfl
theorem all_no {rs : List SavH} {k : Nat} (hk : k < rs.length) (h : vld (sd1 rs[k]) = false) : allB (sdat rs) = false := by
  unfold allB
  have : (sdat rs).all vld = false := by
    rw [← Bool.not_eq_true, List.all_eq_true]
    intro hh
    have := hh (sd1 rs[k]) (List.mem_map_of_mem (List.getElem_mem hk))
    rw [h] at this
    cases this
  rw [this, Bool.and_false]
theorem all_yes {rs : List SavH} (hl : rs.length ≤ 8) (h : ∀ d ∈ sdat rs, vld d = true) : allB (sdat rs) = true := by
  unfold allB
  rw [List.all_eq_true.2 h, decide_eq_true (by simpa [sdat] using hl)]
  rfl
theorem all_long {rs : List SavH} (hl : ¬ rs.length ≤ 8) : allB (sdat rs) = false := by
  unfold allB
  rw [decide_eq_false (by simpa [sdat] using hl)]
  rfl

theorem ret_sb {a a' : ByteArray} {b b' : Bool} (h1 : a = a') (h2 : b = b') : Ending.returned (.tuple #[.string a, .bool b]) = .returned (.tuple #[.string a', .bool b']) := by rw [h1, h2]
theorem allS_no {ds : List SavD} (h : allB ds = false) : allS ds = ⟨#[]⟩ := by unfold allS; rw [h]; rfl
theorem allS_yes {ds : List SavD} (h : allB ds = true) : allS ds = catS ds := by unfold allS; rw [h]; rfl

set_option maxRecDepth 100000 in
set_option maxHeartbeats 1000000 in
theorem impl_StoreAll_c (w : World) (A : Option Addr) (n cap : Nat) (rs : List SavH) (hl : rs.length = n) (hn : n ≤ 1048576) (hr : ∀ r ∈ rs, okSav 1048576 r) (hf : ∀ r ∈ rs, ∀ x ∈ r.xs, x < 4294967296) (hA : ∀ r ∈ rs, RowA r.A r.bs.length r.c) (hx : SlS w w.heap.size A rs) :
    Calls Try.prog 20 #[.slice A n cap] w fun e w' => e = .returned (.tuple #[.string (allS (sdat rs)), .bool (allB (sdat rs))]) ∧ Below w.heap.size w w' := by
  obtain ⟨rS, hrS⟩ : ∃ S, allS (sdat rs) = S := ⟨_, rfl⟩
  obtain ⟨rB, hrB⟩ : ∃ S, allB (sdat rs) = S := ⟨_, rfl⟩
  rw [hrS, hrB]
  have RS := Lib.hid hrS
  have RB := Lib.hid hrB
  clear hrS hrB
  by_cases h8 : n ≤ 8
  · go_enter Try.func20, Try.ntmps20
    go_wp2
    go_loopw [4, 14] (fun o i wr => ∃ k : Nat, k ≤ n ∧ i = .int .i64 k ∧ Hid (∀ d ∈ sdat (rs.take k), vld d = true) ∧ o = .string (catS (sdat (rs.take k))) ∧ Below w.heap.size w wr) (fun _ i _ => n - (intOf i).toNat)
    case atStart => exact ⟨0, Nat.zero_le _, rfl, Lib.hid (by simp [sdat]), rfl, Below.refl _ _⟩
    case round =>
      obtain ⟨k, hk, rfl, HV, rfl, hb⟩ := hrel
      by_cases hlt : k < n
      · have hzr := hb.size
        have hstk := sd_take (rs := rs) (k := k) (by omega)
        have hnot := all_no (rs := rs) (k := k) (by omega)
        have hcs := catS_size HV.out
        have hsl : (sdat (rs.take k)).length ≤ k := by simp [sdat]; omega
        obtain ⟨b, off, rfl, hbb, c0, c1, c2⟩ := (hx.below hb).get k (by omega)
        obtain ⟨s1, s2⟩ := (hx.below hb).2 (rs[k]'(by omega)) (List.getElem_mem _)
        obtain ⟨m0, m1, m2⟩ := hr (rs[k]'(by omega)) (List.getElem_mem _)
        have g1 := hf (rs[k]'(by omega)) (List.getElem_mem _)
        have g2 := hA (rs[k]'(by omega)) (List.getElem_mem _)
        obtain ⟨r, hrr⟩ : ∃ r, rs[k]'(by omega) = r := ⟨_, rfl⟩
        rw [hrr] at c0 c1 c2 m0 m1 m2 s1 s2 hstk hnot g1 g2
        have hS := fun o => impl_StoreSaved_c (wr.alloc o) r.s m0 r.A r.bs.length r.c r.bs rfl m1 ((s1.more hzr).alloc (Nat.le_refl _) _ |>.more (by simp)) g2 r.A2 r.xs.length r.c2 r.xs rfl m2 ((s2.more hzr).alloc (Nat.le_refl _) _ |>.more (by simp)) g1
        have HST := Lib.hid hstk
        have HN := Lib.hid hnot
        have HS := Lib.hid hS
        have hcs2 : (catS (sdat (rs.take k))).size ≤ 6000 := by omega
        obtain ⟨cur, hcur⟩ : ∃ cur, catS (sdat (rs.take k)) = cur := ⟨_, rfl⟩
        rw [hcur] at hcs2 ⊢
        have HC := Lib.hid hcur
        clear hstk hnot hS hcs hsl hrr hcur hx hr hf hA hl
        cases hv : validSavedB r.s r.bs r.xs
        · have hn2 := HN.out hv
          have HN2 := Lib.hid hn2
          have HVV := Lib.hid hv
          clear hn2 hv
          go_wp2_with fail
          refine (HS.out _).mono ?_
          rintro e w2 ⟨rfl, hb2⟩
          rw [HVV.out]
          go_wp2
          go_ret2
          exact ⟨ret_sb (by rw [← RS.out, allS_no HN2.out]) (by rw [← RB.out, HN2.out]), hb.trans (((Below.refl _ _).alloc (Nat.le_refl _) _).trans (hb2.mono (by simp)) |>.mono hzr)⟩
        · have hst := stS_size (d := sd1 r) hv
          have HVV := Lib.hid hv
          have HSR : Hid (storeR r.s r.bs r.xs = stS (sd1 r)) := Lib.hid (by unfold storeR; rw [hv]; rfl)
          clear hv
          go_wp2_with fail
          refine (HS.out _).mono ?_
          rintro e w2 ⟨rfl, hb2⟩
          rw [HVV.out, HSR.out]
          obtain ⟨nx, hnx⟩ : ∃ nx, stS (sd1 r) = nx := ⟨_, rfl⟩
          rw [hnx] at hst ⊢
          have HX := Lib.hid hnx
          clear hnx
          go_wp2
          go_roundw
          case rel =>
            refine ⟨k + 1, by omega, by go_num, Lib.hid ?_, ?_, hb.trans (((Below.refl _ _).alloc (Nat.le_refl _) _).trans (hb2.mono (by simp)) |>.mono hzr)⟩
            · intro d hd
              rw [HST.out, List.mem_append] at hd
              rcases hd with hd | hd
              · exact HV.out d hd
              · obtain rfl : d = sd1 r := by simpa using hd
                exact HVV.out
            · rw [HST.out, catS_snoc, HX.out, HC.out]
          case measure => simp [intOf] <;> omega
      · obtain rfl : k = n := by omega
        have hall := all_yes (rs := rs) (by omega) (by have := HV.out; rwa [List.take_of_length_le (by omega)] at this)
        rw [List.take_of_length_le (by omega)]
        have HA2 := Lib.hid hall
        clear hall hx hr hf hA
        go_wp2
        go_ret2
        exact ⟨ret_sb (by rw [← RS.out, allS_yes HA2.out]) (by rw [← RB.out, HA2.out]), hb⟩
  · have hno := all_long (rs := rs) (by omega)
    have HNO := Lib.hid hno
    clear hno
    go_enter Try.func20, Try.ntmps20
    go_wp2
    go_ret2
    exact ⟨ret_sb (by rw [← RS.out, allS_no HNO.out]) (by rw [← RB.out, HNO.out]), Below.refl _ _⟩


set_option maxRecDepth 100000 in
set_option maxHeartbeats 1000000 in
theorem spec_StoreAll_c (w : World) (A : Option Addr) (n cap : Nat) (rs : List SavH) (hl : rs.length = n) (hn : n ≤ 1048576) (hr : ∀ r ∈ rs, okSav 1048576 r) (hf : ∀ r ∈ rs, ∀ x ∈ r.xs, x < 4294967296) (_hA : ∀ r ∈ rs, RowA r.A r.bs.length r.c) (hx : SlS w w.heap.size A rs) :
    Calls Try.prog 19 #[.slice A n cap] w fun e w' => e = .returned (.tuple #[.string (allS (sdat rs)), .bool (allB (sdat rs))]) ∧ Below w.heap.size w w' := by
  obtain ⟨rS, hrS⟩ : ∃ S, allS (sdat rs) = S := ⟨_, rfl⟩
  obtain ⟨rB, hrB⟩ : ∃ S, allB (sdat rs) = S := ⟨_, rfl⟩
  rw [hrS, hrB]
  have RS := Lib.hid hrS
  have RB := Lib.hid hrB
  clear hrS hrB
  by_cases h8 : n ≤ 8
  · go_enter Try.func19, Try.ntmps19
    go_wp2
    go_loopw [4, 11] (fun o i wr => ∃ k : Nat, k ≤ n ∧ i = .int .i64 k ∧ Hid (∀ d ∈ sdat (rs.take k), vld d = true) ∧ o = .string (catS (sdat (rs.take k))) ∧ Below w.heap.size w wr) (fun _ i _ => n - (intOf i).toNat)
    case atStart => exact ⟨0, Nat.zero_le _, rfl, Lib.hid (by simp [sdat]), rfl, Below.refl _ _⟩
    case round =>
      obtain ⟨k, hk, rfl, HV, rfl, hb⟩ := hrel
      by_cases hlt : k < n
      · have hzr := hb.size
        have hstk := sd_take (rs := rs) (k := k) (by omega)
        have hnot := all_no (rs := rs) (k := k) (by omega)
        have hcs := catS_size HV.out
        have hsl : (sdat (rs.take k)).length ≤ k := by simp [sdat]; omega
        obtain ⟨b, off, rfl, hbb, c0, c1, c2⟩ := (hx.below hb).get k (by omega)
        obtain ⟨s1, s2⟩ := (hx.below hb).2 (rs[k]'(by omega)) (List.getElem_mem _)
        obtain ⟨m0, m1, m2⟩ := hr (rs[k]'(by omega)) (List.getElem_mem _)
        have g1 := hf (rs[k]'(by omega)) (List.getElem_mem _)
        obtain ⟨r, hrr⟩ : ∃ r, rs[k]'(by omega) = r := ⟨_, rfl⟩
        rw [hrr] at c0 c1 c2 m0 m1 m2 s1 s2 hstk hnot g1
        have hbz : b < wr.heap.size := by omega
        have hV := spec_l07Saved_c wr b (off + k * 3) w.heap.size r.s m0 r.A r.bs.length r.c r.bs rfl r.A2 r.xs.length r.c2 r.xs rfl s2 c0 c1 c2
        have hS := fun q (h8 : r.s.size ≤ 8) (h1 : r.bs.length ≤ 160) (h2 : r.xs.length ≤ 160) => spec_l07Store_c (wr.drewN q) b (off + k * 3) w.heap.size r.s h8 r.A r.bs.length r.c r.bs rfl h1 (s1.drewN q) r.A2 r.xs.length r.c2 r.xs rfl h2 (s2.drewN q) g1 c0 c1 c2 hbz hzr
        have HST := Lib.hid hstk
        have HN := Lib.hid hnot
        have HS := Lib.hid hS
        have HV1 := Lib.hid hV
        have hcs2 : (catS (sdat (rs.take k))).size ≤ 6000 := by omega
        obtain ⟨cur, hcur⟩ : ∃ cur, catS (sdat (rs.take k)) = cur := ⟨_, rfl⟩
        rw [hcur] at hcs2 ⊢
        have HC := Lib.hid hcur
        clear hstk hnot hS hcs hsl hrr hcur hx hr hf hl hV
        cases hv : validSavedB r.s r.bs r.xs
        · have hn2 := HN.out hv
          have HN2 := Lib.hid hn2
          have HVV := Lib.hid hv
          clear hn2 hv
          go_wp2_with fail
          refine HV1.out.mono ?_
          rintro e w2 ⟨rfl, q, rfl⟩
          rw [HVV.out]
          go_wp2
          go_ret2
          exact ⟨ret_sb (by rw [← RS.out, allS_no HN2.out]) (by rw [← RB.out, HN2.out]), below_drewN hb _⟩
        · have hst := stS_size (d := sd1 r) hv
          obtain ⟨v1, v2, v3⟩ := valid_facts hv
          have HVV := Lib.hid hv
          clear hv
          go_wp2_with fail
          refine HV1.out.mono ?_
          rintro e w2 ⟨rfl, q, rfl⟩
          rw [HVV.out]
          go_wp2_with fail
          refine (HS.out q v1 v2 v3).mono ?_
          rintro e w3 ⟨rfl, hb3⟩
          have hsx : storeS r.s r.bs r.xs = stS (sd1 r) := rfl
          rw [hsx]
          clear hsx
          obtain ⟨nx, hnx⟩ : ∃ nx, stS (sd1 r) = nx := ⟨_, rfl⟩
          rw [hnx] at hst ⊢
          have HX := Lib.hid hnx
          clear hnx
          go_wp2
          go_roundw
          case rel =>
            refine ⟨k + 1, by omega, by go_num, Lib.hid ?_, ?_, (below_drewN hb q).trans (hb3.mono hzr)⟩
            · intro d hd
              rw [HST.out, List.mem_append] at hd
              rcases hd with hd | hd
              · exact HV.out d hd
              · obtain rfl : d = sd1 r := by simpa using hd
                exact HVV.out
            · rw [HST.out, catS_snoc, HX.out, HC.out]
          case measure => simp [intOf] <;> omega
      · obtain rfl : k = n := by omega
        have hall := all_yes (rs := rs) (by omega) (by have := HV.out; rwa [List.take_of_length_le (by omega)] at this)
        rw [List.take_of_length_le (by omega)]
        have HA2 := Lib.hid hall
        clear hall hx hr hf
        go_wp2
        go_ret2
        exact ⟨ret_sb (by rw [← RS.out, allS_yes HA2.out]) (by rw [← RB.out, HA2.out]), hb⟩
  · have hno := all_long (rs := rs) (by omega)
    have HNO := Lib.hid hno
    clear hno
    go_enter Try.func19, Try.ntmps19
    go_wp2
    go_ret2
    exact ⟨ret_sb (by rw [← RS.out, allS_no HNO.out]) (by rw [← RB.out, HNO.out]), Below.refl _ _⟩

end Go.Proofs.Ytmkjlhobnlgpjaa
