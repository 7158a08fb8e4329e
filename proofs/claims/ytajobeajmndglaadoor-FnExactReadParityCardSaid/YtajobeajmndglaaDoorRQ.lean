/-
  Contracts: parities read, of both.
  Conditions: texts of at most 1048576 bytes; the tables and variables of the library lie there.
-/
import Derived.Test.YtajobeajmndglaaDoorRP
namespace Go.Proofs.YtajobeajmndglaaDoor
open Go.RowKit

def RpPost (w : World) (s : ByteArray) (e : Ending) (w' : World) : Prop := ∃ v, e = .returned (.tuple #[.agg #[.int .i64 (rpT s.data.toList).1, v], .bool (rpT s.data.toList).2.2]) ∧ Ow w' w.heap.size 2 v ((rpT s.data.toList).2.1.map (Value.int .i64)) ∧ Below w.heap.size w w'
theorem Cut_c (w : World) (s : ByteArray) (hs : s.size ≤ 1048576) (hm : maxLenOk w) :
    Calls Tryd.prog 22 #[.string s, .string ⟨#[59]⟩] w fun e w' => e = .returned (.tuple #[.string ⟨(Lib.cut s.data.toList [59]).1.toArray⟩, .string ⟨(Lib.cut s.data.toList [59]).2.1.toArray⟩, .bool (Lib.cut s.data.toList [59]).2.2]) ∧ ∃ n, w' = w.drewN n := by
  obtain ⟨m, hm⟩ := hm
  exact Any.strings_Cut { Tryd.laysM145 with } s ⟨#[59]⟩ m w (by omega) hm
theorem cut_yes {l : List UInt8} {i : Nat} (h : Lib.indexByte l 59 = i) : Lib.cut l [59] = (l.take i, l.drop (i + 1), true) := by
  unfold Lib.cut
  rw [Lib.index_one, h, if_pos (by omega)]
  rfl
theorem cut_none {l : List UInt8} (h : ¬ 0 ≤ Lib.indexByte l 59) : Lib.cut l [59] = (l, [], false) := by
  unfold Lib.cut
  rw [Lib.index_one, if_neg h]
theorem own_put {w : World} {base b o : Nat} {A : Option Addr} {n cap : Nat} {xs : List Value} {u : Value} (h : w.ownsRow base 2 1 (.slice A n cap) n xs) (hb : b < base) : (w.setCell ⟨b, o, none⟩ u).ownsRow base 2 1 (.slice A n cap) n xs :=
  h.kept (only_setCell (World.grownBy.refl w (some b)) (p := ⟨b, o, none⟩) rfl u) (by
    cases hvb : (Value.slice A n cap).ownBlock with
    | none => exact .inl rfl
    | some g =>
      refine .inr fun he => ?_
      have := own_in h g hvb
      injection he with he
      omega)


set_option maxRecDepth 100000 in
set_option maxHeartbeats 1000000 in
theorem impl_ReadParity_c (w : World) (s : ByteArray) (hs : s.size ≤ 1048576) (hm : maxLenOk w) (ht : Tab w) (he : Errs w) :
    Calls Tryd.prog 11 #[.string s] w (RpPost w s) := by
  obtain ⟨w0, e0⟩ : ∃ q : World, q = w.alloc (.cells #[.int .i64 0, .slice none 0 0] 31) := ⟨_, rfl⟩
  have hb0 : Below w.heap.size w w0 := by rw [e0]; exact (Below.refl _ _).alloc (Nat.le_refl _) _
  have hz0 : w0.heap.size = w.heap.size + 1 := by rw [e0]; simp
  have c0 : w0.cell? ⟨w.heap.size, 0, none⟩ = some (.int .i64 0) := by rw [e0]; (first | (simp; done) | (simp (disch := (first | (simp; done) | (simp; omega))) [World.cell?_alloc_at]; done) | (simp (disch := (first | (simp; done) | (simp; omega))) [World.cell?_alloc_past]; done) | (simp (disch := (first | (simp; done) | (simp; omega))) [World.cell?_alloc_at, World.cell?_alloc_past]; done) | (simp (disch := (first | (simp; done) | (simp; omega))) [World.frozen?_alloc_at]; done) | (simp (disch := (first | (simp; done) | (simp; omega))) [World.frozen?_alloc_past]; done) | (simp (disch := (first | (simp; done) | (simp; omega))) [World.frozen?_alloc_at, World.frozen?_alloc_past]; done))
  have c1 : w0.cell? ⟨w.heap.size, 1, none⟩ = some (.slice none 0 0) := by rw [e0]; (first | (simp; done) | (simp (disch := (first | (simp; done) | (simp; omega))) [World.cell?_alloc_at]; done) | (simp (disch := (first | (simp; done) | (simp; omega))) [World.cell?_alloc_past]; done) | (simp (disch := (first | (simp; done) | (simp; omega))) [World.cell?_alloc_at, World.cell?_alloc_past]; done) | (simp (disch := (first | (simp; done) | (simp; omega))) [World.frozen?_alloc_at]; done) | (simp (disch := (first | (simp; done) | (simp; omega))) [World.frozen?_alloc_past]; done) | (simp (disch := (first | (simp; done) | (simp; omega))) [World.frozen?_alloc_at, World.frozen?_alloc_past]; done))
  have f0 : w0.frozen? ⟨w.heap.size, 0, none⟩ = false := by rw [e0]; (first | (simp; done) | (simp (disch := (first | (simp; done) | (simp; omega))) [World.cell?_alloc_at]; done) | (simp (disch := (first | (simp; done) | (simp; omega))) [World.cell?_alloc_past]; done) | (simp (disch := (first | (simp; done) | (simp; omega))) [World.cell?_alloc_at, World.cell?_alloc_past]; done) | (simp (disch := (first | (simp; done) | (simp; omega))) [World.frozen?_alloc_at]; done) | (simp (disch := (first | (simp; done) | (simp; omega))) [World.frozen?_alloc_past]; done) | (simp (disch := (first | (simp; done) | (simp; omega))) [World.frozen?_alloc_at, World.frozen?_alloc_past]; done))
  have f1 : w0.frozen? ⟨w.heap.size, 1, none⟩ = false := by rw [e0]; (first | (simp; done) | (simp (disch := (first | (simp; done) | (simp; omega))) [World.cell?_alloc_at]; done) | (simp (disch := (first | (simp; done) | (simp; omega))) [World.cell?_alloc_past]; done) | (simp (disch := (first | (simp; done) | (simp; omega))) [World.cell?_alloc_at, World.cell?_alloc_past]; done) | (simp (disch := (first | (simp; done) | (simp; omega))) [World.frozen?_alloc_at]; done) | (simp (disch := (first | (simp; done) | (simp; omega))) [World.frozen?_alloc_past]; done) | (simp (disch := (first | (simp; done) | (simp; omega))) [World.frozen?_alloc_at, World.frozen?_alloc_past]; done))
  have hml := hm.lt
  have hsl : s.data.toList.length = s.size := size_listI s
  have HCU := Lib.hid (Cut_c w0 s hs (hm.below hb0 hml))
  have HRD := Lib.hid (fun W (hW : Below w.heap.size w W) (x : ByteArray) (hx : x.size ≤ 1048576) => impl_ReadDecimal_c W x hx (ht.below hW (Nat.le_refl _)) (he.below hW (Nat.le_refl _)))
  have HRL := Lib.hid (fun W (hW : Below w.heap.size w W) (x : ByteArray) (hx : x.size ≤ 1048576) => impl_ReadList_c W x hx (hm.below hW hml) (ht.below hW (Nat.le_refl _)) (he.below hW (Nat.le_refl _)))
  clear hm ht he
  unfold RpPost
  generalize s.data.toList = l at hsl HCU ⊢
  go_enter Tryd.func11, Tryd.ntmps11
  go_wp2_with fail
  rw [← e0]
  clear e0
  refine HCU.out.mono ?_
  rintro e w1 ⟨rfl, q, rfl⟩
  have hb1 : Below w0.heap.size w0 (w0.drewN q) := below_drewN (Below.refl _ _) q
  have hz1 : (w0.drewN q).heap.size = w0.heap.size := rfl
  have hB1 := hb0.trans (hb1.mono hb0.size)
  have c0 := (hb1.cell (p := ⟨w.heap.size, 0, none⟩) (by simp only []; omega)).trans c0
  have c1 := (hb1.cell (p := ⟨w.heap.size, 1, none⟩) (by simp only []; omega)).trans c1
  have f0 := (hb1.frozen (p := ⟨w.heap.size, 0, none⟩) (by simp only []; omega)).trans f0
  have f1 := (hb1.frozen (p := ⟨w.heap.size, 1, none⟩) (by simp only []; omega)).trans f1
  obtain ⟨w1, hw1⟩ : ∃ x, w0.drewN q = x := ⟨_, rfl⟩
  rw [hw1] at hb1 hz1 hB1 c0 c1 f0 f1 ⊢
  clear hw1 HCU
  by_cases hf : 0 ≤ Lib.indexByte l 59
  · obtain ⟨i, hi⟩ : ∃ i : Nat, Lib.indexByte l 59 = i := ⟨(Lib.indexByte l 59).toNat, by omega⟩
    rw [cut_yes hi]
    have hx1 : (⟨(l.take i).toArray⟩ : ByteArray).size ≤ 1048576 := by show (l.take i).toArray.size ≤ _; rw [List.size_toArray, List.length_take]; omega
    have hx2 : (⟨(l.drop (i + 1)).toArray⟩ : ByteArray).size ≤ 1048576 := by show (l.drop (i + 1)).toArray.size ≤ _; rw [List.size_toArray, List.length_drop]; omega
    have HI := Lib.hid hi
    have HX1 := Lib.hid (HRD.out w1 hB1 _ hx1)
    have HX2 := Lib.hid (fun W (hW : Below w.heap.size w W) => HRL.out W hW _ hx2)
    clear hi hf hx1 hx2 hsl
    unfold vz at HX1
    unfold LzPost at HX2
    go_wp2_with fail
    refine HX1.out.mono ?_
    rintro e w2 ⟨rfl, hb2⟩
    have hz2 := hb2.size
    have hB2 := hB1.trans (hb2.mono hB1.size)
    have c0 := (hb2.cell (p := ⟨w.heap.size, 0, none⟩) (by simp only []; omega)).trans c0
    have c1 := (hb2.cell (p := ⟨w.heap.size, 1, none⟩) (by simp only []; omega)).trans c1
    have f0 := (hb2.frozen (p := ⟨w.heap.size, 0, none⟩) (by simp only []; omega)).trans f0
    have f1 := (hb2.frozen (p := ⟨w.heap.size, 1, none⟩) (by simp only []; omega)).trans f1
    go_wp2_with fail
    refine (HX2.out w2 hB2).mono ?_
    rintro e w3 ⟨v, rfl, ho, hb3⟩
    have hz3 := hb3.size
    have hB3 := hB2.trans (hb3.mono hB2.size)
    have c0 := (hb3.cell (p := ⟨w.heap.size, 0, none⟩) (by simp only []; omega)).trans c0
    have c1 := (hb3.cell (p := ⟨w.heap.size, 1, none⟩) (by simp only []; omega)).trans c1
    have f0 := (hb3.frozen (p := ⟨w.heap.size, 0, none⟩) (by simp only []; omega)).trans f0
    have f1 := (hb3.frozen (p := ⟨w.heap.size, 1, none⟩) (by simp only []; omega)).trans f1
    cases hv : valZ ⟨(l.take i).toArray⟩ with
    | none =>
      have HRP := Lib.hid (rp_badnum HI.out hv)
      clear hv ho
      go_wp2
      refine bodyPost_ret (v := .tuple #[.agg #[.int .i64 0, .slice none 0 0], .bool false]) (by unfold results; rw [Tryd.results11]; go_simp) rfl ?_
      refine ⟨_, by rw [HRP.out], by rw [HRP.out]; exact own_nil _ _ _, ?_⟩
      iterate 2 (refine Below.setCell ?_ (by simp <;> omega) _)
      exact hB3
    | some m =>
      cases hw : lstZ ⟨(l.drop (i + 1)).toArray⟩ with
      | none =>
        have HRP := Lib.hid (rp_badlst HI.out hw)
        clear hv ho hw
        go_wp2
        refine bodyPost_ret (v := .tuple #[.agg #[.int .i64 0, .slice none 0 0], .bool false]) (by unfold results; rw [Tryd.results11]; go_simp) rfl ?_
        refine ⟨_, by rw [HRP.out], by rw [HRP.out]; exact own_nil _ _ _, ?_⟩
        iterate 2 (refine Below.setCell ?_ (by simp <;> omega) _)
        exact hB3
      | some D =>
        have hD := lstZ_len hw
        have hrp := rp_both HI.out hv hw
        rw [hw] at ho
        have hgd : ((some D).getD []) = D := rfl
        rw [hgd] at ho
        obtain ⟨A, cap, rfl, hp⟩ := ho.opn
        obtain ⟨n, hn⟩ : ∃ n, D.length = n := ⟨_, rfl⟩
        rw [hn] at hp hD ⊢
        have HA := Lib.hid (impl_asParity_c w3 m A n cap D hn (by omega) (sl_of_own hp))
        have HP := Lib.hid hp
        have HN := Lib.hid hn
        have HRP := Lib.hid hrp
        clear hv hw ho hgd hp hn hrp
        go_wp2_with fail
        refine HA.out.mono ?_
        rintro e w4 ⟨rfl, hb4⟩
        have hz4 := hb4.size
        have hB4 := hB3.trans (hb4.mono hB3.size)
        have hp4 := own_below HP.out hb4 (Nat.le_refl _)
        have c0 := (hb4.cell (p := ⟨w.heap.size, 0, none⟩) (by simp only []; omega)).trans c0
        have c1 := (hb4.cell (p := ⟨w.heap.size, 1, none⟩) (by simp only []; omega)).trans c1
        have f0 := (hb4.frozen (p := ⟨w.heap.size, 0, none⟩) (by simp only []; omega)).trans f0
        have f1 := (hb4.frozen (p := ⟨w.heap.size, 1, none⟩) (by simp only []; omega)).trans f1
        cases hc : validParB m D
        · have HR2 := Lib.hid (show rpT l = (0, [], false) by rw [HRP.out, hc]; rfl)
          clear hc
          unfold asP
          go_wp2
          refine bodyPost_ret (v := .tuple #[.agg #[.int .i64 0, .slice none 0 0], .bool false]) (by unfold results; rw [Tryd.results11]; go_simp) rfl ?_
          refine ⟨_, by rw [HR2.out], by rw [HR2.out]; exact own_nil _ _ _, ?_⟩
          iterate 2 (refine Below.setCell ?_ (by simp <;> omega) _)
          exact hB4
        · have HR2 := Lib.hid (show rpT l = (m, D, true) by rw [HRP.out, hc]; rfl)
          clear hc
          unfold asP
          go_wp2
          refine bodyPost_ret (v := .tuple #[.agg #[.int .i64 m, .slice A n cap], .bool true]) (by unfold results; rw [Tryd.results11]; go_simp) rfl ?_
          refine ⟨_, by rw [HR2.out], ?_, ?_⟩
          · have h4 := own_base (base' := w.heap.size) (own_put (o := 1) (u := .slice A n cap) (own_put (b := w.heap.size) (o := 0) (u := .int .i64 m) hp4 (by omega)) (b := w.heap.size) (by omega)) (by omega)
            unfold Ow
            rw [HR2.out, List.length_map, HN.out]
            exact h4
          · iterate 2 (refine Below.setCell ?_ (by simp <;> omega) _)
            exact hB4
  · rw [cut_none hf]
    have hx1 : (⟨l.toArray⟩ : ByteArray).size ≤ 1048576 := by show l.toArray.size ≤ _; rw [List.size_toArray]; omega
    have HRP := Lib.hid (rp_notfound hf)
    have HX1 := Lib.hid (HRD.out w1 hB1 _ hx1)
    have HX2 := Lib.hid (fun W (hW : Below w.heap.size w W) => HRL.out W hW ⟨([] : List UInt8).toArray⟩ (by decide))
    clear hf hx1 hsl
    unfold vz at HX1
    unfold LzPost at HX2
    go_wp2_with fail
    refine HX1.out.mono ?_
    rintro e w2 ⟨rfl, hb2⟩
    have hz2 := hb2.size
    have hB2 := hB1.trans (hb2.mono hB1.size)
    have c0 := (hb2.cell (p := ⟨w.heap.size, 0, none⟩) (by simp only []; omega)).trans c0
    have c1 := (hb2.cell (p := ⟨w.heap.size, 1, none⟩) (by simp only []; omega)).trans c1
    have f0 := (hb2.frozen (p := ⟨w.heap.size, 0, none⟩) (by simp only []; omega)).trans f0
    have f1 := (hb2.frozen (p := ⟨w.heap.size, 1, none⟩) (by simp only []; omega)).trans f1
    go_wp2_with fail
    refine (HX2.out w2 hB2).mono ?_
    rintro e w3 ⟨v, rfl, ho, hb3⟩
    have hz3 := hb3.size
    have hB3 := hB2.trans (hb3.mono hB2.size)
    clear ho
    have c0 := (hb3.cell (p := ⟨w.heap.size, 0, none⟩) (by simp only []; omega)).trans c0
    have c1 := (hb3.cell (p := ⟨w.heap.size, 1, none⟩) (by simp only []; omega)).trans c1
    have f0 := (hb3.frozen (p := ⟨w.heap.size, 0, none⟩) (by simp only []; omega)).trans f0
    have f1 := (hb3.frozen (p := ⟨w.heap.size, 1, none⟩) (by simp only []; omega)).trans f1
    go_wp2
    refine bodyPost_ret (v := .tuple #[.agg #[.int .i64 0, .slice none 0 0], .bool false]) (by unfold results; rw [Tryd.results11]; go_simp) rfl ?_
    refine ⟨_, by rw [HRP.out], by rw [HRP.out]; exact own_nil _ _ _, ?_⟩
    iterate 2 (refine Below.setCell ?_ (by simp <;> omega) _)
    exact hB3


set_option maxRecDepth 100000 in
set_option maxHeartbeats 1000000 in
theorem spec_l08ReadParity_c (w : World) (s : ByteArray) (hs : s.size ≤ 1048576) :
    Calls Tryd.prog 21 #[.string s] w (RpPost w s) := by
  obtain ⟨w0, e0⟩ : ∃ q : World, q = w.alloc (.cells #[.int .i64 0, .slice none 0 0] 31) := ⟨_, rfl⟩
  have hb0 : Below w.heap.size w w0 := by rw [e0]; exact (Below.refl _ _).alloc (Nat.le_refl _) _
  have hz0 : w0.heap.size = w.heap.size + 1 := by rw [e0]; simp
  have c0 : w0.cell? ⟨w.heap.size, 0, none⟩ = some (.int .i64 0) := by rw [e0]; (first | (simp; done) | (simp (disch := (first | (simp; done) | (simp; omega))) [World.cell?_alloc_at]; done) | (simp (disch := (first | (simp; done) | (simp; omega))) [World.cell?_alloc_past]; done) | (simp (disch := (first | (simp; done) | (simp; omega))) [World.cell?_alloc_at, World.cell?_alloc_past]; done) | (simp (disch := (first | (simp; done) | (simp; omega))) [World.frozen?_alloc_at]; done) | (simp (disch := (first | (simp; done) | (simp; omega))) [World.frozen?_alloc_past]; done) | (simp (disch := (first | (simp; done) | (simp; omega))) [World.frozen?_alloc_at, World.frozen?_alloc_past]; done))
  have c1 : w0.cell? ⟨w.heap.size, 1, none⟩ = some (.slice none 0 0) := by rw [e0]; (first | (simp; done) | (simp (disch := (first | (simp; done) | (simp; omega))) [World.cell?_alloc_at]; done) | (simp (disch := (first | (simp; done) | (simp; omega))) [World.cell?_alloc_past]; done) | (simp (disch := (first | (simp; done) | (simp; omega))) [World.cell?_alloc_at, World.cell?_alloc_past]; done) | (simp (disch := (first | (simp; done) | (simp; omega))) [World.frozen?_alloc_at]; done) | (simp (disch := (first | (simp; done) | (simp; omega))) [World.frozen?_alloc_past]; done) | (simp (disch := (first | (simp; done) | (simp; omega))) [World.frozen?_alloc_at, World.frozen?_alloc_past]; done))
  have f0 : w0.frozen? ⟨w.heap.size, 0, none⟩ = false := by rw [e0]; (first | (simp; done) | (simp (disch := (first | (simp; done) | (simp; omega))) [World.cell?_alloc_at]; done) | (simp (disch := (first | (simp; done) | (simp; omega))) [World.cell?_alloc_past]; done) | (simp (disch := (first | (simp; done) | (simp; omega))) [World.cell?_alloc_at, World.cell?_alloc_past]; done) | (simp (disch := (first | (simp; done) | (simp; omega))) [World.frozen?_alloc_at]; done) | (simp (disch := (first | (simp; done) | (simp; omega))) [World.frozen?_alloc_past]; done) | (simp (disch := (first | (simp; done) | (simp; omega))) [World.frozen?_alloc_at, World.frozen?_alloc_past]; done))
  have f1 : w0.frozen? ⟨w.heap.size, 1, none⟩ = false := by rw [e0]; (first | (simp; done) | (simp (disch := (first | (simp; done) | (simp; omega))) [World.cell?_alloc_at]; done) | (simp (disch := (first | (simp; done) | (simp; omega))) [World.cell?_alloc_past]; done) | (simp (disch := (first | (simp; done) | (simp; omega))) [World.cell?_alloc_at, World.cell?_alloc_past]; done) | (simp (disch := (first | (simp; done) | (simp; omega))) [World.frozen?_alloc_at]; done) | (simp (disch := (first | (simp; done) | (simp; omega))) [World.frozen?_alloc_past]; done) | (simp (disch := (first | (simp; done) | (simp; omega))) [World.frozen?_alloc_at, World.frozen?_alloc_past]; done))
  have hsl : s.data.toList.length = s.size := size_listI s
  have HCU := Lib.hid (spec_l01Cut_c w0 s 59 hs)
  have hcl := cutL_len 59 s.data.toList
  unfold RpPost
  generalize s.data.toList = l at hsl HCU hcl ⊢
  obtain ⟨N, hN⟩ : ∃ N, (cutL 59 l).length = N := ⟨_, rfl⟩
  rw [hN] at hcl
  go_enter Tryd.func21, Tryd.ntmps21
  go_wp2_with fail
  rw [← e0]
  clear e0
  refine HCU.out.mono ?_
  rintro e w1 ⟨v, rfl, ho, hb1⟩
  have hz1 := hb1.size
  have hB1 := hb0.trans (hb1.mono hb0.size)
  have c0 := (hb1.cell (p := ⟨w.heap.size, 0, none⟩) (by simp only []; omega)).trans c0
  have c1 := (hb1.cell (p := ⟨w.heap.size, 1, none⟩) (by simp only []; omega)).trans c1
  have f0 := (hb1.frozen (p := ⟨w.heap.size, 0, none⟩) (by simp only []; omega)).trans f0
  have f1 := (hb1.frozen (p := ⟨w.heap.size, 1, none⟩) (by simp only []; omega)).trans f1
  obtain ⟨A0, cap0, rfl, hp⟩ := ho.opn
  rw [hN] at hp ⊢
  clear ho HCU
  by_cases h2 : N = 2
  · have hf : 0 ≤ Lib.indexByte l 59 := by
      by_cases hf : 0 ≤ Lib.indexByte l 59
      · exact hf
      · rw [cut59_no hf] at hN
        simp at hN
        omega
    obtain ⟨i, hi⟩ : ∃ i : Nat, Lib.indexByte l 59 = i := ⟨(Lib.indexByte l 59).toNat, by omega⟩
    have hct := cut59_at hi
    have hone : cutL 59 (l.drop (i + 1)) = [l.drop (i + 1)] := cut59_one (by rw [hct, List.length_cons] at hN; omega)
    rw [hone] at hct
    rw [hct] at hp
    subst h2
    have hx1 : (⟨(l.take i).toArray⟩ : ByteArray).size ≤ 1048576 := by show (l.take i).toArray.size ≤ _; rw [List.size_toArray, List.length_take]; omega
    have hx2 : (⟨(l.drop (i + 1)).toArray⟩ : ByteArray).size ≤ 1048576 := by show (l.drop (i + 1)).toArray.size ≤ _; rw [List.size_toArray, List.length_drop]; omega
    obtain ⟨g, c', hv0, hbg, hgs⟩ := hp.form (by omega)
    injection hv0 with hv0 hv1 hv2
    subst hv0
    have g0 : w1.cell? ⟨g, 0, none⟩ = some (.string ⟨(l.take i).toArray⟩) := by rw [hp.cellAt 0 (by omega)]; rfl
    have g1 : w1.cell? ⟨g, 1, none⟩ = some (.string ⟨(l.drop (i + 1)).toArray⟩) := by rw [hp.cellAt 1 (by omega)]; rfl
    have HI := Lib.hid hi
    have HX1 := Lib.hid (spec_l01Value_c w1 ⟨(l.take i).toArray⟩ hx1)
    have HX2 := Lib.hid (fun W => spec_l01Numbers_c W ⟨(l.drop (i + 1)).toArray⟩ hx2)
    clear hi hf hx1 hx2 hsl hct hone hp hN hv1 hv2
    unfold vz at HX1
    unfold LzPost at HX2
    go_wp2_with fail
    refine HX1.out.mono ?_
    rintro e w2 ⟨rfl, hb2⟩
    have hz2 := hb2.size
    have hB2 := hB1.trans (hb2.mono hB1.size)
    have g1 := (hb2.cell (p := ⟨g, 1, none⟩) (by simp only []; omega)).trans g1
    have c0 := (hb2.cell (p := ⟨w.heap.size, 0, none⟩) (by simp only []; omega)).trans c0
    have c1 := (hb2.cell (p := ⟨w.heap.size, 1, none⟩) (by simp only []; omega)).trans c1
    have f0 := (hb2.frozen (p := ⟨w.heap.size, 0, none⟩) (by simp only []; omega)).trans f0
    have f1 := (hb2.frozen (p := ⟨w.heap.size, 1, none⟩) (by simp only []; omega)).trans f1
    go_wp2_with fail
    refine (HX2.out w2).mono ?_
    rintro e w3 ⟨v, rfl, ho, hb3⟩
    have hz3 := hb3.size
    have hB3 := hB2.trans (hb3.mono hB2.size)
    have c0 := (hb3.cell (p := ⟨w.heap.size, 0, none⟩) (by simp only []; omega)).trans c0
    have c1 := (hb3.cell (p := ⟨w.heap.size, 1, none⟩) (by simp only []; omega)).trans c1
    have f0 := (hb3.frozen (p := ⟨w.heap.size, 0, none⟩) (by simp only []; omega)).trans f0
    have f1 := (hb3.frozen (p := ⟨w.heap.size, 1, none⟩) (by simp only []; omega)).trans f1
    cases hv : valZ ⟨(l.take i).toArray⟩ with
    | none =>
      have HRP := Lib.hid (rp_badnum HI.out hv)
      clear hv ho
      go_wp2
      refine bodyPost_ret (v := .tuple #[.agg #[.int .i64 0, .slice none 0 0], .bool false]) (by unfold results; rw [Tryd.results21]; go_simp) rfl ?_
      refine ⟨_, by rw [HRP.out], by rw [HRP.out]; exact own_nil _ _ _, ?_⟩
      iterate 2 (refine Below.setCell ?_ (by simp <;> omega) _)
      exact hB3
    | some m =>
      cases hw : lstZ ⟨(l.drop (i + 1)).toArray⟩ with
      | none =>
        have HRP := Lib.hid (rp_badlst HI.out hw)
        clear hv ho hw
        go_wp2
        refine bodyPost_ret (v := .tuple #[.agg #[.int .i64 0, .slice none 0 0], .bool false]) (by unfold results; rw [Tryd.results21]; go_simp) rfl ?_
        refine ⟨_, by rw [HRP.out], by rw [HRP.out]; exact own_nil _ _ _, ?_⟩
        iterate 2 (refine Below.setCell ?_ (by simp <;> omega) _)
        exact hB3
      | some D =>
        have hD := lstZ_len hw
        have hrp := rp_both HI.out hv hw
        rw [hw] at ho
        have hgd : ((some D).getD []) = D := rfl
        rw [hgd] at ho
        obtain ⟨A, cap, rfl, hp⟩ := ho.opn
        obtain ⟨n, hn⟩ : ∃ n, D.length = n := ⟨_, rfl⟩
        rw [hn] at hp hD ⊢
        have HA := Lib.hid (spec_l06Give_c w3 m A n cap D hn (by omega) (sl_of_own hp))
        have HP := Lib.hid hp
        have HN := Lib.hid hn
        have HRP := Lib.hid hrp
        clear hv hw ho hgd hp hn hrp
        go_wp2_with fail
        refine HA.out.mono ?_
        rintro e w4 ⟨rfl, hb4⟩
        have hz4 := hb4.size
        have hB4 := hB3.trans (hb4.mono hB3.size)
        have hp4 := own_below HP.out hb4 (Nat.le_refl _)
        have c0 := (hb4.cell (p := ⟨w.heap.size, 0, none⟩) (by simp only []; omega)).trans c0
        have c1 := (hb4.cell (p := ⟨w.heap.size, 1, none⟩) (by simp only []; omega)).trans c1
        have f0 := (hb4.frozen (p := ⟨w.heap.size, 0, none⟩) (by simp only []; omega)).trans f0
        have f1 := (hb4.frozen (p := ⟨w.heap.size, 1, none⟩) (by simp only []; omega)).trans f1
        cases hc : validParB m D
        · have HR2 := Lib.hid (show rpT l = (0, [], false) by rw [HRP.out, hc]; rfl)
          clear hc
          unfold asP
          go_wp2
          refine bodyPost_ret (v := .tuple #[.agg #[.int .i64 0, .slice none 0 0], .bool false]) (by unfold results; rw [Tryd.results21]; go_simp) rfl ?_
          refine ⟨_, by rw [HR2.out], by rw [HR2.out]; exact own_nil _ _ _, ?_⟩
          iterate 2 (refine Below.setCell ?_ (by simp <;> omega) _)
          exact hB4
        · have HR2 := Lib.hid (show rpT l = (m, D, true) by rw [HRP.out, hc]; rfl)
          clear hc
          unfold asP
          go_wp2
          refine bodyPost_ret (v := .tuple #[.agg #[.int .i64 m, .slice A n cap], .bool true]) (by unfold results; rw [Tryd.results21]; go_simp) rfl ?_
          refine ⟨_, by rw [HR2.out], ?_, ?_⟩
          · have h4 := own_base (base' := w.heap.size) (own_put (o := 1) (u := .slice A n cap) (own_put (b := w.heap.size) (o := 0) (u := .int .i64 m) hp4 (by omega)) (b := w.heap.size) (by omega)) (by omega)
            unfold Ow
            rw [HR2.out, List.length_map, HN.out]
            exact h4
          · iterate 2 (refine Below.setCell ?_ (by simp <;> omega) _)
            exact hB4
  · have hrp : rpT l = (0, [], false) := by
      by_cases hf : 0 ≤ Lib.indexByte l 59
      · obtain ⟨i, hi⟩ : ∃ i : Nat, Lib.indexByte l 59 = i := ⟨(Lib.indexByte l 59).toNat, by omega⟩
        refine rp_badlst hi (lstZ_semi (cut59_two ?_))
        rw [cut59_at hi, List.length_cons] at hN
        omega
      · exact rp_notfound hf
    have HRP := Lib.hid hrp
    have hNe : ((N : Int) == 2) = false := by rw [beq_eq_false_iff_ne]; omega
    clear hrp hN hp
    go_wp2
    refine bodyPost_ret (v := .tuple #[.agg #[.int .i64 0, .slice none 0 0], .bool false]) (by unfold results; rw [Tryd.results21]; go_simp) rfl ?_
    refine ⟨_, by rw [HRP.out], by rw [HRP.out]; exact own_nil _ _ _, ?_⟩
    iterate 2 (refine Below.setCell ?_ (by simp <;> omega) _)
    exact hB1

end Go.Proofs.YtajobeajmndglaaDoor
