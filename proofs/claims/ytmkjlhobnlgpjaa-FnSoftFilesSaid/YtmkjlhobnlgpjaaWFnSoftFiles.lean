/-
  FnSoftFiles returns true for every input.
  Conditions: none beyond the given statement's own.
-/
import Derived.Test.YtmkjlhobnlgpjaaUD
import Derived.Test.YtmkjlhobnlgpjaaSF
import Derived.Test.YtmkjlhobnlgpjaaDB
import Derived.Lib.ConvBytes
namespace Go.Proofs.Ytmkjlhobnlgpjaa
open Go.RowKit

/-- what is asked of a list that was drawn, where it lies -/
structure Kept (w : World) (D : Nat) (A : Option Addr) (n cap : Nat) (ys : List SavH) : Prop where
  own : ∀ y ∈ ys, OwnS w D y
  row : w.ownsRow D 35 3 (.slice A n cap) n (savCells ys)
theorem Kept.below {w w' : World} {D E n cap : Nat} {A : Option Addr} {ys : List SavH} (h : Kept w D A n cap ys) (hb : Below E w w') (hE : w.heap.size ≤ E) : Kept w' D A n cap ys :=
  ⟨fun y hy => (h.own y hy).below hb hE, own_below h.row hb hE⟩
theorem Kept.sl {w : World} {D n cap : Nat} {A : Option Addr} {ys : List SavH} (h : Kept w D A n cap ys) : SlS w w.heap.size A ys := slS_of_own h.row h.own

theorem bytes_below (w : World) (e : TypeId) (s : ByteArray) : Below w.heap.size w (Lib.bytesWorld w e s) :=
  ⟨rfl, rfl, rfl, by rw [Lib.bytesWorld_size]; omega, fun i hi => Lib.bytesWorld_at_old w e s i hi⟩
theorem bytes_cell (w : World) (e : TypeId) (s : ByteArray) (i : Nat) (hi : i < s.size) : (Lib.bytesWorld w e s).cell? ⟨w.heap.size, i, none⟩ = some (.int .u8 ((nameL s).getD i 0)) := by
  rw [Lib.bytesWorld_cell w e s i hi]
  have hl : s.data.toList.length = s.size := Array.length_toList
  have h : i < s.data.toList.length := by omega
  unfold nameL
  rw [List.getD_eq_getElem?_getD, List.getD_eq_getElem?_getD, List.getElem?_map, List.getElem?_eq_getElem h]
  rfl
theorem bytes_frozen (w : World) (e : TypeId) (s : ByteArray) (i : Nat) (hi : i < s.size) : (Lib.bytesWorld w e s).frozen? ⟨w.heap.size, i, none⟩ = false := by
  have hz : s.size ≤ (Lib.bytesCells w e s).size := by
    unfold Lib.bytesCells
    rw [Array.size_append, Array.size_map]
    exact Nat.le_add_right _ _
  unfold World.frozen?
  rw [Lib.bytesWorld_at_new]
  simp
  omega
theorem nameL_at (s : ByteArray) (i : Nat) : ∃ x : Nat, (nameL s).getD i 0 = (x : Int) ∧ x < 256 := by
  unfold nameL
  by_cases h : i < s.data.toList.length
  · exact ⟨(s.data.toList[i]).toNat, by rw [List.getD_eq_getElem?_getD, List.getElem?_map, List.getElem?_eq_getElem h]; rfl, UInt8.toNat_lt _⟩
  · exact ⟨0, by rw [List.getD_eq_getElem?_getD, List.getElem?_map, List.getElem?_eq_none (by omega)]; rfl, by decide⟩
theorem infoInt : (Try.prog.info? 3).map (fun i => (i.zero, i.size, i.bytes)) = some (some (.int .i64 0), 1, 8) := by kernel_rfl
def savO (r : SavH) : Go.Obj := .cells #[.string r.s, .slice r.A r.bs.length r.c, .slice r.A2 r.xs.length r.c2] 35
theorem same_at {w : World} {g g' : Nat} {rx ry : SavH} (hd : sd1 rx = sd1 ry) (hx : okSav 1048576 rx) (hw : ∀ a ∈ rx.xs, a < 4294967296) (h1 : w.heap[g]? = some (savO rx)) (h2 : w.heap[g']? = some (savO ry)) (hg : g < w.heap.size) (hg' : g' < w.heap.size)
    (s1 : Sl w w.heap.size rx.A (rx.bs.map Value.bool)) (s2 : Sl w w.heap.size rx.A2 (rx.xs.map (Value.float .f32))) (s3 : Sl w w.heap.size ry.A (ry.bs.map Value.bool)) (s4 : Sl w w.heap.size ry.A2 (ry.xs.map (Value.float .f32))) :
    Calls Try.prog 12 #[.slice (some ⟨g, 0, none⟩) 1 1, .slice (some ⟨g', 0, none⟩) 1 1] w fun e w' => e = .returned (.bool true) ∧ Below w.heap.size w w' := by
  have e1 : rx.bs = ry.bs := congrArg (fun d : SavD => d.2.1) hd
  have e2 : rx.xs = ry.xs := congrArg (fun d : SavD => d.2.2) hd
  have e3 : rx.s = ry.s := congrArg (fun d : SavD => d.1) hd
  have hy : okSav 1048576 ry := by
    obtain ⟨a, b, c⟩ := hx
    exact ⟨e3 ▸ a, e1 ▸ b, e2 ▸ c⟩
  have h := impl_SameSaved_c w (some ⟨g, 0, none⟩) (some ⟨g', 0, none⟩) 1 1 1 1 [rx] [ry] rfl rfl (by decide) (by decide) (by simpa using hx) (by simpa using hy) (by simpa using hw) (by rw [e2] at hw; simpa using hw) (slS_one h1 hg s1 s2) (slS_one h2 hg' s3 s4)
  have hs : sameS (sdat [rx]) (sdat [ry]) = true := by
    show sameS [sd1 rx] [sd1 ry] = true
    rw [hd]
    exact same_self _
  rw [hs] at h
  exact h
theorem alloc2_get (w : World) (o1 o2 : Go.Obj) : ((w.alloc o1).alloc o2).heap[w.heap.size]? = some o1 ∧ ((w.alloc o1).alloc o2).heap[w.heap.size + 1]? = some o2 ∧ ((w.alloc o1).alloc o2).heap.size = w.heap.size + 2 ∧ Below w.heap.size w ((w.alloc o1).alloc o2) := by
  have hz : (w.alloc o1).heap.size = w.heap.size + 1 := by simp
  have b1 : Below w.heap.size w (w.alloc o1) := (Below.refl _ _).alloc (Nat.le_refl _) _
  have b2 : Below (w.alloc o1).heap.size (w.alloc o1) ((w.alloc o1).alloc o2) := (Below.refl _ _).alloc (Nat.le_refl _) _
  refine ⟨?_, ?_, by simp, b1.trans (b2.mono (by omega))⟩
  · rw [b2.block _ (by omega)]
    exact heap_alloc_new w o1
  · have h := heap_alloc_new (w.alloc o1) o2
    rw [hz] at h
    exact h
/-- the two made into rows of one, in either order -/
theorem same_two (w : World) (rx ry : SavH) (hd : sd1 rx = sd1 ry) (hx : okSav 1048576 rx) (hw : ∀ a ∈ rx.xs, a < 4294967296)
    (s1 : Sl w w.heap.size rx.A (rx.bs.map Value.bool)) (s2 : Sl w w.heap.size rx.A2 (rx.xs.map (Value.float .f32))) (s3 : Sl w w.heap.size ry.A (ry.bs.map Value.bool)) (s4 : Sl w w.heap.size ry.A2 (ry.xs.map (Value.float .f32))) :
    Calls Try.prog 12 #[.slice (some ⟨w.heap.size, 0, none⟩) 1 1, .slice (some ⟨w.heap.size + 1, 0, none⟩) 1 1] ((w.alloc (savO rx)).alloc (savO ry)) (fun e w' => e = .returned (.bool true) ∧ Below w.heap.size w w') ∧
    Calls Try.prog 12 #[.slice (some ⟨w.heap.size + 1, 0, none⟩) 1 1, .slice (some ⟨w.heap.size, 0, none⟩) 1 1] ((w.alloc (savO ry)).alloc (savO rx)) (fun e w' => e = .returned (.bool true) ∧ Below w.heap.size w w') := by
  constructor
  · obtain ⟨g1, g2, g3, g4⟩ := alloc2_get w (savO rx) (savO ry)
    refine (same_at hd hx hw g1 g2 (by omega) (by omega) ((s1.below g4).more (by omega)) ((s2.below g4).more (by omega)) ((s3.below g4).more (by omega)) ((s4.below g4).more (by omega))).mono ?_
    rintro e w' ⟨rfl, hb⟩
    exact ⟨rfl, g4.trans (hb.mono (by omega))⟩
  · obtain ⟨g1, g2, g3, g4⟩ := alloc2_get w (savO ry) (savO rx)
    refine (same_at hd hx hw g2 g1 (by omega) (by omega) ((s1.below g4).more (by omega)) ((s2.below g4).more (by omega)) ((s3.below g4).more (by omega)) ((s4.below g4).more (by omega))).mono ?_
    rintro e w' ⟨rfl, hb⟩
    exact ⟨rfl, g4.trans (hb.mono (by omega))⟩

set_option maxRecDepth 100000 in
set_option maxHeartbeats 4000000 in
theorem law_FnSoftFiles (w : World) (A1 : Option Addr) (n1 cap1 : Nat) (c : List Int) (A2 : Option Addr) (n2 cap2 : Nat) (m : List Int) (hl1 : c.length = n1) (hm1 : n1 ≤ maxLen) (hb1 : ∀ x ∈ c, 0 ≤ x ∧ x ≤ 255) (hx1 : Sl w w.heap.size A1 (c.map (Value.int .u8)))
    (hl2 : m.length = n2) (hm2 : n2 ≤ maxLen) (hb2 : ∀ x ∈ m, 0 ≤ x ∧ x ≤ 255) (hx2 : Sl w w.heap.size A2 (m.map (Value.int .u8))) :
    Calls Try.prog 8 #[.slice A1 n1 cap1, .slice A2 n2 cap2] w fun e w' => e = .returned (.bool true) ∧ Below w.heap.size w w' := by
  by_cases hlong : 1048576 < n1 ∨ 1048576 < n2
  · go_enter Try.func8, Try.ntmps8
    go_wp2_with (go_at_call 29; refine (b10Long_c _ _ _ _ _ _ _ true (by simp; omega) hm1 hm2).mono ?_; rintro e w' ⟨rfl, rfl⟩)
    go_ret
    exact ⟨rfl, Below.refl _ _⟩
  have hn1 : n1 ≤ 1048576 := by omega
  have hn2 : n2 ≤ 1048576 := by omega
  have hfl : false = (decide (1048576 < n1) || decide (1048576 < n2)) := by rw [decide_eq_false (by omega), decide_eq_false (by omega)]; rfl
  have HFL := Lib.hid hfl
  clear hfl hlong
  have hat2 := fun (W : World) (hb : Below w.heap.size w W) (i q : Int) (g0 : 0 ≤ i) (g1 : i ≤ 1048576) (g2 : 1 ≤ q) (g3 : q ≤ 1048576) => b10At_c W w.heap.size A2 n2 cap2 m hl2 hb2 (hx2.below hb) i q g0 g1 g2 g3
  have HA2 := Lib.hid hat2
  have HKP := Lib.hid (B10Kept_c w A1 n1 cap1 c hl1 hn1 hb1 hx1)
  clear hat2 hx1 hx2 hb1 hb2
  go_enter Try.func8, Try.ntmps8
  go_wp2_with (first
    | (go_at_call 29; refine (b10Long_c _ _ _ _ _ _ _ false HFL.out hm1 hm2).mono ?_; rintro e w' ⟨rfl, rfl⟩)
    | (go_at_call 30; refine HKP.out.mono ?_; rintro e w1 ⟨v, ys, rfl, hy4, hgd, hown, hrow, hb1⟩; obtain ⟨A, cap, rfl⟩ := own3_opn hrow))
  obtain ⟨L, hL⟩ : ∃ L, ys.length = L := ⟨_, rfl⟩
  rw [hL] at hrow hy4 ⊢
  obtain ⟨ds, hds⟩ : ∃ ds, sdat ys = ds := ⟨_, rfl⟩
  have hdl : ds.length = L := by rw [← hds, ← hL]; simp [sdat]
  have hgg : ∀ d ∈ ds, Gd d := by
    rw [← hds]
    intro d hd
    obtain ⟨y, hy, rfl⟩ := List.mem_map.1 hd
    exact hgd y hy
  have HGG := Lib.hid hgg
  have HDS := Lib.hid hds
  have HDL := Lib.hid hdl
  have HL := Lib.hid hL
  have HK := Lib.hid (show Kept w1 (w.heap.size + 1) A L cap ys from ⟨hown, hrow⟩)
  have HB1 := Lib.hid hb1
  have hz1 := hb1.size
  clear hgd hown hrow hb1 hgg hds hdl hL HKP
  have ho0 : Ow (w1.alloc (.cells #[.int .i64 0] 3)) w1.heap.size 3 (.slice (some ⟨w1.heap.size, 0, none⟩) 1 1) ((endsL ds 0).map (Value.int .i64)) := World.ownsRow_lit (e := 3) (size := 1) w1 #[.int .i64 0] 1 (Nat.le_refl _) (by decide) rfl
  have HO0 := Lib.hid ho0
  clear ho0
  go_wp2_with fail
  go_loopw [6, 36] (fun v i wr => ∃ k : Nat, k ≤ L ∧ i = .int .i64 k ∧ Hid (Ow wr w1.heap.size 3 v ((endsL ds k).map (Value.int .i64))) ∧ Below w1.heap.size w1 wr) (fun _ i _ => L - (intOf i).toNat)
  case atStart => exact ⟨0, Nat.zero_le _, rfl, HO0, (Below.refl _ _).alloc (Nat.le_refl _) _⟩
  case round =>
    clear HO0
    obtain ⟨k, hk, rfl, HO, hb⟩ := hrel
    have hzr := hb.size
    obtain ⟨EA, ec, rfl, hpe⟩ := HO.out.opn
    rw [endsL_len] at hpe ⊢
    have HPE := Lib.hid hpe
    clear hpe HO
    by_cases hlt : k < L
    · have hKr := HK.out.below hb (Nat.le_refl _)
      have hky : k < ys.length := by rw [HL.out]; exact hlt
      have hsl := hKr.sl
      obtain ⟨b, off, rfl, hbb, c0, c1, c2⟩ := hsl.get k hky
      obtain ⟨s1, s2⟩ := hsl.2 (ys[k]'hky) (List.getElem_mem _)
      have hrow1 := rowA_of (hKr.own _ (List.getElem_mem hky)).1
      have hdk : ds[k]'(by rw [HDL.out]; exact hlt) = sd1 (ys[k]'hky) := by
        have h := HDS.out
        subst h
        simp [sdat]
      have hgk := HGG.out _ (List.getElem_mem (l := ds) (n := k) (by rw [HDL.out]; exact hlt))
      have hen := endN_succ (ds := ds) (k := k) (by rw [HDL.out]; exact hlt)
      rw [hdk] at hgk hen
      generalize ys[k]'hky = r at c0 c1 c2 s1 s2 hrow1 hgk hen
      obtain ⟨nm, B1, q1, bs, B2, q2, xs⟩ := r
      simp only [sd1] at c0 c1 c2 s1 s2 hrow1 hgk hen
      obtain ⟨hv, hw32⟩ := hgk
      obtain ⟨_, ⟨p1, _⟩, p2, p3, _⟩ := vld_parts hv
      have hst : storeR nm bs xs = stS (nm, bs, xs) := by unfold storeR; rw [show validSavedB nm bs xs = true from hv]; rfl
      have hzz := stS_size hv
      obtain ⟨ld1, ld2⟩ := load_st (d := (nm, bs, xs)) ⟨hv, hw32⟩
      have hvb : validSavedB nm bs xs = true := hv
      have HSS := Lib.hid (fun (W : World) (hW : Below wr.heap.size wr W) => impl_StoreSaved_c W nm (by omega) B1 bs.length q1 bs rfl (by omega) ((s1.below hW).more hW.size) hrow1 B2 xs.length q2 xs rfl (by omega) ((s2.below hW).more hW.size) hw32)
      have HVS := Lib.hid (fun (W : World) (hW : Below wr.heap.size wr W) => impl_ValidSaved_c W nm (by omega) B1 bs.length q1 bs rfl (by omega) ((s1.below hW).more hW.size) B2 xs.length q2 xs rfl (by omega) ((s2.below hW).more hW.size))
      rw [hst, hvb] at HSS
      rw [hvb] at HVS
      obtain ⟨S, hS⟩ : ∃ S, stS (nm, bs, xs) = S := ⟨_, rfl⟩
      rw [hS] at HSS ld1 ld2 hen hzz
      have HLD := Lib.hid (fun W => impl_LoadSaved_c W S (by omega))
      unfold LdPost at HLD
      rw [ld1, ld2] at HLD
      have HEN := Lib.hid hen
      have HS1 := Lib.hid s1
      have HS2 := Lib.hid s2
      have HV := Lib.hid hv
      have HW := Lib.hid hw32
      clear hen s1 s2 hst hvb ld1 ld2 hv hw32 hS hrow1 hsl hdk hKr
      simp only at HLD
      go_wp2_with fail
      refine (HSS.out wr (Below.refl _ _)).mono ?_
      rintro e w2 ⟨rfl, hb2⟩
      have hz2 := hb2.size
      go_wp2_with fail
      refine (HLD.out w2).mono ?_
      rintro e w3 ⟨v1, v2, rfl, ho1, ho2, hb3⟩
      obtain ⟨T1, k1, rfl, hp1⟩ := ho1.opn
      obtain ⟨T2, k2, rfl, hp2⟩ := ho2.opn
      clear ho1 ho2
      have hz3 := hb3.size
      have hb23 := hb2.trans (hb3.mono hz2)
      have d0 := (hb23.cell (p := ⟨b, off + k * 3, none⟩) (by simp only []; omega)).trans c0
      have d1 := (hb23.cell (p := ⟨b, off + k * 3 + 1, none⟩) (by simp only []; omega)).trans c1
      have d2 := (hb23.cell (p := ⟨b, off + k * 3 + 2, none⟩) (by simp only []; omega)).trans c2
      clear c0 c1 c2
      go_wp2_with fail
      obtain ⟨w4, e4⟩ : ∃ q : World, q = w3.alloc (.cells #[.string nm, .slice T1 bs.length k1, .slice T2 xs.length k2] 35) := ⟨_, rfl⟩
      have hb4 : Below w3.heap.size w3 w4 := by rw [e4]; exact (Below.refl _ _).alloc (Nat.le_refl _) _
      have hz4 : w4.heap.size = w3.heap.size + 1 := by rw [e4]; simp
      have hO4 : Obj w4 w3.heap.size 35 #[.string nm, .slice T1 bs.length k1, .slice T2 xs.length k2] := by rw [e4]; exact Obj.new _ _ _
      rw [← e4]
      clear e4
      have hb24 := hb23.trans (hb4.mono (by omega))
      have f0 := (hb4.cell (p := ⟨b, off + k * 3, none⟩) (by simp only []; omega)).trans d0
      have f1 := (hb4.cell (p := ⟨b, off + k * 3 + 1, none⟩) (by simp only []; omega)).trans d1
      have f2 := (hb4.cell (p := ⟨b, off + k * 3 + 2, none⟩) (by simp only []; omega)).trans d2
      obtain ⟨g0, g1, g2, _⟩ := obj3 hO4
      have HP1 := Lib.hid (sl_of_own (own_below hp1 hb4 (Nat.le_refl _)))
      have HP2 := Lib.hid (sl_of_own (own_below hp2 hb4 (Nat.le_refl _)))
      have hQ : w3.heap.size < w4.heap.size := by omega
      have hbk : b < w4.heap.size := by omega
      clear d0 d1 d2 hp1 hp2 hO4
      have hsm : ∀ W, Below w4.heap.size w4 W → _ := fun W (hW : Below w4.heap.size w4 W) => same_two W ⟨nm, T1, k1, bs, T2, k2, xs⟩ ⟨nm, B1, q1, bs, B2, q2, xs⟩ rfl ⟨by simp only []; omega, by simp only []; omega, by simp only []; omega⟩ HW.out ((HP1.out.below hW).more hW.size) ((HP2.out.below hW).more hW.size) (((HS1.out.below hb24).below (hW.mono hb24.size)).more (by have := hb24.size; have := hW.size; omega)) (((HS2.out.below hb24).below (hW.mono hb24.size)).more (by have := hb24.size; have := hW.size; omega))
      have HSM := Lib.hid hsm
      have hcells : ∀ W, Below w4.heap.size w4 W → W.cell? ⟨b, off + k * 3, none⟩ = some (.string nm) ∧ W.cell? ⟨b, off + k * 3 + 1, none⟩ = some (.slice B1 bs.length q1) ∧ W.cell? ⟨b, off + k * 3 + 2, none⟩ = some (.slice B2 xs.length q2) ∧ W.cell? ⟨w3.heap.size, 0, none⟩ = some (.string nm) ∧ W.cell? ⟨w3.heap.size, 1, none⟩ = some (.slice T1 bs.length k1) ∧ W.cell? ⟨w3.heap.size, 2, none⟩ = some (.slice T2 xs.length k2) := fun W hW =>
        ⟨(hW.cell (p := ⟨b, off + k * 3, none⟩) hbk).trans f0, (hW.cell (p := ⟨b, off + k * 3 + 1, none⟩) hbk).trans f1, (hW.cell (p := ⟨b, off + k * 3 + 2, none⟩) hbk).trans f2, (hW.cell (p := ⟨w3.heap.size, 0, none⟩) hQ).trans g0, (hW.cell (p := ⟨w3.heap.size, 1, none⟩) hQ).trans g1, (hW.cell (p := ⟨w3.heap.size, 2, none⟩) hQ).trans g2⟩
      have HCELL := Lib.hid hcells
      clear hsm hcells
      go_region_held3 (fun w' => w'.cell? ⟨b, off + k * 3, none⟩ = some (.string nm) ∧ w'.cell? ⟨b, off + k * 3 + 1, none⟩ = some (.slice B1 bs.length q1) ∧ w'.cell? ⟨b, off + k * 3 + 2, none⟩ = some (.slice B2 xs.length q2) ∧ w'.cell? ⟨w3.heap.size, 0, none⟩ = some (.string nm) ∧ w'.cell? ⟨w3.heap.size, 1, none⟩ = some (.slice T1 bs.length k1) ∧ w'.cell? ⟨w3.heap.size, 2, none⟩ = some (.slice T2 xs.length k2))
        (first | exact HCELL.out _ hb6 | exact HCELL.out _ hb5 | exact ⟨f0, f1, f2, g0, g1, g2⟩ | exact HCELL.out _ (hb5.alloc hz5 _) | exact HCELL.out _ ((hb5.alloc hz5 _).alloc (by simp; omega) _))
        (first
          | (go_at_call 12; refine (HSM.out _ hb5).1.mono ?_; rintro e w6 ⟨rfl, hb6⟩; have hb6 := hb5.trans (hb6.mono hz5))
          | (go_at_call 12; refine (HSM.out _ hb5).2.mono ?_; rintro e w6 ⟨rfl, hb6⟩; have hb6 := hb5.trans (hb6.mono hz5))
          | (go_at_call 31; refine (HVS.out w4.drew (below_drewN hb24 1)).mono ?_; rintro e w5 ⟨rfl, hb5⟩; have hb5 := below_undrew hb5; have hz5 := hb5.size))
      all_goals
        have hz6 := hb6.size
        have hbA : Below wr.heap.size wr w6 := hb24.trans (hb6.mono hb24.size)
        have hpe6 := own_below HPE.out hbA (Nat.le_refl _)
        obtain ⟨eb, eo, hEA, hebb, hec⟩ := (sl_of_own hpe6).get k (by rw [endsL_len]; omega)
        subst hEA
        have hek : (endsL ds k)[k]'(by rw [endsL_len]; omega) = (endN ds k : Int) := (List.getElem?_eq_some_iff.1 (endsL_get ds (Nat.le_refl k))).2
        rw [hek] at hec
        have hen2 := endN_le HGG.out k
        rw [HDL.out] at hen2
        have hln : ((endsL ds k).map (Value.int .i64)).length + 1 ≤ 1099511627776 := by rw [List.length_map, endsL_len]; omega
        have how6 : Ow w6 w1.heap.size 3 (.slice (some ⟨eb, eo, none⟩) (k + 1) ec) ((endsL ds k).map (Value.int .i64)) := by unfold Ow; rw [List.length_map, endsL_len]; exact hpe6
        have HOW := Lib.hid how6
        have HBA := Lib.hid hbA
        obtain ⟨e, he⟩ : ∃ e, endN ds k = e := ⟨_, rfl⟩
        rw [he] at hec hen2
        have HEE := Lib.hid he
        clear hpe6 hek he how6 hbA hb6 hb24 hb23 hb4 hb3 hb2 f0 f1 f2 g0 g1 g2 hQ hbk HCELL HSM HP1 HP2 HSS HVS HLD hz2 hz3 hz4 hz6
        go_wp2_with (at_builtin; go_must (refine app1 Try.underlying51 infoInt rfl (by decide) rfl _ _ rfl _ _ _ rfl (World.ownsRow.alloc HOW.out _) _ _ _ rfl (cell_new1 _ _ _) rfl hln (by have := HBA.out.size; simp; omega) ?_); intro v' w7 ho7 hb7)
        go_roundw
        case rel =>
          refine ⟨k + 1, by omega, by go_num, Lib.hid ?_, ((hb.trans (HBA.out.mono hzr)).alloc (by have := HBA.out.size; omega) _).trans hb7⟩
          rw [endsL_succ, List.map_append, HEN.out, HEE.out]
          simpa using ho7
        case measure => simp [intOf]; omega
    · obtain rfl : k = L := by omega
      have hKr := HK.out.below hb (Nat.le_refl _)
      have hvl : ∀ d ∈ ds, vld d = true := fun d hd => (HGG.out d hd).1
      obtain ⟨fw1, fw2⟩ := vld_few HDS.out hvl
      have hwf : ∀ r ∈ ys, ∀ x ∈ r.xs, x < 4294967296 := fun r hr => (HGG.out (sd1 r) (by rw [← HDS.out]; exact List.mem_map_of_mem hr)).2
      have hd8 : ds.length ≤ 8 := by rw [HDL.out]; omega
      obtain ⟨ag1, ag2⟩ := all_good hvl hd8
      have hra := rec_all HGG.out hd8
      have hez : endN ds k = (catS ds).size := by rw [← HDL.out]; exact endN_all
      have hzs : (catS ds).size ≤ 2800 := by rw [← hez]; have := endN_le HGG.out k; rw [HDL.out] at this; omega
      obtain ⟨ALL, hALL⟩ : ∃ S, catS ds = S := ⟨_, rfl⟩
      rw [hALL] at ag2 hra hez hzs
      have hst := impl_StoreAll_c wr A k cap ys HL.out (by omega) fw2 hwf (fun y hy => rowA_of (hKr.own y hy).1) hKr.sl
      rw [HDS.out, ag1, ag2] at hst
      have HST := Lib.hid hst
      have HFW := Lib.hid fw2
      have HWF := Lib.hid hwf
      have HRA := Lib.hid hra
      have HALL := Lib.hid hALL
      have HEZ := Lib.hid hez
      have HBR := Lib.hid hb
      have HSAME := Lib.hid (same_self ds)
      obtain ⟨ws, hws⟩ : ∃ ws : World, ws = wr := ⟨_, rfl⟩
      rw [← hws] at HST HBR hzr HPE
      rw [← hws]
      clear hws hKr hst fw1 fw2 hwf hvl ag1 ag2 hra hALL hez hlt hb hk
      go_wp2_with fail
      refine HST.out.mono ?_
      rintro e w2 ⟨rfl, hb2⟩
      have hz2 := hb2.size
      go_wp2_with fail
      refine (impl_RecoverAll_c w2 ALL (by omega)).mono ?_
      rintro e w3 ⟨v3, y3, rfl, hd3, hi3, _, ho3, hb3⟩
      rw [HRA.out] at hd3
      rw [HRA.out]
      simp only [] at hd3
      have hl3 : y3.length = k := by rw [← HDL.out, ← hd3]; simp [sdat]
      rw [hl3] at ho3
      obtain ⟨A3, k3, rfl⟩ := own3_opn ho3
      have hb23 := HBR.out.trans ((hb2.trans (hb3.mono hz2)).mono hzr)
      have hK3 := HK.out.below hb23 (Nat.le_refl _)
      have hz3 := hb3.size
      have hpe3 := own_below HPE.out (hb2.trans (hb3.mono hz2)) (Nat.le_refl _)
      obtain ⟨eb, eo, hEA, hebb, hec⟩ := (sl_of_own hpe3).get k (by rw [endsL_len]; omega)
      subst hEA
      have hek : (endsL ds k)[k]'(by rw [endsL_len]; omega) = (endN ds k : Int) := (List.getElem?_eq_some_iff.1 (endsL_get ds (Nat.le_refl k))).2
      rw [hek, HEZ.out] at hec
      have hwf3 : ∀ r ∈ y3, ∀ x ∈ r.xs, x < 4294967296 := fun r hr => (HGG.out (sd1 r) (by rw [← hd3]; exact List.mem_map_of_mem hr)).2
      have hsm := impl_SameSaved_c w3 A3 A k k3 k cap y3 ys hl3 HL.out (by omega) (by omega) (vld_few hd3 (fun d hd => (HGG.out d hd).1)).2 HFW.out hwf3 HWF.out (slS_of_own ho3 hi3) hK3.sl
      rw [hd3, HDS.out, HSAME.out] at hsm
      have HSM := Lib.hid hsm
      have HB3 := Lib.hid hb23
      have HPE3 := Lib.hid hpe3
      clear hsm hd3 hi3 ho3 hl3 hK3 hpe3 hek hwf3 hb23 hb3 hb2 HPE HBR HST HRA
      have hqn : ∀ a : Int, (a == a) = true := fun a => by simp
      go_wp2_with fail
      refine HSM.out.mono ?_
      rintro e w4 ⟨rfl, hb4⟩
      have hz4 := hb4.size
      have HB4 := Lib.hid (HB3.out.trans (hb4.mono (by have := HB3.out.size; omega)))
      have HPE4 := Lib.hid (own_below HPE3.out hb4 (Nat.le_refl _))
      clear HSM hec hb4 HB3 HPE3
      by_cases hz0 : ALL.size = 0
      · have hb0 : ((ALL.size : Int) == 0) = true := by rw [hz0]; rfl
        go_wp2
        go_ret
        exact ⟨rfl, HB1.out.trans (HB4.out.mono hz1)⟩
      have hb0 : ((ALL.size : Int) == 0) = false := by rw [beq_eq_false_iff_ne]; omega
      have hBw4 : Below w.heap.size w w4 := HB1.out.trans (HB4.out.mono hz1)
      have HBW4 := Lib.hid hBw4
      obtain ⟨a0, ha0⟩ : ∃ a, atB m 0 256 = a := ⟨_, rfl⟩
      obtain ⟨a1, ha1⟩ : ∃ a, atB m 1 256 = a := ⟨_, rfl⟩
      have hb0' := atB_bd m 0 256 (by decide)
      have hb1' := atB_bd m 1 256 (by decide)
      rw [ha0] at hb0'
      rw [ha1] at hb1'
      obtain ⟨q0, rfl⟩ : ∃ q : Nat, a0 = (q : Int) := ⟨a0.toNat, by omega⟩
      obtain ⟨q1, rfl⟩ : ∃ q : Nat, a1 = (q : Int) := ⟨a1.toNat, by omega⟩
      obtain ⟨Z, hZ⟩ : ∃ Z, ALL.size = Z := ⟨_, rfl⟩
      have hmod : ∃ C : Nat, (256 * (q0 : Int) + q1) % (Z : Int) = (C : Int) ∧ C < Z := ⟨(256 * q0 + q1) % Z, by have := Int.natCast_emod (256 * q0 + q1) Z; push_cast at this; exact this.symm, Nat.mod_lt _ (by omega)⟩
      obtain ⟨C, hC, hCZ⟩ := hmod
      have hCt : (256 * (q0 : Int) + q1).tmod (Z : Int) = (C : Int) := by rw [Int.tmod_eq_emod_of_nonneg (by omega)]; exact hC
      have H0 := Lib.hid (HA2.out w4 hBw4 0 256 (by decide) (by decide) (by decide) (by decide))
      have H1 := Lib.hid (HA2.out w4 hBw4 1 256 (by decide) (by decide) (by decide) (by decide))
      rw [ha0] at H0
      rw [ha1] at H1
      have HZ := Lib.hid hZ
      clear hBw4 ha0 ha1
      go_wp2_with fail
      rw [HZ.out] at hz0 hb0 hzs
      refine H0.out.mono ?_
      rintro e w' ⟨rfl, rfl⟩
      go_wp2_with fail
      refine H1.out.mono ?_
      rintro e w' ⟨rfl, rfl⟩
      go_wp2_with fail
      clear H0 H1 hC hCt hb0' hb1' HSAME
      go_loop [18] (fun i => ∃ j : Nat, j ≤ k ∧ i = .int .i64 j ∧ Hid (endN ds j ≤ C)) (fun i => k - (intOf i).toNat)
      case atStart => exact ⟨0, Nat.zero_le _, rfl, Lib.hid (Nat.zero_le _)⟩
      case round =>
        obtain ⟨j, hjk, rfl, HJ⟩ := hrel
        have hex : (j < k ∧ endN ds (j + 1) ≤ C) ∨ (j < k ∧ C < endN ds (j + 1)) ∨ j = k := by omega
        have hpe := HPE4.out
        rcases hex with ⟨h1, h2⟩ | h3
        · obtain ⟨eb', eo', hEE, _, hec⟩ := (sl_of_own hpe).get (j + 1) (by rw [endsL_len]; omega)
          injection hEE with hEE
          injection hEE with hE1 hE2
          subst hE1 hE2
          have hek : (endsL ds k)[j + 1]'(by rw [endsL_len]; omega) = (endN ds (j + 1) : Int) := (List.getElem?_eq_some_iff.1 (endsL_get ds (by omega))).2
          rw [hek] at hec
          have HJ2 := Lib.hid h2
          obtain ⟨e1, he1⟩ : ∃ e1, endN ds (j + 1) = e1 := ⟨_, rfl⟩
          rw [he1] at hec h2
          clear hek hpe he1
          go_wp2
          go_round
          case rel => exact ⟨j + 1, by omega, by go_num, HJ2⟩
          case measure => simp [intOf]; omega
        · have hk2 : j < k → C < endN ds (j + 1) := fun h => by rcases h3 with h3 | h3 <;> omega
          have hcut := cut_rec HGG.out (by rw [HDL.out]; omega) (k := j) (c := C) (by rw [HDL.out]; exact hjk) HJ.out (fun h => hk2 (by rw [← HDL.out]; exact h)) (by rw [HALL.out, HZ.out]; exact hCZ)
          have hbent := bent_rec HGG.out (by rw [HDL.out]; omega) (k := j) (c := C) (by rw [HDL.out]; exact hjk) HJ.out
          rw [HALL.out] at hcut hbent
          have HCUT := Lib.hid hcut
          have HBENT := Lib.hid hbent
          clear hcut hbent hk2
          rcases h3 with ⟨h1, h2⟩ | h3
          case' inl =>
            obtain ⟨eb', eo', hEE, _, hec⟩ := (sl_of_own hpe).get (j + 1) (by rw [endsL_len]; omega)
            injection hEE with hEE
            injection hEE with hE1 hE2
            subst hE1 hE2
            have hek : (endsL ds k)[j + 1]'(by rw [endsL_len]; omega) = (endN ds (j + 1) : Int) := (List.getElem?_eq_some_iff.1 (endsL_get ds (by omega))).2
            rw [hek] at hec
            obtain ⟨e1, he1⟩ : ∃ e1, endN ds (j + 1) = e1 := ⟨_, rfl⟩
            rw [he1] at hec h2
            clear hek hpe he1
            go_wp2_with fail
            clear hec h2 h1
          case' inr =>
            have hjn : ¬ j < k := by omega
            clear hpe h3
            go_wp2_with fail
            clear hjn
          all_goals
            refine (impl_RecoverAll_c w4 (ALL.extract 0 C) (by simp [ByteArray.size_extract]; omega)).mono ?_
            rintro e w5 ⟨v5, y5, rfl, hd5, _, _, ho5, hb5⟩
            rw [HCUT.out] at hd5
            rw [HCUT.out]
            simp only [] at hd5
            have hl5 : y5.length = j := by
              have h := congrArg List.length hd5
              rw [List.length_take, HDL.out] at h
              simp only [sdat, List.length_map] at h
              omega
            rw [hl5] at ho5
            obtain ⟨A5, k5, rfl⟩ := own3_opn ho5
            have hz5 := hb5.size
            have hpe5 := own_below HPE4.out hb5 (Nat.le_refl _)
            obtain ⟨eb', eo', hEE, _, hec⟩ := (sl_of_own hpe5).get j (by rw [endsL_len]; omega)
            injection hEE with hEE
            injection hEE with hE1 hE2
            subst hE1 hE2
            have hek : (endsL ds k)[j]'(by rw [endsL_len]; omega) = (endN ds j : Int) := (List.getElem?_eq_some_iff.1 (endsL_get ds hjk)).2
            rw [hek] at hec
            obtain ⟨e1, he1⟩ : ∃ e1, endN ds j = e1 := ⟨_, rfl⟩
            rw [he1] at hec ⊢
            have hcv := Lib.run_convert_string_bytes (P := Try.prog) w5 9 48 5 ALL Try.underlying9 Try.underlying48 Try.underlying5
            obtain ⟨cp, hcp⟩ : ∃ cp, grownCap w5 ALL.size 0 5 = cp := ⟨_, rfl⟩
            have hcpz : ALL.size ≤ cp := by rw [← hcp]; exact grownCap_ge _ _ _ _
            rw [hcp] at hcv
            have HBW5 := Lib.hid (HBW4.out.trans (hb5.mono HBW4.out.size))
            clear hek hpe5 he1 hd5 ho5 hcp hl5
            go_wp2_with fail
            obtain ⟨wb, ewb⟩ : ∃ q : World, q = Lib.bytesWorld w5 5 ALL := ⟨_, rfl⟩
            rw [← ewb]
            have hzb : wb.heap.size = w5.heap.size + 1 := by rw [ewb]; exact Lib.bytesWorld_size _ _ _
            have hbb : Below w5.heap.size w5 wb := by rw [ewb]; exact bytes_below _ _ _
            have hcb : ∀ i, i < ALL.size → wb.cell? ⟨w5.heap.size, i, none⟩ = some (.int .u8 ((nameL ALL).getD i 0)) := fun i hi => by rw [ewb]; exact bytes_cell _ _ _ i hi
            have hfb : ∀ i, i < ALL.size → wb.frozen? ⟨w5.heap.size, i, none⟩ = false := fun i hi => by rw [ewb]; exact bytes_frozen _ _ _ i hi
            have hx0 : ∃ x0 : Nat, (nameL ALL).getD C 0 = (x0 : Int) ∧ x0 < 256 := nameL_at ALL C
            obtain ⟨x0, hx0, hx0b⟩ := hx0
            have hcC := hcb C (by rw [HZ.out]; exact hCZ)
            have hfC := hfb C (by rw [HZ.out]; exact hCZ)
            rw [hx0] at hcC
            have HCB := Lib.hid hcb
            have HBWB := Lib.hid (HBW5.out.trans (hbb.mono HBW5.out.size))
            have hb2' := atB_bd m 2 255 (by decide)
            obtain ⟨q2', hq2'⟩ : ∃ a, atB m 2 255 = a := ⟨_, rfl⟩
            rw [hq2'] at hb2'
            obtain ⟨q2, rfl⟩ : ∃ q : Nat, q2' = (q : Int) := ⟨q2'.toNat, by omega⟩
            have h2c := HA2.out (World.drew wb) (below_drewN HBWB.out 1) 2 255 (by decide) (by decide) (by decide) (by decide)
            rw [hq2'] at h2c
            have H2 := Lib.hid h2c
            have hw1 : IntKind.i64.wrap (1 + (q2 : Int)) = 1 + (q2 : Int) := IntWalk.i64_in _ (by omega)
            have HBB := Lib.hid hbb
            have hCp : (0 : Int) ≤ (C : Int) := by omega
            have hCZi : (C : Int) < (Z : Int) := by omega
            have hCcp : C < cp := by rw [HZ.out] at hcpz; omega
            clear ewb hcb hfb h2c hq2' hbb hcv hec
            refine wp_region_any (by kernel_rfl) ?_
            change wpAny _ _ _ _ _ _ _ (World.drew _)
            refine wpAny_take (i := 0) (v := .slice (some ⟨w5.heap.size, 0, none⟩) Z cp) rfl (by kernel_rfl) (by kernel_rfl) (by kernel_rfl) (fun _ _ _ h => h) (Or.inl ⟨by rfl, fun w' => by go_simp⟩) ?_
            refine wpAny_take (i := 1) (v := .int .i64 (C : Int)) rfl (by kernel_rfl) (by kernel_rfl) (by kernel_rfl) (fun _ _ _ h => h) (Or.inl ⟨by rfl, fun w' => by go_simp⟩) ?_
            refine wpAny_take (i := 2) (v := .pointer (some ⟨w5.heap.size, C, none⟩)) rfl (by kernel_rfl) (by kernel_rfl) (by kernel_rfl) (fun _ _ _ h => h) (Or.inl ⟨by rfl, fun w' => by go_simp⟩) ?_
            refine wpAny_take (i := 4) (v := .slice A2 n2 cap2) rfl (by kernel_rfl) (by kernel_rfl) (by kernel_rfl) (fun _ _ _ h => h) (Or.inl ⟨by rfl, fun w' => by go_simp⟩) ?_
            refine wpAny_ready (rs := [3, 5]) (by kernel_rfl) (by simp) ?_
            refine AllReady.cons rfl (fun K hK => ?_) ?_
            go_simp
            refine hK _ _ ?_
            clear hK K
            refine wpAny_ready (rs := [5]) (by kernel_rfl) (by simp) ?_
            refine AllReady.cons rfl (fun K hK => ?_) AllReady.nil
            go_simp
            refine H2.out.mono ?_
            rintro e w' ⟨rfl, rfl⟩
            refine hK _ _ ?_
            clear hK K
            refine wpAny_take (i := 6) (v := .int .i64 (1 + (q2 : Int))) rfl (by kernel_rfl) (by kernel_rfl) (by kernel_rfl) (fun _ _ _ h => h) (Or.inl ⟨by rfl, fun w' => by go_simp⟩) ?_
            refine wpAny_take (i := 7) (v := .int .u8 (IntKind.u8.wrap (1 + (q2 : Int)))) rfl (by kernel_rfl) (by kernel_rfl) (by kernel_rfl) (fun _ _ _ h => h) (Or.inl ⟨by rfl, fun w' => by go_simp⟩) ?_
            refine wpAny_take (i := 8) (v := .int .u8 (IntKind.u8.wrap ((x0 : Int) + IntKind.u8.wrap (1 + (q2 : Int))))) rfl (by kernel_rfl) (by kernel_rfl) (by kernel_rfl) (fun _ _ _ h => h) (Or.inl ⟨by rfl, fun w' => by go_simp⟩) ?_
            refine wpAny_take (i := 9) (v := .pointer (some ⟨w5.heap.size, C, none⟩)) rfl (by kernel_rfl) (by kernel_rfl) (by kernel_rfl) (fun _ _ _ h => h) (Or.inl ⟨by rfl, fun w' => by go_simp⟩) ?_
            refine wpAny_ready (rs := [10]) (by kernel_rfl) (by simp) ?_
            refine AllReady.cons rfl (fun K hK => ?_) AllReady.nil
            go_simp
            refine hK _ _ ?_
            clear hK K
            refine wpAny_done (by kernel_rfl) ?_ _
            rotate_left
            refine AllReady.cons rfl (fun K hK => ?_) AllReady.nil
            go_simp
            refine H2.out.mono ?_
            rintro e w' ⟨rfl, rfl⟩
            refine hK _ _ ?_
            clear hK K
            refine wpAny_take (i := 6) (v := .int .i64 (1 + (q2 : Int))) rfl (by kernel_rfl) (by kernel_rfl) (by kernel_rfl) (fun _ _ _ h => h) (Or.inl ⟨by rfl, fun w' => by go_simp⟩) ?_
            refine wpAny_take (i := 7) (v := .int .u8 (IntKind.u8.wrap (1 + (q2 : Int)))) rfl (by kernel_rfl) (by kernel_rfl) (by kernel_rfl) (fun _ _ _ h => h) (Or.inl ⟨by rfl, fun w' => by go_simp⟩) ?_
            refine wpAny_ready (rs := [3]) (by kernel_rfl) (by simp) ?_
            refine AllReady.cons rfl (fun K hK => ?_) AllReady.nil
            go_simp
            refine hK _ _ ?_
            clear hK K
            refine wpAny_take (i := 8) (v := .int .u8 (IntKind.u8.wrap ((x0 : Int) + IntKind.u8.wrap (1 + (q2 : Int))))) rfl (by kernel_rfl) (by kernel_rfl) (by kernel_rfl) (fun _ _ _ h => h) (Or.inl ⟨by rfl, fun w' => by go_simp⟩) ?_
            refine wpAny_take (i := 9) (v := .pointer (some ⟨w5.heap.size, C, none⟩)) rfl (by kernel_rfl) (by kernel_rfl) (by kernel_rfl) (fun _ _ _ h => h) (Or.inl ⟨by rfl, fun w' => by go_simp⟩) ?_
            refine wpAny_ready (rs := [10]) (by kernel_rfl) (by simp) ?_
            refine AllReady.cons rfl (fun K hK => ?_) AllReady.nil
            go_simp
            refine hK _ _ ?_
            clear hK K
            refine wpAny_done (by kernel_rfl) ?_ _
            all_goals
              obtain ⟨nb, hnb⟩ : ∃ nb, IntKind.u8.wrap ((x0 : Int) + IntKind.u8.wrap (1 + (q2 : Int))) = nb := ⟨_, rfl⟩
              rw [hnb]
              obtain ⟨wc, ewc⟩ : ∃ q : World, q = (wb.setCell ⟨w5.heap.size, C, none⟩ (.int .u8 nb)).drew := ⟨_, rfl⟩
              rw [← ewc]
              have hbc : Below w5.heap.size w5 wc := by rw [ewc]; exact below_drewN (HBB.out.setCell (p := ⟨w5.heap.size, C, none⟩) (Nat.le_refl _) _) 1
              have hl1 : (nameL ALL).length = Z := by rw [nameL_len]; exact HZ.out
              have hcc : ∀ i, i < Z → wc.cell? ⟨w5.heap.size, i, none⟩ = some (.int .u8 (((nameL ALL).set C nb).getD i 0)) := fun i hi => by
                rw [ewc]
                show (wb.setCell _ _).cell? _ = _
                by_cases hic : i = C
                · subst hic
                  rw [World.cell?_setCell_same _ _ _ hcC]
                  simp [List.getD, hl1, hi]
                · rw [World.cell?_setCell_other _ _ _ _ (by intro h; injection h with h1 h2; omega), HCB.out i (by rw [HZ.out]; exact hi)]
                  simp [List.getD, Ne.symm hic]
              obtain ⟨L1, hL1⟩ : ∃ L1, (nameL ALL).set C nb = L1 := ⟨_, rfl⟩
              have hbl := HBENT.out nb
              have hll : L1.length = Z := by rw [← hL1, List.length_set]; exact hl1
              rw [hL1] at hcc hbl
              have HCC := Lib.hid hcc
              have HBC := Lib.hid hbc
              have hzc := hbc.size
              have hcv2 := run_convert_bytes_arg (P := Try.prog) wc 48 5 Try.underlying48 Try.underlying5 w5.heap.size 0 Z cp L1 hll (fun i hi => by rw [Nat.zero_add]; exact hcc i hi) 9 Try.underlying9
              obtain ⟨Bs, hBs⟩ : ∃ Bs, strOfNums L1 = Bs := ⟨_, rfl⟩
              have hBz : Bs.size = Z := by rw [← hBs, strOfNums_size]; exact hll
              rw [hBs] at hcv2 hbl
              have HBS := Lib.hid hBs
              have HBZ := Lib.hid hBz
              have hlt5 : w5.heap.size < wc.heap.size := by have h := hzb; rw [ewc]; show _ < (wb.setCell _ _).heap.size; simp; omega
              clear hcc hbc hL1 hBs hBz hnb ewc hcC hfC hl1 hw1 H2 hx0
              go_wp2_with fail
              refine (impl_RecoverAll_c wc Bs (by rw [HBZ.out]; omega)).mono ?_
              rintro e w6 ⟨v6, y6, rfl, hd6, hi6, _, ho6, hb6⟩
              obtain ⟨A6, k6, rfl⟩ := own3_opn ho6
              have hz6 := hb6.size
              have hrl := recF_len 8 Bs
              have hrv := recF_vld 8 Bs
              have hrw := recF_wf 8 Bs
              have hri := rec_is 8 Bs
              obtain ⟨⟨D6, o6⟩, hR6⟩ : ∃ r, recF 8 Bs = r := ⟨_, rfl⟩
              rw [hR6] at hd6 hrl hrv hrw hri hbl
              rw [hR6]
              simp only [] at hd6 hrl hrv hrw hri hbl
              have hl6 : y6.length = D6.length := by rw [← hd6]; simp [sdat]
              obtain ⟨N6, hN6⟩ : ∃ N6, y6.length = N6 := ⟨_, rfl⟩
              rw [hN6] at ho6 hl6
              rw [← hl6] at hrl hbl
              obtain ⟨ag1, ag2⟩ := all_good hrv (by rw [← hl6]; exact hrl)
              have hst := impl_StoreAll_c w6 A6 N6 k6 y6 hN6 (by omega) (vld_few hd6 hrv).2 (fun r hr => hrw (sd1 r) (by rw [← hd6]; exact List.mem_map_of_mem hr)) (fun y hy => rowA_of (hi6 y hy).1) (slS_of_own ho6 hi6)
              rw [hd6, ag1, ag2] at hst
              have hoz : o6 ≤ Z := by rw [← HBZ.out]; exact hri.2
              have hcat : catS D6 = strOfNums (L1.take o6) := by rw [hri.1, ← HBS.out, nums_take]
              rw [hcat] at hst
              have HST := Lib.hid hst
              have HB6 := Lib.hid hb6
              rw [hN6]
              clear hst hcat hri hrw hrv hd6 hi6 ho6 hb6 ag1 ag2 hR6 hl6 hN6 hcv2
              go_wp2_with fail
              refine HST.out.mono ?_
              rintro e w7 ⟨rfl, hb7⟩
              have hlk : (L1.take o6).length = o6 := by rw [List.length_take]; omega
              have hcv3 := run_convert_bytes_arg (P := Try.prog) w7 48 5 Try.underlying48 Try.underlying5 w5.heap.size 0 o6 cp (L1.take o6) hlk (fun i hi => by
                rw [Nat.zero_add, hb7.cell (p := ⟨w5.heap.size, i, none⟩) (by simp only []; omega), HB6.out.cell (p := ⟨w5.heap.size, i, none⟩) (by simp only []; omega), HCC.out i (by omega)]
                simp [List.getD, hi]) 9 Try.underlying9
              generalize strOfNums (L1.take o6) = X at hcv3
              have hocp : o6 ≤ cp := by rw [HZ.out] at hcpz; omega
              have hd1 : decide ((j : Int) ≤ (N6 : Int)) = true := by simp; omega
              have hd2 : decide ((0 : Int) ≤ (o6 : Int)) = true := by simp
              have hd3 : decide ((o6 : Int) ≤ (Z : Int)) = true := by simp; omega
              have hxx : (X.toList == X.toList) = true := by simp
              have HB7 := Lib.hid hb7
              clear hb7 hlk
              go_wp2
              go_ret
              exact ⟨rfl, (HBW5.out.trans (HBC.out.mono HBW5.out.size)).trans ((HB6.out.trans (HB7.out.mono hz6)).mono (by have := HBW5.out.size; omega))⟩

end Go.Proofs.Ytmkjlhobnlgpjaa
