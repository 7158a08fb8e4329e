/-
  Contracts: all that is saved at the beginning of bytes, of both.
  Conditions: at most 1048576 bytes.
-/
import Derived.Test.YtmkjlhobnlgpjaaTV
import Derived.OwnWalk
namespace Go.Proofs.Ytmkjlhobnlgpjaa
open Go.RowKit

/-- what bytes begin with, f at most, and how many bytes these have -/
def recF : Nat → ByteArray → List SavD × Nat
  | 0, _ => ([], 0)
  | f + 1, s => if beginB s then (parseD s :: (recF f (s.extract (a5 s + 2) s.size)).1, a5 s + 2 + (recF f (s.extract (a5 s + 2) s.size)).2) else ([], 0)
theorem begin_size {s : ByteArray} (h : beginB s = true) : a5 s + 2 ≤ s.size := by
  unfold beginB at h
  rw [Bool.and_eq_true] at h
  exact of_decide_eq_true h.1
def RecAt (s : ByteArray) (k p : Nat) (ds : List SavD) : Prop := k ≤ 8 ∧ p ≤ s.size ∧ recF 8 s = (ds ++ (recF (8 - k) (s.extract p s.size)).1, p + (recF (8 - k) (s.extract p s.size)).2)
theorem extr_all (s : ByteArray) : s.extract 0 s.size = s := by simp
theorem recAt_start (s : ByteArray) : RecAt s 0 0 [] := ⟨by decide, Nat.zero_le _, by rw [extr_all]; simp⟩
theorem tail_size (s : ByteArray) (p : Nat) : (s.extract p s.size).size = s.size - p := by simp [ByteArray.size_extract]
theorem tail_tail {s : ByteArray} {p n : Nat} (hp : p ≤ s.size) : (s.extract p s.size).extract n (s.extract p s.size).size = s.extract (p + n) s.size := by
  rw [tail_size]
  apply ByteArray.ext
  simp only [ByteArray.data_extract, Array.extract_extract]
  congr 1
  omega
theorem recAt_step {s : ByteArray} {k p : Nat} {ds : List SavD} (h : RecAt s k p ds) (hk : k < 8) (hb : beginB (s.extract p s.size) = true) : RecAt s (k + 1) (p + (a5 (s.extract p s.size) + 2)) (ds ++ [parseD (s.extract p s.size)]) := by
  obtain ⟨_, hp, he⟩ := h
  have hz := begin_size hb
  rw [tail_size] at hz
  refine ⟨by omega, by omega, ?_⟩
  rw [he, show 8 - k = (8 - (k + 1)) + 1 by omega]
  simp only [recF, hb, if_true]
  rw [tail_tail hp]
  simp [Nat.add_assoc]
theorem recAt_stop {s : ByteArray} {k p : Nat} {ds : List SavD} (h : RecAt s k p ds) (hs : ¬ k < 8 ∨ beginB (s.extract p s.size) = false) : recF 8 s = (ds, p) := by
  obtain ⟨hk, _, he⟩ := h
  rw [he]
  rcases hs with hs | hs
  · rw [show 8 - k = 0 by omega]
    simp [recF]
  · cases h8 : 8 - k with
    | zero => simp [recF]
    | succ f => simp [recF, hs]
theorem recAt_le {s : ByteArray} {k p : Nat} {ds : List SavD} (h : RecAt s k p ds) : p ≤ s.size := h.2.1

/-- the blocks of one that is saved -/
def blkS (r : SavH) (g : Nat) : Prop := (Value.slice r.A r.bs.length r.c).ownBlock = some g ∨ (Value.slice r.A2 r.xs.length r.c2).ownBlock = some g
def sepS (a b : SavH) : Prop := ∀ g, blkS a g → ¬ blkS b g
theorem OwnS.blk {w : World} {B : Nat} {r : SavH} (h : OwnS w B r) {g : Nat} (hg : blkS r g) : B ≤ g ∧ g < w.heap.size := by
  rcases hg with hg | hg
  · exact h.1.lt g hg
  · exact h.2.lt g hg
theorem sep_snoc {ys : List SavH} {r : SavH} (h : ys.Pairwise sepS) (hr : ∀ y ∈ ys, sepS y r) : (ys ++ [r]).Pairwise sepS := by
  rw [List.pairwise_append]
  exact ⟨h, by simp, fun a ha b hb => by obtain rfl : b = r := by simpa using hb
                                         exact hr a ha⟩

/-- append of one of three cells, just laid -/
theorem app3 {w : World} {ops : Array Oper} {rest : List Oper} {o : Oper} {a : Act} {Q : Exit → Act → World → Prop} (hgd : o.guard = none) (s x : Operand)
    (ho : o.op = .call { callee := .builtin .append, args := #[s, x], argTypes := #[25, 25] }) (base : Nat) (v : Value) (n : Nat) (ys : List SavH) (hs : a.eval s = v) (hown : w.ownsRow base 35 3 v n (savCells ys))
    (g c : Nat) (r : SavH) (hx : a.eval x = .slice (some ⟨g, 0, none⟩) 1 c) (hc : ∀ j u, (savC r)[j]? = some u → w.cell? ⟨g, j, none⟩ = some u)
    (hlen : n ≤ 1048576) (hbase : base ≤ w.heap.size)
    (h : ∀ v' w', w'.ownsRow base 35 3 v' (n + 1) (savCells (ys ++ [r])) → w.grownBy w' v.ownBlock → wpList Try.prog ops Q rest (a.put o.dst v') w') : wpList Try.prog ops Q (o :: rest) a w := by
  obtain ⟨i, hi1, hi2, hi3, hi4⟩ := info_parts infoSaved
  refine wpList_append_own (P := Try.prog) w hgd s x _ ho base 35 i _ 3 64 Try.underlying25 hi1 hi2 hi3 hi4 rfl (by decide) v n (savCells ys) hs hown ⟨g, 0, none⟩ 1 c (savC r) hx rfl ?_ ?_ ?_ ?_ hbase ?_
  · intro j u hu
    have e1 : (⟨g, 0, none⟩ : Addr).add j = ⟨g, j, none⟩ := by unfold Addr.add; split <;> simp_all
    rw [e1]
    exact hc j u hu
  · intro u hu
    simp only [savC, List.mem_cons, List.not_mem_nil, or_false] at hu
    rcases hu with rfl | rfl | rfl <;> rfl
  · unfold maxLen; omega
  · omega
  · intro v' w' h1 h2 _
    rw [← savCells_snoc] at h1
    exact h v' w' h1 h2
def RecPost (w : World) (s : ByteArray) (e : Ending) (w' : World) : Prop := ∃ v ys, e = .returned (.tuple #[v, .int .i64 ((recF 8 s).2 : Nat), .bool true]) ∧ sdat ys = (recF 8 s).1 ∧ (∀ y ∈ ys, OwnS w' (w.heap.size + 1) y) ∧ ys.Pairwise sepS ∧ w'.ownsRow w.heap.size 35 3 v ys.length (savCells ys) ∧ Below w.heap.size w w'

theorem OwnS.grown {w w' : World} {B base n : Nat} {r : SavH} {v : Value} {xs : List Value} (h : OwnS w B r) (ho : w.ownsRow base 35 3 v n xs) (hg : w.grownBy w' v.ownBlock) : OwnS w' B r :=
  ⟨h.1.kept hg (own_types h.1 ho (by decide)), h.2.kept hg (own_types h.2 ho (by decide))⟩
theorem sav_cells {w : World} {g : Nat} {r : SavH} (h : w.heap[g]? = some (.cells #[.string r.s, .slice r.A r.bs.length r.c, .slice r.A2 r.xs.length r.c2] 35 (0, 0))) (j : Nat) (u : Value) (hu : (savC r)[j]? = some u) : w.cell? ⟨g, j, none⟩ = some u := by
  rw [cell_of_row w g j _ _ (0, 0) h]
  simpa [savC] using hu


set_option maxRecDepth 100000 in
set_option maxHeartbeats 1000000 in
theorem spec_RecoverAll_c (w : World) (s : ByteArray) (hs : s.size ≤ 1048576) :
    Calls Try.prog 25 #[.string s] w fun e w' => RecPost w s e w' := by
  have hb0 : Below w.heap.size w (w.alloc (.cells #[] 35)) := (Below.refl _ _).alloc (Nat.le_refl _) _
  have ho0 : (w.alloc (.cells #[] 35)).ownsRow w.heap.size 35 3 (.slice (some ⟨w.heap.size, 0, none⟩) 0 0) 0 (savCells []) := World.ownsRow_lit w #[] 0 (Nat.le_refl _) (by simp [maxLen]) rfl
  go_enter Try.func25, Try.ntmps25
  go_wp2
  go_loopw [5, 6] (fun out at_ wr => ∃ (k p : Nat) (A : Option Addr) (cap : Nat) (ys : List SavH), out = .slice A k cap ∧ at_ = .int .i64 p ∧ RecAt s k p (sdat ys) ∧ Hid (ys.length = k) ∧ Hid (∀ y ∈ ys, OwnS wr (w.heap.size + 1) y) ∧ Hid (ys.Pairwise sepS) ∧ wr.ownsRow w.heap.size 35 3 (.slice A k cap) k (savCells ys) ∧ Below w.heap.size w wr ∧ w.heap.size + 1 ≤ wr.heap.size) (fun _ i _ => s.size - (intOf i).toNat)
  case atStart => exact ⟨0, 0, _, _, [], rfl, rfl, recAt_start s, Lib.hid rfl, Lib.hid (by simp), Lib.hid .nil, ho0, hb0, by simp⟩
  case round =>
    clear ho0 hb0
    obtain ⟨k, p, A, cap, ys, rfl, rfl, hra, HL, HI, HP, ho, hb, hz⟩ := hrel
    have hk8 := hra.1
    have hps := hra.2.1
    have HRA := Lib.hid hra
    have HO := Lib.hid ho
    clear hra ho
    by_cases hk : k < 8
    · have hts : (s.extract p s.size).size ≤ 1048576 := by rw [tail_size]; omega
      obtain ⟨t, ht⟩ : ∃ t, s.extract p s.size = t := ⟨_, rfl⟩
      rw [ht] at hts
      have hzt : t.size = s.size - p := by rw [← ht, tail_size]
      have HT := Lib.hid ht
      have HZT := Lib.hid hzt
      clear hzt
      go_wp2_with fail
      try rw [HT.out]
      refine (spec_l07Begin_c wr t hts).mono ?_
      rintro e w1 ⟨v1, v2, rfl, o1, o2, hb1⟩
      obtain ⟨S1, q1, rfl, hp1⟩ := o1.opn
      obtain ⟨S2, q2, rfl, hp2⟩ := o2.opn
      clear o1 o2 ht
      have z1 := hb1.size
      cases hbg : beginB t
      · have e0 : lenR t = 0 := by unfold lenR; rw [hbg]; rfl
        rw [e0]
        have HE := Lib.hid (recAt_stop HRA.out (.inr (by rw [HT.out]; exact hbg)))
        clear e0 hbg
        go_wp2
        go_ret3
        refine ⟨_, ys, by rw [HE.out]; rfl, by rw [HE.out], fun y hy => ?_, HP.out, ?_, ?_⟩
        · exact ((HI.out y hy).below hb1 (Nat.le_refl _)).below ((Below.refl _ _).alloc (Nat.le_refl _) _) (Nat.le_refl _)
        · rw [HL.out]
          exact own_below (own_below HO.out hb1 (Nat.le_refl _)) ((Below.refl _ _).alloc (Nat.le_refl _) _) (Nat.le_refl _)
        · exact (hb.trans (hb1.mono hb.size)).alloc (by omega) _
      · have e1 : nameR t = (parseD t).1 := by unfold nameR; rw [hbg]; rfl
        have e2 : bitsR t = (parseD t).2.1 := by unfold bitsR; rw [hbg]; rfl
        have e3 : softR t = (parseD t).2.2 := by unfold softR; rw [hbg]; rfl
        have e4 : lenR t = a5 t + 2 := by unfold lenR; rw [hbg]; rfl
        have hnx := recAt_step HRA.out hk (by rw [HT.out]; exact hbg)
        rw [HT.out] at hnx
        have hbz := begin_size hbg
        rw [e2] at hp1
        rw [e3] at hp2
        rw [e1, e2, e3, e4]
        obtain ⟨⟨nm, bs, xs⟩, hd⟩ : ∃ d, parseD t = d := ⟨_, rfl⟩
        rw [hd] at hp1 hp2 hnx ⊢
        obtain ⟨N, hN⟩ : ∃ N, a5 t + 2 = N := ⟨_, rfl⟩
        rw [hN] at hnx hbz ⊢
        have hN2 : 2 ≤ N := by omega
        have hNt : N ≤ s.size - p := by have := HZT.out; omega
        have HNX := Lib.hid hnx
        have HP1 := Lib.hid hp1
        have HP2 := Lib.hid hp2
        simp only [] at HP1 HP2
        clear e1 e2 e3 e4 hnx hbg hd hN hp1 hp2 hbz
        have hN0 : ((N : Int) == 0) = false := by simp; omega
        have hcl := sav_cells (w := (w1.alloc (.cells #[.string nm, .slice S1 bs.length q1, .slice S2 xs.length q2] 35)).alloc (.cells #[.string nm, .slice S1 bs.length q1, .slice S2 xs.length q2] 35)) (g := w1.heap.size + 1) (r := ⟨nm, S1, q1, bs, S2, q2, xs⟩) (by have h := heap_alloc_new (w1.alloc (.cells #[.string nm, .slice S1 bs.length q1, .slice S2 xs.length q2] 35)) (.cells #[.string nm, .slice S1 bs.length q1, .slice S2 xs.length q2] 35); simpa using h)
        have HCL := Lib.hid hcl
        clear hcl
        go_wp2_with (at_builtin; go_must (refine app3 rfl _ _ rfl _ _ k ys rfl (World.ownsRow.alloc (World.ownsRow.alloc (own_below HO.out hb1 (Nat.le_refl _)) _) _) _ _ ⟨nm, S1, q1, bs, S2, q2, xs⟩ rfl HCL.out (by omega) (by simp; omega) ?_); intro v' w2 ho2 hg2)
        obtain ⟨g', cap', rfl, _, _⟩ := ho2.form (by omega)
        have z2 := hg2.size
        simp at z2
        have H2 := Lib.hid ho2
        have HG2 := Lib.hid hg2
        clear ho2 hg2
        go_wp2
        go_roundw
        case rel =>
          have b2 : Below w1.heap.size w1 ((w1.alloc (.cells #[.string nm, .slice S1 bs.length q1, .slice S2 xs.length q2] 35)).alloc (.cells #[.string nm, .slice S1 bs.length q1, .slice S2 xs.length q2] 35)) := ((Below.refl _ _).alloc (Nat.le_refl _) _).alloc (by simp) _
          have hr : OwnS w1 wr.heap.size ⟨nm, S1, q1, bs, S2, q2, xs⟩ := ⟨HP1.out, HP2.out⟩
          have hoo := own_below (own_below HO.out hb1 (Nat.le_refl _)) b2 (Nat.le_refl _)
          refine ⟨k + 1, p + N, _, cap', ys ++ [⟨nm, S1, q1, bs, S2, q2, xs⟩], rfl, by go_num, ?_, Lib.hid (by rw [List.length_append, HL.out]; rfl), Lib.hid ?_, Lib.hid ?_, H2.out, ?_, by omega⟩
          · have := HNX.out
            unfold sdat at this ⊢
            rw [List.map_append]
            exact this
          · intro y hy
            rw [List.mem_append] at hy
            rcases hy with hy | hy
            · exact (((HI.out y hy).below hb1 (Nat.le_refl _)).below b2 (Nat.le_refl _)).grown hoo HG2.out
            · obtain rfl : y = ⟨nm, S1, q1, bs, S2, q2, xs⟩ := by simpa using hy
              exact ((hr.below b2 (Nat.le_refl _)).base hz).grown hoo HG2.out
          · refine sep_snoc HP.out fun y hy g hg hg' => ?_
            have h1 := (HI.out y hy).blk hg
            have h2 := hr.blk hg'
            omega
          · exact ((hb.trans (hb1.mono hb.size)).trans (b2.mono (by omega))).grown HG2.out (by simp; omega) fun j hj => (hoo.lt j hj).1
        case measure => simp [intOf]; omega
    · have HE := Lib.hid (recAt_stop HRA.out (.inl hk))
      obtain rfl : k = 8 := by omega
      go_wp2
      go_ret3
      exact ⟨_, ys, by rw [HE.out]; rfl, by rw [HE.out], HI.out, HP.out, by rw [HL.out]; exact HO.out, hb⟩


set_option maxRecDepth 100000 in
set_option maxHeartbeats 1000000 in
theorem impl_RecoverAll_c (w : World) (s : ByteArray) (hs : s.size ≤ 1048576) :
    Calls Try.prog 26 #[.string s] w fun e w' => RecPost w s e w' := by
  have hb0 : Below w.heap.size w (w.alloc (.cells #[] 35)) := (Below.refl _ _).alloc (Nat.le_refl _) _
  have ho0 : (w.alloc (.cells #[] 35)).ownsRow w.heap.size 35 3 (.slice (some ⟨w.heap.size, 0, none⟩) 0 0) 0 (savCells []) := World.ownsRow_lit w #[] 0 (Nat.le_refl _) (by simp [maxLen]) rfl
  go_enter Try.func26, Try.ntmps26
  go_wp2
  go_loopw [5, 6] (fun out at_ wr => ∃ (k p : Nat) (A : Option Addr) (cap : Nat) (ys : List SavH), out = .slice A k cap ∧ at_ = .int .i64 p ∧ RecAt s k p (sdat ys) ∧ Hid (ys.length = k) ∧ Hid (∀ y ∈ ys, OwnS wr (w.heap.size + 1) y) ∧ Hid (ys.Pairwise sepS) ∧ wr.ownsRow w.heap.size 35 3 (.slice A k cap) k (savCells ys) ∧ Below w.heap.size w wr ∧ w.heap.size + 1 ≤ wr.heap.size) (fun _ i _ => s.size - (intOf i).toNat)
  case atStart => exact ⟨0, 0, _, _, [], rfl, rfl, recAt_start s, Lib.hid rfl, Lib.hid (by simp), Lib.hid .nil, ho0, hb0, by simp⟩
  case round =>
    clear ho0 hb0
    obtain ⟨k, p, A, cap, ys, rfl, rfl, hra, HL, HI, HP, ho, hb, hz⟩ := hrel
    have hk8 := hra.1
    have hps := hra.2.1
    have HRA := Lib.hid hra
    have HO := Lib.hid ho
    clear hra ho
    by_cases hk : k < 8
    · have hts : (s.extract p s.size).size ≤ 1048576 := by rw [tail_size]; omega
      obtain ⟨t, ht⟩ : ∃ t, s.extract p s.size = t := ⟨_, rfl⟩
      rw [ht] at hts
      have hzt : t.size = s.size - p := by rw [← ht, tail_size]
      have HT := Lib.hid ht
      have HZT := Lib.hid hzt
      clear hzt
      go_wp2_with fail
      try rw [HT.out]
      refine (impl_readSaved_c wr t hts).mono ?_
      rintro e w1 ⟨v1, v2, rfl, o1, o2, hb1⟩
      obtain ⟨S1, q1, rfl, hp1⟩ := o1.opn
      obtain ⟨S2, q2, rfl, hp2⟩ := o2.opn
      clear o1 o2 ht
      have z1 := hb1.size
      cases hbg : beginB t
      · have e0 : lenR t = 0 := by unfold lenR; rw [hbg]; rfl
        rw [e0]
        have HE := Lib.hid (recAt_stop HRA.out (.inr (by rw [HT.out]; exact hbg)))
        clear e0 hbg
        go_wp2
        go_ret3
        refine ⟨_, ys, by rw [HE.out]; rfl, by rw [HE.out], fun y hy => ?_, HP.out, ?_, ?_⟩
        · exact ((HI.out y hy).below hb1 (Nat.le_refl _)).below ((Below.refl _ _).alloc (Nat.le_refl _) _) (Nat.le_refl _)
        · rw [HL.out]
          exact own_below (own_below HO.out hb1 (Nat.le_refl _)) ((Below.refl _ _).alloc (Nat.le_refl _) _) (Nat.le_refl _)
        · exact (hb.trans (hb1.mono hb.size)).alloc (by omega) _
      · have e1 : nameR t = (parseD t).1 := by unfold nameR; rw [hbg]; rfl
        have e2 : bitsR t = (parseD t).2.1 := by unfold bitsR; rw [hbg]; rfl
        have e3 : softR t = (parseD t).2.2 := by unfold softR; rw [hbg]; rfl
        have e4 : lenR t = a5 t + 2 := by unfold lenR; rw [hbg]; rfl
        have hnx := recAt_step HRA.out hk (by rw [HT.out]; exact hbg)
        rw [HT.out] at hnx
        have hbz := begin_size hbg
        rw [e2] at hp1
        rw [e3] at hp2
        rw [e1, e2, e3, e4]
        obtain ⟨⟨nm, bs, xs⟩, hd⟩ : ∃ d, parseD t = d := ⟨_, rfl⟩
        rw [hd] at hp1 hp2 hnx ⊢
        obtain ⟨N, hN⟩ : ∃ N, a5 t + 2 = N := ⟨_, rfl⟩
        rw [hN] at hnx hbz ⊢
        have hN2 : 2 ≤ N := by omega
        have hNt : N ≤ s.size - p := by have := HZT.out; omega
        have HNX := Lib.hid hnx
        have HP1 := Lib.hid hp1
        have HP2 := Lib.hid hp2
        simp only [] at HP1 HP2
        clear e1 e2 e3 e4 hnx hbg hd hN hp1 hp2 hbz
        have hN0 : ((N : Int) == 0) = false := by simp; omega
        have hcl := sav_cells (w := (w1.alloc (.cells #[.string nm, .slice S1 bs.length q1, .slice S2 xs.length q2] 35)).alloc (.cells #[.string nm, .slice S1 bs.length q1, .slice S2 xs.length q2] 35)) (g := w1.heap.size + 1) (r := ⟨nm, S1, q1, bs, S2, q2, xs⟩) (by have h := heap_alloc_new (w1.alloc (.cells #[.string nm, .slice S1 bs.length q1, .slice S2 xs.length q2] 35)) (.cells #[.string nm, .slice S1 bs.length q1, .slice S2 xs.length q2] 35); simpa using h)
        have HCL := Lib.hid hcl
        clear hcl
        go_wp2_with (at_builtin; go_must (refine app3 rfl _ _ rfl _ _ k ys rfl (World.ownsRow.alloc (World.ownsRow.alloc (own_below HO.out hb1 (Nat.le_refl _)) _) _) _ _ ⟨nm, S1, q1, bs, S2, q2, xs⟩ rfl HCL.out (by omega) (by simp; omega) ?_); intro v' w2 ho2 hg2)
        obtain ⟨g', cap', rfl, _, _⟩ := ho2.form (by omega)
        have z2 := hg2.size
        simp at z2
        have H2 := Lib.hid ho2
        have HG2 := Lib.hid hg2
        clear ho2 hg2
        go_wp2
        go_roundw
        case rel =>
          have b2 : Below w1.heap.size w1 ((w1.alloc (.cells #[.string nm, .slice S1 bs.length q1, .slice S2 xs.length q2] 35)).alloc (.cells #[.string nm, .slice S1 bs.length q1, .slice S2 xs.length q2] 35)) := ((Below.refl _ _).alloc (Nat.le_refl _) _).alloc (by simp) _
          have hr : OwnS w1 wr.heap.size ⟨nm, S1, q1, bs, S2, q2, xs⟩ := ⟨HP1.out, HP2.out⟩
          have hoo := own_below (own_below HO.out hb1 (Nat.le_refl _)) b2 (Nat.le_refl _)
          refine ⟨k + 1, p + N, _, cap', ys ++ [⟨nm, S1, q1, bs, S2, q2, xs⟩], rfl, by go_num, ?_, Lib.hid (by rw [List.length_append, HL.out]; rfl), Lib.hid ?_, Lib.hid ?_, H2.out, ?_, by omega⟩
          · have := HNX.out
            unfold sdat at this ⊢
            rw [List.map_append]
            exact this
          · intro y hy
            rw [List.mem_append] at hy
            rcases hy with hy | hy
            · exact (((HI.out y hy).below hb1 (Nat.le_refl _)).below b2 (Nat.le_refl _)).grown hoo HG2.out
            · obtain rfl : y = ⟨nm, S1, q1, bs, S2, q2, xs⟩ := by simpa using hy
              exact ((hr.below b2 (Nat.le_refl _)).base hz).grown hoo HG2.out
          · refine sep_snoc HP.out fun y hy g hg hg' => ?_
            have h1 := (HI.out y hy).blk hg
            have h2 := hr.blk hg'
            omega
          · exact ((hb.trans (hb1.mono hb.size)).trans (b2.mono (by omega))).grown HG2.out (by simp; omega) fun j hj => (hoo.lt j hj).1
        case measure => simp [intOf]; omega
    · have HE := Lib.hid (recAt_stop HRA.out (.inl hk))
      obtain rfl : k = 8 := by omega
      go_wp2
      go_ret3
      exact ⟨_, ys, by rw [HE.out]; rfl, by rw [HE.out], HI.out, HP.out, by rw [HL.out]; exact HO.out, hb⟩

end Go.Proofs.Ytmkjlhobnlgpjaa
