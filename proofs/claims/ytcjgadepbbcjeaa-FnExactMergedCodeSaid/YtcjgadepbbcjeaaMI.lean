/-
  Contracts: a bunch of the least weight is taken out of a row of the call's own.
  Conditions: 1 to 1048576 bunches.
-/
import Derived.Test.YtcjgadepbbcjeaaMH
namespace Go.Proofs.Ytcjgadepbbcjeaa
open Go.RowKit Go.Shelf Go.Sort Go.Lib

/-- weights and what goes with them, cell by cell -/
def fl2 (ts : List (Int × Value)) : List Value := ts.flatMap fun t => [.int .i64 t.1, t.2]
theorem fl2_len : ∀ ts : List (Int × Value), (fl2 ts).length = ts.length * 2
  | [] => rfl
  | t :: ts => by
    show (fl2 ts).length + 2 = _
    rw [fl2_len ts, List.length_cons]; omega
theorem fl2_take : ∀ (ts : List (Int × Value)) (i : Nat), (fl2 ts).take (i * 2) = fl2 (ts.take i)
  | [], i => by simp [fl2]
  | t :: ts, 0 => by simp [fl2]
  | t :: ts, i + 1 => by
    have h := fl2_take ts i
    show (Value.int .i64 t.1 :: t.2 :: fl2 ts).take _ = Value.int .i64 t.1 :: t.2 :: fl2 (ts.take i)
    rw [show (i + 1) * 2 = i * 2 + 1 + 1 by omega, List.take_succ_cons, List.take_succ_cons, h]
theorem fl2_drop : ∀ (ts : List (Int × Value)) (i : Nat), (fl2 ts).drop (i * 2) = fl2 (ts.drop i)
  | [], i => by simp [fl2]
  | t :: ts, 0 => by simp
  | t :: ts, i + 1 => by
    have h := fl2_drop ts i
    show (Value.int .i64 t.1 :: t.2 :: fl2 ts).drop _ = fl2 (ts.drop i)
    rw [show (i + 1) * 2 = i * 2 + 1 + 1 by omega, List.drop_succ_cons, List.drop_succ_cons, h]
theorem fl2_app (ts us : List (Int × Value)) : fl2 (ts ++ us) = fl2 ts ++ fl2 us := by simp [fl2]
theorem fl2_erase (ts : List (Int × Value)) (i : Nat) : (fl2 ts).take (i * 2) ++ (fl2 ts).drop ((i + 1) * 2) = fl2 (ts.eraseIdx i) := by
  rw [fl2_take, fl2_drop, ← fl2_app, List.eraseIdx_eq_take_drop_succ]
theorem fl2_at : ∀ (ts : List (Int × Value)) (i : Nat) (h : i < ts.length), (fl2 ts)[i * 2]? = some (.int .i64 ts[i].1) ∧ (fl2 ts)[i * 2 + 1]? = some ts[i].2
  | t :: ts, 0, _ => ⟨rfl, rfl⟩
  | t :: ts, i + 1, h => by
    have := fl2_at ts i (by simpa using h)
    show (Value.int .i64 t.1 :: t.2 :: fl2 ts)[_]? = _ ∧ (Value.int .i64 t.1 :: t.2 :: fl2 ts)[_]? = _
    rw [show (i + 1) * 2 = i * 2 + 1 + 1 by omega]
    simpa using this
theorem fl2_one (ts : List (Int × Value)) (h : ∀ t ∈ ts, t.2.oneCell' = true) : ∀ u ∈ fl2 ts, u.oneCell' = true := by
  intro u hu
  obtain ⟨t, ht, hut⟩ := List.mem_flatMap.1 hu
  rcases List.mem_cons.1 hut with rfl | hut
  · rfl
  · rcases List.mem_cons.1 hut with rfl | hut
    · exact h t ht
    · cases hut

theorem grown_of_below {w w' : World} (h : Below w.heap.size w w') (row : Option Nat) : w.grownBy w' row := ⟨h.os, h.tape, h.output, h.size, fun k hk _ => h.block k hk⟩
theorem grown_of_below2 {w w' : World} {B : Nat} (h : Below B w w') (hB : w.heap.size ≤ B) (row : Option Nat) : w.grownBy w' row := ⟨h.os, h.tape, h.output, h.size, fun k hk _ => h.block k (by omega)⟩
theorem grown_trans {a b c : World} {row : Option Nat} (h : a.grownBy b row) (k : b.grownBy c row) : a.grownBy c row :=
  ⟨k.os.trans h.os, k.tape.trans h.tape, k.output.trans h.output, Nat.le_trans h.size k.size, fun i hi hn => (k.block i (Nat.lt_of_lt_of_le hi h.size) hn).trans (h.block i hi hn)⟩
theorem grown_setAt (W : World) (b o : Nat) (v : Value) : W.grownBy (W.setCell ⟨b, o, none⟩ v) (some b) :=
  ⟨rfl, rfl, rfl, (by simp), fun k _ hk => Below.heap_setCell _ _ _ k (fun e => hk (by rw [e]))⟩
theorem grown_setNew {w w' : World} {row : Option Nat} (h : w.grownBy w' row) {b : Nat} (hb : w.heap.size ≤ b) (o : Nat) (v : Value) : w.grownBy (w'.setCell ⟨b, o, none⟩ v) row :=
  ⟨h.os, h.tape, h.output, Nat.le_trans h.size (by simp), fun k hk hn => (Below.heap_setCell _ _ _ k (fun e => by simp only [] at e; omega)).trans (h.block k hk hn)⟩
theorem heap_putRow {w : World} {g n : Nat} {cur : Array Value} {e : TypeId} {fr : Nat × Nat} (d : Array Value) (hb : w.heap[g]? = some (.cells cur e fr)) :
    (putRow id (Sort.ahead w n) g 0 d).heap[g]? = some (.cells (putCells id 0 d cur) e fr) := by
  simp [putRow, mapBlock, Sort.ahead, Array.getElem?_modify, hb, onCells]
theorem grown_putRow {w : World} {g n : Nat} (d : Array Value) : w.grownBy (putRow id (Sort.ahead w n) g 0 d) (some g) := by
  refine ⟨rfl, rfl, rfl, by simp, fun k hk hne => ?_⟩
  have : g ≠ k := fun e => hne (by rw [e])
  simp [putRow, mapBlock, Sort.ahead, Array.getElem?_modify, this]
theorem take_putCells (cur : Array Value) (ts : List Value) (h : ts.length ≤ cur.size) : (putCells id 0 ts.toArray cur).toList.take ts.length = ts := by
  apply List.ext_getElem?
  intro j
  by_cases hj : j < ts.length
  · rw [List.getElem?_take_of_lt hj, Array.getElem?_toList]
    simp [putCells, hj, show j < cur.size by omega]
  · rw [List.getElem?_take_eq_none (by omega), List.getElem?_eq_none (by omega)]

theorem holds_of_own {w : World} {base : Nat} {e : TypeId} {size b n cap : Nat} {xs : List Value} (h : w.ownsRow base e size (.slice (some ⟨b, 0, none⟩) n cap) n xs) : Holds id w b 0 xs.toArray := by
  rcases h.2 with ⟨hn, _⟩ | ⟨g, cap', cur, hv, hbg, hg, hnc, hm, hs, ht⟩
  · cases hn
  · injection hv with hv1 hv2 hv3
    injection hv1 with hv1
    injection hv1 with hv1
    subst hv1
    intro j hj
    have hj' : j < xs.length := by simpa using hj
    refine ⟨?_, by simp [World.frozen?, hg]⟩
    have h1 : (cur.toList.take (n * size))[j]? = xs[j]? := by rw [ht]
    have hl := h.1
    rw [List.getElem?_take_of_lt (by omega)] at h1
    simp only [World.cell?, hg, Nat.zero_add]
    simp only [Option.isSome_none, Bool.false_eq_true, if_false]
    rw [← Array.getElem?_toList, h1]
    simp [hj']


set_option maxRecDepth 100000 in
theorem Delete_own_c (w : World) (base b n cap i : Nat) (xs : List Value) (hown : w.ownsRow base 42 2 (.slice (some ⟨b, 0, none⟩) n cap) n xs) (hi : i < n) (h1 : ∀ x ∈ xs, x.oneCell' = true) (j : Nat) (hj : j = i + 1) :
    Calls Try.prog 28 #[.slice (some ⟨b, 0, none⟩) n cap, .int .i64 i, .int .i64 j] w fun e w' => e = .returned (.slice (some ⟨b, 0, none⟩) (n - 1) cap) ∧ w'.ownsRow base 42 2 (.slice (some ⟨b, 0, none⟩) (n - 1) cap) (n - 1) (xs.take (i * 2) ++ xs.drop ((i + 1) * 2)) ∧ w.grownBy w' (some b) := by
  have hH := holds_of_own hown
  have hl := hown.1
  rcases hown.2 with ⟨hn, _⟩ | ⟨g, cap', cur, hv, hbg, hg, hnc, hm, hs, ht⟩
  · cases hn
  injection hv with hv1 hv2 hv3
  injection hv1 with hv1
  injection hv1 with hv1
  subst hv1 hv3 hj
  refine (Delete_bunch_c w b 0 n cap i (i + 1) xs.toArray (by simpa using hl) hH rfl hi hnc hm (by simpa using h1)).mono ?_
  rintro e w' ⟨rfl, q, rfl⟩
  have hlen : (xs.take (i * 2) ++ xs.drop ((i + 1) * 2)).length = (n - 1) * 2 := by simp; omega
  obtain ⟨Y, hY⟩ : ∃ Y, xs.take (i * 2) ++ xs.drop ((i + 1) * 2) = Y := ⟨_, rfl⟩
  have hx1 : xs.toArray.toList = xs := rfl
  rw [hx1, hY]
  rw [hY] at hlen
  refine ⟨rfl, ⟨hlen, .inr ⟨b, cap, _, rfl, hbg, heap_putRow _ hg, by omega, hm, by simp [putCells, hs], ?_⟩⟩, grown_putRow _⟩
  obtain ⟨Z, hZ, hz⟩ : ∃ Z : List Value, [Value.int .i64 0, Value.slice none 0 0] = Z ∧ Z.length = 2 := ⟨_, rfl, rfl⟩
  rw [hZ]
  have h2 := take_putCells cur (Y ++ Z) (by rw [List.length_append, hlen, hs, hz]; omega)
  have h3 := congrArg (List.take ((n - 1) * 2)) h2
  rw [List.take_take, List.length_append, hlen, Nat.min_eq_left (by omega), List.take_left' hlen] at h3
  exact h3


/-- the slots of what is a bunch list -/
theorem bun_of_own {w : World} {base b n cap : Nat} {ts : List (Int × Value)} (h : w.ownsRow base 42 2 (.slice (some ⟨b, 0, none⟩) n cap) n (fl2 ts)) : Bun w w.heap.size b 0 (ts.map Prod.fst) (ts.map Prod.snd) := by
  have hl := h.1
  rw [fl2_len] at hl
  refine ⟨(h.lt b rfl).2, by simp, fun i hi => ?_⟩
  have hi' : i < ts.length := by simpa using hi
  have h2 := fl2_at ts i hi'
  have k0 := World.ownsRow.cellAt h (i * 2) (by omega)
  have k1 := World.ownsRow.cellAt h (i * 2 + 1) (by omega)
  rw [h2.1] at k0
  rw [h2.2] at k1
  rw [Nat.zero_add] 
  refine ⟨k0.trans ?_, k1.trans ?_⟩ <;> simp [List.getD, hi']

set_option maxRecDepth 100000 in
set_option maxHeartbeats 4000000 in
theorem impl_takeLeast_c (w : World) (base b n cap : Nat) (ts : List (Int × Value)) (hl : ts.length = n) (h1 : 1 ≤ n) (hn : n ≤ 1048576) (hown : w.ownsRow base 42 2 (.slice (some ⟨b, 0, none⟩) n cap) n (fl2 ts)) (hs : ∀ t ∈ ts, ∃ A k c, t.2 = .slice A k c) :
    Calls Try.prog 17 #[.slice (some ⟨b, 0, none⟩) n cap] w fun e w' => e = .returned (.tuple #[.agg #[.int .i64 ((ts.map Prod.fst).getD (leastI (ts.map Prod.fst)) 0), (ts.map Prod.snd).getD (leastI (ts.map Prod.fst)) undef], .slice (some ⟨b, 0, none⟩) (n - 1) cap]) ∧ w'.ownsRow base 42 2 (.slice (some ⟨b, 0, none⟩) (n - 1) cap) (n - 1) (fl2 (ts.eraseIdx (leastI (ts.map Prod.fst)))) ∧ w.grownBy w' (some b) := by
  have hlt := leastI_lt (ws := ts.map Prod.fst) (by simp; omega)
  obtain ⟨ws, ews⟩ : ∃ ws, ts.map Prod.fst = ws := ⟨_, rfl⟩
  obtain ⟨us, eus⟩ : ∃ us, ts.map Prod.snd = us := ⟨_, rfl⟩
  have hB := bun_of_own hown
  have hsu : ∀ u ∈ us, ∃ A k c, u = .slice A k c := by
    rw [← eus]
    intro u hu
    obtain ⟨t, ht, rfl⟩ := List.mem_map.1 hu
    exact hs t ht
  have hone : ∀ t ∈ ts, t.2.oneCell' = true := by
    intro t ht
    obtain ⟨A, k, c, e⟩ := hs t ht
    rw [e]; rfl
  have hws : ws.length = n := by rw [← ews]; simpa using hl
  have hus : us.length = n := by rw [← eus]; simpa using hl
  rw [ews] at hlt hB ⊢
  rw [eus] at hB ⊢
  have hbw : b < w.heap.size := (hown.lt b rfl).2
  obtain ⟨A, m, d, hu⟩ : ∃ A k c, us.getD (leastI ws) undef = .slice A k c := by
    have hh : leastI ws < us.length := by omega
    obtain ⟨A, m, d, hu⟩ := hsu us[leastI ws] (List.getElem_mem hh)
    exact ⟨A, m, d, by rw [← hu]; simp [List.getD, hh]⟩
  have HM := Lib.hid (fun W (hb : Below w.heap.size w W) => MinFunc_bunch_c W b 0 n cap ws us hws h1 hn ((fun h : Bun W w.heap.size b 0 ws us => ⟨Nat.lt_of_lt_of_le h.1 hb.size, h.2⟩) (hB.below hb)) hsu)
  have HI := Lib.hid (fun W (hb : Below w.heap.size w W) B hB' hc => IndexFunc_bunch_c W b 0 n cap B ws us hws h1 hn ((fun h : Bun W w.heap.size b 0 ws us => ⟨Nat.lt_of_lt_of_le h.1 hb.size, h.2⟩) (hB.below hb)) hsu hB' hc)
  have hcells : w.cell? ⟨b, 0 + leastI ws * 2, none⟩ = some (.int .i64 (ws.getD (leastI ws) 0)) ∧ w.cell? ⟨b, 0 + leastI ws * 2 + 1, none⟩ = some (us.getD (leastI ws) undef) := hB.2.2 _ hlt
  rw [Nat.zero_add] at hcells
  rw [hu] at HM hcells ⊢
  obtain ⟨L, eL⟩ : ∃ L, leastI ws = L := ⟨_, rfl⟩
  rw [eL] at HM HI hlt hcells ⊢
  obtain ⟨x, ex⟩ : ∃ x, ws.getD L 0 = x := ⟨_, rfl⟩
  rw [ex] at HM HI hcells ⊢
  rw [hws] at hlt
  obtain ⟨r1, r2⟩ := hcells
  have R1 := Lib.hid r1
  have R2 := Lib.hid r2
  have HO := Lib.hid hown
  have HONE := Lib.hid hone
  clear hown hB hsu hone hs ews eus hl hws hus hu eL ex r1 r2
  have q1 : (0 : Int) ≤ (L : Int) := by omega
  have q2 : (L : Int) < (n : Int) := by omega
  obtain ⟨w1, e1⟩ : ∃ q : World, q = w.alloc (.cells #[.int .i64 0, .slice none 0 0] 42) := ⟨_, rfl⟩
  have b1 : Below w.heap.size w w1 := by rw [e1]; exact (Below.refl _ _).alloc (Nat.le_refl _) _
  have TW : Two w1 w.heap.size (.int .i64 0) (.slice none 0 0) := by rw [e1]; refine ⟨⟨?_, ?_⟩, ?_, ?_⟩ <;> (first | (simp; done) | (simp (disch := (first | (simp; done) | (simp; omega))) [World.cell?_alloc_at]; done) | (simp (disch := (first | (simp; done) | (simp; omega))) [World.cell?_alloc_past]; done) | (simp (disch := (first | (simp; done) | (simp; omega))) [World.cell?_alloc_at, World.cell?_alloc_past]; done) | (simp (disch := (first | (simp; done) | (simp; omega))) [World.frozen?_alloc_at]; done) | (simp (disch := (first | (simp; done) | (simp; omega))) [World.frozen?_alloc_past]; done) | (simp (disch := (first | (simp; done) | (simp; omega))) [World.frozen?_alloc_at, World.frozen?_alloc_past]; done))
  have z1 : w.heap.size + 1 ≤ w1.heap.size := by rw [e1]; simp
  have HTW := Lib.hid TW
  clear TW
  go_enter Try.func17, Try.ntmps17
  go_wp2_with (rw [← e1]; clear e1)
  refine (HM.out w1 b1).mono ?_
  rintro e w2 ⟨rfl, b2⟩
  have hb2 : Below w.heap.size w w2 := b1.trans (b2.mono (by omega))
  have zz2 := b2.size
  obtain ⟨w3, e3⟩ : ∃ q : World, q = w2.alloc (.cells #[.int .i64 x, .slice A m d] 42) := ⟨_, rfl⟩
  have b3 : Below w2.heap.size w2 w3 := by rw [e3]; exact (Below.refl _ _).alloc (Nat.le_refl _) _
  have k3 : w3.cell? ⟨w2.heap.size, 0, none⟩ = some (.int .i64 x) := by rw [e3]; (first | (simp; done) | (simp (disch := (first | (simp; done) | (simp; omega))) [World.cell?_alloc_at]; done) | (simp (disch := (first | (simp; done) | (simp; omega))) [World.cell?_alloc_past]; done) | (simp (disch := (first | (simp; done) | (simp; omega))) [World.cell?_alloc_at, World.cell?_alloc_past]; done) | (simp (disch := (first | (simp; done) | (simp; omega))) [World.frozen?_alloc_at]; done) | (simp (disch := (first | (simp; done) | (simp; omega))) [World.frozen?_alloc_past]; done) | (simp (disch := (first | (simp; done) | (simp; omega))) [World.frozen?_alloc_at, World.frozen?_alloc_past]; done))
  have z3 : w2.heap.size + 1 ≤ w3.heap.size := by rw [e3]; simp
  have hb3 : Below w.heap.size w w3 := hb2.trans (b3.mono (by omega))
  have HC3 := Lib.hid (HI.out w3 hb3 w2.heap.size (by omega) k3)
  go_wp2_with (rw [← e3]; clear e3)
  refine HC3.out.mono ?_
  rintro e w4 ⟨rfl, b4⟩
  have zz4 := b4.size
  have hb4 : Below w.heap.size w w4 := hb3.trans (b4.mono (by omega))
  have r1 := (hb4.cell (p := ⟨b, L * 2, none⟩) hbw).trans R1.out
  have r2 := (hb4.cell (p := ⟨b, L * 2 + 1, none⟩) hbw).trans R2.out
  obtain ⟨w5, e5⟩ : ∃ q : World, q = w4.alloc (.cells #[.int .i64 x, .slice A m d] 42) := ⟨_, rfl⟩
  have b5 : Below w4.heap.size w4 w5 := by rw [e5]; exact (Below.refl _ _).alloc (Nat.le_refl _) _
  have T5 : Two w5 w4.heap.size (.int .i64 x) (.slice A m d) := by rw [e5]; refine ⟨⟨?_, ?_⟩, ?_, ?_⟩ <;> (first | (simp; done) | (simp (disch := (first | (simp; done) | (simp; omega))) [World.cell?_alloc_at]; done) | (simp (disch := (first | (simp; done) | (simp; omega))) [World.cell?_alloc_past]; done) | (simp (disch := (first | (simp; done) | (simp; omega))) [World.cell?_alloc_at, World.cell?_alloc_past]; done) | (simp (disch := (first | (simp; done) | (simp; omega))) [World.frozen?_alloc_at]; done) | (simp (disch := (first | (simp; done) | (simp; omega))) [World.frozen?_alloc_past]; done) | (simp (disch := (first | (simp; done) | (simp; omega))) [World.frozen?_alloc_at, World.frozen?_alloc_past]; done))
  have z5 : w4.heap.size + 1 ≤ w5.heap.size := by rw [e5]; simp
  have hb5 : Below w.heap.size w w5 := hb4.trans (b5.mono (by omega))
  go_wp2_with (rw [← e5]; clear e5)
  have ho5 := own_below HO.out hb5 (Nat.le_refl _)
  have HD := Lib.hid (fun W (h : W.ownsRow base 42 2 (.slice (some ⟨b, 0, none⟩) n cap) n (fl2 ts)) => Delete_own_c W base b n cap L (fl2 ts) h hlt (fl2_one ts HONE.out) (L + 1) rfl)
  have HWR : Hid (IntKind.i64.wrap ((L : Int) + 1) = ((L + 1 : Nat) : Int)) := Lib.hid (by rw [IntWalk.i64_in _ (by omega)]; rfl)
  have HO5 := Lib.hid (ho5.drew)
  have HT5 := Lib.hid T5
  obtain ⟨⟨t0, t1⟩, g0, g1⟩ := T5
  have T2 := HTW.out.below (b2.trans (b3.mono (by omega))) (by omega)
  have T2 := T2.below (B := w3.heap.size) (b4.trans (b5.mono (by omega))) (by omega)
  have HT2 := Lib.hid T2
  obtain ⟨⟨u0, u1⟩, v0, v1⟩ := T2
  clear ho5 r1 r2 k3
  go_region_held3 (fun w' => w'.cell? ⟨w4.heap.size, 0, none⟩ = some (.int .i64 x) ∧ w'.cell? ⟨w4.heap.size, 1, none⟩ = some (.slice A m d))
    (first | exact ⟨n0, n1⟩ | exact ⟨t0, t1⟩ | exact ⟨(World.cell?_setCell_far _ _ _ _ (by simp only []; omega)).trans ((World.cell?_setCell_far _ _ _ _ (by simp only []; omega)).trans n0), (World.cell?_setCell_far _ _ _ _ (by simp only []; omega)).trans ((World.cell?_setCell_far _ _ _ _ (by simp only []; omega)).trans n1)⟩ | fail)
    (first
      | (go_at_call 28; rw [HWR.out]; refine (HD.out _ HO5.out).mono ?_; rintro e w6 ⟨rfl, o6, g6⟩; have n0 := g6.cell t0 (by simp; omega); have n1 := g6.cell t1 (by simp; omega); have y0 := g6.cell u0 (by simp; omega); have y1 := g6.cell u1 (by simp; omega); have y2 := (World.frozen?_of_block (a := ⟨w.heap.size, 0, none⟩) (g6.block w.heap.size (by simp; omega) (by simp; omega))).trans v0; have y3 := (World.frozen?_of_block (a := ⟨w.heap.size, 1, none⟩) (g6.block w.heap.size (by simp; omega) (by simp; omega))).trans v1))
  have Y2 := Lib.hid y2
  have Y3 := Lib.hid y3
  have hg6 : w.grownBy w6 (some b) := grown_trans (grown_of_below hb5 _) ⟨g6.os, g6.tape, g6.output, g6.size, g6.block⟩
  clear n0 n1 t0 t1 u0 u1
  go_wp2_with fail
  refine bodyPost_ret (v := .tuple #[.agg #[.int .i64 x, .slice A m d], .slice (some ⟨b, 0, none⟩) (n - 1) cap]) (by unfold results; rw [Try.results17]; go_simp) rfl ?_
  refine ⟨rfl, ?_, ?_⟩
  · rw [← fl2_erase]
    exact (o6.kept (grown_setAt _ _ _ _) (.inr (by simp [Value.ownBlock]; omega))).kept (grown_setAt _ _ _ _) (.inr (by simp [Value.ownBlock]; omega))
  · exact grown_setNew (grown_setNew hg6 (by simp) _ _) (by simp) _ _

end Go.Proofs.Ytcjgadepbbcjeaa
