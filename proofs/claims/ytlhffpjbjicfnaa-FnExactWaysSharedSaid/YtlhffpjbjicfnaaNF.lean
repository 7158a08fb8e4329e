/-
  Contracts of the laws' helpers for rows of rows of numbers of single precision.
  Conditions: lengths at most 1048576 where rows are copied.
-/
import Derived.Test.YtlhffpjbjicfnaaSC
import Derived.Deep.QuietTactic
import Derived.BigQuiet
import Derived.Laws.OwnMore
namespace Go.Proofs.Ytlhffpjbjicfnaa
open Go.RowKit

/-- a row's head and what it holds -/
abbrev RowHF := Option Addr × Nat × List Nat
def rowVF (r : RowHF) : Value := .slice r.1 r.2.2.length r.2.1
def datF (rs : List RowHF) : List (List Nat) := rs.map (·.2.2)
/-- rows of rows, to be read -/
def Sl2F (w : World) (B : Nat) (A : Option Addr) (rs : List RowHF) : Prop := Sl w B A (rs.map rowVF) ∧ ∀ r ∈ rs, Sl w B r.1 (r.2.2.map (Value.float .f32))
theorem Sl2F.below {w w' : World} {B : Nat} {A : Option Addr} {rs : List RowHF} (h : Sl2F w B A rs) (hb : Below B w w') : Sl2F w' B A rs := ⟨h.1.below hb, fun r hr => (h.2 r hr).below hb⟩
theorem Sl2F.more {w : World} {B B' : Nat} {A : Option Addr} {rs : List RowHF} (h : Sl2F w B A rs) (hB : B ≤ B') : Sl2F w B' A rs := ⟨h.1.more hB, fun r hr => (h.2 r hr).more hB⟩
theorem Sl2F.alloc {w : World} {B : Nat} {A : Option Addr} {rs : List RowHF} (h : Sl2F w B A rs) (hB : B ≤ w.heap.size) (o : Go.Obj) : Sl2F (w.alloc o) B A rs := h.below ((Below.refl _ _).alloc hB o)
theorem Sl2F.up {w w' : World} {A : Option Addr} {rs : List RowHF} (h : Sl2F w w.heap.size A rs) (hb : Below w.heap.size w w') : Sl2F w' w'.heap.size A rs := (h.below hb).more hb.size
theorem Sl2F.drewN {w : World} {B : Nat} {A : Option Addr} {rs : List RowHF} (h : Sl2F w B A rs) (n : Nat) : Sl2F (w.drewN n) B A rs := h

theorem dat_lenF (rs : List RowHF) : (datF rs).length = rs.length := List.length_map _
theorem dat_getF {rs : List RowHF} {k : Nat} (h : k < rs.length) : (datF rs)[k]'(by rw [dat_lenF]; exact h) = rs[k].2.2 := by simp [datF]


theorem szFloat32S_c (w : World) (A : Option Addr) (n cap : Nat) (left : Int) (h0 : 0 ≤ left) (h1 : left ≤ 1048576) (hn : n ≤ 9223372036854775807) :
    Calls Try.prog 46 #[.slice A n cap, .int .i64 left] w fun e w' => e = .returned (.int .i64 (szr left n)) ∧ w = w' := by
  by_cases h : left - n < 0
  · have e1 : szr left n = -1 := by unfold szr; rw [if_pos h]
    rw [e1]
    clear e1
    go_enter Try.func46, Try.ntmps46
    go_wp2
    go_ret
    exact ⟨rfl, rfl⟩
  · have e1 : szr left n = left - n := by unfold szr; rw [if_neg h]
    rw [e1]
    clear e1
    go_enter Try.func46, Try.ntmps46
    go_wp2
    go_ret
    exact ⟨rfl, rfl⟩


set_option maxRecDepth 100000 in
set_option maxHeartbeats 1000000 in
theorem szFloat32SS_c (w : World) (B : Nat) (A : Option Addr) (n cap : Nat) (rs : List RowHF) (left : Int) (h0 : 0 ≤ left) (h1 : left ≤ 1048576) (hl : rs.length = n) (hn : n ≤ 9223372036854775807) (hr : ∀ r ∈ rs, r.2.2.length ≤ 9223372036854775807) (hx : Sl2F w B A rs) :
    Calls Try.prog 19 #[.slice A n cap, .int .i64 left] w fun e w' => ∃ q : Int, e = .returned (.int .i64 q) ∧ (q = -1 ∨ (0 ≤ q ∧ q ≤ 1048576 ∧ n ≤ 1048576 ∧ ∀ r ∈ rs, r.2.2.length ≤ 1048576)) ∧ w = w' := by
  by_cases hlt : left - n < 0
  · go_enter Try.func19, Try.ntmps19
    go_wp2
    go_ret
    exact ⟨_, rfl, .inl rfl, rfl⟩
  · go_enter Try.func19, Try.ntmps19
    go_wp2
    go_loop [1, 5] (fun q i => ∃ (k : Nat) (p : Int), k ≤ n ∧ i = .int .i64 k ∧ q = .int .i64 p ∧ 0 ≤ p ∧ p ≤ 1048576 ∧ ∀ r ∈ rs.take k, r.2.2.length ≤ 1048576) (fun _ i => n - (intOf i).toNat)
    case atStart => exact ⟨0, left - n, Nat.zero_le _, rfl, by go_num, by omega, by omega, by simp⟩
    case round =>
      obtain ⟨k, p, hk, rfl, rfl, hp0, hp1, hp⟩ := hrel
      have HP := Lib.hid hp
      clear hp
      by_cases hlt2 : k < n
      · obtain ⟨b, off, rfl, hbb, hc1⟩ := hx.1.get k (by omega)
        have hm := hr (rs[k]'(by omega)) (List.getElem_mem _)
        have htk : ∀ r ∈ rs.take (k + 1), r ∈ rs.take k ∨ r = rs[k]'(by omega) := fun r hr => by
          rw [List.take_succ_eq_append_getElem (by omega), List.mem_append] at hr
          simpa using hr
        obtain ⟨⟨a, c, l⟩, hxx⟩ : ∃ x, rs[k]'(by omega) = x := ⟨_, rfl⟩
        rw [hxx] at hc1 hm htk
        simp only [rowVF] at hc1 hm
        have HT := Lib.hid htk
        have hrr := Lib.hid hr
        clear htk hxx hr hx
        have hs := szr_bd hp0 hp1 l.length
        obtain ⟨q, hq⟩ : ∃ q, szr p l.length = q := ⟨_, rfl⟩
        rw [hq] at hs
        have HQ := Lib.hid hq
        clear hq
        rcases hs with ⟨hs, rfl⟩ | ⟨hs, hs1, hs2⟩
        · go_wp2_with (go_at_call 46; refine (szFloat32S_c _ a l.length c p hp0 hp1 hm).mono ?_; rintro e w' ⟨rfl, rfl⟩; rw [HQ.out])
          go_ret
          exact ⟨_, rfl, .inl rfl, rfl⟩
        · go_wp2_with (go_at_call 46; refine (szFloat32S_c _ a l.length c p hp0 hp1 hm).mono ?_; rintro e w' ⟨rfl, rfl⟩; rw [HQ.out])
          go_round
          case rel =>
            refine ⟨k + 1, q, by omega, by go_num, rfl, hs, hs1, fun r hr => ?_⟩
            rcases HT.out r hr with h | rfl
            · exact HP.out r h
            · show l.length ≤ 1048576
              omega
          case measure => simp [intOf]; omega
      · have : k = n := by omega
        subst this
        go_wp2
        go_ret
        refine ⟨_, rfl, .inr ⟨hp0, hp1, by omega, ?_⟩, rfl⟩
        have h := HP.out
        rw [List.take_of_length_le (by omega)] at h
        exact fun a c l h' => h (a, c, l) h'


theorem infoFloat32s : (Try.prog.info? 25).map (fun i => (i.zero, i.size, i.bytes)) = some (some (.slice none 0 0), 1, 24) := by kernel_rfl

/-- a copy of rows of rows: its heads, and what they hold -/
def CopiedF (w : World) (B : Nat) (rs ys : List RowHF) : Prop := datF ys = datF rs ∧ ∀ y ∈ ys, w.ownsRow B 28 1 (rowVF y) y.2.2.length (y.2.2.map (Value.float .f32))
theorem CopiedF.sl {w : World} {B : Nat} {rs ys : List RowHF} (h : CopiedF w B rs ys) : ∀ y ∈ ys, Sl w w.heap.size y.1 (y.2.2.map (Value.float .f32)) := fun y hy => sl_of_own (h.2 y hy)

theorem rows_lenF {rs ys : List RowHF} (h : datF ys = datF rs) : ys.length = rs.length := by
  have := congrArg List.length h
  rwa [dat_lenF, dat_lenF] at this

theorem rows_shortF {rs ys : List RowHF} {n : Nat} (h : datF ys = datF rs) (hr : ∀ r ∈ rs, r.2.2.length ≤ n) : ∀ y ∈ ys, y.2.2.length ≤ n := by
  intro y hy
  have h1 : y.2.2 ∈ datF rs := by rw [← h]; exact List.mem_map_of_mem hy
  obtain ⟨r, h2, h3⟩ := List.mem_map.1 h1
  rw [← h3]
  exact hr r h2
theorem sl2_of_ownF {w : World} {base base2 : Nat} {A : Option Addr} {n cap : Nat} {ys : List RowHF} (ho : w.ownsRow base 25 1 (.slice A n cap) n (ys.map rowVF)) (hin : ∀ y ∈ ys, w.ownsRow base2 28 1 (rowVF y) y.2.2.length (y.2.2.map (Value.float .f32))) : Sl2F w w.heap.size A ys :=
  ⟨sl_of_own ho, fun y hy => sl_of_own (hin y hy)⟩

set_option maxRecDepth 100000 in
set_option maxHeartbeats 1000000 in
theorem toFloat32SS_c (w : World) (A : Option Addr) (n cap : Nat) (rs : List RowHF) (hl : rs.length = n) (hn : n ≤ 1048576) (hr : ∀ r ∈ rs, r.2.2.length ≤ 1048576) (hx : Sl2F w w.heap.size A rs) :
    Calls Try.prog 21 #[.slice A n cap] w fun e w' => ∃ v ys, e = .returned v ∧ datF ys = datF rs ∧ (∀ y ∈ ys, w'.ownsRow w.heap.size 28 1 (rowVF y) y.2.2.length (y.2.2.map (Value.float .f32))) ∧ Ow w' w.heap.size 25 v (ys.map rowVF) ∧ Below w.heap.size w w' := by
  obtain ⟨i0, hi, hz0, hz1, hz2⟩ := info_parts infoFloat32s
  obtain ⟨w1, hmk, hown, hgr⟩ := run_make_full (P := Try.prog) w w.heap.size 43 25 i0 (.slice none 0 0) 1 Try.underlying43 hi hz0 hz1 .i64 .i64 n (by rw [hz2]; omega) (by unfold maxLen; omega) (Nat.le_refl _)
  have hb1 : Below w.heap.size w w1 := (Below.refl _ _).grown hgr (Nat.le_refl _) (by simp)
  have hz : w.heap.size + 1 ≤ w1.heap.size := (hown.lt _ rfl).2
  go_enter Try.func21, Try.ntmps21
  go_wp2
  clear hgr hmk
  go_loopw [4] (fun i wr => ∃ (k : Nat) (ys : List RowHF), k ≤ n ∧ i = .int .i64 k ∧ datF ys = datF (rs.take k) ∧ (∀ y ∈ ys, wr.ownsRow (w.heap.size + 1) 28 1 (rowVF y) y.2.2.length (y.2.2.map (Value.float .f32))) ∧ wr.ownsRow w.heap.size 25 1 (.slice (some ⟨w.heap.size, 0, none⟩) n n) n (ys.map rowVF ++ List.replicate (n-k) (.slice none 0 0)) ∧ Below w.heap.size w wr ∧ w.heap.size + 1 ≤ wr.heap.size) (fun i _ => n - (intOf i).toNat)
  case atStart =>
    refine ⟨0, [], Nat.zero_le _, rfl, rfl, by simp, ?_, hb1, by omega⟩
    simpa [Value.cells, toList_madeCells_one] using hown
  case round =>
    clear hown hb1
    obtain ⟨k, ys, hk, rfl, hd, hin, ho, hb, hsz⟩ := hrel
    have hyl : ys.length = k := by rw [rows_lenF hd, List.length_take]; omega
    by_cases hlt : k < n
    · obtain ⟨b, off, rfl, hbb, hc1⟩ := (hx.below hb).1.get k (by omega)
      have hsl := (hx.below hb).2 (rs[k]'(by omega)) (List.getElem_mem _)
      have hrk := hr (rs[k]'(by omega)) (List.getElem_mem _)
      have hdk : datF (rs.take (k + 1)) = datF (rs.take k) ++ [(rs[k]'(by omega)).2.2] := by
        rw [List.take_succ_eq_append_getElem (by omega)]; unfold datF; rw [List.map_append]; rfl
      obtain ⟨⟨a, c, l⟩, hxx⟩ : ∃ x, rs[k]'(by omega) = x := ⟨_, rfl⟩
      rw [hxx] at hc1 hsl hrk hdk
      simp only [rowVF] at hc1 hsl hrk hdk
      have HD := Lib.hid hdk
      have HI := Lib.hid hin
      have HDD := Lib.hid hd
      clear hdk hxx hr hin hd hx
      go_wp2_with fail
      refine (toFloat32S_c _ a l.length c l rfl hrk (hsl.more (by omega))).mono ?_
      rintro e w2 ⟨v, rfl, ho2, hb2⟩
      obtain ⟨S, q, rfl, hp⟩ := ho2.opn
      have ho3 := own_below ho hb2 (Nat.le_refl _)
      have hs := ho3.stored k (.slice S l.length q)
      have hc2 := ho3.cellAt k (by omega)
      have hf := ho3.frozenAt k
      have hz2 := hb2.size
      have hcell : ∃ u, w2.cell? ⟨w.heap.size, k, none⟩ = some u := by
        rw [hc2, List.getElem?_append_right (by rw [List.length_map]; omega)]
        rw [List.length_map, hyl, Nat.sub_self, List.getElem?_replicate, if_pos (by omega)]
        exact ⟨_, rfl⟩
      obtain ⟨u, hcell⟩ := hcell
      have HS := Lib.hid hs
      clear hs hc2 ho3 ho hc1
      go_wp2
      go_roundw
      case rel =>
        refine ⟨k + 1, ys ++ [(S, q, l)], by omega, by go_num, ?_, ?_, ?_, (hb.trans (hb2.mono hb.size)).setCell (p := ⟨w.heap.size, k, none⟩) (Nat.le_refl _) _, ?_⟩
        · rw [HD.out, ← HDD.out]
          unfold datF
          rw [List.map_append]
          rfl
        · intro y hy
          rw [List.mem_append] at hy
          rcases hy with hy | hy
          · exact ownsRow_setCell_below (own_below (HI.out y hy) hb2 (Nat.le_refl _)) (a := ⟨w.heap.size, k, none⟩) (Nat.lt_succ_self _) _
          · obtain rfl : y = (S, q, l) := by simpa using hy
            exact ownsRow_setCell_below (own_base hp hsz) (a := ⟨w.heap.size, k, none⟩) (Nat.lt_succ_self _) _
        · have h1 := HS.out.1
          rw [List.set_append_right _ _ (by rw [List.length_map]; omega), List.length_map, hyl, Nat.sub_self, show n - k = (n - (k + 1)) + 1 by omega, List.replicate_succ, List.set_cons_zero] at h1
          rw [List.map_append, List.append_assoc]
          exact h1
        · simp; omega
      case measure => simp [intOf]; omega
    · have : k = n := by omega
      subst this
      go_wp2
      go_ret
      rw [List.take_of_length_le (by omega)] at hd
      refine ⟨_, ys, rfl, hd, fun y hy => own_base (hin y hy) (by omega), ?_, hb⟩
      unfold Ow
      rw [List.length_map, hyl]
      simpa using ho


theorem eqFloat32S_at {w : World} {A B : Option Addr} {n cap cap' b1 b2 q m : Nat} {xs : List Nat} (hl : xs.length = n) (hn : n ≤ 1099511627776) (hx : Sl w b1 A (xs.map (Value.float .f32))) (hy : Sl w b2 B (xs.map (Value.float .f32))) :
    Calls Try.prog 14 #[.slice A n cap, .slice B n cap'] (w.drewN (q + m)) fun e w' => e = .returned (.bool true) ∧ ∃ k, w' = w.drewN (q + k) := by
  refine (eqFloat32S_t (w.drewN (q + m)) A B n cap cap' b1 b2 xs xs hl hn rfl hx hy).mono ?_
  rintro e w' ⟨rfl, k, rfl⟩
  exact ⟨rfl, m + k, by rw [World.drewN_drewN, Nat.add_assoc]⟩

set_option maxRecDepth 100000 in
set_option maxHeartbeats 1000000 in
theorem eqFloat32SS_t (w : World) (A B : Option Addr) (n cap cap' b1 b2 : Nat) (rs ys : List RowHF) (hd : datF rs = datF ys) (hl : rs.length = n) (hn : n ≤ 1048576) (hr : ∀ r ∈ rs, r.2.2.length ≤ 1048576) (hx : Sl2F w b1 A rs) (hy : Sl2F w b2 B ys) :
    Calls Try.prog 24 #[.slice A n cap, .slice B n cap'] w fun e w' => e = .returned (.bool true) ∧ ∃ k, w' = w.drewN k := by
  have hl2 : ys.length = n := by rw [← rows_lenF hd, hl]
  go_enter Try.func24, Try.ntmps24
  go_wp2
  go_loopw [5] (fun i wr => ∃ k m : Nat, k ≤ n ∧ i = .int .i64 k ∧ wr = w.drewN m) (fun i _ => n - (intOf i).toNat)
  case atStart => exact ⟨0, 0, Nat.zero_le _, rfl, rfl⟩
  case round =>
    obtain ⟨k, m, hk, rfl, rfl⟩ := hrel
    by_cases hlt : k < n
    · obtain ⟨b, off, rfl, hbb, hc1⟩ := hx.1.get k (by omega)
      obtain ⟨b', off', rfl, hbb', hc2⟩ := hy.1.get k (by omega)
      have g1 := hx.2 (rs[k]'(by omega)) (List.getElem_mem _)
      have g2 := hy.2 (ys[k]'(by omega)) (List.getElem_mem _)
      have g3 := hr (rs[k]'(by omega)) (List.getElem_mem _)
      have g4 : (rs[k]'(by omega)).2.2 = (ys[k]'(by omega)).2.2 := by
        rw [← dat_getF (by omega), ← dat_getF (by omega)]
        simp only [hd]
      obtain ⟨⟨a, c, l⟩, hxx⟩ : ∃ x, rs[k]'(by omega) = x := ⟨_, rfl⟩
      obtain ⟨⟨a2, c2, l2⟩, hyy⟩ : ∃ x, ys[k]'(by omega) = x := ⟨_, rfl⟩
      rw [hxx] at hc1 g1 g3 g4
      rw [hyy] at hc2 g2 g4
      simp only [rowVF] at hc1 hc2 g1 g2 g3 g4
      subst g4
      clear hx hy hd hxx hyy hr
      go_wp2_with fail
      go_quiet ((go_at_call 14; exact eqFloat32S_at rfl (by omega) g1 g2))
      go_wp2
      go_roundw
      case rel => exact ⟨k+1, _, by omega, by go_num, rfl⟩
      case measure => simp [intOf]; omega
    · have : k = n := by omega
      subst this
      go_wp2
      go_ret
      exact ⟨rfl, _, rfl⟩

theorem own_get {w : World} {base g n cap : Nat} {e : TypeId} {α : Type} {f : α → Value} {xs : List α} (h : w.ownsRow base e 1 (.slice (some ⟨g, 0, none⟩) n cap) n (xs.map f)) {j : Nat} (hj : j < xs.length) : w.cell? ⟨g, j, none⟩ = some (f (xs[j]'hj)) := by
  obtain ⟨b, off, he, _, hc⟩ := (sl_of_own h).get j hj
  injection he with he
  injection he with h1 h2
  subst h1 h2
  rwa [Nat.zero_add] at hc
/-- only blocks from c to d are turned -/
structure Spot (c d : Nat) (w w' : World) : Prop where
  os : w'.os = w.os
  tape : w'.tape = w.tape
  output : w'.output = w.output
  size : w.heap.size ≤ w'.heap.size
  block : ∀ i, i < w.heap.size → (i < c ∨ d ≤ i) → w'.heap[i]? = w.heap[i]?
theorem Spot.refl (c d : Nat) (w : World) : Spot c d w w := ⟨rfl, rfl, rfl, Nat.le_refl _, fun _ _ _ => rfl⟩
theorem Spot.trans {c d : Nat} {w w1 w2 : World} (h : Spot c d w w1) (g : Spot c d w1 w2) : Spot c d w w2 :=
  ⟨g.os.trans h.os, g.tape.trans h.tape, g.output.trans h.output, Nat.le_trans h.size g.size, fun i hi hc => (g.block i (Nat.lt_of_lt_of_le hi h.size) hc).trans (h.block i hi hc)⟩
theorem Spot.of_grown {c d : Nat} {w w' : World} {v : Value} (h : w.grownBy w' v.ownBlock) (hv : In v c d) : Spot c d w w' :=
  ⟨h.os, h.tape, h.output, h.size, fun i hi hc => h.block i hi fun he => by
    have := hv i he.symm
    omega⟩
theorem Spot.of_below {c d : Nat} {w w' : World} (h : Below w.heap.size w w') : Spot c d w w' := ⟨h.os, h.tape, h.output, h.size, fun i hi _ => h.block i hi⟩
theorem own_spot {w w' : World} {base : Nat} {e : TypeId} {size n : Nat} {v : Value} {xs : List Value} {a b c d : Nat} (h : w.ownsRow base e size v n xs) (hs : Spot c d w w') (hv : In v a b) (ho : b ≤ c ∨ d ≤ a) : w'.ownsRow base e size v n xs := by
  refine ⟨h.1, ?_⟩
  rcases h.2 with hn | ⟨g, cap, cur, rfl, hbg, hg, rest⟩
  · exact .inl hn
  · refine .inr ⟨g, cap, cur, rfl, hbg, ?_, rest⟩
    have h1 := hv g rfl
    rw [hs.block g (Array.getElem?_eq_some_iff.1 hg).1 (by omega)]
    exact hg
theorem cell_spot {w w' : World} {p : Addr} {c d : Nat} (hs : Spot c d w w') (hp : p.block < w.heap.size) (ho : p.block < c ∨ d ≤ p.block) : w'.cell? p = w.cell? p := by
  unfold World.cell?
  rw [hs.block p.block hp ho]
theorem below_spot {B c d : Nat} {w w1 w' : World} (h : Below B w w1) (hs : Spot c d w1 w') (hc : B ≤ c) (hz : B ≤ w1.heap.size) : Below B w w' :=
  ⟨hs.os.trans h.os, hs.tape.trans h.tape, hs.output.trans h.output, Nat.le_trans h.size hs.size, fun i hi => (hs.block i (by omega) (.inl (by omega))).trans (h.block i hi)⟩
/-- rows stay rows where one of them is written -/
theorem owned_kept {w w' : World} {base : Nat} {e : TypeId} {v : Value} {n m cap : Nat} {A : Option Addr} {ms zs : List Value} (h : ∃ xs, w.ownsRow base e 1 v n xs) (hm : w.ownsRow base e 1 (.slice A m cap) m ms) (hm' : w'.ownsRow base e 1 (.slice A m cap) m zs) (hg : w.grownBy w' (Value.slice A m cap).ownBlock) : ∃ xs, w'.ownsRow base e 1 v n xs := by
  obtain ⟨xs, h0⟩ := h
  by_cases hb : ∃ g, v.ownBlock = some g ∧ (Value.slice A m cap).ownBlock = some g
  · obtain ⟨g, h1, h2⟩ := hb
    rcases h0.2 with ⟨rfl, hn⟩ | ⟨g1, c1, cur1, rfl, hbg, hg1, hn1, hc1, hs1, ht1⟩
    · cases h1
    · rcases hm.2 with ⟨he, _⟩ | ⟨g2, c2, cur2, he, hbg2, hg2, hn2, hc2, hs2, ht2⟩
      · rw [he] at h2; cases h2
      · rcases hm'.2 with ⟨he', _⟩ | ⟨g3, c3, cur3, he', hbg3, hg3, hn3, hc3, hs3, ht3⟩
        · rw [he'] at h2; cases h2
        · rw [he] at h2
          injection he.symm.trans he' with ha hb hc
          injection ha with ha
          injection ha with ha1
          injection h1 with h1
          injection h2 with h2
          have e1 : g1 = g := h1
          have e2 : g2 = g := h2
          subst e1
          subst e2
          subst ha1
          subst hc
          rw [hg1] at hg2
          injection hg2 with hg2
          injection hg2 with hg2
          subst hg2
          have hcc : c1 = c2 := by omega
          subst hcc
          exact ⟨cur3.toList.take (n * 1), by simp; omega, .inr ⟨_, c1, cur3, rfl, hbg, hg3, hn1, hc1, hs3, rfl⟩⟩
  · exact ⟨xs, h0.kept hg (by
      cases hv : v.ownBlock with
      | none => exact .inl rfl
      | some g => exact .inr fun he => hb ⟨g, hv, he.symm⟩)⟩
/-- rows of different types lie in different blocks -/
theorem own_types {w : World} {base base2 : Nat} {e e2 : TypeId} {v u : Value} {n m : Nat} {xs zs : List Value} (h : w.ownsRow base e 1 v n xs) (h2 : w.ownsRow base2 e2 1 u m zs) (hne : e ≠ e2) : ∀ g, v.ownBlock = some g → u.ownBlock ≠ some g := by
  intro g hg hu
  rcases h.2 with ⟨rfl, _⟩ | ⟨g1, c1, cur1, rfl, _, hg1, _⟩
  · cases hg
  · rcases h2.2 with ⟨rfl, _⟩ | ⟨g2, c2, cur2, rfl, _, hg2, _⟩
    · cases hu
    · injection hg with hg
      injection hu with hu
      have e1 : g1 = g := hg
      have e2 : g2 = g := hu
      subst e1
      subst e2
      rw [hg1] at hg2
      injection hg2 with hg2
      injection hg2 with _ h3
      exact hne h3

theorem cell_apart {w w' : World} {u : Value} {p : Addr} (hg : w.grownBy w' u.ownBlock) {c d : Nat} (hu : In u c d) (hp : p.block < w.heap.size) (hs : p.block < c ∨ d ≤ p.block) : w'.cell? p = w.cell? p := by
  have h1 := hg.block p.block hp (fun he => by
    have h2 := hu p.block he.symm
    omega)
  unfold World.cell?
  rw [h1]


set_option maxHeartbeats 400000 in
theorem markFloat32S_big (w : World) (base : Nat) (A : Option Addr) (n cap : Nat) (xs : List Value) (hn : n ≤ 1099511627776) (k : Int) (h0 : 0 ≤ k) (hk : k ≤ 2199023255552) (ho : w.ownsRow base 28 1 (.slice A n cap) n xs) :
    Calls Try.prog 16 #[.slice A n cap, .int .i64 k] w fun e w' => e = .returned (.int .i64 (k + n)) ∧ w'.ownsRow base 28 1 (.slice A n cap) n (marks (fun q => .float .f32 (floatOfInt .f32 q)) k n) ∧ w.grownBy w' (Value.slice A n cap).ownBlock := by
  have hl : xs.length = n := by simpa using ho.1
  go_enter Try.func16, Try.ntmps16
  go_wp2
  go_loopw [1, 5] (fun q i wr => ∃ j : Nat, j ≤ n ∧ i = .int .i64 j ∧ q = .int .i64 (k + j) ∧ wr.ownsRow base 28 1 (.slice A n cap) n (marks (fun q => .float .f32 (floatOfInt .f32 q)) k j ++ xs.drop j) ∧ w.grownBy wr (Value.slice A n cap).ownBlock) (fun _ i _ => n - (intOf i).toNat)
  case atStart => exact ⟨0, Nat.zero_le _, rfl, by simp, by simpa [marks] using ho, World.grownBy.refl _ _⟩
  case round =>
    clear ho
    obtain ⟨j, hj, rfl, rfl, ho, hg⟩ := hrel
    by_cases hlt : j < n
    · obtain ⟨g, cap', hv, hbg, hgs⟩ := ho.form (by omega)
      injection hv with hv
      subst hv
      have hc := ho.cellAt j (by omega)
      have hf := ho.frozenAt j
      have hs := ho.stored j ((fun q => .float .f32 (floatOfInt .f32 q)) (k + (j : Int)))
      have hcell : ∃ u, wr.cell? ⟨g, j, none⟩ = some u := by
        rw [hc, List.getElem?_append_right (by rw [marks_length]; omega), marks_length, Nat.sub_self, List.getElem?_drop]
        exact ⟨_, List.getElem?_eq_getElem (by omega)⟩
      obtain ⟨u, hcu⟩ := hcell
      have HS := Lib.hid hs
      clear hc hs ho
      go_wp2
      try go_quiet (fail)
      go_wp2
      go_roundw
      case rel =>
        refine ⟨j + 1, by omega, by go_num, by go_num, ?_, only_setCell (p := ⟨g, j, none⟩) hg rfl _⟩
        have h1 := HS.out.1
        rw [marks_set _ _ _ n j hl hlt] at h1
        exact h1
      case measure => simp [intOf]; omega
    · have : j = n := by omega
      subst this
      go_wp2
      go_ret
      exact ⟨rfl, by simpa [List.drop_of_length_le (Nat.le_of_eq hl)] using ho, hg⟩


set_option maxRecDepth 100000 in
set_option maxHeartbeats 1000000 in
theorem markFloat32SS_c (w : World) (base base2 d : Nat) (A : Option Addr) (n cap : Nat) (ys : List RowHF) (hl : ys.length = n) (hn : n ≤ 1048576) (hr : ∀ r ∈ ys, r.2.2.length ≤ 1048576) (k : Int) (h0 : 0 ≤ k) (hk : k ≤ 2097152) (ho : w.ownsRow base 25 1 (.slice A n cap) n (ys.map rowVF))
    (hin : ∀ y ∈ ys, ∃ xs, w.ownsRow base2 28 1 (rowVF y) y.2.2.length xs) (hd : ∀ y ∈ ys, In (rowVF y) base2 d) :
    Calls Try.prog 25 #[.slice A n cap, .int .i64 k] w fun e w' => ∃ q : Int, e = .returned (.int .i64 q) ∧ 0 ≤ q ∧ q ≤ 2199023255552 ∧ Spot base2 d w w' := by
  have HD := Lib.hid hd
  have HR := Lib.hid hr
  clear hd hr
  go_enter Try.func25, Try.ntmps25
  go_wp2
  go_loopw [1, 5] (fun q i wr => ∃ (j : Nat) (p : Int), j ≤ n ∧ i = .int .i64 j ∧ q = .int .i64 p ∧ 0 ≤ p ∧ p ≤ k + 1048576 * j ∧ (∀ y ∈ ys, ∃ xs, wr.ownsRow base2 28 1 (rowVF y) y.2.2.length xs) ∧ wr.ownsRow base 25 1 (.slice A n cap) n (ys.map rowVF) ∧ Spot base2 d w wr) (fun _ i _ => n - (intOf i).toNat)
  case atStart => exact ⟨0, k, Nat.zero_le _, rfl, rfl, h0, by omega, hin, ho, Spot.refl _ _ _⟩
  case round =>
    clear hin ho
    obtain ⟨j, p, hj, rfl, rfl, hp0, hp1, hin, ho, hs⟩ := hrel
    by_cases hlt : j < n
    · obtain ⟨g, c', hv, hbg, hgs⟩ := ho.form (by omega)
      injection hv with hv hv2 hv3
      subst hv
      clear hv2 hv3
      have hjy : j < ys.length := by omega
      have hc1 := own_get ho hjy
      have hm := List.getElem_mem hjy
      obtain ⟨xs, hox⟩ := hin _ hm
      have hrj := HR.out _ hm
      have hdj := HD.out _ hm
      obtain ⟨⟨a, c, l⟩, hxx⟩ : ∃ x, ys[j]'hjy = x := ⟨_, rfl⟩
      rw [hxx] at hc1 hox hrj hdj
      simp only [rowVF] at hc1 hox hrj hdj
      have HIN := Lib.hid hin
      clear hxx hm hin
      go_wp2_with fail
      refine (markFloat32S_big wr base2 a l.length c xs (by omega) p hp0 (by omega) hox).mono ?_
      rintro e w2 ⟨rfl, ho2, hg2⟩
      have hin2 : ∀ y ∈ ys, ∃ xs, w2.ownsRow base2 28 1 (rowVF y) y.2.2.length xs := fun y hy => owned_kept (HIN.out y hy) hox ho2 hg2
      have ho3 := ho.kept hg2 (by
        cases hvv : (Value.slice a l.length c).ownBlock with
        | none => exact .inr (by simp [Value.ownBlock])
        | some g' => exact .inr fun he => own_types hox ho (by decide) g' hvv he)
      have hs2 := hs.trans (Spot.of_grown hg2 hdj)
      have HI2 := Lib.hid hin2
      clear hin2 hc1 hox ho2 hg2 ho
      go_wp2
      go_roundw
      case rel => exact ⟨j + 1, p + l.length, by omega, by go_num, by go_num, by omega, by push_cast; omega, HI2.out, ho3, hs2⟩
      case measure => simp [intOf]; omega
    · have : j = n := by omega
      subst this
      go_wp2
      go_ret
      exact ⟨_, rfl, hp0, by omega, hs⟩


end Go.Proofs.Ytlhffpjbjicfnaa
