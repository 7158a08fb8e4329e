/-
  Contract: the bytes of what is saved, of the program.
  Conditions: lengths at most 1048576.
-/
import Derived.Test.YtmkjlhobnlgpjaaBX
namespace Go.Proofs.Ytmkjlhobnlgpjaa
open Go.RowKit Go.Shelf
attribute [local go_sem] Oper.semAt_some

/-- a slice that a call made: nil, or at the head of a row -/
def RowA (A : Option Addr) (n cap : Nat) : Prop := (A = none ∧ n = 0 ∧ cap = 0) ∨ ∃ g, A = some ⟨g, 0, none⟩ ∧ n ≤ cap ∧ cap ≤ maxLen
theorem rowA_of {w : World} {base : Nat} {e : TypeId} {A : Option Addr} {n cap : Nat} {xs : List Value} (h : w.ownsRow base e 1 (.slice A n cap) n xs) : RowA A n cap := by
  rcases h.2 with ⟨h1, h2⟩ | ⟨g, c, cur, h1, _, _, h2, h3, _⟩
  · injection h1 with e1 e2 e3
    exact .inl ⟨e1, e2, e3⟩
  · injection h1 with e1 e2 e3
    subst e3
    exact .inr ⟨g, e1, h2, h3⟩
theorem rowA_ch {A : Option Addr} {n cap : Nat} (h : RowA A n cap) : ∃ g, ChA A g 0 n ∧ n ≤ cap ∧ cap ≤ 9223372036854775807 ∧ (A = none → cap = 0) := by
  rcases h with ⟨rfl, rfl, rfl⟩ | ⟨g, rfl, h1, h2⟩
  · exact ⟨0, .inr ⟨rfl, rfl⟩, Nat.le_refl _, by decide, fun _ => rfl⟩
  · exact ⟨g, .inl rfl, h1, by unfold maxLen at h2; omega, fun h => by cases h⟩
theorem chA_cell {A : Option Addr} {g n : Nat} (hA : ChA A g 0 n) {w : World} {B : Nat} {α : Type} {f : α → Value} {xs : List α} (hx : Sl w B A (xs.map f)) (hl : xs.length = n) (j : Nat) (hj : j < xs.length) : w.cell? ⟨g, j, none⟩ = some (f xs[j]) := by
  obtain ⟨b, off, e, _, hc⟩ := hx.get j hj
  rcases hA with rfl | ⟨_, h0⟩
  · injection e with e
    injection e with e1 e2 _
    subst e1 e2
    rw [Nat.zero_add] at hc
    exact hc
  · omega
theorem pow8 {j : Nat} (h : j < 8) : (2 : Int) ^ j % 256 = 2 ^ j := by
  have h1 : (2 : Int) ^ j ≤ 2 ^ 7 := by
    have := Nat.pow_le_pow_right (show 0 < 2 by decide) (show j ≤ 7 by omega)
    exact_mod_cast this
  have h2 : (0 : Int) ≤ 2 ^ j := Int.le_of_lt (Int.pow_pos (by decide))
  have h3 : (2 : Int) ^ 7 = 128 := by decide
  omega
theorem pkL_part {bs : List Bool} {P M : Nat} (hM : M ≤ 8) (h : M = 8 ∨ P + M = bs.length) : pkL bs P M = pkL bs P 8 := by
  rcases h with rfl | h
  · rfl
  · have h1 := pkL_end (bs := bs) (i := P) (k := M) (by omega) (8 - M)
    rw [show M + (8 - M) = 8 by omega] at h1
    exact h1.symm
theorem ch_part {g n x : Nat} (hx : x < chN 8 n) : ∃ P M, Hid (P = 8 * x) ∧ chV g 0 8 n x = .slice (some ⟨g, P, none⟩) M M ∧ M ≤ 8 ∧ P + M ≤ n ∧ 1 ≤ M ∧ (M = 8 ∨ P + M = n) := by
  have h := (chN_lt (q := 8) (len := n) (k := x) (by decide)).1 hx
  refine ⟨8 * x, min 8 (n - 8 * x), Lib.hid rfl, ?_, by omega, by omega, by omega, by omega⟩
  unfold chV
  rw [Nat.zero_add]
def storeR (s : ByteArray) (bs : List Bool) (xs : List Nat) : ByteArray := if validSavedB s bs xs then storeS s bs xs else ⟨#[]⟩
def pkAt (bs : List Bool) (x : Nat) : Int := pkL bs (8 * x) 8
def pksOf (bs : List Bool) {N : Nat} (l : List (Part N)) : List Int := l.map fun x => pkAt bs x.1
theorem pksOf_len (bs : List Bool) {N : Nat} (l : List (Part N)) : (pksOf bs l).length = l.length := List.length_map _
theorem pksOf_snoc (bs : List Bool) {N : Nat} (l : List (Part N)) (x : Part N) : pksOf bs (l ++ [x]) = pksOf bs l ++ [pkAt bs x.1] := by simp [pksOf]
theorem pksOf_all (bs : List Bool) {N : Nat} (l : List (Part N)) (h : l.map (·.1) = List.range N) : pksOf bs l = pkBytes bs N := by
  unfold pksOf pkBytes
  rw [← h, List.map_map]
  rfl
theorem strCells_u8 (s : ByteArray) : Lib.strCells s = u8V (nameL s) := by
  simp [Lib.strCells, u8V, nameL]

theorem valid_facts {s : ByteArray} {bs : List Bool} {xs : List Nat} (h : validSavedB s bs xs = true) : s.size ≤ 8 ∧ bs.length ≤ 160 ∧ xs.length ≤ 160 := by
  simp [validSavedB, nameB, softB] at h
  omega
theorem hd2_eq (s : ByteArray) (bs : List Bool) {n : Nat} (hl : bs.length = n) : u8V [83, 70, 84, 49, (s.size : Int)] ++ Lib.strCells s ++ [Value.int .u8 (n : Int)] = u8V (hd2 s bs) := by
  rw [strCells_u8]
  simp [u8V, hd2, hd1, hl]
theorem cells1 (w : World) (e : TypeId) (u : Value) (j : Nat) (u' : Value) (h : [u][j]? = some u') : (w.alloc (.cells #[u] e)).cell? ⟨w.heap.size, j, none⟩ = some u' := by
  rw [litNew, ← h]
  simp
theorem one1 {k : IntKind} {x : Int} : ∀ u ∈ [Value.int k x], u.oneCell' = true := by simp [Value.oneCell']
theorem three' {w w' : World} {D b : Nat} {u0 u1 u2 : Value} (hb : Below D w w') (hz : b < D) (h0 : w.cell? ⟨b, 0, none⟩ = some u0) (h1 : w.cell? ⟨b, 1, none⟩ = some u1) (h2 : w.cell? ⟨b, 2, none⟩ = some u2) :
    w'.cell? ⟨b, 0, none⟩ = some u0 ∧ w'.cell? ⟨b, 1, none⟩ = some u1 ∧ w'.cell? ⟨b, 2, none⟩ = some u2 :=
  ⟨(hb.cell (p := ⟨b, 0, none⟩) hz).trans h0, (hb.cell (p := ⟨b, 1, none⟩) hz).trans h1, (hb.cell (p := ⟨b, 2, none⟩) hz).trans h2⟩

theorem conv_at {w : World} {base g cap : Nat} {L : List Int} (ho : w.ownsRow base 5 1 (.slice (some ⟨g, 0, none⟩) L.length cap) L.length (u8V L)) : (convert 48 9 (.slice (some ⟨g, 0, none⟩) L.length cap)).run Try.prog w = .ok (.string (strOfNums L)) w := by
  refine run_convert_bytes_arg w 48 5 Try.underlying48 Try.underlying5 g 0 L.length cap L rfl (fun i hi => ?_) 9 Try.underlying9
  rw [Nat.zero_add, World.ownsRow.cellAt ho i (by omega)]
  simp [u8V, List.getD, hi]

set_option maxRecDepth 100000 in
theorem impl_BitsOf_c (w : World) (x : Nat) (hx : x < 4294967296) : Calls Try.prog 46 #[.float .f32 x] w fun e w' => e = .returned (.int .i64 (canB x : Int)) ∧ w = w' := by
  cases h : nanB .f32 x
  · have ho := order_self .f32 x h
    rw [can_nn h]
    have hfb := run_f32bits x
    have hw : IntKind.i64.wrap (x : Int) = (x : Int) := IntWalk.i64_in _ (by omega)
    clear h
    go_enter Try.func46, Try.ntmps46
    go_wp2
    go_ret
    exact ⟨rfl, rfl⟩
  · have ho := order_nan .f32 x x h
    rw [can_nan h]
    clear h
    go_enter Try.func46, Try.ntmps46
    go_wp2
    go_ret
    exact ⟨rfl, rfl⟩

set_option maxRecDepth 100000 in
set_option maxHeartbeats 4000000 in
theorem impl_StoreSaved_c (w : World) (s : ByteArray) (hs : s.size ≤ 1048576) (A : Option Addr) (n cap : Nat) (bs : List Bool) (hl : bs.length = n) (hn : n ≤ 1048576) (hx : Sl w w.heap.size A (bs.map Value.bool)) (hA : RowA A n cap)
    (A2 : Option Addr) (n2 cap2 : Nat) (xs : List Nat) (hl2 : xs.length = n2) (hn2 : n2 ≤ 1048576) (hx2 : Sl w w.heap.size A2 (xs.map (Value.float .f32))) (hf : ∀ x ∈ xs, x < 4294967296) :
    Calls Try.prog 17 #[.agg #[.string s, .slice A n cap, .slice A2 n2 cap2]] w fun e w' => e = .returned (.tuple #[.string (storeR s bs xs), .bool (validSavedB s bs xs)]) ∧ Below w.heap.size w w' := by
  unfold storeR
  obtain ⟨w0, e0⟩ : ∃ q : World, q = w.alloc (.cells #[.string s, .slice A n cap, .slice A2 n2 cap2] 35) := ⟨_, rfl⟩
  have z0 : w0.heap.size = w.heap.size + 1 := by rw [e0]; simp
  have B0 : Below w.heap.size w w0 := by rw [e0]; exact (Below.refl _ _).alloc (Nat.le_refl _) _
  have c0 : w0.cell? ⟨w.heap.size, 0, none⟩ = some (.string s) := by rw [e0]; (first | (simp; done) | (simp (disch := (first | (simp; done) | (simp; omega))) [World.cell?_alloc_at]; done) | (simp (disch := (first | (simp; done) | (simp; omega))) [World.cell?_alloc_past]; done) | (simp (disch := (first | (simp; done) | (simp; omega))) [World.cell?_alloc_at, World.cell?_alloc_past]; done) | (simp (disch := (first | (simp; done) | (simp; omega))) [World.frozen?_alloc_at]; done) | (simp (disch := (first | (simp; done) | (simp; omega))) [World.frozen?_alloc_past]; done) | (simp (disch := (first | (simp; done) | (simp; omega))) [World.frozen?_alloc_at, World.frozen?_alloc_past]; done))
  have c1 : w0.cell? ⟨w.heap.size, 1, none⟩ = some (.slice A n cap) := by rw [e0]; (first | (simp; done) | (simp (disch := (first | (simp; done) | (simp; omega))) [World.cell?_alloc_at]; done) | (simp (disch := (first | (simp; done) | (simp; omega))) [World.cell?_alloc_past]; done) | (simp (disch := (first | (simp; done) | (simp; omega))) [World.cell?_alloc_at, World.cell?_alloc_past]; done) | (simp (disch := (first | (simp; done) | (simp; omega))) [World.frozen?_alloc_at]; done) | (simp (disch := (first | (simp; done) | (simp; omega))) [World.frozen?_alloc_past]; done) | (simp (disch := (first | (simp; done) | (simp; omega))) [World.frozen?_alloc_at, World.frozen?_alloc_past]; done))
  have c2 : w0.cell? ⟨w.heap.size, 2, none⟩ = some (.slice A2 n2 cap2) := by rw [e0]; (first | (simp; done) | (simp (disch := (first | (simp; done) | (simp; omega))) [World.cell?_alloc_at]; done) | (simp (disch := (first | (simp; done) | (simp; omega))) [World.cell?_alloc_past]; done) | (simp (disch := (first | (simp; done) | (simp; omega))) [World.cell?_alloc_at, World.cell?_alloc_past]; done) | (simp (disch := (first | (simp; done) | (simp; omega))) [World.frozen?_alloc_at]; done) | (simp (disch := (first | (simp; done) | (simp; omega))) [World.frozen?_alloc_past]; done) | (simp (disch := (first | (simp; done) | (simp; omega))) [World.frozen?_alloc_at, World.frozen?_alloc_past]; done))
  have hV := impl_ValidSaved_c w0 s hs A n cap bs hl hn ((hx.below B0).more B0.size) A2 n2 cap2 xs hl2 hn2 ((hx2.below B0).more B0.size)
  cases hv : validSavedB s bs xs
  · rw [hv] at hV
    have HV := Lib.hid hV
    clear hV hv
    refine calls_marks Try.func17 rfl ?_
    simp only [Try.ntmps17, List.size_toArray, List.length_cons, List.length_nil, Nat.reduceAdd, Nat.reduceSub, Array.replicate_succ, Array.replicate_zero, List.push_toArray, List.append_toArray, List.nil_append, List.cons_append]
    go_wp2_with fail
    rw [← e0]
    refine HV.out.mono ?_
    rintro e w1 ⟨rfl, hb1⟩
    go_wp2
    refine marks_ret0 (results_tmp2 rfl _ _ _) rfl ?_
    exact ⟨rfl, B0.trans (hb1.mono (by omega))⟩
  · rw [hv] at hV
    have HV := Lib.hid hV
    have VF := Lib.hid (valid_facts hv)
    clear hV hv
    refine calls_marks Try.func17 rfl ?_
    simp only [Try.ntmps17, List.size_toArray, List.length_cons, List.length_nil, Nat.reduceAdd, Nat.reduceSub, Array.replicate_succ, Array.replicate_zero, List.push_toArray, List.append_toArray, List.nil_append, List.cons_append]
    go_wp2_with fail
    rw [← e0]
    refine HV.out.mono ?_
    rintro e w1 ⟨rfl, hb1⟩
    have hb1' : Below w0.heap.size w0 w1 := hb1
    have hz1 := hb1.size
    obtain ⟨c0, c1, c2⟩ := three' hb1 (by omega) c0 c1 c2
    have BD : Below w.heap.size w w1 := B0.trans (hb1.mono (by omega))
    obtain ⟨D, hD⟩ : ∃ D, w1.heap.size = D := ⟨_, rfl⟩
    have HH := Lib.hid (And.intro c0 (And.intro c1 c2))
    have hHD : w.heap.size < D := by omega
    have l1 : w.heap.size < w1.heap.size := by omega
    have HD := Lib.hid hD
    clear hD hb1 hb1' e0 c0 c1 c2
    obtain ⟨hs8, hn8, hm8⟩ := VF.out
    rw [hl] at hn8
    rw [hl2] at hm8
    have kc := fun (w : World) (C : Array Value) (n c : Nat) => Lib.run_convert_bytes_const (P := Try.prog) w 48 5 C n c Try.underlying48 Try.underlying5
    have hw1 : IntKind.u8.wrap (s.size : Int) = (s.size : Int) := IntWalk.u8_in _ (by omega)
    have hw2 : IntKind.u8.wrap (n : Int) = (n : Int) := IntWalk.u8_in _ (by omega)
    have hw3 : IntKind.u8.wrap (n2 : Int) = (n2 : Int) := IntWalk.u8_in _ (by omega)
    obtain ⟨d0, d1, d2⟩ := HH.out
    go_wp2_with (first
      | (at_builtin; refine appFull Try.underlying48 infoUint8 rfl (by decide) rfl (.tmp 18) (.tmp 23) rfl D _ 4 (u8V [83, 70, 84, 49]) rfl rfl (sft_cells _ _ _ _) _ _ (.int .u8 (s.size : Int)) rfl (cellNew _ _ _ _ (by simp)) rfl (by decide) (by simp; have := HD.out; omega) ?_; intro v1 w2 ho1 hb1; have B1 : Below D w1 w2 := ((((Below.refl D w1).alloc (by have := HD.out; omega) _).alloc (by simp; have := HD.out; omega) _).trans hb1); obtain ⟨c0, c1, c2⟩ := three' B1 hHD HH.out.1 HH.out.2.1 HH.out.2.2; have l2 : w.heap.size < w2.heap.size := Nat.lt_of_lt_of_le l1 B1.size; have ho1 : w2.ownsRow D 5 1 v1 5 (u8V [83, 70, 84, 49, (s.size : Int)]) := ho1; have hDB : D ≤ w2.heap.size := Nat.le_trans (Nat.le_of_eq HD.out.symm) B1.size; obtain ⟨g1, cap1, rfl⟩ := own_form ho1 (by decide))
      | (at_builtin; refine appBs Try.underlying48 Try.underlying9 infoUint8 rfl (.tmp 25) (.tmp 27) rfl _ D w2.heap.size 48 _ 5 (u8V [83, 70, 84, 49, (s.size : Int)]) rfl (Boxed.new _ _ _) (by decide) (World.ownsRow.alloc ho1 _) (Nat.le_trans hDB (by simp)) hDB _ rfl (by decide) (by omega) ?_; intro v3 w3 n3 N3 A3; have b3o := A3.old.cell; have b3f := A3.old.frozen; have b3n := A3.new.cell; have B3 := (B1.alloc hDB _).trans A3.bel; obtain ⟨d0, d1, d2⟩ := three' ((B1.alloc hDB _).trans A3.bel0) hHD HH.out.1 HH.out.2.1 HH.out.2.2; have l3 : w.heap.size < w3.heap.size := Nat.lt_of_lt_of_le l2 (Nat.le_trans (by simp) A3.bel0.size); obtain ⟨g3, cap3, rfl⟩ := A3.form)
      | (at_builtin; go_must (refine appBx Try.underlying48 infoUint8 rfl (by decide) rfl (.tmp 29) (.tmp 34) rfl _ D w2.heap.size 48 _ n3 (u8V [83, 70, 84, 49, (s.size : Int)] ++ Lib.strCells s) rfl A3.new (by decide) A3.row (Nat.le_trans hDB (by have := A3.bel.size; simp at this ⊢; omega)) hDB _ (by simp) _ _ 1 _ [.int .u8 (n : Int)] rfl rfl (by decide) (cells1 _ _ _) one1 (by have := N3.out; omega) ?_); intro v4 w4 n4 N4 A4; rw [hd2_eq s bs hl] at A4; have b4o := A4.old.cell; have b4f := A4.old.frozen; have b4n := A4.new.cell; have B4 := B3.trans A4.bel; obtain ⟨f0, f1, f2⟩ := three' (B3.trans A4.bel0) hHD HH.out.1 HH.out.2.1 HH.out.2.2; have l4 : w.heap.size < w4.heap.size := Nat.lt_of_lt_of_le l3 (by have := A4.bel0.size; simpa using this); have m3 : w2.heap.size < w3.heap.size := A3.old.lt; have m4 : w2.heap.size < w4.heap.size := A4.old.lt; obtain ⟨g4, cap4, rfl⟩ := A4.form)
      | (go_at_call 45; refine ((callsIn_wide (n := 3)).1 (Chunk_bool_in 3 A n cap 8 (by decide) _)).mono ?_; rintro e w5 ⟨rfl, rfl⟩))
    obtain ⟨gA, hCA, hc1, hc2, hc3⟩ := rowA_ch hA
    have hxD : Sl w1 D A (bs.map Value.bool) := (hx.below BD).more (Nat.le_trans (Nat.le_of_lt l1) (Nat.le_of_eq HD.out))
    have hbx1 := Boxed.new (w4.setCell ⟨w2.heap.size, 0, none⟩ (.slice (some ⟨g4, 0, none⟩) n4 cap4)) 28 (.slice A n cap)
    have hbx2 := Boxed.new ((w4.setCell ⟨w2.heap.size, 0, none⟩ (.slice (some ⟨g4, 0, none⟩) n4 cap4)).alloc (.cells #[.slice A n cap] 28)) 3 (.int .i64 8)
    obtain ⟨W5, e5⟩ : ∃ q : World, q = ((w4.setCell ⟨w2.heap.size, 0, none⟩ (.slice (some ⟨g4, 0, none⟩) n4 cap4)).alloc (.cells #[.slice A n cap] 28)).alloc (.cells #[.int .i64 8] 3) := ⟨_, rfl⟩
    have hbf : Bufd W5 D w2.heap.size 48 5 (u8V (hd2 s bs)) := by
      rw [e5]
      obtain ⟨v, k1, k2, k3⟩ := A4.buf
      exact ⟨v, (k1.alloc _).alloc _, World.ownsRow.alloc (World.ownsRow.alloc k2 _) _, k3⟩
    have hz4 : (w4.setCell ⟨w2.heap.size, 0, none⟩ (.slice (some ⟨g4, 0, none⟩) n4 cap4)).heap.size = w4.heap.size := by simp
    have hB5 : Below D w1 W5 := by
      rw [e5]
      exact (B4.alloc (by rw [hz4]; omega) _).alloc (by simp; omega) _
    rw [← e5] at hbx2 ⊢
    have hbx1 : Boxed W5 w4.heap.size 28 (.slice A n cap) := by rw [e5, ← hz4]; exact hbx1.alloc _
    have hz5 : W5.heap.size = w4.heap.size + 2 := by rw [e5]; simp
    have hbx2 : Boxed W5 (w4.heap.size + 1) 3 (.int .i64 8) := by simpa using hbx2
    clear e5 hz4
    refine wp_chunk_bool' 39 5 w4.heap.size (w4.heap.size + 1) gA 0 n cap 8 A rfl rfl hCA (by decide) (by decide) hn hc1 hc2 hc3 (by omega) (by omega) hbx1.cell hbx2.cell
      (fun pre W => (Bufd W D w2.heap.size 48 5 (u8V (hd2 s bs ++ pksOf bs pre)) ∧ Boxed W w4.heap.size 28 (.slice A n cap) ∧ Boxed W (w4.heap.size + 1) 3 (.int .i64 8)) ∧ Below D w1 W)
      (loopI_own D _ _ _ _ _ _ _ _ _ _ w1 _ (Nat.le_of_eq HD.out.symm) (by omega)) ⟨⟨by simpa [pksOf] using hbf, hbx1, hbx2⟩, hB5⟩ ?assign ?body ?done
    case assign =>
      intro l x W K hK
      gi_wp2
      exact hK
    case body =>
      rintro l pre x W ⟨⟨hbf, hq1, hq2⟩, hBW⟩ hlp
      obtain ⟨P, M, HP, hch, hM8, hPM, hM1, hMe⟩ := ch_part (g := gA) x.2
      rw [hch]
      simp only [List.setIfInBounds_toArray, List.set_cons_succ, List.set_cons_zero]
      gi_wp2
      gi_loop [6, 42] (fun y i => ∃ j : Nat, j ≤ M ∧ i = .int .i64 j ∧ y = .int .u8 (pkL bs P j)) (fun _ i => M - (intOf i).toNat)
      case atStart => exact ⟨0, Nat.zero_le _, rfl, rfl⟩
      case round =>
        obtain ⟨j, hj, rfl, rfl⟩ := hrel
        by_cases hlt : j < M
        · have hPj : P + j < bs.length := by omega
          have hc := chA_cell hCA (hxD.below hBW) hl (P + j) hPj
          cases hbit : bs[P + j]
          · have hor := pkL_no (bs := bs) (i := P) (k := j) (by rw [getD_of hPj]; exact hbit)
            rw [hbit] at hc
            have HO := Lib.hid hor
            clear hor hbit
            gi_wp2
            go_round
            case rel => exact ⟨j + 1, by omega, by go_num, by rw [HO.out]⟩
            case measure => simp [intOf] <;> omega
          · have hor := pkL_or (bs := bs) (i := P) (k := j) (by omega) (by rw [getD_of hPj]; exact hbit)
            rw [hbit] at hc
            have HO := Lib.hid hor
            clear hor hbit
            gi_wp2
            go_round
            case rel => exact ⟨j + 1, by omega, by go_num, by rw [← HO.out, pow8 (by omega)]⟩
            case measure => simp [intOf] <;> omega
        · obtain rfl : j = M := by omega
          obtain ⟨v5, k1, k2, g5, cap5, rfl⟩ := hbf
          have hcel := k1.cell
          have hpl := pre.length
          have hch20 := chN8 n hn8
          have hle : (u8V (hd2 s bs ++ pksOf bs pre)).length ≤ 1000 := by
            unfold u8V
            rw [List.length_map, List.length_append, hd2_len, pksOf_len]
            omega
          have hst : u8V (hd2 s bs ++ pksOf bs pre) ++ [Value.int .u8 (pkL bs P j)] = u8V (hd2 s bs ++ pksOf bs (pre ++ [x])) := by
            rw [pkL_part hM8 (by rw [hl]; exact hMe), HP.out]
            rw [pksOf_snoc]
            simp [u8V, pkAt]
          have hDW : D ≤ W.heap.size := Nat.le_trans (Nat.le_of_eq HD.out.symm) hBW.size
          obtain ⟨N0, hN0⟩ : ∃ N0, (u8V (hd2 s bs ++ pksOf bs pre)).length = N0 := ⟨_, rfl⟩
          rw [hN0] at hcel hle k1 k2
          have HT := Lib.hid hst
          have HN0 := Lib.hid hN0
          clear hst hN0 hpl
          gi_wp2_with (gi_at_builtin; go_must (refine appBxIn Try.underlying48 infoUint8 rfl (by decide) rfl (.tmp 53) (.tmp 55) rfl W D w2.heap.size 48 (.slice (some ⟨g5, 0, none⟩) N0 cap5) N0 _ rfl k1 (by decide) k2 hDW hDB _ (by simp) _ _ 1 _ [.int .u8 (pkL bs P j)] rfl rfl (by decide) (cells1 _ _ _) one1 (by omega) ?_); intro v6 w6 n6 N6 A6; rw [HT.out] at A6; have b6o := A6.old.cell; have b6f := A6.old.frozen; have hA6 := A6; obtain ⟨g6, cap6, rfl⟩ := A6.form)
          have hq1' := hA6.box k2 hq1 (by decide) (by omega)
          have hq2' := hA6.box k2 hq2 (by decide) (by omega)
          refine ⟨hA6.oth.from _, ⟨hq1'.trans hq1.symm, hq2'.trans hq2.symm⟩, ⟨hA6.buf, hq1', hq2'⟩, hBW.trans hA6.bel⟩
    case done =>
      rintro Dd ys W hDd hys ⟨⟨hbf, _, _⟩, hBW⟩ hK
      rw [pksOf_all bs ys hys] at hbf
      obtain ⟨v5, k1, k2, g5, cap5, rfl⟩ := hbf
      have hcel := k1.cell
      have hfrz := k1.frozen
      have hch20 := chN8 n hn8
      have hle : (u8V (hd2 s bs ++ pkBytes bs (chN 8 n))).length ≤ 1000 := by
        unfold u8V
        rw [List.length_map, List.length_append, hd2_len, pkBytes_len]
        omega
      have hst : u8V (hd2 s bs ++ pkBytes bs (chN 8 n)) ++ [Value.int .u8 (n2 : Int)] = u8V (hd3 s bs xs ++ fours xs 0) := by
        simp [u8V, hd3, hl2, hl, fours]
      have hDW : D ≤ W.heap.size := Nat.le_trans (Nat.le_of_eq HD.out.symm) hBW.size
      have lW : w.heap.size < W.heap.size := Nat.lt_of_lt_of_le l1 hBW.size
      have mW : w2.heap.size < W.heap.size := k1.lt
      obtain ⟨N0, hN0⟩ : ∃ N0, (u8V (hd2 s bs ++ pkBytes bs (chN 8 n))).length = N0 := ⟨_, rfl⟩
      rw [hN0] at hcel hle k1 k2
      obtain ⟨p0, p1, p2⟩ := three' hBW hHD HH.out.1 HH.out.2.1 HH.out.2.2
      have HT := Lib.hid hst
      have HYS := Lib.hid hys
      clear hst hN0 hys c0 c1 c2 d0 d1 d2 f0 f1 f2
      go_wp2_with (at_builtin; go_must (refine appBx Try.underlying48 infoUint8 rfl (by decide) rfl (.tmp 57) (.tmp 62) rfl W D w2.heap.size 48 (.slice (some ⟨g5, 0, none⟩) N0 cap5) N0 _ rfl k1 (by decide) k2 hDW hDB _ (by simp) _ _ 1 _ [.int .u8 (n2 : Int)] rfl rfl (by decide) (cells1 _ _ _) one1 (by omega) ?_); intro v6 w6 n6 N6 A6; rw [HT.out] at A6; have b6o := A6.old.cell; have b6f := A6.old.frozen; have hA6 := A6; obtain ⟨g6, cap6, rfl⟩ := A6.form; obtain ⟨q0, q1, q2⟩ := three' (hBW.trans A6.bel0) hHD HH.out.1 HH.out.2.1 HH.out.2.2; have l6 : w.heap.size < w6.heap.size := Nat.lt_of_lt_of_le lW A6.bel0.size; have m6 : w2.heap.size < w6.heap.size := A6.old.lt)
      have hK6 := hA6.oth.same Dd _ hK rfl
      have hB6 := hBW.trans hA6.bel
      have hbf6 := hA6.buf
      clear hA6 b6o b6f q0 q1 q2 l6 m6
      go_loopw [67] (fun i wr => ∃ k : Nat, k ≤ n2 ∧ i = .int .i64 k ∧ Bufd wr D w2.heap.size 48 5 (u8V (hd3 s bs xs ++ fours xs k)) ∧ Below D w1 wr ∧ wr.heap[Dd]? = some (.deferred (some []))) (fun i _ => n2 - (intOf i).toNat)
      case atStart => exact ⟨0, Nat.zero_le _, rfl, hbf6, hB6, hK6⟩
      case round =>
        clear hbf6 hB6 hK6 hK hBW
        obtain ⟨j, hj, rfl, hbr, hBr, hKr⟩ := hrel
        obtain ⟨q0, q1, q2⟩ := three' hBr hHD HH.out.1 HH.out.2.1 HH.out.2.2
        obtain ⟨v7, k3, k4, g7, cap7, rfl⟩ := hbr
        have hrc := k3.cell
        have hrf := k3.frozen
        have hle3 : (u8V (hd3 s bs xs ++ fours xs j)).length ≤ 1000 := by
          unfold u8V
          rw [List.length_map, List.length_append, hd3_len, fours_len (by omega), hl]
          omega
        have hDr : D ≤ wr.heap.size := Nat.le_trans (Nat.le_of_eq HD.out.symm) hBr.size
        have lr : w.heap.size < wr.heap.size := Nat.lt_of_lt_of_le l1 hBr.size
        have mr : w2.heap.size < wr.heap.size := k3.lt
        by_cases hlt : j < n2
        · obtain ⟨N1, hN1⟩ : ∃ N1, (u8V (hd3 s bs xs ++ fours xs j)).length = N1 := ⟨_, rfl⟩
          rw [hN1] at hrc hle3 k3 k4
          clear hN1
          obtain ⟨g, off, rfl, _, hc⟩ := (hx2.below (BD.trans (hBr.mono (by have := HD.out; omega)))).get j (by omega)
          have hst := fours_step (L := hd3 s bs xs) (xs := xs) (k := j) (by omega)
          have hxb := hf (xs[j]'(by omega)) (List.getElem_mem _)
          have hcb := canB_bd hxb
          obtain ⟨q, hq⟩ : ∃ q : Nat, canB (xs[j]'(by omega)) = q := ⟨_, rfl⟩
          have hcall := fun W => impl_BitsOf_c W (xs[j]'(by omega)) hxb
          rw [hq] at hst hcb hcall
          have HT := Lib.hid hst
          have HC := Lib.hid hcall
          clear hst hq hcall
          go_wp2_with (first
            | (go_at_call 46; refine (HC.out _).mono ?_; rintro e w' ⟨rfl, rfl⟩)
            | (at_builtin; go_must (refine appBx Try.underlying48 infoUint8 rfl (by decide) rfl (.tmp 73) (.tmp 85) rfl _ D w2.heap.size 48 (.slice (some ⟨g7, 0, none⟩) N1 cap7) N1 _ rfl k3 (by decide) k4 hDr hDB _ (by simp) _ _ 4 _ _ rfl rfl (by decide) (cells4 _ _ _ _ _ _) (by simp [Value.oneCell']) (by omega) ?_); intro v8 w8 n8 N8 A8; rw [HT.out] at A8; have b8o := A8.old.cell; have b8f := A8.old.frozen; have hA8 := A8; obtain ⟨g8, cap8, rfl⟩ := A8.form))
          have hK8 := hA8.oth.same Dd _ hKr rfl
          have hB8 := hBr.trans hA8.bel
          have hbf8 := hA8.buf
          clear hA8 b8o b8f
          go_roundw
          case rel => exact ⟨j + 1, by omega, by go_num, hbf8, hB8, hK8⟩
          case measure => simp [intOf] <;> omega
        · have e3 : hd3 s bs xs ++ fours xs j = headL s bs xs := by
            unfold headL
            rw [show j = xs.length by omega]
          rw [e3] at hrc hle3 k3 k4
          clear e3
          have hhl := headL_len s bs xs
          rw [hl, hl2] at hhl
          have hlu : (u8V (headL s bs xs)).length = (headL s bs xs).length := List.length_map _
          rw [hlu] at hrc hle3 k3 k4
          have hcs := conv_at k4
          have hcb := chkS_bd (strOfNums (headL s bs xs))
          have hcall := fun W => impl_CheckOf_c W (strOfNums (headL s bs xs)) (by rw [strOfNums_size]; omega)
          have hst : u8V (headL s bs xs) ++ [.int .u8 (chkS (strOfNums (headL s bs xs)) % 256), .int .u8 (chkS (strOfNums (headL s bs xs)) / 256)] = u8V (storeN s bs xs) := by simp [u8V, storeN]
          have hsl : (storeN s bs xs).length = (headL s bs xs).length + 2 := by simp [storeN]
          obtain ⟨q, hq⟩ : ∃ q : Int, chkS (strOfNums (headL s bs xs)) = q := ⟨_, rfl⟩
          rw [hq] at hcb hcall hst
          obtain ⟨qb0, qb1⟩ := hcb
          obtain ⟨N1, hN1⟩ : ∃ N1, (headL s bs xs).length = N1 := ⟨_, rfl⟩
          rw [hN1] at hrc hle3 k3 k4 hcs hsl
          have HT := Lib.hid hst
          have HC := Lib.hid hcall
          have HL := Lib.hid hsl
          clear hst hq hcall hsl hhl hlu hN1
          go_wp2_with (first
            | (go_at_call 47; refine (HC.out _).mono ?_; rintro e w' ⟨rfl, rfl⟩)
            | (at_builtin; go_must (refine appNK Try.underlying48 infoUint8 rfl (by decide) rfl (.tmp 94) (.tmp 100) rfl _ D (.slice (some ⟨g7, 0, none⟩) N1 cap7) N1 _ rfl k4 hDr _ (by simp) _ _ 2 _ _ rfl rfl (cells2 _ _ _ _) (by simp [Value.oneCell']) (by omega) ?_); intro v8 w8 ho8 hB8 hO8; rw [HT.out, ← HL.out] at ho8; obtain ⟨g8, cap8, rfl⟩ := own_form ho8 (by rw [HL.out]; omega); have hcs8 := conv_at ho8))
          have hKe := hO8.same Dd _ hKr rfl
          have hBe : Below w.heap.size w w8 := BD.trans ((hBr.trans hB8).mono (by have := HD.out; omega))
          refine marks_ret1 rfl hKe (results_tmp2 rfl _ _ _) ?_
          exact ⟨rfl, hBe.trans (belowK_b (w := w) (Nat.le_refl _) w8 Dd _ _ (by omega) hKe rfl rfl)⟩

end Go.Proofs.Ytmkjlhobnlgpjaa
