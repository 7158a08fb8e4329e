/-
  Under way: the best way, of the reference.
  Conditions: as each theorem says.
-/
import Derived.Test.YtopeidmafalklaaWC
import Derived.Test.YtopeidmafalklaaRW
import Derived.Lib.Hide
namespace Go.Proofs.Ytopeidmafalklaa
open Go.RowKit

theorem infoRow : (Try.prog.info? 22).map (fun i => (i.zero, i.size, i.bytes)) = some (some (.slice none 0 0), 1, 24) := by kernel_rfl

theorem sl_part {w : World} {B b off : Nat} {xs : List Value} (h : Sl w B (some ⟨b, off, none⟩) xs) (k n : Nat) : Sl w B (some ⟨b, off + k, none⟩) ((xs.drop k).take n) := by
  rcases h with rfl | ⟨b', off', e, hb, hc⟩
  · simp [Sl]
  · obtain ⟨rfl, rfl⟩ : b = b' ∧ off = off' := by simpa using e
    refine .inr ⟨b, off + k, rfl, hb, fun j u hu => ?_⟩
    have h2 := hc (k + j) u (by
      rw [List.getElem?_take] at hu
      split at hu
      · rw [List.getElem?_drop] at hu; exact hu
      · cases hu)
    rw [Nat.add_assoc]
    exact h2
theorem add_atW (g j : Nat) : (⟨g, 0, none⟩ : Addr).add j = ⟨g, j, none⟩ := by unfold Addr.add; split <;> simp_all
theorem appGW {P : Program} {t e : TypeId} (ht : P.underlying t = some (.slice e)) {z : Value} {bytes : Nat} (hi : (P.info? e).map (fun i => (i.zero, i.size, i.bytes)) = some (some z, 1, bytes)) (hz : z.cells.size = 1) (hby : bytes ≤ 64)
    {w : World} {ops : Array Oper} {rest : List Oper} {o : Oper} {a : Act} {Q : Exit → Act → World → Prop} (hgd : o.guard = none) (s x : Operand)
    (ho : o.op = .call { callee := .builtin .append, args := #[s, x], argTypes := #[t, t] }) (base : Nat) (v : Value) (xs : List Value) (hs : a.eval s = v) (hown : Ow w base e v xs)
    (g c : Nat) (u : Value) (hx : a.eval x = .slice (some ⟨g, 0, none⟩) 1 c) (hc : w.cell? ⟨g, 0, none⟩ = some u) (h1 : u.oneCell' = true)
    (hlen : xs.length + 1 ≤ 1099511627776) (hbase : base ≤ w.heap.size)
    (h : ∀ v' w', Ow w' base e v' (xs ++ [u]) → w.grownBy w' v.ownBlock → wpList P ops Q rest (a.put o.dst v') w') : wpList P ops Q (o :: rest) a w := by
  obtain ⟨i, hi1, hi2, hi3, hi4⟩ := info_ok hi
  refine wpList_append_own (P := P) w hgd s x t ho base e i z 1 bytes ht hi1 hi2 hi3 hi4 hz (by decide) v xs.length xs hs hown ⟨g, 0, none⟩ 1 c [u] hx (by simp) ?_ (by simpa using h1) ?_ ?_ hbase ?_
  · intro j u' hu
    rw [add_atW]
    cases j with
    | zero => cases hu; exact hc
    | succ j => cases hu
  · unfold maxLen; omega
  · have h2 : (xs.length + 1) * bytes ≤ 1099511627776 * 64 := Nat.mul_le_mul hlen hby
    omega
  · intro v' w' h2 h3 _
    refine h v' w' ?_ h3
    unfold Ow
    rw [List.length_append, List.length_singleton]
    exact h2
/-- what the loop over steps keeps: the table of the step before, and from where each state was reached in all steps so far -/
def WayRel (w : World) (S : Nat) (T : Tb) (Fs : List (List Int)) (v10 v11 v12 : Value) (wr : World) : Prop :=
  ∃ (b10 b11 : Nat) (gs bs : List Nat), w.heap.size ≤ b10 ∧ w.heap.size ≤ b11 ∧ v10 = .slice (some ⟨b10, 0, none⟩) S S ∧ v11 = .slice (some ⟨b11, 0, none⟩) S S ∧
    Row wr b10 4 (T.h.map Value.bool) ∧ gs.map (fl .f32) = T.g ∧ Row wr b11 46 (gs.map (Value.float .f32)) ∧
    Ow wr w.heap.size 22 v12 (bs.map fun g => Value.slice (some ⟨g, 0, none⟩) S S) ∧ bs.length = Fs.length ∧
    (∀ i, i < bs.length → w.heap.size ≤ bs.getD i 0 ∧ Row wr (bs.getD i 0) 2 ((Fs.getD i []).map (Value.int .i64))) ∧ Below w.heap.size w wr
theorem WayRel.drewN {w : World} {S : Nat} {T : Tb} {Fs : List (List Int)} {v10 v11 v12 : Value} {wr : World} (h : WayRel w S T Fs v10 v11 v12 wr) (k : Nat) : WayRel w S T Fs v10 v11 v12 (wr.drewN k) := by
  obtain ⟨b10, b11, gs, bs, h1, h2, h3, h4, h5, h6, h7, h8, h9, h10, h11⟩ := h
  exact ⟨b10, b11, gs, bs, h1, h2, h3, h4, h5, h6, h7, h8, h9, h10, below_drewN h11 k⟩

/-- what the loop over states keeps: the rows of the next table -/
def MidRel (B : Nat) (T : Tb) (ns : List Nat) (W : World) : Prop :=
  (Row W B 46 (ns.map (Value.float .f32)) ∧ ns.map (fl .f32) = T.g) ∧ Row W (B + 1) 4 (T.h.map Value.bool) ∧ Row W (B + 1 + 1) 2 (T.f.map (Value.int .i64))
theorem mid_new (W : World) (S : Nat) : MidRel W.heap.size (newT S) (List.replicate S 0) (((W.alloc (.cells (zeroRow (.float .f32 0) S) 46)).alloc (.cells (zeroRow (.bool false) S) 4)).alloc (.cells (zeroRow (.int .i64 0) S) 2)) := by
  refine ⟨⟨?_, ?_⟩, ?_, ?_⟩
  · rw [List.map_replicate]
    exact ((Row.new _ _ _ _).alloc _).alloc _
  · unfold newT
    simp only [List.map_replicate, fl0]
  · have h := Row.new (W.alloc (.cells (zeroRow (.float .f32 0) S) 46)) 4 (.bool false) S
    unfold newT
    rw [List.map_replicate]
    have h2 := h.alloc (.cells (zeroRow (.int .i64 0) S) 2)
    simpa using h2
  · have h := Row.new ((W.alloc (.cells (zeroRow (.float .f32 0) S) 46)).alloc (.cells (zeroRow (.bool false) S) 4)) 2 (.int .i64 0) S
    unfold newT
    rw [List.map_replicate]
    simpa using h

/-- the table within a state: behind so many bits -/
def bitT (M : Nat) (ms : List Int) (part : List Nat) (last : Bool) (T0 : Tb) (s : Nat) : Nat → Tb
  | 0 => rowT M ms part last T0 s
  | 1 => edgeT M ms part last T0 s false (rowT M ms part last T0 s)
  | _ + 2 => rowT M ms part last T0 (s + 1)
theorem bitT_step {M : Nat} {ms : List Int} {part : List Nat} {last : Bool} {T0 : Tb} {s j : Nat} (b : Bool) (hj : (j : Int) = bitI b) : bitT M ms part last T0 s (j + 1) = edgeT M ms part last T0 s b (bitT M ms part last T0 s j) := by
  cases b
  · obtain rfl : j = 0 := by have : bitI false = 0 := rfl; omega
    rfl
  · obtain rfl : j = 1 := by have : bitI true = 1 := rfl; omega
    rfl
theorem edge_not {M : Nat} {ms : List Int} {part : List Nat} {last : Bool} {T0 T : Tb} {s : Nat} {b : Bool} (h : T0.h.getD s false = false) : edgeT M ms part last T0 s b T = T := by unfold edgeT; rw [h]; rfl
theorem row_not {M : Nat} {ms : List Int} {part : List Nat} {last : Bool} {T0 : Tb} {s : Nat} (h : T0.h.getD s false = false) : rowT M ms part last T0 (s + 1) = rowT M ms part last T0 s := by
  show edgeT _ _ _ _ _ _ true (edgeT _ _ _ _ _ _ false _) = _
  rw [edge_not h, edge_not h]
theorem edge_last {M : Nat} {ms : List Int} {part : List Nat} {T0 T : Tb} {s : Nat} : edgeT M ms part true T0 s true T = T := by unfold edgeT; cases T0.h.getD s false <;> rfl
theorem edge_yes {M : Nat} {ms : List Int} {part : List Nat} {last : Bool} {T0 T : Tb} {s : Nat} {b : Bool} (h : T0.h.getD s false = true) (hb : (b && last) = false) : edgeT M ms part last T0 s b T = updT T (toS M s b) (edgeX ms part T0 s b) s := by unfold edgeT; rw [h, hb]; rfl
theorem bitT_sz {M : Nat} {ms : List Int} {part : List Nat} {last : Bool} {T0 : Tb} {s : Nat} (hs : s < 2 ^ M) : ∀ j, Sz (2 ^ M) (bitT M ms part last T0 s j)
  | 0 => sz_row s (by omega)
  | 1 => sz_edge (sz_row s (by omega)) hs _
  | _ + 2 => sz_row (s + 1) hs
theorem toS_eq (M s : Nat) (b : Bool) : (2 * (s : Int) + bitI b) % 2 ^ M = ((toS M s b : Nat) : Int) := by
  have h0 : (0 : Int) < 2 ^ M := Int.pow_pos (by decide)
  have h1 := Int.emod_nonneg (2 * (s : Int) + bitI b) (Int.ne_of_gt h0)
  unfold toS
  omega
theorem mid_put {B : Nat} {T : Tb} {ns : List Nat} {W : World} (h : MidRel B T ns W) (to : Nat) (v : Nat) (x : Option Nat) (hv : fl .f32 v = x) (s : Int) :
    MidRel B ⟨T.h.set to true, T.g.set to x, T.f.set to s⟩ (ns.set to v) (((W.setCell ⟨B + 1, to, none⟩ (.bool true)).setCell ⟨B, to, none⟩ (.float .f32 v)).setCell ⟨B + 1 + 1, to, none⟩ (.int .i64 s)) := by
  obtain ⟨⟨h1, h2⟩, h3, h4⟩ := h
  refine ⟨⟨?_, ?_⟩, ?_, ?_⟩
  · rw [List.map_set]
    exact ((h1.far (by omega) _ _).put _ _).far (by omega) _ _
  · rw [List.map_set, h2, hv]
  · rw [List.map_set]
    exact ((h3.put _ _).far (by omega) _ _).far (by omega) _ _
  · rw [List.map_set]
    exact ((h4.far (by omega) _ _).far (by omega) _ _).put _ _
theorem upd_yes {T : Tb} {to : Nat} {x : Option Nat} {s : Int} (h : betT T to x = true) : updT T to x s = ⟨T.h.set to true, T.g.set to x, T.f.set to s⟩ := if_pos h
theorem upd_no {T : Tb} {to : Nat} {x : Option Nat} {s : Int} (h : betT T to x = false) : updT T to x s = T := if_neg (by rw [h]; decide)
theorem MidRel.drewN {B : Nat} {T : Tb} {ns : List Nat} {W : World} (h : MidRel B T ns W) (k : Nat) : MidRel B T ns (W.drewN k) := h
theorem MidRel.below {B D : Nat} {T : Tb} {ns : List Nat} {W W' : World} (h : MidRel B T ns W) (hb : Below D W W') (hD : B + 1 + 1 < D) : MidRel B T ns W' :=
  ⟨⟨h.1.1.below hb (by omega), h.1.2⟩, h.2.1.below hb (by omega), h.2.2.below hb hD⟩

theorem WayRel.step {w : World} {S : Nat} {Fs : List (List Int)} {v12 v' : Value} {wA wB w1 : World} {bs ns : List Nat} {T' : Tb} (hbw : Below w.heap.size w wA)
    (hBF : Ow wA w.heap.size 22 v12 (bs.map fun g => Value.slice (some ⟨g, 0, none⟩) S S)) (hbl : bs.length = Fs.length)
    (hbr : ∀ i, i < bs.length → w.heap.size ≤ bs.getD i 0 ∧ Row wA (bs.getD i 0) 2 ((Fs.getD i []).map (Value.int .i64)))
    (hm : MidRel wA.heap.size T' ns wB) (hbA : Below wA.heap.size wA wB) (hz3 : wA.heap.size + 1 + 1 + 1 ≤ wB.heap.size) (o : Go.Obj) (hg : (wB.alloc o).grownBy w1 v12.ownBlock)
    (ho : Ow w1 w.heap.size 22 v' ((bs.map fun g => Value.slice (some ⟨g, 0, none⟩) S S) ++ [Value.slice (some ⟨wA.heap.size + 1 + 1, 0, none⟩) S S])) :
    WayRel w S T' (Fs ++ [T'.f]) (.slice (some ⟨wA.heap.size + 1, 0, none⟩) S S) (.slice (some ⟨wA.heap.size, 0, none⟩) S S) v' w1 := by
  have hz := hbw.size
  have hoB : Ow wB w.heap.size 22 v12 (bs.map fun g => Value.slice (some ⟨g, 0, none⟩) S S) := own_below hBF hbA (Nat.le_refl _)
  have hoC := hoB.alloc o
  obtain ⟨⟨m1, m2⟩, m3, m4⟩ := hm
  have hbB : Below w.heap.size w wB := hbw.trans (hbA.mono hz)
  refine ⟨wA.heap.size + 1, wA.heap.size, ns, bs ++ [wA.heap.size + 1 + 1], by omega, hz, rfl, rfl, (m3.alloc o).kept hoC (by decide) hg, m2, (m1.alloc o).kept hoC (by decide) hg, ?_, by simp [hbl], ?_, (hbB.alloc (by omega) o).grown hg (by simp; omega) fun k hk => (hoC.lt k hk).1⟩
  · rw [List.map_append]
    exact ho
  · intro i hi
    rw [List.length_append, List.length_singleton] at hi
    by_cases h : i < bs.length
    · obtain ⟨h1, h2⟩ := hbr i h
      have e1 : (bs ++ [wA.heap.size + 1 + 1]).getD i 0 = bs.getD i 0 := by simp only [List.getD, List.getElem?_append_left h]
      have e2 : (Fs ++ [T'.f]).getD i [] = Fs.getD i [] := by simp only [List.getD, List.getElem?_append_left (hbl ▸ h)]
      rw [e1, e2]
      exact ⟨h1, ((h2.below hbA h2.lt).alloc o).kept hoC (by decide) hg⟩
    · have e0 : i = bs.length := by omega
      subst e0
      have e1 : (bs ++ [wA.heap.size + 1 + 1]).getD bs.length 0 = wA.heap.size + 1 + 1 := by simp [List.getD]
      have e2 : (Fs ++ [T'.f]).getD bs.length [] = T'.f := by rw [hbl]; simp [List.getD]
      rw [e1, e2]
      exact ⟨by omega, (m4.alloc o).kept hoC (by decide) hg⟩
/-- the bits that are read back, from a place on -/
def restB (M : Nat) (ms : List Int) (soft : List Nat) (n m : Nat) : List Bool := (List.range n).map fun t => if m ≤ t then backS M ms soft n (n + M - 1 - t) % 2 == 1 else false
theorem restB_start (M : Nat) (ms : List Int) (soft : List Nat) (n m : Nat) (h : n ≤ m) : restB M ms soft n m = List.replicate n false := by
  unfold restB
  refine List.ext_getElem (by simp) fun i h1 h2 => ?_
  simp only [List.length_map, List.length_range] at h1
  rw [List.getElem_map, List.getElem_range, if_neg (by omega), List.getElem_replicate]
theorem restB_end (M : Nat) (ms : List Int) (soft : List Nat) (n : Nat) : restB M ms soft n 0 = wayBits M ms soft n := by
  unfold restB wayBits
  simp
theorem restB_len (M : Nat) (ms : List Int) (soft : List Nat) (n m : Nat) : (restB M ms soft n m).length = n := by simp [restB]
theorem restB_set {M : Nat} {ms : List Int} {soft : List Nat} {n t : Nat} : (restB M ms soft n (t + 1)).set t (backS M ms soft n (n + M - (t + 1)) % 2 == 1) = restB M ms soft n t := by
  refine List.ext_getElem (by simp [restB]) fun i h1 h2 => ?_
  simp only [restB_len] at h2
  rw [List.getElem_set]
  simp only [restB, List.getElem_map, List.getElem_range]
  by_cases h : t = i
  · subst h
    rw [if_pos rfl, if_pos (Nat.le_refl _), show n + M - (t + 1) = n + M - 1 - t by omega]
  · rw [if_neg h]
    by_cases h3 : t ≤ i
    · rw [if_pos h3, if_pos (by omega)]
    · rw [if_neg h3, if_neg (by omega)]
theorem restB_far {M : Nat} {ms : List Int} {soft : List Nat} {n t : Nat} (h : n ≤ t) : restB M ms soft n (t + 1) = restB M ms soft n t := by rw [restB_start _ _ _ _ _ (by omega), restB_start _ _ _ _ _ h]
theorem backS_step {M : Nat} {ms : List Int} {soft : List Nat} {n t : Nat} (h : t < n + M) : backS M ms soft n (n + M - t) = (tabT M ms soft n (t + 1)).f.getD (backS M ms soft n (n + M - (t + 1))).toNat 0 := by
  obtain ⟨k, hk⟩ : ∃ k, n + M - (t + 1) = k := ⟨_, rfl⟩
  rw [hk, show n + M - t = k + 1 by omega]
  show (tabT M ms soft n (n + M - k)).f.getD _ 0 = _
  rw [show n + M - k = t + 1 by omega]


set_option maxRecDepth 100000 in
set_option maxHeartbeats 4000000 in
theorem spec_l07Way_c (w : World) (b M : Nat) (hM1 : 1 ≤ M) (hM4 : M ≤ 4) (A : Option Addr) (k cap : Nat) (ms : List Int) (hl : ms.length = k) (hk1 : 1 ≤ k) (hk4 : k ≤ 4) (hr : ∀ x ∈ ms, 0 ≤ x ∧ x ≤ 31) (hO : Obj w b 29 #[.int .i64 (M : Int), .slice A k cap]) (hx : Sl w w.heap.size A (ms.map (Value.int .i64)))
    (A2 : Option Addr) (n2 cap2 : Nat) (xs : List Nat) (hl2 : xs.length = n2) (hy : Sl w w.heap.size A2 (xs.map (Value.float .f32))) (n : Nat) (hn : n ≤ 40) (hnn : (n + M) * k = n2) (hcap2 : n2 ≤ cap2) :
    Calls Try.prog 67 #[.pointer (some ⟨b, 0, none⟩), .slice A2 n2 cap2, .int .i64 (n : Int)] w fun e w' => ∃ v g, e = .returned (.tuple #[v, .float .f32 g]) ∧ fl .f32 g = wayGain M ms xs n ∧ Ow w' w.heap.size 4 v ((wayBits M ms xs n).map Value.bool) ∧ Below w.heap.size w w' := by
  obtain ⟨S, hS⟩ : ∃ S : Nat, 2 ^ M = S := ⟨_, rfl⟩
  have hSI : (2 : Int) ^ M = (S : Int) := by rw [← hS]; push_cast; rfl
  have hS16 : S ≤ 16 := by rw [← hS]; exact Nat.pow_le_pow_right (n := 2) (by decide) hM4
  have hS1 : 1 ≤ S := by rw [← hS]; exact Nat.pow_pos (by decide)
  have hsh : wrap64 (2 ^ M) = (S : Int) := by rw [hSI]; exact IntWalk.wrap64_in _ (by omega)
  have HSS := Lib.hid hS
  have HSH := Lib.hid hsh
  clear hS hSI hsh
  have hSm : S ≤ 1099511627776 := Nat.le_trans hS16 (by decide)
  have hmb := fun W : World => run_mk (P := Try.prog) Try.underlying41 infoBool rfl (by decide) S hSm .i64 .i64 W
  have hmi := fun W : World => run_mk (P := Try.prog) Try.underlying22 infoInt64 rfl (by decide) S hSm .i64 .i64 W
  have hmf := fun W : World => run_mk (P := Try.prog) Try.underlying25 infoFloat32 rfl (by decide) S hSm .i64 .i64 W
  have hbz := hO.lt
  obtain ⟨w2, e2⟩ : ∃ q : World, q = (w.alloc (.cells (zeroRow (.bool false) S) 4)).alloc (.cells (zeroRow (.float .f32 0) S) 46) := ⟨_, rfl⟩
  have z2 : w2.heap.size = w.heap.size + 1 + 1 := by rw [e2]; simp
  have b2 : Below w.heap.size w w2 := by rw [e2]; exact ((Below.refl _ _).alloc (Nat.le_refl _) _).alloc (by simp) _
  have h1 : Row w2 w.heap.size 4 (List.replicate S (.bool false)) := by rw [e2]; exact (Row.new _ _ _ _).alloc _
  have h2 : Row w2 (w.heap.size + 1) 46 (List.replicate S (.float .f32 0)) := by
    have := Row.new (w.alloc (.cells (zeroRow (.bool false) S) 4)) 46 (.float .f32 0) S
    rw [e2]; simpa using this
  have f1 := h1.frz 0
  have c1 := h1.get (k := 0) (by simp; omega)
  obtain ⟨⟨C0, C1⟩, -⟩ := hO.two
  have hn2p : 0 < n2 := by rw [← hnn]; exact Nat.mul_pos (by omega) (by omega)
  have HC0 := Lib.hid C0
  have HC1 := Lib.hid C1
  have HO := Lib.hid hO
  have HX := Lib.hid hx
  have HY := Lib.hid hy
  have HNN := Lib.hid hnn
  have H1 := Lib.hid h1
  have H2 := Lib.hid h2
  clear hO hx hy hnn h1 h2
  go_enter Try.func67, Try.ntmps67
  go_wp2_with (first | rw [HSH.out] | (rw [← e2]; clear e2))
  go_loopw [10, 11, 12, 13] (fun v10 v11 v12 i wr => ∃ t : Nat, t ≤ n + M ∧ i = .int .i64 t ∧ WayRel w S (tabT M ms xs n t) ((List.range t).map fun j => (tabT M ms xs n (j + 1)).f) v10 v11 v12 wr) (fun _ _ _ i _ => n + M - (intOf i).toNat)
  case atStart =>
    have zs : (w2.setCell ⟨w.heap.size, 0, none⟩ (.bool true)).heap.size = w.heap.size + 1 + 1 := by rw [← z2]; simp
    refine ⟨0, Nat.zero_le _, rfl, w.heap.size, w.heap.size + 1, List.replicate S 0, [], Nat.le_refl _, Nat.le_succ _, rfl, rfl, ?_, ?_, ?_, ?_, rfl, fun i hi => absurd hi (Nat.not_lt_zero _), (Below.setCell b2 (by simp) _).alloc (by rw [zs]; omega) _⟩
    · show Row _ _ _ ((startT (2 ^ M)).h.map Value.bool)
      rw [HSS.out]
      unfold startT
      simp only [List.map_set, List.map_replicate]
      exact (H1.out.put 0 _).alloc _
    · show _ = (startT (2 ^ M)).g
      rw [HSS.out]
      unfold startT
      simp only [List.map_replicate, fl0]
    · simp only [List.map_replicate]
      exact (H2.out.far (by omega) 0 _).alloc _
    · have := own_empty (w2.setCell ⟨w.heap.size, 0, none⟩ (.bool true)) w.heap.size 22 (by rw [zs]; omega)
      rw [zs] at this
      exact this
  case round =>
    clear c1 f1
    obtain ⟨t, ht, rfl, hrl⟩ := hrel
    obtain ⟨wA, rfl⟩ : ∃ wA : World, wA = wr := ⟨_, rfl⟩
    obtain ⟨b10, b11, gs, bs, hb10, hb11, rfl, rfl, hr10, hgs, hr11, hbf, hbl, hbr, hbw⟩ := hrl
    have hzr := hbw.size
    have hCb := HO.out.below hbw hbz
    obtain ⟨⟨C0, C1⟩, -⟩ := hCb.two
    by_cases hlt : t < n + M
    · have hz10 := hr10.lt
      have hz11 := hr11.lt
      have htab : tabT M ms xs n (t + 1) = rowT M ms (partL k xs t) (decide (n ≤ t)) (tabT M ms xs n t) S := by rw [← HSS.out, ← hl]; rfl
      have hT0 : Sz S (tabT M ms xs n t) := by rw [← HSS.out]; exact sz_tab t
      obtain ⟨T0, eT0⟩ : ∃ T, tabT M ms xs n t = T := ⟨_, rfl⟩
      obtain ⟨pt, ept⟩ : ∃ pt, partL k xs t = pt := ⟨_, rfl⟩
      obtain ⟨la, ela⟩ : ∃ la, decide (n ≤ t) = la := ⟨_, rfl⟩
      rw [eT0] at hgs hr10 hT0 htab
      rw [ept, ela] at htab
      have HR10 := Lib.hid hr10
      have HR11 := Lib.hid hr11
      have HGS := Lib.hid hgs
      have HBF := Lib.hid hbf
      have HBR := Lib.hid hbr
      have HT0 := Lib.hid eT0
      have HPT := Lib.hid ept
      have HTAB := Lib.hid htab
      have HTS := Lib.hid hT0
      clear hr10 hr11 hgs hbf hbr hCb eT0 ept htab hT0
      have HLA := Lib.hid ela
      clear ela
      have hltd : decide ((t : Int) < (n : Int) + (M : Int)) = true := decide_eq_true (by omega)
      go_wp2
      go_loopw [17] (fun i w1 => ∃ (s : Nat) (ns : List Nat), s ≤ S ∧ i = .int .i64 s ∧ MidRel wA.heap.size (rowT M ms pt la T0 s) ns w1 ∧ Below wA.heap.size wA w1 ∧ wA.heap.size + 1 + 1 + 1 ≤ w1.heap.size) (fun i _ => S - (intOf i).toNat)
      case atStart =>
        refine ⟨0, List.replicate S 0, Nat.zero_le _, rfl, ?_, (((Below.refl _ _).alloc (Nat.le_refl _) _).alloc (by simp) _).alloc (by simp; omega) _, by simp⟩
        show MidRel _ (newT (2 ^ M)) _ _
        rw [HSS.out]
        exact mid_new wA S
      case round =>
        obtain ⟨s, ns, hs, rfl, hmid, hbA, hz3⟩ := hrel
        obtain ⟨wB, rfl⟩ : ∃ wB : World, wB = wr := ⟨_, rfl⟩
        by_cases hlt2 : s < S
        · have hr := HR10.out.below hbA hz10
          have hsl : s < T0.h.length := by rw [HTS.out.h]; exact hlt2
          have c10 := hr.get (k := s) (by simpa using hsl)
          rw [List.getElem_map] at c10
          have hgd : T0.h.getD s false = T0.h[s] := by simp [List.getD, hsl]
          obtain ⟨hb, ehb⟩ : ∃ q, T0.h[s] = q := ⟨_, rfl⟩
          rw [ehb] at c10 hgd
          have HM := Lib.hid hmid
          have HG := Lib.hid hgd
          have HG2 := Lib.hid ehb
          clear hr hmid hgd ehb
          cases hb
          · go_wp2
            go_loopw [18] (fun j w1 => j = .int .i64 0 ∧ w1 = wB) (fun _ _ => 0)
            case atStart => exact ⟨rfl, rfl⟩
            case round =>
              obtain ⟨rfl, rfl⟩ := hrel
              go_wp2
              go_roundw
              case rel => exact ⟨s + 1, ns, hlt2, by go_num, by rw [row_not HG.out]; exact HM.out, hbA, hz3⟩
              case measure => simp [intOf]; omega
          · obtain ⟨bx, ox, eA2, hbx, hcx⟩ := HY.out.get 0 (by omega)
            have hpt : pt = (xs.drop (t * k)).take k := by rw [← HPT.out]; rfl
            have hk44 : t * k ≤ 43 * 4 := Nat.mul_le_mul (by omega) hk4
            have hlo2 : (t + 1) * k = t * k + k := Nat.succ_mul t k
            have hlo3 : (t + 1) * k ≤ (n + M) * k := Nat.mul_le_mul_right k (by omega)
            have hlo4 := HNN.out
            obtain ⟨lo, elo⟩ : ∃ lo, t * k = lo := ⟨_, rfl⟩
            rw [elo] at hlo2 hk44 hpt
            rw [hlo2, hlo4] at hlo3
            obtain ⟨hi, ehi⟩ : ∃ hi, lo + k = hi := ⟨_, rfl⟩
            rw [ehi] at hlo2 hlo3
            have i0 : (0 : Int) ≤ (lo : Int) := by omega
            have i1 : (lo : Int) ≤ (hi : Int) := by omega
            have i2 : (hi : Int) ≤ (cap2 : Int) := by omega
            have i3 : lo ≤ hi := by omega
            have i4 : hi ≤ cap2 := by omega
            have HHI := Lib.hid (show hi - lo = k by omega)
            have m1 : IntKind.i64.wrap ((t : Int) * (k : Int)) = (lo : Int) := by rw [← elo, ← Int.natCast_mul]; exact IntWalk.i64_in _ (by omega)
            have m2 : IntKind.i64.wrap (((t : Int) + 1) * (k : Int)) = (hi : Int) := by rw [← hlo2]; exact IntWalk.i64_in (((t + 1) * k : Nat) : Int) (by omega)
            have m3 : IntKind.i64.wrap ((t : Int) + 1) = (t : Int) + 1 := IntWalk.i64_in _ (by omega)
            have M1 := Lib.hid m1
            have M2 := Lib.hid m2
            have M3 := Lib.hid m3
            have HPT2 := Lib.hid hpt
            clear hcx hlo2 hlo4 elo m1 m2 m3 hpt ehi
            subst eA2
            go_wp2
            go_loopw [18] (fun jv w1 => ∃ (j : Nat) (ms2 : List Nat), j ≤ 2 ∧ jv = .int .i64 j ∧ MidRel wA.heap.size (bitT M ms pt la T0 s j) ms2 w1 ∧ Below wA.heap.size wA w1 ∧ wA.heap.size + 1 + 1 + 1 ≤ w1.heap.size) (fun j _ => 2 - (intOf j).toNat)
            case atStart => exact ⟨0, ns, Nat.zero_le _, rfl, HM.out, hbA, hz3⟩
            case round =>
              clear c10
              obtain ⟨j, ns2, hj, rfl, hmid2, hbC, hz4⟩ := hrel
              obtain ⟨wC, rfl⟩ : ∃ wC : World, wC = wr := ⟨_, rfl⟩
              have hr2 := HR10.out.below hbC hz10
              have c10 := hr2.get (k := s) (by simpa using hsl)
              rw [List.getElem_map, show T0.h[s] = true from HG2.out] at c10
              have HM2 := Lib.hid hmid2
              have HR2 := Lib.hid hr2
              clear hmid2 hr2
              by_cases hj2 : j < 2
              · obtain ⟨q, hjq⟩ : ∃ q : Bool, (j : Int) = bitI q := by
                  rcases (show j = 0 ∨ j = 1 by omega) with rfl | rfl
                  · exact ⟨false, rfl⟩
                  · exact ⟨true, rfl⟩
                have hje : ((j : Int) == 1) = q := by rw [hjq]; cases q <;> rfl
                have HJ := Lib.hid hjq
                clear hjq
                by_cases hsk : (q && la) = true
                · obtain ⟨rfl, rfl⟩ : q = true ∧ la = true := by simpa using hsk
                  have hnt : n ≤ t := by simpa using HLA.out
                  clear hsk
                  go_wp2
                  go_roundw
                  case rel => exact ⟨j + 1, ns2, by omega, by go_num, by rw [bitT_step true HJ.out, edge_last]; exact HM2.out, hbC, hz4⟩
                  case measure => simp [intOf]; omega
                · have hql : (q && la) = false := by simpa using hsk
                  obtain ⟨to, eto⟩ : ∃ to, toS M s q = to := ⟨_, rfl⟩
                  have hto : to < S := by rw [← eto, ← HSS.out]; exact toS_lt q
                  have htv : (2 * (s : Int) + bitI q) % 2 ^ M = (to : Int) := by rw [← eto]; exact toS_eq M s q
                  have hedge : edgeT M ms pt la T0 s q (bitT M ms pt la T0 s j) = updT (bitT M ms pt la T0 s j) to (edgeX ms pt T0 s q) s := by rw [← eto]; exact edge_yes HG.out hql
                  have hSzb : Sz S (bitT M ms pt la T0 s j) := by rw [← HSS.out]; exact bitT_sz (by rw [HSS.out]; exact hlt2) j
                  have hst := bitT_step (M := M) (ms := ms) (part := pt) (last := la) (T0 := T0) (s := s) q HJ.out
                  rw [hedge] at hst
                  have hs15 : s ≤ 15 := by omega
                  have hgl : gs.length = S := by have := congrArg List.length HGS.out; rw [List.length_map, HTS.out.g] at this; exact this
                  have hsg : s < gs.length := by rw [hgl]; exact hlt2
                  obtain ⟨g0, eg0⟩ : ∃ g, gs[s] = g := ⟨_, rfl⟩
                  have hg0 : T0.g.getD s none = fl .f32 g0 := by rw [← HGS.out, ← eg0]; simp [List.getD, hsg]
                  have hbw2 : Below w.heap.size w wC := hbw.trans (hbC.mono hzr)
                  have hqn : q = true → ¬ n ≤ t := by
                    rintro rfl h
                    rw [Bool.true_and, ← HLA.out] at hql
                    simp [h] at hql
                  obtain ⟨T1, eT1⟩ : ∃ T, bitT M ms pt la T0 s j = T := ⟨_, rfl⟩
                  rw [eT1] at hst hSzb
                  have HT1 := Lib.hid eT1
                  have HQN := Lib.hid hqn
                  have HTV := Lib.hid htv
                  have HST := Lib.hid hst
                  have HG0 := Lib.hid hg0
                  have HSB := Lib.hid hSzb
                  have d0 := (hbw2.cell (p := ⟨b, 0, none⟩) hbz).trans HC0.out
                  have d1 := (hbw2.cell (p := ⟨b, 1, none⟩) hbz).trans HC1.out
                  have d2 := (HR11.out.below hbC hz11).get (k := s) (by simpa using hsg)
                  rw [List.getElem_map, eg0] at d2
                  clear eT1 eto htv hedge hst hsk hql hqn hg0 eg0 hSzb C0 C1
                  cases q
                  · go_wp2_with fail
                    refine (spec_l07Next_c wC b M s false (by omega) (by omega) hM1 hM4 d0).mono ?_
                    rintro e w' ⟨rfl, q1, rfl⟩
                    rw [HTV.out]
                    obtain ⟨wD, eD⟩ : ∃ W : World, W = wC.drewN q1 := ⟨_, rfl⟩
                    rw [← eD]
                    have hbD : Below w.heap.size w wD := by rw [eD]; exact below_drewN hbw2 q1
                    have hbD2 : Below wA.heap.size wA wD := by rw [eD]; exact below_drewN hbC q1
                    have hmD : MidRel wA.heap.size T1 ns2 wD := by rw [eD, ← HT1.out]; exact HM2.out
                    have hzD : wA.heap.size + 1 + 1 + 1 ≤ wD.heap.size := by rw [eD]; exact hz4
                    have f0 : wD.cell? ⟨b, 0, none⟩ = some (.int .i64 (M : Int)) := by rw [eD]; exact d0
                    have f1 : wD.cell? ⟨b, 1, none⟩ = some (.slice A k cap) := by rw [eD]; exact d1
                    have f2 : wD.cell? ⟨b11, s, none⟩ = some (.float .f32 g0) := by rw [eD]; exact d2
                    have HMD := Lib.hid hmD
                    clear eD d0 d1 d2 hmD hbw2
                    have m1 := M1.out
                    have m2 := M2.out
                    have m3 := M3.out
                    have hyD : Sl wD w.heap.size (some ⟨bx, ox + lo, none⟩) (pt.map (Value.float .f32)) := by
                      rw [HPT2.out, List.map_take, List.map_drop]
                      exact sl_part (HY.out.below hbD) lo k
                    have hptl : pt.length = k := by rw [HPT2.out]; have := HHI.out; simp; omega
                    have hi_len := HHI.out
                    have HYD := Lib.hid hyD
                    clear hyD
                    go_wp2_with fail
                    go_region_held3 (fun w' => w'.cell? ⟨b11, s, none⟩ = some (.float .f32 g0))
                      (first | exact p2 | exact f2)
                      (first
                        | (go_at_call 75; refine (spec_l07Gain_c w3 g0 w3.heap.size w.heap.size S3 _ q3 (sentL ms (2 * (s : Int) + bitI false)) rfl (by rw [sentL_len]; omega) (sl_of_own hp3) (some ⟨bx, ox + lo, none⟩) k _ pt hptl (by rw [sentL_len]; omega) (by omega) hy3).mono ?_; rintro e w4 ⟨x, rfl, hx4, q4, rfl⟩)
                        | (go_at_call 76; refine (spec_l07Sends_c wD.drew b w.heap.size A k cap ms hl hk4 hr (show b < wD.heap.size by omega) hbD.size (HX.out.below (below_drewN hbD 1)) (s : Int) false (by omega) (by omega) f1).mono ?_; rintro e w3 ⟨v3, rfl, ho3, hb3⟩; have hb3 := below_undrew hb3; obtain ⟨S3, q3, rfl, hp3⟩ := ho3.opn; have p2 := (hb3.cell (p := ⟨b11, s, none⟩) (by simp only []; omega)).trans f2; have hy3 := HYD.out.below (hb3.mono hbD.size)))
                    obtain ⟨wE, eE⟩ : ∃ W : World, W = w3.drewN q4 := ⟨_, rfl⟩
                    rw [← eE]
                    have b3E : Below wD.heap.size wD wE := by rw [eE]; exact below_drewN hb3 q4
                    have hmE := HMD.out.below b3E (by omega)
                    have hbE2 : Below wA.heap.size wA wE := hbD2.trans (b3E.mono (by omega))
                    have hzE : wA.heap.size + 1 + 1 + 1 ≤ wE.heap.size := Nat.le_trans hzD b3E.size
                    have hxe : fl .f32 x = edgeX ms pt T0 s false := by
                      rw [hx4, sentL_len]
                      unfold edgeX
                      rw [HG0.out]
                    have HXE := Lib.hid hxe
                    have HME := Lib.hid hmE
                    obtain ⟨⟨r1, r2⟩, r3, r4⟩ := hmE
                    have hto1 : to < T1.h.length := by rw [HSB.out.h]; exact hto
                    have hto2 : to < ns2.length := by have := congrArg List.length r2; rw [List.length_map, HSB.out.g] at this; omega
                    have hto3 : to < T1.f.length := by rw [HSB.out.f]; exact hto
                    have k1 := r3.get (k := to) (by simpa using hto1)
                    have k2 := r1.get (k := to) (by simpa using hto2)
                    have k3 := r4.get (k := to) (by simpa using hto3)
                    have z1 := r3.frz to
                    have z2 := r1.frz to
                    have z3 := r4.frz to
                    rw [List.getElem_map] at k1 k2 k3
                    have hgh : T1.h.getD to false = T1.h[to] := by simp [List.getD, hto1]
                    have hgg : T1.g.getD to none = fl .f32 ns2[to] := by rw [← r2]; simp [List.getD, hto2]
                    obtain ⟨hh, ehh⟩ : ∃ q, T1.h[to] = q := ⟨_, rfl⟩
                    obtain ⟨y, ey⟩ : ∃ q, ns2[to] = q := ⟨_, rfl⟩
                    obtain ⟨fr, efr⟩ : ∃ q, T1.f[to] = q := ⟨_, rfl⟩
                    rw [ehh] at k1 hgh
                    rw [ey] at k2 hgg
                    rw [efr] at k3
                    have hbet : betT T1 to (edgeX ms pt T0 s false) = (!hh || (FloatKind.f32.format.order x y == some Ordering.gt)) := by
                      unfold betT
                      rw [hgh, hgg, gt_fl, hxe]
                    have HB := Lib.hid hbet
                    clear eE r1 r2 r3 r4 hgh hgg ehh ey efr hbet hxe hx4 b3E hb3 hp3 ho3 hy3 p2 f2 f0 f1 m1 m2 m3
                    cases hh
                    · go_wp2
                      go_roundw
                      case rel =>
                        refine ⟨j + 1, ns2.set to x, by omega, by go_num, ?_, ((hbE2.setCell (by simp) _).setCell (by simp) _).setCell (by simp; omega) _, by simp; omega⟩
                        rw [HST.out, upd_yes (by rw [HB.out]; rfl)]
                        exact mid_put HME.out to x _ HXE.out s
                      case measure => simp [intOf]; omega
                    · by_cases hord : (FloatKind.f32.format.order x y == some Ordering.gt) = true
                      · go_wp2
                        go_roundw
                        case rel =>
                          refine ⟨j + 1, ns2.set to x, by omega, by go_num, ?_, ((hbE2.setCell (by simp) _).setCell (by simp) _).setCell (by simp; omega) _, by simp; omega⟩
                          rw [HST.out, upd_yes (by rw [HB.out, hord]; rfl)]
                          exact mid_put HME.out to x _ HXE.out s
                        case measure => simp [intOf]; omega
                      · have hord : (FloatKind.f32.format.order x y == some Ordering.gt) = false := by simpa using hord
                        go_wp2
                        go_roundw
                        case rel =>
                          refine ⟨j + 1, ns2, by omega, by go_num, ?_, hbE2, hzE⟩
                          rw [HST.out, upd_no (by rw [HB.out, hord]; rfl)]
                          exact HME.out
                        case measure => simp [intOf]; omega
                  · have hnt := HQN.out rfl
                    have hntd : decide ((n : Int) ≤ (t : Int)) = false := decide_eq_false (by omega)
                    go_wp2_with fail
                    refine (spec_l07Next_c wC b M s true (by omega) (by omega) hM1 hM4 d0).mono ?_
                    rintro e w' ⟨rfl, q1, rfl⟩
                    rw [HTV.out]
                    obtain ⟨wD, eD⟩ : ∃ W : World, W = wC.drewN q1 := ⟨_, rfl⟩
                    rw [← eD]
                    have hbD : Below w.heap.size w wD := by rw [eD]; exact below_drewN hbw2 q1
                    have hbD2 : Below wA.heap.size wA wD := by rw [eD]; exact below_drewN hbC q1
                    have hmD : MidRel wA.heap.size T1 ns2 wD := by rw [eD, ← HT1.out]; exact HM2.out
                    have hzD : wA.heap.size + 1 + 1 + 1 ≤ wD.heap.size := by rw [eD]; exact hz4
                    have f0 : wD.cell? ⟨b, 0, none⟩ = some (.int .i64 (M : Int)) := by rw [eD]; exact d0
                    have f1 : wD.cell? ⟨b, 1, none⟩ = some (.slice A k cap) := by rw [eD]; exact d1
                    have f2 : wD.cell? ⟨b11, s, none⟩ = some (.float .f32 g0) := by rw [eD]; exact d2
                    have HMD := Lib.hid hmD
                    clear eD d0 d1 d2 hmD hbw2
                    have m1 := M1.out
                    have m2 := M2.out
                    have m3 := M3.out
                    have hyD : Sl wD w.heap.size (some ⟨bx, ox + lo, none⟩) (pt.map (Value.float .f32)) := by
                      rw [HPT2.out, List.map_take, List.map_drop]
                      exact sl_part (HY.out.below hbD) lo k
                    have hptl : pt.length = k := by rw [HPT2.out]; have := HHI.out; simp; omega
                    have hi_len := HHI.out
                    have HYD := Lib.hid hyD
                    clear hyD
                    go_wp2_with fail
                    go_region_held3 (fun w' => w'.cell? ⟨b11, s, none⟩ = some (.float .f32 g0))
                      (first | exact p2 | exact f2)
                      (first
                        | (go_at_call 75; refine (spec_l07Gain_c w3 g0 w3.heap.size w.heap.size S3 _ q3 (sentL ms (2 * (s : Int) + bitI true)) rfl (by rw [sentL_len]; omega) (sl_of_own hp3) (some ⟨bx, ox + lo, none⟩) k _ pt hptl (by rw [sentL_len]; omega) (by omega) hy3).mono ?_; rintro e w4 ⟨x, rfl, hx4, q4, rfl⟩)
                        | (go_at_call 76; refine (spec_l07Sends_c wD.drew b w.heap.size A k cap ms hl hk4 hr (show b < wD.heap.size by omega) hbD.size (HX.out.below (below_drewN hbD 1)) (s : Int) true (by omega) (by omega) f1).mono ?_; rintro e w3 ⟨v3, rfl, ho3, hb3⟩; have hb3 := below_undrew hb3; obtain ⟨S3, q3, rfl, hp3⟩ := ho3.opn; have p2 := (hb3.cell (p := ⟨b11, s, none⟩) (by simp only []; omega)).trans f2; have hy3 := HYD.out.below (hb3.mono hbD.size)))
                    obtain ⟨wE, eE⟩ : ∃ W : World, W = w3.drewN q4 := ⟨_, rfl⟩
                    rw [← eE]
                    have b3E : Below wD.heap.size wD wE := by rw [eE]; exact below_drewN hb3 q4
                    have hmE := HMD.out.below b3E (by omega)
                    have hbE2 : Below wA.heap.size wA wE := hbD2.trans (b3E.mono (by omega))
                    have hzE : wA.heap.size + 1 + 1 + 1 ≤ wE.heap.size := Nat.le_trans hzD b3E.size
                    have hxe : fl .f32 x = edgeX ms pt T0 s true := by
                      rw [hx4, sentL_len]
                      unfold edgeX
                      rw [HG0.out]
                    have HXE := Lib.hid hxe
                    have HME := Lib.hid hmE
                    obtain ⟨⟨r1, r2⟩, r3, r4⟩ := hmE
                    have hto1 : to < T1.h.length := by rw [HSB.out.h]; exact hto
                    have hto2 : to < ns2.length := by have := congrArg List.length r2; rw [List.length_map, HSB.out.g] at this; omega
                    have hto3 : to < T1.f.length := by rw [HSB.out.f]; exact hto
                    have k1 := r3.get (k := to) (by simpa using hto1)
                    have k2 := r1.get (k := to) (by simpa using hto2)
                    have k3 := r4.get (k := to) (by simpa using hto3)
                    have z1 := r3.frz to
                    have z2 := r1.frz to
                    have z3 := r4.frz to
                    rw [List.getElem_map] at k1 k2 k3
                    have hgh : T1.h.getD to false = T1.h[to] := by simp [List.getD, hto1]
                    have hgg : T1.g.getD to none = fl .f32 ns2[to] := by rw [← r2]; simp [List.getD, hto2]
                    obtain ⟨hh, ehh⟩ : ∃ q, T1.h[to] = q := ⟨_, rfl⟩
                    obtain ⟨y, ey⟩ : ∃ q, ns2[to] = q := ⟨_, rfl⟩
                    obtain ⟨fr, efr⟩ : ∃ q, T1.f[to] = q := ⟨_, rfl⟩
                    rw [ehh] at k1 hgh
                    rw [ey] at k2 hgg
                    rw [efr] at k3
                    have hbet : betT T1 to (edgeX ms pt T0 s true) = (!hh || (FloatKind.f32.format.order x y == some Ordering.gt)) := by
                      unfold betT
                      rw [hgh, hgg, gt_fl, hxe]
                    have HB := Lib.hid hbet
                    clear eE r1 r2 r3 r4 hgh hgg ehh ey efr hbet hxe hx4 b3E hb3 hp3 ho3 hy3 p2 f2 f0 f1 m1 m2 m3
                    cases hh
                    · go_wp2
                      go_roundw
                      case rel =>
                        refine ⟨j + 1, ns2.set to x, by omega, by go_num, ?_, ((hbE2.setCell (by simp) _).setCell (by simp) _).setCell (by simp; omega) _, by simp; omega⟩
                        rw [HST.out, upd_yes (by rw [HB.out]; rfl)]
                        exact mid_put HME.out to x _ HXE.out s
                      case measure => simp [intOf]; omega
                    · by_cases hord : (FloatKind.f32.format.order x y == some Ordering.gt) = true
                      · go_wp2
                        go_roundw
                        case rel =>
                          refine ⟨j + 1, ns2.set to x, by omega, by go_num, ?_, ((hbE2.setCell (by simp) _).setCell (by simp) _).setCell (by simp; omega) _, by simp; omega⟩
                          rw [HST.out, upd_yes (by rw [HB.out, hord]; rfl)]
                          exact mid_put HME.out to x _ HXE.out s
                        case measure => simp [intOf]; omega
                      · have hord : (FloatKind.f32.format.order x y == some Ordering.gt) = false := by simpa using hord
                        go_wp2
                        go_roundw
                        case rel =>
                          refine ⟨j + 1, ns2, by omega, by go_num, ?_, hbE2, hzE⟩
                          rw [HST.out, upd_no (by rw [HB.out, hord]; rfl)]
                          exact HME.out
                        case measure => simp [intOf]; omega
              · have : j = 2 := by omega
                subst this
                go_wp2
                go_roundw
                case rel => exact ⟨s + 1, ns2, hlt2, by go_num, HM2.out, hbC, hz4⟩
                case measure => simp [intOf]; omega
        · obtain rfl : s = S := by omega
          have hoB : Ow wB w.heap.size 22 u12 (bs.map fun g => Value.slice (some ⟨g, 0, none⟩) s s) := own_below HBF.out hbA (Nat.le_refl _)
          have hlen : (bs.map fun g => Value.slice (some ⟨g, 0, none⟩) s s).length + 1 ≤ 1099511627776 := by
            rw [List.length_map, hbl]; simp; omega
          have hzb := hbA.size
          have HMI := Lib.hid hmid
          clear hmid
          go_wp2_with (at_builtin; refine appGW Try.underlying129 infoRow rfl (by decide) rfl _ _ rfl _ _ _ rfl (hoB.alloc _) _ _ _ rfl (cell_new1 _ _ _) rfl hlen (by simp; omega) ?_; intro v' w1 ho1 hb1)
          go_roundw
          case rel =>
            refine ⟨t + 1, by omega, by go_num, ?_⟩
            rw [HTAB.out, List.range_succ, List.map_append]
            have e1 : [t].map (fun j => (tabT M ms xs n (j + 1)).f) = [(rowT M ms pt la T0 s).f] := by simp only [List.map_cons, List.map_nil, HTAB.out]
            rw [e1]
            exact WayRel.step hbw HBF.out hbl HBR.out HMI.out hbA hz3 _ hb1 ho1
          case measure => simp [intOf]; omega
    · obtain rfl : t = n + M := by omega
      obtain ⟨A12, c12, rfl, hoA⟩ := hbf.opn
      have hbl2 : bs.length = n + M := by rw [hbl]; simp
      have hmn := fun W : World => run_mk (P := Try.prog) Try.underlying41 infoBool rfl (by decide) n (by omega) .i64 .i64 W
      obtain ⟨wF, eF⟩ : ∃ q : World, q = wA.alloc (.cells (zeroRow (.bool false) n) 4) := ⟨_, rfl⟩
      have bF : Below wA.heap.size wA wF := by rw [eF]; exact (Below.refl _ _).alloc (Nat.le_refl _) _
      have hF : Row wF wA.heap.size 4 (List.replicate n (.bool false)) := by rw [eF]; exact Row.new _ _ _ _
      have hz11 := hr11.lt
      have HF := Lib.hid hF
      have HR11 := Lib.hid hr11
      have HGS := Lib.hid hgs
      have HOA := Lib.hid hoA
      have HBR := Lib.hid hbr
      have HBL := Lib.hid hbl2
      have HBL0 := Lib.hid hbl
      have hbA : b < wA.heap.size := Nat.lt_of_lt_of_le hbz hzr
      have D0 := (bF.cell (p := ⟨b, 0, none⟩) hbA).trans C0
      clear hF hr10 hr11 hgs hbf hoA hbr hbl hbl2 hCb
      go_wp2_with (rw [← eF]; clear eF)
      go_loopw [23, 24] (fun v23 v24 w3 => ∃ (m : Nat) (i : Int), m ≤ n + M ∧ v24 = .int .i64 i ∧ i + 1 = (m : Int) ∧ v23 = .int .i64 (backS M ms xs n (n + M - m)) ∧ Row w3 wA.heap.size 4 ((restB M ms xs n m).map Value.bool) ∧ Below wA.heap.size wA w3) (fun _ i _ => (intOf i + 1).toNat)
      case atStart =>
        refine ⟨n + M, (n : Int) + M - 1, Nat.le_refl _, rfl, by omega, ?_, ?_, bF⟩
        · rw [Nat.sub_self]; rfl
        · rw [restB_start _ _ _ _ _ (by omega), List.map_replicate]
          exact HF.out
      case round =>
        obtain ⟨m, i, hm, rfl, him, rfl, hrow, hbW⟩ := hrel
        obtain ⟨wG, rfl⟩ : ∃ wG : World, wG = wr := ⟨_, rfl⟩
        clear D0
        by_cases hm0 : 0 < m
        · obtain ⟨t, rfl⟩ : ∃ t, m = t + 1 := ⟨m - 1, by omega⟩
          obtain rfl : i = (t : Int) := by omega
          clear him
          have hbd := backS_bd (M := M) (ms := ms) (soft := xs) (n := n) (n + M - (t + 1))
          have hbs := backS_step (M := M) (ms := ms) (soft := xs) (n := n) (t := t) (by omega)
          have hst := restB_set (M := M) (ms := ms) (soft := xs) (n := n) (t := t)
          rw [HSS.out] at hbd
          have htb : t < bs.length := by rw [HBL.out]; omega
          obtain ⟨hb1, hb2⟩ := HBR.out t htb
          have hsz : Sz S (tabT M ms xs n (t + 1)) := by rw [← HSS.out]; exact sz_tab (t + 1)
          have hfs : ((List.range (n + M)).map fun j => (tabT M ms xs n (j + 1)).f).getD t [] = (tabT M ms xs n (t + 1)).f := by simp [List.getD, show t < n + M by omega]
          rw [hfs] at hb2
          obtain ⟨F, eF⟩ : ∃ F, (tabT M ms xs n (t + 1)).f = F := ⟨_, rfl⟩
          have hFl := hsz.f
          rw [eF] at hb2 hbs hFl
          obtain ⟨g, eg⟩ : ∃ g, bs.getD t 0 = g := ⟨_, rfl⟩
          rw [eg] at hb1 hb2
          obtain ⟨a, ea⟩ : ∃ a : Nat, backS M ms xs n (n + M - (t + 1)) = (a : Int) := ⟨(backS M ms xs n (n + M - (t + 1))).toNat, by omega⟩
          rw [ea] at hbd hbs hst
          rw [ea]
          have haS : a < S := by omega
          have haF : a < F.length := by rw [hFl]; exact haS
          have k1 := (hb2.below hbW hb2.lt).get (k := a) (by simpa using haF)
          rw [List.getElem_map] at k1
          have hgF : F.getD a 0 = F[a] := by simp [List.getD, haF]
          obtain ⟨f, ef⟩ : ∃ f, F[a] = f := ⟨_, rfl⟩
          rw [ef] at k1 hgF
          rw [Int.toNat_natCast, hgF] at hbs
          obtain ⟨b5, o5, rfl, hb5, k2⟩ := (sl_of_own (n := (bs.map fun g => Value.slice (some ⟨g, 0, none⟩) S S).length) (by simpa using HOA.out)).at_ (k := t) (by simpa using htb)
          have k3 := k2 t (.slice (some ⟨g, 0, none⟩) S S) (by
            rw [List.getElem?_map, List.getElem?_eq_getElem htb]
            have e5 : bs[t] = g := by rw [← eg]; simp [List.getD, htb]
            rw [e5]; rfl)
          have k4 : ∀ W : World, Below wA.heap.size wA W → W.cell? ⟨b5, o5 + t, none⟩ = some (.slice (some ⟨g, 0, none⟩) S S) := fun W hW => (hW.cell (p := ⟨b5, o5 + t, none⟩) hb5).trans k3
          have k5 : ∀ W : World, Below wA.heap.size wA W → W.cell? ⟨g, a, none⟩ = some (.int .i64 f) := fun W hW => ((hW.cell (p := ⟨g, a, none⟩) hb2.lt).trans (hbW.cell (p := ⟨g, a, none⟩) hb2.lt).symm).trans k1
          clear k3 k1
          have k1 := k5 wG hbW
          have k3 := k4 wG hbW
          have p1 := k5 _ (hbW.setCell (p := ⟨wA.heap.size, t, none⟩) (by simp) (.bool ((a : Int) % 2 == 1)))
          have p3 := k4 _ (hbW.setCell (p := ⟨wA.heap.size, t, none⟩) (by simp) (.bool ((a : Int) % 2 == 1)))
          have htbi : (t : Int) < (bs.length : Int) := by omega
          have hai : (a : Int) < (S : Int) := by omega
          have HST := Lib.hid hst
          have HBS := Lib.hid hbs
          have HRW := Lib.hid hrow
          clear hst hbs hfs hsz eF hFl eg ea hgF ef hb2 k2 k4 k5 hrow
          by_cases htn : t < n
          · have q1 := HRW.out.get (k := t) (by simp [restB_len]; exact htn)
            have q2 := HRW.out.frz t
            go_wp2
            go_roundw
            case rel =>
              refine ⟨t, (t : Int) - 1, by omega, rfl, by omega, ?_, ?_, hbW.setCell (by simp) _⟩
              · rw [HBS.out]
              · rw [← HST.out, List.map_set]
                exact HRW.out.put t _
            case measure => simp [intOf]
          · go_wp2
            go_roundw
            case rel =>
              refine ⟨t, (t : Int) - 1, by omega, rfl, by omega, ?_, ?_, hbW⟩
              · rw [HBS.out]
              · rw [← restB_far (by omega)]
                exact HRW.out
            case measure => simp [intOf]
        · obtain rfl : m = 0 := by omega
          obtain rfl : i = -1 := by omega
          have hgl : gs.length = S := by
            have := congrArg List.length HGS.out
            have h2 : Sz S (tabT M ms xs n (n + M)) := by rw [← HSS.out]; exact sz_tab _
            rw [List.length_map, h2.g] at this; exact this
          have hg0 : 0 < gs.length := by omega
          have k1 := (HR11.out.below hbW hz11).get (k := 0) (by simpa using hg0)
          rw [List.getElem_map] at k1
          have hgg : (tabT M ms xs n (n + M)).g.getD 0 none = fl .f32 gs[0] := by rw [← HGS.out]; simp [List.getD, hg0]
          obtain ⟨f, ef⟩ : ∃ f, gs[0] = f := ⟨_, rfl⟩
          rw [ef] at k1 hgg
          have HGG := Lib.hid hgg
          have HRW := Lib.hid hrow
          have hS0 : (0 : Int) < (S : Int) := by omega
          clear hgl hgg ef hrow him
          go_wp2
          go_quiet (fail)
          go_wp2
          go_ret2
          refine ⟨_, _, rfl, HGG.out.symm, ?_, below_drewN (hbw.trans (hbW.mono hzr)) _⟩
          have := HRW.out.own (base := w.heap.size) hzr (by simp [restB_len]; omega)
          rw [restB_end, List.length_map, ← restB_end, restB_len, restB_end] at this
          exact this

end Go.Proofs.Ytopeidmafalklaa
