/-
  slices.Chunk: what its iterator hands to a loop's body.
  Conditions: at most 1048576 elements, parts of 1 to 1048576.
-/
import Derived.Test.YtopeidmafalklaaM
import Derived.RangeFuncNested
import Derived.RangeFuncBound
import Derived.RangeFuncCalls
import Derived.RangeFuncLeaves
import Derived.RangeFuncBox
import Derived.Shelf.Abstract
import Derived.Shelf.RegionOpen
import Derived.OwnWalkIn
import Derived.TacticsInMore
import Derived.LoopNIn
import Derived.LoopIn
import Derived.Sort.QuietIn
namespace Go.Proofs.Ytopeidmafalklaa
open Go.RowKit Go.Shelf
attribute [local go_sem] Oper.semAt_some

/-- two boxes lie as they lay -/
def KpB (a b : Nat) (W W' : World) : Prop := W'.heap[a]? = W.heap[a]? ∧ W'.heap[b]? = W.heap[b]?
theorem kpB_t {a b : Nat} {A B C : World} (h : KpB a b A B) (k : KpB a b B C) : KpB a b A C := ⟨k.1.trans h.1, k.2.trans h.2⟩
theorem kpB_b {a b : Nat} {w : World} (ha : a < w.heap.size) (hb : b < w.heap.size) (W : World) (l : Nat) (o o' : Obj) (hl : w.heap.size ≤ l) (_ : W.heap[l]? = some o) (_ : o.isCells = false) (_ : o.isWalk = false) : KpB a b W (W.putObj l o') :=
  ⟨World.putObj_heap_other (by omega), World.putObj_heap_other (by omega)⟩
theorem kpB_cell {a b : Nat} {W W' : World} (h : KpB a b W W') : W'.cell? ⟨a, 0, none⟩ = W.cell? ⟨a, 0, none⟩ ∧ W'.cell? ⟨b, 0, none⟩ = W.cell? ⟨b, 0, none⟩ := by
  constructor
  · simp [World.cell?, h.1]
  · simp [World.cell?, h.2]
/-- how many parts there are -/
def chN (q len : Nat) : Nat := (len + (q - 1)) / q
theorem chN_lt {q len k : Nat} (hq : 1 ≤ q) : k < chN q len ↔ q * k < len := by
  unfold chN
  rw [Nat.lt_div_iff_mul_lt (by omega), Nat.mul_comm k q]
  omega
/-- a slice's address, for a loop over its parts -/
def ChA (A : Option Addr) (b off len : Nat) : Prop := A = some ⟨b, off, none⟩ ∨ A = none ∧ len = 0
/-- the number of a part -/
abbrev Part (N : Nat) := {x : Nat // x < N}
/-- a part -/
def chV (b off q len k : Nat) : Value := .slice (some ⟨b, off + q * k, none⟩) (min q (len - q * k)) (min q (len - q * k))


/-! ### a function with such a loop -/
theorem calls_marks {P : Program} {f : FuncId} {fn : Func} {c : Code} {args : Array Value} {w : World} {R : Ending → World → Prop} (hf : P.funcs[f]? = some fn) (hb : fn.body = some c)
    (h : c.wp P (bodyPostM Fence.wide 3 P fn R) { tmps := args ++ Array.replicate (fn.ntmps - args.size) undef, defers := [] } w) : Calls P f args w R :=
  (callsIn_wide (n := 3)).1 (callsIn_of_wp_marks hf hb trivial (wpIn_wide.2 h) rfl)
theorem marks_ret0 {P : Program} {fn : Func} {R : Ending → World → Prop} {a : Act} {w : World} {v : Value} (hr : (results fn a.tmps).run P w = .ok v w) (hd : a.defers = []) (hR : R (.returned v) w) : bodyPostM Fence.wide 3 P fn R .ret a w := by
  show LeavesInM _ _ _ _ _ _ a.defers .returning w
  rw [hd]
  exact ⟨v, hr, hR⟩
theorem marks_ret1 {P : Program} {fn : Func} {R : Ending → World → Prop} {a : Act} {w : World} {v : Value} {D : Nat} (hd : a.defers = [{ target := .collected D, args := #[] }]) (hD : w.heap[D]? = some (.deferred (some [])))
    (hr : (results fn a.tmps).run P (w.putObj D (.deferred none)) = .ok v (w.putObj D (.deferred none))) (hR : R (.returned v) (w.putObj D (.deferred none))) : bodyPostM Fence.wide 3 P fn R .ret a w := by
  show LeavesInM _ _ _ _ _ _ a.defers .returning w
  rw [hd]
  exact ⟨by simp, .inl ⟨_, _, rfl, run_takeDeferred hD, v, hr, hR⟩⟩





set_option maxRecDepth 100000 in
set_option maxHeartbeats 2000000 in
theorem Chunk1_float32_in (n : Nat) (hn : 1 ≤ n) (l Bs Bq b off len cap q : Nat) (hq1 : 1 ≤ q) (hq2 : q ≤ 1048576) (hlen : len ≤ 1048576) (hcap : len ≤ cap) (hcap2 : cap ≤ 9223372036854775807) (J Jx : List Nat → World → Prop)
    (hJ : ∀ pre W k, J pre W → J pre (W.drewN k))
    (hY : ∀ pre x W, J pre W → pre.length < chN q len → x < chN q len → YieldAt Fence.wide (n - 1) Try.prog l #[chV b off q len x] W fun e W' =>
      (e = .returned (.bool true) ∧ J (pre ++ [x]) W' ∧ KpB Bs Bq W W') ∨ (e = .returned (.bool false) ∧ Jx (pre ++ [x]) W'))
    (W : World) (hBs : W.cell? ⟨Bs, 0, none⟩ = some (.slice (some ⟨b, off, none⟩) len cap)) (hBq : W.cell? ⟨Bq, 0, none⟩ = some (.int .i64 (q : Int))) (h0 : J [] W) :
    CallsIn Fence.wide n Try.prog 77 #[.func (.yield l) #[] #[], .pointer (some ⟨Bs, 0, none⟩), .pointer (some ⟨Bq, 0, none⟩)] W fun e W' => (∃ v, e = .returned v) ∧
      ((∃ ys, ys = List.range (chN q len) ∧ J ys W') ∨ (∃ pre, (∃ k, k ≤ chN q len ∧ pre = List.range k) ∧ Jx pre W')) := by
  refine callsIn_of_wp Try.func77 rfl trivial ?_ rfl
  simp only [Try.ntmps77, List.size_toArray, List.length_cons, List.length_nil, Nat.reduceAdd, Nat.reduceSub, Array.replicate_succ, Array.replicate_zero, List.push_toArray, List.append_toArray, List.nil_append, List.cons_append]
  gi_wp2
  gi_loopw [4] (fun i wr => ∃ k P : Nat, k ≤ chN q len ∧ q * k = P ∧ i = .int .i64 (P : Int) ∧ J (List.range k) wr ∧ wr.cell? ⟨Bs, 0, none⟩ = some (.slice (some ⟨b, off, none⟩) len cap) ∧ wr.cell? ⟨Bq, 0, none⟩ = some (.int .i64 (q : Int)))
    (fun i _ => len + q - (intOf i).toNat)
  case atStart => exact ⟨0, 0, Nat.zero_le _, by simp, rfl, h0, hBs, hBq⟩
  case round =>
    clear h0 hBs hBq
    obtain ⟨k, P, hk, hP, rfl, hJs, c1, c2⟩ := hrel
    have hlt := chN_lt (q := q) (len := len) (k := k) hq1
    rw [hP] at hlt
    have hPn : q * (k + 1) = P + q := by rw [Nat.mul_succ, hP]
    have HPN := Lib.hid hPn
    have HP := Lib.hid hP
    clear hP hPn
    by_cases hPl : P < len
    · have hkc : k < chN q len := hlt.2 hPl
      have hne : ¬ P = cap := by omega
      have hne2 : ¬ cap = P := by omega
      clear hlt
      have hml : (k + 1 ≤ chN q len) := hkc
      rcases Nat.lt_or_ge (len - P) q with hmin | hmin
      · obtain ⟨D, hD⟩ : ∃ D, len - P = D := ⟨_, rfl⟩
        have hDl : P + D = len := by omega
        have hmn : min q (len - P) = D := by omega
        have hch : chV b off q len k = .slice (some ⟨b, off + P, none⟩) D D := by unfold chV; rw [HP.out, hmn]
        have hD1 : 1 ≤ D := by omega
        have hD2 : D < q := by omega
        have hD3 : (P : Int) + (D : Int) ≤ (cap : Int) := by omega
        have hD4 : (P : Int) + (D : Int) ≤ (len : Int) := by omega
        have hD5 : ((P : Int) + (D : Int)).toNat = P + D := by omega
        have hD6 : P + D - P = D := by omega
        have HDL := Lib.hid hDl
        clear hmn hDl
        gi_wp2
        gi_quiet (fail)
        obtain ⟨fn, tmps, assign, body, hy, hR⟩ := hY _ k (wr.drewN nq) (hJ _ _ nq hJs) (by rw [List.length_range]; exact hkc) hkc
        rw [hch] at hy
        gi_wp2
        refine hR.mono ?_
        rintro e W3 (⟨rfl, hJ3, hk3⟩ | ⟨rfl, hJx3⟩)
        · have d1 := (kpB_cell hk3).1.trans c1
          have d2 := (kpB_cell hk3).2.trans c2
          clear hy hR hk3 hch
          gi_wp2
          go_roundw
          case rel => exact ⟨k + 1, P + q, hkc, HPN.out, by go_num, by rw [List.range_succ]; exact hJ3, d1, d2⟩
          case measure => simp [intOf]; omega
        · clear hy hR hch
          gi_wp2
          refine bodyPost_ret (results_none rfl _ _ _) rfl ?_
          exact ⟨⟨_, rfl⟩, .inr ⟨_, ⟨k + 1, hkc, List.range_succ.symm⟩, hJx3⟩⟩
      · obtain ⟨D, hD⟩ : ∃ D, len - P = D := ⟨_, rfl⟩
        have hmn : min q (len - P) = q := by omega
        have hch : chV b off q len k = .slice (some ⟨b, off + P, none⟩) q q := by unfold chV; rw [HP.out, hmn]
        have hD2 : q ≤ D := by omega
        have hD3 : (P : Int) + (q : Int) ≤ (cap : Int) := by omega
        have hD4 : (P : Int) + (q : Int) ≤ (len : Int) := by omega
        have hD5 : ((P : Int) + (q : Int)).toNat = P + q := by omega
        have hD6 : P + q - P = q := by omega
        clear hmn
        gi_wp2
        gi_quiet (fail)
        obtain ⟨fn, tmps, assign, body, hy, hR⟩ := hY _ k (wr.drewN nq) (hJ _ _ nq hJs) (by rw [List.length_range]; exact hkc) hkc
        rw [hch] at hy
        gi_wp2
        refine hR.mono ?_
        rintro e W3 (⟨rfl, hJ3, hk3⟩ | ⟨rfl, hJx3⟩)
        · have d1 := (kpB_cell hk3).1.trans c1
          have d2 := (kpB_cell hk3).2.trans c2
          clear hy hR hk3 hch
          gi_wp2
          go_roundw
          case rel => exact ⟨k + 1, P + q, hkc, HPN.out, by go_num, by rw [List.range_succ]; exact hJ3, d1, d2⟩
          case measure => simp [intOf]; omega
        · clear hy hR hch
          gi_wp2
          refine bodyPost_ret (results_none rfl _ _ _) rfl ?_
          exact ⟨⟨_, rfl⟩, .inr ⟨_, ⟨k + 1, hkc, List.range_succ.symm⟩, hJx3⟩⟩
    · have hkc : k = chN q len := by
        rcases Nat.lt_or_ge k (chN q len) with h | h
        · exact absurd (hlt.1 h) hPl
        · omega
      clear hlt
      gi_wp2
      go_end0
      exact ⟨⟨_, rfl⟩, .inl ⟨_, by rw [← hkc], hJs⟩⟩


set_option maxRecDepth 100000 in
set_option maxHeartbeats 1000000 in
theorem Chunk0_float32_in (n : Nat) (l Bs Bq : Nat) (J : List Nat → World → Prop) (W : World) (hBs : W.cell? ⟨Bs, 0, none⟩ = some (.slice none 0 0)) (h0 : J [] W) :
    CallsIn Fence.wide n Try.prog 77 #[.func (.yield l) #[] #[], .pointer (some ⟨Bs, 0, none⟩), .pointer (some ⟨Bq, 0, none⟩)] W fun e W' => (∃ v, e = .returned v) ∧ J [] W' := by
  refine callsIn_of_wp Try.func77 rfl trivial ?_ rfl
  simp only [Try.ntmps77, List.size_toArray, List.length_cons, List.length_nil, Nat.reduceAdd, Nat.reduceSub, Array.replicate_succ, Array.replicate_zero, List.push_toArray, List.append_toArray, List.nil_append, List.cons_append]
  gi_wp2
  gi_loopw [4] (fun i wr => i = .int .i64 0 ∧ J [] wr ∧ wr.cell? ⟨Bs, 0, none⟩ = some (.slice none 0 0)) (fun _ _ => 0)
  case atStart => exact ⟨rfl, h0, hBs⟩
  case round =>
    obtain ⟨rfl, hJs, c1⟩ := hrel
    gi_wp2
    go_end0
    exact ⟨⟨_, rfl⟩, hJs⟩

theorem Chunk_float32_stops (n : Nat) (hn : 1 ≤ n) (Bs Bq b off len cap q : Nat) (A : Option Addr) (hA : ChA A b off len) (hq1 : 1 ≤ q) (hq2 : q ≤ 1048576) (hlen : len ≤ 1048576) (hcap : len ≤ cap) (hcap2 : cap ≤ 9223372036854775807) (hnil : A = none → cap = 0) (w : World) (hs : Bs < w.heap.size) (hq : Bq < w.heap.size)
    (hBs : w.cell? ⟨Bs, 0, none⟩ = some (.slice A len cap)) (hBq : w.cell? ⟨Bq, 0, none⟩ = some (.int .i64 (q : Int))) :
    SeqStopsK Fence.wide n Try.prog 77 #[.pointer (some ⟨Bs, 0, none⟩), .pointer (some ⟨Bq, 0, none⟩)] (fun x : Part (chN q len) => #[chV b off q len x.1]) (KpB Bs Bq) (fun ys => ys.map (·.1) = List.range (chN q len)) (fun pre => ∃ k, k ≤ chN q len ∧ pre.map (·.1) = List.range k) (chN q len) w := fun l J Jx W hW hJ _ hY h0 => by
  have c1 := (hW.cell (p := ⟨Bs, 0, none⟩) hs).trans hBs
  have c2 := (hW.cell (p := ⟨Bq, 0, none⟩) hq).trans hBq
  rcases hA with rfl | ⟨rfl, rfl⟩
  · refine (Chunk1_float32_in n hn l Bs Bq b off len cap q hq1 hq2 hlen hcap hcap2 (fun pre W => ∃ p : List (Part (chN q len)), p.map (·.1) = pre ∧ J p W) (fun pre W => ∃ p : List (Part (chN q len)), p.map (·.1) = pre ∧ Jx p W) ?_ ?_ W c1 c2 ⟨[], rfl, h0⟩).mono ?_
    · rintro pre W k ⟨p, hp, h⟩
      exact ⟨p, hp, hJ _ _ _ none h ⟨rfl, rfl, rfl, Nat.le_refl _, fun _ _ _ => rfl⟩ (fun r e => by cases e)⟩
    · rintro pre x W ⟨p, rfl, h⟩ hlen2 hx
      rw [List.length_map] at hlen2
      refine YieldAt.mono (hY p ⟨x, hx⟩ W h hlen2) ?_
      rintro e W' (⟨he, hj, hk⟩ | ⟨he, hj⟩)
      · exact .inl ⟨he, ⟨_, by rw [List.map_append]; rfl, hj⟩, hk⟩
      · exact .inr ⟨he, ⟨_, by rw [List.map_append]; rfl, hj⟩⟩
    · rintro e W' ⟨he, ⟨ys, rfl, p, hp, hj⟩ | ⟨pre, ⟨k, hk, rfl⟩, p, hp, hj⟩⟩
      · exact ⟨he, .inl ⟨p, hp, hj⟩⟩
      · exact ⟨he, .inr ⟨p, ⟨k, hk, hp⟩, hj⟩⟩
  · have hc0 := hnil rfl
    subst hc0
    have hz : chN q 0 = 0 := by unfold chN; rw [Nat.zero_add]; exact Nat.div_eq_of_lt (by omega)
    refine (Chunk0_float32_in n l Bs Bq (fun pre W => pre = [] ∧ J [] W) W c1 ⟨rfl, h0⟩).mono ?_
    rintro e W' ⟨he, _, hj⟩
    exact ⟨he, .inl ⟨[], by rw [hz]; rfl, hj⟩⟩

set_option maxHeartbeats 1000000 in
theorem Chunk_float32_in (n : Nat) (A : Option Addr) (len cap q : Nat) (hq1 : 1 ≤ q) (w : World) :
    CallsIn Fence.wide n Try.prog 43 #[.slice A len cap, .int .i64 (q : Int)] w fun e w' => e = .returned (.func (.func 77) #[] #[.pointer (some ⟨w.heap.size, 0, none⟩), .pointer (some ⟨w.heap.size + 1, 0, none⟩)]) ∧ w' = (w.alloc (.cells #[.slice A len cap] 25)).alloc (.cells #[.int .i64 (q : Int)] 3) := by
  refine callsIn_of_wp Try.func43 rfl trivial ?_ rfl
  simp only [Try.ntmps43, List.size_toArray, List.length_cons, List.length_nil, Nat.reduceAdd, Nat.reduceSub, Array.replicate_succ, Array.replicate_zero, List.push_toArray, List.append_toArray, List.nil_append, List.cons_append]
  gi_wp2
  go_ret
  exact ⟨rfl, rfl⟩



set_option maxHeartbeats 1000000 in
/-- the rule for a loop over the parts of a slice, in a walk outside fences -/
theorem wp_chunk_float32 {g : Operand} {ps : Array Tmp} {assign body : Code} {Q : Exit → Act → World → Prop} {a : Act} {w : World} (Bs Bq b off len cap q : Nat) (A : Option Addr)
    (hg : a.eval g = .func (.func 77) #[] #[.pointer (some ⟨Bs, 0, none⟩), .pointer (some ⟨Bq, 0, none⟩)]) (hps : ps.size = 1)
    (hA : ChA A b off len) (hq1 : 1 ≤ q) (hq2 : q ≤ 1048576) (hlen : len ≤ 1048576) (hcap : len ≤ cap) (hcap2 : cap ≤ 9223372036854775807) (hnil : A = none → cap = 0) (hs : Bs < w.heap.size) (hq : Bq < w.heap.size)
    (hBs : w.cell? ⟨Bs, 0, none⟩ = some (.slice A len cap)) (hBq : w.cell? ⟨Bq, 0, none⟩ = some (.int .i64 (q : Int)))
    (I : List (Part (chN q len)) → World → Prop) (Ix : Code → List (Part (chN q len)) → World → Prop) (hI : OwnFrom w.heap.size I) (hIx : ∀ c, OwnFrom w.heap.size (Ix c)) (h0 : I [] w) (a₁ : Part (chN q len) → Act)
    (hassign : ∀ (l : Nat) (x : Part (chN q len)) (W : World) (K : Act → World → Prop), K (a₁ x) W →
      assign.wpIn (Fence.wide.inRound l) (3 - 1 - 1) Try.prog (Exit.then K (fun _ _ _ => False)) { tmps := (ps.zip #[chV b off q len x.1]).foldl (fun t (p, v) => t.setIfInBounds p v) a.tmps, defers := [] } W)
    (hbody : ∀ (l : Nat) (pre : List (Part (chN q len))) (x : Part (chN q len)) (W : World), I pre W → pre.length < chN q len → body.wpIn (Fence.wide.inRound l) (3 - 1 - 1) Try.prog (ownPostG w.heap.size (KpB Bs Bq) I Ix (pre ++ [x]) W) (a₁ x) W)
    (hdone : ∀ (D : Nat) (xs : List (Part (chN q len))) (W : World), w.heap.size ≤ D → xs.map (·.1) = List.range (chN q len) → I xs W → W.heap[D]? = some (.deferred (some [])) → Q .normal { a with defers := { target := .collected D, args := #[] } :: a.defers } W)
    (hstop : ∀ (D : Nat) (c : Code) (pre : List (Part (chN q len))) (W : World), w.heap.size ≤ D → (∃ k, k ≤ chN q len ∧ pre.map (·.1) = List.range k) → Ix c pre W → W.heap[D]? = some (.deferred (some [])) → c.wp Try.prog Q { a with defers := { target := .collected D, args := #[] } :: a.defers } W) :
    (Code.rangeFunc g ps assign body).wp Try.prog Q a w :=
  (wpIn_wide (n := 3)).1 (wpIn_rangeFunc_ownG rfl (by decide) hg trivial (enters_of Try.func77 (by kernel_rfl) rfl)
    (Chunk_float32_stops (3 - 1) (by decide) Bs Bq b off len cap q A hA hq1 hq2 hlen hcap hcap2 hnil w hs hq hBs hBq) (fun h k => kpB_t h k) (fun W l o o' h1 h2 h3 h4 => kpB_b hs hq W l o o' h1 h2 h3 h4) (Below.refl _ _) (fun x => by rw [hps]; rfl) I Ix hI hIx h0 a₁ hassign hbody hdone
    (fun D c pre W h1 h2 h3 h4 => wpIn_wide.2 (hstop D c pre W h1 h2 h3 h4)))
/-- the same, the round's frame said by its two slots -/
theorem wp_chunk_float32' {g : Operand} {ps : Array Tmp} {assign body : Code} {Q : Exit → Act → World → Prop} {a : Act} {w : World} (p sl : Nat) (Bs Bq b off len cap q : Nat) (A : Option Addr)
    (hg : a.eval g = .func (.func 77) #[] #[.pointer (some ⟨Bs, 0, none⟩), .pointer (some ⟨Bq, 0, none⟩)]) (hps : ps.size = 1)
    (hA : ChA A b off len) (hq1 : 1 ≤ q) (hq2 : q ≤ 1048576) (hlen : len ≤ 1048576) (hcap : len ≤ cap) (hcap2 : cap ≤ 9223372036854775807) (hnil : A = none → cap = 0) (hs : Bs < w.heap.size) (hq : Bq < w.heap.size)
    (hBs : w.cell? ⟨Bs, 0, none⟩ = some (.slice A len cap)) (hBq : w.cell? ⟨Bq, 0, none⟩ = some (.int .i64 (q : Int)))
    (I : List (Part (chN q len)) → World → Prop) (hI : OwnFrom w.heap.size I) (h0 : I [] w)
    (hassign : ∀ (l : Nat) (x : Part (chN q len)) (W : World) (K : Act → World → Prop), K { tmps := (a.tmps.setIfInBounds p (chV b off q len x.1)).setIfInBounds sl (chV b off q len x.1), defers := [] } W →
      assign.wpIn (Fence.wide.inRound l) (3 - 1 - 1) Try.prog (Exit.then K (fun _ _ _ => False)) { tmps := (ps.zip #[chV b off q len x.1]).foldl (fun t (p, v) => t.setIfInBounds p v) a.tmps, defers := [] } W)
    (hbody : ∀ (l : Nat) (pre : List (Part (chN q len))) (x : Part (chN q len)) (W : World), I pre W → pre.length < chN q len → body.wpIn (Fence.wide.inRound l) (3 - 1 - 1) Try.prog (ownPostG w.heap.size (KpB Bs Bq) I (fun _ _ _ => False) (pre ++ [x]) W) { tmps := (a.tmps.setIfInBounds p (chV b off q len x.1)).setIfInBounds sl (chV b off q len x.1), defers := [] } W)
    (hdone : ∀ (D : Nat) (xs : List (Part (chN q len))) (W : World), w.heap.size ≤ D → xs.map (·.1) = List.range (chN q len) → I xs W → W.heap[D]? = some (.deferred (some [])) → Q .normal { a with defers := { target := .collected D, args := #[] } :: a.defers } W) :
    (Code.rangeFunc g ps assign body).wp Try.prog Q a w :=
  wp_chunk_float32 Bs Bq b off len cap q A hg hps hA hq1 hq2 hlen hcap hcap2 hnil hs hq hBs hBq I (fun _ _ _ => False) hI (fun _ _ _ _ _ h _ _ => h) h0 _ hassign hbody hdone (fun _ _ _ _ _ _ h _ => h.elim)

end Go.Proofs.Ytopeidmafalklaa
