/-
  Contracts: logarithms of states behind and before a place, of the program.
  Conditions: a table of logarithms and a block of moves, of one to sixteen states.
-/
import Derived.Test.YtopeidmafalklaaYD
namespace Go.Proofs.Ytopeidmafalklaa
open Go.RowKit Go.Shelf

/-- a slice of a block with a table -/
theorem MRow.yes {M : Nat} {ms : List Int} {part : List Nat} {last : Bool} {W : World} {b S : Nat} (h : MRow M ms part last (fun _ _ => true) W b S) {s : Nat} (hs : s < S) :
    ∃ (x0 : Nat) (h1 : Bool) (to1 : Int) (x1 : Nat), W.cell? ⟨b, s * 6, none⟩ = some (.bool true) ∧ W.cell? ⟨b, s * 6 + 1, none⟩ = some (.int .i64 (toS M s false : Nat)) ∧ W.cell? ⟨b, s * 6 + 2, none⟩ = some (.float .f32 x0) ∧ fl .f32 x0 = halfO ms part s false ∧
      W.cell? ⟨b, s * 6 + 3, none⟩ = some (.bool h1) ∧ W.cell? ⟨b, s * 6 + 4, none⟩ = some (.int .i64 to1) ∧ W.cell? ⟨b, s * 6 + 5, none⟩ = some (.float .f32 x1) ∧ h1 = !last ∧ (last = false → to1 = (toS M s true : Nat) ∧ fl .f32 x1 = halfO ms part s true) := by
  obtain ⟨cs, hO, _, h2⟩ := h
  have h3 := h2 s hs false
  have h4 := h2 s hs true
  unfold MvC at h3 h4
  rw [if_pos (by simp)] at h3
  obtain ⟨x0, a0, a1, a2, a3⟩ := h3
  cases last
  · rw [if_pos (show (true && !(true && false)) = true from rfl)] at h4
    obtain ⟨x1, b0, b1, b2, b3⟩ := h4
    exact ⟨x0, true, _, x1, (hO.cell _).trans a0, (hO.cell _).trans a1, (hO.cell _).trans a2, a3, (hO.cell _).trans b0, (hO.cell _).trans b1, (hO.cell _).trans b2, rfl, fun _ => ⟨rfl, b3⟩⟩
  · rw [if_neg (show ¬ (true && !(true && true)) = true by decide)] at h4
    exact ⟨x0, false, _, 0, (hO.cell _).trans a0, (hO.cell _).trans a1, (hO.cell _).trans a2, a3, (hO.cell _).trans h4.1, (hO.cell _).trans h4.2.1, (hO.cell _).trans h4.2.2, rfl, fun h => nomatch h⟩
/-- the table within a state: behind so many bits -/
def fbT (M : Nat) (ms : List Int) (part : List Nat) (last : Bool) (a : List St) (s : Nat) : Nat → List St
  | 0 => fwdR M ms part last a s
  | 1 => fwdE M ms part last a s false (fwdR M ms part last a s)
  | _ + 2 => fwdR M ms part last a (s + 1)
theorem fbT_step {M : Nat} {ms : List Int} {part : List Nat} {last : Bool} {a : List St} {s : Nat} (c : Bool) : fbT M ms part last a s (bN c + 1) = fwdE M ms part last a s c (fbT M ms part last a s (bN c)) := by cases c <;> rfl
def bbT (M : Nat) (ms : List Int) (part : List Nat) (last : Bool) (a : List St) (s : Nat) : Nat → List St
  | 0 => bwdR M ms part last a s
  | 1 => bwdE M ms part last a s false (bwdR M ms part last a s)
  | _ + 2 => bwdR M ms part last a (s + 1)
theorem bbT_step {M : Nat} {ms : List Int} {part : List Nat} {last : Bool} {a : List St} {s : Nat} (c : Bool) : bbT M ms part last a s (bN c + 1) = bwdE M ms part last a s c (bbT M ms part last a s (bN c)) := by cases c <;> rfl

/-- a drawn region whose operations make memory above D, its last operations in one order -/
theorem wp_region_B {P : Program} (Rv : FuncId → Array Value → Value → Prop) (n : Nat) {D : Nat} {w0 : World} {id : Nat} {Q : Exit → Act → World → Prop} {a : Act} {w : World} {l : List Oper} (hm : P.follows .mixedOrders = true) (hB : Region.lexTailB .any l.toArray n = true) (hw : Below D w0 w)
    (h : wpRel P l.toArray (Below D w0) Rv (fun a' => ∀ w', Below D w0 w' → wpList P l.toArray Q (l.drop n) a' w') (l.take n) a) : (Code.region id l.toArray true).wp P Q a w :=
  wp_region_rel_tail (C := Below D w0) (Rv := Rv) n hm hB (below_drewN hw 1) h
@[go_sem] theorem operRel_B {P : Program} {Rv : FuncId → Array Value → Value → Prop} {o : Oper} {a : Act} {D : Nat} {w0 : World} {next : Act → Prop} :
    operRel P o a (Below D w0) Rv next ↔ ∀ W, Below D w0 W → relUpon P (Below D w0) Rv (fun v => next (a.put o.dst v)) ((execOp a.eval o).run P W) := Iff.rfl
/-- what the joins and sums yield -/
def RvJ (f : FuncId) (args : Array Value) (v : Value) : Prop :=
  (f = 48 ∧ ∃ h x y k z, args = #[.agg #[.bool h, .float .f32 x], .float .f32 y] ∧ v = .agg #[.bool k, .float .f32 z] ∧ stO k z = plusS (stO h x) (fl .f32 y)) ∨
  (f = 49 ∧ ∃ h1 x1 h2 x2 k z, args = #[.agg #[.bool h1, .float .f32 x1], .agg #[.bool h2, .float .f32 x2]] ∧ v = .agg #[.bool k, .float .f32 z] ∧ stO k z = joinS (stO h1 x1) (stO h2 x2))

theorem plus_B {D : Nat} {w0 W : World} (hD : D ≤ w0.heap.size) (hW : Below D w0 W) (h : Bool) (x y : Nat) : Calls Try.prog 48 #[.agg #[.bool h, .float .f32 x], .float .f32 y] W fun e w'' => ∃ v, e = .returned v ∧ RvJ 48 #[.agg #[.bool h, .float .f32 x], .float .f32 y] v ∧ Below D w0 w'' :=
  (impl_plus_c W h x y).mono fun _ _ ⟨k, z, h1, h2, h3⟩ => ⟨_, h1, .inl ⟨rfl, h, x, y, k, z, rfl, rfl, h2⟩, hW.trans (h3.mono (Nat.le_trans hD hW.size))⟩
theorem join_B {D : Nat} {w0 W : World} (hD : D ≤ w0.heap.size) (hW : Below D w0 W) (h1 h2 : Bool) (x y : Nat) : Calls Try.prog 49 #[.agg #[.bool h1, .float .f32 x], .agg #[.bool h2, .float .f32 y]] W fun e w'' => ∃ v, e = .returned v ∧ RvJ 49 #[.agg #[.bool h1, .float .f32 x], .agg #[.bool h2, .float .f32 y]] v ∧ Below D w0 w'' :=
  (impl_join_c W h1 h2 x y).mono fun _ _ ⟨k, z, e1, e2, e3⟩ => ⟨_, e1, .inr ⟨rfl, h1, x, h2, y, k, z, rfl, rfl, e2⟩, hW.trans (e3.mono (Nat.le_trans hD hW.size))⟩
theorem rv_plus {h : Bool} {x y : Nat} {v : Value} (hv : RvJ 48 #[.agg #[.bool h, .float .f32 x], .float .f32 y] v) : ∃ k z, v = .agg #[.bool k, .float .f32 z] ∧ stO k z = plusS (stO h x) (fl .f32 y) := by
  rcases hv with ⟨_, h', x', y', k, z, e, rfl, e2⟩ | ⟨e, _⟩
  · simp only [Array.mk.injEq, List.cons.injEq, Value.agg.injEq, Value.bool.injEq, Value.float.injEq, true_and, and_true] at e
    obtain ⟨⟨rfl, rfl⟩, rfl⟩ := e
    exact ⟨k, z, rfl, e2⟩
  · exact absurd e (by decide)
theorem rv_join {h1 h2 : Bool} {x y : Nat} {v : Value} (hv : RvJ 49 #[.agg #[.bool h1, .float .f32 x], .agg #[.bool h2, .float .f32 y]] v) : ∃ k z, v = .agg #[.bool k, .float .f32 z] ∧ stO k z = joinS (stO h1 x) (stO h2 y) := by
  rcases hv with ⟨e, _⟩ | ⟨_, h1', x', h2', y', k, z, e, rfl, e2⟩
  · exact absurd e (by decide)
  · simp only [Array.mk.injEq, List.cons.injEq, Value.agg.injEq, Value.bool.injEq, Value.float.injEq, true_and, and_true] at e
    obtain ⟨⟨rfl, rfl⟩, rfl, rfl⟩ := e
    exact ⟨k, z, rfl, e2⟩
theorem sizeMove : Try.t93.size = 3 := rfl
theorem run_index_move0 (w : World) (a b c d e f : Value) : (Instr.index 94 (.agg #[a, b, c, d, e, f]) (.int .i64 0)).run Try.prog w = .ok (.agg #[a, b, c]) w := by
  simp [Instr.index, run_underlying Try.underlying94, run_underlying Try.underlying93, asIntOf, part, isAgg, sizeOf, sizeMove, go_sem]
theorem run_index_move1 (w : World) (a b c d e f : Value) : (Instr.index 94 (.agg #[a, b, c, d, e, f]) (.int .i64 1)).run Try.prog w = .ok (.agg #[d, e, f]) w := by
  simp [Instr.index, run_underlying Try.underlying94, run_underlying Try.underlying93, asIntOf, part, isAgg, sizeOf, sizeMove, go_sem]
attribute [go_sem] run_index_move0 run_index_move1


set_option maxRecDepth 100000 in
set_option maxHeartbeats 4000000 in
theorem impl_forward_c (w : World) (M : Nat) (hM4 : M ≤ 4) (ms : List Int) (pt : List Nat) (last : Bool) (a g : Nat) (T : List St) (hT : SRow 87 w a (2 ^ M) T) (hm : MRow M ms pt last (fun _ _ => true) w g (2 ^ M)) :
    Calls Try.prog 50 #[.slice (some ⟨a, 0, none⟩) (2 ^ M) (2 ^ M), .slice (some ⟨g, 0, none⟩) (2 ^ M) (2 ^ M)] w fun e w' => ∃ b, e = .returned (.slice (some ⟨b, 0, none⟩) (2 ^ M) (2 ^ M)) ∧ w.heap.size ≤ b ∧ SRow 87 w' b (2 ^ M) (fwdR M ms pt last T (2 ^ M)) ∧ Below w.heap.size w w' := by
  obtain ⟨S, hS⟩ : ∃ S : Nat, 2 ^ M = S := ⟨_, rfl⟩
  have hS16 : S ≤ 16 := by rw [← hS]; exact Nat.pow_le_pow_right (n := 2) (by decide) hM4
  have hS1 : 1 ≤ S := by rw [← hS]; exact Nat.pow_pos (by decide)
  have hmk := fun W : World => run_mkLikely S (by omega) .i64 .i64 W
  rw [hS] at hT hm ⊢
  have HS := Lib.hid hS
  have HT := Lib.hid hT
  have HM := Lib.hid hm
  obtain ⟨w1, e1⟩ : ∃ q : World, q = w.alloc (.cells (madeCells #[Value.bool false, .float .f32 0] (S * 2)) 87) := ⟨_, rfl⟩
  have b1 : Below w.heap.size w w1 := by rw [e1]; exact (Below.refl _ _).alloc (Nat.le_refl _) _
  have R1 : SRow 87 w1 w.heap.size S (noneR S) := by rw [e1]; exact SRow.new _ w S
  have z1 : w.heap.size + 1 ≤ w1.heap.size := by rw [e1]; simp
  have HR1 := Lib.hid R1
  have HB1 := Lib.hid b1
  clear hS hT hm R1 b1
  go_enter Try.func50, Try.ntmps50
  go_wp2_with (rw [← e1]; clear e1)
  clear hmk
  go_loopw [15] (fun i wr => ∃ s : Nat, s ≤ S ∧ i = .int .i64 s ∧ SRow 87 wr w.heap.size S (fwdR M ms pt last T s) ∧ Below w.heap.size w wr) (fun i _ => S - (intOf i).toNat)
  case atStart =>
    refine ⟨0, Nat.zero_le _, rfl, ?_, HB1.out⟩
    show SRow _ w1 _ _ (noneR (2 ^ M))
    rw [HS.out]
    exact HR1.out
  case round =>
    obtain ⟨s, hs, rfl, hr, hb⟩ := hrel
    obtain ⟨wA, rfl⟩ : ∃ q : World, q = wr := ⟨_, rfl⟩
    by_cases hlt : s < S
    · have HR := Lib.hid hr
      have hmA := HM.out.below hb HM.out.lt
      obtain ⟨x0, h1, to1, x1, c0, c1, c2, hx0, c3, c4, c5, hh1, hto1⟩ := hmA.yes hlt
      have HBR := Lib.hid hb
      clear hr hmA hb
      cases last
      · obtain rfl : h1 = true := hh1
        obtain ⟨hto2, hx1⟩ := hto1 rfl
        subst hto2
        clear hto1
        go_wp2
        go_loopw [21] (fun i wr => ∃ j : Nat, j ≤ 2 ∧ i = .int .i64 j ∧ SRow 87 wr w.heap.size S (fbT M ms pt false T s j) ∧ Below w.heap.size w wr) (fun i _ => 2 - (intOf i).toNat)
        case atStart => exact ⟨0, by omega, rfl, HR.out.alloc _, HBR.out.alloc HBR.out.size _⟩
        case round =>
          clear HR c0 c1 c2 c3 c4 c5 HBR
          obtain ⟨j, hj, rfl, hr, hb⟩ := hrel
          obtain ⟨wF, rfl⟩ : ∃ q : World, q = wr := ⟨_, rfl⟩
          have HR := Lib.hid hr
          have HBR := Lib.hid hb
          have hsz := hb.size
          have hRlt := hr.lt
          have hTlt := HT.out.lt
          clear hr hb
          rcases (show j = 0 ∨ j = 1 ∨ j = 2 by omega) with rfl | rfl | rfl
          · obtain ⟨to, eto⟩ : ∃ to, toS M s false = to := ⟨_, rfl⟩
            have hto : to < S := by rw [← eto, ← HS.out]; exact toS_lt false
            rw [eto]
            obtain ⟨wB, eB⟩ : ∃ q : World, q = wF.alloc (.cells #[.bool true, .int .i64 (to : Int), .float .f32 x0] 93) := ⟨_, rfl⟩
            have oB : Obj wB wF.heap.size 93 #[.bool true, .int .i64 (to : Int), .float .f32 x0] := by rw [eB]; exact Obj.new _ _ _
            have bB : Below w.heap.size w wB := by rw [eB]; exact HBR.out.alloc hsz _
            have rB : SRow 87 wB w.heap.size S (fbT M ms pt false T s 0) := by rw [eB]; exact HR.out.alloc _
            have tB : SRow 87 wB a S T := HT.out.below bB hTlt
            obtain ⟨f1, y1, d0, d1, hd⟩ := rB.cells (s := to) (by omega)
            obtain ⟨f2, y2, g0, g1, hg⟩ := tB.cells (s := s) (by omega)
            have m0 := (oB.cell 0).trans (show #[Value.bool true, .int .i64 (to : Int), .float .f32 x0][0]? = some (.bool true) from rfl)
            have HLD : Hid (∀ W, Below wB.heap.size wB W → W.cell? ⟨wF.heap.size, 1, none⟩ = some (.int .i64 (to : Int)) ∧ W.cell? ⟨wF.heap.size, 2, none⟩ = some (.float .f32 x0) ∧ W.cell? ⟨w.heap.size, to * 2, none⟩ = some (.bool f1) ∧ W.cell? ⟨w.heap.size, to * 2 + 1, none⟩ = some (.float .f32 y1) ∧ W.cell? ⟨a, s * 2, none⟩ = some (.bool f2) ∧ W.cell? ⟨a, s * 2 + 1, none⟩ = some (.float .f32 y2)) :=
              Lib.hid fun W hW => ⟨((oB.below hW oB.lt).cell 1).trans rfl, ((oB.below hW oB.lt).cell 2).trans rfl, (hW.cell (p := ⟨w.heap.size, to * 2, none⟩) rB.lt).trans d0, (hW.cell (p := ⟨w.heap.size, to * 2 + 1, none⟩) rB.lt).trans d1, (hW.cell (p := ⟨a, s * 2, none⟩) tB.lt).trans g0, (hW.cell (p := ⟨a, s * 2 + 1, none⟩) tB.lt).trans g1⟩
            have HTO := Lib.hid eto
            clear d0 d1 g0 g1 eto
            go_wp2_with (rw [← eB]; clear eB)
            refine wp_region_B RvJ 17 (D := wB.heap.size) (w0 := wB) (by kernel_rfl) (by kernel_rfl) (Below.refl _ _) ?_
            simp only [List.take_succ_cons, List.take_zero, List.drop_succ_cons, List.drop_zero]
            iterate 14 (refine wpRel_step (fun K hK => ?_); go_simp; intro W hW; obtain ⟨q0, q1, q2, q3, q4, q5⟩ := HLD.out W hW; (try go_simp); (first | refine ⟨hW, hK _ ?_⟩ | refine hK _ ?_); clear q0 q1 q2 q3 q4 q5 hK K hW W)
            refine wpRel_step (fun K hK => ?_)
            go_simp
            intro W hW
            refine ⟨plus_B (Nat.le_refl _) hW _ _ _, fun v hv => ?_⟩
            obtain ⟨k1, z1, rfl, hv1⟩ := rv_plus hv
            refine hK _ ?_
            clear hK K hW W hv
            refine wpRel_step (fun K hK => ?_)
            go_simp
            intro W hW
            refine ⟨join_B (Nat.le_refl _) hW _ _ _ _, fun v hv => ?_⟩
            obtain ⟨k2, z2, rfl, hv2⟩ := rv_join hv
            refine hK _ ?_
            clear hK K hW W hv
            refine wpRel_step (fun K hK => ?_)
            go_simp
            intro W hW
            (first | refine ⟨hW, hK _ ?_⟩ | refine hK _ ?_)
            clear hK K hW W
            refine wpRel_nil ?_
            intro W hW
            have rW := rB.below hW rB.lt
            obtain ⟨f3, y3, t0, t1, _⟩ := rW.cells (s := to) (by omega)
            have u0 := rW.frz (to * 2)
            have u1 := rW.frz (to * 2 + 1)
            have HRW := Lib.hid rW
            have HV : Hid (stO k2 z2 = joinS ((fbT M ms pt false T s 0).getD to none) (plusS (T.getD s none) (halfO ms pt s false))) := Lib.hid (by rw [hv2, hv1, hd, hg, hx0])
            have hbWW : Below w.heap.size w W := bB.trans (hW.mono bB.size)
            clear rW hv1 hv2
            go_wp2
            go_roundw
            case rel =>
              refine ⟨0 + 1, by omega, by go_num, ?_, Below.setCell (p := ⟨w.heap.size, to * 2 + 1, none⟩) (Below.setCell (p := ⟨w.heap.size, to * 2, none⟩) hbWW (Nat.le_refl _) _) (Nat.le_refl _) _⟩
              have h9 := fbT_step (M := M) (ms := ms) (part := pt) (last := false) (a := T) (s := s) false
              rw [fwdE_yes (show (false && false) = false from rfl), HTO.out] at h9
              have h8 := SRow.put HRW.out (to := to) (by omega) k2 z2 _ HV.out
              have e9 : fbT M ms pt false T s (0 + 1) = ((fbT M ms pt false T s 0).set to (joinS ((fbT M ms pt false T s 0).getD to none) (plusS (T.getD s none) (halfO ms pt s false)))) := h9
              rw [e9]
              exact h8
            case measure => simp [intOf]
          · obtain ⟨to, eto⟩ : ∃ to, toS M s true = to := ⟨_, rfl⟩
            have hto : to < S := by rw [← eto, ← HS.out]; exact toS_lt true
            rw [eto]
            obtain ⟨wB, eB⟩ : ∃ q : World, q = wF.alloc (.cells #[.bool true, .int .i64 (to : Int), .float .f32 x1] 93) := ⟨_, rfl⟩
            have oB : Obj wB wF.heap.size 93 #[.bool true, .int .i64 (to : Int), .float .f32 x1] := by rw [eB]; exact Obj.new _ _ _
            have bB : Below w.heap.size w wB := by rw [eB]; exact HBR.out.alloc hsz _
            have rB : SRow 87 wB w.heap.size S (fbT M ms pt false T s 1) := by rw [eB]; exact HR.out.alloc _
            have tB : SRow 87 wB a S T := HT.out.below bB hTlt
            obtain ⟨f1, y1, d0, d1, hd⟩ := rB.cells (s := to) (by omega)
            obtain ⟨f2, y2, g0, g1, hg⟩ := tB.cells (s := s) (by omega)
            have m0 := (oB.cell 0).trans (show #[Value.bool true, .int .i64 (to : Int), .float .f32 x1][0]? = some (.bool true) from rfl)
            have HLD : Hid (∀ W, Below wB.heap.size wB W → W.cell? ⟨wF.heap.size, 1, none⟩ = some (.int .i64 (to : Int)) ∧ W.cell? ⟨wF.heap.size, 2, none⟩ = some (.float .f32 x1) ∧ W.cell? ⟨w.heap.size, to * 2, none⟩ = some (.bool f1) ∧ W.cell? ⟨w.heap.size, to * 2 + 1, none⟩ = some (.float .f32 y1) ∧ W.cell? ⟨a, s * 2, none⟩ = some (.bool f2) ∧ W.cell? ⟨a, s * 2 + 1, none⟩ = some (.float .f32 y2)) :=
              Lib.hid fun W hW => ⟨((oB.below hW oB.lt).cell 1).trans rfl, ((oB.below hW oB.lt).cell 2).trans rfl, (hW.cell (p := ⟨w.heap.size, to * 2, none⟩) rB.lt).trans d0, (hW.cell (p := ⟨w.heap.size, to * 2 + 1, none⟩) rB.lt).trans d1, (hW.cell (p := ⟨a, s * 2, none⟩) tB.lt).trans g0, (hW.cell (p := ⟨a, s * 2 + 1, none⟩) tB.lt).trans g1⟩
            have HTO := Lib.hid eto
            clear d0 d1 g0 g1 eto
            go_wp2_with (rw [← eB]; clear eB)
            refine wp_region_B RvJ 17 (D := wB.heap.size) (w0 := wB) (by kernel_rfl) (by kernel_rfl) (Below.refl _ _) ?_
            simp only [List.take_succ_cons, List.take_zero, List.drop_succ_cons, List.drop_zero]
            iterate 14 (refine wpRel_step (fun K hK => ?_); go_simp; intro W hW; obtain ⟨q0, q1, q2, q3, q4, q5⟩ := HLD.out W hW; (try go_simp); (first | refine ⟨hW, hK _ ?_⟩ | refine hK _ ?_); clear q0 q1 q2 q3 q4 q5 hK K hW W)
            refine wpRel_step (fun K hK => ?_)
            go_simp
            intro W hW
            refine ⟨plus_B (Nat.le_refl _) hW _ _ _, fun v hv => ?_⟩
            obtain ⟨k1, z1, rfl, hv1⟩ := rv_plus hv
            refine hK _ ?_
            clear hK K hW W hv
            refine wpRel_step (fun K hK => ?_)
            go_simp
            intro W hW
            refine ⟨join_B (Nat.le_refl _) hW _ _ _ _, fun v hv => ?_⟩
            obtain ⟨k2, z2, rfl, hv2⟩ := rv_join hv
            refine hK _ ?_
            clear hK K hW W hv
            refine wpRel_step (fun K hK => ?_)
            go_simp
            intro W hW
            (first | refine ⟨hW, hK _ ?_⟩ | refine hK _ ?_)
            clear hK K hW W
            refine wpRel_nil ?_
            intro W hW
            have rW := rB.below hW rB.lt
            obtain ⟨f3, y3, t0, t1, _⟩ := rW.cells (s := to) (by omega)
            have u0 := rW.frz (to * 2)
            have u1 := rW.frz (to * 2 + 1)
            have HRW := Lib.hid rW
            have HV : Hid (stO k2 z2 = joinS ((fbT M ms pt false T s 1).getD to none) (plusS (T.getD s none) (halfO ms pt s true))) := Lib.hid (by rw [hv2, hv1, hd, hg, hx1])
            have hbWW : Below w.heap.size w W := bB.trans (hW.mono bB.size)
            clear rW hv1 hv2
            go_wp2
            go_roundw
            case rel =>
              refine ⟨1 + 1, by omega, by go_num, ?_, Below.setCell (p := ⟨w.heap.size, to * 2 + 1, none⟩) (Below.setCell (p := ⟨w.heap.size, to * 2, none⟩) hbWW (Nat.le_refl _) _) (Nat.le_refl _) _⟩
              have h9 := fbT_step (M := M) (ms := ms) (part := pt) (last := false) (a := T) (s := s) true
              rw [fwdE_yes (show (true && false) = false from rfl), HTO.out] at h9
              have h8 := SRow.put HRW.out (to := to) (by omega) k2 z2 _ HV.out
              have e9 : fbT M ms pt false T s (1 + 1) = ((fbT M ms pt false T s 1).set to (joinS ((fbT M ms pt false T s 1).getD to none) (plusS (T.getD s none) (halfO ms pt s true)))) := h9
              rw [e9]
              exact h8
            case measure => simp [intOf]
          · go_wp2
            go_roundw
            case rel => exact ⟨s + 1, by omega, by go_num, HR.out, HBR.out⟩
            case measure => simp [intOf]; omega
      · obtain rfl : h1 = false := hh1
        clear hto1
        go_wp2
        go_loopw [21] (fun i wr => ∃ j : Nat, j ≤ 2 ∧ i = .int .i64 j ∧ SRow 87 wr w.heap.size S (fbT M ms pt true T s j) ∧ Below w.heap.size w wr) (fun i _ => 2 - (intOf i).toNat)
        case atStart => exact ⟨0, by omega, rfl, HR.out.alloc _, HBR.out.alloc HBR.out.size _⟩
        case round =>
          clear HR c0 c1 c2 c3 c4 c5 HBR
          obtain ⟨j, hj, rfl, hr, hb⟩ := hrel
          obtain ⟨wF, rfl⟩ : ∃ q : World, q = wr := ⟨_, rfl⟩
          have HR := Lib.hid hr
          have HBR := Lib.hid hb
          have hsz := hb.size
          have hRlt := hr.lt
          have hTlt := HT.out.lt
          clear hr hb
          rcases (show j = 0 ∨ j = 1 ∨ j = 2 by omega) with rfl | rfl | rfl
          · obtain ⟨to, eto⟩ : ∃ to, toS M s false = to := ⟨_, rfl⟩
            have hto : to < S := by rw [← eto, ← HS.out]; exact toS_lt false
            rw [eto]
            obtain ⟨wB, eB⟩ : ∃ q : World, q = wF.alloc (.cells #[.bool true, .int .i64 (to : Int), .float .f32 x0] 93) := ⟨_, rfl⟩
            have oB : Obj wB wF.heap.size 93 #[.bool true, .int .i64 (to : Int), .float .f32 x0] := by rw [eB]; exact Obj.new _ _ _
            have bB : Below w.heap.size w wB := by rw [eB]; exact HBR.out.alloc hsz _
            have rB : SRow 87 wB w.heap.size S (fbT M ms pt true T s 0) := by rw [eB]; exact HR.out.alloc _
            have tB : SRow 87 wB a S T := HT.out.below bB hTlt
            obtain ⟨f1, y1, d0, d1, hd⟩ := rB.cells (s := to) (by omega)
            obtain ⟨f2, y2, g0, g1, hg⟩ := tB.cells (s := s) (by omega)
            have m0 := (oB.cell 0).trans (show #[Value.bool true, .int .i64 (to : Int), .float .f32 x0][0]? = some (.bool true) from rfl)
            have HLD : Hid (∀ W, Below wB.heap.size wB W → W.cell? ⟨wF.heap.size, 1, none⟩ = some (.int .i64 (to : Int)) ∧ W.cell? ⟨wF.heap.size, 2, none⟩ = some (.float .f32 x0) ∧ W.cell? ⟨w.heap.size, to * 2, none⟩ = some (.bool f1) ∧ W.cell? ⟨w.heap.size, to * 2 + 1, none⟩ = some (.float .f32 y1) ∧ W.cell? ⟨a, s * 2, none⟩ = some (.bool f2) ∧ W.cell? ⟨a, s * 2 + 1, none⟩ = some (.float .f32 y2)) :=
              Lib.hid fun W hW => ⟨((oB.below hW oB.lt).cell 1).trans rfl, ((oB.below hW oB.lt).cell 2).trans rfl, (hW.cell (p := ⟨w.heap.size, to * 2, none⟩) rB.lt).trans d0, (hW.cell (p := ⟨w.heap.size, to * 2 + 1, none⟩) rB.lt).trans d1, (hW.cell (p := ⟨a, s * 2, none⟩) tB.lt).trans g0, (hW.cell (p := ⟨a, s * 2 + 1, none⟩) tB.lt).trans g1⟩
            have HTO := Lib.hid eto
            clear d0 d1 g0 g1 eto
            go_wp2_with (rw [← eB]; clear eB)
            refine wp_region_B RvJ 17 (D := wB.heap.size) (w0 := wB) (by kernel_rfl) (by kernel_rfl) (Below.refl _ _) ?_
            simp only [List.take_succ_cons, List.take_zero, List.drop_succ_cons, List.drop_zero]
            iterate 14 (refine wpRel_step (fun K hK => ?_); go_simp; intro W hW; obtain ⟨q0, q1, q2, q3, q4, q5⟩ := HLD.out W hW; (try go_simp); (first | refine ⟨hW, hK _ ?_⟩ | refine hK _ ?_); clear q0 q1 q2 q3 q4 q5 hK K hW W)
            refine wpRel_step (fun K hK => ?_)
            go_simp
            intro W hW
            refine ⟨plus_B (Nat.le_refl _) hW _ _ _, fun v hv => ?_⟩
            obtain ⟨k1, z1, rfl, hv1⟩ := rv_plus hv
            refine hK _ ?_
            clear hK K hW W hv
            refine wpRel_step (fun K hK => ?_)
            go_simp
            intro W hW
            refine ⟨join_B (Nat.le_refl _) hW _ _ _ _, fun v hv => ?_⟩
            obtain ⟨k2, z2, rfl, hv2⟩ := rv_join hv
            refine hK _ ?_
            clear hK K hW W hv
            refine wpRel_step (fun K hK => ?_)
            go_simp
            intro W hW
            (first | refine ⟨hW, hK _ ?_⟩ | refine hK _ ?_)
            clear hK K hW W
            refine wpRel_nil ?_
            intro W hW
            have rW := rB.below hW rB.lt
            obtain ⟨f3, y3, t0, t1, _⟩ := rW.cells (s := to) (by omega)
            have u0 := rW.frz (to * 2)
            have u1 := rW.frz (to * 2 + 1)
            have HRW := Lib.hid rW
            have HV : Hid (stO k2 z2 = joinS ((fbT M ms pt true T s 0).getD to none) (plusS (T.getD s none) (halfO ms pt s false))) := Lib.hid (by rw [hv2, hv1, hd, hg, hx0])
            have hbWW : Below w.heap.size w W := bB.trans (hW.mono bB.size)
            clear rW hv1 hv2
            go_wp2
            go_roundw
            case rel =>
              refine ⟨0 + 1, by omega, by go_num, ?_, Below.setCell (p := ⟨w.heap.size, to * 2 + 1, none⟩) (Below.setCell (p := ⟨w.heap.size, to * 2, none⟩) hbWW (Nat.le_refl _) _) (Nat.le_refl _) _⟩
              have h9 := fbT_step (M := M) (ms := ms) (part := pt) (last := true) (a := T) (s := s) false
              rw [fwdE_yes (show (false && true) = false from rfl), HTO.out] at h9
              have h8 := SRow.put HRW.out (to := to) (by omega) k2 z2 _ HV.out
              have e9 : fbT M ms pt true T s (0 + 1) = ((fbT M ms pt true T s 0).set to (joinS ((fbT M ms pt true T s 0).getD to none) (plusS (T.getD s none) (halfO ms pt s false)))) := h9
              rw [e9]
              exact h8
            case measure => simp [intOf]
          · obtain ⟨wB, eB⟩ : ∃ q : World, q = wF.alloc (.cells #[.bool false, .int .i64 to1, .float .f32 x1] 93) := ⟨_, rfl⟩
            have oB : Obj wB wF.heap.size 93 #[.bool false, .int .i64 to1, .float .f32 x1] := by rw [eB]; exact Obj.new _ _ _
            have bB : Below w.heap.size w wB := by rw [eB]; exact HBR.out.alloc hsz _
            have rB : SRow 87 wB w.heap.size S (fbT M ms pt true T s 1) := by rw [eB]; exact HR.out.alloc _
            have m0 := (oB.cell 0).trans (show #[Value.bool false, .int .i64 to1, .float .f32 x1][0]? = some (.bool false) from rfl)
            have hstep : fbT M ms pt true T s (1 + 1) = fbT M ms pt true T s 1 := (fbT_step true).trans fwdE_last
            have HSTEP := Lib.hid hstep
            clear hstep
            go_wp2_with (rw [← eB]; clear eB)
            go_roundw
            case rel => exact ⟨1 + 1, by omega, by go_num, by rw [HSTEP.out]; exact rB, bB⟩
            case measure => simp [intOf]
          · go_wp2
            go_roundw
            case rel => exact ⟨s + 1, by omega, by go_num, HR.out, HBR.out⟩
            case measure => simp [intOf]; omega
    · obtain rfl : s = S := by omega
      have HR := Lib.hid hr
      clear hr
      go_wp2
      go_ret
      exact ⟨_, rfl, Nat.le_refl _, HR.out, hb⟩


set_option maxRecDepth 100000 in
set_option maxHeartbeats 4000000 in
theorem impl_backward_c (w : World) (M : Nat) (hM4 : M ≤ 4) (ms : List Int) (pt : List Nat) (last : Bool) (a g : Nat) (T : List St) (hT : SRow 87 w a (2 ^ M) T) (hm : MRow M ms pt last (fun _ _ => true) w g (2 ^ M)) :
    Calls Try.prog 46 #[.slice (some ⟨a, 0, none⟩) (2 ^ M) (2 ^ M), .slice (some ⟨g, 0, none⟩) (2 ^ M) (2 ^ M)] w fun e w' => ∃ b, e = .returned (.slice (some ⟨b, 0, none⟩) (2 ^ M) (2 ^ M)) ∧ w.heap.size ≤ b ∧ SRow 87 w' b (2 ^ M) (bwdR M ms pt last T (2 ^ M)) ∧ Below w.heap.size w w' := by
  obtain ⟨S, hS⟩ : ∃ S : Nat, 2 ^ M = S := ⟨_, rfl⟩
  have hS16 : S ≤ 16 := by rw [← hS]; exact Nat.pow_le_pow_right (n := 2) (by decide) hM4
  have hS1 : 1 ≤ S := by rw [← hS]; exact Nat.pow_pos (by decide)
  have hmk := fun W : World => run_mkLikely S (by omega) .i64 .i64 W
  rw [hS] at hT hm ⊢
  have HS := Lib.hid hS
  have HT := Lib.hid hT
  have HM := Lib.hid hm
  obtain ⟨w1, e1⟩ : ∃ q : World, q = w.alloc (.cells (madeCells #[Value.bool false, .float .f32 0] (S * 2)) 87) := ⟨_, rfl⟩
  have b1 : Below w.heap.size w w1 := by rw [e1]; exact (Below.refl _ _).alloc (Nat.le_refl _) _
  have R1 : SRow 87 w1 w.heap.size S (noneR S) := by rw [e1]; exact SRow.new _ w S
  have z1 : w.heap.size + 1 ≤ w1.heap.size := by rw [e1]; simp
  have HR1 := Lib.hid R1
  have HB1 := Lib.hid b1
  clear hS hT hm R1 b1
  go_enter Try.func46, Try.ntmps46
  go_wp2_with (rw [← e1]; clear e1)
  clear hmk
  go_loopw [15] (fun i wr => ∃ s : Nat, s ≤ S ∧ i = .int .i64 s ∧ SRow 87 wr w.heap.size S (bwdR M ms pt last T s) ∧ Below w.heap.size w wr) (fun i _ => S - (intOf i).toNat)
  case atStart =>
    refine ⟨0, Nat.zero_le _, rfl, ?_, HB1.out⟩
    show SRow _ w1 _ _ (noneR (2 ^ M))
    rw [HS.out]
    exact HR1.out
  case round =>
    obtain ⟨s, hs, rfl, hr, hb⟩ := hrel
    obtain ⟨wA, rfl⟩ : ∃ q : World, q = wr := ⟨_, rfl⟩
    by_cases hlt : s < S
    · have HR := Lib.hid hr
      have hmA := HM.out.below hb HM.out.lt
      obtain ⟨x0, h1, to1, x1, c0, c1, c2, hx0, c3, c4, c5, hh1, hto1⟩ := hmA.yes hlt
      have HBR := Lib.hid hb
      clear hr hmA hb
      cases last
      · obtain rfl : h1 = true := hh1
        obtain ⟨hto2, hx1⟩ := hto1 rfl
        subst hto2
        clear hto1
        go_wp2
        go_loopw [21] (fun i wr => ∃ j : Nat, j ≤ 2 ∧ i = .int .i64 j ∧ SRow 87 wr w.heap.size S (bbT M ms pt false T s j) ∧ Below w.heap.size w wr) (fun i _ => 2 - (intOf i).toNat)
        case atStart => exact ⟨0, by omega, rfl, HR.out.alloc _, HBR.out.alloc HBR.out.size _⟩
        case round =>
          clear HR c0 c1 c2 c3 c4 c5 HBR
          obtain ⟨j, hj, rfl, hr, hb⟩ := hrel
          obtain ⟨wF, rfl⟩ : ∃ q : World, q = wr := ⟨_, rfl⟩
          have HR := Lib.hid hr
          have HBR := Lib.hid hb
          have hsz := hb.size
          have hRlt := hr.lt
          have hTlt := HT.out.lt
          clear hr hb
          rcases (show j = 0 ∨ j = 1 ∨ j = 2 by omega) with rfl | rfl | rfl
          · obtain ⟨to, eto⟩ : ∃ to, toS M s false = to := ⟨_, rfl⟩
            have hto : to < S := by rw [← eto, ← HS.out]; exact toS_lt false
            rw [eto]
            obtain ⟨wB, eB⟩ : ∃ q : World, q = wF.alloc (.cells #[.bool true, .int .i64 (to : Int), .float .f32 x0] 93) := ⟨_, rfl⟩
            have oB : Obj wB wF.heap.size 93 #[.bool true, .int .i64 (to : Int), .float .f32 x0] := by rw [eB]; exact Obj.new _ _ _
            have bB : Below w.heap.size w wB := by rw [eB]; exact HBR.out.alloc hsz _
            have rB : SRow 87 wB w.heap.size S (bbT M ms pt false T s 0) := by rw [eB]; exact HR.out.alloc _
            have tB : SRow 87 wB a S T := HT.out.below bB hTlt
            obtain ⟨f1, y1, d0, d1, hd⟩ := rB.cells (s := s) (by omega)
            obtain ⟨f2, y2, g0, g1, hg⟩ := tB.cells (s := to) (by omega)
            have m0 := (oB.cell 0).trans (show #[Value.bool true, .int .i64 (to : Int), .float .f32 x0][0]? = some (.bool true) from rfl)
            have HLD : Hid (∀ W, Below wB.heap.size wB W → W.cell? ⟨wF.heap.size, 1, none⟩ = some (.int .i64 (to : Int)) ∧ W.cell? ⟨wF.heap.size, 2, none⟩ = some (.float .f32 x0) ∧ W.cell? ⟨w.heap.size, s * 2, none⟩ = some (.bool f1) ∧ W.cell? ⟨w.heap.size, s * 2 + 1, none⟩ = some (.float .f32 y1) ∧ W.cell? ⟨a, to * 2, none⟩ = some (.bool f2) ∧ W.cell? ⟨a, to * 2 + 1, none⟩ = some (.float .f32 y2)) :=
              Lib.hid fun W hW => ⟨((oB.below hW oB.lt).cell 1).trans rfl, ((oB.below hW oB.lt).cell 2).trans rfl, (hW.cell (p := ⟨w.heap.size, s * 2, none⟩) rB.lt).trans d0, (hW.cell (p := ⟨w.heap.size, s * 2 + 1, none⟩) rB.lt).trans d1, (hW.cell (p := ⟨a, to * 2, none⟩) tB.lt).trans g0, (hW.cell (p := ⟨a, to * 2 + 1, none⟩) tB.lt).trans g1⟩
            have HTO := Lib.hid eto
            clear d0 d1 g0 g1 eto
            go_wp2_with (rw [← eB]; clear eB)
            refine wp_region_B RvJ 16 (D := wB.heap.size) (w0 := wB) (by kernel_rfl) (by kernel_rfl) (Below.refl _ _) ?_
            simp only [List.take_succ_cons, List.take_zero, List.drop_succ_cons, List.drop_zero]
            iterate 13 (refine wpRel_step (fun K hK => ?_); go_simp; intro W hW; obtain ⟨q0, q1, q2, q3, q4, q5⟩ := HLD.out W hW; (try go_simp); (first | refine ⟨hW, hK _ ?_⟩ | refine hK _ ?_); clear q0 q1 q2 q3 q4 q5 hK K hW W)
            refine wpRel_step (fun K hK => ?_)
            go_simp
            intro W hW
            refine ⟨plus_B (Nat.le_refl _) hW _ _ _, fun v hv => ?_⟩
            obtain ⟨k1, z1, rfl, hv1⟩ := rv_plus hv
            refine hK _ ?_
            clear hK K hW W hv
            refine wpRel_step (fun K hK => ?_)
            go_simp
            intro W hW
            refine ⟨join_B (Nat.le_refl _) hW _ _ _ _, fun v hv => ?_⟩
            obtain ⟨k2, z2, rfl, hv2⟩ := rv_join hv
            refine hK _ ?_
            clear hK K hW W hv
            refine wpRel_step (fun K hK => ?_)
            go_simp
            intro W hW
            (first | refine ⟨hW, hK _ ?_⟩ | refine hK _ ?_)
            clear hK K hW W
            refine wpRel_nil ?_
            intro W hW
            have rW := rB.below hW rB.lt
            obtain ⟨f3, y3, t0, t1, _⟩ := rW.cells (s := s) (by omega)
            have u0 := rW.frz (s * 2)
            have u1 := rW.frz (s * 2 + 1)
            have HRW := Lib.hid rW
            have HV : Hid (stO k2 z2 = joinS ((bbT M ms pt false T s 0).getD s none) (plusS (T.getD to none) (halfO ms pt s false))) := Lib.hid (by rw [hv2, hv1, hd, hg, hx0])
            have hbWW : Below w.heap.size w W := bB.trans (hW.mono bB.size)
            clear rW hv1 hv2
            go_wp2
            go_roundw
            case rel =>
              refine ⟨0 + 1, by omega, by go_num, ?_, Below.setCell (p := ⟨w.heap.size, s * 2 + 1, none⟩) (Below.setCell (p := ⟨w.heap.size, s * 2, none⟩) hbWW (Nat.le_refl _) _) (Nat.le_refl _) _⟩
              have h9 := bbT_step (M := M) (ms := ms) (part := pt) (last := false) (a := T) (s := s) false
              rw [bwdE_yes (show (false && false) = false from rfl), HTO.out] at h9
              have h8 := SRow.put HRW.out (to := s) (by omega) k2 z2 _ HV.out
              have e9 : bbT M ms pt false T s (0 + 1) = ((bbT M ms pt false T s 0).set s (joinS ((bbT M ms pt false T s 0).getD s none) (plusS (T.getD to none) (halfO ms pt s false)))) := h9
              rw [e9]
              exact h8
            case measure => simp [intOf]
          · obtain ⟨to, eto⟩ : ∃ to, toS M s true = to := ⟨_, rfl⟩
            have hto : to < S := by rw [← eto, ← HS.out]; exact toS_lt true
            rw [eto]
            obtain ⟨wB, eB⟩ : ∃ q : World, q = wF.alloc (.cells #[.bool true, .int .i64 (to : Int), .float .f32 x1] 93) := ⟨_, rfl⟩
            have oB : Obj wB wF.heap.size 93 #[.bool true, .int .i64 (to : Int), .float .f32 x1] := by rw [eB]; exact Obj.new _ _ _
            have bB : Below w.heap.size w wB := by rw [eB]; exact HBR.out.alloc hsz _
            have rB : SRow 87 wB w.heap.size S (bbT M ms pt false T s 1) := by rw [eB]; exact HR.out.alloc _
            have tB : SRow 87 wB a S T := HT.out.below bB hTlt
            obtain ⟨f1, y1, d0, d1, hd⟩ := rB.cells (s := s) (by omega)
            obtain ⟨f2, y2, g0, g1, hg⟩ := tB.cells (s := to) (by omega)
            have m0 := (oB.cell 0).trans (show #[Value.bool true, .int .i64 (to : Int), .float .f32 x1][0]? = some (.bool true) from rfl)
            have HLD : Hid (∀ W, Below wB.heap.size wB W → W.cell? ⟨wF.heap.size, 1, none⟩ = some (.int .i64 (to : Int)) ∧ W.cell? ⟨wF.heap.size, 2, none⟩ = some (.float .f32 x1) ∧ W.cell? ⟨w.heap.size, s * 2, none⟩ = some (.bool f1) ∧ W.cell? ⟨w.heap.size, s * 2 + 1, none⟩ = some (.float .f32 y1) ∧ W.cell? ⟨a, to * 2, none⟩ = some (.bool f2) ∧ W.cell? ⟨a, to * 2 + 1, none⟩ = some (.float .f32 y2)) :=
              Lib.hid fun W hW => ⟨((oB.below hW oB.lt).cell 1).trans rfl, ((oB.below hW oB.lt).cell 2).trans rfl, (hW.cell (p := ⟨w.heap.size, s * 2, none⟩) rB.lt).trans d0, (hW.cell (p := ⟨w.heap.size, s * 2 + 1, none⟩) rB.lt).trans d1, (hW.cell (p := ⟨a, to * 2, none⟩) tB.lt).trans g0, (hW.cell (p := ⟨a, to * 2 + 1, none⟩) tB.lt).trans g1⟩
            have HTO := Lib.hid eto
            clear d0 d1 g0 g1 eto
            go_wp2_with (rw [← eB]; clear eB)
            refine wp_region_B RvJ 16 (D := wB.heap.size) (w0 := wB) (by kernel_rfl) (by kernel_rfl) (Below.refl _ _) ?_
            simp only [List.take_succ_cons, List.take_zero, List.drop_succ_cons, List.drop_zero]
            iterate 13 (refine wpRel_step (fun K hK => ?_); go_simp; intro W hW; obtain ⟨q0, q1, q2, q3, q4, q5⟩ := HLD.out W hW; (try go_simp); (first | refine ⟨hW, hK _ ?_⟩ | refine hK _ ?_); clear q0 q1 q2 q3 q4 q5 hK K hW W)
            refine wpRel_step (fun K hK => ?_)
            go_simp
            intro W hW
            refine ⟨plus_B (Nat.le_refl _) hW _ _ _, fun v hv => ?_⟩
            obtain ⟨k1, z1, rfl, hv1⟩ := rv_plus hv
            refine hK _ ?_
            clear hK K hW W hv
            refine wpRel_step (fun K hK => ?_)
            go_simp
            intro W hW
            refine ⟨join_B (Nat.le_refl _) hW _ _ _ _, fun v hv => ?_⟩
            obtain ⟨k2, z2, rfl, hv2⟩ := rv_join hv
            refine hK _ ?_
            clear hK K hW W hv
            refine wpRel_step (fun K hK => ?_)
            go_simp
            intro W hW
            (first | refine ⟨hW, hK _ ?_⟩ | refine hK _ ?_)
            clear hK K hW W
            refine wpRel_nil ?_
            intro W hW
            have rW := rB.below hW rB.lt
            obtain ⟨f3, y3, t0, t1, _⟩ := rW.cells (s := s) (by omega)
            have u0 := rW.frz (s * 2)
            have u1 := rW.frz (s * 2 + 1)
            have HRW := Lib.hid rW
            have HV : Hid (stO k2 z2 = joinS ((bbT M ms pt false T s 1).getD s none) (plusS (T.getD to none) (halfO ms pt s true))) := Lib.hid (by rw [hv2, hv1, hd, hg, hx1])
            have hbWW : Below w.heap.size w W := bB.trans (hW.mono bB.size)
            clear rW hv1 hv2
            go_wp2
            go_roundw
            case rel =>
              refine ⟨1 + 1, by omega, by go_num, ?_, Below.setCell (p := ⟨w.heap.size, s * 2 + 1, none⟩) (Below.setCell (p := ⟨w.heap.size, s * 2, none⟩) hbWW (Nat.le_refl _) _) (Nat.le_refl _) _⟩
              have h9 := bbT_step (M := M) (ms := ms) (part := pt) (last := false) (a := T) (s := s) true
              rw [bwdE_yes (show (true && false) = false from rfl), HTO.out] at h9
              have h8 := SRow.put HRW.out (to := s) (by omega) k2 z2 _ HV.out
              have e9 : bbT M ms pt false T s (1 + 1) = ((bbT M ms pt false T s 1).set s (joinS ((bbT M ms pt false T s 1).getD s none) (plusS (T.getD to none) (halfO ms pt s true)))) := h9
              rw [e9]
              exact h8
            case measure => simp [intOf]
          · go_wp2
            go_roundw
            case rel => exact ⟨s + 1, by omega, by go_num, HR.out, HBR.out⟩
            case measure => simp [intOf]; omega
      · obtain rfl : h1 = false := hh1
        clear hto1
        go_wp2
        go_loopw [21] (fun i wr => ∃ j : Nat, j ≤ 2 ∧ i = .int .i64 j ∧ SRow 87 wr w.heap.size S (bbT M ms pt true T s j) ∧ Below w.heap.size w wr) (fun i _ => 2 - (intOf i).toNat)
        case atStart => exact ⟨0, by omega, rfl, HR.out.alloc _, HBR.out.alloc HBR.out.size _⟩
        case round =>
          clear HR c0 c1 c2 c3 c4 c5 HBR
          obtain ⟨j, hj, rfl, hr, hb⟩ := hrel
          obtain ⟨wF, rfl⟩ : ∃ q : World, q = wr := ⟨_, rfl⟩
          have HR := Lib.hid hr
          have HBR := Lib.hid hb
          have hsz := hb.size
          have hRlt := hr.lt
          have hTlt := HT.out.lt
          clear hr hb
          rcases (show j = 0 ∨ j = 1 ∨ j = 2 by omega) with rfl | rfl | rfl
          · obtain ⟨to, eto⟩ : ∃ to, toS M s false = to := ⟨_, rfl⟩
            have hto : to < S := by rw [← eto, ← HS.out]; exact toS_lt false
            rw [eto]
            obtain ⟨wB, eB⟩ : ∃ q : World, q = wF.alloc (.cells #[.bool true, .int .i64 (to : Int), .float .f32 x0] 93) := ⟨_, rfl⟩
            have oB : Obj wB wF.heap.size 93 #[.bool true, .int .i64 (to : Int), .float .f32 x0] := by rw [eB]; exact Obj.new _ _ _
            have bB : Below w.heap.size w wB := by rw [eB]; exact HBR.out.alloc hsz _
            have rB : SRow 87 wB w.heap.size S (bbT M ms pt true T s 0) := by rw [eB]; exact HR.out.alloc _
            have tB : SRow 87 wB a S T := HT.out.below bB hTlt
            obtain ⟨f1, y1, d0, d1, hd⟩ := rB.cells (s := s) (by omega)
            obtain ⟨f2, y2, g0, g1, hg⟩ := tB.cells (s := to) (by omega)
            have m0 := (oB.cell 0).trans (show #[Value.bool true, .int .i64 (to : Int), .float .f32 x0][0]? = some (.bool true) from rfl)
            have HLD : Hid (∀ W, Below wB.heap.size wB W → W.cell? ⟨wF.heap.size, 1, none⟩ = some (.int .i64 (to : Int)) ∧ W.cell? ⟨wF.heap.size, 2, none⟩ = some (.float .f32 x0) ∧ W.cell? ⟨w.heap.size, s * 2, none⟩ = some (.bool f1) ∧ W.cell? ⟨w.heap.size, s * 2 + 1, none⟩ = some (.float .f32 y1) ∧ W.cell? ⟨a, to * 2, none⟩ = some (.bool f2) ∧ W.cell? ⟨a, to * 2 + 1, none⟩ = some (.float .f32 y2)) :=
              Lib.hid fun W hW => ⟨((oB.below hW oB.lt).cell 1).trans rfl, ((oB.below hW oB.lt).cell 2).trans rfl, (hW.cell (p := ⟨w.heap.size, s * 2, none⟩) rB.lt).trans d0, (hW.cell (p := ⟨w.heap.size, s * 2 + 1, none⟩) rB.lt).trans d1, (hW.cell (p := ⟨a, to * 2, none⟩) tB.lt).trans g0, (hW.cell (p := ⟨a, to * 2 + 1, none⟩) tB.lt).trans g1⟩
            have HTO := Lib.hid eto
            clear d0 d1 g0 g1 eto
            go_wp2_with (rw [← eB]; clear eB)
            refine wp_region_B RvJ 16 (D := wB.heap.size) (w0 := wB) (by kernel_rfl) (by kernel_rfl) (Below.refl _ _) ?_
            simp only [List.take_succ_cons, List.take_zero, List.drop_succ_cons, List.drop_zero]
            iterate 13 (refine wpRel_step (fun K hK => ?_); go_simp; intro W hW; obtain ⟨q0, q1, q2, q3, q4, q5⟩ := HLD.out W hW; (try go_simp); (first | refine ⟨hW, hK _ ?_⟩ | refine hK _ ?_); clear q0 q1 q2 q3 q4 q5 hK K hW W)
            refine wpRel_step (fun K hK => ?_)
            go_simp
            intro W hW
            refine ⟨plus_B (Nat.le_refl _) hW _ _ _, fun v hv => ?_⟩
            obtain ⟨k1, z1, rfl, hv1⟩ := rv_plus hv
            refine hK _ ?_
            clear hK K hW W hv
            refine wpRel_step (fun K hK => ?_)
            go_simp
            intro W hW
            refine ⟨join_B (Nat.le_refl _) hW _ _ _ _, fun v hv => ?_⟩
            obtain ⟨k2, z2, rfl, hv2⟩ := rv_join hv
            refine hK _ ?_
            clear hK K hW W hv
            refine wpRel_step (fun K hK => ?_)
            go_simp
            intro W hW
            (first | refine ⟨hW, hK _ ?_⟩ | refine hK _ ?_)
            clear hK K hW W
            refine wpRel_nil ?_
            intro W hW
            have rW := rB.below hW rB.lt
            obtain ⟨f3, y3, t0, t1, _⟩ := rW.cells (s := s) (by omega)
            have u0 := rW.frz (s * 2)
            have u1 := rW.frz (s * 2 + 1)
            have HRW := Lib.hid rW
            have HV : Hid (stO k2 z2 = joinS ((bbT M ms pt true T s 0).getD s none) (plusS (T.getD to none) (halfO ms pt s false))) := Lib.hid (by rw [hv2, hv1, hd, hg, hx0])
            have hbWW : Below w.heap.size w W := bB.trans (hW.mono bB.size)
            clear rW hv1 hv2
            go_wp2
            go_roundw
            case rel =>
              refine ⟨0 + 1, by omega, by go_num, ?_, Below.setCell (p := ⟨w.heap.size, s * 2 + 1, none⟩) (Below.setCell (p := ⟨w.heap.size, s * 2, none⟩) hbWW (Nat.le_refl _) _) (Nat.le_refl _) _⟩
              have h9 := bbT_step (M := M) (ms := ms) (part := pt) (last := true) (a := T) (s := s) false
              rw [bwdE_yes (show (false && true) = false from rfl), HTO.out] at h9
              have h8 := SRow.put HRW.out (to := s) (by omega) k2 z2 _ HV.out
              have e9 : bbT M ms pt true T s (0 + 1) = ((bbT M ms pt true T s 0).set s (joinS ((bbT M ms pt true T s 0).getD s none) (plusS (T.getD to none) (halfO ms pt s false)))) := h9
              rw [e9]
              exact h8
            case measure => simp [intOf]
          · obtain ⟨wB, eB⟩ : ∃ q : World, q = wF.alloc (.cells #[.bool false, .int .i64 to1, .float .f32 x1] 93) := ⟨_, rfl⟩
            have oB : Obj wB wF.heap.size 93 #[.bool false, .int .i64 to1, .float .f32 x1] := by rw [eB]; exact Obj.new _ _ _
            have bB : Below w.heap.size w wB := by rw [eB]; exact HBR.out.alloc hsz _
            have rB : SRow 87 wB w.heap.size S (bbT M ms pt true T s 1) := by rw [eB]; exact HR.out.alloc _
            have m0 := (oB.cell 0).trans (show #[Value.bool false, .int .i64 to1, .float .f32 x1][0]? = some (.bool false) from rfl)
            have hstep : bbT M ms pt true T s (1 + 1) = bbT M ms pt true T s 1 := (bbT_step true).trans bwdE_last
            have HSTEP := Lib.hid hstep
            clear hstep
            go_wp2_with (rw [← eB]; clear eB)
            go_roundw
            case rel => exact ⟨1 + 1, by omega, by go_num, by rw [HSTEP.out]; exact rB, bB⟩
            case measure => simp [intOf]
          · go_wp2
            go_roundw
            case rel => exact ⟨s + 1, by omega, by go_num, HR.out, HBR.out⟩
            case measure => simp [intOf]; omega
    · obtain rfl : s = S := by omega
      have HR := Lib.hid hr
      clear hr
      go_wp2
      go_ret
      exact ⟨_, rfl, Nat.le_refl _, HR.out, hb⟩

end Go.Proofs.Ytopeidmafalklaa
