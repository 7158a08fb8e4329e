/-
  Contracts: points of bits, of the program and of the reference.
  Conditions: lengths at most 1048576.
-/
import Derived.Test.YtiifpfiibbkobaaRG
import Derived.Test.YtiifpfiibbkobaaCS
import Derived.Laws.Cover3
import Derived.Deep.RegionHeld3
namespace Go.Proofs.Ytiifpfiibbkobaa
open Go.RowKit Go.Shelf
attribute [local go_sem] Oper.semAt_some

def sgB (b : Bool) : Nat := if b then 1065353216 else 3212836864
theorem softSign_sg (b : Bool) : softSign 1065353216 b = sgB b := by cases b <;> decide
def sgV (v : Value) : Nat := match v with | .bool b => sgB b | _ => 0
@[local go_sem] theorem sgV_bool (b : Bool) : sgV (.bool b) = sgB b := rfl
def cV (p : Nat × Nat) : Value := .complex .f32 p.1 p.2
def ptAt (bs : List Bool) (x : Nat) : Nat × Nat := (sgB (bs.getD (2 * x) false), sgB (bs.getD (2 * x + 1) false))
def ptK (bs : List Bool) (k : Nat) : List (Nat × Nat) := (List.range k).map (ptAt bs)
def ptsOk (bs : List Bool) : Bool := decide (bs.length ≤ 160) && (bs.length % 2 == 0)
def ptsL (bs : List Bool) : List (Nat × Nat) := if ptsOk bs then ptK bs (bs.length / 2) else []
theorem ptK_snoc (bs : List Bool) (k : Nat) : (ptK bs (k + 1)).map cV = (ptK bs k).map cV ++ [cV (ptAt bs k)] := by
  unfold ptK
  rw [List.range_succ, List.map_append, List.map_append]
  rfl
theorem ptK_len (bs : List Bool) (k : Nat) : (ptK bs k).length = k := by simp [ptK]
theorem infoC64 : (Try.prog.info? 32).map (fun i => (i.zero, i.size, i.bytes)) = some (some (.complex .f32 0 0), 1, 8) := by kernel_rfl
/-- what is handed back -/
def PtsPost (w : World) (bs : List Bool) (e : Ending) (w' : World) : Prop :=
  ∃ v, e = .returned (.tuple #[v, .bool (ptsOk bs)]) ∧ Ow w' w.heap.size 32 v ((ptsL bs).map cV) ∧ Below w.heap.size w w'
theorem pts_fail {w w' : World} {bs : List Bool} (h : ptsOk bs = false) (hb : Below w.heap.size w w') : PtsPost w bs (.returned (.tuple #[.slice none 0 0, .bool false])) w' := by
  refine ⟨.slice none 0 0, by rw [h], ?_, hb⟩
  have : ptsL bs = [] := by unfold ptsL; rw [h]; rfl
  rw [this]
  exact ⟨rfl, .inl ⟨rfl, rfl⟩⟩


theorem spec_l07Sign_c (w : World) (b : Bool) : Calls Try.prog 12 #[.bool b] w fun e w' => e = .returned (.float .f32 (sgB b)) ∧ w' = w := by
  cases b
  all_goals
    go_enter Try.func12, Try.ntmps12
    go_wp2
    go_ret
    exact ⟨rfl, rfl⟩


set_option maxRecDepth 100000 in
set_option maxHeartbeats 2000000 in
theorem spec_PointsOf_c0 (w : World) (A : Option Addr) (n cap : Nat) (bs : List Bool) (hl : bs.length = n) (hn : n ≤ 1048576) (hx : Sl w w.heap.size A (bs.map Value.bool)) :
    Calls Try.prog 4 #[.slice A n cap] w (PtsPost w bs) := by
  by_cases h1 : n ≤ 160
  · have hmod : ((n : Int)).tmod 2 = ((n % 2 : Nat) : Int) := by rw [Int.tmod_eq_emod_of_nonneg (by omega)]; push_cast; rfl
    obtain ⟨r, hr⟩ : ∃ r, n % 2 = r := ⟨_, rfl⟩
    rw [hr] at hmod
    by_cases hr0 : r = 0
    · have hok : ptsOk bs = true := by unfold ptsOk; rw [hl, decide_eq_true h1, hr, hr0]; rfl
      obtain ⟨m, rfl⟩ : ∃ m, n = 2 * m := ⟨n / 2, by omega⟩
      have hL : ptsL bs = ptK bs m := by unfold ptsL; rw [hok, if_pos rfl, hl, Nat.mul_div_cancel_left _ (by decide)]
      have HOK := Lib.hid hok
      have HL := Lib.hid hL
      have HX := Lib.hid hx
      clear hok hL hr hmod hr0 hx
      go_enter Try.func4, Try.ntmps4
      go_wp2
      go_loopw [4, 5] (fun v i wr => ∃ k : Nat, k ≤ m ∧ i = .int .i64 ((2 * k : Nat) : Int) ∧ Ow wr w.heap.size 32 v ((ptK bs k).map cV) ∧ Below w.heap.size w wr) (fun _ i _ => 2 * m + 2 - (intOf i).toNat)
      case atStart => exact ⟨0, Nat.zero_le _, rfl, own_empty _ _ _ (Nat.le_refl _), (Below.refl _ _).alloc (Nat.le_refl _) _⟩
      case round =>
        obtain ⟨k, hk, rfl, ho, hb⟩ := hrel
        by_cases hlt : k < m
        · obtain ⟨b, off, rfl, hbb, hcc⟩ := (HX.out.below hb).at_ (k := 2 * k) (by rw [List.length_map, hl]; omega)
          have hc1 := hcc (2 * k) (.bool (bs.getD (2 * k) false)) (by
            have h2 : 2 * k < bs.length := by omega
            simp [List.getD, h2])
          have hc2 := hcc (2 * k + 1) (.bool (bs.getD (2 * k + 1) false)) (by
            have h2 : 2 * k + 1 < bs.length := by omega
            simp [List.getD, h2])
          have hsn := ptK_snoc bs k
          unfold ptAt at hsn
          obtain ⟨x, ex⟩ : ∃ x, bs.getD (2 * k) false = x := ⟨_, rfl⟩
          obtain ⟨y, ey⟩ : ∃ y, bs.getD (2 * k + 1) false = y := ⟨_, rfl⟩
          rw [ex, ey] at hsn
          rw [ex] at hc1
          rw [ey] at hc2
          have HSN := Lib.hid hsn
          obtain ⟨P, hP⟩ : ∃ P, 2 * k = P := ⟨_, rfl⟩
          obtain ⟨N, hN⟩ : ∃ N, 2 * m = N := ⟨_, rfl⟩
          rw [hP] at hc1 hc2 ⊢
          have hPN : P + 1 < N := by omega
          have hNb : N ≤ 160 := by omega
          have hlen : ((ptK bs k).map cV).length + 1 ≤ 1099511627776 := by rw [List.length_map, ptK_len]; omega
          have HP := Lib.hid hP
          have HN := Lib.hid hN
          rw [hN]
          have hw1 : IntKind.i64.wrap ((P : Int) + 1) = (P : Int) + 1 := IntWalk.i64_in ((P : Int) + 1) (by omega)
          have hi1 : (0 : Int) ≤ (P : Int) + 1 := by omega
          have hi2 : (P : Int) + 1 < (N : Int) := by omega
          have hi4 : ((P : Int) + 1).toNat = P + 1 := by omega
          have hi3 : (P : Int) < (N : Int) := by omega
          have hz := hb.size
          have qa : ∀ (o : Go.Obj) (k : Nat), (wr.alloc o).cell? ⟨b, k, none⟩ = wr.cell? ⟨b, k, none⟩ := fun o k => ((Below.refl w.heap.size wr).alloc hz o).cell (p := ⟨b, k, none⟩) hbb
          have QA := Lib.hid qa
          clear qa hcc hsn ex ey hP hN
          go_wp2_with fail
          go_region_held3 (fun w' => w'.cell? ⟨b, off + P, none⟩ = some (.bool x) ∧ w'.cell? ⟨b, off + (P + 1), none⟩ = some (.bool y))
            (first | exact ⟨p1, p2⟩ | exact ⟨hc1, hc2⟩ | exact ⟨(QA.out _ _).trans hc1, (QA.out _ _).trans hc2⟩)
            (first
              | (go_at_call 12; refine (spec_l07Sign_c _ _).mono ?_; rintro e w' ⟨rfl, rfl⟩)
              | (refine step_app1 Try.underlying23 infoC64 rfl (by decide) (by rfl) _ _ (by rfl) w.heap.size u4 _ (by rfl) (World.ownsRow.alloc ho _) _ _ _ (by rfl) (cell_new1 _ _ _) rfl hlen (by simp; omega) ?_; intro v' w1 ho1 hg1; have hb1 : Below w.heap.size wr w1 := (below_drewN ((Below.refl w.heap.size wr).alloc hz _) 1).grown hg1 (by show w.heap.size ≤ (World.alloc _ _).heap.size; simp; omega) (fun k hk => (World.ownsRow.lt ho k hk).1); have p1 := (hb1.cell (p := ⟨b, off + P, none⟩) hbb).trans hc1; have p2 := (hb1.cell (p := ⟨b, off + (P + 1), none⟩) hbb).trans hc2))
          go_wp2
          go_roundw
          case rel =>
            refine ⟨k + 1, hlt, ?_, ?_, hb.trans hb1⟩
            · have h2 := HP.out
              go_num
            · rw [HSN.out]
              exact ho1
          case measure =>
            simp [intOf] <;> omega
        · obtain rfl : k = m := by omega
          go_wp2
          go_ret2
          exact ⟨_, by rw [HOK.out]; rfl, by rw [HL.out]; exact ho, hb⟩
    · have hok : ptsOk bs = false := by
        unfold ptsOk
        rw [hl, hr]
        simp [hr0]
      have HOK := Lib.hid hok
      have hr2 : r = 1 := by omega
      subst hr2
      have hm' : ((n : Int)).tmod 2 = 1 := hmod
      clear hok hr hmod
      go_enter Try.func4, Try.ntmps4
      go_wp2
      go_ret2
      exact pts_fail HOK.out (Below.refl _ _)
  · have hok : ptsOk bs = false := by
      unfold ptsOk
      rw [hl, decide_eq_false h1]
      rfl
    have HOK := Lib.hid hok
    clear hok
    go_enter Try.func4, Try.ntmps4
    go_wp2
    go_ret2
    exact pts_fail HOK.out (Below.refl _ _)

end Go.Proofs.Ytiifpfiibbkobaa
