/-
  Contracts: what a bit is told (the program's).
  Conditions: at most 32 rows of at most 32 numbers; bounds so that no sum overflows.
-/
import Derived.Test.YtepdjehbgkfjhaaGB
import Derived.Test.YtepdjehbgkfjhaaNN
namespace Go.Proofs.Ytepdjehbgkfjhaa
open Go.RowKit

/-- rows of rows of float32, to be read -/
abbrev RowG := Option Addr × Nat × List Nat
def rowGV (r : RowG) : Value := .slice r.1 r.2.2.length r.2.1
def datG (rs : List RowG) : List (List Nat) := rs.map (·.2.2)
def Sl2G (w : World) (B : Nat) (A : Option Addr) (rs : List RowG) : Prop := Sl w B A (rs.map rowGV) ∧ ∀ r ∈ rs, Sl w B r.1 (r.2.2.map (Value.float .f32))
theorem Sl2G.below {w w' : World} {B : Nat} {A : Option Addr} {rs : List RowG} (h : Sl2G w B A rs) (hb : Below B w w') : Sl2G w' B A rs := ⟨h.1.below hb, fun r hr => (h.2 r hr).below hb⟩
/-- each number stands at most once in a row -/
def Once (l : List Int) : Prop := ∀ i j, i < l.length → j < l.length → l.getD i 0 = l.getD j 0 → i = j


set_option maxRecDepth 100000 in
set_option maxHeartbeats 400000 in
theorem Index2_c (w : World) (B : Nat) (A : Option Addr) (n cap : Nat) (l : List Int) (hl : l.length = n) (hn : n ≤ 1048576) (hx : Sl w B A (l.map (Value.int .i64))) (x : Int) :
    Calls Try.prog 45 #[.slice A n cap, .int .i64 x] w fun e w' => ∃ r : Int, e = .returned (.int .i64 r) ∧ ((r = -1 ∧ ∀ j, j < n → l.getD j 0 ≠ x) ∨ ∃ k : Nat, r = (k : Int) ∧ k < n ∧ l.getD k 0 = x) ∧ w = w' := by
  go_enter Try.func45, Try.ntmps45
  go_wp2
  go_loop [8] (fun i => ∃ k : Nat, k ≤ n ∧ i = .int .i64 k ∧ ∀ j, j < k → l.getD j 0 ≠ x) (fun i => n - (intOf i).toNat)
  case atStart => exact ⟨0, Nat.zero_le _, rfl, fun j hj => by omega⟩
  case round =>
    obtain ⟨k, hk, rfl, hp⟩ := hrel
    have HP := Lib.hid hp
    clear hp
    by_cases hlt : k < n
    · obtain ⟨b, off, rfl, hbb, hc1⟩ := hx.get k (by omega)
      have hkl : k < l.length := by omega
      have hgd : l.getD k 0 = l[k]'hkl := by rw [List.getD_eq_getElem?_getD, List.getElem?_eq_getElem hkl]; rfl
      obtain ⟨u, hu⟩ : ∃ u, l[k]'hkl = u := ⟨_, rfl⟩
      rw [hu] at hc1 hgd
      have HU := Lib.hid hgd
      clear hu hx hgd
      by_cases hxu : x = u
      · subst hxu
        have he : (x == x) = true := by simp
        go_wp2
        go_ret
        exact ⟨(k : Int), rfl, .inr ⟨k, rfl, hlt, HU.out⟩, rfl⟩
      · have he : (x == u) = false := by simpa using hxu
        go_wp2
        go_round
        case rel =>
          refine ⟨k + 1, by omega, by go_num, ?_⟩
          intro j hjk
          by_cases hjk2 : j = k
          · subst hjk2
            rw [HU.out]
            exact fun h => hxu h.symm
          · exact HP.out j (by omega)
        case measure => simp [intOf]; omega
    · have : k = n := by omega
      subst this
      go_wp2
      go_ret
      exact ⟨-1, rfl, .inl ⟨rfl, HP.out⟩, rfl⟩

/-! ### bounds -/
theorem vadd_low {a b x y : Nat} (ha : a ≤ 125) (hb : b ≤ a) (hx : Low a x) (hy : Low b y) : (∃ r, floatBits .add .f32 x y = some r) ∧ Low (a + 2) (vop .add x y) := by
  obtain ⟨r, h1, h2⟩ := add_low (by omega) (by omega) hx hy
  refine ⟨⟨r, h1⟩, ?_⟩
  unfold vop
  rw [h1]
  rw [Nat.max_eq_left hb] at h2
  exact h2
theorem toldW_low {D : List (List Int)} {M : List (List Nat)} {a s : Nat} {bit without : Int} {n : Nat} (ha : a + 2 * n ≤ 120) (hs : Low a s) (hM : ∀ r, r < n → ∀ k, k < (D.getD r []).length → Low a ((M.getD r []).getD k 0)) (ho : ∀ r, r < n → Once (D.getD r [])) : ∀ r, r ≤ n → Low (a + 2 * r) (toldW D M s bit without r)
  | 0, _ => hs
  | r + 1, hr => by
    have ih := toldW_low (bit := bit) (without := without) ha hs hM ho r (by omega)
    rw [toldW]
    split
    · exact ih.mono (by omega)
    · by_cases h : ∃ k, k < (D.getD r []).length ∧ (D.getD r []).getD k 0 = bit
      · obtain ⟨k, k1, k2⟩ := h
        rw [rowW_one _ _ k1 k2 fun j hj he => ho r (by omega) j k hj k1 (he.trans k2.symm)]
        exact ((vadd_low (by omega) (by omega) ih (hM r (by omega) k k1)).2).mono (by omega)
      · rw [rowW_no _ _ fun j hj he => h ⟨j, hj, he⟩]
        exact ih.mono (by omega)


set_option maxRecDepth 100000 in
set_option maxHeartbeats 4000000 in
theorem impl_told_c (w : World) (m : Int) (A As Am : Option Addr) (n cap ns caps nm capm a bit : Nat) (ys : List RowH) (ms : List RowG) (soft : List Nat) (without : Int) (hl : ys.length = n) (hn : n ≤ 32) (hr : ∀ r ∈ ys, r.2.2.length ≤ 32) (hx : Sl2 w w.heap.size A ys)
    (hls : soft.length = ns) (hs : Sl w w.heap.size As (soft.map (Value.float .f32))) (hlm : ms.length = n) (hnm : nm = n) (hxm : Sl2G w w.heap.size Am ms) (hsh : ∀ r (h1 : r < ms.length) (h2 : r < ys.length), ms[r].2.2.length = ys[r].2.2.length) (hb : bit < ns) (hw1 : -1 ≤ without) (hw2 : without ≤ 32)
    (ha : a + 2 * n ≤ 120) (hsl : Low a (soft.getD bit 0)) (hM : ∀ r, r < n → ∀ k, k < ((dat ys).getD r []).length → Low a (((datG ms).getD r []).getD k 0)) (ho : ∀ r, r < n → Once ((dat ys).getD r [])) :
    Calls Try.prog 31 #[.agg #[.int .i64 m, .slice A n cap], .slice As ns caps, .slice Am nm capm, .int .i64 (bit : Int), .int .i64 without] w fun e w' => e = .returned (.float .f32 (toldW (dat ys) (datG ms) (soft.getD bit 0) bit without n)) ∧ Below w.heap.size w w' := by
  have HLOW := Lib.hid (toldW_low (bit := (bit : Int)) (without := without) ha hsl hM ho)
  have HM := Lib.hid hM
  have HO := Lib.hid ho
  have HX := Lib.hid hx
  have HXM := Lib.hid hxm
  have HR := Lib.hid hr
  have HSH := Lib.hid hsh
  obtain ⟨bs, os, rfl, hbs, cs⟩ := hs.get bit (by omega)
  have hgd : soft.getD bit 0 = soft[bit]'(by omega) := by rw [List.getD_eq_getElem?_getD, List.getElem?_eq_getElem (by omega)]; rfl
  rw [← hgd] at cs
  obtain ⟨s0, hs0⟩ : ∃ s0, soft.getD bit 0 = s0 := ⟨_, rfl⟩
  rw [hs0] at cs HLOW ⊢
  clear hM ho hx hxm hr hsh hs hgd hs0 hsl
  subst hnm
  go_enter Try.func31, Try.ntmps31
  go_wp2_with fail
  have hb1 : Below w.heap.size w (w.alloc (.cells #[.int .i64 m, .slice A nm cap] 26)) := (Below.refl _ _).alloc (Nat.le_refl _) _
  obtain ⟨w1, ew⟩ : ∃ w1 : World, w1 = w.alloc (.cells #[.int .i64 m, .slice A nm cap] 26) := ⟨_, rfl⟩
  rw [← ew] at hb1 ⊢
  have HX1 := Lib.hid (HX.out.below hb1)
  have HXM1 := Lib.hid (HXM.out.below hb1)
  clear ew cs
  go_loopw [11, 22] (fun v i wr => ∃ r : Nat, r ≤ nm ∧ i = .int .i64 (r : Int) ∧ v = .float .f32 (toldW (dat ys) (datG ms) s0 bit without r) ∧ ∃ k, wr = w1.drewN k) (fun _ i _ => nm - (intOf i).toNat)
  case atStart => exact ⟨0, Nat.zero_le _, rfl, rfl, 0, rfl⟩
  case round =>
    obtain ⟨r, hr, rfl, rfl, d, rfl⟩ := hrel
    by_cases hlt : r < nm
    · have hry : r < ys.length := by omega
      have hrm : r < ms.length := by omega
      obtain ⟨b1, o1, rfl, hbb1, c1⟩ := HX1.out.1.get r hry
      obtain ⟨b2, o2, rfl, hbb2, c2⟩ := HXM1.out.1.get r hrm
      have hrow := HX1.out.2 (ys[r]'hry) (List.getElem_mem _)
      have hrowm := HXM1.out.2 (ms[r]'hrm) (List.getElem_mem _)
      have hlen := HR.out (ys[r]'hry) (List.getElem_mem _)
      have hshr := HSH.out r hrm hry
      have hd1 : (dat ys).getD r [] = (ys[r]'hry).2.2 := by simp [dat, List.getD_eq_getElem?_getD, hry]
      have hd2 : (datG ms).getD r [] = (ms[r]'hrm).2.2 := by simp [datG, List.getD_eq_getElem?_getD, hrm]
      have hst : toldW (dat ys) (datG ms) s0 bit without (r + 1) = if (r : Int) = without then toldW (dat ys) (datG ms) s0 bit without r else rowW (ys[r]'hry).2.2 (ms[r]'hrm).2.2 bit (toldW (dat ys) (datG ms) s0 bit without r) (ys[r]'hry).2.2.length := by
        rw [toldW, hd1, hd2]
      have hml := HM.out r hlt
      rw [hd1, hd2] at hml
      have hoo := HO.out r hlt
      rw [hd1] at hoo
      have hlo := HLOW.out r (by omega)
      obtain ⟨⟨ra, rc, rl⟩, hrr⟩ : ∃ x, ys[r]'hry = x := ⟨_, rfl⟩
      obtain ⟨⟨qa, qc, ql⟩, hqq⟩ : ∃ x, ms[r]'hrm = x := ⟨_, rfl⟩
      rw [hrr] at c1 hrow hlen hshr hst hml hoo
      rw [hqq] at c2 hrowm hshr hst hml
      simp only [rowV, rowGV] at c1 c2 hrow hrowm hlen hshr hst hml hoo
      obtain ⟨sm, hsm⟩ : ∃ sm, toldW (dat ys) (datG ms) s0 bit without r = sm := ⟨_, rfl⟩
      rw [hsm] at hst hlo ⊢
      have HST := Lib.hid hst
      have HIX := Lib.hid (Index2_c (w1.drewN d) w.heap.size ra rl.length rc rl rfl (by omega) hrow (bit : Int))
      have HML := Lib.hid hml
      have HOO := Lib.hid hoo
      have HLO := Lib.hid hlo
      have HRM := Lib.hid hrowm
      clear hst hrow hrowm hml hoo hlo hd1 hd2 hrr hqq hsm
      go_wp2_with fail
      refine HIX.out.mono ?_
      rintro e w' ⟨ri, rfl, hri, rfl⟩
      rcases hri with ⟨rfl, hno⟩ | ⟨k, rfl, hk, hat⟩
      · have hst : toldW (dat ys) (datG ms) s0 bit without (r + 1) = sm := by
          rw [HST.out]
          split
          · rfl
          · exact rowW_no _ _ hno
        have HS2 := Lib.hid hst
        clear hno
        go_wp2_with fail
        go_roundw
        case rel => exact ⟨r + 1, hlt, by go_num, by rw [HS2.out], _, rfl⟩
        case measure => simp [intOf]; omega
      · by_cases hw : (r : Int) = without
        · have hst : toldW (dat ys) (datG ms) s0 bit without (r + 1) = sm := by rw [HST.out, if_pos hw]
          have HS2 := Lib.hid hst
          have hne : ((r : Int) != without) = false := by simp [hw]
          clear hat
          go_wp2_with fail
          go_roundw
          case rel => exact ⟨r + 1, hlt, by go_num, by rw [HS2.out], _, rfl⟩
          case measure => simp [intOf]; omega
        · have hst : toldW (dat ys) (datG ms) s0 bit without (r + 1) = vop .add sm (ql.getD k 0) := by
            rw [HST.out, if_neg hw]
            exact rowW_one _ _ hk hat fun j hj he => HOO.out j k hj hk (he.trans hat.symm)
          have HS2 := Lib.hid hst
          have hne : ((r : Int) != without) = true := by simp [hw]
          obtain ⟨b3, o3, rfl, hbb3, c3⟩ := HRM.out.get k (by omega)
          have hgq : ql.getD k 0 = ql[k]'(by omega) := by rw [List.getD_eq_getElem?_getD, List.getElem?_eq_getElem (by omega)]; rfl
          rw [← hgq] at c3
          obtain ⟨u, hu⟩ : ∃ u, ql.getD k 0 = u := ⟨_, rfl⟩
          have hul := HML.out k hk
          rw [hu] at c3 HS2 hul
          obtain ⟨⟨z, hz⟩, _⟩ := vadd_low (by omega) (by omega) HLO.out hul
          have f1 := fun t d => fres_vop hz t d
          have f2 : fdr .add .f32 sm u = 0 := by simp [fdr, hz]
          have hkq : k < ql.length := by omega
          clear hat hst hgq hu hul hz
          go_wp2_with fail
          go_roundw
          case rel => exact ⟨r + 1, hlt, by go_num, by rw [HS2.out], _, rfl⟩
          case measure => simp [intOf]; omega
    · have hrn : r = nm := by omega
      subst hrn
      go_wp2_with fail
      go_ret
      exact ⟨rfl, below_drewN hb1 _⟩

end Go.Proofs.Ytepdjehbgkfjhaa
