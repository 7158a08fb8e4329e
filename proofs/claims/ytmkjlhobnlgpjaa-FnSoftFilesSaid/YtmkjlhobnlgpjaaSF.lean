/-
  Contracts: whether two rows of saved ones are the same, of the program and of the reference.
  Conditions: lengths at most 1048576.
-/
import Derived.Test.YtmkjlhobnlgpjaaSA
namespace Go.Proofs.Ytmkjlhobnlgpjaa
open Go.RowKit

theorem sameb_ne {xs ys : List Bool} {i : Nat} (h1 : i < xs.length) (h2 : i < ys.length) (h : xs[i] ≠ ys[i]) : (xs == ys) = false := by
  rw [beq_eq_false_iff_ne]
  intro he
  apply h
  simp [he]
theorem sameb_eq {xs ys : List Bool} (hl : xs.length = ys.length) (h : ∀ i (h1 : i < xs.length) (h2 : i < ys.length), xs[i] = ys[i]) : (xs == ys) = true := by
  rw [beq_iff_eq]
  exact List.ext_getElem hl h
theorem sameb_len {xs ys : List Bool} (h : xs.length ≠ ys.length) : (xs == ys) = false := by
  rw [beq_eq_false_iff_ne]
  intro he
  exact h (by rw [he])

set_option maxRecDepth 100000 in
set_option maxHeartbeats 1000000 in
theorem Equal_bool_c (w : World) (B : Nat) (A A2 : Option Addr) (n cap n2 cap2 : Nat) (xs ys : List Bool) (hl : xs.length = n) (hl2 : ys.length = n2) (hn : n ≤ 1099511627776) (hn2 : n2 ≤ 1099511627776) (hx : Sl w B A (xs.map Value.bool)) (hy : Sl w B A2 (ys.map Value.bool)) :
    Calls Try.prog 36 #[.slice A n cap, .slice A2 n2 cap2] w fun e w' => e = .returned (.bool (xs == ys)) ∧ ∃ m, w' = w.drewN m := by
  by_cases hne : n = n2
  · subst hne
    have he : ((n : Int) == (n : Int)) = true := by simp
    go_enter Try.func36, Try.ntmps36
    go_wp2
    go_loopw [13] (fun i wr => ∃ k m : Nat, k ≤ n ∧ i = .int .i64 k ∧ (∀ j (h1 : j < xs.length) (h2 : j < ys.length), j < k → xs[j] = ys[j]) ∧ wr = w.drewN m) (fun i _ => n - (intOf i).toNat)
    case atStart => exact ⟨0, 0, Nat.zero_le _, rfl, fun j _ _ hj => by omega, rfl⟩
    case round =>
      obtain ⟨k, m, hk, rfl, hp, rfl⟩ := hrel
      have HP := Lib.hid hp
      clear hp
      by_cases hlt : k < n
      · obtain ⟨b, off, rfl, hbb, hc1⟩ := hx.get k (by omega)
        obtain ⟨b2, off2, rfl, hbb2, hc2⟩ := hy.get k (by omega)
        obtain ⟨x, hxx⟩ : ∃ x, xs[k]'(by omega) = x := ⟨_, rfl⟩
        obtain ⟨y, hyy⟩ : ∃ y, ys[k]'(by omega) = y := ⟨_, rfl⟩
        rw [hxx] at hc1
        rw [hyy] at hc2
        have HX := Lib.hid hxx
        have HY := Lib.hid hyy
        clear hx hy hxx hyy
        by_cases hxy : x = y
        · subst hxy
          have hd : (x == x) = true := by simp
          go_wp2_with fail
          go_quiet (fail)
          go_wp2
          go_roundw
          case rel =>
            refine ⟨k + 1, _, by omega, by go_num, ?_, rfl⟩
            intro j h1 h2 hj
            by_cases hjk : j = k
            · subst hjk
              rw [HX.out, HY.out]
            · exact HP.out j h1 h2 (by omega)
          case measure => simp [intOf]; omega
        · have hd : (x == y) = false := by simpa using hxy
          go_wp2_with fail
          go_quiet (fail)
          go_wp2
          go_ret
          exact ⟨ret_bool (sameb_ne (i := k) (by omega) (by omega) (by rw [HX.out, HY.out]; exact hxy)).symm, _, World.drewN_drewN _ _ _⟩
      · have : k = n := by omega
        subst this
        go_wp2
        go_ret
        exact ⟨ret_bool (sameb_eq (by omega) (fun i h1 h2 => HP.out i h1 h2 (by omega))).symm, _, rfl⟩
  · have he : ((n : Int) == (n2 : Int)) = false := by simp; omega
    rw [sameb_len (by omega)]
    go_enter Try.func36, Try.ntmps36
    go_wp2
    go_ret
    exact ⟨rfl, 0, rfl⟩


theorem toList_inj {a b : ByteArray} (h : a.toList = b.toList) : a = b := by
  obtain ⟨⟨x⟩⟩ := a
  obtain ⟨⟨y⟩⟩ := b
  rw [show (⟨⟨x⟩⟩ : ByteArray) = ⟨x.toArray⟩ from rfl, show (⟨⟨y⟩⟩ : ByteArray) = ⟨y.toArray⟩ from rfl, ByteArray.toList_mk, ByteArray.toList_mk] at h
  rw [h]
/-- a saved one, all NaNs being one -/
def nrm (d : SavD) : ByteArray × List Bool × List Nat := (d.1, d.2.1, d.2.2.map canB)
def same1 (a b : SavD) : Bool := decide (nrm a = nrm b)
def sameS (xs ys : List SavD) : Bool := decide (xs.map nrm = ys.map nrm)
theorem same1_eq (a b : SavD) : same1 a b = ((decide (a.1 = b.1) && a.2.1 == b.2.1) && sameL a.2.2 b.2.2) := by
  unfold same1 nrm sameL
  rw [Bool.eq_iff_iff]
  simp [and_assoc]
theorem sameS_ne {xs ys : List SavD} {i : Nat} (h1 : i < xs.length) (h2 : i < ys.length) (h : same1 xs[i] ys[i] = false) : sameS xs ys = false := by
  unfold sameS
  rw [decide_eq_false_iff_not]
  intro he
  have h3 := congrArg (fun l => l[i]?) he
  simp [h1, h2] at h3
  unfold same1 at h
  rw [decide_eq_false_iff_not] at h
  exact h h3
theorem sameS_eq {xs ys : List SavD} (hl : xs.length = ys.length) (h : ∀ i (h1 : i < xs.length) (h2 : i < ys.length), same1 xs[i] ys[i] = true) : sameS xs ys = true := by
  unfold sameS
  rw [decide_eq_true_iff]
  refine List.ext_getElem (by simpa using hl) (fun i h1 h2 => ?_)
  have h3 := h i (by simpa using h1) (by simpa using h2)
  unfold same1 at h3
  rw [decide_eq_true_iff] at h3
  simpa using h3
theorem sameS_len {xs ys : List SavD} (h : xs.length ≠ ys.length) : sameS xs ys = false := by
  unfold sameS
  rw [decide_eq_false_iff_not]
  intro he
  exact h (by simpa using congrArg List.length he)


set_option maxRecDepth 100000 in
set_option maxHeartbeats 1000000 in
theorem impl_SameSaved1_c (w : World) (x y : SavH) (hx : okSav 1048576 x) (hy : okSav 1048576 y) (fx : ∀ a ∈ x.xs, a < 4294967296) (fy : ∀ a ∈ y.xs, a < 4294967296)
    (sx1 : Sl w w.heap.size x.A (x.bs.map Value.bool)) (sx2 : Sl w w.heap.size x.A2 (x.xs.map (Value.float .f32))) (sy1 : Sl w w.heap.size y.A (y.bs.map Value.bool)) (sy2 : Sl w w.heap.size y.A2 (y.xs.map (Value.float .f32))) :
    Calls Try.prog 35 #[savV x, savV y] w fun e w' => e = .returned (.bool (same1 (sd1 x) (sd1 y))) ∧ Below w.heap.size w w' := by
  obtain ⟨s, A, c, bs, A2, c2, xs⟩ := x
  obtain ⟨s', A', c', bs', A2', c2', xs'⟩ := y
  obtain ⟨x0, x1, x2⟩ := hx
  obtain ⟨y0, y1, y2⟩ := hy
  unfold savV
  rw [show same1 (sd1 ⟨s, A, c, bs, A2, c2, xs⟩) (sd1 ⟨s', A', c', bs', A2', c2', xs'⟩) = ((decide (s = s') && bs == bs') && sameL xs xs') from same1_eq _ _]
  simp only at x0 x1 x2 y0 y1 y2 fx fy sx1 sx2 sy1 sy2 ⊢
  have hB := ((Below.refl w.heap.size w).alloc (Nat.le_refl _) (Obj.cells #[.string s, .slice A bs.length c, .slice A2 xs.length c2] 35)).alloc (by simp) (Obj.cells #[.string s', .slice A' bs'.length c', .slice A2' xs'.length c2'] 35)
  have HB := Lib.hid hB
  clear hB
  by_cases hs : s = s'
  · subst hs
    rw [decide_eq_true rfl, Bool.true_and]
    have hE := Equal_bool_c ((w.alloc (Obj.cells #[.string s, .slice A bs.length c, .slice A2 xs.length c2] 35)).alloc (Obj.cells #[.string s, .slice A' bs'.length c', .slice A2' xs'.length c2'] 35)) w.heap.size A A' bs.length c bs'.length c' bs bs' rfl rfl (by omega) (by omega) ((sx1.alloc (Nat.le_refl _) _).alloc (by simp) _) ((sy1.alloc (Nat.le_refl _) _).alloc (by simp) _)
    have hF := fun q => EqualFunc_f32_c (((w.alloc (Obj.cells #[.string s, .slice A bs.length c, .slice A2 xs.length c2] 35)).alloc (Obj.cells #[.string s, .slice A' bs'.length c', .slice A2' xs'.length c2'] 35)).drewN q) w.heap.size A2 A2' xs.length c2 xs'.length c2' xs xs' rfl rfl x2 y2 (((sx2.alloc (Nat.le_refl _) _).alloc (by simp) _).drewN q) (((sy2.alloc (Nat.le_refl _) _).alloc (by simp) _).drewN q) fx fy
    have HE := Lib.hid hE
    have HF := Lib.hid hF
    clear hE hF sx1 sx2 sy1 sy2 fx fy
    cases hb : bs == bs'
    · rw [hb] at HE
      clear hb
      go_enter Try.func35, Try.ntmps35
      go_wp2_with fail
      refine HE.out.mono ?_
      rintro e w2 ⟨rfl, q, rfl⟩
      go_wp2
      go_ret
      exact ⟨rfl, below_drewN HB.out _⟩
    · rw [hb] at HE
      clear hb
      go_enter Try.func35, Try.ntmps35
      go_wp2_with fail
      refine HE.out.mono ?_
      rintro e w2 ⟨rfl, q, rfl⟩
      go_wp2_with fail
      refine (HF.out q).mono ?_
      rintro e w3 ⟨rfl, q2, rfl⟩
      go_wp2
      go_ret
      exact ⟨ret_bool (by simp), below_drewN HB.out _⟩
  · rw [decide_eq_false hs, Bool.false_and, Bool.false_and]
    have hs2 : ¬ s.toList = s'.toList := fun h => hs (toList_inj h)
    have hs3 : (s.toList == s'.toList) = false := by simpa using hs2
    clear hs
    go_enter Try.func35, Try.ntmps35
    go_wp2
    go_ret
    exact ⟨rfl, HB.out⟩


theorem nrm_get {xs : List SavH} {k : Nat} (hk : k < xs.length) : (sdat xs)[k]'(by simpa [sdat] using hk) = sd1 xs[k] := by simp [sdat]
theorem sdat_len (xs : List SavH) : (sdat xs).length = xs.length := List.length_map _
set_option maxRecDepth 100000 in
set_option maxHeartbeats 2000000 in
theorem EqualFunc_sav_c (w : World) (A A2 : Option Addr) (n cap n2 cap2 : Nat) (xs ys : List SavH) (hl : xs.length = n) (hl2 : ys.length = n2) (hn : n ≤ 1048576) (hn2 : n2 ≤ 1048576) (hr : ∀ r ∈ xs, okSav 1048576 r) (hr2 : ∀ r ∈ ys, okSav 1048576 r) (fx : ∀ r ∈ xs, ∀ a ∈ r.xs, a < 4294967296) (fy : ∀ r ∈ ys, ∀ a ∈ r.xs, a < 4294967296) (hx : SlS w w.heap.size A xs) (hy : SlS w w.heap.size A2 ys) :
    Calls Try.prog 34 #[.slice A n cap, .slice A2 n2 cap2, .func (.func 35) #[] #[]] w fun e w' => e = .returned (.bool (sameS (sdat xs) (sdat ys))) ∧ Below w.heap.size w w' := by
  have hent := Try.call35
  by_cases hne : n = n2
  · subst hne
    have he : ((n : Int) == (n : Int)) = true := by simp
    go_enter Try.func34, Try.ntmps34
    go_wp2
    go_loopw [17] (fun i wr => ∃ k : Nat, k ≤ n ∧ i = .int .i64 k ∧ Hid (∀ j (h1 : j < xs.length) (h2 : j < ys.length), j < k → same1 (sd1 xs[j]) (sd1 ys[j]) = true) ∧ Below w.heap.size w wr) (fun i _ => n - (intOf i).toNat)
    case atStart => exact ⟨0, Nat.zero_le _, rfl, Lib.hid (fun j _ _ hj => by omega), Below.refl _ _⟩
    case round =>
      obtain ⟨k, hk, rfl, HP, hb⟩ := hrel
      by_cases hlt : k < n
      · have hzr := hb.size
        have hk1 : k < xs.length := by omega
        have hk2 : k < ys.length := by omega
        obtain ⟨b, off, rfl, hbb, c0, c1, c2⟩ := (hx.below hb).get k hk1
        obtain ⟨b', off', rfl, hbb', d0, d1, d2⟩ := (hy.below hb).get k hk2
        obtain ⟨s1, s2⟩ := (hx.below hb).2 xs[k] (List.getElem_mem hk1)
        obtain ⟨t1, t2⟩ := (hy.below hb).2 ys[k] (List.getElem_mem hk2)
        have m1 := hr xs[k] (List.getElem_mem hk1)
        have m2 := hr2 ys[k] (List.getElem_mem hk2)
        have e1 := fx xs[k] (List.getElem_mem hk1)
        have e2 := fy ys[k] (List.getElem_mem hk2)
        obtain ⟨x, hxx⟩ : ∃ x, xs[k] = x := ⟨_, rfl⟩
        obtain ⟨y, hyy⟩ : ∃ y, ys[k] = y := ⟨_, rfl⟩
        rw [hxx] at c0 c1 c2 s1 s2 m1 e1
        rw [hyy] at d0 d1 d2 t1 t2 m2 e2
        have hC := fun o o' => impl_SameSaved1_c ((wr.alloc o).alloc o') x y m1 m2 e1 e2 ((((s1.more hzr).alloc (Nat.le_refl _) o).alloc (by simp) o').more (by simp; omega)) ((((s2.more hzr).alloc (Nat.le_refl _) o).alloc (by simp) o').more (by simp; omega)) ((((t1.more hzr).alloc (Nat.le_refl _) o).alloc (by simp) o').more (by simp; omega)) ((((t2.more hzr).alloc (Nat.le_refl _) o).alloc (by simp) o').more (by simp; omega))
        unfold savV at hC
        have HC := Lib.hid hC
        have HX := Lib.hid hxx
        have HY := Lib.hid hyy
        clear hx hy hxx hyy hC hr hr2 fx fy s1 s2 t1 t2 m1 m2 e1 e2 hl hl2
        have hlt1 : b < wr.heap.size := by omega
        have hlt2 : b' < wr.heap.size := by omega
        cases hxy : same1 (sd1 x) (sd1 y)
        · have HXY := Lib.hid hxy
          clear hxy
          go_wp2_with fail
          refine (HC.out _ _).mono ?_
          rintro e w2 ⟨rfl, hb2⟩
          rw [HXY.out]
          go_wp2
          go_ret
          exact ⟨ret_bool (sameS_ne (i := k) (by rw [sdat_len]; exact hk1) (by rw [sdat_len]; exact hk2) (by rw [nrm_get hk1, nrm_get hk2, HX.out, HY.out]; exact HXY.out)).symm, hb.trans ((((Below.refl _ _).alloc (Nat.le_refl _) _).alloc (by simp) _).trans (hb2.mono (by simp; omega)) |>.mono hzr)⟩
        · have HXY := Lib.hid hxy
          clear hxy
          go_wp2_with fail
          refine (HC.out _ _).mono ?_
          rintro e w2 ⟨rfl, hb2⟩
          rw [HXY.out]
          go_wp2
          go_roundw
          case rel =>
            refine ⟨k + 1, by omega, by go_num, Lib.hid (fun j h1 h2 hj => ?_), hb.trans ((((Below.refl _ _).alloc (Nat.le_refl _) _).alloc (by simp) _).trans (hb2.mono (by simp; omega)) |>.mono hzr)⟩
            by_cases hjk : j = k
            · subst hjk
              rw [HX.out, HY.out]
              exact HXY.out
            · exact HP.out j h1 h2 (by omega)
          case measure => simp [intOf] <;> omega
      · obtain rfl : k = n := by omega
        go_wp2
        go_ret
        exact ⟨ret_bool (sameS_eq (by rw [sdat_len, sdat_len]; omega) (fun i h1 h2 => by rw [sdat_len] at h1 h2; rw [nrm_get h1, nrm_get h2]; exact HP.out i h1 h2 (by omega))).symm, hb⟩
  · have he : ((n : Int) == (n2 : Int)) = false := by simp; omega
    rw [sameS_len (by rw [sdat_len, sdat_len]; omega)]
    go_enter Try.func34, Try.ntmps34
    go_wp2
    go_ret
    exact ⟨rfl, Below.refl _ _⟩
theorem impl_SameSaved_c (w : World) (A A2 : Option Addr) (n cap n2 cap2 : Nat) (xs ys : List SavH) (hl : xs.length = n) (hl2 : ys.length = n2) (hn : n ≤ 1048576) (hn2 : n2 ≤ 1048576) (hr : ∀ r ∈ xs, okSav 1048576 r) (hr2 : ∀ r ∈ ys, okSav 1048576 r) (fx : ∀ r ∈ xs, ∀ a ∈ r.xs, a < 4294967296) (fy : ∀ r ∈ ys, ∀ a ∈ r.xs, a < 4294967296) (hx : SlS w w.heap.size A xs) (hy : SlS w w.heap.size A2 ys) :
    Calls Try.prog 12 #[.slice A n cap, .slice A2 n2 cap2] w fun e w' => e = .returned (.bool (sameS (sdat xs) (sdat ys))) ∧ Below w.heap.size w w' := by
  have HC := Lib.hid (EqualFunc_sav_c w A A2 n cap n2 cap2 xs ys hl hl2 hn hn2 hr hr2 fx fy hx hy)
  clear hr hr2 fx fy hx hy
  go_enter Try.func12, Try.ntmps12
  go_wp2_with fail
  refine HC.out.mono ?_
  rintro e w2 ⟨rfl, hb2⟩
  go_wp2
  go_ret
  exact ⟨rfl, hb2⟩


theorem l01SameAll_at {w : World} {B : Nat} {A A2 : Option Addr} {n cap n2 cap2 q m : Nat} {xs ys : List Nat} {bb : Bool} (hb : sameL xs ys = bb) (hl : xs.length = n) (hl2 : ys.length = n2) (hn : n ≤ 1048576) (hn2 : n2 ≤ 1048576) (hx : Sl w B A (xs.map (Value.float .f32))) (hy : Sl w B A2 (ys.map (Value.float .f32))) (fx : ∀ x ∈ xs, x < 4294967296) (fy : ∀ y ∈ ys, y < 4294967296) :
    Calls Try.prog 33 #[.slice A n cap, .slice A2 n2 cap2] (w.drewN (q + m)) fun e w' => e = .returned (.bool bb) ∧ ∃ k, w' = w.drewN (q + k) := by
  refine (spec_l01SameAll_c (w.drewN (q + m)) B A A2 n cap n2 cap2 xs ys hl hl2 hn hn2 hx hy fx fy).mono ?_
  rintro e w' ⟨rfl, k, rfl⟩
  exact ⟨by rw [hb], m + k, by rw [World.drewN_drewN, Nat.add_assoc]⟩
theorem same1_no1 {a b : SavD} (h : a.1 ≠ b.1) : same1 a b = false := by rw [same1_eq, decide_eq_false h]; rfl
theorem same1_no2 {a b : SavD} (h : (a.2.1 == b.2.1) = false) : same1 a b = false := by rw [same1_eq, h, Bool.and_false]; rfl
theorem same1_no3 {a b : SavD} (h : sameL a.2.2 b.2.2 = false) : same1 a b = false := by rw [same1_eq, h, Bool.and_false]
theorem same1_yes {a b : SavD} (h : a.1 = b.1) (h2 : (a.2.1 == b.2.1) = true) (h3 : sameL a.2.2 b.2.2 = true) : same1 a b = true := by rw [same1_eq, h2, h3, decide_eq_true h]; rfl

set_option maxRecDepth 100000 in
set_option maxHeartbeats 4000000 in
theorem spec_SameSaved_c (w : World) (A A2 : Option Addr) (n cap n2 cap2 : Nat) (xs ys : List SavH) (hl : xs.length = n) (hl2 : ys.length = n2) (hn : n ≤ 1048576) (hn2 : n2 ≤ 1048576) (hr : ∀ r ∈ xs, okSav 1048576 r) (hr2 : ∀ r ∈ ys, okSav 1048576 r) (fx : ∀ r ∈ xs, ∀ a ∈ r.xs, a < 4294967296) (fy : ∀ r ∈ ys, ∀ a ∈ r.xs, a < 4294967296) (hx : SlS w w.heap.size A xs) (hy : SlS w w.heap.size A2 ys) :
    Calls Try.prog 10 #[.slice A n cap, .slice A2 n2 cap2] w fun e w' => e = .returned (.bool (sameS (sdat xs) (sdat ys))) ∧ ∃ m, w' = w.drewN m := by
  by_cases hne : n = n2
  · subst hne
    have he : ((n : Int) == (n : Int)) = true := by simp
    go_enter Try.func10, Try.ntmps10
    go_wp2
    go_loopw [14] (fun i wr => ∃ k m : Nat, k ≤ n ∧ i = .int .i64 k ∧ Hid (∀ j (h1 : j < xs.length) (h2 : j < ys.length), j < k → same1 (sd1 xs[j]) (sd1 ys[j]) = true) ∧ wr = w.drewN m) (fun i _ => n - (intOf i).toNat)
    case atStart => exact ⟨0, 0, Nat.zero_le _, rfl, Lib.hid (fun j _ _ hj => by omega), rfl⟩
    case round =>
      obtain ⟨k, m, hk, rfl, HP, rfl⟩ := hrel
      by_cases hlt : k < n
      · have hk1 : k < xs.length := by omega
        have hk2 : k < ys.length := by omega
        obtain ⟨b, off, rfl, hbb, c0, c1, c2⟩ := hx.get k hk1
        obtain ⟨b', off', rfl, hbb', d0, d1, d2⟩ := hy.get k hk2
        obtain ⟨s1, s2⟩ := hx.2 xs[k] (List.getElem_mem hk1)
        obtain ⟨t1, t2⟩ := hy.2 ys[k] (List.getElem_mem hk2)
        obtain ⟨u0, u1, u2⟩ := hr xs[k] (List.getElem_mem hk1)
        obtain ⟨v0, v1, v2⟩ := hr2 ys[k] (List.getElem_mem hk2)
        have e1 := fx xs[k] (List.getElem_mem hk1)
        have e2 := fy ys[k] (List.getElem_mem hk2)
        obtain ⟨⟨x0, x1, x2, x3, x4, x5, x6⟩, hxx⟩ : ∃ x, xs[k] = x := ⟨_, rfl⟩
        obtain ⟨⟨y0, y1, y2, y3, y4, y5, y6⟩, hyy⟩ : ∃ y, ys[k] = y := ⟨_, rfl⟩
        rw [hxx] at c0 c1 c2 s1 s2 u0 u1 u2 e1
        rw [hyy] at d0 d1 d2 t1 t2 v0 v1 v2 e2
        simp only at c0 c1 c2 s1 s2 u0 u1 u2 e1 d0 d1 d2 t1 t2 v0 v1 v2 e2
        have hno : same1 (x0, x3, x6) (y0, y3, y6) = false → sameS (sdat xs) (sdat ys) = false := fun h =>
          sameS_ne (i := k) (by rw [sdat_len]; exact hk1) (by rw [sdat_len]; exact hk2) (by rw [nrm_get hk1, nrm_get hk2, hxx, hyy]; exact h)
        have hyes : same1 (x0, x3, x6) (y0, y3, y6) = true → ∀ j (h1 : j < xs.length) (h2 : j < ys.length), j < k + 1 → same1 (sd1 xs[j]) (sd1 ys[j]) = true := by
          intro h j h1 h2 hj
          by_cases hjk : j = k
          · subst hjk
            rw [hxx, hyy]
            exact h
          · exact HP.out j h1 h2 (by omega)
        have HNO := Lib.hid hno
        have HYES := Lib.hid hyes
        clear hno hyes hxx hyy hr hr2 fx fy hl hl2
        by_cases hs : x0 = y0
        · subst hs
          by_cases hb : x3.length = y3.length
          · have hbe : ((x3.length : Int) == (y3.length : Int)) = true := by simp; omega
            have hbn : ((x3.length : Int) != (y3.length : Int)) = false := by simp; omega
            cases hf : sameL x6 y6
            · go_wp2_with fail
              go_quiet ((go_at_call 33; exact l01SameAll_at hf rfl rfl u2 v2 s2 t2 e1 e2))
              go_wp2
              go_ret
              exact ⟨ret_bool (HNO.out (same1_no3 hf)).symm, _, World.drewN_drewN _ _ _⟩
            · go_wp2_with fail
              go_quiet ((go_at_call 33; exact l01SameAll_at hf rfl rfl u2 v2 s2 t2 e1 e2))
              have HF := Lib.hid hf
              clear hf e1 e2 s2 t2
              go_wp2
              go_loopw [63] (fun i wr => ∃ j p : Nat, j ≤ x3.length ∧ i = .int .i64 j ∧ Hid (∀ q (h1 : q < x3.length) (h2 : q < y3.length), q < j → x3[q] = y3[q]) ∧ wr = w.drewN p) (fun i _ => x3.length - (intOf i).toNat)
              case atStart => exact ⟨0, _, Nat.zero_le _, rfl, Lib.hid (fun j _ _ hj => by omega), rfl⟩
              case round =>
                obtain ⟨j, p, hj, rfl, HQ, rfl⟩ := hrel
                by_cases hjl : j < x3.length
                · have hjl2 : j < y3.length := by omega
                  obtain ⟨bb, boff, rfl, _, hc1⟩ := s1.get j hjl
                  obtain ⟨bb2, boff2, rfl, _, hc2⟩ := t1.get j hjl2
                  obtain ⟨x, hxx⟩ : ∃ x, x3[j] = x := ⟨_, rfl⟩
                  obtain ⟨y, hyy⟩ : ∃ y, y3[j] = y := ⟨_, rfl⟩
                  rw [hxx] at hc1
                  rw [hyy] at hc2
                  have HX := Lib.hid hxx
                  have HY := Lib.hid hyy
                  clear hxx hyy s1 t1
                  by_cases hxy : x = y
                  · subst hxy
                    have hd : (x == x) = true := by simp
                    go_wp2_with fail
                    go_quiet (fail)
                    go_wp2
                    go_roundw
                    case rel =>
                      refine ⟨j + 1, _, by omega, by go_num, Lib.hid (fun q h1 h2 hq => ?_), rfl⟩
                      by_cases hqj : q = j
                      · subst hqj
                        rw [HX.out, HY.out]
                      · exact HQ.out q h1 h2 (by omega)
                    case measure => simp [intOf] <;> omega
                  · have hd : (x == y) = false := by simpa using hxy
                    go_wp2_with fail
                    go_quiet (fail)
                    go_wp2
                    go_ret
                    exact ⟨ret_bool (HNO.out (same1_no2 (sameb_ne (i := j) hjl hjl2 (by rw [HX.out, HY.out]; exact hxy)))).symm, _, World.drewN_drewN _ _ _⟩
                · obtain rfl : j = x3.length := by omega
                  have hbb : (x3 == y3) = true := sameb_eq hb (fun i h1 h2 => HQ.out i h1 h2 h1)
                  have HB := Lib.hid (HYES.out (same1_yes rfl hbb HF.out))
                  clear hbb
                  go_wp2
                  go_roundw
                  case rel => exact ⟨k + 1, _, by omega, by go_num, HB, rfl⟩
                  case measure => simp [intOf] <;> omega
          · have hbe : ((x3.length : Int) == (y3.length : Int)) = false := by simp; omega
            have hbn : ((x3.length : Int) != (y3.length : Int)) = true := by simp; omega
            go_wp2_with fail
            go_quiet (fail)
            go_wp2
            go_ret
            exact ⟨ret_bool (HNO.out (same1_no2 (sameb_len hb))).symm, _, World.drewN_drewN _ _ _⟩
        · have hs2 : ¬ x0.toList = y0.toList := fun h => hs (toList_inj h)
          have hs3 : (x0.toList == y0.toList) = false := by simpa using hs2
          have HS := Lib.hid hs
          clear hs
          go_wp2_with fail
          go_quiet (fail)
          go_wp2
          go_ret
          exact ⟨ret_bool (HNO.out (same1_no1 HS.out)).symm, _, World.drewN_drewN _ _ _⟩
      · obtain rfl : k = n := by omega
        go_wp2
        go_ret
        exact ⟨ret_bool (sameS_eq (by rw [sdat_len, sdat_len]; omega) (fun i h1 h2 => by rw [sdat_len] at h1 h2; rw [nrm_get h1, nrm_get h2]; exact HP.out i h1 h2 (by omega))).symm, _, rfl⟩
  · have he : ((n : Int) == (n2 : Int)) = false := by simp; omega
    rw [sameS_len (by rw [sdat_len, sdat_len]; omega)]
    go_enter Try.func10, Try.ntmps10
    go_wp2
    go_ret
    exact ⟨rfl, 0, rfl⟩

end Go.Proofs.Ytmkjlhobnlgpjaa
