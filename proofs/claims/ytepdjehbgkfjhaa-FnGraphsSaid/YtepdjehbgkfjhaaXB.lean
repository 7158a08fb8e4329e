/-
  Contracts: bits that are drawn from bytes; lists of bits compared.
  Conditions: at most 1048576 bytes; few draws.
-/
import Derived.Test.YtepdjehbgkfjhaaXS
namespace Go.Proofs.Ytepdjehbgkfjhaa
open Go.RowKit


theorem one_c (w : World) (S B : Nat) (A : Option Addr) (n cap m : Nat) (c : List Int) (hl : c.length = n) (hn : n ≤ 1048576) (hb : ∀ x ∈ c, 0 ≤ x ∧ x ≤ 255) (hx : Sl w B A (c.map (Value.int .u8))) (hBS : B ≤ S) (hm : m ≤ 1048570) (ho : Src w S A n cap m) :
    Calls Try.prog 18 #[.pointer (some ⟨S, 0, none⟩), .int .i64 2] w fun e w' => ∃ x : Bool, e = .returned (.bool x) ∧ Src w' S A n cap (m + 1) ∧ w.grownBy w' (some S) := by
  go_enter Try.func18, Try.ntmps18
  go_wp2_with fail
  refine (pick_c w S B A n cap m c hl hn hb hx hBS hm ho 2 (by decide) (by decide)).mono ?_
  rintro e w1 ⟨x, rfl, hx0, hx1, hs, hg⟩
  have HS := Lib.hid hs
  have HG := Lib.hid hg
  clear hs hg
  go_wp2
  go_ret
  exact ⟨_, rfl, HS.out, HG.out⟩


set_option maxRecDepth 100000 in
set_option maxHeartbeats 1000000 in
theorem l07DrawBits_c (w : World) (S B : Nat) (A : Option Addr) (n cap m : Nat) (c : List Int) (hl : c.length = n) (hn : n ≤ 1048576) (hb : ∀ x ∈ c, 0 ≤ x ∧ x ≤ 255) (hx : Sl w B A (c.map (Value.int .u8))) (hBS : B ≤ S) (hm : m ≤ 1048000) (ho : Src w S A n cap m) (q : Nat) (hq : q ≤ 64) :
    Calls Try.prog 19 #[.pointer (some ⟨S, 0, none⟩), .int .i64 (q : Int)] w fun e w' => ∃ (v : Value) (bs : List Bool), e = .returned v ∧ bs.length = q ∧ Ow w' w.heap.size 4 v (bs.map Value.bool) ∧ Src w' S A n cap (m + q) ∧ w.grownBy w' (some S) := by
  have HX := Lib.hid hx
  have HB := Lib.hid hb
  have HSL := Lib.hid ho.lt
  clear hx hb
  go_enter Try.func19, Try.ntmps19
  go_wp2
  go_loopw [1, 5] (fun i v wr => ∃ (k : Nat) (bs : List Bool), k ≤ q ∧ i = .int .i64 k ∧ bs.length + k = q ∧ Ow wr w.heap.size 4 v (bs.map Value.bool) ∧ Hid (Src wr S A n cap (m + bs.length)) ∧ Hid (w.grownBy wr (some S))) (fun i _ _ => (intOf i).toNat)
  case atStart =>
    exact ⟨q, [], Nat.le_refl _, rfl, by simp, own_empty _ _ _ (Nat.le_refl _), Lib.hid (ho.kept (World.grownBy_alloc w _ none) (by simp)), Lib.hid (World.grownBy_alloc w _ _)⟩
  case round =>
    clear ho
    obtain ⟨k, bs, hk, rfl, hlen, ho, HS, HG⟩ := hrel
    by_cases hk0 : k = 0
    · subst hk0
      have hz : Value.int .i64 ((0 : Nat) : Int) = .int .i64 0 := rfl
      rw [hz]
      go_wp2
      go_ret
      exact ⟨_, bs, rfl, by omega, ho, by rw [show m + q = m + bs.length by omega]; exact HS.out, HG.out⟩
    · have hxr : Sl wr B A (c.map (Value.int .u8)) := by
        refine HX.out.keep fun p hp => ?_
        have hlt := HSL.out
        unfold World.cell?
        rw [HG.out.block p.block (by omega) (by simp; omega)]
      have HO := Lib.hid (one_c wr S B A n cap (m + bs.length) c hl hn HB.out hxr hBS (by omega) HS.out)
      have hz := HG.out.size
      have hlen2 : (bs.map Value.bool).length + 1 ≤ 1099511627776 := by rw [List.length_map]; omega
      have HW := Lib.hid ho
      clear hxr ho
      go_wp2_with (first
        | (go_at_call 18; refine HO.out.mono ?_; rintro e w1 ⟨x, rfl, hs1, hg1⟩; have hz1 := hg1.size; have hlt1 := hs1.lt; have ho1 := HW.out.kept hg1 (own_ne HW.out HSL.out))
        | (at_builtin; go_must (refine app1 Try.underlying28 infoBool rfl (by decide) rfl _ _ rfl _ _ _ rfl (ho1.alloc _) _ _ _ rfl (cell_new1 _ _ _) rfl hlen2 (by simp; omega) ?_); intro v' w2 ho2 hb2))
      go_roundw
      case rel =>
        have hba := (Below.refl w.heap.size w1).alloc (by omega) (.cells #[.bool x] 4)
        refine ⟨k - 1, bs ++ [x], by omega, by go_num, by rw [List.length_append]; simp; omega, by rw [List.map_append]; exact ho2, Lib.hid ?_, Lib.hid ?_⟩
        · rw [List.length_append]
          exact (hs1.below hba HSL.out).below hb2 HSL.out
        · exact grown_over (grown_over (HG.out.trans hg1) hba (Nat.le_refl _)) hb2 (Nat.le_refl _)
      case measure => simp [intOf]; omega



set_option maxRecDepth 100000 in
theorem B10Bools_c (w : World) (A : Option Addr) (n cap : Nat) (c : List Int) (hl : c.length = n) (hn : n ≤ 1048576) (hb : ∀ x ∈ c, 0 ≤ x ∧ x ≤ 255) (hx : Sl w w.heap.size A (c.map (Value.int .u8))) (q : Nat) (hq : q ≤ 64) :
    Calls Try.prog 6 #[.slice A n cap, .int .i64 (q : Int)] w fun e w' => ∃ (v : Value) (bs : List Bool), e = .returned v ∧ bs.length = q ∧ Ow w' w.heap.size 4 v (bs.map Value.bool) ∧ Below w.heap.size w w' := by
  have HX := Lib.hid hx
  have HB := Lib.hid hb
  clear hx hb
  go_enter Try.func6, Try.ntmps6
  go_wp2_with fail
  refine (l00From_c w A n cap).mono ?_
  rintro e w1 ⟨rfl, hs, hb1, hz1⟩
  have HS := Lib.hid hs
  have hx1 := HX.out.below hb1
  clear hs
  go_wp2_with fail
  refine (l07DrawBits_c w1 w.heap.size w.heap.size A n cap 0 c hl hn HB.out hx1 (Nat.le_refl _) (by decide) HS.out q hq).mono ?_
  rintro e w2 ⟨v, bs, rfl, hbl, ho, hs2, hg⟩
  have HO := Lib.hid ho
  clear ho hs2
  go_wp2
  go_ret
  exact ⟨v, bs, rfl, hbl, own_base HO.out (by omega), hb1.grown hg hb1.size (fun k hk => by cases hk; exact Nat.le_refl _)⟩


set_option maxRecDepth 100000 in
set_option maxHeartbeats 1000000 in
theorem b10Bools_t (w : World) (B : Nat) (A A2 : Option Addr) (n cap n2 cap2 : Nat) (xs : List Bool) (hl : xs.length = n) (hn : n ≤ 1048576) (hn2 : n2 = n) (hx : Sl w B A (xs.map Value.bool)) (hy : Sl w B A2 (xs.map Value.bool)) :
    Calls Try.prog 13 #[.slice A n cap, .slice A2 n2 cap2] w fun e w' => e = .returned (.bool true) ∧ ∃ k, w' = w.drewN k := by
  subst hn2
  go_enter Try.func13, Try.ntmps13
  have he : ((n2 : Int) != (n2 : Int)) = false := by simp
  go_wp2_with fail
  go_loopw [13] (fun i wr => ∃ k m : Nat, k ≤ n2 ∧ i = .int .i64 (k : Int) ∧ wr = w.drewN m) (fun i _ => n2 - (intOf i).toNat)
  case atStart => exact ⟨0, 0, Nat.zero_le _, rfl, rfl⟩
  case round =>
    obtain ⟨k, m, hk, rfl, rfl⟩ := hrel
    by_cases hlt : k < n2
    · obtain ⟨b, off, rfl, hbb, hc1⟩ := hx.get k (by omega)
      obtain ⟨b2, off2, rfl, hbb2, hc2⟩ := hy.get k (by omega)
      obtain ⟨x, hxx⟩ : ∃ x, xs[k]'(by omega) = x := ⟨_, rfl⟩
      rw [hxx] at hc1 hc2
      have hxe : (x != x) = false := by simp
      clear hx hy hxx
      go_wp2_with fail
      go_quiet (fail)
      go_wp2
      go_roundw
      case rel => exact ⟨k + 1, _, by omega, by go_num, rfl⟩
      case measure => simp [intOf]; omega
    · have : k = n2 := by omega
      subst this
      go_wp2
      go_ret
      exact ⟨rfl, m, rfl⟩

end Go.Proofs.Ytepdjehbgkfjhaa
