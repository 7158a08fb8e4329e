/-
  Contracts: what is drawn from bytes: a source, its numbers.
  Conditions: at most 1048576 bytes; few draws.
-/
import Derived.Test.YtmkjlhobnlgpjaaTX
namespace Go.Proofs.Ytmkjlhobnlgpjaa
open Go.RowKit


/-- a source at a block, at a place at most m -/
def Src (w : World) (S : Nat) (A : Option Addr) (n cap : Nat) (m : Nat) : Prop := ∃ (p : Nat) (seed : Int), p ≤ m ∧ 0 ≤ seed ∧ seed < 18446744073709551616 ∧ Obj w S 102 #[.slice A n cap, .int .i64 (p : Int), .int .u64 seed]
theorem and255 (a : Int) : 0 ≤ bits .and .u64 a 255 ∧ bits .and .u64 a 255 ≤ 255 := by
  have e3 : bits .and .u64 a 255 = IntKind.u64.wrap ((BitVec.ofInt 64 a &&& BitVec.ofInt 64 255).toNat : Int) := rfl
  have h1 : (BitVec.ofInt 64 a &&& BitVec.ofInt 64 255).toNat ≤ 255 := by
    rw [BitVec.toNat_and]
    exact Nat.and_le_right
  rw [e3, IntWalk.u64_in _ (by omega)]
  omega
theorem u64_bd (a : Int) : 0 ≤ IntKind.u64.wrap a ∧ IntKind.u64.wrap a < 18446744073709551616 := by
  have e : IntKind.u64.wrap a = a % 18446744073709551616 := by simp [IntKind.wrap, IntKind.bits, IntKind.signed]
  rw [e]
  omega
theorem grown_weak {w w' : World} {r : Option Nat} (h : w.grownBy w' none) : w.grownBy w' r := ⟨h.os, h.tape, h.output, h.size, fun k hk _ => h.block k hk (by simp)⟩
theorem grown_drewN {w w' : World} {r : Option Nat} (h : w.grownBy w' r) (k : Nat) : w.grownBy (w'.drewN k) r := ⟨h.os, h.tape, h.output, h.size, h.block⟩
set_option maxRecDepth 100000 in
set_option maxHeartbeats 1000000 in
theorem next_c (w : World) (S B : Nat) (A : Option Addr) (n cap m : Nat) (c : List Int) (hl : c.length = n) (hn : n ≤ 1048576) (hb : ∀ x ∈ c, 0 ≤ x ∧ x ≤ 255) (hx : Sl w B A (c.map (Value.int .u8))) (_hBS : B ≤ S) (hm : m ≤ 1048576) (ho : Src w S A n cap m) :
    Calls Try.prog 77 #[.pointer (some ⟨S, 0, none⟩)] w fun e w' => ∃ x : Int, e = .returned (.int .i64 x) ∧ 0 ≤ x ∧ x ≤ 255 ∧ Src w' S A n cap (m + 1) ∧ w.grownBy w' (some S) := by
  obtain ⟨p, seed, hp, hs0, hs1, ho⟩ := ho
  have c0 := ho.cell 0
  have c1 := ho.cell 1
  have c2 := ho.cell 2
  simp only [List.getElem?_toArray, List.getElem?_cons_zero, List.getElem?_cons_succ] at c0 c1 c2
  have f1 := ho.frozen 1
  have f2 := ho.frozen 2
  by_cases hlt : p < n
  · obtain ⟨b, off, rfl, hbb, hc⟩ := hx.get p (by omega)
    have hmem := hb (c[p]'(by omega)) (List.getElem_mem _)
    obtain ⟨x, hxx⟩ : ∃ x, c[p]'(by omega) = x := ⟨_, rfl⟩
    rw [hxx] at hc hmem
    clear hxx hx hb
    have HO := Lib.hid ho
    clear ho
    go_enter Try.func77, Try.ntmps77
    go_wp2
    go_quiet (fail)
    go_wp2
    go_quiet (fail)
    go_wp2
    generalize hs2 : IntKind.u64.wrap (IntKind.u64.wrap (IntKind.u64.wrap (seed * 6364136223846793005) + x) + 1442695040888963407) = seed2
    have hsb : 0 ≤ seed2 ∧ seed2 < 18446744073709551616 := by rw [← hs2]; exact u64_bd _
    generalize hq : World.drewN w _ = w1
    have HO1 := Lib.hid (show Obj w1 S 102 _ by rw [← hq]; exact HO.out)
    have hg1 : w.grownBy w1 none := by rw [← hq]; exact ⟨rfl, rfl, rfl, Nat.le_refl _, fun _ _ _ => rfl⟩
    have HG1 := Lib.hid hg1
    clear hq hs2 hg1
    obtain ⟨w2, e2⟩ : ∃ q : World, q = (w1.setCell ⟨S, 1, none⟩ (.int .i64 ((p : Int) + 1))).setCell ⟨S, 2, none⟩ (.int .u64 seed2) := ⟨_, rfl⟩
    rw [← e2]
    have HO2 : Obj w2 S 102 #[.slice (some ⟨b, off, none⟩) n cap, .int .i64 ((p : Int) + 1), .int .u64 seed2] := by
      rw [e2]
      have h := (HO1.out.set 1 (.int .i64 ((p : Int) + 1))).set 2 (.int .u64 seed2)
      simpa using h
    have HG2 := Lib.hid (show w.grownBy w2 (some S) by rw [e2]; exact ((grown_weak HG1.out).trans (grownBy_set w1 S 1 _)).trans (grownBy_set _ S 2 _))
    have d0 := HO2.cell 0
    have d1 := HO2.cell 1
    simp only [List.getElem?_toArray, List.getElem?_cons_zero, List.getElem?_cons_succ] at d0 d1
    have HO3 := Lib.hid HO2
    clear HO2 e2 c0 c1 c2 f1 f2 hc
    have hle : decide ((p : Int) + 1 ≤ (n : Int)) = true := by simp; omega
    go_quiet (fail)
    go_wp2
    go_ret
    exact ⟨x, rfl, hmem.1, hmem.2, ⟨p + 1, seed2, by omega, hsb.1, hsb.2, HO3.out⟩, grown_drewN HG2.out _⟩
  · have HO := Lib.hid ho
    clear ho hx hb
    have hge : ¬ p < n := hlt
    go_enter Try.func77, Try.ntmps77
    go_wp2
    go_quiet (fail)
    go_wp2
    generalize hs2 : IntKind.u64.wrap (IntKind.u64.wrap (IntKind.u64.wrap (seed * 6364136223846793005)) + 1442695040888963407) = seed2
    have hsb : 0 ≤ seed2 ∧ seed2 < 18446744073709551616 := by rw [← hs2]; exact u64_bd _
    generalize hq : World.drewN w _ = w1
    have HO1 := Lib.hid (show Obj w1 S 102 _ by rw [← hq]; exact HO.out)
    have hg1 : w.grownBy w1 none := by rw [← hq]; exact ⟨rfl, rfl, rfl, Nat.le_refl _, fun _ _ _ => rfl⟩
    have HG1 := Lib.hid hg1
    clear hq hs2 hg1
    obtain ⟨w2, e2⟩ : ∃ q : World, q = (w1.setCell ⟨S, 1, none⟩ (.int .i64 ((p : Int) + 1))).setCell ⟨S, 2, none⟩ (.int .u64 seed2) := ⟨_, rfl⟩
    rw [← e2]
    have HO2 : Obj w2 S 102 #[.slice A n cap, .int .i64 ((p : Int) + 1), .int .u64 seed2] := by
      rw [e2]
      have h := (HO1.out.set 1 (.int .i64 ((p : Int) + 1))).set 2 (.int .u64 seed2)
      simpa using h
    have HG2 := Lib.hid (show w.grownBy w2 (some S) by rw [e2]; exact ((grown_weak HG1.out).trans (grownBy_set w1 S 1 _)).trans (grownBy_set _ S 2 _))
    have d0 := HO2.cell 0
    have d1 := HO2.cell 1
    simp only [List.getElem?_toArray, List.getElem?_cons_zero, List.getElem?_cons_succ] at d0 d1
    have HO3 := Lib.hid HO2
    have d2 := HO2.cell 2
    simp only [List.getElem?_toArray, List.getElem?_cons_zero, List.getElem?_cons_succ] at d2
    clear HO2 e2 c0 c1 c2 f1 f2
    have hle : decide ((p : Int) + 1 ≤ (n : Int)) = false := by simp; omega
    go_quiet (fail)
    go_wp2
    have hx := and255 (seed2 / 1099511627776)
    generalize bits .and .u64 (seed2 / 1099511627776) 255 = x at hx
    have hx2 : wrap64 x = x := IntWalk.wrap64_in _ (by omega)
    go_wp2
    go_ret
    exact ⟨wrap64 x, rfl, by rw [hx2]; exact hx.1, by rw [hx2]; exact hx.2, ⟨p + 1, seed2, by omega, hsb.1, hsb.2, HO3.out⟩, grown_drewN HG2.out _⟩


set_option maxRecDepth 100000 in
set_option maxHeartbeats 1000000 in
theorem pick_c (w : World) (S B : Nat) (A : Option Addr) (n cap m : Nat) (c : List Int) (hl : c.length = n) (hn : n ≤ 1048576) (hb : ∀ x ∈ c, 0 ≤ x ∧ x ≤ 255) (hx : Sl w B A (c.map (Value.int .u8))) (hBS : B ≤ S) (hm : m ≤ 1048570) (ho : Src w S A n cap m) (q : Int) (hq1 : 1 ≤ q) (hq : q ≤ 200) :
    Calls Try.prog 58 #[.pointer (some ⟨S, 0, none⟩), .int .i64 q] w fun e w' => ∃ x : Int, e = .returned (.int .i64 x) ∧ 0 ≤ x ∧ x < q ∧ Src w' S A n cap (m + 1) ∧ w.grownBy w' (some S) := by
  have HN := Lib.hid (next_c w S B A n cap m c hl hn hb hx hBS (by omega) ho)
  obtain ⟨p0, s0, g0, g1, g2, g3⟩ := ho
  have HO := Lib.hid (show Src w S A n cap (m + 1) from ⟨p0, s0, by omega, g1, g2, g3⟩)
  clear hx hb g3
  by_cases h1 : q ≤ 1
  · go_enter Try.func58, Try.ntmps58
    go_wp2
    go_ret
    exact ⟨0, rfl, by omega, by omega, HO.out, ⟨rfl, rfl, rfl, Nat.le_refl _, fun _ _ _ => rfl⟩⟩
  · go_enter Try.func58, Try.ntmps58
    go_wp2_with fail
    refine HN.out.mono ?_
    rintro e w1 ⟨x, rfl, hx0, hx1, hs, hg⟩
    have HS := Lib.hid hs
    have HG := Lib.hid hg
    clear hs hg
    have ht : x.tmod q = x % q := Int.tmod_eq_emod_of_nonneg hx0
    have h2 := Int.emod_nonneg x (show q ≠ 0 by omega)
    have h3 := Int.emod_lt_of_pos x (show 0 < q by omega)
    generalize x % q = r at ht h2 h3
    go_wp2
    go_ret
    exact ⟨_, rfl, h2, h3, HS.out, HG.out⟩


theorem one_c (w : World) (S B : Nat) (A : Option Addr) (n cap m : Nat) (c : List Int) (hl : c.length = n) (hn : n ≤ 1048576) (hb : ∀ x ∈ c, 0 ≤ x ∧ x ≤ 255) (hx : Sl w B A (c.map (Value.int .u8))) (hBS : B ≤ S) (hm : m ≤ 1048570) (ho : Src w S A n cap m) :
    Calls Try.prog 78 #[.pointer (some ⟨S, 0, none⟩), .int .i64 2] w fun e w' => ∃ x : Bool, e = .returned (.bool x) ∧ Src w' S A n cap (m + 1) ∧ w.grownBy w' (some S) := by
  go_enter Try.func78, Try.ntmps78
  go_wp2_with fail
  refine (pick_c w S B A n cap m c hl hn hb hx hBS hm ho 2 (by decide) (by decide)).mono ?_
  rintro e w1 ⟨x, rfl, hx0, hx1, hs, hg⟩
  have HS := Lib.hid hs
  have HG := Lib.hid hg
  clear hs hg
  go_wp2
  go_ret
  exact ⟨_, rfl, HS.out, HG.out⟩


theorem text_c (w : World) (S B : Nat) (A : Option Addr) (n cap m : Nat) (c : List Int) (hl : c.length = n) (hn : n ≤ 1048576) (hb : ∀ x ∈ c, 0 ≤ x ∧ x ≤ 255) (hx : Sl w B A (c.map (Value.int .u8))) (hBS : B ≤ S) (hm : m ≤ 1048570) (ho : Src w S A n cap m)
    (g k k2 : Nat) (ls : List ByteArray) (hlk : ls.length = k) (hk1 : 1 ≤ k) (hk : k ≤ 200) (hgS : g ≠ S) (hg : g < w.heap.size) (hc : ∀ j u, (ls.map Value.string)[j]? = some u → w.cell? ⟨g, j, none⟩ = some u) :
    Calls Try.prog 59 #[.pointer (some ⟨S, 0, none⟩), .slice (some ⟨g, 0, none⟩) k k2] w fun e w' => ∃ x : ByteArray, e = .returned (.string x) ∧ x ∈ ls ∧ Src w' S A n cap (m + 1) ∧ w.grownBy w' (some S) := by
  have HP := Lib.hid (pick_c w S B A n cap m c hl hn hb hx hBS hm ho (k : Int) (by omega) (by omega))
  clear hx hb ho
  go_enter Try.func59, Try.ntmps59
  go_wp2_with fail
  refine HP.out.mono ?_
  rintro e w1 ⟨x, rfl, hx0, hx1, hs, hgr⟩
  obtain ⟨i, rfl⟩ : ∃ i : Nat, x = (i : Int) := ⟨x.toNat, by omega⟩
  have hik : i < k := by omega
  have hmem := List.getElem_mem (l := ls) (n := i) (by omega)
  have h1 := hc i (.string (ls[i]'(by omega))) (by simp [show i < ls.length by omega])
  have h2 : w1.cell? ⟨g, i, none⟩ = w.cell? ⟨g, i, none⟩ := by
    unfold World.cell?
    rw [hgr.block g hg (by simpa using hgS)]
  rw [← h2] at h1
  generalize ls[i]'(by omega) = y at h1 hmem
  have HS := Lib.hid hs
  have HG := Lib.hid hgr
  clear hs hgr h2 hc
  go_wp2
  go_ret
  exact ⟨y, rfl, hmem, HS.out, HG.out⟩


theorem own_ne {w : World} {D n S : Nat} {e : TypeId} {v : Value} {xs : List Value} (h : w.ownsRow D e 1 v n xs) (hS : S < D) : v.ownBlock = none ∨ v.ownBlock ≠ some S := by
  cases hv : v.ownBlock with
  | none => exact .inl rfl
  | some g => exact .inr fun he => by have := (h.lt g hv).1; injection he with he; omega
theorem grown_over {w w1 w2 : World} {r : Option Nat} {D : Nat} (h : w.grownBy w1 r) (g : Below D w1 w2) (hD : w.heap.size ≤ D) : w.grownBy w2 r :=
  ⟨g.os.trans h.os, g.tape.trans h.tape, g.output.trans h.output, Nat.le_trans h.size g.size, fun k hk hne => (g.block k (Nat.lt_of_lt_of_le hk hD)).trans (h.block k hk hne)⟩
theorem Src.below {w w' : World} {S n cap m D : Nat} {A : Option Addr} (h : Src w S A n cap m) (hb : Below D w w') (hS : S < D) : Src w' S A n cap m := by
  obtain ⟨p, s, h1, h2, h3, ho⟩ := h
  exact ⟨p, s, h1, h2, h3, ho.below hb hS⟩
theorem Src.kept {w w' : World} {S n cap m : Nat} {A : Option Addr} {r : Option Nat} (h : Src w S A n cap m) (hg : w.grownBy w' r) (hr : r ≠ some S) : Src w' S A n cap m := by
  obtain ⟨p, s, h1, h2, h3, ho⟩ := h
  exact ⟨p, s, h1, h2, h3, ho.kept hg (fun e => hr e.symm)⟩
theorem Src.lt {w : World} {S n cap m : Nat} {A : Option Addr} (h : Src w S A n cap m) : S < w.heap.size := by
  obtain ⟨p, s, h1, h2, h3, ho⟩ := h
  exact ho.lt
set_option maxRecDepth 100000 in
set_option maxHeartbeats 1000000 in
theorem l07DrawBits_c (w : World) (S B : Nat) (A : Option Addr) (n cap m : Nat) (c : List Int) (hl : c.length = n) (hn : n ≤ 1048576) (hb : ∀ x ∈ c, 0 ≤ x ∧ x ≤ 255) (hx : Sl w B A (c.map (Value.int .u8))) (hBS : B ≤ S) (hm : m ≤ 1048000) (ho : Src w S A n cap m) (q : Nat) (hq : q ≤ 64) :
    Calls Try.prog 60 #[.pointer (some ⟨S, 0, none⟩), .int .i64 (q : Int)] w fun e w' => ∃ (v : Value) (bs : List Bool), e = .returned v ∧ bs.length = q ∧ Ow w' w.heap.size 4 v (bs.map Value.bool) ∧ Src w' S A n cap (m + q) ∧ w.grownBy w' (some S) := by
  have HX := Lib.hid hx
  have HB := Lib.hid hb
  have HSL := Lib.hid ho.lt
  clear hx hb
  go_enter Try.func60, Try.ntmps60
  go_wp2
  go_loopw [1, 5] (fun i v wr => ∃ (k : Nat) (bs : List Bool), k ≤ q ∧ i = .int .i64 k ∧ bs.length + k = q ∧ Ow wr w.heap.size 4 v (bs.map Value.bool) ∧ Hid (Src wr S A n cap (m + bs.length)) ∧ Hid (w.grownBy wr (some S))) (fun i _ _ => (intOf i).toNat)
  case atStart =>
    exact ⟨q, [], Nat.le_refl _, rfl, by simp, own_empty _ _ _ (Nat.le_refl _), Lib.hid (ho.kept (World.grownBy_alloc w _ none) (by simp)), Lib.hid (World.grownBy_alloc w _ _)⟩
  case round =>
    clear ho
    obtain ⟨k, bs, hk, rfl, hlen, ho, HS, HG⟩ := hrel
    by_cases hk0 : k = 0
    · subst hk0
      have hz : Value.int .i64 ((0 : Nat) : Int) = .int .i64 0 := rfl
      rw [hz]
      go_wp2
      go_ret
      exact ⟨_, bs, rfl, by omega, ho, by rw [show m + q = m + bs.length by omega]; exact HS.out, HG.out⟩
    · have hxr : Sl wr B A (c.map (Value.int .u8)) := by
        refine HX.out.keep fun p hp => ?_
        have hlt := HSL.out
        unfold World.cell?
        rw [HG.out.block p.block (by omega) (by simp; omega)]
      have HO := Lib.hid (one_c wr S B A n cap (m + bs.length) c hl hn HB.out hxr hBS (by omega) HS.out)
      have hz := HG.out.size
      have hlen2 : (bs.map Value.bool).length + 1 ≤ 1099511627776 := by rw [List.length_map]; omega
      have HW := Lib.hid ho
      clear hxr ho
      go_wp2_with (first
        | (go_at_call 78; refine HO.out.mono ?_; rintro e w1 ⟨x, rfl, hs1, hg1⟩; have hz1 := hg1.size; have hlt1 := hs1.lt; have ho1 := HW.out.kept hg1 (own_ne HW.out HSL.out))
        | (at_builtin; go_must (refine app1 Try.underlying28 infoBool rfl (by decide) rfl _ _ rfl _ _ _ rfl (ho1.alloc _) _ _ _ rfl (cell_new1 _ _ _) rfl hlen2 (by simp; omega) ?_); intro v' w2 ho2 hb2))
      go_roundw
      case rel =>
        have hba := (Below.refl w.heap.size w1).alloc (by omega) (.cells #[.bool x] 4)
        refine ⟨k - 1, bs ++ [x], by omega, by go_num, by rw [List.length_append]; simp; omega, by rw [List.map_append]; exact ho2, Lib.hid ?_, Lib.hid ?_⟩
        · rw [List.length_append]
          exact (hs1.below hba HSL.out).below hb2 HSL.out
        · exact grown_over (grown_over (HG.out.trans hg1) hba (Nat.le_refl _)) hb2 (Nat.le_refl _)
      case measure => simp [intOf]; omega

end Go.Proofs.Ytmkjlhobnlgpjaa
