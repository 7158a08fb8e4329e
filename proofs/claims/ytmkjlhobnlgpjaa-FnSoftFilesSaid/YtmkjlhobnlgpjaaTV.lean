/-
  Contracts: bytes read as one saved, of the program and of the reference.
  Conditions: at most 1048576 bytes.
-/
import Derived.Test.YtmkjlhobnlgpjaaTS
import Derived.Test.YtmkjlhobnlgpjaaTU
namespace Go.Proofs.Ytmkjlhobnlgpjaa
open Go.RowKit

/-- the one that bytes are, whole -/
def loadB (s : ByteArray) : Bool := beginB s && decide (a5 s + 2 = s.size)
def loadD (s : ByteArray) : SavD := if loadB s then parseD s else (⟨#[]⟩, [], [])
def LdPost (w : World) (s : ByteArray) (e : Ending) (w' : World) : Prop := ∃ v1 v2, e = .returned (.tuple #[.agg #[.string (loadD s).1, v1, v2], .bool (loadB s)]) ∧ Ow w' w.heap.size 4 v1 ((loadD s).2.1.map Value.bool) ∧ Ow w' w.heap.size 58 v2 ((loadD s).2.2.map (Value.float .f32)) ∧ Below w.heap.size w w'
theorem ld_no {w w' : World} {s : ByteArray} (h : loadB s = false) (hb : Below w.heap.size w w') : LdPost w s (.returned (.tuple #[.agg #[.string ⟨#[]⟩, .slice none 0 0, .slice none 0 0], .bool false])) w' := by
  refine ⟨.slice none 0 0, .slice none 0 0, ?_, ?_, ?_, hb⟩
  · unfold loadD; rw [h]; rfl
  · unfold loadD; rw [h]; exact World.ownsRow_nil _ _ _ _
  · unfold loadD; rw [h]; exact World.ownsRow_nil _ _ _ _
theorem ld_yes {w w' : World} {s : ByteArray} {v1 v2 : Value} (h : loadB s = true) (h1 : Ow w' w.heap.size 4 v1 ((bitsR s).map Value.bool)) (h2 : Ow w' w.heap.size 58 v2 ((softR s).map (Value.float .f32))) (hb : Below w.heap.size w w') : LdPost w s (.returned (.tuple #[.agg #[.string (nameR s), v1, v2], .bool true])) w' := by
  have hg : beginB s = true := by
    unfold loadB at h
    rw [Bool.and_eq_true] at h
    exact h.1
  unfold bitsR at h1
  unfold softR at h2
  rw [hg] at h1 h2
  refine ⟨v1, v2, ?_, ?_, ?_, hb⟩
  · unfold loadD nameR; rw [h, hg]; rfl
  · unfold loadD; rw [h]; exact h1
  · unfold loadD; rw [h]; exact h2

set_option maxRecDepth 100000 in
set_option maxHeartbeats 1000000 in
theorem spec_LoadSaved_c (w : World) (s : ByteArray) (hs : s.size ≤ 1048576) :
    Calls Try.prog 21 #[.string s] w fun e w' => LdPost w s e w' := by
  obtain ⟨w0, e0⟩ : ∃ q : World, q = w.alloc (.cells #[.string ⟨#[]⟩, .slice none 0 0, .slice none 0 0] 35) := ⟨_, rfl⟩
  have hB0 : Below w.heap.size w w0 := by rw [e0]; exact (Below.refl _ _).alloc (Nat.le_refl _) _
  have hR0 : Obj w0 w.heap.size 35 #[.string ⟨#[]⟩, .slice none 0 0, .slice none 0 0] := by rw [e0]; exact Obj.new _ _ _
  go_enter Try.func21, Try.ntmps21
  go_wp2_with fail
  rw [← e0]
  clear e0
  refine (spec_l07Begin_c w0 s hs).mono ?_
  rintro e w1 ⟨v1, v2, rfl, ho1, ho2, hb1⟩
  obtain ⟨SA, ca, rfl, h1c⟩ := ho1.opn
  obtain ⟨SB, cb, rfl, h2c⟩ := ho2.opn
  have hB1 := hB0.trans (hb1.mono hB0.size)
  have hR1 := hR0.below hb1 hR0.lt
  have hz1 : w.heap.size < w1.heap.size := hR1.lt
  obtain ⟨c0, c1, c2, f0, f1, f2⟩ := obj3 hR1
  have HR2 := Lib.hid hR1
  have HW1 := Lib.hid h1c
  have HW2 := Lib.hid h2c
  have HB := fun (a b c : Value) (o : Go.Obj) => (st3_below hB1 (Nat.le_refl _) a b c).alloc (st3_below hB1 (Nat.le_refl _) a b c).size o
  have HB3 := Lib.hid HB
  clear hR1 h1c h2c ho1 ho2 hR0 hb1 HB
  cases hbg : beginB s
  · have hln : lenR s = 0 := by unfold lenR; rw [hbg]; rfl
    have HBN := Lib.hid (show loadB s = false by unfold loadB; rw [hbg]; rfl)
    clear hbg
    rw [hln]
    clear hln
    go_wp2
    refine bodyPost_ret (v := .tuple #[.agg #[.string ⟨#[]⟩, .slice none 0 0, .slice none 0 0], .bool false]) (by unfold results; rw [Try.results21]; go_simp) rfl ?_
    exact ld_no HBN.out (HB3.out _ _ _ _)
  · have hln : lenR s = a5 s + 2 := by unfold lenR; rw [hbg]; rfl
    have hlb : loadB s = decide (a5 s + 2 = s.size) := by unfold loadB; rw [hbg]; rfl
    clear hbg
    rw [hln]
    clear hln
    obtain ⟨q, hq⟩ : ∃ q, a5 s + 2 = q := ⟨_, rfl⟩
    rw [hq] at hlb ⊢
    have hq0 : q ≠ 0 := by omega
    have hq1 : ((q : Int) == 0) = false := by simp; omega
    clear hq
    by_cases hqs : q = s.size
    · have HBN := Lib.hid (show loadB s = true by rw [hlb, decide_eq_true hqs])
      subst hqs
      clear hlb
      go_wp2
      refine bodyPost_ret (v := .tuple #[.agg #[.string (nameR s), .slice SA (bitsR s).length ca, .slice SB (softR s).length cb], .bool true]) (by unfold results; rw [Try.results21]; go_simp) rfl ?_
      refine ld_yes HBN.out ?_ ?_ (HB3.out _ _ _ _)
      · unfold Ow
        rw [List.length_map]
        exact own_base (World.ownsRow.alloc (st3_own HR2.out (by decide) HW1.out _ _ _) _) hB0.size
      · unfold Ow
        rw [List.length_map]
        exact own_base (World.ownsRow.alloc (st3_own HR2.out (by decide) HW2.out _ _ _) _) hB0.size
    · have HBN := Lib.hid (show loadB s = false by rw [hlb, decide_eq_false hqs])
      have hq2 : ((q : Int) == (s.size : Int)) = false := by simp; omega
      clear hlb
      go_wp2
      refine bodyPost_ret (v := .tuple #[.agg #[.string ⟨#[]⟩, .slice none 0 0, .slice none 0 0], .bool false]) (by unfold results; rw [Try.results21]; go_simp) rfl ?_
      exact ld_no HBN.out (HB3.out _ _ _ _)


set_option maxRecDepth 100000 in
set_option maxHeartbeats 1000000 in
theorem impl_LoadSaved_c (w : World) (s : ByteArray) (hs : s.size ≤ 1048576) :
    Calls Try.prog 22 #[.string s] w fun e w' => LdPost w s e w' := by
  obtain ⟨w0, e0⟩ : ∃ q : World, q = w.alloc (.cells #[.string ⟨#[]⟩, .slice none 0 0, .slice none 0 0] 35) := ⟨_, rfl⟩
  have hB0 : Below w.heap.size w w0 := by rw [e0]; exact (Below.refl _ _).alloc (Nat.le_refl _) _
  have hR0 : Obj w0 w.heap.size 35 #[.string ⟨#[]⟩, .slice none 0 0, .slice none 0 0] := by rw [e0]; exact Obj.new _ _ _
  go_enter Try.func22, Try.ntmps22
  go_wp2_with fail
  rw [← e0]
  clear e0
  refine (impl_readSaved_c w0 s hs).mono ?_
  rintro e w1 ⟨v1, v2, rfl, ho1, ho2, hb1⟩
  obtain ⟨SA, ca, rfl, h1c⟩ := ho1.opn
  obtain ⟨SB, cb, rfl, h2c⟩ := ho2.opn
  have hB1 := hB0.trans (hb1.mono hB0.size)
  have hR1 := hR0.below hb1 hR0.lt
  have hz1 : w.heap.size < w1.heap.size := hR1.lt
  obtain ⟨c0, c1, c2, f0, f1, f2⟩ := obj3 hR1
  have HR2 := Lib.hid hR1
  have HW1 := Lib.hid h1c
  have HW2 := Lib.hid h2c
  have HB := fun (a b c : Value) (o : Go.Obj) => (st3_below hB1 (Nat.le_refl _) a b c).alloc (st3_below hB1 (Nat.le_refl _) a b c).size o
  have HB3 := Lib.hid HB
  clear hR1 h1c h2c ho1 ho2 hR0 hb1 HB
  cases hbg : beginB s
  · have hln : lenR s = 0 := by unfold lenR; rw [hbg]; rfl
    have HBN := Lib.hid (show loadB s = false by unfold loadB; rw [hbg]; rfl)
    clear hbg
    rw [hln]
    clear hln
    go_wp2
    refine bodyPost_ret (v := .tuple #[.agg #[.string ⟨#[]⟩, .slice none 0 0, .slice none 0 0], .bool false]) (by unfold results; rw [Try.results22]; go_simp) rfl ?_
    exact ld_no HBN.out (HB3.out _ _ _ _)
  · have hln : lenR s = a5 s + 2 := by unfold lenR; rw [hbg]; rfl
    have hlb : loadB s = decide (a5 s + 2 = s.size) := by unfold loadB; rw [hbg]; rfl
    clear hbg
    rw [hln]
    clear hln
    obtain ⟨q, hq⟩ : ∃ q, a5 s + 2 = q := ⟨_, rfl⟩
    rw [hq] at hlb ⊢
    have hq0 : q ≠ 0 := by omega
    have hq1 : ((q : Int) == 0) = false := by simp; omega
    clear hq
    by_cases hqs : q = s.size
    · have HBN := Lib.hid (show loadB s = true by rw [hlb, decide_eq_true hqs])
      subst hqs
      clear hlb
      go_wp2
      refine bodyPost_ret (v := .tuple #[.agg #[.string (nameR s), .slice SA (bitsR s).length ca, .slice SB (softR s).length cb], .bool true]) (by unfold results; rw [Try.results22]; go_simp) rfl ?_
      refine ld_yes HBN.out ?_ ?_ (HB3.out _ _ _ _)
      · unfold Ow
        rw [List.length_map]
        exact own_base (World.ownsRow.alloc (st3_own HR2.out (by decide) HW1.out _ _ _) _) hB0.size
      · unfold Ow
        rw [List.length_map]
        exact own_base (World.ownsRow.alloc (st3_own HR2.out (by decide) HW2.out _ _ _) _) hB0.size
    · have HBN := Lib.hid (show loadB s = false by rw [hlb, decide_eq_false hqs])
      have hq2 : ((q : Int) == (s.size : Int)) = false := by simp; omega
      clear hlb
      go_wp2
      refine bodyPost_ret (v := .tuple #[.agg #[.string ⟨#[]⟩, .slice none 0 0, .slice none 0 0], .bool false]) (by unfold results; rw [Try.results22]; go_simp) rfl ?_
      exact ld_no HBN.out (HB3.out _ _ _ _)

end Go.Proofs.Ytmkjlhobnlgpjaa
