/-
  Contract: texts of bits, of the program (strings.Trim at "01", by the shelf's contract).
  Conditions: lengths at most 2^47.
-/
import Derived.Test.YtkhaiajeiiocmaaDoorVB
import Derived.WalkKit
import Derived.Shelf.Strings.SlTrimAscii
import Derived.Test.YtkhaiajeiiocmaaDoorLZ
namespace Go.Proofs.YtkhaiajeiiocmaaDoor
open Go.RowKit Go.Shelf Go.Lib

theorem Trim_c (s : ByteArray) (w : World) (hs : s.size ≤ 9223372036854775807) :
    Calls Tryd.prog 34 #[.string s, .string ⟨#[48, 49]⟩] w fun e w' => e = .returned (.string ⟨(Lib.trimS s.data.toList [48, 49]).toArray⟩) ∧ Below w.heap.size w w' :=
  Any.strings_Trim_laid Tryd.lays160 (by kernel_rfl) s ⟨#[48, 49]⟩ w hs (by decide) (ascii_of_all (by decide))
theorem bitB_mem (b : UInt8) : ([48, 49] : List UInt8).contains b = bitB b := by
  rw [Bool.eq_iff_iff]
  simp [bitB, ← UInt8.toNat_inj]
theorem dropW_nil {p : UInt8 → Bool} {l : List UInt8} : l.dropWhile p = [] ↔ l.all p = true := by
  induction l with
  | nil => simp
  | cons a l ih =>
    cases h : p a
    · simp [List.dropWhile, h]
    · simp [List.dropWhile, h, ih]
theorem trim_nil (l : List UInt8) : Lib.trimS l [48, 49] = [] ↔ l.all bitB = true := by
  have hp : (fun b => ([48, 49] : List UInt8).contains b) = bitB := funext bitB_mem
  unfold Lib.trimS Lib.trimRightS Lib.trimLeftS
  rw [hp, dropW_nil, List.all_reverse]
  rw [← List.all_reverse (l := l)]
  generalize l.reverse = l
  constructor
  · intro h
    cases hd : l.dropWhile bitB with
    | nil => exact dropW_nil.1 hd
    | cons a t =>
      rw [hd, List.all_cons, Bool.and_eq_true] at h
      have h2 : bitB a = false := by
        have := List.head?_dropWhile_not bitB l
        rw [hd] at this
        simpa using this
      rw [h2] at h
      cases h.1
  · intro h
    rw [dropW_nil.2 h]
    rfl
theorem trim_eq (s : ByteArray) : (⟨(Lib.trimS s.data.toList [48, 49]).toArray⟩ : ByteArray).toList.isEmpty = bitsB s := by
  rw [ByteArray.toList_mk, Bool.eq_iff_iff, List.isEmpty_iff]
  exact trim_nil _


set_option maxHeartbeats 1000000 in
theorem impl_isBits_c (w : World) (s : ByteArray) (hs : s.size ≤ 140737488355328) : Calls Tryd.prog 19 #[.string s] w fun e w' => e = .returned (.bool (textB s)) ∧ Below w.heap.size w w' := by
  by_cases hb : s.size ≤ 512
  · have e1 : textB s = bitsB s := by unfold textB; rw [decide_eq_true hb]; rfl
    have ht := trim_eq s
    obtain ⟨r, hr⟩ : ∃ r : ByteArray, (⟨(Lib.trimS s.data.toList [48, 49]).toArray⟩ : ByteArray) = r := ⟨_, rfl⟩
    have hc := Trim_c s w (by omega)
    rw [hr] at ht hc
    rw [e1, ← ht]
    have HC := Lib.hid hc
    clear e1 ht hr hc
    go_enter Tryd.func19, Tryd.ntmps19
    go_wp2_with fail
    refine HC.out.mono ?_
    rintro e w2 ⟨rfl, hB⟩
    go_wp2
    go_ret
    exact ⟨rfl, hB⟩
  · have e1 : textB s = false := by unfold textB; rw [decide_eq_false hb]; rfl
    rw [e1]
    go_enter Tryd.func19, Tryd.ntmps19
    go_wp2
    go_ret
    exact ⟨rfl, Below.refl _ _⟩

end Go.Proofs.YtkhaiajeiiocmaaDoor
