/-
  Plain: what bytes say of a saved one, by places; the same by taking from the front.
  Conditions: none.
-/
import Derived.Test.YtmkjlhobnlgpjaaTK
import Derived.Test.YtmkjlhobnlgpjaaSE
namespace Go.Proofs.Ytmkjlhobnlgpjaa
open Go.RowKit

theorem extr_list' (s : ByteArray) (f k : Nat) : (s.extract f k).data.toList = (s.data.toList.take k).drop f := by
  simp [ByteArray.data_extract, List.drop_take]
def nB (s : ByteArray) (i : Nat) : Nat := (s.data.toList.getD i 0).toNat
theorem nB_lt (s : ByteArray) (i : Nat) : nB s i < 256 := UInt8.toNat_lt _
theorem nB_get {s : ByteArray} {i : Nat} (h : i < s.size) : nB s i = s[i].toNat := by
  have h2 : i < s.data.toList.length := by rw [Array.length_toList]; exact h
  unfold nB
  rw [List.getD_eq_getElem?_getD, List.getElem?_eq_getElem h2, Option.getD_some]
  simp [ByteArray.getElem_eq_getElem_data]
theorem nB_extract {s : ByteArray} {a b i : Nat} (h : i < (s.extract a b).size) : nB (s.extract a b) i = nB s (a + i) := by
  unfold nB
  have h1 := extr_list' s a b
  have h2 : i < (s.extract a b).data.toList.length := by rw [Array.length_toList]; exact h
  rw [h1] at h2 ⊢
  rw [List.length_drop, List.length_take] at h2
  rw [List.getD_eq_getElem?_getD, List.getD_eq_getElem?_getD, List.getElem?_drop, List.getElem?_take, if_pos (by omega)]
def a1 (s : ByteArray) : Nat := 5 + nB s 4
def m2 (s : ByteArray) : Nat := nB s (a1 s)
def a2 (s : ByteArray) : Nat := a1 s + 1
def a3 (s : ByteArray) : Nat := a2 s + (m2 s + 7) / 8
def m3 (s : ByteArray) : Nat := nB s (a3 s)
def a4 (s : ByteArray) : Nat := a3 s + 1
def a5 (s : ByteArray) : Nat := a4 s + 4 * m3 s
def bitAt (x i : Nat) : Bool := decide (x / 2 ^ i % 2 = 1)
def bitsP (s : ByteArray) (from_ n : Nat) : List Bool := (List.range n).map fun i => bitAt (nB s (from_ + i / 8)) (i % 8)
def w4 (s : ByteArray) (i : Nat) : Nat := nB s i + 256 * nB s (i + 1) + 65536 * nB s (i + 2) + 16777216 * nB s (i + 3)
def softP (s : ByteArray) (from_ n : Nat) : List Nat := (List.range n).map fun j => w4 s (from_ + 4 * j)
theorem w4_lt (s : ByteArray) (i : Nat) : w4 s i < 4294967296 := by
  have h0 := nB_lt s i
  have h1 := nB_lt s (i + 1)
  have h2 := nB_lt s (i + 2)
  have h3 := nB_lt s (i + 3)
  unfold w4
  omega
def parseD (s : ByteArray) : SavD := (s.extract 5 (a1 s), bitsP s (a2 s) (m2 s), softP s (a4 s) (m3 s))
/-- the one that bytes begin with -/
def beginB (s : ByteArray) : Bool := decide (a5 s + 2 ≤ s.size) && (vld (parseD s) && decide (stS (parseD s) = s.extract 0 (a5 s + 2)))
theorem bitsP_len (s : ByteArray) (f n : Nat) : (bitsP s f n).length = n := by simp [bitsP]
theorem softP_len (s : ByteArray) (f n : Nat) : (softP s f n).length = n := by simp [softP]

end Go.Proofs.Ytmkjlhobnlgpjaa
