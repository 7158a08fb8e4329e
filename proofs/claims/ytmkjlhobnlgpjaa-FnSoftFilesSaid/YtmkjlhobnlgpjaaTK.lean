/-
  Contracts: a taker of bytes; texts repeated.
  Conditions: at most 1048576 bytes.
-/
import Derived.Test.YtmkjlhobnlgpjaaBX
import Derived.Test.YtmkjlhobnlgpjaaTZ
namespace Go.Proofs.Ytmkjlhobnlgpjaa
open Go.RowKit Go.Shelf

/-- bytes 0 -/
def zerosS (n : Nat) : ByteArray := ⟨(Lib.repeatL [0] n).toArray⟩
theorem zerosS_size (n : Nat) : (zerosS n).size = n := by
  show (Lib.repeatL [0] n).toArray.size = n
  rw [List.size_toArray, Lib.repeatL_length]
  simp
theorem Repeat0_c (w : World) (n : Nat) (hn : n ≤ 1048576) : Calls Try.prog 84 #[.string ⟨#[0]⟩, .int .i64 (n : Int)] w fun e w' => e = .returned (.string (zerosS n)) ∧ Below w.heap.size w w' :=
  Try.strings_Repeat ⟨#[0]⟩ n w (by omega) (by show 1 * n ≤ _; omega)
theorem HasPrefix_c (w : World) (s p : ByteArray) : Calls Try.prog 76 #[.string s, .string p] w fun e w' => e = .returned (.bool (Lib.hasPrefix s.data.toList p.data.toList)) ∧ w' = w :=
  Try.strings_HasPrefix s p w

/-- what is taken, and what is left -/
def takeF (r : ByteArray) (b : Bool) (n : Nat) : ByteArray × ByteArray × Bool := if b = false ∧ n ≤ r.size then (r.extract 0 n, r.extract n r.size, false) else (zerosS n, r, true)
theorem takeF_yes {r : ByteArray} {n : Nat} (h : n ≤ r.size) : takeF r false n = (r.extract 0 n, r.extract n r.size, false) := by unfold takeF; rw [if_pos ⟨rfl, h⟩]
theorem takeF_bad (r : ByteArray) (n : Nat) : takeF r true n = (zerosS n, r, true) := by unfold takeF; rw [if_neg (by simp)]
theorem takeF_no {r : ByteArray} {n : Nat} (h : ¬ n ≤ r.size) (b : Bool) : takeF r b n = (zerosS n, r, true) := by unfold takeF; rw [if_neg (by simp [h])]
theorem takeF_size (r : ByteArray) (b : Bool) (n : Nat) : (takeF r b n).1.size = n := by
  unfold takeF
  split
  · rename_i h
    simp [ByteArray.size_extract]
    omega
  · exact zerosS_size n
theorem takeF_left (r : ByteArray) (b : Bool) (n : Nat) : (takeF r b n).2.1.size ≤ r.size := by
  unfold takeF
  split
  · simp [ByteArray.size_extract]
  · exact Nat.le_refl _
/-- a block of cells -/
def Obj (W : World) (B : Nat) (t : TypeId) (cs : Array Value) : Prop := W.heap[B]? = some (.cells cs t (0, 0))
theorem Obj.lt {W : World} {B : Nat} {t : TypeId} {cs : Array Value} (h : Obj W B t cs) : B < W.heap.size := (Array.getElem?_eq_some_iff.1 h).1
theorem Obj.cell {W : World} {B : Nat} {t : TypeId} {cs : Array Value} (h : Obj W B t cs) (o : Nat) : W.cell? ⟨B, o, none⟩ = cs[o]? := cell_of_row W B o cs t (0, 0) h
theorem Obj.frozen {W : World} {B : Nat} {t : TypeId} {cs : Array Value} (h : Obj W B t cs) (o : Nat) : W.frozen? ⟨B, o, none⟩ = false := by simp [World.frozen?, show W.heap[B]? = _ from h]
theorem Obj.new (W : World) (t : TypeId) (cs : Array Value) : Obj (W.alloc (.cells cs t)) W.heap.size t cs := World.alloc_heap_new W _
theorem Obj.kept {W W' : World} {row : Option Nat} {B : Nat} {t : TypeId} {cs : Array Value} (h : Obj W B t cs) (hg : W.grownBy W' row) (hne : some B ≠ row) : Obj W' B t cs := (hg.block B h.lt hne).trans h
theorem Obj.alloc {W : World} {B : Nat} {t : TypeId} {cs : Array Value} (h : Obj W B t cs) (o : Go.Obj) : Obj (W.alloc o) B t cs := h.kept (World.grownBy_alloc W o none) (by simp)
theorem Obj.below {W W' : World} {B D : Nat} {t : TypeId} {cs : Array Value} (h : Obj W B t cs) (hb : Below D W W') (hD : B < D) : Obj W' B t cs := (hb.block B hD).trans h
theorem Obj.set {W : World} {B : Nat} {t : TypeId} {cs : Array Value} (h : Obj W B t cs) (o : Nat) (v : Value) : Obj (W.setCell ⟨B, o, none⟩ v) B t (cs.setIfInBounds o v) := by
  obtain ⟨hlt, hk⟩ := Array.getElem?_eq_some_iff.1 h
  show (W.heap.modify B _)[B]? = _
  rw [Array.getElem?_eq_getElem (by rw [Array.size_modify]; exact hlt), Array.getElem_modify_self, hk]
  rfl
theorem grownBy_set (W : World) (b o : Nat) (v : Value) : W.grownBy (W.setCell ⟨b, o, none⟩ v) (some b) :=
  ⟨rfl, rfl, rfl, (KeepsWalks.setCell W _ v).size, fun k _ hk => Below.heap_setCell _ _ _ k (fun e => hk (by rw [e]))⟩
/-- a row of another type lies elsewhere -/
theorem Obj.not_row {W : World} {B : Nat} {t e : TypeId} {cs : Array Value} (h : Obj W B t cs) (hte : t ≠ e) {base size k : Nat} {v : Value} {xs : List Value} (hr : W.ownsRow base e size v k xs) : some B ≠ v.ownBlock := by
  rcases hr.2 with ⟨rfl, _⟩ | ⟨g, cap, cur, rfl, _, hgb, _⟩
  · simp [Value.ownBlock]
  · intro e'
    obtain rfl : B = g := by simpa [Value.ownBlock] using e'
    have := (show W.heap[B]? = _ from h).symm.trans hgb
    simp at this
    exact hte this.2
theorem below_grown {D T : Nat} {w w' : World} (h : w.grownBy w' (some T)) (hD : D ≤ T) (hz : D ≤ w.heap.size) : Below D w w' := (Below.refl D w).grown h hz (fun k e => by cases e; exact hD)
theorem grown_below {w w' : World} {T : Nat} (h : Below w.heap.size w w') : w.grownBy w' (some T) := ⟨h.os, h.tape, h.output, h.size, fun k hk _ => h.block k hk⟩


set_option maxRecDepth 100000 in
set_option maxHeartbeats 1000000 in
theorem impl_take_c (w : World) (T : Nat) (r : ByteArray) (b : Bool) (n : Nat) (_hr : r.size ≤ 1048576) (hn : n ≤ 1048576) (hT : Obj w T 97 #[.string r, .bool b]) :
    Calls Try.prog 74 #[.pointer (some ⟨T, 0, none⟩), .int .i64 (n : Int)] w fun e w' => e = .returned (.string (takeF r b n).1) ∧ Obj w' T 97 #[.string (takeF r b n).2.1, .bool (takeF r b n).2.2] ∧ w.grownBy w' (some T) := by
  have c0 := hT.cell 0
  have c1 := hT.cell 1
  have f0 := hT.frozen 0
  have f1 := hT.frozen 1
  simp only [List.getElem?_toArray, List.getElem?_cons_zero, List.getElem?_cons_succ] at c0 c1
  have bad : ∀ (b' : Bool), takeF r b n = (zerosS n, r, true) → b = b' → (b' = true ∨ ¬ n ≤ r.size) → Calls Try.prog 74 #[.pointer (some ⟨T, 0, none⟩), .int .i64 (n : Int)] w fun e w' => e = .returned (.string (takeF r b n).1) ∧ Obj w' T 97 #[.string (takeF r b n).2.1, .bool (takeF r b n).2.2] ∧ w.grownBy w' (some T) := by
    intro b' ht hb hc
    rw [ht]
    subst hb
    have hs := hT.set 1 (.bool true)
    simp only [List.setIfInBounds_toArray, List.set_cons_succ, List.set_cons_zero] at hs
    have hg := grownBy_set w T 1 (.bool true)
    have hlt := hT.lt
    have HR := Lib.hid (Repeat0_c (w.setCell ⟨T, 1, none⟩ (.bool true)) n hn)
    have HS := Lib.hid hs
    have HG := Lib.hid hg
    clear hs hg ht
    cases hbb : b
    · subst hbb
      have hn2 : ¬ n ≤ r.size := by
        rcases hc with h | h
        · cases h
        · exact h
      have hd : decide ((r.size : Int) < (n : Int)) = true := by simp; omega
      clear hc
      go_enter Try.func74, Try.ntmps74
      go_wp2_with fail
      refine HR.out.mono ?_
      rintro e w2 ⟨rfl, hb2⟩
      go_wp2
      go_ret
      exact ⟨rfl, HS.out.below hb2 (by simp; exact hlt), HG.out.trans (grown_below hb2)⟩
    · subst hbb
      clear hc
      go_enter Try.func74, Try.ntmps74
      go_wp2_with fail
      refine HR.out.mono ?_
      rintro e w2 ⟨rfl, hb2⟩
      go_wp2
      go_ret
      exact ⟨rfl, HS.out.below hb2 (by simp; exact hlt), HG.out.trans (grown_below hb2)⟩
  by_cases h : n ≤ r.size
  · cases hb : b
    · subst hb
      rw [takeF_yes h]
      have hs := hT.set 0 (.string (r.extract n r.size))
      simp only [List.setIfInBounds_toArray, List.set_cons_zero] at hs
      have hg := grownBy_set w T 0 (.string (r.extract n r.size))
      have hd : decide ((r.size : Int) < (n : Int)) = false := by simp; omega
      have HS := Lib.hid hs
      have HG := Lib.hid hg
      clear hs hg bad
      go_enter Try.func74, Try.ntmps74
      go_wp2
      go_ret
      exact ⟨rfl, HS.out, HG.out⟩
    · subst hb
      exact bad true (takeF_bad r n) rfl (.inl rfl)
  · exact bad b (takeF_no h b) rfl (.inr h)

end Go.Proofs.Ytmkjlhobnlgpjaa
