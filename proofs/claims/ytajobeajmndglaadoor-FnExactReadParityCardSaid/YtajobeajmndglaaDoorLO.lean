/-
  Contracts: texts cut at a mark, of the program (strings.Split by the shelf's contract) and of the reference.
  Conditions: texts of at most 1048576 bytes; internal/bytealg.MaxLen's cell holds a number.
-/
import Derived.Test.YtajobeajmndglaaDoorLN
import Derived.Test.YtajobeajmndglaaDoorM
import Derived.OwnWalk
import Derived.IntWalk
import Derived.Test.YtajobeajmndglaaDoorLZ
namespace Go.Proofs.YtajobeajmndglaaDoor
open Go.RowKit

theorem infoString : (Tryd.prog.info? 9).map (fun i => (i.zero, i.size, i.bytes)) = some (some (.string ByteArray.empty), 1, 16) := by kernel_rfl
def strV (l : List UInt8) : Value := .string ⟨l.toArray⟩
theorem one_str {xs : List (List UInt8)} : ∀ u ∈ xs.map strV, u.oneCell' = true := by
  intro u hu
  obtain ⟨b, _, rfl⟩ := List.mem_map.1 hu
  rfl
theorem bytes_eq {a : ByteArray} {l : List UInt8} (h : a.data.toList = l) : a = ⟨l.toArray⟩ := by
  subst h
  cases a
  simp
theorem strV_eq {a : ByteArray} {l : List UInt8} (h : a.data.toList = l) : Value.string a = strV l := by rw [strV, ← bytes_eq h]
theorem extr_list (s : ByteArray) (f k : Nat) : (s.extract f k).data.toList = (s.data.toList.take k).drop f := by
  simp [ByteArray.data_extract, List.drop_take]

/-- how far a cut has come: pieces done, the place from which the next one runs, the place looked at -/
def CutAt (c : UInt8) (L : List UInt8) (f k : Nat) (done : List (List UInt8)) : Prop :=
  (k ≤ L.length ∧ f ≤ k ∧ done ++ cutL c (L.drop f) = cutL c L ∧ ∀ j, f ≤ j → j < k → L[j]? ≠ some c) ∨ (k = L.length + 1 ∧ f = k ∧ done = cutL c L)
theorem cutAt_start (c : UInt8) (L : List UInt8) : CutAt c L 0 0 [] := .inl ⟨Nat.zero_le _, Nat.le_refl _, rfl, fun j _ h => by omega⟩
theorem cutAt_len {c : UInt8} {L : List UInt8} {f k : Nat} {done : List (List UInt8)} (h : CutAt c L f k done) : done.length ≤ L.length + 1 := by
  have := cutL_len c L
  rcases h with ⟨_, _, h, _⟩ | ⟨_, _, h⟩
  · rw [← h, List.length_append] at this; omega
  · rw [h]; exact this
theorem cutAt_f {c : UInt8} {L : List UInt8} {f k : Nat} {done : List (List UInt8)} (h : CutAt c L f k done) : f ≤ k := by
  rcases h with ⟨_, h, _⟩ | ⟨_, h, _⟩
  · exact h
  · omega
theorem cutAt_last {c : UInt8} {L : List UInt8} {f : Nat} {done : List (List UInt8)} (h : CutAt c L f L.length done) : CutAt c L (L.length + 1) (L.length + 1) (done ++ [(L.take L.length).drop f]) := by
  rcases h with ⟨_, _, h, hn⟩ | ⟨h, _⟩
  · refine .inr ⟨rfl, rfl, ?_⟩
    rw [cut_last (fun k h1 h2 => hn k h1 h2)] at h
    rw [List.take_length]
    exact h
  · omega
theorem cutAt_hit {c : UInt8} {L : List UInt8} {f k : Nat} {done : List (List UInt8)} (h : CutAt c L f k done) (hk : k < L.length) (hc : L[k]? = some c) : CutAt c L (k + 1) (k + 1) (done ++ [(L.take k).drop f]) := by
  rcases h with ⟨_, hf, h, hn⟩ | ⟨h, _⟩
  · refine .inl ⟨by omega, Nat.le_refl _, ?_, fun j _ _ => by omega⟩
    rw [cut_step hf hk hn hc] at h
    rw [List.append_assoc]
    exact h
  · omega
theorem cutAt_miss {c : UInt8} {L : List UInt8} {f k : Nat} {done : List (List UInt8)} (h : CutAt c L f k done) (hk : k < L.length) (hc : L[k]? ≠ some c) : CutAt c L f (k + 1) done := by
  rcases h with ⟨_, hf, h, hn⟩ | ⟨h, _⟩
  · refine .inl ⟨by omega, by omega, h, fun j h1 h2 => ?_⟩
    by_cases e : j = k
    · rw [e]; exact hc
    · exact hn j h1 (by omega)
  · omega


set_option maxRecDepth 100000 in
set_option maxHeartbeats 1000000 in
theorem spec_l01Cut_c (w : World) (s : ByteArray) (c : UInt8) (hs : s.size ≤ 1048576) :
    Calls Tryd.prog 29 #[.string s, .int .u8 c.toNat] w fun e w' => ∃ v, e = .returned v ∧ Ow w' w.heap.size 9 v ((cutL c s.data.toList).map strV) ∧ Below w.heap.size w w' := by
  have hsz : s.data.toList.length = s.size := by rw [Array.length_toList]; rfl
  go_enter Tryd.func29, Tryd.ntmps29
  go_wp2
  go_loopw [5, 6, 7] (fun v f i wr => ∃ (k g : Nat) (D : List (List UInt8)), k ≤ s.size + 1 ∧ i = .int .i64 k ∧ f = .int .i64 g ∧ CutAt c s.data.toList g k D ∧ Ow wr w.heap.size 9 v (D.map strV) ∧ Below w.heap.size w wr) (fun _ _ i _ => s.size + 1 - (intOf i).toNat)
  case atStart => exact ⟨0, 0, [], Nat.zero_le _, rfl, rfl, cutAt_start _ _, own_empty _ _ _ (Nat.le_refl _), (Below.refl _ _).alloc (Nat.le_refl _) _⟩
  case round =>
    obtain ⟨k, g, D, hk, rfl, rfl, hC, ho, hb⟩ := hrel
    have hz := hb.size
    have hg := cutAt_f hC
    have hDl := cutAt_len hC
    have hlen : (D.map strV).length + 1 ≤ 1099511627776 := by rw [List.length_map]; omega
    by_cases hlt : k ≤ s.size
    · by_cases he : k = s.size
      · subst he
        have hst : (D.map strV) ++ [Value.string (s.extract g s.size)] = (D ++ [(s.data.toList.take s.size).drop g]).map strV := by
          rw [List.map_append, strV_eq (extr_list s g s.size)]; rfl
        have hN : CutAt c s.data.toList (s.size + 1) (s.size + 1) (D ++ [(s.data.toList.take s.size).drop g]) := by
          rw [← hsz] at hC ⊢
          exact cutAt_last hC
        have HT := Lib.hid hst
        have HN := Lib.hid hN
        have HZ := Lib.hid hsz
        clear hst hN hC hsz
        go_wp2_with (at_builtin; refine app1 Tryd.underlying47 infoString rfl (by decide) rfl _ _ rfl _ _ _ rfl (ho.alloc _) _ _ _ rfl (cell_new1 _ _ _) rfl hlen (by simp; omega) ?_; intro v' w1 ho1 hb1)
        go_roundw
        case rel =>
          refine ⟨s.size + 1, s.size + 1, _, Nat.le_refl _, by go_num, by go_num, HN.out, ?_, (hb.alloc hz _).trans hb1⟩
          rw [← HT.out]
          exact ho1
        case measure => simp [intOf] <;> omega
      · have hke : ((k : Int) == (s.size : Int)) = false := by simp; omega
        have hks : k < s.size := by omega
        have hget : s.data.toList[k]? = some s[k] := by
          rw [List.getElem?_eq_getElem (by omega)]
          simp [ByteArray.getElem_eq_getElem_data]
        by_cases hc : s[k] = c
        · have hst : (D.map strV) ++ [Value.string (s.extract g k)] = (D ++ [(s.data.toList.take k).drop g]).map strV := by
            rw [List.map_append, strV_eq (extr_list s g k)]; rfl
          have hN : CutAt c s.data.toList (k + 1) (k + 1) (D ++ [(s.data.toList.take k).drop g]) := cutAt_hit hC (by omega) (by rw [hget, hc])
          have HT := Lib.hid hst
          have HN := Lib.hid hN
          have HZ := Lib.hid hsz
          have hce : ((s[k].toNat : Int) == (c.toNat : Int)) = true := by simp [hc]
          clear hst hN hC hsz hget hc
          go_wp2_with (at_builtin; refine app1 Tryd.underlying47 infoString rfl (by decide) rfl _ _ rfl _ _ _ rfl (ho.alloc _) _ _ _ rfl (cell_new1 _ _ _) rfl hlen (by simp; omega) ?_; intro v' w1 ho1 hb1)
          go_roundw
          case rel =>
            refine ⟨k + 1, k + 1, _, by omega, by go_num, by go_num, HN.out, ?_, (hb.alloc hz _).trans hb1⟩
            rw [← HT.out]
            exact ho1
          case measure => simp [intOf] <;> omega
        · have hN : CutAt c s.data.toList g (k + 1) D := cutAt_miss hC (by omega) (by rw [hget]; intro h; exact hc (Option.some.inj h))
          have HN := Lib.hid hN
          have HZ := Lib.hid hsz
          have hce : ((s[k].toNat : Int) == (c.toNat : Int)) = false := by
            simp
            intro h
            exact hc (UInt8.toNat_inj.1 (by omega))
          clear hN hC hsz hget hc
          go_wp2
          go_roundw
          case rel => exact ⟨k + 1, g, D, by omega, by go_num, rfl, HN.out, ho, hb⟩
          case measure => simp [intOf] <;> omega
    · have e1 : D = cutL c s.data.toList := by
        rcases hC with ⟨h, _⟩ | ⟨_, _, h⟩
        · omega
        · exact h
      subst e1
      clear hC hsz
      go_wp2
      go_ret
      exact ⟨_, rfl, ho, hb⟩

/-! ### strings.Split at one byte -/
def maxLenOk (w : World) : Prop := ∃ m, w.cell? ⟨0, 0, none⟩ = some (.int .i64 m)
theorem maxLenOk.below {w w' : World} {B : Nat} (h : maxLenOk w) (hb : Below B w w') (hB : 0 < B) : maxLenOk w' := by
  obtain ⟨m, hm⟩ := h
  exact ⟨m, (hb.cell (p := ⟨0, 0, none⟩) hB).trans hm⟩
theorem maxLenOk.lt {w : World} (h : maxLenOk w) : 0 < w.heap.size := by
  obtain ⟨m, hm⟩ := h
  exact World.block_lt_of_cell? _ _ hm
theorem maxLenOk_of {w : World} (h : w.ShapedOpen Tryd.prog) : maxLenOk w := Tryd.laysM146.s1_3 w h
theorem pieces_eq (s : ByteArray) (c : UInt8) : (Lib.splitB ⟨#[c]⟩ 0 (Lib.countB s ⟨#[c]⟩) s).map Value.string = (cutL c s.data.toList).map strV := by
  have h1 := Lib.splitB_data ⟨#[c]⟩ 0 (Lib.countB s ⟨#[c]⟩) s
  have h2 := splitK_cut c (Lib.countB s ⟨#[c]⟩) s.data.toList rfl
  have h3 : ((⟨#[c]⟩ : ByteArray)).data.toList = [c] := rfl
  rw [h3, h2] at h1
  rw [← h1, List.map_map]
  apply List.map_congr_left
  intro a _
  exact strV_eq rfl
theorem pieces_len (s : ByteArray) (c : UInt8) : Lib.countB s ⟨#[c]⟩ + 1 = (cutL c s.data.toList).length := by
  have h := congrArg List.length (pieces_eq s c)
  rw [List.length_map, List.length_map, Lib.splitB_all ⟨#[c]⟩ (Nat.le_refl 1) 0 _ s rfl] at h
  exact h
/-- strings.Split at a mark of one byte -/
theorem Split_c (w : World) (s : ByteArray) (c : UInt8) (hs : s.size ≤ 1048576) (hm : maxLenOk w) :
    Calls Tryd.prog 51 #[.string s, .string ⟨#[c]⟩] w fun e w' => ∃ A, e = .returned (.slice A (cutL c s.data.toList).length (cutL c s.data.toList).length) ∧ w'.ownsRow w.heap.size 9 1 (.slice A (cutL c s.data.toList).length (cutL c s.data.toList).length) (cutL c s.data.toList).length ((cutL c s.data.toList).map strV) ∧ Below w.heap.size w w' := by
  obtain ⟨m, hm⟩ := hm
  have hlen := cutL_len c s.data.toList
  have hsz : s.data.toList.length = s.size := by rw [Array.length_toList]; rfl
  refine (Tryd.strings_Split s ⟨#[c]⟩ m w (by omega) hm (Nat.le_refl 1)).mono ?_
  rintro e w' ⟨rfl, rfl⟩
  rw [pieces_eq, pieces_len]
  refine ⟨_, rfl, ?_, (Below.refl _ _).alloc (Nat.le_refl _) _⟩
  have h := World.ownsRow_lit (e := 9) (size := 1) w ((cutL c s.data.toList).map strV).toArray (cutL c s.data.toList).length (Nat.le_refl _) (by unfold maxLen; omega) (by simp)
  have h2 : (w.alloc (.cells ((cutL c s.data.toList).map strV).toArray 9)).ownsRow w.heap.size 9 1 (.slice (some ⟨w.heap.size, 0, none⟩) (cutL c s.data.toList).length (cutL c s.data.toList).length) (cutL c s.data.toList).length ((cutL c s.data.toList).map strV) := by simpa using h
  exact h2

end Go.Proofs.YtajobeajmndglaaDoor
