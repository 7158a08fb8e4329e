/-
  Contracts: texts cut at a mark, of the reference; its lines.
  Conditions: texts of at most 1048576 bytes; internal/bytealg.MaxLen's cell holds a number.
-/
import Derived.Test.YthccklkonfappaaDoorLN
import Derived.Test.YthccklkonfappaaDoorM
import Derived.OwnWalk
import Derived.IntWalk
import Derived.Test.YthccklkonfappaaDoorEZ
import Derived.Test.YthccklkonfappaaDoorJC
namespace Go.Proofs.YthccklkonfappaaDoor
open Go.RowKit

theorem infoString : (Tryd.prog.info? 9).map (fun i => (i.zero, i.size, i.bytes)) = some (some (.string ByteArray.empty), 1, 16) := by kernel_rfl
def strV (l : List UInt8) : Value := .string ⟨l.toArray⟩
theorem one_str {xs : List (List UInt8)} : ∀ u ∈ xs.map strV, u.oneCell' = true := by
  intro u hu
  obtain ⟨b, _, rfl⟩ := List.mem_map.1 hu
  rfl
theorem bytes_eq {a : ByteArray} {l : List UInt8} (h : a.data.toList = l) : a = ⟨l.toArray⟩ := by
  subst h
  cases a
  simp
theorem strV_eq {a : ByteArray} {l : List UInt8} (h : a.data.toList = l) : Value.string a = strV l := by rw [strV, ← bytes_eq h]
theorem extr_list (s : ByteArray) (f k : Nat) : (s.extract f k).data.toList = (s.data.toList.take k).drop f := by
  simp [ByteArray.data_extract, List.drop_take]

/-- how far a cut has come: pieces done, the place from which the next one runs, the place looked at -/
def CutAt (c : UInt8) (L : List UInt8) (f k : Nat) (done : List (List UInt8)) : Prop :=
  (k ≤ L.length ∧ f ≤ k ∧ done ++ cutL c (L.drop f) = cutL c L ∧ ∀ j, f ≤ j → j < k → L[j]? ≠ some c) ∨ (k = L.length + 1 ∧ f = k ∧ done = cutL c L)
theorem cutAt_start (c : UInt8) (L : List UInt8) : CutAt c L 0 0 [] := .inl ⟨Nat.zero_le _, Nat.le_refl _, rfl, fun j _ h => by omega⟩
theorem cutAt_len {c : UInt8} {L : List UInt8} {f k : Nat} {done : List (List UInt8)} (h : CutAt c L f k done) : done.length ≤ L.length + 1 := by
  have := cutL_len c L
  rcases h with ⟨_, _, h, _⟩ | ⟨_, _, h⟩
  · rw [← h, List.length_append] at this; omega
  · rw [h]; exact this
theorem cutAt_f {c : UInt8} {L : List UInt8} {f k : Nat} {done : List (List UInt8)} (h : CutAt c L f k done) : f ≤ k := by
  rcases h with ⟨_, h, _⟩ | ⟨_, h, _⟩
  · exact h
  · omega
theorem cutAt_last {c : UInt8} {L : List UInt8} {f : Nat} {done : List (List UInt8)} (h : CutAt c L f L.length done) : CutAt c L (L.length + 1) (L.length + 1) (done ++ [(L.take L.length).drop f]) := by
  rcases h with ⟨_, _, h, hn⟩ | ⟨h, _⟩
  · refine .inr ⟨rfl, rfl, ?_⟩
    rw [cut_last (fun k h1 h2 => hn k h1 h2)] at h
    rw [List.take_length]
    exact h
  · omega
theorem cutAt_hit {c : UInt8} {L : List UInt8} {f k : Nat} {done : List (List UInt8)} (h : CutAt c L f k done) (hk : k < L.length) (hc : L[k]? = some c) : CutAt c L (k + 1) (k + 1) (done ++ [(L.take k).drop f]) := by
  rcases h with ⟨_, hf, h, hn⟩ | ⟨h, _⟩
  · refine .inl ⟨by omega, Nat.le_refl _, ?_, fun j _ _ => by omega⟩
    rw [cut_step hf hk hn hc] at h
    rw [List.append_assoc]
    exact h
  · omega
theorem cutAt_miss {c : UInt8} {L : List UInt8} {f k : Nat} {done : List (List UInt8)} (h : CutAt c L f k done) (hk : k < L.length) (hc : L[k]? ≠ some c) : CutAt c L f (k + 1) done := by
  rcases h with ⟨_, hf, h, hn⟩ | ⟨h, _⟩
  · refine .inl ⟨by omega, by omega, h, fun j h1 h2 => ?_⟩
    by_cases e : j = k
    · rw [e]; exact hc
    · exact hn j h1 (by omega)
  · omega


set_option maxRecDepth 100000 in
set_option maxHeartbeats 1000000 in
theorem spec_l01Cut_c (w : World) (s : ByteArray) (c : UInt8) (hs : s.size ≤ 1048576) :
    Calls Tryd.prog 75 #[.string s, .int .u8 c.toNat] w fun e w' => ∃ v, e = .returned v ∧ Ow w' w.heap.size 9 v ((cutL c s.data.toList).map strV) ∧ Below w.heap.size w w' := by
  have hsz : s.data.toList.length = s.size := by rw [Array.length_toList]; rfl
  go_enter Tryd.func75, Tryd.ntmps75
  go_wp2
  go_loopw [5, 6, 7] (fun v f i wr => ∃ (k g : Nat) (D : List (List UInt8)), k ≤ s.size + 1 ∧ i = .int .i64 k ∧ f = .int .i64 g ∧ CutAt c s.data.toList g k D ∧ Ow wr w.heap.size 9 v (D.map strV) ∧ Below w.heap.size w wr) (fun _ _ i _ => s.size + 1 - (intOf i).toNat)
  case atStart => exact ⟨0, 0, [], Nat.zero_le _, rfl, rfl, cutAt_start _ _, own_empty _ _ _ (Nat.le_refl _), (Below.refl _ _).alloc (Nat.le_refl _) _⟩
  case round =>
    obtain ⟨k, g, D, hk, rfl, rfl, hC, ho, hb⟩ := hrel
    have hz := hb.size
    have hg := cutAt_f hC
    have hDl := cutAt_len hC
    have hlen : (D.map strV).length + 1 ≤ 1099511627776 := by rw [List.length_map]; omega
    by_cases hlt : k ≤ s.size
    · by_cases he : k = s.size
      · subst he
        have hst : (D.map strV) ++ [Value.string (s.extract g s.size)] = (D ++ [(s.data.toList.take s.size).drop g]).map strV := by
          rw [List.map_append, strV_eq (extr_list s g s.size)]; rfl
        have hN : CutAt c s.data.toList (s.size + 1) (s.size + 1) (D ++ [(s.data.toList.take s.size).drop g]) := by
          rw [← hsz] at hC ⊢
          exact cutAt_last hC
        have HT := Lib.hid hst
        have HN := Lib.hid hN
        have HZ := Lib.hid hsz
        clear hst hN hC hsz
        go_wp2_with (at_builtin; refine app1 Tryd.underlying40 infoString rfl (by decide) rfl _ _ rfl _ _ _ rfl (ho.alloc _) _ _ _ rfl (cell_new1 _ _ _) rfl hlen (by simp; omega) ?_; intro v' w1 ho1 hb1)
        go_roundw
        case rel =>
          refine ⟨s.size + 1, s.size + 1, _, Nat.le_refl _, by go_num, by go_num, HN.out, ?_, (hb.alloc hz _).trans hb1⟩
          rw [← HT.out]
          exact ho1
        case measure => simp [intOf] <;> omega
      · have hke : ((k : Int) == (s.size : Int)) = false := by simp; omega
        have hks : k < s.size := by omega
        have hget : s.data.toList[k]? = some s[k] := by
          rw [List.getElem?_eq_getElem (by omega)]
          simp [ByteArray.getElem_eq_getElem_data]
        by_cases hc : s[k] = c
        · have hst : (D.map strV) ++ [Value.string (s.extract g k)] = (D ++ [(s.data.toList.take k).drop g]).map strV := by
            rw [List.map_append, strV_eq (extr_list s g k)]; rfl
          have hN : CutAt c s.data.toList (k + 1) (k + 1) (D ++ [(s.data.toList.take k).drop g]) := cutAt_hit hC (by omega) (by rw [hget, hc])
          have HT := Lib.hid hst
          have HN := Lib.hid hN
          have HZ := Lib.hid hsz
          have hce : ((s[k].toNat : Int) == (c.toNat : Int)) = true := by simp [hc]
          clear hst hN hC hsz hget hc
          go_wp2_with (at_builtin; refine app1 Tryd.underlying40 infoString rfl (by decide) rfl _ _ rfl _ _ _ rfl (ho.alloc _) _ _ _ rfl (cell_new1 _ _ _) rfl hlen (by simp; omega) ?_; intro v' w1 ho1 hb1)
          go_roundw
          case rel =>
            refine ⟨k + 1, k + 1, _, by omega, by go_num, by go_num, HN.out, ?_, (hb.alloc hz _).trans hb1⟩
            rw [← HT.out]
            exact ho1
          case measure => simp [intOf] <;> omega
        · have hN : CutAt c s.data.toList g (k + 1) D := cutAt_miss hC (by omega) (by rw [hget]; intro h; exact hc (Option.some.inj h))
          have HN := Lib.hid hN
          have HZ := Lib.hid hsz
          have hce : ((s[k].toNat : Int) == (c.toNat : Int)) = false := by
            simp
            intro h
            exact hc (UInt8.toNat_inj.1 (by omega))
          clear hN hC hsz hget hc
          go_wp2
          go_roundw
          case rel => exact ⟨k + 1, g, D, by omega, by go_num, rfl, HN.out, ho, hb⟩
          case measure => simp [intOf] <;> omega
    · have e1 : D = cutL c s.data.toList := by
        rcases hC with ⟨h, _⟩ | ⟨_, _, h⟩
        · omega
        · exact h
      subst e1
      clear hC hsz
      go_wp2
      go_ret
      exact ⟨_, rfl, ho, hb⟩


def maxLenOk (w : World) : Prop := ∃ m, w.cell? ⟨0, 0, none⟩ = some (.int .i64 m)
theorem maxLenOk.below {w w' : World} {B : Nat} (h : maxLenOk w) (hb : Below B w w') (hB : 0 < B) : maxLenOk w' := by
  obtain ⟨m, hm⟩ := h
  exact ⟨m, (hb.cell (p := ⟨0, 0, none⟩) hB).trans hm⟩
theorem maxLenOk.lt {w : World} (h : maxLenOk w) : 0 < w.heap.size := by
  obtain ⟨m, hm⟩ := h
  exact World.block_lt_of_cell? _ _ hm
theorem maxLenOk_of {w : World} (h : w.ShapedOpen Tryd.prog) : maxLenOk w := Tryd.laysM145.s1_3 w h
def linesL (s : ByteArray) : List (List UInt8) := (cutL 10 s.data.toList).dropLast
def restL (s : ByteArray) : List UInt8 := (cutL 10 s.data.toList).getLast (cutL_ne _ _)
theorem lines_eq (s : ByteArray) : cutL 10 s.data.toList = linesL s ++ [restL s] := (List.dropLast_concat_getLast (cutL_ne _ _)).symm
theorem lines_len (s : ByteArray) : (cutL 10 s.data.toList).length = (linesL s).length + 1 := by rw [lines_eq, List.length_append]; rfl
theorem lines_le (s : ByteArray) : (linesL s).length ≤ s.size := by
  have h1 := cutL_len 10 s.data.toList
  have h2 : s.data.toList.length = s.size := by rw [Array.length_toList]; rfl
  rw [lines_len] at h1
  omega
theorem isEmpty_str (l : List UInt8) : (⟨l.toArray⟩ : ByteArray).toList.isEmpty = l.isEmpty := by rw [ByteArray.toList_mk]

theorem ret_vb {v : Value} {a b : Bool} (h : a = b) : Ending.returned (.tuple #[v, .bool a]) = .returned (.tuple #[v, .bool b]) := by rw [h]
theorem own_cap {w : World} {base : Nat} {e : TypeId} {size n m cap : Nat} {A : Option Addr} {xs : List Value} (h : w.ownsRow base e size (.slice A m cap) n xs) (hn : 0 < n) : n ≤ cap := by
  rcases h.2 with ⟨h1, h2⟩ | ⟨g, c, cur, h1, _, _, h2, _⟩
  · omega
  · injection h1 with _ _ h1
    omega
theorem sl_take {w : World} {B : Nat} {A : Option Addr} {xs ys : List Value} (h : Sl w B A (xs ++ ys)) : Sl w B A xs := by
  rcases h with h | ⟨b, off, e, hb, hc⟩
  · left
    exact (List.append_eq_nil_iff.1 h).1
  · exact .inr ⟨b, off, e, hb, fun j u hu => hc j u (by rw [List.getElem?_append_left (List.getElem?_eq_some_iff.1 hu).1]; exact hu)⟩


set_option maxRecDepth 100000 in
set_option maxHeartbeats 1000000 in
theorem spec_l08Lines_c (w : World) (s : ByteArray) (hs : s.size ≤ 1048576) :
    Calls Tryd.prog 62 #[.string s] w fun e w' => ∃ A cap, e = .returned (.tuple #[.slice A (linesL s).length cap, strV (restL s)]) ∧ Sl w' w'.heap.size A ((linesL s).map strV) ∧ Below w.heap.size w w' := by
  have hle := lines_le s
  have hL := spec_l01Cut_c w s 10 hs
  have HL := Lib.hid hL
  clear hL
  go_enter Tryd.func62, Tryd.ntmps62
  go_wp2_with fail
  refine HL.out.mono ?_
  rintro e w1 ⟨v, rfl, ho, hb⟩
  obtain ⟨A, cap, rfl, hp⟩ := ho.opn
  rw [lines_len] at hp ⊢
  have hcap := own_cap hp (by omega)
  have hsl := (sl_of_own hp)
  have hsl1 : Sl w1 w1.heap.size A ((linesL s).map strV) := by
    rw [lines_eq, List.map_append] at hsl
    exact sl_take hsl
  have hA : ∃ g off, A = some ⟨g, off, none⟩ ∧ w1.cell? ⟨g, off + (linesL s).length, none⟩ = some (strV (restL s)) := by
    obtain ⟨g, off, e, _, hc⟩ := hsl.get (linesL s).length (by rw [lines_len]; omega)
    refine ⟨g, off, e, ?_⟩
    rw [hc]
    simp [lines_eq]
  obtain ⟨g, off, rfl, hc⟩ := hA
  unfold strV at hc
  have hw1 : IntKind.i64.wrap ((((linesL s).length + 1 : Nat) : Int) - 1) = ((linesL s).length : Int) := by rw [IntWalk.i64_in _ (by omega)]; omega
  have hw2 : IntKind.i64.wrap (((linesL s).length : Int) + 1 - 1) = ((linesL s).length : Int) := by rw [IntWalk.i64_in _ (by omega)]; omega
  clear hsl ho hp
  go_wp2
  go_quiet (fail)
  go_wp2
  go_ret2
  exact ⟨_, _, rfl, (hsl1.drewN _).more (Nat.le_refl _), below_drewN hb _⟩

end Go.Proofs.YthccklkonfappaaDoor
