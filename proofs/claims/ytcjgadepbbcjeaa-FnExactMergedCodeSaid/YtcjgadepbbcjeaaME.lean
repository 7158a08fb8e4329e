/-
  Contracts: one bunch is cleared; a bunch is deleted.
  Conditions: 1 to 1048576 bunches.
-/
import Derived.Test.YtcjgadepbbcjeaaMD
import Derived.Lib.SliceRun
import Derived.Shelf.SlicesE.Delete
namespace Go.Proofs.Ytcjgadepbbcjeaa
open Go.RowKit Go.Shelf Go.Sort Go.Lib

/-- 'clear' of one bunch: its two cells hold the zero values -/
theorem run_clear_bunch (w : World) (ty : TypeId) (b o c : Nat)
    (hc : ∀ j, j < 2 → (w.cell? ⟨b, o + j, none⟩).isSome = true) (hf : ∀ j, j < 2 → w.frozen? ⟨b, o + j, none⟩ = false) :
    (Builtin.clear_ #[38] ty #[.slice (some ⟨b, o, none⟩) 1 c]).run Try.prog w = .ok (.tuple #[]) (w.setCells b o [.int .i64 0, .slice none 0 0]) := by
  have hv : ∀ w, (zeroValue 42).run Try.prog w = .ok (.agg #[.int .i64 0, .slice none 0 0]) w := by
    intro w; rfl
  have ht : Try.prog.underlying 38 = some (.slice 42) := rfl
  have hzc : (Builtin.zeroCells (Value.agg #[.int .i64 0, .slice none 0 0]).cells 1).toList = [.int .i64 0, .slice none 0 0] := by
    have h : (Value.agg #[.int .i64 0, .slice none 0 0]).cells = #[.int .i64 0, .slice none 0 0] := by simp [Value.cells]
    rw [h]
    have hr : Array.range (1 * #[Value.int .i64 0, .slice none 0 0].size) = #[0, 1] := by decide
    simp only [Builtin.zeroCells]
    rw [hr]
    simp
  have hst := run_storeCells_cells (P := Try.prog) b o [.int .i64 0, .slice none 0 0] 0 w (by simpa using hc) (by simpa using hf) (by simp [Value.oneCell'])
  simp only [Nat.add_zero] at hst
  simp [Builtin.clear_, run_underlying ht, hv, hzc, hst]

theorem delete_arrZ {α : Type} (d : Array α) (i j : Nat) (zs : List α) (hz : zs.length = j - i) (hij : i ≤ j) (hj : j ≤ d.size) :
    lay (lay d i (d.toList.drop j)) (i + (d.size - j)) zs = (d.toList.take i ++ d.toList.drop j ++ zs).toArray := by
  apply Array.ext_getElem?
  intro t
  have l1 : (d.toList.take i).length = i := by simp; omega
  have l2 : (d.toList.drop j).length = d.size - j := by simp
  rw [lay_get? _ _ _ _ (by rw [lay_size, hz]; omega), lay_get? _ _ _ _ (by rw [l2]; omega), show (d.toList.take i ++ d.toList.drop j ++ zs).toArray[t]? = (d.toList.take i ++ d.toList.drop j ++ zs)[t]? from List.getElem?_toArray]
  simp only [hz, l2]
  by_cases c1 : t < i
  · rw [if_neg (by omega), if_neg (by omega), List.getElem?_append_left (by simp; omega), List.getElem?_append_left (by omega), List.getElem?_take, if_pos c1, Array.getElem?_toList]
  · by_cases c2 : t < i + (d.size - j)
    · rw [if_neg (by omega), if_pos (by omega), List.getElem?_append_left (by simp; omega), List.getElem?_append_right (by omega), l1]
    · rw [List.getElem?_append_right (by simp; omega)]
      simp only [List.length_append, l1, l2]
      by_cases c3 : t < d.size
      · rw [if_pos (by omega)]
      · rw [if_neg (by omega), if_neg (by omega), Array.getElem?_eq_none (by omega), List.getElem?_eq_none (by omega)]


set_option maxRecDepth 100000 in
set_option maxHeartbeats 4000000 in
theorem Delete_bunch_c (w : World) (b off n cap i j : Nat) (d : Array Value) (hd : d.size = n * 2) (hH : Holds id w b off d) (hj : j = i + 1) (hi : i < n) (hcap : n ≤ cap) (_hm : cap ≤ 9223372036854775807) (h1 : ∀ x ∈ d.toList, x.oneCell' = true) :
    Calls Try.prog 28 #[.slice (some ⟨b, off, none⟩) n cap, .int .i64 i, .int .i64 j] w fun e w' => e = .returned (.slice (some ⟨b, off, none⟩) (n - 1) cap) ∧ ∃ q, w' = putRow id (Sort.ahead w q) b off (d.toList.take (i * 2) ++ d.toList.drop (j * 2) ++ [Value.int .i64 0, Value.slice none 0 0]).toArray := by
  obtain ⟨news, hnews⟩ : ∃ news, news = d.toList.drop (j * 2) := ⟨_, rfl⟩
  have hlen : news.length = (n - j) * 2 := by rw [hnews]; simp; omega
  have hget : ∀ t, t < (n - j) * 2 → news[t]? = some d[j * 2 + t]! := by
    intro t ht
    rw [hnews, List.getElem?_drop, Array.getElem?_toList, getElem!_pos d (j * 2 + t) (by omega), Array.getElem?_eq_getElem (by omega)]
  obtain ⟨A, hA, hsrc⟩ : ∃ A : Addr, (if cap = j then some (⟨b, off, none⟩ : Addr) else some ⟨b, off + j * 2, none⟩) = some A ∧ Hid (∀ t u, news[t]? = some u → w.drew.cell? (A.add t) = some u) := by
    by_cases h : cap = j
    · refine ⟨⟨b, off, none⟩, by simp [h], fun t u hu => ?_⟩
      have h0 : news.length = 0 := by rw [hlen]; omega
      rw [List.length_eq_zero_iff.1 h0] at hu
      simp at hu
    · refine ⟨⟨b, off + j * 2, none⟩, by simp [h], fun t u hu => ?_⟩
      have ht : t < (n - j) * 2 := by
        have := (List.getElem?_eq_some_iff.1 hu).1
        rwa [hlen] at this
      rw [hget t ht] at hu
      rw [Addr.add_lit, show off + j * 2 + t = off + (j * 2 + t) by omega]
      exact (hH (j * 2 + t) (by omega)).1.trans hu
  have s1 : Hid (news.length = (n - j) * 2) := hlen
  have s2 : Hid (∀ u ∈ news, u.oneCell' = true) := by
    intro u hu
    rw [hnews] at hu
    exact h1 u (List.mem_of_mem_drop hu)
  have s3 : Hid (∀ t, t < news.length → (w.drew.cell? ⟨b, off + i * 2 + t, none⟩).isSome = true ∧ w.drew.frozen? ⟨b, off + i * 2 + t, none⟩ = false) := by
    intro t ht
    rw [hlen] at ht
    rw [Nat.add_assoc]
    exact ⟨by show (w.cell? _).isSome = true; rw [(hH (i * 2 + t) (by omega)).1]; rfl, (hH (i * 2 + t) (by omega)).2⟩
  obtain ⟨W1, hW1⟩ : ∃ W1, W1 = w.drew.setCells b (off + i * 2) news := ⟨_, rfl⟩
  have hW1' : W1 = putRow id (Sort.ahead w 1) b off (lay d (i * 2) (d.toList.drop (j * 2))) := by
    rw [hW1, hnews, ← List.map_id (d.toList.drop (j * 2)), ← putRow_setCells id (Sort.ahead w 1) b off _ d (i * 2) (by simp; omega), putRow_self id (Sort.ahead w 1) b off d (holds_ahead id w 1 b off d hH)]
    simp
    rfl
  have hH1 : Holds id W1 b off (lay d (i * 2) (d.toList.drop (j * 2))) := by rw [hW1']; exact holds_putRow id _ b off d _ (holds_ahead id w 1 b off d hH) (lay_size _ _ _)
  have hcl : ∀ ty, (Builtin.clear_ #[38] ty #[.slice (some ⟨b, off + (i + (n - j)) * 2, none⟩) (n - (i + (n - j))) (cap - (i + (n - j)))]).run Try.prog W1 = .ok (.tuple #[]) (W1.setCells b (off + (i + (n - j)) * 2) [.int .i64 0, .slice none 0 0]) := by
    intro ty
    rw [show n - (i + (n - j)) = 1 by omega]
    exact run_clear_bunch W1 ty b _ _ (fun t ht => by rw [show off + (i + (n - j)) * 2 + t = off + ((i + (n - j)) * 2 + t) by omega, (hH1 _ (by rw [lay_size]; omega)).1]; rfl) (fun t ht => by rw [show off + (i + (n - j)) * 2 + t = off + ((i + (n - j)) * 2 + t) by omega]; exact (hH1 _ (by rw [lay_size]; omega)).2)
  have X : Aside (W1 = putRow id (Sort.ahead w 1) b off (lay d (i * 2) (d.toList.drop (j * 2)))) := hW1'
  have hW : Hid (W1 = w.drew.setCells b (off + i * 2) news) := hW1
  have hic : i ≤ cap := by omega
  have hjc : j ≤ cap := by omega
  have hjn : j ≤ n := by omega
  have hij : i ≤ j := by omega
  have heq : ¬ i = j := by omega
  have HJ := Lib.hid hj
  have mixed : Try.prog.follows Departure.mixedOrders = true := rfl
  obtain ⟨i0, hi0, hz2⟩ : ∃ i0, Try.prog.info? 42 = some i0 ∧ i0.size = 2 := ⟨_, rfl, rfl⟩
  clear hW1 hW1' hH1 hH hget hnews hlen hj
  go_enter Try.func28, Try.ntmps28
  go_wp2_with fail
  go_region_law_o (refine step_append_room rfl (.tmp 22) (.tmp 25) 38 rfl 42 i0 2 rfl hi0 hz2 b off i cap (by simp [Act.eval, Act.put]) A (n - j) (cap - j) news (by simp [Act.eval, Act.put]) s1.out hsrc.out s2.out (by omega) s3.out ?_; rw [← hW.out])
  go_wp2
  go_ret
  have hj := HJ.out
  refine ⟨by rw [show n - 1 = i + (n - j) by omega]; rfl, 1, ?_⟩
  have hda := delete_arrZ d (i * 2) (j * 2) [Value.int .i64 0, Value.slice none 0 0] (by simp; omega) (by omega) (by omega)
  rw [show i * 2 + (d.size - j * 2) = (i + (n - j)) * 2 by omega] at hda
  have hz : List.map id [Value.int .i64 0, Value.slice none 0 0] = [Value.int .i64 0, Value.slice none 0 0] := rfl
  rw [← hda, ← putRow_setCells id _ b off _ _ ((i + (n - j)) * 2) (by rw [lay_size]; simp; omega), ← X.out, hz]

end Go.Proofs.Ytcjgadepbbcjeaa
