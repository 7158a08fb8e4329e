/-
  Plain: bytes of stored ones that are cut or bent.
  Conditions: as each theorem says.
-/
import Derived.Test.YtmkjlhobnlgpjaaUC
import Derived.Test.YtmkjlhobnlgpjaaWRecoverAll
namespace Go.Proofs.Ytmkjlhobnlgpjaa
open Go.RowKit

theorem recF_wf : ∀ (f : Nat) (s : ByteArray), ∀ d ∈ (recF f s).1, ∀ x ∈ d.2.2, x < 4294967296
  | 0, _, d, h => by cases h
  | f + 1, s, d, h => by
    rw [recF_succ] at h
    split at h
    · rcases List.mem_cons.1 h with rfl | h
      · exact softP_lt _ _ _
      · exact recF_wf f _ d h
    · cases h
theorem load_st {d : SavD} (h : Gd d) : loadB (stS d) = true ∧ loadD (stS d) = d := by
  obtain ⟨h1, h2, h3⟩ := begin_pre h (t := stS d) (by simp) (Nat.le_refl _)
  have hb : loadB (stS d) = true := by unfold loadB; rw [h1, decide_eq_true h2]; rfl
  exact ⟨hb, by unfold loadD; rw [hb]; exact h3⟩
/-- how far the first k reach -/
def endN (ds : List SavD) (k : Nat) : Nat := (catS (ds.take k)).size
def endsL (ds : List SavD) (k : Nat) : List Int := (List.range (k + 1)).map fun j => (endN ds j : Int)
theorem endsL_len (ds : List SavD) (k : Nat) : (endsL ds k).length = k + 1 := by simp [endsL]
theorem endsL_succ (ds : List SavD) (k : Nat) : endsL ds (k + 1) = endsL ds k ++ [(endN ds (k + 1) : Int)] := by simp [endsL, List.range_succ]
theorem endsL_get (ds : List SavD) {k j : Nat} (h : j ≤ k) : (endsL ds k)[j]? = some (endN ds j : Int) := by
  have : j < k + 1 := by omega
  simp [endsL, this]
theorem endN_zero (ds : List SavD) : endN ds 0 = 0 := rfl
theorem endN_succ {ds : List SavD} {k : Nat} (h : k < ds.length) : endN ds (k + 1) = endN ds k + (stS ds[k]).size := by
  unfold endN
  rw [List.take_succ_eq_append_getElem h, catS_snoc, ByteArray.size_append]
theorem endN_all {ds : List SavD} : endN ds ds.length = (catS ds).size := by unfold endN; rw [List.take_length]
theorem endN_le {ds : List SavD} (hg : ∀ d ∈ ds, Gd d) (k : Nat) : endN ds k ≤ 700 * ds.length := by
  have h := catS_size (ds := ds.take k) fun d hd => (hg d (List.mem_of_mem_take hd)).1
  have h2 : (ds.take k).length ≤ ds.length := by rw [List.length_take]; omega
  unfold endN
  omega
theorem ext_app (a b : ByteArray) {c : Nat} (h : a.size ≤ c) : (a ++ b).extract 0 c = a ++ b.extract 0 (c - a.size) := by
  apply ByteArray.ext
  apply Array.ext'
  simp only [ByteArray.data_append, ByteArray.data_extract, Array.toList_append, Array.toList_extract, List.extract_eq_take_drop, List.drop_zero, Nat.sub_zero]
  have hl : a.data.toList.length = a.size := Array.length_toList
  rw [List.take_append, hl, List.take_of_length_le (by omega)]
theorem ext_in (a b : ByteArray) {c : Nat} (h : c ≤ a.size) : (a ++ b).extract 0 c = a.extract 0 c := by
  apply ByteArray.ext
  apply Array.ext'
  simp only [ByteArray.data_append, ByteArray.data_extract, Array.toList_append, Array.toList_extract, List.extract_eq_take_drop, List.drop_zero, Nat.sub_zero]
  have hl : a.data.toList.length = a.size := Array.length_toList
  rw [List.take_append_of_le_length (by omega)]
/-- what is recovered of the beginning -/
theorem cut_rec {ds : List SavD} (hg : ∀ d ∈ ds, Gd d) (hl : ds.length ≤ 8) {k c : Nat} (hk : k ≤ ds.length) (h1 : endN ds k ≤ c) (h2 : k < ds.length → c < endN ds (k + 1)) (hc : c < (catS ds).size) :
    recF 8 ((catS ds).extract 0 c) = (ds.take k, endN ds k) := by
  have hlt : k < ds.length := by
    rcases Nat.lt_or_ge k ds.length with h | h
    · exact h
    · obtain rfl : k = ds.length := by omega
      rw [endN_all] at h1
      omega
  have h3 := h2 hlt
  rw [endN_succ hlt] at h3
  have hd : ds = ds.take k ++ ds[k] :: ds.drop (k + 1) := by rw [List.getElem_cons_drop, List.take_append_drop]
  have hs : catS ds = catS (ds.take k) ++ (stS ds[k] ++ catS (ds.drop (k + 1))) := by
    conv => lhs; rw [hd]
    rw [catS_app, catS_cons]
  have hez : (catS (ds.take k)).size = endN ds k := rfl
  rw [hs, ext_app _ _ (by rw [hez]; exact h1), ext_in _ _ (by rw [hez]; omega), hez, rec_cat (ds.take k) _ 8 (fun d hd => hg d (List.mem_of_mem_take hd)) (by rw [List.length_take]; omega), rec_short (hg _ (List.getElem_mem hlt)) (by omega)]
  simp [hez]
theorem nums_back (s : ByteArray) : strOfNums (nameL s) = s := by
  apply ByteArray.ext
  apply Array.ext'
  rw [strOfNums_data]
  unfold nameL
  rw [List.map_map]
  conv => rhs; rw [← List.map_id s.data.toList]
  apply List.map_congr_left
  intro b _
  simp
theorem nums_take (L : List Int) (k : Nat) : (strOfNums L).extract 0 k = strOfNums (L.take k) := by
  apply ByteArray.ext
  apply Array.ext'
  simp only [ByteArray.data_extract, Array.toList_extract, List.extract_eq_take_drop, List.drop_zero, Nat.sub_zero]
  rw [strOfNums_data, strOfNums_data, List.map_take]
/-- of bytes of which one is another one, at least those before it are recovered -/
theorem bent_rec {ds : List SavD} (hg : ∀ d ∈ ds, Gd d) (hl : ds.length ≤ 8) {k c : Nat} (hk : k ≤ ds.length) (h1 : endN ds k ≤ c) (v : Int) :
    k ≤ (recF 8 (strOfNums ((nameL (catS ds)).set c v))).1.length := by
  have hs : catS ds = catS (ds.take k) ++ catS (ds.drop k) := by rw [← catS_app, List.take_append_drop]
  have hez : (catS (ds.take k)).size = endN ds k := rfl
  obtain ⟨B, hB⟩ : ∃ B, strOfNums ((nameL (catS ds)).set c v) = B := ⟨_, rfl⟩
  have hp : B.extract 0 (endN ds k) = catS (ds.take k) := by
    rw [← hB, nums_take, List.take_set_of_le h1, ← nums_take, nums_back, hs, ← hez, ext_left]
  have hz : endN ds k ≤ B.size := by
    rw [← hB, strOfNums_size, List.length_set, nameL_len, hs, ByteArray.size_append, hez]
    omega
  have hj := ext_join B (p := endN ds k) (q := B.size - endN ds k) (by omega)
  rw [show endN ds k + (B.size - endN ds k) = B.size by omega, hp] at hj
  have hB2 : B = catS (ds.take k) ++ (B.extract (endN ds k) B.size).extract 0 (B.size - endN ds k) := by rw [hj]; simp
  rw [hB, hB2, rec_cat (ds.take k) _ 8 (fun d hd => hg d (List.mem_of_mem_take hd)) (by rw [List.length_take]; omega)]
  simp
  omega
theorem rec_all {ds : List SavD} (hg : ∀ d ∈ ds, Gd d) (hl : ds.length ≤ 8) : recF 8 (catS ds) = (ds, (catS ds).size) := by
  have h := rec_cat ds ⟨#[]⟩ 8 hg hl
  rw [app_nil] at h
  rw [h]
  have : ∀ f, recF f (⟨#[]⟩ : ByteArray) = ([], 0) := by
    intro f
    cases f with
    | zero => rfl
    | succ f =>
      rw [recF_succ]
      have hb : beginB (⟨#[]⟩ : ByteArray) = false := by
        cases hb : beginB (⟨#[]⟩ : ByteArray)
        · rfl
        · have := begin_size hb
          have h0 : (⟨#[]⟩ : ByteArray).size = 0 := rfl
          omega
      rw [hb]
      rfl
  rw [this]
  simp
theorem all_good {ds : List SavD} (hg : ∀ d ∈ ds, vld d = true) (hl : ds.length ≤ 8) : allB ds = true ∧ allS ds = catS ds := by
  have h : allB ds = true := by
    unfold allB
    rw [decide_eq_true hl, List.all_eq_true.2 hg]
    rfl
  exact ⟨h, allS_yes h⟩
theorem slS_one {w : World} {g B : Nat} {r : SavH} (h : w.heap[g]? = some (.cells #[.string r.s, .slice r.A r.bs.length r.c, .slice r.A2 r.xs.length r.c2] 35 (0, 0))) (hg : g < B) (h1 : Sl w B r.A (r.bs.map Value.bool)) (h2 : Sl w B r.A2 (r.xs.map (Value.float .f32))) : SlS w B (some ⟨g, 0, none⟩) [r] := by
  refine ⟨.inr ⟨g, 0, rfl, hg, fun j u hu => ?_⟩, fun y hy => ?_⟩
  · rw [Nat.zero_add]
    exact sav_cells h j u (by simpa [savCells] using hu)
  · obtain rfl : y = r := by simpa using hy
    exact ⟨h1, h2⟩
theorem same_self (ds : List SavD) : sameS ds ds = true := by unfold sameS; simp

end Go.Proofs.Ytmkjlhobnlgpjaa
