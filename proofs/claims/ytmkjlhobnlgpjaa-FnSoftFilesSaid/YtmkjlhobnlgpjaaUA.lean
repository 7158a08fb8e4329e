/-
  Plain: bytes that are stored are read as what was stored; beginnings of such bytes.
  Conditions: valid ones.
-/
import Derived.Test.YtmkjlhobnlgpjaaTX
namespace Go.Proofs.Ytmkjlhobnlgpjaa
open Go.RowKit

theorem nB_str {L : List Int} (hL : ∀ x ∈ L, 0 ≤ x ∧ x < 256) (i : Nat) : nB (strOfNums L) i = (L.getD i 0).toNat := by
  unfold nB
  rw [strOfNums_data]
  by_cases h : i < L.length
  · have h1 := hL _ (List.getElem_mem h)
    have e1 : (L.map fun n => UInt8.ofNat n.toNat).getD i 0 = UInt8.ofNat (L[i]).toNat := by simp [List.getD, h]
    have e2 : L.getD i 0 = L[i] := by simp [List.getD, h]
    rw [e1, e2, UInt8.toNat_ofNat']
    omega
  · have e1 : (L.map fun n => UInt8.ofNat n.toNat).getD i 0 = 0 := by simp [List.getD, h]
    have e2 : L.getD i 0 = 0 := by simp [List.getD, h]
    rw [e1, e2]
    rfl
theorem getD_l {a b : List Int} {i : Nat} (h : i < a.length) : (a ++ b).getD i 0 = a.getD i 0 := by
  simp [List.getD, List.getElem?_append_left h]
theorem getD_r {a b : List Int} {i : Nat} (k : Nat) (h : i = a.length + k) : (a ++ b).getD i 0 = b.getD k 0 := by
  subst h
  simp [List.getD, List.getElem?_append_right]

theorem vld_parts {s : ByteArray} {bs : List Bool} {xs : List Nat} (h : vld (s, bs, xs) = true) : nameB s = true ∧ (s.size ≤ 8 ∧ 1 ≤ s.size) ∧ bs.length ≤ 160 ∧ xs.length ≤ 160 ∧ ∀ x ∈ xs, finB (fl .f32 x) = true := by
  have h1 : validSavedB s bs xs = true := h
  unfold validSavedB at h1
  rw [Bool.and_eq_true, Bool.and_eq_true] at h1
  obtain ⟨⟨h2, h3⟩, h4⟩ := h1
  have h5 := h2
  unfold nameB at h5
  rw [Bool.and_eq_true, Bool.and_eq_true] at h5
  unfold softB at h4
  rw [Bool.and_eq_true, List.all_eq_true] at h4
  exact ⟨h2, ⟨of_decide_eq_true h5.2.2, of_decide_eq_true h5.2.1⟩, of_decide_eq_true h3, of_decide_eq_true h4.1, h4.2⟩
theorem fin_nn {x : Nat} (h : finB (fl .f32 x) = true) : nanB .f32 x = false := by
  cases hn : nanB .f32 x
  · rfl
  · have e : fl .f32 x = none := by unfold fl; rw [hn]; rfl
    rw [e] at h
    exact absurd h (by decide)
theorem bitAt_pk : ∀ (bs : List Bool) (i k : Nat), k < 8 → bitAt (pkL bs i 8).toNat k = bs.getD (i + k) false := by
  intro bs i k hk
  have h : ∀ b0 b1 b2 b3 b4 b5 b6 b7 : Bool, ∀ k < 8, bitAt (0 + bI b0 * 2 ^ 0 + bI b1 * 2 ^ 1 + bI b2 * 2 ^ 2 + bI b3 * 2 ^ 3 + bI b4 * 2 ^ 4 + bI b5 * 2 ^ 5 + bI b6 * 2 ^ 6 + bI b7 * 2 ^ 7 : Int).toNat k = [b0, b1, b2, b3, b4, b5, b6, b7].getD k false := by decide +kernel
  have h1 := h (bs.getD (i + 0) false) (bs.getD (i + 1) false) (bs.getD (i + 2) false) (bs.getD (i + 3) false) (bs.getD (i + 4) false) (bs.getD (i + 5) false) (bs.getD (i + 6) false) (bs.getD (i + 7) false) k hk
  have e : pkL bs i 8 = 0 + bI (bs.getD (i + 0) false) * 2 ^ 0 + bI (bs.getD (i + 1) false) * 2 ^ 1 + bI (bs.getD (i + 2) false) * 2 ^ 2 + bI (bs.getD (i + 3) false) * 2 ^ 3 + bI (bs.getD (i + 4) false) * 2 ^ 4 + bI (bs.getD (i + 5) false) * 2 ^ 5 + bI (bs.getD (i + 6) false) * 2 ^ 6 + bI (bs.getD (i + 7) false) * 2 ^ 7 := rfl
  rw [e, h1]
  match k, hk with
  | 0, _ => rfl
  | 1, _ => rfl
  | 2, _ => rfl
  | 3, _ => rfl
  | 4, _ => rfl
  | 5, _ => rfl
  | 6, _ => rfl
  | 7, _ => rfl
theorem fours_get {xs : List Nat} {n j : Nat} (hn : n ≤ xs.length) (hj : j < n) (r : Nat) (hr : r < 4) : (fours xs n).getD (4 * j + r) 0 = (four (xs[j]'(by omega))).getD r 0 := by
  induction n with
  | zero => omega
  | succ n ih =>
    rw [fours_succ (by omega)]
    by_cases h : j < n
    · rw [getD_l (by rw [fours_len (by omega)]; omega), ih (by omega) h]
    · obtain rfl : j = n := by omega
      rw [getD_r r (by rw [fours_len (by omega)])]

section
variable {s : ByteArray} {bs : List Bool} {xs : List Nat}
theorem hd1_len : (hd1 s).length = 5 + s.size := by simp [hd1, nameL]; omega
theorem hd2_ln : (hd2 s bs).length = 5 + s.size + 1 := by unfold hd2; rw [List.length_append, hd1_len]; rfl
theorem hd3_ln : (hd3 s bs xs).length = 5 + s.size + 1 + (bs.length + 7) / 8 + 1 := by unfold hd3; rw [List.length_append, List.length_append, hd2_ln, pkBytes_len]; rfl
theorem store_by (h : vld (s, bs, xs) = true) (hw : ∀ x ∈ xs, x < 4294967296) : ∀ x ∈ storeN s bs xs, 0 ≤ x ∧ x < 256 := by
  obtain ⟨_, h1, h2, h3, h4⟩ := vld_parts h
  intro x hx
  have hc : 0 ≤ chkS (strOfNums (headL s bs xs)) ∧ chkS (strOfNums (headL s bs xs)) < 65003 := chkK_bd _ _
  unfold storeN at hx
  rw [List.mem_append] at hx
  rcases hx with hx | hx
  · simp only [headL, hd3, hd2, hd1, List.mem_append, List.mem_cons, List.not_mem_nil, or_false] at hx
    rcases hx with (((((h | h) | h) | h) | h) | h) | h
    · rcases h with rfl | rfl | rfl | rfl <;> decide
    · omega
    · unfold nameL at h
      obtain ⟨b, _, rfl⟩ := List.mem_map.1 h
      have := UInt8.toNat_lt b
      omega
    · omega
    · unfold pkBytes at h
      obtain ⟨j, _, rfl⟩ := List.mem_map.1 h
      have := pkL_bd bs (8 * j) 8
      omega
    · omega
    · unfold fours at h
      obtain ⟨y, hy, hx⟩ := List.mem_flatMap.1 h
      have hy2 : y ∈ xs := List.mem_of_mem_take hy
      have hc : canB y = y := can_nn (fin_nn (h4 y hy2))
      have := hw y hy2
      unfold four at hx
      rw [hc] at hx
      simp only [List.mem_cons, List.not_mem_nil, or_false] at hx
      omega
  · simp only [List.mem_cons, List.not_mem_nil, or_false] at hx
    omega
theorem st_get (h : vld (s, bs, xs) = true) (hw : ∀ x ∈ xs, x < 4294967296) (i : Nat) : nB (stS (s, bs, xs)) i = ((storeN s bs xs).getD i 0).toNat := nB_str (store_by h hw) i
theorem st_4 (h : vld (s, bs, xs) = true) (hw : ∀ x ∈ xs, x < 4294967296) : a1 (stS (s, bs, xs)) = 5 + s.size := by
  unfold a1
  rw [st_get h hw]
  have e : (storeN s bs xs).getD 4 0 = (s.size : Int) := by simp [storeN, headL, hd3, hd2, hd1]
  rw [e]
  omega
theorem st_m2 (h : vld (s, bs, xs) = true) (hw : ∀ x ∈ xs, x < 4294967296) : m2 (stS (s, bs, xs)) = bs.length := by
  unfold m2
  rw [st_4 h hw, st_get h hw]
  have e : (storeN s bs xs).getD (5 + s.size) 0 = (bs.length : Int) := by
    have e1 : storeN s bs xs = hd1 s ++ ((bs.length : Int) :: (pkBytes bs (chN 8 bs.length) ++ [(xs.length : Int)] ++ fours xs xs.length ++ [chkS (strOfNums (headL s bs xs)) % 256, chkS (strOfNums (headL s bs xs)) / 256])) := by
      simp [storeN, headL, hd3, hd2]
    rw [e1, getD_r 0 (by rw [hd1_len]; omega)]
    rfl
  rw [e]
  omega
theorem st_a3 (h : vld (s, bs, xs) = true) (hw : ∀ x ∈ xs, x < 4294967296) : a3 (stS (s, bs, xs)) = 5 + s.size + 1 + (bs.length + 7) / 8 := by
  unfold a3 a2
  rw [st_4 h hw, st_m2 h hw]
theorem chN_8 (n : Nat) : chN 8 n = (n + 7) / 8 := rfl
theorem st_m3 (h : vld (s, bs, xs) = true) (hw : ∀ x ∈ xs, x < 4294967296) : m3 (stS (s, bs, xs)) = xs.length := by
  unfold m3
  rw [st_a3 h hw, st_get h hw]
  have e : (storeN s bs xs).getD (5 + s.size + 1 + (bs.length + 7) / 8) 0 = (xs.length : Int) := by
    have e1 : storeN s bs xs = (hd2 s bs ++ pkBytes bs (chN 8 bs.length)) ++ ((xs.length : Int) :: (fours xs xs.length ++ [chkS (strOfNums (headL s bs xs)) % 256, chkS (strOfNums (headL s bs xs)) / 256])) := by
      simp [storeN, headL, hd3]
    rw [e1, getD_r 0 (by rw [List.length_append, hd2_ln, pkBytes_len, chN_8]; omega)]
    rfl
  rw [e]
  omega
theorem st_a5 (h : vld (s, bs, xs) = true) (hw : ∀ x ∈ xs, x < 4294967296) : a5 (stS (s, bs, xs)) + 2 = (stS (s, bs, xs)).size := by
  unfold a5 a4
  rw [st_a3 h hw, st_m3 h hw]
  show _ = (storeS s bs xs).size
  rw [stS_len]
  omega
theorem take_mid {A B C : List UInt8} {a b : Nat} (hA : A.length = a) (hB : B.length = b) : ((A ++ (B ++ C)).take (a + b)).drop a = B := by
  rw [← List.append_assoc, List.take_left' (by rw [List.length_append, hA, hB]), List.drop_left' hA]
theorem st_name : (stS (s, bs, xs)).extract 5 (5 + s.size) = s := by
  apply ByteArray.ext
  apply Array.ext'
  rw [extr_list']
  have e1 : (stS (s, bs, xs)).data.toList = (storeN s bs xs).map fun n => UInt8.ofNat n.toNat := strOfNums_data _
  have e2 : storeN s bs xs = [83, 70, 84, 49, (s.size : Int)] ++ (nameL s ++ ((bs.length : Int) :: (pkBytes bs (chN 8 bs.length) ++ [(xs.length : Int)] ++ fours xs xs.length ++ [chkS (strOfNums (headL s bs xs)) % 256, chkS (strOfNums (headL s bs xs)) / 256]))) := by
    simp [storeN, headL, hd3, hd2, hd1]
  have e3 : (nameL s).map (fun n => UInt8.ofNat n.toNat) = s.data.toList := by
    unfold nameL
    rw [List.map_map]
    conv => rhs; rw [← List.map_id s.data.toList]
    apply List.map_congr_left
    intro b _
    simp
  rw [e1, e2, List.map_append, List.map_append, e3]
  have hl2 : s.data.toList.length = s.size := Array.length_toList
  exact take_mid (by simp) hl2
theorem st_bits (h : vld (s, bs, xs) = true) (hw : ∀ x ∈ xs, x < 4294967296) : bitsP (stS (s, bs, xs)) (5 + s.size + 1) bs.length = bs := by
  apply List.ext_getElem
  · rw [bitsP_len]
  · intro i h1 h2
    simp only [bitsP, List.getElem_map, List.getElem_range]
    rw [st_get h hw]
    have e : (storeN s bs xs).getD (5 + s.size + 1 + i / 8) 0 = pkL bs (8 * (i / 8)) 8 := by
      have e1 : storeN s bs xs = hd2 s bs ++ (pkBytes bs (chN 8 bs.length) ++ ([(xs.length : Int)] ++ fours xs xs.length ++ [chkS (strOfNums (headL s bs xs)) % 256, chkS (strOfNums (headL s bs xs)) / 256])) := by
        simp [storeN, headL, hd3]
      have hlt : i / 8 < chN 8 bs.length := by rw [chN_8]; omega
      rw [e1, getD_r (i / 8) (by rw [hd2_ln]), getD_l (by rw [pkBytes_len]; exact hlt)]
      simp [pkBytes, List.getD, hlt]
    rw [e, bitAt_pk bs _ _ (by omega), Nat.div_add_mod]
    simp [List.getD, h2]
theorem st_soft (h : vld (s, bs, xs) = true) (hw : ∀ x ∈ xs, x < 4294967296) : softP (stS (s, bs, xs)) (5 + s.size + 1 + (bs.length + 7) / 8 + 1) xs.length = xs := by
  obtain ⟨_, _, _, _, h4⟩ := vld_parts h
  apply List.ext_getElem
  · rw [softP_len]
  · intro j h1 h2
    simp only [softP, List.getElem_map, List.getElem_range]
    have hx := List.getElem_mem h2
    have hc : canB xs[j] = xs[j] := can_nn (fin_nn (h4 _ hx))
    have hb := hw _ hx
    have e1 : storeN s bs xs = hd3 s bs xs ++ (fours xs xs.length ++ [chkS (strOfNums (headL s bs xs)) % 256, chkS (strOfNums (headL s bs xs)) / 256]) := by
      simp [storeN, headL]
    have hg : ∀ r, r < 4 → nB (stS (s, bs, xs)) (5 + s.size + 1 + (bs.length + 7) / 8 + 1 + 4 * j + r) = ((four xs[j]).getD r 0).toNat := fun r hr => by
      rw [st_get h hw, e1, getD_r (4 * j + r) (by rw [hd3_ln]; omega), getD_l (by rw [fours_len (Nat.le_refl _)]; omega), fours_get (Nat.le_refl _) h2 r hr]
    have g0 := hg 0 (by decide)
    have g1 := hg 1 (by decide)
    have g2 := hg 2 (by decide)
    have g3 := hg 3 (by decide)
    unfold w4
    rw [Nat.add_zero] at g0
    rw [g0, g1, g2, g3]
    unfold four
    rw [hc]
    generalize xs[j] = x at hb
    simp only [List.getD_cons_zero, List.getD_cons_succ]
    omega
theorem st_parse (h : vld (s, bs, xs) = true) (hw : ∀ x ∈ xs, x < 4294967296) : parseD (stS (s, bs, xs)) = (s, bs, xs) := by
  unfold parseD a4 a2
  rw [st_a3 h hw, st_4 h hw, st_m2 h hw, st_m3 h hw, st_name, st_bits h hw, st_soft h hw]
end
/-! ### beginnings -/
theorem a5_ge (s : ByteArray) : 7 ≤ a5 s ∧ a1 s < a3 s ∧ a3 s < a5 s ∧ a1 s + 1 = a2 s ∧ a2 s + (m2 s + 7) / 8 = a3 s ∧ a4 s = a3 s + 1 ∧ a5 s = a4 s + 4 * m3 s ∧ 5 ≤ a1 s := by
  unfold a5 a4 a3 a2 a1
  omega
theorem parse_pre {S t : ByteArray} (hz : a5 S + 2 ≤ S.size) (hp : t.extract 0 S.size = S) (_hs : S.size ≤ t.size) : a5 t = a5 S ∧ parseD t = parseD S := by
  have hb : ∀ i, i < S.size → nB t i = nB S i := fun i hi => by
    have h := nB_extract (s := t) (a := 0) (b := S.size) (i := i) (by rw [hp]; exact hi)
    rw [hp, Nat.zero_add] at h
    exact h.symm
  obtain ⟨g1, g2, g3, g4, g5, g6, g7, g8⟩ := a5_ge S
  have e1 : a1 t = a1 S := by unfold a1; rw [hb 4 (by omega)]
  have e2 : m2 t = m2 S := by unfold m2; rw [e1, hb _ (by omega)]
  have e3 : a3 t = a3 S := by unfold a3 a2; rw [e1, e2]
  have e4 : m3 t = m3 S := by unfold m3; rw [e3, hb _ (by omega)]
  have e5 : a4 t = a4 S := by unfold a4; rw [e3]
  have e6 : a2 t = a2 S := by unfold a2; rw [e1]
  have e7 : a5 t = a5 S := by unfold a5; rw [e5, e4]
  refine ⟨e7, ?_⟩
  unfold parseD
  rw [e1, e2, e4, e5, e6]
  congr 1
  · have h : S.extract 5 (a1 S) = (t.extract 0 S.size).extract 5 (a1 S) := by rw [hp]
    rw [h]
    apply ByteArray.ext
    simp only [ByteArray.data_extract, Array.extract_extract]
    congr 1
    omega
  · congr 1
    · unfold bitsP
      apply List.map_congr_left
      intro i hi
      rw [List.mem_range] at hi
      rw [hb _ (by omega)]
    · unfold softP
      apply List.map_congr_left
      intro i hi
      rw [List.mem_range] at hi
      unfold w4
      rw [hb _ (by omega), hb _ (by omega), hb _ (by omega), hb _ (by omega)]
/-- a valid one, its numbers words -/
def Gd (d : SavD) : Prop := vld d = true ∧ ∀ x ∈ d.2.2, x < 4294967296
theorem Gd.a5 {d : SavD} (h : Gd d) : a5 (stS d) + 2 = (stS d).size := st_a5 h.1 h.2
theorem Gd.parse {d : SavD} (h : Gd d) : parseD (stS d) = d := st_parse h.1 h.2
theorem begin_pre {d : SavD} (h : Gd d) {t : ByteArray} (hp : t.extract 0 (stS d).size = stS d) (hs : (stS d).size ≤ t.size) : beginB t = true ∧ a5 t + 2 = (stS d).size ∧ parseD t = d := by
  obtain ⟨e1, e2⟩ := parse_pre (Nat.le_of_eq h.a5) hp hs
  have e3 : a5 t + 2 = (stS d).size := by rw [e1]; exact h.a5
  have e4 : parseD t = d := by rw [e2]; exact h.parse
  refine ⟨?_, e3, e4⟩
  rw [begin_is e4 e3 hs, h.1, hp]
  simp
theorem begin_short {d : SavD} (h : Gd d) {c : Nat} (hc : c < (stS d).size) : beginB ((stS d).extract 0 c) = false := by
  cases hb : beginB ((stS d).extract 0 c)
  · rfl
  · have hz := begin_size hb
    have hl : ((stS d).extract 0 c).size = c := by simp [ByteArray.size_extract]; omega
    have h1 := (parse_pre (t := stS d) hz (by rw [hl]) (by rw [hl]; omega)).1
    have h2 := h.a5
    omega
theorem rec_short {d : SavD} (h : Gd d) {c : Nat} (hc : c < (stS d).size) (f : Nat) : recF f ((stS d).extract 0 c) = ([], 0) := by
  cases f with
  | zero => rfl
  | succ f => unfold recF; rw [begin_short h hc]; rfl
theorem nil_app (a : ByteArray) : (⟨#[]⟩ : ByteArray) ++ a = a := by
  show ByteArray.empty ++ a = a
  simp
theorem app_nil (a : ByteArray) : a ++ (⟨#[]⟩ : ByteArray) = a := by
  show a ++ ByteArray.empty = a
  simp
theorem recF_succ (f : Nat) (s : ByteArray) : recF (f + 1) s = if beginB s then (parseD s :: (recF f (s.extract (a5 s + 2) s.size)).1, a5 s + 2 + (recF f (s.extract (a5 s + 2) s.size)).2) else ([], 0) := rfl
theorem catS_nil : catS [] = ⟨#[]⟩ := rfl
theorem cat_fold (ds : List SavD) : ∀ a : ByteArray, ds.foldl (fun a d => a ++ stS d) a = a ++ catS ds := by
  induction ds with
  | nil => intro a; rw [catS_nil, app_nil]; rfl
  | cons d ds ih =>
    intro a
    unfold catS
    rw [List.foldl_cons, List.foldl_cons, ih, ih (⟨#[]⟩ ++ stS d), ByteArray.append_assoc, nil_app]
theorem catS_cons (d : SavD) (ds : List SavD) : catS (d :: ds) = stS d ++ catS ds := by
  have h := cat_fold ds (⟨#[]⟩ ++ stS d)
  unfold catS at h ⊢
  rw [List.foldl_cons, h, nil_app]
theorem catS_app (a b : List SavD) : catS (a ++ b) = catS a ++ catS b := by
  have h := cat_fold b (catS a)
  unfold catS at h ⊢
  rw [List.foldl_append, h]
theorem ext_left (a b : ByteArray) : (a ++ b).extract 0 a.size = a := by
  apply ByteArray.ext
  rw [ByteArray.data_extract, ByteArray.data_append]
  show (a.data ++ b.data).extract 0 a.data.size = a.data
  simp
theorem ext_right (a b : ByteArray) : (a ++ b).extract a.size (a ++ b).size = b := by
  apply ByteArray.ext
  rw [ByteArray.data_extract, ByteArray.data_append, ByteArray.size_append]
  show (a.data ++ b.data).extract a.data.size (a.data.size + b.data.size) = b.data
  apply Array.ext'
  simp only [Array.toList_append, Array.toList_extract, List.extract_eq_take_drop]
  rw [← Array.length_toList, List.drop_left' rfl, List.take_of_length_le (by rw [Array.length_toList]; omega)]
theorem ext_join (s : ByteArray) {p q : Nat} (hp : p + q ≤ s.size) : s.extract 0 p ++ (s.extract p s.size).extract 0 q = s.extract 0 (p + q) := by
  apply ByteArray.ext
  apply Array.ext'
  simp only [ByteArray.data_append, ByteArray.data_extract, Array.toList_append, Array.toList_extract, List.extract_eq_take_drop]
  have hl : s.data.toList.length = s.size := Array.length_toList
  simp only [Nat.sub_zero, List.drop_zero, List.take_take]
  rw [← hl] at hp ⊢
  rw [show min q (s.data.toList.length - p) = q by omega, ← List.take_add]
theorem rec_cat : ∀ (ds : List SavD) (rest : ByteArray) (f : Nat), (∀ d ∈ ds, Gd d) → ds.length ≤ f → recF f (catS ds ++ rest) = (ds ++ (recF (f - ds.length) rest).1, (catS ds).size + (recF (f - ds.length) rest).2)
  | [], rest, f, _, _ => by rw [catS_nil, nil_app]; exact Prod.ext rfl (Nat.zero_add _).symm
  | d :: ds, rest, 0, _, hf => by simp at hf
  | d :: ds, rest, f + 1, h, hf => by
    have hg := h d List.mem_cons_self
    rw [catS_cons, ByteArray.append_assoc]
    obtain ⟨h1, h2, h3⟩ := begin_pre hg (t := stS d ++ (catS ds ++ rest)) (ext_left _ _) (by rw [ByteArray.size_append]; omega)
    rw [recF_succ, h1, h2, h3, ext_right]
    simp only [if_true]
    rw [rec_cat ds rest f (fun d hd => h d (List.mem_cons_of_mem _ hd)) (by simpa using hf), show f + 1 - (d :: ds).length = f - ds.length by simp]
    refine Prod.ext rfl ?_
    simp only [ByteArray.size_append]
    omega
theorem rec_is : ∀ (f : Nat) (s : ByteArray), catS (recF f s).1 = s.extract 0 (recF f s).2 ∧ (recF f s).2 ≤ s.size
  | 0, s => ⟨by simp only [recF]; rw [catS_nil]; simp; rfl, Nat.zero_le _⟩
  | f + 1, s => by
    rw [recF_succ]
    split
    · rename_i hb
      have hz := begin_size hb
      obtain ⟨h1, h2⟩ := rec_is f (s.extract (a5 s + 2) s.size)
      rw [tail_size] at h2
      have h3 : stS (parseD s) = s.extract 0 (a5 s + 2) := by
        unfold beginB at hb
        rw [Bool.and_eq_true, Bool.and_eq_true] at hb
        exact of_decide_eq_true hb.2.2
      refine ⟨?_, by omega⟩
      simp only []
      rw [catS_cons, h1, h3]
      exact ext_join s (by omega)
    · exact ⟨by rw [catS_nil]; simp; rfl, Nat.zero_le _⟩

end Go.Proofs.Ytmkjlhobnlgpjaa
