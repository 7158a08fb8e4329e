/-
  Contracts: texts of lists of numbers, of both.
  Conditions: at most 64 numbers from 0 to 1000000000; the table of the powers of ten lies there.
-/
import Derived.Test.YthccklkonfappaaDoorDC
import Derived.Test.YthccklkonfappaaDoorCB
namespace Go.Proofs.YthccklkonfappaaDoor
open Go.RowKit

theorem dec_len (n : Nat) : (Lib.decDigits n).length ≤ n + 1 := by
  induction n using Nat.strongRecOn with
  | _ n ih =>
    rw [Lib.decDigits]
    split
    · simp
    · rename_i h
      have := ih (n / 10) (by omega)
      rw [List.length_append]
      simp only [List.length_singleton]
      omega
theorem decS_size (n : Nat) : (decS n).size ≤ n + 1 := by
  show (Lib.decDigits n).toArray.size ≤ _
  rw [List.size_toArray]
  exact dec_len n
theorem decS_list (n : Nat) : (decS n).data.toList = Lib.decDigits n := rfl
/-- the texts of numbers -/
def decL (xs : List Int) : List ByteArray := xs.map fun x => decS x.toNat
theorem decL_len (xs : List Int) : (decL xs).length = xs.length := List.length_map _
/-- texts with commas between them -/
def comS (ts : List ByteArray) : ByteArray := if ts = [] then ⟨#[110, 111, 110, 101]⟩ else ⟨(Lib.join (ts.map (·.data.toList)) [44]).toArray⟩
def lisS (xs : List Int) : ByteArray := comS (decL xs)
theorem comS_one (t : ByteArray) : comS [t] = t := by
  unfold comS
  rw [if_neg (by simp)]
  simp [Lib.join_one]
theorem comS_snoc {ts : List ByteArray} (h : ts ≠ []) (t : ByteArray) : comS (ts ++ [t]) = comS ts ++ (⟨#[44]⟩ ++ t) := by
  unfold comS
  rw [if_neg (by simp), if_neg h]
  apply ByteArray.ext
  apply Array.ext'
  cases ts with
  | nil => exact absurd rfl h
  | cons a ts =>
    simp [Lib.join_cons, Lib.joinTail]
theorem lens_bd (B : Nat) : ∀ xs : List (List UInt8), (∀ x ∈ xs, x.length ≤ B) → Lib.lens xs ≤ B * xs.length
  | [], _ => Nat.le_refl _
  | x :: xs, h => by
    have h1 := lens_bd B xs fun y hy => h y (List.mem_cons_of_mem _ hy)
    have h2 := h x List.mem_cons_self
    have e : Lib.lens (x :: xs) = x.length + Lib.lens xs := by simp [Lib.lens]
    rw [e, List.length_cons, Nat.mul_succ]
    omega
theorem com_len (ts : List ByteArray) (h : ∀ t ∈ ts, t.size ≤ 1000000001) : (comS ts).size ≤ 4 + 1000000002 * ts.length := by
  unfold comS
  split
  · simp [ByteArray.size]
  · cases ts with
    | nil => simp at *
    | cons t ts =>
      show (Lib.join ((t :: ts).map (·.data.toList)) [44]).toArray.size ≤ _
      rw [List.size_toArray, List.map_cons, Lib.join_length, ← List.map_cons (f := fun x : ByteArray => x.data.toList)]
      have h1 := lens_bd 1000000001 ((t :: ts).map (fun x : ByteArray => x.data.toList)) (fun x hx => by
        obtain ⟨y, hy, rfl⟩ := List.mem_map.1 hx
        have e : y.data.toList.length = y.size := Array.length_toList
        rw [e]
        exact h y hy)
      simp only [List.length_map, List.length_cons, List.length_nil] at h1 ⊢
      omega

theorem own_capD {w : World} {base n cap : Nat} {e : TypeId} {A : Option Addr} {xs : List Value} (h : w.ownsRow base e 1 (.slice A n cap) n xs) : n ≤ cap := by
  rcases h.2 with ⟨he, h0⟩ | ⟨g1, c1, cur, he, _, _, hc1, _⟩
  · omega
  · injection he with _ _ he3
    omega


theorem impl_joined_c (w : World) (base : Nat) (A : Option Addr) (n cap : Nat) (ts : List ByteArray) (hl : ts.length = n) (hn : n ≤ 64) (hs : ∀ t ∈ ts, t.size ≤ 1000000001) (ho : w.ownsRow base 9 1 (.slice A n cap) n (ts.map Value.string)) :
    Calls Tryd.prog 58 #[.slice A n cap] w fun e w' => e = .returned (.string (comS ts)) ∧ Below w.heap.size w w' := by
  by_cases h0 : n = 0
  · subst h0
    have : ts = [] := List.eq_nil_of_length_eq_zero hl
    subst this
    go_enter Tryd.func58, Tryd.ntmps58
    go_wp2
    go_ret
    exact ⟨rfl, Below.refl _ _⟩
  · obtain ⟨g, c', hv, hbg, hgs⟩ := ho.form (by omega)
    injection hv with hv hv2 hv3
    subst hv hv3
    have hne : ts ≠ [] := by intro h; subst h; exact h0 hl.symm
    have hcs := com_len ts hs
    have hcomm : comS ts = ⟨(Lib.join (ts.map (·.data.toList)) [44]).toArray⟩ := by unfold comS; rw [if_neg hne]
    have hjl : (Lib.join (ts.map (·.data.toList)) [44]).length ≤ 140737488355328 := by
      rw [hcomm] at hcs
      have h1 : (⟨(Lib.join (ts.map (·.data.toList)) [44]).toArray⟩ : ByteArray).size = (Lib.join (ts.map (·.data.toList)) [44]).length := List.size_toArray
      rw [h1] at hcs
      omega
    have hJ := Tryd.strings_Join g 0 cap ts ⟨#[44]⟩ w (fun j x hx => by
      rw [World.ownsRow.cellAt ho (0 + j) (by have := (List.getElem?_eq_some_iff.1 hx).1; omega), Nat.zero_add, List.getElem?_map, hx]
      rfl) (by have := (own_in ho) g rfl; omega) (by omega) (by rw [hl]; exact own_capD ho) hjl
    rw [hl, ← hcomm] at hJ
    have HJ := Lib.hid hJ
    have hk0 : ((n : Int) == 0) = false := by rw [beq_eq_false_iff_ne]; omega
    clear hJ hjl hcs hcomm hne ho hs hl
    go_enter Tryd.func58, Tryd.ntmps58
    go_wp2_with fail
    refine HJ.out.mono ?_
    rintro e w' ⟨rfl, hb⟩
    go_wp2
    go_ret
    exact ⟨rfl, hb⟩

theorem infoStr : (Tryd.prog.info? 9).map (fun i => (i.zero, i.size, i.bytes)) = some (some (.string ByteArray.empty), 1, 16) := by kernel_rfl
/-- numbers from 0 to 1000000000 -/
def numsOk (xs : List Int) : Prop := ∀ x ∈ xs, 0 ≤ x ∧ x ≤ 1000000000
theorem decL_snoc {xs : List Int} {k : Nat} (h : k < xs.length) : decL (xs.take (k + 1)) = decL (xs.take k) ++ [decS (xs[k]).toNat] := by
  unfold decL
  rw [List.take_succ_eq_append_getElem h, List.map_append]
  rfl
theorem decL_small {xs : List Int} (h : numsOk xs) : ∀ t ∈ decL xs, t.size ≤ 1000000001 := by
  intro t ht
  obtain ⟨x, hx, rfl⟩ := List.mem_map.1 ht
  have h1 := decS_size x.toNat
  have h2 := h x hx
  omega


set_option maxRecDepth 100000 in
set_option maxHeartbeats 1000000 in
theorem impl_listText_c (w : World) (A : Option Addr) (n cap : Nat) (xs : List Int) (hl : xs.length = n) (hn : n ≤ 64) (hok : numsOk xs) (hx : Sl w w.heap.size A (xs.map (Value.int .i64))) (ht : Tab w) :
    Calls Tryd.prog 37 #[.slice A n cap] w fun e w' => e = .returned (.string (lisS xs)) ∧ Below w.heap.size w w' := by
  have HOK := Lib.hid hok
  have HT := Lib.hid ht
  clear hok ht
  go_enter Tryd.func37, Tryd.ntmps37
  go_wp2
  go_loopw [3, 9] (fun v i wr => ∃ k : Nat, k ≤ n ∧ i = .int .i64 k ∧ Hid (Ow wr w.heap.size 9 v ((decL (xs.take k)).map Value.string)) ∧ Below w.heap.size w wr) (fun _ i _ => n - (intOf i).toNat)
  case atStart => exact ⟨0, Nat.zero_le _, rfl, Lib.hid (own_empty _ _ _ (Nat.le_refl _)), (Below.refl _ _).alloc (Nat.le_refl _) _⟩
  case round =>
    obtain ⟨k, hk, rfl, HO, hb⟩ := hrel
    have hz := hb.size
    by_cases hlt : k < n
    · obtain ⟨b, off, rfl, hbb, hc⟩ := (hx.below hb).get k (by omega)
      have hmem := HOK.out _ (List.getElem_mem (l := xs) (n := k) (by omega))
      have hst := decL_snoc (xs := xs) (k := k) (by omega)
      generalize xs[k]'(by omega) = x at hc hmem hst
      obtain ⟨m, rfl⟩ : ∃ m : Nat, x = (m : Int) := ⟨x.toNat, by omega⟩
      rw [Int.toNat_natCast] at hst
      have hln : ((decL (xs.take k)).map Value.string).length + 1 ≤ 1099511627776 := by rw [List.length_map, decL_len, List.length_take]; omega
      have HD := Lib.hid (impl_Decimal_c wr m (by omega) (HT.out.below hb (Nat.le_refl _)))
      have HST := Lib.hid hst
      clear hst hx
      go_wp2_with (first
        | (go_at_call 36; refine HD.out.mono ?_; rintro e w1 ⟨rfl, hb1⟩; have hz1 := hb1.size; have ho1 := own_below HO.out hb1 (Nat.le_refl _))
        | (at_builtin; go_must (refine app1 Tryd.underlying40 infoStr rfl (by decide) rfl _ _ rfl w.heap.size _ _ rfl (World.ownsRow.alloc ho1 _) _ _ _ rfl (cell_new1 _ _ _) rfl hln (by simp; omega) ?_); intro v' w2 ho2 hb2))
      go_roundw
      case rel =>
        refine ⟨k + 1, by omega, by go_num, Lib.hid ?_, ((hb.trans (hb1.mono hz)).alloc (by omega) _).trans hb2⟩
        rw [HST.out, List.map_append]
        exact ho2
      case measure => simp [intOf]; omega
    · obtain rfl : k = n := by omega
      have ho := HO.out
      rw [List.take_of_length_le (by omega)] at ho
      obtain ⟨A', cap', rfl, hp⟩ := ho.opn
      rw [decL_len, hl] at hp ⊢
      have HJ := Lib.hid (impl_joined_c wr w.heap.size A' k cap' (decL xs) (by rw [decL_len, hl]) hn (decL_small HOK.out) hp)
      clear ho hp HO
      go_wp2_with fail
      refine HJ.out.mono ?_
      rintro e w1 ⟨rfl, hb1⟩
      go_wp2
      go_ret
      exact ⟨rfl, hb.trans (hb1.mono hz)⟩


theorem impl_isValue_c (w : World) (x : Int) (h0 : 0 ≤ x) (h1 : x ≤ 1000000000) : Calls Tryd.prog 65 #[.int .i64 x] w fun e w' => e = .returned (.bool true) ∧ w = w' := by
  have hi : inB x (-1000000000000000) 1000000000000000 = true := inB_true.2 (by omega)
  have hw := impl_within_c w x (-1000000000000000) 1000000000000000
  rw [hi] at hw
  go_enter Tryd.func65, Tryd.ntmps65
  go_wp2_with fail
  refine hw.mono ?_
  rintro e w' ⟨rfl, rfl⟩
  go_wp2
  go_ret
  exact ⟨rfl, rfl⟩
theorem impl_areValues_c (w : World) (A : Option Addr) (n cap : Nat) (xs : List Int) (hl : xs.length = n) (hn : n ≤ 64) (hok : numsOk xs) (hx : Sl w w.heap.size A (xs.map (Value.int .i64))) :
    Calls Tryd.prog 52 #[.slice A n cap] w fun e w' => e = .returned (.bool true) ∧ w = w' := by
  have HOK := Lib.hid hok
  clear hok
  go_enter Tryd.func52, Tryd.ntmps52
  go_wp2
  go_loop [7] (fun i => ∃ k : Nat, k ≤ n ∧ i = .int .i64 k) (fun i => n - (intOf i).toNat)
  case atStart => exact ⟨0, Nat.zero_le _, rfl⟩
  case round =>
    obtain ⟨k, hk, rfl⟩ := hrel
    by_cases hlt : k < n
    · obtain ⟨b, off, rfl, hbb, hc⟩ := hx.get k (by omega)
      have hmem := HOK.out _ (List.getElem_mem (l := xs) (n := k) (by omega))
      generalize xs[k]'(by omega) = x at hc hmem
      obtain ⟨h0, h1⟩ := hmem
      clear hx
      go_wp2_with (go_at_call 65; refine (impl_isValue_c w x h0 h1).mono ?_; rintro e w' ⟨rfl, rfl⟩)
      go_round
      case rel => exact ⟨k + 1, by omega, by go_num⟩
      case measure => simp [intOf]; omega
    · obtain rfl : k = n := by omega
      go_wp2
      go_ret
      exact ⟨by rw [decide_eq_true (by omega)]; rfl, rfl⟩
theorem impl_ListText_c (w : World) (A : Option Addr) (n cap : Nat) (xs : List Int) (hl : xs.length = n) (hn : n ≤ 64) (hok : numsOk xs) (hx : Sl w w.heap.size A (xs.map (Value.int .i64))) (ht : Tab w) :
    Calls Tryd.prog 31 #[.slice A n cap] w fun e w' => e = .returned (.tuple #[.string (lisS xs), .bool true]) ∧ Below w.heap.size w w' := by
  have H1 := Lib.hid (impl_areValues_c w A n cap xs hl hn hok hx)
  have H2 := Lib.hid (impl_listText_c w A n cap xs hl hn hok hx ht)
  clear hok hx ht
  go_enter Tryd.func31, Tryd.ntmps31
  go_wp2_with (first
    | (go_at_call 52; refine H1.out.mono ?_; rintro e w' ⟨rfl, rfl⟩)
    | (go_at_call 37; refine H2.out.mono ?_; rintro e w' ⟨rfl, hb⟩))
  go_ret2
  exact ⟨rfl, hb⟩


set_option maxRecDepth 100000 in
set_option maxHeartbeats 1000000 in
theorem spec_l01Text_c (w : World) (A : Option Addr) (n cap : Nat) (xs : List Int) (hl : xs.length = n) (hn : n ≤ 64) (hok : numsOk xs) (hx : Sl w w.heap.size A (xs.map (Value.int .i64))) :
    Calls Tryd.prog 28 #[.slice A n cap] w fun e w' => e = .returned (.string (lisS xs)) ∧ Below w.heap.size w w' := by
  by_cases h0 : n = 0
  · subst h0
    have : xs = [] := List.eq_nil_of_length_eq_zero hl
    subst this
    go_enter Tryd.func28, Tryd.ntmps28
    go_wp2
    go_ret
    exact ⟨rfl, Below.refl _ _⟩
  · have HOK := Lib.hid hok
    have h00 : ((n : Int) == 0) = false := by rw [beq_eq_false_iff_ne]; omega
    obtain ⟨b, off, rfl, hbb, hcs⟩ := hx.at_ (k := 0) (by simp; omega)
    have hget : ∀ k (hk : k < n), ∃ m : Nat, xs[k]'(by omega) = (m : Int) ∧ m ≤ 1000000000 ∧ w.cell? ⟨b, off + k, none⟩ = some (.int .i64 (m : Int)) := fun k hk => by
      have hm := HOK.out _ (List.getElem_mem (l := xs) (n := k) (by omega))
      refine ⟨(xs[k]'(by omega)).toNat, by omega, by omega, ?_⟩
      rw [hcs k (.int .i64 (xs[k]'(by omega))) (by simp [show k < xs.length by omega])]
      congr 2
      omega
    have HG := Lib.hid hget
    obtain ⟨m0, e0, b0, hc0⟩ := hget 0 (by omega)
    have HD0 := Lib.hid (spec_l01Dec_c w m0 b0)
    have hz0 : off + 0 = off := rfl
    rw [hz0] at hc0
    have hfirst : decL (xs.take 1) = [decS m0] := by
      rw [decL_snoc (by omega), e0]
      simp [decL]
    have HF := Lib.hid hfirst
    clear hget hcs hok hx hfirst e0
    go_enter Tryd.func28, Tryd.ntmps28
    go_wp2_with fail
    refine HD0.out.mono ?_
    rintro e w1 ⟨rfl, hb1⟩
    go_wp2
    go_loopw [3, 4] (fun v i wr => ∃ k : Nat, 1 ≤ k ∧ k ≤ n ∧ i = .int .i64 k ∧ v = .string (comS (decL (xs.take k))) ∧ Below w.heap.size w wr) (fun _ i _ => n - (intOf i).toNat)
    case atStart => exact ⟨1, Nat.le_refl _, by omega, rfl, by rw [HF.out, comS_one], hb1⟩
    case round =>
      clear hb1 hc0
      obtain ⟨k, hk1, hk, rfl, rfl, hb⟩ := hrel
      have hz := hb.size
      by_cases hlt : k < n
      · obtain ⟨m, em, bm, hcm⟩ := HG.out k hlt
        have hcm := (hb.cell (p := ⟨b, off + k, none⟩) hbb).trans hcm
        have hst := decL_snoc (xs := xs) (k := k) (by omega)
        rw [em, Int.toNat_natCast] at hst
        have hne : decL (xs.take k) ≠ [] := by
          intro h
          have := congrArg List.length h
          rw [decL_len, List.length_take] at this
          simp only [List.length_nil] at this
          omega
        have hsn := comS_snoc hne (decS m)
        rw [← hst] at hsn
        have hsz := com_len (decL (xs.take k)) (decL_small fun x hx => HOK.out x (List.mem_of_mem_take hx))
        rw [decL_len, List.length_take] at hsz
        have hdz := decS_size m
        have HD := Lib.hid (spec_l01Dec_c wr m bm)
        generalize decS m = dm at hsn hdz HD
        generalize comS (decL (xs.take k)) = S at hsn hsz ⊢
        have hSz : S.size ≤ 100000000000 := by omega
        have hdz2 : dm.size ≤ 1000000001 := by omega
        have HSN := Lib.hid hsn
        clear hst hne hsn hsz hdz em
        go_wp2_with (go_at_call 49; refine HD.out.mono ?_; rintro e w2 ⟨rfl, hb2⟩)
        go_roundw
        case rel => exact ⟨k + 1, by omega, by omega, by go_num, by rw [HSN.out], hb.trans (hb2.mono hz)⟩
        case measure => simp [intOf]; omega
      · obtain rfl : k = n := by omega
        have he : xs.take k = xs := List.take_of_length_le (by omega)
        have HE := Lib.hid he
        go_wp2
        go_ret
        exact ⟨by rw [HE.out]; rfl, hb⟩

end Go.Proofs.YthccklkonfappaaDoor
