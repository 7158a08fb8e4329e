/-
  Contracts: the laws' texts of marks; rows of texts marked, and looked at again; a journal recovered, of both.
  Conditions: at most 1048576 texts; marks are small numbers.
-/
import Derived.Test.YthccklkonfappaaDoorJI
namespace Go.Proofs.YthccklkonfappaaDoor
open Go.RowKit

/-- the digits of a number, before others -/
def digF : Nat → Nat → ByteArray → ByteArray
  | 0, _, a => a
  | f + 1, k, a => if k = 0 then a else digF f (k / 10) (strOfNums [48 + (k : Int) % 10] ++ a)
theorem digF_zero (f : Nat) (a : ByteArray) : digF f 0 a = a := by cases f <;> simp [digF]
theorem digF_step {f k : Nat} {a : ByteArray} (hk : k ≠ 0) : digF (f + 1) k a = digF f (k / 10) (strOfNums [48 + (k : Int) % 10] ++ a) := by simp [digF, hk]
/-- the text of a mark -/
def markS (k : Int) : ByteArray := if k ≤ 0 then ⟨#[109, 48]⟩ else ⟨#[109]⟩ ++ digF k.toNat k.toNat ⟨#[]⟩
theorem conv1 (w : World) (x : Int) : (convert 64 9 (.slice (some ⟨w.heap.size, 0, none⟩) 1 1)).run Tryd.prog (w.alloc (.cells #[.int .u8 x] 5)) = .ok (.string (strOfNums [x])) (w.alloc (.cells #[.int .u8 x] 5)) :=
  run_convert_bytes_arg (P := Tryd.prog) (w.alloc (.cells #[.int .u8 x] 5)) 64 5 Tryd.underlying64 Tryd.underlying5 w.heap.size 0 1 1 [x] rfl (fun i hi => by
    obtain rfl : i = 0 := by omega
    simp) 9 Tryd.underlying9


set_option maxRecDepth 100000 in
set_option maxHeartbeats 1000000 in
theorem markText_c (w : World) (k : Int) (h0 : 0 ≤ k) (hk : k ≤ 1099511627776) :
    Calls Tryd.prog 46 #[.int .i64 k] w fun e w' => e = .returned (.string (markS k)) ∧ Below w.heap.size w w' := by
  by_cases hk0 : k ≤ 0
  · obtain rfl : k = 0 := by omega
    go_enter Tryd.func46, Tryd.ntmps46
    go_wp2
    go_ret
    exact ⟨rfl, Below.refl _ _⟩
  · obtain ⟨N, rfl⟩ : ∃ N : Nat, k = (N : Int) := ⟨k.toNat, by omega⟩
    have e1 : markS (N : Int) = ⟨#[109]⟩ ++ digF N N ⟨#[]⟩ := by unfold markS; rw [if_neg hk0, Int.toNat_natCast]
    rw [e1]
    clear e1
    go_enter Tryd.func46, Tryd.ntmps46
    go_wp2
    go_loopw [0, 3] (fun i o wr => ∃ (q f : Nat) (a : ByteArray), i = .int .i64 q ∧ o = .string a ∧ q ≤ f ∧ a.size + f ≤ N ∧ Hid (digF f q a = digF N N ⟨#[]⟩) ∧ Below w.heap.size w wr) (fun i _ _ => (intOf i).toNat)
    case atStart => exact ⟨N, N, _, rfl, rfl, Nat.le_refl _, by show 0 + N ≤ N; omega, Lib.hid rfl, Below.refl _ _⟩
    case round =>
      obtain ⟨q, f, a, rfl, rfl, hqf, hfN, HD, hb⟩ := hrel
      by_cases hq : q = 0
      · subst hq
        have he := HD.out
        rw [digF_zero] at he
        have HE := Lib.hid he
        clear he
        have hsz : a.size ≤ 1099511627776 := by omega
        go_wp2
        go_ret
        exact ⟨by rw [← HE.out]; rfl, hb⟩
      · obtain ⟨f', rfl⟩ : ∃ f', f = f' + 1 := ⟨f - 1, by omega⟩
        have he := HD.out
        rw [digF_step hq] at he
        have HE := Lib.hid he
        have hcv := conv1 wr (48 + (q : Int) % 10)
        have hsz : a.size ≤ 1099511627776 := by omega
        have hs1 : (strOfNums [48 + (q : Int) % 10]).size = 1 := rfl
        clear he HD
        go_wp2
        go_roundw
        case rel => exact ⟨q / 10, f', _, by go_num, rfl, by omega, by rw [ByteArray.size_append, hs1]; omega, HE, hb.alloc hb.size _⟩
        case measure => simp [intOf]; omega

theorem grown_below {w wr w2 : World} {o : Option Nat} (h : w.grownBy wr o) (hb : Below wr.heap.size wr w2) : w.grownBy w2 o :=
  ⟨hb.os.trans h.os, hb.tape.trans h.tape, hb.output.trans h.output, Nat.le_trans h.size hb.size, fun i hi hne => (hb.block i (Nat.lt_of_lt_of_le hi h.size)).trans (h.block i hi hne)⟩


set_option maxRecDepth 100000 in
set_option maxHeartbeats 1000000 in
theorem markStringS_c (w : World) (base : Nat) (A : Option Addr) (n cap : Nat) (xs : List Value) (hn : n ≤ 1048576) (k : Int) (h0 : 0 ≤ k) (hk : k ≤ 1048576) (ho : w.ownsRow base 9 1 (.slice A n cap) n xs) :
    Calls Tryd.prog 24 #[.slice A n cap, .int .i64 k] w fun e w' => e = .returned (.int .i64 (k + n)) ∧ w'.ownsRow base 9 1 (.slice A n cap) n (marks (fun q => .string (markS q)) k n) ∧ w.grownBy w' (Value.slice A n cap).ownBlock := by
  have hl : xs.length = n := by simpa using ho.1
  go_enter Tryd.func24, Tryd.ntmps24
  go_wp2
  go_loopw [1, 5] (fun q i wr => ∃ j : Nat, j ≤ n ∧ i = .int .i64 j ∧ q = .int .i64 (k + j) ∧ wr.ownsRow base 9 1 (.slice A n cap) n (marks (fun q => .string (markS q)) k j ++ xs.drop j) ∧ w.grownBy wr (Value.slice A n cap).ownBlock) (fun _ i _ => n - (intOf i).toNat)
  case atStart => exact ⟨0, Nat.zero_le _, rfl, by simp, by simpa [marks] using ho, World.grownBy.refl _ _⟩
  case round =>
    clear ho
    obtain ⟨j, hj, rfl, rfl, ho, hg⟩ := hrel
    by_cases hlt : j < n
    · obtain ⟨g, cap', hv, hbg, hgs⟩ := ho.form (by omega)
      injection hv with hv hv2 hv3
      subst hv
      clear hv2 hv3
      have HO := Lib.hid ho
      clear ho
      have HMT := Lib.hid (markText_c wr (k + (j : Int)) (by omega) (by omega))
      go_wp2_with fail
      refine HMT.out.mono ?_
      rintro e w2 ⟨rfl, hb2⟩
      have ho := own_below HO.out hb2 (Nat.le_refl _)
      have hg2 := grown_below hg hb2
      have hc := ho.cellAt j (by omega)
      have hf := ho.frozenAt j
      have hs := ho.stored j ((fun q => .string (markS q)) (k + (j : Int)))
      have hcell : ∃ u, w2.cell? ⟨g, j, none⟩ = some u := by
        rw [hc, List.getElem?_append_right (by rw [marks_length]; omega), marks_length, Nat.sub_self, List.getElem?_drop]
        exact ⟨_, List.getElem?_eq_getElem (by omega)⟩
      obtain ⟨u, hcu⟩ := hcell
      have HS := Lib.hid hs
      clear hc hs ho
      go_wp2
      go_roundw
      case rel =>
        refine ⟨j + 1, by omega, by go_num, by go_num, ?_, only_setCell (p := ⟨g, j, none⟩) hg2 rfl _⟩
        have h1 := HS.out.1
        rw [marks_set (fun q => .string (markS q)) _ _ n j hl hlt] at h1
        exact h1
      case measure => simp [intOf]; omega
    · have : j = n := by omega
      subst this
      go_wp2
      go_ret
      exact ⟨rfl, by simpa [List.drop_of_length_le (Nat.le_of_eq hl)] using ho, hg⟩


set_option maxRecDepth 100000 in
set_option maxHeartbeats 1000000 in
theorem heldStringS_c (w : World) (A : Option Addr) (n cap : Nat) (hn : n ≤ 1048576) (k : Int) (h0 : 0 ≤ k) (hk : k ≤ 1048576) (hx : Sl w w.heap.size A (marks (fun q => .string (markS q)) k n)) :
    Calls Tryd.prog 25 #[.slice A n cap, .int .i64 k] w fun e w' => e = .returned (.int .i64 (k + n)) ∧ Below w.heap.size w w' := by
  go_enter Tryd.func25, Tryd.ntmps25
  go_wp2
  go_loopw [1, 5] (fun q i wr => ∃ j : Nat, j ≤ n ∧ i = .int .i64 j ∧ q = .int .i64 (k + j) ∧ Below w.heap.size w wr) (fun _ i _ => n - (intOf i).toNat)
  case atStart => exact ⟨0, Nat.zero_le _, rfl, by simp, Below.refl _ _⟩
  case round =>
    obtain ⟨j, hj, rfl, rfl, hb⟩ := hrel
    have hz := hb.size
    by_cases hlt : j < n
    · obtain ⟨b, off, rfl, hbb, hc⟩ := (hx.below hb).at_ (k := j) (by rw [marks_length]; exact hlt)
      have d0 := hc j _ (marks_get _ k n j hlt)
      have HMT := Lib.hid (markText_c wr.drew (k + (j : Int)) (by omega) (by omega))
      clear hc hx
      go_wp2_with fail
      go_region_held3 (fun w' => w'.cell? ⟨b, off + j, none⟩ = some (.string (markS (k + (j : Int)))))
        (first | exact d0' | exact d0)
        (first
          | (go_at_call 46; refine HMT.out.mono ?_; rintro e w2 ⟨rfl, hb2⟩; have hb2 := below_undrew hb2; have d0' := (hb2.cell (p := ⟨b, off + j, none⟩) (by simp only []; omega)).trans d0))
      go_wp2
      go_roundw
      case rel => exact ⟨j + 1, by omega, by go_num, by go_num, hb.trans (hb2.mono hz)⟩
      case measure => simp [intOf]; omega
    · have : j = n := by omega
      subst this
      go_wp2
      go_ret
      exact ⟨rfl, hb⟩

/-- what a journal's bytes tell, or nothing where they are too many -/
def recJ (s : ByteArray) : List ByteArray × Nat × Bool := if s.size ≤ 16000 then ((recG 0 (linesL s)).1.map fun l => ⟨l.toArray⟩, (recG 0 (linesL s)).2, true) else ([], 0, false)
theorem recG_len : ∀ (L : List (List UInt8)) (c : Nat), (recG c L).1.length ≤ L.length
  | [], _ => Nat.le_refl _
  | l :: ls, c => by
    simp only [recG]
    split
    · have := recG_len ls (chkL c (txtL l))
      simp only [List.length_cons]
      omega
    · exact Nat.zero_le _
theorem recJ_len (s : ByteArray) : (recJ s).1.length ≤ 16000 := by
  unfold recJ
  split
  · rw [List.length_map]
    have h1 := recG_len (linesL s) 0
    have h2 := lines_le s
    omega
  · exact Nat.zero_le _
theorem strs_map (L : List (List UInt8)) : L.map strV = (L.map fun l => (⟨l.toArray⟩ : ByteArray)).map Value.string := by rw [List.map_map]; rfl
def RecjPost (w : World) (s : ByteArray) (e : Ending) (w' : World) : Prop := ∃ v, e = .returned (.tuple #[v, .int .i64 ((recJ s).2.1 : Nat), .bool (recJ s).2.2]) ∧ Ow w' w.heap.size 9 v ((recJ s).1.map Value.string) ∧ Below w.heap.size w w'


set_option maxRecDepth 100000 in
theorem impl_RecoverJournal_c (w : World) (s : ByteArray) (hs : s.size ≤ 1048576) (ht : Tab w) (hm : maxLenOk w) : Calls Tryd.prog 23 #[.string s] w (RecjPost w s) := by
  unfold RecjPost recJ
  by_cases h : s.size ≤ 16000
  · rw [if_pos h]
    have H := Lib.hid (impl_recovered_c w s h ht hm)
    clear ht hm
    go_enter Tryd.func23, Tryd.ntmps23
    go_wp2_with fail
    refine H.out.mono ?_
    rintro e w1 ⟨v, rfl, ho, hb⟩
    rw [strs_map] at ho
    go_wp2
    go_ret3
    exact ⟨v, rfl, ho, hb⟩
  · rw [if_neg h]
    clear ht hm
    go_enter Tryd.func23, Tryd.ntmps23
    go_wp2
    go_ret3
    exact ⟨.slice none 0 0, rfl, ⟨rfl, .inl ⟨rfl, rfl⟩⟩, Below.refl _ _⟩
set_option maxRecDepth 100000 in
theorem spec_RecoverJournal_c (w : World) (s : ByteArray) (hs : s.size ≤ 1048576) : Calls Tryd.prog 22 #[.string s] w (RecjPost w s) := by
  unfold RecjPost recJ
  by_cases h : s.size ≤ 16000
  · rw [if_pos h]
    have H := Lib.hid (spec_l08Recover_c w s h)
    go_enter Tryd.func22, Tryd.ntmps22
    go_wp2_with fail
    refine H.out.mono ?_
    rintro e w1 ⟨v, rfl, ho, hb⟩
    rw [strs_map] at ho
    go_wp2
    go_ret3
    exact ⟨v, rfl, ho, hb⟩
  · rw [if_neg h]
    go_enter Tryd.func22, Tryd.ntmps22
    go_wp2
    go_ret3
    exact ⟨.slice none 0 0, rfl, ⟨rfl, .inl ⟨rfl, rfl⟩⟩, Below.refl _ _⟩

end Go.Proofs.YthccklkonfappaaDoor
