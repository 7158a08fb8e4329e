/-
  Contracts of the laws' helpers for rows of rows of bits that a call has made: marked, and looked at again.
  Conditions: at most 8 rows of at most 1048576 bits.
-/
import Derived.Test.YtlhffpjbjicfnaaNF
namespace Go.Proofs.Ytlhffpjbjicfnaa
open Go.RowKit

/-- a row's head and what it holds -/
abbrev RowHB := Option Addr × Nat × List Bool
def rowVB (r : RowHB) : Value := .slice r.1 r.2.2.length r.2.1
def datB (rs : List RowHB) : List (List Bool) := rs.map (·.2.2)
/-- rows of rows, to be read -/
def Sl2B (w : World) (B : Nat) (A : Option Addr) (rs : List RowHB) : Prop := Sl w B A (rs.map rowVB) ∧ ∀ r ∈ rs, Sl w B r.1 (r.2.2.map Value.bool)
theorem Sl2B.below {w w' : World} {B : Nat} {A : Option Addr} {rs : List RowHB} (h : Sl2B w B A rs) (hb : Below B w w') : Sl2B w' B A rs := ⟨h.1.below hb, fun r hr => (h.2 r hr).below hb⟩
theorem Sl2B.more {w : World} {B B' : Nat} {A : Option Addr} {rs : List RowHB} (h : Sl2B w B A rs) (hB : B ≤ B') : Sl2B w B' A rs := ⟨h.1.more hB, fun r hr => (h.2 r hr).more hB⟩
theorem Sl2B.alloc {w : World} {B : Nat} {A : Option Addr} {rs : List RowHB} (h : Sl2B w B A rs) (hB : B ≤ w.heap.size) (o : Go.Obj) : Sl2B (w.alloc o) B A rs := h.below ((Below.refl _ _).alloc hB o)
theorem Sl2B.up {w w' : World} {A : Option Addr} {rs : List RowHB} (h : Sl2B w w.heap.size A rs) (hb : Below w.heap.size w w') : Sl2B w' w'.heap.size A rs := (h.below hb).more hb.size
theorem Sl2B.drewN {w : World} {B : Nat} {A : Option Addr} {rs : List RowHB} (h : Sl2B w B A rs) (n : Nat) : Sl2B (w.drewN n) B A rs := h

theorem dat_lenB (rs : List RowHB) : (datB rs).length = rs.length := List.length_map _
theorem dat_getB {rs : List RowHB} {k : Nat} (h : k < rs.length) : (datB rs)[k]'(by rw [dat_lenB]; exact h) = rs[k].2.2 := by simp [datB]

theorem rows_lenB {rs ys : List RowHB} (h : datB ys = datB rs) : ys.length = rs.length := by
  have := congrArg List.length h
  rwa [dat_lenB, dat_lenB] at this

theorem rows_shortB {rs ys : List RowHB} {n : Nat} (h : datB ys = datB rs) (hr : ∀ r ∈ rs, r.2.2.length ≤ n) : ∀ y ∈ ys, y.2.2.length ≤ n := by
  intro y hy
  have h1 : y.2.2 ∈ datB rs := by rw [← h]; exact List.mem_map_of_mem hy
  obtain ⟨r, h2, h3⟩ := List.mem_map.1 h1
  rw [← h3]
  exact hr r h2
theorem sl2_of_ownB {w : World} {base base2 : Nat} {A : Option Addr} {n cap : Nat} {ys : List RowHB} (ho : w.ownsRow base 27 1 (.slice A n cap) n (ys.map rowVB)) (hin : ∀ y ∈ ys, w.ownsRow base2 4 1 (rowVB y) y.2.2.length (y.2.2.map Value.bool)) : Sl2B w w.heap.size A ys :=
  ⟨sl_of_own ho, fun y hy => sl_of_own (hin y hy)⟩

theorem infoBools : (Try.prog.info? 27).map (fun i => (i.zero, i.size, i.bytes)) = some (some (.slice none 0 0), 1, 24) := by kernel_rfl

theorem eqBoolS_at {w : World} {A B : Option Addr} {n cap cap' b1 b2 q m : Nat} {xs : List Bool} (hl : xs.length = n) (hn : n ≤ 1099511627776) (hx : Sl w b1 A (xs.map Value.bool)) (hy : Sl w b2 B (xs.map Value.bool)) :
    Calls Try.prog 11 #[.slice A n cap, .slice B n cap'] (w.drewN (q + m)) fun e w' => e = .returned (.bool true) ∧ ∃ k, w' = w.drewN (q + k) := by
  refine (eqBoolS_t (w.drewN (q + m)) A B n cap cap' b1 b2 xs hl hn hx hy).mono ?_
  rintro e w' ⟨rfl, k, rfl⟩
  exact ⟨rfl, m + k, by rw [World.drewN_drewN, Nat.add_assoc]⟩

set_option maxRecDepth 100000 in
set_option maxHeartbeats 1000000 in
theorem eqBoolSS_t (w : World) (A B : Option Addr) (n cap cap' b1 b2 : Nat) (rs ys : List RowHB) (hd : datB rs = datB ys) (hl : rs.length = n) (hn : n ≤ 1048576) (hr : ∀ r ∈ rs, r.2.2.length ≤ 1048576) (hx : Sl2B w b1 A rs) (hy : Sl2B w b2 B ys) :
    Calls Try.prog 23 #[.slice A n cap, .slice B n cap'] w fun e w' => e = .returned (.bool true) ∧ ∃ k, w' = w.drewN k := by
  have hl2 : ys.length = n := by rw [← rows_lenB hd, hl]
  go_enter Try.func23, Try.ntmps23
  go_wp2
  go_loopw [5] (fun i wr => ∃ k m : Nat, k ≤ n ∧ i = .int .i64 k ∧ wr = w.drewN m) (fun i _ => n - (intOf i).toNat)
  case atStart => exact ⟨0, 0, Nat.zero_le _, rfl, rfl⟩
  case round =>
    obtain ⟨k, m, hk, rfl, rfl⟩ := hrel
    by_cases hlt : k < n
    · obtain ⟨b, off, rfl, hbb, hc1⟩ := hx.1.get k (by omega)
      obtain ⟨b', off', rfl, hbb', hc2⟩ := hy.1.get k (by omega)
      have g1 := hx.2 (rs[k]'(by omega)) (List.getElem_mem _)
      have g2 := hy.2 (ys[k]'(by omega)) (List.getElem_mem _)
      have g3 := hr (rs[k]'(by omega)) (List.getElem_mem _)
      have g4 : (rs[k]'(by omega)).2.2 = (ys[k]'(by omega)).2.2 := by
        rw [← dat_getB (by omega), ← dat_getB (by omega)]
        simp only [hd]
      obtain ⟨⟨a, c, l⟩, hxx⟩ : ∃ x, rs[k]'(by omega) = x := ⟨_, rfl⟩
      obtain ⟨⟨a2, c2, l2⟩, hyy⟩ : ∃ x, ys[k]'(by omega) = x := ⟨_, rfl⟩
      rw [hxx] at hc1 g1 g3 g4
      rw [hyy] at hc2 g2 g4
      simp only [rowVB] at hc1 hc2 g1 g2 g3 g4
      subst g4
      clear hx hy hd hxx hyy hr
      go_wp2_with fail
      go_quiet ((go_at_call 11; exact eqBoolS_at rfl (by omega) g1 g2))
      go_wp2
      go_roundw
      case rel => exact ⟨k+1, _, by omega, by go_num, rfl⟩
      case measure => simp [intOf]; omega
    · have : k = n := by omega
      subst this
      go_wp2
      go_ret
      exact ⟨rfl, _, rfl⟩


/-- the number behind all marks -/
def kAllB (k : Int) : List RowHB → Int
  | [] => k
  | y :: ys => kAllB (k + y.2.2.length) ys
theorem kAllB_snoc : ∀ (ys : List RowHB) (k : Int) (y : RowHB), kAllB k (ys ++ [y]) = kAllB k ys + y.2.2.length
  | [], _, _ => rfl
  | _ :: ys, _, y => kAllB_snoc ys _ y
theorem kAllB_bd : ∀ (ys : List RowHB) (k : Int), (∀ y ∈ ys, y.2.2.length ≤ 1048576) → k ≤ kAllB k ys ∧ kAllB k ys ≤ k + 1048576 * ys.length
  | [], k, _ => by simp [kAllB]
  | y :: ys, k, h => by
    have h1 := kAllB_bd ys (k + y.2.2.length) fun z hz => h z (List.mem_cons_of_mem _ hz)
    have h2 := h y List.mem_cons_self
    unfold kAllB
    simp only [List.length_cons]
    omega
/-- rows that are marked from k on -/
def MkB (w : World) (B : Nat) : Int → List RowHB → Prop
  | _, [] => True
  | k, y :: ys => w.ownsRow B 4 1 (rowVB y) y.2.2.length (marks (fun q => .bool (q % 3 == 0)) k y.2.2.length) ∧ MkB w B (k + y.2.2.length) ys
theorem MkB.snoc {w : World} {B : Nat} : ∀ {ys : List RowHB} {k : Int} {y : RowHB}, MkB w B k ys → w.ownsRow B 4 1 (rowVB y) y.2.2.length (marks (fun q => .bool (q % 3 == 0)) (kAllB k ys) y.2.2.length) → MkB w B k (ys ++ [y])
  | [], _, _, _, h => ⟨h, trivial⟩
  | _ :: ys, _, _, h, g => ⟨h.1, MkB.snoc (ys := ys) h.2 g⟩
theorem MkB.map {w w' : World} {B : Nat} : ∀ {ys : List RowHB} {k : Int}, MkB w B k ys → (∀ y ∈ ys, ∀ xs, w.ownsRow B 4 1 (rowVB y) y.2.2.length xs → w'.ownsRow B 4 1 (rowVB y) y.2.2.length xs) → MkB w' B k ys
  | [], _, _, _ => trivial
  | _ :: ys, _, h, g => ⟨g _ List.mem_cons_self _ h.1, MkB.map (ys := ys) h.2 fun y hy => g y (List.mem_cons_of_mem _ hy)⟩
theorem MkB.below {w w' : World} {B D : Nat} {ys : List RowHB} {k : Int} (h : MkB w B k ys) (hb : Below D w w') (hD : w.heap.size ≤ D) : MkB w' B k ys := h.map fun _ _ _ ho => own_below ho hb hD
theorem MkB.at_ {w : World} {B : Nat} : ∀ {ys : List RowHB} {k : Int} {j : Nat} (_ : MkB w B k ys) (hj : j < ys.length), w.ownsRow B 4 1 (rowVB ys[j]) ys[j].2.2.length (marks (fun q => .bool (q % 3 == 0)) (kAllB k (ys.take j)) ys[j].2.2.length)
  | _ :: _, _, 0, h, _ => h.1
  | _ :: ys, _, _ + 1, h, hj => MkB.at_ (ys := ys) h.2 (Nat.lt_of_succ_lt_succ hj)
/-- rows in blocks of their own -/
def sepB (a b : RowHB) : Prop := ∀ g, (rowVB a).ownBlock = some g → (rowVB b).ownBlock ≠ some g
theorem row_sepB {w w' : World} {base n : Nat} {e : TypeId} {a b : RowHB} {xs : List Value} (h : w.ownsRow base e 1 (rowVB a) n xs) (hs : sepB a b) (hg : w.grownBy w' (rowVB b).ownBlock) : w'.ownsRow base e 1 (rowVB a) n xs := by
  refine h.kept hg ?_
  cases hb : (rowVB a).ownBlock with
  | none => exact .inl rfl
  | some g => exact .inr fun he => hs g hb he.symm
theorem sepB_symm {a b : RowHB} (h : sepB a b) : sepB b a := fun g h1 h2 => h g h2 h1


set_option maxRecDepth 100000 in
set_option maxHeartbeats 1000000 in
theorem markBoolSS_c (w : World) (base B c d : Nat) (A : Option Addr) (n cap : Nat) (ys : List RowHB) (hl : ys.length = n) (hn : n ≤ 8) (hr : ∀ y ∈ ys, y.2.2.length ≤ 1048576) (k : Int) (h0 : 0 ≤ k) (hk : k ≤ 1048576)
    (ho : w.ownsRow base 27 1 (.slice A n cap) n (ys.map rowVB)) (hin : ∀ y ∈ ys, w.ownsRow B 4 1 (rowVB y) y.2.2.length (y.2.2.map Value.bool)) (hsep : ys.Pairwise sepB) (hd : ∀ y ∈ ys, In (rowVB y) c d) :
    Calls Try.prog 26 #[.slice A n cap, .int .i64 k] w fun e w' => e = .returned (.int .i64 (kAllB k ys)) ∧ w'.ownsRow base 27 1 (.slice A n cap) n (ys.map rowVB) ∧ MkB w' B k ys ∧ Spot c d w w' := by
  have HD := Lib.hid hd
  have HR := Lib.hid hr
  have HS := Lib.hid hsep
  clear hd hr hsep
  go_enter Try.func26, Try.ntmps26
  go_wp2
  go_loopw [1, 5] (fun q i wr => ∃ (j : Nat) (p : Int), j ≤ n ∧ i = .int .i64 j ∧ q = .int .i64 p ∧ Hid (p = kAllB k (ys.take j)) ∧ Hid (wr.ownsRow base 27 1 (.slice A n cap) n (ys.map rowVB)) ∧ Hid (MkB wr B k (ys.take j)) ∧ Hid (∀ y ∈ ys.drop j, wr.ownsRow B 4 1 (rowVB y) y.2.2.length (y.2.2.map Value.bool)) ∧ Spot c d w wr) (fun _ i _ => n - (intOf i).toNat)
  case atStart => exact ⟨0, k, Nat.zero_le _, rfl, rfl, Lib.hid rfl, Lib.hid ho, Lib.hid trivial, Lib.hid hin, Spot.refl _ _ _⟩
  case round =>
    clear ho hin
    obtain ⟨j, p, hj, rfl, rfl, HP, HO, HM, HI, hs⟩ := hrel
    have hbd := kAllB_bd (ys.take j) k fun y hy => HR.out y (List.mem_of_mem_take hy)
    rw [← HP.out, List.length_take] at hbd
    have hp0 : 0 ≤ p := by omega
    have hp1 : p ≤ 1099511627776 := by omega
    clear hbd
    by_cases hlt : j < n
    · have hjy : j < ys.length := by omega
      obtain ⟨g, c', hv, hbg, hgs⟩ := HO.out.form (by omega)
      injection hv with hv hv2 hv3
      subst hv
      clear hv2 hv3
      have hc1 := own_get HO.out hjy
      have htk : ys.take (j + 1) = ys.take j ++ [ys[j]'hjy] := List.take_succ_eq_append_getElem hjy
      have hdr : ys.drop j = ys[j]'hjy :: ys.drop (j + 1) := (List.getElem_cons_drop hjy).symm
      have hrj := HR.out _ (List.getElem_mem hjy)
      have hdj := HD.out _ (List.getElem_mem hjy)
      have hsd : (∀ y ∈ ys.take j, sepB y (ys[j]'hjy)) ∧ ∀ y ∈ ys.drop (j + 1), sepB y (ys[j]'hjy) := by
        have h := HS.out
        rw [← List.take_append_drop j ys, hdr, List.pairwise_append] at h
        exact ⟨fun y hy => h.2.2 y hy _ List.mem_cons_self, fun y hy => sepB_symm ((List.pairwise_cons.1 h.2.1).1 y hy)⟩
      have hoj := HI.out (ys[j]'hjy) (by rw [hdr]; exact List.mem_cons_self)
      obtain ⟨y, hyy⟩ : ∃ y, ys[j]'hjy = y := ⟨_, rfl⟩
      rw [hyy] at hc1 htk hdr hrj hdj hsd hoj
      obtain ⟨a, q, l⟩ := y
      have HTK := Lib.hid htk
      have HDR := Lib.hid hdr
      have HSD := Lib.hid hsd
      have HOJ := Lib.hid hoj
      simp only [rowVB] at hc1 hrj hdj
      clear htk hdr hsd hoj hyy
      go_wp2_with fail
      refine (markBoolS_c wr B a l.length q _ (by omega) p hp0 hp1 HOJ.out).mono ?_
      rintro e w2 ⟨rfl, ho2, hg2⟩
      have ho3 := HO.out.kept hg2 (by
        cases hvv : (Value.slice a l.length q).ownBlock with
        | none => exact .inr (by simp [Value.ownBlock])
        | some g' => exact .inr fun he => own_types HOJ.out HO.out (by decide) g' hvv he)
      have hm2 : MkB w2 B k (ys.take j) := HM.out.map fun y hy xs h => row_sepB h (HSD.out.1 y hy) hg2
      have hi2 : ∀ y ∈ ys.drop (j + 1), w2.ownsRow B 4 1 (rowVB y) y.2.2.length (y.2.2.map Value.bool) := fun y hy => row_sepB (HI.out y (by rw [HDR.out]; exact List.mem_cons_of_mem _ hy)) (HSD.out.2 y hy) hg2
      have hs2 := hs.trans (Spot.of_grown hg2 hdj)
      have HO3 := Lib.hid ho3
      have HM2 := Lib.hid hm2
      have HI2 := Lib.hid hi2
      have HO2 := Lib.hid ho2
      clear ho3 hm2 hi2 ho2 hg2 hc1
      go_wp2
      go_roundw
      case rel =>
        refine ⟨j + 1, p + l.length, by omega, by go_num, by go_num, Lib.hid ?_, HO3, Lib.hid ?_, HI2, hs2⟩
        · rw [HTK.out, kAllB_snoc, HP.out]
        · rw [HTK.out]
          refine HM2.out.snoc ?_
          rw [← HP.out]
          exact HO2.out
      case measure => simp [intOf]; omega
    · have : j = n := by omega
      subst this
      have e1 : p = kAllB k ys := by rw [HP.out, List.take_of_length_le (by omega)]
      have e2 : MkB wr B k ys := by have := HM.out; rwa [List.take_of_length_le (by omega)] at this
      have HE1 := Lib.hid e1
      have HE2 := Lib.hid e2
      clear e1 e2
      go_wp2
      go_ret
      exact ⟨ret_int HE1.out, HO.out, HE2.out, hs⟩


set_option maxRecDepth 100000 in
set_option maxHeartbeats 1000000 in
theorem heldBoolSS_c (w : World) (base B : Nat) (A : Option Addr) (n cap : Nat) (ys : List RowHB) (hl : ys.length = n) (hn : n ≤ 8) (hr : ∀ y ∈ ys, y.2.2.length ≤ 1048576) (k : Int) (h0 : 0 ≤ k) (hk : k ≤ 1048576)
    (ho : w.ownsRow base 27 1 (.slice A n cap) n (ys.map rowVB)) (hm : MkB w B k ys) :
    Calls Try.prog 27 #[.slice A n cap, .int .i64 k] w fun e w' => e = .returned (.int .i64 (kAllB k ys)) ∧ ∃ q, w' = w.drewN q := by
  have HR := Lib.hid hr
  have HO := Lib.hid ho
  have HM := Lib.hid hm
  clear hr ho hm
  go_enter Try.func27, Try.ntmps27
  go_wp2
  go_loopw [1, 5] (fun q i wr => ∃ (j m : Nat) (p : Int), j ≤ n ∧ i = .int .i64 j ∧ q = .int .i64 p ∧ Hid (p = kAllB k (ys.take j)) ∧ wr = w.drewN m) (fun _ i _ => n - (intOf i).toNat)
  case atStart => exact ⟨0, 0, k, Nat.zero_le _, rfl, rfl, Lib.hid rfl, rfl⟩
  case round =>
    obtain ⟨j, m, p, hj, rfl, rfl, HP, rfl⟩ := hrel
    have hbd := kAllB_bd (ys.take j) k fun y hy => HR.out y (List.mem_of_mem_take hy)
    rw [← HP.out, List.length_take] at hbd
    have hp0 : 0 ≤ p := by omega
    have hp1 : p ≤ 1099511627776 := by omega
    clear hbd
    by_cases hlt : j < n
    · have hjy : j < ys.length := by omega
      obtain ⟨g, c', hv, hbg, hgs⟩ := HO.out.form (by omega)
      injection hv with hv hv2 hv3
      subst hv
      clear hv2 hv3
      have hc1 := own_get HO.out hjy
      have htk : ys.take (j + 1) = ys.take j ++ [ys[j]'hjy] := List.take_succ_eq_append_getElem hjy
      have hrj := HR.out _ (List.getElem_mem hjy)
      have hoj := HM.out.at_ hjy
      obtain ⟨y, hyy⟩ : ∃ y, ys[j]'hjy = y := ⟨_, rfl⟩
      rw [hyy] at hc1 htk hrj hoj
      obtain ⟨a, q, l⟩ := y
      rw [← HP.out] at hoj
      have HTK := Lib.hid htk
      have HOJ := Lib.hid (sl_of_own hoj)
      simp only [rowVB] at hc1 hrj
      clear htk hoj hyy
      go_wp2_with fail
      refine (heldBoolS_c (w.drewN m) w.heap.size a l.length q (by omega) p hp0 hp1 HOJ.out).mono ?_
      rintro e w2 ⟨rfl, q2, rfl⟩
      have hp2 : 0 ≤ p + l.length := by omega
      go_wp2
      go_roundw
      case rel => exact ⟨j + 1, _, p + l.length, by omega, by go_num, by go_num, Lib.hid (by rw [HTK.out, kAllB_snoc, HP.out]), rfl⟩
      case measure => simp [intOf]; omega
    · have : j = n := by omega
      subst this
      have e1 : p = kAllB k ys := by rw [HP.out, List.take_of_length_le (by omega)]
      have HE1 := Lib.hid e1
      clear e1
      go_wp2
      go_ret
      exact ⟨ret_int HE1.out, _, rfl⟩

end Go.Proofs.Ytlhffpjbjicfnaa
