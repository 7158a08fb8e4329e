/-
  Contracts: the laws' texts of marks; rows of saved ones marked, and looked at again.
  Conditions: at most 8 of them, of at most 255 bits and numbers each.
-/
import Derived.Test.YtmkjlhobnlgpjaaTW
import Derived.Test.YtmkjlhobnlgpjaaTX
namespace Go.Proofs.Ytmkjlhobnlgpjaa
open Go.RowKit

/-- the digits of a number, before others -/
def digF : Nat → Nat → ByteArray → ByteArray
  | 0, _, a => a
  | f + 1, k, a => if k = 0 then a else digF f (k / 10) (strOfNums [48 + (k : Int) % 10] ++ a)
theorem digF_zero (f : Nat) (a : ByteArray) : digF f 0 a = a := by cases f <;> simp [digF]
theorem digF_step {f k : Nat} {a : ByteArray} (hk : k ≠ 0) : digF (f + 1) k a = digF f (k / 10) (strOfNums [48 + (k : Int) % 10] ++ a) := by simp [digF, hk]
/-- the text of a mark -/
def markS (k : Int) : ByteArray := if k ≤ 0 then ⟨#[109, 48]⟩ else ⟨#[109]⟩ ++ digF k.toNat k.toNat ⟨#[]⟩
theorem conv1 (w : World) (x : Int) : (convert 48 9 (.slice (some ⟨w.heap.size, 0, none⟩) 1 1)).run Try.prog (w.alloc (.cells #[.int .u8 x] 5)) = .ok (.string (strOfNums [x])) (w.alloc (.cells #[.int .u8 x] 5)) :=
  conv_at (L := [x]) (World.ownsRow_lit (e := 5) (size := 1) w #[.int .u8 x] 1 (Nat.le_refl _) (by decide) rfl)


set_option maxRecDepth 100000 in
set_option maxHeartbeats 1000000 in
theorem markText_c (w : World) (k : Int) (h0 : 0 ≤ k) (hk : k ≤ 1099511627776) :
    Calls Try.prog 56 #[.int .i64 k] w fun e w' => e = .returned (.string (markS k)) ∧ Below w.heap.size w w' := by
  by_cases hk0 : k ≤ 0
  · obtain rfl : k = 0 := by omega
    go_enter Try.func56, Try.ntmps56
    go_wp2
    go_ret
    exact ⟨rfl, Below.refl _ _⟩
  · obtain ⟨N, rfl⟩ : ∃ N : Nat, k = (N : Int) := ⟨k.toNat, by omega⟩
    have e1 : markS (N : Int) = ⟨#[109]⟩ ++ digF N N ⟨#[]⟩ := by unfold markS; rw [if_neg hk0, Int.toNat_natCast]
    rw [e1]
    clear e1
    go_enter Try.func56, Try.ntmps56
    go_wp2
    go_loopw [0, 3] (fun i o wr => ∃ (q f : Nat) (a : ByteArray), i = .int .i64 q ∧ o = .string a ∧ q ≤ f ∧ a.size + f ≤ N ∧ Hid (digF f q a = digF N N ⟨#[]⟩) ∧ Below w.heap.size w wr) (fun i _ _ => (intOf i).toNat)
    case atStart => exact ⟨N, N, _, rfl, rfl, Nat.le_refl _, by show 0 + N ≤ N; omega, Lib.hid rfl, Below.refl _ _⟩
    case round =>
      obtain ⟨q, f, a, rfl, rfl, hqf, hfN, HD, hb⟩ := hrel
      by_cases hq : q = 0
      · subst hq
        have he := HD.out
        rw [digF_zero] at he
        have HE := Lib.hid he
        clear he
        have hsz : a.size ≤ 1099511627776 := by omega
        go_wp2
        go_ret
        exact ⟨by rw [← HE.out]; rfl, hb⟩
      · obtain ⟨f', rfl⟩ : ∃ f', f = f' + 1 := ⟨f - 1, by omega⟩
        have he := HD.out
        rw [digF_step hq] at he
        have HE := Lib.hid he
        have hcv := conv1 wr (48 + (q : Int) % 10)
        have hsz : a.size ≤ 1099511627776 := by omega
        have hs1 : (strOfNums [48 + (q : Int) % 10]).size = 1 := rfl
        clear he HD
        go_wp2
        go_roundw
        case rel => exact ⟨q / 10, f', _, by go_num, rfl, by omega, by rw [ByteArray.size_append, hs1]; omega, HE, hb.alloc hb.size _⟩
        case measure => simp [intOf]; omega


def nextK (k : Int) (r : SavH) : Int := k + 1 + r.bs.length + r.xs.length
def kAll (k : Int) (ys : List SavH) : Int := ys.foldl nextK k
theorem kAll_snoc (k : Int) (ys : List SavH) (r : SavH) : kAll k (ys ++ [r]) = nextK (kAll k ys) r := by simp [kAll]
def few (y : SavH) : Prop := y.bs.length ≤ 255 ∧ y.xs.length ≤ 255
theorem kAll_bd : ∀ (ys : List SavH) (k : Int), (∀ y ∈ ys, few y) → k ≤ kAll k ys ∧ kAll k ys ≤ k + 511 * ys.length
  | [], k, _ => by simp [kAll]
  | y :: ys, k, h => by
    have h1 := kAll_bd ys (nextK k y) fun z hz => h z (List.mem_cons_of_mem _ hz)
    have h2 := h y List.mem_cons_self
    unfold few at h2
    have h3 : kAll k (y :: ys) = kAll (nextK k y) ys := rfl
    rw [h3]
    unfold nextK at h1 ⊢
    simp only [List.length_cons]
    omega
def renA (k : Int) : List SavH → List SavH
  | [] => []
  | r :: rs => { r with s := markS k } :: renA (nextK k r) rs
theorem renA_len : ∀ (ys : List SavH) (k : Int), (renA k ys).length = ys.length
  | [], _ => rfl
  | y :: ys, k => by simp [renA, renA_len ys]
theorem renA_snoc : ∀ (ys : List SavH) (k : Int) (r : SavH), renA k (ys ++ [r]) = renA k ys ++ [{ r with s := markS (kAll k ys) }]
  | [], _, _ => rfl
  | y :: ys, k, r => by
    show renA k (y :: (ys ++ [r])) = _
    simp only [renA]
    rw [renA_snoc ys]
    rfl
/-- one that is marked from k on -/
def MkR (w : World) (B : Nat) (k : Int) (r : SavH) : Prop := w.ownsRow B 4 1 (.slice r.A r.bs.length r.c) r.bs.length (marks (fun q => .bool (q % 3 == 0)) (k + 1) r.bs.length) ∧ w.ownsRow B 58 1 (.slice r.A2 r.xs.length r.c2) r.xs.length (marks (fun q => .float .f32 (floatOfInt .f32 q)) (k + 1 + r.bs.length) r.xs.length)
def MkL (w : World) (B : Nat) : Int → List SavH → Prop
  | _, [] => True
  | k, r :: rs => MkR w B k r ∧ MkL w B (nextK k r) rs
theorem MkL.snoc {w : World} {B : Nat} : ∀ {ys : List SavH} {k : Int} {r : SavH}, MkL w B k ys → MkR w B (kAll k ys) r → MkL w B k (ys ++ [r])
  | [], _, _, _, h => ⟨h, trivial⟩
  | _ :: ys, _, _, h, g => ⟨h.1, MkL.snoc (ys := ys) h.2 g⟩
theorem MkL.map {w w' : World} {B : Nat} : ∀ {ys : List SavH} {k : Int}, MkL w B k ys → (∀ r ∈ ys, ∀ k, MkR w B k r → MkR w' B k r) → MkL w' B k ys
  | [], _, _, _ => trivial
  | _ :: ys, k, h, g => ⟨g _ List.mem_cons_self k h.1, MkL.map (ys := ys) h.2 fun r hr => g r (List.mem_cons_of_mem _ hr)⟩
theorem MkR.below {w w' : World} {B D : Nat} {k : Int} {r : SavH} (h : MkR w B k r) (hb : Below D w w') (hD : w.heap.size ≤ D) : MkR w' B k r := ⟨own_below h.1 hb hD, own_below h.2 hb hD⟩
theorem MkR.grown {w w' : World} {B base n : Nat} {k : Int} {r : SavH} {v : Value} {xs : List Value} (h : MkR w B k r) (ho : w.ownsRow base 35 3 v n xs) (hg : w.grownBy w' v.ownBlock) : MkR w' B k r :=
  ⟨h.1.kept hg (own_types h.1 ho (by decide)), h.2.kept hg (own_types h.2 ho (by decide))⟩
theorem row_sep {w w' : World} {base : Nat} {e : TypeId} {n : Nat} {v u : Value} {xs : List Value} {a b : SavH} (h : w.ownsRow base e 1 v n xs) (hv : ∀ g, v.ownBlock = some g → blkS a g) (hu : ∀ g, u.ownBlock = some g → blkS b g) (hs : sepS a b) (hg : w.grownBy w' u.ownBlock) : w'.ownsRow base e 1 v n xs := by
  refine h.kept hg ?_
  cases hb : v.ownBlock with
  | none => exact .inl rfl
  | some g => exact .inr fun he => hs g (hv g hb) (hu g he.symm)
theorem MkR.sep {w w' : World} {B : Nat} {k : Int} {a b : SavH} {u : Value} (h : MkR w B k a) (hu : ∀ g, u.ownBlock = some g → blkS b g) (hs : sepS a b) (hg : w.grownBy w' u.ownBlock) : MkR w' B k a :=
  ⟨row_sep h.1 (fun _ h => .inl h) hu hs hg, row_sep h.2 (fun _ h => .inr h) hu hs hg⟩
theorem OwnS.sep {w w' : World} {B : Nat} {a b : SavH} {u : Value} (h : OwnS w B a) (hu : ∀ g, u.ownBlock = some g → blkS b g) (hs : sepS a b) (hg : w.grownBy w' u.ownBlock) : OwnS w' B a :=
  ⟨row_sep h.1 (fun _ h => .inl h) hu hs hg, row_sep h.2 (fun _ h => .inr h) hu hs hg⟩
theorem sep_symm {a b : SavH} (h : sepS a b) : sepS b a := fun g h1 h2 => h g h2 h1

theorem set1 (L : List Value) (m : Nat) (hL : L.length = m) (t a : Value) (T : List Value) : (L ++ t :: T).set m a = L ++ a :: T := by
  subst hL
  rw [List.set_append_right _ _ (Nat.le_refl _)]
  simp


set_option maxRecDepth 100000 in
set_option maxHeartbeats 1000000 in
theorem markSavedS_c (w : World) (base B c d : Nat) (A : Option Addr) (n cap : Nat) (ys : List SavH) (hl : ys.length = n) (hn : n ≤ 8) (hf : ∀ y ∈ ys, few y) (k : Int) (h0 : 0 ≤ k) (hk : k ≤ 1048576)
    (ho : w.ownsRow base 35 3 (.slice A n cap) n (savCells ys)) (hin : ∀ y ∈ ys, OwnS w B y) (hsep : ys.Pairwise sepS) (hA : In (.slice A n cap) c d) (hd : ∀ y ∈ ys, ∀ g, blkS y g → c ≤ g ∧ g < d) :
    Calls Try.prog 27 #[.slice A n cap, .int .i64 k] w fun e w' => e = .returned (.int .i64 (kAll k ys)) ∧ w'.ownsRow base 35 3 (.slice A n cap) n (savCells (renA k ys)) ∧ MkL w' B k ys ∧ Spot c d w w' := by
  have HD := Lib.hid hd
  have HF := Lib.hid hf
  have HS := Lib.hid hsep
  clear hd hf hsep
  go_enter Try.func27, Try.ntmps27
  go_wp2
  go_loopw [1, 5] (fun q i wr => ∃ (j : Nat) (p : Int) (done rest : List SavH), j ≤ n ∧ i = .int .i64 j ∧ q = .int .i64 p ∧ Hid (p = kAll k done) ∧ Hid (ys = done ++ rest) ∧ Hid (done.length = j) ∧ Hid (wr.ownsRow base 35 3 (.slice A n cap) n (savCells (renA k done ++ rest))) ∧ Hid (MkL wr B k done) ∧ Hid (∀ y ∈ rest, OwnS wr B y) ∧ Spot c d w wr) (fun _ i _ => n - (intOf i).toNat)
  case atStart => exact ⟨0, k, [], ys, Nat.zero_le _, rfl, rfl, Lib.hid rfl, Lib.hid rfl, Lib.hid rfl, Lib.hid ho, Lib.hid trivial, Lib.hid hin, Spot.refl _ _ _⟩
  case round =>
    clear ho hin
    obtain ⟨j, p, done, rest, hj, rfl, rfl, HP, HY, HJ, HO, HM, HR, hsp⟩ := hrel
    have hlen : done.length + rest.length = n := by have := congrArg List.length HY.out; rw [List.length_append, hl] at this; omega
    have hjl := HJ.out
    have hfd : ∀ y ∈ done, few y := fun y hy => HF.out y (by rw [HY.out]; exact List.mem_append_left _ hy)
    have hbd := kAll_bd done k hfd
    rw [← HP.out, hjl] at hbd
    have hp0 : 0 ≤ p := by omega
    have hp1 : p ≤ 1052664 := by omega
    clear hbd hfd
    by_cases hlt : j < n
    · obtain ⟨r, rest', rfl⟩ : ∃ r rest', rest = r :: rest' := by
        match rest, hlen with
        | [], h => simp at h; omega
        | r :: rest', _ => exact ⟨r, rest', rfl⟩
      have hsepr : (∀ y ∈ done, sepS y r) ∧ ∀ y ∈ rest', sepS r y := by
        have h := HS.out
        rw [HY.out, List.pairwise_append] at h
        exact ⟨fun y hy => h.2.2 y hy r List.mem_cons_self, (List.pairwise_cons.1 h.2.1).1⟩
      have hrm : r ∈ ys := by rw [HY.out]; simp
      obtain ⟨hr1, hr2⟩ := HF.out r hrm
      have hdr := HD.out r hrm
      have how := HR.out r List.mem_cons_self
      have hor : ∀ y ∈ rest', OwnS wr B y := fun y hy => HR.out y (List.mem_cons_of_mem _ hy)
      have hcl : (savCells (renA k done)).length = j * 3 := by rw [savCells_len, renA_len, hjl]; omega
      have hcs : savCells (renA k done ++ r :: rest') = savCells (renA k done) ++ .string r.s :: .slice r.A r.bs.length r.c :: .slice r.A2 r.xs.length r.c2 :: savCells rest' := by
        simp [savCells, savC]
      have ho1 := HO.out
      rw [hcs] at ho1
      obtain ⟨g, cap', hv, hbg, hgs⟩ := ho1.form (by omega)
      injection hv with hv hv2 hv3
      subst hv
      clear hv2 hv3 hcs
      have hsg : In (.slice (some ⟨g, 0, none⟩) n cap) c d := hA
      obtain ⟨r1, hrr⟩ : ∃ x, x = r := ⟨_, rfl⟩
      obtain ⟨s, A1, c1, bs, A2, c2, xs⟩ := r
      simp only [] at hr1 hr2 ho1
      have HC := Lib.hid hcl
      have HO1 := Lib.hid ho1
      have HOW := Lib.hid how
      have HOR := Lib.hid hor
      have HSEP := Lib.hid hsepr
      have HDR := Lib.hid hdr
      have HRR := Lib.hid hrr
      clear hcl ho1 how hor hsepr hdr hrr hrm hlen hA
      go_wp2_with fail
      refine (markText_c wr p hp0 (by omega)).mono ?_
      rintro e w2 ⟨rfl, hb2⟩
      have ho2 := own_below HO1.out hb2 (Nat.le_refl _)
      have f0 := ho2.frozenAt (j * 3)
      have d0 : w2.cell? ⟨g, j * 3, none⟩ = some (.string s) := by
        rw [ho2.cellAt (j * 3) (by omega), List.getElem?_append_right (by rw [HC.out]; exact Nat.le_refl _), HC.out, Nat.sub_self]; rfl
      have d1 : w2.cell? ⟨g, j * 3 + 1, none⟩ = some (.slice A1 bs.length c1) := by
        rw [ho2.cellAt (j * 3 + 1) (by omega), List.getElem?_append_right (by rw [HC.out]; omega), HC.out, show j * 3 + 1 - j * 3 = 1 by omega]; rfl
      have st := (ho2.stored (j * 3) (.string (markS p))).1
      rw [set1 _ _ HC.out] at st
      have hg3 : w2.grownBy (w2.setCell ⟨g, j * 3, none⟩ (.string (markS p))) (Value.slice (some ⟨g, 0, none⟩) n cap).ownBlock := grownBy_set w2 g (j * 3) (.string (markS p))
      have q3 := (HOW.out.below hb2 (Nat.le_refl _)).grown ho2 hg3
      have r3 := fun y hy => ((HOR.out y hy).below hb2 (Nat.le_refl _)).grown ho2 hg3
      have m3 := (HM.out.map fun y _ k h => h.below hb2 (Nat.le_refl _)).map fun y _ k h => h.grown ho2 hg3
      have s3 := (hsp.trans (Spot.of_below hb2)).trans (Spot.of_grown hg3 hsg)
      have HST := Lib.hid st
      have HQ3 := Lib.hid q3
      have HR3 := Lib.hid r3
      have HM3 := Lib.hid m3
      have HS3 := Lib.hid s3
      clear st q3 r3 m3 s3 ho2 hg3
      go_wp2_with fail
      obtain ⟨w3, e3⟩ : ∃ q : World, q = w2.setCell ⟨g, j * 3, none⟩ (.string (markS p)) := ⟨_, rfl⟩
      rw [← e3]
      rw [← e3] at HST HQ3 HR3 HM3 HS3
      clear e3 d0 d1 f0
      refine (markBoolS_c w3 B A1 bs.length c1 _ (Nat.le_trans hr1 (by decide)) (p + 1) (by omega) (by omega) HQ3.out.1).mono ?_
      rintro e w4 ⟨rfl, hm1, hg4⟩
      have hbk1 : ∀ g, (Value.slice A1 bs.length c1).ownBlock = some g → blkS ⟨s, A1, c1, bs, A2, c2, xs⟩ g := fun _ h => .inl h
      have ho4 := HST.out.kept hg4 (own_types HST.out HQ3.out.1 (by decide))
      have q4 := HQ3.out.2.kept hg4 (own_types HQ3.out.2 HQ3.out.1 (by decide))
      have r4 := fun y hy => (HR3.out y hy).sep hbk1 (sep_symm (HSEP.out.2 y hy)) hg4
      have m4 := HM3.out.map fun y hy k h => h.sep hbk1 (HSEP.out.1 y hy) hg4
      have s4 := HS3.out.trans (Spot.of_grown hg4 (fun g hg => HDR.out g (.inl hg)))
      have d2 : w4.cell? ⟨g, j * 3 + 2, none⟩ = some (.slice A2 xs.length c2) := by
        rw [ho4.cellAt (j * 3 + 2) (by omega), List.getElem?_append_right (by rw [HC.out]; omega), HC.out, show j * 3 + 2 - j * 3 = 2 by omega]; rfl
      have HO4 := Lib.hid ho4
      have HQ4 := Lib.hid q4
      have HR4 := Lib.hid r4
      have HM4 := Lib.hid m4
      have HS4 := Lib.hid s4
      have HMB := Lib.hid hm1
      clear ho4 q4 r4 m4 s4 hm1 HST HQ3 HR3 HM3 HS3
      go_wp2_with fail
      refine (markFloat32S_c w4 B A2 xs.length c2 _ (Nat.le_trans hr2 (by decide)) (p + 1 + (bs.length : Nat)) (by omega) (by omega) HQ4.out).mono ?_
      rintro e w5 ⟨rfl, hm2, hg5⟩
      have hbk2 : ∀ g, (Value.slice A2 xs.length c2).ownBlock = some g → blkS ⟨s, A1, c1, bs, A2, c2, xs⟩ g := fun _ h => .inr h
      have ho5 := HO4.out.kept hg5 (own_types HO4.out HQ4.out (by decide))
      have q5 := HMB.out.kept hg5 (own_types HMB.out HQ4.out (by decide))
      have r5 := fun y hy => (HR4.out y hy).sep hbk2 (sep_symm (HSEP.out.2 y hy)) hg5
      have m5 := HM4.out.map fun y hy k h => h.sep hbk2 (HSEP.out.1 y hy) hg5
      have s5 := HS4.out.trans (Spot.of_grown hg5 (fun g hg => HDR.out g (.inr hg)))
      have HO5 := Lib.hid ho5
      have HMK := Lib.hid (show MkR w5 B p ⟨s, A1, c1, bs, A2, c2, xs⟩ from ⟨q5, hm2⟩)
      have HR5 := Lib.hid r5
      have HM5 := Lib.hid m5
      clear ho5 q5 r5 m5 hm2 HO4 HQ4 HR4 HM4 HS4 HMB d2
      go_wp2
      go_roundw
      case rel =>
        refine ⟨j + 1, p + 1 + (bs.length : Nat) + (xs.length : Nat), done ++ [⟨s, A1, c1, bs, A2, c2, xs⟩], rest', by omega, by go_num, rfl, Lib.hid ?_, Lib.hid ?_, Lib.hid ?_, Lib.hid ?_, Lib.hid ?_, HR5, s5⟩
        · rw [kAll_snoc, ← HP.out]
          rfl
        · rw [HY.out]
          simp
        · rw [List.length_append, HJ.out]
          rfl
        · have h := HO5.out
          rw [renA_snoc, ← HP.out]
          have e : savCells (renA k done ++ [{ s := markS p, A := A1, c := c1, bs := bs, A2 := A2, c2 := c2, xs := xs }] ++ rest') = savCells (renA k done) ++ .string (markS p) :: .slice A1 bs.length c1 :: .slice A2 xs.length c2 :: savCells rest' := by
            simp [savCells, savC]
          rw [e]
          exact h
        · refine HM5.out.snoc ?_
          rw [← HP.out]
          exact HMK.out
      case measure => simp [intOf]; omega
    · obtain rfl : j = n := by omega
      obtain rfl : rest = [] := List.eq_nil_of_length_eq_zero (by omega)
      have hy := HY.out
      rw [List.append_nil] at hy
      have hoo := HO.out
      rw [List.append_nil] at hoo
      have HOO := Lib.hid hoo
      have HYY := Lib.hid hy
      clear hoo hy
      go_wp2
      go_ret
      rw [HYY.out]
      exact ⟨by rw [← HP.out]; rfl, HOO.out, HM.out, hsp⟩


theorem renA_app : ∀ (xs ys : List SavH) (k : Int), renA k (xs ++ ys) = renA k xs ++ renA (kAll k xs) ys
  | [], _, _ => rfl
  | x :: xs, ys, k => by
    show renA k (x :: (xs ++ ys)) = _
    simp only [renA]
    rw [renA_app xs ys]
    rfl
set_option maxRecDepth 100000 in
set_option maxHeartbeats 1000000 in
theorem heldSavedS_c (w : World) (B : Nat) (A : Option Addr) (n cap : Nat) (ys : List SavH) (hl : ys.length = n) (hn : n ≤ 8) (hf : ∀ y ∈ ys, few y) (k : Int) (h0 : 0 ≤ k) (hk : k ≤ 1048576)
    (hx : Sl w w.heap.size A (savCells (renA k ys))) (hm : MkL w B k ys) :
    Calls Try.prog 28 #[.slice A n cap, .int .i64 k] w fun e w' => e = .returned (.int .i64 (kAll k ys)) ∧ Below w.heap.size w w' := by
  have HF := Lib.hid hf
  clear hf
  go_enter Try.func28, Try.ntmps28
  go_wp2
  go_loopw [1, 5] (fun q i wr => ∃ (j : Nat) (p : Int) (done rest : List SavH), j ≤ n ∧ i = .int .i64 j ∧ q = .int .i64 p ∧ Hid (p = kAll k done) ∧ Hid (ys = done ++ rest) ∧ Hid (done.length = j) ∧ Hid (MkL wr B p rest) ∧ Below w.heap.size w wr) (fun _ i _ => n - (intOf i).toNat)
  case atStart => exact ⟨0, k, [], ys, Nat.zero_le _, rfl, rfl, Lib.hid rfl, Lib.hid rfl, Lib.hid rfl, Lib.hid hm, Below.refl _ _⟩
  case round =>
    clear hm
    obtain ⟨j, p, done, rest, hj, rfl, rfl, HP, HY, HJ, HM, hb⟩ := hrel
    have hlen : done.length + rest.length = n := by have := congrArg List.length HY.out; rw [List.length_append, hl] at this; omega
    have hjl := HJ.out
    have hfd : ∀ y ∈ done, few y := fun y hy => HF.out y (by rw [HY.out]; exact List.mem_append_left _ hy)
    have hbd := kAll_bd done k hfd
    rw [← HP.out, hjl] at hbd
    have hp0 : 0 ≤ p := by omega
    have hp1 : p ≤ 1052664 := by omega
    clear hbd hfd
    by_cases hlt : j < n
    · obtain ⟨r, rest', rfl⟩ : ∃ r rest', rest = r :: rest' := by
        match rest, hlen with
        | [], h => simp at h; omega
        | r :: rest', _ => exact ⟨r, rest', rfl⟩
      have hrm : r ∈ ys := by rw [HY.out]; simp
      obtain ⟨hr1, hr2⟩ := HF.out r hrm
      obtain ⟨⟨hm1, hm2⟩, hm3⟩ := HM.out
      have hcl : (savCells (renA k done)).length = j * 3 := by rw [savCells_len, renA_len, hjl]; omega
      have hcs : savCells (renA k ys) = savCells (renA k done) ++ .string (markS p) :: .slice r.A r.bs.length r.c :: .slice r.A2 r.xs.length r.c2 :: savCells (renA (nextK p r) rest') := by
        rw [HY.out, renA_app, ← HP.out]
        simp [renA, savCells, savC]
      rw [hcs] at hx
      obtain ⟨b, off, rfl, hbb, hc⟩ := (hx.below hb).at_ (k := 0) (by simp; omega)
      have d0 : wr.cell? ⟨b, off + j * 3, none⟩ = some (.string (markS p)) := hc (j * 3) _ (by rw [List.getElem?_append_right (by omega), hcl, Nat.sub_self]; rfl)
      have d1 : wr.cell? ⟨b, off + j * 3 + 1, none⟩ = some (.slice r.A r.bs.length r.c) := hc (j * 3 + 1) _ (by rw [List.getElem?_append_right (by omega), hcl, show j * 3 + 1 - j * 3 = 1 by omega]; rfl)
      have d2 : wr.cell? ⟨b, off + j * 3 + 2, none⟩ = some (.slice r.A2 r.xs.length r.c2) := hc (j * 3 + 2) _ (by rw [List.getElem?_append_right (by omega), hcl, show j * 3 + 2 - j * 3 = 2 by omega]; rfl)
      have hz := hb.size
      obtain ⟨s, A1, c1, bs, A2, c2, xs⟩ := r
      simp only [] at hr1 hr2 hm1 hm2 d1 d2
      have HM1 := Lib.hid hm1
      have HM2 := Lib.hid hm2
      have HM3 := Lib.hid hm3
      clear hm1 hm2 hm3 hcl hcs hc hx hrm hlen
      go_wp2_with fail
      go_region_held3 (fun w' => w'.cell? ⟨b, off + j * 3, none⟩ = some (.string (markS p)))
        (first | exact d0' | exact d0)
        (first
          | (go_at_call 56; refine (markText_c wr.drew p hp0 (by omega)).mono ?_; rintro e w2 ⟨rfl, hb2⟩; have hb2 := below_undrew hb2; have d0' := (hb2.cell (p := ⟨b, off + j * 3, none⟩) (by simp only []; omega)).trans d0))
      have e1 := (hb2.cell (p := ⟨b, off + j * 3 + 1, none⟩) (by simp only []; omega)).trans d1
      have e2 := (hb2.cell (p := ⟨b, off + j * 3 + 2, none⟩) (by simp only []; omega)).trans d2
      have q1 := sl_of_own (own_below HM1.out hb2 (Nat.le_refl _))
      have q2 := sl_of_own (own_below HM2.out hb2 (Nat.le_refl _))
      have q3 := HM3.out.map fun y _ k h => h.below hb2 (Nat.le_refl _)
      have HQ1 := Lib.hid q1
      have HQ2 := Lib.hid q2
      have HQ3 := Lib.hid q3
      have hz2 := hb2.size
      clear q1 q2 q3 d0 d1 d2 d0' HM1 HM2 HM3
      go_wp2_with fail
      refine (heldBoolS_c w2 _ A1 bs.length c1 (Nat.le_trans hr1 (by decide)) (p + 1) (by omega) (by omega) HQ1.out).mono ?_
      rintro e w3 ⟨rfl, m3, rfl⟩
      have hk1 : (0 : Int) ≤ p + 1 + (bs.length : Nat) := by omega
      have e2' : (w2.drewN m3).cell? ⟨b, off + j * 3 + 2, none⟩ = some (.slice A2 xs.length c2) := e2
      go_wp2_with fail
      refine (heldFloat32S_c (w2.drewN m3) _ A2 xs.length c2 (Nat.le_trans hr2 (by decide)) (p + 1 + (bs.length : Nat)) (by omega) (by omega) (HQ2.out.drewN m3)).mono ?_
      rintro e w4 ⟨rfl, m4, rfl⟩
      have hk2 : (0 : Int) ≤ p + 1 + (bs.length : Nat) + (xs.length : Nat) := by omega
      go_wp2
      go_roundw
      case rel =>
        refine ⟨j + 1, p + 1 + (bs.length : Nat) + (xs.length : Nat), done ++ [⟨s, A1, c1, bs, A2, c2, xs⟩], rest', by omega, by go_num, rfl, Lib.hid ?_, Lib.hid ?_, Lib.hid ?_, Lib.hid ?_, below_drewN (hb.trans (hb2.mono hz)) _⟩
        · rw [kAll_snoc, ← HP.out]
          rfl
        · rw [HY.out]
          simp
        · rw [List.length_append, HJ.out]
          rfl
        · exact HQ3.out.map fun y _ k h => h.below (below_drewN (Below.refl w2.heap.size _) _) (Nat.le_refl _)
      case measure => simp [intOf]; omega
    · obtain rfl : j = n := by omega
      obtain rfl : rest = [] := List.eq_nil_of_length_eq_zero (by omega)
      have hy := HY.out
      rw [List.append_nil] at hy
      have HYY := Lib.hid hy
      clear hy
      go_wp2
      go_ret
      rw [HYY.out]
      exact ⟨by rw [← HP.out]; rfl, hb⟩

end Go.Proofs.Ytmkjlhobnlgpjaa
