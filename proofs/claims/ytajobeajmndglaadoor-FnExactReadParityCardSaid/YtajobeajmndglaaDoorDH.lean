/-
  Contracts: whole numbers read, by the program.
  Conditions: texts of at most 1048576 bytes; the table of the powers of ten lies there; strconv.ErrSyntax and strconv.ErrRange hold a value each.
-/
import Derived.Test.YtajobeajmndglaaDoorDG
import Derived.Test.YtajobeajmndglaaDoorCB
import Derived.Lib.AtoiErrMem
namespace Go.Proofs.YtajobeajmndglaaDoor
open Go.RowKit

def errAt (w : World) (g : Nat) : Prop := ∃ ev, w.cell? ⟨g, 0, none⟩ = some ev ∧ (ev = .nilIface ∨ ∃ te pe, ev = .iface te pe)
/-- the library's two errors of numbers lie there -/
def Errs (w : World) : Prop := errAt w 1 ∧ errAt w 2
theorem errAt.below {w w' : World} {g B : Nat} (h : errAt w g) (hb : Below B w w') (hB : w.heap.size ≤ B) : errAt w' g := by
  obtain ⟨ev, h1, h2⟩ := h
  have := World.block_lt_of_cell? _ _ h1
  exact ⟨ev, (hb.cell (p := ⟨g, 0, none⟩) (by simp only [] at this ⊢; omega)).trans h1, h2⟩
theorem Errs.below {w w' : World} {B : Nat} (h : Errs w) (hb : Below B w w') (hB : w.heap.size ≤ B) : Errs w' := ⟨h.1.below hb hB, h.2.below hb hB⟩
theorem cmpB_yes {a d : ByteArray} (h : a = d) : (a.toList == d.toList) = true := by rw [h]; simp
theorem cmpB_no {a d : ByteArray} (h : ¬ a = d) : (a.toList == d.toList) = false := by
  rw [beq_eq_false_iff_ne]
  intro he
  apply h
  cases a
  cases d
  rw [ByteArray.toList_mk, ByteArray.toList_mk] at he
  rw [Array.toList_inj.1 he]


/-- what it answers -/
def PiPost (w : World) (s : ByteArray) (e : Ending) (w' : World) : Prop :=
  (∃ n, Lib.parseIntB 64 s.data.toList = .ok n ∧ e = .returned (.tuple #[.int .i64 n, .nilIface]) ∧ Below w.heap.size w w') ∨ (∃ (n : Int) (t : TypeId) (p : Value), (∀ m, Lib.parseIntB 64 s.data.toList ≠ .ok m) ∧ e = .returned (.tuple #[.int .i64 n, .iface t p]) ∧ Below w.heap.size w w')
theorem in_ParseInt_c (w : World) (s : ByteArray) (hs : s.size ≤ 1048576) :
    Calls Tryd.prog 45 #[.string s, .int .i64 10, .int .i64 64] w fun e w' => (∃ n, Lib.parseIntB 64 s.data.toList = .ok n ∧ e = .returned (.tuple #[.int .i64 n, .nilIface]) ∧ Below w.heap.size w w') ∨ (∃ n : Int, (∀ m, Lib.parseIntB 64 s.data.toList ≠ .ok m) ∧ (e = .returned (.tuple #[.int .i64 n, .iface 77 (.int .i64 2)]) ∨ e = .returned (.tuple #[.int .i64 n, .iface 77 (.int .i64 1)])) ∧ Below w.heap.size w w') := by
  by_cases h0 : s.size = 0
  · have hs0 : s = ⟨#[]⟩ := by
      apply ByteArray.ext
      exact Array.eq_empty_of_size_eq_zero h0
    subst hs0
    refine (Tryd.internal_strconv_ParseInt_empty 10 64 w).mono ?_
    rintro e w' ⟨rfl, rfl⟩
    exact .inr ⟨0, (fun m h => by cases h), .inl rfl, Below.refl _ _⟩
  · refine (Tryd.internal_strconv_ParseInt_10_at64 s h0 (by omega) w).mono ?_
    rintro e w' ⟨rfl, hw⟩
    have hb : Below w.heap.size w w' := by
      rcases hw with rfl | ⟨t, rfl⟩
      · exact Below.refl _ _
      · exact Lib.bytesWorld_below _ _ _
    cases h : Lib.parseIntB 64 s.data.toList
    case ok n => exact .inl ⟨n, rfl, rfl, hb⟩
    · exact .inr ⟨0, (fun m h => by cases h), .inl rfl, hb⟩
    · exact .inr ⟨_, (fun m h => by cases h), .inr rfl, hb⟩
theorem te_syntax (W : World) (s : ByteArray) (hs : s.size ≤ 1048576) (he : Errs W) :
    Calls Tryd.prog 46 #[.string ⟨#[80, 97, 114, 115, 101, 73, 110, 116]⟩, .string s, .int .i64 10, .int .i64 64, .iface 77 (.int .i64 2)] W fun e w' => ∃ N, e = .returned (.iface 81 (.pointer (some ⟨N, 0, none⟩))) ∧ Below W.heap.size W w' := by
  obtain ⟨ev, hv, hev⟩ := he.1
  refine (Tryd.strconv_toError_syntax ⟨#[80, 97, 114, 115, 101, 73, 110, 116]⟩ s 10 64 ev W (by omega) hv hev).mono ?_
  rintro e w' ⟨N, rfl, _, _, hb⟩
  exact ⟨N, rfl, hb⟩
theorem te_range (W : World) (s : ByteArray) (hs : s.size ≤ 1048576) (he : Errs W) :
    Calls Tryd.prog 46 #[.string ⟨#[80, 97, 114, 115, 101, 73, 110, 116]⟩, .string s, .int .i64 10, .int .i64 64, .iface 77 (.int .i64 1)] W fun e w' => ∃ N, e = .returned (.iface 81 (.pointer (some ⟨N, 0, none⟩))) ∧ Below W.heap.size W w' := by
  obtain ⟨ev, hv, hev⟩ := he.2
  refine (Tryd.strconv_toError_range ⟨#[80, 97, 114, 115, 101, 73, 110, 116]⟩ s 10 64 ev W (by omega) hv hev).mono ?_
  rintro e w' ⟨N, rfl, _, _, hb⟩
  exact ⟨N, rfl, hb⟩
set_option maxRecDepth 100000 in
theorem ParseInt_c (w : World) (s : ByteArray) (hs : s.size ≤ 1048576) (he : Errs w) :
    Calls Tryd.prog 33 #[.string s, .int .i64 10, .int .i64 64] w (PiPost w s) := by
  unfold PiPost
  have HI := Lib.hid (in_ParseInt_c w s hs)
  have HS := Lib.hid (fun W (hW : Below w.heap.size w W) => te_syntax W s hs (he.below hW (Nat.le_refl _)))
  have HR := Lib.hid (fun W (hW : Below w.heap.size w W) => te_range W s hs (he.below hW (Nat.le_refl _)))
  clear he
  go_enter Tryd.func33, Tryd.ntmps33
  go_wp2_with fail
  refine HI.out.mono ?_
  rintro e w1 (⟨n, hn, rfl, hb1⟩ | ⟨n, hn, (rfl | rfl), hb1⟩)
  · have HN := Lib.hid hn
    clear hn
    go_wp2
    go_ret2
    exact .inl ⟨n, HN.out, rfl, hb1⟩
  · have HN := Lib.hid hn
    clear hn
    go_wp2_with (go_at_call 46; refine (HS.out w1 hb1).mono ?_; rintro e w2 ⟨N, rfl, hb2⟩)
    go_ret2
    exact .inr ⟨n, _, _, HN.out, rfl, hb1.trans (hb2.mono hb1.size)⟩
  · have HN := Lib.hid hn
    clear hn
    go_wp2_with (go_at_call 46; refine (HR.out w1 hb1).mono ?_; rintro e w2 ⟨N, rfl, hb2⟩)
    go_ret2
    exact .inr ⟨n, _, _, HN.out, rfl, hb1.trans (hb2.mono hb1.size)⟩


theorem impl_isValueZ_c (w : World) (x : Int) : Calls Tryd.prog 34 #[.int .i64 x] w fun e w' => e = .returned (.bool (inB x (-1000000000000000) 1000000000000000)) ∧ w = w' := by
  have hw := impl_within_c w x (-1000000000000000) 1000000000000000
  go_enter Tryd.func34, Tryd.ntmps34
  go_wp2_with fail
  refine hw.mono ?_
  rintro e w' ⟨rfl, rfl⟩
  go_wp2
  go_ret
  exact ⟨rfl, rfl⟩
/-- a number that may be none, as two results -/
noncomputable def vz (s : ByteArray) : Value := .tuple #[.int .i64 ((valZ s).getD 0), .bool (valZ s).isSome]
set_option maxRecDepth 100000 in
theorem impl_ReadDecimal_c (w : World) (s : ByteArray) (hs : s.size ≤ 1048576) (ht : Tab w) (he : Errs w) :
    Calls Tryd.prog 23 #[.string s] w fun e w' => e = .returned (vz s) ∧ Below w.heap.size w w' := by
  have HP := Lib.hid (ParseInt_c w s hs he)
  have HT := Lib.hid ht
  clear ht he
  go_enter Tryd.func23, Tryd.ntmps23
  go_wp2_with fail
  refine HP.out.mono ?_
  rintro e w1 (⟨n, hn, rfl, hb1⟩ | ⟨n, t, p, hn, rfl, hb1⟩)
  · have HV := Lib.hid (impl_isValueZ_c w1 n)
    cases hi : inB n (-1000000000000000) 1000000000000000
    · have hno : valZ s = none := valZ_parse fun m hm ho => by
        rw [hn] at hm
        injection hm with hm
        subst hm
        have := inB_true.2 ⟨ho.1, ho.2.1⟩
        rw [hi] at this
        cases this
      have HNO := Lib.hid hno
      have HI := Lib.hid hi
      clear hno hn hi HP
      go_wp2_with (go_at_call 34; refine HV.out.mono ?_; rintro e w' ⟨rfl, rfl⟩; rw [HI.out])
      go_ret2
      exact ⟨by unfold vz; rw [HNO.out]; rfl, hb1⟩
    · obtain ⟨h0, h1⟩ := inB_true.1 hi
      have HD := Lib.hid (impl_DecimalZ_c w1 n h0 h1 (HT.out.below hb1 (Nat.le_refl _)))
      have HI := Lib.hid hi
      clear hi
      by_cases hd : decZ n = s
      · have hcb := cmpB_yes hd
        have HY := Lib.hid (valZ_yes (s := s) (n := n) ⟨h0, h1, hd⟩)
        clear hd hn HP
        generalize decZ n = q at hcb HD
        go_wp2_with (first
          | (go_at_call 34; refine HV.out.mono ?_; rintro e w' ⟨rfl, rfl⟩; rw [HI.out])
          | (go_at_call 35; refine HD.out.mono ?_; rintro e w2 ⟨rfl, hb2⟩))
        go_ret2
        exact ⟨by unfold vz; rw [HY.out]; rfl, hb1.trans (hb2.mono hb1.size)⟩
      · have hcb := cmpB_no hd
        have hno : valZ s = none := valZ_parse fun m hm ho => by
          rw [hn] at hm
          injection hm with hm
          subst hm
          exact hd ho.2.2
        have HNO := Lib.hid hno
        clear hd hn hno HP
        generalize decZ n = q at hcb HD
        go_wp2_with (first
          | (go_at_call 34; refine HV.out.mono ?_; rintro e w' ⟨rfl, rfl⟩; rw [HI.out])
          | (go_at_call 35; refine HD.out.mono ?_; rintro e w2 ⟨rfl, hb2⟩))
        go_ret2
        exact ⟨by unfold vz; rw [HNO.out]; rfl, hb1.trans (hb2.mono hb1.size)⟩
  · have HNO := Lib.hid (valZ_parse (s := s) fun m hm _ => hn m hm)
    clear hn HP
    go_wp2
    go_ret2
    exact ⟨by unfold vz; rw [HNO.out]; rfl, hb1⟩

end Go.Proofs.YtajobeajmndglaaDoor
