/-
  Contracts: numbers in decimal, of both.
  Conditions: numbers from 0 to 1000000000; internal/strconv.uint64pow10's cells hold the powers of ten.
-/
import Derived.Test.YtajobeajmndglaaDoorDZ
import Derived.Test.YtajobeajmndglaaDoorM
import Derived.Test.YtajobeajmndglaaDoorLN
import Derived.OwnWalk
import Derived.IntWalk
import Derived.Laws.BytesArg
namespace Go.Proofs.YtajobeajmndglaaDoor
open Go.RowKit

/-- the table of the powers of ten lies there -/
def Tab (w : World) : Prop := Lib.TabIs Tryd.prog w "internal/strconv.uint64pow10" .u64 Lib.pow10Tab
theorem Tab.below {w w' : World} {D : Nat} (h : Tab w) (hb : Below D w w') (hD : w.heap.size ≤ D) : Tab w' := by
  unfold Tab Lib.TabIs World.var? at h ⊢
  cases hg : Tryd.prog.globalNamed "internal/strconv.uint64pow10" with
  | none => simp [hg] at h
  | some g =>
    simp only [hg, Option.bind_some] at h ⊢
    have hlt : g < w.heap.size := by
      rcases Nat.lt_or_ge g w.heap.size with h' | h'
      · exact h'
      · simp [Array.getElem?_eq_none h'] at h
    rw [hb.block g (by omega)]
    exact h
theorem Tab.drewN {w : World} (h : Tab w) (n : Nat) : Tab (w.drewN n) := h
/-- a number's text -/
def decS (n : Nat) : ByteArray := ⟨(Lib.decDigits n).toArray⟩
theorem itoa_nat (n : Nat) : Lib.itoa (n : Int) = Lib.decDigits n := by unfold Lib.itoa; rw [if_neg (by omega)]; simp

theorem below_gro (w : World) (k : Nat) (os : Array Obj) : Below w.heap.size w (Go.Sort.grow (w.drewN k) os) := by
  refine ⟨rfl, rfl, rfl, ?_, fun i hi => ?_⟩
  · show w.heap.size ≤ (w.heap ++ os).size
    rw [Array.size_append]
    omega
  · show (w.heap ++ os)[i]? = _
    rw [Array.getElem?_append_left hi]


theorem impl_Decimal_c (w : World) (n : Nat) (hn : n ≤ 1000000000) (ht : Tab w) : Calls Tryd.prog 35 #[.int .i64 (n : Int)] w fun e w' => e = .returned (.string (decS n)) ∧ Below w.heap.size w w' := by
  have hF := Tryd.strconv_FormatInt_10 (n : Int) (by omega) (by omega) w ht
  rw [itoa_nat] at hF
  have HF := Lib.hid hF
  clear hF ht
  go_enter Tryd.func35, Tryd.ntmps35
  go_wp2_with fail
  refine HF.out.mono ?_
  rintro e w' ⟨rfl, k, os, rfl⟩
  go_wp2
  go_ret
  exact ⟨rfl, below_gro _ _ _⟩


theorem infoUint8 : (Tryd.prog.info? 5).map (fun i => (i.zero, i.size, i.bytes)) = some (some (.int .u8 0), 1, 1) := by kernel_rfl
def u8V (xs : List Int) : List Value := xs.map (Value.int .u8)
def lenV : Value → Nat
  | .slice _ n _ => n
  | _ => 0
/-- the digits of a number -/
def decI (n : Nat) : List Int := (Lib.decDigits n).map fun b => (b.toNat : Int)
theorem decI_small {n : Nat} (h : n < 10) : decI n = [48 + (n : Int)] := by
  unfold decI
  rw [Lib.decDigits, dif_pos h]
  simp [UInt8.toNat_ofNat']
  omega
theorem decI_big {n : Nat} (h : ¬ n < 10) : decI n = decI (n / 10) ++ [48 + (n : Int) % 10] := by
  unfold decI
  rw [Lib.decDigits, dif_neg h, List.map_append]
  congr 1
  simp [UInt8.toNat_ofNat']
  omega
theorem dec_back (n : Nat) : strOfNums (decI n) = decS n := by
  unfold strOfNums decS decI
  rw [List.map_map]
  congr 2
  conv => rhs; rw [← List.map_id (Lib.decDigits n)]
  apply List.map_congr_left
  intro b _
  simp
/-- how far the digits are told: those told, the rest -/
def DecAt (n q : Nat) (L : List Int) : Prop := (L = [] ∧ q = n) ∨ (L ≠ [] ∧ decI n = (if q = 0 then [] else decI q) ++ L)
theorem decAt_step {n q : Nat} {L : List Int} (h : DecAt n q L) (hg : L = [] ∨ q ≠ 0) : DecAt n (q / 10) ((48 + (q : Int) % 10) :: L) := by
  have hd : decI q = (if q / 10 = 0 then [] else decI (q / 10)) ++ [48 + (q : Int) % 10] := by
    by_cases h10 : q < 10
    · rw [if_pos (by omega), decI_small h10]
      have : (q : Int) % 10 = q := by omega
      rw [this]
      rfl
    · rw [if_neg (by omega), decI_big h10]
  refine .inr ⟨by simp, ?_⟩
  rcases h with ⟨rfl, rfl⟩ | ⟨h1, h2⟩
  · exact hd
  · rcases hg with rfl | hq
    · exact absurd rfl h1
    · rw [if_neg hq, hd] at h2
      rw [h2]
      simp
set_option maxRecDepth 100000 in
set_option maxHeartbeats 1000000 in
theorem spec_l01Dec_c (w : World) (n : Nat) (hn : n ≤ 1000000000) : Calls Tryd.prog 42 #[.int .i64 (n : Int)] w fun e w' => e = .returned (.string (decS n)) ∧ Below w.heap.size w w' := by
  go_enter Tryd.func42, Tryd.ntmps42
  go_wp2
  go_loopw [3, 4] (fun v i wr => ∃ (q : Nat) (L : List Int), i = .int .i64 q ∧ Hid (DecAt n q L) ∧ L.length + q ≤ n + 1 ∧ Hid (Ow wr w.heap.size 5 v (u8V L)) ∧ Below w.heap.size w wr) (fun v i _ => (intOf i).toNat + if lenV v = 0 then 1 else 0)
  case atStart => exact ⟨n, [], rfl, Lib.hid (.inl ⟨rfl, rfl⟩), by simp, Lib.hid (own_empty _ _ _ (Nat.le_refl _)), (Below.refl _ _).alloc (Nat.le_refl _) _⟩
  case round =>
    obtain ⟨q, L, rfl, HD, hlen, HO, hb⟩ := hrel
    have hz := hb.size
    obtain ⟨A, cap, rfl, hp⟩ := HO.out.opn
    obtain ⟨K, hK⟩ : ∃ K, L.length = K := ⟨_, rfl⟩
    rw [hK] at hp hlen ⊢
    have HP := Lib.hid hp
    have HK := Lib.hid hK
    clear hp hK HO
    by_cases hgo : K = 0 ∨ (K ≠ 0 ∧ q ≠ 0)
    · have hLe : L = [] ∨ q ≠ 0 := by
        rcases hgo with h | h
        · exact .inl (List.eq_nil_of_length_eq_zero (by rw [HK.out]; exact h))
        · exact .inr h.2
      have HS := Lib.hid (decAt_step HD.out hLe)
      have hq10 : (q : Int) % 10 < 10 := by omega
      clear hLe HD
      have hnew : Ow (wr.alloc (.cells #[.int .u8 (48 + (q : Int) % 10)] 5)) w.heap.size 5 (.slice (some ⟨wr.heap.size, 0, none⟩) 1 1) [.int .u8 (48 + (q : Int) % 10)] := World.ownsRow_lit wr #[.int .u8 (48 + (q : Int) % 10)] 1 hz (by decide) rfl
      have hsl := (sl_of_own HP.out).alloc (Nat.le_refl _) (.cells #[.int .u8 (48 + (q : Int) % 10)] 5)
      have hone : ∀ u ∈ u8V L, u.oneCell' = true := one_int
      have HN := Lib.hid hnew
      have HSL := Lib.hid hsl
      have HON := Lib.hid hone
      clear hnew hsl hone
      rcases hgo with h | h
      case' inl =>
        subst h
        have h0 : ((((0 : Nat) : Int)) == 0) = true := rfl
      case' inr =>
        obtain ⟨hk1, hq1⟩ := h
        have h0 : ((q : Int) == 0) = false := by rw [beq_eq_false_iff_ne]; omega
        have h00 : ((K : Int) == 0) = false := by rw [beq_eq_false_iff_ne]; omega
      all_goals
        go_wp2_with (at_builtin; go_must (refine appS Tryd.underlying72 infoUint8 rfl (by decide) rfl _ _ rfl w.heap.size _ [Value.int .u8 (48 + (q : Int) % 10)] rfl HN.out _ A _ cap (u8V L) rfl (by unfold u8V; rw [List.length_map]; exact HK.out) HSL.out HON.out (by simp <;> omega) (by simp <;> omega) ?_); intro v' w1 ho1 hb1)
        go_roundw
        case rel =>
          refine ⟨q / 10, (48 + (q : Int) % 10) :: L, by go_num, HS, by rw [List.length_cons, HK.out]; omega, Lib.hid ho1, (hb.alloc hz _).trans hb1⟩
        case measure =>
          obtain ⟨A', cap', rfl, _⟩ := Ow.sl ho1
          simp [intOf, lenV]
          omega
    · have hK1 : K ≠ 0 := by omega
      have hq0 : q = 0 := by omega
      have hfin : decI n = L := by
        rcases HD.out with ⟨h1, _⟩ | ⟨_, h2⟩
        · rw [h1] at HK
          exact absurd HK.out.symm hK1
        · rw [if_pos hq0] at h2
          exact h2
      obtain ⟨g, c', hv, hbg, hgs⟩ := HP.out.form (by omega)
      injection hv with hv
      subst hv
      have hcv := run_convert_bytes_arg (P := Tryd.prog) wr 72 5 Tryd.underlying72 Tryd.underlying5 g 0 K c' L HK.out (fun i hi => by
        rw [Nat.zero_add, World.ownsRow.cellAt HP.out i (by omega)]
        have hil : i < L.length := by rw [HK.out]; exact hi
        simp [List.getD, hil]) 9 Tryd.underlying9
      rw [← hfin, dec_back] at hcv
      have h0 : ((K : Int) == 0) = false := by rw [beq_eq_false_iff_ne]; omega
      have h1 : ((q : Int) == 0) = true := by rw [hq0]; rfl
      clear hgo hfin HP HK HD
      go_wp2
      go_ret
      exact ⟨rfl, hb⟩

end Go.Proofs.YtajobeajmndglaaDoor
