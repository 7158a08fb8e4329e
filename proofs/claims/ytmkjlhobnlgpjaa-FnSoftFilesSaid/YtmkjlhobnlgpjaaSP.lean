/-
  Contracts: the bytes of what is saved, of the reference.
  Conditions: names of at most 8 bytes, at most 160 bits and numbers.
-/
import Derived.Test.YtmkjlhobnlgpjaaST
import Derived.ArgAppend
import Derived.Lib.SlBytesConst
import Derived.Lib.AppendStr
import Derived.OwnWalk
import Derived.IntWalk
namespace Go.Proofs.Ytmkjlhobnlgpjaa
open Go.RowKit

theorem below_bytes (w : World) (e : TypeId) (s : ByteArray) : Below w.heap.size w (Lib.bytesWorld w e s) :=
  ⟨rfl, rfl, rfl, by rw [Lib.bytesWorld_size]; omega, fun k hk => Lib.bytesWorld_at_old w e s k hk⟩
theorem sl_bytes (w : World) (e : TypeId) (s : ByteArray) : Sl (Lib.bytesWorld w e s) (w.heap.size + 1) (some ⟨w.heap.size, 0, none⟩) ((nameL s).map (Value.int .u8)) := by
  refine .inr ⟨w.heap.size, 0, rfl, by omega, fun j u hu => ?_⟩
  have hj : j < s.size := by
    have := (List.getElem?_eq_some_iff.1 hu).1
    rw [List.length_map, nameL_len] at this
    exact this
  rw [Nat.zero_add, Lib.bytesWorld_cell w e s j hj, ← hu]
  have hj2 : j < s.data.toList.length := by rw [Array.length_toList]; exact hj
  simp only [nameL, List.getD, List.map_map, List.getElem?_map, List.getElem?_eq_getElem hj2]
  rfl

/-- append of one element to a row that is full, wherever it lies -/
theorem appFull {P : Program} {t e : TypeId} (ht : P.underlying t = some (.slice e)) {z : Value} {bytes : Nat} (hi : (P.info? e).map (fun i => (i.zero, i.size, i.bytes)) = some (some z, 1, bytes)) (hz : z.cells.size = 1) (hby : bytes ≤ 64)
    {w : World} {ops : Array Oper} {rest : List Oper} {o : Oper} {a : Act} {Q : Exit → Act → World → Prop} (hgd : o.guard = none) (s x : Operand)
    (ho : o.op = .call { callee := .builtin .append, args := #[s, x], argTypes := #[t, t] }) (base G n : Nat) (olds : List Value) (hs : a.eval s = .slice (some ⟨G, 0, none⟩) n n) (hlo : olds.length = n) (holds : ∀ j u, olds[j]? = some u → w.cell? ⟨G, j, none⟩ = some u)
    (g c : Nat) (u : Value) (hx : a.eval x = .slice (some ⟨g, 0, none⟩) 1 c) (hc : w.cell? ⟨g, 0, none⟩ = some u) (h1 : u.oneCell' = true)
    (hlen : n + 1 ≤ 1099511627776) (hbase : base ≤ w.heap.size)
    (h : ∀ v' w', Ow w' base e v' (olds ++ [u]) → Below base w w' → wpList P ops Q rest (a.put o.dst v') w') : wpList P ops Q (o :: rest) a w := by
  obtain ⟨i, hi1, hi2, hi3, hi4⟩ := info_ok hi
  refine wpList_append_grows (P := P) w hgd s x t ho e i z 1 bytes ht hi1 hi2 hi3 hi4 hz (by decide) (some ⟨G, 0, none⟩) n n olds hs (by intro h; cases h) (by omega) ?_ ⟨g, 0, none⟩ 1 c [u] hx rfl ?_ (by simpa using h1) (by omega) (by unfold maxLen; omega) ?_ ?_
  · intro b hb j u hu
    injection hb with hb
    subst hb
    have e1 : (⟨G, 0, none⟩ : Addr).add j = ⟨G, j, none⟩ := by unfold Addr.add; split <;> simp_all
    rw [e1]
    exact holds j u hu
  · intro j u' hu
    cases j with
    | zero => cases hu; exact hc
    | succ j => cases hu
  · have h2 : (n + 1) * bytes ≤ 1099511627776 * 64 := Nat.mul_le_mul hlen hby
    omega
  · intro v' w' h2 h3
    refine h v' w' ?_ ((Below.refl base w).grown h3 hbase fun k hk => by cases hk)
    unfold Ow
    rw [List.length_append, hlo]
    exact own_base h2 hbase

def u8V (xs : List Int) : List Value := xs.map (Value.int .u8)
theorem one_u8 {xs : List Int} : ∀ u ∈ u8V xs, u.oneCell' = true := one_int
theorem pkH_half (bs : List Bool) (i : Nat) {t : Nat} (h : t ≤ 7) : 0 ≤ pkH bs i t ∧ pkH bs i t ≤ 127 := by
  have h1 := pkH_bd bs i t
  have h2 : (2 : Int) ^ t ≤ 2 ^ 7 := by
    have := Nat.pow_le_pow_right (show 0 < 2 by decide) h
    exact_mod_cast this
  have h3 : (2 : Int) ^ 7 = 128 := by decide
  omega
theorem pkH_byte (bs : List Bool) (i : Nat) {t : Nat} (h : t ≤ 8) : 0 ≤ pkH bs i t ∧ pkH bs i t ≤ 255 := by
  have h1 := pkH_bd bs i t
  have h2 : (2 : Int) ^ t ≤ 2 ^ 8 := by
    have := Nat.pow_le_pow_right (show 0 < 2 by decide) h
    exact_mod_cast this
  have h3 : (2 : Int) ^ 8 = 256 := by decide
  omega
theorem litNew (w : World) (C : Array Value) (e : TypeId) (m : Nat × Nat) (j : Nat) : (w.alloc (.cells C e m)).cell? ⟨w.heap.size, j, none⟩ = C[j]? := by
  have h := cell_of_row (w.alloc (.cells C e m)) w.heap.size j C e m (heap_alloc_new w _)
  rw [h]
theorem sft_cells (w : World) (e : TypeId) (m : Nat × Nat) (o : Obj) (j : Nat) (u : Value) (h : (u8V [83, 70, 84, 49])[j]? = some u) : ((w.alloc (.cells #[.int .u8 83, .int .u8 70, .int .u8 84, .int .u8 49] e m)).alloc o).cell? ⟨w.heap.size, j, none⟩ = some u := by
  rw [World.cell?_alloc_old _ _ _ (by simp), litNew, ← h]
  simp [u8V]
theorem cellNew (w : World) (u : Value) (e : TypeId) (k : Nat) (h : k = w.heap.size) : (w.alloc (.cells #[u] e)).cell? ⟨k, 0, none⟩ = some u := by
  subst h
  exact cell_new1 w u e

theorem three {w w' : World} {b o : Nat} {u0 u1 u2 : Value} (hb : Below w.heap.size w w') (hz : b < w.heap.size) (h0 : w.cell? ⟨b, o, none⟩ = some u0) (h1 : w.cell? ⟨b, o + 1, none⟩ = some u1) (h2 : w.cell? ⟨b, o + 2, none⟩ = some u2) :
    w'.cell? ⟨b, o, none⟩ = some u0 ∧ w'.cell? ⟨b, o + 1, none⟩ = some u1 ∧ w'.cell? ⟨b, o + 2, none⟩ = some u2 :=
  ⟨(hb.cell (p := ⟨b, o, none⟩) hz).trans h0, (hb.cell (p := ⟨b, o + 1, none⟩) hz).trans h1, (hb.cell (p := ⟨b, o + 2, none⟩) hz).trans h2⟩
theorem pkH_next (bs : List Bool) (m e : Nat) (he : e < 8) : pkH bs m (8 - e) = 2 * pkH bs m (7 - e) + bI (bs.getD (m + e) false) := by
  obtain ⟨t, ht⟩ : ∃ t, 7 - e = t := ⟨_, rfl⟩
  have h1 : 8 - e = t + 1 := by omega
  rw [ht, h1, pkH]
  have h2 : 7 - t = e := by omega
  rw [h2]
theorem pkH_all (bs : List Bool) (k : Nat) : pkH bs (8 * k) 8 = pkL bs (8 * k) 8 := pk_same bs _
theorem hd2_len (s : ByteArray) (bs : List Bool) : (hd2 s bs).length = s.size + 6 := by simp [hd2, hd1, nameL_len]
theorem chN8 (n : Nat) (hn : n ≤ 160) : chN 8 n ≤ 20 := by unfold chN; omega
theorem chN8_eq {n k : Nat} (h1 : 8 * k ≤ n + 7) (h2 : ¬ 8 * k < n) : k = chN 8 n := by unfold chN; omega
theorem hd3_len (s : ByteArray) (bs : List Bool) (xs : List Nat) : (hd3 s bs xs).length = s.size + 7 + chN 8 bs.length := by simp [hd3, hd2_len, pkBytes_len]; omega
theorem getD_of {bs : List Bool} {j : Nat} (h : j < bs.length) : bs.getD j false = bs[j] := by simp [List.getD, h]
theorem getD_no {bs : List Bool} {j : Nat} (h : ¬ j < bs.length) : bs.getD j false = false := by simp [List.getD, List.getElem?_eq_none (by omega : bs.length ≤ j)]
theorem canB_bd {x : Nat} (h : x < 4294967296) : canB x < 4294967296 := by unfold canB; split <;> omega

theorem conv_own {w : World} {base : Nat} {v : Value} {L : List Int} (ho : Ow w base 5 v (u8V L)) (hL : 0 < L.length) : ∃ g cap, v = .slice (some ⟨g, 0, none⟩) L.length cap ∧ (convert 48 9 (.slice (some ⟨g, 0, none⟩) L.length cap)).run Try.prog w = .ok (.string (strOfNums L)) w ∧ Ow w base 5 (.slice (some ⟨g, 0, none⟩) L.length cap) (u8V L) := by
  have hlen : (u8V L).length = L.length := List.length_map _
  have ho2 := ho
  obtain ⟨g, cap, hv, _⟩ := ho2.form (by omega)
  subst hv
  have hc := fun k hk => World.ownsRow.cellAt ho k hk
  rw [hlen] at hc ho
  refine ⟨g, cap, by rw [hlen], ?_, ho⟩
  refine run_convert_bytes_arg w 48 5 Try.underlying48 Try.underlying5 g 0 L.length cap L rfl (fun i hi => ?_) 9 Try.underlying9
  rw [Nat.zero_add, hc i (by omega)]
  simp [u8V, List.getD, hi]
theorem cells4 (w : World) (e : TypeId) (a b c d : Value) (j : Nat) (u : Value) (h : [a, b, c, d][j]? = some u) : (w.alloc (.cells #[a, b, c, d] e)).cell? ⟨w.heap.size, j, none⟩ = some u := by
  rw [litNew, ← h]
  simp
theorem cells2 (w : World) (e : TypeId) (a b : Value) (j : Nat) (u : Value) (h : [a, b][j]? = some u) : (w.alloc (.cells #[a, b] e)).cell? ⟨w.heap.size, j, none⟩ = some u := by
  rw [litNew, ← h]
  simp
theorem chkS_bd (s : ByteArray) : 0 ≤ chkS s ∧ chkS s < 65003 := chkK_bd s s.size
theorem fours_step {L : List Int} {xs : List Nat} {k : Nat} (hk : k < xs.length) : u8V (L ++ fours xs k) ++ [.int .u8 ((canB xs[k] : Int) % 256), .int .u8 ((canB xs[k] : Int) / 256 % 256), .int .u8 ((canB xs[k] : Int) / 65536 % 256), .int .u8 ((canB xs[k] : Int) / 16777216)] = u8V (L ++ fours xs (k + 1)) := by
  rw [fours_succ hk]
  simp [u8V, four]
theorem headL_len (s : ByteArray) (bs : List Bool) (xs : List Nat) : (headL s bs xs).length = s.size + 7 + chN 8 bs.length + 4 * xs.length := by
  unfold headL
  rw [List.length_append, hd3_len, fours_len (Nat.le_refl _)]

set_option maxRecDepth 100000 in
set_option maxHeartbeats 4000000 in
theorem spec_l07Store_c (w : World) (b o B : Nat) (s : ByteArray) (hs : s.size ≤ 8) (A : Option Addr) (n cap : Nat) (bs : List Bool) (hl : bs.length = n) (hn : n ≤ 160) (hx : Sl w B A (bs.map Value.bool)) (A2 : Option Addr) (n2 cap2 : Nat) (xs : List Nat) (hl2 : xs.length = n2) (hn2 : n2 ≤ 160) (hx2 : Sl w B A2 (xs.map (Value.float .f32))) (hf : ∀ x ∈ xs, x < 4294967296)
    (h0 : w.cell? ⟨b, o, none⟩ = some (.string s)) (h1 : w.cell? ⟨b, o + 1, none⟩ = some (.slice A n cap)) (h2 : w.cell? ⟨b, o + 2, none⟩ = some (.slice A2 n2 cap2)) (hbz : b < w.heap.size) (hBz : B ≤ w.heap.size) :
    Calls Try.prog 42 #[.pointer (some ⟨b, o, none⟩)] w fun e w' => e = .returned (.string (storeS s bs xs)) ∧ Below w.heap.size w w' := by
  have hcv := fun W : World => Lib.run_convert_string_bytes (P := Try.prog) W 9 48 5 s Try.underlying9 Try.underlying48 Try.underlying5
  have kc := fun (w : World) (C : Array Value) (n c : Nat) => Lib.run_convert_bytes_const (P := Try.prog) w 48 5 C n c Try.underlying48 Try.underlying5
  have hw1 : IntKind.u8.wrap (s.size : Int) = (s.size : Int) := IntWalk.u8_in _ (by omega)
  have hw2 : IntKind.u8.wrap (n : Int) = (n : Int) := IntWalk.u8_in _ (by omega)
  have hw3 : IntKind.u8.wrap (n2 : Int) = (n2 : Int) := IntWalk.u8_in _ (by omega)
  have HH := Lib.hid (And.intro h0 (And.intro h1 h2))
  have e2 : u8V [83, 70, 84, 49] ++ [Value.int .u8 (s.size : Int)] ++ (nameL s).map (Value.int .u8) ++ [Value.int .u8 (n : Int)] = u8V (hd2 s bs) := by
    simp [u8V, hd2, hd1, hl]
  have hnl := nameL_len s
  have E2 := Lib.hid e2
  have NL := Lib.hid hnl
  clear e2 hnl
  go_enter Try.func42, Try.ntmps42
  go_wp2_with (first
    | (at_builtin; refine appFull Try.underlying48 infoUint8 rfl (by decide) rfl (.tmp 11) (.tmp 18) rfl w.heap.size _ 4 (u8V [83, 70, 84, 49]) rfl rfl (sft_cells _ _ _ _) _ _ (.int .u8 (s.size : Int)) rfl (cellNew _ _ _ _ (by simp)) rfl (by decide) (by simp; omega) ?_; intro v1 w1 ho1 hb1; have B1 := ((((Below.refl w.heap.size w).alloc (Nat.le_refl _) _).alloc (by simp) _).trans hb1); obtain ⟨c0, c1, c2⟩ := three B1 hbz HH.out.1 HH.out.2.1 HH.out.2.2)
    | (at_builtin; refine appS Try.underlying48 infoUint8 rfl (by decide) rfl (.tmp 20) (.tmp 25) rfl w.heap.size _ _ rfl (own_below ho1 (below_bytes _ _ _) (Nat.le_refl _)) _ _ _ _ _ rfl (by rw [List.length_map, NL.out]) (sl_bytes _ _ _) one_int (by simp [u8V]; omega) (Nat.le_trans B1.size (below_bytes _ _ _).size) ?_; intro v2 w2 ho2 hb2; have B2 := B1.trans (((below_bytes _ _ _).mono B1.size).trans hb2); obtain ⟨d0, d1, d2⟩ := three B2 hbz HH.out.1 HH.out.2.1 HH.out.2.2)
    | (at_builtin; refine app1 Try.underlying48 infoUint8 rfl (by decide) rfl (.tmp 27) (.tmp 34) rfl w.heap.size _ _ rfl (World.ownsRow.alloc ho2 _) _ _ _ rfl (cell_new1 _ _ _) rfl (by simp [u8V, NL.out]; omega) (Nat.le_trans B2.size (by simp)) ?_; intro v3 w3 ho3 hb3; have B3 := (B2.alloc B2.size _).trans hb3; obtain ⟨f0, f1, f2⟩ := three B3 hbz HH.out.1 HH.out.2.1 HH.out.2.2))
  rw [E2.out] at ho3
  clear c0 c1 c2 d0 d1 d2 hb1 hb2 hb3 ho1 ho2
  go_loopw [3, 4] (fun v i wr => ∃ k m : Nat, Hid (m = 8 * k) ∧ m ≤ n + 7 ∧ i = .int .i64 m ∧ Ow wr w.heap.size 5 v (u8V (hd2 s bs ++ pkBytes bs k)) ∧ Below w.heap.size w wr) (fun _ i _ => n + 8 - (intOf i).toNat)
  case atStart => exact ⟨0, 0, Lib.hid rfl, by omega, rfl, by simpa [pkBytes] using ho3, B3⟩
  case round =>
    clear f0 f1 f2 ho3 B3
    obtain ⟨k, m, HM, hm, rfl, ho, hb⟩ := hrel
    obtain ⟨c0, c1, c2⟩ := three hb hbz HH.out.1 HH.out.2.1 HH.out.2.2
    have hz := hb.size
    by_cases hlt : m < n
    · have hkl : k ≤ 20 := by have := HM.out; omega
      have hol : (u8V (hd2 s bs ++ pkBytes bs k)).length ≤ 100 := by
        unfold u8V
        rw [List.length_map, List.length_append, hd2_len, pkBytes_len]
        omega
      obtain ⟨wr1, rfl⟩ : ∃ q : World, q = wr := ⟨_, rfl⟩
      have hX := hx.below (hb.mono hBz)
      go_wp2_with fail
      go_loop [5, 6] (fun x j => ∃ d : Nat, d ≤ 8 ∧ j = .int .i64 ((d : Int) - 1) ∧ x = .int .u8 (pkH bs m (8 - d))) (fun _ j => (intOf j + 1).toNat)
      case atStart => exact ⟨8, Nat.le_refl _, rfl, rfl⟩
      case round =>
        obtain ⟨d, hd, rfl, rfl⟩ := hrel
        cases d with
        | zero =>
          have hpk := pkH_byte bs m (t := 8) (Nat.le_refl _)
          have hst : u8V (hd2 s bs ++ pkBytes bs k) ++ [Value.int .u8 (pkH bs m 8)] = u8V (hd2 s bs ++ pkBytes bs (k + 1)) := by
            rw [pkBytes_succ, ← List.append_assoc, HM.out, pkH_all]
            simp [u8V]
          have HT := Lib.hid hst
          clear hst hX
          go_wp2_with (at_builtin; refine app1 Try.underlying48 infoUint8 rfl (by decide) rfl _ _ rfl w.heap.size _ _ rfl (World.ownsRow.alloc ho _) _ _ _ rfl (cell_new1 _ _ _) rfl (by omega) (Nat.le_trans hz (by simp)) ?_; intro v4 w4 ho4 hb4)
          rw [HT.out] at ho4
          go_roundw
          case rel =>
            refine ⟨k + 1, m + 8, Lib.hid (by have := HM.out; omega), by omega, by go_num, ho4, (hb.alloc hz _).trans hb4⟩
          case measure => simp [intOf] <;> omega
        | succ e =>
          have hj : (((e + 1 : Nat) : Int) - 1) = (e : Int) := by omega
          have h7 : 8 - (e + 1) = 7 - e := by omega
          rw [hj, h7]
          clear h7
          have hpk := pkH_half bs m (t := 7 - e) (by omega)
          have hnx := pkH_next bs m e (by omega)
          clear hj
          by_cases hin : m + e < n
          · obtain ⟨g, off, rfl, _, hc⟩ := hX.get (m + e) (by omega)
            rw [getD_of (by omega)] at hnx
            clear hX
            cases hbit : bs[m + e]'(by omega)
            · rw [hbit] at hc hnx
              have HN := Lib.hid hnx
              clear hbit hnx
              go_wp2
              go_round
              case rel => exact ⟨e, by omega, rfl, by rw [HN.out]; simp [bI, Int.mul_comm]⟩
              case measure => simp [intOf] <;> omega
            · rw [hbit] at hc hnx
              have HN := Lib.hid hnx
              clear hbit hnx
              go_wp2
              go_round
              case rel => exact ⟨e, by omega, rfl, by rw [HN.out]; simp [bI, Int.mul_comm]⟩
              case measure => simp [intOf] <;> omega
          · rw [getD_no (by omega)] at hnx
            have HN := Lib.hid hnx
            clear hnx hX
            go_wp2
            go_round
            case rel => exact ⟨e, by omega, rfl, by rw [HN.out]; simp [bI, Int.mul_comm]⟩
            case measure => simp [intOf] <;> omega
    · have hk : k = chN 8 n := chN8_eq (by have := HM.out; omega) (by have := HM.out; omega)
      have hch := chN8 n hn
      have hst : u8V (hd2 s bs ++ pkBytes bs k) ++ [Value.int .u8 (n2 : Int)] = u8V (hd3 s bs xs ++ fours xs 0) := by
        rw [hk]
        simp [u8V, hd3, hl2, hl, fours]
      have hol : (u8V (hd2 s bs ++ pkBytes bs k)).length + 1 ≤ 1099511627776 := by
        unfold u8V
        rw [List.length_map, List.length_append, hd2_len, pkBytes_len]
        omega
      have HT := Lib.hid hst
      clear hst hk HM
      go_wp2_with (at_builtin; refine app1 Try.underlying48 infoUint8 rfl (by decide) rfl _ _ rfl w.heap.size _ _ rfl (World.ownsRow.alloc ho _) _ _ _ rfl (cell_new1 _ _ _) rfl hol (Nat.le_trans hz (by simp)) ?_; intro v4 w4 ho4 hb4; have B4 := (hb.alloc hz _).trans hb4; obtain ⟨d0, d1, d2⟩ := three B4 hbz HH.out.1 HH.out.2.1 HH.out.2.2)
      rw [HT.out] at ho4
      clear c0 c1 c2 hb4 hb hz ho hol
      go_loopw [3, 91] (fun v i wr => ∃ k : Nat, k ≤ n2 ∧ i = .int .i64 k ∧ Ow wr w.heap.size 5 v (u8V (hd3 s bs xs ++ fours xs k)) ∧ Below w.heap.size w wr) (fun _ i _ => n2 - (intOf i).toNat)
      case atStart => exact ⟨0, Nat.zero_le _, rfl, ho4, B4⟩
      case round =>
        clear d0 d1 d2 ho4 B4
        obtain ⟨j, hj, rfl, ho, hb⟩ := hrel
        obtain ⟨c0, c1, c2⟩ := three hb hbz HH.out.1 HH.out.2.1 HH.out.2.2
        have hz := hb.size
        have hol : (u8V (hd3 s bs xs ++ fours xs j)).length ≤ 1000 := by
          unfold u8V
          rw [List.length_map, List.length_append, hd3_len, fours_len (by omega), hl]
          omega
        by_cases hlt : j < n2
        · obtain ⟨g, off, rfl, _, hc⟩ := (hx2.below (hb.mono hBz)).get j (by omega)
          have hst := fours_step (L := hd3 s bs xs) (xs := xs) (k := j) (by omega)
          have hxb := hf (xs[j]'(by omega)) (List.getElem_mem _)
          have hcb := canB_bd hxb
          have HB := spec_l01Bits_c
          obtain ⟨q, hq⟩ : ∃ q : Nat, canB (xs[j]'(by omega)) = q := ⟨_, rfl⟩
          have hcall := fun W => spec_l01Bits_c W (xs[j]'(by omega)) hxb
          rw [hq] at hst hcb hcall
          have g1 : IntKind.u8.wrap ((q : Int) % 256) = (q : Int) % 256 := IntWalk.u8_in _ (by omega)
          have g2 : IntKind.u8.wrap ((q : Int) / 256 % 256) = (q : Int) / 256 % 256 := IntWalk.u8_in _ (by omega)
          have g3 : IntKind.u8.wrap ((q : Int) / 65536 % 256) = (q : Int) / 65536 % 256 := IntWalk.u8_in _ (by omega)
          have g4 : IntKind.u8.wrap ((q : Int) / 16777216) = (q : Int) / 16777216 := IntWalk.u8_in _ (by omega)
          have HT := Lib.hid hst
          have HC := Lib.hid hcall
          clear hst hq hcall HB
          go_wp2_with (first
            | (go_at_call 67; refine (HC.out _).mono ?_; rintro e w' ⟨rfl, rfl⟩)
            | (at_builtin; refine appN Try.underlying48 infoUint8 rfl (by decide) rfl _ _ rfl w.heap.size _ _ rfl (World.ownsRow.alloc ho _) _ 4 _ _ rfl rfl (cells4 _ _ _ _ _ _) (by simp [Value.oneCell']) (by omega) (Nat.le_trans hz (by simp)) ?_; intro v5 w5 ho5 hb5))
          rw [HT.out] at ho5
          go_roundw
          case rel => exact ⟨j + 1, by omega, by go_num, ho5, (hb.alloc hz _).trans hb5⟩
          case measure => simp [intOf] <;> omega
        · have e3 : hd3 s bs xs ++ fours xs j = headL s bs xs := by
            unfold headL
            rw [show j = xs.length by omega]
          rw [e3] at ho
          clear e3 hol
          have hhl := headL_len s bs xs
          rw [hl, hl2] at hhl
          obtain ⟨g, cap5, rfl, hcs, ho⟩ := conv_own ho (by omega)
          have hcb := chkS_bd (strOfNums (headL s bs xs))
          have hcall := fun W => spec_l01Check_c W (strOfNums (headL s bs xs)) (by rw [strOfNums_size]; omega)
          have hst : u8V (headL s bs xs) ++ [.int .u8 (chkS (strOfNums (headL s bs xs)) % 256), .int .u8 (chkS (strOfNums (headL s bs xs)) / 256)] = u8V (storeN s bs xs) := by simp [u8V, storeN]
          have hsl : (storeN s bs xs).length = (headL s bs xs).length + 2 := by simp [storeN]
          obtain ⟨q, hq⟩ : ∃ q : Int, chkS (strOfNums (headL s bs xs)) = q := ⟨_, rfl⟩
          rw [hq] at hcb hcall hst
          obtain ⟨qb0, qb1⟩ := hcb
          have g1 : IntKind.u8.wrap (q % 256) = q % 256 := IntWalk.u8_in _ (by omega)
          have g2 : IntKind.u8.wrap (q / 256) = q / 256 := IntWalk.u8_in _ (by omega)
          have hol : (u8V (headL s bs xs)).length + 2 ≤ 1099511627776 := by unfold u8V; rw [List.length_map]; omega
          have HT := Lib.hid hst
          have HC := Lib.hid hcall
          have HL := Lib.hid hsl
          have HHL := Lib.hid hhl
          clear hst hq hcall hsl hhl
          go_wp2_with (first
            | (go_at_call 68; refine (HC.out _).mono ?_; rintro e w' ⟨rfl, rfl⟩)
            | (at_builtin; refine appN Try.underlying48 infoUint8 rfl (by decide) rfl _ _ rfl w.heap.size _ _ rfl (World.ownsRow.alloc ho _) _ 2 _ _ rfl rfl (cells2 _ _ _ _) (by simp [Value.oneCell']) hol (Nat.le_trans hz (by simp)) ?_; intro v5 w5 ho5 hb5; rw [HT.out] at ho5; obtain ⟨g6, cap6, rfl, hcs6, ho6⟩ := conv_own ho5 (by rw [HL.out]; omega); rw [HL.out] at hcs6 ⊢))
          go_ret
          exact ⟨rfl, (hb.alloc hz _).trans hb5⟩

end Go.Proofs.Ytmkjlhobnlgpjaa
