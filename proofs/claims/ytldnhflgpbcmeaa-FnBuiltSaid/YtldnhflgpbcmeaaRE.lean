/-
  Contracts: the list of the words of a code near to a word, of the program and of the reference.
  Conditions: lengths at most 1048576.
-/
import Derived.Test.YtldnhflgpbcmeaaRC
import Derived.ArgAppend
namespace Go.Proofs.Ytldnhflgpbcmeaa
open Go.RowKit

/-- an empty slice with no room, or a row from a block on -/
def Ow0 (w : World) (B : Nat) (e : TypeId) (G : Nat) (v : Value) (xs : List Value) : Prop := (v = .slice (some ⟨G, 0, none⟩) 0 0 ∧ xs = []) ∨ Ow w B e v xs
theorem Ow0.alloc {w : World} {B : Nat} {e : TypeId} {G : Nat} {v : Value} {xs : List Value} (h : Ow0 w B e G v xs) (o : Obj) : Ow0 (w.alloc o) B e G v xs := by
  rcases h with h | h
  · exact .inl h
  · exact .inr (World.ownsRow.alloc h o)
theorem Ow0.done {w : World} {base B : Nat} {e : TypeId} {G : Nat} {v : Value} {xs : List Value} (h : Ow0 w B e G v xs) (ho : Ow w base e (.slice (some ⟨G, 0, none⟩) 0 0) []) (hb : base ≤ B) : Ow w base e v xs := by
  rcases h with ⟨rfl, rfl⟩ | h
  · exact ho
  · exact own_base h hb
/-- append of one element, just laid, to such a one -/
theorem app1b {P : Program} {t e : TypeId} (ht : P.underlying t = some (.slice e)) {z : Value} {bytes : Nat} (hi : (P.info? e).map (fun i => (i.zero, i.size, i.bytes)) = some (some z, 1, bytes)) (hz : z.cells.size = 1) (hby : bytes ≤ 64)
    {w : World} {ops : Array Oper} {rest : List Oper} {o : Oper} {a : Act} {Q : Exit → Act → World → Prop} (hgd : o.guard = none) (s x : Operand)
    (ho : o.op = .call { callee := .builtin .append, args := #[s, x], argTypes := #[t, t] }) (base G : Nat) (v : Value) (xs : List Value) (hs : a.eval s = v) (hown : Ow0 w base e G v xs)
    (g c : Nat) (u : Value) (hx : a.eval x = .slice (some ⟨g, 0, none⟩) 1 c) (hc : w.cell? ⟨g, 0, none⟩ = some u) (h1 : u.oneCell' = true)
    (hlen : xs.length + 1 ≤ 1099511627776) (hbase : base ≤ w.heap.size)
    (h : ∀ v' w', Ow w' base e v' (xs ++ [u]) → Below base w w' → wpList P ops Q rest (a.put o.dst v') w') : wpList P ops Q (o :: rest) a w := by
  rcases hown with ⟨rfl, rfl⟩ | hown
  · obtain ⟨i, hi1, hi2, hi3, hi4⟩ := info_ok hi
    refine wpList_append_grows (P := P) w hgd s x t ho e i z 1 bytes ht hi1 hi2 hi3 hi4 hz (by decide) (some ⟨G, 0, none⟩) 0 0 [] hs (by intro h; cases h) rfl (by intro b _ j u h; cases h) ⟨g, 0, none⟩ 1 c [u] hx rfl ?_ (by simpa using h1) (by decide) (by decide) (by omega) ?_
    · intro j u' hu
      cases j with
      | zero => cases hu; exact hc
      | succ j => cases hu
    · intro v' w' h2 h3
      exact h v' w' (own_base h2 hbase) ((Below.refl base w).grown h3 hbase fun k hk => by cases hk)
  · exact app1 ht hi hz hby hgd s x ho base v xs hs hown g c u hx hc h1 hlen hbase h

theorem okL_no1 {m : Int} {xs : List Int} {word far : Int} (h : canB m xs word = false) : okL m xs word far = false := by
  show (canB m xs word && inB far 0 16) = false
  rw [h]; rfl
theorem okL_yes1 {m : Int} {xs : List Int} {word far : Int} (h : canB m xs word = true) : okL m xs word far = inB far 0 16 := by
  show (canB m xs word && inB far 0 16) = _
  rw [h]; rfl
theorem can_facts {m : Int} {xs : List Int} {word : Int} (h : canB m xs word = true) : validParB m xs = true ∧ ∃ M : Nat, m = M ∧ 1 ≤ M ∧ M ≤ 16 ∧ 1 ≤ xs.length ∧ xs.length ≤ 8 ∧ (∀ x ∈ codeL xs, 0 ≤ xorI x word ∧ xorI x word < 65536) := by
  unfold canB at h
  rw [Bool.and_eq_true] at h
  obtain ⟨hv, hb⟩ := h
  have hpr : parRows m xs = true := by
    have hv2 := hv
    unfold validParB at hv2
    rw [Bool.and_eq_true] at hv2
    exact hv2.1
  obtain ⟨m1, m2, g1, g8, hxs⟩ := par_facts hpr
  obtain ⟨M, rfl⟩ : ∃ M : Nat, m = M := ⟨m.toNat, by omega⟩
  have hM : M ≤ 16 := by omega
  have hxs' : ∀ x ∈ xs, 0 ≤ x ∧ x < 2 ^ M := hxs
  have hb2 : 0 ≤ word ∧ word < 2 ^ M := by
    have h1 : inB word 0 (2 ^ M - 1) = true := hb
    unfold inB at h1
    simp at h1
    omega
  refine ⟨hv, M, rfl, by omega, hM, g1, g8, fun x hx => ?_⟩
  have h1 := codeL_bd hM hxs' hx
  have h2 := xorI_bd hM h1.1 h1.2 hb2.1 hb2.2
  have h3 := pow16 hM
  omega


set_option maxRecDepth 100000 in
set_option maxHeartbeats 2000000 in
theorem impl_ListWords_c (w : World) (m : Int) (A : Option Addr) (n cap : Nat) (xs : List Int) (hl : xs.length = n) (hn : n ≤ 1048576) (hx : Sl w w.heap.size A (xs.map (Value.int .i64))) (word far : Int) :
    Calls Try.prog 24 #[.agg #[.int .i64 m, .slice A n cap], .int .i64 word, .int .i64 far] w fun e w' => ∃ v, e = .returned (.tuple #[v, .bool (okL m xs word far)]) ∧ Ow w' w.heap.size 2 v ((listV m xs word far).map (Value.int .i64)) ∧ Below w.heap.size w w' := by
  have hB0 : Below w.heap.size w (w.alloc (.cells #[.int .i64 m, .slice A n cap] 27)) := (Below.refl _ _).alloc (Nat.le_refl _) _
  obtain ⟨w1, ew⟩ : ∃ q : World, q = w.alloc (.cells #[.int .i64 m, .slice A n cap] 27) := ⟨_, rfl⟩
  have c0 : w1.cell? ⟨w.heap.size, 0, none⟩ = some (.int .i64 m) := by rw [ew]; (first | (simp; done) | (simp (disch := (first | (simp; done) | (simp; omega))) [World.cell?_alloc_at]; done) | (simp (disch := (first | (simp; done) | (simp; omega))) [World.cell?_alloc_past]; done) | (simp (disch := (first | (simp; done) | (simp; omega))) [World.cell?_alloc_at, World.cell?_alloc_past]; done) | (simp (disch := (first | (simp; done) | (simp; omega))) [World.frozen?_alloc_at]; done) | (simp (disch := (first | (simp; done) | (simp; omega))) [World.frozen?_alloc_past]; done) | (simp (disch := (first | (simp; done) | (simp; omega))) [World.frozen?_alloc_at, World.frozen?_alloc_past]; done))
  have c1 : w1.cell? ⟨w.heap.size, 1, none⟩ = some (.slice A n cap) := by rw [ew]; (first | (simp; done) | (simp (disch := (first | (simp; done) | (simp; omega))) [World.cell?_alloc_at]; done) | (simp (disch := (first | (simp; done) | (simp; omega))) [World.cell?_alloc_past]; done) | (simp (disch := (first | (simp; done) | (simp; omega))) [World.cell?_alloc_at, World.cell?_alloc_past]; done) | (simp (disch := (first | (simp; done) | (simp; omega))) [World.frozen?_alloc_at]; done) | (simp (disch := (first | (simp; done) | (simp; omega))) [World.frozen?_alloc_past]; done) | (simp (disch := (first | (simp; done) | (simp; omega))) [World.frozen?_alloc_at, World.frozen?_alloc_past]; done))
  have z1 : w.heap.size < w1.heap.size := by rw [ew]; simp
  rw [← ew] at hB0
  have EW := Lib.hid ew
  have HX := Lib.hid hx
  clear ew hx
  cases hok : okL m xs word far
  · have e1 : listV m xs word far = [] := by unfold listV; rw [hok]; rfl
    rw [e1]
    cases hc : canB m xs word
    · have HV := Lib.hid hc
      clear hc hok e1
      go_enter Try.func24, Try.ntmps24
      go_wp2_with fail
      rw [← EW.out]
      refine (impl_has_c w1 m A n cap xs hl hn ((HX.out.below hB0).more hB0.size) word).mono ?_
      rintro e w2 ⟨rfl, hb2⟩
      rw [HV.out]
      go_wp2
      go_ret2
      exact ⟨_, rfl, World.ownsRow_nil _ _ _ _, hB0.trans (hb2.mono hB0.size)⟩
    · rw [okL_yes1 hc] at hok
      have HV := Lib.hid hc
      have HF := Lib.hid hok
      clear hc hok e1
      go_enter Try.func24, Try.ntmps24
      go_wp2_with fail
      rw [← EW.out]
      refine (impl_has_c w1 m A n cap xs hl hn ((HX.out.below hB0).more hB0.size) word).mono ?_
      rintro e w2 ⟨rfl, hb2⟩
      rw [HV.out]
      go_wp2_with (go_at_call 30; refine (impl_within_c _ _ _ _).mono ?_; rintro e w' ⟨rfl, rfl⟩; rw [HF.out])
      go_ret2
      exact ⟨_, rfl, World.ownsRow_nil _ _ _ _, hB0.trans (hb2.mono hB0.size)⟩
  · have hc : canB m xs word = true := by
      cases hc : canB m xs word
      · rw [okL_no1 hc] at hok; cases hok
      · rfl
    have hf := hok
    rw [okL_yes1 hc] at hf
    obtain ⟨hv, M, rfl, m1, hM, g1, g8, hbd⟩ := can_facts hc
    have e1 : listV (M : Int) xs word far = (sortL (codeL xs)).filter (nearB word far) := by unfold listV; rw [hok]; rfl
    rw [e1]
    have hcl := codeL_len xs
    have hp8 := pow8 (n := xs.length) g8
    obtain ⟨C, hC⟩ : ∃ C, sortL (codeL xs) = C := ⟨_, rfl⟩
    have hCl : C.length ≤ 256 := by rw [← hC, sortL_len]; omega
    have hCb : ∀ x ∈ C, 0 ≤ xorI x word ∧ xorI x word < 65536 := fun x hx => hbd x ((sortL_perm (codeL xs)).mem_iff.1 (by rw [hC]; exact hx))
    have hcw := fun (W : World) (hW : Sl W W.heap.size A (xs.map (Value.int .i64))) => impl_codeWords_c W (M : Int) A n cap xs hl (by omega) hW
    rw [hC] at hcw ⊢
    have HCW := Lib.hid hcw
    have HV := Lib.hid hc
    have HF := Lib.hid hf
    have HCB := Lib.hid hCb
    clear hc hf hok hv e1 hbd hcl hp8 hC hcw hCb
    go_enter Try.func24, Try.ntmps24
    go_wp2_with fail
    rw [← EW.out]
    refine (impl_has_c w1 M A n cap xs hl hn ((HX.out.below hB0).more hB0.size) word).mono ?_
    rintro e w2 ⟨rfl, hb2⟩
    rw [HV.out]
    have d0 := (hb2.cell (p := ⟨w.heap.size, 0, none⟩) z1).trans c0
    have d1 := (hb2.cell (p := ⟨w.heap.size, 1, none⟩) z1).trans c1
    have hB2 : Below w.heap.size w w2 := hB0.trans (hb2.mono hB0.size)
    have z2 : w.heap.size < w2.heap.size := Nat.lt_of_lt_of_le z1 hb2.size
    clear c0 c1 hb2 hB0
    go_wp2_with (go_at_call 30; refine (impl_within_c _ _ _ _).mono ?_; rintro e w' ⟨rfl, rfl⟩; rw [HF.out])
    have o3 := own_empty w2 w.heap.size 2 (Nat.le_of_lt z2)
    obtain ⟨w3, ew⟩ : ∃ q : World, q = w2.alloc (.cells #[] 2) := ⟨_, rfl⟩
    rw [← ew] at o3
    have hB3 : Below w.heap.size w w3 := by rw [ew]; exact hB2.alloc (Nat.le_of_lt z2) _
    have hb3 : Below w2.heap.size w2 w3 := by rw [ew]; exact (Below.refl _ _).alloc (Nat.le_refl _) _
    have f0 := (hb3.cell (p := ⟨w.heap.size, 0, none⟩) z2).trans d0
    have f1 := (hb3.cell (p := ⟨w.heap.size, 1, none⟩) z2).trans d1
    rw [← ew]
    have hzg : w2.heap.size < w3.heap.size := by rw [ew]; simp
    clear ew d0 d1 f0 f1 hb3 hB2
    refine (HCW.out w3 ((HX.out.below hB3).more hB3.size)).mono ?_
    rintro e w4 ⟨v, rfl, ho4, hb4⟩
    have o4 := own_below o3 hb4 (Nat.le_refl _)
    have hB4 : Below w.heap.size w w4 := hB3.trans (hb4.mono hB3.size)
    obtain ⟨S, kc, rfl, hp4⟩ := ho4.opn
    clear o3 hB3 ho4 hb4 HCW HX
    go_wp2
    go_loopw [8, 24] (fun v i wr => ∃ k : Nat, k ≤ C.length ∧ i = .int .i64 k ∧ Ow0 wr w4.heap.size 2 w2.heap.size v ((keepL C word far k).map (Value.int .i64)) ∧ Below w4.heap.size w4 wr) (fun _ i _ => C.length - (intOf i).toNat)
    case atStart => exact ⟨0, Nat.zero_le _, rfl, .inl ⟨rfl, rfl⟩, Below.refl _ _⟩
    case round =>
      obtain ⟨k, hk, rfl, o5, hb5⟩ := hrel
      by_cases hlt : k < C.length
      · have hp5 := own_below hp4 hb5 (Nat.le_refl _)
        obtain ⟨b, off, rfl, hbb, hc1⟩ := sl_cell (sl_of_own hp5) hlt
        obtain ⟨y, hy⟩ : ∃ y, C.getD k 0 = y := ⟨_, rfl⟩
        have hyb := HCB.out y (by rw [← hy]; simp only [List.getD, List.getElem?_eq_getElem hlt, Option.getD_some]; exact List.getElem_mem hlt)
        have hks := keepL_skip (word := word) (far := far) hlt
        have hkt := keepL_take (word := word) (far := far) hlt
        have hkl := keepL_len C word far k
        rw [hy] at hks hkt hc1
        obtain ⟨q, hq⟩ : ∃ q, wt (xorI y word) = q := ⟨_, rfl⟩
        have hnb : nearB word far y = decide (q ≤ far) := by unfold nearB; rw [hq]
        rw [hnb] at hks hkt
        have HQ := Lib.hid hq
        clear hq hnb hy hp5
        by_cases hqf : q ≤ far
        · have hkt := hkt (decide_eq_true hqf)
          have HT := Lib.hid hkt
          have hlen : ((keepL C word far k).map (Value.int .i64)).length + 1 ≤ 1099511627776 := by rw [List.length_map]; omega
          have hz5 := hb5.size
          clear hks hkt
          go_wp2_with (first | (go_at_call 31; refine (impl_weightOf_w _ (xorI y word) hyb.1 hyb.2).mono ?_; rintro e w' ⟨rfl, rfl⟩; rw [HQ.out]) | (at_builtin; refine app1b Try.underlying25 infoInt64 rfl (by decide) rfl _ _ rfl w4.heap.size w2.heap.size _ _ rfl (o5.alloc _) _ _ _ rfl (cell_new1 _ _ _) rfl hlen (by simp; omega) ?_; intro v' w6 ho6 hb6))
          go_roundw
          case rel =>
            refine ⟨k + 1, by omega, by go_num, .inr ?_, (hb5.alloc hz5 _).trans hb6⟩
            rw [HT.out, List.map_append]
            exact ho6
          case measure => simp [intOf]; omega
        · have hks := hks (decide_eq_false hqf)
          have HT := Lib.hid hks
          clear hks hkt
          go_wp2_with (go_at_call 31; refine (impl_weightOf_w _ (xorI y word) hyb.1 hyb.2).mono ?_; rintro e w' ⟨rfl, rfl⟩; rw [HQ.out])
          go_roundw
          case rel => exact ⟨k + 1, by omega, by go_num, by rw [HT.out]; exact o5, hb5⟩
          case measure => simp [intOf]; omega
      · have : k = C.length := by omega
        subst this
        rw [keepL_all] at o5
        have hz4 := hB4.size
        have o6 := o5.done (own_below o4 hb5 (Nat.le_refl _)) hz4
        go_wp2
        go_ret2
        exact ⟨_, rfl, o6, hB4.trans (hb5.mono hz4)⟩

end Go.Proofs.Ytldnhflgpbcmeaa
