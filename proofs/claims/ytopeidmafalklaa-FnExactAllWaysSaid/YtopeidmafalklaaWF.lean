/-
  Contract: the best way, of the program.
  Conditions: lengths at most 1048576.
-/
import Derived.Test.YtopeidmafalklaaWE
namespace Go.Proofs.Ytopeidmafalklaa
open Go.RowKit Go.Shelf
attribute [local go_sem] Oper.semAt_some

/-- a slice that a call made: nil, or at the head of a row -/
def RowA (A : Option Addr) (n cap : Nat) : Prop := (A = none ∧ n = 0 ∧ cap = 0) ∨ ∃ g, A = some ⟨g, 0, none⟩ ∧ n ≤ cap ∧ cap ≤ maxLen
theorem rowA_of {w : World} {base : Nat} {e : TypeId} {A : Option Addr} {n cap : Nat} {xs : List Value} (h : w.ownsRow base e 1 (.slice A n cap) n xs) : RowA A n cap := by
  rcases h.2 with ⟨h1, h2⟩ | ⟨g, c, cur, h1, _, _, h2, h3, _⟩
  · injection h1 with e1 e2 e3
    exact .inl ⟨e1, e2, e3⟩
  · injection h1 with e1 e2 e3
    subst e3
    exact .inr ⟨g, e1, h2, h3⟩
/-- the tables behind the parts of a list of places -/
def seqT (M : Nat) (ms : List Int) (soft : List Nat) (n : Nat) (l : List Nat) : Nat → Tb
  | 0 => startT (2 ^ M)
  | j + 1 => rowT M ms (partL ms.length soft (l.getD j 0)) (decide (n ≤ j)) (seqT M ms soft n l j) (2 ^ M)
theorem seqT_app {M : Nat} {ms : List Int} {soft : List Nat} {n : Nat} {l : List Nat} {x : Nat} : ∀ j, j ≤ l.length → seqT M ms soft n (l ++ [x]) j = seqT M ms soft n l j
  | 0, _ => rfl
  | j + 1, h => by
    unfold seqT
    rw [seqT_app j (by omega)]
    have : (l ++ [x]).getD j 0 = l.getD j 0 := by simp only [List.getD, List.getElem?_append_left (show j < l.length by omega)]
    rw [this]
theorem seqT_range {M : Nat} {ms : List Int} {soft : List Nat} {n N : Nat} : ∀ j, j ≤ N → seqT M ms soft n (List.range N) j = tabT M ms soft n j
  | 0, _ => rfl
  | j + 1, h => by
    unfold seqT tabT
    rw [seqT_range j (by omega)]
    have : (List.range N).getD j 0 = j := by simp [List.getD, show j < N by omega]
    rw [this]
theorem seqT_next {M : Nat} {ms : List Int} {soft : List Nat} {n : Nat} {l : List Nat} {x : Nat} : seqT M ms soft n (l ++ [x]) (l.length + 1) = rowT M ms (partL ms.length soft x) (decide (n ≤ l.length)) (seqT M ms soft n l l.length) (2 ^ M) := by
  have h : (l ++ [x]).getD l.length 0 = x := by simp [List.getD]
  show rowT M ms (partL ms.length soft ((l ++ [x]).getD l.length 0)) _ _ _ = _
  rw [seqT_app l.length (Nat.le_refl _), h]
theorem sz_seq {M : Nat} {ms : List Int} {soft : List Nat} {n : Nat} {l : List Nat} : ∀ t, Sz (2 ^ M) (seqT M ms soft n l t)
  | 0 => sz_start (Nat.pow_pos (by decide))
  | _ + 1 => sz_row _ (Nat.le_refl _)
theorem newT_h {S s : Nat} : (newT S).h.getD s false = false := by
  unfold newT
  simp only [List.getD, List.getElem?_replicate]
  split <;> rfl
/-- the slice of a block of picks -/
def psV (S g : Nat) : Value := .slice (some ⟨g, 0, none⟩) S S
/-- what the loop over parts keeps -/
structure BWI (w : World) (D S : Nat) (Q : Nat → Tb) (t : Nat) (C : Array Value) (P7 P9 P10 B1 B2 : Nat) (u7 u1 u2 : Value) (W : World) : Prop where
  bel : Below w.heap.size w W
  c : Obj W w.heap.size 29 C
  x7 : Boxed W P7 3 u7
  x1 : Boxed W B1 25 u1
  x2 : Boxed W B2 3 u2
  now : ∃ b9 ns, w.heap.size ≤ b9 ∧ Boxed W P9 108 (psV S b9) ∧ PRow W b9 S (Q t) ns
  steps : ∃ bs : List Nat, bs.length = t ∧ Bufd W D P10 111 108 (bs.map (psV S)) ∧ ∀ i, i < t → w.heap.size ≤ bs.getD i 0 ∧ ∃ ns, PRow W (bs.getD i 0) S (Q (i + 1)) ns
theorem obj_keep {W W' : World} {B k : Nat} {t : TypeId} {cs : Array Value} {row : Option Nat} (h : Obj W k t cs) (hg : W.grownBy W' row) (hr : ∀ r, row = some r → B ≤ r ∧ ∃ o : Go.Obj, W.heap[r]? = some o ∧ o.isCells = false) : Obj W' k t cs :=
  h.kept hg (fun e => by
    obtain ⟨_, o, ho, hc⟩ := hr k e.symm
    rw [show W.heap[k]? = _ from h] at ho
    cases ho
    cases hc)
theorem prow_keep {W W' : World} {B k S : Nat} {T : Tb} {ns : List Nat} {row : Option Nat} (h : PRow W k S T ns) (hg : W.grownBy W' row) (hr : ∀ r, row = some r → B ≤ r ∧ ∃ o : Go.Obj, W.heap[r]? = some o ∧ o.isCells = false) : PRow W' k S T ns := by
  obtain ⟨⟨cs, hO, h2⟩, h3⟩ := h
  exact ⟨⟨cs, obj_keep hO hg hr, h2⟩, h3⟩
theorem bwi_own {β : Type} (w : World) (D S : Nat) (Q : β → Nat → Tb) (t : β → Nat) (C : Array Value) (P7 P9 P10 B1 B2 : Nat) (u7 u1 u2 : Value) (B : Nat) (h2 : w.heap.size ≤ B) :
    OwnFrom B (fun s W => BWI w D S (Q s) (t s) C P7 P9 P10 B1 B2 u7 u1 u2 W) := by
  rintro s W W' row ⟨a1, a2, a3, a4, a5, ⟨b9, ns, c1, c2, c3⟩, ⟨bs, d1, d2, d3⟩⟩ hg hr
  refine ⟨a1.grown hg a1.size fun k hk => Nat.le_trans h2 (hr k hk).1, obj_keep a2 hg hr, boxed_keep a3 hg hr, boxed_keep a4 hg hr, boxed_keep a5 hg hr, ⟨b9, ns, c1, boxed_keep c2 hg hr, prow_keep c3 hg hr⟩, ⟨bs, d1, ?_, fun i hi => ?_⟩⟩
  · exact (bufd_own D P10 111 108 (fun _ : Unit => bs.map (psV S))).from B () W W' row d2 hg hr
  · obtain ⟨e1, ns, e2⟩ := d3 i hi
    exact ⟨e1, ns, prow_keep e2 hg hr⟩

theorem obj_ne {W : World} {a b : Nat} {t u : TypeId} {cs cs2 : Array Value} (h : Obj W a t cs) (h2 : Obj W b u cs2) (hne : t ≠ u) : a ≠ b := by
  rintro rfl
  have := (show W.heap[a]? = _ from h).symm.trans (show W.heap[a]? = _ from h2)
  simp at this
  exact hne this.2
theorem Appd.obj {W w1 : World} {D Bo : Nat} {T e : TypeId} {v v' : Value} {N n : Nat} {ys xs : List Value} (h : Appd W w1 D Bo T e v v' N ys) (hbox : Boxed W Bo T v) (hrow : W.ownsRow D e 1 v n xs) {k : Nat} {t : TypeId} {cs : Array Value} (hk : Obj W k t cs) (hte : t ≠ e) (htT : t ≠ T) : Obj (w1.setCell ⟨Bo, 0, none⟩ v') k t cs :=
  (h.keep k hk.lt (Obj.not_row hk hte hrow) (obj_ne hk (show Obj W Bo T #[v] from hbox) htT)).trans hk
theorem Appd.prow {W w1 : World} {D Bo : Nat} {T e : TypeId} {v v' : Value} {N n : Nat} {ys xs : List Value} (h : Appd W w1 D Bo T e v v' N ys) (hbox : Boxed W Bo T v) (hrow : W.ownsRow D e 1 v n xs) (hte : 110 ≠ e) (htT : 110 ≠ T) {k S : Nat} {Tb' : Tb} {ns : List Nat} (hk : PRow W k S Tb' ns) : PRow (w1.setCell ⟨Bo, 0, none⟩ v') k S Tb' ns := by
  obtain ⟨⟨cs, hO, h2⟩, h3⟩ := hk
  exact ⟨⟨cs, h.obj hbox hrow hO hte htT, h2⟩, h3⟩
theorem prow_ne {W : World} {b c S : Nat} {T : Tb} {ns : List Nat} {t : TypeId} {v : Value} (h : PRow W b S T ns) (h2 : Boxed W c t v) (hne : 110 ≠ t) : b ≠ c := by
  obtain ⟨⟨cs, hO, _⟩, _⟩ := h
  exact obj_ne hO (show Obj W c t #[v] from h2) hne
theorem keeps_below {W W' : World} (h : Below W.heap.size W W') : KeepsOthers W W' := ⟨h.size, fun k _ hk _ => (h.block k (Array.getElem?_eq_some_iff.1 hk).1).trans hk⟩
theorem cells1 (w : World) (e : TypeId) (u : Value) (j : Nat) (u' : Value) (h : [u][j]? = some u') : (w.alloc (.cells #[u] e)).cell? ⟨w.heap.size, j, none⟩ = some u' := by
  rw [(Obj.new w e #[u]).cell j, ← h]
  simp
theorem boxed_below {W W' : World} {D k : Nat} {t : TypeId} {v : Value} (h : Boxed W k t v) (hb : Below D W W') (hD : k < D) : Boxed W' k t v := Obj.below (show Obj W k t #[v] from h) hb hD

theorem Boxed.not_addr {W : World} {b D : Nat} {t : TypeId} {u : Value} (_ : Boxed W b t u) {e : TypeId} {size k : Nat} {v : Value} {xs : List Value} (hr : W.ownsRow D e size v k xs) (hb : b < D) : v.ownBlock ≠ some b := by
  rcases hr.2 with ⟨rfl, _⟩ | ⟨g, cap, cur, rfl, hg, _⟩
  · simp [Value.ownBlock]
  · intro e'
    obtain rfl : g = b := by simpa [Value.ownBlock] using e'
    omega
theorem prow_ne2 {W : World} {b c S : Nat} {T : Tb} {ns : List Nat} {v : Value} (h : PRow W b S T ns) (h2 : Boxed W c 108 v) : c ≠ b := Ne.symm (prow_ne h h2 (by decide))
theorem bwi_step {w wA wD w6 : World} {D S t k0 : Nat} {Q Q' : Nat → Tb} {C : Array Value} {P7 P9 P10 B1 B2 bN : Nat} {u7 u1 u2 uo v5 v6 : Value} {bs ns : List Nat} {ys : List Value}
    (hbw : Below w.heap.size w wA) (hOC : Obj wA w.heap.size 29 C) (hX7 : Boxed wA P7 3 u7) (hX1 : Boxed wA B1 25 u1) (hX2 : Boxed wA B2 3 u2) (hX9 : Boxed wA P9 108 uo)
    (hbl : bs.length = t) (hbr : ∀ i, i < t → w.heap.size ≤ bs.getD i 0 ∧ ∃ ns, PRow wA (bs.getD i 0) S (Q (i + 1)) ns) (hbD : Below wA.heap.size wA wD) (hm : PRow wD bN S (Q' (t + 1)) ns) (hbN : w.heap.size ≤ bN) (hbN2 : P9 ≠ bN)
    (k1 : Boxed wD P10 111 v5) (k2 : wD.ownsRow D 108 1 v5 t ys) (A6 : Appd wD w6 D P10 111 108 v5 v6 k0 (bs.map (psV S) ++ [psV S bN]))
    (hP9 : P9 < D) (hwD : w.heap.size ≤ D) (hwP : w.heap.size ≤ P9) (h17 : P9 ≠ P7) (h11 : P9 ≠ B1) (h12 : P9 ≠ B2) (h19 : P9 ≠ P10) (h1P : P10 ≠ B1) (h2P : P10 ≠ B2) (h7P : P10 ≠ P7) (hcP : P9 ≠ w.heap.size)
    (hQ : ∀ j, j ≤ t → Q' j = Q j) :
    BWI w D S Q' (t + 1) C P7 P9 P10 B1 B2 u7 u1 u2 ((w6.setCell ⟨P10, 0, none⟩ v6).setCell ⟨P9, 0, none⟩ (psV S bN)) := by
  have hz := hbw.size
  have hX9D := boxed_below hX9 hbD hX9.lt
  have hX96 := boxed_below hX9D A6.bel hP9
  have hOC2 := A6.obj k1 k2 (hOC.below hbD hOC.lt) (by decide) (by decide)
  have hX72 := A6.box k2 (boxed_below hX7 hbD hX7.lt) (by decide) (Ne.symm h7P)
  have hX12 := A6.box k2 (boxed_below hX1 hbD hX1.lt) (by decide) (Ne.symm h1P)
  have hX22 := A6.box k2 (boxed_below hX2 hbD hX2.lt) (by decide) (Ne.symm h2P)
  have hm2 := A6.prow k1 k2 (by decide) (by decide) hm
  refine ⟨(hbw.trans ((hbD.mono hz).trans (A6.bel.mono hwD))).setCell hwP _, hOC2.far (Ne.symm hcP) _ _, hX72.other (Ne.symm h17) _, hX12.other (Ne.symm h11) _, hX22.other (Ne.symm h12) _,
    ⟨bN, ns, hbN, hX96.set _, hm2.far (Ne.symm hbN2) _ _⟩, ⟨bs ++ [bN], by simp [hbl], ?_, fun i hi => ?_⟩⟩
  · obtain ⟨v, q1, q2, q3⟩ := A6.buf
    rw [List.map_append]
    refine ⟨v, q1.other (Ne.symm h19) _, q2.kept (grownBy_setCell' _ _ _) (.inr ?_), q3⟩
    exact Boxed.not_addr hX96 q2 hP9
  · by_cases h : i < t
    · obtain ⟨e1, ns1, e2⟩ := hbr i h
      have e3 : (bs ++ [bN]).getD i 0 = bs.getD i 0 := by simp only [List.getD, List.getElem?_append_left (show i < bs.length by omega)]
      rw [e3, hQ (i + 1) h]
      have e4 := A6.prow k1 k2 (by decide) (by decide) (e2.below hbD e2.lt)
      exact ⟨e1, ns1, e4.far (Ne.symm (prow_ne2 e4 hX96)) _ _⟩
    · obtain rfl : i = t := by omega
      have e3 : (bs ++ [bN]).getD i 0 = bN := by rw [← hbl]; simp [List.getD]
      rw [e3]
      exact ⟨hbN, ns, hm2.far (Ne.symm hbN2) _ _⟩

/-- a way is found -/
def bestOk (m : Int) (ms : List Int) (xs : List Nat) : Bool := sentOk m ms xs && finB (wayGain m.toNat ms xs (sentN m ms xs).toNat)
def bestL (m : Int) (ms : List Int) (xs : List Nat) : List Bool := if bestOk m ms xs then wayBits m.toNat ms xs (sentN m ms xs).toNat else []
def bestG (m : Int) (ms : List Int) (xs : List Nat) : Option Nat := if bestOk m ms xs then wayGain m.toNat ms xs (sentN m ms xs).toNat else some 0
theorem best_no {m : Int} {ms : List Int} {xs : List Nat} (h : bestOk m ms xs = false) : bestL m ms xs = [] ∧ bestG m ms xs = some 0 := by unfold bestL bestG; rw [h]; exact ⟨rfl, rfl⟩
/-- what is handed back -/
def BestPost (w : World) (m : Int) (ms : List Int) (xs : List Nat) (e : Ending) (w' : World) : Prop :=
  ∃ v g, e = .returned (.tuple #[v, .float .f32 g, .bool (bestOk m ms xs)]) ∧ fl .f32 g = bestG m ms xs ∧ Ow w' w.heap.size 4 v ((bestL m ms xs).map Value.bool) ∧ Below w.heap.size w w'
theorem best_fail {w w' : World} {m : Int} {ms : List Int} {xs : List Nat} (h : bestOk m ms xs = false) (hb : Below w.heap.size w w') : BestPost w m ms xs (.returned (.tuple #[.slice none 0 0, .float .f32 0, .bool false])) w' := by
  refine ⟨.slice none 0 0, 0, by rw [h], by rw [(best_no h).2, fl0], ?_, hb⟩
  rw [(best_no h).1]
  exact ⟨rfl, .inl ⟨rfl, rfl⟩⟩
theorem sent_facts {m : Int} {ms : List Int} {xs : List Nat} (h : sentOk m ms xs = true) : ∃ M n : Nat, m = (M : Int) ∧ 1 ≤ M ∧ M ≤ 4 ∧ 1 ≤ ms.length ∧ ms.length ≤ 4 ∧ (∀ x ∈ ms, 0 ≤ x ∧ x ≤ 31) ∧ n ≤ 40 ∧ sentN m ms xs = (n : Int) ∧ (n + M) * ms.length = xs.length ∧ xs.length ≤ 160 := by
  unfold sentOk sentB at h
  simp only [Bool.and_eq_true, decide_eq_true_eq, beq_iff_eq] at h
  obtain ⟨⟨⟨⟨h1, h2⟩, h3⟩, h4⟩, h5⟩ := h
  obtain ⟨m1, m4, k1, k4, hr⟩ := vc_facts h1
  obtain ⟨M, rfl⟩ : ∃ M : Nat, m = M := ⟨m.toNat, by omega⟩
  have h6 : xs.length ≤ 160 := by
    unfold softB at h2
    rw [Bool.and_eq_true, decide_eq_true_eq] at h2
    exact h2.1
  refine ⟨M, (sentN M ms xs).toNat, rfl, by omega, by omega, k1, k4, hr, by omega, by omega, ?_, h6⟩
  have e1 : (sentN M ms xs).toNat + M = xs.length / ms.length := by unfold sentN at *; omega
  rw [e1, Nat.div_mul_cancel (Nat.dvd_of_mod_eq_zero h3)]


set_option maxRecDepth 100000 in
set_option maxHeartbeats 8000000 in
theorem impl_BestWay_c (w : World) (m : Int) (A : Option Addr) (k cap : Nat) (ms : List Int) (hl : ms.length = k) (hk : k ≤ 1048576) (hx : Sl w w.heap.size A (ms.map (Value.int .i64)))
    (A2 : Option Addr) (n2 cap2 : Nat) (xs : List Nat) (hl2 : xs.length = n2) (hn2 : n2 ≤ 1048576) (hy : Sl w w.heap.size A2 (xs.map (Value.float .f32))) (hA : RowA A2 n2 cap2) :
    Calls Try.prog 22 #[.agg #[.int .i64 m, .slice A k cap], .slice A2 n2 cap2] w (BestPost w m ms xs) := by
  obtain ⟨w1, e1⟩ : ∃ q : World, q = w.alloc (.cells #[.int .i64 m, .slice A k cap] 29) := ⟨_, rfl⟩
  have b1 : Below w.heap.size w w1 := by rw [e1]; exact (Below.refl _ _).alloc (Nat.le_refl _) _
  have z1 : w1.heap.size = w.heap.size + 1 := by rw [e1]; simp
  have hO : Obj w1 w.heap.size 29 #[.int .i64 m, .slice A k cap] := by rw [e1]; exact Obj.new _ _ _
  have HV := Lib.hid (impl_sentBits_c w1 m A k cap ms hl hk ((hx.below b1).more b1.size) A2 n2 cap2 xs hl2 hn2 ((hy.below b1).more b1.size))
  obtain ⟨⟨C0, C1⟩, -⟩ := hO.two
  have HO := Lib.hid hO
  have HX := Lib.hid hx
  have HY := Lib.hid hy
  clear hx hy hO
  cases hs : sentOk m ms xs
  · have hbo : bestOk m ms xs = false := by unfold bestOk; rw [hs]; rfl
    rw [hs] at HV
    have HBO := Lib.hid hbo
    clear hs hbo
    refine calls_marks Try.func22 rfl ?_
    simp only [Try.ntmps22, List.size_toArray, List.length_cons, List.length_nil, Nat.reduceAdd, Nat.reduceSub, Array.replicate_succ, Array.replicate_zero, List.push_toArray, List.append_toArray, List.nil_append, List.cons_append]
    go_wp2_with (rw [← e1]; clear e1)
    refine HV.out.mono ?_
    rintro e w2 ⟨rfl, b2⟩
    go_wp2
    refine marks_ret0 (results_tmp3 rfl _ _ _) rfl ?_
    exact best_fail HBO.out ((b1.trans (b2.mono b1.size)).alloc (by have := b2.size; omega) _)
  · obtain ⟨M, n, rfl, hM1, hM4, hk1, hk4, hr, hn, hsn, hnn, hx160⟩ := sent_facts hs
    rw [hl] at hk1 hk4 hnn
    rw [hl2] at hnn hx160
    rw [hs] at HV
    have hsv : sentV (M : Int) ms xs = (n : Int) := by
      have hsb : sentB (M : Int) ms xs = true := by
        unfold sentOk at hs
        simp only [Bool.and_eq_true] at hs
        exact hs.1.1
      unfold sentV
      rw [hsb, if_pos rfl, hsn]
    rw [hsv] at HV
    have hn2p : 0 < n2 := by rw [← hnn]; exact Nat.mul_pos (by omega) (by omega)
    obtain ⟨g2, rfl, hcap, hcapm⟩ : ∃ g2, A2 = some ⟨g2, 0, none⟩ ∧ n2 ≤ cap2 ∧ cap2 ≤ maxLen := by
      rcases hA with ⟨_, h0, _⟩ | h
      · omega
      · exact h
    unfold maxLen at hcapm
    obtain ⟨S, hS⟩ : ∃ S : Nat, 2 ^ M = S := ⟨_, rfl⟩
    have hSI : (2 : Int) ^ M = (S : Int) := by rw [← hS]; push_cast; rfl
    have hS16 : S ≤ 16 := by rw [← hS]; exact Nat.pow_le_pow_right (n := 2) (by decide) hM4
    have hS1 : 1 ≤ S := by rw [← hS]; exact Nat.pow_pos (by decide)
    have hst := fun W : World => impl_states_c W M hM1 hM4 A k cap
    rw [hSI] at hst
    have hmk := fun W : World => run_mkPick S (by omega) .i64 .i64 W
    have HSS := Lib.hid hS
    have HNN := Lib.hid hnn
    have HSN := Lib.hid hsn
    have HST := Lib.hid hst
    have HSO := Lib.hid hs
    have hch : chN k n2 = n + M := by
      unfold chN
      rw [← hnn]
      have h0 : 0 < k := hk1
      rw [show (n + M) * k + (k - 1) = (k - 1) + (n + M) * k by omega, Nat.add_mul_div_right _ _ h0, Nat.div_eq_of_lt (by omega)]
      omega
    have HCH := Lib.hid hch
    clear hs hsn hnn hsv hS hSI hst hA hch
    refine calls_marks Try.func22 rfl ?_
    simp only [Try.ntmps22, List.size_toArray, List.length_cons, List.length_nil, Nat.reduceAdd, Nat.reduceSub, Array.replicate_succ, Array.replicate_zero, List.push_toArray, List.append_toArray, List.nil_append, List.cons_append]
    go_wp2_with (rw [← e1]; clear e1)
    refine HV.out.mono ?_
    rintro e w2 ⟨rfl, b2⟩
    have B2 : Below w.heap.size w w2 := b1.trans (b2.mono b1.size)
    have z2 := b2.size
    have O2 := HO.out.below b2 HO.out.lt
    clear C0 C1
    obtain ⟨⟨C0, C1⟩, -⟩ := O2.two
    obtain ⟨w3, e3⟩ : ∃ q : World, q = w2.alloc (.cells #[.int .i64 (n : Int)] 3) := ⟨_, rfl⟩
    have X3 : Boxed w3 w2.heap.size 3 (.int .i64 (n : Int)) := by rw [e3]; exact Boxed.new _ _ _
    have B3 : Below w.heap.size w w3 := by rw [e3]; exact B2.alloc (by omega) _
    have z3 : w3.heap.size = w2.heap.size + 1 := by rw [e3]; simp
    have O3 : Obj w3 w.heap.size 29 #[.int .i64 (M : Int), .slice A k cap] := by rw [e3]; exact O2.alloc _
    have D0 : w3.cell? ⟨w.heap.size, 0, none⟩ = some (.int .i64 (M : Int)) := O3.cell 0
    have D1 : w3.cell? ⟨w.heap.size, 1, none⟩ = some (.slice A k cap) := O3.cell 1
    clear O2
    go_wp2_with (rw [← e3]; clear e3)
    refine (HST.out w3).mono ?_
    rintro e w4 ⟨rfl, b4⟩
    have z4 := b4.size
    have B4 : Below w.heap.size w w4 := B3.trans (b4.mono B3.size)
    obtain ⟨w5, e5⟩ : ∃ q : World, q = (w4.alloc (.cells (madeCells #[Value.bool false, .float .f32 0, .int .i64 0] (S * 3)) 110)).alloc (.cells #[.slice (some ⟨w4.heap.size, 0, none⟩) S S] 108) := ⟨_, rfl⟩
    have P5 : PRow w5 w4.heap.size S (newT S) (List.replicate S 0) := by rw [e5]; exact (PRow.new w4 hS1).alloc _
    have X5 : Boxed w5 (w4.heap.size + 1) 108 (psV S w4.heap.size) := by
      have := Boxed.new (w4.alloc (.cells (madeCells #[Value.bool false, .float .f32 0, .int .i64 0] (S * 3)) 110)) 108 (psV S w4.heap.size)
      rw [World.size_alloc] at this
      rw [e5]
      exact this
    have b5 : Below w4.heap.size w4 w5 := by rw [e5]; exact ((Below.refl _ _).alloc (Nat.le_refl _) _).alloc (by simp) _
    have z5 : w5.heap.size = w4.heap.size + 1 + 1 := by rw [e5]; simp
    have E0 := (P5.cells (s := 0) hS1).1
    rw [Nat.zero_mul, newT_h] at E0
    have E1 := P5.frz 0
    have E2 := X5.cell
    unfold psV at E2
    obtain ⟨w6, e6⟩ : ∃ q : World, q = w5.setCell ⟨w4.heap.size, 0, none⟩ (.bool true) := ⟨_, rfl⟩
    have P6 := P5.start hS1
    rw [← e6] at P6
    have X6 : Boxed w6 (w4.heap.size + 1) 108 (psV S w4.heap.size) := by rw [e6]; exact X5.other (by omega) _
    have z6 : w6.heap.size = w5.heap.size := by rw [e6]; simp
    have b6 : Below w4.heap.size w4 w6 := by rw [e6]; exact b5.setCell (by simp) _
    obtain ⟨w7, e7⟩ : ∃ q : World, q = (w6.alloc (.cells #[] 108)).alloc (.cells #[.slice (some ⟨w4.heap.size + 1 + 1, 0, none⟩) 0 0] 111) := ⟨_, rfl⟩
    have b7 : Below w4.heap.size w4 w7 := by rw [e7]; exact (b6.alloc (by omega) _).alloc (by simp; omega) _
    have B7 : Below w.heap.size w w7 := B4.trans (b7.mono B4.size)
    have hzw : w.heap.size + 1 + 1 ≤ w4.heap.size := by have := b1.size; omega
    have P7 : PRow w7 w4.heap.size S (startT S) (List.replicate S 0) := by rw [e7]; exact (P6.alloc _).alloc _
    have X7 : Boxed w7 (w4.heap.size + 1) 108 (psV S w4.heap.size) := by rw [e7]; exact (X6.alloc _).alloc _
    have z7 : w7.heap.size = w4.heap.size + 1 + 1 + 1 + 1 := by rw [e7]; simp; omega
    have Y7 : Bufd w7 (w4.heap.size + 1 + 1) (w4.heap.size + 1 + 1 + 1) 111 108 [] := by
      have h1 := own_empty w6 (w4.heap.size + 1 + 1) 108 (by omega)
      rw [z6, z5] at h1
      have h2 := Boxed.new (w6.alloc (.cells #[] 108)) 111 (.slice (some ⟨w4.heap.size + 1 + 1, 0, none⟩) 0 0)
      rw [World.size_alloc, z6, z5] at h2
      rw [e7]
      exact ⟨_, h2, World.ownsRow.alloc h1 _, _, _, rfl⟩
    have O4 := O3.below b4 (by omega)
    have O7 := O4.below b7 (by omega)
    have F1 : w7.cell? ⟨w.heap.size, 1, none⟩ = some (.slice A k cap) := O7.cell 1
    have X37 := (show Obj w3 w2.heap.size 3 #[.int .i64 (n : Int)] from X3).below b4 (by omega)
    have X77 : Boxed w7 w2.heap.size 3 (.int .i64 (n : Int)) := X37.below b7 (by omega)
    clear X3 X5 X6 P5 P6 O3 O4 X37 D0 D1
    go_wp2_with (first | (rw [← e5]; clear e5) | (rw [← e6]; clear e6) | (rw [← e7]; clear e7) | (go_at_call 43; refine ((callsIn_wide (n := 3)).1 (Chunk_float32_in 3 (some ⟨g2, 0, none⟩) n2 cap2 k hk1 _)).mono ?_; rintro e w8 ⟨rfl, rfl⟩))
    have hz7 : w7.heap.size = w7.heap.size := rfl
    have hbx1 := Boxed.new w7 25 (.slice (some ⟨g2, 0, none⟩) n2 cap2)
    have hbx2 := Boxed.new (w7.alloc (.cells #[.slice (some ⟨g2, 0, none⟩) n2 cap2] 25)) 3 (.int .i64 (k : Int))
    rw [World.size_alloc] at hbx2
    rw [z7] at hbx1 hbx2
    obtain ⟨w8, e8⟩ : ∃ q : World, q = (w7.alloc (.cells #[.slice (some ⟨g2, 0, none⟩) n2 cap2] 25)).alloc (.cells #[.int .i64 (k : Int)] 3) := ⟨_, rfl⟩
    have z8 : w8.heap.size = w7.heap.size + 2 := by rw [e8]; simp
    have X81 : Boxed w8 (w4.heap.size + 1 + 1 + 1 + 1) 25 (.slice (some ⟨g2, 0, none⟩) n2 cap2) := by rw [e8]; exact hbx1.alloc _
    have X82 : Boxed w8 (w4.heap.size + 1 + 1 + 1 + 1 + 1) 3 (.int .i64 (k : Int)) := by rw [e8]; exact hbx2
    have I8 : BWI w (w4.heap.size + 1 + 1) S (seqT M ms xs n []) 0 #[.int .i64 (M : Int), .slice A k cap] w2.heap.size (w4.heap.size + 1) (w4.heap.size + 1 + 1 + 1) (w4.heap.size + 1 + 1 + 1 + 1) (w4.heap.size + 1 + 1 + 1 + 1 + 1) (.int .i64 (n : Int)) (.slice (some ⟨g2, 0, none⟩) n2 cap2) (.int .i64 (k : Int)) w8 := by
      refine ⟨by rw [e8]; exact (B7.alloc B7.size _).alloc (by have := B7.size; simp; omega) _, by rw [e8]; exact (O7.alloc _).alloc _, by rw [e8]; exact (X77.alloc _).alloc _, X81, X82, ⟨w4.heap.size, List.replicate S 0, B4.size, by rw [e8]; exact (X7.alloc _).alloc _, ?_⟩, ⟨[], rfl, ?_, fun i hi => absurd hi (Nat.not_lt_zero _)⟩⟩
      · show PRow w8 _ S (startT (2 ^ M)) _
        rw [HSS.out, e8]
        exact (P7.alloc _).alloc _
      · rw [e8]
        obtain ⟨v, k1, k2, k3⟩ := Y7
        exact ⟨v, (k1.alloc _).alloc _, World.ownsRow.alloc (World.ownsRow.alloc k2 _) _, k3⟩
    rw [← e8]
    have hP7 : w2.heap.size < w4.heap.size := by omega
    have hw1z := b1.size
    clear e8 hbx1 hbx2 X7 Y7 O7 X77 P7 F1 hz7 X81 X82 C0 C1 E0 E1 E2
    refine wp_chunk_float32' 42 11 (w4.heap.size + 1 + 1 + 1 + 1) (w4.heap.size + 1 + 1 + 1 + 1 + 1) g2 0 n2 cap2 k (some ⟨g2, 0, none⟩) rfl rfl (.inl rfl) hk1 (by omega) hn2 hcap hcapm (fun h => by cases h) (by omega) (by omega) I8.x1.cell I8.x2.cell
      (fun pre W => BWI w (w4.heap.size + 1 + 1) S (seqT M ms xs n (pre.map (·.1))) pre.length #[.int .i64 (M : Int), .slice A k cap] w2.heap.size (w4.heap.size + 1) (w4.heap.size + 1 + 1 + 1) (w4.heap.size + 1 + 1 + 1 + 1) (w4.heap.size + 1 + 1 + 1 + 1 + 1) (.int .i64 (n : Int)) (.slice (some ⟨g2, 0, none⟩) n2 cap2) (.int .i64 (k : Int)) W)
      (bwi_own w (w4.heap.size + 1 + 1) S _ _ _ _ _ _ _ _ _ _ _ _ (by omega)) I8 ?assign ?body ?done
    case assign =>
      intro l x W K hK
      gi_wp2
      exact hK
    case body =>
      intro l pre x W hI hlp
      obtain ⟨wA, rfl⟩ : ∃ wA : World, wA = W := ⟨_, rfl⟩
      obtain ⟨hbw, hOc, hx7, hx1, hx2, ⟨b9, ns9, hb9, hX9, hP9⟩, ⟨bs, hbl, hbf, hbr⟩⟩ := hI
      obtain ⟨t, et⟩ : ∃ t, pre.length = t := ⟨_, rfl⟩
      obtain ⟨lp, elp⟩ : ∃ lp, pre.map (·.1) = lp := ⟨_, rfl⟩
      obtain ⟨xi, exi⟩ : ∃ xi, x.1 = xi := ⟨_, rfl⟩
      have hlp2 : lp.length = t := by rw [← elp, List.length_map, et]
      have hxN : xi < n + M := by have h2 : x.1 < chN k n2 := x.2; have h3 : chN k n2 = n + M := HCH.out; omega
      rw [elp, et] at hP9
      rw [elp, et] at hbr
      rw [et] at hbl
      rw [et, HCH.out] at hlp
      obtain ⟨T0, eT0⟩ : ∃ T, seqT M ms xs n lp t = T := ⟨_, rfl⟩
      obtain ⟨pt, ept⟩ : ∃ pt, partL k xs xi = pt := ⟨_, rfl⟩
      obtain ⟨la, ela⟩ : ∃ la, decide (n ≤ t) = la := ⟨_, rfl⟩
      have hnx : seqT M ms xs n (lp ++ [xi]) (t + 1) = rowT M ms pt la T0 S := by rw [← hlp2, seqT_next, hlp2, hl, ept, ela, eT0, HSS.out]
      rw [eT0] at hP9
      have hlo1 : k * xi + k ≤ n2 := by
        rw [← HNN.out, Nat.mul_comm k xi, ← Nat.succ_mul]
        exact Nat.mul_le_mul_right k hxN
      obtain ⟨lo, elo⟩ : ∃ lo, k * xi = lo := ⟨_, rfl⟩
      rw [elo] at hlo1
      have hcv : chV g2 0 k n2 x.1 = .slice (some ⟨g2, lo, none⟩) k k := by
        unfold chV
        rw [exi, elo, Nat.zero_add, show min k (n2 - lo) = k by omega]
      have hpt : pt = (xs.drop lo).take k := by rw [← ept, ← elo, Nat.mul_comm]; rfl
      have hptl : pt.length = k := by rw [hpt]; simp; omega
      rw [hcv]
      simp only [List.setIfInBounds_toArray, List.set_cons_succ, List.set_cons_zero]
      have HNX := Lib.hid hnx
      have HPT := Lib.hid hpt
      have HLA := Lib.hid ela
      have HT := Lib.hid et
      have HLP := Lib.hid elp
      have HXI := Lib.hid exi
      have HT0 := Lib.hid eT0
      have HLP2 := Lib.hid hlp2
      have HBL := Lib.hid hbl
      have HBR := Lib.hid hbr
      have HBF := Lib.hid hbf
      have HP9 := Lib.hid hP9
      have HOC := Lib.hid hOc
      have HX9 := Lib.hid hX9
      have HX7 := Lib.hid hx7
      have HX1 := Lib.hid hx1
      have HX2 := Lib.hid hx2
      obtain ⟨⟨G0, G1⟩, -⟩ := hOc.two
      have hc9 := hX9.cell
      have hzA := hbw.size
      clear I8 hnx hpt ela et elp exi eT0 ept elo hlp2 hcv hbl hbr hbf hP9 hOc hX9 hx7 hx1 hx2
      unfold psV at hc9
      gi_wp2_with fail
      refine ⟨trivial, (CallsIn.inRound l (callsIn_wide.2 (HST.out wA))).mono ?_⟩
      rintro e wB ⟨rfl, hbB⟩
      obtain ⟨wC, eC⟩ : ∃ q : World, q = wB.alloc (.cells (madeCells #[Value.bool false, .float .f32 0, .int .i64 0] (S * 3)) 110) := ⟨_, rfl⟩
      have hPC : PRow wC wB.heap.size S (newT S) (List.replicate S 0) := by rw [eC]; exact PRow.new wB hS1
      have hbC : Below wA.heap.size wA wC := by rw [eC]; exact hbB.alloc hbB.size _
      have hBA := hbB.size
      have hzC : wC.heap.size = wB.heap.size + 1 := by rw [eC]; simp
      have hc9c := (hbC.cell (p := ⟨w4.heap.size + 1, 0, none⟩) HX9.out.lt).trans hc9
      have HZC := Lib.hid hzC
      have HPC := Lib.hid hPC
      clear hc9 hzC hPC
      gi_wp2_with (rw [← eC]; clear eC)
      gi_loopw [48] (fun i w1 => ∃ (s : Nat) (ns : List Nat), s ≤ S ∧ i = .int .i64 s ∧ PRow w1 wB.heap.size S (rowT M ms pt la T0 s) ns ∧ Below wA.heap.size wA w1) (fun i _ => S - (intOf i).toNat)
      case atStart =>
        refine ⟨0, List.replicate S 0, Nat.zero_le _, rfl, ?_, hbC⟩
        show PRow _ _ _ (newT (2 ^ M)) _
        rw [HSS.out]
        exact HPC.out
      case round =>
        clear hc9c
        obtain ⟨s, ns, hs, rfl, hmid, hbD⟩ := hrel
        obtain ⟨wD, rfl⟩ : ∃ wD : World, wD = wr := ⟨_, rfl⟩
        by_cases hlt2 : s < S
        · obtain ⟨c1, c2, c3⟩ := (HP9.out.below hbD HP9.out.lt).cells hlt2
          obtain ⟨hh, ehh⟩ : ∃ q, T0.h.getD s false = q := ⟨_, rfl⟩
          obtain ⟨g0, eg0⟩ : ∃ q, ns9.getD s 0 = q := ⟨_, rfl⟩
          obtain ⟨f0, ef0⟩ : ∃ q, T0.f.getD s 0 = q := ⟨_, rfl⟩
          have hg0 : T0.g.getD s none = fl .f32 g0 := by
            have h1 := HP9.out.len
            have h2 : s < ns9.length := by omega
            rw [← HP9.out.2.2, ← eg0]
            simp [List.getD, h2]
          rw [ehh] at c1
          rw [eg0] at c2
          rw [ef0] at c3
          have HG := Lib.hid ehh
          have HG0 := Lib.hid hg0
          have HM := Lib.hid hmid
          obtain ⟨wE, eE⟩ : ∃ q : World, q = wD.alloc (.cells #[.bool hh, .float .f32 g0, .int .i64 f0] 110) := ⟨_, rfl⟩
          have hOE : Obj wE wD.heap.size 110 #[.bool hh, .float .f32 g0, .int .i64 f0] := by rw [eE]; exact Obj.new _ _ _
          have hzD := hbD.size
          have hbE : Below wA.heap.size wA wE := by rw [eE]; exact hbD.alloc hzD _
          have hmE : PRow wE wB.heap.size S (rowT M ms pt la T0 s) ns := by rw [eE]; exact hmid.alloc _
          have hBD := hmid.lt
          have HOE := Lib.hid hOE
          have HME := Lib.hid hmE
          clear hmid ehh eg0 ef0 hg0 hOE hmE
          gi_wp2_with (rw [← eE]; clear eE)
          gi_loopw [53] (fun jv w1 => ∃ (j : Nat) (ns2 : List Nat), j ≤ 2 ∧ jv = .int .i64 j ∧ PRow w1 wB.heap.size S (bitT M ms pt la T0 s j) ns2 ∧ Below wA.heap.size wA w1 ∧ Obj w1 wD.heap.size 110 #[.bool hh, .float .f32 g0, .int .i64 f0]) (fun j _ => 2 - (intOf j).toNat)
          case atStart => exact ⟨0, ns, Nat.zero_le _, rfl, HME.out, hbE, HOE.out⟩
          case round =>
            clear c1 c2 c3
            obtain ⟨j, ns2, hj, rfl, hmid2, hbF, hOF⟩ := hrel
            obtain ⟨wF, rfl⟩ : ∃ wF : World, wF = wr := ⟨_, rfl⟩
            by_cases hj2 : j < 2
            · obtain ⟨q, hjq⟩ : ∃ q : Bool, (j : Int) = bitI q := by
                rcases (show j = 0 ∨ j = 1 by omega) with rfl | rfl
                · exact ⟨false, rfl⟩
                · exact ⟨true, rfl⟩
              have hje : ((j : Int) == 1) = q := by rw [hjq]; cases q <;> rfl
              have HJ := Lib.hid hjq
              have HM2 := Lib.hid hmid2
              have HOF := Lib.hid hOF
              have p0 : wF.cell? ⟨wD.heap.size, 0, none⟩ = some (.bool hh) := hOF.cell 0
              have p1 : wF.cell? ⟨wD.heap.size, 1, none⟩ = some (.float .f32 g0) := hOF.cell 1
              clear hjq hmid2 hOF
              cases hh
              · gi_wp2
                all_goals try (exfalso; have h9 := ‹some undef = some (Value.bool _)›; cases h9; done)
                go_roundw
                case rel => exact ⟨j + 1, ns2, by omega, by go_num, by rw [bitT_step q HJ.out, edge_not HG.out]; exact HM2.out, hbF, HOF.out⟩
                case measure => simp [intOf]; omega
              · have d7 := (hbF.cell (p := ⟨w2.heap.size, 0, none⟩) HX7.out.lt).trans HX7.out.cell
                obtain ⟨v5, k1, k2, g5, cap5, rfl⟩ := HBF.out
                have d10 := (hbF.cell (p := ⟨w4.heap.size + 1 + 1 + 1, 0, none⟩) k1.lt).trans k1.cell
                rw [List.length_map, HBL.out] at d10
                clear k1 k2
                have hnd := HLA.out
                have hnd : decide ((n : Int) ≤ (t : Int)) = la := by rw [← hnd]; exact decide_eq_decide.2 (by omega)
                by_cases hsk : (q && la) = true
                · obtain ⟨rfl, rfl⟩ : q = true ∧ la = true := by simpa using hsk
                  have hnt : n ≤ t := by simpa using HLA.out
                  clear hsk
                  gi_wp2
                  go_roundw
                  case rel => exact ⟨j + 1, ns2, by omega, by go_num, by rw [bitT_step true HJ.out, edge_last]; exact HM2.out, hbF, HOF.out⟩
                  case measure => simp [intOf]; omega
                · have hql : (q && la) = false := by simpa using hsk
                  obtain ⟨to, eto⟩ : ∃ to, toS M s q = to := ⟨_, rfl⟩
                  have hto : to < S := by rw [← eto, ← HSS.out]; exact toS_lt q
                  have htv : (2 * (s : Int) + (j : Int)) % 2 ^ M = (to : Int) := by rw [HJ.out, ← eto]; exact toS_eq M s q
                  have hsx : sentL ms (2 * (s : Int) + (j : Int)) = sentL ms (2 * (s : Int) + bitI q) := by rw [HJ.out]
                  have hedge : edgeT M ms pt la T0 s q (bitT M ms pt la T0 s j) = updT (bitT M ms pt la T0 s j) to (edgeX ms pt T0 s q) s := by rw [← eto]; exact edge_yes HG.out hql
                  have hst2 := bitT_step (M := M) (ms := ms) (part := pt) (last := la) (T0 := T0) (s := s) q HJ.out
                  rw [hedge] at hst2
                  have hs15 : s ≤ 15 := by omega
                  obtain ⟨T1, eT1⟩ : ∃ T, bitT M ms pt la T0 s j = T := ⟨_, rfl⟩
                  rw [eT1] at hst2
                  have hmF := HM2.out
                  rw [eT1] at hmF
                  have HST2 := Lib.hid hst2
                  have HTV := Lib.hid htv
                  have HSX := Lib.hid hsx
                  have hbwF : Below w.heap.size w wF := hbw.trans (hbF.mono hzA)
                  have G0F := (hbF.cell (p := ⟨w.heap.size, 0, none⟩) HOC.out.lt).trans G0
                  have G1F := (hbF.cell (p := ⟨w.heap.size, 1, none⟩) HOC.out.lt).trans G1
                  have hyF : Sl wF w.heap.size (some ⟨g2, lo, none⟩) (pt.map (Value.float .f32)) := by
                    have := sl_part (HY.out.below hbwF) lo k
                    rw [Nat.zero_add] at this
                    rw [HPT.out, List.map_take, List.map_drop]
                    exact this
                  have HMF := Lib.hid hmF
                  have HYF := Lib.hid hyF
                  have hj1 : j ≤ 1 := by omega
                  have HQL := Lib.hid hql
                  clear htv hsx hedge hst2 eT1 eto hmF hyF hsk hql
                  have hqn : q = true → decide ((n : Int) ≤ (t : Int)) = false := by
                    rintro rfl
                    have := HQL.out
                    rw [Bool.true_and] at this
                    rw [hnd, this]
                  cases q
                  · clear hqn
                    gi_wp2_with fail
                    refine ⟨trivial, (CallsIn.inRound l (callsIn_wide.2 (impl_send_c wF M hM1 hM4 A k cap ms hl hk4 hr ((HX.out.below hbwF).more hbwF.size) (s : Int) (j : Int) (by omega) (by omega) (by omega) (by omega)))).mono ?_⟩
                    rintro e wG ⟨v, rfl, hoG, hbG⟩
                    rw [HTV.out]
                    rw [HSX.out] at hoG
                    obtain ⟨S3, q3, rfl, hp3⟩ := hoG.opn
                    have hp1 := (hbG.cell (p := ⟨wD.heap.size, 1, none⟩) HOF.out.lt).trans p1
                    gi_wp2_with fail
                    refine ⟨trivial, (CallsIn.inRound l (callsIn_wide.2 (impl_gain_c wG g0 wG.heap.size w.heap.size S3 _ q3 (sentL ms (2 * (s : Int) + bitI false)) rfl (by rw [sentL_len]; omega) (sl_of_own hp3) (some ⟨g2, lo, none⟩) k k pt hptl (by rw [sentL_len]; omega) (by omega) (HYF.out.below (hbG.mono hbwF.size))))).mono ?_⟩
                    rintro e wI ⟨x5, rfl, hx5, q5, rfl⟩
                    obtain ⟨wH, eH⟩ : ∃ W : World, W = wG.drewN q5 := ⟨_, rfl⟩
                    rw [← eH]
                    have hbH : Below wF.heap.size wF wH := by rw [eH]; exact below_drewN hbG q5
                    have hmH := HMF.out.below hbH HMF.out.lt
                    have hOH := HOF.out.below hbH HOF.out.lt
                    have hbAH : Below wA.heap.size wA wH := hbF.trans (hbH.mono hbF.size)
                    have hxe : fl .f32 x5 = edgeX ms pt T0 s false := by
                      rw [hx5, sentL_len]
                      unfold edgeX
                      rw [HG0.out]
                    have HXE := Lib.hid hxe
                    have HMH := Lib.hid hmH
                    have HOH := Lib.hid hOH
                    obtain ⟨k1, k2, k3⟩ := hmH.cells hto
                    have z1 := hmH.frz (to * 3)
                    have z2 := hmH.frz (to * 3 + 1)
                    have z3 := hmH.frz (to * 3 + 1 + 1)
                    have hgg : T1.g.getD to none = fl .f32 (ns2.getD to 0) := by
                      have h1 := hmH.len
                      have h2 : to < ns2.length := by omega
                      rw [← hmH.2.2]
                      simp [List.getD, h2]
                    obtain ⟨hh, ehh⟩ : ∃ q, T1.h.getD to false = q := ⟨_, rfl⟩
                    obtain ⟨y, ey⟩ : ∃ q, ns2.getD to 0 = q := ⟨_, rfl⟩
                    obtain ⟨fr, efr⟩ : ∃ q, T1.f.getD to 0 = q := ⟨_, rfl⟩
                    rw [ehh] at k1
                    rw [ey] at k2 hgg
                    rw [efr] at k3
                    have hbet : betT T1 to (edgeX ms pt T0 s false) = (!hh || (FloatKind.f32.format.order x5 y == some Ordering.gt)) := by
                      unfold betT
                      rw [ehh, hgg, gt_fl, hxe]
                    have HB := Lib.hid hbet
                    have hBH : wA.heap.size ≤ wB.heap.size := hBA
                    have hDB : wD.heap.size ≠ wB.heap.size := by omega
                    clear eH hgg ehh ey efr hbet hxe hx5 hbH hbG hoG hp3 hmH hOH hp1 p0 p1
                    cases hh
                    · gi_wp2
                      go_roundw
                      case rel =>
                        refine ⟨j + 1, ns2.set to x5, by omega, by go_num, ?_, ((hbAH.setCell hBH _).setCell hBH _).setCell hBH _, ((HOH.out.far hDB _ _).far hDB _ _).far hDB _ _⟩
                        rw [HST2.out, upd_yes (by rw [HB.out]; rfl)]
                        exact HMH.out.put hto x5 _ HXE.out s (by omega) (by omega)
                      case measure => simp [intOf]; omega
                    · by_cases hord : (FloatKind.f32.format.order x5 y == some Ordering.gt) = true
                      · gi_wp2
                        go_roundw
                        case rel =>
                          refine ⟨j + 1, ns2.set to x5, by omega, by go_num, ?_, ((hbAH.setCell hBH _).setCell hBH _).setCell hBH _, ((HOH.out.far hDB _ _).far hDB _ _).far hDB _ _⟩
                          rw [HST2.out, upd_yes (by rw [HB.out, hord]; rfl)]
                          exact HMH.out.put hto x5 _ HXE.out s (by omega) (by omega)
                        case measure => simp [intOf]; omega
                      · have hord : (FloatKind.f32.format.order x5 y == some Ordering.gt) = false := by simpa using hord
                        gi_wp2
                        go_roundw
                        case rel =>
                          refine ⟨j + 1, ns2, by omega, by go_num, ?_, hbAH, HOH.out⟩
                          rw [HST2.out, upd_no (by rw [HB.out, hord]; rfl)]
                          exact HMH.out
                        case measure => simp [intOf]; omega
                  · have hntd := hqn rfl
                    have hnt : ¬ n ≤ t := by simpa using hntd
                    have hla2 : la = false := by rw [← hnd]; exact hntd
                    have HLA2 := Lib.hid hla2
                    clear hqn hnd hla2
                    gi_wp2_with fail
                    refine ⟨trivial, (CallsIn.inRound l (callsIn_wide.2 (impl_send_c wF M hM1 hM4 A k cap ms hl hk4 hr ((HX.out.below hbwF).more hbwF.size) (s : Int) (j : Int) (by omega) (by omega) (by omega) (by omega)))).mono ?_⟩
                    rintro e wG ⟨v, rfl, hoG, hbG⟩
                    rw [HTV.out]
                    rw [HSX.out] at hoG
                    obtain ⟨S3, q3, rfl, hp3⟩ := hoG.opn
                    have hp1 := (hbG.cell (p := ⟨wD.heap.size, 1, none⟩) HOF.out.lt).trans p1
                    gi_wp2_with fail
                    refine ⟨trivial, (CallsIn.inRound l (callsIn_wide.2 (impl_gain_c wG g0 wG.heap.size w.heap.size S3 _ q3 (sentL ms (2 * (s : Int) + bitI true)) rfl (by rw [sentL_len]; omega) (sl_of_own hp3) (some ⟨g2, lo, none⟩) k k pt hptl (by rw [sentL_len]; omega) (by omega) (HYF.out.below (hbG.mono hbwF.size))))).mono ?_⟩
                    rintro e wI ⟨x5, rfl, hx5, q5, rfl⟩
                    obtain ⟨wH, eH⟩ : ∃ W : World, W = wG.drewN q5 := ⟨_, rfl⟩
                    rw [← eH]
                    have hbH : Below wF.heap.size wF wH := by rw [eH]; exact below_drewN hbG q5
                    have hmH := HMF.out.below hbH HMF.out.lt
                    have hOH := HOF.out.below hbH HOF.out.lt
                    have hbAH : Below wA.heap.size wA wH := hbF.trans (hbH.mono hbF.size)
                    have hxe : fl .f32 x5 = edgeX ms pt T0 s true := by
                      rw [hx5, sentL_len]
                      unfold edgeX
                      rw [HG0.out]
                    have HXE := Lib.hid hxe
                    have HMH := Lib.hid hmH
                    have HOH := Lib.hid hOH
                    obtain ⟨k1, k2, k3⟩ := hmH.cells hto
                    have z1 := hmH.frz (to * 3)
                    have z2 := hmH.frz (to * 3 + 1)
                    have z3 := hmH.frz (to * 3 + 1 + 1)
                    have hgg : T1.g.getD to none = fl .f32 (ns2.getD to 0) := by
                      have h1 := hmH.len
                      have h2 : to < ns2.length := by omega
                      rw [← hmH.2.2]
                      simp [List.getD, h2]
                    obtain ⟨hh, ehh⟩ : ∃ q, T1.h.getD to false = q := ⟨_, rfl⟩
                    obtain ⟨y, ey⟩ : ∃ q, ns2.getD to 0 = q := ⟨_, rfl⟩
                    obtain ⟨fr, efr⟩ : ∃ q, T1.f.getD to 0 = q := ⟨_, rfl⟩
                    rw [ehh] at k1
                    rw [ey] at k2 hgg
                    rw [efr] at k3
                    have hbet : betT T1 to (edgeX ms pt T0 s true) = (!hh || (FloatKind.f32.format.order x5 y == some Ordering.gt)) := by
                      unfold betT
                      rw [ehh, hgg, gt_fl, hxe]
                    have HB := Lib.hid hbet
                    have hBH : wA.heap.size ≤ wB.heap.size := hBA
                    have hDB : wD.heap.size ≠ wB.heap.size := by omega
                    clear eH hgg ehh ey efr hbet hxe hx5 hbH hbG hoG hp3 hmH hOH hp1 p0 p1
                    cases hh
                    · gi_wp2
                      go_roundw
                      case rel =>
                        refine ⟨j + 1, ns2.set to x5, by omega, by go_num, ?_, ((hbAH.setCell hBH _).setCell hBH _).setCell hBH _, ((HOH.out.far hDB _ _).far hDB _ _).far hDB _ _⟩
                        rw [HST2.out, upd_yes (by rw [HB.out]; rfl)]
                        exact HMH.out.put hto x5 _ HXE.out s (by omega) (by omega)
                      case measure => simp [intOf]; omega
                    · by_cases hord : (FloatKind.f32.format.order x5 y == some Ordering.gt) = true
                      · gi_wp2
                        go_roundw
                        case rel =>
                          refine ⟨j + 1, ns2.set to x5, by omega, by go_num, ?_, ((hbAH.setCell hBH _).setCell hBH _).setCell hBH _, ((HOH.out.far hDB _ _).far hDB _ _).far hDB _ _⟩
                          rw [HST2.out, upd_yes (by rw [HB.out, hord]; rfl)]
                          exact HMH.out.put hto x5 _ HXE.out s (by omega) (by omega)
                        case measure => simp [intOf]; omega
                      · have hord : (FloatKind.f32.format.order x5 y == some Ordering.gt) = false := by simpa using hord
                        gi_wp2
                        go_roundw
                        case rel =>
                          refine ⟨j + 1, ns2, by omega, by go_num, ?_, hbAH, HOH.out⟩
                          rw [HST2.out, upd_no (by rw [HB.out, hord]; rfl)]
                          exact HMH.out
                        case measure => simp [intOf]; omega
            · have : j = 2 := by omega
              subst this
              gi_wp2
              go_roundw
              case rel => exact ⟨s + 1, ns2, hlt2, by go_num, hmid2, hbF⟩
              case measure => simp [intOf]; omega
        · obtain rfl : s = S := by omega
          obtain ⟨v5, k1, k2, g5, cap5, rfl⟩ := HBF.out
          have hbl5 : (bs.map (psV s)).length = t := by rw [List.length_map, HBL.out]
          rw [hbl5] at k1 k2
          have k1 := boxed_below k1 hbD k1.lt
          have k2 := own_below k2 hbD (Nat.le_refl _)
          have hzD := hbD.size
          have hP9lt := HX9.out.lt
          have hzD2 : w4.heap.size + 1 + 1 ≤ wD.heap.size := Nat.le_trans hP9lt hzD
          have ht40 : t + 1 ≤ 1099511627776 := by omega
          have d10 := k1.cell
          have HMD := Lib.hid hmid
          have X9D := boxed_below HX9.out hbD HX9.out.lt
          have HX9D := Lib.hid X9D
          clear hmid hbl5 G0 G1 X9D
          gi_wp2_with (gi_at_builtin; go_must (refine appBxIn Try.underlying111 infoPickS rfl (by decide) rfl (.tmp 104) (.tmp 106) rfl wD (w4.heap.size + 1 + 1) (w4.heap.size + 1 + 1 + 1) 111 (.slice (some ⟨g5, 0, none⟩) t cap5) t _ rfl k1 (by decide) k2 hzD2 (by omega) _ (by simp) _ _ 1 _ [psV s wB.heap.size] rfl rfl (by decide) (cells1 _ _ _) (by simp [psV, Value.oneCell']) ht40 ?_); intro v6 w6 n6 N6 A6; have b6o := A6.old.cell; have b6f := A6.old.frozen; have hA6 := A6; obtain ⟨g6, cap6, rfl⟩ := A6.form; have x9 := boxed_below HX9D.out A6.bel (by omega); have x9c := x9.cell; have x9f := x9.frozen)
          have hfin := bwi_step (Q' := seqT M ms xs n (lp ++ [xi])) hbw HOC.out HX7.out HX1.out HX2.out HX9.out HBL.out HBR.out hbD (by rw [HNX.out]; exact HMD.out) (by omega) (by omega) k1 k2 hA6 (by omega) (by omega) (by omega) (by omega) (by omega) (by omega) (by omega) (by omega) (by omega) (by omega) (by omega) (fun j hj => seqT_app j (by rw [HLP2.out]; exact hj))
          have hK := ((keeps_below hbD).trans hA6.oth).trans (KeepsOthers.setCell _ ⟨w4.heap.size + 1, 0, none⟩ (psV s wB.heap.size))
          refine ⟨hK.from _, ⟨hfin.x1.trans HX1.out.symm, hfin.x2.trans HX2.out.symm⟩, ?_⟩
          have e1 : (pre ++ [x]).map (·.1) = lp ++ [xi] := by rw [List.map_append, HLP.out, List.map_cons, List.map_nil, HXI.out]
          have e2 : (pre ++ [x]).length = t + 1 := by rw [List.length_append, HT.out, List.length_singleton]
          show BWI _ _ _ (seqT M ms xs n ((pre ++ [x]).map (·.1))) (pre ++ [x]).length _ _ _ _ _ _ _ _ _ _
          rw [e1, e2]
          exact hfin
    case done =>
      rintro Dd ys W hDd hys hI hK
      have hys := hys.trans (congrArg List.range HCH.out)
      have hyl : ys.length = n + M := by
        have := congrArg List.length hys
        rw [List.length_map, List.length_range] at this
        exact this
      rw [hys, hyl] at hI
      obtain ⟨hbw, hOc, hx7, hx1, hx2, ⟨b9, ns9, hb9, hX9, hP9⟩, ⟨bs, hbl, hbf, hbr⟩⟩ := hI
      rw [seqT_range (n + M) (Nat.le_refl _)] at hP9
      have hlen9 := hP9.len
      have hc := hP9.cells (s := 0) (by omega)
      rw [Nat.zero_mul, Nat.zero_add] at hc
      obtain ⟨-, c1, -⟩ := hc
      have hgg : wayGain M ms xs n = fl .f32 (ns9.getD 0 0) := by
        unfold wayGain
        rw [← hP9.2.2]
        simp [List.getD, show 0 < ns9.length by omega]
      obtain ⟨g0, eg0⟩ : ∃ q, ns9.getD 0 0 = q := ⟨_, rfl⟩
      rw [eg0] at c1 hgg
      have d9 := hX9.cell
      unfold psV at d9
      have hfin := impl_IsFinite_c W g0
      rw [← hgg] at hfin
      have hS0 : (0 : Int) < (S : Int) := by omega
      have HSO2 := HSO.out
      have hbo : bestOk (M : Int) ms xs = finB (wayGain M ms xs n) := by
        unfold bestOk
        rw [HSO2, HSN.out, Bool.true_and, Int.toNat_natCast, Int.toNat_natCast]
      have hbl2 : bestOk (M : Int) ms xs = true → bestL (M : Int) ms xs = wayBits M ms xs n ∧ bestG (M : Int) ms xs = wayGain M ms xs n := fun h => by
        unfold bestL bestG
        rw [h, if_pos rfl, if_pos rfl, HSN.out, Int.toNat_natCast, Int.toNat_natCast]
        exact ⟨rfl, rfl⟩
      have HBL2 := Lib.hid hbl2
      have HGG := Lib.hid hgg
      have HBR := Lib.hid hbr
      have HBF := Lib.hid hbf
      have HBLN := Lib.hid hbl
      have HX7 := Lib.hid hx7
      clear hx1 hx2 hOc hgg eg0 HSO2 hbl2 hys hyl hbr hbf hbl hx7 hlen9 I8
      cases hfb : finB (wayGain M ms xs n)
      · rw [hfb] at hfin hbo
        have HF := Lib.hid hfin
        have HBO := Lib.hid hbo
        clear hfin hbo hfb
        go_wp2_with fail
        refine HF.out.mono ?_
        rintro e w9 ⟨rfl, q9, rfl⟩
        go_wp2
        have hK2 : (W.drewN q9).heap[Dd]? = some (.deferred (some [])) := hK
        refine marks_ret1 rfl hK2 (results_tmp3 rfl _ _ _) ?_
        exact best_fail HBO.out ((below_drewN hbw q9).trans (belowK_b (w := w) (Nat.le_refl _) _ Dd _ _ (by omega) hK2 rfl rfl))
      · rw [hfb] at hfin hbo
        have HF := Lib.hid hfin
        have HBO := Lib.hid hbo
        have hmn := fun W : World => run_mk (P := Try.prog) Try.underlying41 infoBool rfl (by decide) n (by omega) .i64 .i64 W
        clear hfin hbo hfb
        go_wp2_with fail
        refine HF.out.mono ?_
        rintro e w9 ⟨rfl, q9, rfl⟩
        obtain ⟨wV, eV⟩ : ∃ q : World, q = W.drewN q9 := ⟨_, rfl⟩
        rw [← eV]
        have hbV : Below w.heap.size w wV := by rw [eV]; exact below_drewN hbw q9
        have hKV : wV.heap[Dd]? = some (.deferred (some [])) := by rw [eV]; exact hK
        have hX7V : Boxed wV w2.heap.size 3 (.int .i64 (n : Int)) := by rw [eV]; exact HX7.out
        have hPV : PRow wV b9 S (tabT M ms xs n (n + M)) ns9 := by rw [eV]; exact hP9
        have hX9V : Boxed wV (w4.heap.size + 1) 108 (psV S b9) := by rw [eV]; exact hX9
        have hBFV : Bufd wV (w4.heap.size + 1 + 1) (w4.heap.size + 1 + 1 + 1) 111 108 (bs.map (psV S)) := by rw [eV]; exact HBF.out
        have hBRV : ∀ i, i < n + M → w.heap.size ≤ bs.getD i 0 ∧ ∃ ns, PRow wV (bs.getD i 0) S (seqT M ms xs n (List.range (n + M)) (i + 1)) ns := by rw [eV]; exact HBR.out
        clear eV hP9 hX9 c1 d9 hK hbw
        obtain ⟨wL, eL⟩ : ∃ q : World, q = wV.alloc (.cells (zeroRow (.bool false) n) 4) := ⟨_, rfl⟩
        have bL : Below wV.heap.size wV wL := by rw [eL]; exact (Below.refl _ _).alloc (Nat.le_refl _) _
        have hRL : Row wL wV.heap.size 4 (List.replicate n (.bool false)) := by rw [eL]; exact Row.new _ _ _ _
        have d7 := hX7V.cell
        obtain ⟨v5, k1, k2, g5, cap5, rfl⟩ := hBFV
        have hbl5 : (bs.map (psV S)).length = n + M := by rw [List.length_map, HBLN.out]
        rw [hbl5] at k1 k2
        have d10 := (boxed_below k1 bL k1.lt).cell
        have hzV := hbV.size
        have HRL := Lib.hid hRL
        have HK1 := Lib.hid k1
        have HK2 := Lib.hid k2
        have HBRV := Lib.hid hBRV
        have HX7V := Lib.hid hX7V
        have HX9V := Lib.hid hX9V
        have HPV := Lib.hid hPV
        clear hRL k1 k2 hBRV hX7V hX9V hPV hbl5
        go_wp2_with (rw [← eL]; clear eL)
        go_loopw [20, 21] (fun v20 v21 w3 => ∃ (m : Nat) (i : Int), m ≤ n + M ∧ v21 = .int .i64 i ∧ i + 1 = (m : Int) ∧ v20 = .int .i64 (backS M ms xs n (n + M - m)) ∧ Row w3 wV.heap.size 4 ((restB M ms xs n m).map Value.bool) ∧ Below wV.heap.size wV w3) (fun _ i _ => (intOf i + 1).toNat)
        case atStart =>
          refine ⟨n + M, (n : Int) + M - 1, Nat.le_refl _, by first | rfl | go_num, by omega, ?_, ?_, bL⟩
          · rw [Nat.sub_self]; rfl
          · rw [restB_start _ _ _ _ _ (by omega), List.map_replicate]
            exact HRL.out
        case round =>
          obtain ⟨m, i, hm, rfl, him, rfl, hrow, hbW⟩ := hrel
          obtain ⟨wG, rfl⟩ : ∃ wG : World, wG = wr := ⟨_, rfl⟩
          clear d7 d10
          have d7 := (boxed_below HX7V.out hbW HX7V.out.lt).cell
          have d10 := (boxed_below HK1.out hbW HK1.out.lt).cell
          by_cases hm0 : 0 < m
          · obtain ⟨t, rfl⟩ : ∃ t, m = t + 1 := ⟨m - 1, by omega⟩
            obtain rfl : i = (t : Int) := by omega
            clear him
            have hbd := backS_bd (M := M) (ms := ms) (soft := xs) (n := n) (n + M - (t + 1))
            have hbs := backS_step (M := M) (ms := ms) (soft := xs) (n := n) (t := t) (by omega)
            have hst := restB_set (M := M) (ms := ms) (soft := xs) (n := n) (t := t)
            rw [HSS.out] at hbd
            have htb : t < bs.length := by rw [HBLN.out]; omega
            obtain ⟨hb1, ns1, hb2⟩ := HBRV.out t (by omega)
            rw [seqT_range (t + 1) (by omega)] at hb2
            obtain ⟨g, eg⟩ : ∃ g, bs.getD t 0 = g := ⟨_, rfl⟩
            rw [eg] at hb1 hb2
            obtain ⟨a, ea⟩ : ∃ a : Nat, backS M ms xs n (n + M - (t + 1)) = (a : Int) := ⟨(backS M ms xs n (n + M - (t + 1))).toNat, by omega⟩
            rw [ea] at hbd hbs hst
            rw [ea]
            have haS : a < S := by omega
            rw [Int.toNat_natCast] at hbs
            obtain ⟨f, ef⟩ : ∃ f, (tabT M ms xs n (t + 1)).f.getD a 0 = f := ⟨_, rfl⟩
            rw [ef] at hbs
            have k5 : ∀ W : World, Below wV.heap.size wV W → W.cell? ⟨g, a * 3 + 2, none⟩ = some (.int .i64 f) := fun W hW => by
              rw [← ef]
              exact ((hb2.below hW hb2.lt).cells haS).2.2
            have hgV : g5 < wV.heap.size := by
              rcases HK2.out.2 with ⟨h, _⟩ | ⟨g', c', cu', h, _, h3, _⟩
              · cases h
              · obtain rfl : g5 = g' := by injection h with h _ _; injection h with h; injection h
                exact (Array.getElem?_eq_some_iff.1 h3).1
            have k4 : ∀ W : World, Below wV.heap.size wV W → W.cell? ⟨g5, t, none⟩ = some (.slice (some ⟨g, 0, none⟩) S S) := fun W hW => by
              have h1 := World.ownsRow.cellAt (own_below HK2.out hW (Nat.le_refl _)) t (by omega)
              rw [h1]
              have e5 : bs[t] = g := by rw [← eg]; simp [List.getD, htb]
              rw [List.getElem?_map, List.getElem?_eq_getElem htb, e5]
              rfl
            have k1 := k5 wG hbW
            have k3 := k4 wG hbW
            have p1 := k5 _ (hbW.setCell (p := ⟨wV.heap.size, t, none⟩) (by simp) (.bool ((a : Int) % 2 == 1)))
            have p3 := k4 _ (hbW.setCell (p := ⟨wV.heap.size, t, none⟩) (by simp) (.bool ((a : Int) % 2 == 1)))
            have p10 := (boxed_below HK1.out (hbW.setCell (p := ⟨wV.heap.size, t, none⟩) (by simp) (.bool ((a : Int) % 2 == 1))) HK1.out.lt).cell
            have htbi : (t : Int) < ((n + M : Nat) : Int) := by omega
            have hai : (a : Int) < (S : Int) := by omega
            have HST := Lib.hid hst
            have HBS := Lib.hid hbs
            have HRW := Lib.hid hrow
            clear hst hbs ef eg ea hb2 k4 k5 hrow
            by_cases htn : t < n
            · have q1 := HRW.out.get (k := t) (by simp [restB_len]; exact htn)
              have q2 := HRW.out.frz t
              go_wp2
              go_roundw
              case rel =>
                refine ⟨t, (t : Int) - 1, by omega, rfl, by omega, ?_, ?_, hbW.setCell (by simp) _⟩
                · rw [HBS.out]
                · rw [← HST.out, List.map_set]
                  exact HRW.out.put t _
              case measure => simp [intOf]
            · go_wp2
              go_roundw
              case rel =>
                refine ⟨t, (t : Int) - 1, by omega, rfl, by omega, ?_, ?_, hbW⟩
                · rw [HBS.out]
                · rw [← restB_far (by omega)]
                  exact HRW.out
              case measure => simp [intOf]
          · obtain rfl : m = 0 := by omega
            obtain rfl : i = -1 := by omega
            have d9 := (boxed_below HX9V.out hbW HX9V.out.lt).cell
            unfold psV at d9
            have hlen9 := HPV.out.len
            have c1 := ((HPV.out.below hbW HPV.out.lt).cells (s := 0) (by omega)).2.1
            rw [Nat.zero_mul, Nat.zero_add] at c1
            have hgg : wayGain M ms xs n = fl .f32 (ns9.getD 0 0) := by
              unfold wayGain
              rw [← HPV.out.2.2]
              simp [List.getD, show 0 < ns9.length by omega]
            obtain ⟨g1, eg1⟩ : ∃ q, ns9.getD 0 0 = q := ⟨_, rfl⟩
            rw [eg1] at c1 hgg
            have HGG1 := Lib.hid hgg
            have HRW := Lib.hid hrow
            have hKG : wG.heap[Dd]? = some (.deferred (some [])) := (hbW.block Dd (Array.getElem?_eq_some_iff.1 hKV).1).trans hKV
            clear hgg eg1 hrow him hlen9
            go_wp2
            go_quiet (fail)
            go_wp2
            have hKG2 : (wG.drewN nq).heap[Dd]? = some (.deferred (some [])) := hKG
            refine marks_ret1 rfl hKG2 (results_tmp3 rfl _ _ _) ?_
            obtain ⟨e1, e2⟩ := HBL2.out HBO.out
            refine ⟨.slice (some ⟨wV.heap.size, 0, none⟩) n n, g1, by rw [HBO.out]; rfl, by rw [e2, HGG1.out], ?_, (below_drewN (hbV.trans (hbW.mono hzV)) nq).trans (belowK_b (w := w) (Nat.le_refl _) _ Dd _ _ (by omega) hKG2 rfl rfl)⟩
            rw [e1]
            have hrw : Row ((wG.drewN nq).putObj Dd (.deferred none)) wV.heap.size 4 ((restB M ms xs n 0).map Value.bool) :=
              Obj.kept (HRW.out.drewN nq) (grownBy_putObj' _ Dd _) (fun e => by
                injection e with e
                have h2 := (show (wG.drewN nq).heap[wV.heap.size]? = _ from HRW.out)
                rw [e, hKG2] at h2
                cases h2)
            have := hrw.own (base := w.heap.size) hzV (by simp [restB_len]; omega)
            rw [restB_end, List.length_map, ← restB_end, restB_len, restB_end] at this
            exact this

end Go.Proofs.Ytopeidmafalklaa
