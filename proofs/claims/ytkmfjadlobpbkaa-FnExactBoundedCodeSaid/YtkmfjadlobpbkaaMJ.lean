/-
  Contracts: a bunch for each letter; what a row of bunches holds.
  Conditions: 1 to 1048576 weights.
-/
import Derived.Test.YtkmfjadlobpbkaaMI
namespace Go.Proofs.Ytkmfjadlobpbkaa
open Go.RowKit Go.Shelf Go.Sort Go.Lib

theorem own_typesM {W : World} {b1 b2 s1 s2 k1 k2 : Nat} {e1 e2 : TypeId} {v1 v2 : Value} {x1 x2 : List Value} (h1 : W.ownsRow b1 e1 s1 v1 k1 x1) (h2 : W.ownsRow b2 e2 s2 v2 k2 x2) (hne : e1 ≠ e2) : v1.ownBlock = none ∨ v1.ownBlock ≠ v2.ownBlock := by
  rcases h1.2 with ⟨rfl, _⟩ | ⟨g, cap, cur, rfl, _, hgb, _⟩
  · exact .inl rfl
  · refine .inr fun e' => ?_
    rcases h2.2 with ⟨rfl, _⟩ | ⟨g', cap', cur', rfl, _, hgb', _⟩
    · simp [Value.ownBlock] at e'
    · obtain rfl : g = g' := by simpa [Value.ownBlock] using e'
      have := hgb.symm.trans hgb'
      simp at this
      exact hne this.2

/-- append of one element of some cells, just laid, to a row of the call's own -/
theorem app1s {P : Program} {t e : TypeId} (size : Nat) (hsz : 0 < size) (ht : P.underlying t = some (.slice e)) {z : Value} {bytes : Nat} (hi : (P.info? e).map (fun i => (i.zero, i.size, i.bytes)) = some (some z, size, bytes)) (hz : z.cells.size = size) (hby : bytes ≤ 64)
    {w : World} {ops : Array Oper} {rest : List Oper} {o : Oper} {a : Act} {Q : Exit → Act → World → Prop} (hgd : o.guard = none) (s x : Operand)
    (ho : o.op = .call { callee := .builtin .append, args := #[s, x], argTypes := #[t, t] }) (base : Nat) (v : Value) (n : Nat) (xs : List Value) (hs : a.eval s = v) (hown : w.ownsRow base e size v n xs)
    (g c : Nat) (news : List Value) (hx : a.eval x = .slice (some ⟨g, 0, none⟩) 1 c) (hm : news.length = size) (hc : ∀ j u, news[j]? = some u → w.cell? ⟨g, j, none⟩ = some u) (h1 : ∀ u ∈ news, u.oneCell' = true)
    (hlen : n + 1 ≤ 1099511627776) (hbase : base ≤ w.heap.size)
    (h : ∀ v' w', w'.ownsRow base e size v' (n + 1) (xs ++ news) → Below base w w' → w.grownBy w' v.ownBlock → (∃ g' c', v' = .slice (some ⟨g', 0, none⟩) (n + 1) c') → wpList P ops Q rest (a.put o.dst v') w') : wpList P ops Q (o :: rest) a w := by
  obtain ⟨i, hi1, hi2, hi3, hi4⟩ : ∃ i, P.info? e = some i ∧ i.zero = some z ∧ i.size = size ∧ i.bytes = bytes := by
    cases hh : P.info? e with
    | none => rw [hh] at hi; cases hi
    | some i => rw [hh] at hi; simp at hi; exact ⟨i, rfl, hi.1, hi.2.1, hi.2.2⟩
  refine wpList_append_own (P := P) w hgd s x t ho base e i z size bytes ht hi1 hi2 hi3 hi4 hz hsz v n xs hs hown ⟨g, 0, none⟩ 1 c news hx (by omega) ?_ h1 ?_ ?_ hbase ?_
  · intro j u hu
    rw [Addr.add_lit, Nat.zero_add]
    exact hc j u hu
  · unfold maxLen; omega
  · have h2 : (n + 1) * bytes ≤ 1099511627776 * 64 := Nat.mul_le_mul hlen hby
    omega
  · intro v' w' h2 h3 _
    refine h v' w' h2 ((Below.refl base w).grown h3 hbase fun k hk => (hown.lt k hk).1) h3 ?_
    rcases h2.2 with ⟨_, h0⟩ | ⟨g, cap, _, rfl, _⟩
    · omega
    · exact ⟨g, cap, rfl⟩

/-- trees: a weight, a slice, and the letters that it holds -/
abbrev Tri := Int × Value × List Int
def cellsT (T : List Tri) : List (Int × Value) := T.map fun t => (t.1, t.2.1)
def plainT (T : List Tri) : List (Int × List Int) := T.map fun t => (t.1, t.2.2)
def Let (W : World) (base : Nat) (T : List Tri) : Prop := ∀ t ∈ T, W.ownsRow base 3 1 t.2.1 t.2.2.length (t.2.2.map (Value.int .i64)) ∧ 1 ≤ t.2.2.length
theorem Let.grown {W W' : World} {base b2 s2 k2 : Nat} {T : List Tri} {e2 : TypeId} {v2 : Value} {x2 : List Value} (h : Let W base T) (h2 : W.ownsRow b2 e2 s2 v2 k2 x2) (hne : 3 ≠ e2) (hg : W.grownBy W' v2.ownBlock) : Let W' base T :=
  fun t ht => ⟨(h t ht).1.kept hg (own_typesM (h t ht).1 h2 hne), (h t ht).2⟩
theorem Let.below {W W' : World} {base : Nat} {T : List Tri} (h : Let W base T) (hb : Below W.heap.size W W') : Let W' base T :=
  fun t ht => ⟨own_below (h t ht).1 hb (Nat.le_refl _), (h t ht).2⟩
theorem Let.base {W : World} {base base' : Nat} {T : List Tri} (h : Let W base T) (hb : base' ≤ base) : Let W base' T :=
  fun t ht => ⟨own_base (h t ht).1 hb, (h t ht).2⟩
/-- each letter alone, with its weight -/
def soloP (ws : List Int) : List (Int × List Int) := ws.mapIdx fun i x => (x, [(i : Int)])


set_option maxRecDepth 100000 in
set_option maxHeartbeats 4000000 in
theorem impl_bunchesOf_c (w : World) (A : Option Addr) (n cap : Nat) (ws : List Int) (hl : ws.length = n) (hn : n ≤ 1048576) (hx : Sl w w.heap.size A (ws.map (Value.int .i64))) :
    Calls Try.prog 20 #[.slice A n cap] w fun e w' => ∃ v T, e = .returned v ∧ T.length = n ∧ plainT T = soloP ws ∧ w'.ownsRow w.heap.size 48 2 v n (fl2 (cellsT T)) ∧ Let w' w.heap.size T ∧ Below w.heap.size w w' := by
  have HX := Lib.hid hx
  clear hx
  go_enter Try.func20, Try.ntmps20
  go_wp2
  go_loopw [3, 9] (fun v i wr => ∃ (k : Nat) (T : List Tri), k ≤ n ∧ i = .int .i64 k ∧ T.length = k ∧ plainT T = (soloP ws).take k ∧ wr.ownsRow w.heap.size 48 2 v k (fl2 (cellsT T)) ∧ Let wr w.heap.size T ∧ RowKit.Below w.heap.size w wr) (fun _ i _ => n - (RowKit.intOf i).toNat)
  case atStart =>
    refine ⟨0, [], Nat.zero_le _, rfl, rfl, by simp [plainT], ?_, (by intro t ht; cases ht), (Below.refl _ _).alloc (Nat.le_refl _) _⟩
    exact World.ownsRow_lit w #[] 0 (Nat.le_refl _) (by simp [maxLen]) rfl
  case round =>
    obtain ⟨k, T, hk, rfl, hT, hP, ho, hL, hbw⟩ := hrel
    by_cases hlt : k < n
    · obtain ⟨b, off, rfl, hbb, hc1⟩ := HX.out.get k (by omega)
      have hc1 := (hbw.cell (p := ⟨b, off + k, none⟩) hbb).trans hc1
      have hsolo : (soloP ws).take (k + 1) = (soloP ws).take k ++ [(ws[k]'(by omega), [(k : Int)])] := by
        rw [List.take_succ_eq_append_getElem (by simp [soloP]; omega)]
        simp [soloP]
      obtain ⟨x, ex⟩ : ∃ x, ws[k]'(by omega) = x := ⟨_, rfl⟩
      rw [ex] at hc1 hsolo
      have HP := Lib.hid hP
      have HS := Lib.hid hsolo
      have HO := Lib.hid ho
      have HL := Lib.hid hL
      have HT := Lib.hid hT
      have HBW := Lib.hid hbw
      have hz := hbw.size
      clear hP hsolo ho hL ex
      obtain ⟨w1, e1⟩ : ∃ q : World, q = wr.alloc (.cells #[.int .i64 (k : Int)] 3) := ⟨_, rfl⟩
      have b1 : RowKit.Below wr.heap.size wr w1 := by rw [e1]; exact (RowKit.Below.refl _ _).alloc (Nat.le_refl _) _
      have o1 : w1.ownsRow w.heap.size 3 1 (.slice (some ⟨wr.heap.size, 0, none⟩) 1 1) 1 [.int .i64 (k : Int)] := by rw [e1]; exact World.ownsRow_lit wr #[.int .i64 (k : Int)] 1 (by omega) (by simp [maxLen]) rfl
      obtain ⟨w2, e2⟩ : ∃ q : World, q = w1.alloc (.cells #[.int .i64 x, .slice (some ⟨wr.heap.size, 0, none⟩) 1 1] 48) := ⟨_, rfl⟩
      have b2 : RowKit.Below w1.heap.size w1 w2 := by rw [e2]; exact (RowKit.Below.refl _ _).alloc (Nat.le_refl _) _
      have k0 : w2.cell? ⟨w1.heap.size, 0, none⟩ = some (.int .i64 x) := by rw [e2]; (first | (simp; done) | (simp (disch := (first | (simp; done) | (simp; omega))) [World.cell?_alloc_at]; done) | (simp (disch := (first | (simp; done) | (simp; omega))) [World.cell?_alloc_past]; done) | (simp (disch := (first | (simp; done) | (simp; omega))) [World.cell?_alloc_at, World.cell?_alloc_past]; done) | (simp (disch := (first | (simp; done) | (simp; omega))) [World.frozen?_alloc_at]; done) | (simp (disch := (first | (simp; done) | (simp; omega))) [World.frozen?_alloc_past]; done) | (simp (disch := (first | (simp; done) | (simp; omega))) [World.frozen?_alloc_at, World.frozen?_alloc_past]; done))
      have k1 : w2.cell? ⟨w1.heap.size, 1, none⟩ = some (.slice (some ⟨wr.heap.size, 0, none⟩) 1 1) := by rw [e2]; (first | (simp; done) | (simp (disch := (first | (simp; done) | (simp; omega))) [World.cell?_alloc_at]; done) | (simp (disch := (first | (simp; done) | (simp; omega))) [World.cell?_alloc_past]; done) | (simp (disch := (first | (simp; done) | (simp; omega))) [World.cell?_alloc_at, World.cell?_alloc_past]; done) | (simp (disch := (first | (simp; done) | (simp; omega))) [World.frozen?_alloc_at]; done) | (simp (disch := (first | (simp; done) | (simp; omega))) [World.frozen?_alloc_past]; done) | (simp (disch := (first | (simp; done) | (simp; omega))) [World.frozen?_alloc_at, World.frozen?_alloc_past]; done))
      have O1 := Lib.hid o1
      have B1 := Lib.hid b1
      have B2 := Lib.hid b2
      have z1 := b1.size
      have z2 := b2.size
      have b12 : RowKit.Below wr.heap.size wr w2 := b1.trans (b2.mono z1)
      have B12 := Lib.hid b12
      have ho2 := own_below HO.out b12 (Nat.le_refl _)
      have hbw2 := hbw.trans (b12.mono hz)
      have hcell : ∀ j u', [Value.int .i64 x, .slice (some ⟨wr.heap.size, 0, none⟩) 1 1][j]? = some u' → w2.cell? ⟨w1.heap.size, j, none⟩ = some u' := by
        intro j u' hu'
        rcases j with _ | _ | j
        · cases hu'; exact k0
        · cases hu'; exact k1
        · cases hu'
      go_wp2_with (first | (rw [← e1]; clear e1) | (rw [← e2]; clear e2) | (at_builtin; refine app1s (P := Try.prog) 2 (by decide) rfl rfl rfl (by decide) rfl _ _ rfl w.heap.size _ _ _ rfl ho2 w1.heap.size 1 [.int .i64 x, .slice (some ⟨wr.heap.size, 0, none⟩) 1 1] rfl rfl hcell (by intro u' hu'; simp at hu'; rcases hu' with rfl | rfl <;> rfl) (by omega) hbw2.size ?_; rintro v' w' ho' hb' hg' -))
      go_roundw
      case rel =>
        have hL2 := (HL.out.below B12.out).grown ho2 (by decide) hg'
        have hn2 := (own_below O1.out B2.out (Nat.le_refl _)).kept hg' (own_typesM (own_below O1.out B2.out (Nat.le_refl _)) ho2 (by decide))
        refine ⟨k + 1, T ++ [(x, .slice (some ⟨wr.heap.size, 0, none⟩) 1 1, [(k : Int)])], hlt, by go_num, by rw [List.length_append, HT.out]; rfl, ?_, ?_, ?_, hbw2.trans hb'⟩
        · rw [HS.out, ← HP.out]; simp [plainT]
        · have e : fl2 (cellsT (T ++ [(x, .slice (some ⟨wr.heap.size, 0, none⟩) 1 1, [(k : Int)])])) = fl2 (cellsT T) ++ [Value.int .i64 x, .slice (some ⟨wr.heap.size, 0, none⟩) 1 1] := by
            unfold cellsT
            rw [List.map_append, fl2_app]
            rfl
          rw [e]
          exact ho'
        · intro t ht
          rcases List.mem_append.1 ht with ht | ht
          · exact hL2 t ht
          · obtain rfl := List.mem_singleton.1 ht
            exact ⟨hn2, Nat.le_refl _⟩
      case measure => simp [RowKit.intOf]; omega
    · obtain rfl : k = n := by omega
      have hall : (soloP ws).take k = soloP ws := List.take_of_length_le (by simp [soloP, hl])
      rw [hall] at hP
      have HP := Lib.hid hP
      have HO := Lib.hid ho
      have HL := Lib.hid hL
      have HT := Lib.hid hT
      have HBW := Lib.hid hbw
      clear hP ho hL hT hall
      go_wp2
      go_ret
      exact ⟨_, T, rfl, HT.out, HP.out, HO.out, HL.out, HBW.out⟩

end Go.Proofs.Ytkmfjadlobpbkaa
