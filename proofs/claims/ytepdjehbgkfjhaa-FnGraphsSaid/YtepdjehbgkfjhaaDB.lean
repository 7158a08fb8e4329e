/-
  Contracts of the law on drops: what it draws from bytes, and sameness of equal rows; rows that are apart.
  Conditions: as each theorem says.
-/
import Derived.Test.YtepdjehbgkfjhaaH
import Derived.Test.YtepdjehbgkfjhaaO
import Derived.Maps.AppendAt
namespace Go.Proofs.Ytepdjehbgkfjhaa
open Go.ChangeShapes Go.WideShapes Go.ChangeAt Go.RowKit


theorem cells_u8 : Try.prog.cellsOf 5 = 1 := by kernel_rfl
set_option maxRecDepth 100000 in
theorem open_u8s {H : Type} {enc : TypeId × Value → H} {w : World} {r : Reach} {b0 : Nat} {v : Value} {d : DataW H} {p : List MemPlace} (hval : Value.okWide Try.prog w r b0 22 v) (h : DataW.Trod enc Try.prog w 0 (fun _ => true) true 22 v d p) :
    ∃ (A : Option Addr) (n cap : Nat) (xs : List Int), v = .slice A n cap ∧ xs.length = n ∧ n ≤ cap ∧ cap ≤ maxLen ∧ (∀ a ∈ xs, (Lit.int .u8 a).wf = true) ∧ Sl w w.heap.size A (xs.map (Value.int .u8)) := by
  have h1 := @open_sl H enc Try.prog Int _ (Value.int .u8) (fun a => (Lit.int .u8 a).wf = true) 22 5 Try.underlying22 cells_u8 w
  have h2 := @elem_int H enc Try.prog w 5 .u8 Try.underlying5
  have h3 := @h1 h2 r b0 v d p
  exact h3 hval h
theorem wf_u8 {a : Int} (h : (Lit.int .u8 a).wf = true) : 0 ≤ a ∧ a ≤ 255 := by
  have e1 : IntKind.u8.min = 0 := rfl
  have e2 : IntKind.u8.max = 255 := rfl
  simp [Lit.wf, e1, e2] at h
  omega

/-- a number from 0 to n - 1, by a byte -/
def atB (xs : List Int) (i n : Int) : Int := if n ≤ 1 then 0 else if i < xs.length then xs.getD i.toNat 0 % n else (i * 37 + 11) % n
theorem atB_bd (xs : List Int) (i n : Int) (h1 : 1 ≤ n) : 0 ≤ atB xs i n ∧ atB xs i n < n := by
  unfold atB
  split
  · omega
  · split
    · exact ⟨Int.emod_nonneg _ (by omega), Int.emod_lt_of_pos _ (by omega)⟩
    · exact ⟨Int.emod_nonneg _ (by omega), Int.emod_lt_of_pos _ (by omega)⟩



set_option maxRecDepth 100000 in
theorem b10Long_c (w : World) (A A2 : Option Addr) (n cap n2 cap2 : Nat) (bb : Bool) (hb : bb = (decide (1048576 < n) || decide (1048576 < n2))) (hn : n ≤ maxLen) (hn2 : n2 ≤ maxLen) :
    Calls Try.prog 4 #[.slice A n cap, .slice A2 n2 cap2] w fun e w' => e = .returned (.bool bb) ∧ w = w' := by
  unfold maxLen at hn hn2
  rcases Nat.lt_or_ge 1048576 n with h1 | h1
  · have e : bb = true := by rw [hb, decide_eq_true h1]; rfl
    rw [e]
    clear e hb
    go_enter Try.func4, Try.ntmps4
    go_wp2
    go_ret
    exact ⟨rfl, rfl⟩
  · rcases Nat.lt_or_ge 1048576 n2 with h2 | h2
    · have e : bb = true := by rw [hb, decide_eq_true h2, Bool.or_true]
      rw [e]
      clear e hb
      go_enter Try.func4, Try.ntmps4
      go_wp2
      go_ret
      exact ⟨ret_bool (by simp; omega), rfl⟩
    · have e : bb = false := by rw [hb, decide_eq_false (by omega), decide_eq_false (by omega)]; rfl
      rw [e]
      clear e hb
      go_enter Try.func4, Try.ntmps4
      go_wp2
      go_ret
      exact ⟨ret_bool (by simp; omega), rfl⟩



/-- two rows lie in two blocks -/
def Ap (v u : Value) : Prop := ∀ g, v.ownBlock = some g → u.ownBlock ≠ some g
theorem Ap.symm {v u : Value} (h : Ap v u) : Ap u v := fun g h1 h2 => h g h2 h1
theorem ap_kept {w w' : World} {base : Nat} {e : TypeId} {v u : Value} {n : Nat} {xs : List Value} (h : w.ownsRow base e 1 v n xs) (hp : Ap v u) (hg : w.grownBy w' u.ownBlock) : w'.ownsRow base e 1 v n xs :=
  h.kept hg (by
    cases hv : v.ownBlock with
    | none => exact .inl rfl
    | some g => exact .inr fun he => hp g hv he.symm)
theorem Ap.of_new {w w0 : World} {base0 n : Nat} {e : TypeId} {v v' u : Value} {xs : List Value} (hp : Ap v u) (hu : w0.ownsRow base0 e 1 u n xs) (hz : w0.heap.size ≤ w.heap.size) (hat : v'.ownBlock = v.ownBlock ∨ v'.ownBlock = some w.heap.size) : Ap v' u := fun g h1 h2 => by
  rcases hat with h | h
  · exact hp g (h ▸ h1) h2
  · rw [h] at h1
    have h3 := (hu.lt g h2).2
    have h4 : w.heap.size = g := Option.some.inj h1
    omega
theorem appA {P : Program} {t e : TypeId} (ht : P.underlying t = some (.slice e)) {z : Value} {bytes : Nat} (hi : (P.info? e).map (fun i => (i.zero, i.size, i.bytes)) = some (some z, 1, bytes)) (hz : z.cells.size = 1) (hby : bytes ≤ 64)
    {w : World} {ops : Array Oper} {rest : List Oper} {o : Oper} {a : Act} {Q : Exit → Act → World → Prop} (hgd : o.guard = none) (s x : Operand)
    (ho : o.op = .call { callee := .builtin .append, args := #[s, x], argTypes := #[t, t] }) (base : Nat) (v : Value) (xs : List Value) (hs : a.eval s = v) (hown : Ow w base e v xs)
    (g c : Nat) (u : Value) (hx : a.eval x = .slice (some ⟨g, 0, none⟩) 1 c) (hc : w.cell? ⟨g, 0, none⟩ = some u) (h1 : u.oneCell' = true)
    (hlen : xs.length + 1 ≤ 1099511627776) (hbase : base ≤ w.heap.size)
    (h : ∀ v' w', Ow w' base e v' (xs ++ [u]) → w.grownBy w' v.ownBlock → (v'.ownBlock = v.ownBlock ∨ v'.ownBlock = some w.heap.size) → wpList P ops Q rest (a.put o.dst v') w') : wpList P ops Q (o :: rest) a w := by
  obtain ⟨i, hi1, hi2, hi3, hi4⟩ := info_ok hi
  refine wpList_append_own_at (P := P) w hgd s x t ho base e i z 1 bytes ht hi1 hi2 hi3 hi4 hz (by decide) v xs.length xs hs hown ⟨g, 0, none⟩ 1 c [u] hx (by simp) ?_ (by simpa using h1) ?_ ?_ hbase ?_
  · intro j u' hu
    have e1 : (⟨g, 0, none⟩ : Addr).add j = ⟨g, j, none⟩ := by unfold Addr.add; split <;> simp_all
    rw [e1]
    cases j with
    | zero => cases hu; exact hc
    | succ j => cases hu
  · unfold maxLen; omega
  · have h2 : (xs.length + 1) * bytes ≤ 1099511627776 * 64 := Nat.mul_le_mul hlen hby
    omega
  · intro v' w' h2 h3 _ h5
    refine h v' w' ?_ h3 h5
    unfold Ow
    rw [List.length_append, List.length_singleton]
    exact h2

end Go.Proofs.Ytepdjehbgkfjhaa
