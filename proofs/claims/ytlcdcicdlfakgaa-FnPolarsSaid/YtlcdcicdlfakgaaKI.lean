/-
  Contracts: polarRead of soft numbers of known signs: one number.
  Conditions: as each theorem says.
-/
import Derived.Test.YtlcdcicdlfakgaaKG
import Derived.Test.YtlcdcicdlfakgaaKH
import Derived.Test.YtlcdcicdlfakgaaCO
import Derived.Test.YtlcdcicdlfakgaaOB
import Derived.ArgAppend
import Derived.Deep.DeepAppendRoom
import Derived.Deep.RegionHeld3
import Derived.Deep.RegionLaw
import Derived.Deep.QuietTactic
import Derived.BigQuiet
namespace Go.Proofs.Ytlcdcicdlfakgaa
open Go.RowKit

/-- append of one element: where the row lies behind it -/
theorem app_where {P : Program} {t ty e : TypeId} (ht : P.underlying t = some (.slice e)) {z : Value} {bytes : Nat} (hi : (P.info? e).map (fun i => (i.zero, i.size, i.bytes)) = some (some z, 1, bytes)) (hz : z.cells.size = 1) (hby : bytes ≤ 64)
    {w : World} (base r cap : Nat) (xs : List Value) (hown : Ow w base e (.slice (some ⟨r, 0, none⟩) xs.length cap) xs)
    (g c : Nat) (u : Value) (hc : w.cell? ⟨g, 0, none⟩ = some u) (h1 : u.oneCell' = true) (hlen : xs.length + 1 ≤ 1099511627776) (hbase : base ≤ w.heap.size) :
    ∃ r' cap' w', (Builtin.append_ #[t, t] ty #[.slice (some ⟨r, 0, none⟩) xs.length cap, .slice (some ⟨g, 0, none⟩) 1 c]).run P w = .ok (.slice (some ⟨r', 0, none⟩) (xs.length + 1) cap') w' ∧ Ow w' base e (.slice (some ⟨r', 0, none⟩) (xs.length + 1) cap') (xs ++ [u]) ∧ w.grownBy w' (some r) ∧ (r' = r ∨ w.heap.size ≤ r') := by
  obtain ⟨i, hi1, hi2, hi3, hi4⟩ := info_ok hi
  have hcells : ∀ j u', [u][j]? = some u' → w.cell? ((⟨g, 0, none⟩ : Addr).add j) = some u' := by
    intro j u' hu
    have e1 : (⟨g, 0, none⟩ : Addr).add j = ⟨g, j, none⟩ := by unfold Addr.add; split <;> simp_all
    rw [e1]
    cases j with
    | zero => cases hu; exact hc
    | succ j => cases hu
  have hl2 : (xs ++ [u]).length = xs.length + 1 := by simp
  by_cases hr : xs.length + 1 ≤ cap
  · obtain ⟨w', q1, q2, q3⟩ := run_append_own_spare (P := P) w base t ty e i 1 ht hi1 hi3 r xs.length cap xs hown ⟨g, 0, none⟩ 1 c [u] (by simp) hcells (by simpa using h1) hr
    refine ⟨r, cap, w', q1, ?_, q3, .inl rfl⟩
    unfold Ow
    rw [hl2]
    exact q2
  · obtain ⟨v', w', q1, q2, q3⟩ := run_append_arg_grows (P := P) w t ty e i z 1 bytes ht hi1 hi2 hi3 hi4 hz (by decide) ⟨r, 0, none⟩ xs.length cap xs (by simp) (fun j u' hu => by
        have e1 : (⟨r, 0, none⟩ : Addr).add j = ⟨r, j, none⟩ := by unfold Addr.add; split <;> simp_all
        rw [e1]
        have := World.ownsRow.cellAt hown j (by simpa using (List.getElem?_eq_some_iff.1 hu).1)
        rw [this, hu]) ⟨g, 0, none⟩ 1 c [u] (by simp) hcells (by omega) (by unfold maxLen; omega) (by
        have h2 : (xs.length + 1) * bytes ≤ 1099511627776 * 64 := Nat.mul_le_mul hlen hby
        omega)
    rcases q2.2 with ⟨_, h0⟩ | ⟨g', cap', cur, rfl, hbg, rest⟩
    · omega
    · refine ⟨g', cap', w', q1, ?_, ⟨q3.os, q3.tape, q3.output, q3.size, fun k hk _ => q3.block k hk (by simp)⟩, .inr hbg⟩
      unfold Ow
      rw [hl2]
      exact own_base q2 hbase
theorem step_where {P : Program} {t e : TypeId} (ht : P.underlying t = some (.slice e)) {z : Value} {bytes : Nat} (hi : (P.info? e).map (fun i => (i.zero, i.size, i.bytes)) = some (some z, 1, bytes)) (hz : z.cells.size = 1) (hby : bytes ≤ 64)
    {w : World} {ops : Array Oper} {o : Oper} {a : Act} {K : Act → World → Prop} {Q : Exit → Act → World → Prop} {E : Prop} (hgd : o.guard = none) (s x : Operand)
    (ho : o.op = .call { callee := .builtin .append, args := #[s, x], argTypes := #[t, t] }) (base r cap m : Nat) (xs : List Value) (hm : xs.length = m) (hs : a.eval s = .slice (some ⟨r, 0, none⟩) m cap) (hown : Ow w base e (.slice (some ⟨r, 0, none⟩) m cap) xs)
    (g c : Nat) (u : Value) (hx : a.eval x = .slice (some ⟨g, 0, none⟩) 1 c) (hc : w.cell? ⟨g, 0, none⟩ = some u) (h1 : u.oneCell' = true)
    (hlen : m + 1 ≤ 1099511627776) (hbase : base ≤ w.heap.size)
    (h : ∀ r' cap' w', Ow w' base e (.slice (some ⟨r', 0, none⟩) (m + 1) cap') (xs ++ [u]) → w.grownBy w' (some r) → (r' = r ∨ w.heap.size ≤ r') → K (a.put o.dst (.slice (some ⟨r', 0, none⟩) (m + 1) cap')) w') : if Region.wanted o (yielded ops a.tmps) = true then Oper.wp P o a w K Q else E := by
  subst hm
  have hw : Region.wanted o (yielded ops a.tmps) = true := by simp [Region.wanted, hgd]
  rw [if_pos hw]
  obtain ⟨r', cap', w', q1, q2, q3, q4⟩ := app_where (P := P) (ty := o.type) ht hi hz hby base r cap xs hown g c u hc h1 hlen hbase
  unfold Oper.wp execOp
  simp only [ho, resolve, invoke, builtin, Sem.run_bind, Sem.run_pure, Result.andThen_ok, List.map_toArray, List.map_cons, List.map_nil, hs, hx, q1]
  exact h r' cap' w' q2 q3 q4

theorem step_whereB {P : Program} {t e T : TypeId} (ht : P.underlying t = some (.slice e)) {z : Value} {bytes : Nat} (hi : (P.info? e).map (fun i => (i.zero, i.size, i.bytes)) = some (some z, 1, bytes)) (hz : z.cells.size = 1) (hby : bytes ≤ 64)
    {w : World} {ops : Array Oper} {o : Oper} {a : Act} {K : Act → World → Prop} {Q : Exit → Act → World → Prop} {E : Prop} (hgd : o.guard = none) (s x : Operand)
    (ho : o.op = .call { callee := .builtin .append, args := #[s, x], argTypes := #[t, t] }) (base r cap m : Nat) (xs : List Value) (hm : xs.length = m) (hs : a.eval s = .slice (some ⟨r, 0, none⟩) m cap) (hown : Ow w base e (.slice (some ⟨r, 0, none⟩) m cap) xs)
    (g c : Nat) (u : Value) (hx : a.eval x = .slice (some ⟨g, 0, none⟩) 1 c) (hc : w.cell? ⟨g, 0, none⟩ = some u) (h1 : u.oneCell' = true)
    (hlen : m + 1 ≤ 1099511627776) (hbase : base ≤ w.heap.size) (rb : Nat) (vb : Value) (hb : Boxed w rb T vb) (hne : rb ≠ r)
    (h : ∀ r' cap' w', Ow w' base e (.slice (some ⟨r', 0, none⟩) (m + 1) cap') (xs ++ [u]) → w.grownBy w' (some r) → (r' = r ∨ w.heap.size ≤ r') → w'.cell? ⟨rb, 0, none⟩ = some vb → w'.frozen? ⟨rb, 0, none⟩ = false → Boxed w' rb T vb → K (a.put o.dst (.slice (some ⟨r', 0, none⟩) (m + 1) cap')) w') : if Region.wanted o (yielded ops a.tmps) = true then Oper.wp P o a w K Q else E :=
  step_where ht hi hz hby hgd s x ho base r cap m xs hm hs hown g c u hx hc h1 hlen hbase fun r' cap' w' h2 h3 h4 =>
    have hb2 : Boxed w' rb T vb := hb.kept h3 (by simpa using hne)
    h r' cap' w' h2 h3 h4 hb2.cell hb2.frozen hb2

/-- of old only the box and its row are turned -/
structure Kp (w w' : World) (rb r0 r1 : Nat) : Prop where
  os : w'.os = w.os
  tape : w'.tape = w.tape
  output : w'.output = w.output
  size : w.heap.size ≤ w'.heap.size
  block : ∀ k, k < w.heap.size → k ≠ rb → k ≠ r0 → w'.heap[k]? = w.heap[k]?
  new : r1 = r0 ∨ w.heap.size ≤ r1
theorem Kp.refl (w : World) (rb r : Nat) : Kp w w rb r r := ⟨rfl, rfl, rfl, Nat.le_refl _, fun _ _ _ _ => rfl, .inl rfl⟩
theorem Kp.trans {a b c : World} {rb r0 r1 r2 : Nat} (h : Kp a b rb r0 r1) (k : Kp b c rb r1 r2) : Kp a c rb r0 r2 := by
  refine ⟨k.os.trans h.os, k.tape.trans h.tape, k.output.trans h.output, Nat.le_trans h.size k.size, fun j h1 h2 h3 => ?_, ?_⟩
  · refine (k.block j (Nat.lt_of_lt_of_le h1 h.size) h2 ?_).trans (h.block j h1 h2 h3)
    rcases h.new with e | e
    · rw [e]; exact h3
    · omega
  · rcases k.new with e | e
    · rw [e]; exact h.new
    · exact .inr (Nat.le_trans h.size e)
/-- what lies below a bound stays -/
theorem Kp.of_below {w w' : World} {rb r : Nat} (h : Below w.heap.size w w') : Kp w w' rb r r := ⟨h.os, h.tape, h.output, h.size, fun k hk _ _ => h.block k hk, .inl rfl⟩
theorem Kp.below {w w' : World} {rb r0 r1 B : Nat} (h : Kp w w' rb r0 r1) (h1 : B ≤ rb) (h2 : B ≤ r0) (hB : B ≤ w.heap.size) : Below B w w' := by
  refine ⟨h.os, h.tape, h.output, h.size, fun k hk => h.block k ?_ ?_ ?_⟩ <;> omega
/-- cells in a block that is neither the box nor its row -/
def Far (w : World) (rb r : Nat) (A : Option Addr) (xs : List Value) : Prop :=
  xs = [] ∨ ∃ b off, A = some ⟨b, off, none⟩ ∧ b < w.heap.size ∧ b ≠ rb ∧ b ≠ r ∧ ∀ j u, xs[j]? = some u → w.cell? ⟨b, off + j, none⟩ = some u
theorem cell_of_heap {w w' : World} {b k : Nat} (h : w'.heap[b]? = w.heap[b]?) : w'.cell? ⟨b, k, none⟩ = w.cell? ⟨b, k, none⟩ := by
  unfold World.cell?
  rw [h]
theorem Far.kp {w w' : World} {rb r0 r1 : Nat} {A : Option Addr} {xs : List Value} (h : Far w rb r0 A xs) (hk : Kp w w' rb r0 r1) : Far w' rb r1 A xs := by
  rcases h with h | ⟨b, off, e, h1, h2, h3, h4⟩
  · exact .inl h
  · refine .inr ⟨b, off, e, Nat.lt_of_lt_of_le h1 hk.size, h2, ?_, fun j u hu => ?_⟩
    · rcases hk.new with e | e
      · rw [e]; exact h3
      · omega
    · rw [cell_of_heap (hk.block b h1 h2 h3)]
      exact h4 j u hu
theorem Far.sl {w : World} {rb r : Nat} {A : Option Addr} {xs : List Value} (h : Far w rb r A xs) : Sl w w.heap.size A xs := by
  rcases h with h | ⟨b, off, e, h1, _, _, h4⟩
  · exact .inl h
  · exact .inr ⟨b, off, e, h1, h4⟩
theorem Far.of_own {w : World} {rb r base : Nat} {e : TypeId} {n cap : Nat} {A : Option Addr} {xs : List Value} (h : w.ownsRow base e 1 (.slice A n cap) n xs) (h1 : rb < base) (h2 : r < base) : Far w rb r A xs := by
  rcases h.2 with ⟨e0, h0⟩ | ⟨g, cap', cur, hv, hb, hg, hc, hm, hs, ht⟩
  · left
    have := h.1
    rw [h0] at this
    exact List.eq_nil_of_length_eq_zero (by simpa using this)
  · right
    injection hv with hv1 hv2 hv3
    refine ⟨g, 0, hv1, (Array.getElem?_eq_some_iff.1 hg).1, by omega, by omega, fun j u hu => ?_⟩
    subst hv1
    have := World.ownsRow.cellAt h j (by have := (List.getElem?_eq_some_iff.1 hu).1; have := h.1; omega)
    rw [Nat.zero_add, this, hu]
/-- the box rb holds a slice of a row at block r that it owns -/
def Rd (w : World) (D rb r : Nat) (xs : List Value) : Prop := ∃ cap, Boxed w rb 25 (.slice (some ⟨r, 0, none⟩) xs.length cap) ∧ Ow w D 4 (.slice (some ⟨r, 0, none⟩) xs.length cap) xs
theorem Rd.below {w w' : World} {D rb r : Nat} {xs : List Value} (h : Rd w D rb r xs) (hb : Below w.heap.size w w') : Rd w' D rb r xs := by
  obtain ⟨cap, h1, h2⟩ := h
  exact ⟨cap, (hb.block rb h1.lt).trans h1, own_below h2 hb (Nat.le_refl _)⟩
theorem Rd.lt {w : World} {D rb r : Nat} {xs : List Value} (h : Rd w D rb r xs) : rb < w.heap.size ∧ r < w.heap.size ∧ rb ≠ r := by
  obtain ⟨cap, h1, h2⟩ := h
  have h3 := (World.ownsRow.lt h2 r rfl).2
  refine ⟨h1.lt, h3, fun e => ?_⟩
  have := h1.not_row (by decide) h2
  simp [Value.ownBlock, e] at this

theorem grown_drew_alloc (w : World) (o : Go.Obj) : w.grownBy ((w.alloc o).drew) none :=
  have h := World.grownBy_alloc w o none
  ⟨h.os, h.tape, h.output, h.size, h.block⟩
theorem rd_app {w X w1 : World} {D rb r r' cap' m b off : Nat} {vb : Value} {xs : List Value} {u : Value} (hX : w.grownBy X none) (hg : X.grownBy w1 (some r)) (hn : r' = r ∨ X.heap.size ≤ r') (hb : Boxed w1 rb 25 vb) (ho : Ow w1 D 4 (.slice (some ⟨r', 0, none⟩) (m + 1) cap') (xs ++ [u])) (hm : xs.length = m) (h1 : b < w.heap.size) (h2 : b ≠ rb) (h3 : b ≠ r) :
    Kp w (w1.setCell ⟨rb, 0, none⟩ (.slice (some ⟨r', 0, none⟩) (m + 1) cap')) rb r r' ∧ Rd (w1.setCell ⟨rb, 0, none⟩ (.slice (some ⟨r', 0, none⟩) (m + 1) cap')) D rb r' (xs ++ [u]) ∧ (w1.setCell ⟨rb, 0, none⟩ (.slice (some ⟨r', 0, none⟩) (m + 1) cap')).cell? ⟨b, off, none⟩ = w.cell? ⟨b, off, none⟩ := by
  have hs := grownBy_set w1 rb 0 (.slice (some ⟨r', 0, none⟩) (m + 1) cap')
  have hne : some rb ≠ some r' := hb.not_row (by decide) ho
  have hk : Kp w (w1.setCell ⟨rb, 0, none⟩ (.slice (some ⟨r', 0, none⟩) (m + 1) cap')) rb r r' := by
    refine ⟨(hs.os.trans hg.os).trans hX.os, (hs.tape.trans hg.tape).trans hX.tape, (hs.output.trans hg.output).trans hX.output, Nat.le_trans hX.size (Nat.le_trans hg.size hs.size), fun k k1 k2 k3 => ?_, ?_⟩
    · rw [hs.block k (Nat.lt_of_lt_of_le k1 (Nat.le_trans hX.size hg.size)) (by simpa using k2), hg.block k (Nat.lt_of_lt_of_le k1 hX.size) (by simpa using k3), hX.block k k1 (by simp)]
    · rcases hn with e | e
      · exact .inl e
      · exact .inr (Nat.le_trans hX.size e)
  refine ⟨hk, ⟨cap', ?_, ?_⟩, cell_of_heap (hk.block b h1 h2 h3)⟩
  · rw [List.length_append, List.length_singleton, hm]
    exact hb.set _
  · rw [List.length_append, List.length_singleton, hm]
    exact World.ownsRow.kept ho hs (.inr (fun e => hne e.symm))

def isPl (pl : List Int) (k : Nat) : Bool := decide ((k : Int) ∈ pl)
/-- the bits of places from a on -/
def readsOf (U : Nat → Bool) (pl : List Int) (a n : Nat) : List Bool := ((List.range n).filter fun i => isPl pl (a + i)).map fun i => U (a + i)
def codeOf (G : Nat → Bool) (a n : Nat) : List Bool := (List.range n).map fun i => G (a + i)
theorem codeOf_len (G : Nat → Bool) (a n : Nat) : (codeOf G a n).length = n := by simp [codeOf]
theorem readsOf_len (U : Nat → Bool) (pl : List Int) (a n : Nat) : (readsOf U pl a n).length ≤ n := by
  unfold readsOf
  rw [List.length_map]
  exact Nat.le_trans (List.length_filter_le _ _) (by simp)
theorem readsOf_add (U : Nat → Bool) (pl : List Int) (a n m : Nat) : readsOf U pl a (n + m) = readsOf U pl a n ++ readsOf U pl (a + n) m := by
  unfold readsOf
  rw [List.range_add, List.filter_append, List.map_append, List.filter_map, List.map_map]
  congr 1
  have e1 : (fun i => isPl pl (a + i)) ∘ (fun x => n + x) = fun i => isPl pl (a + n + i) := by funext i; simp [Function.comp, Nat.add_assoc]
  have e2 : (fun i => U (a + i)) ∘ (fun x => n + x) = fun i => U (a + n + i) := by funext i; simp [Function.comp, Nat.add_assoc]
  rw [e1, e2]

/-- what a call of polarRead leaves -/
def ReadPost (w : World) (D rb r a n : Nat) (xs : List Value) (U : Nat → Bool) (pl : List Int) (G : Nat → Bool) (e : Ending) (w' : World) : Prop :=
  ∃ v r1 B1, e = .returned v ∧ Kp w w' rb r r1 ∧ Rd w' D rb r1 (xs ++ (readsOf U pl a n).map Value.bool) ∧ Ow w' B1 4 v ((codeOf G a n).map Value.bool) ∧ w.heap.size ≤ B1 ∧ r1 < B1


theorem impl_absW_c (w : World) (x : Nat) : Calls Try.prog 69 #[.float .f32 x] w fun e w' => e = .returned (.float .f32 (absW x)) ∧ w = w' := by
  by_cases h : FloatKind.f32.format.order x 0 = some .lt
  · have e1 : absW x = Op.negFloat .f32 x := by unfold absW; rw [h]; rfl
    rw [e1]
    go_enter Try.func69, Try.ntmps69
    go_wp2
    go_ret
    exact ⟨rfl, rfl⟩
  · have e1 : absW x = x := by unfold absW; rw [if_neg (by simpa using h)]
    have hb : (FloatKind.f32.format.order x 0 == some Ordering.lt) = false := by simpa using h
    rw [e1]
    go_enter Try.func69, Try.ntmps69
    go_wp2
    go_ret
    exact ⟨rfl, rfl⟩


set_option maxRecDepth 100000 in
set_option maxHeartbeats 4000000 in
theorem polarRead_0 (D rb : Nat) (U : Nat → Bool) (pl : List Int) (w : World) (r : Nat) (xs : List Value) (A Ap : Option Addr) (cap np capp a x amp : Nat) (hnp : pl.length = np) (hnp2 : np ≤ 64) (hamp : amp ≤ 120) (hpl : U a = true → (a : Int) ∈ pl)
    (hx : Amp amp (U a) x) (hA : Far w rb r A [.float .f32 x]) (hP : Far w rb r Ap (pl.map (Value.int .i64))) (hR : Rd w D rb r xs) (hD : D ≤ w.heap.size) (hxl : xs.length ≤ 64) :
    Calls Try.prog 41 #[.slice A 1 cap, .int .i64 (a : Int), .slice Ap np capp, .pointer (some ⟨rb, 0, none⟩)] w (ReadPost w D rb r a 1 xs U pl U) := by
  have hcode : codeOf U a 1 = [U a] := rfl
  cases hin : isPl pl a
  · have hread : readsOf U pl a 1 = [] := by
      show ((List.range 1).filter fun i => isPl pl (a + i)).map _ = _
      rw [show List.range 1 = [0] from rfl]
      simp [hin]
    have hU : U a = false := by
      rw [← Bool.not_eq_true]
      intro h
      have := hpl h
      unfold isPl at hin
      rw [decide_eq_true this] at hin
      cases hin
    unfold ReadPost
    rw [hcode, hread, hU]
    obtain ⟨c1, c2, c3⟩ := hR.lt
    have HR := Lib.hid hR
    have HPS := Lib.hid hP.sl
    have hin : decide ((a : Int) ∈ pl) = false := hin
    have HIN := Lib.hid hin
    clear hR hA hP hx hpl hcode hread hU hin
    go_enter Try.func41, Try.ntmps41
    go_wp2_with (go_at_call 68; refine (Contains_i64_c w _ Ap np capp pl hnp (by omega) HPS.out (a : Int)).mono ?_; rintro e w' ⟨rfl, rfl⟩; rw [HIN.out])
    go_ret
    have hb : Below w.heap.size w (w.alloc (.cells #[Value.bool false] 4)) := (Below.refl _ _).alloc (Nat.le_refl _) _
    refine ⟨_, r, w.heap.size, rfl, Kp.of_below hb, ?_, ?_, Nat.le_refl _, c2⟩
    · rw [List.map_nil, List.append_nil]
      exact HR.out.below hb
    · exact World.ownsRow_lit (e := 4) (size := 1) w #[Value.bool false] 1 (Nat.le_refl _) (by unfold maxLen; omega) rfl
  · have hread : readsOf U pl a 1 = [U a] := by
      show ((List.range 1).filter fun i => isPl pl (a + i)).map _ = _
      rw [show List.range 1 = [0] from rfl]
      simp [hin]
    unfold ReadPost
    rw [hcode, hread]
    obtain ⟨c1, c2, c3⟩ := hR.lt
    rcases hA with h0 | ⟨b, off, rfl, hb1, hb2, hb3, hb4⟩
    · cases h0
    · have cx : w.cell? ⟨b, off, none⟩ = some (.float .f32 x) := hb4 0 _ rfl
      have hord := hx.order (by omega)
      obtain ⟨cap0, hbox, hrow⟩ := hR
      have HBX := Lib.hid hbox
      have HRW := Lib.hid hrow
      have cb := hbox.cell
      have fb := hbox.frozen
      obtain ⟨m, hm⟩ : ∃ m, xs.length = m := ⟨_, rfl⟩
      rw [hm] at cb
      have HM := Lib.hid hm
      have hrm := hrow
      rw [hm] at hrm
      have HRM : Hid (Ow w D 4 (.slice (some ⟨r, 0, none⟩) m cap0) xs) := Lib.hid hrm
      clear hrm
      have HPS := Lib.hid hP.sl
      have hin : decide ((a : Int) ∈ pl) = true := hin
      have HIN := Lib.hid hin
      have hX : ∀ o, Boxed ((w.alloc o).drew) rb 25 (.slice (some ⟨r, 0, none⟩) xs.length cap0) := fun o => (heap_alloc_old w o c1).trans hbox
      have HX := Lib.hid hX
      clear hX
      have hlen : m + 1 ≤ 1099511627776 := by omega
      clear hbox hrow hP hpl hcode hread hin hb4 hx hm
      cases hUa : U a
      · rw [hUa] at hord
        simp only [Bool.false_eq_true, if_false] at hord
        have HU := Lib.hid hUa
        clear hUa
        go_enter Try.func41, Try.ntmps41
        go_wp2_with (go_at_call 68; refine (Contains_i64_c w _ Ap np capp pl hnp (by omega) HPS.out (a : Int)).mono ?_; rintro e w' ⟨rfl, rfl⟩; rw [HIN.out])
        go_region_law (refine step_whereB Try.underlying25 infoBool rfl (by decide) (by rfl) _ _ (by rfl) D r cap0 m xs HM.out (by rfl) (World.ownsRow.alloc HRM.out _) w.heap.size 1 (.bool false) (by rfl) (cell_new1 _ _ _) rfl hlen (by simp; omega) rb _ (HX.out _) c3 ?_; intro r' cap' w1 ho1 hg1 hw1 p1 p2 hbx1)
        all_goals
          obtain ⟨hk, hr, hcx⟩ := rd_app (b := b) (off := off) (grown_drew_alloc w _) hg1 hw1 hbx1 ho1 HM.out hb1 hb2 hb3
          have cx2 := hcx.trans cx
          obtain ⟨w2, e2⟩ : ∃ w2 : World, w2 = w1.setCell ⟨rb, 0, none⟩ (.slice (some ⟨r', 0, none⟩) (m + 1) cap') := ⟨_, rfl⟩
          rw [← e2] at hk hr cx2 ⊢
          have HK := Lib.hid hk
          have HR := Lib.hid hr
          clear e2 hk hr hcx ho1 hg1 hw1 hbx1 p1 p2 cb fb cx
          go_wp2
          go_ret
          have hb : Below w2.heap.size w2 (w2.alloc (.cells #[Value.bool false] 4)) := (Below.refl _ _).alloc (Nat.le_refl _) _
          refine ⟨_, r', w2.heap.size, rfl, HK.out.trans (Kp.of_below hb), HR.out.below hb, World.ownsRow_lit (e := 4) (size := 1) w2 #[Value.bool false] 1 (Nat.le_refl _) (by unfold maxLen; omega) rfl, HK.out.size, HR.out.lt.2.1⟩
      · rw [hUa] at hord
        simp only [if_true] at hord
        have HU := Lib.hid hUa
        clear hUa
        go_enter Try.func41, Try.ntmps41
        go_wp2_with (go_at_call 68; refine (Contains_i64_c w _ Ap np capp pl hnp (by omega) HPS.out (a : Int)).mono ?_; rintro e w' ⟨rfl, rfl⟩; rw [HIN.out])
        go_region_law (refine step_whereB Try.underlying25 infoBool rfl (by decide) (by rfl) _ _ (by rfl) D r cap0 m xs HM.out (by rfl) (World.ownsRow.alloc HRM.out _) w.heap.size 1 (.bool true) (by rfl) (cell_new1 _ _ _) rfl hlen (by simp; omega) rb _ (HX.out _) c3 ?_; intro r' cap' w1 ho1 hg1 hw1 p1 p2 hbx1)
        all_goals
          obtain ⟨hk, hr, hcx⟩ := rd_app (b := b) (off := off) (grown_drew_alloc w _) hg1 hw1 hbx1 ho1 HM.out hb1 hb2 hb3
          have cx2 := hcx.trans cx
          obtain ⟨w2, e2⟩ : ∃ w2 : World, w2 = w1.setCell ⟨rb, 0, none⟩ (.slice (some ⟨r', 0, none⟩) (m + 1) cap') := ⟨_, rfl⟩
          rw [← e2] at hk hr cx2 ⊢
          have HK := Lib.hid hk
          have HR := Lib.hid hr
          clear e2 hk hr hcx ho1 hg1 hw1 hbx1 p1 p2 cb fb cx
          go_wp2
          go_ret
          have hb : Below w2.heap.size w2 (w2.alloc (.cells #[Value.bool true] 4)) := (Below.refl _ _).alloc (Nat.le_refl _) _
          refine ⟨_, r', w2.heap.size, rfl, HK.out.trans (Kp.of_below hb), HR.out.below hb, World.ownsRow_lit (e := 4) (size := 1) w2 #[Value.bool true] 1 (Nat.le_refl _) (by unfold maxLen; omega) rfl, HK.out.size, HR.out.lt.2.1⟩

end Go.Proofs.Ytlcdcicdlfakgaa
