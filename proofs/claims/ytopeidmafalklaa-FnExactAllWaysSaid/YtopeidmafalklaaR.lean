/-
  A region that draws its order, whose operations leave memory alone but may draw (a NaN's bits), and whose calls hand back a value of a set: one walk of the lexical order serves every order.
  Conditions: the operations only read; a call's set of values depends on its arguments alone.
-/
import Derived.Test.YtopeidmafalklaaM
import Derived.StillTail
namespace Go.Proofs.Ytopeidmafalklaa
open Go

section
variable {P : Program} {ops : Array Oper} {md : Region.Mode} {C : World → Prop} {Rv : FuncId → Array Value → Value → Prop}

/-- what is asked of an operation's outcome: the class is kept, and what follows holds of whatever value it yields -/
def relUpon (P : Program) (C : World → Prop) (Rv : FuncId → Array Value → Value → Prop) (next : Value → Prop) : Result Next → Prop
  | .ok (.value u) w' => C w' ∧ next u
  | .ok .skip w' => C w' ∧ next undef
  | .ok (.enter f args) w' => Calls P f args w' (fun e w'' => ∃ v, e = .returned v ∧ Rv f args v ∧ C w'') ∧ ∀ v, Rv f args v → next v
  | _ => False

def operRel (P : Program) (o : Oper) (a : Act) (C : World → Prop) (Rv : FuncId → Array Value → Value → Prop) (next : Act → Prop) : Prop :=
  ∀ w, C w → relUpon P C Rv (fun v => next (a.put o.dst v)) ((execOp a.eval o).run P w)

def wpRel (P : Program) (ops : Array Oper) (C : World → Prop) (Rv : FuncId → Array Value → Value → Prop) (Q : Act → Prop) : List Oper → Act → Prop
  | [], a => Q a
  | o :: rest, a => if Region.wanted o (yielded ops a.tmps) then operRel P o a C Rv (wpRel P ops C Rv Q rest) else wpRel P ops C Rv Q rest (a.put o.dst undef)

theorem wpRel_nil {Q : Act → Prop} {a : Act} (h : Q a) : wpRel P ops C Rv Q [] a := h
theorem wpRel_step {Q : Act → Prop} {a : Act} {o : Oper} {rest : List Oper}
    (h : ∀ K : Act → Prop, (∀ a, wpRel P ops C Rv Q rest a → K a) → if Region.wanted o (yielded ops a.tmps) then operRel P o a C Rv K else K (a.put o.dst undef)) : wpRel P ops C Rv Q (o :: rest) a :=
  h _ (fun _ h => h)

def rOp (P : Program) (ops : Array Oper) (C : World → Prop) (Rv : FuncId → Array Value → Value → Prop) (i : Nat) (K : Act → Prop) (a : Act) : Prop :=
  match ops[i]? with
  | none => K a
  | some o => if Region.wanted o (yielded ops a.tmps) then operRel P o a C Rv K else K (a.put o.dst undef)

theorem relUpon_mono {next next' : Value → Prop} (h : ∀ v, next v → next' v) {r : Result Next} (hh : relUpon P C Rv next r) : relUpon P C Rv next' r := by
  cases r with
  | ok n w' =>
    cases n <;> simp only [relUpon] at hh ⊢
    · exact ⟨hh.1, h _ hh.2⟩
    · exact ⟨hh.1, h _ hh.2⟩
    · exact ⟨hh.1, fun v hv => h v (hh.2 v hv)⟩
  | halt x w' => simp only [relUpon] at hh

theorem operRel_mono {o : Oper} {a : Act} {K K' : Act → Prop} (h : ∀ a, K a → K' a) (hh : operRel P o a C Rv K) : operRel P o a C Rv K' :=
  fun w hw => relUpon_mono (fun _ => h _) (hh w hw)

theorem rOp_mono {i : Nat} {a : Act} {K K' : Act → Prop} (h : ∀ a, K a → K' a) (hh : rOp P ops C Rv i K a) : rOp P ops C Rv i K' a := by
  unfold rOp at *
  split
  · exact h _ (by simpa [*] using hh)
  · rename_i o ho
    simp only [ho] at hh
    split
    · rename_i hw; simp only [hw, if_true] at hh; exact operRel_mono h hh
    · rename_i hw; simp only [hw] at hh; exact h _ hh

def wpAnyR (P : Program) (md : Region.Mode) (ops : Array Oper) (C : World → Prop) (Rv : FuncId → Array Value → Value → Prop) (Q : Act → Prop) : Nat → Array Bool → Act → Prop
  | 0, listed, a => Region.ready md ops listed = [] ∧ Q a
  | fuel + 1, listed, a =>
    (Region.ready md ops listed = [] → Q a) ∧
    ∀ i ∈ Region.ready md ops listed, rOp P ops C Rv i (wpAnyR P md ops C Rv Q fuel (listed.setIfInBounds i true)) a

theorem wp_of_operRel {o : Oper} {a : Act} {K : Act → Prop} {K' : Act → World → Prop} {Q' : Exit → Act → World → Prop} {w : World} (hw : C w) (h : ∀ a w', C w' → K a → K' a w') (hh : operRel P o a C Rv K) : o.wp P a w K' Q' := by
  have h3 := hh w hw
  unfold Oper.wp
  generalize (execOp a.eval o).run P w = r at *
  cases r with
  | ok n w' =>
    cases n <;> simp only [relUpon] at h3 <;> simp only [Oper.upon]
    case value u => exact h _ _ h3.1 h3.2
    case skip => exact h _ _ h3.1 h3.2
    case enter f args => exact h3.1.mono fun e w'' ⟨v, he, hv, hw''⟩ => by subst he; exact h _ _ hw'' (h3.2 v hv)
  | halt x w' => simp only [relUpon] at h3

theorem wpOp_of_rOp {i : Nat} {a : Act} {K : Act → Prop} {K' : Act → World → Prop} {Q' : Exit → Act → World → Prop} {w : World} (hC : C w) (h : ∀ a w', C w' → K a → K' a w') (hh : rOp P ops C Rv i K a) : wpOp P ops Q' i K' a w := by
  unfold rOp at hh
  unfold wpOp
  split
  · rename_i ho; simp only [ho] at hh; exact h _ _ hC hh
  · rename_i o ho
    simp only [ho] at hh
    split
    · rename_i hw; simp only [hw, if_true] at hh; exact .inl (wp_of_operRel hC h hh)
    · rename_i hw; simp only [hw] at hh; exact h _ _ hC hh

theorem wpAny_of_rel {Q : Act → Prop} {Q' : Exit → Act → World → Prop} (hQ : ∀ a w, C w → Q a → Q' .normal a w) : ∀ (fuel : Nat) (listed : Array Bool) (a : Act) (w : World), C w →
    wpAnyR P md ops C Rv Q fuel listed a → wpAny P md ops Q' fuel listed a w
  | 0, _, _, _, hw, h => ⟨h.1, hQ _ _ hw h.2⟩
  | fuel + 1, _, _, _, hw, h => ⟨fun h0 => hQ _ _ hw (h.1 h0), fun i hi => wpOp_of_rOp hw (fun a' w' hw' => wpAny_of_rel hQ fuel _ a' w' hw') (h.2 i hi)⟩

/-- the operation comes to an end in every world of the class -/
def safeR (P : Program) (ops : Array Oper) (C : World → Prop) (Rv : FuncId → Array Value → Value → Prop) (o : Oper) (a : Act) : Prop :=
  Region.wanted o (yielded ops a.tmps) = true → ∀ w, C w → relUpon P C Rv (fun _ => True) ((execOp a.eval o).run P w)

def gives (Rv : FuncId → Array Value → Value → Prop) (v : Value) : Result Next → Prop
  | .ok (.value u) _ => u = v
  | .ok .skip _ => v = undef
  | .ok (.enter f args) _ => Rv f args v
  | _ => False

/-- the values that it may yield -/
def mayR (P : Program) (ops : Array Oper) (C : World → Prop) (Rv : FuncId → Array Value → Value → Prop) (o : Oper) (a : Act) (v : Value) : Prop :=
  (Region.wanted o (yielded ops a.tmps) = true ∧ ∃ w, C w ∧ gives Rv v ((execOp a.eval o).run P w)) ∨ (Region.wanted o (yielded ops a.tmps) = false ∧ v = undef)

theorem upon_gives {next : Value → Prop} {r : Result Next} (h : relUpon P C Rv next r) {v : Value} (hv : gives Rv v r) : next v := by
  cases r with
  | ok n w' =>
    cases n <;> simp only [relUpon] at h <;> simp only [gives] at hv
    · subst hv; exact h.2
    · subst hv; exact h.2
    · exact h.2 v hv
  | halt x w' => simp only [relUpon] at h

theorem upon_of {next : Value → Prop} {r : Result Next} (h : relUpon P C Rv (fun _ => True) r) (hn : ∀ v, gives Rv v r → next v) : relUpon P C Rv next r := by
  cases r with
  | ok n w' =>
    cases n <;> simp only [relUpon] at h ⊢ <;> simp only [gives] at hn
    · exact ⟨h.1, hn _ rfl⟩
    · exact ⟨h.1, hn _ rfl⟩
    · exact ⟨h.1, fun v hv => hn v hv⟩
  | halt x w' => simp only [relUpon] at h

theorem gives_some {r : Result Next} (h : relUpon P C Rv (fun _ => True) r) : ∃ v, gives Rv v r := by
  cases r with
  | ok n w' =>
    cases n <;> simp only [relUpon] at h <;> simp only [gives]
    · exact ⟨_, rfl⟩
    · exact ⟨_, rfl⟩
    · obtain ⟨e, w2, fr, ⟨v, _, hv, _⟩, _⟩ := h.1 []
      exact ⟨v, hv⟩
  | halt x w' => simp only [relUpon] at h

theorem rOp_iff {i : Nat} {o : Oper} {a : Act} {K : Act → Prop} (hi : ops[i]? = some o) : rOp P ops C Rv i K a ↔ safeR P ops C Rv o a ∧ ∀ v, mayR P ops C Rv o a v → K (a.put o.dst v) := by
  unfold rOp
  simp only [hi]
  by_cases hw : Region.wanted o (yielded ops a.tmps) = true
  · simp only [hw, if_true]
    constructor
    · intro h
      refine ⟨fun _ w hC => relUpon_mono (fun _ _ => trivial) (h w hC), fun v hv => ?_⟩
      rcases hv with ⟨_, w, hC, hg⟩ | ⟨hf, _⟩
      · exact upon_gives (h w hC) hg
      · rw [hw] at hf; cases hf
    · rintro ⟨hs, hK⟩ w hC
      exact upon_of (hs hw w hC) fun v hv => hK v (.inl ⟨hw, w, hC, hv⟩)
  · simp only [hw]
    have hw' : Region.wanted o (yielded ops a.tmps) = false := by simpa using hw
    constructor
    · intro h
      refine ⟨fun hf => absurd hf hw, fun v hv => ?_⟩
      rcases hv with ⟨hf, _⟩ | ⟨_, rfl⟩
      · exact absurd hf hw
      · exact h
    · rintro ⟨_, hK⟩
      exact hK _ (.inr ⟨hw', rfl⟩)

theorem mayR_some {o : Oper} {a : Act} (hC : ∃ w, C w) (hs : safeR P ops C Rv o a) : ∃ v, mayR P ops C Rv o a v := by
  by_cases hw : Region.wanted o (yielded ops a.tmps) = true
  · obtain ⟨w, hw'⟩ := hC
    obtain ⟨v, hv⟩ := gives_some (hs hw w hw')
    exact ⟨v, .inl ⟨hw, w, hw', hv⟩⟩
  · exact ⟨undef, .inr ⟨by simpa using hw, rfl⟩⟩

theorem safeR_same {o : Oper} {a a' : Act} (he : execOp a'.eval o = execOp a.eval o) (hw : Region.wanted o (yielded ops a'.tmps) = Region.wanted o (yielded ops a.tmps)) : safeR P ops C Rv o a' ↔ safeR P ops C Rv o a := by
  unfold safeR
  rw [he, hw]
theorem mayR_same {o : Oper} {a a' : Act} {v : Value} (he : execOp a'.eval o = execOp a.eval o) (hw : Region.wanted o (yielded ops a'.tmps) = Region.wanted o (yielded ops a.tmps)) : mayR P ops C Rv o a' v ↔ mayR P ops C Rv o a v := by
  unfold mayR
  rw [he, hw]

theorem rOp_put {j : Nat} {oi oj : Oper} (hj : ops[j]? = some oj) (hap : oi.apart ops oj = true) (hC : ∃ w, C w)
    (hsi : ∀ cs b, oi.op ≠ .select cs b) (hsj : ∀ cs b, oj.op ≠ .select cs b) {K : Act → Prop} {a : Act}
    (hs : safeR P ops C Rv oi a) (h : ∀ v, mayR P ops C Rv oi a v → rOp P ops C Rv j K (a.put oi.dst v)) :
    rOp P ops C Rv j (fun a' => safeR P ops C Rv oi a' ∧ ∀ v, mayR P ops C Rv oi a' v → K (a'.put oi.dst v)) a := by
  obtain ⟨h1, h2, h3⟩ := Oper.apart_spec hap
  rw [rOp_iff hj]
  refine ⟨?_, fun u hu => ⟨?_, fun v hv => ?_⟩⟩
  · obtain ⟨v, hv⟩ := mayR_some hC hs
    exact (safeR_same (execOp_put oj hsj a oi.dst v h1) (wanted_put oj a oi.dst v h1)).1 ((rOp_iff hj).1 (h v hv)).1
  · exact (safeR_same (execOp_put oi hsi a oj.dst u h3) (wanted_put oi a oj.dst u h3)).2 hs
  · have hv' := (mayR_same (execOp_put oi hsi a oj.dst u h3) (wanted_put oi a oj.dst u h3)).1 hv
    have := ((rOp_iff hj).1 (h v hv')).2 u ((mayR_same (execOp_put oj hsj a oi.dst v h1) (wanted_put oj a oi.dst v h1)).2 hu)
    rw [← Act.put_comm a v u h2]
    exact this

theorem wpAnyR_first {Q : Act → Prop} {i : Nat} {oi : Oper} (hC : ∃ w, C w) (hi : ops[i]? = some oi) (hsel : ∀ (j : Nat) (o : Oper) cs b, ops[j]? = some o → o.op ≠ .select cs b) :
    ∀ (fuel : Nat) (listed : Array Bool) (a : Act),
      (∀ j oj, ops[j]? = some oj → j ≠ i → listed.getD j true = false → (∀ e ∈ oj.after, Region.binds md e = true → e.on ≠ i) → oi.apart ops oj = true) →
      i ∈ Region.ready md ops listed → safeR P ops C Rv oi a →
      (∀ v, mayR P ops C Rv oi a v → wpAnyR P md ops C Rv Q fuel (listed.setIfInBounds i true) (a.put oi.dst v)) → wpAnyR P md ops C Rv Q (fuel + 1) listed a := by
  intro fuel
  induction fuel with
  | zero =>
    intro listed a _ hr hy H
    refine ⟨fun h => (by rw [h] at hr; cases hr), fun j hj => ?_⟩
    by_cases hji : j = i
    · subst hji; exact (rOp_iff hi).2 ⟨hy, H⟩
    · have := ready_mono hj hji
      obtain ⟨v, hv⟩ := mayR_some hC hy
      rw [(H v hv).1] at this
      cases this
  | succ fuel ih =>
    intro listed a hfree hr hy H
    refine ⟨fun h => (by rw [h] at hr; cases hr), fun j hj => ?_⟩
    by_cases hji : j = i
    · subst hji; exact (rOp_iff hi).2 ⟨hy, H⟩
    · have h1 := fun v hv => (H v hv).2 j (ready_mono hj hji)
      obtain ⟨hjun, oj, hoj, hall⟩ := mem_ready.1 hj
      have hnot : ∀ e ∈ oj.after, Region.binds md e = true → e.on ≠ i := fun e he hb heq => by
        have h1 := hall e he hb
        have h0 := (mem_ready.1 hr).1
        rw [heq] at h1
        rcases Nat.lt_or_ge i listed.size with h' | h'
        · simp [h'] at h0 h1; rw [h0] at h1; cases h1
        · simp [Array.getElem?_eq_none h'] at h1
      have h2 := rOp_put hoj (hfree j oj hoj hji hjun hnot) hC (fun cs b => hsel i oi cs b hi) (fun cs b => hsel j oj cs b hoj) hy h1
      have hfree' : ∀ k ok, ops[k]? = some ok → k ≠ i → (listed.setIfInBounds j true).getD k true = false →
          (∀ e ∈ ok.after, Region.binds md e = true → e.on ≠ i) → oi.apart ops ok = true := fun k ok hk hki hun hno => by
        refine hfree k ok hk hki ?_ hno
        by_cases hjk : j = k
        · subst hjk; exact hjun
        · rw [getD_set_ne true hjk] at hun; exact hun
      refine rOp_mono (fun a' h3 => ih (listed.setIfInBounds j true) a' hfree' (ready_mono hr (Ne.symm hji)) h3.1 ?_) h2
      intro v hv
      rw [Array.setIfInBounds_comm _ _ hji]
      exact h3.2 v hv

theorem wpAnyR_lex {Q : Act → Prop} (hC : ∃ w, C w) (hs : Region.noSelect ops = true) : ∀ (l : List Oper) (k : Nat) (listed : Array Bool) (a : Act), (∀ j, l[j]? = ops[k + j]?) →
    Region.lexFrom md ops l.length k listed = true → wpRel P ops C Rv Q l a → wpAnyR P md ops C Rv Q l.length listed a
  | [], _, _, _, _, hB, h => ⟨by simpa [Region.lexFrom] using hB, h⟩
  | o :: l, k, listed, a, hl, hB, h => by
    have h0 : ops[k]? = some o := by simpa using (hl 0).symm
    simp only [List.length_cons, Region.lexFrom, Bool.and_eq_true] at hB
    obtain ⟨⟨hr, hf⟩, hB'⟩ := hB
    have hst : rOp P ops C Rv k (wpRel P ops C Rv Q l) a := by unfold rOp; simp only [h0]; exact h
    obtain ⟨hy, hK⟩ := (rOp_iff h0).1 hst
    exact wpAnyR_first hC h0 (Region.noSelect_spec hs) l.length listed a (Region.free_spec h0 hf) (by simpa using hr) hy
      (fun v hv => wpAnyR_lex hC hs l (k + 1) _ _ (fun j => by have := hl (j + 1); simpa [Nat.add_assoc, Nat.add_comm 1 j] using this) hB' (hK v hv))

theorem wp_region_rel {id : Nat} {Q : Exit → Act → World → Prop} {a : Act} {w : World} (hm : P.follows .mixedOrders = true) (hB : Region.lexB .any ops = true) (hC : C { w with drawn := w.drawn + 1 })
    (h : wpRel P ops C Rv (fun a' => ∀ w', C w' → Q .normal a' w') ops.toList a) : (Code.region id ops true).wp P Q a w := by
  simp only [Region.lexB, Bool.and_eq_true] at hB
  refine wp_region_any hm (wpAny_of_rel (Rv := Rv) (Q := fun a' => ∀ w', C w' → Q .normal a' w') (fun _ w' hw' h => h w' hw') _ _ _ _ hC ?_)
  have := wpAnyR_lex (C := C) (Rv := Rv) (md := .any) ⟨_, hC⟩ hB.1 ops.toList 0 (Array.replicate ops.size false) a (by simp) (by simpa using hB.2) h
  simpa using this

/-! ### The last operations in one forced order -/

def wpAnyRL (P : Program) (md : Region.Mode) (ops : Array Oper) (C : World → Prop) (Rv : FuncId → Array Value → Value → Prop) (n : Nat) (L : Array Bool → Act → Prop) : Nat → Array Bool → Act → Prop
  | 0, listed, a => L listed a
  | f + 1, listed, a =>
    Region.ready md ops listed ≠ [] ∧ ∀ i ∈ Region.ready md ops listed, i < n ∧ rOp P ops C Rv i (wpAnyRL P md ops C Rv n L f (listed.setIfInBounds i true)) a

theorem wpAny_of_headR {n g : Nat} {L : Array Bool → Act → Prop} {Q' : Exit → Act → World → Prop} (hL : ∀ listed a w, C w → L listed a → wpAny P md ops Q' g listed a w) :
    ∀ (f : Nat) (listed : Array Bool) (a : Act) (w : World), C w → wpAnyRL P md ops C Rv n L f listed a → wpAny P md ops Q' (f + g) listed a w
  | 0, listed, a, w, hw, h => by rw [Nat.zero_add]; exact hL _ _ _ hw h
  | f + 1, listed, a, w, hw, h => by
    rw [show f + 1 + g = (f + g) + 1 by omega]
    exact ⟨fun h0 => absurd h0 h.1, fun i hi => wpOp_of_rOp hw (fun a' w' hw' h' => wpAny_of_headR hL f _ a' w' hw' h') (h.2 i hi).2⟩

theorem wpAnyRL_first {n i : Nat} {oi : Oper} {L : Array Bool → Act → Prop} (hC : ∃ w, C w) (hi : ops[i]? = some oi) (hsel : ∀ (j : Nat) (o : Oper) cs b, ops[j]? = some o → o.op ≠ .select cs b)
    (hs : Region.sinkB md ops n = true) (hc : Region.chainB md ops n = true) (hn : n < ops.size) (hin : i < n)
    (hdone : ∀ listed a, L listed a → ∀ j ∈ Region.ready md ops listed, n ≤ j) :
    ∀ (f : Nat) (listed : Array Bool) (a : Act), HeadInv md ops n listed →
      (∀ j oj, ops[j]? = some oj → j ≠ i → listed.getD j true = false → (∀ e ∈ oj.after, Region.binds md e = true → e.on ≠ i) → oi.apart ops oj = true) →
      i ∈ Region.ready md ops listed → safeR P ops C Rv oi a →
      (∀ v, mayR P ops C Rv oi a v → wpAnyRL P md ops C Rv n L f (listed.setIfInBounds i true) (a.put oi.dst v)) → wpAnyRL P md ops C Rv n L (f + 1) listed a := by
  intro f
  induction f with
  | zero =>
    intro listed a inv _ hr hy H
    have hun := (mem_ready.1 hr).1
    refine ⟨fun h => (by rw [h] at hr; cases hr), fun j hj => ?_⟩
    have hjn : j < n := by
      rcases Nat.lt_or_ge j n with h | h
      · exact h
      · exact absurd hj (tail_waits hs hc hn inv _ i rfl hin hun j h)
    refine ⟨hjn, ?_⟩
    by_cases hji : j = i
    · subst hji; exact (rOp_iff hi).2 ⟨hy, H⟩
    · obtain ⟨v, hv⟩ := mayR_some hC hy
      have := hdone _ _ (H v hv) j (ready_mono hj hji)
      omega
  | succ f ih =>
    intro listed a inv hfree hr hy H
    have hun := (mem_ready.1 hr).1
    refine ⟨fun h => (by rw [h] at hr; cases hr), fun j hj => ?_⟩
    have hjn : j < n := by
      rcases Nat.lt_or_ge j n with h | h
      · exact h
      · exact absurd hj (tail_waits hs hc hn inv _ i rfl hin hun j h)
    refine ⟨hjn, ?_⟩
    by_cases hji : j = i
    · subst hji; exact (rOp_iff hi).2 ⟨hy, H⟩
    · have h1 := fun v hv => ((H v hv).2 j (ready_mono hj hji)).2
      obtain ⟨hjun, oj, hoj, hall⟩ := mem_ready.1 hj
      have hnot : ∀ e ∈ oj.after, Region.binds md e = true → e.on ≠ i := fun e he hb heq => by
        have h1 := hall e he hb
        rw [heq, getD_both hun] at h1
        cases h1
      have h2 := rOp_put hoj (hfree j oj hoj hji hjun hnot) hC (fun cs b => hsel i oi cs b hi) (fun cs b => hsel j oj cs b hoj) hy h1
      have hfree' : ∀ k ok, ops[k]? = some ok → k ≠ i → (listed.setIfInBounds j true).getD k true = false →
          (∀ e ∈ ok.after, Region.binds md e = true → e.on ≠ i) → oi.apart ops ok = true := fun k ok hk hki hun hno => by
        refine hfree k ok hk hki ?_ hno
        by_cases hjk : j = k
        · subst hjk; exact hjun
        · rw [getD_set_ne true hjk] at hun; exact hun
      refine rOp_mono (fun a' h3 => ih (listed.setIfInBounds j true) a' (inv.set hj hjn) hfree' (ready_mono hr (Ne.symm hji)) h3.1 ?_) h2
      intro v hv
      rw [Array.setIfInBounds_comm _ _ hji]
      exact h3.2 v hv

theorem wpAnyRL_lex {n g : Nat} {Lq : Act → Prop} (hC : ∃ w, C w) (hsel : Region.noSelect ops = true) (hs : Region.sinkB md ops n = true) (hc : Region.chainB md ops n = true) (hn : n < ops.size) :
    ∀ (l : List Oper) (k : Nat) (listed : Array Bool) (a : Act), (∀ j, j < l.length → l[j]? = ops[k + j]?) → k + l.length = n → HeadInv md ops n listed →
    Region.lexHead md ops g l.length k listed = true → wpRel P ops C Rv Lq l a →
    wpAnyRL P md ops C Rv n (fun listed' a' => Region.seqB md ops g n listed' = true ∧ Lq a') l.length listed a
  | [], k, listed, a, _, hk, _, hB, h => by
    have : k = n := by simpa using hk
    subst this
    exact ⟨by simpa [Region.lexHead] using hB, h⟩
  | o :: l, k, listed, a, hl, hk, inv, hB, h => by
    have h0 : ops[k]? = some o := by simpa using (hl 0 (by simp)).symm
    simp only [List.length_cons, Region.lexHead, Bool.and_eq_true] at hB
    obtain ⟨⟨hr, hf⟩, hB'⟩ := hB
    have hkn : k < n := by simp only [List.length_cons] at hk; omega
    have hr' : k ∈ Region.ready md ops listed := by simpa using hr
    have hst : rOp P ops C Rv k (wpRel P ops C Rv Lq l) a := by unfold rOp; simp only [h0]; exact h
    obtain ⟨hy, hK⟩ := (rOp_iff h0).1 hst
    exact wpAnyRL_first hC h0 (Region.noSelect_spec hsel) hs hc hn hkn (fun listed' a' hL => seqB_ready hL.1) l.length listed a inv (Region.free_spec h0 hf) hr' hy
      (fun v hv => wpAnyRL_lex hC hsel hs hc hn l (k + 1) _ _ (fun j hj => by have := hl (j + 1) (by simp; omega); simpa [Nat.add_assoc, Nat.add_comm 1 j] using this) (by simp only [List.length_cons] at hk; omega) (inv.set hr' hkn) hB' (hK v hv))

theorem wp_region_rel_tail {id : Nat} {Q : Exit → Act → World → Prop} {a : Act} {w : World} {l : List Oper} (n : Nat) (hm : P.follows .mixedOrders = true) (hB : Region.lexTailB .any l.toArray n = true) (hC : C { w with drawn := w.drawn + 1 })
    (h : wpRel P l.toArray C Rv (fun a' => ∀ w', C w' → wpList P l.toArray Q (l.drop n) a' w') (l.take n) a) : (Code.region id l.toArray true).wp P Q a w := by
  simp only [Region.lexTailB, Bool.and_eq_true, decide_eq_true_eq] at hB
  obtain ⟨⟨⟨⟨hsel, hn⟩, hs⟩, hc⟩, hlex⟩ := hB
  have hn' : n < l.length := by simpa using hn
  have htl : (l.take n).length = n := by simp; omega
  have hdl : (l.drop n).length = l.toArray.size - n := by simp
  have inv0 : HeadInv .any l.toArray n (Array.replicate l.toArray.size false) :=
    ⟨by simp, fun j oj _ hl => (by rw [getD_replicate_false] at hl; cases hl), fun t _ ht => getD_in (by simpa using ht) (getD_replicate_false _ _)⟩
  have H := wpAnyRL_lex (md := .any) (g := l.toArray.size - n) ⟨_, hC⟩ hsel hs hc hn (l.take n) 0 _ a (fun j hj => by
    have hj' : j < n := by rw [htl] at hj; exact hj
    simp [hj']) (by simpa using htl) inv0 (by rw [htl]; exact hlex) h
  refine wp_region_any hm ?_
  have := wpAny_of_headR (C := C) (Rv := Rv) (Q' := Q) (g := l.toArray.size - n) (fun listed a' w' hw' hL => by
    have := wpAny_of_seq (md := .any) (Q' := Q) (l.drop n) n listed a' w' (fun j => by simp [List.getElem?_drop]) (by rw [hdl]; exact hL.1) (hL.2 w' hw')
    rwa [hdl] at this) _ _ _ _ hC H
  rw [htl, show n + (l.toArray.size - n) = l.toArray.size by omega] at this
  exact this

/-- the class 'w after some draws' -/
def Dr (w w' : World) : Prop := ∃ n, w' = w.drewN n

/-- the region written out, in that class -/
theorem wp_region_rel_lit (Rv : FuncId → Array Value → Value → Prop) {id : Nat} {Q : Exit → Act → World → Prop} {a : Act} {w : World} {l : List Oper} (hm : P.follows .mixedOrders = true) (hB : Region.lexB .any l.toArray = true)
    (h : wpRel P l.toArray (Dr w) Rv (fun a' => ∀ n, Q .normal a' (w.drewN n)) l a) : (Code.region id l.toArray true).wp P Q a w :=
  wp_region_rel (C := Dr w) (Rv := Rv) hm hB ⟨1, rfl⟩ (by
    have e : (fun a' => ∀ n, Q .normal a' (w.drewN n)) = (fun a' => ∀ w', Dr w w' → Q .normal a' w') := by
      funext a'
      exact propext ⟨fun h w' ⟨n, hn⟩ => hn ▸ h n, fun h n => h _ ⟨n, rfl⟩⟩
    rw [← e]
    exact h)

@[go_sem] theorem Dr_drewN (w : World) (n : Nat) : Dr w (w.drewN n) ↔ True := ⟨fun _ => trivial, fun _ => ⟨n, rfl⟩⟩

@[go_sem] theorem Dr_drewN_1 (w : World) (m n : Nat) : Dr (w.drewN m) (w.drewN (m + n)) ↔ True := ⟨fun _ => trivial, fun _ => ⟨n, by rw [World.drewN_drewN]⟩⟩
@[go_sem] theorem Dr_drewN_2 (w : World) (m n k : Nat) : Dr (w.drewN m) (w.drewN (m + n + k)) ↔ True := ⟨fun _ => trivial, fun _ => ⟨n + k, by rw [World.drewN_drewN, Nat.add_assoc]⟩⟩
@[go_sem] theorem Dr_drewN_3 (w : World) (m n k j : Nat) : Dr (w.drewN m) (w.drewN (m + n + k + j)) ↔ True := ⟨fun _ => trivial, fun _ => ⟨n + k + j, by rw [World.drewN_drewN]; congr 1; omega⟩⟩
@[go_sem] theorem Dr_drewN_4 (w : World) (m n k : Nat) : Dr (w.drewN m) (w.drewN (m + (n + k))) ↔ True := ⟨fun _ => trivial, fun _ => ⟨n + k, by rw [World.drewN_drewN]⟩⟩

/-- one operation: a world of the class written out -/
@[go_sem] theorem operRel_Dr {o : Oper} {a : Act} {w : World} {next : Act → Prop} :
    operRel P o a (Dr w) Rv next ↔ ∀ n, relUpon P (Dr w) Rv (fun v => next (a.put o.dst v)) ((execOp a.eval o).run P (w.drewN n)) :=
  ⟨fun h n => h _ ⟨n, rfl⟩, fun h _ ⟨n, hn⟩ => hn ▸ h n⟩

/-- the region written out, its last operations in one forced order -/
theorem wp_region_rel_lit_tail (Rv : FuncId → Array Value → Value → Prop) (n : Nat) {id : Nat} {Q : Exit → Act → World → Prop} {a : Act} {w : World} {l : List Oper} (hm : P.follows .mixedOrders = true) (hB : Region.lexTailB .any l.toArray n = true)
    (h : wpRel P l.toArray (Dr w) Rv (fun a' => ∀ k, wpList P l.toArray Q (l.drop n) a' (w.drewN k)) (l.take n) a) : (Code.region id l.toArray true).wp P Q a w :=
  wp_region_rel_tail (C := Dr w) (Rv := Rv) n hm hB ⟨1, rfl⟩ (by
    have e : (fun a' => ∀ k, wpList P l.toArray Q (l.drop n) a' (w.drewN k)) = (fun a' => ∀ w', Dr w w' → wpList P l.toArray Q (l.drop n) a' w') := by
      funext a'
      exact propext ⟨fun h w' ⟨n, hn⟩ => hn ▸ h n, fun h n => h _ ⟨n, rfl⟩⟩
    rw [← e]
    exact h)

attribute [go_sem] relUpon

/-- a callee's contract, in such a region -/
theorem calls_rel {f : FuncId} {args : Array Value} {w : World} {m q : Nat} {S : Value → Prop}
    (h : Calls P f args (w.drewN (m + q)) fun e w' => (∃ v, e = .returned v ∧ S v) ∧ ∃ n, w' = (w.drewN (m + q)).drewN n) : Calls P f args (w.drewN (m + q)) fun e w'' => ∃ v, e = .returned v ∧ S v ∧ Dr (w.drewN m) w'' :=
  h.mono fun _ _ ⟨⟨v, he, hv⟩, n, hn⟩ => ⟨v, he, hv, by rw [hn]; exact ⟨q + n, by rw [World.drewN_drewN, World.drewN_drewN, Nat.add_assoc]⟩⟩
theorem calls_rel0 {f : FuncId} {args : Array Value} {w : World} {q : Nat} {S : Value → Prop}
    (h : Calls P f args (w.drewN q) fun e w' => (∃ v, e = .returned v ∧ S v) ∧ ∃ n, w' = (w.drewN q).drewN n) : Calls P f args (w.drewN q) fun e w'' => ∃ v, e = .returned v ∧ S v ∧ Dr w w'' :=
  h.mono fun _ _ ⟨⟨v, he, hv⟩, n, hn⟩ => ⟨v, he, hv, by rw [hn]; exact ⟨q + n, by rw [World.drewN_drewN]⟩⟩
end
end Go.Proofs.Ytopeidmafalklaa
