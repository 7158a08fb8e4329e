/-
  Contracts: merged codes, of the program.
  Conditions: weights in a slice of at most 1048576.
-/
import Derived.Test.YtcjgadepbbcjeaaML
import Derived.Test.YtcjgadepbbcjeaaAC
import Derived.Test.YtcjgadepbbcjeaaRW
namespace Go.Proofs.Ytcjgadepbbcjeaa
open Go.RowKit Go.Shelf Go.Sort Go.Lib

def lenV : Value → Nat
  | .slice _ n _ => n
  | _ => 0
/-- what a contract of merged codes says -/
def McPost (w : World) (ws : List Int) (e : Ending) (w' : World) : Prop := ∃ v, e = .returned (.tuple #[.agg #[v], .bool (mergedV ws).2]) ∧ Ow w' w.heap.size 2 v ((mergedV ws).1.map (Value.int .i64)) ∧ Below w.heap.size w w'

/-- what stands beside the row of trees -/
structure St (w0 : World) (base Lb : Nat) (lv : List Int) (T : List Tri) (W : World) : Prop where
  row : Row W Lb 2 (lv.map (Value.int .i64))
  le : Let W base T
  box : Obj W w0.heap.size 24 #[.slice none 0 0]
  bel : Below w0.heap.size w0 W
theorem St.grown {w0 W W' : World} {base Lb b2 k2 : Nat} {lv : List Int} {T : List Tri} {v2 : Value} {x2 : List Value} (h : St w0 base Lb lv T W) (h2 : W.ownsRow b2 42 2 v2 k2 x2) (hb : w0.heap.size ≤ b2) (hg : W.grownBy W' v2.ownBlock) : St w0 base Lb lv T W' :=
  ⟨h.row.kept h2 (by decide) hg, h.le.grown h2 (by decide) hg, h.box.kept hg (h.box.not_row (by decide) h2), h.bel.grown hg h.bel.size fun k hk => Nat.le_trans hb (h2.lt k hk).1⟩
theorem St.below {w0 W W' : World} {base Lb : Nat} {lv : List Int} {T : List Tri} (h : St w0 base Lb lv T W) (hb : Below W.heap.size W W') : St w0 base Lb lv T W' :=
  ⟨h.row.below hb h.row.lt, h.le.below hb, h.box.below hb h.box.lt, h.bel.trans (hb.mono h.bel.size)⟩
theorem St.sub {w0 W : World} {base Lb : Nat} {lv : List Int} {T T' : List Tri} (h : St w0 base Lb lv T W) (hs : ∀ t ∈ T', t ∈ T) : St w0 base Lb lv T' W := ⟨h.row, fun t ht => h.le t (hs t ht), h.box, h.bel⟩
theorem St.set {w0 W : World} {base Lb b : Nat} {lv : List Int} {T : List Tri} {cs : Array Value} (h : St w0 base Lb lv T W) (x : Obj W b 42 cs) (hb : w0.heap.size ≤ b) (o : Nat) (v : Value) : St w0 base Lb lv T (W.setCell ⟨b, o, none⟩ v) := by
  have n1 : Lb ≠ b := by
    intro e; subst e
    have := (show W.heap[Lb]? = _ from h.row).symm.trans x
    simp at this
  have n2 : w0.heap.size ≠ b := by
    intro e; subst e
    have := (show W.heap[w0.heap.size]? = _ from h.box).symm.trans x
    simp at this
  exact ⟨h.row.far n1 o v, fun t ht => ⟨(h.le t ht).1.kept (grownBy_set W b o v) (.inr (x.not_row (by decide) (h.le t ht).1).symm), (h.le t ht).2⟩, h.box.far n2 o v, below_put h.bel hb o v⟩
theorem St.long {w0 W : World} {base Lb : Nat} {lv : List Int} {T : List Tri} (h : St w0 base Lb lv T W) (hb : w0.heap.size < Lb) (j : Nat) (y : Int) : St w0 base Lb (lv.set j y) T (W.setCell ⟨Lb, j, none⟩ (.int .i64 y)) := by
  refine ⟨?_, fun t ht => ⟨(h.le t ht).1.kept (grownBy_set W Lb j _) (.inr (Obj.not_row h.row (by decide) (h.le t ht).1).symm), (h.le t ht).2⟩, h.box.far (by omega) j _, below_put h.bel (by omega) j _⟩
  have := h.row.put j (.int .i64 y)
  rw [← List.map_set] at this
  exact this
theorem Row.lt {W : World} {b : Nat} {e : TypeId} {l : List Value} (h : Row W b e l) : b < W.heap.size := Obj.lt h

set_option maxRecDepth 100000 in
set_option maxHeartbeats 4000000 in
theorem impl_MergedCode_c (w : World) (A : Option Addr) (n cap : Nat) (ws : List Int) (hl : ws.length = n) (hn : n ≤ 1048576) (hx : Sl w w.heap.size A (ws.map (Value.int .i64))) :
    Calls Try.prog 6 #[.slice A n cap] w (McPost w ws) := by
  unfold McPost
  obtain ⟨w1, e1⟩ : ∃ q : World, q = w.alloc (.cells #[.slice none 0 0] 24) := ⟨_, rfl⟩
  have b1 : Below w.heap.size w w1 := by rw [e1]; exact (Below.refl _ _).alloc (Nat.le_refl _) _
  have z1 : w.heap.size + 1 = w1.heap.size := by rw [e1]; simp
  have bx : Obj w1 w.heap.size 24 #[.slice none 0 0] := by rw [e1]; exact Obj.new _ _ _
  have c1 : w1.cell? ⟨w.heap.size, 0, none⟩ = some (.slice none 0 0) := bx.cell 0
  have f1 : w1.frozen? ⟨w.heap.size, 0, none⟩ = false := bx.frozen 0
  have HWC := Lib.hid (impl_areWeights_c w1 w1.heap.size A n cap ws hl hn ((hx.below b1).more b1.size))
  have B1 := Lib.hid b1
  have Z1 := Lib.hid z1
  have BX := Lib.hid bx
  cases hw : weightsB ws
  · have hv : mergedV ws = ([], false) := by unfold mergedV; rw [hw]; rfl
    rw [hv]
    rw [hw] at HWC
    clear hw hx b1 z1 bx
    go_enter Try.func6, Try.ntmps6
    go_wp2_with (rw [← e1]; clear e1)
    refine HWC.out.mono ?_
    rintro e w2 ⟨rfl, q, rfl⟩
    go_wp2
    refine bodyPost_ret (v := .tuple #[.agg #[.slice none 0 0], .bool false]) (by unfold results; rw [Try.results6]; go_simp) rfl ?_
    exact ⟨_, rfl, World.ownsRow_nil _ _ _ _, (below_drewN B1.out _).setCell (p := ⟨w.heap.size, 0, none⟩) (Nat.le_refl _) _⟩
  · have hw2 := hw
    unfold weightsB at hw2
    simp only [Bool.and_eq_true, decide_eq_true_eq] at hw2
    obtain ⟨⟨h1, h16⟩, _⟩ := hw2
    rw [hl] at h1 h16
    rw [hw] at HWC
    by_cases hn1 : n = 1
    · subst hn1
      have hm : mergedL ws = [1] := by unfold mergedL; rw [if_pos hl]
      have hv : mergedV ws = ([1], true) := by unfold mergedV; rw [hw, hm]; rfl
      rw [hv]
      clear hw hx b1 bx hm hv
      go_enter Try.func6, Try.ntmps6
      go_wp2_with (rw [← e1]; clear e1)
      refine HWC.out.mono ?_
      rintro e w2 ⟨rfl, q, rfl⟩
      have hq : ((1 : Int) == 1) = true := rfl
      have hz1 := Z1.out
      obtain ⟨w3, e3⟩ : ∃ q' : World, q' = (w1.drewN q).alloc (.cells #[.int .i64 1] 2) := ⟨_, rfl⟩
      have c3 : w3.cell? ⟨w.heap.size, 0, none⟩ = some (.slice none 0 0) := by rw [e3]; exact ((BX.out : Obj (w1.drewN q) _ _ _).alloc _).cell 0
      have f3 : w3.frozen? ⟨w.heap.size, 0, none⟩ = false := by rw [e3]; exact ((BX.out : Obj (w1.drewN q) _ _ _).alloc _).frozen 0
      have ho : w3.ownsRow w.heap.size 2 1 (.slice (some ⟨w1.heap.size, 0, none⟩) 1 1) 1 [.int .i64 1] := by rw [e3]; exact World.ownsRow_lit (e := 2) (size := 1) (w1.drewN q) #[.int .i64 1] 1 (base := w.heap.size) (by simp; omega) (by simp [maxLen]) rfl
      have b3 : Below w.heap.size w w3 := by rw [e3]; exact (below_drewN B1.out _).alloc (by simp; omega) _
      have HO := Lib.hid ho
      have B3 := Lib.hid b3
      clear ho b3 c1 f1
      go_wp2_with (rw [← e3]; clear e3)
      refine bodyPost_ret (v := .tuple #[.agg #[.slice (some ⟨w1.heap.size, 0, none⟩) 1 1], .bool true]) (by unfold results; rw [Try.results6]; go_simp) rfl ?_
      exact ⟨_, rfl, HO.out.kept (grownBy_set _ _ _ _) (.inr (by simp [Value.ownBlock]; omega)), B3.out.setCell (p := ⟨w.heap.size, 0, none⟩) (Nat.le_refl _) _⟩
    · have hm : mergedL ws = (mRun (n - 1) (mStart ws)).2 := by unfold mergedL; rw [if_neg (by omega), hl]
      have hinv := fun k hk => mInv_run hw k hk
      rw [hl] at hinv
      have hmk := fun W : World => run_mk (P := Try.prog) Try.underlying22 infoInt64 rfl (by decide) n (by omega) .i64 .i64 W
      have hne1 : ((n : Int) == 1) = false := by simp; omega
      have HX := Lib.hid hx
      have HM := Lib.hid hm
      have HINV := Lib.hid hinv
      have HW := Lib.hid hw
      clear hx hw hm hinv b1 bx
      go_enter Try.func6, Try.ntmps6
      go_wp2_with (rw [← e1]; clear e1)
      refine HWC.out.mono ?_
      rintro e w2 ⟨rfl, q, rfl⟩
      go_wp2_with fail
      have hz1 := Z1.out
      obtain ⟨w2, e2⟩ : ∃ q' : World, q' = (w1.drewN q).alloc (.cells (zeroRow (.int .i64 0) n) 2) := ⟨_, rfl⟩
      have R2 : Row w2 w1.heap.size 2 (List.replicate n (.int .i64 0)) := by rw [e2]; exact Row.new (w1.drewN q) 2 (.int .i64 0) n
      have X2 : Obj w2 w.heap.size 24 #[.slice none 0 0] := by rw [e2]; exact (BX.out : Obj (w1.drewN q) _ _ _).alloc _
      have B2 : Below w.heap.size w w2 := by rw [e2]; exact (below_drewN B1.out _).alloc (by simp; omega) _
      have z2 : w1.heap.size + 1 = w2.heap.size := by rw [e2]; simp
      have BW : Below w1.heap.size w1 w2 := by rw [e2]; exact (below_drewN (Below.refl _ _) _).alloc (by simp) _
      rw [← e2]
      clear e2
      refine (impl_bunchesOf_c w2 A n cap ws hl hn ((HX.out.below B2).more (by omega))).mono ?_
      rintro e w3 ⟨v, T, rfl, hT, hP, ho, hL, hb3⟩
      have hz3 := hb3.size
      have hst : St w w1.heap.size w1.heap.size (mStart ws).2 T w3 := by
        refine ⟨?_, hL.base (by omega), X2.below hb3 X2.lt, B2.trans (hb3.mono (by omega))⟩
        have : (mStart ws).2.map (Value.int .i64) = List.replicate n (.int .i64 0) := by simp [mStart, hl]
        rw [this]
        exact R2.below hb3 R2.lt
      have HST := Lib.hid hst
      have HO := Lib.hid (own_base (base' := w1.heap.size) ho (by omega))
      have HP := Lib.hid hP
      have HT := Lib.hid hT
      clear hst ho hP hT hL X2 R2 B2 BW c1 f1
      go_wp2_with fail
      go_loopw [5] (fun u wr => ∃ (k : Nat) (T : List Tri) (m g c : Nat), m + k = n ∧ 1 ≤ m ∧ u = .slice (some ⟨g, 0, none⟩) m c ∧ T.length = m ∧ plainT T = (mRun k (mStart ws)).1 ∧ wr.ownsRow w1.heap.size 42 2 (.slice (some ⟨g, 0, none⟩) m c) m (fl2 (cellsT T)) ∧ St w w1.heap.size w1.heap.size (mRun k (mStart ws)).2 T wr) (fun u _ => lenV u)
      case atStart =>
        obtain ⟨g, c, rfl, _⟩ := World.ownsRow.form HO.out (by omega)
        exact ⟨0, T, n, g, c, rfl, by omega, rfl, HT.out, HP.out, HO.out, HST.out⟩
      case round =>
        obtain ⟨k, T, m, g, c, hmk2, hm1, rfl, hT, hP, ho, hst⟩ := hrel
        by_cases hlt : 1 < m
        · obtain ⟨s, es⟩ : ∃ s, mRun k (mStart ws) = s := ⟨_, rfl⟩
          have hinv : MInv n k s := by rw [← es]; exact HINV.out k (by omega)
          have hnext : mRun (k + 1) (mStart ws) = mStep s := by rw [← es]; rfl
          rw [es] at hP hst
          have hlen2 : 2 ≤ s.1.length := by rw [← hP]; simp [plainT]; omega
          have HNX := Lib.hid hnext
          have HI := Lib.hid hinv
          have HL2 := Lib.hid hlen2
          have HMEM : Hid (∀ t ∈ T, (t.1, t.2.2) ∈ s.1) := Lib.hid (fun t ht => by rw [← hP]; exact List.mem_map_of_mem (f := fun t : Tri => (t.1, t.2.2)) ht)
          clear hnext hlen2 es
          obtain ⟨wa, ea⟩ : ∃ q' : World, q' = (wr.alloc (.cells #[.int .i64 0, .slice none 0 0] 42)).alloc (.cells #[.int .i64 0, .slice none 0 0] 42) := ⟨_, rfl⟩
          have ba : RowKit.Below wr.heap.size wr wa := by rw [ea]; exact ((RowKit.Below.refl _ _).alloc (Nat.le_refl _) _).alloc (by simp) _
          have xa : Obj wa wr.heap.size 42 #[.int .i64 0, .slice none 0 0] := by rw [ea]; exact (Obj.new wr _ _).alloc _
          have xb : Obj wa (wr.heap.size + 1) 42 #[.int .i64 0, .slice none 0 0] := by
            rw [ea]
            have := Obj.new (wr.alloc (.cells #[.int .i64 0, .slice none 0 0] 42)) 42 #[.int .i64 0, .slice none 0 0]
            rwa [World.size_alloc] at this
          have za : wa.heap.size = wr.heap.size + 2 := by rw [ea]; simp
          have hgl := (ho.lt g rfl).2
          have hoa := own_below ho ba (Nat.le_refl _)
          have sa := hst.below ba
          have SA := Lib.hid sa
          have XA := Lib.hid xa
          have XB := Lib.hid xb
          have HP := Lib.hid hP
          have HTK := Lib.hid (impl_takeT_c wa w1.heap.size g m c T hT (by omega) (by omega) hoa sa.le)
          have HOA := Lib.hid hoa
          have ZA := Lib.hid za
          clear ho hst ba xa xb hoa sa hP hinv za
          go_wp2_with (rw [← ea]; clear ea)
          refine HTK.out.mono ?_
          rintro e wb ⟨⟨x1, v1, l1⟩, Ta, hta, hma, hPa, hsa, hla, rfl, hob, hgb⟩
          obtain ⟨g1, c1, hv1, _⟩ := World.ownsRow.form (SA.out.le _ hta).1 (by have := (SA.out.le _ hta).2; omega)
          simp only at hv1
          subst hv1
          simp only at hma hob ⊢
          have hm1i := mInv_one HI.out (HMEM.out _ hta)
          simp only at hm1i
          have hwz := ZA.out
          have sb := SA.out.grown HOA.out (by have := Z1.out; omega) hgb
          have xa := XA.out.kept hgb (by simp; omega)
          have xb := XB.out.kept hgb (by simp; omega)
          obtain ⟨⟨p0, p1⟩, p2, p3⟩ := xa.two
          obtain ⟨wc, ec⟩ : ∃ q' : World, q' = (wb.setCell ⟨wr.heap.size, 0, none⟩ (.int .i64 x1)).setCell ⟨wr.heap.size, 1, none⟩ (.slice (some ⟨g1, 0, none⟩) l1.length c1) := ⟨_, rfl⟩
          have hwb : w.heap.size ≤ wr.heap.size := by have := SA.out.bel.size; have := XA.out.lt; have := Z1.out; have := HOA.out.lt g rfl; omega
          have sc : St w w1.heap.size w1.heap.size s.2 Ta wc := by
            rw [ec]
            exact ((sb.sub hsa).set xa hwb 0 _).set (xa.set 0 _) hwb 1 _
          have xac : Obj wc wr.heap.size 42 #[.int .i64 x1, .slice (some ⟨g1, 0, none⟩) l1.length c1] := by rw [ec]; exact (xa.set 0 _).set 1 _
          have xbc : Obj wc (wr.heap.size + 1) 42 #[.int .i64 0, .slice none 0 0] := by rw [ec]; exact (xb.far (by omega) 0 _).far (by omega) 1 _
          have hoc : wc.ownsRow w1.heap.size 42 2 (.slice (some ⟨g, 0, none⟩) (m - 1) c) (m - 1) (fl2 (cellsT Ta)) := by
            rw [ec]
            exact (hob.kept (grownBy_set _ _ _ _) (.inr (by simp [Value.ownBlock]; omega))).kept (grownBy_set _ _ _ _) (.inr (by simp [Value.ownBlock]; omega))
          have ow1 : wc.ownsRow w1.heap.size 3 1 (.slice (some ⟨g1, 0, none⟩) l1.length c1) l1.length (l1.map (Value.int .i64)) := by
            rw [ec]
            have h := (sb.le _ hta).1
            exact (h.kept (grownBy_set _ _ _ _) (.inr (xa.not_row (by decide) h).symm)).kept (grownBy_set _ _ _ _) (.inr ((xa.set 0 (.int .i64 x1)).not_row (by decide) (h.kept (grownBy_set _ _ _ _) (.inr (xa.not_row (by decide) h).symm))).symm)
          have hzc : wc.heap.size = wb.heap.size := by rw [ec]; simp
          have hgz := hgb.size
          have SC := Lib.hid sc
          have XAC := Lib.hid xac
          have XBC := Lib.hid xbc
          have OW1 := Lib.hid ow1
          have HTK2 := Lib.hid (impl_takeT_c wc w1.heap.size g (m - 1) c Ta hla (by omega) (by omega) hoc sc.le)
          have HOC := Lib.hid hoc
          have HMA := Lib.hid hma
          have HPA := Lib.hid hPa
          have HSA := Lib.hid hsa
          clear sb xa xb sc xac xbc ow1 hoc hma hPa hsa hob
          go_wp2_with (rw [← ec]; clear ec)
          refine HTK2.out.mono ?_
          rintro e wd ⟨⟨x2, v2, l2⟩, Tb, htb, hmb, hPb, hsb, hlb, rfl, hod, hgd⟩
          obtain ⟨g2, c2, hv2, _⟩ := World.ownsRow.form (SC.out.le _ htb).1 (by have := (SC.out.le _ htb).2; omega)
          simp only at hv2
          subst hv2
          simp only at hmb hod ⊢
          have hm2i := mInv_one HI.out (HMEM.out _ (HSA.out _ htb))
          simp only at hm2i
          have sd := SC.out.grown HOC.out (by have := Z1.out; omega) hgd
          have xa := XAC.out.kept hgd (by simp; omega)
          have xb := XBC.out.kept hgd (by simp; omega)
          have ow1 := OW1.out.kept hgd (own_typesM OW1.out HOC.out (by decide))
          obtain ⟨⟨p4, p5⟩, p6, p7⟩ := xb.two
          obtain ⟨we, ee⟩ : ∃ q' : World, q' = (wd.setCell ⟨wr.heap.size + 1, 0, none⟩ (.int .i64 x2)).setCell ⟨wr.heap.size + 1, 1, none⟩ (.slice (some ⟨g2, 0, none⟩) l2.length c2) := ⟨_, rfl⟩
          have se : St w w1.heap.size w1.heap.size s.2 Tb we := by
            rw [ee]
            exact ((sd.sub hsb).set xb (by omega) 0 _).set (xb.set 0 _) (by omega) 1 _
          have xae : Obj we wr.heap.size 42 #[.int .i64 x1, .slice (some ⟨g1, 0, none⟩) l1.length c1] := by rw [ee]; exact (xa.far (by omega) 0 _).far (by omega) 1 _
          have xbe : Obj we (wr.heap.size + 1) 42 #[.int .i64 x2, .slice (some ⟨g2, 0, none⟩) l2.length c2] := by rw [ee]; exact (xb.set 0 _).set 1 _
          have hoe : we.ownsRow w1.heap.size 42 2 (.slice (some ⟨g, 0, none⟩) (m - 1 - 1) c) (m - 1 - 1) (fl2 (cellsT Tb)) := by
            rw [ee]
            exact (hod.kept (grownBy_set _ _ _ _) (.inr (by simp [Value.ownBlock]; omega))).kept (grownBy_set _ _ _ _) (.inr (by simp [Value.ownBlock]; omega))
          have ow1e : we.ownsRow w1.heap.size 3 1 (.slice (some ⟨g1, 0, none⟩) l1.length c1) l1.length (l1.map (Value.int .i64)) := by
            rw [ee]
            exact (ow1.kept (grownBy_set _ _ _ _) (.inr (xb.not_row (by decide) ow1).symm)).kept (grownBy_set _ _ _ _) (.inr ((xb.set 0 (.int .i64 x2)).not_row (by decide) (ow1.kept (grownBy_set _ _ _ _) (.inr (xb.not_row (by decide) ow1).symm))).symm)
          have ow2e : we.ownsRow w1.heap.size 3 1 (.slice (some ⟨g2, 0, none⟩) l2.length c2) l2.length (l2.map (Value.int .i64)) := by
            rw [ee]
            have h := (sd.le _ htb).1
            exact (h.kept (grownBy_set _ _ _ _) (.inr (xb.not_row (by decide) h).symm)).kept (grownBy_set _ _ _ _) (.inr ((xb.set 0 (.int .i64 x2)).not_row (by decide) (h.kept (grownBy_set _ _ _ _) (.inr (xb.not_row (by decide) h).symm))).symm)
          have hze : we.heap.size = wd.heap.size := by rw [ee]; simp
          have hgz2 := hgd.size
          have HJ := Lib.hid (impl_join_c we x1 x2 l1.length c1 l2.length c2 _ _ l1 l2 (by omega) (by omega) rfl rfl (by omega) (by omega) (by omega) (by omega) (sl_of_own ow1e) (sl_of_own ow2e))
          obtain ⟨⟨p8, p9⟩, _, _⟩ := xae.two
          obtain ⟨⟨p10, p11⟩, _, _⟩ := xbe.two
          have SE := Lib.hid se
          have HOE := Lib.hid hoe
          have HMB := Lib.hid hmb
          have HPB := Lib.hid hPb
          clear sd xa xb ow1 se xae xbe hoe ow1e ow2e hmb hPb hod p0 p1 p2 p3
          go_wp2_with (rw [← ee]; clear ee)
          refine HJ.out.mono ?_
          rintro e wf ⟨v, rfl, hov, hbf⟩
          obtain ⟨gv, cv, rfl, hgv, hgv2⟩ := World.ownsRow.form hov (by omega)
          have hfz := hbf.size
          have hN : l1.length + l2.length ≤ 1048576 := by omega
          have hboth : mBoth s.1 = (x1 + x2, l1 ++ l2) := by
            unfold mBoth joinT
            rw [← HP.out, HMA.out, HPA.out, HMB.out]
          have hst2 : mStep s = (plainT Tb ++ [(x1 + x2, l1 ++ l2)], addL s.2 (l1 ++ l2)) := by
            unfold mStep
            rw [hboth, ← HP.out, HPA.out, HPB.out]
          have hnd := (mBoth_nodup HI.out HL2.out).2
          have hbd := addL_bds HI.out HL2.out
          rw [hboth] at hnd hbd
          simp only at hnd hbd
          have hslen : s.2.length = n := HI.out.long
          obtain ⟨ls, els⟩ : ∃ ls, l1 ++ l2 = ls := ⟨_, rfl⟩
          have hlsn : ls.length = l1.length + l2.length := by rw [← els, List.length_append]
          rw [els] at hov hst2 hnd hbd
          obtain ⟨N, eN⟩ : ∃ N, l1.length + l2.length = N := ⟨_, rfl⟩
          rw [eN] at hov hlsn hN ⊢
          have hN1 : 1 ≤ N := by omega
          obtain ⟨wg, eg⟩ : ∃ q' : World, q' = wf.alloc (.cells #[.int .i64 (x1 + x2), .slice (some ⟨gv, 0, none⟩) N cv] 42) := ⟨_, rfl⟩
          have bg : RowKit.Below wf.heap.size wf wg := by rw [eg]; exact (RowKit.Below.refl _ _).alloc (Nat.le_refl _) _
          have bg2 : RowKit.Below we.heap.size we wg := hbf.trans (bg.mono hfz)
          have xg : Obj wg wf.heap.size 42 #[.int .i64 (x1 + x2), .slice (some ⟨gv, 0, none⟩) N cv] := by rw [eg]; exact Obj.new _ _ _
          have sg := SE.out.below bg2
          have hog := own_below HOE.out bg2 (Nat.le_refl _)
          have ovg := own_below hov bg (Nat.le_refl _)
          obtain ⟨⟨p12, p13⟩, _, _⟩ := xg.two
          have SG := Lib.hid sg
          have HOG := Lib.hid hog
          have OVG := Lib.hid ovg
          have XG := Lib.hid xg
          have HST2 := Lib.hid hst2
          have HND := Lib.hid hnd
          have HBD := Lib.hid hbd
          have HLSN := Lib.hid hlsn
          have HSL := Lib.hid hslen
          have hkn : k ≤ 16 := by omega
          clear sg hog ovg xg hst2 hnd hbd hboth hov p8 p9 p10 p11 p4 p5 p6 p7 els eN hslen hlsn
          go_wp2_with (rw [← eg]; clear eg)
          clear p12 p13
          go_loopw [44] (fun i wl => ∃ j : Nat, j ≤ N ∧ i = .int .i64 j ∧ St w w1.heap.size w1.heap.size (addL s.2 (ls.take j)) Tb wl ∧ wl.ownsRow we.heap.size 3 1 (.slice (some ⟨gv, 0, none⟩) N cv) N (ls.map (Value.int .i64)) ∧ wl.ownsRow w1.heap.size 42 2 (.slice (some ⟨g, 0, none⟩) (m - 1 - 1) c) (m - 1 - 1) (fl2 (cellsT Tb)) ∧ Obj wl wf.heap.size 42 #[.int .i64 (x1 + x2), .slice (some ⟨gv, 0, none⟩) N cv]) (fun i _ => N - (RowKit.intOf i).toNat)
          case atStart => exact ⟨0, Nat.zero_le _, rfl, SG.out, OVG.out, HOG.out, XG.out⟩
          case round =>
            obtain ⟨wl, rfl⟩ : ∃ q' : World, q' = wr := ⟨_, rfl⟩
            obtain ⟨j, hj, rfl, sl, ovl, hol, xl⟩ := hrel
            by_cases hjN : j < N
            · have hjl : j < ls.length := by rw [HLSN.out]; exact hjN
              have hy := HND.out ls[j] (List.getElem_mem hjl)
              have hk1 := World.ownsRow.cellAt ovl j (by omega)
              have hsn : ls.take (j + 1) = ls.take j ++ [ls[j]] := List.take_succ_eq_append_getElem hjl
              rw [List.getElem?_map, List.getElem?_eq_getElem hjl] at hk1
              obtain ⟨y, hyy⟩ : ∃ y : Nat, ls[j] = (y : Int) := ⟨ls[j].toNat, by omega⟩
              rw [hyy] at hy hk1 hsn
              simp only [Option.map_some] at hk1
              have hb2 := HBD.out j y (by omega)
              have haddl : (addL s.2 (ls.take j)).length = n := by rw [addL_len, HSL.out]
              have hsn2 : addL s.2 (ls.take (j + 1)) = (addL s.2 (ls.take j)).set y ((addL s.2 (ls.take j)).getD y 0 + 1) := by
                rw [hsn, addL_snoc]; simp
              have hk2 : wl.cell? ⟨w1.heap.size, y, none⟩ = some (.int .i64 ((addL s.2 (ls.take j)).getD y 0)) := by
                rw [sl.row.get (k := y) (by rw [List.length_map, haddl]; omega)]
                simp [List.getD, show y < (addL s.2 (ls.take j)).length by rw [haddl]; omega]
              have hk3 := sl.row.frz y
              obtain ⟨a, ea⟩ : ∃ a, (addL s.2 (ls.take j)).getD y 0 = a := ⟨_, rfl⟩
              rw [ea] at hb2 hsn2 hk2
              have q1 : (0 : Int) ≤ (y : Int) := by omega
              have q2 : (y : Int) < (n : Int) := by omega
              have hadd : IntKind.i64.wrap (a + 1) = a + 1 := IntWalk.i64_in _ (by omega)
              have SL := Lib.hid (sl.long (by have := Z1.out; omega) y (a + 1))
              have OVL := Lib.hid (ovl.kept (grownBy_set wl w1.heap.size y (.int .i64 (a + 1))) (.inr (sl.row.not_row (by decide) ovl).symm))
              have HOL := Lib.hid (hol.kept (grownBy_set wl w1.heap.size y (.int .i64 (a + 1))) (.inr (sl.row.not_row (by decide) hol).symm))
              have XL := Lib.hid (xl.kept (grownBy_set wl w1.heap.size y (.int .i64 (a + 1))) (fun e => by
                have e2 : wf.heap.size = w1.heap.size := by simpa using e
                have h1 : wl.heap[wf.heap.size]? = _ := xl
                rw [e2, show wl.heap[w1.heap.size]? = _ from sl.row] at h1
                simp at h1))
              have HSN2 := Lib.hid hsn2
              clear sl ovl hol xl hsn hsn2 ea haddl hyy hy
              go_wp2
              go_roundw
              case rel => exact ⟨j + 1, hjN, by go_num, by rw [HSN2.out]; exact SL.out, OVL.out, HOL.out, XL.out⟩
              case measure => simp [RowKit.intOf]; omega
            · obtain rfl : j = N := by omega
              have hall : ls.take j = ls := List.take_of_length_le (by rw [HLSN.out]; exact Nat.le_refl _)
              rw [hall] at sl
              obtain ⟨⟨p12, p13⟩, _, _⟩ := xl.two
              obtain ⟨wh, eh⟩ : ∃ q' : World, q' = wl.alloc (.cells #[.int .i64 (x1 + x2), .slice (some ⟨gv, 0, none⟩) j cv] 42) := ⟨_, rfl⟩
              have bh : RowKit.Below wl.heap.size wl wh := by rw [eh]; exact (RowKit.Below.refl _ _).alloc (Nat.le_refl _) _
              have xh : Obj wh wl.heap.size 42 #[.int .i64 (x1 + x2), .slice (some ⟨gv, 0, none⟩) j cv] := by rw [eh]; exact Obj.new _ _ _
              have sh := sl.below bh
              have hoh := own_below hol bh (Nat.le_refl _)
              have ovh := own_below ovl bh (Nat.le_refl _)
              obtain ⟨⟨p14, p15⟩, _, _⟩ := xh.two
              have hcell : ∀ t u', [Value.int .i64 (x1 + x2), .slice (some ⟨gv, 0, none⟩) j cv][t]? = some u' → wh.cell? ⟨wl.heap.size, t, none⟩ = some u' := by
                intro t u' hu'
                rcases t with _ | _ | t
                · cases hu'; exact p14
                · cases hu'; exact p15
                · cases hu'
              have hbase : w1.heap.size ≤ wh.heap.size := by have := hoh.lt g rfl; omega
              have SH := Lib.hid sh
              have OVH := Lib.hid ovh
              clear sl hol ovl xl xh sh ovh p14 p15
              go_wp2_with (first | (rw [← eh]; clear eh) | (at_builtin; refine app1s (P := Try.prog) 2 (by decide) rfl rfl rfl (by decide) rfl _ _ rfl w1.heap.size _ _ _ rfl hoh wl.heap.size 1 [.int .i64 (x1 + x2), .slice (some ⟨gv, 0, none⟩) j cv] rfl rfl hcell (by intro u' hu'; simp at hu'; rcases hu' with rfl | rfl <;> rfl) (by omega) hbase ?_; rintro v' w' ho' hb' hg' ⟨g', c', rfl⟩))
              go_roundw
              case rel =>
                have hov2 := OVH.out.kept hg' (own_typesM OVH.out hoh (by decide))
                have sn := SH.out.grown hoh (by have := Z1.out; omega) hg'
                have hm11 : m - 1 - 1 + 1 = m - 1 := by omega
                have e3 : fl2 (cellsT (Tb ++ [((x1 + x2, Value.slice (some ⟨gv, 0, none⟩) j cv, ls) : Tri)])) = fl2 (cellsT Tb) ++ [Value.int .i64 (x1 + x2), .slice (some ⟨gv, 0, none⟩) j cv] := by
                  unfold cellsT
                  rw [List.map_append, fl2_app]
                  rfl
                rw [hm11] at ho'
                rw [hm11]
                refine ⟨k + 1, Tb ++ [(x1 + x2, .slice (some ⟨gv, 0, none⟩) j cv, ls)], m - 1, g', c', by omega, by omega, rfl, ?_, ?_, ?_, ?_⟩
                · rw [List.length_append, hlb, List.length_singleton]; omega
                · rw [HNX.out, HST2.out]; simp [plainT]
                · rw [e3]; exact ho'
                · rw [HNX.out, HST2.out]
                  refine ⟨sn.row, ?_, sn.box, sn.bel⟩
                  intro t ht
                  rcases List.mem_append.1 ht with ht | ht
                  · exact sn.le t ht
                  · obtain rfl := List.mem_singleton.1 ht
                    have hle : w1.heap.size ≤ we.heap.size := by have := HOE.out.lt g rfl; omega
                    refine ⟨?_, ?_⟩
                    · have := own_base (base' := w1.heap.size) hov2 hle
                      simp only
                      rw [HLSN.out]
                      exact this
                    · simp only; rw [HLSN.out]; exact hN1
              case measure => simp [lenV]; omega
        · obtain rfl : m = 1 := by omega
          obtain rfl : k = n - 1 := by omega
          have hmv : mergedL ws = (mRun (n - 1) (mStart ws)).2 := HM.out
          rw [← hmv] at hst
          have hlong : (mergedL ws).length = n := by rw [hmv]; exact (HINV.out (n - 1) (by omega)).long
          have HV : mergedV ws = if codeB (mergedL ws) then (mergedL ws, true) else ([], false) := by unfold mergedV; rw [HW.out, Bool.true_and]
          have HV := Lib.hid HV
          obtain ⟨L, eL⟩ : ∃ L, mergedL ws = L := ⟨_, rfl⟩
          rw [eL] at hst hlong HV
          have own := Row.own (base := w.heap.size) hst.row (by have := Z1.out; omega) (by rw [List.length_map]; omega)
          unfold Ow at own
          rw [List.length_map, hlong] at own
          have HA := Lib.hid (impl_asCode_c wr _ n n L hlong hn (sl_of_own own))
          have OWN := Lib.hid own
          have c1 := hst.box.cell 0
          have f1 := hst.box.frozen 0
          have BB := Lib.hid hst.bel
          have hbl := hst.box.lt
          have BXX := Lib.hid hst.box
          clear hst own hmv ho hP hT eL
          go_wp2_with fail
          refine HA.out.mono ?_
          rintro e w5 ⟨rfl, hb5⟩
          have xx := BXX.out.below hb5 hbl
          have d1 := xx.cell 0
          have d2 := xx.frozen 0
          have ow5 := own_below OWN.out hb5 (Nat.le_refl _)
          have OW5 := Lib.hid (ow5.kept (grownBy_set w5 w.heap.size 0 (.slice (some ⟨w1.heap.size, 0, none⟩) n n)) (.inr (by have := Z1.out; simp [Value.ownBlock]; omega)))
          have B5 := Lib.hid (BB.out.trans (hb5.mono BB.out.size))
          clear ow5 xx c1 f1
          cases hc : codeB L
          · rw [hc] at HV
            unfold asV
            go_wp2_with fail
            refine bodyPost_ret (v := .tuple #[.agg #[.slice none 0 0], .bool false]) (by unfold results; rw [Try.results6]; go_simp) rfl ?_
            refine ⟨_, by rw [HV.out]; rfl, ?_, B5.out.setCell (p := ⟨w.heap.size, 0, none⟩) (Nat.le_refl _) _⟩
            rw [HV.out]
            exact World.ownsRow_nil _ _ _ _
          · rw [hc] at HV
            unfold asV
            go_wp2_with fail
            refine bodyPost_ret (v := .tuple #[.agg #[.slice (some ⟨w1.heap.size, 0, none⟩) n n], .bool true]) (by unfold results; rw [Try.results6]; go_simp) rfl ?_
            refine ⟨_, by rw [HV.out]; rfl, ?_, B5.out.setCell (p := ⟨w.heap.size, 0, none⟩) (Nat.le_refl _) _⟩
            rw [HV.out]
            unfold Ow
            rw [List.length_map]
            show World.ownsRow _ _ _ _ _ L.length (L.map _)
            rw [hlong]
            exact OW5.out

end Go.Proofs.Ytcjgadepbbcjeaa
