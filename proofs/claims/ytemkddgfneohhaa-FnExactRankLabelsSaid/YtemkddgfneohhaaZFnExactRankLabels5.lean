/- Part 5 of the texts below the row of FnExactRankLabels: printed functions with their contracts, and plain lemmas. No condition. -/
import Derived.Test.YtemkddgfneohhaaZFnExactRankLabels4
import Derived.Lib.SliceRun
import Derived.Lib.Hide
import Derived.Deep.RegionHeld3
import Derived.Deep.RegionWith
import Derived.LoopTactic
import Derived.Deep.LoopGhost
import Derived.OneCell
import Derived.Laws.EntriesVeiled
import Derived.Maps.RangeWalk
import Derived.Maps.OwnOps
import Derived.Maps.Ext
section
namespace Go.Proofs.Ytemkddgfneohhaa.Q
open Go.RowKit Go.Proofs.YtemkddgfneohhaaW.PrintWords Go.Proofs.Ytemkddgfneohhaa.F
set_option linter.unusedVariables false
theorem IsPoset_ev (p : List Int) : Ev (fun k => impl_IsPoset.f k p) (isPo p) := by
  unfold impl_IsPoset.f
  refine Ev.call (show impl_Poset_n.f p = some (p.length : Int) from rfl) (Ev.call (within_eq _ _ _) ?_)
  unfold isPo
  rw [sizes_eq]
  cases hs : (decide (1 ≤ p.length) && decide (p.length ≤ 10)) with
  | false => exact Ev.no (by simp) (Ev.ret rfl)
  | true =>
  refine Ev.yes rfl ?_
  rw [Bool.and_eq_true, decide_eq_true_eq, decide_eq_true_eq] at hs
  obtain ⟨h1, h2⟩ := hs
  have key : ∀ i, i ≤ p.length → Ev (fun k => impl_IsPoset.l0 k p (p.length : Int) (i : Int) p) (allFrom (rowOk p) p.length i) := by
    refine downTo p.length ?_ ?_
    · refine Ev.step (by intro k; simp only [impl_IsPoset.l0]; rfl) ?_
      exact Ev.no (by omega) (Ev.ret (allFrom_end _ _).symm)
    · intro i hi ih
      refine Ev.step (by intro k; simp only [impl_IsPoset.l0]; rfl) ?_
      refine Ev.yes (by omega) (Ev.yes (by omega) (Ev.yes (by omega) ?_))
      rw [rdN, mask_eq (by omega)]
      refine Ev.call (within_eq _ _ _) ?_
      rw [allFrom_step _ hi]
      by_cases hb : 0 ≤ p.getD i 0 ∧ p.getD i 0 ≤ 2 ^ i - 1
      rotate_left
      · exact Ev.no (by rw [range_false hb]; simp) (Ev.ret (by rw [rowOk_false hb]; rfl))
      refine Ev.yes (range_true hb) ?_
      have hv : p.getD i 0 = (L p i : Int) := by unfold L; omega
      have hm : L p i < 2 ^ i := by
        have := hb.2
        rw [hv, pow_int] at this
        have hp : 0 < 2 ^ i := Nat.two_pow_pos i
        generalize 2 ^ i = z at *
        omega
      rw [rowOk_true hb, ← items_all hm (by omega) (fun j => decide (Go.bits .andNot .i64 (p.getD j 0) (p.getD i 0) = 0)), hv]
      refine Ev.bind (items_ev _ (lt_pow hm (by omega))) ?_
      have inner : ∀ j, j ≤ (itemsN (L p i)).length → Ev (fun k => impl_IsPoset.l1 k (L p i : Int) p (p.length : Int) (i : Int) (ints (itemsN (L p i))) ((ints (itemsN (L p i))).length : Int) (j : Int) p)
          (((itemsN (L p i)).drop j).all (fun j => decide (Go.bits .andNot .i64 (p.getD j 0) (L p i : Int) = 0)) && allFrom (rowOk p) p.length (i + 1)) := by
        rw [ints_len]
        refine downTo _ ?_ ?_
        · refine Ev.step (by intro k; simp only [impl_IsPoset.l1]; rfl) ?_
          refine Ev.no (by omega) ?_
          rw [wid1 hi (by omega), List.drop_length, List.all_nil, Bool.true_and]
          exact ih
        · intro j hj ihj
          have hlt := items_lt hm hj
          have hl := itemsN_len (L p i)
          refine Ev.step (by intro k; simp only [impl_IsPoset.l1]; rfl) ?_
          refine Ev.yes (by omega) (Ev.yes (by omega) (Ev.yes (by rw [ints_len]; omega) ?_))
          rw [rd_ints, all_drop_step _ _ 0 hj, wid1 hj (by omega), rdN]
          refine Ev.yes (by omega) (Ev.yes (by omega) ?_)
          refine Ev.ite (fun h => evc ihj ?_) (fun h => Ev.ret ?_)
          · rw [decide_eq_true h]; simp
          · rw [decide_eq_false h]; simp
      exact inner 0 (by omega)
  exact key 0 (by omega)
end Go.Proofs.Ytemkddgfneohhaa.Q
end

section
namespace Go.Proofs.Ytemkddgfneohhaa.Q
end Go.Proofs.Ytemkddgfneohhaa.Q
end

section
namespace Go.Proofs.Ytemkddgfneohhaa.Q
open Go.RowKit Go.Proofs.YtemkddgfneohhaaW.PrintWords Go.Proofs.Ytemkddgfneohhaa.F
set_option linter.unusedVariables false
/-- Element i's label is no less than those below it allow. -/
def upOk (p f : List Int) (by_ : Int) (i : Nat) : Bool := allFrom (fun j => !(L p i).testBit j || !decide (f.getD i 0 < wrap64 (f.getD j 0 + by_))) i 0
def labA (p f : List Int) (m by_ : Int) : Bool := decide (f.length = p.length) && (allFrom (fun i => inR 0 m (f.getD i 0)) f.length 0 && allFrom (upOk p f by_) f.length 0)
theorem laAre_ev {p : List Int} (hp : PO p) (f : List Int) (m by_ : Int) : Ev (fun k => spec_laAre.f k p f m by_) (labA p f m by_) := by
  have hs := hp.small
  unfold spec_laAre.f labA
  refine Ev.ite (fun hl => ?_) (fun hl => ?_)
  · have hl' : f.length = p.length := by omega
    refine Ev.bind (l1All_ev f 0 m (by omega)) ?_
    rw [decide_eq_true hl', Bool.true_and]
    refine Ev.step (by intro k; simp only [spec_laAre.j0]; rfl) ?_
    cases allFrom (fun i => inR 0 m (f.getD i 0)) f.length 0 with
    | false => exact Ev.yes rfl (Ev.ret rfl)
    | true =>
    refine Ev.no (by simp) ?_
    rw [Bool.true_and]
    have key : ∀ i, i ≤ f.length → Ev (fun k => spec_laAre.l0 k f by_ (f.length : Int) (i : Int) p) (allFrom (upOk p f by_) f.length i) := by
      refine downTo _ ?_ ?_
      · refine Ev.step (by intro k; simp only [spec_laAre.l0]; rfl) (Ev.no (by omega) (Ev.ret (allFrom_end _ _).symm))
      · intro i hi ih
        refine Ev.step (by intro k; simp only [spec_laAre.l0]; rfl) (Ev.yes (by omega) ?_)
        rw [allFrom_step _ hi]
        unfold upOk
        have inner : ∀ j, j ≤ i → Ev (fun k => spec_laAre.l1 k f by_ (i : Int) (j : Int) (f.length : Int) (i : Int) p)
            (allFrom (fun j => !(L p i).testBit j || !decide (f.getD i 0 < wrap64 (f.getD j 0 + by_))) i j && allFrom (upOk p f by_) f.length (i + 1)) := by
          refine downTo _ ?_ ?_
          · refine Ev.step (by intro k; simp only [spec_laAre.l1]; rfl) (Ev.no (by omega) ?_)
            rw [wid1 hi (by omega), allFrom_end, Bool.true_and]
            exact ih
          · intro j hj ihj
            refine Ev.step (by intro k; simp only [spec_laAre.l1]; rfl) (Ev.yes (by omega) (Ev.yes (by omega) (Ev.yes (by omega) ?_)))
            rw [allFrom_step _ hj, wid1 hj (by omega), rdN, rdN, rdN, hp.val i (by omega)]
            refine Ev.call (poIn_eq (by omega)) ?_
            cases (L p i).testBit j with
            | false => exact Ev.no (by simp) (evc ihj (by simp))
            | true =>
              refine Ev.yes rfl (Ev.yes (by omega) (Ev.yes (by omega) (Ev.yes (by omega) ?_)))
              refine Ev.ite (fun h => Ev.ret ?_) (fun h => evc ihj ?_)
              · rw [decide_eq_true h]; simp
              · rw [decide_eq_false h]; simp
        exact inner 0 (by omega)
    exact key 0 (by omega)
  · rw [decide_eq_false (show ¬ f.length = p.length by omega)]
    refine Ev.step (by intro k; simp only [spec_laAre.j0]; rfl) (Ev.yes (show true = true from rfl) (Ev.ret rfl))
theorem areLabels_ev {p : List Int} (hp : PO p) (f : List Int) (m by_ : Int) : Ev (fun k => impl_Poset_areLabels.f k p f m by_) (labA p f m by_) := by
  have hs := hp.small
  unfold impl_Poset_areLabels.f labA
  refine Ev.call (show impl_Poset_n.f p = some (p.length : Int) from rfl) ?_
  refine Ev.ite (fun hl => ?_) (fun hl => Ev.ret (by rw [decide_eq_false (show ¬ f.length = p.length by omega)]; rfl))
  have hl' : f.length = p.length := by omega
  rw [decide_eq_true hl', Bool.true_and]
  have both : (allFrom (fun i => inR 0 m (f.getD i 0)) f.length 0 && allFrom (upOk p f by_) f.length 0) = allFrom (fun i => inR 0 m (f.getD i 0) && upOk p f by_ i) f.length 0 := by
    rw [Bool.eq_iff_iff, Bool.and_eq_true, allFrom_iff, allFrom_iff, allFrom_iff]
    constructor
    · rintro ⟨a, b⟩ j h1 h2
      rw [a j h1 h2, b j h1 h2]; rfl
    · intro h
      refine ⟨fun j h1 h2 => ?_, fun j h1 h2 => ?_⟩ <;> have := h j h1 h2 <;> rw [Bool.and_eq_true] at this
      · exact this.1
      · exact this.2
  rw [both]
  have key : ∀ i, i ≤ f.length → Ev (fun k => impl_Poset_areLabels.l0 k f m by_ f (f.length : Int) (i : Int) p) (allFrom (fun i => inR 0 m (f.getD i 0) && upOk p f by_ i) f.length i) := by
    refine downTo _ ?_ ?_
    · refine Ev.step (by intro k; simp only [impl_Poset_areLabels.l0]; rfl) (Ev.no (by omega) (Ev.ret (allFrom_end _ _).symm))
    · intro i hi ih
      have hm := hp.lt i (by omega)
      refine Ev.step (by intro k; simp only [impl_Poset_areLabels.l0]; rfl) (Ev.yes (by omega) (Ev.yes (by omega) (Ev.yes (by omega) ?_)))
      rw [allFrom_step _ hi, rdN, rdN, hp.val i (by omega)]
      refine Ev.call (within_eq _ _ _) ?_
      show Ev (fun k => if inR 0 m (f.getD i 0) = true then _ else _) (inR 0 m (f.getD i 0) && _ && _)
      cases inR 0 m (f.getD i 0) with
      | false => exact Ev.no (by simp) (Ev.ret rfl)
      | true =>
      refine Ev.yes rfl (Ev.yes (by omega) (Ev.bind (items_ev _ (lt_pow hm (by omega))) ?_))
      rw [Bool.true_and]
      have hup : upOk p f by_ i = (itemsN (L p i)).all (fun j => !decide (f.getD i 0 < wrap64 (f.getD j 0 + by_))) := (items_all hm (by omega) _).symm
      rw [hup]
      have inner : ∀ j, j ≤ (itemsN (L p i)).length → Ev (fun k => impl_Poset_areLabels.l1 k f m by_ (f.getD i 0) f (f.length : Int) (i : Int) (ints (itemsN (L p i))) ((ints (itemsN (L p i))).length : Int) (j : Int) p)
          (((itemsN (L p i)).drop j).all (fun j => !decide (f.getD i 0 < wrap64 (f.getD j 0 + by_))) && allFrom (fun i => inR 0 m (f.getD i 0) && upOk p f by_ i) f.length (i + 1)) := by
        rw [ints_len]
        refine downTo _ ?_ ?_
        · refine Ev.step (by intro k; simp only [impl_Poset_areLabels.l1]; rfl) (Ev.no (by omega) ?_)
          rw [wid1 hi (by omega), List.drop_length, List.all_nil, Bool.true_and]
          exact ih
        · intro j hj ihj
          have hlt := items_lt hm hj
          have hl := itemsN_len (L p i)
          refine Ev.step (by intro k; simp only [impl_Poset_areLabels.l1]; rfl) (Ev.yes (by omega) (Ev.yes (by omega) (Ev.yes (by rw [ints_len]; omega) ?_)))
          rw [rd_ints, all_drop_step _ _ 0 hj, wid1 hj (by omega), rdN]
          refine Ev.yes (by omega) (Ev.yes (by omega) ?_)
          refine Ev.ite (fun h => Ev.ret ?_) (fun h => evc ihj ?_)
          · rw [decide_eq_true h]; simp
          · rw [decide_eq_false h]; simp
      exact inner 0 (by omega)
  exact key 0 (by omega)
def isB (m : Int) : Bool := inR 0 12 m
theorem laBoundB (m : Int) : spec_laBound.f m = some (isB m) := by unfold spec_laBound.f; rw [l1In_eq]; rfl
theorem isBoundB (m : Int) : impl_isBound.f m = some (isB m) := by unfold impl_isBound.f; rw [within_eq]; rfl
end Go.Proofs.Ytemkddgfneohhaa.Q
end

section
namespace Go.Proofs.Ytemkddgfneohhaa.Q
open Go.RowKit Go.Proofs.YtemkddgfneohhaaW.PrintWords Go.Proofs.Ytemkddgfneohhaa.F
set_option linter.unusedVariables false
theorem labelled_ev (p f : List Int) (m : Int) : Ev (fun k => impl_labelled.f k p f m) (isPo p && (isB m && labA p f m 0)) := by
  unfold impl_labelled.f
  refine Ev.bind (IsPoset_ev p) ?_
  cases hp : isPo p with
  | false => exact Ev.no (by simp) (Ev.ret rfl)
  | true =>
  refine Ev.yes rfl (Ev.call (isBoundB m) ?_)
  cases isB m with
  | false => exact Ev.no (by simp) (Ev.ret rfl)
  | true => exact Ev.yes rfl (Ev.bind (areLabels_ev ((isPo_iff p).1 hp) f m 0) (Ev.ret (by simp)))
theorem labelled_small {p f : List Int} {m : Int} (h : (isPo p && (isB m && labA p f m 0)) = true) : f.length = p.length ∧ p.length ≤ 10 ∧ ∃ n : Nat, m = (n : Int) ∧ n ≤ 12 := by
  rw [Bool.and_eq_true, Bool.and_eq_true] at h
  obtain ⟨h1, h2, h3⟩ := h
  have hpo := (isPo_iff p).1 h1
  obtain ⟨h0, h12⟩ := inR_iff.1 h2
  unfold labA at h3
  rw [Bool.and_eq_true, decide_eq_true_eq] at h3
  exact ⟨h3.1, hpo.small, m.toNat, by omega, by omega⟩
end Go.Proofs.Ytemkddgfneohhaa.Q
end

section
namespace Go.Proofs.Ytemkddgfneohhaa.F
open Go.RowKit Go.Proofs.YtemkddgfneohhaaW.PrintWords Go.Proofs.YtemkddgfneohhaaW.PrintLast Go.Proofs.YtemkddgfneohhaaW.PrintMore
set_option linter.unusedVariables false
set_option linter.unusedSimpArgs false
def slices_Clone_int_int.f (l0 : List Int) : Option (List Int) := if l0.length < 17592186044416 then some l0 else none
theorem slices_Clone_int_int.info : (Try.prog.info? 3).map (fun i => (i.zero, i.size, i.bytes)) = some (some (.int .i64 0), 1, 8) := by kernel_rfl
theorem slices_Clone_int_int.nil_ (w : World) (a : Option Addr) (n c n' c' : Nat) : (binOp .eql 25 (.slice a n c) (.slice none n' c')).run Try.prog w = .ok (.bool a.isNone) w := Lib.run_eql_slice_nil w _ _ a n c n' c' Try.underlying25
set_option maxHeartbeats 8000000 in
set_option maxRecDepth 100000 in
theorem slices_Clone_int_int.calls (A0 : Option Addr) (c0 : Nat) (l0 : List Int) (r : List Int) (w : World) (hr0 : Kd.C (Kd.int .i64) w A0 l0.length l0) (hc0 : l0.length ≤ c0) (h : slices_Clone_int_int.f l0 = some r) :
    Calls Try.prog 79 #[.slice A0 l0.length c0] w fun e w' => ∃ v0_ : Value, e = .returned (v0_) ∧ Kd.R (Kd.int .i64) 3 w' w.heap.size (fun _ => True) v0_ r ∧ Below w.heap.size w w' := by
  unfold slices_Clone_int_int.f at h
  by_cases c2 : l0.length < 17592186044416
  · rw [if_pos c2] at h
    obtain rfl := Option.some.inj h
    clear h
    have LMc2 := Aside0.mk c2
    clear c2
    cases A0 with
    | none =>
      have h0 : l0.length = 0 := by
        rcases Nat.eq_zero_or_pos l0.length with h | h
        · exact h
        · obtain ⟨ad, e, _⟩ := hr0.2.2 h; cases e
      obtain rfl : l0 = [] := List.length_eq_zero_iff.1 h0
      clear h0 hr0 hc0 LMc2
      have q22 := slices_Clone_int_int.nil_
      go_enter Try.func79, Try.ntmps79
      go_wp2
      go_ret
      exact ⟨_, rfl, Kd.R_nil _ _ _ _ _, Below.refl _ _⟩
    | some ad =>
      have HR0 := Aside0.mk hr0
      have HC0 := Aside0.mk hc0
      clear hr0 hc0
      have HB := Aside0.mk (Below.refl w.heap.size w)
      have q22 := slices_Clone_int_int.nil_
      go_enter Try.func79, Try.ntmps79
      go_wp2_with (first | ((with_reducible refine gate_dst (N := 5) rfl ?_); refine Kd.R_lit (Kd.int .i64) _ 3 ?hg (N := 5) ?hd (xs := ([] : List Int)) (inner := []) (ok := fun _ => True) (okp := fun _ => True) ?hr ?hp (fun _ hk => hk) trivial (Below.refl _ _) (Nat.le_refl _) (by simp) ?_; (case hd => rfl); (case hg => rfl); (case hr => first | (go_simp; done) | (go_simp; rfl)); (case hp => exact (Reps.none _ _)); intro v663 w3 ho4 hb hg_ hnew_; clear hg_ hnew_; have n0_ := Aside0.mk (Kd.R_lower ho4 (below_size (by repeat (first | (with_reducible first | exact HB.out | apply below_alloc | apply pw_below_drewN | apply below_drew1) | exact HB.out)))); have n1_ := Aside0.mk (below_step (by repeat (first | (with_reducible first | exact HB.out | apply below_alloc | apply pw_below_drewN | apply below_drew1) | exact HB.out)) hb); clear HB; have HO664 := n0_; have HB := n1_; clear n0_ n1_; clear hb ho4) | ((with_reducible refine gate_builtin (b := .append) (xs := #[.tmp 5, .tmp 6]) rfl ?_); at_builtin; refine Kd.R_append_rows (Kd.int .i64) (w0 := w) w.heap.size rfl (.tmp 5) (.tmp 6) 25 3 (.int .i64 0) 8 rfl Try.underlying25 slices_Clone_int_int.info rfl (by decide) (by omega) v663 [] l0 _ _ _ (fun _ => True) (fun _ => False) rfl rfl ?aO ?aR (fun _ _ h => h) (fun _ h => h.elim) ?aF ?aB ?aS ?aL ?_; (case aR => repeat (first | exact (Kd.C_below HR0.out HB.out) | (with_reducible refine Kd.C_alloc ?_ _) | (with_reducible refine Kd.C_drewN ?_ _) | (with_reducible refine Kd.C_drew ?_))); (case aB => exact (by repeat (first | (with_reducible first | exact HB.out | apply below_alloc | apply pw_below_drewN | apply below_drew1) | exact HB.out))); (case aF => exact (fun _ _ => trivial)); (case aO => exact (by (with_reducible repeat (first | apply Kd.R_alloc | apply Kd.R_drewN | apply Kd.R_drew)); exact HO664.out)); (case aS => exact (below_size (by repeat (first | (with_reducible first | exact HB.out | apply below_alloc | apply pw_below_drewN | apply below_drew1) | exact HB.out)))); (case aL => have := LMc2.out; simp; omega); intro v666 w5 ho hb hg hat; rw [List.nil_append] at ho; have n0_ := Aside0.mk (hb); have n1_ := Aside0.mk (ho); clear HB; clear HO664; have HB := n0_; have HO667 := n1_; clear n0_ n1_; clear ho hb hg hat))
      go_ret
      exact ⟨_, by first | rfl | (simp; done) | (simp [*]; done), by (with_reducible repeat (first | apply Kd.R_alloc | apply Kd.R_drewN | apply Kd.R_drew)); exact HO667.out, by repeat (first | (with_reducible first | exact HB.out | apply below_alloc | apply pw_below_drewN | apply below_drew1) | exact HB.out)⟩
  · rw [if_neg c2] at h; cases h
end Go.Proofs.Ytemkddgfneohhaa.F
end

section
namespace Go.Proofs.Ytemkddgfneohhaa.F
open Go.RowKit Go.Proofs.YtemkddgfneohhaaW.PrintWords Go.Proofs.YtemkddgfneohhaaW.PrintLast Go.Proofs.YtemkddgfneohhaaW.PrintMore
set_option linter.unusedVariables false
set_option linter.unusedSimpArgs false
def impl_Poset_ideals.f (k : Nat) (l0_0 : List Int) : Option (List Int) := sets_ideals.f (fun x => lit_ideals.f k x l0_0) k l0_0
theorem ideals_mono_l {F F' : Int → Option Bool} (hF : ∀ x, LeO (F x) (F' x)) : ∀ k y0 y1 y2, LeO (sets_ideals.l0 F k y0 y1 y2) (sets_ideals.l0 F' k y0 y1 y2)
  | 0, _, _, _ => fun r h => by simp [sets_ideals.l0] at h
  | k + 1, y0, y1, y2 => by
    unfold sets_ideals.l0
    exact LeO.ite (LeO.bind (hF _) (fun _ => LeO.ite (LeO.ite (ideals_mono_l hF k _ _ _) (LeO.none _)) (ideals_mono_l hF k _ _ _))) (LeO.refl _)
theorem impl_Poset_ideals.mono : ∀ a0 k, LeO (impl_Poset_ideals.f k a0) (impl_Poset_ideals.f (k + 1) a0) := fun a0 k r h => by
  unfold impl_Poset_ideals.f at h ⊢
  refine sets_ideals.mono _ _ _ r ?_
  unfold sets_ideals.f at h ⊢
  exact LeO.bind (LeO.refl _) (fun _ => ideals_mono_l (fun x => lit_ideals.mono x a0 k) k _ _ _) r h
set_option maxHeartbeats 8000000 in
set_option maxRecDepth 100000 in
theorem impl_Poset_ideals.calls (k : Nat) (A0_0 : Option Addr) (c0_0 : Nat) (l0_0 : List Int) (r : List Int) (w : World) (hr0_0 : Kd.C (Kd.int .i64) w A0_0 l0_0.length l0_0) (hc0_0 : l0_0.length ≤ c0_0) (h : impl_Poset_ideals.f k l0_0 = some r) :
    Calls Try.prog 67 #[.agg #[.slice A0_0 l0_0.length c0_0]] w fun e w' => ∃ v0_ : Value, e = .returned (v0_) ∧ Kd.R (Kd.int .i64) 3 w' w.heap.size (fun _ => True) v0_ r ∧ Below w.heap.size w w' := by
  unfold impl_Poset_ideals.f at h
  have hmf : ∀ (fn : Fn) (first cap : Array Value) (w : World), (Instr.makeFunc fn first cap).run Try.prog w = .ok (.func fn first cap) w := fun _ _ _ _ => rfl
  have hu39 := Try.underlying30
  obtain ⟨W, hW⟩ : ∃ W, W = (w.alloc (.cells #[.slice A0_0 l0_0.length c0_0] 30 (0, 0))) := ⟨_, rfl⟩
  have hsz : W.heap.size = w.heap.size + 1 := by rw [hW]; simp
  have hcB : W.cell? ⟨w.heap.size, 0, none⟩ = some (.slice A0_0 l0_0.length c0_0) := by rw [hW, World.cell?_alloc_at _ _ _ _ rfl]; rfl
  have hbW : Below w.heap.size w W := by rw [hW]; exact (Below.refl _ _).alloc (Nat.le_refl _) _
  have hrW : Kd.C (Kd.int .i64) W A0_0 l0_0.length l0_0 := Kd.C_below hr0_0 hbW
  have HF : Aside0 (∀ (x0_ : Int) (r_ : Bool) (W' : World), lit_ideals.f k x0_ l0_0 = some r_ → Below W.heap.size W W' → Calls Try.prog 86 #[.int .i64 x0_, .pointer (some ⟨w.heap.size, 0, none⟩)] W' fun e w' => e = .returned (.bool r_) ∧ Below W'.heap.size W' w') :=
    ⟨fun x0_ r_ W' hF hb => lit_ideals.calls w.heap.size k x0_ A0_0 c0_0 l0_0 r_ W' ((hb.cell (p := ⟨w.heap.size, 0, none⟩) (by rw [hsz]; show w.heap.size < w.heap.size + 1; omega)).trans hcB) (Kd.C_below hrW hb) hc0_0 hF⟩
  have hcall := sets_ideals.calls (fun x => lit_ideals.f k x l0_0) w.heap.size k A0_0 c0_0 l0_0 r W HF hrW hc0_0 h
  have hcall' : Aside0 (Calls Try.prog 85 #[.agg #[.slice A0_0 l0_0.length c0_0], .func (.func 86) #[] #[.pointer (some ⟨w.heap.size, 0, none⟩)]] (w.alloc (.cells #[.slice A0_0 l0_0.length c0_0] 30 (0, 0))) fun e w' => ∃ v0_ : Value, e = .returned (v0_) ∧ (Kd.R (Kd.int .i64) 3 w' W.heap.size (fun _ => True) v0_ r ∧ Below W.heap.size W w')) := ⟨by rw [← hW]; exact hcall⟩
  have HW := Lib.hid hW
  clear hcall HF h hW hrW hr0_0 hc0_0
  have HsW := Aside0.mk hsz
  have HbW := Aside0.mk hbW
  clear hcB hsz hbW
  go_enter Try.func67, Try.ntmps67
  go_wp2_with fail
  refine hcall'.out.mono ?_
  rintro e w1 ⟨v, rfl, ho, hb⟩
  have Ho := Aside0.mk ho
  have Hb := Aside0.mk hb
  clear ho hb hmf hcall'
  go_wp2
  go_ret
  refine ⟨_, rfl, Kd.R_lower Ho.out (by have := HsW.out; omega), HbW.out.trans (Hb.out.mono (by have := HsW.out; omega))⟩
end Go.Proofs.Ytemkddgfneohhaa.F
end

section
namespace Go.Proofs.Ytemkddgfneohhaa.Q
open Go.RowKit Go.Proofs.YtemkddgfneohhaaW.PrintWords Go.Proofs.Ytemkddgfneohhaa.F
set_option linter.unusedVariables false
theorem sets_run {F : Int → Option Bool} {c : Nat → Bool} {N : Nat} (hN : N ≤ 1024) (hF : ∀ s : Nat, s < N → F (s : Int) = some (c s)) : ∀ (d i : Nat), i + d = N → ∀ (k : Nat) (acc : List Int), d < k → acc.length ≤ i → sets_ideals.l0 F k acc (N : Int) (i : Int) = some (acc ++ ints ((List.range' i d).filter c))
  | 0, i, h, 0, acc, hk, _ => by omega
  | 0, i, h, k + 1, acc, hk, _ => by
    simp only [sets_ideals.l0]
    rw [if_neg (by omega)]
    simp [ints]
  | d + 1, i, h, 0, acc, hk, _ => by omega
  | d + 1, i, h, k + 1, acc, hk, ha => by
    simp only [sets_ideals.l0]
    rw [if_pos (by omega), hF i (by omega), Option.bind_some, wid1 (show i < N by omega) (by omega), List.range'_succ, List.filter_cons]
    cases hc : c i with
    | true =>
      rw [if_pos rfl, if_pos (by omega), if_pos rfl, sets_run hN hF d (i + 1) (by omega) k (acc ++ [(i : Int)]) (by omega) (by rw [List.length_append, List.length_singleton]; omega)]
      rw [List.append_assoc]; rfl
    | false =>
      rw [if_neg (by simp), if_neg (by simp), sets_run hN hF d (i + 1) (by omega) k acc (by omega) (by omega)]
theorem two_pow_small {n : Nat} (h : n ≤ 10) : 2 ^ n ≤ 1024 := Nat.le_trans (Nat.pow_le_pow_right (by decide) h) (by decide)
theorem ideals_ev {p : List Int} (hp : PO p) : Ev (fun k => impl_Poset_ideals.f k p) (ints (idealsN p)) := by
  have hn := hp.small
  have h2 := two_pow_small hn
  have hpos := Nat.two_pow_pos p.length
  obtain ⟨K, hK⟩ := Ev.all (g := fun s k => lit_ideals.f k (s : Int) p) (r := fun s => idealB p s) (2 ^ p.length) (fun s hs => by
    unfold lit_ideals.f
    refine Ev.bind (close_ev hp hs) (Ev.ret ?_)
    rw [← closeN_eq hp hs, Bool.eq_iff_iff, beq_iff_eq, beq_iff_eq]
    omega)
  refine ⟨K + 2 ^ p.length + 1, fun k hk => ?_⟩
  show sets_ideals.f _ k p = _
  unfold sets_ideals.f
  rw [all_eq (by omega), Option.bind_some]
  have e : wrap64 (((allN p : Nat) : Int) + 1) = ((2 ^ p.length : Nat) : Int) := by
    rw [wid (by unfold allN; omega) (by unfold allN; omega)]
    unfold allN; omega
  rw [e]
  have := sets_run (F := fun x => lit_ideals.f k x p) (c := idealB p) h2 (fun s hs => hK k (by omega) s hs) (2 ^ p.length) 0 (by omega) k [] (by omega) (by simp)
  rw [show ((0 : Nat) : Int) = 0 from rfl] at this
  rw [this, List.nil_append, ← List.range_eq_range']
  rfl
end Go.Proofs.Ytemkddgfneohhaa.Q
end

section
namespace Go.Proofs.Ytemkddgfneohhaa.F
open Go.RowKit Go.Proofs.YtemkddgfneohhaaW.PrintWords Go.Proofs.YtemkddgfneohhaaW.PrintLast Go.Proofs.YtemkddgfneohhaaW.PrintMore
attribute [local go_sem] max2_int min2_int max_two min_two max_three min_three max_four min_four
set_option linter.unusedVariables false
set_option linter.unusedSimpArgs false
/-- The five captured variables: the poset, the list, the labels under way (their row's block g), the bound, the function itself. -/
structure LbA where
  gp : Nat
  go : Nat
  gw : Nat
  gm : Nat
  gf : Nat
  g : Nat
  cap : Nat
  A0 : Option Addr
  c0 : Nat
  p : List Int
  m : Int
  w : World
def LbA.caps (S : LbA) : Array Value := #[.pointer (some ⟨S.gp, 0, none⟩), .pointer (some ⟨S.go, 0, none⟩), .pointer (some ⟨S.gw, 0, none⟩), .pointer (some ⟨S.gm, 0, none⟩), .pointer (some ⟨S.gf, 0, none⟩)]
structure LbA.Ok (S : LbA) : Prop where
  C : Kd.C (Kd.int .i64) S.w S.A0 S.p.length S.p
  le : S.p.length ≤ S.c0
  bo : S.w.heap.size ≤ S.go
  bg : S.w.heap.size ≤ S.g
  po : S.gp ≠ S.go
  ow : S.gw ≠ S.go
  om : S.gm ≠ S.go
  of_ : S.gf ≠ S.go
  og : S.g ≠ S.go
  gp_ : S.gp ≠ S.g
  gw_ : S.gw ≠ S.g
  gm_ : S.gm ≠ S.g
  gf_ : S.gf ≠ S.g
def LbA.ok (S : LbA) (k : Nat) : Prop := k ≠ S.gp ∧ k ≠ S.go ∧ k ≠ S.gw ∧ k ≠ S.gm ∧ k ≠ S.gf ∧ k ≠ S.g
/-- What holds between the calls. -/
structure LbI (S : LbA) (vo : Value) (o : List (List Int)) (wl : List Int) (W : World) : Prop where
  below : Below S.w.heap.size S.w W
  cp : W.heap[S.gp]? = some (.cells #[.slice S.A0 S.p.length S.c0] 30 (0, 0))
  co : W.heap[S.go]? = some (.cells #[vo] 58 (0, 0))
  cw : W.heap[S.gw]? = some (.cells #[.slice (some ⟨S.g, 0, none⟩) S.p.length S.cap] 25 (0, 0))
  cm : W.heap[S.gm]? = some (.cells #[.int .i64 S.m] 3 (0, 0))
  cf : W.heap[S.gf]? = some (.cells #[.func (.func 78) #[] S.caps] 71 (0, 0))
  HO : Kd.S (Kd.slice 3 (Kd.int .i64)) 25 W S.w.heap.size S.ok vo o
  len : wl.length = S.p.length
  HW : Kd.R (Kd.int .i64) 3 W S.w.heap.size (fun _ => True) (.slice (some ⟨S.g, 0, none⟩) wl.length S.cap) wl
theorem LbI.step {S : LbA} {vo : Value} {o : List (List Int)} {wl : List Int} {W W1 : World} (h : LbI S vo o wl W) (hb : Below W.heap.size W W1) : LbI S vo o wl W1 :=
  ⟨below_step h.below hb, blk_below h.cp hb, blk_below h.co hb, blk_below h.cw hb, blk_below h.cm hb, blk_below h.cf hb, Kd.S_below h.HO hb, h.len, Kd.R_below h.HW hb⟩
theorem LbI.glt {S : LbA} {vo : Value} {o : List (List Int)} {wl : List Int} {W : World} (h : LbI S vo o wl W) : S.g < W.heap.size := Kd.R_lt h.HW S.g (by simp [Value.ownBlock])
theorem LbI.far {S : LbA} {vo : Value} {o : List (List Int)} {wl : List Int} {W : World} (h : LbI S vo o wl W) {k : Nat} (hk : W.heap.size ≤ k) : S.ok k :=
  ⟨by have := blk_lt h.cp; omega, by have := blk_lt h.co; omega, by have := blk_lt h.cw; omega, by have := blk_lt h.cm; omega, by have := blk_lt h.cf; omega, by have := h.glt; omega⟩
/-- A new list is stored. -/
theorem LbI.put_out {S : LbA} (hS : S.Ok) {vo v1 : Value} {o o' : List (List Int)} {wl : List Int} {W w1 : World} (h : LbI S vo o wl W)
    (hs : Kd.S (Kd.slice 3 (Kd.int .i64)) 25 w1 S.w.heap.size S.ok v1 o') (hb : Below S.w.heap.size S.w w1) (hg : W.grownBy w1 vo.ownBlock) : LbI S v1 o' wl (w1.setCell ⟨S.go, 0, none⟩ v1) := by
  have hvo : ∀ k, vo.ownBlock = some k → S.ok k := (Kd.S_R h.HO).1
  have hne : ∀ k, ¬ S.ok k → some k ≠ vo.ownBlock := fun k hk e => hk (hvo k e.symm)
  have g1 := blk_grown h.cp hg (hne _ (fun h => h.1 rfl))
  have g2 := blk_grown h.co hg (hne _ (fun h => h.2.1 rfl))
  have g3 := blk_grown h.cw hg (hne _ (fun h => h.2.2.1 rfl))
  have g4 := blk_grown h.cm hg (hne _ (fun h => h.2.2.2.1 rfl))
  have g5 := blk_grown h.cf hg (hne _ (fun h => h.2.2.2.2.1 rfl))
  have hs' := Kd.S_far hs (p := ⟨S.go, 0, none⟩) (fun k hk => hk.2.1) v1
  have hw0 := Kd.R_grown (Kd.R_tight rfl h.HW) hg (fun k hk => by
    have : k = S.g := by simpa [Value.ownBlock] using hk
    rw [this]; exact hne _ (fun h => h.2.2.2.2.2 rfl))
  have hw' := Kd.R_far hw0 (p := ⟨S.go, 0, none⟩) (fun k hk => by
    have : k = S.g := by simpa [Value.ownBlock] using hk
    rw [this]; exact hS.og) v1
  exact ⟨below_set hb hS.bo, (Below.heap_setCell _ _ _ _ hS.po).trans g1, one_setCell g2, (Below.heap_setCell _ _ _ _ hS.ow).trans g3, (Below.heap_setCell _ _ _ _ hS.om).trans g4, (Below.heap_setCell _ _ _ _ hS.of_).trans g5, hs', h.len, Kd.R_mono hw' (fun _ _ => trivial)⟩
theorem LbI.go_kept {S : LbA} {vo : Value} {o : List (List Int)} {wl : List Int} {W w1 : World} (h : LbI S vo o wl W) (hg : W.grownBy w1 vo.ownBlock) : w1.heap[S.go]? = some (.cells #[vo] 58 (0, 0)) :=
  blk_grown h.co hg (fun e => ((Kd.S_R h.HO).1 _ e.symm).2.1 rfl)
theorem lb_new {S : LbA} {vo v2 : Value} {o : List (List Int)} {wl l2 : List Int} {W W2 : World} (h : LbI S vo o wl W) (hr : Kd.R (Kd.int .i64) 3 W2 W.heap.size (fun _ => True) v2 l2) :
    ∀ k, some k = v2.ownBlock → S.ok k ∧ some k ≠ vo.ownBlock := fun k hk => by
  have hb := Kd.R_base hr k hk.symm
  refine ⟨h.far hb, fun e => ?_⟩
  have := Kd.S_lt h.HO k e.symm; omega
theorem lb_old {S : LbA} {vo v2 : Value} {o : List (List Int)} {wl l2 : List Int} {W W2 : World} (h : LbI S vo o wl W) (hb : Below W.heap.size W W2) (hr : Kd.R (Kd.int .i64) 3 W2 W.heap.size (fun _ => True) v2 l2) :
    Kd.S (Kd.slice 3 (Kd.int .i64)) 25 W2 S.w.heap.size (fun k => S.ok k ∧ ¬ some k = v2.ownBlock) vo o := by
  refine Kd.S_below (Kd.S_mono (Kd.S_bound h.HO) (fun k hk => ⟨hk.1, fun e => ?_⟩)) hb
  have h1 := Kd.R_base hr k e.symm
  have h2 := hk.2.2.1
  omega
/-- A label is stored. -/
theorem LbI.put_f {S : LbA} (hS : S.Ok) {vo : Value} {o : List (List Int)} {wl : List Int} {W : World} (h : LbI S vo o wl W) (i : Nat) (x : Int) : LbI S vo o (wl.set i x) (W.setCell ⟨S.g, i, none⟩ (.int .i64 x)) := by
  have hp := (Kd.R_put h.HW (i : Int) x).1
  rw [Int.toNat_natCast] at hp
  exact ⟨below_set h.below hS.bg, (Below.heap_setCell _ _ _ _ hS.gp_).trans h.cp, (Below.heap_setCell _ _ _ _ (Ne.symm hS.og)).trans h.co, (Below.heap_setCell _ _ _ _ hS.gw_).trans h.cw, (Below.heap_setCell _ _ _ _ hS.gm_).trans h.cm, (Below.heap_setCell _ _ _ _ hS.gf_).trans h.cf, Kd.S_far h.HO (p := ⟨S.g, i, none⟩) (fun k hk => hk.2.2.2.2.2) _, by rw [List.length_set]; exact h.len, by rw [List.length_set]; exact hp⟩
/-! What it lists, and what it leaves in the labels under way. -/
def lbRow (g : List Int → Option (List (List Int) × List Int)) (m : Int) (i : Nat) : Nat → Int → List Int → Option (List (List Int) × List Int)
  | 0, _, _ => none
  | e + 1, k, f => if k ≤ m then (g (f.set i k)).bind fun r => (lbRow g m i e (wrap64 (k + 1)) r.2).bind fun r' => some (r.1 ++ r'.1, r'.2) else some ([], f)
def lbLeast (f : List Int) : Int → List Int → Option Int
  | x, [] => some x
  | x, j :: l => if 0 ≤ j ∧ j < (f.length : Int) then lbLeast f (mx x (rd f j)) l else none
def lbPut (F : Nat) (p : List Int) (m : Int) : Nat → Nat → List Int → Option (List (List Int) × List Int)
  | 0, _, _ => none
  | d + 1, i, f => if i = p.length then (if p.length ≤ 1000 then some ([f], f) else none) else if i < p.length ∧ p.length ≤ 1000 then (impl_items.f F (rd p (i : Int))).bind fun l => if l.length ≤ 1000 then (lbLeast f 0 l).bind fun x => lbRow (lbPut F p m d (i + 1)) m i F x f else none else none
set_option maxHeartbeats 8000000 in
set_option maxRecDepth 100000 in
theorem lb_all {S : LbA} (hS : S.Ok) {vo : Value} {o : List (List Int)} {wl : List Int} {W : World} (h : LbI S vo o wl W) (hlen : S.p.length ≤ 1000) (hol : (o.length + 1) * 24 ≤ 140737488355328) :
    Calls Try.prog 78 #[.int .i64 (S.p.length : Int), .pointer (some ⟨S.gp, 0, none⟩), .pointer (some ⟨S.go, 0, none⟩), .pointer (some ⟨S.gw, 0, none⟩), .pointer (some ⟨S.gm, 0, none⟩), .pointer (some ⟨S.gf, 0, none⟩)] W fun e W' => e = .returned (.tuple #[]) ∧ ∃ vo', LbI S vo' (o ++ [wl]) wl W' := by
  have hu28 := Try.underlying30
  have hcp : W.cell? ⟨S.gp, 0, none⟩ = some (.slice S.A0 S.p.length S.c0) := (blk_cell h.cp 0).trans rfl
  have HI := Aside0.mk h
  have HL := Aside0.mk hlen
  have HOL := Aside0.mk hol
  clear h hlen hol
  go_enter Try.func78, Try.ntmps78
  go_wp2_with (go_at_call 70; (with_reducible refine (impl_Poset_n.calls S.A0 S.c0 S.p (S.p.length : Int) _ (Kd.C_below hS.C HI.out.below) hS.le rfl).mono ?_); rintro e W1 ⟨rfl, hb1⟩; have HI1 := Aside0.mk (HI.out.step hb1); clear hb1)
  have HI2 := Aside0.mk (HI1.out.step (below_drew (Below.refl W1.heap.size W1)))
  refine start_ (n := 6) (S := fun w' => w'.cell? ⟨S.go, 0, none⟩ = some vo ∧ w'.cell? ⟨S.gw, 0, none⟩ = some (.slice (some ⟨S.g, 0, none⟩) S.p.length S.cap)) (ds := [5]) #[false, false, false, false, false, false] (by kernel_rfl) rfl rfl ⟨(blk_cell HI2.out.co 0).trans rfl, (blk_cell HI2.out.cw 0).trans rfl⟩ (fun hHeld => ?_)
  generalize W1.drew = W2 at HI2 hHeld ⊢
  refine take_ (i := 0) (N := some 15) (v := ?_) (a' := ?_) #[true, false, false, false, false, false] rfl rfl (by kernel_rfl) (fun _ _ _ h => h) (Or.inl ⟨by rfl, ?_⟩) hHeld ?_ ?_
  rotate_left
  · rintro w' ⟨s0, s1⟩
    go_simp
    with_reducible rfl
  rotate_left
  · simp only [Act.put, List.setIfInBounds_toArray, List.set_cons_zero, List.set_cons_succ, i64_w, i32_w]
    rfl
  refine take_ (i := 1) (N := some 16) (v := ?_) (a' := ?_) #[true, true, false, false, false, false] rfl rfl (by kernel_rfl) (fun _ _ _ h => h) (Or.inl ⟨by rfl, ?_⟩) hHeld ?_ ?_
  rotate_left
  · rintro w' ⟨s0, s1⟩
    go_simp
    with_reducible rfl
  rotate_left
  · simp only [Act.put, List.setIfInBounds_toArray, List.set_cons_zero, List.set_cons_succ, i64_w, i32_w]
    rfl
  refine one_ (i := 2) (N := some 17) #[true, true, true, false, false, false] rfl rfl (by kernel_rfl) (by decide) (fun K hK => ?_)
  refine goes_ Try.func79 (by kernel_rfl) rfl #[.slice (some ⟨S.g, 0, none⟩) S.p.length S.cap] (by rfl) rfl rfl (by (try simp only [List.map_toArray, List.map_cons, List.map_nil]); first | done | rfl | (simp only [List.length_drop, List.length_take]; rfl)) ?_
  have hlw := HI2.out.len
  have hrw := Kd.R_reads' HI2.out.HW
  have hcl := slices_Clone_int_int.calls (some ⟨S.g, 0, none⟩) S.cap wl wl W2 hrw.2.2 hrw.2.1 (by unfold slices_Clone_int_int.f; rw [if_pos (by have := HL.out; omega)])
  rw [hlw] at hcl
  with_reducible refine hcl.mono ?_
  rintro e W3 ⟨v3, rfl, hr3, hb3⟩
  refine ⟨_, rfl, ?_⟩
  obtain ⟨A3, c3, e3⟩ := Kd.R_slice hr3
  rw [hlw] at e3
  subst e3
  have HR3 := Aside0.mk hr3
  have HB3 := Aside0.mk hb3
  have HI3 := Aside0.mk (HI2.out.step hb3)
  clear hr3 hb3 hrw hcl
  refine hK.out _ _ ⟨(blk_cell HI3.out.co 0).trans rfl, (blk_cell HI3.out.cw 0).trans rfl⟩ (fun hHeld => ?_)
  refine norm_ (a' := ?_) ?_ ?_
  rotate_left
  · show Act.put _ (some 17) _ = _
    simp only [Act.put, List.setIfInBounds_toArray, List.set_cons_zero, List.set_cons_succ, i64_w, i32_w]
    rfl
  refine one_ (i := 3) (N := some 18) #[true, true, true, true, false, false] rfl rfl (by kernel_rfl) (by decide) (fun K hK => ?_)
  refine value_ (w1 := ?_) (v := ?_) (by rfl) rfl ?_ ?_
  rotate_left 2
  · go_simp
    constructor
    · rfl
    · rfl
  refine hK.out _ _ ⟨(blk_cell (blk_alloc HI3.out.co _) 0).trans rfl, (blk_cell (blk_alloc HI3.out.cw _) 0).trans rfl⟩ (fun hHeld => ?_)
  refine norm_ (a' := ?_) ?_ ?_
  rotate_left
  · show Act.put _ (some 18) _ = _
    simp only [Act.put, List.setIfInBounds_toArray, List.set_cons_zero, List.set_cons_succ, i64_w, i32_w]
    rfl
  refine one_ (i := 4) (N := some 19) #[true, true, true, true, true, false] rfl rfl (by kernel_rfl) (by decide) (fun K hK => ?_)
  refine Kd.S_append_step (Kd.slice 3 (Kd.int .i64)) (w0 := S.w) (W := W3) S.w.heap.size (by rfl) (.tmp 15) (.tmp 18) 58 25 (.slice none 0 0) 24 rfl Try.underlying58 info25 rfl (by decide) (by omega) vo o wl [.slice A3 S.p.length c3] S.ok (fun k => some k = (Value.slice A3 S.p.length c3).ownBlock) rfl rfl ?aP ?aN ?aF ?aO ?aB ?aS ?aL ?_
  (case aN => exact lb_new HI2.out HR3.out)
  (case aF => exact fun k hk => HI3.out.far hk)
  (case aO => exact lb_old HI2.out HB3.out HR3.out)
  (case aB => exact HI3.out.below)
  (case aS => exact HI3.out.below.size)
  (case aL => exact HOL.out)
  (case aP => exact ⟨_, rfl, Kd.R_tight rfl (Kd.R_lower HR3.out HI2.out.below.size)⟩)
  intro v4 W4 hs4 hb4 hg4 hat4
  obtain ⟨A4, n4, c4, rfl⟩ : ∃ A n c, v4 = .slice A n c := by obtain ⟨A, c, e⟩ := Kd.S_slice hs4; exact ⟨A, _, c, e⟩
  have HP := Aside0.mk (HI3.out.put_out hS hs4 hb4 hg4)
  have hgo4 := HI3.out.go_kept hg4
  have hgw4 : W4.heap[S.gw]? = some (.cells #[.slice (some ⟨S.g, 0, none⟩) S.p.length S.cap] 25 (0, 0)) := blk_grown HI3.out.cw hg4 (fun e => ((Kd.S_R HI3.out.HO).1 _ e.symm).2.2.1 rfl)
  have hco4 : W4.cell? ⟨S.go, 0, none⟩ = some vo := (blk_cell hgo4 0).trans rfl
  have hfo4 := blk_frozen hgo4 0
  refine hK.out _ _ ⟨hco4, (blk_cell hgw4 0).trans rfl⟩ (fun hHeld => ?_)
  clear hs4 hb4 hg4 hat4 hgo4 hgw4
  refine norm_ (a' := ?_) ?_ ?_
  rotate_left
  · show Act.put _ (some 19) _ = _
    simp only [Act.put, List.setIfInBounds_toArray, List.set_cons_zero, List.set_cons_succ, i64_w, i32_w]
    rfl
  refine last_ (i := 5) (N := none) #[true, true, true, true, true, true] rfl rfl (by kernel_rfl) (by decide) (fun K hK => ?_)
  go_simp
  refine hK.out _ _ ?_
  refine done_ (by kernel_rfl) ?_
  go_wp2
  exact bodyPost_ret (v := .tuple #[]) (by simp [results, Try.results78, go_sem]) rfl ⟨rfl, _, HP.out⟩
theorem lb_cell {S : LbA} {vo : Value} {o : List (List Int)} {wl : List Int} {W : World} (h : LbI S vo o wl W) (i : Nat) (hi : i < S.p.length) : W.cell? ⟨S.g, i, none⟩ = some (.int .i64 (rd wl (i : Int))) ∧ W.frozen? ⟨S.g, i, none⟩ = false := by
  have hl := h.len
  have h2 := Kd.R_cell (0 : Int) h.HW (i : Int) (by omega) (by omega)
  rw [Int.toNat_natCast] at h2
  exact ⟨h2.1, h2.2⟩
theorem lb_w64 (n : Nat) (h : n ≤ 1001) : wrap64 (n : Int) = (n : Int) := by unfold wrap64; omega
theorem lb_cons {l : List Int} {q : Nat} (hq : q < l.length) : l.drop q = rd l (q : Int) :: l.drop (q + 1) := by
  rw [List.drop_eq_getElem_cons hq]
  congr 1
  unfold rd
  rw [Int.toNat_natCast, List.getD_eq_getElem?_getD, List.getElem?_eq_getElem hq]; rfl
set_option maxHeartbeats 8000000 in
set_option maxRecDepth 100000 in
theorem lb_step {S : LbA} (hS : S.Ok) (F d i : Nat) (hi : i < S.p.length) (hn : S.p.length ≤ 1000) (l : List Int) (X : Int) (out : List (List Int)) (wl wl' : List Int) (hit : impl_items.f F (rd S.p (i : Int)) = some l) (hl : l.length ≤ 1000) (hX : lbLeast wl 0 l = some X) (hrow : lbRow (lbPut F S.p S.m d (i + 1)) S.m i F X wl = some (out, wl'))
    (ih : ∀ (wl wl' : List Int) (out : List (List Int)), lbPut F S.p S.m d (i + 1) wl = some (out, wl') → ∀ {vo : Value} {o : List (List Int)} {W : World}, LbI S vo o wl W → (o.length + out.length) * 24 ≤ 140737488355328 → Calls Try.prog 78 #[.int .i64 ((i : Int) + 1), .pointer (some ⟨S.gp, 0, none⟩), .pointer (some ⟨S.go, 0, none⟩), .pointer (some ⟨S.gw, 0, none⟩), .pointer (some ⟨S.gm, 0, none⟩), .pointer (some ⟨S.gf, 0, none⟩)] W fun e W' => e = .returned (.tuple #[]) ∧ ∃ vo', LbI S vo' (o ++ out) wl' W')
    {vo : Value} {o : List (List Int)} {W : World} (h : LbI S vo o wl W) (hol : (o.length + out.length) * 24 ≤ 140737488355328) : Calls Try.prog 78 #[.int .i64 (i : Int), .pointer (some ⟨S.gp, 0, none⟩), .pointer (some ⟨S.go, 0, none⟩), .pointer (some ⟨S.gw, 0, none⟩), .pointer (some ⟨S.gm, 0, none⟩), .pointer (some ⟨S.gf, 0, none⟩)] W fun e W' => e = .returned (.tuple #[]) ∧ ∃ vo', LbI S vo' (o ++ out) wl' W' := by
  have hu30 := Try.underlying30
  have hcp : W.cell? ⟨S.gp, 0, none⟩ = some (.slice S.A0 S.p.length S.c0) := (blk_cell h.cp 0).trans rfl
  have HI := Aside0.mk h
  have HOL := Aside0.mk hol
  have HIT := Aside0.mk hit
  have HL := Aside0.mk hl
  have HX := Aside0.mk hX
  have HROW := Aside0.mk hrow
  have HII := Aside0.mk hi
  have HN := Aside0.mk hn
  have IH := Aside0.mk @ih
  have b1 : ((i : Int) == (S.p.length : Int)) = false := beq_eq_false_iff_ne.mpr (by omega)
  have b2 : (i == S.p.length) = false := beq_eq_false_iff_ne.mpr (by omega)
  have b3 : (0 : Int) ≤ (i : Int) := by omega
  have b4 : (i : Int) < (S.p.length : Int) := by omega
  have b5 : decide ((i : Int) < (S.p.length : Int)) = true := decide_eq_true b4
  have b6 : decide (i < S.p.length) = true := decide_eq_true hi
  have b7 : (i < S.p.length) = True := eq_true hi
  obtain ⟨ad, eA, _⟩ := Kd.at_int hS.C (i : Int) b3 b4
  have HSC : Aside0 (Kd.C (Kd.int .i64) S.w (some ad) S.p.length S.p) := ⟨by rw [← eA]; exact hS.C⟩
  clear h hol hit hl hX hrow ih hi
  go_enter Try.func78, Try.ntmps78
  go_wp2_with (first
    | (go_at_call 70; (with_reducible refine (impl_Poset_n.calls (some ad) S.c0 S.p (S.p.length : Int) _ (Kd.C_below HSC.out HI.out.below) hS.le rfl).mono ?_); rintro e W1 ⟨rfl, hb1⟩; have HI1 := Aside0.mk (HI.out.step hb1); have hcp1 : W1.cell? ⟨S.gp, 0, none⟩ = some (.slice (some ad) S.p.length S.c0) := (blk_cell HI1.out.cp 0).trans (by rw [eA]; rfl); have hpi1 : W1.cell? (ad.add i) = some (.int .i64 (rd S.p (i : Int))) := (by obtain ⟨ad', e', hc'⟩ := Kd.at_int (Kd.C_below HSC.out HI1.out.below) (i : Int) b3 b4; cases e'; rw [Int.toNat_natCast] at hc'; exact hc'); clear hb1)
    | (go_at_call 71; (with_reducible refine (impl_items.calls F _ l _ HIT.out).mono ?_); rintro e W2 ⟨vl, rfl, hr2, hb2⟩; obtain ⟨Al, cl, rfl⟩ := Kd.R_slice hr2; have HI2 := Aside0.mk (HI1.out.step hb2); have HR2 := Aside0.mk hr2; clear hb2 hr2))
  clear hcp1 hpi1
  go_loopg [7, 27] (l.length + 1) (fun kq v7 v27 w' => ∃ (q : Nat) (x : Int), v7 = .int .i64 x ∧ v27 = .int .i64 (q : Int) ∧ Aside0 (kq + q = l.length + 1 ∧ q ≤ l.length) ∧ Aside0 (lbLeast wl x (l.drop q) = some X) ∧ Aside0 (w' = W2))
  case atStart => exact ⟨0, 0, rfl, rfl, ⟨rfl, Nat.zero_le _⟩, HX, ⟨rfl⟩⟩
  case round =>
    obtain ⟨q, x, rfl, rfl, HK, HLE, HW2⟩ := hrel
    obtain rfl := HW2.out
    cases gk with
    | zero => exact absurd HK.out (by omega)
    | succ k1 =>
      have hcw : wr.cell? ⟨S.gw, 0, none⟩ = some (.slice (some ⟨S.g, 0, none⟩) S.p.length S.cap) := (blk_cell HI2.out.cw 0).trans rfl
      by_cases hq : q < l.length
      · obtain ⟨gl, capl, ev, _⟩ := Kd.R_form HR2.out (by omega)
        injection ev with e1 e2 e3
        subst e1; subst e3
        clear e2
        have hc0 := Kd.R_cell (0 : Int) HR2.out (q : Int) (by omega) (by omega)
        rw [Int.toNat_natCast] at hc0
        have hcl : wr.cell? ⟨gl, q, none⟩ = some (.int .i64 (rd l (q : Int))) := hc0.1
        have hle := HLE.out
        rw [lb_cons hq] at hle
        unfold lbLeast at hle
        split at hle
        rotate_left
        · cases hle
        rename_i hj
        have hlen := HI2.out.len
        obtain ⟨jn, hjn⟩ : ∃ jn : Nat, rd l (q : Int) = (jn : Int) := ⟨(rd l (q : Int)).toNat, by omega⟩
        rw [hjn] at hle hcl hj
        have hcj := (lb_cell HI2.out jn (by omega)).1
        have HLE2 := Aside0.mk hle
        have c1 : (0 : Int) ≤ (q : Int) := by omega
        have c2 : (q : Int) < (l.length : Int) := by omega
        have c3 : decide ((q : Int) < (l.length : Int)) = true := decide_eq_true c2
        have c5 : decide (q < l.length) = true := decide_eq_true hq
        have c4 := eq_true hq
        have d1 : (0 : Int) ≤ (jn : Int) := by omega
        have d2 : (jn : Int) < (S.p.length : Int) := by omega
        have d3 : decide ((jn : Int) < (S.p.length : Int)) = true := decide_eq_true d2
        have d5 : decide (jn < S.p.length) = true := decide_eq_true (by omega)
        have d4 : (jn < S.p.length) = True := eq_true (by omega)
        have hwq : Aside0 (wrap64 ((q : Int) + 1) = ((q + 1 : Nat) : Int)) := ⟨lb_w64 (q + 1) (by have := HL.out; omega)⟩
        clear hc0 hle hj hjn hq HLE hlen
        go_wp2_with (fail)
        all_goals
          go_roundg k1
          case measure => omega
          case rel =>
            refine ⟨q + 1, _, rfl, by rw [hwq.out], ⟨by have := HK.out; omega⟩, ⟨?_⟩, ⟨rfl⟩⟩
            have h2 := HLE2.out
            unfold mx at h2
            split at h2
            all_goals first
              | exact h2
              | (exfalso; omega)
              | (have he : x = rd wl (jn : Int) := by omega
                 rw [he] at h2
                 exact h2)
      · have hql : q = l.length := by have := HK.out; omega
        have hle := HLE.out
        rw [hql, List.drop_length] at hle
        unfold lbLeast at hle
        obtain rfl := Option.some.inj hle
        have c3 : decide ((q : Int) < (l.length : Int)) = false := decide_eq_false (by omega)
        have c5 : decide (q < l.length) = false := decide_eq_false hq
        have c4 := eq_false hq
        clear hle hql hq HLE HK hcw
        go_wp2_with (fail)
        go_loopg [10] F (fun kr v10 w' => ∃ (kk : Int) (vo' : Value) (o' rest : List (List Int)) (f' : List Int), v10 = .int .i64 kk ∧ Aside0 (lbRow (lbPut F S.p S.m d (i + 1)) S.m i kr kk f' = some (rest, wl')) ∧ Aside0 (o' ++ rest = o ++ out) ∧ Aside0 (LbI S vo' o' f' w'))
        case atStart => exact ⟨x, vo, o, out, wl, rfl, HROW, ⟨rfl⟩, HI2⟩
        case round =>
          clear HI2 HR2
          obtain ⟨kk, vo', o', rest, f', rfl, HRO, HEQ, HI3⟩ := hrel
          cases gk with
          | zero => exact absurd HRO.out (by simp [lbRow])
          | succ k2 =>
            have hcm : wr.cell? ⟨S.gm, 0, none⟩ = some (.int .i64 S.m) := (blk_cell HI3.out.cm 0).trans rfl
            have hro := HRO.out
            unfold lbRow at hro
            by_cases hk : kk ≤ S.m
            · rw [if_pos hk] at hro
              obtain ⟨⟨o1, f1⟩, hA, hro⟩ := Option.bind_eq_some_iff.1 hro
              obtain ⟨⟨o2, f2⟩, hB, hro⟩ := Option.bind_eq_some_iff.1 hro
              obtain ⟨hE1, hE2⟩ : o1 ++ o2 = rest ∧ f2 = wl' := by simpa using hro
              subst hE2
              have HSZ : Aside0 ((o'.length + o1.length) * 24 ≤ 140737488355328) := ⟨by have h1 := congrArg List.length HEQ.out; have h2 := congrArg List.length hE1; have h3 := HOL.out; simp only [List.length_append] at h1 h2; omega⟩
              have HA := Aside0.mk hA
              have HB := Aside0.mk hB
              have HE := Aside0.mk hE1
              have hcw3 : wr.cell? ⟨S.gw, 0, none⟩ = some (.slice (some ⟨S.g, 0, none⟩) S.p.length S.cap) := (blk_cell HI3.out.cw 0).trans rfl
              have hci := (lb_cell HI3.out i HII.out).1
              have hfi := (lb_cell HI3.out i HII.out).2
              have HP := Aside0.mk (HI3.out.put_f hS i kk)
              have hcf4 : (wr.setCell ⟨S.g, i, none⟩ (.int .i64 kk)).cell? ⟨S.gf, 0, none⟩ = some (.func (.func 78) #[] S.caps) := (blk_cell HP.out.cf 0).trans rfl
              unfold LbA.caps at hcf4
              have hk1 : decide (kk ≤ S.m) = true := decide_eq_true hk
              have hwi : wrap64 ((i : Int) + 1) = (i : Int) + 1 := by unfold wrap64; have := HII.out; have := HN.out; omega
              clear hro hA hB hE1 HRO hk
              go_wp2_with (go_at_call 78; (with_reducible refine (IH.out _ _ _ HA.out HP.out HSZ.out).mono ?_); rintro e' W5 ⟨rfl, vo2, hI5⟩; have HI5 := Aside0.mk hI5; clear hI5)
              go_roundg k2
              case measure => omega
              case rel => exact ⟨wrap64 (kk + 1), vo2, o' ++ o1, o2, f1, rfl, HB, ⟨by rw [List.append_assoc, HE.out]; exact HEQ.out⟩, HI5⟩
            · rw [if_neg hk] at hro
              obtain ⟨hE1, hE2⟩ : [] = rest ∧ f' = wl' := by simpa using hro
              subst hE2
              have hk1 : decide (kk ≤ S.m) = false := decide_eq_false hk
              have HE : Aside0 (o' = o ++ out) := ⟨by have := HEQ.out; rwa [← hE1, List.append_nil] at this⟩
              clear hro hE1 HRO hk
              go_wp2_with (fail)
              exact bodyPost_end (v := .tuple #[]) (by simp [results, Try.results78, go_sem]) rfl ⟨rfl, vo', HE.out ▸ HI3.out⟩
theorem lb_put_calls {S : LbA} (hS : S.Ok) (F : Nat) : ∀ (d i : Nat) (wl wl' : List Int) (out : List (List Int)), lbPut F S.p S.m d i wl = some (out, wl') → ∀ {vo : Value} {o : List (List Int)} {W : World}, LbI S vo o wl W → (o.length + out.length) * 24 ≤ 140737488355328 →
    Calls Try.prog 78 #[.int .i64 (i : Int), .pointer (some ⟨S.gp, 0, none⟩), .pointer (some ⟨S.go, 0, none⟩), .pointer (some ⟨S.gw, 0, none⟩), .pointer (some ⟨S.gm, 0, none⟩), .pointer (some ⟨S.gf, 0, none⟩)] W fun e W' => e = .returned (.tuple #[]) ∧ ∃ vo', LbI S vo' (o ++ out) wl' W'
  | 0, _, _, _, _, h => by cases h
  | d + 1, i, wl, wl', out, h => by
    intro hI hol
    unfold lbPut at h
    by_cases hi : i = S.p.length
    · rw [if_pos hi] at h
      split at h
      rotate_left
      · cases h
      rename_i hlen
      obtain ⟨hE1, hE2⟩ : [wl] = out ∧ wl = wl' := by simpa using h
      subst hE1 hE2
      subst hi
      exact lb_all hS hI hlen (by simpa using hol)
    · rw [if_neg hi] at h
      split at h
      rotate_left
      · cases h
      rename_i hin
      obtain ⟨l, hit, h⟩ := Option.bind_eq_some_iff.1 h
      split at h
      rotate_left
      · cases h
      rename_i hl
      obtain ⟨X, hX, hrow⟩ := Option.bind_eq_some_iff.1 h
      refine lb_step hS F d i hin.1 hin.2 l X out wl wl' hit hl hX hrow ?_ hI hol
      intro wl wl' out hput _ _ _ hI hol
      have := lb_put_calls hS F d (i + 1) wl wl' out hput hI hol
      rwa [show ((i + 1 : Nat) : Int) = (i : Int) + 1 by omega] at this
theorem lb_empty {X : World} {base n e sz : Nat} (hn : base ≤ n) (hx : X.heap[n]? = some (.cells #[] e (0, 0))) : X.ownsRow base e sz (.slice (some ⟨n, 0, none⟩) 0 0) 0 [] :=
  ⟨by simp, .inr ⟨n, 0, #[], rfl, hn, hx, by omega, by omega, by simp, by simp⟩⟩
theorem lb_emptyR {α : Type} (d : Kd α) {X : World} {base n e : Nat} {ok : Nat → Prop} (hn : base ≤ n) (hx : X.heap[n]? = some (.cells #[] e (0, 0))) (hok : ok n) : d.R e X base ok (.slice (some ⟨n, 0, none⟩) 0 0) ([] : List α) :=
  ⟨fun k hk => by
    have : n = k := by simpa [Value.ownBlock] using hk
    exact this ▸ hok, [], lb_empty hn hx, Reps.none _ _⟩
theorem lb_made (n : Nat) : (madeCells #[Value.int .i64 0] n).toList = List.replicate n (Value.int .i64 0) := by
  apply List.ext_getElem
  · simp [size_madeCells]
  · intro i h1 h2
    simp [madeCells, Nat.mod_one]
theorem lb_zero {X : World} {base g n : Nat} (hg : base ≤ g) (hx : X.heap[g]? = some (.cells (madeCells #[.int .i64 0] n) 3 (0, 0))) (hn : n ≤ 1000) : Kd.R (Kd.int .i64) 3 X base (fun _ => True) (.slice (some ⟨g, 0, none⟩) (List.replicate n (0 : Int)).length n) (List.replicate n 0) := by
  have h : X.ownsRow base 3 1 (.slice (some ⟨g, 0, none⟩) (List.replicate n (0 : Int)).length n) (List.replicate n (0 : Int)).length (encs (Value.int .i64) (List.replicate n 0)) := by
    refine ⟨by simp [encs], .inr ⟨g, n, _, rfl, hg, hx, by simp, by show n ≤ maxLen; unfold maxLen; omega, by simp [size_madeCells], ?_⟩⟩
    rw [lb_made]
    simp [encs]
  exact Kd.R_of_own h (fun _ _ => trivial)
def impl_Poset_labels.f (k : Nat) (l0_0 : List Int) (a1 : Int) : Option (List (List Int)) :=
  if 1 ≤ l0_0.length ∧ l0_0.length ≤ 1000 then (lbPut k l0_0 a1 k 0 (List.replicate l0_0.length 0)).bind fun r => if r.1.length ≤ 100000 then some r.1 else none else none
theorem lbRow_mono {g g' : List Int → Option (List (List Int) × List Int)} (h : ∀ f, LeO (g f) (g' f)) (m : Int) (i : Nat) : ∀ e k f, LeO (lbRow g m i e k f) (lbRow g' m i (e + 1) k f)
  | 0, _, _ => fun r h => by cases h
  | e + 1, k, f => by
    unfold lbRow
    exact LeO.ite (LeO.bind (h _) (fun r => LeO.bind (lbRow_mono h m i e _ _) (fun _ => LeO.refl _))) (LeO.refl _)
theorem lbPut_mono (p : List Int) (m : Int) (k : Nat) : ∀ d i f, LeO (lbPut k p m d i f) (lbPut (k + 1) p m (d + 1) i f)
  | 0, _, _ => fun r h => by cases h
  | d + 1, i, f => by
    unfold lbPut
    exact LeO.ite (LeO.refl _) (LeO.ite (LeO.bind (impl_items.mono _ _) (fun l => LeO.ite (LeO.bind (LeO.refl _) (fun x => lbRow_mono (fun f => lbPut_mono p m k d _ f) m i k x f)) (LeO.refl _))) (LeO.refl _))
theorem impl_Poset_labels.mono : ∀ a0 a1 k, LeO (impl_Poset_labels.f k a0 a1) (impl_Poset_labels.f (k + 1) a0 a1) := fun a0 a1 k => by
  unfold impl_Poset_labels.f
  exact LeO.ite (LeO.bind (lbPut_mono _ _ _ _ _ _) (fun _ => LeO.refl _)) (LeO.refl _)
set_option maxHeartbeats 8000000 in
set_option maxRecDepth 100000 in
theorem impl_Poset_labels.calls (k : Nat) (A0_0 : Option Addr) (c0_0 : Nat) (l0_0 : List Int) (a1 : Int) (r : List (List Int)) (w : World) (hr0_0 : Kd.C (Kd.int .i64) w A0_0 l0_0.length l0_0) (hc0_0 : l0_0.length ≤ c0_0) (h : impl_Poset_labels.f k l0_0 a1 = some r) :
    Calls Try.prog 57 #[.agg #[.slice A0_0 l0_0.length c0_0], .int .i64 a1] w fun e w' => ∃ v0_ : Value, e = .returned (v0_) ∧ Kd.S (Kd.slice 3 (Kd.int .i64)) 25 w' w.heap.size (fun _ => True) v0_ r ∧ Below w.heap.size w w' := by
  have hu30 := Try.underlying30
  have hmf : ∀ (fn : Fn) (first cap : Array Value) (w : World), (Instr.makeFunc fn first cap).run Try.prog w = .ok (.func fn first cap) w := fun _ _ _ _ => rfl
  unfold impl_Poset_labels.f at h
  split at h
  rotate_left
  · cases h
  rename_i hin
  obtain ⟨⟨o, wl'⟩, hput, h⟩ := Option.bind_eq_some_iff.1 h
  split at h
  rotate_left
  · cases h
  rename_i hol
  obtain rfl := Option.some.inj h
  have HR := Aside0.mk hr0_0
  have HC := Aside0.mk hc0_0
  have HPUT := Aside0.mk hput
  have HOL := Aside0.mk hol
  have HIN := Aside0.mk hin
  have hms : ∀ W : World, (Instr.makeSlice 25 (.int .i64 (l0_0.length : Int)) (.int .i64 (l0_0.length : Int))).run Try.prog W = .ok (.slice (some ⟨W.heap.size, 0, none⟩) l0_0.length l0_0.length) (W.alloc (.cells (madeCells #[.int .i64 0] l0_0.length) 3 (0, 0))) := fun W => by
    obtain ⟨i0, hi, hzz⟩ := Option.map_eq_some_iff.1 info3
    simp only [Prod.mk.injEq] at hzz
    obtain ⟨hz0, hz1, hz2⟩ := hzz
    have hr := run_make (P := Try.prog) W 25 3 i0 (.int .i64 0) Try.underlying25 hi hz0 .i64 .i64 (l0_0.length : Int) (l0_0.length : Int) (by omega) (by omega) (by rw [hz2]; omega) (by omega)
    rw [hz1] at hr
    simp only [Int.toNat_natCast, Nat.mul_one] at hr
    exact hr
  clear h hr0_0 hc0_0 hput hol hin
  go_enter Try.func57, Try.ntmps57
  go_wp2_with (fail)
  obtain ⟨W0, hW0⟩ : ∃ W, W = ((w.alloc (.cells #[.slice A0_0 l0_0.length c0_0] 30 (0, 0))).alloc (.cells #[.int .i64 a1] 3 (0, 0))).drew := ⟨_, rfl⟩
  have HB0 : Aside0 (Below w.heap.size w W0) := ⟨by rw [hW0]; exact below_drew (below_alloc (below_alloc (Below.refl _ _) _) _)⟩
  have HP0 : Aside0 (W0.heap[w.heap.size]? = some (.cells #[.slice A0_0 l0_0.length c0_0] 30 (0, 0))) := ⟨by rw [hW0]; exact blk_drew (blk_alloc (blk_new w _) _)⟩
  have HM0 : Aside0 (W0.heap[w.heap.size + 1]? = some (.cells #[.int .i64 a1] 3 (0, 0))) := ⟨by
    rw [hW0]
    have := blk_new (w.alloc (.cells #[.slice A0_0 l0_0.length c0_0] 30 (0, 0))) (.cells #[.int .i64 a1] 3 (0, 0))
    rw [show (w.alloc (.cells #[.slice A0_0 l0_0.length c0_0] 30 (0, 0))).heap.size = w.heap.size + 1 by simp] at this
    exact blk_drew this⟩
  have hSof : ∀ w', Below W0.heap.size W0 w' → w'.cell? ⟨w.heap.size, 0, none⟩ = some (.slice A0_0 l0_0.length c0_0) := fun w' hB => (blk_cell (blk_below HP0.out hB) 0).trans rfl
  refine start_ (n := 8) (S := fun w' => w'.cell? ⟨w.heap.size, 0, none⟩ = some (.slice A0_0 l0_0.length c0_0)) (ds := []) #[false, false, false, false, false, false, false, false] (by kernel_rfl) rfl rfl (by rw [← hW0]; exact hSof _ (Below.refl _ _)) (fun hHeld => ?_)
  rw [← hW0] at hHeld ⊢
  clear hW0
  refine take_ (i := 1) (N := some 9) (v := ?_) (a' := ?_) #[false, true, false, false, false, false, false, false] rfl rfl (by kernel_rfl) (fun _ _ _ h => h) (Or.inl ⟨by rfl, ?_⟩) hHeld ?_ ?_
  rotate_left
  · intro w' s0
    go_simp
    with_reducible rfl
  rotate_left
  · simp only [Act.put, List.setIfInBounds_toArray, List.set_cons_zero, List.set_cons_succ, i64_w, i32_w]
    rfl
  refine join_ (σ := Nat × Nat × Nat × Nat) 1 #[true, true, true, true, true, true, true, false] (fun s => [(8, .slice (some ⟨s.1, 0, none⟩) 0 0), (10, .int .i64 (l0_0.length : Int)), (11, .slice (some ⟨s.2.1, 0, none⟩) l0_0.length l0_0.length), (5, .pointer (some ⟨s.2.2.1, 0, none⟩)), (6, .pointer (some ⟨s.2.2.2, 0, none⟩))]) (fun s w' => Below W0.heap.size W0 w' ∧ (W0.heap.size ≤ s.1 ∧ w'.heap[s.1]? = some (.cells #[] 25 (0, 0))) ∧ (W0.heap.size ≤ s.2.1 ∧ w'.heap[s.2.1]? = some (.cells (madeCells #[.int .i64 0] l0_0.length) 3 (0, 0))) ∧ (W0.heap.size ≤ s.2.2.1 ∧ w'.heap[s.2.2.1]? = some (.cells #[.slice (some ⟨s.1, 0, none⟩) 0 0] 58 (0, 0))) ∧ (W0.heap.size ≤ s.2.2.2 ∧ w'.heap[s.2.2.2]? = some (.cells #[.slice none 0 0] 25 (0, 0)))) ?_ (fun J21111 => ?_)
  · rintro ⟨b0, g, go, gw⟩ w' ⟨hB, ⟨l0, h0⟩, ⟨lg, hg⟩, ⟨l4, h4⟩, ⟨l5, h5⟩⟩
    refine norm_ (a' := ?_) ?_ ?_
    rotate_left
    · show putAll _ _ = _
      simp only [putAll, Act.put, List.setIfInBounds_toArray, List.set_cons_zero, List.set_cons_succ]
      rfl
    refine wpAnyLast_ready (rs := [7]) (by kernel_rfl) (by simp) ?_
    refine AllReadyL.cons rfl (by decide) (fun K hK => ?_) ?_
    · have hcg : w'.cell? ⟨gw, 0, none⟩ = some (.slice none 0 0) := (blk_cell h5 0).trans rfl
      have hfg := blk_frozen h5 0
      go_simp
      refine hK.out _ _ (hSof _ (hB.setCell l5 _)) (fun _ => ?_)
      refine done_ (by kernel_rfl) ?_
      dsimp only at l0 h0 lg hg l4 h4 l5 h5
      have hn05 : b0 ≠ gw := fun e_ => by rw [e_, h5] at h0; simp at h0
      have n45 := blk_ne h4 h5 (by decide)
      have ng5 := blk_ne hg h5 (by decide)
      have hpw := blk_below HP0.out hB
      have hmw := blk_below HM0.out hB
      have np5 := blk_ne hpw h5 (by decide)
      have nm5 := blk_ne hmw h5 (by decide)
      have np4 := blk_ne hpw h4 (by decide)
      have nm4 := blk_ne hmw h4 (by decide)
      have npg := blk_ne hpw hg (by decide)
      have ng4 := blk_ne hg h4 (by decide)
      have n04 := blk_ne h0 h4 (by decide)
      have n0p := blk_ne h0 hpw (by decide)
      have n0m := blk_ne h0 hmw (by decide)
      have n0g := blk_ne h0 hg (by decide)
      have nmg : w.heap.size + 1 ≠ g := by have := blk_lt HM0.out; omega
      have hsz0 := HB0.out.size
      have K0 := Aside0.mk (blk_far (p := ⟨gw, 0, none⟩) h0 hn05 (.slice (some ⟨g, 0, none⟩) l0_0.length l0_0.length))
      have KG := Aside0.mk (blk_far (p := ⟨gw, 0, none⟩) hg ng5 (.slice (some ⟨g, 0, none⟩) l0_0.length l0_0.length))
      have K4 := Aside0.mk (blk_far (p := ⟨gw, 0, none⟩) h4 n45 (.slice (some ⟨g, 0, none⟩) l0_0.length l0_0.length))
      have K5 : Aside0 ((w'.setCell ⟨gw, 0, none⟩ (.slice (some ⟨g, 0, none⟩) l0_0.length l0_0.length)).heap[gw]? = some (.cells #[.slice (some ⟨g, 0, none⟩) l0_0.length l0_0.length] 25 (0, 0))) := ⟨blk_put h5 0 _ rfl⟩
      have KP := Aside0.mk (blk_far (p := ⟨gw, 0, none⟩) hpw np5 (.slice (some ⟨g, 0, none⟩) l0_0.length l0_0.length))
      have KM := Aside0.mk (blk_far (p := ⟨gw, 0, none⟩) hmw nm5 (.slice (some ⟨g, 0, none⟩) l0_0.length l0_0.length))
      have KB : Aside0 (Below w.heap.size w (w'.setCell ⟨gw, 0, none⟩ (.slice (some ⟨g, 0, none⟩) l0_0.length l0_0.length))) := ⟨(HB0.out.trans (hB.mono HB0.out.size)).setCell (by show w.heap.size ≤ gw; omega) _⟩
      clear hcg hfg
      obtain ⟨W1, hW1⟩ : ∃ x, x = w'.setCell ⟨gw, 0, none⟩ (.slice (some ⟨g, 0, none⟩) l0_0.length l0_0.length) := ⟨_, rfl⟩
      rw [← hW1] at K0 KG K4 K5 KP KM KB ⊢
      clear hW1
      have q0 := blk_lt K0.out
      have qg := blk_lt KG.out
      have q4 := blk_lt K4.out
      have q5 := blk_lt K5.out
      have qp := blk_lt KP.out
      have qm := blk_lt KM.out
      obtain ⟨S, hS0⟩ : ∃ S : LbA, S = ⟨w.heap.size, go, gw, w.heap.size + 1, W1.heap.size, g, l0_0.length, A0_0, c0_0, l0_0, a1, w⟩ := ⟨_, rfl⟩
      have hSo : S.Ok := by
        subst hS0
        exact ⟨HR.out, HC.out, by show w.heap.size ≤ go; omega, by show w.heap.size ≤ g; omega, np4, fun e_ => n45 e_.symm, nm4, by show W1.heap.size ≠ go; omega, ng4, npg, fun e_ => ng5 e_.symm, nmg, by show W1.heap.size ≠ g; omega⟩
      have hI : LbI S (.slice (some ⟨b0, 0, none⟩) 0 0) [] (List.replicate l0_0.length 0) (W1.alloc (.cells #[.func (.func 78) #[] S.caps] 71 (0, 0))) := by
        subst hS0
        refine ⟨below_alloc KB.out _, blk_alloc KP.out _, blk_alloc K4.out _, blk_alloc K5.out _, blk_alloc KM.out _, blk_new W1 _, ⟨fun _ => 0, lb_emptyR _ (by show w.heap.size ≤ b0; omega) (blk_alloc K0.out _) ⟨n0p, n04, hn05, n0m, by show b0 ≠ W1.heap.size; omega, n0g⟩⟩, by simp, lb_zero (by show w.heap.size ≤ g; omega) (blk_alloc KG.out _) HIN.out.2⟩
      have hcaps : S.caps = #[.pointer (some ⟨w.heap.size, 0, none⟩), .pointer (some ⟨go, 0, none⟩), .pointer (some ⟨gw, 0, none⟩), .pointer (some ⟨w.heap.size + 1, 0, none⟩), .pointer (some ⟨W1.heap.size, 0, none⟩)] := by subst hS0; rfl
      have hcall := lb_put_calls hSo k k 0 (List.replicate l0_0.length 0) wl' o (by subst hS0; exact HPUT.out) hI (by have := HOL.out; simp; omega)
      rw [hcaps] at hcall
      have hfin : ∀ vo' W5, LbI S vo' ([] ++ o) wl' W5 → W5.heap[go]? = some (.cells #[vo'] 58 (0, 0)) ∧ Kd.S (Kd.slice 3 (Kd.int .i64)) 25 W5 w.heap.size (fun _ => True) vo' o ∧ Below w.heap.size w W5 := fun vo' W5 h => by
        subst hS0
        exact ⟨h.co, Kd.S_mono h.HO (fun _ _ => trivial), h.below⟩
      have HCALL : Aside0 (Calls Try.prog 78 #[.int .i64 0, .pointer (some ⟨w.heap.size, 0, none⟩), .pointer (some ⟨go, 0, none⟩), .pointer (some ⟨gw, 0, none⟩), .pointer (some ⟨w.heap.size + 1, 0, none⟩), .pointer (some ⟨W1.heap.size, 0, none⟩)] (W1.alloc (.cells #[.func (.func 78) #[] #[.pointer (some ⟨w.heap.size, 0, none⟩), .pointer (some ⟨go, 0, none⟩), .pointer (some ⟨gw, 0, none⟩), .pointer (some ⟨w.heap.size + 1, 0, none⟩), .pointer (some ⟨W1.heap.size, 0, none⟩)]] 71 (0, 0))) fun e W' => e = .returned (.tuple #[]) ∧ ∃ vo', W'.heap[go]? = some (.cells #[vo'] 58 (0, 0)) ∧ Kd.S (Kd.slice 3 (Kd.int .i64)) 25 W' w.heap.size (fun _ => True) vo' o ∧ Below w.heap.size w W') := ⟨by
        subst hS0
        refine Calls.mono hcall ?_
        rintro e W5 ⟨rfl, vo', h⟩
        exact ⟨rfl, vo', hfin vo' W5 h⟩⟩
      clear hcall hI hSo hfin hcaps hS0 h0 hg h4 h5 hB hpw hmw
      go_wp2_with (fail)
      refine HCALL.out.mono ?_
      rintro e W5 ⟨rfl, vo', k5, ks, kb⟩
      obtain ⟨A5, c5, e5⟩ := Kd.R_slice (Kd.S_R ks)
      subst e5
      have hco5 : W5.cell? ⟨go, 0, none⟩ = some (.slice A5 o.length c5) := (blk_cell k5 0).trans rfl
      have KS := Aside0.mk ks
      have KB5 := Aside0.mk kb
      clear ks kb k5 HCALL
      go_wp2_with (fail)
      go_ret
      exact ⟨_, rfl, KS.out, KB5.out⟩
    exact AllReadyL.nil
  refine join_ (σ := Nat × Nat × Nat × Nat) 2 #[true, true, true, false, true, true, true, false] (fun s => [(8, .slice (some ⟨s.1, 0, none⟩) 0 0), (10, .int .i64 (l0_0.length : Int)), (5, .pointer (some ⟨s.2.2.1, 0, none⟩)), (6, .pointer (some ⟨s.2.2.2, 0, none⟩))]) (fun s w' => Below W0.heap.size W0 w' ∧ (W0.heap.size ≤ s.1 ∧ w'.heap[s.1]? = some (.cells #[] 25 (0, 0))) ∧ (W0.heap.size ≤ s.2.2.1 ∧ w'.heap[s.2.2.1]? = some (.cells #[.slice (some ⟨s.1, 0, none⟩) 0 0] 58 (0, 0))) ∧ (W0.heap.size ≤ s.2.2.2 ∧ w'.heap[s.2.2.2]? = some (.cells #[.slice none 0 0] 25 (0, 0)))) ?_ (fun J11111 => ?_)
  · rintro ⟨b0, g, go, gw⟩ w' ⟨hB, ⟨l0, h0⟩, ⟨l4, h4⟩, ⟨l5, h5⟩⟩
    refine norm_ (a' := ?_) ?_ ?_
    rotate_left
    · show putAll _ _ = _
      simp only [putAll, Act.put, List.setIfInBounds_toArray, List.set_cons_zero, List.set_cons_succ]
      rfl
    refine wpAnyLast_ready (rs := [3]) (by kernel_rfl) (by simp) ?_
    refine AllReadyL.cons rfl (by decide) (fun K hK => ?_) ?_
    · refine value_ (w1 := ?_) (v := ?_) (by rfl) rfl ?_ ?_
      rotate_left 2
      · go_simp
        constructor
        · rfl
        · rfl
      refine hK.out _ _ (hSof _ (below_alloc hB _)) (fun _ => ?_)
      exact norm_ (by rfl) (J21111 (b0, w'.heap.size, go, gw) _ ⟨below_alloc hB _, ⟨l0, blk_alloc h0 _⟩, ⟨hB.size, blk_new w' _⟩, ⟨l4, blk_alloc h4 _⟩, ⟨l5, blk_alloc h5 _⟩⟩)
    exact AllReadyL.nil
  refine join_ (σ := Nat × Nat × Nat × Nat) 2 #[true, true, true, true, true, true, false, false] (fun s => [(8, .slice (some ⟨s.1, 0, none⟩) 0 0), (10, .int .i64 (l0_0.length : Int)), (11, .slice (some ⟨s.2.1, 0, none⟩) l0_0.length l0_0.length), (5, .pointer (some ⟨s.2.2.1, 0, none⟩)), (6, .pointer (some ⟨s.2.2.2, 0, none⟩))]) (fun s w' => Below W0.heap.size W0 w' ∧ (W0.heap.size ≤ s.1 ∧ w'.heap[s.1]? = some (.cells #[] 25 (0, 0))) ∧ (W0.heap.size ≤ s.2.1 ∧ w'.heap[s.2.1]? = some (.cells (madeCells #[.int .i64 0] l0_0.length) 3 (0, 0))) ∧ (W0.heap.size ≤ s.2.2.1 ∧ w'.heap[s.2.2.1]? = some (.cells #[.slice none 0 0] 58 (0, 0))) ∧ (W0.heap.size ≤ s.2.2.2 ∧ w'.heap[s.2.2.2]? = some (.cells #[.slice none 0 0] 25 (0, 0)))) ?_ (fun J21110 => ?_)
  · rintro ⟨b0, g, go, gw⟩ w' ⟨hB, ⟨l0, h0⟩, ⟨lg, hg⟩, ⟨l4, h4⟩, ⟨l5, h5⟩⟩
    refine norm_ (a' := ?_) ?_ ?_
    rotate_left
    · show putAll _ _ = _
      simp only [putAll, Act.put, List.setIfInBounds_toArray, List.set_cons_zero, List.set_cons_succ]
      rfl
    refine wpAnyLast_ready (rs := [6]) (by kernel_rfl) (by simp) ?_
    refine AllReadyL.cons rfl (by decide) (fun K hK => ?_) ?_
    · have hcg : w'.cell? ⟨go, 0, none⟩ = some (.slice none 0 0) := (blk_cell h4 0).trans rfl
      have hfg := blk_frozen h4 0
      go_simp
      refine hK.out _ _ (hSof _ (hB.setCell l4 _)) (fun _ => ?_)
      exact norm_ (by rfl) (J21111 (b0, g, go, gw) _ ⟨hB.setCell l4 _, ⟨l0, blk_far h0 (blk_ne h0 h4 (by decide)) _⟩, ⟨lg, blk_far hg (blk_ne hg h4 (by decide)) _⟩, ⟨l4, blk_put h4 0 _ rfl⟩, ⟨l5, blk_far h5 (blk_ne h5 h4 (by decide)) _⟩⟩)
    exact AllReadyL.nil
  refine join_ (σ := Nat × Nat × Nat × Nat) 3 #[true, true, true, false, true, true, false, false] (fun s => [(8, .slice (some ⟨s.1, 0, none⟩) 0 0), (10, .int .i64 (l0_0.length : Int)), (5, .pointer (some ⟨s.2.2.1, 0, none⟩)), (6, .pointer (some ⟨s.2.2.2, 0, none⟩))]) (fun s w' => Below W0.heap.size W0 w' ∧ (W0.heap.size ≤ s.1 ∧ w'.heap[s.1]? = some (.cells #[] 25 (0, 0))) ∧ (W0.heap.size ≤ s.2.2.1 ∧ w'.heap[s.2.2.1]? = some (.cells #[.slice none 0 0] 58 (0, 0))) ∧ (W0.heap.size ≤ s.2.2.2 ∧ w'.heap[s.2.2.2]? = some (.cells #[.slice none 0 0] 25 (0, 0)))) ?_ (fun J11110 => ?_)
  · rintro ⟨b0, g, go, gw⟩ w' ⟨hB, ⟨l0, h0⟩, ⟨l4, h4⟩, ⟨l5, h5⟩⟩
    refine norm_ (a' := ?_) ?_ ?_
    rotate_left
    · show putAll _ _ = _
      simp only [putAll, Act.put, List.setIfInBounds_toArray, List.set_cons_zero, List.set_cons_succ]
      rfl
    refine wpAnyLast_ready (rs := [3, 6]) (by kernel_rfl) (by simp) ?_
    refine AllReadyL.cons rfl (by decide) (fun K hK => ?_) ?_
    · refine value_ (w1 := ?_) (v := ?_) (by rfl) rfl ?_ ?_
      rotate_left 2
      · go_simp
        constructor
        · rfl
        · rfl
      refine hK.out _ _ (hSof _ (below_alloc hB _)) (fun _ => ?_)
      exact norm_ (by rfl) (J21110 (b0, w'.heap.size, go, gw) _ ⟨below_alloc hB _, ⟨l0, blk_alloc h0 _⟩, ⟨hB.size, blk_new w' _⟩, ⟨l4, blk_alloc h4 _⟩, ⟨l5, blk_alloc h5 _⟩⟩)
    refine AllReadyL.cons rfl (by decide) (fun K hK => ?_) ?_
    · have hcg : w'.cell? ⟨go, 0, none⟩ = some (.slice none 0 0) := (blk_cell h4 0).trans rfl
      have hfg := blk_frozen h4 0
      go_simp
      refine hK.out _ _ (hSof _ (hB.setCell l4 _)) (fun _ => ?_)
      exact norm_ (by rfl) (J11111 (b0, g, go, gw) _ ⟨hB.setCell l4 _, ⟨l0, blk_far h0 (blk_ne h0 h4 (by decide)) _⟩, ⟨l4, blk_put h4 0 _ rfl⟩, ⟨l5, blk_far h5 (blk_ne h5 h4 (by decide)) _⟩⟩)
    exact AllReadyL.nil
  refine join_ (σ := Nat × Nat × Nat × Nat) 3 #[false, true, true, true, true, true, false, false] (fun s => [(10, .int .i64 (l0_0.length : Int)), (11, .slice (some ⟨s.2.1, 0, none⟩) l0_0.length l0_0.length), (5, .pointer (some ⟨s.2.2.1, 0, none⟩)), (6, .pointer (some ⟨s.2.2.2, 0, none⟩))]) (fun s w' => Below W0.heap.size W0 w' ∧ (W0.heap.size ≤ s.2.1 ∧ w'.heap[s.2.1]? = some (.cells (madeCells #[.int .i64 0] l0_0.length) 3 (0, 0))) ∧ (W0.heap.size ≤ s.2.2.1 ∧ w'.heap[s.2.2.1]? = some (.cells #[.slice none 0 0] 58 (0, 0))) ∧ (W0.heap.size ≤ s.2.2.2 ∧ w'.heap[s.2.2.2]? = some (.cells #[.slice none 0 0] 25 (0, 0)))) ?_ (fun J20110 => ?_)
  · rintro ⟨b0, g, go, gw⟩ w' ⟨hB, ⟨lg, hg⟩, ⟨l4, h4⟩, ⟨l5, h5⟩⟩
    refine norm_ (a' := ?_) ?_ ?_
    rotate_left
    · show putAll _ _ = _
      simp only [putAll, Act.put, List.setIfInBounds_toArray, List.set_cons_zero, List.set_cons_succ]
      rfl
    refine wpAnyLast_ready (rs := [0]) (by kernel_rfl) (by simp) ?_
    refine AllReadyL.cons rfl (by decide) (fun K hK => ?_) ?_
    · refine value_ (w1 := ?_) (v := ?_) (by rfl) rfl ?_ ?_
      rotate_left 2
      · go_simp
        constructor
        · rfl
        · rfl
      refine hK.out _ _ (hSof _ (below_alloc hB _)) (fun _ => ?_)
      exact norm_ (by rfl) (J21110 (w'.heap.size, g, go, gw) _ ⟨below_alloc hB _, ⟨hB.size, blk_new w' _⟩, ⟨lg, blk_alloc hg _⟩, ⟨l4, blk_alloc h4 _⟩, ⟨l5, blk_alloc h5 _⟩⟩)
    exact AllReadyL.nil
  refine join_ (σ := Nat × Nat × Nat × Nat) 3 #[true, true, true, true, false, true, false, false] (fun s => [(8, .slice (some ⟨s.1, 0, none⟩) 0 0), (10, .int .i64 (l0_0.length : Int)), (11, .slice (some ⟨s.2.1, 0, none⟩) l0_0.length l0_0.length), (6, .pointer (some ⟨s.2.2.2, 0, none⟩))]) (fun s w' => Below W0.heap.size W0 w' ∧ (W0.heap.size ≤ s.1 ∧ w'.heap[s.1]? = some (.cells #[] 25 (0, 0))) ∧ (W0.heap.size ≤ s.2.1 ∧ w'.heap[s.2.1]? = some (.cells (madeCells #[.int .i64 0] l0_0.length) 3 (0, 0))) ∧ (W0.heap.size ≤ s.2.2.2 ∧ w'.heap[s.2.2.2]? = some (.cells #[.slice none 0 0] 25 (0, 0)))) ?_ (fun J21010 => ?_)
  · rintro ⟨b0, g, go, gw⟩ w' ⟨hB, ⟨l0, h0⟩, ⟨lg, hg⟩, ⟨l5, h5⟩⟩
    refine norm_ (a' := ?_) ?_ ?_
    rotate_left
    · show putAll _ _ = _
      simp only [putAll, Act.put, List.setIfInBounds_toArray, List.set_cons_zero, List.set_cons_succ]
      rfl
    refine wpAnyLast_ready (rs := [4]) (by kernel_rfl) (by simp) ?_
    refine AllReadyL.cons rfl (by decide) (fun K hK => ?_) ?_
    · refine value_ (w1 := ?_) (v := ?_) (by rfl) rfl ?_ ?_
      rotate_left 2
      · go_simp
        constructor
        · rfl
        · rfl
      refine hK.out _ _ (hSof _ (below_alloc hB _)) (fun _ => ?_)
      exact norm_ (by rfl) (J21110 (b0, g, w'.heap.size, gw) _ ⟨below_alloc hB _, ⟨l0, blk_alloc h0 _⟩, ⟨lg, blk_alloc hg _⟩, ⟨hB.size, blk_new w' _⟩, ⟨l5, blk_alloc h5 _⟩⟩)
    exact AllReadyL.nil
  refine join_ (σ := Nat × Nat × Nat × Nat) 3 #[true, true, true, true, true, false, false, false] (fun s => [(8, .slice (some ⟨s.1, 0, none⟩) 0 0), (10, .int .i64 (l0_0.length : Int)), (11, .slice (some ⟨s.2.1, 0, none⟩) l0_0.length l0_0.length), (5, .pointer (some ⟨s.2.2.1, 0, none⟩))]) (fun s w' => Below W0.heap.size W0 w' ∧ (W0.heap.size ≤ s.1 ∧ w'.heap[s.1]? = some (.cells #[] 25 (0, 0))) ∧ (W0.heap.size ≤ s.2.1 ∧ w'.heap[s.2.1]? = some (.cells (madeCells #[.int .i64 0] l0_0.length) 3 (0, 0))) ∧ (W0.heap.size ≤ s.2.2.1 ∧ w'.heap[s.2.2.1]? = some (.cells #[.slice none 0 0] 58 (0, 0)))) ?_ (fun J21100 => ?_)
  · rintro ⟨b0, g, go, gw⟩ w' ⟨hB, ⟨l0, h0⟩, ⟨lg, hg⟩, ⟨l4, h4⟩⟩
    refine norm_ (a' := ?_) ?_ ?_
    rotate_left
    · show putAll _ _ = _
      simp only [putAll, Act.put, List.setIfInBounds_toArray, List.set_cons_zero, List.set_cons_succ]
      rfl
    refine wpAnyLast_ready (rs := [5]) (by kernel_rfl) (by simp) ?_
    refine AllReadyL.cons rfl (by decide) (fun K hK => ?_) ?_
    · refine value_ (w1 := ?_) (v := ?_) (by rfl) rfl ?_ ?_
      rotate_left 2
      · go_simp
        constructor
        · rfl
        · rfl
      refine hK.out _ _ (hSof _ (below_alloc hB _)) (fun _ => ?_)
      exact norm_ (by rfl) (J21110 (b0, g, go, w'.heap.size) _ ⟨below_alloc hB _, ⟨l0, blk_alloc h0 _⟩, ⟨lg, blk_alloc hg _⟩, ⟨l4, blk_alloc h4 _⟩, ⟨hB.size, blk_new w' _⟩⟩)
    exact AllReadyL.nil
  refine join_ (σ := Nat × Nat × Nat × Nat) 4 #[true, true, false, false, true, true, false, false] (fun s => [(8, .slice (some ⟨s.1, 0, none⟩) 0 0), (5, .pointer (some ⟨s.2.2.1, 0, none⟩)), (6, .pointer (some ⟨s.2.2.2, 0, none⟩))]) (fun s w' => Below W0.heap.size W0 w' ∧ (W0.heap.size ≤ s.1 ∧ w'.heap[s.1]? = some (.cells #[] 25 (0, 0))) ∧ (W0.heap.size ≤ s.2.2.1 ∧ w'.heap[s.2.2.1]? = some (.cells #[.slice none 0 0] 58 (0, 0))) ∧ (W0.heap.size ≤ s.2.2.2 ∧ w'.heap[s.2.2.2]? = some (.cells #[.slice none 0 0] 25 (0, 0)))) ?_ (fun J01110 => ?_)
  · rintro ⟨b0, g, go, gw⟩ w' ⟨hB, ⟨l0, h0⟩, ⟨l4, h4⟩, ⟨l5, h5⟩⟩
    refine norm_ (a' := ?_) ?_ ?_
    rotate_left
    · show putAll _ _ = _
      simp only [putAll, Act.put, List.setIfInBounds_toArray, List.set_cons_zero, List.set_cons_succ]
      rfl
    refine wpAnyLast_ready (rs := [2]) (by kernel_rfl) (by simp) ?_
    refine AllReadyL.cons rfl (by decide) (fun K hK => ?_) ?_
    · refine goes_ Try.func70 (by kernel_rfl) rfl #[.agg #[.slice A0_0 l0_0.length c0_0]] (by rfl) rfl rfl (by (try simp only [List.map_toArray, List.map_cons, List.map_nil]); first | done | rfl) ?_
      with_reducible refine (impl_Poset_n.calls A0_0 c0_0 l0_0 (l0_0.length : Int) _ (Kd.C_below HR.out (HB0.out.trans (hB.mono HB0.out.size))) HC.out rfl).mono ?_
      rintro e w1 ⟨rfl, hb⟩
      refine ⟨_, rfl, ?_⟩
      refine hK.out _ _ (hSof _ (below_step hB hb)) (fun _ => ?_)
      exact norm_ (by rfl) (J11110 (b0, g, go, gw) _ ⟨below_step hB hb, ⟨l0, blk_below h0 hb⟩, ⟨l4, blk_below h4 hb⟩, ⟨l5, blk_below h5 hb⟩⟩)
    exact AllReadyL.nil
  refine join_ (σ := Nat × Nat × Nat × Nat) 4 #[false, true, true, false, true, true, false, false] (fun s => [(10, .int .i64 (l0_0.length : Int)), (5, .pointer (some ⟨s.2.2.1, 0, none⟩)), (6, .pointer (some ⟨s.2.2.2, 0, none⟩))]) (fun s w' => Below W0.heap.size W0 w' ∧ (W0.heap.size ≤ s.2.2.1 ∧ w'.heap[s.2.2.1]? = some (.cells #[.slice none 0 0] 58 (0, 0))) ∧ (W0.heap.size ≤ s.2.2.2 ∧ w'.heap[s.2.2.2]? = some (.cells #[.slice none 0 0] 25 (0, 0)))) ?_ (fun J10110 => ?_)
  · rintro ⟨b0, g, go, gw⟩ w' ⟨hB, ⟨l4, h4⟩, ⟨l5, h5⟩⟩
    refine norm_ (a' := ?_) ?_ ?_
    rotate_left
    · show putAll _ _ = _
      simp only [putAll, Act.put, List.setIfInBounds_toArray, List.set_cons_zero, List.set_cons_succ]
      rfl
    refine wpAnyLast_ready (rs := [0, 3]) (by kernel_rfl) (by simp) ?_
    refine AllReadyL.cons rfl (by decide) (fun K hK => ?_) ?_
    · refine value_ (w1 := ?_) (v := ?_) (by rfl) rfl ?_ ?_
      rotate_left 2
      · go_simp
        constructor
        · rfl
        · rfl
      refine hK.out _ _ (hSof _ (below_alloc hB _)) (fun _ => ?_)
      exact norm_ (by rfl) (J11110 (w'.heap.size, g, go, gw) _ ⟨below_alloc hB _, ⟨hB.size, blk_new w' _⟩, ⟨l4, blk_alloc h4 _⟩, ⟨l5, blk_alloc h5 _⟩⟩)
    refine AllReadyL.cons rfl (by decide) (fun K hK => ?_) ?_
    · refine value_ (w1 := ?_) (v := ?_) (by rfl) rfl ?_ ?_
      rotate_left 2
      · go_simp
        constructor
        · rfl
        · rfl
      refine hK.out _ _ (hSof _ (below_alloc hB _)) (fun _ => ?_)
      exact norm_ (by rfl) (J20110 (b0, w'.heap.size, go, gw) _ ⟨below_alloc hB _, ⟨hB.size, blk_new w' _⟩, ⟨l4, blk_alloc h4 _⟩, ⟨l5, blk_alloc h5 _⟩⟩)
    exact AllReadyL.nil
  refine join_ (σ := Nat × Nat × Nat × Nat) 4 #[true, true, true, false, false, true, false, false] (fun s => [(8, .slice (some ⟨s.1, 0, none⟩) 0 0), (10, .int .i64 (l0_0.length : Int)), (6, .pointer (some ⟨s.2.2.2, 0, none⟩))]) (fun s w' => Below W0.heap.size W0 w' ∧ (W0.heap.size ≤ s.1 ∧ w'.heap[s.1]? = some (.cells #[] 25 (0, 0))) ∧ (W0.heap.size ≤ s.2.2.2 ∧ w'.heap[s.2.2.2]? = some (.cells #[.slice none 0 0] 25 (0, 0)))) ?_ (fun J11010 => ?_)
  · rintro ⟨b0, g, go, gw⟩ w' ⟨hB, ⟨l0, h0⟩, ⟨l5, h5⟩⟩
    refine norm_ (a' := ?_) ?_ ?_
    rotate_left
    · show putAll _ _ = _
      simp only [putAll, Act.put, List.setIfInBounds_toArray, List.set_cons_zero, List.set_cons_succ]
      rfl
    refine wpAnyLast_ready (rs := [3, 4]) (by kernel_rfl) (by simp) ?_
    refine AllReadyL.cons rfl (by decide) (fun K hK => ?_) ?_
    · refine value_ (w1 := ?_) (v := ?_) (by rfl) rfl ?_ ?_
      rotate_left 2
      · go_simp
        constructor
        · rfl
        · rfl
      refine hK.out _ _ (hSof _ (below_alloc hB _)) (fun _ => ?_)
      exact norm_ (by rfl) (J21010 (b0, w'.heap.size, go, gw) _ ⟨below_alloc hB _, ⟨l0, blk_alloc h0 _⟩, ⟨hB.size, blk_new w' _⟩, ⟨l5, blk_alloc h5 _⟩⟩)
    refine AllReadyL.cons rfl (by decide) (fun K hK => ?_) ?_
    · refine value_ (w1 := ?_) (v := ?_) (by rfl) rfl ?_ ?_
      rotate_left 2
      · go_simp
        constructor
        · rfl
        · rfl
      refine hK.out _ _ (hSof _ (below_alloc hB _)) (fun _ => ?_)
      exact norm_ (by rfl) (J11110 (b0, g, w'.heap.size, gw) _ ⟨below_alloc hB _, ⟨l0, blk_alloc h0 _⟩, ⟨hB.size, blk_new w' _⟩, ⟨l5, blk_alloc h5 _⟩⟩)
    exact AllReadyL.nil
  refine join_ (σ := Nat × Nat × Nat × Nat) 4 #[true, true, true, false, true, false, false, false] (fun s => [(8, .slice (some ⟨s.1, 0, none⟩) 0 0), (10, .int .i64 (l0_0.length : Int)), (5, .pointer (some ⟨s.2.2.1, 0, none⟩))]) (fun s w' => Below W0.heap.size W0 w' ∧ (W0.heap.size ≤ s.1 ∧ w'.heap[s.1]? = some (.cells #[] 25 (0, 0))) ∧ (W0.heap.size ≤ s.2.2.1 ∧ w'.heap[s.2.2.1]? = some (.cells #[.slice none 0 0] 58 (0, 0)))) ?_ (fun J11100 => ?_)
  · rintro ⟨b0, g, go, gw⟩ w' ⟨hB, ⟨l0, h0⟩, ⟨l4, h4⟩⟩
    refine norm_ (a' := ?_) ?_ ?_
    rotate_left
    · show putAll _ _ = _
      simp only [putAll, Act.put, List.setIfInBounds_toArray, List.set_cons_zero, List.set_cons_succ]
      rfl
    refine wpAnyLast_ready (rs := [3, 5]) (by kernel_rfl) (by simp) ?_
    refine AllReadyL.cons rfl (by decide) (fun K hK => ?_) ?_
    · refine value_ (w1 := ?_) (v := ?_) (by rfl) rfl ?_ ?_
      rotate_left 2
      · go_simp
        constructor
        · rfl
        · rfl
      refine hK.out _ _ (hSof _ (below_alloc hB _)) (fun _ => ?_)
      exact norm_ (by rfl) (J21100 (b0, w'.heap.size, go, gw) _ ⟨below_alloc hB _, ⟨l0, blk_alloc h0 _⟩, ⟨hB.size, blk_new w' _⟩, ⟨l4, blk_alloc h4 _⟩⟩)
    refine AllReadyL.cons rfl (by decide) (fun K hK => ?_) ?_
    · refine value_ (w1 := ?_) (v := ?_) (by rfl) rfl ?_ ?_
      rotate_left 2
      · go_simp
        constructor
        · rfl
        · rfl
      refine hK.out _ _ (hSof _ (below_alloc hB _)) (fun _ => ?_)
      exact norm_ (by rfl) (J11110 (b0, g, go, w'.heap.size) _ ⟨below_alloc hB _, ⟨l0, blk_alloc h0 _⟩, ⟨l4, blk_alloc h4 _⟩, ⟨hB.size, blk_new w' _⟩⟩)
    exact AllReadyL.nil
  refine join_ (σ := Nat × Nat × Nat × Nat) 4 #[false, true, true, true, false, true, false, false] (fun s => [(10, .int .i64 (l0_0.length : Int)), (11, .slice (some ⟨s.2.1, 0, none⟩) l0_0.length l0_0.length), (6, .pointer (some ⟨s.2.2.2, 0, none⟩))]) (fun s w' => Below W0.heap.size W0 w' ∧ (W0.heap.size ≤ s.2.1 ∧ w'.heap[s.2.1]? = some (.cells (madeCells #[.int .i64 0] l0_0.length) 3 (0, 0))) ∧ (W0.heap.size ≤ s.2.2.2 ∧ w'.heap[s.2.2.2]? = some (.cells #[.slice none 0 0] 25 (0, 0)))) ?_ (fun J20010 => ?_)
  · rintro ⟨b0, g, go, gw⟩ w' ⟨hB, ⟨lg, hg⟩, ⟨l5, h5⟩⟩
    refine norm_ (a' := ?_) ?_ ?_
    rotate_left
    · show putAll _ _ = _
      simp only [putAll, Act.put, List.setIfInBounds_toArray, List.set_cons_zero, List.set_cons_succ]
      rfl
    refine wpAnyLast_ready (rs := [0, 4]) (by kernel_rfl) (by simp) ?_
    refine AllReadyL.cons rfl (by decide) (fun K hK => ?_) ?_
    · refine value_ (w1 := ?_) (v := ?_) (by rfl) rfl ?_ ?_
      rotate_left 2
      · go_simp
        constructor
        · rfl
        · rfl
      refine hK.out _ _ (hSof _ (below_alloc hB _)) (fun _ => ?_)
      exact norm_ (by rfl) (J21010 (w'.heap.size, g, go, gw) _ ⟨below_alloc hB _, ⟨hB.size, blk_new w' _⟩, ⟨lg, blk_alloc hg _⟩, ⟨l5, blk_alloc h5 _⟩⟩)
    refine AllReadyL.cons rfl (by decide) (fun K hK => ?_) ?_
    · refine value_ (w1 := ?_) (v := ?_) (by rfl) rfl ?_ ?_
      rotate_left 2
      · go_simp
        constructor
        · rfl
        · rfl
      refine hK.out _ _ (hSof _ (below_alloc hB _)) (fun _ => ?_)
      exact norm_ (by rfl) (J20110 (b0, g, w'.heap.size, gw) _ ⟨below_alloc hB _, ⟨lg, blk_alloc hg _⟩, ⟨hB.size, blk_new w' _⟩, ⟨l5, blk_alloc h5 _⟩⟩)
    exact AllReadyL.nil
  refine join_ (σ := Nat × Nat × Nat × Nat) 4 #[false, true, true, true, true, false, false, false] (fun s => [(10, .int .i64 (l0_0.length : Int)), (11, .slice (some ⟨s.2.1, 0, none⟩) l0_0.length l0_0.length), (5, .pointer (some ⟨s.2.2.1, 0, none⟩))]) (fun s w' => Below W0.heap.size W0 w' ∧ (W0.heap.size ≤ s.2.1 ∧ w'.heap[s.2.1]? = some (.cells (madeCells #[.int .i64 0] l0_0.length) 3 (0, 0))) ∧ (W0.heap.size ≤ s.2.2.1 ∧ w'.heap[s.2.2.1]? = some (.cells #[.slice none 0 0] 58 (0, 0)))) ?_ (fun J20100 => ?_)
  · rintro ⟨b0, g, go, gw⟩ w' ⟨hB, ⟨lg, hg⟩, ⟨l4, h4⟩⟩
    refine norm_ (a' := ?_) ?_ ?_
    rotate_left
    · show putAll _ _ = _
      simp only [putAll, Act.put, List.setIfInBounds_toArray, List.set_cons_zero, List.set_cons_succ]
      rfl
    refine wpAnyLast_ready (rs := [0, 5]) (by kernel_rfl) (by simp) ?_
    refine AllReadyL.cons rfl (by decide) (fun K hK => ?_) ?_
    · refine value_ (w1 := ?_) (v := ?_) (by rfl) rfl ?_ ?_
      rotate_left 2
      · go_simp
        constructor
        · rfl
        · rfl
      refine hK.out _ _ (hSof _ (below_alloc hB _)) (fun _ => ?_)
      exact norm_ (by rfl) (J21100 (w'.heap.size, g, go, gw) _ ⟨below_alloc hB _, ⟨hB.size, blk_new w' _⟩, ⟨lg, blk_alloc hg _⟩, ⟨l4, blk_alloc h4 _⟩⟩)
    refine AllReadyL.cons rfl (by decide) (fun K hK => ?_) ?_
    · refine value_ (w1 := ?_) (v := ?_) (by rfl) rfl ?_ ?_
      rotate_left 2
      · go_simp
        constructor
        · rfl
        · rfl
      refine hK.out _ _ (hSof _ (below_alloc hB _)) (fun _ => ?_)
      exact norm_ (by rfl) (J20110 (b0, g, go, w'.heap.size) _ ⟨below_alloc hB _, ⟨lg, blk_alloc hg _⟩, ⟨l4, blk_alloc h4 _⟩, ⟨hB.size, blk_new w' _⟩⟩)
    exact AllReadyL.nil
  refine join_ (σ := Nat × Nat × Nat × Nat) 4 #[true, true, true, true, false, false, false, false] (fun s => [(8, .slice (some ⟨s.1, 0, none⟩) 0 0), (10, .int .i64 (l0_0.length : Int)), (11, .slice (some ⟨s.2.1, 0, none⟩) l0_0.length l0_0.length)]) (fun s w' => Below W0.heap.size W0 w' ∧ (W0.heap.size ≤ s.1 ∧ w'.heap[s.1]? = some (.cells #[] 25 (0, 0))) ∧ (W0.heap.size ≤ s.2.1 ∧ w'.heap[s.2.1]? = some (.cells (madeCells #[.int .i64 0] l0_0.length) 3 (0, 0)))) ?_ (fun J21000 => ?_)
  · rintro ⟨b0, g, go, gw⟩ w' ⟨hB, ⟨l0, h0⟩, ⟨lg, hg⟩⟩
    refine norm_ (a' := ?_) ?_ ?_
    rotate_left
    · show putAll _ _ = _
      simp only [putAll, Act.put, List.setIfInBounds_toArray, List.set_cons_zero, List.set_cons_succ]
      rfl
    refine wpAnyLast_ready (rs := [4, 5]) (by kernel_rfl) (by simp) ?_
    refine AllReadyL.cons rfl (by decide) (fun K hK => ?_) ?_
    · refine value_ (w1 := ?_) (v := ?_) (by rfl) rfl ?_ ?_
      rotate_left 2
      · go_simp
        constructor
        · rfl
        · rfl
      refine hK.out _ _ (hSof _ (below_alloc hB _)) (fun _ => ?_)
      exact norm_ (by rfl) (J21100 (b0, g, w'.heap.size, gw) _ ⟨below_alloc hB _, ⟨l0, blk_alloc h0 _⟩, ⟨lg, blk_alloc hg _⟩, ⟨hB.size, blk_new w' _⟩⟩)
    refine AllReadyL.cons rfl (by decide) (fun K hK => ?_) ?_
    · refine value_ (w1 := ?_) (v := ?_) (by rfl) rfl ?_ ?_
      rotate_left 2
      · go_simp
        constructor
        · rfl
        · rfl
      refine hK.out _ _ (hSof _ (below_alloc hB _)) (fun _ => ?_)
      exact norm_ (by rfl) (J21010 (b0, g, go, w'.heap.size) _ ⟨below_alloc hB _, ⟨l0, blk_alloc h0 _⟩, ⟨lg, blk_alloc hg _⟩, ⟨hB.size, blk_new w' _⟩⟩)
    exact AllReadyL.nil
  refine join_ (σ := Nat × Nat × Nat × Nat) 5 #[false, true, false, false, true, true, false, false] (fun s => [(5, .pointer (some ⟨s.2.2.1, 0, none⟩)), (6, .pointer (some ⟨s.2.2.2, 0, none⟩))]) (fun s w' => Below W0.heap.size W0 w' ∧ (W0.heap.size ≤ s.2.2.1 ∧ w'.heap[s.2.2.1]? = some (.cells #[.slice none 0 0] 58 (0, 0))) ∧ (W0.heap.size ≤ s.2.2.2 ∧ w'.heap[s.2.2.2]? = some (.cells #[.slice none 0 0] 25 (0, 0)))) ?_ (fun J00110 => ?_)
  · rintro ⟨b0, g, go, gw⟩ w' ⟨hB, ⟨l4, h4⟩, ⟨l5, h5⟩⟩
    refine norm_ (a' := ?_) ?_ ?_
    rotate_left
    · show putAll _ _ = _
      simp only [putAll, Act.put, List.setIfInBounds_toArray, List.set_cons_zero, List.set_cons_succ]
      rfl
    refine wpAnyLast_ready (rs := [0, 2]) (by kernel_rfl) (by simp) ?_
    refine AllReadyL.cons rfl (by decide) (fun K hK => ?_) ?_
    · refine value_ (w1 := ?_) (v := ?_) (by rfl) rfl ?_ ?_
      rotate_left 2
      · go_simp
        constructor
        · rfl
        · rfl
      refine hK.out _ _ (hSof _ (below_alloc hB _)) (fun _ => ?_)
      exact norm_ (by rfl) (J01110 (w'.heap.size, g, go, gw) _ ⟨below_alloc hB _, ⟨hB.size, blk_new w' _⟩, ⟨l4, blk_alloc h4 _⟩, ⟨l5, blk_alloc h5 _⟩⟩)
    refine AllReadyL.cons rfl (by decide) (fun K hK => ?_) ?_
    · refine goes_ Try.func70 (by kernel_rfl) rfl #[.agg #[.slice A0_0 l0_0.length c0_0]] (by rfl) rfl rfl (by (try simp only [List.map_toArray, List.map_cons, List.map_nil]); first | done | rfl) ?_
      with_reducible refine (impl_Poset_n.calls A0_0 c0_0 l0_0 (l0_0.length : Int) _ (Kd.C_below HR.out (HB0.out.trans (hB.mono HB0.out.size))) HC.out rfl).mono ?_
      rintro e w1 ⟨rfl, hb⟩
      refine ⟨_, rfl, ?_⟩
      refine hK.out _ _ (hSof _ (below_step hB hb)) (fun _ => ?_)
      exact norm_ (by rfl) (J10110 (b0, g, go, gw) _ ⟨below_step hB hb, ⟨l4, blk_below h4 hb⟩, ⟨l5, blk_below h5 hb⟩⟩)
    exact AllReadyL.nil
  refine join_ (σ := Nat × Nat × Nat × Nat) 5 #[true, true, false, false, false, true, false, false] (fun s => [(8, .slice (some ⟨s.1, 0, none⟩) 0 0), (6, .pointer (some ⟨s.2.2.2, 0, none⟩))]) (fun s w' => Below W0.heap.size W0 w' ∧ (W0.heap.size ≤ s.1 ∧ w'.heap[s.1]? = some (.cells #[] 25 (0, 0))) ∧ (W0.heap.size ≤ s.2.2.2 ∧ w'.heap[s.2.2.2]? = some (.cells #[.slice none 0 0] 25 (0, 0)))) ?_ (fun J01010 => ?_)
  · rintro ⟨b0, g, go, gw⟩ w' ⟨hB, ⟨l0, h0⟩, ⟨l5, h5⟩⟩
    refine norm_ (a' := ?_) ?_ ?_
    rotate_left
    · show putAll _ _ = _
      simp only [putAll, Act.put, List.setIfInBounds_toArray, List.set_cons_zero, List.set_cons_succ]
      rfl
    refine wpAnyLast_ready (rs := [2, 4]) (by kernel_rfl) (by simp) ?_
    refine AllReadyL.cons rfl (by decide) (fun K hK => ?_) ?_
    · refine goes_ Try.func70 (by kernel_rfl) rfl #[.agg #[.slice A0_0 l0_0.length c0_0]] (by rfl) rfl rfl (by (try simp only [List.map_toArray, List.map_cons, List.map_nil]); first | done | rfl) ?_
      with_reducible refine (impl_Poset_n.calls A0_0 c0_0 l0_0 (l0_0.length : Int) _ (Kd.C_below HR.out (HB0.out.trans (hB.mono HB0.out.size))) HC.out rfl).mono ?_
      rintro e w1 ⟨rfl, hb⟩
      refine ⟨_, rfl, ?_⟩
      refine hK.out _ _ (hSof _ (below_step hB hb)) (fun _ => ?_)
      exact norm_ (by rfl) (J11010 (b0, g, go, gw) _ ⟨below_step hB hb, ⟨l0, blk_below h0 hb⟩, ⟨l5, blk_below h5 hb⟩⟩)
    refine AllReadyL.cons rfl (by decide) (fun K hK => ?_) ?_
    · refine value_ (w1 := ?_) (v := ?_) (by rfl) rfl ?_ ?_
      rotate_left 2
      · go_simp
        constructor
        · rfl
        · rfl
      refine hK.out _ _ (hSof _ (below_alloc hB _)) (fun _ => ?_)
      exact norm_ (by rfl) (J01110 (b0, g, w'.heap.size, gw) _ ⟨below_alloc hB _, ⟨l0, blk_alloc h0 _⟩, ⟨hB.size, blk_new w' _⟩, ⟨l5, blk_alloc h5 _⟩⟩)
    exact AllReadyL.nil
  refine join_ (σ := Nat × Nat × Nat × Nat) 5 #[true, true, false, false, true, false, false, false] (fun s => [(8, .slice (some ⟨s.1, 0, none⟩) 0 0), (5, .pointer (some ⟨s.2.2.1, 0, none⟩))]) (fun s w' => Below W0.heap.size W0 w' ∧ (W0.heap.size ≤ s.1 ∧ w'.heap[s.1]? = some (.cells #[] 25 (0, 0))) ∧ (W0.heap.size ≤ s.2.2.1 ∧ w'.heap[s.2.2.1]? = some (.cells #[.slice none 0 0] 58 (0, 0)))) ?_ (fun J01100 => ?_)
  · rintro ⟨b0, g, go, gw⟩ w' ⟨hB, ⟨l0, h0⟩, ⟨l4, h4⟩⟩
    refine norm_ (a' := ?_) ?_ ?_
    rotate_left
    · show putAll _ _ = _
      simp only [putAll, Act.put, List.setIfInBounds_toArray, List.set_cons_zero, List.set_cons_succ]
      rfl
    refine wpAnyLast_ready (rs := [2, 5]) (by kernel_rfl) (by simp) ?_
    refine AllReadyL.cons rfl (by decide) (fun K hK => ?_) ?_
    · refine goes_ Try.func70 (by kernel_rfl) rfl #[.agg #[.slice A0_0 l0_0.length c0_0]] (by rfl) rfl rfl (by (try simp only [List.map_toArray, List.map_cons, List.map_nil]); first | done | rfl) ?_
      with_reducible refine (impl_Poset_n.calls A0_0 c0_0 l0_0 (l0_0.length : Int) _ (Kd.C_below HR.out (HB0.out.trans (hB.mono HB0.out.size))) HC.out rfl).mono ?_
      rintro e w1 ⟨rfl, hb⟩
      refine ⟨_, rfl, ?_⟩
      refine hK.out _ _ (hSof _ (below_step hB hb)) (fun _ => ?_)
      exact norm_ (by rfl) (J11100 (b0, g, go, gw) _ ⟨below_step hB hb, ⟨l0, blk_below h0 hb⟩, ⟨l4, blk_below h4 hb⟩⟩)
    refine AllReadyL.cons rfl (by decide) (fun K hK => ?_) ?_
    · refine value_ (w1 := ?_) (v := ?_) (by rfl) rfl ?_ ?_
      rotate_left 2
      · go_simp
        constructor
        · rfl
        · rfl
      refine hK.out _ _ (hSof _ (below_alloc hB _)) (fun _ => ?_)
      exact norm_ (by rfl) (J01110 (b0, g, go, w'.heap.size) _ ⟨below_alloc hB _, ⟨l0, blk_alloc h0 _⟩, ⟨l4, blk_alloc h4 _⟩, ⟨hB.size, blk_new w' _⟩⟩)
    exact AllReadyL.nil
  refine join_ (σ := Nat × Nat × Nat × Nat) 5 #[false, true, true, false, false, true, false, false] (fun s => [(10, .int .i64 (l0_0.length : Int)), (6, .pointer (some ⟨s.2.2.2, 0, none⟩))]) (fun s w' => Below W0.heap.size W0 w' ∧ (W0.heap.size ≤ s.2.2.2 ∧ w'.heap[s.2.2.2]? = some (.cells #[.slice none 0 0] 25 (0, 0)))) ?_ (fun J10010 => ?_)
  · rintro ⟨b0, g, go, gw⟩ w' ⟨hB, ⟨l5, h5⟩⟩
    refine norm_ (a' := ?_) ?_ ?_
    rotate_left
    · show putAll _ _ = _
      simp only [putAll, Act.put, List.setIfInBounds_toArray, List.set_cons_zero, List.set_cons_succ]
      rfl
    refine wpAnyLast_ready (rs := [0, 3, 4]) (by kernel_rfl) (by simp) ?_
    refine AllReadyL.cons rfl (by decide) (fun K hK => ?_) ?_
    · refine value_ (w1 := ?_) (v := ?_) (by rfl) rfl ?_ ?_
      rotate_left 2
      · go_simp
        constructor
        · rfl
        · rfl
      refine hK.out _ _ (hSof _ (below_alloc hB _)) (fun _ => ?_)
      exact norm_ (by rfl) (J11010 (w'.heap.size, g, go, gw) _ ⟨below_alloc hB _, ⟨hB.size, blk_new w' _⟩, ⟨l5, blk_alloc h5 _⟩⟩)
    refine AllReadyL.cons rfl (by decide) (fun K hK => ?_) ?_
    · refine value_ (w1 := ?_) (v := ?_) (by rfl) rfl ?_ ?_
      rotate_left 2
      · go_simp
        constructor
        · rfl
        · rfl
      refine hK.out _ _ (hSof _ (below_alloc hB _)) (fun _ => ?_)
      exact norm_ (by rfl) (J20010 (b0, w'.heap.size, go, gw) _ ⟨below_alloc hB _, ⟨hB.size, blk_new w' _⟩, ⟨l5, blk_alloc h5 _⟩⟩)
    refine AllReadyL.cons rfl (by decide) (fun K hK => ?_) ?_
    · refine value_ (w1 := ?_) (v := ?_) (by rfl) rfl ?_ ?_
      rotate_left 2
      · go_simp
        constructor
        · rfl
        · rfl
      refine hK.out _ _ (hSof _ (below_alloc hB _)) (fun _ => ?_)
      exact norm_ (by rfl) (J10110 (b0, g, w'.heap.size, gw) _ ⟨below_alloc hB _, ⟨hB.size, blk_new w' _⟩, ⟨l5, blk_alloc h5 _⟩⟩)
    exact AllReadyL.nil
  refine join_ (σ := Nat × Nat × Nat × Nat) 5 #[false, true, true, false, true, false, false, false] (fun s => [(10, .int .i64 (l0_0.length : Int)), (5, .pointer (some ⟨s.2.2.1, 0, none⟩))]) (fun s w' => Below W0.heap.size W0 w' ∧ (W0.heap.size ≤ s.2.2.1 ∧ w'.heap[s.2.2.1]? = some (.cells #[.slice none 0 0] 58 (0, 0)))) ?_ (fun J10100 => ?_)
  · rintro ⟨b0, g, go, gw⟩ w' ⟨hB, ⟨l4, h4⟩⟩
    refine norm_ (a' := ?_) ?_ ?_
    rotate_left
    · show putAll _ _ = _
      simp only [putAll, Act.put, List.setIfInBounds_toArray, List.set_cons_zero, List.set_cons_succ]
      rfl
    refine wpAnyLast_ready (rs := [0, 3, 5]) (by kernel_rfl) (by simp) ?_
    refine AllReadyL.cons rfl (by decide) (fun K hK => ?_) ?_
    · refine value_ (w1 := ?_) (v := ?_) (by rfl) rfl ?_ ?_
      rotate_left 2
      · go_simp
        constructor
        · rfl
        · rfl
      refine hK.out _ _ (hSof _ (below_alloc hB _)) (fun _ => ?_)
      exact norm_ (by rfl) (J11100 (w'.heap.size, g, go, gw) _ ⟨below_alloc hB _, ⟨hB.size, blk_new w' _⟩, ⟨l4, blk_alloc h4 _⟩⟩)
    refine AllReadyL.cons rfl (by decide) (fun K hK => ?_) ?_
    · refine value_ (w1 := ?_) (v := ?_) (by rfl) rfl ?_ ?_
      rotate_left 2
      · go_simp
        constructor
        · rfl
        · rfl
      refine hK.out _ _ (hSof _ (below_alloc hB _)) (fun _ => ?_)
      exact norm_ (by rfl) (J20100 (b0, w'.heap.size, go, gw) _ ⟨below_alloc hB _, ⟨hB.size, blk_new w' _⟩, ⟨l4, blk_alloc h4 _⟩⟩)
    refine AllReadyL.cons rfl (by decide) (fun K hK => ?_) ?_
    · refine value_ (w1 := ?_) (v := ?_) (by rfl) rfl ?_ ?_
      rotate_left 2
      · go_simp
        constructor
        · rfl
        · rfl
      refine hK.out _ _ (hSof _ (below_alloc hB _)) (fun _ => ?_)
      exact norm_ (by rfl) (J10110 (b0, g, go, w'.heap.size) _ ⟨below_alloc hB _, ⟨l4, blk_alloc h4 _⟩, ⟨hB.size, blk_new w' _⟩⟩)
    exact AllReadyL.nil
  refine join_ (σ := Nat × Nat × Nat × Nat) 5 #[true, true, true, false, false, false, false, false] (fun s => [(8, .slice (some ⟨s.1, 0, none⟩) 0 0), (10, .int .i64 (l0_0.length : Int))]) (fun s w' => Below W0.heap.size W0 w' ∧ (W0.heap.size ≤ s.1 ∧ w'.heap[s.1]? = some (.cells #[] 25 (0, 0)))) ?_ (fun J11000 => ?_)
  · rintro ⟨b0, g, go, gw⟩ w' ⟨hB, ⟨l0, h0⟩⟩
    refine norm_ (a' := ?_) ?_ ?_
    rotate_left
    · show putAll _ _ = _
      simp only [putAll, Act.put, List.setIfInBounds_toArray, List.set_cons_zero, List.set_cons_succ]
      rfl
    refine wpAnyLast_ready (rs := [3, 4, 5]) (by kernel_rfl) (by simp) ?_
    refine AllReadyL.cons rfl (by decide) (fun K hK => ?_) ?_
    · refine value_ (w1 := ?_) (v := ?_) (by rfl) rfl ?_ ?_
      rotate_left 2
      · go_simp
        constructor
        · rfl
        · rfl
      refine hK.out _ _ (hSof _ (below_alloc hB _)) (fun _ => ?_)
      exact norm_ (by rfl) (J21000 (b0, w'.heap.size, go, gw) _ ⟨below_alloc hB _, ⟨l0, blk_alloc h0 _⟩, ⟨hB.size, blk_new w' _⟩⟩)
    refine AllReadyL.cons rfl (by decide) (fun K hK => ?_) ?_
    · refine value_ (w1 := ?_) (v := ?_) (by rfl) rfl ?_ ?_
      rotate_left 2
      · go_simp
        constructor
        · rfl
        · rfl
      refine hK.out _ _ (hSof _ (below_alloc hB _)) (fun _ => ?_)
      exact norm_ (by rfl) (J11100 (b0, g, w'.heap.size, gw) _ ⟨below_alloc hB _, ⟨l0, blk_alloc h0 _⟩, ⟨hB.size, blk_new w' _⟩⟩)
    refine AllReadyL.cons rfl (by decide) (fun K hK => ?_) ?_
    · refine value_ (w1 := ?_) (v := ?_) (by rfl) rfl ?_ ?_
      rotate_left 2
      · go_simp
        constructor
        · rfl
        · rfl
      refine hK.out _ _ (hSof _ (below_alloc hB _)) (fun _ => ?_)
      exact norm_ (by rfl) (J11010 (b0, g, go, w'.heap.size) _ ⟨below_alloc hB _, ⟨l0, blk_alloc h0 _⟩, ⟨hB.size, blk_new w' _⟩⟩)
    exact AllReadyL.nil
  refine join_ (σ := Nat × Nat × Nat × Nat) 5 #[false, true, true, true, false, false, false, false] (fun s => [(10, .int .i64 (l0_0.length : Int)), (11, .slice (some ⟨s.2.1, 0, none⟩) l0_0.length l0_0.length)]) (fun s w' => Below W0.heap.size W0 w' ∧ (W0.heap.size ≤ s.2.1 ∧ w'.heap[s.2.1]? = some (.cells (madeCells #[.int .i64 0] l0_0.length) 3 (0, 0)))) ?_ (fun J20000 => ?_)
  · rintro ⟨b0, g, go, gw⟩ w' ⟨hB, ⟨lg, hg⟩⟩
    refine norm_ (a' := ?_) ?_ ?_
    rotate_left
    · show putAll _ _ = _
      simp only [putAll, Act.put, List.setIfInBounds_toArray, List.set_cons_zero, List.set_cons_succ]
      rfl
    refine wpAnyLast_ready (rs := [0, 4, 5]) (by kernel_rfl) (by simp) ?_
    refine AllReadyL.cons rfl (by decide) (fun K hK => ?_) ?_
    · refine value_ (w1 := ?_) (v := ?_) (by rfl) rfl ?_ ?_
      rotate_left 2
      · go_simp
        constructor
        · rfl
        · rfl
      refine hK.out _ _ (hSof _ (below_alloc hB _)) (fun _ => ?_)
      exact norm_ (by rfl) (J21000 (w'.heap.size, g, go, gw) _ ⟨below_alloc hB _, ⟨hB.size, blk_new w' _⟩, ⟨lg, blk_alloc hg _⟩⟩)
    refine AllReadyL.cons rfl (by decide) (fun K hK => ?_) ?_
    · refine value_ (w1 := ?_) (v := ?_) (by rfl) rfl ?_ ?_
      rotate_left 2
      · go_simp
        constructor
        · rfl
        · rfl
      refine hK.out _ _ (hSof _ (below_alloc hB _)) (fun _ => ?_)
      exact norm_ (by rfl) (J20100 (b0, g, w'.heap.size, gw) _ ⟨below_alloc hB _, ⟨lg, blk_alloc hg _⟩, ⟨hB.size, blk_new w' _⟩⟩)
    refine AllReadyL.cons rfl (by decide) (fun K hK => ?_) ?_
    · refine value_ (w1 := ?_) (v := ?_) (by rfl) rfl ?_ ?_
      rotate_left 2
      · go_simp
        constructor
        · rfl
        · rfl
      refine hK.out _ _ (hSof _ (below_alloc hB _)) (fun _ => ?_)
      exact norm_ (by rfl) (J20010 (b0, g, go, w'.heap.size) _ ⟨below_alloc hB _, ⟨lg, blk_alloc hg _⟩, ⟨hB.size, blk_new w' _⟩⟩)
    exact AllReadyL.nil
  refine join_ (σ := Nat × Nat × Nat × Nat) 6 #[false, true, false, false, false, true, false, false] (fun s => [(6, .pointer (some ⟨s.2.2.2, 0, none⟩))]) (fun s w' => Below W0.heap.size W0 w' ∧ (W0.heap.size ≤ s.2.2.2 ∧ w'.heap[s.2.2.2]? = some (.cells #[.slice none 0 0] 25 (0, 0)))) ?_ (fun J00010 => ?_)
  · rintro ⟨b0, g, go, gw⟩ w' ⟨hB, ⟨l5, h5⟩⟩
    refine norm_ (a' := ?_) ?_ ?_
    rotate_left
    · show putAll _ _ = _
      simp only [putAll, Act.put, List.setIfInBounds_toArray, List.set_cons_zero, List.set_cons_succ]
      rfl
    refine wpAnyLast_ready (rs := [0, 2, 4]) (by kernel_rfl) (by simp) ?_
    refine AllReadyL.cons rfl (by decide) (fun K hK => ?_) ?_
    · refine value_ (w1 := ?_) (v := ?_) (by rfl) rfl ?_ ?_
      rotate_left 2
      · go_simp
        constructor
        · rfl
        · rfl
      refine hK.out _ _ (hSof _ (below_alloc hB _)) (fun _ => ?_)
      exact norm_ (by rfl) (J01010 (w'.heap.size, g, go, gw) _ ⟨below_alloc hB _, ⟨hB.size, blk_new w' _⟩, ⟨l5, blk_alloc h5 _⟩⟩)
    refine AllReadyL.cons rfl (by decide) (fun K hK => ?_) ?_
    · refine goes_ Try.func70 (by kernel_rfl) rfl #[.agg #[.slice A0_0 l0_0.length c0_0]] (by rfl) rfl rfl (by (try simp only [List.map_toArray, List.map_cons, List.map_nil]); first | done | rfl) ?_
      with_reducible refine (impl_Poset_n.calls A0_0 c0_0 l0_0 (l0_0.length : Int) _ (Kd.C_below HR.out (HB0.out.trans (hB.mono HB0.out.size))) HC.out rfl).mono ?_
      rintro e w1 ⟨rfl, hb⟩
      refine ⟨_, rfl, ?_⟩
      refine hK.out _ _ (hSof _ (below_step hB hb)) (fun _ => ?_)
      exact norm_ (by rfl) (J10010 (b0, g, go, gw) _ ⟨below_step hB hb, ⟨l5, blk_below h5 hb⟩⟩)
    refine AllReadyL.cons rfl (by decide) (fun K hK => ?_) ?_
    · refine value_ (w1 := ?_) (v := ?_) (by rfl) rfl ?_ ?_
      rotate_left 2
      · go_simp
        constructor
        · rfl
        · rfl
      refine hK.out _ _ (hSof _ (below_alloc hB _)) (fun _ => ?_)
      exact norm_ (by rfl) (J00110 (b0, g, w'.heap.size, gw) _ ⟨below_alloc hB _, ⟨hB.size, blk_new w' _⟩, ⟨l5, blk_alloc h5 _⟩⟩)
    exact AllReadyL.nil
  refine join_ (σ := Nat × Nat × Nat × Nat) 6 #[false, true, false, false, true, false, false, false] (fun s => [(5, .pointer (some ⟨s.2.2.1, 0, none⟩))]) (fun s w' => Below W0.heap.size W0 w' ∧ (W0.heap.size ≤ s.2.2.1 ∧ w'.heap[s.2.2.1]? = some (.cells #[.slice none 0 0] 58 (0, 0)))) ?_ (fun J00100 => ?_)
  · rintro ⟨b0, g, go, gw⟩ w' ⟨hB, ⟨l4, h4⟩⟩
    refine norm_ (a' := ?_) ?_ ?_
    rotate_left
    · show putAll _ _ = _
      simp only [putAll, Act.put, List.setIfInBounds_toArray, List.set_cons_zero, List.set_cons_succ]
      rfl
    refine wpAnyLast_ready (rs := [0, 2, 5]) (by kernel_rfl) (by simp) ?_
    refine AllReadyL.cons rfl (by decide) (fun K hK => ?_) ?_
    · refine value_ (w1 := ?_) (v := ?_) (by rfl) rfl ?_ ?_
      rotate_left 2
      · go_simp
        constructor
        · rfl
        · rfl
      refine hK.out _ _ (hSof _ (below_alloc hB _)) (fun _ => ?_)
      exact norm_ (by rfl) (J01100 (w'.heap.size, g, go, gw) _ ⟨below_alloc hB _, ⟨hB.size, blk_new w' _⟩, ⟨l4, blk_alloc h4 _⟩⟩)
    refine AllReadyL.cons rfl (by decide) (fun K hK => ?_) ?_
    · refine goes_ Try.func70 (by kernel_rfl) rfl #[.agg #[.slice A0_0 l0_0.length c0_0]] (by rfl) rfl rfl (by (try simp only [List.map_toArray, List.map_cons, List.map_nil]); first | done | rfl) ?_
      with_reducible refine (impl_Poset_n.calls A0_0 c0_0 l0_0 (l0_0.length : Int) _ (Kd.C_below HR.out (HB0.out.trans (hB.mono HB0.out.size))) HC.out rfl).mono ?_
      rintro e w1 ⟨rfl, hb⟩
      refine ⟨_, rfl, ?_⟩
      refine hK.out _ _ (hSof _ (below_step hB hb)) (fun _ => ?_)
      exact norm_ (by rfl) (J10100 (b0, g, go, gw) _ ⟨below_step hB hb, ⟨l4, blk_below h4 hb⟩⟩)
    refine AllReadyL.cons rfl (by decide) (fun K hK => ?_) ?_
    · refine value_ (w1 := ?_) (v := ?_) (by rfl) rfl ?_ ?_
      rotate_left 2
      · go_simp
        constructor
        · rfl
        · rfl
      refine hK.out _ _ (hSof _ (below_alloc hB _)) (fun _ => ?_)
      exact norm_ (by rfl) (J00110 (b0, g, go, w'.heap.size) _ ⟨below_alloc hB _, ⟨l4, blk_alloc h4 _⟩, ⟨hB.size, blk_new w' _⟩⟩)
    exact AllReadyL.nil
  refine join_ (σ := Nat × Nat × Nat × Nat) 6 #[true, true, false, false, false, false, false, false] (fun s => [(8, .slice (some ⟨s.1, 0, none⟩) 0 0)]) (fun s w' => Below W0.heap.size W0 w' ∧ (W0.heap.size ≤ s.1 ∧ w'.heap[s.1]? = some (.cells #[] 25 (0, 0)))) ?_ (fun J01000 => ?_)
  · rintro ⟨b0, g, go, gw⟩ w' ⟨hB, ⟨l0, h0⟩⟩
    refine norm_ (a' := ?_) ?_ ?_
    rotate_left
    · show putAll _ _ = _
      simp only [putAll, Act.put, List.setIfInBounds_toArray, List.set_cons_zero, List.set_cons_succ]
      rfl
    refine wpAnyLast_ready (rs := [2, 4, 5]) (by kernel_rfl) (by simp) ?_
    refine AllReadyL.cons rfl (by decide) (fun K hK => ?_) ?_
    · refine goes_ Try.func70 (by kernel_rfl) rfl #[.agg #[.slice A0_0 l0_0.length c0_0]] (by rfl) rfl rfl (by (try simp only [List.map_toArray, List.map_cons, List.map_nil]); first | done | rfl) ?_
      with_reducible refine (impl_Poset_n.calls A0_0 c0_0 l0_0 (l0_0.length : Int) _ (Kd.C_below HR.out (HB0.out.trans (hB.mono HB0.out.size))) HC.out rfl).mono ?_
      rintro e w1 ⟨rfl, hb⟩
      refine ⟨_, rfl, ?_⟩
      refine hK.out _ _ (hSof _ (below_step hB hb)) (fun _ => ?_)
      exact norm_ (by rfl) (J11000 (b0, g, go, gw) _ ⟨below_step hB hb, ⟨l0, blk_below h0 hb⟩⟩)
    refine AllReadyL.cons rfl (by decide) (fun K hK => ?_) ?_
    · refine value_ (w1 := ?_) (v := ?_) (by rfl) rfl ?_ ?_
      rotate_left 2
      · go_simp
        constructor
        · rfl
        · rfl
      refine hK.out _ _ (hSof _ (below_alloc hB _)) (fun _ => ?_)
      exact norm_ (by rfl) (J01100 (b0, g, w'.heap.size, gw) _ ⟨below_alloc hB _, ⟨l0, blk_alloc h0 _⟩, ⟨hB.size, blk_new w' _⟩⟩)
    refine AllReadyL.cons rfl (by decide) (fun K hK => ?_) ?_
    · refine value_ (w1 := ?_) (v := ?_) (by rfl) rfl ?_ ?_
      rotate_left 2
      · go_simp
        constructor
        · rfl
        · rfl
      refine hK.out _ _ (hSof _ (below_alloc hB _)) (fun _ => ?_)
      exact norm_ (by rfl) (J01010 (b0, g, go, w'.heap.size) _ ⟨below_alloc hB _, ⟨l0, blk_alloc h0 _⟩, ⟨hB.size, blk_new w' _⟩⟩)
    exact AllReadyL.nil
  refine join_ (σ := Nat × Nat × Nat × Nat) 6 #[false, true, true, false, false, false, false, false] (fun s => [(10, .int .i64 (l0_0.length : Int))]) (fun s w' => Below W0.heap.size W0 w') ?_ (fun J10000 => ?_)
  · rintro ⟨b0, g, go, gw⟩ w' hB
    refine norm_ (a' := ?_) ?_ ?_
    rotate_left
    · show putAll _ _ = _
      simp only [putAll, Act.put, List.setIfInBounds_toArray, List.set_cons_zero, List.set_cons_succ]
      rfl
    refine wpAnyLast_ready (rs := [0, 3, 4, 5]) (by kernel_rfl) (by simp) ?_
    refine AllReadyL.cons rfl (by decide) (fun K hK => ?_) ?_
    · refine value_ (w1 := ?_) (v := ?_) (by rfl) rfl ?_ ?_
      rotate_left 2
      · go_simp
        constructor
        · rfl
        · rfl
      refine hK.out _ _ (hSof _ (below_alloc hB _)) (fun _ => ?_)
      exact norm_ (by rfl) (J11000 (w'.heap.size, g, go, gw) _ ⟨below_alloc hB _, ⟨hB.size, blk_new w' _⟩⟩)
    refine AllReadyL.cons rfl (by decide) (fun K hK => ?_) ?_
    · refine value_ (w1 := ?_) (v := ?_) (by rfl) rfl ?_ ?_
      rotate_left 2
      · go_simp
        constructor
        · rfl
        · rfl
      refine hK.out _ _ (hSof _ (below_alloc hB _)) (fun _ => ?_)
      exact norm_ (by rfl) (J20000 (b0, w'.heap.size, go, gw) _ ⟨below_alloc hB _, ⟨hB.size, blk_new w' _⟩⟩)
    refine AllReadyL.cons rfl (by decide) (fun K hK => ?_) ?_
    · refine value_ (w1 := ?_) (v := ?_) (by rfl) rfl ?_ ?_
      rotate_left 2
      · go_simp
        constructor
        · rfl
        · rfl
      refine hK.out _ _ (hSof _ (below_alloc hB _)) (fun _ => ?_)
      exact norm_ (by rfl) (J10100 (b0, g, w'.heap.size, gw) _ ⟨below_alloc hB _, ⟨hB.size, blk_new w' _⟩⟩)
    refine AllReadyL.cons rfl (by decide) (fun K hK => ?_) ?_
    · refine value_ (w1 := ?_) (v := ?_) (by rfl) rfl ?_ ?_
      rotate_left 2
      · go_simp
        constructor
        · rfl
        · rfl
      refine hK.out _ _ (hSof _ (below_alloc hB _)) (fun _ => ?_)
      exact norm_ (by rfl) (J10010 (b0, g, go, w'.heap.size) _ ⟨below_alloc hB _, ⟨hB.size, blk_new w' _⟩⟩)
    exact AllReadyL.nil
  have hB : Below W0.heap.size W0 W0 := Below.refl _ _
  obtain ⟨b0, g, go, gw⟩ : Nat × Nat × Nat × Nat := (0, 0, 0, 0)
  refine wpAnyLast_ready (rs := [0, 2, 4, 5]) (by kernel_rfl) (by simp) ?_
  refine AllReadyL.cons rfl (by decide) (fun K hK => ?_) ?_
  · refine value_ (w1 := ?_) (v := ?_) (by rfl) rfl ?_ ?_
    rotate_left 2
    · go_simp
      constructor
      · rfl
      · rfl
    refine hK.out _ _ (hSof _ (below_alloc hB _)) (fun _ => ?_)
    exact norm_ (by rfl) (J01000 (W0.heap.size, g, go, gw) _ ⟨below_alloc hB _, ⟨hB.size, blk_new W0 _⟩⟩)
  refine AllReadyL.cons rfl (by decide) (fun K hK => ?_) ?_
  · refine goes_ Try.func70 (by kernel_rfl) rfl #[.agg #[.slice A0_0 l0_0.length c0_0]] (by rfl) rfl rfl (by (try simp only [List.map_toArray, List.map_cons, List.map_nil]); first | done | rfl) ?_
    with_reducible refine (impl_Poset_n.calls A0_0 c0_0 l0_0 (l0_0.length : Int) _ (Kd.C_below HR.out (HB0.out.trans (hB.mono HB0.out.size))) HC.out rfl).mono ?_
    rintro e w1 ⟨rfl, hb⟩
    refine ⟨_, rfl, ?_⟩
    refine hK.out _ _ (hSof _ (below_step hB hb)) (fun _ => ?_)
    exact norm_ (by rfl) (J10000 (b0, g, go, gw) _ (below_step hB hb))
  refine AllReadyL.cons rfl (by decide) (fun K hK => ?_) ?_
  · refine value_ (w1 := ?_) (v := ?_) (by rfl) rfl ?_ ?_
    rotate_left 2
    · go_simp
      constructor
      · rfl
      · rfl
    refine hK.out _ _ (hSof _ (below_alloc hB _)) (fun _ => ?_)
    exact norm_ (by rfl) (J00100 (b0, g, W0.heap.size, gw) _ ⟨below_alloc hB _, ⟨hB.size, blk_new W0 _⟩⟩)
  refine AllReadyL.cons rfl (by decide) (fun K hK => ?_) ?_
  · refine value_ (w1 := ?_) (v := ?_) (by rfl) rfl ?_ ?_
    rotate_left 2
    · go_simp
      constructor
      · rfl
      · rfl
    refine hK.out _ _ (hSof _ (below_alloc hB _)) (fun _ => ?_)
    exact norm_ (by rfl) (J00010 (b0, g, go, W0.heap.size) _ ⟨below_alloc hB _, ⟨hB.size, blk_new W0 _⟩⟩)
  exact AllReadyL.nil
end Go.Proofs.Ytemkddgfneohhaa.F
end

section
namespace Go.Proofs.Ytemkddgfneohhaa.Q
open Go.RowKit Go.Proofs.YtemkddgfneohhaaW.PrintWords Go.Proofs.Ytemkddgfneohhaa.F
set_option linter.unusedVariables false
theorem mxN (a b : Nat) : mx (a : Int) (b : Int) = ((max a b : Nat) : Int) := by unfold mx; split <;> omega
theorem itemsN_cut {m i : Nat} (h : m < 2 ^ i) (hi : i ≤ 10) : itemsN m = (List.range i).filter m.testBit := by
  unfold itemsN
  obtain ⟨d, hd⟩ : ∃ d, 10 = i + d := ⟨10 - i, by omega⟩
  rw [hd, List.range_add, List.filter_append]
  have : ((List.range d).map (i + ·)).filter m.testBit = [] := by
    rw [List.filter_eq_nil_iff]
    intro x hx
    obtain ⟨y, _, rfl⟩ := List.mem_map.1 hx
    rw [bit_lt h (Nat.le_add_right _ _)]; simp
  rw [this, List.append_nil]
theorem lbLeast_eq {f : List Int} {g : List Nat} (hg : ∀ j, j < g.length → f.getD j 0 = (g.getD j 0 : Int)) (hl : g.length ≤ f.length) : ∀ (l : List Nat), (∀ j ∈ l, j < g.length) → ∀ x : Nat, lbLeast f (x : Int) (ints l) = some ((l.foldl (fun a j => max a (g.getD j 0)) x : Nat) : Int)
  | [], _, x => rfl
  | j :: l, h, x => by
    have hj := h j List.mem_cons_self
    show lbLeast f (x : Int) ((j : Int) :: ints l) = _
    unfold lbLeast
    rw [if_pos ⟨by omega, by omega⟩, rdN, hg j hj, mxN]
    exact lbLeast_eq hg hl l (fun y hy => h y (List.mem_cons_of_mem _ hy)) _
theorem foldl_leastN (p : List Int) (g : List Nat) : ∀ k, ((List.range k).filter (L p g.length).testBit).foldl (fun a j => max a (g.getD j 0)) 0 = leastN p g k
  | 0 => rfl
  | k + 1 => by
    rw [leastN_step, List.range_succ, List.filter_append, List.foldl_append, foldl_leastN p g k, List.filter_cons, List.filter_nil]
    split <;> rfl
theorem lbLeast_ev {p : List Int} (hp : PO p) {f : List Int} {g : List Nat} (hi : g.length < p.length) (hg : f.take g.length = ints g) (hl : f.length = p.length) : lbLeast f 0 (ints (itemsN (L p g.length))) = some ((leastN p g g.length : Nat) : Int) := by
  have hn := hp.small
  have hcut := itemsN_cut (hp.lt _ hi) (by omega)
  have hgd : ∀ j, j < g.length → f.getD j 0 = (g.getD j 0 : Int) := fun j hj => by
    have h1 : (f.take g.length).getD j 0 = f.getD j 0 := by
      rw [List.getD_eq_getElem?_getD, List.getD_eq_getElem?_getD, List.getElem?_take, if_pos hj]
    rw [← h1, hg, ints_get]
  have := lbLeast_eq hgd (by omega) (itemsN (L p g.length)) (fun j hj => by rw [hcut] at hj; exact List.mem_range.1 (List.mem_filter.1 hj).1) 0
  rw [hcut, foldl_leastN] at this
  rw [hcut]
  exact this
theorem set_take {f : List Int} {g : List Nat} {x : Nat} (hg : f.take g.length = ints g) (hl : g.length < f.length) : (f.set g.length (x : Int)).take (g ++ [x]).length = ints (g ++ [x]) := by
  rw [List.length_append, List.length_singleton, List.take_add_one, List.take_set_of_le (Nat.le_refl _), hg, List.getElem?_set_self hl, ints_app]
  rfl
theorem take_less {f : List Int} {g : List Nat} {x : Nat} (h : f.take (g ++ [x]).length = ints (g ++ [x])) : f.take g.length = ints g := by
  have h2 : (f.take (g ++ [x]).length).take g.length = (ints (g ++ [x])).take g.length := by rw [h]
  rw [List.take_take, List.length_append, List.length_singleton, Nat.min_eq_left (by omega), ints_app, List.take_left' (ints_len g)] at h2
  exact h2
theorem lbPut_ev {p : List Int} (hp : PO p) {m : Nat} (hm : m ≤ 12) : ∀ (d : Nat) (g : List Nat) (f : List Int), g.length + d = p.length → f.length = p.length → f.take g.length = ints g → (∀ i, i < g.length → g.getD i 0 ≤ m) →
    ∃ f', f'.length = p.length ∧ f'.take g.length = ints g ∧ ∃ K, ∀ F D, K ≤ F → K ≤ D → lbPut F p (m : Int) D g.length f = some ((laN p m d g).map ints, f') := by
  have hn := hp.small
  intro d
  induction d with
  | zero =>
    intro g f hd hf hg _
    refine ⟨f, hf, hg, 1, fun F D _ hD => ?_⟩
    obtain ⟨D, rfl⟩ : ∃ D', D = D' + 1 := ⟨D - 1, by omega⟩
    unfold lbPut
    rw [if_pos (by omega), if_pos (by omega)]
    rw [List.take_of_length_le (by omega)] at hg
    unfold laN
    rw [List.map_cons, List.map_nil, ← hg]
  | succ d ih =>
    intro g f hd hf hg hgm
    have hi : g.length < p.length := by omega
    have row : ∀ (e x : Nat) (f : List Int), x + e = m + 1 → f.length = p.length → f.take g.length = ints g → ∃ f', f'.length = p.length ∧ f'.take g.length = ints g ∧ ∃ K, ∀ F D E, K ≤ F → K ≤ D → e < E → lbRow (lbPut F p (m : Int) D (g.length + 1)) (m : Int) g.length E (x : Int) f = some (((List.range' x e).flatMap fun x => laN p m d (g ++ [x])).map ints, f') := by
      intro e
      induction e with
      | zero =>
        intro x f hx hf hg
        refine ⟨f, hf, hg, 0, fun F D E _ _ hE => ?_⟩
        obtain ⟨E, rfl⟩ : ∃ E', E = E' + 1 := ⟨E - 1, by omega⟩
        unfold lbRow
        rw [if_neg (by omega)]; rfl
      | succ e ihe =>
        intro x f hx hf hg
        obtain ⟨f1, h1, h2, K1, h3⟩ := ih (g ++ [x]) (f.set g.length (x : Int)) (by rw [List.length_append, List.length_singleton]; omega) (by rw [List.length_set]; exact hf) (set_take hg (by omega)) (fun i hi2 => by
          rw [List.length_append, List.length_singleton] at hi2
          rw [getD_snoc]
          split
          · omega
          · exact hgm i (by omega))
        obtain ⟨f2, h4, h5, K2, h6⟩ := ihe (x + 1) f1 (by omega) h1 (take_less h2)
        refine ⟨f2, h4, h5, K1 + K2, fun F D E hF hD hE => ?_⟩
        obtain ⟨E, rfl⟩ : ∃ E', E = E' + 1 := ⟨E - 1, by omega⟩
        unfold lbRow
        have h7 := h3 F D (by omega) (by omega)
        rw [List.length_append, List.length_singleton] at h7
        have h8 := h6 F D E (by omega) (by omega) (by omega)
        rw [if_pos (by omega), h7, Option.bind_some, show wrap64 ((x : Int) + 1) = ((x + 1 : Nat) : Int) by rw [wid (by omega) (by omega)]; omega, h8, Option.bind_some, range'_succ'', List.flatMap_cons, List.map_append]
    obtain ⟨K1, e1⟩ := items_ev (L p g.length) (lt_pow (hp.lt _ hi) (by omega))
    have hle : leastN p g g.length ≤ m := (leastN_le p g m g.length).2 fun j hj _ => hgm j hj
    obtain ⟨f', h1, h2, K2, h3⟩ := row (m + 1 - leastN p g g.length) (leastN p g g.length) f (by omega) hf hg
    refine ⟨f', h1, h2, K1 + K2 + m + 3, fun F D hF hD => ?_⟩
    obtain ⟨D, rfl⟩ : ∃ D', D = D' + 1 := ⟨D - 1, by omega⟩
    have e2 : impl_items.f F ((L p g.length : Nat) : Int) = some (ints (itemsN (L p g.length))) := e1 F (by omega)
    unfold lbPut
    rw [if_neg (by omega), if_pos ⟨hi, by omega⟩, rdN, hp.val _ hi, e2, Option.bind_some, if_pos (by rw [ints_len]; have := itemsN_len (L p g.length); omega), lbLeast_ev hp hi hg hf, Option.bind_some]
    exact h3 F D F (by omega) (by omega) (by omega)
theorem labels_ev {p : List Int} (hp : PO p) {m : Nat} (hm : m ≤ 12) (hc : (labsN p m).length ≤ 100000) : Ev (fun k => impl_Poset_labels.f k p (m : Int)) ((labsN p m).map ints) := by
  have hn := hp.small
  have h1 := hp.pos
  obtain ⟨f', _, _, K, hK⟩ := lbPut_ev hp hm p.length [] (List.replicate p.length 0) (by simp) (by simp) rfl (fun i hi => by cases hi)
  refine ⟨K, fun k hk => ?_⟩
  show impl_Poset_labels.f k p (m : Int) = _
  unfold impl_Poset_labels.f
  have h := hK k k hk hk
  rw [List.length_nil] at h
  rw [if_pos ⟨h1, by omega⟩, h, Option.bind_some, if_pos (by rw [List.length_map]; exact hc)]
  rfl
end Go.Proofs.Ytemkddgfneohhaa.Q
end

section
namespace Go.Proofs.Ytemkddgfneohhaa.F
open Go.RowKit Go.Maps Go.Proofs.YtemkddgfneohhaaW.PrintWords Go.Proofs.YtemkddgfneohhaaW.PrintLast Go.Proofs.YtemkddgfneohhaaW.PrintMore
set_option linter.unusedVariables false
set_option linter.unusedSimpArgs false
theorem mp_law : Keyed Try.prog 3 := int_keyed Try.underlying3
theorem mp_zero (w : World) : (zeroValue 3).run Try.prog w = .ok (.int .i64 0) w := by kernel_rfl
/-- An entry of a map's literal. -/
theorem wpList_insert_own {H : Type} {P : Program} (w : World) {ops : Array Oper} {rest : List Oper} {o : Oper} {a : Act} {Q : Exit → Act → World → Prop}
    (hg : o.guard = none) (m x v : Operand) (t : TypeId) (hop : o.op = Op.insert t m x v)
    (k e : TypeId) (K : Keyed P k) (ht : P.underlying t = some (.map k e)) (R : Value → Option (DataW H × List MemPlace)) (b n : Nat) (D : DataW H)
    (hm : a.eval m = .map (some b)) (hown : w.ownsMap P k R b n D) (hn : n < maxLen) (key val : Value) (kl : Lit) (hx : a.eval x = key) (hv : a.eval v = val) (hkey : keyOf P k key = some kl)
    (d : DataW H) (ps : List MemPlace) (hval : R val = some (d, ps))
    (hK : ∀ w', w'.ownsMap P k R b (n + 1) (D.put kl d) → w.grownBy w' (some b) → wpList P ops Q rest (a.put o.dst undef) w') :
    wpList P ops Q (o :: rest) a w := by
  refine wpList_plain hg fun K' hK' => ?_
  obtain ⟨w', hrun, r1, r2⟩ := hown.update K ht hn hkey hval
  unfold Oper.wp
  simp [execOp, hop, hm, hx, hv, hrun, Result.andThen]
  exact hK' _ _ (hK w' r1 r2)
theorem mp_nodup_le {α : Type} [DecidableEq α] : ∀ (l m : List α), l.Nodup → (∀ x ∈ l, x ∈ m) → l.length ≤ m.length
  | [], _, _, _ => Nat.zero_le _
  | x :: l, m, hn, h => by
    obtain ⟨h1, h2⟩ := List.nodup_cons.1 hn
    have hx : x ∈ m := h x List.mem_cons_self
    have := mp_nodup_le l (m.erase x) h2 (fun y hy => (List.mem_erase_of_ne (fun e => h1 (by rw [← e]; exact hy))).2 (h y (List.mem_cons_of_mem _ hy)))
    rw [List.length_erase_of_mem hx] at this
    have hp : 0 < m.length := List.length_pos_of_mem hx
    simp only [List.length_cons]
    omega
theorem mp_tight {H : Type} {P : Program} {k : TypeId} {R : Value → Option (DataW H × List MemPlace)} {w : World} {b n m : Nat} {D : DataW H} (h : w.ownsMap P k R b n D) (hm : Maps.size D ≤ m) : w.ownsMap P k R b m D := by
  obtain ⟨es, clock, hb, F, hs, rfl⟩ := h
  exact ⟨es, clock, hb, F, by rw [Maps.size_eq, length_sorted] at hm; simpa using hm, rfl⟩
/-- What a map reads as at the numbers of a list; it has no other keys. -/
structure MpReads {H : Type} (D : DataW H) (ids : List Int) (v : Int → Int) : Prop where
  at_ : ∀ s ∈ ids, D.atKey (.int .i64 s) (.lit (.int .i64 0)) = .lit (.int .i64 (v s))
  has_ : ∀ kl, Maps.has D kl = true → ∃ s ∈ ids, kl = .int .i64 s
theorem mp_norm {H : Type} {P : Program} {k : TypeId} {R : Value → Option (DataW H × List MemPlace)} {w : World} {b n : Nat} {D : DataW H} {ids : List Int} {v : Int → Int} (K : Keyed P k) (h : w.ownsMap P k R b n D) (hr : MpReads D ids v) : w.ownsMap P k R b ids.length D := by
  refine mp_tight h ?_
  obtain ⟨es, rfl, hp, hk⟩ := h.entries K
  rw [Maps.size_eq]
  haveI : DecidableEq Lit := fun a b => Classical.propDecidable (a = b)
  have hn : (es.map Prod.fst).Nodup := by
    rw [List.nodup_iff_pairwise_ne, List.pairwise_map]
    exact hp
  have hsub : ∀ x ∈ es.map Prod.fst, x ∈ ids.map (Lit.int .i64) := fun x hx => by
    obtain ⟨p, hp1, rfl⟩ := List.mem_map.1 hx
    obtain ⟨s, hs, e⟩ := hr.has_ p.1 (List.any_eq_true.2 ⟨p, hp1, WideAt.sameKey_self (hk p hp1)⟩)
    rw [e]
    exact List.mem_map.2 ⟨s, hs, rfl⟩
  have := mp_nodup_le _ _ hn hsub
  rw [List.length_map, List.length_map] at this
  exact this
theorem mp_empty {H : Type} (ids : List Int) : MpReads (.map [] : DataW H) ids (fun _ => 0) := ⟨fun _ _ => rfl, fun kl h => by cases h⟩
theorem mp_congr {H : Type} {D : DataW H} {ids : List Int} {v v' : Int → Int} (h : MpReads D ids v) (e : ∀ s ∈ ids, v s = v' s) : MpReads D ids v' := ⟨fun s hs => by rw [h.at_ s hs, e s hs], h.has_⟩
theorem mp_put {H : Type} {D : DataW H} {ids : List Int} {v : Int → Int} (hD : Maps.IsMap D) (h : MpReads D ids v) {t c : Int} (ht : t ∈ ids) : MpReads (D.put (.int .i64 t) (.lit (.int .i64 c))) ids (fun s => if s = t then c else v s) := by
  refine ⟨fun s hs => ?_, fun kl hk => ?_⟩
  · by_cases e : s = t
    · subst e
      rw [if_pos rfl]
      exact Maps.atKey_put_same hD (show WideAt.IsKeyLit (.int .i64 s) from trivial) _ _
    · rw [if_neg e, Maps.atKey_put_other (fun e2 => e (by injection e2)) _ _]
      exact h.at_ s hs
  · by_cases e : kl = .int .i64 t
    · exact ⟨t, ht, e⟩
    · rw [Maps.has_put_other e] at hk
      exact h.has_ kl hk
theorem mp_val {H : Type} {D : DataW H} {ids : List Int} {v : Int → Int} (h : MpReads D ids v) {x c : Int} (hk : Maps.has D (.int .i64 x) = true) (hat : ∀ zd, D.atKey (.int .i64 x) zd = .lit (.int .i64 c)) : x ∈ ids ∧ v x = c := by
  obtain ⟨s, hs, e⟩ := h.has_ _ hk
  injection e with _ e
  subst e
  have := h.at_ x hs
  rw [hat] at this
  injection this with this
  injection this with _ this
  exact ⟨hs, this.symm⟩
/-- The sum over those of a list for which something holds. -/
def mpTot (ids : List Int) (P : Int → Bool) (v : Int → Int) : Int := (ids.map fun s => if P s = true then v s else 0).sum
theorem mpTot_congr {ids : List Int} {P P' : Int → Bool} {v v' : Int → Int} (h : ∀ s ∈ ids, (if P s = true then v s else 0) = if P' s = true then v' s else 0) : mpTot ids P v = mpTot ids P' v' := by
  unfold mpTot
  rw [List.map_congr_left h]
theorem mpTot_step {P P' : Int → Bool} {v : Int → Int} {x : Int} (hP : P x = false) (ho : ∀ s, s ≠ x → P' s = P s) : ∀ ids : List Int, ids.Nodup → x ∈ ids → mpTot ids P' v = mpTot ids P v + if P' x = true then v x else 0
  | [], _, h => by cases h
  | s :: ids, hn, h => by
    obtain ⟨h1, h2⟩ := List.nodup_cons.1 hn
    unfold mpTot
    rw [List.map_cons, List.map_cons, List.sum_cons, List.sum_cons]
    by_cases e : s = x
    · subst e
      have h3 : (if P s = true then v s else 0) = 0 := by rw [hP]; rfl
      rw [h3]
      have e2 : (ids.map fun s => if P' s = true then v s else 0) = ids.map fun s => if P s = true then v s else 0 := List.map_congr_left fun y hy => by rw [ho y (fun e => h1 (by rw [← e]; exact hy))]
      rw [e2]
      omega
    · have hx : x ∈ ids := by
        rcases List.mem_cons.1 h with h | h
        · exact absurd h.symm e
        · exact h
      have := mpTot_step (v := v) hP ho ids h2 hx
      unfold mpTot at this
      rw [this, ho s e]
      omega
theorem mpTot_none {ids : List Int} {P : Int → Bool} {v : Int → Int} (h : ∀ s ∈ ids, P s = true → v s = 0) : mpTot ids P v = 0 := by
  have e : mpTot ids P v = mpTot ids (fun _ => false) v := mpTot_congr fun s hs => by
    cases hp : P s with
    | false => rfl
    | true => rw [if_pos rfl, h s hs hp]; rfl
  rw [e]
  unfold mpTot
  induction ids with
  | nil => rfl
  | cons s ids ih => rw [List.map_cons, List.sum_cons, ih (fun y hy => h y (List.mem_cons_of_mem _ hy)) (mpTot_congr fun s hs => by
    cases hp : P s with
    | false => rfl
    | true => rw [if_pos rfl, h s (List.mem_cons_of_mem _ hs) hp]; rfl)]; rfl
theorem mp_wrap_add (a b : Int) : wrap64 (wrap64 a + b) = wrap64 (a + b) := by unfold wrap64; omega
theorem mp_wrap_add' (a b : Int) : wrap64 (a + wrap64 b) = wrap64 (a + b) := by unfold wrap64; omega
/-- A key that is to come no more is one that is not of the map, or one that has come. -/
theorem mp_absent {H : Type} {D : DataW H} {ids : List Int} {v : Int → Int} (h : MpReads D ids v) {s : Int} (hs : s ∈ ids) (hk : Maps.has D (.int .i64 s) = false) : v s = 0 := by
  have := h.at_ s hs
  rw [Maps.atKey_of_not_has hk] at this
  injection this with this
  injection this with _ this
  exact this.symm
theorem mp_strike (left : Lit → Bool) (x s : Int) (h : s ≠ x) : ((fun z : Lit => left z && !z.sameKey (.int .i64 x)) (.int .i64 s)) = left (.int .i64 s) := by
  show (left (.int .i64 s) && !(Lit.int .i64 s).sameKey (.int .i64 x)) = _
  rw [Maps.sameKey_ne (fun e => h (by injection e))]
  simp
theorem mp_struck (left : Lit → Bool) (x : Int) : ((fun z : Lit => left z && !z.sameKey (.int .i64 x)) (.int .i64 x)) = false := by
  show (left (.int .i64 x) && !(Lit.int .i64 x).sameKey (.int .i64 x)) = _
  rw [WideAt.sameKey_self (show WideAt.IsKeyLit (.int .i64 x) from trivial)]
  simp
theorem mp_cell {ids : List Int} {W W1 : World} {b g c : Nat} {ok : Nat → Prop} (hr : Kd.R (Kd.int .i64) 3 W b ok (.slice (some ⟨g, 0, none⟩) ids.length c) ids) (hb : Below W.heap.size W W1) (i : Nat) (hi : i < ids.length) :
    W1.cell? ⟨g, i, none⟩ = some (.int .i64 (ids.getD i 0)) := by
  have h2 := (Kd.R_cell (0 : Int) (Kd.R_below hr hb) (i : Int) (by omega) (by omega)).1
  rw [Int.toNat_natCast] at h2
  rw [h2]
  congr 2
theorem mp_wf {n : Int} (h : -9223372036854775808 ≤ n ∧ n ≤ 9223372036854775807) : (Lit.int .i64 n).wf = true := WalkArith.wf_i64 h
theorem mp_grown {w w' : World} (hb : Below w.heap.size w w') : w.grownBy w' none := ⟨hb.os, hb.tape, hb.output, hb.size, fun k hk _ => hb.block k hk⟩
theorem mp_emptyO {X : World} {base n e sz : Nat} (hn : base ≤ n) (hx : X.heap[n]? = some (.cells #[] e (0, 0))) : X.ownsRow base e sz (.slice (some ⟨n, 0, none⟩) 0 0) 0 [] :=
  ⟨by simp, .inr ⟨n, 0, #[], rfl, hn, hx, by omega, by omega, by simp, by simp⟩⟩
theorem mp_emptyR {α : Type} (d : Kd α) {X : World} {base n e : Nat} {ok : Nat → Prop} (hn : base ≤ n) (hx : X.heap[n]? = some (.cells #[] e (0, 0))) (hok : ok n) : d.R e X base ok (.slice (some ⟨n, 0, none⟩) 0 0) ([] : List α) :=
  ⟨fun k hk => by
    have : n = k := by simpa [Value.ownBlock] using hk
    exact this ▸ hok, [], mp_emptyO hn hx, Reps.none _ _⟩
/-- A row's own block is no map. -/
theorem mp_apart {H : Type} {P : Program} {k : TypeId} {R : Value → Option (DataW H × List MemPlace)} {W : World} {b n base e : Nat} {D : DataW H} {ok : Nat → Prop} {v : Value} {xs : List Int} (h : Kd.R (Kd.int .i64) e W base ok v xs) (hm : W.ownsMap P k R b n D) : some b ≠ v.ownBlock := by
  intro hv
  obtain ⟨_, _, _, q, _, cells, hc⟩ := (Kd.R_bound h).1 b hv.symm
  obtain ⟨es, clock, hb, _⟩ := hm
  rw [hb] at hc
  cases hc
theorem mp_row_kept {H : Type} {P : Program} {k : TypeId} {R : Value → Option (DataW H × List MemPlace)} {W W1 : World} {b n base e : Nat} {D : DataW H} {ok : Nat → Prop} {v : Value} {xs : List Int} (h : Kd.R (Kd.int .i64) e W base ok v xs) (hm : W.ownsMap P k R b n D) (hg : W.grownBy W1 (some b)) : Kd.R (Kd.int .i64) e W1 base ok v xs :=
  Kd.R_grown2 h rfl hg (fun k hk => by cases hk; exact mp_apart h hm)
/-- An iterator's block is none of a row. -/
theorem mp_iter_kept {H : Type} {P : Program} {k : TypeId} {R : Value → Option (DataW H × List MemPlace)} {W W1 : World} {b r n base e cnt : Nat} {D : DataW H} {left : Lit → Bool} {ok : Nat → Prop} {v : Value} {xs : List Int} (h : Kd.R (Kd.int .i64) e W base ok v xs) (hm : W.ranges P k R b r n D left cnt) (hg : W.grownBy W1 (some r)) : Kd.R (Kd.int .i64) e W1 base ok v xs :=
  Kd.R_grown2 h rfl hg (fun k hk => by
    cases hk
    intro hv
    obtain ⟨_, _, _, q, _, cells, hc⟩ := (Kd.R_bound h).1 r hv.symm
    obtain ⟨es, clock, since, seen, c0, _, _, _, _, hr, _⟩ := hm
    rw [hr] at hc
    cases hc)
end Go.Proofs.Ytemkddgfneohhaa.F
end

section
namespace Go.Proofs.Ytemkddgfneohhaa.F
open Go.RowKit Go.Maps Go.Proofs.YtemkddgfneohhaaW.PrintWords Go.Proofs.YtemkddgfneohhaaW.PrintLast Go.Proofs.YtemkddgfneohhaaW.PrintMore
set_option linter.unusedVariables false
set_option linter.unusedSimpArgs false
/-- How many rows end in t, out of how many end in each. -/
def cntNew (B : Int → Int → Bool) (ids : List Int) (v : Int → Int) (t : Int) : Int := wrap64 (mpTot ids (fun s => B s t) v)
def cntAt (B : Int → Int → Bool) (ids : List Int) : Nat → Int → Int
  | 0 => fun s => if s = 0 then 1 else 0
  | k + 1 => cntNew B ids (cntAt B ids k)
def cntOk (ids : List Int) : Bool := decide (ids.Nodup) && (decide ((0 : Int) ∈ ids) && (decide (ids.length ≤ 1024) && ids.all fun s => decide (-9223372036854775808 ≤ s ∧ s ≤ 9223372036854775807)))
theorem cntOk_parts {ids : List Int} (h : cntOk ids = true) : ids.Nodup ∧ (0 : Int) ∈ ids ∧ ids.length ≤ 1024 ∧ ∀ s ∈ ids, -9223372036854775808 ≤ s ∧ s ≤ 9223372036854775807 := by
  unfold cntOk at h
  rw [Bool.and_eq_true, Bool.and_eq_true, Bool.and_eq_true, decide_eq_true_eq, decide_eq_true_eq, decide_eq_true_eq] at h
  exact ⟨h.1, h.2.1, h.2.2.1, fun s hs => of_decide_eq_true (List.all_eq_true.1 h.2.2.2 s hs)⟩
/-- The map in which the next rows are counted, while the old one is ranged over: the values at the elements ahead of i are drawn up, that at t as far as the range has come. -/
def cntMid (B : Int → Int → Bool) (ids : List Int) (v : Int → Int) (i : Nat) (s : Int) : Int := if s ∈ ids.take i then cntNew B ids v s else 0
def cntIn (B : Int → Int → Bool) (ids : List Int) (v : Int → Int) (i : Nat) (t : Int) (left : Lit → Bool) (s : Int) : Int := if s = t then wrap64 (mpTot ids (fun s => B s t && !left (.int .i64 s)) v) else cntMid B ids v i s
theorem cnt_notyet {ids : List Int} (hn : ids.Nodup) {i : Nat} (hi : i < ids.length) : ids.getD i 0 ∉ ids.take i := by
  rw [List.getD_eq_getElem?_getD, List.getElem?_eq_getElem hi]
  show ids[i] ∉ ids.take i
  intro h
  obtain ⟨j, hj, e⟩ := List.mem_take_iff_getElem.1 h
  have := (List.nodup_iff_pairwise_ne.1 hn)
  rw [List.pairwise_iff_getElem] at this
  exact this j i (by omega) hi (by omega) e
theorem cnt_start {B : Int → Int → Bool} {D Dr : DataW Unit} {ids : List Int} {v : Int → Int} {i : Nat} {t : Int} (hr : MpReads Dr ids v) (h : MpReads D ids (cntMid B ids v i)) (ht : t ∉ ids.take i) : MpReads D ids (cntIn B ids v i t (Maps.has Dr)) := by
  refine mp_congr h fun s hs => ?_
  unfold cntIn
  by_cases e : s = t
  · subst e
    rw [if_pos rfl, mpTot_none]
    · unfold cntMid; rw [if_neg ht]; unfold wrap64; decide
    · intro y hy hp
      simp only [Bool.and_eq_true, Bool.not_eq_true'] at hp
      exact mp_absent hr hy hp.2
  · rw [if_neg e]
theorem cnt_end {B : Int → Int → Bool} {D : DataW Unit} {ids : List Int} {v : Int → Int} {i : Nat} {left : Lit → Bool} (hn : ids.Nodup) (hi : i < ids.length) (hl : ∀ kl, left kl = false) (h : MpReads D ids (cntIn B ids v i (ids.getD i 0) left)) : MpReads D ids (cntMid B ids v (i + 1)) := by
  refine mp_congr h fun s hs => ?_
  have e0 : ids.take (i + 1) = ids.take i ++ [ids.getD i 0] := by
    rw [List.take_add_one, List.getElem?_eq_getElem hi, List.getD_eq_getElem?_getD, List.getElem?_eq_getElem hi]; rfl
  unfold cntIn cntMid
  rw [e0]
  by_cases e : s = ids.getD i 0
  · rw [if_pos e, if_pos (List.mem_append.2 (.inr (by rw [e]; exact List.mem_singleton.2 rfl))), e]
    unfold cntNew
    congr 1
    exact mpTot_congr fun y hy => by rw [hl]; simp
  · rw [if_neg e]
    by_cases e2 : s ∈ ids.take i
    · rw [if_pos e2, if_pos (List.mem_append.2 (.inl e2))]
    · rw [if_neg e2, if_neg (fun h => by
        rcases List.mem_append.1 h with h | h
        · exact e2 h
        · exact e (List.mem_singleton.1 h))]
/-- An entry has come that is no part of t. -/
theorem cnt_skip {B : Int → Int → Bool} {D : DataW Unit} {ids : List Int} {v : Int → Int} {i : Nat} {t x : Int} {left : Lit → Bool} (hn : ids.Nodup) (hx : x ∈ ids) (hlx : left (.int .i64 x) = true) (hb : B x t = false)
    (h : MpReads D ids (cntIn B ids v i t left)) : MpReads D ids (cntIn B ids v i t (fun z => left z && !z.sameKey (.int .i64 x))) := by
  refine mp_congr h fun s hs => ?_
  unfold cntIn
  by_cases e : s = t
  · rw [if_pos e, if_pos e]
    congr 1
    have := mpTot_step (v := v) (x := x) (P := fun s => B s t && !left (.int .i64 s)) (P' := fun s => B s t && !(fun z : Lit => left z && !z.sameKey (.int .i64 x)) (.int .i64 s)) (by rw [hlx]; simp) (fun y hy => by show (_ && !((fun z : Lit => left z && !z.sameKey (.int .i64 x)) (.int .i64 y))) = _; rw [mp_strike left x y hy]) ids hn hx
    rw [this, if_neg (by show ¬ ((_ && _) = true); rw [hb]; simp)]
    omega
  · rw [if_neg e, if_neg e]
/-- An entry has come that is part of t. -/
theorem cnt_add {B : Int → Int → Bool} {D : DataW Unit} {ids : List Int} {v : Int → Int} {i : Nat} {t x c c0 : Int} {left : Lit → Bool} (hn : ids.Nodup) (ht : t ∈ ids) (hx : x ∈ ids) (hc : v x = c) (hlx : left (.int .i64 x) = true) (hb : B x t = true)
    (hD : Maps.IsMap D) (h : MpReads D ids (cntIn B ids v i t left)) (h0 : D.atKey (.int .i64 t) (.lit (.int .i64 0)) = .lit (.int .i64 c0)) : MpReads (D.put (.int .i64 t) (.lit (.int .i64 (wrap64 (c0 + c))))) ids (cntIn B ids v i t (fun z => left z && !z.sameKey (.int .i64 x))) := by
  refine mp_congr (mp_put hD h ht) fun s hs => ?_
  have e0 : c0 = wrap64 (mpTot ids (fun s => B s t && !left (.int .i64 s)) v) := by
    have := h.at_ t ht
    rw [h0] at this
    injection this with this
    injection this with _ this
    rw [this]
    unfold cntIn
    rw [if_pos rfl]
  unfold cntIn
  by_cases e : s = t
  · rw [if_pos e, if_pos e, e0, mp_wrap_add]
    congr 1
    have := mpTot_step (v := v) (x := x) (P := fun s => B s t && !left (.int .i64 s)) (P' := fun s => B s t && !(fun z : Lit => left z && !z.sameKey (.int .i64 x)) (.int .i64 s)) (by rw [hlx]; simp) (fun y hy => by show (_ && !((fun z : Lit => left z && !z.sameKey (.int .i64 x)) (.int .i64 y))) = _; rw [mp_strike left x y hy]) ids hn hx
    rw [this, if_pos (by show (_ && _) = true; rw [hb, mp_struck]; rfl), hc]
  · rw [if_neg e, if_neg e, if_neg e]
/-- The sum at the end: another entry. -/
theorem cnt_sum {ids : List Int} {v : Int → Int} {x c : Int} {left : Lit → Bool} (hn : ids.Nodup) (hx : x ∈ ids) (hc : v x = c) (hlx : left (.int .i64 x) = true) :
    wrap64 (wrap64 (mpTot ids (fun s => !left (.int .i64 s)) v) + c) = wrap64 (mpTot ids (fun s => !(fun z : Lit => left z && !z.sameKey (.int .i64 x)) (.int .i64 s)) v) := by
  rw [mp_wrap_add]
  congr 1
  have := mpTot_step (v := v) (x := x) (P := fun s => !left (.int .i64 s)) (P' := fun s => !(fun z : Lit => left z && !z.sameKey (.int .i64 x)) (.int .i64 s)) (by rw [hlx]; rfl) (fun y hy => by show (!((fun z : Lit => left z && !z.sameKey (.int .i64 x)) (.int .i64 y))) = _; rw [mp_strike left x y hy]) ids hn hx
  rw [this, if_pos (by show (!_) = true; rw [mp_struck]; rfl), hc]
theorem cnt_first {B : Int → Int → Bool} (ids : List Int) (h : (0 : Int) ∈ ids) : MpReads ((DataW.map [] : DataW Unit).put (.int .i64 0) (.lit (.int .i64 1))) ids (cntAt B ids 0) := mp_congr (mp_put ⟨[], rfl⟩ (mp_empty ids) h) (fun _ _ => rfl)
theorem cnt_mid0 {B : Int → Int → Bool} (ids : List Int) (v : Int → Int) : MpReads (DataW.map [] : DataW Unit) ids (cntMid B ids v 0) := mp_congr (mp_empty ids) (fun s _ => by unfold cntMid; rw [if_neg (by simp)])
theorem cnt_done {B : Int → Int → Bool} {D : DataW Unit} {ids : List Int} {v : Int → Int} (h : MpReads D ids (cntMid B ids v ids.length)) : MpReads D ids (cntNew B ids v) := mp_congr h (fun s hs => by unfold cntMid; rw [List.take_length, if_pos hs])
end Go.Proofs.Ytemkddgfneohhaa.F
end

section
namespace Go.Proofs.Ytemkddgfneohhaa.Q
open Go.RowKit Go.Proofs.YtemkddgfneohhaaW.PrintWords Go.Proofs.Ytemkddgfneohhaa.F
set_option linter.unusedVariables false
theorem mpTot_ints {P' : Int → Bool} {v' : Int → Int} {P : Nat → Bool} {v : Nat → Nat} : ∀ ids : List Nat, (∀ s ∈ ids, P' (s : Int) = P s) → (∀ s ∈ ids, v' (s : Int) = (v s : Int)) → mpTot (ints ids) P' v' = ((sumL ((ids.filter P).map v) : Nat) : Int)
  | [], _, _ => rfl
  | s :: ids, h1, h2 => by
    have ih := mpTot_ints ids (fun s hs => h1 s (List.mem_cons_of_mem _ hs)) (fun s hs => h2 s (List.mem_cons_of_mem _ hs))
    unfold mpTot ints at ih ⊢
    rw [List.map_cons, List.map_cons, List.sum_cons, ih, List.filter_cons]
    have e1 := h1 s List.mem_cons_self
    have e2 := h2 s List.mem_cons_self
    show (if P' (s : Int) = true then v' (s : Int) else 0) + _ = _
    rw [e1, e2]
    cases P s with
    | true => rw [if_pos rfl, if_pos rfl, List.map_cons]; simp only [sumL]; omega
    | false => rw [if_neg (by simp), if_neg (by simp)]; omega
theorem cntAt_eq {p : List Int} (hp : p.length ≤ 10) {B' : Int → Int → Bool} {B : Nat → Nat → Bool} (hB : ∀ s ∈ idealsN p, ∀ t ∈ idealsN p, B' (s : Int) (t : Int) = B s t) (hsub : ∀ s t, B s t = true → subB s t = true) :
    ∀ k, k ≤ 14 → ∀ t ∈ idealsN p, cntAt B' (ints (idealsN p)) k (t : Int) = ((wvN B (idealsN p) k t : Nat) : Int)
  | 0, _, t, _ => by
    unfold cntAt wvN
    by_cases h : t = 0
    · subst h; rfl
    · rw [if_neg h, if_neg (by omega)]; rfl
  | k + 1, hk, t, ht => by
    unfold cntAt cntNew
    rw [mpTot_ints (P := fun s => B s t) (v := wvN B (idealsN p) k) (idealsN p) (fun s hs => hB s hs t ht) (fun s hs => cntAt_eq hp hB hsub k (by omega) s hs)]
    have := wvN_small hp (B := B) (k := k + 1) (t := t) hsub (by omega)
    have e : wvN B (idealsN p) (k + 1) t = sumL (((idealsN p).filter fun s => B s t).map (wvN B (idealsN p) k)) := by conv => lhs; unfold wvN
    rw [e] at this ⊢
    exact wid (by omega) (by omega)
theorem cntOk_ids {p : List Int} (hp : p.length ≤ 10) : cntOk (ints (idealsN p)) = true := by
  have h2 : 2 ^ p.length ≤ 1024 := Nat.le_trans (Nat.pow_le_pow_right (by decide) hp) (by decide)
  unfold cntOk
  rw [Bool.and_eq_true, Bool.and_eq_true, Bool.and_eq_true, decide_eq_true_eq, decide_eq_true_eq, decide_eq_true_eq, List.all_eq_true]
  refine ⟨?_, List.mem_map.2 ⟨0, zero_mem p, rfl⟩, ?_, fun x hx => ?_⟩
  · unfold ints
    rw [List.nodup_iff_pairwise_ne, List.pairwise_map]
    exact (List.nodup_iff_pairwise_ne.1 (idealsN_nodup p)).imp (fun h e => h (Int.ofNat.inj e))
  · rw [ints_len]; have := idealsN_len p; omega
  · obtain ⟨s, hs, rfl⟩ := List.mem_map.1 hx
    have := (mem_idealsN.1 hs).1
    refine decide_eq_true ?_
    show _ ≤ (s : Int) ∧ (s : Int) ≤ _
    omega
end Go.Proofs.Ytemkddgfneohhaa.Q
end

section
namespace Go.Proofs.Ytemkddgfneohhaa.F
open Go.RowKit Go.Maps Go.Proofs.YtemkddgfneohhaaW.PrintWords Go.Proofs.YtemkddgfneohhaaW.PrintLast Go.Proofs.YtemkddgfneohhaaW.PrintMore
set_option linter.unusedVariables false
set_option linter.unusedSimpArgs false
/-- Whether a set is part of another one. -/
def cntB (s t : Int) : Bool := Go.bits .andNot .i64 s t == 0
def impl_Poset_count.f (k : Nat) (l0_0 : List Int) (a1 : Int) : Option Int := (impl_Poset_ideals.f k l0_0).bind fun ids => if cntOk ids = true ∧ (0 ≤ a1 ∧ a1 ≤ 1000) then some (wrap64 (mpTot ids (fun _ => true) (cntAt cntB ids a1.toNat))) else none
theorem impl_Poset_count.mono : ∀ a0 a1 k, LeO (impl_Poset_count.f k a0 a1) (impl_Poset_count.f (k + 1) a0 a1) := fun a0 a1 k => LeO.bind (impl_Poset_ideals.mono _ _) (fun _ => LeO.refl _)
set_option maxHeartbeats 8000000 in
set_option maxRecDepth 100000 in
theorem impl_Poset_count.calls (k : Nat) (A0_0 : Option Addr) (c0_0 : Nat) (l0_0 : List Int) (a1 : Int) (r : Int) (w : World) (hr0_0 : Kd.C (Kd.int .i64) w A0_0 l0_0.length l0_0) (hc0_0 : l0_0.length ≤ c0_0) (h : impl_Poset_count.f k l0_0 a1 = some r) :
    Calls Try.prog 42 #[.agg #[.slice A0_0 l0_0.length c0_0], .int .i64 a1] w fun e w' => e = .returned (.int .i64 r) ∧ Below w.heap.size w w' := by
  have hu30 := Try.underlying30
  have hmm := @run_makeMap Try.prog
  unfold impl_Poset_count.f at h
  obtain ⟨ids, hid, h⟩ := Option.bind_eq_some_iff.1 h
  split at h
  rotate_left
  · cases h
  rename_i hok
  have h := Option.some.inj h
  obtain ⟨⟨hnd, h0, hlen, hwf⟩, ha0, ha1⟩ : (ids.Nodup ∧ (0 : Int) ∈ ids ∧ ids.length ≤ 1024 ∧ ∀ s ∈ ids, -9223372036854775808 ≤ s ∧ s ≤ 9223372036854775807) ∧ 0 ≤ a1 ∧ a1 ≤ 1000 := ⟨cntOk_parts hok.1, hok.2⟩
  obtain ⟨m, rfl⟩ := Int.eq_ofNat_of_zero_le ha0
  rw [Int.toNat_natCast] at h
  have hm : m ≤ 1000 := by omega
  have hpos : 0 < ids.length := List.length_pos_of_mem h0
  have HRES := Aside0.mk h
  have HID := Aside0.mk hid
  have HND := Aside0.mk hnd
  have HZ := Aside0.mk h0
  have HLEN := Aside0.mk hlen
  have HWF := Aside0.mk hwf
  have HM := Aside0.mk hm
  have HP := Aside0.mk hpos
  have HR := Aside0.mk (Kd.C_alloc hr0_0 (.cells #[.slice A0_0 l0_0.length c0_0] 30 (0, 0)))
  have HC := Aside0.mk hc0_0
  clear h hid hnd h0 hlen hwf hm hpos hr0_0 hc0_0 hok ha0 ha1
  go_enter Try.func42, Try.ntmps42
  go_wp2_with (first
    | (go_at_call 67; (with_reducible refine (impl_Poset_ideals.calls k A0_0 c0_0 l0_0 ids _ HR.out HC.out HID.out).mono ?_); rintro e w1 ⟨vi, rfl, hr1, hb1⟩; obtain ⟨g, cap, rfl, hgb, hgl, _⟩ := Kd.R_form hr1 HP.out; have HR1 := Aside0.mk hr1; have HB1 := Aside0.mk ((below_alloc (Below.refl w.heap.size w) _).trans (hb1.mono (by simp))); clear hr1 hb1 hgb)
    | (refine wpList_insert_own _ rfl (.tmp 17) (.const (.int .i64 0)) (.const (.int .i64 1)) 68 rfl 3 3 mp_law Try.underlying68 (plainElem (H := Unit) Try.prog 3) w1.heap.size 0 _ rfl (World.ownsMap_made w1 Try.prog 3 _) (by unfold maxLen; omega) (.int .i64 0) (.int .i64 1) (.int .i64 0) rfl rfl (keyOf_int_mk Try.underlying3 (by decide)) (.lit (.int .i64 1)) [] (plainElem_int Try.underlying3 (by decide)) ?_; intro w2 hown2 hgrow2; have HMAP := Aside0.mk (mp_norm mp_law hown2 (cnt_first (B := cntB) ids HZ.out)); have HB2 := Aside0.mk (((Below.refl w1.heap.size w1).alloc (Nat.le_refl _) (.map #[] 0)).grown hgrow2 (by simp) (fun j hj => by cases hj; exact Nat.le_refl _)); clear hown2 hgrow2)
    | go_in)
  clear hmm
  have hmm := @run_makeMap Try.prog
  go_loopg [6, 20] (m + 1) (fun kq v6 v20 w' => ∃ (q b : Nat) (D : DataW Unit), v6 = .map (some b) ∧ v20 = .int .i64 (q : Int) ∧ Aside0 (kq + q = m + 1 ∧ q ≤ m) ∧ Aside0 (w1.heap.size ≤ b) ∧ Aside0 (w'.ownsMap Try.prog 3 (plainElem Try.prog 3) b ids.length D) ∧ Aside0 (MpReads D ids (cntAt cntB ids q)) ∧ Aside0 (Below w1.heap.size w1 w'))
  case atStart => exact ⟨0, _, _, rfl, rfl, ⟨rfl, Nat.zero_le _⟩, ⟨Nat.le_refl _⟩, HMAP, ⟨cnt_first ids HZ.out⟩, HB2⟩
  case round =>
    obtain ⟨q, b, D, rfl, rfl, HK, HBB, HD, HRD, HBW⟩ := hrel
    obtain ⟨WA, rfl⟩ : ∃ x, x = wr := ⟨wr, rfl⟩
    cases gk with
    | zero => exact absurd HK.out (by omega)
    | succ k1 =>
      clear HMAP HB2
      by_cases hq : q < m
      · have d1 : decide ((q : Int) < (m : Int)) = true := decide_eq_true (by omega)
        have d2 : decide (q < m) = true := decide_eq_true hq
        have d3 := eq_true hq
        have HQ := Aside0.mk hq
        clear hq
        go_wp2_with (fail)
        go_loopg [25] (ids.length + 1) (fun kq v25 w' => ∃ (i : Nat) (D1 : DataW Unit), v25 = .int .i64 (i : Int) ∧ Aside0 (kq + i = ids.length + 1 ∧ i ≤ ids.length) ∧ Aside0 (w'.ownsMap Try.prog 3 (plainElem Try.prog 3) WA.heap.size ids.length D1) ∧ Aside0 (MpReads D1 ids (cntMid cntB ids (cntAt cntB ids q) i)) ∧ Aside0 (w'.ownsMap Try.prog 3 (plainElem Try.prog 3) b ids.length D) ∧ Aside0 (Below w1.heap.size w1 w'))
        case atStart => exact ⟨0, _, rfl, ⟨rfl, Nat.zero_le _⟩, ⟨(World.ownsMap_made WA Try.prog 3 _).mono (Nat.zero_le _)⟩, ⟨cnt_mid0 ids _⟩, ⟨HD.out.alloc _⟩, ⟨HBW.out.alloc HBW.out.size _⟩⟩
        case round =>
          obtain ⟨i, D1, rfl, HK2, HD1, HRD1, HD0, HBW1⟩ := hrel
          obtain ⟨WB, rfl⟩ : ∃ x, x = wr := ⟨wr, rfl⟩
          cases gk with
          | zero => exact absurd HK2.out (by omega)
          | succ k2 =>
            by_cases hi : i < ids.length
            · have hcell := mp_cell HR1.out HBW1.out i hi
              have hmem : ids.getD i 0 ∈ ids := by rw [List.getD_eq_getElem?_getD, List.getElem?_eq_getElem hi]; exact List.getElem_mem hi
              have HT := Aside0.mk (cnt_notyet HND.out hi)
              obtain ⟨t, ht⟩ : ∃ t, t = ids.getD i 0 := ⟨_, rfl⟩
              rw [← ht] at hcell hmem HT
              have HTE := Aside0.mk ht
              have HTM := Aside0.mk hmem
              clear ht hmem
              have e1 : (0 : Int) ≤ (i : Int) := by omega
              have e2 : (i : Int) < (ids.length : Int) := by omega
              have e3 : decide ((i : Int) < (ids.length : Int)) = true := decide_eq_true e2
              have e4 : decide (i < ids.length) = true := decide_eq_true hi
              have e5 := eq_true hi
              have HI := Aside0.mk hi
              clear hi
              go_wp2_with (first
                | (at_range; refine wpList_range_own _ rfl _ 68 rfl 3 3 mp_law Try.underlying68 _ b ids.length D rfl HD0.out ?_; intro w0 hrg0 hg0 hs0; have HRG0 := Aside0.mk hrg0; have HG0 := Aside0.mk hg0; clear hrg0 hg0 hs0)
                | go_in)
              go_frame
              clear hcell e1 e2 e3 e4 e5
              go_loopg [10] (Maps.size D + 1) (fun kq _ w' => ∃ (left : Lit → Bool) (cnt : Nat) (D2 : DataW Unit), Aside0 (kq = cnt + 1) ∧ Aside0 (w'.ranges Try.prog 3 (plainElem Try.prog 3) b WB.heap.size ids.length D left cnt) ∧ Aside0 (w'.ownsMap Try.prog 3 (plainElem Try.prog 3) WA.heap.size ids.length D2) ∧ Aside0 (MpReads D2 ids (cntIn cntB ids (cntAt cntB ids q) i t left)) ∧ Aside0 (Below w1.heap.size w1 w'))
              case atStart => exact ⟨_, _, _, ⟨rfl⟩, HRG0, ⟨HD1.out.kept HG0.out (by simp)⟩, ⟨cnt_start HRD.out HRD1.out HT.out⟩, ⟨HBW1.out.grown HG0.out HBW1.out.size (fun j hj => by cases hj)⟩⟩
              case round =>
                obtain ⟨left, cnt, D2, HK3, HRG, HD2, HRD2, HBW2⟩ := hrel
                obtain ⟨WC, rfl⟩ : ∃ x, x = wr := ⟨wr, rfl⟩
                have HNE : Aside0 (WB.heap.size ≠ b ∧ WB.heap.size ≠ WA.heap.size ∧ w1.heap.size ≤ WA.heap.size ∧ w1.heap.size ≤ WB.heap.size ∧ WA.heap.size ≠ b) := ⟨by have h1 := HD0.out.lt; have h2 := HD1.out.lt; have h3 := HBW.out.size; have h4 := HBW1.out.size; have h5 := HD.out.lt; omega⟩
                go_wp2_with (first
                  | (at_next; refine wpList_next_ranges_ii _ rfl _ rfl 3 3 .i64 .i64 mp_law Try.underlying3 Try.underlying3 b WB.heap.size ids.length D left cnt rfl HRG.out ?_ ?_)
                  | go_in)
                · -- nothing is left
                  intro hc0 hl0
                  have hwi : wrap64 ((i : Int) + 1) = ((i + 1 : Nat) : Int) := by unfold wrap64; have := HI.out; have := HLEN.out; omega
                  have HL0 := Aside0.mk hl0
                  clear hc0 hl0
                  go_wp2_with (fail)
                  go_roundg k2
                  case measure => omega
                  case rel =>
                    refine ⟨i + 1, D2, by rw [hwi], ⟨by have := HK2.out; have := HI.out; omega⟩, HD2, ⟨cnt_end HND.out HI.out HL0.out (by have := HRD2.out; rwa [HTE.out] at this)⟩, ⟨HRG.out.owns⟩, HBW2⟩
                · intro x c w3 cnt1 hwx hwc hlx hat hrg1 hlt hg1 hs1 hen
                  have HXV := Aside0.mk (mp_val HRD.out (Maps.has_true_of_atKey hat) hat)
                  have HLX := Aside0.mk hlx
                  have HRG1 := Aside0.mk hrg1
                  have HLT := Aside0.mk hlt
                  have HD2' := Aside0.mk (HD2.out.kept hg1 (by have := HNE.out; intro e; have := Option.some.inj e; omega))
                  have HBW3 := Aside0.mk (HBW2.out.grown hg1 HBW2.out.size (fun j hj => by cases hj; exact HNE.out.2.2.2.1))
                  clear hwx hwc hlx hat hrg1 hlt hg1 hs1
                  cases hb : (Go.bits .andNot .i64 x t == 0) with
                  | false =>
                    have HB0 : Aside0 (cntB x t = _) := ⟨hb⟩
                    go_wp2_with (fail)
                    go_roundg (cnt1 + 1)
                    case measure => have := HK3.out; have := HLT.out; omega
                    case rel => exact ⟨_, cnt1, D2, ⟨rfl⟩, HRG1, HD2', ⟨cnt_skip HND.out HXV.out.1 HLX.out HB0.out HRD2.out⟩, HBW3⟩
                  | true =>
                    have HB0 : Aside0 (cntB x t = _) := ⟨hb⟩
                    go_wp2_with (first
                      | (at_lookup; refine wpList_lookup_own_int _ rfl _ _ 68 rfl 3 3 .i64 mp_law Try.underlying68 Try.underlying3 (mp_zero _) WA.heap.size ids.length D2 rfl HD2'.out _ _ rfl (keyOf_int_mk Try.underlying3 (mp_wf (HWF.out t HTM.out))) ?_; intro c0 hat0 hwc0; have HAT0 := Aside0.mk hat0; clear hat0 hwc0)
                      | (at_mapUpdate; refine wpList_mapUpdate_own _ rfl _ _ _ 68 rfl 3 3 mp_law Try.underlying68 _ WA.heap.size ids.length D2 rfl HD2'.out (by have := HLEN.out; unfold maxLen; omega) _ _ _ rfl rfl (keyOf_int_mk Try.underlying3 (mp_wf (HWF.out t HTM.out))) _ [] (plainElem_int Try.underlying3 (wrap64_wf _)) ?_; intro w4 hown4 hgrow4; have HD4 := Aside0.mk hown4; have HG4 := Aside0.mk hgrow4; clear hown4 hgrow4)
                      | go_in)
                    have HRD4 := Aside0.mk (cnt_add (i := i) (v := cntAt cntB ids q) HND.out HTM.out HXV.out.1 HXV.out.2 HLX.out HB0.out HD2'.out.isMap HRD2.out HAT0.out)
                    go_roundg (cnt1 + 1)
                    case measure => have := HK3.out; have := HLT.out; omega
                    case rel => exact ⟨_, cnt1, _, ⟨rfl⟩, ⟨HRG1.out.kept HG4.out (by have := HNE.out; intro e; have := Option.some.inj e; omega) (by have := HNE.out; intro e; have := Option.some.inj e; omega)⟩, ⟨mp_norm mp_law HD4.out HRD4.out⟩, HRD4, ⟨HBW3.out.grown HG4.out HBW3.out.size (fun j hj => by cases hj; exact HNE.out.2.2.1)⟩⟩
            · have hi' : i = ids.length := by have := HK2.out; omega
              have e3 : decide ((i : Int) < (ids.length : Int)) = false := decide_eq_false (by omega)
              have e4 : decide (i < ids.length) = false := decide_eq_false hi
              have e5 : (i < ids.length) = False := eq_false hi
              have hwq : wrap64 ((q : Int) + 1) = ((q + 1 : Nat) : Int) := by unfold wrap64; have := HQ.out; have := HM.out; omega
              have HE := Aside0.mk hi'
              clear hi hi'
              go_wp2_with (fail)
              go_roundg k1
              case measure => omega
              case rel => exact ⟨q + 1, _, D1, rfl, by rw [hwq], ⟨by have := HK.out; have := HQ.out; omega⟩, ⟨HBW.out.size⟩, HD1, ⟨cnt_done (by have := HRD1.out; rwa [HE.out] at this)⟩, HBW1⟩
      · have HQE : Aside0 (q = m) := ⟨by have := HK.out; omega⟩
        have d1 : decide ((q : Int) < (m : Int)) = false := decide_eq_false (by omega)
        have d2 : decide (q < m) = false := decide_eq_false hq
        have d3 : (q < m) = False := eq_false hq
        clear hq
        go_wp2_with (first
          | (at_range; refine wpList_range_own _ rfl _ 68 rfl 3 3 mp_law Try.underlying68 _ b ids.length D rfl HD.out ?_; intro w0 hrg0 hg0 hs0; have HRG0 := Aside0.mk hrg0; have HG0 := Aside0.mk hg0; clear hrg0 hg0 hs0)
          | go_in)
        go_frame
        go_loopg [12] (Maps.size D + 1) (fun kq v12 w' => ∃ (left : Lit → Bool) (cnt : Nat) (n : Int), v12 = .int .i64 n ∧ Aside0 (n = wrap64 (mpTot ids (fun s => !left (.int .i64 s)) (cntAt cntB ids q))) ∧ Aside0 (kq = cnt + 1) ∧ Aside0 (w'.ranges Try.prog 3 (plainElem Try.prog 3) b WA.heap.size ids.length D left cnt) ∧ Aside0 (Below w1.heap.size w1 w'))
        case atStart => exact ⟨_, _, 0, rfl, ⟨by rw [mpTot_none (fun s hs hk => mp_absent HRD.out hs (by simpa using hk))]; unfold wrap64; decide⟩, ⟨rfl⟩, HRG0, ⟨HBW.out.grown HG0.out HBW.out.size (fun j hj => by cases hj)⟩⟩
        case round =>
          obtain ⟨left, cnt, n, rfl, HN, HK3, HRG, HBW2⟩ := hrel
          obtain ⟨WC, rfl⟩ : ∃ x, x = wr := ⟨wr, rfl⟩
          go_wp2_with (first
            | (at_next; refine wpList_next_ranges_ii _ rfl _ rfl 3 3 .i64 .i64 mp_law Try.underlying3 Try.underlying3 b WA.heap.size ids.length D left cnt rfl HRG.out ?_ ?_)
            | go_in)
          · intro hc0 hl0
            have HL0 := Aside0.mk hl0
            clear hc0 hl0
            go_wp2_with (fail)
            go_ret
            have hn : n = r := by
              rw [HN.out, ← HRES.out, ← HQE.out]
              congr 1
              exact mpTot_congr fun y hy => by rw [HL0.out]; rfl
            subst hn
            exact ⟨rfl, HB1.out.trans (HBW2.out.mono HB1.out.size)⟩
          · intro x c w3 cnt1 hwx hwc hlx hat hrg1 hlt hg1 hs1 hen
            have HXV := Aside0.mk (mp_val HRD.out (Maps.has_true_of_atKey hat) hat)
            have HSUM := Aside0.mk (cnt_sum (ids := ids) HND.out HXV.out.1 HXV.out.2 hlx)
            have HRG1 := Aside0.mk hrg1
            have HLT := Aside0.mk hlt
            have HBW3 := Aside0.mk (HBW2.out.grown hg1 HBW2.out.size (fun j hj => by cases hj; exact HBW.out.size))
            clear hwx hwc hlx hat hrg1 hlt hg1 hs1
            go_wp2_with (fail)
            go_roundg (cnt1 + 1)
            case measure => have := HK3.out; have := HLT.out; omega
            case rel => exact ⟨_, cnt1, _, rfl, ⟨by rw [HN.out]; exact HSUM.out⟩, ⟨rfl⟩, HRG1, HBW3⟩
end Go.Proofs.Ytemkddgfneohhaa.F
end

section
namespace Go.Proofs.Ytemkddgfneohhaa.Q
open Go.RowKit Go.Proofs.YtemkddgfneohhaaW.PrintWords Go.Proofs.Ytemkddgfneohhaa.F
set_option linter.unusedVariables false
theorem cntB_eq {s t : Nat} (hs : s < 2 ^ 62) (ht : t < 2 ^ 62) : cntB (s : Int) (t : Int) = subB s t := by
  unfold cntB subB
  rw [bits_andNotN hs ht, Bool.eq_iff_iff, beq_iff_eq, beq_iff_eq]
  omega
theorem stB_false (p : List Int) (s t : Nat) : stB p false s t = subB s t := by unfold stB; simp
/-- All rows, whatever ideal they end in, are those that go one step further to the set of all. -/
theorem wv_total (p : List Int) (k : Nat) : wvN (stB p false) (idealsN p) (k + 1) (allN p) = sumL ((idealsN p).map (wvN (stB p false) (idealsN p) k)) := by
  conv => lhs; unfold wvN
  have e : (idealsN p).filter (fun s => stB p false s (allN p)) = idealsN p := List.filter_eq_self.2 fun s hs => by rw [stB_false]; exact sub_all (mem_idealsN.1 hs).1
  rw [e]
theorem count_ev {p : List Int} (hp : PO p) {m : Nat} (hm : m ≤ 13) : Ev (fun k => impl_Poset_count.f k p (m : Int)) ((wvN (stB p false) (idealsN p) (m + 1) (allN p) : Nat) : Int) := by
  have hn := hp.small
  unfold impl_Poset_count.f
  refine Ev.bind (ideals_ev hp) (Ev.yes ⟨cntOk_ids hn, by omega, by omega⟩ (Ev.ret ?_))
  rw [Int.toNat_natCast, mpTot_ints (P := fun _ => true) (v := wvN (stB p false) (idealsN p) m) (idealsN p) (fun _ _ => rfl) (fun s hs => ?_)]
  rotate_left
  · refine cntAt_eq hn (fun a ha b hb => ?_) (fun s t h => stB_sub h) m (by omega) s hs
    rw [stB_false]
    exact cntB_eq (lt_pow (mem_idealsN.1 ha).1 (by omega)) (lt_pow (mem_idealsN.1 hb).1 (by omega))
  have hb := wvN_small hn (B := stB p false) (k := m + 1) (t := allN p) (fun s t h => stB_sub h) (by omega)
  rw [wv_total] at hb ⊢
  rw [List.filter_eq_self.2 (fun _ _ => rfl)]
  exact wid (by omega) (by omega)
end Go.Proofs.Ytemkddgfneohhaa.Q
end

section
namespace Go.Proofs.Ytemkddgfneohhaa.F
open Go.RowKit Go.Proofs.YtemkddgfneohhaaW.PrintWords Go.Proofs.YtemkddgfneohhaaW.PrintLast Go.Proofs.YtemkddgfneohhaaW.PrintMore
set_option linter.unusedVariables false
set_option linter.unusedSimpArgs false
def impl_RankLabels.f (k : Nat) (l0_0 : List Int) (l1 : List Int) (a2 : Int) : Option (Int × Bool) :=
  (impl_labelled.f k l0_0 l1 a2).bind fun b => if b = true then (impl_Poset_count.f k l0_0 a2).bind fun c => if c > 1000 then some (0, false) else (impl_Poset_labels.f k l0_0 a2).bind fun all => (BinarySearchFunc_rank.f (fun x y => slices_Compare_int_int.f k x y) k all l1).bind fun r => some (r.1, true) else some (0, false)
theorem rk_mono_l {F F' : List Int → List Int → Option Int} (hF : ∀ x y, LeO (F x y) (F' x y)) : ∀ k y0 y1 y2 y3 y4, LeO (BinarySearchFunc_rank.l0 F k y0 y1 y2 y3 y4) (BinarySearchFunc_rank.l0 F' k y0 y1 y2 y3 y4)
  | 0, _, _, _, _, _ => fun r h => by simp [BinarySearchFunc_rank.l0] at h
  | k + 1, y0, y1, y2, y3, y4 => by
    unfold BinarySearchFunc_rank.l0
    exact LeO.ite (LeO.ite (LeO.ite (LeO.bind (hF _ _) (fun _ => LeO.ite (rk_mono_l hF k _ _ _ _ _) (rk_mono_l hF k _ _ _ _ _))) (LeO.refl _)) (LeO.refl _)) (LeO.ite (LeO.ite (LeO.ite (LeO.bind (hF _ _) (fun _ => LeO.refl _)) (LeO.refl _)) (LeO.refl _)) (LeO.refl _))
theorem impl_RankLabels.mono : ∀ a0 a1 a2 k, LeO (impl_RankLabels.f k a0 a1 a2) (impl_RankLabels.f (k + 1) a0 a1 a2) := fun a0 a1 a2 k => by
  unfold impl_RankLabels.f
  refine LeO.bind (impl_labelled.mono _ _ _ _) (fun b => LeO.ite (LeO.bind (impl_Poset_count.mono _ _ _) (fun c => LeO.ite (LeO.refl _) (LeO.bind (impl_Poset_labels.mono _ _ _) (fun all => LeO.bind (fun r h => ?_) (fun _ => LeO.refl _))))) (LeO.refl _))
  refine BinarySearchFunc_rank.mono _ _ _ _ r ?_
  exact rk_mono_l (fun x y => slices_Compare_int_int.mono _ _ _) k _ _ _ _ _ r h
set_option maxHeartbeats 8000000 in
set_option maxRecDepth 100000 in
theorem impl_RankLabels.calls (k : Nat) (A0_0 : Option Addr) (c0_0 : Nat) (l0_0 : List Int) (A1 : Option Addr) (c1 : Nat) (l1 : List Int) (a2 : Int) (r1 : Int) (r2 : Bool) (w : World) (hr0_0 : Kd.C (Kd.int .i64) w A0_0 l0_0.length l0_0) (hc0_0 : l0_0.length ≤ c0_0) (hr1 : Kd.C (Kd.int .i64) w A1 l1.length l1) (hc1 : l1.length ≤ c1) (h : impl_RankLabels.f k l0_0 l1 a2 = some (r1, r2)) :
    Calls Try.prog 37 #[.agg #[.slice A0_0 l0_0.length c0_0], .slice A1 l1.length c1, .int .i64 a2] w fun e w' => e = .returned (.tuple #[.int .i64 r1, .bool r2]) ∧ Below w.heap.size w w' := by
  have hu30 := Try.underlying30
  unfold impl_RankLabels.f at h
  obtain ⟨b, hb, h⟩ := Option.bind_eq_some_iff.1 h
  have HR0 := Aside0.mk hr0_0
  have HC0 := Aside0.mk hc0_0
  have HR1 := Aside0.mk hr1
  have HC1 := Aside0.mk hc1
  have HLI := Aside0.mk hb
  have HP0 : Aside0 ((w.alloc (.cells #[.slice A0_0 l0_0.length c0_0] 30 (0, 0))).heap[w.heap.size]? = some (.cells #[.slice A0_0 l0_0.length c0_0] 30 (0, 0))) := ⟨blk_new w _⟩
  have HB0 : Aside0 (Below w.heap.size w (w.alloc (.cells #[.slice A0_0 l0_0.length c0_0] 30 (0, 0)))) := ⟨below_alloc (Below.refl w.heap.size w) _⟩
  clear hr0_0 hc0_0 hr1 hc1 hb
  cases b with
  | false =>
    obtain ⟨rfl, rfl⟩ : 0 = r1 ∧ false = r2 := by simpa using h
    clear h
    go_enter Try.func37, Try.ntmps37
    go_wp2_with (go_at_call 61; (with_reducible refine (impl_labelled.calls k A0_0 c0_0 l0_0 A1 c1 l1 a2 false _ (Kd.C_below HR0.out HB0.out) HC0.out (Kd.C_below HR1.out HB0.out) HC1.out HLI.out).mono ?_); rintro e w1 ⟨rfl, hb1⟩; have HB1 := Aside0.mk (HB0.out.trans (hb1.mono HB0.out.size)); have hP1 := blk_below HP0.out hb1; have HP1 := Aside0.mk hP1; have hcp1 : w1.cell? ⟨w.heap.size, 0, none⟩ = some (.slice A0_0 l0_0.length c0_0) := (blk_cell hP1 0).trans rfl; clear hb1 hP1)
    refine bodyPost_ret (results_tmp2 rfl _ _ _) rfl ?_
    exact ⟨rfl, HB1.out⟩
  | true =>
    have h := (if_pos rfl).symm.trans h
    obtain ⟨c, hcn, h⟩ := Option.bind_eq_some_iff.1 h
    have HCN := Aside0.mk hcn
    by_cases hbig : c > 1000
    · rw [if_pos hbig] at h
      obtain ⟨rfl, rfl⟩ : 0 = r1 ∧ false = r2 := by simpa using h
      have d1 : decide (1000 < c) = true := decide_eq_true hbig
      clear h hcn hbig
      go_enter Try.func37, Try.ntmps37
      go_wp2_with (first | (go_at_call 61; (with_reducible refine (impl_labelled.calls k A0_0 c0_0 l0_0 A1 c1 l1 a2 true _ (Kd.C_below HR0.out HB0.out) HC0.out (Kd.C_below HR1.out HB0.out) HC1.out HLI.out).mono ?_); rintro e w1 ⟨rfl, hb1⟩; have HB1 := Aside0.mk (HB0.out.trans (hb1.mono HB0.out.size)); have hP1 := blk_below HP0.out hb1; have HP1 := Aside0.mk hP1; have hcp1 : w1.cell? ⟨w.heap.size, 0, none⟩ = some (.slice A0_0 l0_0.length c0_0) := (blk_cell hP1 0).trans rfl; clear hb1 hP1) | (go_at_call 42; (with_reducible refine (impl_Poset_count.calls k A0_0 c0_0 l0_0 a2 c _ (Kd.C_below HR0.out HB1.out) HC0.out HCN.out).mono ?_); rintro e w2 ⟨rfl, hb2⟩; have HB2 := Aside0.mk (below_step HB1.out hb2); have hP2 := blk_below HP1.out hb2; have HP2 := Aside0.mk hP2; have hcp2 : w2.cell? ⟨w.heap.size, 0, none⟩ = some (.slice A0_0 l0_0.length c0_0) := (blk_cell hP2 0).trans rfl; clear hb2 hP2))
      refine bodyPost_ret (results_tmp2 rfl _ _ _) rfl ?_
      exact ⟨rfl, HB2.out⟩
    · rw [if_neg hbig] at h
      obtain ⟨all, hall, h⟩ := Option.bind_eq_some_iff.1 h
      obtain ⟨⟨q1, q2⟩, hbs, h⟩ := Option.bind_eq_some_iff.1 h
      obtain ⟨rfl, rfl⟩ : q1 = r1 ∧ true = r2 := by simpa using h
      have d1 : decide (1000 < c) = false := decide_eq_false hbig
      have HALL := Aside0.mk hall
      have HBS := Aside0.mk hbs
      clear h hcn hbig hall hbs
      go_enter Try.func37, Try.ntmps37
      go_wp2_with (first | (go_at_call 61; (with_reducible refine (impl_labelled.calls k A0_0 c0_0 l0_0 A1 c1 l1 a2 true _ (Kd.C_below HR0.out HB0.out) HC0.out (Kd.C_below HR1.out HB0.out) HC1.out HLI.out).mono ?_); rintro e w1 ⟨rfl, hb1⟩; have HB1 := Aside0.mk (HB0.out.trans (hb1.mono HB0.out.size)); have hP1 := blk_below HP0.out hb1; have HP1 := Aside0.mk hP1; have hcp1 : w1.cell? ⟨w.heap.size, 0, none⟩ = some (.slice A0_0 l0_0.length c0_0) := (blk_cell hP1 0).trans rfl; clear hb1 hP1) | (go_at_call 42; (with_reducible refine (impl_Poset_count.calls k A0_0 c0_0 l0_0 a2 c _ (Kd.C_below HR0.out HB1.out) HC0.out HCN.out).mono ?_); rintro e w2 ⟨rfl, hb2⟩; have HB2 := Aside0.mk (below_step HB1.out hb2); have hP2 := blk_below HP1.out hb2; have HP2 := Aside0.mk hP2; have hcp2 : w2.cell? ⟨w.heap.size, 0, none⟩ = some (.slice A0_0 l0_0.length c0_0) := (blk_cell hP2 0).trans rfl; clear hb2 hP2) | (go_at_call 57; (with_reducible refine (impl_Poset_labels.calls k A0_0 c0_0 l0_0 a2 all _ (Kd.C_below HR0.out HB2.out) HC0.out HALL.out).mono ?_); rintro e w3 ⟨v3, rfl, hs3, hb3⟩; obtain ⟨A3, c3, e3⟩ := Kd.R_slice (Kd.S_R hs3); subst e3; have HS3 := Aside0.mk hs3; have HB3 := Aside0.mk (below_step HB2.out hb3); clear hs3 hb3) | (go_at_call 62; (with_reducible refine (BinarySearchFunc_rank.calls (fun x y => slices_Compare_int_int.f k x y) k A3 c3 all A1 c1 l1 q1 q2 _ ?hF ?hA ?hA2 (Kd.C_below HR1.out HB3.out) HC1.out HBS.out).mono ?_); (case hF => exact ⟨fun A0_ c0_ x0_ A1_ c1_ x1_ r_ W h1 h2 h3 h4 h5 h6 => slices_Compare_int_int.calls k A0_ c0_ x0_ A1_ c1_ x1_ r_ W h1 h2 h3 h4 h5⟩); (case hA => exact (Kd.S_reads' HS3.out).2.2); (case hA2 => exact (Kd.S_reads' HS3.out).2.1); rintro e w4 ⟨rfl, nd, rfl⟩))
      refine bodyPost_ret (results_tmp2 rfl _ _ _) rfl ?_
      exact ⟨rfl, pw_below_drewN HB3.out nd⟩
end Go.Proofs.Ytemkddgfneohhaa.F
end

section
namespace Go.Proofs.Ytemkddgfneohhaa.F
open Go.RowKit Go.Proofs.YtemkddgfneohhaaW.PrintWords Go.Proofs.YtemkddgfneohhaaW.PrintLast Go.Proofs.YtemkddgfneohhaaW.PrintMore
set_option linter.unusedVariables false
set_option linter.unusedSimpArgs false
theorem laws_FnExactRankLabels.belowD {w w' : World} (h : Drawn0 w w') : Below w.heap.size w w' := by
  obtain ⟨m, rfl⟩ := h
  exact pw_below_drewN (Below.refl _ _) m
set_option maxHeartbeats 8000000 in
set_option maxRecDepth 100000 in
theorem laws_FnExactRankLabels.calls0 (k k1 : Nat) (A0 : Option Addr) (c0 : Nat) (l0 : List Int) (A1 : Option Addr) (c1 : Nat) (l1 : List Int) (a2 : Int)  (w : World) (hr0 : Kd.C (Kd.int .i64) w A0 l0.length l0) (hc0 : l0.length ≤ c0) (hr1 : Kd.C (Kd.int .i64) w A1 l1.length l1) (hc1 : l1.length ≤ c1) (hx : decide ((l1.length : Int) > 1048576) = true) :
    Calls Try.prog 11 #[.agg #[.slice A0 l0.length c0], .slice A1 l1.length c1, .int .i64 a2] w fun e w' => e = .returned (.bool true) ∧ Below w.heap.size w w' := by
  have HR0 := Aside0.mk hr0
  have HC0 := Aside0.mk hc0
  clear hr0 hc0
  have HR1 := Aside0.mk hr1
  have HC1 := Aside0.mk hc1
  clear hr1 hc1
  have HT0 := Aside0.mk (Below.refl w.heap.size w)
  go_enter Try.func11, Try.ntmps11
  go_wp2_with (first | ((with_reducible refine gate_dst (N := 3) rfl ?_); refine box_event ?hg (N := 3) ?hd (cs := #[.slice A0 l0.length c0]) (t := 27) ?hr ?_; (case hd => rfl); (case hg => rfl); (case hr => first | (go_simp; done) | (go_simp; rfl)); intro g3 hg_ w1 hbox_ hb_; have HB1 := Aside0.mk hb_; have HZ1 : Aside0 (w.heap.size ≤ w1.heap.size) := ⟨hb_.size⟩; have HT1 := Aside0.mk (HT0.out.trans (Below.mono hb_ HT0.out.size)); have HG3 : Aside0 (w.heap.size ≤ g3 ∧ g3 < w1.heap.size) := ⟨Nat.le_of_eq hg_.symm, blk_lt hbox_⟩; have HBK_ := Aside0.mk hbox_; clear hb_ hbox_ hg_; have HBK3 := HBK_; clear HBK_; have hcz3 : w1.cell? ⟨g3, 0, none⟩ = some (.slice A0 l0.length c0) := (blk_cell HBK3.out 0).trans rfl; have hfz3 := blk_frozen HBK3.out 0))
  go_ret
  exact ⟨by first | rfl | (simp; done) | (simp [*]; done), by repeat (first | (with_reducible first | exact HT1.out | apply below_alloc | apply pw_below_drewN | apply below_drew1) | exact HT1.out)⟩
set_option maxHeartbeats 8000000 in
set_option maxRecDepth 100000 in
theorem laws_FnExactRankLabels.calls1 (k k1 : Nat) (A0 : Option Addr) (c0 : Nat) (l0 : List Int) (A1 : Option Addr) (c1 : Nat) (l1 : List Int) (a2 : Int) (z1 : Int) (w : World) (hr0 : Kd.C (Kd.int .i64) w A0 l0.length l0) (hc0 : l0.length ≤ c0) (hr1 : Kd.C (Kd.int .i64) w A1 l1.length l1) (hc1 : l1.length ≤ c1) (hy0 : decide ((l1.length : Int) > 1048576) = false) (hy1_ : laws_szPoset.f l0 1048576 = some z1) (hx : decide (z1 < 0) = true) :
    Calls Try.prog 11 #[.agg #[.slice A0 l0.length c0], .slice A1 l1.length c1, .int .i64 a2] w fun e w' => e = .returned (.bool true) ∧ Below w.heap.size w w' := by
  have HR0 := Aside0.mk hr0
  have HC0 := Aside0.mk hc0
  clear hr0 hc0
  have HR1 := Aside0.mk hr1
  have HC1 := Aside0.mk hc1
  clear hr1 hc1
  have hy1 := Aside0.mk hy1_
  clear hy1_
  have HT0 := Aside0.mk (Below.refl w.heap.size w)
  go_enter Try.func11, Try.ntmps11
  go_wp2_with (first | ((with_reducible refine gate_dst (N := 3) rfl ?_); refine box_event ?hg (N := 3) ?hd (cs := #[.slice A0 l0.length c0]) (t := 27) ?hr ?_; (case hd => rfl); (case hg => rfl); (case hr => first | (go_simp; done) | (go_simp; rfl)); intro g3 hg_ w1 hbox_ hb_; have HB1 := Aside0.mk hb_; have HZ1 : Aside0 (w.heap.size ≤ w1.heap.size) := ⟨hb_.size⟩; have HT1 := Aside0.mk (HT0.out.trans (Below.mono hb_ HT0.out.size)); have HG3 : Aside0 (w.heap.size ≤ g3 ∧ g3 < w1.heap.size) := ⟨Nat.le_of_eq hg_.symm, blk_lt hbox_⟩; have HBK_ := Aside0.mk hbox_; clear hb_ hbox_ hg_; have HBK3 := HBK_; clear HBK_; have hcz3 : w1.cell? ⟨g3, 0, none⟩ = some (.slice A0 l0.length c0) := (blk_cell HBK3.out 0).trans rfl; have hfz3 := blk_frozen HBK3.out 0))
  have hcall_ := laws_szPoset.calls _ _ l0 1048576 z1 _ (Kd.C_below HR0.out HT1.out) HC0.out hy1.out
  refine hcall_.mono ?_
  clear hcall_ 
  rintro e w2 ⟨rfl, hb_⟩
  have HB2 := Aside0.mk hb_
  have HZ2 : Aside0 (w1.heap.size ≤ w2.heap.size) := ⟨hb_.size⟩
  have HT2 := Aside0.mk (HT1.out.trans (Below.mono hb_ HT1.out.size))
  clear hb_
  have n_ := Aside0.mk (blk_below HBK3.out HB2.out)
  clear HBK3 hcz3
  have HBK3 := n_
  clear n_
  have hcz3 : w2.cell? ⟨g3, 0, none⟩ = some (.slice A0 l0.length c0) := (blk_cell HBK3.out 0).trans rfl
  go_wp2
  go_ret
  exact ⟨by first | rfl | (simp; done) | (simp [*]; done), by repeat (first | (with_reducible first | exact HT2.out | apply below_alloc | apply pw_below_drewN | apply below_drew1) | exact HT2.out)⟩
set_option maxHeartbeats 8000000 in
set_option maxRecDepth 100000 in
theorem laws_FnExactRankLabels.calls2 (k k1 : Nat) (A0 : Option Addr) (c0 : Nat) (l0 : List Int) (A1 : Option Addr) (c1 : Nat) (l1 : List Int) (a2 : Int) (z1 : Int) (v2 : Int) (v3 : Bool) (w : World) (hr0 : Kd.C (Kd.int .i64) w A0 l0.length l0) (hc0 : l0.length ≤ c0) (hr1 : Kd.C (Kd.int .i64) w A1 l1.length l1) (hc1 : l1.length ≤ c1) (hy0 : decide ((l1.length : Int) > 1048576) = false) (hy1_ : laws_szPoset.f l0 1048576 = some z1) (hy2 : decide (z1 < 0) = false) (hy3_ : laws_toPoset.f k1 l0 = some l0) (hy4_ : laws_toIntS.f k1 l1 = some l1) (hy5_ : spec_RankLabels.f k l0 l1 a2 = some (v2, v3)) (hy6_ : impl_RankLabels.f k l0 l1 a2 = some (v2, v3)) (hy7_ : laws_eqPoset.f k1 l0 l0 = some true) (hy8_ : laws_eqIntS.f k1 l1 l1 = some true) :
    Calls Try.prog 11 #[.agg #[.slice A0 l0.length c0], .slice A1 l1.length c1, .int .i64 a2] w fun e w' => e = .returned (.bool true) ∧ Below w.heap.size w w' := by
  have HR0 := Aside0.mk hr0
  have HC0 := Aside0.mk hc0
  clear hr0 hc0
  have HR1 := Aside0.mk hr1
  have HC1 := Aside0.mk hc1
  clear hr1 hc1
  have hy1 := Aside0.mk hy1_
  clear hy1_
  have hy3 := Aside0.mk hy3_
  clear hy3_
  have hy4 := Aside0.mk hy4_
  clear hy4_
  have hy5 := Aside0.mk hy5_
  clear hy5_
  have hy6 := Aside0.mk hy6_
  clear hy6_
  have hy7 := Aside0.mk hy7_
  clear hy7_
  have hy8 := Aside0.mk hy8_
  clear hy8_
  have HT0 := Aside0.mk (Below.refl w.heap.size w)
  go_enter Try.func11, Try.ntmps11
  go_wp2_with (first | ((with_reducible refine gate_dst (N := 3) rfl ?_); refine box_event ?hg (N := 3) ?hd (cs := #[.slice A0 l0.length c0]) (t := 27) ?hr ?_; (case hd => rfl); (case hg => rfl); (case hr => first | (go_simp; done) | (go_simp; rfl)); intro g3 hg_ w1 hbox_ hb_; have HB1 := Aside0.mk hb_; have HZ1 : Aside0 (w.heap.size ≤ w1.heap.size) := ⟨hb_.size⟩; have HT1 := Aside0.mk (HT0.out.trans (Below.mono hb_ HT0.out.size)); have HG3 : Aside0 (w.heap.size ≤ g3 ∧ g3 < w1.heap.size) := ⟨Nat.le_of_eq hg_.symm, blk_lt hbox_⟩; have HBK_ := Aside0.mk hbox_; clear hb_ hbox_ hg_; have HBK3 := HBK_; clear HBK_; have hcz3 : w1.cell? ⟨g3, 0, none⟩ = some (.slice A0 l0.length c0) := (blk_cell HBK3.out 0).trans rfl; have hfz3 := blk_frozen HBK3.out 0))
  have hcall_ := laws_szPoset.calls _ _ l0 1048576 z1 _ (Kd.C_below HR0.out HT1.out) HC0.out hy1.out
  refine hcall_.mono ?_
  clear hcall_ 
  rintro e w2 ⟨rfl, hb_⟩
  have HB2 := Aside0.mk hb_
  have HZ2 : Aside0 (w1.heap.size ≤ w2.heap.size) := ⟨hb_.size⟩
  have HT2 := Aside0.mk (HT1.out.trans (Below.mono hb_ HT1.out.size))
  clear hb_
  have n_ := Aside0.mk (blk_below HBK3.out HB2.out)
  clear HBK3 hcz3
  have HBK3 := n_
  clear n_
  have hcz3 : w2.cell? ⟨g3, 0, none⟩ = some (.slice A0 l0.length c0) := (blk_cell HBK3.out 0).trans rfl
  go_wp2_with fail
  have hcall_ := laws_toPoset.calls k1 _ _ l0 l0 _ (Kd.C_below HR0.out HT2.out) HC0.out hy3.out
  refine hcall_.mono ?_
  clear hcall_ 
  rintro e w3 ⟨v1x, rfl, hx1_, hb_⟩
  have HB3 := Aside0.mk hb_
  have HZ3 : Aside0 (w2.heap.size ≤ w3.heap.size) := ⟨hb_.size⟩
  have HT3 := Aside0.mk (HT2.out.trans (Below.mono hb_ HT2.out.size))
  clear hb_
  have n_ := Aside0.mk (blk_below HBK3.out HB3.out)
  clear HBK3 hcz3
  have HBK3 := n_
  clear n_
  have hcz3 : w3.cell? ⟨g3, 0, none⟩ = some (.slice A0 l0.length c0) := (blk_cell HBK3.out 0).trans rfl
  have HX1 := Aside0.mk (Kd.R_lower (Kd.R_mono (ok' := fun k_ => w2.heap.size ≤ k_ ∧ k_ < w3.heap.size) (Kd.R_bound hx1_) (fun k_ h_ => ⟨h_.2.1, h_.2.2.1⟩)) HT2.out.size)
  clear hx1_
  go_wp2_with fail
  have hcall_ := laws_toIntS.calls k1 _ _ l1 l1 _ (Kd.C_below HR1.out HT3.out) HC1.out hy4.out
  refine hcall_.mono ?_
  clear hcall_ 
  rintro e w4 ⟨v2x, rfl, hx2_, hb_⟩
  have HB4 := Aside0.mk hb_
  have HZ4 : Aside0 (w3.heap.size ≤ w4.heap.size) := ⟨hb_.size⟩
  have HT4 := Aside0.mk (HT3.out.trans (Below.mono hb_ HT3.out.size))
  clear hb_
  have n_ := Aside0.mk (Kd.R_below HX1.out HB4.out)
  clear HX1
  have HX1 := n_
  clear n_
  have n_ := Aside0.mk (blk_below HBK3.out HB4.out)
  clear HBK3 hcz3
  have HBK3 := n_
  clear n_
  have hcz3 : w4.cell? ⟨g3, 0, none⟩ = some (.slice A0 l0.length c0) := (blk_cell HBK3.out 0).trans rfl
  have HX2 := Aside0.mk (Kd.R_lower (Kd.R_mono (ok' := fun k_ => w3.heap.size ≤ k_ ∧ k_ < w4.heap.size) (Kd.R_bound hx2_) (fun k_ h_ => ⟨h_.2.1, h_.2.2.1⟩)) HT3.out.size)
  clear hx2_
  go_wp2_with fail
  obtain ⟨A1_, c1_, e1_, hl1_, hC1_⟩ := Kd.R_reads HX1.out
  obtain ⟨A2_, c2_, e2_, hl2_, hC2_⟩ := Kd.R_reads HX2.out
  have hcall_ := spec_RankLabels.calls k _ _ l0 _ _ l1 a2 v2 v3 _ hC1_ hl1_ hC2_ hl2_ hy5.out
  rw [← e1_] at hcall_
  rw [← e2_] at hcall_
  refine hcall_.mono ?_
  clear hcall_ hC1_ hl1_ e1_ c1_ A1_ hC2_ hl2_ e2_ c2_ A2_
  rintro e w5 ⟨rfl, hb_⟩
  have HB5 := Aside0.mk hb_
  have HZ5 : Aside0 (w4.heap.size ≤ w5.heap.size) := ⟨hb_.size⟩
  have HT5 := Aside0.mk (HT4.out.trans (Below.mono hb_ HT4.out.size))
  clear hb_
  have n_ := Aside0.mk (Kd.R_below HX1.out HB5.out)
  clear HX1
  have HX1 := n_
  clear n_
  have n_ := Aside0.mk (Kd.R_below HX2.out HB5.out)
  clear HX2
  have HX2 := n_
  clear n_
  have n_ := Aside0.mk (blk_below HBK3.out HB5.out)
  clear HBK3 hcz3
  have HBK3 := n_
  clear n_
  have hcz3 : w5.cell? ⟨g3, 0, none⟩ = some (.slice A0 l0.length c0) := (blk_cell HBK3.out 0).trans rfl
  go_wp2_with fail
  have hcall_ := laws_toPoset.calls k1 _ _ l0 l0 _ (Kd.C_below HR0.out HT5.out) HC0.out hy3.out
  refine hcall_.mono ?_
  clear hcall_ 
  rintro e w6 ⟨v3x, rfl, hx3_, hb_⟩
  have HB6 := Aside0.mk hb_
  have HZ6 : Aside0 (w5.heap.size ≤ w6.heap.size) := ⟨hb_.size⟩
  have HT6 := Aside0.mk (HT5.out.trans (Below.mono hb_ HT5.out.size))
  clear hb_
  have n_ := Aside0.mk (Kd.R_below HX1.out HB6.out)
  clear HX1
  have HX1 := n_
  clear n_
  have n_ := Aside0.mk (Kd.R_below HX2.out HB6.out)
  clear HX2
  have HX2 := n_
  clear n_
  have n_ := Aside0.mk (blk_below HBK3.out HB6.out)
  clear HBK3 hcz3
  have HBK3 := n_
  clear n_
  have hcz3 : w6.cell? ⟨g3, 0, none⟩ = some (.slice A0 l0.length c0) := (blk_cell HBK3.out 0).trans rfl
  have HX3 := Aside0.mk (Kd.R_lower (Kd.R_mono (ok' := fun k_ => w5.heap.size ≤ k_ ∧ k_ < w6.heap.size) (Kd.R_bound hx3_) (fun k_ h_ => ⟨h_.2.1, h_.2.2.1⟩)) HT5.out.size)
  clear hx3_
  obtain ⟨Aq3, cq3, eq_⟩ := Kd.R_slice HX3.out
  subst eq_
  go_wp2_with (first | ((with_reducible refine gate_dst (N := 10) rfl ?_); refine box_event ?hg (N := 10) ?hd (cs := #[.slice none 0 0]) (t := 30) ?hr ?_; (case hd => rfl); (case hg => rfl); (case hr => first | (go_simp; done) | (go_simp; rfl)); intro g10 hg_ w7 hbox_ hb_; have HB7 := Aside0.mk hb_; have HZ7 : Aside0 (w6.heap.size ≤ w7.heap.size) := ⟨hb_.size⟩; have HT7 := Aside0.mk (HT6.out.trans (Below.mono hb_ HT6.out.size)); have HG10 : Aside0 (w6.heap.size ≤ g10 ∧ g10 < w7.heap.size) := ⟨Nat.le_of_eq hg_.symm, blk_lt hbox_⟩; have HBK_ := Aside0.mk hbox_; clear hb_ hbox_ hg_; have n_ := Aside0.mk (Kd.R_below HX1.out HB7.out); clear HX1; have HX1 := n_; clear n_; have n_ := Aside0.mk (Kd.R_below HX2.out HB7.out); clear HX2; have HX2 := n_; clear n_; have n_ := Aside0.mk (Kd.R_below HX3.out HB7.out); clear HX3; have HX3 := n_; clear n_; have n_ := Aside0.mk (blk_below HBK3.out HB7.out); clear HBK3 hcz3; have HBK3 := n_; clear n_; have hcz3 : w7.cell? ⟨g3, 0, none⟩ = some (.slice A0 l0.length c0) := (blk_cell HBK3.out 0).trans rfl; have HBK10 := HBK_; clear HBK_; have hcz10 : w7.cell? ⟨g10, 0, none⟩ = some (.slice none 0 0) := (blk_cell HBK10.out 0).trans rfl; have hfz10 := blk_frozen HBK10.out 0) | ((with_reducible refine gate_store (t := 30) (p := 10) rfl ?_); refine store_event (t := 30) (p := 10) (v := ?vo_) (w1 := (w7.setCell ⟨g10, 0, none⟩ (.slice Aq3 l0.length cq3))) ?hg ?ho ?hn ?hr ?_; (case ho => rfl); (case hg => rfl); (case hn => rfl); (case hr => first | (go_simp; done) | (go_simp; rfl)); intro w8 hw_; have hlt_ : w.heap.size ≤ g10 := (by have z1 := HZ1.out; have z2 := HZ2.out; have z3 := HZ3.out; have z4 := HZ4.out; have z5 := HZ5.out; have z6 := HZ6.out; have z7 := HZ7.out; have hg_ := HG10.out; have h0_ := HT0.out.size; omega); have HT8 : Aside0 (Below w.heap.size w w8) := ⟨by rw [hw_]; exact below_set HT7.out hlt_⟩; have HZ8 : Aside0 (w7.heap.size ≤ w8.heap.size) := ⟨by rw [hw_]; simp [World.setCell]⟩; have n_ : Aside0 (Kd.R (Kd.int .i64) 3 w8 w.heap.size (fun k_ => w2.heap.size ≤ k_ ∧ k_ < w3.heap.size) v1x l0) := ⟨by rw [hw_]; exact Kd.R_far HX1.out (p := ⟨g10, 0, none⟩) (fun k_ h_ => by have z1 := HZ1.out; have z2 := HZ2.out; have z3 := HZ3.out; have z4 := HZ4.out; have z5 := HZ5.out; have z6 := HZ6.out; have z7 := HZ7.out; have hg_ := HG10.out; show k_ ≠ g10; omega) _⟩; clear HX1; have HX1 := n_; clear n_; have n_ : Aside0 (Kd.R (Kd.int .i64) 3 w8 w.heap.size (fun k_ => w3.heap.size ≤ k_ ∧ k_ < w4.heap.size) v2x l1) := ⟨by rw [hw_]; exact Kd.R_far HX2.out (p := ⟨g10, 0, none⟩) (fun k_ h_ => by have z1 := HZ1.out; have z2 := HZ2.out; have z3 := HZ3.out; have z4 := HZ4.out; have z5 := HZ5.out; have z6 := HZ6.out; have z7 := HZ7.out; have hg_ := HG10.out; show k_ ≠ g10; omega) _⟩; clear HX2; have HX2 := n_; clear n_; have n_ : Aside0 (Kd.R (Kd.int .i64) 3 w8 w.heap.size (fun k_ => w5.heap.size ≤ k_ ∧ k_ < w6.heap.size) (.slice Aq3 l0.length cq3) l0) := ⟨by rw [hw_]; exact Kd.R_far HX3.out (p := ⟨g10, 0, none⟩) (fun k_ h_ => by have z1 := HZ1.out; have z2 := HZ2.out; have z3 := HZ3.out; have z4 := HZ4.out; have z5 := HZ5.out; have z6 := HZ6.out; have z7 := HZ7.out; have hg_ := HG10.out; show k_ ≠ g10; omega) _⟩; clear HX3; have HX3 := n_; clear n_; have nb3_ : Aside0 (w8.heap[g3]? = some (.cells #[.slice A0 l0.length c0] 27 (0, 0))) := ⟨by rw [hw_]; exact (Below.heap_setCell _ _ _ _ (by have z1 := HZ1.out; have z2 := HZ2.out; have z3 := HZ3.out; have z4 := HZ4.out; have z5 := HZ5.out; have z6 := HZ6.out; have z7 := HZ7.out; have h1_ := HG3.out; have h2_ := HG10.out; show g3 ≠ g10; omega)).trans HBK3.out⟩; have nb10_ : Aside0 (w8.heap[g10]? = some (.cells #[.slice Aq3 l0.length cq3] 30 (0, 0))) := ⟨by rw [hw_]; exact one_setCell HBK10.out⟩; clear hcz3; clear hcz10; clear hw_; clear HBK3; have HBK3 := nb3_; clear nb3_; have hcz3 : w8.cell? ⟨g3, 0, none⟩ = some (.slice A0 l0.length c0) := (blk_cell HBK3.out 0).trans rfl; clear HBK10; have HBK10 := nb10_; clear nb10_; have hcz10 : w8.cell? ⟨g10, 0, none⟩ = some (.slice Aq3 l0.length cq3) := (blk_cell HBK10.out 0).trans rfl))
  have hcall_ := laws_toIntS.calls k1 _ _ l1 l1 _ (Kd.C_below HR1.out HT8.out) HC1.out hy4.out
  refine hcall_.mono ?_
  clear hcall_ 
  rintro e w9 ⟨v4x, rfl, hx4_, hb_⟩
  have HB9 := Aside0.mk hb_
  have HZ9 : Aside0 (w8.heap.size ≤ w9.heap.size) := ⟨hb_.size⟩
  have HT9 := Aside0.mk (HT8.out.trans (Below.mono hb_ HT8.out.size))
  clear hb_
  have n_ := Aside0.mk (Kd.R_below HX1.out HB9.out)
  clear HX1
  have HX1 := n_
  clear n_
  have n_ := Aside0.mk (Kd.R_below HX2.out HB9.out)
  clear HX2
  have HX2 := n_
  clear n_
  have n_ := Aside0.mk (Kd.R_below HX3.out HB9.out)
  clear HX3
  have HX3 := n_
  clear n_
  have n_ := Aside0.mk (blk_below HBK3.out HB9.out)
  clear HBK3 hcz3
  have HBK3 := n_
  clear n_
  have hcz3 : w9.cell? ⟨g3, 0, none⟩ = some (.slice A0 l0.length c0) := (blk_cell HBK3.out 0).trans rfl
  have n_ := Aside0.mk (blk_below HBK10.out HB9.out)
  clear HBK10 hcz10
  have HBK10 := n_
  clear n_
  have hcz10 : w9.cell? ⟨g10, 0, none⟩ = some (.slice Aq3 l0.length cq3) := (blk_cell HBK10.out 0).trans rfl
  have HX4 := Aside0.mk (Kd.R_lower (Kd.R_mono (ok' := fun k_ => w8.heap.size ≤ k_ ∧ k_ < w9.heap.size) (Kd.R_bound hx4_) (fun k_ h_ => ⟨h_.2.1, h_.2.2.1⟩)) HT8.out.size)
  clear hx4_
  go_wp2_with fail
  obtain ⟨A3_, c3_, e3_, hl3_, hC3_⟩ := Kd.R_reads HX3.out
  obtain ⟨A4_, c4_, e4_, hl4_, hC4_⟩ := Kd.R_reads HX4.out
  have hcall_ := impl_RankLabels.calls k _ _ l0 _ _ l1 a2 v2 v3 _ hC3_ hl3_ hC4_ hl4_ hy6.out
  rw [← e3_] at hcall_
  rw [← e4_] at hcall_
  refine hcall_.mono ?_
  clear hcall_ hC3_ hl3_ e3_ c3_ A3_ hC4_ hl4_ e4_ c4_ A4_
  rintro e w10 ⟨rfl, hb_⟩
  have HB10 := Aside0.mk hb_
  have HZ10 : Aside0 (w9.heap.size ≤ w10.heap.size) := ⟨hb_.size⟩
  have HT10 := Aside0.mk (HT9.out.trans (Below.mono hb_ HT9.out.size))
  clear hb_
  have n_ := Aside0.mk (Kd.R_below HX1.out HB10.out)
  clear HX1
  have HX1 := n_
  clear n_
  have n_ := Aside0.mk (Kd.R_below HX2.out HB10.out)
  clear HX2
  have HX2 := n_
  clear n_
  have n_ := Aside0.mk (Kd.R_below HX3.out HB10.out)
  clear HX3
  have HX3 := n_
  clear n_
  have n_ := Aside0.mk (Kd.R_below HX4.out HB10.out)
  clear HX4
  have HX4 := n_
  clear n_
  have n_ := Aside0.mk (blk_below HBK3.out HB10.out)
  clear HBK3 hcz3
  have HBK3 := n_
  clear n_
  have hcz3 : w10.cell? ⟨g3, 0, none⟩ = some (.slice A0 l0.length c0) := (blk_cell HBK3.out 0).trans rfl
  have n_ := Aside0.mk (blk_below HBK10.out HB10.out)
  clear HBK10 hcz10
  have HBK10 := n_
  clear n_
  have hcz10 : w10.cell? ⟨g10, 0, none⟩ = some (.slice Aq3 l0.length cq3) := (blk_cell HBK10.out 0).trans rfl
  go_wp2_with fail
  have HB11 := Aside0.mk (below_drew (Below.refl w10.heap.size w10))
  have HZ11 : Aside0 (w10.heap.size ≤ w10.drew.heap.size) := ⟨Nat.le_refl _⟩
  have HT11 := Aside0.mk (HT10.out.trans (Below.mono HB11.out HT10.out.size))
  have n_ := Aside0.mk (Kd.R_below HX1.out HB11.out)
  clear HX1
  have HX1 := n_
  clear n_
  have n_ := Aside0.mk (Kd.R_below HX2.out HB11.out)
  clear HX2
  have HX2 := n_
  clear n_
  have n_ := Aside0.mk (Kd.R_below HX3.out HB11.out)
  clear HX3
  have HX3 := n_
  clear n_
  have n_ := Aside0.mk (Kd.R_below HX4.out HB11.out)
  clear HX4
  have HX4 := n_
  clear n_
  have n_ := Aside0.mk (blk_below HBK3.out HB11.out)
  clear HBK3 hcz3
  have HBK3 := n_
  clear n_
  have hcz3 : w10.drew.cell? ⟨g3, 0, none⟩ = some (.slice A0 l0.length c0) := (blk_cell HBK3.out 0).trans rfl
  have n_ := Aside0.mk (blk_below HBK10.out HB11.out)
  clear HBK10 hcz10
  have HBK10 := n_
  clear n_
  have hcz10 : w10.drew.cell? ⟨g10, 0, none⟩ = some (.slice Aq3 l0.length cq3) := (blk_cell HBK10.out 0).trans rfl
  go_region_held3 (fun w_ => w_.cell? ⟨g3, 0, none⟩ = some (.slice A0 l0.length c0) ∧ w_.cell? ⟨g10, 0, none⟩ = some (.slice Aq3 l0.length cq3)) (exact ⟨hcz3, hcz10⟩) (first | (go_at_call 16; have hcall_ := laws_toPoset.calls k1 _ _ l0 l0 _ (Kd.C_below HR0.out HT11.out) HC0.out hy3.out; refine hcall_.mono ?_; clear hcall_; rintro e w12 ⟨v5x, rfl, hx5_, hb_⟩; have HB12 := Aside0.mk hb_; have HZ12 : Aside0 (w10.drew.heap.size ≤ w12.heap.size) := ⟨hb_.size⟩; have HT12 := Aside0.mk (HT11.out.trans (Below.mono hb_ HT11.out.size)); clear hb_; have n_ := Aside0.mk (Kd.R_below HX1.out HB12.out); clear HX1; have HX1 := n_; clear n_; have n_ := Aside0.mk (Kd.R_below HX2.out HB12.out); clear HX2; have HX2 := n_; clear n_; have n_ := Aside0.mk (Kd.R_below HX3.out HB12.out); clear HX3; have HX3 := n_; clear n_; have n_ := Aside0.mk (Kd.R_below HX4.out HB12.out); clear HX4; have HX4 := n_; clear n_; have n_ := Aside0.mk (blk_below HBK3.out HB12.out); clear HBK3 hcz3; have HBK3 := n_; clear n_; have hcz3 : w12.cell? ⟨g3, 0, none⟩ = some (.slice A0 l0.length c0) := (blk_cell HBK3.out 0).trans rfl; have n_ := Aside0.mk (blk_below HBK10.out HB12.out); clear HBK10 hcz10; have HBK10 := n_; clear n_; have hcz10 : w12.cell? ⟨g10, 0, none⟩ = some (.slice Aq3 l0.length cq3) := (blk_cell HBK10.out 0).trans rfl; have HX5 := Aside0.mk (Kd.R_lower (Kd.R_mono (ok' := fun k_ => w10.drew.heap.size ≤ k_ ∧ k_ < w12.heap.size) (Kd.R_bound hx5_) (fun k_ h_ => ⟨h_.2.1, h_.2.2.1⟩)) HT11.out.size); clear hx5_) | (go_at_call 18; obtain ⟨A3_, c3_, e3_, hl3_, hC3_⟩ := Kd.R_reads HX3.out; obtain ⟨A5_, c5_, e5_, hl5_, hC5_⟩ := Kd.R_reads HX5.out; have hcall_ := laws_eqPoset.calls k1 _ _ l0 _ _ l0 true _ hC3_ hl3_ hC5_ hl5_ hy7.out; rw [← e3_] at hcall_; rw [← e5_] at hcall_; refine hcall_.mono ?_; clear hcall_ hC3_ hl3_ e3_ c3_ A3_ hC5_ hl5_ e5_ c5_ A5_; rintro e w13 ⟨rfl, hb_⟩; have HB13 := Aside0.mk hb_; have HZ13 : Aside0 (w12.heap.size ≤ w13.heap.size) := ⟨hb_.size⟩; have HT13 := Aside0.mk (HT12.out.trans (Below.mono hb_ HT12.out.size)); clear hb_; have n_ := Aside0.mk (Kd.R_below HX1.out HB13.out); clear HX1; have HX1 := n_; clear n_; have n_ := Aside0.mk (Kd.R_below HX2.out HB13.out); clear HX2; have HX2 := n_; clear n_; have n_ := Aside0.mk (Kd.R_below HX3.out HB13.out); clear HX3; have HX3 := n_; clear n_; have n_ := Aside0.mk (Kd.R_below HX4.out HB13.out); clear HX4; have HX4 := n_; clear n_; have n_ := Aside0.mk (Kd.R_below HX5.out HB13.out); clear HX5; have HX5 := n_; clear n_; have n_ := Aside0.mk (blk_below HBK3.out HB13.out); clear HBK3 hcz3; have HBK3 := n_; clear n_; have hcz3 : w13.cell? ⟨g3, 0, none⟩ = some (.slice A0 l0.length c0) := (blk_cell HBK3.out 0).trans rfl; have n_ := Aside0.mk (blk_below HBK10.out HB13.out); clear HBK10 hcz10; have HBK10 := n_; clear n_; have hcz10 : w13.cell? ⟨g10, 0, none⟩ = some (.slice Aq3 l0.length cq3) := (blk_cell HBK10.out 0).trans rfl))
  go_wp2_with fail
  have hcall_ := laws_toIntS.calls k1 _ _ l1 l1 _ (Kd.C_below HR1.out HT13.out) HC1.out hy4.out
  refine hcall_.mono ?_
  clear hcall_ 
  rintro e w14 ⟨v6x, rfl, hx6_, hb_⟩
  have HB14 := Aside0.mk hb_
  have HZ14 : Aside0 (w13.heap.size ≤ w14.heap.size) := ⟨hb_.size⟩
  have HT14 := Aside0.mk (HT13.out.trans (Below.mono hb_ HT13.out.size))
  clear hb_
  have n_ := Aside0.mk (Kd.R_below HX1.out HB14.out)
  clear HX1
  have HX1 := n_
  clear n_
  have n_ := Aside0.mk (Kd.R_below HX2.out HB14.out)
  clear HX2
  have HX2 := n_
  clear n_
  have n_ := Aside0.mk (Kd.R_below HX3.out HB14.out)
  clear HX3
  have HX3 := n_
  clear n_
  have n_ := Aside0.mk (Kd.R_below HX4.out HB14.out)
  clear HX4
  have HX4 := n_
  clear n_
  have n_ := Aside0.mk (Kd.R_below HX5.out HB14.out)
  clear HX5
  have HX5 := n_
  clear n_
  have n_ := Aside0.mk (blk_below HBK3.out HB14.out)
  clear HBK3 hcz3
  have HBK3 := n_
  clear n_
  have hcz3 : w14.cell? ⟨g3, 0, none⟩ = some (.slice A0 l0.length c0) := (blk_cell HBK3.out 0).trans rfl
  have n_ := Aside0.mk (blk_below HBK10.out HB14.out)
  clear HBK10 hcz10
  have HBK10 := n_
  clear n_
  have hcz10 : w14.cell? ⟨g10, 0, none⟩ = some (.slice Aq3 l0.length cq3) := (blk_cell HBK10.out 0).trans rfl
  have HX6 := Aside0.mk (Kd.R_lower (Kd.R_mono (ok' := fun k_ => w13.heap.size ≤ k_ ∧ k_ < w14.heap.size) (Kd.R_bound hx6_) (fun k_ h_ => ⟨h_.2.1, h_.2.2.1⟩)) HT13.out.size)
  clear hx6_
  go_wp2_with fail
  obtain ⟨A4_, c4_, e4_, hl4_, hC4_⟩ := Kd.R_reads HX4.out
  obtain ⟨A6_, c6_, e6_, hl6_, hC6_⟩ := Kd.R_reads HX6.out
  have hcall_ := laws_eqIntS.calls k1 _ _ l1 _ _ l1 true _ hC4_ hl4_ hC6_ hl6_ hy8.out
  rw [← e4_] at hcall_
  rw [← e6_] at hcall_
  refine hcall_.mono ?_
  clear hcall_ hC4_ hl4_ e4_ c4_ A4_ hC6_ hl6_ e6_ c6_ A6_
  rintro e w15 ⟨rfl, hb0_⟩
  have hb_ := laws_FnExactRankLabels.belowD hb0_
  clear hb0_
  have HB15 := Aside0.mk hb_
  have HZ15 : Aside0 (w14.heap.size ≤ w15.heap.size) := ⟨hb_.size⟩
  have HT15 := Aside0.mk (HT14.out.trans (Below.mono hb_ HT14.out.size))
  clear hb_
  have n_ := Aside0.mk (Kd.R_below HX1.out HB15.out)
  clear HX1
  have HX1 := n_
  clear n_
  have n_ := Aside0.mk (Kd.R_below HX2.out HB15.out)
  clear HX2
  have HX2 := n_
  clear n_
  have n_ := Aside0.mk (Kd.R_below HX3.out HB15.out)
  clear HX3
  have HX3 := n_
  clear n_
  have n_ := Aside0.mk (Kd.R_below HX4.out HB15.out)
  clear HX4
  have HX4 := n_
  clear n_
  have n_ := Aside0.mk (Kd.R_below HX5.out HB15.out)
  clear HX5
  have HX5 := n_
  clear n_
  have n_ := Aside0.mk (Kd.R_below HX6.out HB15.out)
  clear HX6
  have HX6 := n_
  clear n_
  have n_ := Aside0.mk (blk_below HBK3.out HB15.out)
  clear HBK3 hcz3
  have HBK3 := n_
  clear n_
  have hcz3 : w15.cell? ⟨g3, 0, none⟩ = some (.slice A0 l0.length c0) := (blk_cell HBK3.out 0).trans rfl
  have n_ := Aside0.mk (blk_below HBK10.out HB15.out)
  clear HBK10 hcz10
  have HBK10 := n_
  clear n_
  have hcz10 : w15.cell? ⟨g10, 0, none⟩ = some (.slice Aq3 l0.length cq3) := (blk_cell HBK10.out 0).trans rfl
  go_wp2
  go_ret
  exact ⟨by first | rfl | (simp; done) | (simp [*]; done), by repeat (first | (with_reducible first | exact HT15.out | apply below_alloc | apply pw_below_drewN | apply below_drew1) | exact HT15.out)⟩
open Classical in
noncomputable def laws_FnExactRankLabels.f (k : Nat) (l0 : List Int) (l1 : List Int) (a2 : Int) : Option Bool := if ∃ k1 : Nat, (∃ (_ : Unit), (decide ((l1.length : Int) > 1048576) = true)) ∨ (∃ (z1 : Int), (decide ((l1.length : Int) > 1048576) = false) ∧ (laws_szPoset.f l0 1048576 = some z1) ∧ (decide (z1 < 0) = true)) ∨ (∃ (z1 : Int) (v2 : Int) (v3 : Bool), (decide ((l1.length : Int) > 1048576) = false) ∧ (laws_szPoset.f l0 1048576 = some z1) ∧ (decide (z1 < 0) = false) ∧ (laws_toPoset.f k1 l0 = some l0) ∧ (laws_toIntS.f k1 l1 = some l1) ∧ (spec_RankLabels.f k l0 l1 a2 = some (v2, v3)) ∧ (impl_RankLabels.f k l0 l1 a2 = some (v2, v3)) ∧ (laws_eqPoset.f k1 l0 l0 = some true) ∧ (laws_eqIntS.f k1 l1 l1 = some true)) then some true else none
theorem laws_FnExactRankLabels.calls (k : Nat) (A0 : Option Addr) (c0 : Nat) (l0 : List Int) (A1 : Option Addr) (c1 : Nat) (l1 : List Int) (a2 : Int) (r : Bool) (w : World) (hr0 : Kd.C (Kd.int .i64) w A0 l0.length l0) (hc0 : l0.length ≤ c0) (hr1 : Kd.C (Kd.int .i64) w A1 l1.length l1) (hc1 : l1.length ≤ c1) (h : laws_FnExactRankLabels.f k l0 l1 a2 = some r) :
    Calls Try.prog 11 #[.agg #[.slice A0 l0.length c0], .slice A1 l1.length c1, .int .i64 a2] w fun e w' => e = .returned (.bool r) ∧ Below w.heap.size w w' := by
  unfold laws_FnExactRankLabels.f at h
  split at h
  · rename_i hh
    obtain rfl := Option.some.inj h
    obtain ⟨k1, hh⟩ := hh
    rcases hh with ⟨_, hx⟩ | ⟨z1, hy0, hy1, hx⟩ | ⟨z1, v2, v3, hy0, hy1, hy2, hy3, hy4, hy5, hy6, hy7, hy8⟩
    · exact laws_FnExactRankLabels.calls0 k k1 _ _ l0 _ _ l1 a2  w hr0 hc0 hr1 hc1 hx
    · exact laws_FnExactRankLabels.calls1 k k1 _ _ l0 _ _ l1 a2 z1 w hr0 hc0 hr1 hc1 hy0 hy1 hx
    · exact laws_FnExactRankLabels.calls2 k k1 _ _ l0 _ _ l1 a2 z1 v2 v3 w hr0 hc0 hr1 hc1 hy0 hy1 hy2 hy3 hy4 hy5 hy6 hy7 hy8
  · cases h
end Go.Proofs.Ytemkddgfneohhaa.F
end
