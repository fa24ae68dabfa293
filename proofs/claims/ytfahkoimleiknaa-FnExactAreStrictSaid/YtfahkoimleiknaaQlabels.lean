/- Labels: the program's test and the reference's say the same. -/
import Derived.Test.YtfahkoimleiknaaQposet
import Derived.Test.YtfahkoimleiknaaFImplIsBound
import Derived.Test.YtfahkoimleiknaaFImplPosetAreLabels
import Derived.Test.YtfahkoimleiknaaFImplPosetN
import Derived.Test.YtfahkoimleiknaaFSpecL1All
import Derived.Test.YtfahkoimleiknaaFSpecLaAre
import Derived.Test.YtfahkoimleiknaaFSpecLaBound
namespace Go.Proofs.Ytfahkoimleiknaa.Q
open Go.RowKit Go.Proofs.YtfahkoimleiknaaW.PrintWords Go.Proofs.Ytfahkoimleiknaa.F
set_option linter.unusedVariables false
def inR (a b x : Int) : Bool := decide (a ≤ x) && decide (x ≤ b)
theorem inR_iff {a b x : Int} : inR a b x = true ↔ a ≤ x ∧ x ≤ b := by unfold inR; rw [Bool.and_eq_true, decide_eq_true_eq, decide_eq_true_eq]
theorem l1All_ev (l : List Int) (a b : Int) (h : l.length ≤ 9223372036854775807) : Ev (fun k => spec_l1All.f k l a b) (allFrom (fun i => inR a b (l.getD i 0)) l.length 0) := by
  unfold spec_l1All.f
  have key : ∀ i, i ≤ l.length → Ev (fun k => spec_l1All.l0 k a b l (l.length : Int) (i : Int)) (allFrom (fun i => inR a b (l.getD i 0)) l.length i) := by
    refine downTo _ ?_ ?_
    · refine Ev.step (by intro k; simp only [spec_l1All.l0]; rfl) (Ev.no (by omega) (Ev.ret (allFrom_end _ _).symm))
    · intro i hi ih
      refine Ev.step (by intro k; simp only [spec_l1All.l0]; rfl) (Ev.yes (by omega) (Ev.yes (by omega) (Ev.yes (by omega) ?_)))
      rw [wid1 hi (by omega), rdN, allFrom_step _ hi]
      refine Ev.call (l1In_eq _ _ _) ?_
      show Ev (fun k => if inR a b (l.getD i 0) = true then _ else _) (inR a b (l.getD i 0) && _)
      cases inR a b (l.getD i 0) with
      | true => exact Ev.yes rfl (evc ih (by simp))
      | false => exact Ev.no (by simp) (Ev.ret rfl)
  exact key 0 (by omega)
/-- Element i's label is no less than those below it allow. -/
def upOk (p f : List Int) (by_ : Int) (i : Nat) : Bool := allFrom (fun j => !(L p i).testBit j || !decide (f.getD i 0 < wrap64 (f.getD j 0 + by_))) i 0
def labA (p f : List Int) (m by_ : Int) : Bool := decide (f.length = p.length) && (allFrom (fun i => inR 0 m (f.getD i 0)) f.length 0 && allFrom (upOk p f by_) f.length 0)
theorem laAre_ev {p : List Int} (hp : PO p) (f : List Int) (m by_ : Int) : Ev (fun k => spec_laAre.f k p f m by_) (labA p f m by_) := by
  have hs := hp.small
  unfold spec_laAre.f labA
  refine Ev.ite (fun hl => ?_) (fun hl => ?_)
  · have hl' : f.length = p.length := by omega
    refine Ev.bind (l1All_ev f 0 m (by omega)) ?_
    rw [decide_eq_true hl', Bool.true_and]
    refine Ev.step (by intro k; simp only [spec_laAre.j0]; rfl) ?_
    cases allFrom (fun i => inR 0 m (f.getD i 0)) f.length 0 with
    | false => exact Ev.yes rfl (Ev.ret rfl)
    | true =>
    refine Ev.no (by simp) ?_
    rw [Bool.true_and]
    have key : ∀ i, i ≤ f.length → Ev (fun k => spec_laAre.l0 k f by_ (f.length : Int) (i : Int) p) (allFrom (upOk p f by_) f.length i) := by
      refine downTo _ ?_ ?_
      · refine Ev.step (by intro k; simp only [spec_laAre.l0]; rfl) (Ev.no (by omega) (Ev.ret (allFrom_end _ _).symm))
      · intro i hi ih
        refine Ev.step (by intro k; simp only [spec_laAre.l0]; rfl) (Ev.yes (by omega) ?_)
        rw [allFrom_step _ hi]
        unfold upOk
        have inner : ∀ j, j ≤ i → Ev (fun k => spec_laAre.l1 k f by_ (i : Int) (j : Int) (f.length : Int) (i : Int) p)
            (allFrom (fun j => !(L p i).testBit j || !decide (f.getD i 0 < wrap64 (f.getD j 0 + by_))) i j && allFrom (upOk p f by_) f.length (i + 1)) := by
          refine downTo _ ?_ ?_
          · refine Ev.step (by intro k; simp only [spec_laAre.l1]; rfl) (Ev.no (by omega) ?_)
            rw [wid1 hi (by omega), allFrom_end, Bool.true_and]
            exact ih
          · intro j hj ihj
            refine Ev.step (by intro k; simp only [spec_laAre.l1]; rfl) (Ev.yes (by omega) (Ev.yes (by omega) (Ev.yes (by omega) ?_)))
            rw [allFrom_step _ hj, wid1 hj (by omega), rdN, rdN, rdN, hp.val i (by omega)]
            refine Ev.call (poIn_eq (by omega)) ?_
            cases (L p i).testBit j with
            | false => exact Ev.no (by simp) (evc ihj (by simp))
            | true =>
              refine Ev.yes rfl (Ev.yes (by omega) (Ev.yes (by omega) (Ev.yes (by omega) ?_)))
              refine Ev.ite (fun h => Ev.ret ?_) (fun h => evc ihj ?_)
              · rw [decide_eq_true h]; simp
              · rw [decide_eq_false h]; simp
        exact inner 0 (by omega)
    exact key 0 (by omega)
  · rw [decide_eq_false (show ¬ f.length = p.length by omega)]
    refine Ev.step (by intro k; simp only [spec_laAre.j0]; rfl) (Ev.yes (show true = true from rfl) (Ev.ret rfl))
theorem areLabels_ev {p : List Int} (hp : PO p) (f : List Int) (m by_ : Int) : Ev (fun k => impl_Poset_areLabels.f k p f m by_) (labA p f m by_) := by
  have hs := hp.small
  unfold impl_Poset_areLabels.f labA
  refine Ev.call (show impl_Poset_n.f p = some (p.length : Int) from rfl) ?_
  refine Ev.ite (fun hl => ?_) (fun hl => Ev.ret (by rw [decide_eq_false (show ¬ f.length = p.length by omega)]; rfl))
  have hl' : f.length = p.length := by omega
  rw [decide_eq_true hl', Bool.true_and]
  have both : (allFrom (fun i => inR 0 m (f.getD i 0)) f.length 0 && allFrom (upOk p f by_) f.length 0) = allFrom (fun i => inR 0 m (f.getD i 0) && upOk p f by_ i) f.length 0 := by
    rw [Bool.eq_iff_iff, Bool.and_eq_true, allFrom_iff, allFrom_iff, allFrom_iff]
    constructor
    · rintro ⟨a, b⟩ j h1 h2
      rw [a j h1 h2, b j h1 h2]; rfl
    · intro h
      refine ⟨fun j h1 h2 => ?_, fun j h1 h2 => ?_⟩ <;> have := h j h1 h2 <;> rw [Bool.and_eq_true] at this
      · exact this.1
      · exact this.2
  rw [both]
  have key : ∀ i, i ≤ f.length → Ev (fun k => impl_Poset_areLabels.l0 k f m by_ f (f.length : Int) (i : Int) p) (allFrom (fun i => inR 0 m (f.getD i 0) && upOk p f by_ i) f.length i) := by
    refine downTo _ ?_ ?_
    · refine Ev.step (by intro k; simp only [impl_Poset_areLabels.l0]; rfl) (Ev.no (by omega) (Ev.ret (allFrom_end _ _).symm))
    · intro i hi ih
      have hm := hp.lt i (by omega)
      refine Ev.step (by intro k; simp only [impl_Poset_areLabels.l0]; rfl) (Ev.yes (by omega) (Ev.yes (by omega) (Ev.yes (by omega) ?_)))
      rw [allFrom_step _ hi, rdN, rdN, hp.val i (by omega)]
      refine Ev.call (within_eq _ _ _) ?_
      show Ev (fun k => if inR 0 m (f.getD i 0) = true then _ else _) (inR 0 m (f.getD i 0) && _ && _)
      cases inR 0 m (f.getD i 0) with
      | false => exact Ev.no (by simp) (Ev.ret rfl)
      | true =>
      refine Ev.yes rfl (Ev.yes (by omega) (Ev.bind (items_ev _ (lt_pow hm (by omega))) ?_))
      rw [Bool.true_and]
      have hup : upOk p f by_ i = (itemsN (L p i)).all (fun j => !decide (f.getD i 0 < wrap64 (f.getD j 0 + by_))) := (items_all hm (by omega) _).symm
      rw [hup]
      have inner : ∀ j, j ≤ (itemsN (L p i)).length → Ev (fun k => impl_Poset_areLabels.l1 k f m by_ (f.getD i 0) f (f.length : Int) (i : Int) (ints (itemsN (L p i))) ((ints (itemsN (L p i))).length : Int) (j : Int) p)
          (((itemsN (L p i)).drop j).all (fun j => !decide (f.getD i 0 < wrap64 (f.getD j 0 + by_))) && allFrom (fun i => inR 0 m (f.getD i 0) && upOk p f by_ i) f.length (i + 1)) := by
        rw [ints_len]
        refine downTo _ ?_ ?_
        · refine Ev.step (by intro k; simp only [impl_Poset_areLabels.l1]; rfl) (Ev.no (by omega) ?_)
          rw [wid1 hi (by omega), List.drop_length, List.all_nil, Bool.true_and]
          exact ih
        · intro j hj ihj
          have hlt := items_lt hm hj
          have hl := itemsN_len (L p i)
          refine Ev.step (by intro k; simp only [impl_Poset_areLabels.l1]; rfl) (Ev.yes (by omega) (Ev.yes (by omega) (Ev.yes (by rw [ints_len]; omega) ?_)))
          rw [rd_ints, all_drop_step _ _ 0 hj, wid1 hj (by omega), rdN]
          refine Ev.yes (by omega) (Ev.yes (by omega) ?_)
          refine Ev.ite (fun h => Ev.ret ?_) (fun h => evc ihj ?_)
          · rw [decide_eq_true h]; simp
          · rw [decide_eq_false h]; simp
      exact inner 0 (by omega)
  exact key 0 (by omega)
def isB (m : Int) : Bool := inR 0 12 m
theorem laBound_eq (m : Int) : spec_laBound.f m = some (isB m) := by unfold spec_laBound.f; rw [l1In_eq]; rfl
theorem isBound_eq (m : Int) : impl_isBound.f m = some (isB m) := by unfold impl_isBound.f; rw [within_eq]; rfl
end Go.Proofs.Ytfahkoimleiknaa.Q
