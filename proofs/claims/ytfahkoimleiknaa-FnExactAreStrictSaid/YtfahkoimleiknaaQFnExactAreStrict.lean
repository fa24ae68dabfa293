/- AreStrict: the program and the reference answer alike. -/
import Derived.Test.YtfahkoimleiknaaQlabels
import Derived.Test.YtfahkoimleiknaaQlawkit
import Derived.Test.YtfahkoimleiknaaPFnExactAreStrict
import Derived.Test.YtfahkoimleiknaaFImplAreStrict
import Derived.Test.YtfahkoimleiknaaFLawsFnExactAreStrict
import Derived.Test.YtfahkoimleiknaaFSpecAreStrict
namespace Go.Proofs.Ytfahkoimleiknaa.Q
open Go.RowKit Go.Proofs.YtfahkoimleiknaaW.PrintWords Go.Proofs.Ytfahkoimleiknaa.F
set_option linter.unusedVariables false
def resAreStrict (p f : List Int) (m : Int) : Bool × Bool := if isPo p && isB m then (labA p f m 1, true) else (false, false)
theorem spec_AreStrict_ev (p f : List Int) (m : Int) : Ev (fun k => spec_AreStrict.f k p f m) (resAreStrict p f m) := by
  unfold spec_AreStrict.f resAreStrict
  refine Ev.bind (poGood_ev p) ?_
  cases hp : isPo p with
  | false => exact Ev.no (by simp) (Ev.ret (by simp))
  | true =>
  refine Ev.yes rfl (Ev.call (laBound_eq m) ?_)
  cases isB m with
  | false => exact Ev.no (by simp) (Ev.ret (by simp))
  | true => exact Ev.yes rfl (Ev.bind (laAre_ev ((isPo_iff p).1 hp) f m 1) (Ev.ret (by simp)))
theorem impl_AreStrict_ev (p f : List Int) (m : Int) : Ev (fun k => impl_AreStrict.f k p f m) (resAreStrict p f m) := by
  unfold impl_AreStrict.f resAreStrict
  refine Ev.bind (IsPoset_ev p) ?_
  cases hp : isPo p with
  | false => exact Ev.no (by simp) (Ev.ret (by simp))
  | true =>
  refine Ev.yes rfl (Ev.call (isBound_eq m) ?_)
  cases isB m with
  | false => exact Ev.no (by simp) (Ev.ret (by simp))
  | true => exact Ev.yes rfl (Ev.bind (areLabels_ev ((isPo_iff p).1 hp) f m 1) (Ev.ret (by simp)))
theorem FnExactAreStrict : laws_FnExactAreStrict.Pure := by
  intro p f m hp _ hf _ _
  refine Ev.rounds (g := fun k => laws_FnExactAreStrict.f k p f m) ?_
  unfold laws_FnExactAreStrict.f
  refine Ev.ite (fun _ => Ev.ret rfl) (fun hfl => Ev.call (szPoset_eq p 1048576 (Nat.le_refl _) hp) ?_)
  refine Ev.ite (fun _ => Ev.ret rfl) (fun hpl => ?_)
  have hp2 : p.length ≤ 1048576 := by
    rcases Nat.lt_or_ge 1048576 p.length with h | h
    · rw [if_neg (by omega)] at hpl; omega
    · exact h
  have hf2 : f.length ≤ 1048576 := by omega
  refine Ev.bind (toPoset_ev p hp2) (Ev.bind (toIntS_ev f hf2) (Ev.bind (spec_AreStrict_ev p f m) (Ev.bind (toPoset_ev p hp2) (Ev.bind (toIntS_ev f hf2) (Ev.bind (impl_AreStrict_ev p f m) ?_)))))
  refine Ev.no (by simp) ?_
  refine Ev.step (by intro k; simp only [laws_FnExactAreStrict.j0]; rfl) (Ev.no (by simp) ?_)
  refine Ev.bind (toPoset_ev p hp2) (Ev.bind (eqPoset_refl p (by omega)) (Ev.yes rfl (Ev.bind (toIntS_ev f hf2) (Ev.bind (eqIntS_refl f (by omega)) (Ev.yes rfl (Ev.ret rfl))))))
end Go.Proofs.Ytfahkoimleiknaa.Q
