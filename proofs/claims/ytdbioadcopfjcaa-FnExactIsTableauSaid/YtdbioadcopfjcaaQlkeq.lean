/- The laws' own small functions: a part. -/
import Derived.Test.YtdbioadcopfjcaaQbase
import Derived.Test.YtdbioadcopfjcaaFLawsEqIntS
namespace Go.Proofs.Ytdbioadcopfjcaa.Q
open Go.RowKit Go.Proofs.YtdbioadcopfjcaaW.PrintWords Go.Proofs.Ytdbioadcopfjcaa.F
set_option linter.unusedVariables false
theorem eqIntS_ev (a b : List Int) (h : a.length ≤ 9223372036854775807) : Ev (fun k => laws_eqIntS.f k a b) (decide (a = b)) := by
  unfold laws_eqIntS.f
  refine Ev.ite (fun hl => ?_) (fun hl => Ev.ret ?_)
  · have hl' : a.length = b.length := by omega
    have key : ∀ i, i ≤ a.length → a.take i = b.take i → Ev (fun k => laws_eqIntS.l0 k a b (i : Int)) (decide (a = b)) := by
      refine downTo _ ?_ ?_
      · intro hp
        refine Ev.step (by intro k; simp only [laws_eqIntS.l0]; rfl) (Ev.no (by omega) (Ev.ret ?_))
        rw [List.take_length, hl', List.take_length] at hp
        simp [hp]
      · intro i hi ih hp
        refine Ev.step (by intro k; simp only [laws_eqIntS.l0]; rfl) (Ev.yes (by omega) (Ev.yes (by omega) (Ev.yes (by omega) ?_)))
        rw [wid1 hi (by omega), rdN, rdN]
        have ga : a.getD i 0 = a[i] := by rw [List.getD_eq_getElem?_getD, List.getElem?_eq_getElem hi]; rfl
        have gb : b.getD i 0 = b[i]'(by omega) := by rw [List.getD_eq_getElem?_getD, List.getElem?_eq_getElem (by omega)]; rfl
        rw [ga, gb]
        refine Ev.ite (fun h => ih ?_) (fun h => Ev.ret ?_)
        · rw [List.take_add_one, List.take_add_one, hp, List.getElem?_eq_getElem hi, List.getElem?_eq_getElem (show i < b.length by omega), h]
        · rw [decide_eq_false]
          intro e
          subst e
          exact h rfl
    exact key 0 (by omega) rfl
  · rw [decide_eq_false]
    intro e
    subst e
    exact hl rfl
theorem eqIntS_refl (a : List Int) (h : a.length ≤ 9223372036854775807) : Ev (fun k => laws_eqIntS.f k a a) true := evc (eqIntS_ev a a h) (by simp)
end Go.Proofs.Ytdbioadcopfjcaa.Q
