/- items: the elements of a set, in order. -/
import Derived.Test.YtdbioadcopfjcaaQposetn
import Derived.Test.YtdbioadcopfjcaaQhas
import Derived.Test.YtdbioadcopfjcaaFImplItems
namespace Go.Proofs.Ytdbioadcopfjcaa.Q
open Go.RowKit Go.Proofs.YtdbioadcopfjcaaW.PrintWords Go.Proofs.Ytdbioadcopfjcaa.F
set_option linter.unusedVariables false
theorem items_ev (m : Nat) (hm : m < 2 ^ 62) : Ev (fun k => impl_items.f k (m : Int)) (ints (itemsN m)) := by
  show Ev (fun k => impl_items.l0 k (m : Int) [] 0) _
  have key : ∀ i, i ≤ 10 → ∀ acc : List Int, acc.length ≤ i → Ev (fun k => impl_items.l0 k (m : Int) acc (i : Int)) (acc ++ ints ((List.range' i (10 - i)).filter m.testBit)) := by
    refine downTo 10 ?_ ?_
    · intro acc _
      refine Ev.step (by intro k; simp only [impl_items.l0]; rfl) ?_
      refine Ev.no (by omega) (Ev.ret (by simp [ints]))
    · intro i hi ih acc ha
      refine Ev.step (by intro k; simp only [impl_items.l0]; rfl) ?_
      refine Ev.yes (by omega) (Ev.call (has_eq hm (by omega)) ?_)
      have hr : List.range' i (10 - i) = i :: List.range' (i + 1) (10 - (i + 1)) := by
        rw [show 10 - i = (10 - (i + 1)) + 1 by omega, List.range'_succ]
      rw [hr, wid1 hi (by omega)]
      cases hb : m.testBit i with
      | true =>
        refine Ev.yes rfl (Ev.yes (by omega) (evc (ih (acc ++ [(i : Int)]) (by simp; omega)) ?_))
        rw [List.filter_cons_of_pos hb]
        simp [ints]
      | false =>
        refine Ev.no (by simp) (evc (ih acc (by omega)) ?_)
        rw [List.filter_cons_of_neg (by simp [hb])]
  have := key 0 (by omega) [] (by simp)
  exact evc this (by simp [itemsN, List.range_eq_range'])

end Go.Proofs.Ytdbioadcopfjcaa.Q
