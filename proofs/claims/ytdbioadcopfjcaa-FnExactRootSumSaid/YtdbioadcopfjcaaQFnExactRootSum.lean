/- RootSum: the program and the reference answer alike. -/
import Derived.Test.YtdbioadcopfjcaaQtests
import Derived.Test.YtdbioadcopfjcaaPFnExactRootSum
import Derived.Test.YtdbioadcopfjcaaFImplIsTurn
import Derived.Test.YtdbioadcopfjcaaFImplRootSum
import Derived.Test.YtdbioadcopfjcaaFLawsFnExactRootSum
import Derived.Test.YtdbioadcopfjcaaFSpecRootSum
import Derived.Test.YtdbioadcopfjcaaFSpecSvRoots
import Derived.Test.YtdbioadcopfjcaaXRootsum
namespace Go.Proofs.Ytdbioadcopfjcaa.Q
open Go.RowKit Go.Proofs.YtdbioadcopfjcaaW.PrintWords Go.Proofs.Ytdbioadcopfjcaa.F
set_option linter.unusedVariables false
def okRS (m d : Nat) : Bool := match spec_svRoots.f 200 (m : Int) (d : Int), impl_rootSum.f (m : Int) (d : Int) with
  | some a, some b => a == b
  | _, _ => false
theorem allRS : (List.range 61).all (fun m => (List.range 61).all fun d => m == 0 || okRS m d) = true := by decide +kernel
theorem RootSum_both (m d : Int) (hm : 1 ≤ m ∧ m ≤ 60) (hd : 0 ≤ d ∧ d ≤ 60) : ∃ r, Ev (fun k => spec_svRoots.f k m d) r ∧ impl_rootSum.f m d = some r := by
  obtain ⟨m, rfl⟩ := Int.eq_ofNat_of_zero_le (show 0 ≤ m by omega)
  obtain ⟨d, rfl⟩ := Int.eq_ofNat_of_zero_le hd.1
  have h := List.all_eq_true.1 (List.all_eq_true.1 allRS m (List.mem_range.2 (by omega))) d (List.mem_range.2 (by omega))
  rw [Bool.or_eq_true, beq_iff_eq] at h
  rcases h with h | h
  · omega
  unfold okRS at h
  split at h
  · rename_i a b ha hb
    rw [beq_iff_eq] at h
    subst h
    exact ⟨a, Ev.of (spec_svRoots.mono _ _) ha, hb⟩
  · cases h
theorem FnExactRootSum : laws_FnExactRootSum.Pure := by
  intro m d _ _
  refine Ev.rounds (g := fun k => laws_FnExactRootSum.f k m d) ?_
  unfold laws_FnExactRootSum.f
  have hb : ∃ r, Ev (fun k => spec_RootSum.f k m d) r ∧ impl_RootSum.f m d = some r := by
    unfold spec_RootSum.f impl_RootSum.f impl_isTurn.f
    simp only [within_eq, l1In_eq, Option.bind_some]
    by_cases hm : 1 ≤ m ∧ m ≤ 60
    · rw [range_true hm]
      by_cases hd : 0 ≤ d ∧ d ≤ 60
      · rw [range_true hd]
        obtain ⟨r, h1, h2⟩ := RootSum_both m d hm hd
        refine ⟨(r, true), Ev.yes rfl (Ev.yes rfl (Ev.bind h1 (Ev.ret rfl))), ?_⟩
        simp [h2]
      · rw [range_false hd]
        exact ⟨(0, false), Ev.yes rfl (Ev.no (by simp) (Ev.ret rfl)), by simp⟩
    · rw [range_false hm]
      exact ⟨(0, false), Ev.no (by simp) (Ev.ret rfl), by simp⟩
  obtain ⟨r, h1, h2⟩ := hb
  refine Ev.bind h1 (Ev.call h2 ?_)
  refine Ev.yes rfl (Ev.no (by simp) (Ev.ret rfl))
end Go.Proofs.Ytdbioadcopfjcaa.Q
