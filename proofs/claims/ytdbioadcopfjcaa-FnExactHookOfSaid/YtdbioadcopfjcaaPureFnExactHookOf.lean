/- The program's HookOf answers as the reference's does, for all four whole numbers. No condition. -/
import Derived.Test.YtdbioadcopfjcaaPFnExactHookOfx1
namespace Go.Proofs.Ytdbioadcopfjcaa.Pure
open Go.RowKit Go.Proofs.Ytdbioadcopfjcaa.PFnExactHookOf Go.Proofs.YtdbioadcopfjcaaW.PrintWords Go.Proofs.YtdbioadcopfjcaaW.PrintLast

theorem within_same (a b c : Int) : spec_l1In.f a b c = impl_within.f a b c := rfl
theorem sides_same (a b : Int) : spec_shSides.f a b = impl_areSides.f a b 10 := rfl
theorem hook_same (a b r c : Int) : spec_HookOf.f a b r c = impl_HookOf.f a b r c := rfl
theorem within_some (a b c : Int) : ∃ t, impl_within.f a b c = some t := by
  unfold impl_within.f; split <;> exact ⟨_, rfl⟩
theorem sides_some (a b m : Int) : ∃ t, impl_areSides.f a b m = some t := by
  unfold impl_areSides.f
  obtain ⟨t, ht⟩ := within_some a 1 m
  obtain ⟨u, hu⟩ := within_some b 1 m
  rw [ht, hu]
  cases t <;> cases u <;> simp
theorem hook_some (a b r c : Int) : ∃ t, impl_HookOf.f a b r c = some t := by
  unfold impl_HookOf.f
  obtain ⟨t, ht⟩ := sides_some a b 10
  obtain ⟨u, hu⟩ := within_some r 0 (wrap64 (a - 1))
  obtain ⟨v, hv⟩ := within_some c 0 (wrap64 (b - 1))
  rw [ht, hu, hv]
  cases t <;> cases u <;> cases v <;> simp

theorem FnExactHookOf : laws_FnExactHookOf.Pure := by
  intro a b r c _ _ _ _
  unfold laws_FnExactHookOf.f
  rw [hook_same]
  obtain ⟨t, ht⟩ := hook_some a b r c
  rw [ht]
  simp

end Go.Proofs.Ytdbioadcopfjcaa.Pure
