/- Part 6 of the texts below the row of FnIdealsAndAntichains: printed functions with their contracts, and plain lemmas. No condition. -/
import Derived.Test.YtonfifhoklaliaaZFnIdealsAndAntichains5
section
namespace Go.Proofs.Ytonfifhoklaliaa.F
open Go.RowKit Go.Proofs.YtonfifhoklaliaaW.PrintWords Go.Proofs.YtonfifhoklaliaaW.PrintLast Go.Proofs.YtonfifhoklaliaaW.PrintMore
attribute [local go_sem] max2_int min2_int max_two min_two max_three min_three max_four min_four
set_option linter.unusedVariables false
set_option linter.unusedSimpArgs false
mutual
def laws_FnIdealsAndAntichains.j0 : Nat → List Int → List Int → Bool → List Int → Int → Bool → List Int → Option (Bool)
 | 0, _, _, _, _, _, _, _ => none
 | k + 1, x1, x6, x7, x10, x14, x122, x599000 => if x122 = true then (some false) else (if x7 = true then (if (x10.length : Int) = (x6.length : Int) then (if x14 = (x6.length : Int) then (if 0 < (x6.length : Int) then (if (rd x6 0) = 0 then (if 0 ≤ (wrap64 ((x6.length : Int) - 1)) then (if (wrap64 ((x6.length : Int) - 1)) < (x6.length : Int) then (laws_FnIdealsAndAntichains.j1 k x1 x6 x10 ((rd x6 (wrap64 ((x6.length : Int) - 1))) != (wrap64 ((shl .i64 1 (x599000.length : Int)) - 1))) x599000) else (none)) else (none)) else (laws_FnIdealsAndAntichains.j1 k x1 x6 x10 true x599000)) else (none)) else (laws_FnIdealsAndAntichains.j1 k x1 x6 x10 true x599000)) else (laws_FnIdealsAndAntichains.j1 k x1 x6 x10 true x599000)) else (laws_FnIdealsAndAntichains.j3 k x1))
def laws_FnIdealsAndAntichains.j3 : Nat → List Int → Option (Bool)
 | 0, _ => none
 | k + 1, x1 => (spec_DrawIdealOf.f k x1).bind fun bt634 => ((impl_IdealOf.f k bt634.1 bt634.2).bind fun bt639 => ((spec_IdealOf.f k bt634.1 bt634.2).bind fun bt641 => ((impl_TopOf.f k bt634.1 bt634.2).bind fun bt643 => ((spec_TopOf.f k bt634.1 bt634.2).bind fun bt645 => ((impl_BottomOf.f k bt634.1 bt634.2).bind fun bt647 => ((spec_BottomOf.f k bt634.1 bt634.2).bind fun bt649 => ((impl_IsIdeal.f k bt634.1 bt634.2).bind fun bt651 => ((spec_IsIdeal.f k bt634.1 bt634.2).bind fun bt653 => (if (bt639.2 != bt641.2) = true then (laws_FnIdealsAndAntichains.j4 k x1 bt634.2 bt639.1 bt639.2 bt643.1 bt647.1 bt651.1 true bt634.1) else (if bt639.1 = bt641.1 then (if (bt643.2 != bt645.2) = true then (laws_FnIdealsAndAntichains.j4 k x1 bt634.2 bt639.1 bt639.2 bt643.1 bt647.1 bt651.1 true bt634.1) else (if bt643.1 = bt645.1 then (if (bt647.2 != bt649.2) = true then (laws_FnIdealsAndAntichains.j4 k x1 bt634.2 bt639.1 bt639.2 bt643.1 bt647.1 bt651.1 true bt634.1) else (if bt647.1 = bt649.1 then (if (bt651.2 != bt653.2) = true then (laws_FnIdealsAndAntichains.j4 k x1 bt634.2 bt639.1 bt639.2 bt643.1 bt647.1 bt651.1 true bt634.1) else (if (bt651.1 != bt653.1) = true then (laws_FnIdealsAndAntichains.j4 k x1 bt634.2 bt639.1 bt639.2 bt643.1 bt647.1 bt651.1 true bt634.1) else (if (bt643.2 != bt639.2) = true then (laws_FnIdealsAndAntichains.j4 k x1 bt634.2 bt639.1 bt639.2 bt643.1 bt647.1 bt651.1 true bt634.1) else (if (bt647.2 != bt639.2) = true then (laws_FnIdealsAndAntichains.j4 k x1 bt634.2 bt639.1 bt639.2 bt643.1 bt647.1 bt651.1 true bt634.1) else (laws_FnIdealsAndAntichains.j4 k x1 bt634.2 bt639.1 bt639.2 bt643.1 bt647.1 bt651.1 (bt651.2 != bt639.2) bt634.1))))) else (laws_FnIdealsAndAntichains.j4 k x1 bt634.2 bt639.1 bt639.2 bt643.1 bt647.1 bt651.1 true bt634.1))) else (laws_FnIdealsAndAntichains.j4 k x1 bt634.2 bt639.1 bt639.2 bt643.1 bt647.1 bt651.1 true bt634.1))) else (laws_FnIdealsAndAntichains.j4 k x1 bt634.2 bt639.1 bt639.2 bt643.1 bt647.1 bt651.1 true bt634.1)))))))))))
def laws_FnIdealsAndAntichains.j4 : Nat → List Int → Int → Int → Bool → Int → Int → Bool → Bool → List Int → Option (Bool)
 | 0, _, _, _, _, _, _, _, _, _ => none
 | k + 1, x1, x24, x25, x26, x29, x33, x37, x337, x639000 => if x337 = true then (some false) else (if x26 = true then ((impl_IsAntichain.f k x639000 x29).bind fun bt655 => ((impl_IsAntichain.f k x639000 x33).bind fun bt657 => (if bt655.2 = true then (if bt655.1 = true then (if bt657.2 = true then (if bt657.1 = true then ((laws_nIdeal.f k x639000 x25).bind fun t659 => (if t659 = true then (if (x37 != (x25 == x24)) = true then (laws_FnIdealsAndAntichains.j5 k x1 true) else (if x24 > 0 then (if x29 = 0 then (laws_FnIdealsAndAntichains.j5 k x1 true) else (laws_FnIdealsAndAntichains.j5 k x1 (x33 == 0))) else (laws_FnIdealsAndAntichains.j5 k x1 false))) else (laws_FnIdealsAndAntichains.j5 k x1 true))) else (laws_FnIdealsAndAntichains.j5 k x1 true)) else (laws_FnIdealsAndAntichains.j5 k x1 true)) else (laws_FnIdealsAndAntichains.j5 k x1 true)) else (laws_FnIdealsAndAntichains.j5 k x1 true)))) else ((spec_DrawIsAntichain.f k x1).bind fun bt669 => ((impl_IsAntichain.f k bt669.1 bt669.2).bind fun bt674 => ((spec_IsAntichain.f k bt669.1 bt669.2).bind fun bt676 => (if (bt674.2 == bt676.2) = true then (some (bt674.1 == bt676.1)) else (some false))))))
def laws_FnIdealsAndAntichains.j5 : Nat → List Int → Bool → Option (Bool)
 | 0, _, _ => none
 | k + 1, x1, x389 => if x389 = true then (some false) else ((spec_DrawIsAntichain.f k x1).bind fun bt660 => ((impl_IsAntichain.f k bt660.1 bt660.2).bind fun bt665 => ((spec_IsAntichain.f k bt660.1 bt660.2).bind fun bt667 => (if (bt665.2 == bt667.2) = true then (some (bt665.1 == bt667.1)) else (some false)))))
def laws_FnIdealsAndAntichains.j1 : Nat → List Int → List Int → List Int → Bool → List Int → Option (Bool)
 | 0, _, _, _, _, _ => none
 | k + 1, x1, x6, x10, x154, x599000 => if x154 = true then (some false) else (laws_FnIdealsAndAntichains.l0 k x1 x6 x10 x6 (x6.length : Int) 0 x599000)
def laws_FnIdealsAndAntichains.l0 : Nat → List Int → List Int → List Int → List Int → Int → Int → List Int → Option (Bool)
 | 0, _, _, _, _, _, _, _ => none
 | k + 1, x1, x6, x10, x155, x156, x157, x599000 => if x157 < x156 then (if 0 ≤ x157 then (if x157 < (x155.length : Int) then ((impl_TopOf.f k x599000 (rd x155 x157)).bind fun bt624 => ((impl_IdealOf.f k x599000 bt624.1).bind fun bt626 => ((laws_numberOf.f k x1).bind fun t628 => (if (x6.length : Int) = 0 then (none) else (if 0 ≤ (Int.tmod (wrap64 ((wrap64 (7 * x157)) + t628)) (x6.length : Int)) then (if (Int.tmod (wrap64 ((wrap64 (7 * x157)) + t628)) (x6.length : Int)) < (x6.length : Int) then (if bt624.2 = true then ((laws_nHas.f k x10 bt624.1).bind fun t630 => (if t630 = true then (if bt626.2 = true then (if bt626.1 = (rd x155 x157) then ((laws_nHas.f k x6 (Go.bits .or .i64 (rd x155 x157) (rd x6 (Int.tmod (wrap64 ((wrap64 (7 * x157)) + t628)) (x6.length : Int))))).bind fun t631 => (if t631 = true then ((laws_nHas.f k x6 (Go.bits .and .i64 (rd x155 x157) (rd x6 (Int.tmod (wrap64 ((wrap64 (7 * x157)) + t628)) (x6.length : Int))))).bind fun t632 => (if t632 = true then (if x157 > 0 then (if 0 ≤ (wrap64 (x157 - 1)) then (if (wrap64 (x157 - 1)) < (x6.length : Int) then (if (rd x6 (wrap64 (x157 - 1))) ≥ (rd x155 x157) then (some false) else (laws_FnIdealsAndAntichains.l0 k x1 x6 x10 x155 x156 (wrap64 (x157 + 1)) x599000)) else (none)) else (none)) else (laws_FnIdealsAndAntichains.l0 k x1 x6 x10 x155 x156 (wrap64 (x157 + 1)) x599000)) else (some false))) else (some false))) else (some false)) else (some false)) else (some false))) else (some false)) else (none)) else (none)))))) else (none)) else (none)) else (laws_FnIdealsAndAntichains.j3 k x1)
end
def laws_FnIdealsAndAntichains.f (k : Nat) (l0 : List Int) (l1 : List Int) : Option (Bool) := (laws_big.f l0 l1).bind fun t594 => (if t594 = true then (some true) else ((spec_DrawIdealsOf.f k l0).bind fun t595 => ((impl_IdealsOf.f k t595).bind fun bt599 => ((spec_IdealsOf.f k t595).bind fun bt603 => ((impl_AntichainsOf.f k t595).bind fun bt607 => ((spec_AntichainsOf.f k t595).bind fun bt611 => ((impl_CountIdeals.f k t595).bind fun bt615 => (if (bt599.2 != bt603.2) = true then (laws_FnIdealsAndAntichains.j0 k l1 bt599.1 bt599.2 bt607.1 bt615.1 true t595) else ((laws_nSame.f k bt599.1 bt603.1).bind fun t617 => (if t617 = true then (if (bt607.2 != bt611.2) = true then (laws_FnIdealsAndAntichains.j0 k l1 bt599.1 bt599.2 bt607.1 bt615.1 true t595) else ((laws_nSame.f k bt607.1 bt611.1).bind fun t618 => (if t618 = true then (if (bt607.2 != bt599.2) = true then (laws_FnIdealsAndAntichains.j0 k l1 bt599.1 bt599.2 bt607.1 bt615.1 true t595) else (if (bt615.2 != bt599.2) = true then (laws_FnIdealsAndAntichains.j0 k l1 bt599.1 bt599.2 bt607.1 bt615.1 true t595) else ((impl_IsPoset.f k t595).bind fun t619 => (if (bt599.2 != t619) = true then (laws_FnIdealsAndAntichains.j0 k l1 bt599.1 bt599.2 bt607.1 bt615.1 true t595) else ((spec_IsPoset.f k t595).bind fun t620 => (laws_FnIdealsAndAntichains.j0 k l1 bt599.1 bt599.2 bt607.1 bt615.1 (bt599.2 != t620) t595)))))) else (laws_FnIdealsAndAntichains.j0 k l1 bt599.1 bt599.2 bt607.1 bt615.1 true t595)))) else (laws_FnIdealsAndAntichains.j0 k l1 bt599.1 bt599.2 bt607.1 bt615.1 true t595)))))))))))
theorem laws_FnIdealsAndAntichains.mono_l : ∀ k, (∀ y0 y1 y2 y3 y4 y5 y6, LeO (laws_FnIdealsAndAntichains.j0 k y0 y1 y2 y3 y4 y5 y6) (laws_FnIdealsAndAntichains.j0 (k + 1) y0 y1 y2 y3 y4 y5 y6)) ∧ (∀ y0, LeO (laws_FnIdealsAndAntichains.j3 k y0) (laws_FnIdealsAndAntichains.j3 (k + 1) y0)) ∧ (∀ y0 y1 y2 y3 y4 y5 y6 y7 y8, LeO (laws_FnIdealsAndAntichains.j4 k y0 y1 y2 y3 y4 y5 y6 y7 y8) (laws_FnIdealsAndAntichains.j4 (k + 1) y0 y1 y2 y3 y4 y5 y6 y7 y8)) ∧ (∀ y0 y1, LeO (laws_FnIdealsAndAntichains.j5 k y0 y1) (laws_FnIdealsAndAntichains.j5 (k + 1) y0 y1)) ∧ (∀ y0 y1 y2 y3 y4, LeO (laws_FnIdealsAndAntichains.j1 k y0 y1 y2 y3 y4) (laws_FnIdealsAndAntichains.j1 (k + 1) y0 y1 y2 y3 y4)) ∧ (∀ y0 y1 y2 y3 y4 y5 y6, LeO (laws_FnIdealsAndAntichains.l0 k y0 y1 y2 y3 y4 y5 y6) (laws_FnIdealsAndAntichains.l0 (k + 1) y0 y1 y2 y3 y4 y5 y6))
 | 0 => ⟨fun _ _ _ _ _ _ _ r h => by simp [laws_FnIdealsAndAntichains.j0] at h, fun _ r h => by simp [laws_FnIdealsAndAntichains.j3] at h, fun _ _ _ _ _ _ _ _ _ r h => by simp [laws_FnIdealsAndAntichains.j4] at h, fun _ _ r h => by simp [laws_FnIdealsAndAntichains.j5] at h, fun _ _ _ _ _ r h => by simp [laws_FnIdealsAndAntichains.j1] at h, fun _ _ _ _ _ _ _ r h => by simp [laws_FnIdealsAndAntichains.l0] at h⟩
 | k + 1 => by
  obtain ⟨ih0, ih1, ih2, ih3, ih4, ih5⟩ := laws_FnIdealsAndAntichains.mono_l k
  refine ⟨?_, ?_, ?_, ?_, ?_, ?_⟩
  ·intro y0 y1 y2 y3 y4 y5 y6
   unfold laws_FnIdealsAndAntichains.j0
   repeat' first
   | (with_reducible exact impl_AntichainsOf.mono _ _)
   | (with_reducible exact impl_BottomOf.mono _ _ _)
   | (with_reducible exact impl_CountIdeals.mono _ _)
   | (with_reducible exact impl_IdealOf.mono _ _ _)
   | (with_reducible exact impl_IdealsOf.mono _ _)
   | (with_reducible exact impl_IsAntichain.mono _ _ _)
   | (with_reducible exact impl_IsIdeal.mono _ _ _)
   | (with_reducible exact impl_IsPoset.mono _ _)
   | (with_reducible exact impl_TopOf.mono _ _ _)
   | (with_reducible exact laws_nHas.mono _ _ _)
   | (with_reducible exact laws_nIdeal.mono _ _ _)
   | (with_reducible exact laws_nSame.mono _ _ _)
   | (with_reducible exact laws_numberOf.mono _ _)
   | (with_reducible exact spec_AntichainsOf.mono _ _)
   | (with_reducible exact spec_BottomOf.mono _ _ _)
   | (with_reducible exact spec_DrawIdealOf.mono _ _)
   | (with_reducible exact spec_DrawIdealsOf.mono _ _)
   | (with_reducible exact spec_DrawIsAntichain.mono _ _)
   | (with_reducible exact spec_IdealOf.mono _ _ _)
   | (with_reducible exact spec_IdealsOf.mono _ _)
   | (with_reducible exact spec_IsAntichain.mono _ _ _)
   | (with_reducible exact spec_IsIdeal.mono _ _ _)
   | (with_reducible exact spec_IsPoset.mono _ _)
   | (with_reducible exact spec_TopOf.mono _ _ _)
   | (with_reducible exact LeO.refl _)
   | (with_reducible exact LeO.none _)
   | (with_reducible refine LeO.ite ?_ ?_)
   | (with_reducible refine LeO.bind ?_ (fun _ => ?_))
   | exact ih0 _ _ _ _ _ _ _
   | exact ih1 _
   | exact ih2 _ _ _ _ _ _ _ _ _
   | exact ih3 _ _
   | exact ih4 _ _ _ _ _
   | exact ih5 _ _ _ _ _ _ _
   | exact impl_AntichainsOf.mono _ _
   | exact impl_BottomOf.mono _ _ _
   | exact impl_CountIdeals.mono _ _
   | exact impl_IdealOf.mono _ _ _
   | exact impl_IdealsOf.mono _ _
   | exact impl_IsAntichain.mono _ _ _
   | exact impl_IsIdeal.mono _ _ _
   | exact impl_IsPoset.mono _ _
   | exact impl_TopOf.mono _ _ _
   | exact laws_nHas.mono _ _ _
   | exact laws_nIdeal.mono _ _ _
   | exact laws_nSame.mono _ _ _
   | exact laws_numberOf.mono _ _
   | exact spec_AntichainsOf.mono _ _
   | exact spec_BottomOf.mono _ _ _
   | exact spec_DrawIdealOf.mono _ _
   | exact spec_DrawIdealsOf.mono _ _
   | exact spec_DrawIsAntichain.mono _ _
   | exact spec_IdealOf.mono _ _ _
   | exact spec_IdealsOf.mono _ _
   | exact spec_IsAntichain.mono _ _ _
   | exact spec_IsIdeal.mono _ _ _
   | exact spec_IsPoset.mono _ _
   | exact spec_TopOf.mono _ _ _
   | exact LeO.none _
   | refine LeO.ite ?_ ?_
   | refine LeO.bind ?_ (fun _ => ?_)
  ·intro y0
   unfold laws_FnIdealsAndAntichains.j3
   repeat' first
   | (with_reducible exact impl_AntichainsOf.mono _ _)
   | (with_reducible exact impl_BottomOf.mono _ _ _)
   | (with_reducible exact impl_CountIdeals.mono _ _)
   | (with_reducible exact impl_IdealOf.mono _ _ _)
   | (with_reducible exact impl_IdealsOf.mono _ _)
   | (with_reducible exact impl_IsAntichain.mono _ _ _)
   | (with_reducible exact impl_IsIdeal.mono _ _ _)
   | (with_reducible exact impl_IsPoset.mono _ _)
   | (with_reducible exact impl_TopOf.mono _ _ _)
   | (with_reducible exact laws_nHas.mono _ _ _)
   | (with_reducible exact laws_nIdeal.mono _ _ _)
   | (with_reducible exact laws_nSame.mono _ _ _)
   | (with_reducible exact laws_numberOf.mono _ _)
   | (with_reducible exact spec_AntichainsOf.mono _ _)
   | (with_reducible exact spec_BottomOf.mono _ _ _)
   | (with_reducible exact spec_DrawIdealOf.mono _ _)
   | (with_reducible exact spec_DrawIdealsOf.mono _ _)
   | (with_reducible exact spec_DrawIsAntichain.mono _ _)
   | (with_reducible exact spec_IdealOf.mono _ _ _)
   | (with_reducible exact spec_IdealsOf.mono _ _)
   | (with_reducible exact spec_IsAntichain.mono _ _ _)
   | (with_reducible exact spec_IsIdeal.mono _ _ _)
   | (with_reducible exact spec_IsPoset.mono _ _)
   | (with_reducible exact spec_TopOf.mono _ _ _)
   | (with_reducible exact LeO.refl _)
   | (with_reducible exact LeO.none _)
   | (with_reducible refine LeO.ite ?_ ?_)
   | (with_reducible refine LeO.bind ?_ (fun _ => ?_))
   | exact ih0 _ _ _ _ _ _ _
   | exact ih1 _
   | exact ih2 _ _ _ _ _ _ _ _ _
   | exact ih3 _ _
   | exact ih4 _ _ _ _ _
   | exact ih5 _ _ _ _ _ _ _
   | exact impl_AntichainsOf.mono _ _
   | exact impl_BottomOf.mono _ _ _
   | exact impl_CountIdeals.mono _ _
   | exact impl_IdealOf.mono _ _ _
   | exact impl_IdealsOf.mono _ _
   | exact impl_IsAntichain.mono _ _ _
   | exact impl_IsIdeal.mono _ _ _
   | exact impl_IsPoset.mono _ _
   | exact impl_TopOf.mono _ _ _
   | exact laws_nHas.mono _ _ _
   | exact laws_nIdeal.mono _ _ _
   | exact laws_nSame.mono _ _ _
   | exact laws_numberOf.mono _ _
   | exact spec_AntichainsOf.mono _ _
   | exact spec_BottomOf.mono _ _ _
   | exact spec_DrawIdealOf.mono _ _
   | exact spec_DrawIdealsOf.mono _ _
   | exact spec_DrawIsAntichain.mono _ _
   | exact spec_IdealOf.mono _ _ _
   | exact spec_IdealsOf.mono _ _
   | exact spec_IsAntichain.mono _ _ _
   | exact spec_IsIdeal.mono _ _ _
   | exact spec_IsPoset.mono _ _
   | exact spec_TopOf.mono _ _ _
   | exact LeO.none _
   | refine LeO.ite ?_ ?_
   | refine LeO.bind ?_ (fun _ => ?_)
  ·intro y0 y1 y2 y3 y4 y5 y6 y7 y8
   unfold laws_FnIdealsAndAntichains.j4
   repeat' first
   | (with_reducible exact impl_AntichainsOf.mono _ _)
   | (with_reducible exact impl_BottomOf.mono _ _ _)
   | (with_reducible exact impl_CountIdeals.mono _ _)
   | (with_reducible exact impl_IdealOf.mono _ _ _)
   | (with_reducible exact impl_IdealsOf.mono _ _)
   | (with_reducible exact impl_IsAntichain.mono _ _ _)
   | (with_reducible exact impl_IsIdeal.mono _ _ _)
   | (with_reducible exact impl_IsPoset.mono _ _)
   | (with_reducible exact impl_TopOf.mono _ _ _)
   | (with_reducible exact laws_nHas.mono _ _ _)
   | (with_reducible exact laws_nIdeal.mono _ _ _)
   | (with_reducible exact laws_nSame.mono _ _ _)
   | (with_reducible exact laws_numberOf.mono _ _)
   | (with_reducible exact spec_AntichainsOf.mono _ _)
   | (with_reducible exact spec_BottomOf.mono _ _ _)
   | (with_reducible exact spec_DrawIdealOf.mono _ _)
   | (with_reducible exact spec_DrawIdealsOf.mono _ _)
   | (with_reducible exact spec_DrawIsAntichain.mono _ _)
   | (with_reducible exact spec_IdealOf.mono _ _ _)
   | (with_reducible exact spec_IdealsOf.mono _ _)
   | (with_reducible exact spec_IsAntichain.mono _ _ _)
   | (with_reducible exact spec_IsIdeal.mono _ _ _)
   | (with_reducible exact spec_IsPoset.mono _ _)
   | (with_reducible exact spec_TopOf.mono _ _ _)
   | (with_reducible exact LeO.refl _)
   | (with_reducible exact LeO.none _)
   | (with_reducible refine LeO.ite ?_ ?_)
   | (with_reducible refine LeO.bind ?_ (fun _ => ?_))
   | exact ih0 _ _ _ _ _ _ _
   | exact ih1 _
   | exact ih2 _ _ _ _ _ _ _ _ _
   | exact ih3 _ _
   | exact ih4 _ _ _ _ _
   | exact ih5 _ _ _ _ _ _ _
   | exact impl_AntichainsOf.mono _ _
   | exact impl_BottomOf.mono _ _ _
   | exact impl_CountIdeals.mono _ _
   | exact impl_IdealOf.mono _ _ _
   | exact impl_IdealsOf.mono _ _
   | exact impl_IsAntichain.mono _ _ _
   | exact impl_IsIdeal.mono _ _ _
   | exact impl_IsPoset.mono _ _
   | exact impl_TopOf.mono _ _ _
   | exact laws_nHas.mono _ _ _
   | exact laws_nIdeal.mono _ _ _
   | exact laws_nSame.mono _ _ _
   | exact laws_numberOf.mono _ _
   | exact spec_AntichainsOf.mono _ _
   | exact spec_BottomOf.mono _ _ _
   | exact spec_DrawIdealOf.mono _ _
   | exact spec_DrawIdealsOf.mono _ _
   | exact spec_DrawIsAntichain.mono _ _
   | exact spec_IdealOf.mono _ _ _
   | exact spec_IdealsOf.mono _ _
   | exact spec_IsAntichain.mono _ _ _
   | exact spec_IsIdeal.mono _ _ _
   | exact spec_IsPoset.mono _ _
   | exact spec_TopOf.mono _ _ _
   | exact LeO.none _
   | refine LeO.ite ?_ ?_
   | refine LeO.bind ?_ (fun _ => ?_)
  ·intro y0 y1
   unfold laws_FnIdealsAndAntichains.j5
   repeat' first
   | (with_reducible exact impl_AntichainsOf.mono _ _)
   | (with_reducible exact impl_BottomOf.mono _ _ _)
   | (with_reducible exact impl_CountIdeals.mono _ _)
   | (with_reducible exact impl_IdealOf.mono _ _ _)
   | (with_reducible exact impl_IdealsOf.mono _ _)
   | (with_reducible exact impl_IsAntichain.mono _ _ _)
   | (with_reducible exact impl_IsIdeal.mono _ _ _)
   | (with_reducible exact impl_IsPoset.mono _ _)
   | (with_reducible exact impl_TopOf.mono _ _ _)
   | (with_reducible exact laws_nHas.mono _ _ _)
   | (with_reducible exact laws_nIdeal.mono _ _ _)
   | (with_reducible exact laws_nSame.mono _ _ _)
   | (with_reducible exact laws_numberOf.mono _ _)
   | (with_reducible exact spec_AntichainsOf.mono _ _)
   | (with_reducible exact spec_BottomOf.mono _ _ _)
   | (with_reducible exact spec_DrawIdealOf.mono _ _)
   | (with_reducible exact spec_DrawIdealsOf.mono _ _)
   | (with_reducible exact spec_DrawIsAntichain.mono _ _)
   | (with_reducible exact spec_IdealOf.mono _ _ _)
   | (with_reducible exact spec_IdealsOf.mono _ _)
   | (with_reducible exact spec_IsAntichain.mono _ _ _)
   | (with_reducible exact spec_IsIdeal.mono _ _ _)
   | (with_reducible exact spec_IsPoset.mono _ _)
   | (with_reducible exact spec_TopOf.mono _ _ _)
   | (with_reducible exact LeO.refl _)
   | (with_reducible exact LeO.none _)
   | (with_reducible refine LeO.ite ?_ ?_)
   | (with_reducible refine LeO.bind ?_ (fun _ => ?_))
   | exact ih0 _ _ _ _ _ _ _
   | exact ih1 _
   | exact ih2 _ _ _ _ _ _ _ _ _
   | exact ih3 _ _
   | exact ih4 _ _ _ _ _
   | exact ih5 _ _ _ _ _ _ _
   | exact impl_AntichainsOf.mono _ _
   | exact impl_BottomOf.mono _ _ _
   | exact impl_CountIdeals.mono _ _
   | exact impl_IdealOf.mono _ _ _
   | exact impl_IdealsOf.mono _ _
   | exact impl_IsAntichain.mono _ _ _
   | exact impl_IsIdeal.mono _ _ _
   | exact impl_IsPoset.mono _ _
   | exact impl_TopOf.mono _ _ _
   | exact laws_nHas.mono _ _ _
   | exact laws_nIdeal.mono _ _ _
   | exact laws_nSame.mono _ _ _
   | exact laws_numberOf.mono _ _
   | exact spec_AntichainsOf.mono _ _
   | exact spec_BottomOf.mono _ _ _
   | exact spec_DrawIdealOf.mono _ _
   | exact spec_DrawIdealsOf.mono _ _
   | exact spec_DrawIsAntichain.mono _ _
   | exact spec_IdealOf.mono _ _ _
   | exact spec_IdealsOf.mono _ _
   | exact spec_IsAntichain.mono _ _ _
   | exact spec_IsIdeal.mono _ _ _
   | exact spec_IsPoset.mono _ _
   | exact spec_TopOf.mono _ _ _
   | exact LeO.none _
   | refine LeO.ite ?_ ?_
   | refine LeO.bind ?_ (fun _ => ?_)
  ·intro y0 y1 y2 y3 y4
   unfold laws_FnIdealsAndAntichains.j1
   repeat' first
   | (with_reducible exact impl_AntichainsOf.mono _ _)
   | (with_reducible exact impl_BottomOf.mono _ _ _)
   | (with_reducible exact impl_CountIdeals.mono _ _)
   | (with_reducible exact impl_IdealOf.mono _ _ _)
   | (with_reducible exact impl_IdealsOf.mono _ _)
   | (with_reducible exact impl_IsAntichain.mono _ _ _)
   | (with_reducible exact impl_IsIdeal.mono _ _ _)
   | (with_reducible exact impl_IsPoset.mono _ _)
   | (with_reducible exact impl_TopOf.mono _ _ _)
   | (with_reducible exact laws_nHas.mono _ _ _)
   | (with_reducible exact laws_nIdeal.mono _ _ _)
   | (with_reducible exact laws_nSame.mono _ _ _)
   | (with_reducible exact laws_numberOf.mono _ _)
   | (with_reducible exact spec_AntichainsOf.mono _ _)
   | (with_reducible exact spec_BottomOf.mono _ _ _)
   | (with_reducible exact spec_DrawIdealOf.mono _ _)
   | (with_reducible exact spec_DrawIdealsOf.mono _ _)
   | (with_reducible exact spec_DrawIsAntichain.mono _ _)
   | (with_reducible exact spec_IdealOf.mono _ _ _)
   | (with_reducible exact spec_IdealsOf.mono _ _)
   | (with_reducible exact spec_IsAntichain.mono _ _ _)
   | (with_reducible exact spec_IsIdeal.mono _ _ _)
   | (with_reducible exact spec_IsPoset.mono _ _)
   | (with_reducible exact spec_TopOf.mono _ _ _)
   | (with_reducible exact LeO.refl _)
   | (with_reducible exact LeO.none _)
   | (with_reducible refine LeO.ite ?_ ?_)
   | (with_reducible refine LeO.bind ?_ (fun _ => ?_))
   | exact ih0 _ _ _ _ _ _ _
   | exact ih1 _
   | exact ih2 _ _ _ _ _ _ _ _ _
   | exact ih3 _ _
   | exact ih4 _ _ _ _ _
   | exact ih5 _ _ _ _ _ _ _
   | exact impl_AntichainsOf.mono _ _
   | exact impl_BottomOf.mono _ _ _
   | exact impl_CountIdeals.mono _ _
   | exact impl_IdealOf.mono _ _ _
   | exact impl_IdealsOf.mono _ _
   | exact impl_IsAntichain.mono _ _ _
   | exact impl_IsIdeal.mono _ _ _
   | exact impl_IsPoset.mono _ _
   | exact impl_TopOf.mono _ _ _
   | exact laws_nHas.mono _ _ _
   | exact laws_nIdeal.mono _ _ _
   | exact laws_nSame.mono _ _ _
   | exact laws_numberOf.mono _ _
   | exact spec_AntichainsOf.mono _ _
   | exact spec_BottomOf.mono _ _ _
   | exact spec_DrawIdealOf.mono _ _
   | exact spec_DrawIdealsOf.mono _ _
   | exact spec_DrawIsAntichain.mono _ _
   | exact spec_IdealOf.mono _ _ _
   | exact spec_IdealsOf.mono _ _
   | exact spec_IsAntichain.mono _ _ _
   | exact spec_IsIdeal.mono _ _ _
   | exact spec_IsPoset.mono _ _
   | exact spec_TopOf.mono _ _ _
   | exact LeO.none _
   | refine LeO.ite ?_ ?_
   | refine LeO.bind ?_ (fun _ => ?_)
  ·intro y0 y1 y2 y3 y4 y5 y6
   unfold laws_FnIdealsAndAntichains.l0
   repeat' first
   | (with_reducible exact impl_AntichainsOf.mono _ _)
   | (with_reducible exact impl_BottomOf.mono _ _ _)
   | (with_reducible exact impl_CountIdeals.mono _ _)
   | (with_reducible exact impl_IdealOf.mono _ _ _)
   | (with_reducible exact impl_IdealsOf.mono _ _)
   | (with_reducible exact impl_IsAntichain.mono _ _ _)
   | (with_reducible exact impl_IsIdeal.mono _ _ _)
   | (with_reducible exact impl_IsPoset.mono _ _)
   | (with_reducible exact impl_TopOf.mono _ _ _)
   | (with_reducible exact laws_nHas.mono _ _ _)
   | (with_reducible exact laws_nIdeal.mono _ _ _)
   | (with_reducible exact laws_nSame.mono _ _ _)
   | (with_reducible exact laws_numberOf.mono _ _)
   | (with_reducible exact spec_AntichainsOf.mono _ _)
   | (with_reducible exact spec_BottomOf.mono _ _ _)
   | (with_reducible exact spec_DrawIdealOf.mono _ _)
   | (with_reducible exact spec_DrawIdealsOf.mono _ _)
   | (with_reducible exact spec_DrawIsAntichain.mono _ _)
   | (with_reducible exact spec_IdealOf.mono _ _ _)
   | (with_reducible exact spec_IdealsOf.mono _ _)
   | (with_reducible exact spec_IsAntichain.mono _ _ _)
   | (with_reducible exact spec_IsIdeal.mono _ _ _)
   | (with_reducible exact spec_IsPoset.mono _ _)
   | (with_reducible exact spec_TopOf.mono _ _ _)
   | (with_reducible exact LeO.refl _)
   | (with_reducible exact LeO.none _)
   | (with_reducible refine LeO.ite ?_ ?_)
   | (with_reducible refine LeO.bind ?_ (fun _ => ?_))
   | exact ih0 _ _ _ _ _ _ _
   | exact ih1 _
   | exact ih2 _ _ _ _ _ _ _ _ _
   | exact ih3 _ _
   | exact ih4 _ _ _ _ _
   | exact ih5 _ _ _ _ _ _ _
   | exact impl_AntichainsOf.mono _ _
   | exact impl_BottomOf.mono _ _ _
   | exact impl_CountIdeals.mono _ _
   | exact impl_IdealOf.mono _ _ _
   | exact impl_IdealsOf.mono _ _
   | exact impl_IsAntichain.mono _ _ _
   | exact impl_IsIdeal.mono _ _ _
   | exact impl_IsPoset.mono _ _
   | exact impl_TopOf.mono _ _ _
   | exact laws_nHas.mono _ _ _
   | exact laws_nIdeal.mono _ _ _
   | exact laws_nSame.mono _ _ _
   | exact laws_numberOf.mono _ _
   | exact spec_AntichainsOf.mono _ _
   | exact spec_BottomOf.mono _ _ _
   | exact spec_DrawIdealOf.mono _ _
   | exact spec_DrawIdealsOf.mono _ _
   | exact spec_DrawIsAntichain.mono _ _
   | exact spec_IdealOf.mono _ _ _
   | exact spec_IdealsOf.mono _ _
   | exact spec_IsAntichain.mono _ _ _
   | exact spec_IsIdeal.mono _ _ _
   | exact spec_IsPoset.mono _ _
   | exact spec_TopOf.mono _ _ _
   | exact LeO.none _
   | refine LeO.ite ?_ ?_
   | refine LeO.bind ?_ (fun _ => ?_)
theorem laws_FnIdealsAndAntichains.mono : ∀ a0 a1 k, LeO (laws_FnIdealsAndAntichains.f k a0 a1) (laws_FnIdealsAndAntichains.f (k + 1) a0 a1) := by
 intro a0 a1 k
 obtain ⟨ih0, ih1, ih2, ih3, ih4, ih5⟩ := laws_FnIdealsAndAntichains.mono_l k
 unfold laws_FnIdealsAndAntichains.f
 repeat' first
  | (with_reducible exact impl_AntichainsOf.mono _ _)
  | (with_reducible exact impl_BottomOf.mono _ _ _)
  | (with_reducible exact impl_CountIdeals.mono _ _)
  | (with_reducible exact impl_IdealOf.mono _ _ _)
  | (with_reducible exact impl_IdealsOf.mono _ _)
  | (with_reducible exact impl_IsAntichain.mono _ _ _)
  | (with_reducible exact impl_IsIdeal.mono _ _ _)
  | (with_reducible exact impl_IsPoset.mono _ _)
  | (with_reducible exact impl_TopOf.mono _ _ _)
  | (with_reducible exact laws_nHas.mono _ _ _)
  | (with_reducible exact laws_nIdeal.mono _ _ _)
  | (with_reducible exact laws_nSame.mono _ _ _)
  | (with_reducible exact laws_numberOf.mono _ _)
  | (with_reducible exact spec_AntichainsOf.mono _ _)
  | (with_reducible exact spec_BottomOf.mono _ _ _)
  | (with_reducible exact spec_DrawIdealOf.mono _ _)
  | (with_reducible exact spec_DrawIdealsOf.mono _ _)
  | (with_reducible exact spec_DrawIsAntichain.mono _ _)
  | (with_reducible exact spec_IdealOf.mono _ _ _)
  | (with_reducible exact spec_IdealsOf.mono _ _)
  | (with_reducible exact spec_IsAntichain.mono _ _ _)
  | (with_reducible exact spec_IsIdeal.mono _ _ _)
  | (with_reducible exact spec_IsPoset.mono _ _)
  | (with_reducible exact spec_TopOf.mono _ _ _)
  | (with_reducible exact LeO.refl _)
  | (with_reducible exact LeO.none _)
  | (with_reducible refine LeO.ite ?_ ?_)
  | (with_reducible refine LeO.bind ?_ (fun _ => ?_))
  | exact ih0 _ _ _ _ _ _ _
  | exact ih1 _
  | exact ih2 _ _ _ _ _ _ _ _ _
  | exact ih3 _ _
  | exact ih4 _ _ _ _ _
  | exact ih5 _ _ _ _ _ _ _
  | exact impl_AntichainsOf.mono _ _
  | exact impl_BottomOf.mono _ _ _
  | exact impl_CountIdeals.mono _ _
  | exact impl_IdealOf.mono _ _ _
  | exact impl_IdealsOf.mono _ _
  | exact impl_IsAntichain.mono _ _ _
  | exact impl_IsIdeal.mono _ _ _
  | exact impl_IsPoset.mono _ _
  | exact impl_TopOf.mono _ _ _
  | exact laws_nHas.mono _ _ _
  | exact laws_nIdeal.mono _ _ _
  | exact laws_nSame.mono _ _ _
  | exact laws_numberOf.mono _ _
  | exact spec_AntichainsOf.mono _ _
  | exact spec_BottomOf.mono _ _ _
  | exact spec_DrawIdealOf.mono _ _
  | exact spec_DrawIdealsOf.mono _ _
  | exact spec_DrawIsAntichain.mono _ _
  | exact spec_IdealOf.mono _ _ _
  | exact spec_IdealsOf.mono _ _
  | exact spec_IsAntichain.mono _ _ _
  | exact spec_IsIdeal.mono _ _ _
  | exact spec_IsPoset.mono _ _
  | exact spec_TopOf.mono _ _ _
  | exact LeO.none _
  | refine LeO.ite ?_ ?_
  | refine LeO.bind ?_ (fun _ => ?_)
theorem laws_FnIdealsAndAntichains.j0_no : ∀ y0 y1 y2 y3 y4 y5 y6, laws_FnIdealsAndAntichains.j0 y0 y1 y2 y3 y4 y5 true y6 ≠ some true
 | 0, _, _, _, _, _, _ => by simp [laws_FnIdealsAndAntichains.j0]
 | _ + 1, _, _, _, _, _, _ => by simp [laws_FnIdealsAndAntichains.j0]
theorem laws_FnIdealsAndAntichains.j4_no : ∀ y0 y1 y2 y3 y4 y5 y6 y7 y8, laws_FnIdealsAndAntichains.j4 y0 y1 y2 y3 y4 y5 y6 y7 true y8 ≠ some true
 | 0, _, _, _, _, _, _, _, _ => by simp [laws_FnIdealsAndAntichains.j4]
 | _ + 1, _, _, _, _, _, _, _, _ => by simp [laws_FnIdealsAndAntichains.j4]
theorem laws_FnIdealsAndAntichains.j5_no : ∀ y0 y1, laws_FnIdealsAndAntichains.j5 y0 y1 true ≠ some true
 | 0, _ => by simp [laws_FnIdealsAndAntichains.j5]
 | _ + 1, _ => by simp [laws_FnIdealsAndAntichains.j5]
theorem laws_FnIdealsAndAntichains.j1_no : ∀ y0 y1 y2 y3 y4, laws_FnIdealsAndAntichains.j1 y0 y1 y2 y3 true y4 ≠ some true
 | 0, _, _, _, _ => by simp [laws_FnIdealsAndAntichains.j1]
 | _ + 1, _, _, _, _ => by simp [laws_FnIdealsAndAntichains.j1]
set_option maxHeartbeats 8000000 in
set_option maxRecDepth 100000 in
theorem laws_FnIdealsAndAntichains.calls (k : Nat) (A0 : Option Addr) (c0 : Nat) (l0 : List Int) (A1 : Option Addr) (c1 : Nat) (l1 : List Int) (r : Bool) (w : World) (hr0 : Kd.C (Kd.int .u8) w A0 l0.length l0) (hc0 : l0.length ≤ c0) (hr1 : Kd.C (Kd.int .u8) w A1 l1.length l1) (hc1 : l1.length ≤ c1) (h : laws_FnIdealsAndAntichains.f k l0 l1 = some r) (hrt : Aside0 (r = true) := by exact ⟨rfl⟩) :
 Calls Try.prog 4 #[.slice A0 l0.length c0, .slice A1 l1.length c1] w fun e w' => e = .returned (.bool r) ∧ Below w.heap.size w w' := by
 have hu28 := Try.underlying28
 have HR0 := am hr0
 have HC0 := am hc0
 clear hr0 hc0
 have HR1 := am hr1
 have HC1 := am hc1
 clear hr1 hc1
 have HB := am (Below.refl w.heap.size w)
 have H : ((laws_big.f l0 l1).bind fun t594 => (if t594 = true then (some true) else ((spec_DrawIdealsOf.f k l0).bind fun t595 => ((impl_IdealsOf.f k t595).bind fun bt599 => ((spec_IdealsOf.f k t595).bind fun bt603 => ((impl_AntichainsOf.f k t595).bind fun bt607 => ((spec_AntichainsOf.f k t595).bind fun bt611 => ((impl_CountIdeals.f k t595).bind fun bt615 => (if (bt599.2 != bt603.2) = true then (laws_FnIdealsAndAntichains.j0 k l1 bt599.1 bt599.2 bt607.1 bt615.1 true t595) else ((laws_nSame.f k bt599.1 bt603.1).bind fun t617 => (if t617 = true then (if (bt607.2 != bt611.2) = true then (laws_FnIdealsAndAntichains.j0 k l1 bt599.1 bt599.2 bt607.1 bt615.1 true t595) else ((laws_nSame.f k bt607.1 bt611.1).bind fun t618 => (if t618 = true then (if (bt607.2 != bt599.2) = true then (laws_FnIdealsAndAntichains.j0 k l1 bt599.1 bt599.2 bt607.1 bt615.1 true t595) else (if (bt615.2 != bt599.2) = true then (laws_FnIdealsAndAntichains.j0 k l1 bt599.1 bt599.2 bt607.1 bt615.1 true t595) else ((impl_IsPoset.f k t595).bind fun t619 => (if (bt599.2 != t619) = true then (laws_FnIdealsAndAntichains.j0 k l1 bt599.1 bt599.2 bt607.1 bt615.1 true t595) else ((spec_IsPoset.f k t595).bind fun t620 => (laws_FnIdealsAndAntichains.j0 k l1 bt599.1 bt599.2 bt607.1 bt615.1 (bt599.2 != t620) t595)))))) else (laws_FnIdealsAndAntichains.j0 k l1 bt599.1 bt599.2 bt607.1 bt615.1 true t595)))) else (laws_FnIdealsAndAntichains.j0 k l1 bt599.1 bt599.2 bt607.1 bt615.1 true t595)))))))))))) = some r := h
 clear h
 replace H := Option.bind_eq_some_iff.mp H
 obtain ⟨t594, A30, H⟩ := H
 replace H : (if t594 = true then (some true) else ((spec_DrawIdealsOf.f k l0).bind fun t595 => ((impl_IdealsOf.f k t595).bind fun bt599 => ((spec_IdealsOf.f k t595).bind fun bt603 => ((impl_AntichainsOf.f k t595).bind fun bt607 => ((spec_AntichainsOf.f k t595).bind fun bt611 => ((impl_CountIdeals.f k t595).bind fun bt615 => (if (bt599.2 != bt603.2) = true then (laws_FnIdealsAndAntichains.j0 k l1 bt599.1 bt599.2 bt607.1 bt615.1 true t595) else ((laws_nSame.f k bt599.1 bt603.1).bind fun t617 => (if t617 = true then (if (bt607.2 != bt611.2) = true then (laws_FnIdealsAndAntichains.j0 k l1 bt599.1 bt599.2 bt607.1 bt615.1 true t595) else ((laws_nSame.f k bt607.1 bt611.1).bind fun t618 => (if t618 = true then (if (bt607.2 != bt599.2) = true then (laws_FnIdealsAndAntichains.j0 k l1 bt599.1 bt599.2 bt607.1 bt615.1 true t595) else (if (bt615.2 != bt599.2) = true then (laws_FnIdealsAndAntichains.j0 k l1 bt599.1 bt599.2 bt607.1 bt615.1 true t595) else ((impl_IsPoset.f k t595).bind fun t619 => (if (bt599.2 != t619) = true then (laws_FnIdealsAndAntichains.j0 k l1 bt599.1 bt599.2 bt607.1 bt615.1 true t595) else ((spec_IsPoset.f k t595).bind fun t620 => (laws_FnIdealsAndAntichains.j0 k l1 bt599.1 bt599.2 bt607.1 bt615.1 (bt599.2 != t620) t595)))))) else (laws_FnIdealsAndAntichains.j0 k l1 bt599.1 bt599.2 bt607.1 bt615.1 true t595)))) else (laws_FnIdealsAndAntichains.j0 k l1 bt599.1 bt599.2 bt607.1 bt615.1 true t595))))))))))) = some r := H
 have A3 := am A30
 clear A30
 by_cases c4 : t594 = true
 ·subst c4
  have H1 : (some true) = some r := by rw [if_pos rfl] at H; exact H
  clear H
  have H := H1
  clear H1
  obtain rfl := Option.some.inj H
  go_enter Try.func4, Try.ntmps4
  go_wp2_with (first | (go_at_call 7; (with_reducible refine (laws_big.calls _ _ l0 _ _ l1 true _ ?side1 ?side2 ?side3 ?side4 A3.out).mono ?_); (case side1 => exact qC HR0.out); (case side2 => exact HC0.out); (case side3 => exact qC HR1.out); (case side4 => exact HC1.out); rintro e w' ⟨rfl, ⟨nd, rfl⟩⟩; (try first | exact ⟨rfl, _, World.drewN_drewN _ _ _⟩ | exact ⟨rfl, _, Eq.trans (World.drewN_drewN _ _ _) (congrArg (World.drewN _) (Nat.add_assoc _ _ _))⟩)))
  repeat (go_quiet (first | (go_at_call 7; (with_reducible refine (laws_big.calls _ _ l0 _ _ l1 true _ ?side1 ?side2 ?side3 ?side4 A3.out).mono ?_); (case side1 => exact qC HR0.out); (case side2 => exact HC0.out); (case side3 => exact qC HR1.out); (case side4 => exact HC1.out); rintro e w' ⟨rfl, ⟨nd, rfl⟩⟩; (try first | exact ⟨rfl, _, World.drewN_drewN _ _ _⟩ | exact ⟨rfl, _, Eq.trans (World.drewN_drewN _ _ _) (congrArg (World.drewN _) (Nat.add_assoc _ _ _))⟩))); try go_wp2_with (first | (go_at_call 7; (with_reducible refine (laws_big.calls _ _ l0 _ _ l1 true _ ?side1 ?side2 ?side3 ?side4 A3.out).mono ?_); (case side1 => exact qC HR0.out); (case side2 => exact HC0.out); (case side3 => exact qC HR1.out); (case side4 => exact HC1.out); rintro e w' ⟨rfl, ⟨nd, rfl⟩⟩; (try first | exact ⟨rfl, _, World.drewN_drewN _ _ _⟩ | exact ⟨rfl, _, Eq.trans (World.drewN_drewN _ _ _) (congrArg (World.drewN _) (Nat.add_assoc _ _ _))⟩))))
  go_ret
  exact ⟨qr, qB⟩
 ·as_aux_lemma =>
    replace c4 := Bool.eq_false_iff.mpr c4
    subst c4
    have H1 : ((spec_DrawIdealsOf.f k l0).bind fun t595 => ((impl_IdealsOf.f k t595).bind fun bt599 => ((spec_IdealsOf.f k t595).bind fun bt603 => ((impl_AntichainsOf.f k t595).bind fun bt607 => ((spec_AntichainsOf.f k t595).bind fun bt611 => ((impl_CountIdeals.f k t595).bind fun bt615 => (if (bt599.2 != bt603.2) = true then (laws_FnIdealsAndAntichains.j0 k l1 bt599.1 bt599.2 bt607.1 bt615.1 true t595) else ((laws_nSame.f k bt599.1 bt603.1).bind fun t617 => (if t617 = true then (if (bt607.2 != bt611.2) = true then (laws_FnIdealsAndAntichains.j0 k l1 bt599.1 bt599.2 bt607.1 bt615.1 true t595) else ((laws_nSame.f k bt607.1 bt611.1).bind fun t618 => (if t618 = true then (if (bt607.2 != bt599.2) = true then (laws_FnIdealsAndAntichains.j0 k l1 bt599.1 bt599.2 bt607.1 bt615.1 true t595) else (if (bt615.2 != bt599.2) = true then (laws_FnIdealsAndAntichains.j0 k l1 bt599.1 bt599.2 bt607.1 bt615.1 true t595) else ((impl_IsPoset.f k t595).bind fun t619 => (if (bt599.2 != t619) = true then (laws_FnIdealsAndAntichains.j0 k l1 bt599.1 bt599.2 bt607.1 bt615.1 true t595) else ((spec_IsPoset.f k t595).bind fun t620 => (laws_FnIdealsAndAntichains.j0 k l1 bt599.1 bt599.2 bt607.1 bt615.1 (bt599.2 != t620) t595)))))) else (laws_FnIdealsAndAntichains.j0 k l1 bt599.1 bt599.2 bt607.1 bt615.1 true t595)))) else (laws_FnIdealsAndAntichains.j0 k l1 bt599.1 bt599.2 bt607.1 bt615.1 true t595)))))))))) = some r := by rw [if_neg (show ¬ (false = true) by decide)] at H; exact H
    clear H
    have H := H1
    clear H1
    replace H := Option.bind_eq_some_iff.mp H
    obtain ⟨t595, A50, H⟩ := H
    replace H : ((impl_IdealsOf.f k t595).bind fun bt599 => ((spec_IdealsOf.f k t595).bind fun bt603 => ((impl_AntichainsOf.f k t595).bind fun bt607 => ((spec_AntichainsOf.f k t595).bind fun bt611 => ((impl_CountIdeals.f k t595).bind fun bt615 => (if (bt599.2 != bt603.2) = true then (laws_FnIdealsAndAntichains.j0 k l1 bt599.1 bt599.2 bt607.1 bt615.1 true t595) else ((laws_nSame.f k bt599.1 bt603.1).bind fun t617 => (if t617 = true then (if (bt607.2 != bt611.2) = true then (laws_FnIdealsAndAntichains.j0 k l1 bt599.1 bt599.2 bt607.1 bt615.1 true t595) else ((laws_nSame.f k bt607.1 bt611.1).bind fun t618 => (if t618 = true then (if (bt607.2 != bt599.2) = true then (laws_FnIdealsAndAntichains.j0 k l1 bt599.1 bt599.2 bt607.1 bt615.1 true t595) else (if (bt615.2 != bt599.2) = true then (laws_FnIdealsAndAntichains.j0 k l1 bt599.1 bt599.2 bt607.1 bt615.1 true t595) else ((impl_IsPoset.f k t595).bind fun t619 => (if (bt599.2 != t619) = true then (laws_FnIdealsAndAntichains.j0 k l1 bt599.1 bt599.2 bt607.1 bt615.1 true t595) else ((spec_IsPoset.f k t595).bind fun t620 => (laws_FnIdealsAndAntichains.j0 k l1 bt599.1 bt599.2 bt607.1 bt615.1 (bt599.2 != t620) t595)))))) else (laws_FnIdealsAndAntichains.j0 k l1 bt599.1 bt599.2 bt607.1 bt615.1 true t595)))) else (laws_FnIdealsAndAntichains.j0 k l1 bt599.1 bt599.2 bt607.1 bt615.1 true t595))))))))) = some r := H
    have A5 := am A50
    clear A50
    replace H := Option.bind_eq_some_iff.mp H
    obtain ⟨⟨t599, t602⟩, A60, H⟩ := H
    replace H : ((spec_IdealsOf.f k t595).bind fun bt603 => ((impl_AntichainsOf.f k t595).bind fun bt607 => ((spec_AntichainsOf.f k t595).bind fun bt611 => ((impl_CountIdeals.f k t595).bind fun bt615 => (if (t602 != bt603.2) = true then (laws_FnIdealsAndAntichains.j0 k l1 t599 t602 bt607.1 bt615.1 true t595) else ((laws_nSame.f k t599 bt603.1).bind fun t617 => (if t617 = true then (if (bt607.2 != bt611.2) = true then (laws_FnIdealsAndAntichains.j0 k l1 t599 t602 bt607.1 bt615.1 true t595) else ((laws_nSame.f k bt607.1 bt611.1).bind fun t618 => (if t618 = true then (if (bt607.2 != t602) = true then (laws_FnIdealsAndAntichains.j0 k l1 t599 t602 bt607.1 bt615.1 true t595) else (if (bt615.2 != t602) = true then (laws_FnIdealsAndAntichains.j0 k l1 t599 t602 bt607.1 bt615.1 true t595) else ((impl_IsPoset.f k t595).bind fun t619 => (if (t602 != t619) = true then (laws_FnIdealsAndAntichains.j0 k l1 t599 t602 bt607.1 bt615.1 true t595) else ((spec_IsPoset.f k t595).bind fun t620 => (laws_FnIdealsAndAntichains.j0 k l1 t599 t602 bt607.1 bt615.1 (t602 != t620) t595)))))) else (laws_FnIdealsAndAntichains.j0 k l1 t599 t602 bt607.1 bt615.1 true t595)))) else (laws_FnIdealsAndAntichains.j0 k l1 t599 t602 bt607.1 bt615.1 true t595)))))))) = some r := H
    have A6 := am A60
    clear A60
    replace H := Option.bind_eq_some_iff.mp H
    obtain ⟨⟨t603, t606⟩, A70, H⟩ := H
    replace H : ((impl_AntichainsOf.f k t595).bind fun bt607 => ((spec_AntichainsOf.f k t595).bind fun bt611 => ((impl_CountIdeals.f k t595).bind fun bt615 => (if (t602 != t606) = true then (laws_FnIdealsAndAntichains.j0 k l1 t599 t602 bt607.1 bt615.1 true t595) else ((laws_nSame.f k t599 t603).bind fun t617 => (if t617 = true then (if (bt607.2 != bt611.2) = true then (laws_FnIdealsAndAntichains.j0 k l1 t599 t602 bt607.1 bt615.1 true t595) else ((laws_nSame.f k bt607.1 bt611.1).bind fun t618 => (if t618 = true then (if (bt607.2 != t602) = true then (laws_FnIdealsAndAntichains.j0 k l1 t599 t602 bt607.1 bt615.1 true t595) else (if (bt615.2 != t602) = true then (laws_FnIdealsAndAntichains.j0 k l1 t599 t602 bt607.1 bt615.1 true t595) else ((impl_IsPoset.f k t595).bind fun t619 => (if (t602 != t619) = true then (laws_FnIdealsAndAntichains.j0 k l1 t599 t602 bt607.1 bt615.1 true t595) else ((spec_IsPoset.f k t595).bind fun t620 => (laws_FnIdealsAndAntichains.j0 k l1 t599 t602 bt607.1 bt615.1 (t602 != t620) t595)))))) else (laws_FnIdealsAndAntichains.j0 k l1 t599 t602 bt607.1 bt615.1 true t595)))) else (laws_FnIdealsAndAntichains.j0 k l1 t599 t602 bt607.1 bt615.1 true t595))))))) = some r := H
    have A7 := am A70
    clear A70
    replace H := Option.bind_eq_some_iff.mp H
    obtain ⟨⟨t607, t610⟩, A80, H⟩ := H
    replace H : ((spec_AntichainsOf.f k t595).bind fun bt611 => ((impl_CountIdeals.f k t595).bind fun bt615 => (if (t602 != t606) = true then (laws_FnIdealsAndAntichains.j0 k l1 t599 t602 t607 bt615.1 true t595) else ((laws_nSame.f k t599 t603).bind fun t617 => (if t617 = true then (if (t610 != bt611.2) = true then (laws_FnIdealsAndAntichains.j0 k l1 t599 t602 t607 bt615.1 true t595) else ((laws_nSame.f k t607 bt611.1).bind fun t618 => (if t618 = true then (if (t610 != t602) = true then (laws_FnIdealsAndAntichains.j0 k l1 t599 t602 t607 bt615.1 true t595) else (if (bt615.2 != t602) = true then (laws_FnIdealsAndAntichains.j0 k l1 t599 t602 t607 bt615.1 true t595) else ((impl_IsPoset.f k t595).bind fun t619 => (if (t602 != t619) = true then (laws_FnIdealsAndAntichains.j0 k l1 t599 t602 t607 bt615.1 true t595) else ((spec_IsPoset.f k t595).bind fun t620 => (laws_FnIdealsAndAntichains.j0 k l1 t599 t602 t607 bt615.1 (t602 != t620) t595)))))) else (laws_FnIdealsAndAntichains.j0 k l1 t599 t602 t607 bt615.1 true t595)))) else (laws_FnIdealsAndAntichains.j0 k l1 t599 t602 t607 bt615.1 true t595)))))) = some r := H
    have A8 := am A80
    clear A80
    replace H := Option.bind_eq_some_iff.mp H
    obtain ⟨⟨t611, t614⟩, A90, H⟩ := H
    replace H : ((impl_CountIdeals.f k t595).bind fun bt615 => (if (t602 != t606) = true then (laws_FnIdealsAndAntichains.j0 k l1 t599 t602 t607 bt615.1 true t595) else ((laws_nSame.f k t599 t603).bind fun t617 => (if t617 = true then (if (t610 != t614) = true then (laws_FnIdealsAndAntichains.j0 k l1 t599 t602 t607 bt615.1 true t595) else ((laws_nSame.f k t607 t611).bind fun t618 => (if t618 = true then (if (t610 != t602) = true then (laws_FnIdealsAndAntichains.j0 k l1 t599 t602 t607 bt615.1 true t595) else (if (bt615.2 != t602) = true then (laws_FnIdealsAndAntichains.j0 k l1 t599 t602 t607 bt615.1 true t595) else ((impl_IsPoset.f k t595).bind fun t619 => (if (t602 != t619) = true then (laws_FnIdealsAndAntichains.j0 k l1 t599 t602 t607 bt615.1 true t595) else ((spec_IsPoset.f k t595).bind fun t620 => (laws_FnIdealsAndAntichains.j0 k l1 t599 t602 t607 bt615.1 (t602 != t620) t595)))))) else (laws_FnIdealsAndAntichains.j0 k l1 t599 t602 t607 bt615.1 true t595)))) else (laws_FnIdealsAndAntichains.j0 k l1 t599 t602 t607 bt615.1 true t595))))) = some r := H
    have A9 := am A90
    clear A90
    replace H := Option.bind_eq_some_iff.mp H
    obtain ⟨⟨t615, t616⟩, A100, H⟩ := H
    replace H : (if (t602 != t606) = true then (laws_FnIdealsAndAntichains.j0 k l1 t599 t602 t607 t615 true t595) else ((laws_nSame.f k t599 t603).bind fun t617 => (if t617 = true then (if (t610 != t614) = true then (laws_FnIdealsAndAntichains.j0 k l1 t599 t602 t607 t615 true t595) else ((laws_nSame.f k t607 t611).bind fun t618 => (if t618 = true then (if (t610 != t602) = true then (laws_FnIdealsAndAntichains.j0 k l1 t599 t602 t607 t615 true t595) else (if (t616 != t602) = true then (laws_FnIdealsAndAntichains.j0 k l1 t599 t602 t607 t615 true t595) else ((impl_IsPoset.f k t595).bind fun t619 => (if (t602 != t619) = true then (laws_FnIdealsAndAntichains.j0 k l1 t599 t602 t607 t615 true t595) else ((spec_IsPoset.f k t595).bind fun t620 => (laws_FnIdealsAndAntichains.j0 k l1 t599 t602 t607 t615 (t602 != t620) t595)))))) else (laws_FnIdealsAndAntichains.j0 k l1 t599 t602 t607 t615 true t595)))) else (laws_FnIdealsAndAntichains.j0 k l1 t599 t602 t607 t615 true t595)))) = some r := H
    have A10 := am A100
    clear A100
    have HC11 := am H
    clear H
    go_enter Try.func4, Try.ntmps4
    go_upto_region 9 with (first | (go_at_call 7; (with_reducible refine (laws_big.calls _ _ l0 _ _ l1 false _ ?side1 ?side2 ?side3 ?side4 A3.out).mono ?_); (case side1 => exact qC HR0.out); (case side2 => exact HC0.out); (case side3 => exact qC HR1.out); (case side4 => exact HC1.out); rintro e w' ⟨rfl, ⟨nd, rfl⟩⟩; (try first | exact ⟨rfl, _, World.drewN_drewN _ _ _⟩ | exact ⟨rfl, _, Eq.trans (World.drewN_drewN _ _ _) (congrArg (World.drewN _) (Nat.add_assoc _ _ _))⟩)) | (go_at_call 25; (with_reducible refine (spec_DrawIdealsOf.calls k _ _ l0 t595 _ ?side1 ?side2 A5.out).mono ?_); (case side1 => exact qC HR0.out); (case side2 => exact HC0.out); rintro e w12 ⟨v596, rfl, ho0, hb⟩; have HO597 := am (Kd.R_lower ho0 (below_size qB)); replace HB := am (below_step qB hb); (try clear hb); (try clear hb2); (try clear hk); (try clear hi); (try clear ho0)) | ((with_reducible refine gate_dst (N := 5) rfl ?_); refine qx (N := 5) (cs := #[.slice none 0 0]) (t := 28) ?_; intro gb598 hg w13 hbox hb; replace HO597 := am (Kd.R_below (qR HO597.out) hb); have n1_ := am (below_step qB hb); have BK598 := am (hbox); have GW598 := am (qg w hg); have GE598 := am (qg w hg); clear HB; have HB := n1_; clear n1_; clear hb hbox hg; obtain ⟨Ao14, co14, eo14⟩ := Kd.R_slice HO597.out; subst eo14; have hcz15_0 := qz w13 BK598.out; have hfz15_0 := blk_frozen BK598.out 0) | (go_at_call 26; (with_reducible refine (impl_IdealsOf.calls k _ _ t595 t599 t602 _ ?side1 ?side2 A6.out).mono ?_); (case side1 => refine (Kd.R_reads' (e := 3) (base := w.heap.size) (ok := fun k_ => True) (n := t595.length) (c := co14) ?_).2.2; exact (qR ((Kd.R_mono (Kd.R_far (p := ⟨gb598, 0, none⟩) (Kd.R_types HO597.out BK598.out (by decide)) (fun _ hk => hk.2) (.slice Ao14 t595.length co14)) (fun _ h_ => h_.1))))); (case side2 => exact (Kd.R_reads' HO597.out).2.1); rintro e w16 ⟨v600, rfl, ho0, hb⟩; have n0_ := am (Kd.R_elder' (qR ((Kd.R_mono (Kd.R_far (p := ⟨gb598, 0, none⟩) (Kd.R_types HO597.out BK598.out (by decide)) (fun _ hk => hk.2) (.slice Ao14 t595.length co14)) (fun _ h_ => h_.1)))) (Kd.R_base ho0) hb); have HO601 := am (Kd.R_lower (Kd.R_new' ho0 (Kd.R_lt (qR ((Kd.R_mono (Kd.R_far (p := ⟨gb598, 0, none⟩) (Kd.R_types HO597.out BK598.out (by decide)) (fun _ hk => hk.2) (.slice Ao14 t595.length co14)) (fun _ h_ => h_.1)))))) (below_size qB)); replace BK598 := am (blk_below (g := gb598) (o := .cells #[.slice Ao14 t595.length co14] 28 (0, 0)) (by (with_reducible repeat (first | refine blk_drewN ?_ _ | refine blk_drew ?_ | refine blk_alloc ?_ _)); refine blk_put (cs := #[.slice none 0 0]) ?_ 0 _ rfl; refine qb ?_; exact BK598.out) hb); replace HB := am (below_step qB hb); clear HO597; have HO597 := n0_; clear n0_; (try clear hb); (try clear hb2); (try clear hk); (try clear hi); (try clear ho0); have hcz17_0 := qz w16 BK598.out; have hfz17_0 := blk_frozen BK598.out 0) | (go_at_call 27; (with_reducible refine (spec_IdealsOf.calls k _ _ t595 t603 t606 _ ?side1 ?side2 A7.out).mono ?_); (case side1 => exact qC (Kd.R_reads' HO597.out).2.2); (case side2 => exact (Kd.R_reads' HO597.out).2.1); rintro e w18 ⟨v604, rfl, ho0, hb⟩; have n0_ := am (Kd.R_elder' (qR HO597.out) (Kd.R_base ho0) hb); have n1_ := am (Kd.R_elder' (qR HO601.out) (Kd.R_base ho0) hb); have HO605 := am (Kd.R_lower (Kd.R_new' (Kd.R_new' ho0 (Kd.R_lt (qR HO597.out))) (Kd.R_lt (qR HO601.out))) (below_size qB)); replace BK598 := am (blk_below (g := gb598) (o := .cells #[.slice Ao14 t595.length co14] 28 (0, 0)) (qb BK598.out) hb); replace HB := am (below_step qB hb); clear HO597 HO601; have HO597 := n0_; have HO601 := n1_; clear n0_ n1_; (try clear hb); (try clear hb2); (try clear hk); (try clear hi); (try clear ho0); have hcz19_0 := qz w18 BK598.out; have hfz19_0 := blk_frozen BK598.out 0) | (go_at_call 28; (with_reducible refine (impl_AntichainsOf.calls k _ _ t595 t607 t610 _ ?side1 ?side2 A8.out).mono ?_); (case side1 => exact qC (Kd.R_reads' HO597.out).2.2); (case side2 => exact (Kd.R_reads' HO597.out).2.1); rintro e w20 ⟨v608, rfl, ho0, hb⟩; have n0_ := am (Kd.R_elder' (qR HO597.out) (Kd.R_base ho0) hb); have n1_ := am (Kd.R_elder' (qR HO601.out) (Kd.R_base ho0) hb); have n2_ := am (Kd.R_elder' (qR HO605.out) (Kd.R_base ho0) hb); have HO609 := am (Kd.R_lower (Kd.R_new' (Kd.R_new' (Kd.R_new' ho0 (Kd.R_lt (qR HO597.out))) (Kd.R_lt (qR HO601.out))) (Kd.R_lt (qR HO605.out))) (below_size qB)); replace BK598 := am (blk_below (g := gb598) (o := .cells #[.slice Ao14 t595.length co14] 28 (0, 0)) (qb BK598.out) hb); replace HB := am (below_step qB hb); clear HO597 HO601 HO605; have HO597 := n0_; have HO601 := n1_; have HO605 := n2_; clear n0_ n1_ n2_; (try clear hb); (try clear hb2); (try clear hk); (try clear hi); (try clear ho0); have hcz21_0 := qz w20 BK598.out; have hfz21_0 := blk_frozen BK598.out 0) | (go_at_call 29; (with_reducible refine (spec_AntichainsOf.calls k _ _ t595 t611 t614 _ ?side1 ?side2 A9.out).mono ?_); (case side1 => exact qC (Kd.R_reads' HO597.out).2.2); (case side2 => exact (Kd.R_reads' HO597.out).2.1); rintro e w22 ⟨v612, rfl, ho0, hb⟩; have n0_ := am (Kd.R_elder' (qR HO597.out) (Kd.R_base ho0) hb); have n1_ := am (Kd.R_elder' (qR HO601.out) (Kd.R_base ho0) hb); have n2_ := am (Kd.R_elder' (qR HO605.out) (Kd.R_base ho0) hb); have n3_ := am (Kd.R_elder' (qR HO609.out) (Kd.R_base ho0) hb); have HO613 := am (Kd.R_lower (Kd.R_new' (Kd.R_new' (Kd.R_new' (Kd.R_new' ho0 (Kd.R_lt (qR HO597.out))) (Kd.R_lt (qR HO601.out))) (Kd.R_lt (qR HO605.out))) (Kd.R_lt (qR HO609.out))) (below_size qB)); replace BK598 := am (blk_below (g := gb598) (o := .cells #[.slice Ao14 t595.length co14] 28 (0, 0)) (qb BK598.out) hb); replace HB := am (below_step qB hb); clear HO597 HO601 HO605 HO609; have HO597 := n0_; have HO601 := n1_; have HO605 := n2_; have HO609 := n3_; clear n0_ n1_ n2_ n3_; (try clear hb); (try clear hb2); (try clear hk); (try clear hi); (try clear ho0); have hcz23_0 := qz w22 BK598.out; have hfz23_0 := blk_frozen BK598.out 0) | (go_at_call 12; (with_reducible refine (impl_CountIdeals.calls k _ _ t595 t615 t616 _ ?side1 ?side2 A10.out).mono ?_); (case side1 => exact qC (Kd.R_reads' HO597.out).2.2); (case side2 => exact (Kd.R_reads' HO597.out).2.1); rintro e w24 ⟨rfl, hb⟩; replace HO597 := am (Kd.R_below (qR HO597.out) hb); replace HO601 := am (Kd.R_below (qR HO601.out) hb); replace HO605 := am (Kd.R_below (qR HO605.out) hb); replace HO609 := am (Kd.R_below (qR HO609.out) hb); replace HO613 := am (Kd.R_below (qR HO613.out) hb); replace BK598 := am (blk_below (g := gb598) (o := .cells #[.slice Ao14 t595.length co14] 28 (0, 0)) (qb BK598.out) hb); replace HB := am (below_step qB hb); (try clear hb); (try clear hb2); (try clear hk); (try clear hi)))
    repeat (go_quiet (first | (go_at_call 7; (with_reducible refine (laws_big.calls _ _ l0 _ _ l1 false _ ?side1 ?side2 ?side3 ?side4 A3.out).mono ?_); (case side1 => exact qC HR0.out); (case side2 => exact HC0.out); (case side3 => exact qC HR1.out); (case side4 => exact HC1.out); rintro e w' ⟨rfl, ⟨nd, rfl⟩⟩; (try first | exact ⟨rfl, _, World.drewN_drewN _ _ _⟩ | exact ⟨rfl, _, Eq.trans (World.drewN_drewN _ _ _) (congrArg (World.drewN _) (Nat.add_assoc _ _ _))⟩)) | (go_at_call 25; (with_reducible refine (spec_DrawIdealsOf.calls k _ _ l0 t595 _ ?side1 ?side2 A5.out).mono ?_); (case side1 => exact qC HR0.out); (case side2 => exact HC0.out); rintro e w12 ⟨v596, rfl, ho0, hb⟩; have HO597 := am (Kd.R_lower ho0 (below_size qB)); replace HB := am (below_step qB hb); (try clear hb); (try clear hb2); (try clear hk); (try clear hi); (try clear ho0)) | ((with_reducible refine gate_dst (N := 5) rfl ?_); refine qx (N := 5) (cs := #[.slice none 0 0]) (t := 28) ?_; intro gb598 hg w13 hbox hb; replace HO597 := am (Kd.R_below (qR HO597.out) hb); have n1_ := am (below_step qB hb); have BK598 := am (hbox); have GW598 := am (qg w hg); have GE598 := am (qg w hg); clear HB; have HB := n1_; clear n1_; clear hb hbox hg; obtain ⟨Ao14, co14, eo14⟩ := Kd.R_slice HO597.out; subst eo14; have hcz15_0 := qz w13 BK598.out; have hfz15_0 := blk_frozen BK598.out 0) | (go_at_call 26; (with_reducible refine (impl_IdealsOf.calls k _ _ t595 t599 t602 _ ?side1 ?side2 A6.out).mono ?_); (case side1 => refine (Kd.R_reads' (e := 3) (base := w.heap.size) (ok := fun k_ => True) (n := t595.length) (c := co14) ?_).2.2; exact (qR ((Kd.R_mono (Kd.R_far (p := ⟨gb598, 0, none⟩) (Kd.R_types HO597.out BK598.out (by decide)) (fun _ hk => hk.2) (.slice Ao14 t595.length co14)) (fun _ h_ => h_.1))))); (case side2 => exact (Kd.R_reads' HO597.out).2.1); rintro e w16 ⟨v600, rfl, ho0, hb⟩; have n0_ := am (Kd.R_elder' (qR ((Kd.R_mono (Kd.R_far (p := ⟨gb598, 0, none⟩) (Kd.R_types HO597.out BK598.out (by decide)) (fun _ hk => hk.2) (.slice Ao14 t595.length co14)) (fun _ h_ => h_.1)))) (Kd.R_base ho0) hb); have HO601 := am (Kd.R_lower (Kd.R_new' ho0 (Kd.R_lt (qR ((Kd.R_mono (Kd.R_far (p := ⟨gb598, 0, none⟩) (Kd.R_types HO597.out BK598.out (by decide)) (fun _ hk => hk.2) (.slice Ao14 t595.length co14)) (fun _ h_ => h_.1)))))) (below_size qB)); replace BK598 := am (blk_below (g := gb598) (o := .cells #[.slice Ao14 t595.length co14] 28 (0, 0)) (by (with_reducible repeat (first | refine blk_drewN ?_ _ | refine blk_drew ?_ | refine blk_alloc ?_ _)); refine blk_put (cs := #[.slice none 0 0]) ?_ 0 _ rfl; refine qb ?_; exact BK598.out) hb); replace HB := am (below_step qB hb); clear HO597; have HO597 := n0_; clear n0_; (try clear hb); (try clear hb2); (try clear hk); (try clear hi); (try clear ho0); have hcz17_0 := qz w16 BK598.out; have hfz17_0 := blk_frozen BK598.out 0) | (go_at_call 27; (with_reducible refine (spec_IdealsOf.calls k _ _ t595 t603 t606 _ ?side1 ?side2 A7.out).mono ?_); (case side1 => exact qC (Kd.R_reads' HO597.out).2.2); (case side2 => exact (Kd.R_reads' HO597.out).2.1); rintro e w18 ⟨v604, rfl, ho0, hb⟩; have n0_ := am (Kd.R_elder' (qR HO597.out) (Kd.R_base ho0) hb); have n1_ := am (Kd.R_elder' (qR HO601.out) (Kd.R_base ho0) hb); have HO605 := am (Kd.R_lower (Kd.R_new' (Kd.R_new' ho0 (Kd.R_lt (qR HO597.out))) (Kd.R_lt (qR HO601.out))) (below_size qB)); replace BK598 := am (blk_below (g := gb598) (o := .cells #[.slice Ao14 t595.length co14] 28 (0, 0)) (qb BK598.out) hb); replace HB := am (below_step qB hb); clear HO597 HO601; have HO597 := n0_; have HO601 := n1_; clear n0_ n1_; (try clear hb); (try clear hb2); (try clear hk); (try clear hi); (try clear ho0); have hcz19_0 := qz w18 BK598.out; have hfz19_0 := blk_frozen BK598.out 0) | (go_at_call 28; (with_reducible refine (impl_AntichainsOf.calls k _ _ t595 t607 t610 _ ?side1 ?side2 A8.out).mono ?_); (case side1 => exact qC (Kd.R_reads' HO597.out).2.2); (case side2 => exact (Kd.R_reads' HO597.out).2.1); rintro e w20 ⟨v608, rfl, ho0, hb⟩; have n0_ := am (Kd.R_elder' (qR HO597.out) (Kd.R_base ho0) hb); have n1_ := am (Kd.R_elder' (qR HO601.out) (Kd.R_base ho0) hb); have n2_ := am (Kd.R_elder' (qR HO605.out) (Kd.R_base ho0) hb); have HO609 := am (Kd.R_lower (Kd.R_new' (Kd.R_new' (Kd.R_new' ho0 (Kd.R_lt (qR HO597.out))) (Kd.R_lt (qR HO601.out))) (Kd.R_lt (qR HO605.out))) (below_size qB)); replace BK598 := am (blk_below (g := gb598) (o := .cells #[.slice Ao14 t595.length co14] 28 (0, 0)) (qb BK598.out) hb); replace HB := am (below_step qB hb); clear HO597 HO601 HO605; have HO597 := n0_; have HO601 := n1_; have HO605 := n2_; clear n0_ n1_ n2_; (try clear hb); (try clear hb2); (try clear hk); (try clear hi); (try clear ho0); have hcz21_0 := qz w20 BK598.out; have hfz21_0 := blk_frozen BK598.out 0) | (go_at_call 29; (with_reducible refine (spec_AntichainsOf.calls k _ _ t595 t611 t614 _ ?side1 ?side2 A9.out).mono ?_); (case side1 => exact qC (Kd.R_reads' HO597.out).2.2); (case side2 => exact (Kd.R_reads' HO597.out).2.1); rintro e w22 ⟨v612, rfl, ho0, hb⟩; have n0_ := am (Kd.R_elder' (qR HO597.out) (Kd.R_base ho0) hb); have n1_ := am (Kd.R_elder' (qR HO601.out) (Kd.R_base ho0) hb); have n2_ := am (Kd.R_elder' (qR HO605.out) (Kd.R_base ho0) hb); have n3_ := am (Kd.R_elder' (qR HO609.out) (Kd.R_base ho0) hb); have HO613 := am (Kd.R_lower (Kd.R_new' (Kd.R_new' (Kd.R_new' (Kd.R_new' ho0 (Kd.R_lt (qR HO597.out))) (Kd.R_lt (qR HO601.out))) (Kd.R_lt (qR HO605.out))) (Kd.R_lt (qR HO609.out))) (below_size qB)); replace BK598 := am (blk_below (g := gb598) (o := .cells #[.slice Ao14 t595.length co14] 28 (0, 0)) (qb BK598.out) hb); replace HB := am (below_step qB hb); clear HO597 HO601 HO605 HO609; have HO597 := n0_; have HO601 := n1_; have HO605 := n2_; have HO609 := n3_; clear n0_ n1_ n2_ n3_; (try clear hb); (try clear hb2); (try clear hk); (try clear hi); (try clear ho0); have hcz23_0 := qz w22 BK598.out; have hfz23_0 := blk_frozen BK598.out 0) | (go_at_call 12; (with_reducible refine (impl_CountIdeals.calls k _ _ t595 t615 t616 _ ?side1 ?side2 A10.out).mono ?_); (case side1 => exact qC (Kd.R_reads' HO597.out).2.2); (case side2 => exact (Kd.R_reads' HO597.out).2.1); rintro e w24 ⟨rfl, hb⟩; replace HO597 := am (Kd.R_below (qR HO597.out) hb); replace HO601 := am (Kd.R_below (qR HO601.out) hb); replace HO605 := am (Kd.R_below (qR HO605.out) hb); replace HO609 := am (Kd.R_below (qR HO609.out) hb); replace HO613 := am (Kd.R_below (qR HO613.out) hb); replace BK598 := am (blk_below (g := gb598) (o := .cells #[.slice Ao14 t595.length co14] 28 (0, 0)) (qb BK598.out) hb); replace HB := am (below_step qB hb); (try clear hb); (try clear hb2); (try clear hk); (try clear hi))); go_upto_region 9 with (first | (go_at_call 7; (with_reducible refine (laws_big.calls _ _ l0 _ _ l1 false _ ?side1 ?side2 ?side3 ?side4 A3.out).mono ?_); (case side1 => exact qC HR0.out); (case side2 => exact HC0.out); (case side3 => exact qC HR1.out); (case side4 => exact HC1.out); rintro e w' ⟨rfl, ⟨nd, rfl⟩⟩; (try first | exact ⟨rfl, _, World.drewN_drewN _ _ _⟩ | exact ⟨rfl, _, Eq.trans (World.drewN_drewN _ _ _) (congrArg (World.drewN _) (Nat.add_assoc _ _ _))⟩)) | (go_at_call 25; (with_reducible refine (spec_DrawIdealsOf.calls k _ _ l0 t595 _ ?side1 ?side2 A5.out).mono ?_); (case side1 => exact qC HR0.out); (case side2 => exact HC0.out); rintro e w12 ⟨v596, rfl, ho0, hb⟩; have HO597 := am (Kd.R_lower ho0 (below_size qB)); replace HB := am (below_step qB hb); (try clear hb); (try clear hb2); (try clear hk); (try clear hi); (try clear ho0)) | ((with_reducible refine gate_dst (N := 5) rfl ?_); refine qx (N := 5) (cs := #[.slice none 0 0]) (t := 28) ?_; intro gb598 hg w13 hbox hb; replace HO597 := am (Kd.R_below (qR HO597.out) hb); have n1_ := am (below_step qB hb); have BK598 := am (hbox); have GW598 := am (qg w hg); have GE598 := am (qg w hg); clear HB; have HB := n1_; clear n1_; clear hb hbox hg; obtain ⟨Ao14, co14, eo14⟩ := Kd.R_slice HO597.out; subst eo14; have hcz15_0 := qz w13 BK598.out; have hfz15_0 := blk_frozen BK598.out 0) | (go_at_call 26; (with_reducible refine (impl_IdealsOf.calls k _ _ t595 t599 t602 _ ?side1 ?side2 A6.out).mono ?_); (case side1 => refine (Kd.R_reads' (e := 3) (base := w.heap.size) (ok := fun k_ => True) (n := t595.length) (c := co14) ?_).2.2; exact (qR ((Kd.R_mono (Kd.R_far (p := ⟨gb598, 0, none⟩) (Kd.R_types HO597.out BK598.out (by decide)) (fun _ hk => hk.2) (.slice Ao14 t595.length co14)) (fun _ h_ => h_.1))))); (case side2 => exact (Kd.R_reads' HO597.out).2.1); rintro e w16 ⟨v600, rfl, ho0, hb⟩; have n0_ := am (Kd.R_elder' (qR ((Kd.R_mono (Kd.R_far (p := ⟨gb598, 0, none⟩) (Kd.R_types HO597.out BK598.out (by decide)) (fun _ hk => hk.2) (.slice Ao14 t595.length co14)) (fun _ h_ => h_.1)))) (Kd.R_base ho0) hb); have HO601 := am (Kd.R_lower (Kd.R_new' ho0 (Kd.R_lt (qR ((Kd.R_mono (Kd.R_far (p := ⟨gb598, 0, none⟩) (Kd.R_types HO597.out BK598.out (by decide)) (fun _ hk => hk.2) (.slice Ao14 t595.length co14)) (fun _ h_ => h_.1)))))) (below_size qB)); replace BK598 := am (blk_below (g := gb598) (o := .cells #[.slice Ao14 t595.length co14] 28 (0, 0)) (by (with_reducible repeat (first | refine blk_drewN ?_ _ | refine blk_drew ?_ | refine blk_alloc ?_ _)); refine blk_put (cs := #[.slice none 0 0]) ?_ 0 _ rfl; refine qb ?_; exact BK598.out) hb); replace HB := am (below_step qB hb); clear HO597; have HO597 := n0_; clear n0_; (try clear hb); (try clear hb2); (try clear hk); (try clear hi); (try clear ho0); have hcz17_0 := qz w16 BK598.out; have hfz17_0 := blk_frozen BK598.out 0) | (go_at_call 27; (with_reducible refine (spec_IdealsOf.calls k _ _ t595 t603 t606 _ ?side1 ?side2 A7.out).mono ?_); (case side1 => exact qC (Kd.R_reads' HO597.out).2.2); (case side2 => exact (Kd.R_reads' HO597.out).2.1); rintro e w18 ⟨v604, rfl, ho0, hb⟩; have n0_ := am (Kd.R_elder' (qR HO597.out) (Kd.R_base ho0) hb); have n1_ := am (Kd.R_elder' (qR HO601.out) (Kd.R_base ho0) hb); have HO605 := am (Kd.R_lower (Kd.R_new' (Kd.R_new' ho0 (Kd.R_lt (qR HO597.out))) (Kd.R_lt (qR HO601.out))) (below_size qB)); replace BK598 := am (blk_below (g := gb598) (o := .cells #[.slice Ao14 t595.length co14] 28 (0, 0)) (qb BK598.out) hb); replace HB := am (below_step qB hb); clear HO597 HO601; have HO597 := n0_; have HO601 := n1_; clear n0_ n1_; (try clear hb); (try clear hb2); (try clear hk); (try clear hi); (try clear ho0); have hcz19_0 := qz w18 BK598.out; have hfz19_0 := blk_frozen BK598.out 0) | (go_at_call 28; (with_reducible refine (impl_AntichainsOf.calls k _ _ t595 t607 t610 _ ?side1 ?side2 A8.out).mono ?_); (case side1 => exact qC (Kd.R_reads' HO597.out).2.2); (case side2 => exact (Kd.R_reads' HO597.out).2.1); rintro e w20 ⟨v608, rfl, ho0, hb⟩; have n0_ := am (Kd.R_elder' (qR HO597.out) (Kd.R_base ho0) hb); have n1_ := am (Kd.R_elder' (qR HO601.out) (Kd.R_base ho0) hb); have n2_ := am (Kd.R_elder' (qR HO605.out) (Kd.R_base ho0) hb); have HO609 := am (Kd.R_lower (Kd.R_new' (Kd.R_new' (Kd.R_new' ho0 (Kd.R_lt (qR HO597.out))) (Kd.R_lt (qR HO601.out))) (Kd.R_lt (qR HO605.out))) (below_size qB)); replace BK598 := am (blk_below (g := gb598) (o := .cells #[.slice Ao14 t595.length co14] 28 (0, 0)) (qb BK598.out) hb); replace HB := am (below_step qB hb); clear HO597 HO601 HO605; have HO597 := n0_; have HO601 := n1_; have HO605 := n2_; clear n0_ n1_ n2_; (try clear hb); (try clear hb2); (try clear hk); (try clear hi); (try clear ho0); have hcz21_0 := qz w20 BK598.out; have hfz21_0 := blk_frozen BK598.out 0) | (go_at_call 29; (with_reducible refine (spec_AntichainsOf.calls k _ _ t595 t611 t614 _ ?side1 ?side2 A9.out).mono ?_); (case side1 => exact qC (Kd.R_reads' HO597.out).2.2); (case side2 => exact (Kd.R_reads' HO597.out).2.1); rintro e w22 ⟨v612, rfl, ho0, hb⟩; have n0_ := am (Kd.R_elder' (qR HO597.out) (Kd.R_base ho0) hb); have n1_ := am (Kd.R_elder' (qR HO601.out) (Kd.R_base ho0) hb); have n2_ := am (Kd.R_elder' (qR HO605.out) (Kd.R_base ho0) hb); have n3_ := am (Kd.R_elder' (qR HO609.out) (Kd.R_base ho0) hb); have HO613 := am (Kd.R_lower (Kd.R_new' (Kd.R_new' (Kd.R_new' (Kd.R_new' ho0 (Kd.R_lt (qR HO597.out))) (Kd.R_lt (qR HO601.out))) (Kd.R_lt (qR HO605.out))) (Kd.R_lt (qR HO609.out))) (below_size qB)); replace BK598 := am (blk_below (g := gb598) (o := .cells #[.slice Ao14 t595.length co14] 28 (0, 0)) (qb BK598.out) hb); replace HB := am (below_step qB hb); clear HO597 HO601 HO605 HO609; have HO597 := n0_; have HO601 := n1_; have HO605 := n2_; have HO609 := n3_; clear n0_ n1_ n2_ n3_; (try clear hb); (try clear hb2); (try clear hk); (try clear hi); (try clear ho0); have hcz23_0 := qz w22 BK598.out; have hfz23_0 := blk_frozen BK598.out 0) | (go_at_call 12; (with_reducible refine (impl_CountIdeals.calls k _ _ t595 t615 t616 _ ?side1 ?side2 A10.out).mono ?_); (case side1 => exact qC (Kd.R_reads' HO597.out).2.2); (case side2 => exact (Kd.R_reads' HO597.out).2.1); rintro e w24 ⟨rfl, hb⟩; replace HO597 := am (Kd.R_below (qR HO597.out) hb); replace HO601 := am (Kd.R_below (qR HO601.out) hb); replace HO605 := am (Kd.R_below (qR HO605.out) hb); replace HO609 := am (Kd.R_below (qR HO609.out) hb); replace HO613 := am (Kd.R_below (qR HO613.out) hb); replace BK598 := am (blk_below (g := gb598) (o := .cells #[.slice Ao14 t595.length co14] 28 (0, 0)) (qb BK598.out) hb); replace HB := am (below_step qB hb); (try clear hb); (try clear hb2); (try clear hk); (try clear hi))))
    (try simp only [Act.put, List.setIfInBounds_toArray, List.set_cons_zero, List.set_cons_succ])
    go_cut [122] (fun v122 wc => ∃ (kq : Nat) (x122_10 : Bool), v122 = .bool x122_10 ∧ Aside0 (laws_FnIdealsAndAntichains.j0 kq l1 t599 t602 t607 t615 x122_10 t595 = some r) ∧ Aside0 (kq ≤ k) ∧ Aside0 (Kd.R (Kd.int .i64) 3 wc w.heap.size (fun k_ => some k_ ≠ (v608 : Value).ownBlock ∧ some k_ ≠ ((.slice Ao14 t595.length co14) : Value).ownBlock) v600 t599) ∧ Aside0 (Kd.R (Kd.int .i64) 3 wc w.heap.size (fun k_ => some k_ ≠ (v600 : Value).ownBlock ∧ some k_ ≠ ((.slice Ao14 t595.length co14) : Value).ownBlock) v608 t607) ∧ Aside0 (Kd.R (Kd.int .i64) 3 wc w.heap.size (fun k_ => some k_ ≠ (v600 : Value).ownBlock ∧ some k_ ≠ (v608 : Value).ownBlock) (.slice Ao14 t595.length co14) t595) ∧ Aside0 (wc.heap[gb598]? = some (.cells #[(.slice Ao14 t595.length co14)] 28 (0, 0))) ∧ Aside0 (Below w.heap.size w wc))
    case first =>
     have H := HC11.out
     clear HC11
     by_cases c25 : (t602 != t606) = true
     ·as_aux_lemma =>
        rw [if_pos c25] at H
        exact absurd (hrt.out ▸ H) (laws_FnIdealsAndAntichains.j0_no _ _ _ _ _ _ _)
     ·as_aux_lemma =>
        rw [if_neg c25] at H
        have c25b0 : (t602 != t606) = false := by simpa using c25
        (try (have c25b1 : decide (t602 = t606) = true := by simpa using c25))
        (try (have c25b2 : (t602 == t606) = true := by simpa using c25))
        clear c25
        (first | rw [c25b0] | (simp only [i64_w, i32_w]; rw [c25b0]) | skip)
        replace H := Option.bind_eq_some_iff.mp H
        obtain ⟨t617, A260, H⟩ := H
        replace H : (if t617 = true then (if (t610 != t614) = true then (laws_FnIdealsAndAntichains.j0 k l1 t599 t602 t607 t615 true t595) else ((laws_nSame.f k t607 t611).bind fun t618 => (if t618 = true then (if (t610 != t602) = true then (laws_FnIdealsAndAntichains.j0 k l1 t599 t602 t607 t615 true t595) else (if (t616 != t602) = true then (laws_FnIdealsAndAntichains.j0 k l1 t599 t602 t607 t615 true t595) else ((impl_IsPoset.f k t595).bind fun t619 => (if (t602 != t619) = true then (laws_FnIdealsAndAntichains.j0 k l1 t599 t602 t607 t615 true t595) else ((spec_IsPoset.f k t595).bind fun t620 => (laws_FnIdealsAndAntichains.j0 k l1 t599 t602 t607 t615 (t602 != t620) t595)))))) else (laws_FnIdealsAndAntichains.j0 k l1 t599 t602 t607 t615 true t595)))) else (laws_FnIdealsAndAntichains.j0 k l1 t599 t602 t607 t615 true t595)) = some r := H
        have A26 := am A260
        clear A260
        by_cases c27 : t617 = true
        ·as_aux_lemma =>
           subst c27
           have H1 : (if (t610 != t614) = true then (laws_FnIdealsAndAntichains.j0 k l1 t599 t602 t607 t615 true t595) else ((laws_nSame.f k t607 t611).bind fun t618 => (if t618 = true then (if (t610 != t602) = true then (laws_FnIdealsAndAntichains.j0 k l1 t599 t602 t607 t615 true t595) else (if (t616 != t602) = true then (laws_FnIdealsAndAntichains.j0 k l1 t599 t602 t607 t615 true t595) else ((impl_IsPoset.f k t595).bind fun t619 => (if (t602 != t619) = true then (laws_FnIdealsAndAntichains.j0 k l1 t599 t602 t607 t615 true t595) else ((spec_IsPoset.f k t595).bind fun t620 => (laws_FnIdealsAndAntichains.j0 k l1 t599 t602 t607 t615 (t602 != t620) t595)))))) else (laws_FnIdealsAndAntichains.j0 k l1 t599 t602 t607 t615 true t595)))) = some r := by rw [if_pos rfl] at H; exact H
           clear H
           have H := H1
           clear H1
           by_cases c28 : (t610 != t614) = true
           ·as_aux_lemma =>
              rw [if_pos c28] at H
              exact absurd (hrt.out ▸ H) (laws_FnIdealsAndAntichains.j0_no _ _ _ _ _ _ _)
           ·as_aux_lemma =>
              rw [if_neg c28] at H
              have c28b0 : (t610 != t614) = false := by simpa using c28
              (try (have c28b1 : decide (t610 = t614) = true := by simpa using c28))
              (try (have c28b2 : (t610 == t614) = true := by simpa using c28))
              clear c28
              replace H := Option.bind_eq_some_iff.mp H
              obtain ⟨t618, A310, H⟩ := H
              replace H : (if t618 = true then (if (t610 != t602) = true then (laws_FnIdealsAndAntichains.j0 k l1 t599 t602 t607 t615 true t595) else (if (t616 != t602) = true then (laws_FnIdealsAndAntichains.j0 k l1 t599 t602 t607 t615 true t595) else ((impl_IsPoset.f k t595).bind fun t619 => (if (t602 != t619) = true then (laws_FnIdealsAndAntichains.j0 k l1 t599 t602 t607 t615 true t595) else ((spec_IsPoset.f k t595).bind fun t620 => (laws_FnIdealsAndAntichains.j0 k l1 t599 t602 t607 t615 (t602 != t620) t595)))))) else (laws_FnIdealsAndAntichains.j0 k l1 t599 t602 t607 t615 true t595)) = some r := H
              have A31 := am A310
              clear A310
              by_cases c32 : t618 = true
              ·as_aux_lemma =>
                 subst c32
                 have H1 : (if (t610 != t602) = true then (laws_FnIdealsAndAntichains.j0 k l1 t599 t602 t607 t615 true t595) else (if (t616 != t602) = true then (laws_FnIdealsAndAntichains.j0 k l1 t599 t602 t607 t615 true t595) else ((impl_IsPoset.f k t595).bind fun t619 => (if (t602 != t619) = true then (laws_FnIdealsAndAntichains.j0 k l1 t599 t602 t607 t615 true t595) else ((spec_IsPoset.f k t595).bind fun t620 => (laws_FnIdealsAndAntichains.j0 k l1 t599 t602 t607 t615 (t602 != t620) t595)))))) = some r := by rw [if_pos rfl] at H; exact H
                 clear H
                 have H := H1
                 clear H1
                 by_cases c33 : (t610 != t602) = true
                 ·as_aux_lemma =>
                    rw [if_pos c33] at H
                    exact absurd (hrt.out ▸ H) (laws_FnIdealsAndAntichains.j0_no _ _ _ _ _ _ _)
                 ·as_aux_lemma =>
                    rw [if_neg c33] at H
                    have c33b0 : (t610 != t602) = false := by simpa using c33
                    (try (have c33b1 : decide (t610 = t602) = true := by simpa using c33))
                    (try (have c33b2 : (t610 == t602) = true := by simpa using c33))
                    clear c33
                    by_cases c38 : (t616 != t602) = true
                    ·as_aux_lemma =>
                       rw [if_pos c38] at H
                       exact absurd (hrt.out ▸ H) (laws_FnIdealsAndAntichains.j0_no _ _ _ _ _ _ _)
                    ·as_aux_lemma =>
                       rw [if_neg c38] at H
                       have c38b0 : (t616 != t602) = false := by simpa using c38
                       (try (have c38b1 : decide (t616 = t602) = true := by simpa using c38))
                       (try (have c38b2 : (t616 == t602) = true := by simpa using c38))
                       clear c38
                       replace H := Option.bind_eq_some_iff.mp H
                       obtain ⟨t619, A430, H⟩ := H
                       replace H : (if (t602 != t619) = true then (laws_FnIdealsAndAntichains.j0 k l1 t599 t602 t607 t615 true t595) else ((spec_IsPoset.f k t595).bind fun t620 => (laws_FnIdealsAndAntichains.j0 k l1 t599 t602 t607 t615 (t602 != t620) t595))) = some r := H
                       have A43 := am A430
                       clear A430
                       by_cases c44 : (t602 != t619) = true
                       ·as_aux_lemma =>
                          rw [if_pos c44] at H
                          exact absurd (hrt.out ▸ H) (laws_FnIdealsAndAntichains.j0_no _ _ _ _ _ _ _)
                       ·as_aux_lemma =>
                          rw [if_neg c44] at H
                          have c44b0 : (t602 != t619) = false := by simpa using c44
                          (try (have c44b1 : decide (t602 = t619) = true := by simpa using c44))
                          (try (have c44b2 : (t602 == t619) = true := by simpa using c44))
                          clear c44
                          replace H := Option.bind_eq_some_iff.mp H
                          obtain ⟨t620, A510, H⟩ := H
                          replace H : (laws_FnIdealsAndAntichains.j0 k l1 t599 t602 t607 t615 (t602 != t620) t595) = some r := H
                          have A51 := am A510
                          clear A510
                          have H' := am H
                          clear H
                          obtain ⟨Ao52, co52, eo52⟩ := Kd.R_slice HO601.out
                          subst eo52
                          obtain ⟨Ao53, co53, eo53⟩ := Kd.R_slice HO605.out
                          subst eo53
                          go_wp2_with (first | (go_at_call 24; (with_reducible refine (laws_nSame.calls k _ _ t599 _ _ t603 true _ ?side1 ?side2 ?side3 ?side4 A26.out).mono ?_); (case side1 => exact qC (Kd.R_reads' HO601.out).2.2); (case side2 => exact (Kd.R_reads' HO601.out).2.1); (case side3 => exact qC (Kd.R_reads' HO605.out).2.2); (case side4 => exact (Kd.R_reads' HO605.out).2.1); rintro e w' ⟨rfl, ⟨nd, rfl⟩⟩; (try first | exact ⟨rfl, _, World.drewN_drewN _ _ _⟩ | exact ⟨rfl, _, Eq.trans (World.drewN_drewN _ _ _) (congrArg (World.drewN _) (Nat.add_assoc _ _ _))⟩); obtain ⟨Ao54, co54, eo54⟩ := Kd.R_slice HO609.out; subst eo54; obtain ⟨Ao55, co55, eo55⟩ := Kd.R_slice HO613.out; subst eo55) | (go_at_call 24; (with_reducible refine (laws_nSame.calls k _ _ t607 _ _ t611 true _ ?side1 ?side2 ?side3 ?side4 A31.out).mono ?_); (case side1 => exact qC (Kd.R_reads' HO609.out).2.2); (case side2 => exact (Kd.R_reads' HO609.out).2.1); (case side3 => exact qC (Kd.R_reads' HO613.out).2.2); (case side4 => exact (Kd.R_reads' HO613.out).2.1); rintro e w' ⟨rfl, ⟨nd, rfl⟩⟩; (try first | exact ⟨rfl, _, World.drewN_drewN _ _ _⟩ | exact ⟨rfl, _, Eq.trans (World.drewN_drewN _ _ _) (congrArg (World.drewN _) (Nat.add_assoc _ _ _))⟩); have hcz56_0 := qz w24 BK598.out; have hfz56_0 := blk_frozen BK598.out 0) | (go_at_call 30; (with_reducible refine (impl_IsPoset.calls k _ _ t595 t619 _ ?side1 ?side2 A43.out).mono ?_); (case side1 => exact qC (Kd.R_reads' HO597.out).2.2); (case side2 => exact (Kd.R_reads' HO597.out).2.1); rintro e w57 ⟨rfl, hb⟩; replace HO597 := am (Kd.R_below (qR HO597.out) hb); replace HO601 := am (Kd.R_below (qR HO601.out) hb); replace HO605 := am (Kd.R_below (qR HO605.out) hb); replace HO609 := am (Kd.R_below (qR HO609.out) hb); replace HO613 := am (Kd.R_below (qR HO613.out) hb); replace BK598 := am (blk_below (g := gb598) (o := .cells #[.slice Ao14 t595.length co14] 28 (0, 0)) (qb BK598.out) hb); replace HB := am (below_step qB hb); (try clear hb); (try clear hb2); (try clear hk); (try clear hi); have hcz58_0 := qz w57 BK598.out; have hfz58_0 := blk_frozen BK598.out 0) | (go_at_call 31; (with_reducible refine (spec_IsPoset.calls k _ _ t595 t620 _ ?side1 ?side2 A51.out).mono ?_); (case side1 => exact qC (Kd.R_reads' HO597.out).2.2); (case side2 => exact (Kd.R_reads' HO597.out).2.1); rintro e w59 ⟨rfl, hb⟩; replace HO597 := am (Kd.R_below (qR HO597.out) hb); replace HO601 := am (Kd.R_below (qR HO601.out) hb); replace HO605 := am (Kd.R_below (qR HO605.out) hb); replace HO609 := am (Kd.R_below (qR HO609.out) hb); replace HO613 := am (Kd.R_below (qR HO613.out) hb); replace BK598 := am (blk_below (g := gb598) (o := .cells #[.slice Ao14 t595.length co14] 28 (0, 0)) (qb BK598.out) hb); replace HB := am (below_step qB hb); (try clear hb); (try clear hb2); (try clear hk); (try clear hi)))
                          repeat (go_quiet (first | (go_at_call 24; (with_reducible refine (laws_nSame.calls k _ _ t599 _ _ t603 true _ ?side1 ?side2 ?side3 ?side4 A26.out).mono ?_); (case side1 => exact qC (Kd.R_reads' HO601.out).2.2); (case side2 => exact (Kd.R_reads' HO601.out).2.1); (case side3 => exact qC (Kd.R_reads' HO605.out).2.2); (case side4 => exact (Kd.R_reads' HO605.out).2.1); rintro e w' ⟨rfl, ⟨nd, rfl⟩⟩; (try first | exact ⟨rfl, _, World.drewN_drewN _ _ _⟩ | exact ⟨rfl, _, Eq.trans (World.drewN_drewN _ _ _) (congrArg (World.drewN _) (Nat.add_assoc _ _ _))⟩); obtain ⟨Ao54, co54, eo54⟩ := Kd.R_slice HO609.out; subst eo54; obtain ⟨Ao55, co55, eo55⟩ := Kd.R_slice HO613.out; subst eo55) | (go_at_call 24; (with_reducible refine (laws_nSame.calls k _ _ t607 _ _ t611 true _ ?side1 ?side2 ?side3 ?side4 A31.out).mono ?_); (case side1 => exact qC (Kd.R_reads' HO609.out).2.2); (case side2 => exact (Kd.R_reads' HO609.out).2.1); (case side3 => exact qC (Kd.R_reads' HO613.out).2.2); (case side4 => exact (Kd.R_reads' HO613.out).2.1); rintro e w' ⟨rfl, ⟨nd, rfl⟩⟩; (try first | exact ⟨rfl, _, World.drewN_drewN _ _ _⟩ | exact ⟨rfl, _, Eq.trans (World.drewN_drewN _ _ _) (congrArg (World.drewN _) (Nat.add_assoc _ _ _))⟩); have hcz56_0 := qz w24 BK598.out; have hfz56_0 := blk_frozen BK598.out 0) | (go_at_call 30; (with_reducible refine (impl_IsPoset.calls k _ _ t595 t619 _ ?side1 ?side2 A43.out).mono ?_); (case side1 => exact qC (Kd.R_reads' HO597.out).2.2); (case side2 => exact (Kd.R_reads' HO597.out).2.1); rintro e w57 ⟨rfl, hb⟩; replace HO597 := am (Kd.R_below (qR HO597.out) hb); replace HO601 := am (Kd.R_below (qR HO601.out) hb); replace HO605 := am (Kd.R_below (qR HO605.out) hb); replace HO609 := am (Kd.R_below (qR HO609.out) hb); replace HO613 := am (Kd.R_below (qR HO613.out) hb); replace BK598 := am (blk_below (g := gb598) (o := .cells #[.slice Ao14 t595.length co14] 28 (0, 0)) (qb BK598.out) hb); replace HB := am (below_step qB hb); (try clear hb); (try clear hb2); (try clear hk); (try clear hi); have hcz58_0 := qz w57 BK598.out; have hfz58_0 := blk_frozen BK598.out 0) | (go_at_call 31; (with_reducible refine (spec_IsPoset.calls k _ _ t595 t620 _ ?side1 ?side2 A51.out).mono ?_); (case side1 => exact qC (Kd.R_reads' HO597.out).2.2); (case side2 => exact (Kd.R_reads' HO597.out).2.1); rintro e w59 ⟨rfl, hb⟩; replace HO597 := am (Kd.R_below (qR HO597.out) hb); replace HO601 := am (Kd.R_below (qR HO601.out) hb); replace HO605 := am (Kd.R_below (qR HO605.out) hb); replace HO609 := am (Kd.R_below (qR HO609.out) hb); replace HO613 := am (Kd.R_below (qR HO613.out) hb); replace BK598 := am (blk_below (g := gb598) (o := .cells #[.slice Ao14 t595.length co14] 28 (0, 0)) (qb BK598.out) hb); replace HB := am (below_step qB hb); (try clear hb); (try clear hb2); (try clear hk); (try clear hi))); try go_wp2_with (first | (go_at_call 24; (with_reducible refine (laws_nSame.calls k _ _ t599 _ _ t603 true _ ?side1 ?side2 ?side3 ?side4 A26.out).mono ?_); (case side1 => exact qC (Kd.R_reads' HO601.out).2.2); (case side2 => exact (Kd.R_reads' HO601.out).2.1); (case side3 => exact qC (Kd.R_reads' HO605.out).2.2); (case side4 => exact (Kd.R_reads' HO605.out).2.1); rintro e w' ⟨rfl, ⟨nd, rfl⟩⟩; (try first | exact ⟨rfl, _, World.drewN_drewN _ _ _⟩ | exact ⟨rfl, _, Eq.trans (World.drewN_drewN _ _ _) (congrArg (World.drewN _) (Nat.add_assoc _ _ _))⟩); obtain ⟨Ao54, co54, eo54⟩ := Kd.R_slice HO609.out; subst eo54; obtain ⟨Ao55, co55, eo55⟩ := Kd.R_slice HO613.out; subst eo55) | (go_at_call 24; (with_reducible refine (laws_nSame.calls k _ _ t607 _ _ t611 true _ ?side1 ?side2 ?side3 ?side4 A31.out).mono ?_); (case side1 => exact qC (Kd.R_reads' HO609.out).2.2); (case side2 => exact (Kd.R_reads' HO609.out).2.1); (case side3 => exact qC (Kd.R_reads' HO613.out).2.2); (case side4 => exact (Kd.R_reads' HO613.out).2.1); rintro e w' ⟨rfl, ⟨nd, rfl⟩⟩; (try first | exact ⟨rfl, _, World.drewN_drewN _ _ _⟩ | exact ⟨rfl, _, Eq.trans (World.drewN_drewN _ _ _) (congrArg (World.drewN _) (Nat.add_assoc _ _ _))⟩); have hcz56_0 := qz w24 BK598.out; have hfz56_0 := blk_frozen BK598.out 0) | (go_at_call 30; (with_reducible refine (impl_IsPoset.calls k _ _ t595 t619 _ ?side1 ?side2 A43.out).mono ?_); (case side1 => exact qC (Kd.R_reads' HO597.out).2.2); (case side2 => exact (Kd.R_reads' HO597.out).2.1); rintro e w57 ⟨rfl, hb⟩; replace HO597 := am (Kd.R_below (qR HO597.out) hb); replace HO601 := am (Kd.R_below (qR HO601.out) hb); replace HO605 := am (Kd.R_below (qR HO605.out) hb); replace HO609 := am (Kd.R_below (qR HO609.out) hb); replace HO613 := am (Kd.R_below (qR HO613.out) hb); replace BK598 := am (blk_below (g := gb598) (o := .cells #[.slice Ao14 t595.length co14] 28 (0, 0)) (qb BK598.out) hb); replace HB := am (below_step qB hb); (try clear hb); (try clear hb2); (try clear hk); (try clear hi); have hcz58_0 := qz w57 BK598.out; have hfz58_0 := blk_frozen BK598.out 0) | (go_at_call 31; (with_reducible refine (spec_IsPoset.calls k _ _ t595 t620 _ ?side1 ?side2 A51.out).mono ?_); (case side1 => exact qC (Kd.R_reads' HO597.out).2.2); (case side2 => exact (Kd.R_reads' HO597.out).2.1); rintro e w59 ⟨rfl, hb⟩; replace HO597 := am (Kd.R_below (qR HO597.out) hb); replace HO601 := am (Kd.R_below (qR HO601.out) hb); replace HO605 := am (Kd.R_below (qR HO605.out) hb); replace HO609 := am (Kd.R_below (qR HO609.out) hb); replace HO613 := am (Kd.R_below (qR HO613.out) hb); replace BK598 := am (blk_below (g := gb598) (o := .cells #[.slice Ao14 t595.length co14] 28 (0, 0)) (qb BK598.out) hb); replace HB := am (below_step qB hb); (try clear hb); (try clear hb2); (try clear hk); (try clear hi))))
                          go_meet
                          case rel => exact ⟨_, ((t602 != t620)), qe, H', ⟨by first | omega | exact Nat.le_refl _⟩, ⟨qR (Kd.R_mono HO601.out (fun _ hk => ⟨hk.1.2, hk.1.1.1.2⟩))⟩, ⟨qR (Kd.R_mono HO609.out (fun _ hk => ⟨hk.1.1.2, hk.1.1.1.2⟩))⟩, ⟨qR (Kd.R_mono HO597.out (fun _ hk => ⟨hk.1.1.1.2, hk.1.2⟩))⟩, ⟨qb BK598.out⟩, ⟨qB⟩⟩
              ·as_aux_lemma =>
                 replace c32 := Bool.eq_false_iff.mpr c32
                 subst c32
                 have H1 : (laws_FnIdealsAndAntichains.j0 k l1 t599 t602 t607 t615 true t595) = some r := by rw [if_neg (show ¬ (false = true) by decide)] at H; exact H
                 exact absurd (hrt.out ▸ H1) (laws_FnIdealsAndAntichains.j0_no _ _ _ _ _ _ _)
        ·as_aux_lemma =>
           replace c27 := Bool.eq_false_iff.mpr c27
           subst c27
           have H1 : (laws_FnIdealsAndAntichains.j0 k l1 t599 t602 t607 t615 true t595) = some r := by rw [if_neg (show ¬ (false = true) by decide)] at H; exact H
           exact absurd (hrt.out ▸ H1) (laws_FnIdealsAndAntichains.j0_no _ _ _ _ _ _ _)
    case rest =>
     clear HC11
     try clear c1
     try clear c2
     try clear p2
     try clear c3
     try clear c4
     try clear c25
     try clear c25b0
     try clear c25b1
     try clear c25b2
     try clear c27
     try clear c28
     try clear c28b0
     try clear c28b1
     try clear c28b2
     try clear c32
     try clear c33
     try clear c33b0
     try clear c33b1
     try clear c33b2
     try clear c38
     try clear c38b0
     try clear c38b1
     try clear c38b2
     try clear c44
     try clear c44b0
     try clear c44b1
     try clear c44b2
     try clear hcz15_0
     try clear hcz17_0
     try clear hcz19_0
     try clear hcz21_0
     try clear hcz23_0
     try clear hcz49_0
     try clear hcz56_0
     try clear hcz58_0
     try clear hfz15_0
     try clear hfz17_0
     try clear hfz19_0
     try clear hfz21_0
     try clear hfz23_0
     try clear hfz49_0
     try clear hfz56_0
     try clear hfz58_0
     obtain ⟨kq, x122_10, rfl, HA, HJ10, HO_6, HO_10, HO_599000, BK598, HB⟩ := hcut
     cases kq with
     | zero => exact absurd HA.out (by simp [laws_FnIdealsAndAntichains.j0])
     | succ kj10 =>
      have H := HA.out
      clear HA
      simp only [laws_FnIdealsAndAntichains.j0] at H
      by_cases c66 : x122_10 = true
      ·subst c66
       have H1 : (some false) = some r := by rw [if_pos rfl] at H; exact H
       exact absurd (Option.some.inj H1) (by rw [hrt.out]; decide)
      ·as_aux_lemma =>
         replace c66 := Bool.eq_false_iff.mpr c66
         subst c66
         have H1 : (if t602 = true then (if (t607.length : Int) = (t599.length : Int) then (if t615 = (t599.length : Int) then (if 0 < (t599.length : Int) then (if (rd t599 0) = 0 then (if 0 ≤ (wrap64 ((t599.length : Int) - 1)) then (if (wrap64 ((t599.length : Int) - 1)) < (t599.length : Int) then (laws_FnIdealsAndAntichains.j1 kj10 l1 t599 t607 ((rd t599 (wrap64 ((t599.length : Int) - 1))) != (wrap64 ((shl .i64 1 (t595.length : Int)) - 1))) t595) else (none)) else (none)) else (laws_FnIdealsAndAntichains.j1 kj10 l1 t599 t607 true t595)) else (none)) else (laws_FnIdealsAndAntichains.j1 kj10 l1 t599 t607 true t595)) else (laws_FnIdealsAndAntichains.j1 kj10 l1 t599 t607 true t595)) else (laws_FnIdealsAndAntichains.j3 kj10 l1)) = some r := by rw [if_neg (show ¬ (false = true) by decide)] at H; exact H
         clear H
         have H := H1
         clear H1
         have HC67 := am H
         clear H
         go_upto_if 123 with (fail)
         repeat (go_quiet (fail); go_upto_if 123 with (fail))
         go_cut [] (fun wc => ∃ (kq : Nat), Aside0 (laws_FnIdealsAndAntichains.j3 kq l1 = some r) ∧ Aside0 (kq ≤ kj10) ∧ Aside0 (Kd.R (Kd.int .i64) 3 wc w.heap.size (fun _ => True) (.slice Ao14 t595.length co14) t595) ∧ Aside0 (wc.heap[gb598]? = some (.cells #[(.slice Ao14 t595.length co14)] 28 (0, 0))) ∧ Aside0 (Below w.heap.size w wc))
         case first =>
          have H := HC67.out
          clear HC67
          by_cases c68 : t602 = true
          ·as_aux_lemma =>
             subst c68
             have H1 : (if (t607.length : Int) = (t599.length : Int) then (if t615 = (t599.length : Int) then (if 0 < (t599.length : Int) then (if (rd t599 0) = 0 then (if 0 ≤ (wrap64 ((t599.length : Int) - 1)) then (if (wrap64 ((t599.length : Int) - 1)) < (t599.length : Int) then (laws_FnIdealsAndAntichains.j1 kj10 l1 t599 t607 ((rd t599 (wrap64 ((t599.length : Int) - 1))) != (wrap64 ((shl .i64 1 (t595.length : Int)) - 1))) t595) else (none)) else (none)) else (laws_FnIdealsAndAntichains.j1 kj10 l1 t599 t607 true t595)) else (none)) else (laws_FnIdealsAndAntichains.j1 kj10 l1 t599 t607 true t595)) else (laws_FnIdealsAndAntichains.j1 kj10 l1 t599 t607 true t595)) = some r := by rw [if_pos rfl] at H; exact H
             clear H
             have H := H1
             clear H1
             have HC69 := am H
             clear H
             go_upto_region 12 with (fail)
             repeat (go_quiet (fail); go_upto_region 12 with (fail))
             go_cut [154] (fun v154 wc => ∃ (kq : Nat) (x154_68 : Bool), v154 = .bool x154_68 ∧ Aside0 (laws_FnIdealsAndAntichains.j1 kq l1 t599 t607 x154_68 t595 = some r) ∧ Aside0 (kq ≤ kj10) ∧ Aside0 (Kd.R (Kd.int .i64) 3 wc w.heap.size (fun k_ => some k_ ≠ (v608 : Value).ownBlock ∧ some k_ ≠ ((.slice Ao14 t595.length co14) : Value).ownBlock) v600 t599) ∧ Aside0 (Kd.R (Kd.int .i64) 3 wc w.heap.size (fun k_ => some k_ ≠ (v600 : Value).ownBlock ∧ some k_ ≠ ((.slice Ao14 t595.length co14) : Value).ownBlock) v608 t607) ∧ Aside0 (Kd.R (Kd.int .i64) 3 wc w.heap.size (fun k_ => some k_ ≠ (v600 : Value).ownBlock ∧ some k_ ≠ (v608 : Value).ownBlock) (.slice Ao14 t595.length co14) t595) ∧ Aside0 (wc.heap[gb598]? = some (.cells #[(.slice Ao14 t595.length co14)] 28 (0, 0))) ∧ Aside0 (Below w.heap.size w wc))
             case first =>
              have H := HC69.out
              clear HC69
              by_cases c70 : (t607.length : Int) = (t599.length : Int)
              ·as_aux_lemma =>
                 rw [if_pos c70] at H
                 have c70b0 : ((t607.length : Int) == (t599.length : Int)) = true := beq_iff_eq.mpr c70
                 have c70b1 : ((t607.length : Int) != (t599.length : Int)) = false := bne_eq_false_iff_eq.mpr c70
                 have c70b2 : (t607.length == t599.length) = true := by first | simpa using c70 | (simp at c70 ⊢; omega)
                 clear c70
                 (first | rw [c70b0] | (simp only [i64_w, i32_w]; rw [c70b0]) | skip)
                 by_cases c71 : t615 = (t599.length : Int)
                 ·as_aux_lemma =>
                    rw [if_pos c71] at H
                    have c71b0 : (t615 == (t599.length : Int)) = true := beq_iff_eq.mpr c71
                    have c71b1 : (t615 != (t599.length : Int)) = false := bne_eq_false_iff_eq.mpr c71
                    clear c71
                    by_cases c72 : 0 < (t599.length : Int)
                    ·as_aux_lemma =>
                       rw [if_pos c72] at H
                       have c72b0 := decide_eq_true c72
                       have c72b1 : decide (0 < t599.length) = true := decide_eq_true (by omega)
                       clear c72
                       by_cases c73 : (rd t599 0) = 0
                       ·as_aux_lemma =>
                          rw [if_pos c73] at H
                          have c73b0 : ((rd t599 0) == 0) = true := beq_iff_eq.mpr c73
                          have c73b1 : ((rd t599 0) != 0) = false := bne_eq_false_iff_eq.mpr c73
                          clear c73
                          obtain ⟨ji74, hji74⟩ : ∃ j_ : Int, (wrap64 ((t599.length : Int) - 1)) = j_ := ⟨_, rfl⟩
                          replace H : (if 0 ≤ (ji74) then (if (ji74) < (t599.length : Int) then (laws_FnIdealsAndAntichains.j1 kj10 l1 t599 t607 ((rd t599 (ji74)) != (wrap64 ((shl .i64 1 (t595.length : Int)) - 1))) t595) else (none)) else (none)) = some r := by first | (rw [hji74] at H; exact H) | (simp only [hji74] at H ⊢; exact H)
                          have hji74w : (IntKind.i64.wrap ((t599.length : Int) - 1)) = ji74 := (i64_w _).trans hji74
                          by_cases c75 : 0 ≤ (ji74)
                          ·as_aux_lemma =>
                             rw [if_pos c75] at H
                             have c75b0 := decide_eq_true c75
                             clear c75
                             by_cases c76 : (ji74) < (t599.length : Int)
                             ·as_aux_lemma =>
                                rw [if_pos c76] at H
                                have c76b0 := decide_eq_true c76
                                clear c76
                                obtain ⟨ji77, hji77⟩ : ∃ j_ : Int, (shl .i64 1 (t595.length : Int)) = j_ := ⟨_, rfl⟩
                                replace H : (laws_FnIdealsAndAntichains.j1 kj10 l1 t599 t607 ((rd t599 (ji74)) != (wrap64 ((ji77) - 1))) t595) = some r := by first | (rw [hji77] at H; exact H) | (simp only [hji77] at H ⊢; exact H)
                                have hji77_ : (IntKind.i64.wrap (1 * 2 ^ min (t595.length : Int).toNat 64)) = ji77 := hji77
                                have hji77z : (t595.length : Int) ≤ 64 → (IntKind.i64.wrap (1 * 2 ^ (t595.length : Int).toNat)) = ji77 := shl_small hji77
                                have hji77p : (IntKind.i64.wrap (1 * 2 ^ min t595.length 64)) = ji77 := hji77_
                                have hji77q : (t595.length : Int) ≤ 64 → (IntKind.i64.wrap (1 * 2 ^ t595.length)) = ji77 := hji77z
                                have hji77r : (IntKind.i64.wrap (2 ^ min t595.length 64)) = ji77 := by have h_ := hji77p; rw [Int.one_mul] at h_; exact h_
                                have hji77s : (t595.length : Int) ≤ 64 → (IntKind.i64.wrap (2 ^ t595.length)) = ji77 := fun hle_ => by have h_ := hji77q hle_; rw [Int.one_mul] at h_; exact h_
                                have hji77u : (IntKind.i64.wrap (2 ^ min (t595.length : Int).toNat 64)) = ji77 := by have h_ := hji77_; rw [Int.one_mul] at h_; exact h_
                                have hji77v : (t595.length : Int) ≤ 64 → (IntKind.i64.wrap (2 ^ (t595.length : Int).toNat)) = ji77 := fun hle_ => by have h_ := hji77z hle_; rw [Int.one_mul] at h_; exact h_
                                have hji77y : (wrap64 (1 * 2 ^ min (t595.length : Int).toNat 64)) = ji77 := (i64_w _).symm.trans hji77_
                                have hji77x : (t595.length : Int) ≤ 64 → (wrap64 (1 * 2 ^ (t595.length : Int).toNat)) = ji77 := fun h_ => (i64_w _).symm.trans (hji77z h_)
                                have H' := am H
                                clear H
                                obtain ⟨Ao78, co78, eo78⟩ := Kd.R_slice HO_10.out
                                subst eo78
                                obtain ⟨Ao79, co79, eo79⟩ := Kd.R_slice HO_6.out
                                subst eo79
                                have p621 : 0 ≤ (0 : Int) := (by omega)
                                have q621 : 0 < (t599.length : Int) := qd
                                obtain ⟨ad621, e621, hx621_0⟩ := Kd.at_int (Kd.R_reads' HO_6.out).2.2 0 p621 q621
                                cases e621
                                have qi621 : (0 < t599.length) = True := eq_true (by omega)
                                (try rw [show ((0 : Int)).toNat = 0 from rfl] at hx621_0)
                                (try rw [Addr.add_zero'] at hx621_0)
                                replace p621 := eq_true p621
                                replace q621 := eq_true q621
                                have p622 : 0 ≤ ((ji74) : Int) := qd
                                have q622 : (ji74) < (t599.length : Int) := qd
                                obtain ⟨ad622, e622, hx622_0⟩ := Kd.at_int (Kd.R_reads' HO_6.out).2.2 (ji74) p622 q622
                                obtain rfl : ad621 = ad622 := (by injection e622)
                                replace p622 := eq_true p622
                                replace q622 := eq_true q622
                                have hcz80_0 := qz wc BK598.out
                                have hfz80_0 := blk_frozen BK598.out 0
                                go_wp2
                                repeat (go_quiet (fail); try go_wp2)
                                go_meet
                                case rel => exact ⟨_, (((rd t599 (ji74)) != (wrap64 ((ji77) - 1)))), (by first | rfl | (simp; done) | (simp only [← hji74, ← hji77] <;> (first | rfl | simp)) | (simp [*]; done)), H', ⟨by have := HJ10.out; first | omega | exact Nat.le_refl _⟩, ⟨qR HO_6.out⟩, ⟨qR HO_10.out⟩, ⟨qR HO_599000.out⟩, ⟨qb BK598.out⟩, ⟨qB⟩⟩
                             ·rw [if_neg c76] at H
                              exact absurd H (by simp)
                          ·rw [if_neg c75] at H
                           exact absurd H (by simp)
                       ·as_aux_lemma =>
                          rw [if_neg c73] at H
                          exact absurd (hrt.out ▸ H) (laws_FnIdealsAndAntichains.j1_no _ _ _ _ _)
                    ·rw [if_neg c72] at H
                     exact absurd H (by simp)
                 ·as_aux_lemma =>
                    rw [if_neg c71] at H
                    exact absurd (hrt.out ▸ H) (laws_FnIdealsAndAntichains.j1_no _ _ _ _ _)
              ·as_aux_lemma =>
                 rw [if_neg c70] at H
                 exact absurd (hrt.out ▸ H) (laws_FnIdealsAndAntichains.j1_no _ _ _ _ _)
             case rest =>
              clear HC69
              try clear c1
              try clear c2
              try clear p2
              try clear c3
              try clear c4
              try clear c6
              try clear p6
              try clear q6
              try clear hx6
              try clear qi6
              try clear c7
              try clear c25
              try clear c25b0
              try clear c25b1
              try clear c25b2
              try clear c27
              try clear c28
              try clear c28b0
              try clear c28b1
              try clear c28b2
              try clear c32
              try clear c33
              try clear c33b0
              try clear c33b1
              try clear c33b2
              try clear c38
              try clear c38b0
              try clear c38b1
              try clear c38b2
              try clear c44
              try clear c44b0
              try clear c44b1
              try clear c44b2
              try clear p62
              try clear q62
              try clear hx62
              try clear qi62
              try clear p64
              try clear c66
              try clear c68
              try clear c70
              try clear c70b0
              try clear c70b1
              try clear c70b2
              try clear c71
              try clear c71b0
              try clear c71b1
              try clear c72
              try clear c72b0
              try clear c72b1
              try clear c73
              try clear c73b0
              try clear c73b1
              try clear c75
              try clear c75b0
              try clear c76
              try clear c76b0
              try clear hcz15_0
              try clear hcz17_0
              try clear hcz19_0
              try clear hcz21_0
              try clear hcz23_0
              try clear hcz49_0
              try clear hcz56_0
              try clear hcz58_0
              try clear hcz80_0
              try clear hfz15_0
              try clear hfz17_0
              try clear hfz19_0
              try clear hfz21_0
              try clear hfz23_0
              try clear hfz49_0
              try clear hfz56_0
              try clear hfz58_0
              try clear hfz80_0
              try clear hx621_0
              try clear hx622_0
              try clear p2
              try clear p621
              try clear p622
              try clear q621
              try clear q622
              obtain ⟨kq, x154_68, rfl, HA, HJ68, HO_6, HO_10, HO_599000, BK598, HB⟩ := hcut
              cases kq with
              | zero => exact absurd HA.out (by simp [laws_FnIdealsAndAntichains.j1])
              | succ kj68 =>
               have H := HA.out
               clear HA
               simp only [laws_FnIdealsAndAntichains.j1] at H
               by_cases c87 : x154_68 = true
               ·subst c87
                have H1 : (some false) = some r := by rw [if_pos rfl] at H; exact H
                exact absurd (Option.some.inj H1) (by rw [hrt.out]; decide)
               ·as_aux_lemma =>
                  replace c87 := Bool.eq_false_iff.mpr c87
                  subst c87
                  have H1 : (laws_FnIdealsAndAntichains.l0 kj68 l1 t599 t607 t599 (t599.length : Int) 0 t595) = some r := by rw [if_neg (show ¬ (false = true) by decide)] at H; exact H
                  clear H
                  have H := H1
                  clear H1
                  have H' := am H
                  clear H
                  obtain ⟨Ao88, co88, eo88⟩ := Kd.R_slice HO_6.out
                  subst eo88
                  go_wp2
                  repeat (go_quiet (fail); try go_wp2)
                  go_loopg [157] kj68 (fun kq v157 w' => ∃ (x157_3 : Int), v157 = .int .i64 x157_3 ∧ Aside0 (laws_FnIdealsAndAntichains.l0 kq l1 t599 t607 t599 (t599.length : Int) x157_3 t595 = some r) ∧ Aside0 (kq ≤ kj68) ∧ Aside0 (Kd.R (Kd.int .i64) 3 w' w.heap.size (fun k_ => some k_ ≠ (v608 : Value).ownBlock ∧ some k_ ≠ ((.slice Ao14 t595.length co14) : Value).ownBlock) (.slice Ao88 t599.length co88) t599) ∧ Aside0 (Kd.R (Kd.int .i64) 3 w' w.heap.size (fun k_ => some k_ ≠ ((.slice Ao88 t599.length co88) : Value).ownBlock ∧ some k_ ≠ ((.slice Ao88 t599.length co88) : Value).ownBlock ∧ some k_ ≠ ((.slice Ao14 t595.length co14) : Value).ownBlock) v608 t607) ∧ Aside0 (Kd.R (Kd.int .i64) 3 w' w.heap.size (fun k_ => some k_ ≠ (v608 : Value).ownBlock ∧ some k_ ≠ ((.slice Ao14 t595.length co14) : Value).ownBlock) (.slice Ao88 t599.length co88) t599) ∧ Aside0 (Kd.R (Kd.int .i64) 3 w' w.heap.size (fun k_ => some k_ ≠ ((.slice Ao88 t599.length co88) : Value).ownBlock ∧ some k_ ≠ (v608 : Value).ownBlock ∧ some k_ ≠ ((.slice Ao88 t599.length co88) : Value).ownBlock) (.slice Ao14 t595.length co14) t595) ∧ Aside0 (w'.heap[gb598]? = some (.cells #[(.slice Ao14 t595.length co14)] 28 (0, 0))) ∧ Aside0 (Below w.heap.size w w'))
                  case atStart => exact ⟨(0), qe, H', ⟨Nat.le_refl _⟩, ⟨qR HO_6.out⟩, ⟨qR (Kd.R_mono HO_10.out (fun _ hk => ⟨hk.1, ⟨hk.1, hk.2⟩⟩))⟩, ⟨qR HO_6.out⟩, ⟨qR (Kd.R_mono HO_599000.out (fun _ hk => ⟨hk.1, ⟨hk.2, hk.1⟩⟩))⟩, ⟨qb BK598.out⟩, ⟨qB⟩⟩
                  case round =>
                   clear H'
                   try clear c1
                   try clear c2
                   try clear p2
                   try clear c3
                   try clear c4
                   try clear c6
                   try clear p6
                   try clear q6
                   try clear hx6
                   try clear qi6
                   try clear c7
                   try clear c8
                   try clear c25
                   try clear c25b0
                   try clear c25b1
                   try clear c25b2
                   try clear c27
                   try clear c28
                   try clear c28b0
                   try clear c28b1
                   try clear c28b2
                   try clear c32
                   try clear c33
                   try clear c33b0
                   try clear c33b1
                   try clear c33b2
                   try clear c38
                   try clear c38b0
                   try clear c38b1
                   try clear c38b2
                   try clear c44
                   try clear c44b0
                   try clear c44b1
                   try clear c44b2
                   try clear p62
                   try clear q62
                   try clear hx62
                   try clear qi62
                   try clear p64
                   try clear c66
                   try clear c68
                   try clear c70
                   try clear c70b0
                   try clear c70b1
                   try clear c70b2
                   try clear c71
                   try clear c71b0
                   try clear c71b1
                   try clear c72
                   try clear c72b0
                   try clear c72b1
                   try clear c73
                   try clear c73b0
                   try clear c73b1
                   try clear c75
                   try clear c75b0
                   try clear c76
                   try clear c76b0
                   try clear c87
                   try clear hcz15_0
                   try clear hcz17_0
                   try clear hcz19_0
                   try clear hcz21_0
                   try clear hcz23_0
                   try clear hcz49_0
                   try clear hcz56_0
                   try clear hcz58_0
                   try clear hcz80_0
                   try clear hfz15_0
                   try clear hfz17_0
                   try clear hfz19_0
                   try clear hfz21_0
                   try clear hfz23_0
                   try clear hfz49_0
                   try clear hfz56_0
                   try clear hfz58_0
                   try clear hfz80_0
                   try clear hx621_0
                   try clear hx622_0
                   try clear p2
                   try clear p6
                   try clear p62
                   try clear p621
                   try clear p622
                   try clear p64
                   try clear q6
                   try clear q62
                   try clear q621
                   try clear q622
                   obtain ⟨x157_3, rfl, HA, HK3, HO_6, HO_10, HO_155, HO_599000, BK598, HB⟩ := hrel
                   cases gk with
                   | zero => exact absurd HA.out (by simp [laws_FnIdealsAndAntichains.l0])
                   | succ k3 =>
                    have H := HA.out
                    clear HA
                    simp only [laws_FnIdealsAndAntichains.l0] at H
                    by_cases c89 : x157_3 < (t599.length : Int)
                    ·as_aux_lemma =>
                       rw [if_pos c89] at H
                       have c89b0 := decide_eq_true c89
                       clear c89
                       by_cases c90 : 0 ≤ x157_3
                       ·as_aux_lemma =>
                          rw [if_pos c90] at H
                          have c90b0 := decide_eq_true c90
                          clear c90
                          by_cases c91 : x157_3 < (t599.length : Int)
                          ·as_aux_lemma =>
                             rw [if_pos c91] at H
                             have c91b0 := decide_eq_true c91
                             clear c91
                             replace H := Option.bind_eq_some_iff.mp H
                             obtain ⟨⟨t624, t625⟩, A920, H⟩ := H
                             replace H : ((impl_IdealOf.f k3 t595 t624).bind fun bt626 => ((laws_numberOf.f k3 l1).bind fun t628 => (if (t599.length : Int) = 0 then (none) else (if 0 ≤ (Int.tmod (wrap64 ((wrap64 (7 * x157_3)) + t628)) (t599.length : Int)) then (if (Int.tmod (wrap64 ((wrap64 (7 * x157_3)) + t628)) (t599.length : Int)) < (t599.length : Int) then (if t625 = true then ((laws_nHas.f k3 t607 t624).bind fun t630 => (if t630 = true then (if bt626.2 = true then (if bt626.1 = (rd t599 x157_3) then ((laws_nHas.f k3 t599 (Go.bits .or .i64 (rd t599 x157_3) (rd t599 (Int.tmod (wrap64 ((wrap64 (7 * x157_3)) + t628)) (t599.length : Int))))).bind fun t631 => (if t631 = true then ((laws_nHas.f k3 t599 (Go.bits .and .i64 (rd t599 x157_3) (rd t599 (Int.tmod (wrap64 ((wrap64 (7 * x157_3)) + t628)) (t599.length : Int))))).bind fun t632 => (if t632 = true then (if x157_3 > 0 then (if 0 ≤ (wrap64 (x157_3 - 1)) then (if (wrap64 (x157_3 - 1)) < (t599.length : Int) then (if (rd t599 (wrap64 (x157_3 - 1))) ≥ (rd t599 x157_3) then (some false) else (laws_FnIdealsAndAntichains.l0 k3 l1 t599 t607 t599 (t599.length : Int) (wrap64 (x157_3 + 1)) t595)) else (none)) else (none)) else (laws_FnIdealsAndAntichains.l0 k3 l1 t599 t607 t599 (t599.length : Int) (wrap64 (x157_3 + 1)) t595)) else (some false))) else (some false))) else (some false)) else (some false)) else (some false))) else (some false)) else (none)) else (none))))) = some r := H
                             have A92 := am A920
                             clear A920
                             replace H := Option.bind_eq_some_iff.mp H
                             obtain ⟨⟨t626, t627⟩, A930, H⟩ := H
                             replace H : ((laws_numberOf.f k3 l1).bind fun t628 => (if (t599.length : Int) = 0 then (none) else (if 0 ≤ (Int.tmod (wrap64 ((wrap64 (7 * x157_3)) + t628)) (t599.length : Int)) then (if (Int.tmod (wrap64 ((wrap64 (7 * x157_3)) + t628)) (t599.length : Int)) < (t599.length : Int) then (if t625 = true then ((laws_nHas.f k3 t607 t624).bind fun t630 => (if t630 = true then (if t627 = true then (if t626 = (rd t599 x157_3) then ((laws_nHas.f k3 t599 (Go.bits .or .i64 (rd t599 x157_3) (rd t599 (Int.tmod (wrap64 ((wrap64 (7 * x157_3)) + t628)) (t599.length : Int))))).bind fun t631 => (if t631 = true then ((laws_nHas.f k3 t599 (Go.bits .and .i64 (rd t599 x157_3) (rd t599 (Int.tmod (wrap64 ((wrap64 (7 * x157_3)) + t628)) (t599.length : Int))))).bind fun t632 => (if t632 = true then (if x157_3 > 0 then (if 0 ≤ (wrap64 (x157_3 - 1)) then (if (wrap64 (x157_3 - 1)) < (t599.length : Int) then (if (rd t599 (wrap64 (x157_3 - 1))) ≥ (rd t599 x157_3) then (some false) else (laws_FnIdealsAndAntichains.l0 k3 l1 t599 t607 t599 (t599.length : Int) (wrap64 (x157_3 + 1)) t595)) else (none)) else (none)) else (laws_FnIdealsAndAntichains.l0 k3 l1 t599 t607 t599 (t599.length : Int) (wrap64 (x157_3 + 1)) t595)) else (some false))) else (some false))) else (some false)) else (some false)) else (some false))) else (some false)) else (none)) else (none)))) = some r := H
                             have A93 := am A930
                             clear A930
                             replace H := Option.bind_eq_some_iff.mp H
                             obtain ⟨t628, A940, H⟩ := H
                             replace H : (if (t599.length : Int) = 0 then (none) else (if 0 ≤ (Int.tmod (wrap64 ((wrap64 (7 * x157_3)) + t628)) (t599.length : Int)) then (if (Int.tmod (wrap64 ((wrap64 (7 * x157_3)) + t628)) (t599.length : Int)) < (t599.length : Int) then (if t625 = true then ((laws_nHas.f k3 t607 t624).bind fun t630 => (if t630 = true then (if t627 = true then (if t626 = (rd t599 x157_3) then ((laws_nHas.f k3 t599 (Go.bits .or .i64 (rd t599 x157_3) (rd t599 (Int.tmod (wrap64 ((wrap64 (7 * x157_3)) + t628)) (t599.length : Int))))).bind fun t631 => (if t631 = true then ((laws_nHas.f k3 t599 (Go.bits .and .i64 (rd t599 x157_3) (rd t599 (Int.tmod (wrap64 ((wrap64 (7 * x157_3)) + t628)) (t599.length : Int))))).bind fun t632 => (if t632 = true then (if x157_3 > 0 then (if 0 ≤ (wrap64 (x157_3 - 1)) then (if (wrap64 (x157_3 - 1)) < (t599.length : Int) then (if (rd t599 (wrap64 (x157_3 - 1))) ≥ (rd t599 x157_3) then (some false) else (laws_FnIdealsAndAntichains.l0 k3 l1 t599 t607 t599 (t599.length : Int) (wrap64 (x157_3 + 1)) t595)) else (none)) else (none)) else (laws_FnIdealsAndAntichains.l0 k3 l1 t599 t607 t599 (t599.length : Int) (wrap64 (x157_3 + 1)) t595)) else (some false))) else (some false))) else (some false)) else (some false)) else (some false))) else (some false)) else (none)) else (none))) = some r := H
                             have A94 := am A940
                             clear A940
                             by_cases c95 : (t599.length : Int) = 0
                             ·rw [if_pos c95] at H
                              exact absurd H (by simp)
                             ·as_aux_lemma =>
                                rw [if_neg c95] at H
                                have c95b0 : ((t599.length : Int) == 0) = false := beq_eq_false_iff_ne.mpr c95
                                have c95b1 : ((t599.length : Int) != 0) = true := bne_iff_ne.mpr c95
                                have c95b2 : ¬ (t599 = []) := fun h_ => c95 (by rw [h_]; rfl)
                                obtain ⟨ji96, hji96⟩ : ∃ j_ : Int, (Int.tmod (wrap64 ((wrap64 (7 * x157_3)) + t628)) (t599.length : Int)) = j_ := ⟨_, rfl⟩
                                replace H : (if 0 ≤ (ji96) then (if (ji96) < (t599.length : Int) then (if t625 = true then ((laws_nHas.f k3 t607 t624).bind fun t630 => (if t630 = true then (if t627 = true then (if t626 = (rd t599 x157_3) then ((laws_nHas.f k3 t599 (Go.bits .or .i64 (rd t599 x157_3) (rd t599 (ji96)))).bind fun t631 => (if t631 = true then ((laws_nHas.f k3 t599 (Go.bits .and .i64 (rd t599 x157_3) (rd t599 (ji96)))).bind fun t632 => (if t632 = true then (if x157_3 > 0 then (if 0 ≤ (wrap64 (x157_3 - 1)) then (if (wrap64 (x157_3 - 1)) < (t599.length : Int) then (if (rd t599 (wrap64 (x157_3 - 1))) ≥ (rd t599 x157_3) then (some false) else (laws_FnIdealsAndAntichains.l0 k3 l1 t599 t607 t599 (t599.length : Int) (wrap64 (x157_3 + 1)) t595)) else (none)) else (none)) else (laws_FnIdealsAndAntichains.l0 k3 l1 t599 t607 t599 (t599.length : Int) (wrap64 (x157_3 + 1)) t595)) else (some false))) else (some false))) else (some false)) else (some false)) else (some false))) else (some false)) else (none)) else (none)) = some r := by first | (rw [hji96] at H; exact H) | (simp only [hji96] at H ⊢; exact H)
                                (try rw [hji96] at A92)
                                (try rw [hji96] at A93)
                                (try rw [hji96] at A94)
                                by_cases c97 : 0 ≤ (ji96)
                                ·as_aux_lemma =>
                                   rw [if_pos c97] at H
                                   have c97b0 := decide_eq_true c97
                                   clear c97
                                   by_cases c98 : (ji96) < (t599.length : Int)
                                   ·as_aux_lemma =>
                                      rw [if_pos c98] at H
                                      have c98b0 := decide_eq_true c98
                                      clear c98
                                      by_cases c99 : t625 = true
                                      ·as_aux_lemma =>
                                         subst c99
                                         have H1 : ((laws_nHas.f k3 t607 t624).bind fun t630 => (if t630 = true then (if t627 = true then (if t626 = (rd t599 x157_3) then ((laws_nHas.f k3 t599 (Go.bits .or .i64 (rd t599 x157_3) (rd t599 (ji96)))).bind fun t631 => (if t631 = true then ((laws_nHas.f k3 t599 (Go.bits .and .i64 (rd t599 x157_3) (rd t599 (ji96)))).bind fun t632 => (if t632 = true then (if x157_3 > 0 then (if 0 ≤ (wrap64 (x157_3 - 1)) then (if (wrap64 (x157_3 - 1)) < (t599.length : Int) then (if (rd t599 (wrap64 (x157_3 - 1))) ≥ (rd t599 x157_3) then (some false) else (laws_FnIdealsAndAntichains.l0 k3 l1 t599 t607 t599 (t599.length : Int) (wrap64 (x157_3 + 1)) t595)) else (none)) else (none)) else (laws_FnIdealsAndAntichains.l0 k3 l1 t599 t607 t599 (t599.length : Int) (wrap64 (x157_3 + 1)) t595)) else (some false))) else (some false))) else (some false)) else (some false)) else (some false))) = some r := by rw [if_pos rfl] at H; exact H
                                         clear H
                                         have H := H1
                                         clear H1
                                         replace H := Option.bind_eq_some_iff.mp H
                                         obtain ⟨t630, A1000, H⟩ := H
                                         replace H : (if t630 = true then (if t627 = true then (if t626 = (rd t599 x157_3) then ((laws_nHas.f k3 t599 (Go.bits .or .i64 (rd t599 x157_3) (rd t599 (ji96)))).bind fun t631 => (if t631 = true then ((laws_nHas.f k3 t599 (Go.bits .and .i64 (rd t599 x157_3) (rd t599 (ji96)))).bind fun t632 => (if t632 = true then (if x157_3 > 0 then (if 0 ≤ (wrap64 (x157_3 - 1)) then (if (wrap64 (x157_3 - 1)) < (t599.length : Int) then (if (rd t599 (wrap64 (x157_3 - 1))) ≥ (rd t599 x157_3) then (some false) else (laws_FnIdealsAndAntichains.l0 k3 l1 t599 t607 t599 (t599.length : Int) (wrap64 (x157_3 + 1)) t595)) else (none)) else (none)) else (laws_FnIdealsAndAntichains.l0 k3 l1 t599 t607 t599 (t599.length : Int) (wrap64 (x157_3 + 1)) t595)) else (some false))) else (some false))) else (some false)) else (some false)) else (some false)) = some r := H
                                         have A100 := am A1000
                                         clear A1000
                                         by_cases c101 : t630 = true
                                         ·as_aux_lemma =>
                                            subst c101
                                            have H1 : (if t627 = true then (if t626 = (rd t599 x157_3) then ((laws_nHas.f k3 t599 (Go.bits .or .i64 (rd t599 x157_3) (rd t599 (ji96)))).bind fun t631 => (if t631 = true then ((laws_nHas.f k3 t599 (Go.bits .and .i64 (rd t599 x157_3) (rd t599 (ji96)))).bind fun t632 => (if t632 = true then (if x157_3 > 0 then (if 0 ≤ (wrap64 (x157_3 - 1)) then (if (wrap64 (x157_3 - 1)) < (t599.length : Int) then (if (rd t599 (wrap64 (x157_3 - 1))) ≥ (rd t599 x157_3) then (some false) else (laws_FnIdealsAndAntichains.l0 k3 l1 t599 t607 t599 (t599.length : Int) (wrap64 (x157_3 + 1)) t595)) else (none)) else (none)) else (laws_FnIdealsAndAntichains.l0 k3 l1 t599 t607 t599 (t599.length : Int) (wrap64 (x157_3 + 1)) t595)) else (some false))) else (some false))) else (some false)) else (some false)) = some r := by rw [if_pos rfl] at H; exact H
                                            clear H
                                            have H := H1
                                            clear H1
                                            by_cases c102 : t627 = true
                                            ·as_aux_lemma =>
                                               subst c102
                                               have H1 : (if t626 = (rd t599 x157_3) then ((laws_nHas.f k3 t599 (Go.bits .or .i64 (rd t599 x157_3) (rd t599 (ji96)))).bind fun t631 => (if t631 = true then ((laws_nHas.f k3 t599 (Go.bits .and .i64 (rd t599 x157_3) (rd t599 (ji96)))).bind fun t632 => (if t632 = true then (if x157_3 > 0 then (if 0 ≤ (wrap64 (x157_3 - 1)) then (if (wrap64 (x157_3 - 1)) < (t599.length : Int) then (if (rd t599 (wrap64 (x157_3 - 1))) ≥ (rd t599 x157_3) then (some false) else (laws_FnIdealsAndAntichains.l0 k3 l1 t599 t607 t599 (t599.length : Int) (wrap64 (x157_3 + 1)) t595)) else (none)) else (none)) else (laws_FnIdealsAndAntichains.l0 k3 l1 t599 t607 t599 (t599.length : Int) (wrap64 (x157_3 + 1)) t595)) else (some false))) else (some false))) else (some false)) = some r := by rw [if_pos rfl] at H; exact H
                                               clear H
                                               have H := H1
                                               clear H1
                                               by_cases c103 : t626 = (rd t599 x157_3)
                                               ·as_aux_lemma =>
                                                  rw [if_pos c103] at H
                                                  have c103b0 : (t626 == (rd t599 x157_3)) = true := beq_iff_eq.mpr c103
                                                  have c103b1 : (t626 != (rd t599 x157_3)) = false := bne_eq_false_iff_eq.mpr c103
                                                  clear c103
                                                  replace H := Option.bind_eq_some_iff.mp H
                                                  obtain ⟨t631, A1040, H⟩ := H
                                                  replace H : (if t631 = true then ((laws_nHas.f k3 t599 (Go.bits .and .i64 (rd t599 x157_3) (rd t599 (ji96)))).bind fun t632 => (if t632 = true then (if x157_3 > 0 then (if 0 ≤ (wrap64 (x157_3 - 1)) then (if (wrap64 (x157_3 - 1)) < (t599.length : Int) then (if (rd t599 (wrap64 (x157_3 - 1))) ≥ (rd t599 x157_3) then (some false) else (laws_FnIdealsAndAntichains.l0 k3 l1 t599 t607 t599 (t599.length : Int) (wrap64 (x157_3 + 1)) t595)) else (none)) else (none)) else (laws_FnIdealsAndAntichains.l0 k3 l1 t599 t607 t599 (t599.length : Int) (wrap64 (x157_3 + 1)) t595)) else (some false))) else (some false)) = some r := H
                                                  have A104 := am A1040
                                                  clear A1040
                                                  by_cases c105 : t631 = true
                                                  ·as_aux_lemma =>
                                                     subst c105
                                                     have H1 : ((laws_nHas.f k3 t599 (Go.bits .and .i64 (rd t599 x157_3) (rd t599 (ji96)))).bind fun t632 => (if t632 = true then (if x157_3 > 0 then (if 0 ≤ (wrap64 (x157_3 - 1)) then (if (wrap64 (x157_3 - 1)) < (t599.length : Int) then (if (rd t599 (wrap64 (x157_3 - 1))) ≥ (rd t599 x157_3) then (some false) else (laws_FnIdealsAndAntichains.l0 k3 l1 t599 t607 t599 (t599.length : Int) (wrap64 (x157_3 + 1)) t595)) else (none)) else (none)) else (laws_FnIdealsAndAntichains.l0 k3 l1 t599 t607 t599 (t599.length : Int) (wrap64 (x157_3 + 1)) t595)) else (some false))) = some r := by rw [if_pos rfl] at H; exact H
                                                     clear H
                                                     have H := H1
                                                     clear H1
                                                     replace H := Option.bind_eq_some_iff.mp H
                                                     obtain ⟨t632, A1060, H⟩ := H
                                                     replace H : (if t632 = true then (if x157_3 > 0 then (if 0 ≤ (wrap64 (x157_3 - 1)) then (if (wrap64 (x157_3 - 1)) < (t599.length : Int) then (if (rd t599 (wrap64 (x157_3 - 1))) ≥ (rd t599 x157_3) then (some false) else (laws_FnIdealsAndAntichains.l0 k3 l1 t599 t607 t599 (t599.length : Int) (wrap64 (x157_3 + 1)) t595)) else (none)) else (none)) else (laws_FnIdealsAndAntichains.l0 k3 l1 t599 t607 t599 (t599.length : Int) (wrap64 (x157_3 + 1)) t595)) else (some false)) = some r := H
                                                     have A106 := am A1060
                                                     clear A1060
                                                     by_cases c107 : t632 = true
                                                     ·as_aux_lemma =>
                                                        subst c107
                                                        have H1 : (if x157_3 > 0 then (if 0 ≤ (wrap64 (x157_3 - 1)) then (if (wrap64 (x157_3 - 1)) < (t599.length : Int) then (if (rd t599 (wrap64 (x157_3 - 1))) ≥ (rd t599 x157_3) then (some false) else (laws_FnIdealsAndAntichains.l0 k3 l1 t599 t607 t599 (t599.length : Int) (wrap64 (x157_3 + 1)) t595)) else (none)) else (none)) else (laws_FnIdealsAndAntichains.l0 k3 l1 t599 t607 t599 (t599.length : Int) (wrap64 (x157_3 + 1)) t595)) = some r := by rw [if_pos rfl] at H; exact H
                                                        clear H
                                                        have H := H1
                                                        clear H1
                                                        by_cases c108 : x157_3 > 0
                                                        ·as_aux_lemma =>
                                                           rw [if_pos c108] at H
                                                           have c108b0 : decide (0 < x157_3) = true := decide_eq_true c108
                                                           clear c108
                                                           obtain ⟨ji109, hji109⟩ : ∃ j_ : Int, (wrap64 (x157_3 - 1)) = j_ := ⟨_, rfl⟩
                                                           replace H : (if 0 ≤ (ji109) then (if (ji109) < (t599.length : Int) then (if (rd t599 (ji109)) ≥ (rd t599 x157_3) then (some false) else (laws_FnIdealsAndAntichains.l0 k3 l1 t599 t607 t599 (t599.length : Int) (wrap64 (x157_3 + 1)) t595)) else (none)) else (none)) = some r := by first | (rw [hji109] at H; exact H) | (simp only [hji109] at H ⊢; exact H)
                                                           (try rw [hji109] at A92)
                                                           (try rw [hji109] at A93)
                                                           (try rw [hji109] at A94)
                                                           (try rw [hji109] at A100)
                                                           (try rw [hji109] at A104)
                                                           (try rw [hji109] at A106)
                                                           have hji109w : (IntKind.i64.wrap (x157_3 - 1)) = ji109 := (i64_w _).trans hji109
                                                           by_cases c110 : 0 ≤ (ji109)
                                                           ·as_aux_lemma =>
                                                              rw [if_pos c110] at H
                                                              have c110b0 := decide_eq_true c110
                                                              clear c110
                                                              by_cases c111 : (ji109) < (t599.length : Int)
                                                              ·as_aux_lemma =>
                                                                 rw [if_pos c111] at H
                                                                 have c111b0 := decide_eq_true c111
                                                                 clear c111
                                                                 by_cases c112 : (rd t599 (ji109)) ≥ (rd t599 x157_3)
                                                                 ·as_aux_lemma =>
                                                                    rw [if_pos c112] at H
                                                                    exact absurd (Option.some.inj H) (by rw [hrt.out]; decide)
                                                                 ·as_aux_lemma =>
                                                                    rw [if_neg c112] at H
                                                                    have c112b0 : decide ((rd t599 x157_3) ≤ (rd t599 (ji109))) = false := decide_eq_false c112
                                                                    clear c112
                                                                    have H' := am H
                                                                    clear H
                                                                    have p623 : 0 ≤ (x157_3 : Int) := qd
                                                                    have q623 : x157_3 < (t599.length : Int) := qd
                                                                    obtain ⟨ad623, e623, hx623_0⟩ := Kd.at_int (Kd.R_reads' HO_155.out).2.2 x157_3 p623 q623
                                                                    cases e623
                                                                    replace p623 := eq_true p623
                                                                    replace q623 := eq_true q623
                                                                    have hcz118_0 := qz wr BK598.out
                                                                    have hfz118_0 := blk_frozen BK598.out 0
                                                                    go_wp2_with (first | (go_at_call 32; (with_reducible refine (impl_TopOf.calls k3 _ _ t595 (rd t599 x157_3) t624 true _ ?side1 ?side2 A92.out).mono ?_); (case side1 => exact qC (Kd.R_reads' HO_599000.out).2.2); (case side2 => exact (Kd.R_reads' HO_599000.out).2.1); rintro e w119 ⟨rfl, hb⟩; replace HO_6 := am (Kd.R_below (qR HO_6.out) hb); replace HO_10 := am (Kd.R_below (qR HO_10.out) hb); replace HO_155 := am (Kd.R_below (qR HO_155.out) hb); replace HO_599000 := am (Kd.R_below (qR HO_599000.out) hb); replace BK598 := am (blk_below (g := gb598) (o := .cells #[.slice Ao14 t595.length co14] 28 (0, 0)) (qb BK598.out) hb); replace HB := am (below_step qB hb); (try clear hb); (try clear hb2); (try clear hk); (try clear hi); have hcz120_0 := qz w119 BK598.out; have hfz120_0 := blk_frozen BK598.out 0) | (go_at_call 33; (with_reducible refine (impl_IdealOf.calls k3 _ _ t595 t624 t626 true _ ?side1 ?side2 A93.out).mono ?_); (case side1 => exact qC (Kd.R_reads' HO_599000.out).2.2); (case side2 => exact (Kd.R_reads' HO_599000.out).2.1); rintro e w121 ⟨rfl, hb⟩; replace HO_6 := am (Kd.R_below (qR HO_6.out) hb); replace HO_10 := am (Kd.R_below (qR HO_10.out) hb); replace HO_155 := am (Kd.R_below (qR HO_155.out) hb); replace HO_599000 := am (Kd.R_below (qR HO_599000.out) hb); replace BK598 := am (blk_below (g := gb598) (o := .cells #[.slice Ao14 t595.length co14] 28 (0, 0)) (qb BK598.out) hb); replace HB := am (below_step qB hb); (try clear hb); (try clear hb2); (try clear hk); (try clear hi)) | (go_at_call 34; (with_reducible refine (laws_numberOf.calls k3 _ _ l1 t628 _ ?side1 ?side2 A94.out).mono ?_); (case side1 => exact qC (Kd.C_below HR1.out HB.out)); (case side2 => exact HC1.out); rintro e w' ⟨rfl, ⟨nd, rfl⟩⟩; (try first | exact ⟨rfl, _, World.drewN_drewN _ _ _⟩ | exact ⟨rfl, _, Eq.trans (World.drewN_drewN _ _ _) (congrArg (World.drewN _) (Nat.add_assoc _ _ _))⟩); have p629 : 0 ≤ ((ji96) : Int) := qd; have q629 : (ji96) < (t599.length : Int) := qd; obtain ⟨ad629, e629, hx629_0⟩ := Kd.at_int (Kd.R_reads' HO_6.out).2.2 (ji96) p629 q629; obtain rfl : ad623 = ad629 := (by injection e629); replace p629 := eq_true p629; replace q629 := eq_true q629; obtain ⟨Ao122, co122, eo122⟩ := Kd.R_slice HO_10.out; subst eo122) | (go_at_call 35; (with_reducible refine (laws_nHas.calls k3 _ _ t607 t624 true _ ?side1 ?side2 A100.out).mono ?_); (case side1 => exact qC (Kd.R_reads' HO_10.out).2.2); (case side2 => exact (Kd.R_reads' HO_10.out).2.1); rintro e w' ⟨rfl, ⟨nd, rfl⟩⟩; (try first | exact ⟨rfl, _, World.drewN_drewN _ _ _⟩ | exact ⟨rfl, _, Eq.trans (World.drewN_drewN _ _ _) (congrArg (World.drewN _) (Nat.add_assoc _ _ _))⟩)) | (go_at_call 35; (with_reducible refine (laws_nHas.calls k3 _ _ t599 (Go.bits .or .i64 (rd t599 x157_3) (rd t599 (ji96))) true _ ?side1 ?side2 A104.out).mono ?_); (case side1 => exact qC (Kd.R_reads' HO_6.out).2.2); (case side2 => exact (Kd.R_reads' HO_6.out).2.1); rintro e w' ⟨rfl, ⟨nd, rfl⟩⟩; (try first | exact ⟨rfl, _, World.drewN_drewN _ _ _⟩ | exact ⟨rfl, _, Eq.trans (World.drewN_drewN _ _ _) (congrArg (World.drewN _) (Nat.add_assoc _ _ _))⟩)) | (go_at_call 35; (with_reducible refine (laws_nHas.calls k3 _ _ t599 (Go.bits .and .i64 (rd t599 x157_3) (rd t599 (ji96))) true _ ?side1 ?side2 A106.out).mono ?_); (case side1 => exact qC (Kd.R_reads' HO_6.out).2.2); (case side2 => exact (Kd.R_reads' HO_6.out).2.1); rintro e w' ⟨rfl, ⟨nd, rfl⟩⟩; (try first | exact ⟨rfl, _, World.drewN_drewN _ _ _⟩ | exact ⟨rfl, _, Eq.trans (World.drewN_drewN _ _ _) (congrArg (World.drewN _) (Nat.add_assoc _ _ _))⟩); have p633 : 0 ≤ ((ji109) : Int) := qd; have q633 : (ji109) < (t599.length : Int) := qd; obtain ⟨ad633, e633, hx633_0⟩ := Kd.at_int (Kd.R_reads' HO_6.out).2.2 (ji109) p633 q633; obtain rfl : ad623 = ad633 := (by injection e633); replace p633 := eq_true p633; replace q633 := eq_true q633))
                                                                    repeat (go_quiet (first | (go_at_call 32; (with_reducible refine (impl_TopOf.calls k3 _ _ t595 (rd t599 x157_3) t624 true _ ?side1 ?side2 A92.out).mono ?_); (case side1 => exact qC (Kd.R_reads' HO_599000.out).2.2); (case side2 => exact (Kd.R_reads' HO_599000.out).2.1); rintro e w119 ⟨rfl, hb⟩; replace HO_6 := am (Kd.R_below (qR HO_6.out) hb); replace HO_10 := am (Kd.R_below (qR HO_10.out) hb); replace HO_155 := am (Kd.R_below (qR HO_155.out) hb); replace HO_599000 := am (Kd.R_below (qR HO_599000.out) hb); replace BK598 := am (blk_below (g := gb598) (o := .cells #[.slice Ao14 t595.length co14] 28 (0, 0)) (qb BK598.out) hb); replace HB := am (below_step qB hb); (try clear hb); (try clear hb2); (try clear hk); (try clear hi); have hcz120_0 := qz w119 BK598.out; have hfz120_0 := blk_frozen BK598.out 0) | (go_at_call 33; (with_reducible refine (impl_IdealOf.calls k3 _ _ t595 t624 t626 true _ ?side1 ?side2 A93.out).mono ?_); (case side1 => exact qC (Kd.R_reads' HO_599000.out).2.2); (case side2 => exact (Kd.R_reads' HO_599000.out).2.1); rintro e w121 ⟨rfl, hb⟩; replace HO_6 := am (Kd.R_below (qR HO_6.out) hb); replace HO_10 := am (Kd.R_below (qR HO_10.out) hb); replace HO_155 := am (Kd.R_below (qR HO_155.out) hb); replace HO_599000 := am (Kd.R_below (qR HO_599000.out) hb); replace BK598 := am (blk_below (g := gb598) (o := .cells #[.slice Ao14 t595.length co14] 28 (0, 0)) (qb BK598.out) hb); replace HB := am (below_step qB hb); (try clear hb); (try clear hb2); (try clear hk); (try clear hi)) | (go_at_call 34; (with_reducible refine (laws_numberOf.calls k3 _ _ l1 t628 _ ?side1 ?side2 A94.out).mono ?_); (case side1 => exact qC (Kd.C_below HR1.out HB.out)); (case side2 => exact HC1.out); rintro e w' ⟨rfl, ⟨nd, rfl⟩⟩; (try first | exact ⟨rfl, _, World.drewN_drewN _ _ _⟩ | exact ⟨rfl, _, Eq.trans (World.drewN_drewN _ _ _) (congrArg (World.drewN _) (Nat.add_assoc _ _ _))⟩); have p629 : 0 ≤ ((ji96) : Int) := qd; have q629 : (ji96) < (t599.length : Int) := qd; obtain ⟨ad629, e629, hx629_0⟩ := Kd.at_int (Kd.R_reads' HO_6.out).2.2 (ji96) p629 q629; obtain rfl : ad623 = ad629 := (by injection e629); replace p629 := eq_true p629; replace q629 := eq_true q629; obtain ⟨Ao122, co122, eo122⟩ := Kd.R_slice HO_10.out; subst eo122) | (go_at_call 35; (with_reducible refine (laws_nHas.calls k3 _ _ t607 t624 true _ ?side1 ?side2 A100.out).mono ?_); (case side1 => exact qC (Kd.R_reads' HO_10.out).2.2); (case side2 => exact (Kd.R_reads' HO_10.out).2.1); rintro e w' ⟨rfl, ⟨nd, rfl⟩⟩; (try first | exact ⟨rfl, _, World.drewN_drewN _ _ _⟩ | exact ⟨rfl, _, Eq.trans (World.drewN_drewN _ _ _) (congrArg (World.drewN _) (Nat.add_assoc _ _ _))⟩)) | (go_at_call 35; (with_reducible refine (laws_nHas.calls k3 _ _ t599 (Go.bits .or .i64 (rd t599 x157_3) (rd t599 (ji96))) true _ ?side1 ?side2 A104.out).mono ?_); (case side1 => exact qC (Kd.R_reads' HO_6.out).2.2); (case side2 => exact (Kd.R_reads' HO_6.out).2.1); rintro e w' ⟨rfl, ⟨nd, rfl⟩⟩; (try first | exact ⟨rfl, _, World.drewN_drewN _ _ _⟩ | exact ⟨rfl, _, Eq.trans (World.drewN_drewN _ _ _) (congrArg (World.drewN _) (Nat.add_assoc _ _ _))⟩)) | (go_at_call 35; (with_reducible refine (laws_nHas.calls k3 _ _ t599 (Go.bits .and .i64 (rd t599 x157_3) (rd t599 (ji96))) true _ ?side1 ?side2 A106.out).mono ?_); (case side1 => exact qC (Kd.R_reads' HO_6.out).2.2); (case side2 => exact (Kd.R_reads' HO_6.out).2.1); rintro e w' ⟨rfl, ⟨nd, rfl⟩⟩; (try first | exact ⟨rfl, _, World.drewN_drewN _ _ _⟩ | exact ⟨rfl, _, Eq.trans (World.drewN_drewN _ _ _) (congrArg (World.drewN _) (Nat.add_assoc _ _ _))⟩); have p633 : 0 ≤ ((ji109) : Int) := qd; have q633 : (ji109) < (t599.length : Int) := qd; obtain ⟨ad633, e633, hx633_0⟩ := Kd.at_int (Kd.R_reads' HO_6.out).2.2 (ji109) p633 q633; obtain rfl : ad623 = ad633 := (by injection e633); replace p633 := eq_true p633; replace q633 := eq_true q633)); try go_wp2_with (first | (go_at_call 32; (with_reducible refine (impl_TopOf.calls k3 _ _ t595 (rd t599 x157_3) t624 true _ ?side1 ?side2 A92.out).mono ?_); (case side1 => exact qC (Kd.R_reads' HO_599000.out).2.2); (case side2 => exact (Kd.R_reads' HO_599000.out).2.1); rintro e w119 ⟨rfl, hb⟩; replace HO_6 := am (Kd.R_below (qR HO_6.out) hb); replace HO_10 := am (Kd.R_below (qR HO_10.out) hb); replace HO_155 := am (Kd.R_below (qR HO_155.out) hb); replace HO_599000 := am (Kd.R_below (qR HO_599000.out) hb); replace BK598 := am (blk_below (g := gb598) (o := .cells #[.slice Ao14 t595.length co14] 28 (0, 0)) (qb BK598.out) hb); replace HB := am (below_step qB hb); (try clear hb); (try clear hb2); (try clear hk); (try clear hi); have hcz120_0 := qz w119 BK598.out; have hfz120_0 := blk_frozen BK598.out 0) | (go_at_call 33; (with_reducible refine (impl_IdealOf.calls k3 _ _ t595 t624 t626 true _ ?side1 ?side2 A93.out).mono ?_); (case side1 => exact qC (Kd.R_reads' HO_599000.out).2.2); (case side2 => exact (Kd.R_reads' HO_599000.out).2.1); rintro e w121 ⟨rfl, hb⟩; replace HO_6 := am (Kd.R_below (qR HO_6.out) hb); replace HO_10 := am (Kd.R_below (qR HO_10.out) hb); replace HO_155 := am (Kd.R_below (qR HO_155.out) hb); replace HO_599000 := am (Kd.R_below (qR HO_599000.out) hb); replace BK598 := am (blk_below (g := gb598) (o := .cells #[.slice Ao14 t595.length co14] 28 (0, 0)) (qb BK598.out) hb); replace HB := am (below_step qB hb); (try clear hb); (try clear hb2); (try clear hk); (try clear hi)) | (go_at_call 34; (with_reducible refine (laws_numberOf.calls k3 _ _ l1 t628 _ ?side1 ?side2 A94.out).mono ?_); (case side1 => exact qC (Kd.C_below HR1.out HB.out)); (case side2 => exact HC1.out); rintro e w' ⟨rfl, ⟨nd, rfl⟩⟩; (try first | exact ⟨rfl, _, World.drewN_drewN _ _ _⟩ | exact ⟨rfl, _, Eq.trans (World.drewN_drewN _ _ _) (congrArg (World.drewN _) (Nat.add_assoc _ _ _))⟩); have p629 : 0 ≤ ((ji96) : Int) := qd; have q629 : (ji96) < (t599.length : Int) := qd; obtain ⟨ad629, e629, hx629_0⟩ := Kd.at_int (Kd.R_reads' HO_6.out).2.2 (ji96) p629 q629; obtain rfl : ad623 = ad629 := (by injection e629); replace p629 := eq_true p629; replace q629 := eq_true q629; obtain ⟨Ao122, co122, eo122⟩ := Kd.R_slice HO_10.out; subst eo122) | (go_at_call 35; (with_reducible refine (laws_nHas.calls k3 _ _ t607 t624 true _ ?side1 ?side2 A100.out).mono ?_); (case side1 => exact qC (Kd.R_reads' HO_10.out).2.2); (case side2 => exact (Kd.R_reads' HO_10.out).2.1); rintro e w' ⟨rfl, ⟨nd, rfl⟩⟩; (try first | exact ⟨rfl, _, World.drewN_drewN _ _ _⟩ | exact ⟨rfl, _, Eq.trans (World.drewN_drewN _ _ _) (congrArg (World.drewN _) (Nat.add_assoc _ _ _))⟩)) | (go_at_call 35; (with_reducible refine (laws_nHas.calls k3 _ _ t599 (Go.bits .or .i64 (rd t599 x157_3) (rd t599 (ji96))) true _ ?side1 ?side2 A104.out).mono ?_); (case side1 => exact qC (Kd.R_reads' HO_6.out).2.2); (case side2 => exact (Kd.R_reads' HO_6.out).2.1); rintro e w' ⟨rfl, ⟨nd, rfl⟩⟩; (try first | exact ⟨rfl, _, World.drewN_drewN _ _ _⟩ | exact ⟨rfl, _, Eq.trans (World.drewN_drewN _ _ _) (congrArg (World.drewN _) (Nat.add_assoc _ _ _))⟩)) | (go_at_call 35; (with_reducible refine (laws_nHas.calls k3 _ _ t599 (Go.bits .and .i64 (rd t599 x157_3) (rd t599 (ji96))) true _ ?side1 ?side2 A106.out).mono ?_); (case side1 => exact qC (Kd.R_reads' HO_6.out).2.2); (case side2 => exact (Kd.R_reads' HO_6.out).2.1); rintro e w' ⟨rfl, ⟨nd, rfl⟩⟩; (try first | exact ⟨rfl, _, World.drewN_drewN _ _ _⟩ | exact ⟨rfl, _, Eq.trans (World.drewN_drewN _ _ _) (congrArg (World.drewN _) (Nat.add_assoc _ _ _))⟩); have p633 : 0 ≤ ((ji109) : Int) := qd; have q633 : (ji109) < (t599.length : Int) := qd; obtain ⟨ad633, e633, hx633_0⟩ := Kd.at_int (Kd.R_reads' HO_6.out).2.2 (ji109) p633 q633; obtain rfl : ad623 = ad633 := (by injection e633); replace p633 := eq_true p633; replace q633 := eq_true q633)))
                                                                    go_roundg k3
                                                                    case measure => have := HJ10.out; have := HJ68.out; have := HK3.out; omega
                                                                    case rel => exact ⟨(wrap64 (x157_3 + 1)), qe, H', ⟨by have := HJ10.out; have := HJ68.out; have := HK3.out; omega⟩, ⟨qR HO_6.out⟩, ⟨qR HO_10.out⟩, ⟨qR HO_155.out⟩, ⟨qR HO_599000.out⟩, ⟨qb BK598.out⟩, ⟨qB⟩⟩
                                                              ·rw [if_neg c111] at H
                                                               exact absurd H (by simp)
                                                           ·rw [if_neg c110] at H
                                                            exact absurd H (by simp)
                                                        ·as_aux_lemma =>
                                                           rw [if_neg c108] at H
                                                           have c108b0 : decide (0 < x157_3) = false := decide_eq_false c108
                                                           clear c108
                                                           have H' := am H
                                                           clear H
                                                           have p623 : 0 ≤ (x157_3 : Int) := qd
                                                           have q623 : x157_3 < (t599.length : Int) := qd
                                                           obtain ⟨ad623, e623, hx623_0⟩ := Kd.at_int (Kd.R_reads' HO_155.out).2.2 x157_3 p623 q623
                                                           cases e623
                                                           replace p623 := eq_true p623
                                                           replace q623 := eq_true q623
                                                           have hcz123_0 := qz wr BK598.out
                                                           have hfz123_0 := blk_frozen BK598.out 0
                                                           go_wp2_with (first | (go_at_call 32; (with_reducible refine (impl_TopOf.calls k3 _ _ t595 (rd t599 x157_3) t624 true _ ?side1 ?side2 A92.out).mono ?_); (case side1 => exact qC (Kd.R_reads' HO_599000.out).2.2); (case side2 => exact (Kd.R_reads' HO_599000.out).2.1); rintro e w124 ⟨rfl, hb⟩; replace HO_6 := am (Kd.R_below (qR HO_6.out) hb); replace HO_10 := am (Kd.R_below (qR HO_10.out) hb); replace HO_155 := am (Kd.R_below (qR HO_155.out) hb); replace HO_599000 := am (Kd.R_below (qR HO_599000.out) hb); replace BK598 := am (blk_below (g := gb598) (o := .cells #[.slice Ao14 t595.length co14] 28 (0, 0)) (qb BK598.out) hb); replace HB := am (below_step qB hb); (try clear hb); (try clear hb2); (try clear hk); (try clear hi); have hcz125_0 := qz w124 BK598.out; have hfz125_0 := blk_frozen BK598.out 0) | (go_at_call 33; (with_reducible refine (impl_IdealOf.calls k3 _ _ t595 t624 t626 true _ ?side1 ?side2 A93.out).mono ?_); (case side1 => exact qC (Kd.R_reads' HO_599000.out).2.2); (case side2 => exact (Kd.R_reads' HO_599000.out).2.1); rintro e w126 ⟨rfl, hb⟩; replace HO_6 := am (Kd.R_below (qR HO_6.out) hb); replace HO_10 := am (Kd.R_below (qR HO_10.out) hb); replace HO_155 := am (Kd.R_below (qR HO_155.out) hb); replace HO_599000 := am (Kd.R_below (qR HO_599000.out) hb); replace BK598 := am (blk_below (g := gb598) (o := .cells #[.slice Ao14 t595.length co14] 28 (0, 0)) (qb BK598.out) hb); replace HB := am (below_step qB hb); (try clear hb); (try clear hb2); (try clear hk); (try clear hi)) | (go_at_call 34; (with_reducible refine (laws_numberOf.calls k3 _ _ l1 t628 _ ?side1 ?side2 A94.out).mono ?_); (case side1 => exact qC (Kd.C_below HR1.out HB.out)); (case side2 => exact HC1.out); rintro e w' ⟨rfl, ⟨nd, rfl⟩⟩; (try first | exact ⟨rfl, _, World.drewN_drewN _ _ _⟩ | exact ⟨rfl, _, Eq.trans (World.drewN_drewN _ _ _) (congrArg (World.drewN _) (Nat.add_assoc _ _ _))⟩); have p629 : 0 ≤ ((ji96) : Int) := qd; have q629 : (ji96) < (t599.length : Int) := qd; obtain ⟨ad629, e629, hx629_0⟩ := Kd.at_int (Kd.R_reads' HO_6.out).2.2 (ji96) p629 q629; obtain rfl : ad623 = ad629 := (by injection e629); replace p629 := eq_true p629; replace q629 := eq_true q629; obtain ⟨Ao127, co127, eo127⟩ := Kd.R_slice HO_10.out; subst eo127) | (go_at_call 35; (with_reducible refine (laws_nHas.calls k3 _ _ t607 t624 true _ ?side1 ?side2 A100.out).mono ?_); (case side1 => exact qC (Kd.R_reads' HO_10.out).2.2); (case side2 => exact (Kd.R_reads' HO_10.out).2.1); rintro e w' ⟨rfl, ⟨nd, rfl⟩⟩; (try first | exact ⟨rfl, _, World.drewN_drewN _ _ _⟩ | exact ⟨rfl, _, Eq.trans (World.drewN_drewN _ _ _) (congrArg (World.drewN _) (Nat.add_assoc _ _ _))⟩)) | (go_at_call 35; (with_reducible refine (laws_nHas.calls k3 _ _ t599 (Go.bits .or .i64 (rd t599 x157_3) (rd t599 (ji96))) true _ ?side1 ?side2 A104.out).mono ?_); (case side1 => exact qC (Kd.R_reads' HO_6.out).2.2); (case side2 => exact (Kd.R_reads' HO_6.out).2.1); rintro e w' ⟨rfl, ⟨nd, rfl⟩⟩; (try first | exact ⟨rfl, _, World.drewN_drewN _ _ _⟩ | exact ⟨rfl, _, Eq.trans (World.drewN_drewN _ _ _) (congrArg (World.drewN _) (Nat.add_assoc _ _ _))⟩)) | (go_at_call 35; (with_reducible refine (laws_nHas.calls k3 _ _ t599 (Go.bits .and .i64 (rd t599 x157_3) (rd t599 (ji96))) true _ ?side1 ?side2 A106.out).mono ?_); (case side1 => exact qC (Kd.R_reads' HO_6.out).2.2); (case side2 => exact (Kd.R_reads' HO_6.out).2.1); rintro e w' ⟨rfl, ⟨nd, rfl⟩⟩; (try first | exact ⟨rfl, _, World.drewN_drewN _ _ _⟩ | exact ⟨rfl, _, Eq.trans (World.drewN_drewN _ _ _) (congrArg (World.drewN _) (Nat.add_assoc _ _ _))⟩)))
                                                           repeat (go_quiet (first | (go_at_call 32; (with_reducible refine (impl_TopOf.calls k3 _ _ t595 (rd t599 x157_3) t624 true _ ?side1 ?side2 A92.out).mono ?_); (case side1 => exact qC (Kd.R_reads' HO_599000.out).2.2); (case side2 => exact (Kd.R_reads' HO_599000.out).2.1); rintro e w124 ⟨rfl, hb⟩; replace HO_6 := am (Kd.R_below (qR HO_6.out) hb); replace HO_10 := am (Kd.R_below (qR HO_10.out) hb); replace HO_155 := am (Kd.R_below (qR HO_155.out) hb); replace HO_599000 := am (Kd.R_below (qR HO_599000.out) hb); replace BK598 := am (blk_below (g := gb598) (o := .cells #[.slice Ao14 t595.length co14] 28 (0, 0)) (qb BK598.out) hb); replace HB := am (below_step qB hb); (try clear hb); (try clear hb2); (try clear hk); (try clear hi); have hcz125_0 := qz w124 BK598.out; have hfz125_0 := blk_frozen BK598.out 0) | (go_at_call 33; (with_reducible refine (impl_IdealOf.calls k3 _ _ t595 t624 t626 true _ ?side1 ?side2 A93.out).mono ?_); (case side1 => exact qC (Kd.R_reads' HO_599000.out).2.2); (case side2 => exact (Kd.R_reads' HO_599000.out).2.1); rintro e w126 ⟨rfl, hb⟩; replace HO_6 := am (Kd.R_below (qR HO_6.out) hb); replace HO_10 := am (Kd.R_below (qR HO_10.out) hb); replace HO_155 := am (Kd.R_below (qR HO_155.out) hb); replace HO_599000 := am (Kd.R_below (qR HO_599000.out) hb); replace BK598 := am (blk_below (g := gb598) (o := .cells #[.slice Ao14 t595.length co14] 28 (0, 0)) (qb BK598.out) hb); replace HB := am (below_step qB hb); (try clear hb); (try clear hb2); (try clear hk); (try clear hi)) | (go_at_call 34; (with_reducible refine (laws_numberOf.calls k3 _ _ l1 t628 _ ?side1 ?side2 A94.out).mono ?_); (case side1 => exact qC (Kd.C_below HR1.out HB.out)); (case side2 => exact HC1.out); rintro e w' ⟨rfl, ⟨nd, rfl⟩⟩; (try first | exact ⟨rfl, _, World.drewN_drewN _ _ _⟩ | exact ⟨rfl, _, Eq.trans (World.drewN_drewN _ _ _) (congrArg (World.drewN _) (Nat.add_assoc _ _ _))⟩); have p629 : 0 ≤ ((ji96) : Int) := qd; have q629 : (ji96) < (t599.length : Int) := qd; obtain ⟨ad629, e629, hx629_0⟩ := Kd.at_int (Kd.R_reads' HO_6.out).2.2 (ji96) p629 q629; obtain rfl : ad623 = ad629 := (by injection e629); replace p629 := eq_true p629; replace q629 := eq_true q629; obtain ⟨Ao127, co127, eo127⟩ := Kd.R_slice HO_10.out; subst eo127) | (go_at_call 35; (with_reducible refine (laws_nHas.calls k3 _ _ t607 t624 true _ ?side1 ?side2 A100.out).mono ?_); (case side1 => exact qC (Kd.R_reads' HO_10.out).2.2); (case side2 => exact (Kd.R_reads' HO_10.out).2.1); rintro e w' ⟨rfl, ⟨nd, rfl⟩⟩; (try first | exact ⟨rfl, _, World.drewN_drewN _ _ _⟩ | exact ⟨rfl, _, Eq.trans (World.drewN_drewN _ _ _) (congrArg (World.drewN _) (Nat.add_assoc _ _ _))⟩)) | (go_at_call 35; (with_reducible refine (laws_nHas.calls k3 _ _ t599 (Go.bits .or .i64 (rd t599 x157_3) (rd t599 (ji96))) true _ ?side1 ?side2 A104.out).mono ?_); (case side1 => exact qC (Kd.R_reads' HO_6.out).2.2); (case side2 => exact (Kd.R_reads' HO_6.out).2.1); rintro e w' ⟨rfl, ⟨nd, rfl⟩⟩; (try first | exact ⟨rfl, _, World.drewN_drewN _ _ _⟩ | exact ⟨rfl, _, Eq.trans (World.drewN_drewN _ _ _) (congrArg (World.drewN _) (Nat.add_assoc _ _ _))⟩)) | (go_at_call 35; (with_reducible refine (laws_nHas.calls k3 _ _ t599 (Go.bits .and .i64 (rd t599 x157_3) (rd t599 (ji96))) true _ ?side1 ?side2 A106.out).mono ?_); (case side1 => exact qC (Kd.R_reads' HO_6.out).2.2); (case side2 => exact (Kd.R_reads' HO_6.out).2.1); rintro e w' ⟨rfl, ⟨nd, rfl⟩⟩; (try first | exact ⟨rfl, _, World.drewN_drewN _ _ _⟩ | exact ⟨rfl, _, Eq.trans (World.drewN_drewN _ _ _) (congrArg (World.drewN _) (Nat.add_assoc _ _ _))⟩))); try go_wp2_with (first | (go_at_call 32; (with_reducible refine (impl_TopOf.calls k3 _ _ t595 (rd t599 x157_3) t624 true _ ?side1 ?side2 A92.out).mono ?_); (case side1 => exact qC (Kd.R_reads' HO_599000.out).2.2); (case side2 => exact (Kd.R_reads' HO_599000.out).2.1); rintro e w124 ⟨rfl, hb⟩; replace HO_6 := am (Kd.R_below (qR HO_6.out) hb); replace HO_10 := am (Kd.R_below (qR HO_10.out) hb); replace HO_155 := am (Kd.R_below (qR HO_155.out) hb); replace HO_599000 := am (Kd.R_below (qR HO_599000.out) hb); replace BK598 := am (blk_below (g := gb598) (o := .cells #[.slice Ao14 t595.length co14] 28 (0, 0)) (qb BK598.out) hb); replace HB := am (below_step qB hb); (try clear hb); (try clear hb2); (try clear hk); (try clear hi); have hcz125_0 := qz w124 BK598.out; have hfz125_0 := blk_frozen BK598.out 0) | (go_at_call 33; (with_reducible refine (impl_IdealOf.calls k3 _ _ t595 t624 t626 true _ ?side1 ?side2 A93.out).mono ?_); (case side1 => exact qC (Kd.R_reads' HO_599000.out).2.2); (case side2 => exact (Kd.R_reads' HO_599000.out).2.1); rintro e w126 ⟨rfl, hb⟩; replace HO_6 := am (Kd.R_below (qR HO_6.out) hb); replace HO_10 := am (Kd.R_below (qR HO_10.out) hb); replace HO_155 := am (Kd.R_below (qR HO_155.out) hb); replace HO_599000 := am (Kd.R_below (qR HO_599000.out) hb); replace BK598 := am (blk_below (g := gb598) (o := .cells #[.slice Ao14 t595.length co14] 28 (0, 0)) (qb BK598.out) hb); replace HB := am (below_step qB hb); (try clear hb); (try clear hb2); (try clear hk); (try clear hi)) | (go_at_call 34; (with_reducible refine (laws_numberOf.calls k3 _ _ l1 t628 _ ?side1 ?side2 A94.out).mono ?_); (case side1 => exact qC (Kd.C_below HR1.out HB.out)); (case side2 => exact HC1.out); rintro e w' ⟨rfl, ⟨nd, rfl⟩⟩; (try first | exact ⟨rfl, _, World.drewN_drewN _ _ _⟩ | exact ⟨rfl, _, Eq.trans (World.drewN_drewN _ _ _) (congrArg (World.drewN _) (Nat.add_assoc _ _ _))⟩); have p629 : 0 ≤ ((ji96) : Int) := qd; have q629 : (ji96) < (t599.length : Int) := qd; obtain ⟨ad629, e629, hx629_0⟩ := Kd.at_int (Kd.R_reads' HO_6.out).2.2 (ji96) p629 q629; obtain rfl : ad623 = ad629 := (by injection e629); replace p629 := eq_true p629; replace q629 := eq_true q629; obtain ⟨Ao127, co127, eo127⟩ := Kd.R_slice HO_10.out; subst eo127) | (go_at_call 35; (with_reducible refine (laws_nHas.calls k3 _ _ t607 t624 true _ ?side1 ?side2 A100.out).mono ?_); (case side1 => exact qC (Kd.R_reads' HO_10.out).2.2); (case side2 => exact (Kd.R_reads' HO_10.out).2.1); rintro e w' ⟨rfl, ⟨nd, rfl⟩⟩; (try first | exact ⟨rfl, _, World.drewN_drewN _ _ _⟩ | exact ⟨rfl, _, Eq.trans (World.drewN_drewN _ _ _) (congrArg (World.drewN _) (Nat.add_assoc _ _ _))⟩)) | (go_at_call 35; (with_reducible refine (laws_nHas.calls k3 _ _ t599 (Go.bits .or .i64 (rd t599 x157_3) (rd t599 (ji96))) true _ ?side1 ?side2 A104.out).mono ?_); (case side1 => exact qC (Kd.R_reads' HO_6.out).2.2); (case side2 => exact (Kd.R_reads' HO_6.out).2.1); rintro e w' ⟨rfl, ⟨nd, rfl⟩⟩; (try first | exact ⟨rfl, _, World.drewN_drewN _ _ _⟩ | exact ⟨rfl, _, Eq.trans (World.drewN_drewN _ _ _) (congrArg (World.drewN _) (Nat.add_assoc _ _ _))⟩)) | (go_at_call 35; (with_reducible refine (laws_nHas.calls k3 _ _ t599 (Go.bits .and .i64 (rd t599 x157_3) (rd t599 (ji96))) true _ ?side1 ?side2 A106.out).mono ?_); (case side1 => exact qC (Kd.R_reads' HO_6.out).2.2); (case side2 => exact (Kd.R_reads' HO_6.out).2.1); rintro e w' ⟨rfl, ⟨nd, rfl⟩⟩; (try first | exact ⟨rfl, _, World.drewN_drewN _ _ _⟩ | exact ⟨rfl, _, Eq.trans (World.drewN_drewN _ _ _) (congrArg (World.drewN _) (Nat.add_assoc _ _ _))⟩))))
                                                           go_roundg k3
                                                           case measure => have := HJ10.out; have := HJ68.out; have := HK3.out; omega
                                                           case rel => exact ⟨(wrap64 (x157_3 + 1)), qe, H', ⟨by have := HJ10.out; have := HJ68.out; have := HK3.out; omega⟩, ⟨qR HO_6.out⟩, ⟨qR HO_10.out⟩, ⟨qR HO_155.out⟩, ⟨qR HO_599000.out⟩, ⟨qb BK598.out⟩, ⟨qB⟩⟩
                                                     ·as_aux_lemma =>
                                                        replace c107 := Bool.eq_false_iff.mpr c107
                                                        subst c107
                                                        have H1 : (some false) = some r := by rw [if_neg (show ¬ (false = true) by decide)] at H; exact H
                                                        exact absurd (Option.some.inj H1) (by rw [hrt.out]; decide)
                                                  ·as_aux_lemma =>
                                                     replace c105 := Bool.eq_false_iff.mpr c105
                                                     subst c105
                                                     have H1 : (some false) = some r := by rw [if_neg (show ¬ (false = true) by decide)] at H; exact H
                                                     exact absurd (Option.some.inj H1) (by rw [hrt.out]; decide)
                                               ·as_aux_lemma =>
                                                  rw [if_neg c103] at H
                                                  exact absurd (Option.some.inj H) (by rw [hrt.out]; decide)
                                            ·as_aux_lemma =>
                                               replace c102 := Bool.eq_false_iff.mpr c102
                                               subst c102
                                               have H1 : (some false) = some r := by rw [if_neg (show ¬ (false = true) by decide)] at H; exact H
                                               exact absurd (Option.some.inj H1) (by rw [hrt.out]; decide)
                                         ·as_aux_lemma =>
                                            replace c101 := Bool.eq_false_iff.mpr c101
                                            subst c101
                                            have H1 : (some false) = some r := by rw [if_neg (show ¬ (false = true) by decide)] at H; exact H
                                            exact absurd (Option.some.inj H1) (by rw [hrt.out]; decide)
                                      ·as_aux_lemma =>
                                         replace c99 := Bool.eq_false_iff.mpr c99
                                         subst c99
                                         have H1 : (some false) = some r := by rw [if_neg (show ¬ (false = true) by decide)] at H; exact H
                                         exact absurd (Option.some.inj H1) (by rw [hrt.out]; decide)
                                   ·rw [if_neg c98] at H
                                    exact absurd H (by simp)
                                ·rw [if_neg c97] at H
                                 exact absurd H (by simp)
                          ·rw [if_neg c91] at H
                           exact absurd H (by simp)
                       ·rw [if_neg c90] at H
                        exact absurd H (by simp)
                    ·rw [if_neg c89] at H
                     have c89b0 := decide_eq_false c89
                     clear c89
                     have H' := am H
                     clear H
                     go_wp2
                     repeat (go_quiet (fail); try go_wp2)
                     go_meet
                     case rel => exact ⟨_, H', ⟨by have := HJ10.out; have := HJ68.out; have := HK3.out; first | omega | exact Nat.le_refl _⟩, ⟨qR (Kd.R_mono HO_599000.out (fun _ hk => trivial))⟩, ⟨qb BK598.out⟩, ⟨qB⟩⟩
          ·as_aux_lemma =>
             replace c68 := Bool.eq_false_iff.mpr c68
             subst c68
             have H1 : (laws_FnIdealsAndAntichains.j3 kj10 l1) = some r := by rw [if_neg (show ¬ (false = true) by decide)] at H; exact H
             clear H
             have H := H1
             clear H1
             have H' := am H
             clear H
             go_wp2
             repeat (go_quiet (fail); try go_wp2)
             go_meet
             case rel => exact ⟨_, H', ⟨by have := HJ10.out; first | omega | exact Nat.le_refl _⟩, ⟨qR (Kd.R_mono HO_599000.out (fun _ hk => trivial))⟩, ⟨qb BK598.out⟩, ⟨qB⟩⟩
         case rest =>
          clear HC67
          try clear c1
          try clear c2
          try clear p2
          try clear c3
          try clear c4
          try clear c6
          try clear p6
          try clear q6
          try clear hx6
          try clear qi6
          try clear c7
          try clear c8
          try clear c9
          try clear c10
          try clear c11
          try clear c25
          try clear c25b0
          try clear c25b1
          try clear c25b2
          try clear c27
          try clear c28
          try clear c28b0
          try clear c28b1
          try clear c28b2
          try clear c32
          try clear c33
          try clear c33b0
          try clear c33b1
          try clear c33b2
          try clear c38
          try clear c38b0
          try clear c38b1
          try clear c38b2
          try clear c44
          try clear c44b0
          try clear c44b1
          try clear c44b2
          try clear p62
          try clear q62
          try clear hx62
          try clear qi62
          try clear p63
          try clear q63
          try clear hx63
          try clear p64
          try clear c66
          try clear c68
          try clear c70
          try clear c70b0
          try clear c70b1
          try clear c70b2
          try clear c71
          try clear c71b0
          try clear c71b1
          try clear c72
          try clear c72b0
          try clear c72b1
          try clear c73
          try clear c73b0
          try clear c73b1
          try clear c75
          try clear c75b0
          try clear c76
          try clear c76b0
          try clear c87
          try clear c89
          try clear c89b0
          try clear c90
          try clear c90b0
          try clear c91
          try clear c91b0
          try clear c95
          try clear c95b0
          try clear c95b1
          try clear c95b2
          try clear c97
          try clear c97b0
          try clear c98
          try clear c98b0
          try clear c99
          try clear c101
          try clear c102
          try clear c103
          try clear c103b0
          try clear c103b1
          try clear c105
          try clear c107
          try clear c108
          try clear c108b0
          try clear c110
          try clear c110b0
          try clear c111
          try clear c111b0
          try clear c112
          try clear c112b0
          try clear hcz113_0
          try clear hcz115_0
          try clear hcz118_0
          try clear hcz120_0
          try clear hcz123_0
          try clear hcz125_0
          try clear hcz128_0
          try clear hcz130_0
          try clear hcz133_0
          try clear hcz135_0
          try clear hcz138_0
          try clear hcz140_0
          try clear hcz143_0
          try clear hcz145_0
          try clear hcz148_0
          try clear hcz150_0
          try clear hcz153_0
          try clear hcz155_0
          try clear hcz15_0
          try clear hcz17_0
          try clear hcz19_0
          try clear hcz21_0
          try clear hcz23_0
          try clear hcz49_0
          try clear hcz56_0
          try clear hcz58_0
          try clear hcz80_0
          try clear hfz113_0
          try clear hfz115_0
          try clear hfz118_0
          try clear hfz120_0
          try clear hfz123_0
          try clear hfz125_0
          try clear hfz128_0
          try clear hfz130_0
          try clear hfz133_0
          try clear hfz135_0
          try clear hfz138_0
          try clear hfz140_0
          try clear hfz143_0
          try clear hfz145_0
          try clear hfz148_0
          try clear hfz150_0
          try clear hfz153_0
          try clear hfz155_0
          try clear hfz15_0
          try clear hfz17_0
          try clear hfz19_0
          try clear hfz21_0
          try clear hfz23_0
          try clear hfz49_0
          try clear hfz56_0
          try clear hfz58_0
          try clear hfz80_0
          try clear hx621_0
          try clear hx622_0
          try clear hx623_0
          try clear hx629_0
          try clear hx633_0
          try clear p2
          try clear p6
          try clear p62
          try clear p621
          try clear p622
          try clear p623
          try clear p629
          try clear p633
          try clear p64
          try clear q6
          try clear q62
          try clear q621
          try clear q622
          try clear q623
          try clear q629
          try clear q633
          obtain ⟨kq, HA, HJ66, HO_599000, BK598, HB⟩ := hcut
          cases kq with
          | zero => exact absurd HA.out (by simp [laws_FnIdealsAndAntichains.j3])
          | succ kj66 =>
           have H := HA.out
           clear HA
           simp only [laws_FnIdealsAndAntichains.j3] at H
           replace H := Option.bind_eq_some_iff.mp H
           obtain ⟨⟨t634, t637⟩, A1570, H⟩ := H
           replace H : ((impl_IdealOf.f kj66 t634 t637).bind fun bt639 => ((spec_IdealOf.f kj66 t634 t637).bind fun bt641 => ((impl_TopOf.f kj66 t634 t637).bind fun bt643 => ((spec_TopOf.f kj66 t634 t637).bind fun bt645 => ((impl_BottomOf.f kj66 t634 t637).bind fun bt647 => ((spec_BottomOf.f kj66 t634 t637).bind fun bt649 => ((impl_IsIdeal.f kj66 t634 t637).bind fun bt651 => ((spec_IsIdeal.f kj66 t634 t637).bind fun bt653 => (if (bt639.2 != bt641.2) = true then (laws_FnIdealsAndAntichains.j4 kj66 l1 t637 bt639.1 bt639.2 bt643.1 bt647.1 bt651.1 true t634) else (if bt639.1 = bt641.1 then (if (bt643.2 != bt645.2) = true then (laws_FnIdealsAndAntichains.j4 kj66 l1 t637 bt639.1 bt639.2 bt643.1 bt647.1 bt651.1 true t634) else (if bt643.1 = bt645.1 then (if (bt647.2 != bt649.2) = true then (laws_FnIdealsAndAntichains.j4 kj66 l1 t637 bt639.1 bt639.2 bt643.1 bt647.1 bt651.1 true t634) else (if bt647.1 = bt649.1 then (if (bt651.2 != bt653.2) = true then (laws_FnIdealsAndAntichains.j4 kj66 l1 t637 bt639.1 bt639.2 bt643.1 bt647.1 bt651.1 true t634) else (if (bt651.1 != bt653.1) = true then (laws_FnIdealsAndAntichains.j4 kj66 l1 t637 bt639.1 bt639.2 bt643.1 bt647.1 bt651.1 true t634) else (if (bt643.2 != bt639.2) = true then (laws_FnIdealsAndAntichains.j4 kj66 l1 t637 bt639.1 bt639.2 bt643.1 bt647.1 bt651.1 true t634) else (if (bt647.2 != bt639.2) = true then (laws_FnIdealsAndAntichains.j4 kj66 l1 t637 bt639.1 bt639.2 bt643.1 bt647.1 bt651.1 true t634) else (laws_FnIdealsAndAntichains.j4 kj66 l1 t637 bt639.1 bt639.2 bt643.1 bt647.1 bt651.1 (bt651.2 != bt639.2) t634))))) else (laws_FnIdealsAndAntichains.j4 kj66 l1 t637 bt639.1 bt639.2 bt643.1 bt647.1 bt651.1 true t634))) else (laws_FnIdealsAndAntichains.j4 kj66 l1 t637 bt639.1 bt639.2 bt643.1 bt647.1 bt651.1 true t634))) else (laws_FnIdealsAndAntichains.j4 kj66 l1 t637 bt639.1 bt639.2 bt643.1 bt647.1 bt651.1 true t634))))))))))) = some r := H
           have A157 := am A1570
           clear A1570
           replace H := Option.bind_eq_some_iff.mp H
           obtain ⟨⟨t639, t640⟩, A1580, H⟩ := H
           replace H : ((spec_IdealOf.f kj66 t634 t637).bind fun bt641 => ((impl_TopOf.f kj66 t634 t637).bind fun bt643 => ((spec_TopOf.f kj66 t634 t637).bind fun bt645 => ((impl_BottomOf.f kj66 t634 t637).bind fun bt647 => ((spec_BottomOf.f kj66 t634 t637).bind fun bt649 => ((impl_IsIdeal.f kj66 t634 t637).bind fun bt651 => ((spec_IsIdeal.f kj66 t634 t637).bind fun bt653 => (if (t640 != bt641.2) = true then (laws_FnIdealsAndAntichains.j4 kj66 l1 t637 t639 t640 bt643.1 bt647.1 bt651.1 true t634) else (if t639 = bt641.1 then (if (bt643.2 != bt645.2) = true then (laws_FnIdealsAndAntichains.j4 kj66 l1 t637 t639 t640 bt643.1 bt647.1 bt651.1 true t634) else (if bt643.1 = bt645.1 then (if (bt647.2 != bt649.2) = true then (laws_FnIdealsAndAntichains.j4 kj66 l1 t637 t639 t640 bt643.1 bt647.1 bt651.1 true t634) else (if bt647.1 = bt649.1 then (if (bt651.2 != bt653.2) = true then (laws_FnIdealsAndAntichains.j4 kj66 l1 t637 t639 t640 bt643.1 bt647.1 bt651.1 true t634) else (if (bt651.1 != bt653.1) = true then (laws_FnIdealsAndAntichains.j4 kj66 l1 t637 t639 t640 bt643.1 bt647.1 bt651.1 true t634) else (if (bt643.2 != t640) = true then (laws_FnIdealsAndAntichains.j4 kj66 l1 t637 t639 t640 bt643.1 bt647.1 bt651.1 true t634) else (if (bt647.2 != t640) = true then (laws_FnIdealsAndAntichains.j4 kj66 l1 t637 t639 t640 bt643.1 bt647.1 bt651.1 true t634) else (laws_FnIdealsAndAntichains.j4 kj66 l1 t637 t639 t640 bt643.1 bt647.1 bt651.1 (bt651.2 != t640) t634))))) else (laws_FnIdealsAndAntichains.j4 kj66 l1 t637 t639 t640 bt643.1 bt647.1 bt651.1 true t634))) else (laws_FnIdealsAndAntichains.j4 kj66 l1 t637 t639 t640 bt643.1 bt647.1 bt651.1 true t634))) else (laws_FnIdealsAndAntichains.j4 kj66 l1 t637 t639 t640 bt643.1 bt647.1 bt651.1 true t634)))))))))) = some r := H
           have A158 := am A1580
           clear A1580
           replace H := Option.bind_eq_some_iff.mp H
           obtain ⟨⟨t641, t642⟩, A1590, H⟩ := H
           replace H : ((impl_TopOf.f kj66 t634 t637).bind fun bt643 => ((spec_TopOf.f kj66 t634 t637).bind fun bt645 => ((impl_BottomOf.f kj66 t634 t637).bind fun bt647 => ((spec_BottomOf.f kj66 t634 t637).bind fun bt649 => ((impl_IsIdeal.f kj66 t634 t637).bind fun bt651 => ((spec_IsIdeal.f kj66 t634 t637).bind fun bt653 => (if (t640 != t642) = true then (laws_FnIdealsAndAntichains.j4 kj66 l1 t637 t639 t640 bt643.1 bt647.1 bt651.1 true t634) else (if t639 = t641 then (if (bt643.2 != bt645.2) = true then (laws_FnIdealsAndAntichains.j4 kj66 l1 t637 t639 t640 bt643.1 bt647.1 bt651.1 true t634) else (if bt643.1 = bt645.1 then (if (bt647.2 != bt649.2) = true then (laws_FnIdealsAndAntichains.j4 kj66 l1 t637 t639 t640 bt643.1 bt647.1 bt651.1 true t634) else (if bt647.1 = bt649.1 then (if (bt651.2 != bt653.2) = true then (laws_FnIdealsAndAntichains.j4 kj66 l1 t637 t639 t640 bt643.1 bt647.1 bt651.1 true t634) else (if (bt651.1 != bt653.1) = true then (laws_FnIdealsAndAntichains.j4 kj66 l1 t637 t639 t640 bt643.1 bt647.1 bt651.1 true t634) else (if (bt643.2 != t640) = true then (laws_FnIdealsAndAntichains.j4 kj66 l1 t637 t639 t640 bt643.1 bt647.1 bt651.1 true t634) else (if (bt647.2 != t640) = true then (laws_FnIdealsAndAntichains.j4 kj66 l1 t637 t639 t640 bt643.1 bt647.1 bt651.1 true t634) else (laws_FnIdealsAndAntichains.j4 kj66 l1 t637 t639 t640 bt643.1 bt647.1 bt651.1 (bt651.2 != t640) t634))))) else (laws_FnIdealsAndAntichains.j4 kj66 l1 t637 t639 t640 bt643.1 bt647.1 bt651.1 true t634))) else (laws_FnIdealsAndAntichains.j4 kj66 l1 t637 t639 t640 bt643.1 bt647.1 bt651.1 true t634))) else (laws_FnIdealsAndAntichains.j4 kj66 l1 t637 t639 t640 bt643.1 bt647.1 bt651.1 true t634))))))))) = some r := H
           have A159 := am A1590
           clear A1590
           replace H := Option.bind_eq_some_iff.mp H
           obtain ⟨⟨t643, t644⟩, A1600, H⟩ := H
           replace H : ((spec_TopOf.f kj66 t634 t637).bind fun bt645 => ((impl_BottomOf.f kj66 t634 t637).bind fun bt647 => ((spec_BottomOf.f kj66 t634 t637).bind fun bt649 => ((impl_IsIdeal.f kj66 t634 t637).bind fun bt651 => ((spec_IsIdeal.f kj66 t634 t637).bind fun bt653 => (if (t640 != t642) = true then (laws_FnIdealsAndAntichains.j4 kj66 l1 t637 t639 t640 t643 bt647.1 bt651.1 true t634) else (if t639 = t641 then (if (t644 != bt645.2) = true then (laws_FnIdealsAndAntichains.j4 kj66 l1 t637 t639 t640 t643 bt647.1 bt651.1 true t634) else (if t643 = bt645.1 then (if (bt647.2 != bt649.2) = true then (laws_FnIdealsAndAntichains.j4 kj66 l1 t637 t639 t640 t643 bt647.1 bt651.1 true t634) else (if bt647.1 = bt649.1 then (if (bt651.2 != bt653.2) = true then (laws_FnIdealsAndAntichains.j4 kj66 l1 t637 t639 t640 t643 bt647.1 bt651.1 true t634) else (if (bt651.1 != bt653.1) = true then (laws_FnIdealsAndAntichains.j4 kj66 l1 t637 t639 t640 t643 bt647.1 bt651.1 true t634) else (if (t644 != t640) = true then (laws_FnIdealsAndAntichains.j4 kj66 l1 t637 t639 t640 t643 bt647.1 bt651.1 true t634) else (if (bt647.2 != t640) = true then (laws_FnIdealsAndAntichains.j4 kj66 l1 t637 t639 t640 t643 bt647.1 bt651.1 true t634) else (laws_FnIdealsAndAntichains.j4 kj66 l1 t637 t639 t640 t643 bt647.1 bt651.1 (bt651.2 != t640) t634))))) else (laws_FnIdealsAndAntichains.j4 kj66 l1 t637 t639 t640 t643 bt647.1 bt651.1 true t634))) else (laws_FnIdealsAndAntichains.j4 kj66 l1 t637 t639 t640 t643 bt647.1 bt651.1 true t634))) else (laws_FnIdealsAndAntichains.j4 kj66 l1 t637 t639 t640 t643 bt647.1 bt651.1 true t634)))))))) = some r := H
           have A160 := am A1600
           clear A1600
           replace H := Option.bind_eq_some_iff.mp H
           obtain ⟨⟨t645, t646⟩, A1610, H⟩ := H
           replace H : ((impl_BottomOf.f kj66 t634 t637).bind fun bt647 => ((spec_BottomOf.f kj66 t634 t637).bind fun bt649 => ((impl_IsIdeal.f kj66 t634 t637).bind fun bt651 => ((spec_IsIdeal.f kj66 t634 t637).bind fun bt653 => (if (t640 != t642) = true then (laws_FnIdealsAndAntichains.j4 kj66 l1 t637 t639 t640 t643 bt647.1 bt651.1 true t634) else (if t639 = t641 then (if (t644 != t646) = true then (laws_FnIdealsAndAntichains.j4 kj66 l1 t637 t639 t640 t643 bt647.1 bt651.1 true t634) else (if t643 = t645 then (if (bt647.2 != bt649.2) = true then (laws_FnIdealsAndAntichains.j4 kj66 l1 t637 t639 t640 t643 bt647.1 bt651.1 true t634) else (if bt647.1 = bt649.1 then (if (bt651.2 != bt653.2) = true then (laws_FnIdealsAndAntichains.j4 kj66 l1 t637 t639 t640 t643 bt647.1 bt651.1 true t634) else (if (bt651.1 != bt653.1) = true then (laws_FnIdealsAndAntichains.j4 kj66 l1 t637 t639 t640 t643 bt647.1 bt651.1 true t634) else (if (t644 != t640) = true then (laws_FnIdealsAndAntichains.j4 kj66 l1 t637 t639 t640 t643 bt647.1 bt651.1 true t634) else (if (bt647.2 != t640) = true then (laws_FnIdealsAndAntichains.j4 kj66 l1 t637 t639 t640 t643 bt647.1 bt651.1 true t634) else (laws_FnIdealsAndAntichains.j4 kj66 l1 t637 t639 t640 t643 bt647.1 bt651.1 (bt651.2 != t640) t634))))) else (laws_FnIdealsAndAntichains.j4 kj66 l1 t637 t639 t640 t643 bt647.1 bt651.1 true t634))) else (laws_FnIdealsAndAntichains.j4 kj66 l1 t637 t639 t640 t643 bt647.1 bt651.1 true t634))) else (laws_FnIdealsAndAntichains.j4 kj66 l1 t637 t639 t640 t643 bt647.1 bt651.1 true t634))))))) = some r := H
           have A161 := am A1610
           clear A1610
           replace H := Option.bind_eq_some_iff.mp H
           obtain ⟨⟨t647, t648⟩, A1620, H⟩ := H
           replace H : ((spec_BottomOf.f kj66 t634 t637).bind fun bt649 => ((impl_IsIdeal.f kj66 t634 t637).bind fun bt651 => ((spec_IsIdeal.f kj66 t634 t637).bind fun bt653 => (if (t640 != t642) = true then (laws_FnIdealsAndAntichains.j4 kj66 l1 t637 t639 t640 t643 t647 bt651.1 true t634) else (if t639 = t641 then (if (t644 != t646) = true then (laws_FnIdealsAndAntichains.j4 kj66 l1 t637 t639 t640 t643 t647 bt651.1 true t634) else (if t643 = t645 then (if (t648 != bt649.2) = true then (laws_FnIdealsAndAntichains.j4 kj66 l1 t637 t639 t640 t643 t647 bt651.1 true t634) else (if t647 = bt649.1 then (if (bt651.2 != bt653.2) = true then (laws_FnIdealsAndAntichains.j4 kj66 l1 t637 t639 t640 t643 t647 bt651.1 true t634) else (if (bt651.1 != bt653.1) = true then (laws_FnIdealsAndAntichains.j4 kj66 l1 t637 t639 t640 t643 t647 bt651.1 true t634) else (if (t644 != t640) = true then (laws_FnIdealsAndAntichains.j4 kj66 l1 t637 t639 t640 t643 t647 bt651.1 true t634) else (if (t648 != t640) = true then (laws_FnIdealsAndAntichains.j4 kj66 l1 t637 t639 t640 t643 t647 bt651.1 true t634) else (laws_FnIdealsAndAntichains.j4 kj66 l1 t637 t639 t640 t643 t647 bt651.1 (bt651.2 != t640) t634))))) else (laws_FnIdealsAndAntichains.j4 kj66 l1 t637 t639 t640 t643 t647 bt651.1 true t634))) else (laws_FnIdealsAndAntichains.j4 kj66 l1 t637 t639 t640 t643 t647 bt651.1 true t634))) else (laws_FnIdealsAndAntichains.j4 kj66 l1 t637 t639 t640 t643 t647 bt651.1 true t634)))))) = some r := H
           have A162 := am A1620
           clear A1620
           replace H := Option.bind_eq_some_iff.mp H
           obtain ⟨⟨t649, t650⟩, A1630, H⟩ := H
           replace H : ((impl_IsIdeal.f kj66 t634 t637).bind fun bt651 => ((spec_IsIdeal.f kj66 t634 t637).bind fun bt653 => (if (t640 != t642) = true then (laws_FnIdealsAndAntichains.j4 kj66 l1 t637 t639 t640 t643 t647 bt651.1 true t634) else (if t639 = t641 then (if (t644 != t646) = true then (laws_FnIdealsAndAntichains.j4 kj66 l1 t637 t639 t640 t643 t647 bt651.1 true t634) else (if t643 = t645 then (if (t648 != t650) = true then (laws_FnIdealsAndAntichains.j4 kj66 l1 t637 t639 t640 t643 t647 bt651.1 true t634) else (if t647 = t649 then (if (bt651.2 != bt653.2) = true then (laws_FnIdealsAndAntichains.j4 kj66 l1 t637 t639 t640 t643 t647 bt651.1 true t634) else (if (bt651.1 != bt653.1) = true then (laws_FnIdealsAndAntichains.j4 kj66 l1 t637 t639 t640 t643 t647 bt651.1 true t634) else (if (t644 != t640) = true then (laws_FnIdealsAndAntichains.j4 kj66 l1 t637 t639 t640 t643 t647 bt651.1 true t634) else (if (t648 != t640) = true then (laws_FnIdealsAndAntichains.j4 kj66 l1 t637 t639 t640 t643 t647 bt651.1 true t634) else (laws_FnIdealsAndAntichains.j4 kj66 l1 t637 t639 t640 t643 t647 bt651.1 (bt651.2 != t640) t634))))) else (laws_FnIdealsAndAntichains.j4 kj66 l1 t637 t639 t640 t643 t647 bt651.1 true t634))) else (laws_FnIdealsAndAntichains.j4 kj66 l1 t637 t639 t640 t643 t647 bt651.1 true t634))) else (laws_FnIdealsAndAntichains.j4 kj66 l1 t637 t639 t640 t643 t647 bt651.1 true t634))))) = some r := H
           have A163 := am A1630
           clear A1630
           replace H := Option.bind_eq_some_iff.mp H
           obtain ⟨⟨t651, t652⟩, A1640, H⟩ := H
           replace H : ((spec_IsIdeal.f kj66 t634 t637).bind fun bt653 => (if (t640 != t642) = true then (laws_FnIdealsAndAntichains.j4 kj66 l1 t637 t639 t640 t643 t647 t651 true t634) else (if t639 = t641 then (if (t644 != t646) = true then (laws_FnIdealsAndAntichains.j4 kj66 l1 t637 t639 t640 t643 t647 t651 true t634) else (if t643 = t645 then (if (t648 != t650) = true then (laws_FnIdealsAndAntichains.j4 kj66 l1 t637 t639 t640 t643 t647 t651 true t634) else (if t647 = t649 then (if (t652 != bt653.2) = true then (laws_FnIdealsAndAntichains.j4 kj66 l1 t637 t639 t640 t643 t647 t651 true t634) else (if (t651 != bt653.1) = true then (laws_FnIdealsAndAntichains.j4 kj66 l1 t637 t639 t640 t643 t647 t651 true t634) else (if (t644 != t640) = true then (laws_FnIdealsAndAntichains.j4 kj66 l1 t637 t639 t640 t643 t647 t651 true t634) else (if (t648 != t640) = true then (laws_FnIdealsAndAntichains.j4 kj66 l1 t637 t639 t640 t643 t647 t651 true t634) else (laws_FnIdealsAndAntichains.j4 kj66 l1 t637 t639 t640 t643 t647 t651 (t652 != t640) t634))))) else (laws_FnIdealsAndAntichains.j4 kj66 l1 t637 t639 t640 t643 t647 t651 true t634))) else (laws_FnIdealsAndAntichains.j4 kj66 l1 t637 t639 t640 t643 t647 t651 true t634))) else (laws_FnIdealsAndAntichains.j4 kj66 l1 t637 t639 t640 t643 t647 t651 true t634)))) = some r := H
           have A164 := am A1640
           clear A1640
           replace H := Option.bind_eq_some_iff.mp H
           obtain ⟨⟨t653, t654⟩, A1650, H⟩ := H
           replace H : (if (t640 != t642) = true then (laws_FnIdealsAndAntichains.j4 kj66 l1 t637 t639 t640 t643 t647 t651 true t634) else (if t639 = t641 then (if (t644 != t646) = true then (laws_FnIdealsAndAntichains.j4 kj66 l1 t637 t639 t640 t643 t647 t651 true t634) else (if t643 = t645 then (if (t648 != t650) = true then (laws_FnIdealsAndAntichains.j4 kj66 l1 t637 t639 t640 t643 t647 t651 true t634) else (if t647 = t649 then (if (t652 != t654) = true then (laws_FnIdealsAndAntichains.j4 kj66 l1 t637 t639 t640 t643 t647 t651 true t634) else (if (t651 != t653) = true then (laws_FnIdealsAndAntichains.j4 kj66 l1 t637 t639 t640 t643 t647 t651 true t634) else (if (t644 != t640) = true then (laws_FnIdealsAndAntichains.j4 kj66 l1 t637 t639 t640 t643 t647 t651 true t634) else (if (t648 != t640) = true then (laws_FnIdealsAndAntichains.j4 kj66 l1 t637 t639 t640 t643 t647 t651 true t634) else (laws_FnIdealsAndAntichains.j4 kj66 l1 t637 t639 t640 t643 t647 t651 (t652 != t640) t634))))) else (laws_FnIdealsAndAntichains.j4 kj66 l1 t637 t639 t640 t643 t647 t651 true t634))) else (laws_FnIdealsAndAntichains.j4 kj66 l1 t637 t639 t640 t643 t647 t651 true t634))) else (laws_FnIdealsAndAntichains.j4 kj66 l1 t637 t639 t640 t643 t647 t651 true t634))) = some r := H
           have A165 := am A1650
           clear A1650
           have HC166 := am H
           clear H
           go_upto_region 32 with (first | (go_at_call 36; (with_reducible refine (spec_DrawIdealOf.calls kj66 _ _ l1 t634 t637 _ ?side1 ?side2 A157.out).mono ?_); (case side1 => exact qC (Kd.C_below HR1.out HB.out)); (case side2 => exact HC1.out); rintro e w167 ⟨v635, rfl, ho0, hb⟩; have n0_ := am (Kd.R_elder' (qR HO_599000.out) (Kd.R_base ho0) hb); have HO636 := am (Kd.R_lower (Kd.R_new' ho0 (Kd.R_lt (qR HO_599000.out))) (below_size qB)); replace BK598 := am (blk_below (g := gb598) (o := .cells #[.slice Ao14 t595.length co14] 28 (0, 0)) (qb BK598.out) hb); replace HB := am (below_step qB hb); clear HO_599000; have HO_599000 := n0_; clear n0_; (try clear hb); (try clear hb2); (try clear hk); (try clear hi); (try clear ho0)) | ((with_reducible refine gate_dst (N := 23) rfl ?_); refine qx (N := 23) (cs := #[.slice none 0 0]) (t := 28) ?_; intro gb638 hg w168 hbox hb; replace HO_599000 := am (Kd.R_below (qR HO_599000.out) hb); replace HO636 := am (Kd.R_below (qR HO636.out) hb); have n2_ := am (blk_below (g := gb598) (o := .cells #[.slice Ao14 t595.length co14] 28 (0, 0)) (qb BK598.out) hb); have n3_ := am (below_step qB hb); have BK638 := am (hbox); have GW638 := am (qg w hg); have GE638 := am (qg w hg); have NB598_638 := am ((by rw [hg]; exact Nat.ne_of_lt (blk_lt (g := gb598) (o := .cells #[.slice Ao14 t595.length co14] 28 (0, 0)) (qb BK598.out)) : gb598 ≠ gb638)); have NB638_598 := am ((by rw [hg]; exact Nat.ne_of_gt (blk_lt (g := gb598) (o := .cells #[.slice Ao14 t595.length co14] 28 (0, 0)) (qb BK598.out)) : gb638 ≠ gb598)); clear BK598 HB; have BK598 := n2_; have HB := n3_; clear n2_ n3_; clear hb hbox hg; obtain ⟨Ao169, co169, eo169⟩ := Kd.R_slice HO636.out; subst eo169; have hnb170 := NB638_598.out; have hnc170 := NB598_638.out; have hcz171_0 := qz w168 BK638.out; have hfz171_0 := blk_frozen BK638.out 0) | (go_at_call 33; (with_reducible refine (impl_IdealOf.calls kj66 _ _ t634 t637 t639 t640 _ ?side1 ?side2 A158.out).mono ?_); (case side1 => refine (Kd.R_reads' (e := 3) (base := w.heap.size) (ok := fun k_ => (True ∧ some k_ ≠ (.slice Ao14 t595.length co14 : Value).ownBlock)) (n := t634.length) (c := co169) ?_).2.2; exact (qR ((Kd.R_mono (Kd.R_far (p := ⟨gb638, 0, none⟩) (Kd.R_types HO636.out BK638.out (by decide)) (fun _ hk => hk.2) (.slice Ao169 t634.length co169)) (fun _ h_ => h_.1))))); (case side2 => exact (Kd.R_reads' HO636.out).2.1); rintro e w172 ⟨rfl, hb⟩; replace HO_599000 := am (Kd.R_below (qR ((Kd.R_mono (Kd.R_far (p := ⟨gb638, 0, none⟩) (Kd.R_types HO_599000.out BK638.out (by decide)) (fun _ hk => hk.2) (.slice Ao169 t634.length co169)) (fun _ h_ => h_.1)))) hb); replace HO636 := am (Kd.R_below (qR ((Kd.R_mono (Kd.R_far (p := ⟨gb638, 0, none⟩) (Kd.R_types HO636.out BK638.out (by decide)) (fun _ hk => hk.2) (.slice Ao169 t634.length co169)) (fun _ h_ => h_.1)))) hb); replace BK598 := am (blk_below (g := gb598) (o := .cells #[.slice Ao14 t595.length co14] 28 (0, 0)) (by (with_reducible repeat (first | refine blk_drewN ?_ _ | refine blk_drew ?_ | refine blk_alloc ?_ _)); refine blk_far ?_ NB598_638.out _; refine qb ?_; exact BK598.out) hb); replace BK638 := am (blk_below (g := gb638) (o := .cells #[.slice Ao169 t634.length co169] 28 (0, 0)) (by (with_reducible repeat (first | refine blk_drewN ?_ _ | refine blk_drew ?_ | refine blk_alloc ?_ _)); refine blk_put (cs := #[.slice none 0 0]) ?_ 0 _ rfl; refine qb ?_; exact BK638.out) hb); replace HB := am (below_step qB hb); (try clear hb); (try clear hb2); (try clear hk); (try clear hi); have hcz173_0 := qz w172 BK638.out; have hfz173_0 := blk_frozen BK638.out 0) | (go_at_call 37; (with_reducible refine (spec_IdealOf.calls kj66 _ _ t634 t637 t641 t642 _ ?side1 ?side2 A159.out).mono ?_); (case side1 => exact qC (Kd.R_reads' HO636.out).2.2); (case side2 => exact (Kd.R_reads' HO636.out).2.1); rintro e w174 ⟨rfl, hb⟩; replace HO_599000 := am (Kd.R_below (qR HO_599000.out) hb); replace HO636 := am (Kd.R_below (qR HO636.out) hb); replace BK598 := am (blk_below (g := gb598) (o := .cells #[.slice Ao14 t595.length co14] 28 (0, 0)) (qb BK598.out) hb); replace BK638 := am (blk_below (g := gb638) (o := .cells #[.slice Ao169 t634.length co169] 28 (0, 0)) (qb BK638.out) hb); replace HB := am (below_step qB hb); (try clear hb); (try clear hb2); (try clear hk); (try clear hi); have hcz175_0 := qz w174 BK638.out; have hfz175_0 := blk_frozen BK638.out 0) | (go_at_call 32; (with_reducible refine (impl_TopOf.calls kj66 _ _ t634 t637 t643 t644 _ ?side1 ?side2 A160.out).mono ?_); (case side1 => exact qC (Kd.R_reads' HO636.out).2.2); (case side2 => exact (Kd.R_reads' HO636.out).2.1); rintro e w176 ⟨rfl, hb⟩; replace HO_599000 := am (Kd.R_below (qR HO_599000.out) hb); replace HO636 := am (Kd.R_below (qR HO636.out) hb); replace BK598 := am (blk_below (g := gb598) (o := .cells #[.slice Ao14 t595.length co14] 28 (0, 0)) (qb BK598.out) hb); replace BK638 := am (blk_below (g := gb638) (o := .cells #[.slice Ao169 t634.length co169] 28 (0, 0)) (qb BK638.out) hb); replace HB := am (below_step qB hb); (try clear hb); (try clear hb2); (try clear hk); (try clear hi); have hcz177_0 := qz w176 BK638.out; have hfz177_0 := blk_frozen BK638.out 0) | (go_at_call 38; (with_reducible refine (spec_TopOf.calls kj66 _ _ t634 t637 t645 t646 _ ?side1 ?side2 A161.out).mono ?_); (case side1 => exact qC (Kd.R_reads' HO636.out).2.2); (case side2 => exact (Kd.R_reads' HO636.out).2.1); rintro e w178 ⟨rfl, hb⟩; replace HO_599000 := am (Kd.R_below (qR HO_599000.out) hb); replace HO636 := am (Kd.R_below (qR HO636.out) hb); replace BK598 := am (blk_below (g := gb598) (o := .cells #[.slice Ao14 t595.length co14] 28 (0, 0)) (qb BK598.out) hb); replace BK638 := am (blk_below (g := gb638) (o := .cells #[.slice Ao169 t634.length co169] 28 (0, 0)) (qb BK638.out) hb); replace HB := am (below_step qB hb); (try clear hb); (try clear hb2); (try clear hk); (try clear hi); have hcz179_0 := qz w178 BK638.out; have hfz179_0 := blk_frozen BK638.out 0) | (go_at_call 39; (with_reducible refine (impl_BottomOf.calls kj66 _ _ t634 t637 t647 t648 _ ?side1 ?side2 A162.out).mono ?_); (case side1 => exact qC (Kd.R_reads' HO636.out).2.2); (case side2 => exact (Kd.R_reads' HO636.out).2.1); rintro e w180 ⟨rfl, hb⟩; replace HO_599000 := am (Kd.R_below (qR HO_599000.out) hb); replace HO636 := am (Kd.R_below (qR HO636.out) hb); replace BK598 := am (blk_below (g := gb598) (o := .cells #[.slice Ao14 t595.length co14] 28 (0, 0)) (qb BK598.out) hb); replace BK638 := am (blk_below (g := gb638) (o := .cells #[.slice Ao169 t634.length co169] 28 (0, 0)) (qb BK638.out) hb); replace HB := am (below_step qB hb); (try clear hb); (try clear hb2); (try clear hk); (try clear hi); have hcz181_0 := qz w180 BK638.out; have hfz181_0 := blk_frozen BK638.out 0) | (go_at_call 40; (with_reducible refine (spec_BottomOf.calls kj66 _ _ t634 t637 t649 t650 _ ?side1 ?side2 A163.out).mono ?_); (case side1 => exact qC (Kd.R_reads' HO636.out).2.2); (case side2 => exact (Kd.R_reads' HO636.out).2.1); rintro e w182 ⟨rfl, hb⟩; replace HO_599000 := am (Kd.R_below (qR HO_599000.out) hb); replace HO636 := am (Kd.R_below (qR HO636.out) hb); replace BK598 := am (blk_below (g := gb598) (o := .cells #[.slice Ao14 t595.length co14] 28 (0, 0)) (qb BK598.out) hb); replace BK638 := am (blk_below (g := gb638) (o := .cells #[.slice Ao169 t634.length co169] 28 (0, 0)) (qb BK638.out) hb); replace HB := am (below_step qB hb); (try clear hb); (try clear hb2); (try clear hk); (try clear hi); have hcz183_0 := qz w182 BK638.out; have hfz183_0 := blk_frozen BK638.out 0) | (go_at_call 41; (with_reducible refine (impl_IsIdeal.calls kj66 _ _ t634 t637 t651 t652 _ ?side1 ?side2 A164.out).mono ?_); (case side1 => exact qC (Kd.R_reads' HO636.out).2.2); (case side2 => exact (Kd.R_reads' HO636.out).2.1); rintro e w184 ⟨rfl, hb⟩; replace HO_599000 := am (Kd.R_below (qR HO_599000.out) hb); replace HO636 := am (Kd.R_below (qR HO636.out) hb); replace BK598 := am (blk_below (g := gb598) (o := .cells #[.slice Ao14 t595.length co14] 28 (0, 0)) (qb BK598.out) hb); replace BK638 := am (blk_below (g := gb638) (o := .cells #[.slice Ao169 t634.length co169] 28 (0, 0)) (qb BK638.out) hb); replace HB := am (below_step qB hb); (try clear hb); (try clear hb2); (try clear hk); (try clear hi); have hcz185_0 := qz w184 BK638.out; have hfz185_0 := blk_frozen BK638.out 0) | (go_at_call 42; (with_reducible refine (spec_IsIdeal.calls kj66 _ _ t634 t637 t653 t654 _ ?side1 ?side2 A165.out).mono ?_); (case side1 => exact qC (Kd.R_reads' HO636.out).2.2); (case side2 => exact (Kd.R_reads' HO636.out).2.1); rintro e w186 ⟨rfl, hb⟩; replace HO_599000 := am (Kd.R_below (qR HO_599000.out) hb); replace HO636 := am (Kd.R_below (qR HO636.out) hb); replace BK598 := am (blk_below (g := gb598) (o := .cells #[.slice Ao14 t595.length co14] 28 (0, 0)) (qb BK598.out) hb); replace BK638 := am (blk_below (g := gb638) (o := .cells #[.slice Ao169 t634.length co169] 28 (0, 0)) (qb BK638.out) hb); replace HB := am (below_step qB hb); (try clear hb); (try clear hb2); (try clear hk); (try clear hi)))
           repeat (go_quiet (first | (go_at_call 36; (with_reducible refine (spec_DrawIdealOf.calls kj66 _ _ l1 t634 t637 _ ?side1 ?side2 A157.out).mono ?_); (case side1 => exact qC (Kd.C_below HR1.out HB.out)); (case side2 => exact HC1.out); rintro e w167 ⟨v635, rfl, ho0, hb⟩; have n0_ := am (Kd.R_elder' (qR HO_599000.out) (Kd.R_base ho0) hb); have HO636 := am (Kd.R_lower (Kd.R_new' ho0 (Kd.R_lt (qR HO_599000.out))) (below_size qB)); replace BK598 := am (blk_below (g := gb598) (o := .cells #[.slice Ao14 t595.length co14] 28 (0, 0)) (qb BK598.out) hb); replace HB := am (below_step qB hb); clear HO_599000; have HO_599000 := n0_; clear n0_; (try clear hb); (try clear hb2); (try clear hk); (try clear hi); (try clear ho0)) | ((with_reducible refine gate_dst (N := 23) rfl ?_); refine qx (N := 23) (cs := #[.slice none 0 0]) (t := 28) ?_; intro gb638 hg w168 hbox hb; replace HO_599000 := am (Kd.R_below (qR HO_599000.out) hb); replace HO636 := am (Kd.R_below (qR HO636.out) hb); have n2_ := am (blk_below (g := gb598) (o := .cells #[.slice Ao14 t595.length co14] 28 (0, 0)) (qb BK598.out) hb); have n3_ := am (below_step qB hb); have BK638 := am (hbox); have GW638 := am (qg w hg); have GE638 := am (qg w hg); have NB598_638 := am ((by rw [hg]; exact Nat.ne_of_lt (blk_lt (g := gb598) (o := .cells #[.slice Ao14 t595.length co14] 28 (0, 0)) (qb BK598.out)) : gb598 ≠ gb638)); have NB638_598 := am ((by rw [hg]; exact Nat.ne_of_gt (blk_lt (g := gb598) (o := .cells #[.slice Ao14 t595.length co14] 28 (0, 0)) (qb BK598.out)) : gb638 ≠ gb598)); clear BK598 HB; have BK598 := n2_; have HB := n3_; clear n2_ n3_; clear hb hbox hg; obtain ⟨Ao169, co169, eo169⟩ := Kd.R_slice HO636.out; subst eo169; have hnb170 := NB638_598.out; have hnc170 := NB598_638.out; have hcz171_0 := qz w168 BK638.out; have hfz171_0 := blk_frozen BK638.out 0) | (go_at_call 33; (with_reducible refine (impl_IdealOf.calls kj66 _ _ t634 t637 t639 t640 _ ?side1 ?side2 A158.out).mono ?_); (case side1 => refine (Kd.R_reads' (e := 3) (base := w.heap.size) (ok := fun k_ => (True ∧ some k_ ≠ (.slice Ao14 t595.length co14 : Value).ownBlock)) (n := t634.length) (c := co169) ?_).2.2; exact (qR ((Kd.R_mono (Kd.R_far (p := ⟨gb638, 0, none⟩) (Kd.R_types HO636.out BK638.out (by decide)) (fun _ hk => hk.2) (.slice Ao169 t634.length co169)) (fun _ h_ => h_.1))))); (case side2 => exact (Kd.R_reads' HO636.out).2.1); rintro e w172 ⟨rfl, hb⟩; replace HO_599000 := am (Kd.R_below (qR ((Kd.R_mono (Kd.R_far (p := ⟨gb638, 0, none⟩) (Kd.R_types HO_599000.out BK638.out (by decide)) (fun _ hk => hk.2) (.slice Ao169 t634.length co169)) (fun _ h_ => h_.1)))) hb); replace HO636 := am (Kd.R_below (qR ((Kd.R_mono (Kd.R_far (p := ⟨gb638, 0, none⟩) (Kd.R_types HO636.out BK638.out (by decide)) (fun _ hk => hk.2) (.slice Ao169 t634.length co169)) (fun _ h_ => h_.1)))) hb); replace BK598 := am (blk_below (g := gb598) (o := .cells #[.slice Ao14 t595.length co14] 28 (0, 0)) (by (with_reducible repeat (first | refine blk_drewN ?_ _ | refine blk_drew ?_ | refine blk_alloc ?_ _)); refine blk_far ?_ NB598_638.out _; refine qb ?_; exact BK598.out) hb); replace BK638 := am (blk_below (g := gb638) (o := .cells #[.slice Ao169 t634.length co169] 28 (0, 0)) (by (with_reducible repeat (first | refine blk_drewN ?_ _ | refine blk_drew ?_ | refine blk_alloc ?_ _)); refine blk_put (cs := #[.slice none 0 0]) ?_ 0 _ rfl; refine qb ?_; exact BK638.out) hb); replace HB := am (below_step qB hb); (try clear hb); (try clear hb2); (try clear hk); (try clear hi); have hcz173_0 := qz w172 BK638.out; have hfz173_0 := blk_frozen BK638.out 0) | (go_at_call 37; (with_reducible refine (spec_IdealOf.calls kj66 _ _ t634 t637 t641 t642 _ ?side1 ?side2 A159.out).mono ?_); (case side1 => exact qC (Kd.R_reads' HO636.out).2.2); (case side2 => exact (Kd.R_reads' HO636.out).2.1); rintro e w174 ⟨rfl, hb⟩; replace HO_599000 := am (Kd.R_below (qR HO_599000.out) hb); replace HO636 := am (Kd.R_below (qR HO636.out) hb); replace BK598 := am (blk_below (g := gb598) (o := .cells #[.slice Ao14 t595.length co14] 28 (0, 0)) (qb BK598.out) hb); replace BK638 := am (blk_below (g := gb638) (o := .cells #[.slice Ao169 t634.length co169] 28 (0, 0)) (qb BK638.out) hb); replace HB := am (below_step qB hb); (try clear hb); (try clear hb2); (try clear hk); (try clear hi); have hcz175_0 := qz w174 BK638.out; have hfz175_0 := blk_frozen BK638.out 0) | (go_at_call 32; (with_reducible refine (impl_TopOf.calls kj66 _ _ t634 t637 t643 t644 _ ?side1 ?side2 A160.out).mono ?_); (case side1 => exact qC (Kd.R_reads' HO636.out).2.2); (case side2 => exact (Kd.R_reads' HO636.out).2.1); rintro e w176 ⟨rfl, hb⟩; replace HO_599000 := am (Kd.R_below (qR HO_599000.out) hb); replace HO636 := am (Kd.R_below (qR HO636.out) hb); replace BK598 := am (blk_below (g := gb598) (o := .cells #[.slice Ao14 t595.length co14] 28 (0, 0)) (qb BK598.out) hb); replace BK638 := am (blk_below (g := gb638) (o := .cells #[.slice Ao169 t634.length co169] 28 (0, 0)) (qb BK638.out) hb); replace HB := am (below_step qB hb); (try clear hb); (try clear hb2); (try clear hk); (try clear hi); have hcz177_0 := qz w176 BK638.out; have hfz177_0 := blk_frozen BK638.out 0) | (go_at_call 38; (with_reducible refine (spec_TopOf.calls kj66 _ _ t634 t637 t645 t646 _ ?side1 ?side2 A161.out).mono ?_); (case side1 => exact qC (Kd.R_reads' HO636.out).2.2); (case side2 => exact (Kd.R_reads' HO636.out).2.1); rintro e w178 ⟨rfl, hb⟩; replace HO_599000 := am (Kd.R_below (qR HO_599000.out) hb); replace HO636 := am (Kd.R_below (qR HO636.out) hb); replace BK598 := am (blk_below (g := gb598) (o := .cells #[.slice Ao14 t595.length co14] 28 (0, 0)) (qb BK598.out) hb); replace BK638 := am (blk_below (g := gb638) (o := .cells #[.slice Ao169 t634.length co169] 28 (0, 0)) (qb BK638.out) hb); replace HB := am (below_step qB hb); (try clear hb); (try clear hb2); (try clear hk); (try clear hi); have hcz179_0 := qz w178 BK638.out; have hfz179_0 := blk_frozen BK638.out 0) | (go_at_call 39; (with_reducible refine (impl_BottomOf.calls kj66 _ _ t634 t637 t647 t648 _ ?side1 ?side2 A162.out).mono ?_); (case side1 => exact qC (Kd.R_reads' HO636.out).2.2); (case side2 => exact (Kd.R_reads' HO636.out).2.1); rintro e w180 ⟨rfl, hb⟩; replace HO_599000 := am (Kd.R_below (qR HO_599000.out) hb); replace HO636 := am (Kd.R_below (qR HO636.out) hb); replace BK598 := am (blk_below (g := gb598) (o := .cells #[.slice Ao14 t595.length co14] 28 (0, 0)) (qb BK598.out) hb); replace BK638 := am (blk_below (g := gb638) (o := .cells #[.slice Ao169 t634.length co169] 28 (0, 0)) (qb BK638.out) hb); replace HB := am (below_step qB hb); (try clear hb); (try clear hb2); (try clear hk); (try clear hi); have hcz181_0 := qz w180 BK638.out; have hfz181_0 := blk_frozen BK638.out 0) | (go_at_call 40; (with_reducible refine (spec_BottomOf.calls kj66 _ _ t634 t637 t649 t650 _ ?side1 ?side2 A163.out).mono ?_); (case side1 => exact qC (Kd.R_reads' HO636.out).2.2); (case side2 => exact (Kd.R_reads' HO636.out).2.1); rintro e w182 ⟨rfl, hb⟩; replace HO_599000 := am (Kd.R_below (qR HO_599000.out) hb); replace HO636 := am (Kd.R_below (qR HO636.out) hb); replace BK598 := am (blk_below (g := gb598) (o := .cells #[.slice Ao14 t595.length co14] 28 (0, 0)) (qb BK598.out) hb); replace BK638 := am (blk_below (g := gb638) (o := .cells #[.slice Ao169 t634.length co169] 28 (0, 0)) (qb BK638.out) hb); replace HB := am (below_step qB hb); (try clear hb); (try clear hb2); (try clear hk); (try clear hi); have hcz183_0 := qz w182 BK638.out; have hfz183_0 := blk_frozen BK638.out 0) | (go_at_call 41; (with_reducible refine (impl_IsIdeal.calls kj66 _ _ t634 t637 t651 t652 _ ?side1 ?side2 A164.out).mono ?_); (case side1 => exact qC (Kd.R_reads' HO636.out).2.2); (case side2 => exact (Kd.R_reads' HO636.out).2.1); rintro e w184 ⟨rfl, hb⟩; replace HO_599000 := am (Kd.R_below (qR HO_599000.out) hb); replace HO636 := am (Kd.R_below (qR HO636.out) hb); replace BK598 := am (blk_below (g := gb598) (o := .cells #[.slice Ao14 t595.length co14] 28 (0, 0)) (qb BK598.out) hb); replace BK638 := am (blk_below (g := gb638) (o := .cells #[.slice Ao169 t634.length co169] 28 (0, 0)) (qb BK638.out) hb); replace HB := am (below_step qB hb); (try clear hb); (try clear hb2); (try clear hk); (try clear hi); have hcz185_0 := qz w184 BK638.out; have hfz185_0 := blk_frozen BK638.out 0) | (go_at_call 42; (with_reducible refine (spec_IsIdeal.calls kj66 _ _ t634 t637 t653 t654 _ ?side1 ?side2 A165.out).mono ?_); (case side1 => exact qC (Kd.R_reads' HO636.out).2.2); (case side2 => exact (Kd.R_reads' HO636.out).2.1); rintro e w186 ⟨rfl, hb⟩; replace HO_599000 := am (Kd.R_below (qR HO_599000.out) hb); replace HO636 := am (Kd.R_below (qR HO636.out) hb); replace BK598 := am (blk_below (g := gb598) (o := .cells #[.slice Ao14 t595.length co14] 28 (0, 0)) (qb BK598.out) hb); replace BK638 := am (blk_below (g := gb638) (o := .cells #[.slice Ao169 t634.length co169] 28 (0, 0)) (qb BK638.out) hb); replace HB := am (below_step qB hb); (try clear hb); (try clear hb2); (try clear hk); (try clear hi))); go_upto_region 32 with (first | (go_at_call 36; (with_reducible refine (spec_DrawIdealOf.calls kj66 _ _ l1 t634 t637 _ ?side1 ?side2 A157.out).mono ?_); (case side1 => exact qC (Kd.C_below HR1.out HB.out)); (case side2 => exact HC1.out); rintro e w167 ⟨v635, rfl, ho0, hb⟩; have n0_ := am (Kd.R_elder' (qR HO_599000.out) (Kd.R_base ho0) hb); have HO636 := am (Kd.R_lower (Kd.R_new' ho0 (Kd.R_lt (qR HO_599000.out))) (below_size qB)); replace BK598 := am (blk_below (g := gb598) (o := .cells #[.slice Ao14 t595.length co14] 28 (0, 0)) (qb BK598.out) hb); replace HB := am (below_step qB hb); clear HO_599000; have HO_599000 := n0_; clear n0_; (try clear hb); (try clear hb2); (try clear hk); (try clear hi); (try clear ho0)) | ((with_reducible refine gate_dst (N := 23) rfl ?_); refine qx (N := 23) (cs := #[.slice none 0 0]) (t := 28) ?_; intro gb638 hg w168 hbox hb; replace HO_599000 := am (Kd.R_below (qR HO_599000.out) hb); replace HO636 := am (Kd.R_below (qR HO636.out) hb); have n2_ := am (blk_below (g := gb598) (o := .cells #[.slice Ao14 t595.length co14] 28 (0, 0)) (qb BK598.out) hb); have n3_ := am (below_step qB hb); have BK638 := am (hbox); have GW638 := am (qg w hg); have GE638 := am (qg w hg); have NB598_638 := am ((by rw [hg]; exact Nat.ne_of_lt (blk_lt (g := gb598) (o := .cells #[.slice Ao14 t595.length co14] 28 (0, 0)) (qb BK598.out)) : gb598 ≠ gb638)); have NB638_598 := am ((by rw [hg]; exact Nat.ne_of_gt (blk_lt (g := gb598) (o := .cells #[.slice Ao14 t595.length co14] 28 (0, 0)) (qb BK598.out)) : gb638 ≠ gb598)); clear BK598 HB; have BK598 := n2_; have HB := n3_; clear n2_ n3_; clear hb hbox hg; obtain ⟨Ao169, co169, eo169⟩ := Kd.R_slice HO636.out; subst eo169; have hnb170 := NB638_598.out; have hnc170 := NB598_638.out; have hcz171_0 := qz w168 BK638.out; have hfz171_0 := blk_frozen BK638.out 0) | (go_at_call 33; (with_reducible refine (impl_IdealOf.calls kj66 _ _ t634 t637 t639 t640 _ ?side1 ?side2 A158.out).mono ?_); (case side1 => refine (Kd.R_reads' (e := 3) (base := w.heap.size) (ok := fun k_ => (True ∧ some k_ ≠ (.slice Ao14 t595.length co14 : Value).ownBlock)) (n := t634.length) (c := co169) ?_).2.2; exact (qR ((Kd.R_mono (Kd.R_far (p := ⟨gb638, 0, none⟩) (Kd.R_types HO636.out BK638.out (by decide)) (fun _ hk => hk.2) (.slice Ao169 t634.length co169)) (fun _ h_ => h_.1))))); (case side2 => exact (Kd.R_reads' HO636.out).2.1); rintro e w172 ⟨rfl, hb⟩; replace HO_599000 := am (Kd.R_below (qR ((Kd.R_mono (Kd.R_far (p := ⟨gb638, 0, none⟩) (Kd.R_types HO_599000.out BK638.out (by decide)) (fun _ hk => hk.2) (.slice Ao169 t634.length co169)) (fun _ h_ => h_.1)))) hb); replace HO636 := am (Kd.R_below (qR ((Kd.R_mono (Kd.R_far (p := ⟨gb638, 0, none⟩) (Kd.R_types HO636.out BK638.out (by decide)) (fun _ hk => hk.2) (.slice Ao169 t634.length co169)) (fun _ h_ => h_.1)))) hb); replace BK598 := am (blk_below (g := gb598) (o := .cells #[.slice Ao14 t595.length co14] 28 (0, 0)) (by (with_reducible repeat (first | refine blk_drewN ?_ _ | refine blk_drew ?_ | refine blk_alloc ?_ _)); refine blk_far ?_ NB598_638.out _; refine qb ?_; exact BK598.out) hb); replace BK638 := am (blk_below (g := gb638) (o := .cells #[.slice Ao169 t634.length co169] 28 (0, 0)) (by (with_reducible repeat (first | refine blk_drewN ?_ _ | refine blk_drew ?_ | refine blk_alloc ?_ _)); refine blk_put (cs := #[.slice none 0 0]) ?_ 0 _ rfl; refine qb ?_; exact BK638.out) hb); replace HB := am (below_step qB hb); (try clear hb); (try clear hb2); (try clear hk); (try clear hi); have hcz173_0 := qz w172 BK638.out; have hfz173_0 := blk_frozen BK638.out 0) | (go_at_call 37; (with_reducible refine (spec_IdealOf.calls kj66 _ _ t634 t637 t641 t642 _ ?side1 ?side2 A159.out).mono ?_); (case side1 => exact qC (Kd.R_reads' HO636.out).2.2); (case side2 => exact (Kd.R_reads' HO636.out).2.1); rintro e w174 ⟨rfl, hb⟩; replace HO_599000 := am (Kd.R_below (qR HO_599000.out) hb); replace HO636 := am (Kd.R_below (qR HO636.out) hb); replace BK598 := am (blk_below (g := gb598) (o := .cells #[.slice Ao14 t595.length co14] 28 (0, 0)) (qb BK598.out) hb); replace BK638 := am (blk_below (g := gb638) (o := .cells #[.slice Ao169 t634.length co169] 28 (0, 0)) (qb BK638.out) hb); replace HB := am (below_step qB hb); (try clear hb); (try clear hb2); (try clear hk); (try clear hi); have hcz175_0 := qz w174 BK638.out; have hfz175_0 := blk_frozen BK638.out 0) | (go_at_call 32; (with_reducible refine (impl_TopOf.calls kj66 _ _ t634 t637 t643 t644 _ ?side1 ?side2 A160.out).mono ?_); (case side1 => exact qC (Kd.R_reads' HO636.out).2.2); (case side2 => exact (Kd.R_reads' HO636.out).2.1); rintro e w176 ⟨rfl, hb⟩; replace HO_599000 := am (Kd.R_below (qR HO_599000.out) hb); replace HO636 := am (Kd.R_below (qR HO636.out) hb); replace BK598 := am (blk_below (g := gb598) (o := .cells #[.slice Ao14 t595.length co14] 28 (0, 0)) (qb BK598.out) hb); replace BK638 := am (blk_below (g := gb638) (o := .cells #[.slice Ao169 t634.length co169] 28 (0, 0)) (qb BK638.out) hb); replace HB := am (below_step qB hb); (try clear hb); (try clear hb2); (try clear hk); (try clear hi); have hcz177_0 := qz w176 BK638.out; have hfz177_0 := blk_frozen BK638.out 0) | (go_at_call 38; (with_reducible refine (spec_TopOf.calls kj66 _ _ t634 t637 t645 t646 _ ?side1 ?side2 A161.out).mono ?_); (case side1 => exact qC (Kd.R_reads' HO636.out).2.2); (case side2 => exact (Kd.R_reads' HO636.out).2.1); rintro e w178 ⟨rfl, hb⟩; replace HO_599000 := am (Kd.R_below (qR HO_599000.out) hb); replace HO636 := am (Kd.R_below (qR HO636.out) hb); replace BK598 := am (blk_below (g := gb598) (o := .cells #[.slice Ao14 t595.length co14] 28 (0, 0)) (qb BK598.out) hb); replace BK638 := am (blk_below (g := gb638) (o := .cells #[.slice Ao169 t634.length co169] 28 (0, 0)) (qb BK638.out) hb); replace HB := am (below_step qB hb); (try clear hb); (try clear hb2); (try clear hk); (try clear hi); have hcz179_0 := qz w178 BK638.out; have hfz179_0 := blk_frozen BK638.out 0) | (go_at_call 39; (with_reducible refine (impl_BottomOf.calls kj66 _ _ t634 t637 t647 t648 _ ?side1 ?side2 A162.out).mono ?_); (case side1 => exact qC (Kd.R_reads' HO636.out).2.2); (case side2 => exact (Kd.R_reads' HO636.out).2.1); rintro e w180 ⟨rfl, hb⟩; replace HO_599000 := am (Kd.R_below (qR HO_599000.out) hb); replace HO636 := am (Kd.R_below (qR HO636.out) hb); replace BK598 := am (blk_below (g := gb598) (o := .cells #[.slice Ao14 t595.length co14] 28 (0, 0)) (qb BK598.out) hb); replace BK638 := am (blk_below (g := gb638) (o := .cells #[.slice Ao169 t634.length co169] 28 (0, 0)) (qb BK638.out) hb); replace HB := am (below_step qB hb); (try clear hb); (try clear hb2); (try clear hk); (try clear hi); have hcz181_0 := qz w180 BK638.out; have hfz181_0 := blk_frozen BK638.out 0) | (go_at_call 40; (with_reducible refine (spec_BottomOf.calls kj66 _ _ t634 t637 t649 t650 _ ?side1 ?side2 A163.out).mono ?_); (case side1 => exact qC (Kd.R_reads' HO636.out).2.2); (case side2 => exact (Kd.R_reads' HO636.out).2.1); rintro e w182 ⟨rfl, hb⟩; replace HO_599000 := am (Kd.R_below (qR HO_599000.out) hb); replace HO636 := am (Kd.R_below (qR HO636.out) hb); replace BK598 := am (blk_below (g := gb598) (o := .cells #[.slice Ao14 t595.length co14] 28 (0, 0)) (qb BK598.out) hb); replace BK638 := am (blk_below (g := gb638) (o := .cells #[.slice Ao169 t634.length co169] 28 (0, 0)) (qb BK638.out) hb); replace HB := am (below_step qB hb); (try clear hb); (try clear hb2); (try clear hk); (try clear hi); have hcz183_0 := qz w182 BK638.out; have hfz183_0 := blk_frozen BK638.out 0) | (go_at_call 41; (with_reducible refine (impl_IsIdeal.calls kj66 _ _ t634 t637 t651 t652 _ ?side1 ?side2 A164.out).mono ?_); (case side1 => exact qC (Kd.R_reads' HO636.out).2.2); (case side2 => exact (Kd.R_reads' HO636.out).2.1); rintro e w184 ⟨rfl, hb⟩; replace HO_599000 := am (Kd.R_below (qR HO_599000.out) hb); replace HO636 := am (Kd.R_below (qR HO636.out) hb); replace BK598 := am (blk_below (g := gb598) (o := .cells #[.slice Ao14 t595.length co14] 28 (0, 0)) (qb BK598.out) hb); replace BK638 := am (blk_below (g := gb638) (o := .cells #[.slice Ao169 t634.length co169] 28 (0, 0)) (qb BK638.out) hb); replace HB := am (below_step qB hb); (try clear hb); (try clear hb2); (try clear hk); (try clear hi); have hcz185_0 := qz w184 BK638.out; have hfz185_0 := blk_frozen BK638.out 0) | (go_at_call 42; (with_reducible refine (spec_IsIdeal.calls kj66 _ _ t634 t637 t653 t654 _ ?side1 ?side2 A165.out).mono ?_); (case side1 => exact qC (Kd.R_reads' HO636.out).2.2); (case side2 => exact (Kd.R_reads' HO636.out).2.1); rintro e w186 ⟨rfl, hb⟩; replace HO_599000 := am (Kd.R_below (qR HO_599000.out) hb); replace HO636 := am (Kd.R_below (qR HO636.out) hb); replace BK598 := am (blk_below (g := gb598) (o := .cells #[.slice Ao14 t595.length co14] 28 (0, 0)) (qb BK598.out) hb); replace BK638 := am (blk_below (g := gb638) (o := .cells #[.slice Ao169 t634.length co169] 28 (0, 0)) (qb BK638.out) hb); replace HB := am (below_step qB hb); (try clear hb); (try clear hb2); (try clear hk); (try clear hi))))
           (try simp only [Act.put, List.setIfInBounds_toArray, List.set_cons_zero, List.set_cons_succ])
           go_cut [337] (fun v337 wc => ∃ (kq : Nat) (x337_165 : Bool), v337 = .bool x337_165 ∧ Aside0 (laws_FnIdealsAndAntichains.j4 kq l1 t637 t639 t640 t643 t647 t651 x337_165 t634 = some r) ∧ Aside0 (kq ≤ kj66) ∧ Aside0 (Kd.R (Kd.int .i64) 3 wc w.heap.size (fun k_ => some k_ ≠ ((.slice Ao169 t634.length co169) : Value).ownBlock) (.slice Ao14 t595.length co14) t595) ∧ Aside0 (Kd.R (Kd.int .i64) 3 wc w.heap.size (fun k_ => some k_ ≠ ((.slice Ao14 t595.length co14) : Value).ownBlock) (.slice Ao169 t634.length co169) t634) ∧ Aside0 (wc.heap[gb598]? = some (.cells #[(.slice Ao14 t595.length co14)] 28 (0, 0))) ∧ Aside0 (wc.heap[gb638]? = some (.cells #[(.slice Ao169 t634.length co169)] 28 (0, 0))) ∧ Aside0 (Below w.heap.size w wc))
           case first =>
            have H := HC166.out
            clear HC166
            by_cases c187 : (t640 != t642) = true
            ·as_aux_lemma =>
               rw [if_pos c187] at H
               exact absurd (hrt.out ▸ H) (laws_FnIdealsAndAntichains.j4_no _ _ _ _ _ _ _ _ _)
            ·as_aux_lemma =>
               rw [if_neg c187] at H
               have c187b0 : (t640 != t642) = false := by simpa using c187
               (try (have c187b1 : decide (t640 = t642) = true := by simpa using c187))
               (try (have c187b2 : (t640 == t642) = true := by simpa using c187))
               clear c187
               (first | rw [c187b0] | (simp only [i64_w, i32_w]; rw [c187b0]) | skip)
               by_cases c188 : t639 = t641
               ·as_aux_lemma =>
                  rw [if_pos c188] at H
                  have c188b0 : (t639 == t641) = true := beq_iff_eq.mpr c188
                  have c188b1 : (t639 != t641) = false := bne_eq_false_iff_eq.mpr c188
                  clear c188
                  by_cases c189 : (t644 != t646) = true
                  ·as_aux_lemma =>
                     rw [if_pos c189] at H
                     exact absurd (hrt.out ▸ H) (laws_FnIdealsAndAntichains.j4_no _ _ _ _ _ _ _ _ _)
                  ·as_aux_lemma =>
                     rw [if_neg c189] at H
                     have c189b0 : (t644 != t646) = false := by simpa using c189
                     (try (have c189b1 : decide (t644 = t646) = true := by simpa using c189))
                     (try (have c189b2 : (t644 == t646) = true := by simpa using c189))
                     clear c189
                     by_cases c190 : t643 = t645
                     ·as_aux_lemma =>
                        rw [if_pos c190] at H
                        have c190b0 : (t643 == t645) = true := beq_iff_eq.mpr c190
                        have c190b1 : (t643 != t645) = false := bne_eq_false_iff_eq.mpr c190
                        clear c190
                        by_cases c191 : (t648 != t650) = true
                        ·as_aux_lemma =>
                           rw [if_pos c191] at H
                           exact absurd (hrt.out ▸ H) (laws_FnIdealsAndAntichains.j4_no _ _ _ _ _ _ _ _ _)
                        ·as_aux_lemma =>
                           rw [if_neg c191] at H
                           have c191b0 : (t648 != t650) = false := by simpa using c191
                           (try (have c191b1 : decide (t648 = t650) = true := by simpa using c191))
                           (try (have c191b2 : (t648 == t650) = true := by simpa using c191))
                           clear c191
                           by_cases c192 : t647 = t649
                           ·as_aux_lemma =>
                              rw [if_pos c192] at H
                              have c192b0 : (t647 == t649) = true := beq_iff_eq.mpr c192
                              have c192b1 : (t647 != t649) = false := bne_eq_false_iff_eq.mpr c192
                              clear c192
                              by_cases c193 : (t652 != t654) = true
                              ·as_aux_lemma =>
                                 rw [if_pos c193] at H
                                 exact absurd (hrt.out ▸ H) (laws_FnIdealsAndAntichains.j4_no _ _ _ _ _ _ _ _ _)
                              ·as_aux_lemma =>
                                 rw [if_neg c193] at H
                                 have c193b0 : (t652 != t654) = false := by simpa using c193
                                 (try (have c193b1 : decide (t652 = t654) = true := by simpa using c193))
                                 (try (have c193b2 : (t652 == t654) = true := by simpa using c193))
                                 clear c193
                                 by_cases c194 : (t651 != t653) = true
                                 ·as_aux_lemma =>
                                    rw [if_pos c194] at H
                                    exact absurd (hrt.out ▸ H) (laws_FnIdealsAndAntichains.j4_no _ _ _ _ _ _ _ _ _)
                                 ·as_aux_lemma =>
                                    rw [if_neg c194] at H
                                    have c194b0 : (t651 != t653) = false := by simpa using c194
                                    (try (have c194b1 : decide (t651 = t653) = true := by simpa using c194))
                                    (try (have c194b2 : (t651 == t653) = true := by simpa using c194))
                                    clear c194
                                    by_cases c195 : (t644 != t640) = true
                                    ·as_aux_lemma =>
                                       rw [if_pos c195] at H
                                       exact absurd (hrt.out ▸ H) (laws_FnIdealsAndAntichains.j4_no _ _ _ _ _ _ _ _ _)
                                    ·as_aux_lemma =>
                                       rw [if_neg c195] at H
                                       have c195b0 : (t644 != t640) = false := by simpa using c195
                                       (try (have c195b1 : decide (t644 = t640) = true := by simpa using c195))
                                       (try (have c195b2 : (t644 == t640) = true := by simpa using c195))
                                       clear c195
                                       by_cases c196 : (t648 != t640) = true
                                       ·as_aux_lemma =>
                                          rw [if_pos c196] at H
                                          exact absurd (hrt.out ▸ H) (laws_FnIdealsAndAntichains.j4_no _ _ _ _ _ _ _ _ _)
                                       ·rw [if_neg c196] at H
                                        have c196b0 : (t648 != t640) = false := by simpa using c196
                                        (try (have c196b1 : decide (t648 = t640) = true := by simpa using c196))
                                        (try (have c196b2 : (t648 == t640) = true := by simpa using c196))
                                        clear c196
                                        have H' := am H
                                        clear H
                                        go_wp2
                                        repeat (go_quiet (fail); try go_wp2)
                                        go_meet
                                        case rel => exact ⟨_, ((t652 != t640)), qe, H', ⟨by have := HJ10.out; have := HJ66.out; first | omega | exact Nat.le_refl _⟩, ⟨qR (Kd.R_mono HO_599000.out (fun _ hk => hk.2))⟩, ⟨qR (Kd.R_mono HO636.out (fun _ hk => hk.2))⟩, ⟨qb BK598.out⟩, ⟨qb BK638.out⟩, ⟨qB⟩⟩
                           ·rw [if_neg c192] at H
                            exact absurd (hrt.out ▸ H) (laws_FnIdealsAndAntichains.j4_no _ _ _ _ _ _ _ _ _)
                     ·rw [if_neg c190] at H
                      exact absurd (hrt.out ▸ H) (laws_FnIdealsAndAntichains.j4_no _ _ _ _ _ _ _ _ _)
               ·rw [if_neg c188] at H
                exact absurd (hrt.out ▸ H) (laws_FnIdealsAndAntichains.j4_no _ _ _ _ _ _ _ _ _)
           case rest =>
            clear HC166
            try clear c1
            try clear c2
            try clear p2
            try clear c3
            try clear c4
            try clear c6
            try clear p6
            try clear q6
            try clear hx6
            try clear qi6
            try clear c7
            try clear c8
            try clear c9
            try clear c10
            try clear c11
            try clear c17
            try clear c18
            try clear c19
            try clear c25
            try clear c25b0
            try clear c25b1
            try clear c25b2
            try clear c27
            try clear c28
            try clear c28b0
            try clear c28b1
            try clear c28b2
            try clear c32
            try clear c33
            try clear c33b0
            try clear c33b1
            try clear c33b2
            try clear c38
            try clear c38b0
            try clear c38b1
            try clear c38b2
            try clear c44
            try clear c44b0
            try clear c44b1
            try clear c44b2
            try clear p62
            try clear q62
            try clear hx62
            try clear qi62
            try clear p63
            try clear q63
            try clear hx63
            try clear p64
            try clear c66
            try clear c68
            try clear c70
            try clear c70b0
            try clear c70b1
            try clear c70b2
            try clear c71
            try clear c71b0
            try clear c71b1
            try clear c72
            try clear c72b0
            try clear c72b1
            try clear c73
            try clear c73b0
            try clear c73b1
            try clear c75
            try clear c75b0
            try clear c76
            try clear c76b0
            try clear c87
            try clear c89
            try clear c89b0
            try clear c90
            try clear c90b0
            try clear c91
            try clear c91b0
            try clear c95
            try clear c95b0
            try clear c95b1
            try clear c95b2
            try clear c97
            try clear c97b0
            try clear c98
            try clear c98b0
            try clear c99
            try clear c101
            try clear c102
            try clear c103
            try clear c103b0
            try clear c103b1
            try clear c105
            try clear c107
            try clear c108
            try clear c108b0
            try clear c110
            try clear c110b0
            try clear c111
            try clear c111b0
            try clear c112
            try clear c112b0
            try clear c170
            try clear c187
            try clear c187b0
            try clear c187b1
            try clear c187b2
            try clear c188
            try clear c188b0
            try clear c188b1
            try clear c189
            try clear c189b0
            try clear c189b1
            try clear c189b2
            try clear c190
            try clear c190b0
            try clear c190b1
            try clear c191
            try clear c191b0
            try clear c191b1
            try clear c191b2
            try clear c192
            try clear c192b0
            try clear c192b1
            try clear c193
            try clear c193b0
            try clear c193b1
            try clear c193b2
            try clear c194
            try clear c194b0
            try clear c194b1
            try clear c194b2
            try clear c195
            try clear c195b0
            try clear c195b1
            try clear c195b2
            try clear c196
            try clear c196b0
            try clear c196b1
            try clear c196b2
            try clear hcz113_0
            try clear hcz115_0
            try clear hcz118_0
            try clear hcz120_0
            try clear hcz123_0
            try clear hcz125_0
            try clear hcz128_0
            try clear hcz130_0
            try clear hcz133_0
            try clear hcz135_0
            try clear hcz138_0
            try clear hcz140_0
            try clear hcz143_0
            try clear hcz145_0
            try clear hcz148_0
            try clear hcz150_0
            try clear hcz153_0
            try clear hcz155_0
            try clear hcz15_0
            try clear hcz171_0
            try clear hcz173_0
            try clear hcz175_0
            try clear hcz177_0
            try clear hcz179_0
            try clear hcz17_0
            try clear hcz181_0
            try clear hcz183_0
            try clear hcz185_0
            try clear hcz19_0
            try clear hcz21_0
            try clear hcz23_0
            try clear hcz49_0
            try clear hcz56_0
            try clear hcz58_0
            try clear hcz80_0
            try clear hfz113_0
            try clear hfz115_0
            try clear hfz118_0
            try clear hfz120_0
            try clear hfz123_0
            try clear hfz125_0
            try clear hfz128_0
            try clear hfz130_0
            try clear hfz133_0
            try clear hfz135_0
            try clear hfz138_0
            try clear hfz140_0
            try clear hfz143_0
            try clear hfz145_0
            try clear hfz148_0
            try clear hfz150_0
            try clear hfz153_0
            try clear hfz155_0
            try clear hfz15_0
            try clear hfz171_0
            try clear hfz173_0
            try clear hfz175_0
            try clear hfz177_0
            try clear hfz179_0
            try clear hfz17_0
            try clear hfz181_0
            try clear hfz183_0
            try clear hfz185_0
            try clear hfz19_0
            try clear hfz21_0
            try clear hfz23_0
            try clear hfz49_0
            try clear hfz56_0
            try clear hfz58_0
            try clear hfz80_0
            try clear hx621_0
            try clear hx622_0
            try clear hx623_0
            try clear hx629_0
            try clear hx633_0
            try clear p2
            try clear p6
            try clear p62
            try clear p621
            try clear p622
            try clear p623
            try clear p629
            try clear p63
            try clear p633
            try clear p64
            try clear q6
            try clear q62
            try clear q621
            try clear q622
            try clear q623
            try clear q629
            try clear q63
            try clear q633
            obtain ⟨kq, x337_165, rfl, HA, HJ165, HO_599000, HO_639000, BK598, BK638, HB⟩ := hcut
            cases kq with
            | zero => exact absurd HA.out (by simp [laws_FnIdealsAndAntichains.j4])
            | succ kj165 =>
             have H := HA.out
             clear HA
             simp only [laws_FnIdealsAndAntichains.j4] at H
             by_cases c197 : x337_165 = true
             ·subst c197
              have H1 : (some false) = some r := by rw [if_pos rfl] at H; exact H
              exact absurd (Option.some.inj H1) (by rw [hrt.out]; decide)
             ·as_aux_lemma =>
                replace c197 := Bool.eq_false_iff.mpr c197
                subst c197
                have H1 : (if t640 = true then ((impl_IsAntichain.f kj165 t634 t643).bind fun bt655 => ((impl_IsAntichain.f kj165 t634 t647).bind fun bt657 => (if bt655.2 = true then (if bt655.1 = true then (if bt657.2 = true then (if bt657.1 = true then ((laws_nIdeal.f kj165 t634 t639).bind fun t659 => (if t659 = true then (if (t651 != (t639 == t637)) = true then (laws_FnIdealsAndAntichains.j5 kj165 l1 true) else (if t637 > 0 then (if t643 = 0 then (laws_FnIdealsAndAntichains.j5 kj165 l1 true) else (laws_FnIdealsAndAntichains.j5 kj165 l1 (t647 == 0))) else (laws_FnIdealsAndAntichains.j5 kj165 l1 false))) else (laws_FnIdealsAndAntichains.j5 kj165 l1 true))) else (laws_FnIdealsAndAntichains.j5 kj165 l1 true)) else (laws_FnIdealsAndAntichains.j5 kj165 l1 true)) else (laws_FnIdealsAndAntichains.j5 kj165 l1 true)) else (laws_FnIdealsAndAntichains.j5 kj165 l1 true)))) else ((spec_DrawIsAntichain.f kj165 l1).bind fun bt669 => ((impl_IsAntichain.f kj165 bt669.1 bt669.2).bind fun bt674 => ((spec_IsAntichain.f kj165 bt669.1 bt669.2).bind fun bt676 => (if (bt674.2 == bt676.2) = true then (some (bt674.1 == bt676.1)) else (some false)))))) = some r := by rw [if_neg (show ¬ (false = true) by decide)] at H; exact H
                clear H
                have H := H1
                clear H1
                by_cases c198 : t640 = true
                ·as_aux_lemma =>
                   subst c198
                   have H1 : ((impl_IsAntichain.f kj165 t634 t643).bind fun bt655 => ((impl_IsAntichain.f kj165 t634 t647).bind fun bt657 => (if bt655.2 = true then (if bt655.1 = true then (if bt657.2 = true then (if bt657.1 = true then ((laws_nIdeal.f kj165 t634 t639).bind fun t659 => (if t659 = true then (if (t651 != (t639 == t637)) = true then (laws_FnIdealsAndAntichains.j5 kj165 l1 true) else (if t637 > 0 then (if t643 = 0 then (laws_FnIdealsAndAntichains.j5 kj165 l1 true) else (laws_FnIdealsAndAntichains.j5 kj165 l1 (t647 == 0))) else (laws_FnIdealsAndAntichains.j5 kj165 l1 false))) else (laws_FnIdealsAndAntichains.j5 kj165 l1 true))) else (laws_FnIdealsAndAntichains.j5 kj165 l1 true)) else (laws_FnIdealsAndAntichains.j5 kj165 l1 true)) else (laws_FnIdealsAndAntichains.j5 kj165 l1 true)) else (laws_FnIdealsAndAntichains.j5 kj165 l1 true)))) = some r := by rw [if_pos rfl] at H; exact H
                   clear H
                   have H := H1
                   clear H1
                   replace H := Option.bind_eq_some_iff.mp H
                   obtain ⟨⟨t655, t656⟩, A1990, H⟩ := H
                   replace H : ((impl_IsAntichain.f kj165 t634 t647).bind fun bt657 => (if t656 = true then (if t655 = true then (if bt657.2 = true then (if bt657.1 = true then ((laws_nIdeal.f kj165 t634 t639).bind fun t659 => (if t659 = true then (if (t651 != (t639 == t637)) = true then (laws_FnIdealsAndAntichains.j5 kj165 l1 true) else (if t637 > 0 then (if t643 = 0 then (laws_FnIdealsAndAntichains.j5 kj165 l1 true) else (laws_FnIdealsAndAntichains.j5 kj165 l1 (t647 == 0))) else (laws_FnIdealsAndAntichains.j5 kj165 l1 false))) else (laws_FnIdealsAndAntichains.j5 kj165 l1 true))) else (laws_FnIdealsAndAntichains.j5 kj165 l1 true)) else (laws_FnIdealsAndAntichains.j5 kj165 l1 true)) else (laws_FnIdealsAndAntichains.j5 kj165 l1 true)) else (laws_FnIdealsAndAntichains.j5 kj165 l1 true))) = some r := H
                   have A199 := am A1990
                   clear A1990
                   replace H := Option.bind_eq_some_iff.mp H
                   obtain ⟨⟨t657, t658⟩, A2000, H⟩ := H
                   replace H : (if t656 = true then (if t655 = true then (if t658 = true then (if t657 = true then ((laws_nIdeal.f kj165 t634 t639).bind fun t659 => (if t659 = true then (if (t651 != (t639 == t637)) = true then (laws_FnIdealsAndAntichains.j5 kj165 l1 true) else (if t637 > 0 then (if t643 = 0 then (laws_FnIdealsAndAntichains.j5 kj165 l1 true) else (laws_FnIdealsAndAntichains.j5 kj165 l1 (t647 == 0))) else (laws_FnIdealsAndAntichains.j5 kj165 l1 false))) else (laws_FnIdealsAndAntichains.j5 kj165 l1 true))) else (laws_FnIdealsAndAntichains.j5 kj165 l1 true)) else (laws_FnIdealsAndAntichains.j5 kj165 l1 true)) else (laws_FnIdealsAndAntichains.j5 kj165 l1 true)) else (laws_FnIdealsAndAntichains.j5 kj165 l1 true)) = some r := H
                   have A200 := am A2000
                   clear A2000
                   have HC201 := am H
                   clear H
                   have hnb202 := NB638_598.out
                   have hnc202 := NB598_638.out
                   have hcz203_0 := qz wc BK638.out
                   have hfz203_0 := blk_frozen BK638.out 0
                   go_upto_region 37 with (first | (go_at_call 43; (with_reducible refine (impl_IsAntichain.calls kj165 _ _ t634 t643 t655 t656 _ ?side1 ?side2 A199.out).mono ?_); (case side1 => exact qC (Kd.R_reads' HO_639000.out).2.2); (case side2 => exact (Kd.R_reads' HO_639000.out).2.1); rintro e w204 ⟨rfl, hb⟩; replace HO_599000 := am (Kd.R_below (qR HO_599000.out) hb); replace HO_639000 := am (Kd.R_below (qR HO_639000.out) hb); replace BK598 := am (blk_below (g := gb598) (o := .cells #[.slice Ao14 t595.length co14] 28 (0, 0)) (qb BK598.out) hb); replace BK638 := am (blk_below (g := gb638) (o := .cells #[.slice Ao169 t634.length co169] 28 (0, 0)) (qb BK638.out) hb); replace HB := am (below_step qB hb); (try clear hb); (try clear hb2); (try clear hk); (try clear hi); have hcz205_0 := qz w204 BK638.out; have hfz205_0 := blk_frozen BK638.out 0) | (go_at_call 43; (with_reducible refine (impl_IsAntichain.calls kj165 _ _ t634 t647 t657 t658 _ ?side1 ?side2 A200.out).mono ?_); (case side1 => exact qC (Kd.R_reads' HO_639000.out).2.2); (case side2 => exact (Kd.R_reads' HO_639000.out).2.1); rintro e w206 ⟨rfl, hb⟩; replace HO_599000 := am (Kd.R_below (qR HO_599000.out) hb); replace HO_639000 := am (Kd.R_below (qR HO_639000.out) hb); replace BK598 := am (blk_below (g := gb598) (o := .cells #[.slice Ao14 t595.length co14] 28 (0, 0)) (qb BK598.out) hb); replace BK638 := am (blk_below (g := gb638) (o := .cells #[.slice Ao169 t634.length co169] 28 (0, 0)) (qb BK638.out) hb); replace HB := am (below_step qB hb); (try clear hb); (try clear hb2); (try clear hk); (try clear hi)))
                   repeat (go_quiet (first | (go_at_call 43; (with_reducible refine (impl_IsAntichain.calls kj165 _ _ t634 t643 t655 t656 _ ?side1 ?side2 A199.out).mono ?_); (case side1 => exact qC (Kd.R_reads' HO_639000.out).2.2); (case side2 => exact (Kd.R_reads' HO_639000.out).2.1); rintro e w204 ⟨rfl, hb⟩; replace HO_599000 := am (Kd.R_below (qR HO_599000.out) hb); replace HO_639000 := am (Kd.R_below (qR HO_639000.out) hb); replace BK598 := am (blk_below (g := gb598) (o := .cells #[.slice Ao14 t595.length co14] 28 (0, 0)) (qb BK598.out) hb); replace BK638 := am (blk_below (g := gb638) (o := .cells #[.slice Ao169 t634.length co169] 28 (0, 0)) (qb BK638.out) hb); replace HB := am (below_step qB hb); (try clear hb); (try clear hb2); (try clear hk); (try clear hi); have hcz205_0 := qz w204 BK638.out; have hfz205_0 := blk_frozen BK638.out 0) | (go_at_call 43; (with_reducible refine (impl_IsAntichain.calls kj165 _ _ t634 t647 t657 t658 _ ?side1 ?side2 A200.out).mono ?_); (case side1 => exact qC (Kd.R_reads' HO_639000.out).2.2); (case side2 => exact (Kd.R_reads' HO_639000.out).2.1); rintro e w206 ⟨rfl, hb⟩; replace HO_599000 := am (Kd.R_below (qR HO_599000.out) hb); replace HO_639000 := am (Kd.R_below (qR HO_639000.out) hb); replace BK598 := am (blk_below (g := gb598) (o := .cells #[.slice Ao14 t595.length co14] 28 (0, 0)) (qb BK598.out) hb); replace BK638 := am (blk_below (g := gb638) (o := .cells #[.slice Ao169 t634.length co169] 28 (0, 0)) (qb BK638.out) hb); replace HB := am (below_step qB hb); (try clear hb); (try clear hb2); (try clear hk); (try clear hi))); go_upto_region 37 with (first | (go_at_call 43; (with_reducible refine (impl_IsAntichain.calls kj165 _ _ t634 t643 t655 t656 _ ?side1 ?side2 A199.out).mono ?_); (case side1 => exact qC (Kd.R_reads' HO_639000.out).2.2); (case side2 => exact (Kd.R_reads' HO_639000.out).2.1); rintro e w204 ⟨rfl, hb⟩; replace HO_599000 := am (Kd.R_below (qR HO_599000.out) hb); replace HO_639000 := am (Kd.R_below (qR HO_639000.out) hb); replace BK598 := am (blk_below (g := gb598) (o := .cells #[.slice Ao14 t595.length co14] 28 (0, 0)) (qb BK598.out) hb); replace BK638 := am (blk_below (g := gb638) (o := .cells #[.slice Ao169 t634.length co169] 28 (0, 0)) (qb BK638.out) hb); replace HB := am (below_step qB hb); (try clear hb); (try clear hb2); (try clear hk); (try clear hi); have hcz205_0 := qz w204 BK638.out; have hfz205_0 := blk_frozen BK638.out 0) | (go_at_call 43; (with_reducible refine (impl_IsAntichain.calls kj165 _ _ t634 t647 t657 t658 _ ?side1 ?side2 A200.out).mono ?_); (case side1 => exact qC (Kd.R_reads' HO_639000.out).2.2); (case side2 => exact (Kd.R_reads' HO_639000.out).2.1); rintro e w206 ⟨rfl, hb⟩; replace HO_599000 := am (Kd.R_below (qR HO_599000.out) hb); replace HO_639000 := am (Kd.R_below (qR HO_639000.out) hb); replace BK598 := am (blk_below (g := gb598) (o := .cells #[.slice Ao14 t595.length co14] 28 (0, 0)) (qb BK598.out) hb); replace BK638 := am (blk_below (g := gb638) (o := .cells #[.slice Ao169 t634.length co169] 28 (0, 0)) (qb BK638.out) hb); replace HB := am (below_step qB hb); (try clear hb); (try clear hb2); (try clear hk); (try clear hi))))
                   (try simp only [Act.put, List.setIfInBounds_toArray, List.set_cons_zero, List.set_cons_succ])
                   go_cut [389] (fun v389 wc => ∃ (kq : Nat) (x389_200 : Bool), v389 = .bool x389_200 ∧ Aside0 (laws_FnIdealsAndAntichains.j5 kq l1 x389_200 = some r) ∧ Aside0 (kq ≤ kj165) ∧ Aside0 (Kd.R (Kd.int .i64) 3 wc w.heap.size (fun k_ => some k_ ≠ ((.slice Ao169 t634.length co169) : Value).ownBlock) (.slice Ao14 t595.length co14) t595) ∧ Aside0 (Kd.R (Kd.int .i64) 3 wc w.heap.size (fun k_ => some k_ ≠ ((.slice Ao14 t595.length co14) : Value).ownBlock) (.slice Ao169 t634.length co169) t634) ∧ Aside0 (wc.heap[gb598]? = some (.cells #[(.slice Ao14 t595.length co14)] 28 (0, 0))) ∧ Aside0 (wc.heap[gb638]? = some (.cells #[(.slice Ao169 t634.length co169)] 28 (0, 0))) ∧ Aside0 (Below w.heap.size w wc))
                   case first =>
                    have H := HC201.out
                    clear HC201
                    by_cases c207 : t656 = true
                    ·as_aux_lemma =>
                       subst c207
                       have H1 : (if t655 = true then (if t658 = true then (if t657 = true then ((laws_nIdeal.f kj165 t634 t639).bind fun t659 => (if t659 = true then (if (t651 != (t639 == t637)) = true then (laws_FnIdealsAndAntichains.j5 kj165 l1 true) else (if t637 > 0 then (if t643 = 0 then (laws_FnIdealsAndAntichains.j5 kj165 l1 true) else (laws_FnIdealsAndAntichains.j5 kj165 l1 (t647 == 0))) else (laws_FnIdealsAndAntichains.j5 kj165 l1 false))) else (laws_FnIdealsAndAntichains.j5 kj165 l1 true))) else (laws_FnIdealsAndAntichains.j5 kj165 l1 true)) else (laws_FnIdealsAndAntichains.j5 kj165 l1 true)) else (laws_FnIdealsAndAntichains.j5 kj165 l1 true)) = some r := by rw [if_pos rfl] at H; exact H
                       clear H
                       have H := H1
                       clear H1
                       by_cases c208 : t655 = true
                       ·as_aux_lemma =>
                          subst c208
                          have H1 : (if t658 = true then (if t657 = true then ((laws_nIdeal.f kj165 t634 t639).bind fun t659 => (if t659 = true then (if (t651 != (t639 == t637)) = true then (laws_FnIdealsAndAntichains.j5 kj165 l1 true) else (if t637 > 0 then (if t643 = 0 then (laws_FnIdealsAndAntichains.j5 kj165 l1 true) else (laws_FnIdealsAndAntichains.j5 kj165 l1 (t647 == 0))) else (laws_FnIdealsAndAntichains.j5 kj165 l1 false))) else (laws_FnIdealsAndAntichains.j5 kj165 l1 true))) else (laws_FnIdealsAndAntichains.j5 kj165 l1 true)) else (laws_FnIdealsAndAntichains.j5 kj165 l1 true)) = some r := by rw [if_pos rfl] at H; exact H
                          clear H
                          have H := H1
                          clear H1
                          by_cases c209 : t658 = true
                          ·as_aux_lemma =>
                             subst c209
                             have H1 : (if t657 = true then ((laws_nIdeal.f kj165 t634 t639).bind fun t659 => (if t659 = true then (if (t651 != (t639 == t637)) = true then (laws_FnIdealsAndAntichains.j5 kj165 l1 true) else (if t637 > 0 then (if t643 = 0 then (laws_FnIdealsAndAntichains.j5 kj165 l1 true) else (laws_FnIdealsAndAntichains.j5 kj165 l1 (t647 == 0))) else (laws_FnIdealsAndAntichains.j5 kj165 l1 false))) else (laws_FnIdealsAndAntichains.j5 kj165 l1 true))) else (laws_FnIdealsAndAntichains.j5 kj165 l1 true)) = some r := by rw [if_pos rfl] at H; exact H
                             clear H
                             have H := H1
                             clear H1
                             by_cases c210 : t657 = true
                             ·as_aux_lemma =>
                                subst c210
                                have H1 : ((laws_nIdeal.f kj165 t634 t639).bind fun t659 => (if t659 = true then (if (t651 != (t639 == t637)) = true then (laws_FnIdealsAndAntichains.j5 kj165 l1 true) else (if t637 > 0 then (if t643 = 0 then (laws_FnIdealsAndAntichains.j5 kj165 l1 true) else (laws_FnIdealsAndAntichains.j5 kj165 l1 (t647 == 0))) else (laws_FnIdealsAndAntichains.j5 kj165 l1 false))) else (laws_FnIdealsAndAntichains.j5 kj165 l1 true))) = some r := by rw [if_pos rfl] at H; exact H
                                clear H
                                have H := H1
                                clear H1
                                replace H := Option.bind_eq_some_iff.mp H
                                obtain ⟨t659, A2110, H⟩ := H
                                replace H : (if t659 = true then (if (t651 != (t639 == t637)) = true then (laws_FnIdealsAndAntichains.j5 kj165 l1 true) else (if t637 > 0 then (if t643 = 0 then (laws_FnIdealsAndAntichains.j5 kj165 l1 true) else (laws_FnIdealsAndAntichains.j5 kj165 l1 (t647 == 0))) else (laws_FnIdealsAndAntichains.j5 kj165 l1 false))) else (laws_FnIdealsAndAntichains.j5 kj165 l1 true)) = some r := H
                                have A211 := am A2110
                                clear A2110
                                by_cases c212 : t659 = true
                                ·as_aux_lemma =>
                                   subst c212
                                   have H1 : (if (t651 != (t639 == t637)) = true then (laws_FnIdealsAndAntichains.j5 kj165 l1 true) else (if t637 > 0 then (if t643 = 0 then (laws_FnIdealsAndAntichains.j5 kj165 l1 true) else (laws_FnIdealsAndAntichains.j5 kj165 l1 (t647 == 0))) else (laws_FnIdealsAndAntichains.j5 kj165 l1 false))) = some r := by rw [if_pos rfl] at H; exact H
                                   clear H
                                   have H := H1
                                   clear H1
                                   by_cases c213 : (t651 != (t639 == t637)) = true
                                   ·as_aux_lemma =>
                                      rw [if_pos c213] at H
                                      exact absurd (hrt.out ▸ H) (laws_FnIdealsAndAntichains.j5_no _ _)
                                   ·as_aux_lemma =>
                                      rw [if_neg c213] at H
                                      have c213b0 : (t651 != (t639 == t637)) = false := by simpa using c213
                                      (try (have c213b1 : decide (t651 = (t639 == t637)) = true := by simpa using c213))
                                      (try (have c213b2 : (t651 == (t639 == t637)) = true := by simpa using c213))
                                      clear c213
                                      (first | rw [c213b0] | (simp only [i64_w, i32_w]; rw [c213b0]) | skip)
                                      by_cases c217 : t637 > 0
                                      ·as_aux_lemma =>
                                         rw [if_pos c217] at H
                                         have c217b0 : decide (0 < t637) = true := decide_eq_true c217
                                         clear c217
                                         by_cases c218 : t643 = 0
                                         ·as_aux_lemma =>
                                            rw [if_pos c218] at H
                                            exact absurd (hrt.out ▸ H) (laws_FnIdealsAndAntichains.j5_no _ _)
                                         ·as_aux_lemma =>
                                            rw [if_neg c218] at H
                                            have c218b0 : (t643 == 0) = false := beq_eq_false_iff_ne.mpr c218
                                            have c218b1 : (t643 != 0) = true := bne_iff_ne.mpr c218
                                            have H' := am H
                                            clear H
                                            have hnb222 := NB638_598.out
                                            have hnc222 := NB598_638.out
                                            have hcz223_0 := qz w206 BK638.out
                                            have hfz223_0 := blk_frozen BK638.out 0
                                            go_wp2_with (first | (go_at_call 44; (with_reducible refine (laws_nIdeal.calls kj165 _ _ t634 t639 true _ ?side1 ?side2 A211.out).mono ?_); (case side1 => exact qC (Kd.R_reads' HO_639000.out).2.2); (case side2 => exact (Kd.R_reads' HO_639000.out).2.1); rintro e w224 ⟨rfl, hb⟩; replace HO_599000 := am (Kd.R_below (qR HO_599000.out) hb); replace HO_639000 := am (Kd.R_below (qR HO_639000.out) hb); replace BK598 := am (blk_below (g := gb598) (o := .cells #[.slice Ao14 t595.length co14] 28 (0, 0)) (qb BK598.out) hb); replace BK638 := am (blk_below (g := gb638) (o := .cells #[.slice Ao169 t634.length co169] 28 (0, 0)) (qb BK638.out) hb); replace HB := am (below_step qB hb); (try clear hb); (try clear hb2); (try clear hk); (try clear hi)))
                                            repeat (go_quiet (first | (go_at_call 44; (with_reducible refine (laws_nIdeal.calls kj165 _ _ t634 t639 true _ ?side1 ?side2 A211.out).mono ?_); (case side1 => exact qC (Kd.R_reads' HO_639000.out).2.2); (case side2 => exact (Kd.R_reads' HO_639000.out).2.1); rintro e w224 ⟨rfl, hb⟩; replace HO_599000 := am (Kd.R_below (qR HO_599000.out) hb); replace HO_639000 := am (Kd.R_below (qR HO_639000.out) hb); replace BK598 := am (blk_below (g := gb598) (o := .cells #[.slice Ao14 t595.length co14] 28 (0, 0)) (qb BK598.out) hb); replace BK638 := am (blk_below (g := gb638) (o := .cells #[.slice Ao169 t634.length co169] 28 (0, 0)) (qb BK638.out) hb); replace HB := am (below_step qB hb); (try clear hb); (try clear hb2); (try clear hk); (try clear hi))); try go_wp2_with (first | (go_at_call 44; (with_reducible refine (laws_nIdeal.calls kj165 _ _ t634 t639 true _ ?side1 ?side2 A211.out).mono ?_); (case side1 => exact qC (Kd.R_reads' HO_639000.out).2.2); (case side2 => exact (Kd.R_reads' HO_639000.out).2.1); rintro e w224 ⟨rfl, hb⟩; replace HO_599000 := am (Kd.R_below (qR HO_599000.out) hb); replace HO_639000 := am (Kd.R_below (qR HO_639000.out) hb); replace BK598 := am (blk_below (g := gb598) (o := .cells #[.slice Ao14 t595.length co14] 28 (0, 0)) (qb BK598.out) hb); replace BK638 := am (blk_below (g := gb638) (o := .cells #[.slice Ao169 t634.length co169] 28 (0, 0)) (qb BK638.out) hb); replace HB := am (below_step qB hb); (try clear hb); (try clear hb2); (try clear hk); (try clear hi))))
                                            go_meet
                                            case rel => exact ⟨_, ((t647 == 0)), qe, H', ⟨by have := HJ10.out; have := HJ66.out; have := HJ165.out; first | omega | exact Nat.le_refl _⟩, ⟨qR HO_599000.out⟩, ⟨qR HO_639000.out⟩, ⟨qb BK598.out⟩, ⟨qb BK638.out⟩, ⟨qB⟩⟩
                                      ·as_aux_lemma =>
                                         rw [if_neg c217] at H
                                         have c217b0 : decide (0 < t637) = false := decide_eq_false c217
                                         clear c217
                                         have H' := am H
                                         clear H
                                         have hnb225 := NB638_598.out
                                         have hnc225 := NB598_638.out
                                         have hcz226_0 := qz w206 BK638.out
                                         have hfz226_0 := blk_frozen BK638.out 0
                                         go_wp2_with (first | (go_at_call 44; (with_reducible refine (laws_nIdeal.calls kj165 _ _ t634 t639 true _ ?side1 ?side2 A211.out).mono ?_); (case side1 => exact qC (Kd.R_reads' HO_639000.out).2.2); (case side2 => exact (Kd.R_reads' HO_639000.out).2.1); rintro e w227 ⟨rfl, hb⟩; replace HO_599000 := am (Kd.R_below (qR HO_599000.out) hb); replace HO_639000 := am (Kd.R_below (qR HO_639000.out) hb); replace BK598 := am (blk_below (g := gb598) (o := .cells #[.slice Ao14 t595.length co14] 28 (0, 0)) (qb BK598.out) hb); replace BK638 := am (blk_below (g := gb638) (o := .cells #[.slice Ao169 t634.length co169] 28 (0, 0)) (qb BK638.out) hb); replace HB := am (below_step qB hb); (try clear hb); (try clear hb2); (try clear hk); (try clear hi)))
                                         repeat (go_quiet (first | (go_at_call 44; (with_reducible refine (laws_nIdeal.calls kj165 _ _ t634 t639 true _ ?side1 ?side2 A211.out).mono ?_); (case side1 => exact qC (Kd.R_reads' HO_639000.out).2.2); (case side2 => exact (Kd.R_reads' HO_639000.out).2.1); rintro e w227 ⟨rfl, hb⟩; replace HO_599000 := am (Kd.R_below (qR HO_599000.out) hb); replace HO_639000 := am (Kd.R_below (qR HO_639000.out) hb); replace BK598 := am (blk_below (g := gb598) (o := .cells #[.slice Ao14 t595.length co14] 28 (0, 0)) (qb BK598.out) hb); replace BK638 := am (blk_below (g := gb638) (o := .cells #[.slice Ao169 t634.length co169] 28 (0, 0)) (qb BK638.out) hb); replace HB := am (below_step qB hb); (try clear hb); (try clear hb2); (try clear hk); (try clear hi))); try go_wp2_with (first | (go_at_call 44; (with_reducible refine (laws_nIdeal.calls kj165 _ _ t634 t639 true _ ?side1 ?side2 A211.out).mono ?_); (case side1 => exact qC (Kd.R_reads' HO_639000.out).2.2); (case side2 => exact (Kd.R_reads' HO_639000.out).2.1); rintro e w227 ⟨rfl, hb⟩; replace HO_599000 := am (Kd.R_below (qR HO_599000.out) hb); replace HO_639000 := am (Kd.R_below (qR HO_639000.out) hb); replace BK598 := am (blk_below (g := gb598) (o := .cells #[.slice Ao14 t595.length co14] 28 (0, 0)) (qb BK598.out) hb); replace BK638 := am (blk_below (g := gb638) (o := .cells #[.slice Ao169 t634.length co169] 28 (0, 0)) (qb BK638.out) hb); replace HB := am (below_step qB hb); (try clear hb); (try clear hb2); (try clear hk); (try clear hi))))
                                         go_meet
                                         case rel => exact ⟨_, (false), qe, H', ⟨by have := HJ10.out; have := HJ66.out; have := HJ165.out; first | omega | exact Nat.le_refl _⟩, ⟨qR HO_599000.out⟩, ⟨qR HO_639000.out⟩, ⟨qb BK598.out⟩, ⟨qb BK638.out⟩, ⟨qB⟩⟩
                                ·as_aux_lemma =>
                                   replace c212 := Bool.eq_false_iff.mpr c212
                                   subst c212
                                   have H1 : (laws_FnIdealsAndAntichains.j5 kj165 l1 true) = some r := by rw [if_neg (show ¬ (false = true) by decide)] at H; exact H
                                   exact absurd (hrt.out ▸ H1) (laws_FnIdealsAndAntichains.j5_no _ _)
                             ·as_aux_lemma =>
                                replace c210 := Bool.eq_false_iff.mpr c210
                                subst c210
                                have H1 : (laws_FnIdealsAndAntichains.j5 kj165 l1 true) = some r := by rw [if_neg (show ¬ (false = true) by decide)] at H; exact H
                                exact absurd (hrt.out ▸ H1) (laws_FnIdealsAndAntichains.j5_no _ _)
                          ·as_aux_lemma =>
                             replace c209 := Bool.eq_false_iff.mpr c209
                             subst c209
                             have H1 : (laws_FnIdealsAndAntichains.j5 kj165 l1 true) = some r := by rw [if_neg (show ¬ (false = true) by decide)] at H; exact H
                             exact absurd (hrt.out ▸ H1) (laws_FnIdealsAndAntichains.j5_no _ _)
                       ·as_aux_lemma =>
                          replace c208 := Bool.eq_false_iff.mpr c208
                          subst c208
                          have H1 : (laws_FnIdealsAndAntichains.j5 kj165 l1 true) = some r := by rw [if_neg (show ¬ (false = true) by decide)] at H; exact H
                          exact absurd (hrt.out ▸ H1) (laws_FnIdealsAndAntichains.j5_no _ _)
                    ·as_aux_lemma =>
                       replace c207 := Bool.eq_false_iff.mpr c207
                       subst c207
                       have H1 : (laws_FnIdealsAndAntichains.j5 kj165 l1 true) = some r := by rw [if_neg (show ¬ (false = true) by decide)] at H; exact H
                       exact absurd (hrt.out ▸ H1) (laws_FnIdealsAndAntichains.j5_no _ _)
                   case rest =>
                    clear HC201
                    try clear c1
                    try clear c2
                    try clear p2
                    try clear c3
                    try clear c4
                    try clear c6
                    try clear p6
                    try clear q6
                    try clear hx6
                    try clear qi6
                    try clear c7
                    try clear c8
                    try clear c9
                    try clear c10
                    try clear c11
                    try clear c17
                    try clear c18
                    try clear c19
                    try clear c20
                    try clear c21
                    try clear c22
                    try clear c25
                    try clear c25b0
                    try clear c25b1
                    try clear c25b2
                    try clear c27
                    try clear c28
                    try clear c28b0
                    try clear c28b1
                    try clear c28b2
                    try clear c32
                    try clear c33
                    try clear c33b0
                    try clear c33b1
                    try clear c33b2
                    try clear c38
                    try clear c38b0
                    try clear c38b1
                    try clear c38b2
                    try clear c44
                    try clear c44b0
                    try clear c44b1
                    try clear c44b2
                    try clear p62
                    try clear q62
                    try clear hx62
                    try clear qi62
                    try clear p63
                    try clear q63
                    try clear hx63
                    try clear p64
                    try clear c66
                    try clear c68
                    try clear c70
                    try clear c70b0
                    try clear c70b1
                    try clear c70b2
                    try clear c71
                    try clear c71b0
                    try clear c71b1
                    try clear c72
                    try clear c72b0
                    try clear c72b1
                    try clear c73
                    try clear c73b0
                    try clear c73b1
                    try clear c75
                    try clear c75b0
                    try clear c76
                    try clear c76b0
                    try clear c87
                    try clear c89
                    try clear c89b0
                    try clear c90
                    try clear c90b0
                    try clear c91
                    try clear c91b0
                    try clear c95
                    try clear c95b0
                    try clear c95b1
                    try clear c95b2
                    try clear c97
                    try clear c97b0
                    try clear c98
                    try clear c98b0
                    try clear c99
                    try clear c101
                    try clear c102
                    try clear c103
                    try clear c103b0
                    try clear c103b1
                    try clear c105
                    try clear c107
                    try clear c108
                    try clear c108b0
                    try clear c110
                    try clear c110b0
                    try clear c111
                    try clear c111b0
                    try clear c112
                    try clear c112b0
                    try clear c170
                    try clear c187
                    try clear c187b0
                    try clear c187b1
                    try clear c187b2
                    try clear c188
                    try clear c188b0
                    try clear c188b1
                    try clear c189
                    try clear c189b0
                    try clear c189b1
                    try clear c189b2
                    try clear c190
                    try clear c190b0
                    try clear c190b1
                    try clear c191
                    try clear c191b0
                    try clear c191b1
                    try clear c191b2
                    try clear c192
                    try clear c192b0
                    try clear c192b1
                    try clear c193
                    try clear c193b0
                    try clear c193b1
                    try clear c193b2
                    try clear c194
                    try clear c194b0
                    try clear c194b1
                    try clear c194b2
                    try clear c195
                    try clear c195b0
                    try clear c195b1
                    try clear c195b2
                    try clear c196
                    try clear c196b0
                    try clear c196b1
                    try clear c196b2
                    try clear c197
                    try clear c198
                    try clear c202
                    try clear c207
                    try clear c208
                    try clear c209
                    try clear c210
                    try clear c212
                    try clear c213
                    try clear c213b0
                    try clear c213b1
                    try clear c213b2
                    try clear c214
                    try clear c217
                    try clear c217b0
                    try clear c218
                    try clear c218b0
                    try clear c218b1
                    try clear c219
                    try clear c222
                    try clear c225
                    try clear c228
                    try clear hcz113_0
                    try clear hcz115_0
                    try clear hcz118_0
                    try clear hcz120_0
                    try clear hcz123_0
                    try clear hcz125_0
                    try clear hcz128_0
                    try clear hcz130_0
                    try clear hcz133_0
                    try clear hcz135_0
                    try clear hcz138_0
                    try clear hcz140_0
                    try clear hcz143_0
                    try clear hcz145_0
                    try clear hcz148_0
                    try clear hcz150_0
                    try clear hcz153_0
                    try clear hcz155_0
                    try clear hcz15_0
                    try clear hcz171_0
                    try clear hcz173_0
                    try clear hcz175_0
                    try clear hcz177_0
                    try clear hcz179_0
                    try clear hcz17_0
                    try clear hcz181_0
                    try clear hcz183_0
                    try clear hcz185_0
                    try clear hcz19_0
                    try clear hcz203_0
                    try clear hcz205_0
                    try clear hcz215_0
                    try clear hcz21_0
                    try clear hcz220_0
                    try clear hcz223_0
                    try clear hcz226_0
                    try clear hcz229_0
                    try clear hcz23_0
                    try clear hcz49_0
                    try clear hcz56_0
                    try clear hcz58_0
                    try clear hcz80_0
                    try clear hfz113_0
                    try clear hfz115_0
                    try clear hfz118_0
                    try clear hfz120_0
                    try clear hfz123_0
                    try clear hfz125_0
                    try clear hfz128_0
                    try clear hfz130_0
                    try clear hfz133_0
                    try clear hfz135_0
                    try clear hfz138_0
                    try clear hfz140_0
                    try clear hfz143_0
                    try clear hfz145_0
                    try clear hfz148_0
                    try clear hfz150_0
                    try clear hfz153_0
                    try clear hfz155_0
                    try clear hfz15_0
                    try clear hfz171_0
                    try clear hfz173_0
                    try clear hfz175_0
                    try clear hfz177_0
                    try clear hfz179_0
                    try clear hfz17_0
                    try clear hfz181_0
                    try clear hfz183_0
                    try clear hfz185_0
                    try clear hfz19_0
                    try clear hfz203_0
                    try clear hfz205_0
                    try clear hfz215_0
                    try clear hfz21_0
                    try clear hfz220_0
                    try clear hfz223_0
                    try clear hfz226_0
                    try clear hfz229_0
                    try clear hfz23_0
                    try clear hfz49_0
                    try clear hfz56_0
                    try clear hfz58_0
                    try clear hfz80_0
                    try clear hx621_0
                    try clear hx622_0
                    try clear hx623_0
                    try clear hx629_0
                    try clear hx633_0
                    try clear p2
                    try clear p6
                    try clear p62
                    try clear p621
                    try clear p622
                    try clear p623
                    try clear p629
                    try clear p63
                    try clear p633
                    try clear p64
                    try clear q6
                    try clear q62
                    try clear q621
                    try clear q622
                    try clear q623
                    try clear q629
                    try clear q63
                    try clear q633
                    obtain ⟨kq, x389_200, rfl, HA, HJ200, HO_599000, HO_639000, BK598, BK638, HB⟩ := hcut
                    cases kq with
                    | zero => exact absurd HA.out (by simp [laws_FnIdealsAndAntichains.j5])
                    | succ kj200 =>
                     have H := HA.out
                     clear HA
                     simp only [laws_FnIdealsAndAntichains.j5] at H
                     by_cases c231 : x389_200 = true
                     ·subst c231
                      have H1 : (some false) = some r := by rw [if_pos rfl] at H; exact H
                      exact absurd (Option.some.inj H1) (by rw [hrt.out]; decide)
                     ·as_aux_lemma =>
                        replace c231 := Bool.eq_false_iff.mpr c231
                        subst c231
                        have H1 : ((spec_DrawIsAntichain.f kj200 l1).bind fun bt660 => ((impl_IsAntichain.f kj200 bt660.1 bt660.2).bind fun bt665 => ((spec_IsAntichain.f kj200 bt660.1 bt660.2).bind fun bt667 => (if (bt665.2 == bt667.2) = true then (some (bt665.1 == bt667.1)) else (some false))))) = some r := by rw [if_neg (show ¬ (false = true) by decide)] at H; exact H
                        clear H
                        have H := H1
                        clear H1
                        replace H := Option.bind_eq_some_iff.mp H
                        obtain ⟨⟨t660, t663⟩, A2320, H⟩ := H
                        replace H : ((impl_IsAntichain.f kj200 t660 t663).bind fun bt665 => ((spec_IsAntichain.f kj200 t660 t663).bind fun bt667 => (if (bt665.2 == bt667.2) = true then (some (bt665.1 == bt667.1)) else (some false)))) = some r := H
                        have A232 := am A2320
                        clear A2320
                        replace H := Option.bind_eq_some_iff.mp H
                        obtain ⟨⟨t665, t666⟩, A2330, H⟩ := H
                        replace H : ((spec_IsAntichain.f kj200 t660 t663).bind fun bt667 => (if (t666 == bt667.2) = true then (some (t665 == bt667.1)) else (some false))) = some r := H
                        have A233 := am A2330
                        clear A2330
                        replace H := Option.bind_eq_some_iff.mp H
                        obtain ⟨⟨t667, t668⟩, A2340, H⟩ := H
                        replace H : (if (t666 == t668) = true then (some (t665 == t667)) else (some false)) = some r := H
                        have A234 := am A2340
                        clear A2340
                        by_cases c235 : (t666 == t668) = true
                        ·rw [if_pos c235] at H
                         have c235b0 : (t666 == t668) = true := c235
                         (try (have c235b1 : decide (t666 = t668) = true := by simpa using c235))
                         (try (have c235b2 : (t666 == t668) = true := by simpa using c235))
                         clear c235
                         obtain rfl := Option.some.inj H
                         go_wp2_with (first | (go_at_call 45; (with_reducible refine (spec_DrawIsAntichain.calls kj200 _ _ l1 t660 t663 _ ?side1 ?side2 A232.out).mono ?_); (case side1 => exact qC (Kd.C_below HR1.out HB.out)); (case side2 => exact HC1.out); rintro e w236 ⟨v661, rfl, ho0, hb⟩; have n0_ := am (Kd.R_elder' (qR HO_599000.out) (Kd.R_base ho0) hb); have n1_ := am (Kd.R_elder' (qR HO_639000.out) (Kd.R_base ho0) hb); have HO662 := am (Kd.R_lower (Kd.R_new' (Kd.R_new' ho0 (Kd.R_lt (qR HO_599000.out))) (Kd.R_lt (qR HO_639000.out))) (below_size qB)); replace BK598 := am (blk_below (g := gb598) (o := .cells #[.slice Ao14 t595.length co14] 28 (0, 0)) (qb BK598.out) hb); replace BK638 := am (blk_below (g := gb638) (o := .cells #[.slice Ao169 t634.length co169] 28 (0, 0)) (qb BK638.out) hb); replace HB := am (below_step qB hb); clear HO_599000 HO_639000; have HO_599000 := n0_; have HO_639000 := n1_; clear n0_ n1_; (try clear hb); (try clear hb2); (try clear hk); (try clear hi); (try clear ho0)) | ((with_reducible refine gate_dst (N := 45) rfl ?_); refine qx (N := 45) (cs := #[.slice none 0 0]) (t := 28) ?_; intro gb664 hg w237 hbox hb; replace HO_599000 := am (Kd.R_below (qR HO_599000.out) hb); replace HO_639000 := am (Kd.R_below (qR HO_639000.out) hb); replace HO662 := am (Kd.R_below (qR HO662.out) hb); have n3_ := am (blk_below (g := gb598) (o := .cells #[.slice Ao14 t595.length co14] 28 (0, 0)) (qb BK598.out) hb); have n4_ := am (blk_below (g := gb638) (o := .cells #[.slice Ao169 t634.length co169] 28 (0, 0)) (qb BK638.out) hb); have n5_ := am (below_step qB hb); have BK664 := am (hbox); have GW664 := am (qg w hg); have GE664 := am (qg w hg); have NB598_664 := am ((by rw [hg]; exact Nat.ne_of_lt (blk_lt (g := gb598) (o := .cells #[.slice Ao14 t595.length co14] 28 (0, 0)) (qb BK598.out)) : gb598 ≠ gb664)); have NB664_598 := am ((by rw [hg]; exact Nat.ne_of_gt (blk_lt (g := gb598) (o := .cells #[.slice Ao14 t595.length co14] 28 (0, 0)) (qb BK598.out)) : gb664 ≠ gb598)); have NB638_664 := am ((by rw [hg]; exact Nat.ne_of_lt (blk_lt (g := gb638) (o := .cells #[.slice Ao169 t634.length co169] 28 (0, 0)) (qb BK638.out)) : gb638 ≠ gb664)); have NB664_638 := am ((by rw [hg]; exact Nat.ne_of_gt (blk_lt (g := gb638) (o := .cells #[.slice Ao169 t634.length co169] 28 (0, 0)) (qb BK638.out)) : gb664 ≠ gb638)); clear BK598 BK638 HB; have BK598 := n3_; have BK638 := n4_; have HB := n5_; clear n3_ n4_ n5_; clear hb hbox hg; obtain ⟨Ao238, co238, eo238⟩ := Kd.R_slice HO662.out; subst eo238; have hnb239 := NB664_598.out; have hnc239 := NB598_664.out; have hnb240 := NB664_638.out; have hnc240 := NB638_664.out; have hcz241_0 := qz w237 BK664.out; have hfz241_0 := blk_frozen BK664.out 0) | (go_at_call 43; (with_reducible refine (impl_IsAntichain.calls kj200 _ _ t660 t663 t665 t666 _ ?side1 ?side2 A233.out).mono ?_); (case side1 => refine (Kd.R_reads' (e := 3) (base := w.heap.size) (ok := fun k_ => ((True ∧ some k_ ≠ (.slice Ao14 t595.length co14 : Value).ownBlock) ∧ some k_ ≠ (.slice Ao169 t634.length co169 : Value).ownBlock)) (n := t660.length) (c := co238) ?_).2.2; exact (qR ((Kd.R_mono (Kd.R_far (p := ⟨gb664, 0, none⟩) (Kd.R_types HO662.out BK664.out (by decide)) (fun _ hk => hk.2) (.slice Ao238 t660.length co238)) (fun _ h_ => h_.1))))); (case side2 => exact (Kd.R_reads' HO662.out).2.1); rintro e w242 ⟨rfl, hb⟩; replace HO_599000 := am (Kd.R_below (qR ((Kd.R_mono (Kd.R_far (p := ⟨gb664, 0, none⟩) (Kd.R_types HO_599000.out BK664.out (by decide)) (fun _ hk => hk.2) (.slice Ao238 t660.length co238)) (fun _ h_ => h_.1)))) hb); replace HO_639000 := am (Kd.R_below (qR ((Kd.R_mono (Kd.R_far (p := ⟨gb664, 0, none⟩) (Kd.R_types HO_639000.out BK664.out (by decide)) (fun _ hk => hk.2) (.slice Ao238 t660.length co238)) (fun _ h_ => h_.1)))) hb); replace HO662 := am (Kd.R_below (qR ((Kd.R_mono (Kd.R_far (p := ⟨gb664, 0, none⟩) (Kd.R_types HO662.out BK664.out (by decide)) (fun _ hk => hk.2) (.slice Ao238 t660.length co238)) (fun _ h_ => h_.1)))) hb); replace BK598 := am (blk_below (g := gb598) (o := .cells #[.slice Ao14 t595.length co14] 28 (0, 0)) (by (with_reducible repeat (first | refine blk_drewN ?_ _ | refine blk_drew ?_ | refine blk_alloc ?_ _)); refine blk_far ?_ NB598_664.out _; refine qb ?_; exact BK598.out) hb); replace BK638 := am (blk_below (g := gb638) (o := .cells #[.slice Ao169 t634.length co169] 28 (0, 0)) (by (with_reducible repeat (first | refine blk_drewN ?_ _ | refine blk_drew ?_ | refine blk_alloc ?_ _)); refine blk_far ?_ NB638_664.out _; refine qb ?_; exact BK638.out) hb); replace BK664 := am (blk_below (g := gb664) (o := .cells #[.slice Ao238 t660.length co238] 28 (0, 0)) (by (with_reducible repeat (first | refine blk_drewN ?_ _ | refine blk_drew ?_ | refine blk_alloc ?_ _)); refine blk_put (cs := #[.slice none 0 0]) ?_ 0 _ rfl; refine qb ?_; exact BK664.out) hb); replace HB := am (below_step qB hb); (try clear hb); (try clear hb2); (try clear hk); (try clear hi); have hcz243_0 := qz w242 BK664.out; have hfz243_0 := blk_frozen BK664.out 0) | (go_at_call 46; (with_reducible refine (spec_IsAntichain.calls kj200 _ _ t660 t663 t667 t668 _ ?side1 ?side2 A234.out).mono ?_); (case side1 => exact qC (Kd.R_reads' HO662.out).2.2); (case side2 => exact (Kd.R_reads' HO662.out).2.1); rintro e w244 ⟨rfl, hb⟩; replace HO_599000 := am (Kd.R_below (qR HO_599000.out) hb); replace HO_639000 := am (Kd.R_below (qR HO_639000.out) hb); replace HO662 := am (Kd.R_below (qR HO662.out) hb); replace BK598 := am (blk_below (g := gb598) (o := .cells #[.slice Ao14 t595.length co14] 28 (0, 0)) (qb BK598.out) hb); replace BK638 := am (blk_below (g := gb638) (o := .cells #[.slice Ao169 t634.length co169] 28 (0, 0)) (qb BK638.out) hb); replace BK664 := am (blk_below (g := gb664) (o := .cells #[.slice Ao238 t660.length co238] 28 (0, 0)) (qb BK664.out) hb); replace HB := am (below_step qB hb); (try clear hb); (try clear hb2); (try clear hk); (try clear hi)))
                         repeat (go_quiet (first | (go_at_call 45; (with_reducible refine (spec_DrawIsAntichain.calls kj200 _ _ l1 t660 t663 _ ?side1 ?side2 A232.out).mono ?_); (case side1 => exact qC (Kd.C_below HR1.out HB.out)); (case side2 => exact HC1.out); rintro e w236 ⟨v661, rfl, ho0, hb⟩; have n0_ := am (Kd.R_elder' (qR HO_599000.out) (Kd.R_base ho0) hb); have n1_ := am (Kd.R_elder' (qR HO_639000.out) (Kd.R_base ho0) hb); have HO662 := am (Kd.R_lower (Kd.R_new' (Kd.R_new' ho0 (Kd.R_lt (qR HO_599000.out))) (Kd.R_lt (qR HO_639000.out))) (below_size qB)); replace BK598 := am (blk_below (g := gb598) (o := .cells #[.slice Ao14 t595.length co14] 28 (0, 0)) (qb BK598.out) hb); replace BK638 := am (blk_below (g := gb638) (o := .cells #[.slice Ao169 t634.length co169] 28 (0, 0)) (qb BK638.out) hb); replace HB := am (below_step qB hb); clear HO_599000 HO_639000; have HO_599000 := n0_; have HO_639000 := n1_; clear n0_ n1_; (try clear hb); (try clear hb2); (try clear hk); (try clear hi); (try clear ho0)) | ((with_reducible refine gate_dst (N := 45) rfl ?_); refine qx (N := 45) (cs := #[.slice none 0 0]) (t := 28) ?_; intro gb664 hg w237 hbox hb; replace HO_599000 := am (Kd.R_below (qR HO_599000.out) hb); replace HO_639000 := am (Kd.R_below (qR HO_639000.out) hb); replace HO662 := am (Kd.R_below (qR HO662.out) hb); have n3_ := am (blk_below (g := gb598) (o := .cells #[.slice Ao14 t595.length co14] 28 (0, 0)) (qb BK598.out) hb); have n4_ := am (blk_below (g := gb638) (o := .cells #[.slice Ao169 t634.length co169] 28 (0, 0)) (qb BK638.out) hb); have n5_ := am (below_step qB hb); have BK664 := am (hbox); have GW664 := am (qg w hg); have GE664 := am (qg w hg); have NB598_664 := am ((by rw [hg]; exact Nat.ne_of_lt (blk_lt (g := gb598) (o := .cells #[.slice Ao14 t595.length co14] 28 (0, 0)) (qb BK598.out)) : gb598 ≠ gb664)); have NB664_598 := am ((by rw [hg]; exact Nat.ne_of_gt (blk_lt (g := gb598) (o := .cells #[.slice Ao14 t595.length co14] 28 (0, 0)) (qb BK598.out)) : gb664 ≠ gb598)); have NB638_664 := am ((by rw [hg]; exact Nat.ne_of_lt (blk_lt (g := gb638) (o := .cells #[.slice Ao169 t634.length co169] 28 (0, 0)) (qb BK638.out)) : gb638 ≠ gb664)); have NB664_638 := am ((by rw [hg]; exact Nat.ne_of_gt (blk_lt (g := gb638) (o := .cells #[.slice Ao169 t634.length co169] 28 (0, 0)) (qb BK638.out)) : gb664 ≠ gb638)); clear BK598 BK638 HB; have BK598 := n3_; have BK638 := n4_; have HB := n5_; clear n3_ n4_ n5_; clear hb hbox hg; obtain ⟨Ao238, co238, eo238⟩ := Kd.R_slice HO662.out; subst eo238; have hnb239 := NB664_598.out; have hnc239 := NB598_664.out; have hnb240 := NB664_638.out; have hnc240 := NB638_664.out; have hcz241_0 := qz w237 BK664.out; have hfz241_0 := blk_frozen BK664.out 0) | (go_at_call 43; (with_reducible refine (impl_IsAntichain.calls kj200 _ _ t660 t663 t665 t666 _ ?side1 ?side2 A233.out).mono ?_); (case side1 => refine (Kd.R_reads' (e := 3) (base := w.heap.size) (ok := fun k_ => ((True ∧ some k_ ≠ (.slice Ao14 t595.length co14 : Value).ownBlock) ∧ some k_ ≠ (.slice Ao169 t634.length co169 : Value).ownBlock)) (n := t660.length) (c := co238) ?_).2.2; exact (qR ((Kd.R_mono (Kd.R_far (p := ⟨gb664, 0, none⟩) (Kd.R_types HO662.out BK664.out (by decide)) (fun _ hk => hk.2) (.slice Ao238 t660.length co238)) (fun _ h_ => h_.1))))); (case side2 => exact (Kd.R_reads' HO662.out).2.1); rintro e w242 ⟨rfl, hb⟩; replace HO_599000 := am (Kd.R_below (qR ((Kd.R_mono (Kd.R_far (p := ⟨gb664, 0, none⟩) (Kd.R_types HO_599000.out BK664.out (by decide)) (fun _ hk => hk.2) (.slice Ao238 t660.length co238)) (fun _ h_ => h_.1)))) hb); replace HO_639000 := am (Kd.R_below (qR ((Kd.R_mono (Kd.R_far (p := ⟨gb664, 0, none⟩) (Kd.R_types HO_639000.out BK664.out (by decide)) (fun _ hk => hk.2) (.slice Ao238 t660.length co238)) (fun _ h_ => h_.1)))) hb); replace HO662 := am (Kd.R_below (qR ((Kd.R_mono (Kd.R_far (p := ⟨gb664, 0, none⟩) (Kd.R_types HO662.out BK664.out (by decide)) (fun _ hk => hk.2) (.slice Ao238 t660.length co238)) (fun _ h_ => h_.1)))) hb); replace BK598 := am (blk_below (g := gb598) (o := .cells #[.slice Ao14 t595.length co14] 28 (0, 0)) (by (with_reducible repeat (first | refine blk_drewN ?_ _ | refine blk_drew ?_ | refine blk_alloc ?_ _)); refine blk_far ?_ NB598_664.out _; refine qb ?_; exact BK598.out) hb); replace BK638 := am (blk_below (g := gb638) (o := .cells #[.slice Ao169 t634.length co169] 28 (0, 0)) (by (with_reducible repeat (first | refine blk_drewN ?_ _ | refine blk_drew ?_ | refine blk_alloc ?_ _)); refine blk_far ?_ NB638_664.out _; refine qb ?_; exact BK638.out) hb); replace BK664 := am (blk_below (g := gb664) (o := .cells #[.slice Ao238 t660.length co238] 28 (0, 0)) (by (with_reducible repeat (first | refine blk_drewN ?_ _ | refine blk_drew ?_ | refine blk_alloc ?_ _)); refine blk_put (cs := #[.slice none 0 0]) ?_ 0 _ rfl; refine qb ?_; exact BK664.out) hb); replace HB := am (below_step qB hb); (try clear hb); (try clear hb2); (try clear hk); (try clear hi); have hcz243_0 := qz w242 BK664.out; have hfz243_0 := blk_frozen BK664.out 0) | (go_at_call 46; (with_reducible refine (spec_IsAntichain.calls kj200 _ _ t660 t663 t667 t668 _ ?side1 ?side2 A234.out).mono ?_); (case side1 => exact qC (Kd.R_reads' HO662.out).2.2); (case side2 => exact (Kd.R_reads' HO662.out).2.1); rintro e w244 ⟨rfl, hb⟩; replace HO_599000 := am (Kd.R_below (qR HO_599000.out) hb); replace HO_639000 := am (Kd.R_below (qR HO_639000.out) hb); replace HO662 := am (Kd.R_below (qR HO662.out) hb); replace BK598 := am (blk_below (g := gb598) (o := .cells #[.slice Ao14 t595.length co14] 28 (0, 0)) (qb BK598.out) hb); replace BK638 := am (blk_below (g := gb638) (o := .cells #[.slice Ao169 t634.length co169] 28 (0, 0)) (qb BK638.out) hb); replace BK664 := am (blk_below (g := gb664) (o := .cells #[.slice Ao238 t660.length co238] 28 (0, 0)) (qb BK664.out) hb); replace HB := am (below_step qB hb); (try clear hb); (try clear hb2); (try clear hk); (try clear hi))); try go_wp2_with (first | (go_at_call 45; (with_reducible refine (spec_DrawIsAntichain.calls kj200 _ _ l1 t660 t663 _ ?side1 ?side2 A232.out).mono ?_); (case side1 => exact qC (Kd.C_below HR1.out HB.out)); (case side2 => exact HC1.out); rintro e w236 ⟨v661, rfl, ho0, hb⟩; have n0_ := am (Kd.R_elder' (qR HO_599000.out) (Kd.R_base ho0) hb); have n1_ := am (Kd.R_elder' (qR HO_639000.out) (Kd.R_base ho0) hb); have HO662 := am (Kd.R_lower (Kd.R_new' (Kd.R_new' ho0 (Kd.R_lt (qR HO_599000.out))) (Kd.R_lt (qR HO_639000.out))) (below_size qB)); replace BK598 := am (blk_below (g := gb598) (o := .cells #[.slice Ao14 t595.length co14] 28 (0, 0)) (qb BK598.out) hb); replace BK638 := am (blk_below (g := gb638) (o := .cells #[.slice Ao169 t634.length co169] 28 (0, 0)) (qb BK638.out) hb); replace HB := am (below_step qB hb); clear HO_599000 HO_639000; have HO_599000 := n0_; have HO_639000 := n1_; clear n0_ n1_; (try clear hb); (try clear hb2); (try clear hk); (try clear hi); (try clear ho0)) | ((with_reducible refine gate_dst (N := 45) rfl ?_); refine qx (N := 45) (cs := #[.slice none 0 0]) (t := 28) ?_; intro gb664 hg w237 hbox hb; replace HO_599000 := am (Kd.R_below (qR HO_599000.out) hb); replace HO_639000 := am (Kd.R_below (qR HO_639000.out) hb); replace HO662 := am (Kd.R_below (qR HO662.out) hb); have n3_ := am (blk_below (g := gb598) (o := .cells #[.slice Ao14 t595.length co14] 28 (0, 0)) (qb BK598.out) hb); have n4_ := am (blk_below (g := gb638) (o := .cells #[.slice Ao169 t634.length co169] 28 (0, 0)) (qb BK638.out) hb); have n5_ := am (below_step qB hb); have BK664 := am (hbox); have GW664 := am (qg w hg); have GE664 := am (qg w hg); have NB598_664 := am ((by rw [hg]; exact Nat.ne_of_lt (blk_lt (g := gb598) (o := .cells #[.slice Ao14 t595.length co14] 28 (0, 0)) (qb BK598.out)) : gb598 ≠ gb664)); have NB664_598 := am ((by rw [hg]; exact Nat.ne_of_gt (blk_lt (g := gb598) (o := .cells #[.slice Ao14 t595.length co14] 28 (0, 0)) (qb BK598.out)) : gb664 ≠ gb598)); have NB638_664 := am ((by rw [hg]; exact Nat.ne_of_lt (blk_lt (g := gb638) (o := .cells #[.slice Ao169 t634.length co169] 28 (0, 0)) (qb BK638.out)) : gb638 ≠ gb664)); have NB664_638 := am ((by rw [hg]; exact Nat.ne_of_gt (blk_lt (g := gb638) (o := .cells #[.slice Ao169 t634.length co169] 28 (0, 0)) (qb BK638.out)) : gb664 ≠ gb638)); clear BK598 BK638 HB; have BK598 := n3_; have BK638 := n4_; have HB := n5_; clear n3_ n4_ n5_; clear hb hbox hg; obtain ⟨Ao238, co238, eo238⟩ := Kd.R_slice HO662.out; subst eo238; have hnb239 := NB664_598.out; have hnc239 := NB598_664.out; have hnb240 := NB664_638.out; have hnc240 := NB638_664.out; have hcz241_0 := qz w237 BK664.out; have hfz241_0 := blk_frozen BK664.out 0) | (go_at_call 43; (with_reducible refine (impl_IsAntichain.calls kj200 _ _ t660 t663 t665 t666 _ ?side1 ?side2 A233.out).mono ?_); (case side1 => refine (Kd.R_reads' (e := 3) (base := w.heap.size) (ok := fun k_ => ((True ∧ some k_ ≠ (.slice Ao14 t595.length co14 : Value).ownBlock) ∧ some k_ ≠ (.slice Ao169 t634.length co169 : Value).ownBlock)) (n := t660.length) (c := co238) ?_).2.2; exact (qR ((Kd.R_mono (Kd.R_far (p := ⟨gb664, 0, none⟩) (Kd.R_types HO662.out BK664.out (by decide)) (fun _ hk => hk.2) (.slice Ao238 t660.length co238)) (fun _ h_ => h_.1))))); (case side2 => exact (Kd.R_reads' HO662.out).2.1); rintro e w242 ⟨rfl, hb⟩; replace HO_599000 := am (Kd.R_below (qR ((Kd.R_mono (Kd.R_far (p := ⟨gb664, 0, none⟩) (Kd.R_types HO_599000.out BK664.out (by decide)) (fun _ hk => hk.2) (.slice Ao238 t660.length co238)) (fun _ h_ => h_.1)))) hb); replace HO_639000 := am (Kd.R_below (qR ((Kd.R_mono (Kd.R_far (p := ⟨gb664, 0, none⟩) (Kd.R_types HO_639000.out BK664.out (by decide)) (fun _ hk => hk.2) (.slice Ao238 t660.length co238)) (fun _ h_ => h_.1)))) hb); replace HO662 := am (Kd.R_below (qR ((Kd.R_mono (Kd.R_far (p := ⟨gb664, 0, none⟩) (Kd.R_types HO662.out BK664.out (by decide)) (fun _ hk => hk.2) (.slice Ao238 t660.length co238)) (fun _ h_ => h_.1)))) hb); replace BK598 := am (blk_below (g := gb598) (o := .cells #[.slice Ao14 t595.length co14] 28 (0, 0)) (by (with_reducible repeat (first | refine blk_drewN ?_ _ | refine blk_drew ?_ | refine blk_alloc ?_ _)); refine blk_far ?_ NB598_664.out _; refine qb ?_; exact BK598.out) hb); replace BK638 := am (blk_below (g := gb638) (o := .cells #[.slice Ao169 t634.length co169] 28 (0, 0)) (by (with_reducible repeat (first | refine blk_drewN ?_ _ | refine blk_drew ?_ | refine blk_alloc ?_ _)); refine blk_far ?_ NB638_664.out _; refine qb ?_; exact BK638.out) hb); replace BK664 := am (blk_below (g := gb664) (o := .cells #[.slice Ao238 t660.length co238] 28 (0, 0)) (by (with_reducible repeat (first | refine blk_drewN ?_ _ | refine blk_drew ?_ | refine blk_alloc ?_ _)); refine blk_put (cs := #[.slice none 0 0]) ?_ 0 _ rfl; refine qb ?_; exact BK664.out) hb); replace HB := am (below_step qB hb); (try clear hb); (try clear hb2); (try clear hk); (try clear hi); have hcz243_0 := qz w242 BK664.out; have hfz243_0 := blk_frozen BK664.out 0) | (go_at_call 46; (with_reducible refine (spec_IsAntichain.calls kj200 _ _ t660 t663 t667 t668 _ ?side1 ?side2 A234.out).mono ?_); (case side1 => exact qC (Kd.R_reads' HO662.out).2.2); (case side2 => exact (Kd.R_reads' HO662.out).2.1); rintro e w244 ⟨rfl, hb⟩; replace HO_599000 := am (Kd.R_below (qR HO_599000.out) hb); replace HO_639000 := am (Kd.R_below (qR HO_639000.out) hb); replace HO662 := am (Kd.R_below (qR HO662.out) hb); replace BK598 := am (blk_below (g := gb598) (o := .cells #[.slice Ao14 t595.length co14] 28 (0, 0)) (qb BK598.out) hb); replace BK638 := am (blk_below (g := gb638) (o := .cells #[.slice Ao169 t634.length co169] 28 (0, 0)) (qb BK638.out) hb); replace BK664 := am (blk_below (g := gb664) (o := .cells #[.slice Ao238 t660.length co238] 28 (0, 0)) (qb BK664.out) hb); replace HB := am (below_step qB hb); (try clear hb); (try clear hb2); (try clear hk); (try clear hi))))
                         go_ret
                         exact ⟨qr, qB⟩
                        ·rw [if_neg c235] at H
                         exact absurd (Option.some.inj H) (by rw [hrt.out]; decide)
                ·as_aux_lemma =>
                   replace c198 := Bool.eq_false_iff.mpr c198
                   subst c198
                   have H1 : ((spec_DrawIsAntichain.f kj165 l1).bind fun bt669 => ((impl_IsAntichain.f kj165 bt669.1 bt669.2).bind fun bt674 => ((spec_IsAntichain.f kj165 bt669.1 bt669.2).bind fun bt676 => (if (bt674.2 == bt676.2) = true then (some (bt674.1 == bt676.1)) else (some false))))) = some r := by rw [if_neg (show ¬ (false = true) by decide)] at H; exact H
                   clear H
                   have H := H1
                   clear H1
                   replace H := Option.bind_eq_some_iff.mp H
                   obtain ⟨⟨t669, t672⟩, A2540, H⟩ := H
                   replace H : ((impl_IsAntichain.f kj165 t669 t672).bind fun bt674 => ((spec_IsAntichain.f kj165 t669 t672).bind fun bt676 => (if (bt674.2 == bt676.2) = true then (some (bt674.1 == bt676.1)) else (some false)))) = some r := H
                   have A254 := am A2540
                   clear A2540
                   replace H := Option.bind_eq_some_iff.mp H
                   obtain ⟨⟨t674, t675⟩, A2550, H⟩ := H
                   replace H : ((spec_IsAntichain.f kj165 t669 t672).bind fun bt676 => (if (t675 == bt676.2) = true then (some (t674 == bt676.1)) else (some false))) = some r := H
                   have A255 := am A2550
                   clear A2550
                   replace H := Option.bind_eq_some_iff.mp H
                   obtain ⟨⟨t676, t677⟩, A2560, H⟩ := H
                   replace H : (if (t675 == t677) = true then (some (t674 == t676)) else (some false)) = some r := H
                   have A256 := am A2560
                   clear A2560
                   by_cases c257 : (t675 == t677) = true
                   ·rw [if_pos c257] at H
                    have c257b0 : (t675 == t677) = true := c257
                    (try (have c257b1 : decide (t675 = t677) = true := by simpa using c257))
                    (try (have c257b2 : (t675 == t677) = true := by simpa using c257))
                    clear c257
                    obtain rfl := Option.some.inj H
                    go_wp2_with (first | (go_at_call 45; (with_reducible refine (spec_DrawIsAntichain.calls kj165 _ _ l1 t669 t672 _ ?side1 ?side2 A254.out).mono ?_); (case side1 => exact qC (Kd.C_below HR1.out HB.out)); (case side2 => exact HC1.out); rintro e w258 ⟨v670, rfl, ho0, hb⟩; have n0_ := am (Kd.R_elder' (qR HO_599000.out) (Kd.R_base ho0) hb); have n1_ := am (Kd.R_elder' (qR HO_639000.out) (Kd.R_base ho0) hb); have HO671 := am (Kd.R_lower (Kd.R_new' (Kd.R_new' ho0 (Kd.R_lt (qR HO_599000.out))) (Kd.R_lt (qR HO_639000.out))) (below_size qB)); replace BK598 := am (blk_below (g := gb598) (o := .cells #[.slice Ao14 t595.length co14] 28 (0, 0)) (qb BK598.out) hb); replace BK638 := am (blk_below (g := gb638) (o := .cells #[.slice Ao169 t634.length co169] 28 (0, 0)) (qb BK638.out) hb); replace HB := am (below_step qB hb); clear HO_599000 HO_639000; have HO_599000 := n0_; have HO_639000 := n1_; clear n0_ n1_; (try clear hb); (try clear hb2); (try clear hk); (try clear hi); (try clear ho0)) | ((with_reducible refine gate_dst (N := 45) rfl ?_); refine qx (N := 45) (cs := #[.slice none 0 0]) (t := 28) ?_; intro gb673 hg w259 hbox hb; replace HO_599000 := am (Kd.R_below (qR HO_599000.out) hb); replace HO_639000 := am (Kd.R_below (qR HO_639000.out) hb); replace HO671 := am (Kd.R_below (qR HO671.out) hb); have n3_ := am (blk_below (g := gb598) (o := .cells #[.slice Ao14 t595.length co14] 28 (0, 0)) (qb BK598.out) hb); have n4_ := am (blk_below (g := gb638) (o := .cells #[.slice Ao169 t634.length co169] 28 (0, 0)) (qb BK638.out) hb); have n5_ := am (below_step qB hb); have BK673 := am (hbox); have GW673 := am (qg w hg); have GE673 := am (qg w hg); have NB598_673 := am ((by rw [hg]; exact Nat.ne_of_lt (blk_lt (g := gb598) (o := .cells #[.slice Ao14 t595.length co14] 28 (0, 0)) (qb BK598.out)) : gb598 ≠ gb673)); have NB673_598 := am ((by rw [hg]; exact Nat.ne_of_gt (blk_lt (g := gb598) (o := .cells #[.slice Ao14 t595.length co14] 28 (0, 0)) (qb BK598.out)) : gb673 ≠ gb598)); have NB638_673 := am ((by rw [hg]; exact Nat.ne_of_lt (blk_lt (g := gb638) (o := .cells #[.slice Ao169 t634.length co169] 28 (0, 0)) (qb BK638.out)) : gb638 ≠ gb673)); have NB673_638 := am ((by rw [hg]; exact Nat.ne_of_gt (blk_lt (g := gb638) (o := .cells #[.slice Ao169 t634.length co169] 28 (0, 0)) (qb BK638.out)) : gb673 ≠ gb638)); clear BK598 BK638 HB; have BK598 := n3_; have BK638 := n4_; have HB := n5_; clear n3_ n4_ n5_; clear hb hbox hg; obtain ⟨Ao260, co260, eo260⟩ := Kd.R_slice HO671.out; subst eo260; have hnb261 := NB673_598.out; have hnc261 := NB598_673.out; have hnb262 := NB673_638.out; have hnc262 := NB638_673.out; have hcz263_0 := qz w259 BK673.out; have hfz263_0 := blk_frozen BK673.out 0) | (go_at_call 43; (with_reducible refine (impl_IsAntichain.calls kj165 _ _ t669 t672 t674 t675 _ ?side1 ?side2 A255.out).mono ?_); (case side1 => refine (Kd.R_reads' (e := 3) (base := w.heap.size) (ok := fun k_ => ((True ∧ some k_ ≠ (.slice Ao14 t595.length co14 : Value).ownBlock) ∧ some k_ ≠ (.slice Ao169 t634.length co169 : Value).ownBlock)) (n := t669.length) (c := co260) ?_).2.2; exact (qR ((Kd.R_mono (Kd.R_far (p := ⟨gb673, 0, none⟩) (Kd.R_types HO671.out BK673.out (by decide)) (fun _ hk => hk.2) (.slice Ao260 t669.length co260)) (fun _ h_ => h_.1))))); (case side2 => exact (Kd.R_reads' HO671.out).2.1); rintro e w264 ⟨rfl, hb⟩; replace HO_599000 := am (Kd.R_below (qR ((Kd.R_mono (Kd.R_far (p := ⟨gb673, 0, none⟩) (Kd.R_types HO_599000.out BK673.out (by decide)) (fun _ hk => hk.2) (.slice Ao260 t669.length co260)) (fun _ h_ => h_.1)))) hb); replace HO_639000 := am (Kd.R_below (qR ((Kd.R_mono (Kd.R_far (p := ⟨gb673, 0, none⟩) (Kd.R_types HO_639000.out BK673.out (by decide)) (fun _ hk => hk.2) (.slice Ao260 t669.length co260)) (fun _ h_ => h_.1)))) hb); replace HO671 := am (Kd.R_below (qR ((Kd.R_mono (Kd.R_far (p := ⟨gb673, 0, none⟩) (Kd.R_types HO671.out BK673.out (by decide)) (fun _ hk => hk.2) (.slice Ao260 t669.length co260)) (fun _ h_ => h_.1)))) hb); replace BK598 := am (blk_below (g := gb598) (o := .cells #[.slice Ao14 t595.length co14] 28 (0, 0)) (by (with_reducible repeat (first | refine blk_drewN ?_ _ | refine blk_drew ?_ | refine blk_alloc ?_ _)); refine blk_far ?_ NB598_673.out _; refine qb ?_; exact BK598.out) hb); replace BK638 := am (blk_below (g := gb638) (o := .cells #[.slice Ao169 t634.length co169] 28 (0, 0)) (by (with_reducible repeat (first | refine blk_drewN ?_ _ | refine blk_drew ?_ | refine blk_alloc ?_ _)); refine blk_far ?_ NB638_673.out _; refine qb ?_; exact BK638.out) hb); replace BK673 := am (blk_below (g := gb673) (o := .cells #[.slice Ao260 t669.length co260] 28 (0, 0)) (by (with_reducible repeat (first | refine blk_drewN ?_ _ | refine blk_drew ?_ | refine blk_alloc ?_ _)); refine blk_put (cs := #[.slice none 0 0]) ?_ 0 _ rfl; refine qb ?_; exact BK673.out) hb); replace HB := am (below_step qB hb); (try clear hb); (try clear hb2); (try clear hk); (try clear hi); have hcz265_0 := qz w264 BK673.out; have hfz265_0 := blk_frozen BK673.out 0) | (go_at_call 46; (with_reducible refine (spec_IsAntichain.calls kj165 _ _ t669 t672 t676 t677 _ ?side1 ?side2 A256.out).mono ?_); (case side1 => exact qC (Kd.R_reads' HO671.out).2.2); (case side2 => exact (Kd.R_reads' HO671.out).2.1); rintro e w266 ⟨rfl, hb⟩; replace HO_599000 := am (Kd.R_below (qR HO_599000.out) hb); replace HO_639000 := am (Kd.R_below (qR HO_639000.out) hb); replace HO671 := am (Kd.R_below (qR HO671.out) hb); replace BK598 := am (blk_below (g := gb598) (o := .cells #[.slice Ao14 t595.length co14] 28 (0, 0)) (qb BK598.out) hb); replace BK638 := am (blk_below (g := gb638) (o := .cells #[.slice Ao169 t634.length co169] 28 (0, 0)) (qb BK638.out) hb); replace BK673 := am (blk_below (g := gb673) (o := .cells #[.slice Ao260 t669.length co260] 28 (0, 0)) (qb BK673.out) hb); replace HB := am (below_step qB hb); (try clear hb); (try clear hb2); (try clear hk); (try clear hi)))
                    repeat (go_quiet (first | (go_at_call 45; (with_reducible refine (spec_DrawIsAntichain.calls kj165 _ _ l1 t669 t672 _ ?side1 ?side2 A254.out).mono ?_); (case side1 => exact qC (Kd.C_below HR1.out HB.out)); (case side2 => exact HC1.out); rintro e w258 ⟨v670, rfl, ho0, hb⟩; have n0_ := am (Kd.R_elder' (qR HO_599000.out) (Kd.R_base ho0) hb); have n1_ := am (Kd.R_elder' (qR HO_639000.out) (Kd.R_base ho0) hb); have HO671 := am (Kd.R_lower (Kd.R_new' (Kd.R_new' ho0 (Kd.R_lt (qR HO_599000.out))) (Kd.R_lt (qR HO_639000.out))) (below_size qB)); replace BK598 := am (blk_below (g := gb598) (o := .cells #[.slice Ao14 t595.length co14] 28 (0, 0)) (qb BK598.out) hb); replace BK638 := am (blk_below (g := gb638) (o := .cells #[.slice Ao169 t634.length co169] 28 (0, 0)) (qb BK638.out) hb); replace HB := am (below_step qB hb); clear HO_599000 HO_639000; have HO_599000 := n0_; have HO_639000 := n1_; clear n0_ n1_; (try clear hb); (try clear hb2); (try clear hk); (try clear hi); (try clear ho0)) | ((with_reducible refine gate_dst (N := 45) rfl ?_); refine qx (N := 45) (cs := #[.slice none 0 0]) (t := 28) ?_; intro gb673 hg w259 hbox hb; replace HO_599000 := am (Kd.R_below (qR HO_599000.out) hb); replace HO_639000 := am (Kd.R_below (qR HO_639000.out) hb); replace HO671 := am (Kd.R_below (qR HO671.out) hb); have n3_ := am (blk_below (g := gb598) (o := .cells #[.slice Ao14 t595.length co14] 28 (0, 0)) (qb BK598.out) hb); have n4_ := am (blk_below (g := gb638) (o := .cells #[.slice Ao169 t634.length co169] 28 (0, 0)) (qb BK638.out) hb); have n5_ := am (below_step qB hb); have BK673 := am (hbox); have GW673 := am (qg w hg); have GE673 := am (qg w hg); have NB598_673 := am ((by rw [hg]; exact Nat.ne_of_lt (blk_lt (g := gb598) (o := .cells #[.slice Ao14 t595.length co14] 28 (0, 0)) (qb BK598.out)) : gb598 ≠ gb673)); have NB673_598 := am ((by rw [hg]; exact Nat.ne_of_gt (blk_lt (g := gb598) (o := .cells #[.slice Ao14 t595.length co14] 28 (0, 0)) (qb BK598.out)) : gb673 ≠ gb598)); have NB638_673 := am ((by rw [hg]; exact Nat.ne_of_lt (blk_lt (g := gb638) (o := .cells #[.slice Ao169 t634.length co169] 28 (0, 0)) (qb BK638.out)) : gb638 ≠ gb673)); have NB673_638 := am ((by rw [hg]; exact Nat.ne_of_gt (blk_lt (g := gb638) (o := .cells #[.slice Ao169 t634.length co169] 28 (0, 0)) (qb BK638.out)) : gb673 ≠ gb638)); clear BK598 BK638 HB; have BK598 := n3_; have BK638 := n4_; have HB := n5_; clear n3_ n4_ n5_; clear hb hbox hg; obtain ⟨Ao260, co260, eo260⟩ := Kd.R_slice HO671.out; subst eo260; have hnb261 := NB673_598.out; have hnc261 := NB598_673.out; have hnb262 := NB673_638.out; have hnc262 := NB638_673.out; have hcz263_0 := qz w259 BK673.out; have hfz263_0 := blk_frozen BK673.out 0) | (go_at_call 43; (with_reducible refine (impl_IsAntichain.calls kj165 _ _ t669 t672 t674 t675 _ ?side1 ?side2 A255.out).mono ?_); (case side1 => refine (Kd.R_reads' (e := 3) (base := w.heap.size) (ok := fun k_ => ((True ∧ some k_ ≠ (.slice Ao14 t595.length co14 : Value).ownBlock) ∧ some k_ ≠ (.slice Ao169 t634.length co169 : Value).ownBlock)) (n := t669.length) (c := co260) ?_).2.2; exact (qR ((Kd.R_mono (Kd.R_far (p := ⟨gb673, 0, none⟩) (Kd.R_types HO671.out BK673.out (by decide)) (fun _ hk => hk.2) (.slice Ao260 t669.length co260)) (fun _ h_ => h_.1))))); (case side2 => exact (Kd.R_reads' HO671.out).2.1); rintro e w264 ⟨rfl, hb⟩; replace HO_599000 := am (Kd.R_below (qR ((Kd.R_mono (Kd.R_far (p := ⟨gb673, 0, none⟩) (Kd.R_types HO_599000.out BK673.out (by decide)) (fun _ hk => hk.2) (.slice Ao260 t669.length co260)) (fun _ h_ => h_.1)))) hb); replace HO_639000 := am (Kd.R_below (qR ((Kd.R_mono (Kd.R_far (p := ⟨gb673, 0, none⟩) (Kd.R_types HO_639000.out BK673.out (by decide)) (fun _ hk => hk.2) (.slice Ao260 t669.length co260)) (fun _ h_ => h_.1)))) hb); replace HO671 := am (Kd.R_below (qR ((Kd.R_mono (Kd.R_far (p := ⟨gb673, 0, none⟩) (Kd.R_types HO671.out BK673.out (by decide)) (fun _ hk => hk.2) (.slice Ao260 t669.length co260)) (fun _ h_ => h_.1)))) hb); replace BK598 := am (blk_below (g := gb598) (o := .cells #[.slice Ao14 t595.length co14] 28 (0, 0)) (by (with_reducible repeat (first | refine blk_drewN ?_ _ | refine blk_drew ?_ | refine blk_alloc ?_ _)); refine blk_far ?_ NB598_673.out _; refine qb ?_; exact BK598.out) hb); replace BK638 := am (blk_below (g := gb638) (o := .cells #[.slice Ao169 t634.length co169] 28 (0, 0)) (by (with_reducible repeat (first | refine blk_drewN ?_ _ | refine blk_drew ?_ | refine blk_alloc ?_ _)); refine blk_far ?_ NB638_673.out _; refine qb ?_; exact BK638.out) hb); replace BK673 := am (blk_below (g := gb673) (o := .cells #[.slice Ao260 t669.length co260] 28 (0, 0)) (by (with_reducible repeat (first | refine blk_drewN ?_ _ | refine blk_drew ?_ | refine blk_alloc ?_ _)); refine blk_put (cs := #[.slice none 0 0]) ?_ 0 _ rfl; refine qb ?_; exact BK673.out) hb); replace HB := am (below_step qB hb); (try clear hb); (try clear hb2); (try clear hk); (try clear hi); have hcz265_0 := qz w264 BK673.out; have hfz265_0 := blk_frozen BK673.out 0) | (go_at_call 46; (with_reducible refine (spec_IsAntichain.calls kj165 _ _ t669 t672 t676 t677 _ ?side1 ?side2 A256.out).mono ?_); (case side1 => exact qC (Kd.R_reads' HO671.out).2.2); (case side2 => exact (Kd.R_reads' HO671.out).2.1); rintro e w266 ⟨rfl, hb⟩; replace HO_599000 := am (Kd.R_below (qR HO_599000.out) hb); replace HO_639000 := am (Kd.R_below (qR HO_639000.out) hb); replace HO671 := am (Kd.R_below (qR HO671.out) hb); replace BK598 := am (blk_below (g := gb598) (o := .cells #[.slice Ao14 t595.length co14] 28 (0, 0)) (qb BK598.out) hb); replace BK638 := am (blk_below (g := gb638) (o := .cells #[.slice Ao169 t634.length co169] 28 (0, 0)) (qb BK638.out) hb); replace BK673 := am (blk_below (g := gb673) (o := .cells #[.slice Ao260 t669.length co260] 28 (0, 0)) (qb BK673.out) hb); replace HB := am (below_step qB hb); (try clear hb); (try clear hb2); (try clear hk); (try clear hi))); try go_wp2_with (first | (go_at_call 45; (with_reducible refine (spec_DrawIsAntichain.calls kj165 _ _ l1 t669 t672 _ ?side1 ?side2 A254.out).mono ?_); (case side1 => exact qC (Kd.C_below HR1.out HB.out)); (case side2 => exact HC1.out); rintro e w258 ⟨v670, rfl, ho0, hb⟩; have n0_ := am (Kd.R_elder' (qR HO_599000.out) (Kd.R_base ho0) hb); have n1_ := am (Kd.R_elder' (qR HO_639000.out) (Kd.R_base ho0) hb); have HO671 := am (Kd.R_lower (Kd.R_new' (Kd.R_new' ho0 (Kd.R_lt (qR HO_599000.out))) (Kd.R_lt (qR HO_639000.out))) (below_size qB)); replace BK598 := am (blk_below (g := gb598) (o := .cells #[.slice Ao14 t595.length co14] 28 (0, 0)) (qb BK598.out) hb); replace BK638 := am (blk_below (g := gb638) (o := .cells #[.slice Ao169 t634.length co169] 28 (0, 0)) (qb BK638.out) hb); replace HB := am (below_step qB hb); clear HO_599000 HO_639000; have HO_599000 := n0_; have HO_639000 := n1_; clear n0_ n1_; (try clear hb); (try clear hb2); (try clear hk); (try clear hi); (try clear ho0)) | ((with_reducible refine gate_dst (N := 45) rfl ?_); refine qx (N := 45) (cs := #[.slice none 0 0]) (t := 28) ?_; intro gb673 hg w259 hbox hb; replace HO_599000 := am (Kd.R_below (qR HO_599000.out) hb); replace HO_639000 := am (Kd.R_below (qR HO_639000.out) hb); replace HO671 := am (Kd.R_below (qR HO671.out) hb); have n3_ := am (blk_below (g := gb598) (o := .cells #[.slice Ao14 t595.length co14] 28 (0, 0)) (qb BK598.out) hb); have n4_ := am (blk_below (g := gb638) (o := .cells #[.slice Ao169 t634.length co169] 28 (0, 0)) (qb BK638.out) hb); have n5_ := am (below_step qB hb); have BK673 := am (hbox); have GW673 := am (qg w hg); have GE673 := am (qg w hg); have NB598_673 := am ((by rw [hg]; exact Nat.ne_of_lt (blk_lt (g := gb598) (o := .cells #[.slice Ao14 t595.length co14] 28 (0, 0)) (qb BK598.out)) : gb598 ≠ gb673)); have NB673_598 := am ((by rw [hg]; exact Nat.ne_of_gt (blk_lt (g := gb598) (o := .cells #[.slice Ao14 t595.length co14] 28 (0, 0)) (qb BK598.out)) : gb673 ≠ gb598)); have NB638_673 := am ((by rw [hg]; exact Nat.ne_of_lt (blk_lt (g := gb638) (o := .cells #[.slice Ao169 t634.length co169] 28 (0, 0)) (qb BK638.out)) : gb638 ≠ gb673)); have NB673_638 := am ((by rw [hg]; exact Nat.ne_of_gt (blk_lt (g := gb638) (o := .cells #[.slice Ao169 t634.length co169] 28 (0, 0)) (qb BK638.out)) : gb673 ≠ gb638)); clear BK598 BK638 HB; have BK598 := n3_; have BK638 := n4_; have HB := n5_; clear n3_ n4_ n5_; clear hb hbox hg; obtain ⟨Ao260, co260, eo260⟩ := Kd.R_slice HO671.out; subst eo260; have hnb261 := NB673_598.out; have hnc261 := NB598_673.out; have hnb262 := NB673_638.out; have hnc262 := NB638_673.out; have hcz263_0 := qz w259 BK673.out; have hfz263_0 := blk_frozen BK673.out 0) | (go_at_call 43; (with_reducible refine (impl_IsAntichain.calls kj165 _ _ t669 t672 t674 t675 _ ?side1 ?side2 A255.out).mono ?_); (case side1 => refine (Kd.R_reads' (e := 3) (base := w.heap.size) (ok := fun k_ => ((True ∧ some k_ ≠ (.slice Ao14 t595.length co14 : Value).ownBlock) ∧ some k_ ≠ (.slice Ao169 t634.length co169 : Value).ownBlock)) (n := t669.length) (c := co260) ?_).2.2; exact (qR ((Kd.R_mono (Kd.R_far (p := ⟨gb673, 0, none⟩) (Kd.R_types HO671.out BK673.out (by decide)) (fun _ hk => hk.2) (.slice Ao260 t669.length co260)) (fun _ h_ => h_.1))))); (case side2 => exact (Kd.R_reads' HO671.out).2.1); rintro e w264 ⟨rfl, hb⟩; replace HO_599000 := am (Kd.R_below (qR ((Kd.R_mono (Kd.R_far (p := ⟨gb673, 0, none⟩) (Kd.R_types HO_599000.out BK673.out (by decide)) (fun _ hk => hk.2) (.slice Ao260 t669.length co260)) (fun _ h_ => h_.1)))) hb); replace HO_639000 := am (Kd.R_below (qR ((Kd.R_mono (Kd.R_far (p := ⟨gb673, 0, none⟩) (Kd.R_types HO_639000.out BK673.out (by decide)) (fun _ hk => hk.2) (.slice Ao260 t669.length co260)) (fun _ h_ => h_.1)))) hb); replace HO671 := am (Kd.R_below (qR ((Kd.R_mono (Kd.R_far (p := ⟨gb673, 0, none⟩) (Kd.R_types HO671.out BK673.out (by decide)) (fun _ hk => hk.2) (.slice Ao260 t669.length co260)) (fun _ h_ => h_.1)))) hb); replace BK598 := am (blk_below (g := gb598) (o := .cells #[.slice Ao14 t595.length co14] 28 (0, 0)) (by (with_reducible repeat (first | refine blk_drewN ?_ _ | refine blk_drew ?_ | refine blk_alloc ?_ _)); refine blk_far ?_ NB598_673.out _; refine qb ?_; exact BK598.out) hb); replace BK638 := am (blk_below (g := gb638) (o := .cells #[.slice Ao169 t634.length co169] 28 (0, 0)) (by (with_reducible repeat (first | refine blk_drewN ?_ _ | refine blk_drew ?_ | refine blk_alloc ?_ _)); refine blk_far ?_ NB638_673.out _; refine qb ?_; exact BK638.out) hb); replace BK673 := am (blk_below (g := gb673) (o := .cells #[.slice Ao260 t669.length co260] 28 (0, 0)) (by (with_reducible repeat (first | refine blk_drewN ?_ _ | refine blk_drew ?_ | refine blk_alloc ?_ _)); refine blk_put (cs := #[.slice none 0 0]) ?_ 0 _ rfl; refine qb ?_; exact BK673.out) hb); replace HB := am (below_step qB hb); (try clear hb); (try clear hb2); (try clear hk); (try clear hi); have hcz265_0 := qz w264 BK673.out; have hfz265_0 := blk_frozen BK673.out 0) | (go_at_call 46; (with_reducible refine (spec_IsAntichain.calls kj165 _ _ t669 t672 t676 t677 _ ?side1 ?side2 A256.out).mono ?_); (case side1 => exact qC (Kd.R_reads' HO671.out).2.2); (case side2 => exact (Kd.R_reads' HO671.out).2.1); rintro e w266 ⟨rfl, hb⟩; replace HO_599000 := am (Kd.R_below (qR HO_599000.out) hb); replace HO_639000 := am (Kd.R_below (qR HO_639000.out) hb); replace HO671 := am (Kd.R_below (qR HO671.out) hb); replace BK598 := am (blk_below (g := gb598) (o := .cells #[.slice Ao14 t595.length co14] 28 (0, 0)) (qb BK598.out) hb); replace BK638 := am (blk_below (g := gb638) (o := .cells #[.slice Ao169 t634.length co169] 28 (0, 0)) (qb BK638.out) hb); replace BK673 := am (blk_below (g := gb673) (o := .cells #[.slice Ao260 t669.length co260] 28 (0, 0)) (qb BK673.out) hb); replace HB := am (below_step qB hb); (try clear hb); (try clear hb2); (try clear hk); (try clear hi))))
                    go_ret
                    exact ⟨qr, qB⟩
                   ·as_aux_lemma =>
                      rw [if_neg c257] at H
                      exact absurd (Option.some.inj H) (by rw [hrt.out]; decide)
end Go.Proofs.Ytonfifhoklaliaa.F
end
