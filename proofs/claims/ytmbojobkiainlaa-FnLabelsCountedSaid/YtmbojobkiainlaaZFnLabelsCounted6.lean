/- Part 6 of the texts below the row of FnLabelsCounted: printed functions with their contracts, and plain lemmas. No condition. -/
import Derived.Test.YtmbojobkiainlaaZFnLabelsCounted5
section
namespace Go.Proofs.Ytmbojobkiainlaa.F
open Go.RowKit Go.Proofs.YtmbojobkiainlaaW.PrintWords Go.Proofs.YtmbojobkiainlaaW.PrintLast Go.Proofs.YtmbojobkiainlaaW.PrintMore
attribute [local go_sem] max2_int min2_int max_two min_two max_three min_three max_four min_four
set_option linter.unusedVariables false
set_option linter.unusedSimpArgs false
mutual
def laws_FnLabelsCounted.j0 : Nat → List Int → Int → Int → Bool → Int → Bool → List Int → Option (Bool)
 | 0, _, _, _, _, _, _, _ => none
 | k + 1, x1, x6, x7, x10, x11, x89, x750000 => if x89 = true then (some false) else ((spec_DrawLabelPolynomialAt.f k x1).bind fun bt758 => ((impl_LabelPolynomialAt.f k bt758.1 bt758.2).bind fun bt763 => ((spec_LabelPolynomialAt.f k bt758.1 bt758.2).bind fun bt765 => (if (bt763.2 != bt765.2) = true then (laws_FnLabelsCounted.j1 k x1 x6 x7 x10 x11 true x750000) else (laws_FnLabelsCounted.j1 k x1 x6 x7 x10 x11 (bt763.1 != bt765.1) x750000)))))
def laws_FnLabelsCounted.j1 : Nat → List Int → Int → Int → Bool → Int → Bool → List Int → Option (Bool)
 | 0, _, _, _, _, _, _, _ => none
 | k + 1, x1, x6, x7, x10, x11, x114, x750000 => if x114 = true then (some false) else ((spec_DrawStepCounts.f k x1).bind fun t767 => ((impl_StepCounts.f k t767).bind fun bt771 => ((spec_StepCounts.f k t767).bind fun bt775 => (if (bt771.2 != bt775.2) = true then (laws_FnLabelsCounted.j2 k x6 x7 x10 x11 bt771.1 bt771.2 true x750000 t767) else ((laws_oSame.f k bt771.1 bt775.1).bind fun t779 => (if t779 = true then ((impl_IsPoset.f k t767).bind fun t780 => (laws_FnLabelsCounted.j2 k x6 x7 x10 x11 bt771.1 bt771.2 (bt771.2 != t780) x750000 t767)) else (laws_FnLabelsCounted.j2 k x6 x7 x10 x11 bt771.1 bt771.2 true x750000 t767)))))))
def laws_FnLabelsCounted.j2 : Nat → Int → Int → Bool → Int → List Int → Bool → Bool → List Int → List Int → Option (Bool)
 | 0, _, _, _, _, _, _, _, _, _ => none
 | k + 1, x6, x7, x10, x11, x22, x23, x141, x750000, x771000 => if x141 = true then (some false) else (if x23 = true then ((impl_CountLinear.f k x771000).bind fun bt781 => (if bt781.2 = true then (if (x22.length : Int) = (x771000.length : Int) then (if 0 ≤ (wrap64 ((x22.length : Int) - 1)) then (if (wrap64 ((x22.length : Int) - 1)) < (x22.length : Int) then (laws_FnLabelsCounted.j3 k x6 x7 x10 x11 x22 ((rd x22 (wrap64 ((x22.length : Int) - 1))) != bt781.1) x750000) else (none)) else (none)) else (laws_FnLabelsCounted.j3 k x6 x7 x10 x11 x22 true x750000)) else (laws_FnLabelsCounted.j3 k x6 x7 x10 x11 x22 true x750000))) else (laws_FnLabelsCounted.j5 k x6 x7 x10 x11 x750000))
def laws_FnLabelsCounted.j5 : Nat → Int → Int → Bool → Int → List Int → Option (Bool)
 | 0, _, _, _, _, _ => none
 | k + 1, x6, x7, x10, x11, x750000 => if x10 = true then ((impl_LabelPolynomialAt.f k x750000 (wrap64 (x6 + 1))).bind fun bt785 => ((impl_LabelPolynomialAt.f k x750000 (wrap64 ((wrap64 (-x6)) - 1))).bind fun bt787 => (if ((x750000.length : Int) % 2) = 1 then (if bt785.2 = true then (if bt787.2 = true then (if bt785.1 = x11 then (if (wrap64 (-bt787.1)) = x7 then (some (decide (x11 ≤ x7))) else (some false)) else (some false)) else (some false)) else (some false)) else (if bt785.2 = true then (if bt787.2 = true then (if bt785.1 = x11 then (if bt787.1 = x7 then (some (decide (x11 ≤ x7))) else (some false)) else (some false)) else (some false)) else (some false))))) else (some true)
def laws_FnLabelsCounted.j3 : Nat → Int → Int → Bool → Int → List Int → Bool → List Int → Option (Bool)
 | 0, _, _, _, _, _, _, _ => none
 | k + 1, x6, x7, x10, x11, x22, x167, x750000 => if x167 = true then (some false) else (laws_FnLabelsCounted.l0 k x6 x7 x10 x11 x22 0 1 (wrap64 ((x22.length : Int) - 1)) x750000)
def laws_FnLabelsCounted.l0 : Nat → Int → Int → Bool → Int → List Int → Int → Int → Int → List Int → Option (Bool)
 | 0, _, _, _, _, _, _, _, _, _ => none
 | k + 1, x6, x7, x10, x11, x22, x28, x29, x30, x750000 => if x30 ≥ 0 then (if 0 ≤ x30 then (if x30 < (x22.length : Int) then (laws_FnLabelsCounted.l0 k x6 x7 x10 x11 x22 (wrap64 (x28 + (wrap64 (x29 * (rd x22 x30))))) (wrap64 (-x29)) (wrap64 (x30 - 1)) x750000) else (none)) else (none)) else (if x28 = 1 then (laws_FnLabelsCounted.j5 k x6 x7 x10 x11 x750000) else (some false))
end
def laws_FnLabelsCounted.f (k : Nat) (l0 : List Int) (l1 : List Int) : Option (Bool) := (laws_big.f l0 l1).bind fun t744 => (if t744 = true then (some true) else ((spec_DrawCountLabels.f k l0).bind fun bt745 => ((impl_CountLabels.f k bt745.1 bt745.2).bind fun bt750 => ((spec_CountLabels.f k bt745.1 bt745.2).bind fun bt752 => ((impl_CountStrict.f k bt745.1 bt745.2).bind fun bt754 => ((spec_CountStrict.f k bt745.1 bt745.2).bind fun bt756 => (if (bt750.2 != bt752.2) = true then (laws_FnLabelsCounted.j0 k l1 bt745.2 bt750.1 bt752.2 bt754.1 true bt745.1) else (if bt750.1 = bt752.1 then (if (bt754.2 != bt756.2) = true then (laws_FnLabelsCounted.j0 k l1 bt745.2 bt750.1 bt752.2 bt754.1 true bt745.1) else (if bt754.1 = bt756.1 then (laws_FnLabelsCounted.j0 k l1 bt745.2 bt750.1 bt752.2 bt754.1 (bt754.2 != bt750.2) bt745.1) else (laws_FnLabelsCounted.j0 k l1 bt745.2 bt750.1 bt752.2 bt754.1 true bt745.1))) else (laws_FnLabelsCounted.j0 k l1 bt745.2 bt750.1 bt752.2 bt754.1 true bt745.1)))))))))
theorem laws_FnLabelsCounted.mono_l : ∀ k, (∀ y0 y1 y2 y3 y4 y5 y6, LeO (laws_FnLabelsCounted.j0 k y0 y1 y2 y3 y4 y5 y6) (laws_FnLabelsCounted.j0 (k + 1) y0 y1 y2 y3 y4 y5 y6)) ∧ (∀ y0 y1 y2 y3 y4 y5 y6, LeO (laws_FnLabelsCounted.j1 k y0 y1 y2 y3 y4 y5 y6) (laws_FnLabelsCounted.j1 (k + 1) y0 y1 y2 y3 y4 y5 y6)) ∧ (∀ y0 y1 y2 y3 y4 y5 y6 y7 y8, LeO (laws_FnLabelsCounted.j2 k y0 y1 y2 y3 y4 y5 y6 y7 y8) (laws_FnLabelsCounted.j2 (k + 1) y0 y1 y2 y3 y4 y5 y6 y7 y8)) ∧ (∀ y0 y1 y2 y3 y4, LeO (laws_FnLabelsCounted.j5 k y0 y1 y2 y3 y4) (laws_FnLabelsCounted.j5 (k + 1) y0 y1 y2 y3 y4)) ∧ (∀ y0 y1 y2 y3 y4 y5 y6, LeO (laws_FnLabelsCounted.j3 k y0 y1 y2 y3 y4 y5 y6) (laws_FnLabelsCounted.j3 (k + 1) y0 y1 y2 y3 y4 y5 y6)) ∧ (∀ y0 y1 y2 y3 y4 y5 y6 y7 y8, LeO (laws_FnLabelsCounted.l0 k y0 y1 y2 y3 y4 y5 y6 y7 y8) (laws_FnLabelsCounted.l0 (k + 1) y0 y1 y2 y3 y4 y5 y6 y7 y8))
 | 0 => ⟨fun _ _ _ _ _ _ _ r h => by simp [laws_FnLabelsCounted.j0] at h, fun _ _ _ _ _ _ _ r h => by simp [laws_FnLabelsCounted.j1] at h, fun _ _ _ _ _ _ _ _ _ r h => by simp [laws_FnLabelsCounted.j2] at h, fun _ _ _ _ _ r h => by simp [laws_FnLabelsCounted.j5] at h, fun _ _ _ _ _ _ _ r h => by simp [laws_FnLabelsCounted.j3] at h, fun _ _ _ _ _ _ _ _ _ r h => by simp [laws_FnLabelsCounted.l0] at h⟩
 | k + 1 => by
  obtain ⟨ih0, ih1, ih2, ih3, ih4, ih5⟩ := laws_FnLabelsCounted.mono_l k
  refine ⟨?_, ?_, ?_, ?_, ?_, ?_⟩
  ·intro y0 y1 y2 y3 y4 y5 y6
   unfold laws_FnLabelsCounted.j0
   repeat' first
   | (with_reducible exact impl_CountLabels.mono _ _ _)
   | (with_reducible exact impl_CountLinear.mono _ _)
   | (with_reducible exact impl_CountStrict.mono _ _ _)
   | (with_reducible exact impl_IsPoset.mono _ _)
   | (with_reducible exact impl_LabelPolynomialAt.mono _ _ _)
   | (with_reducible exact impl_StepCounts.mono _ _)
   | (with_reducible exact laws_oSame.mono _ _ _)
   | (with_reducible exact spec_CountLabels.mono _ _ _)
   | (with_reducible exact spec_CountStrict.mono _ _ _)
   | (with_reducible exact spec_DrawCountLabels.mono _ _)
   | (with_reducible exact spec_DrawLabelPolynomialAt.mono _ _)
   | (with_reducible exact spec_DrawStepCounts.mono _ _)
   | (with_reducible exact spec_LabelPolynomialAt.mono _ _ _)
   | (with_reducible exact spec_StepCounts.mono _ _)
   | (with_reducible exact LeO.refl _)
   | (with_reducible exact LeO.none _)
   | (with_reducible refine LeO.ite ?_ ?_)
   | (with_reducible refine LeO.bind ?_ (fun _ => ?_))
   | exact ih0 _ _ _ _ _ _ _
   | exact ih1 _ _ _ _ _ _ _
   | exact ih2 _ _ _ _ _ _ _ _ _
   | exact ih3 _ _ _ _ _
   | exact ih4 _ _ _ _ _ _ _
   | exact ih5 _ _ _ _ _ _ _ _ _
   | exact impl_CountLabels.mono _ _ _
   | exact impl_CountLinear.mono _ _
   | exact impl_CountStrict.mono _ _ _
   | exact impl_IsPoset.mono _ _
   | exact impl_LabelPolynomialAt.mono _ _ _
   | exact impl_StepCounts.mono _ _
   | exact laws_oSame.mono _ _ _
   | exact spec_CountLabels.mono _ _ _
   | exact spec_CountStrict.mono _ _ _
   | exact spec_DrawCountLabels.mono _ _
   | exact spec_DrawLabelPolynomialAt.mono _ _
   | exact spec_DrawStepCounts.mono _ _
   | exact spec_LabelPolynomialAt.mono _ _ _
   | exact spec_StepCounts.mono _ _
   | exact LeO.none _
   | refine LeO.ite ?_ ?_
   | refine LeO.bind ?_ (fun _ => ?_)
  ·intro y0 y1 y2 y3 y4 y5 y6
   unfold laws_FnLabelsCounted.j1
   repeat' first
   | (with_reducible exact impl_CountLabels.mono _ _ _)
   | (with_reducible exact impl_CountLinear.mono _ _)
   | (with_reducible exact impl_CountStrict.mono _ _ _)
   | (with_reducible exact impl_IsPoset.mono _ _)
   | (with_reducible exact impl_LabelPolynomialAt.mono _ _ _)
   | (with_reducible exact impl_StepCounts.mono _ _)
   | (with_reducible exact laws_oSame.mono _ _ _)
   | (with_reducible exact spec_CountLabels.mono _ _ _)
   | (with_reducible exact spec_CountStrict.mono _ _ _)
   | (with_reducible exact spec_DrawCountLabels.mono _ _)
   | (with_reducible exact spec_DrawLabelPolynomialAt.mono _ _)
   | (with_reducible exact spec_DrawStepCounts.mono _ _)
   | (with_reducible exact spec_LabelPolynomialAt.mono _ _ _)
   | (with_reducible exact spec_StepCounts.mono _ _)
   | (with_reducible exact LeO.refl _)
   | (with_reducible exact LeO.none _)
   | (with_reducible refine LeO.ite ?_ ?_)
   | (with_reducible refine LeO.bind ?_ (fun _ => ?_))
   | exact ih0 _ _ _ _ _ _ _
   | exact ih1 _ _ _ _ _ _ _
   | exact ih2 _ _ _ _ _ _ _ _ _
   | exact ih3 _ _ _ _ _
   | exact ih4 _ _ _ _ _ _ _
   | exact ih5 _ _ _ _ _ _ _ _ _
   | exact impl_CountLabels.mono _ _ _
   | exact impl_CountLinear.mono _ _
   | exact impl_CountStrict.mono _ _ _
   | exact impl_IsPoset.mono _ _
   | exact impl_LabelPolynomialAt.mono _ _ _
   | exact impl_StepCounts.mono _ _
   | exact laws_oSame.mono _ _ _
   | exact spec_CountLabels.mono _ _ _
   | exact spec_CountStrict.mono _ _ _
   | exact spec_DrawCountLabels.mono _ _
   | exact spec_DrawLabelPolynomialAt.mono _ _
   | exact spec_DrawStepCounts.mono _ _
   | exact spec_LabelPolynomialAt.mono _ _ _
   | exact spec_StepCounts.mono _ _
   | exact LeO.none _
   | refine LeO.ite ?_ ?_
   | refine LeO.bind ?_ (fun _ => ?_)
  ·intro y0 y1 y2 y3 y4 y5 y6 y7 y8
   unfold laws_FnLabelsCounted.j2
   repeat' first
   | (with_reducible exact impl_CountLabels.mono _ _ _)
   | (with_reducible exact impl_CountLinear.mono _ _)
   | (with_reducible exact impl_CountStrict.mono _ _ _)
   | (with_reducible exact impl_IsPoset.mono _ _)
   | (with_reducible exact impl_LabelPolynomialAt.mono _ _ _)
   | (with_reducible exact impl_StepCounts.mono _ _)
   | (with_reducible exact laws_oSame.mono _ _ _)
   | (with_reducible exact spec_CountLabels.mono _ _ _)
   | (with_reducible exact spec_CountStrict.mono _ _ _)
   | (with_reducible exact spec_DrawCountLabels.mono _ _)
   | (with_reducible exact spec_DrawLabelPolynomialAt.mono _ _)
   | (with_reducible exact spec_DrawStepCounts.mono _ _)
   | (with_reducible exact spec_LabelPolynomialAt.mono _ _ _)
   | (with_reducible exact spec_StepCounts.mono _ _)
   | (with_reducible exact LeO.refl _)
   | (with_reducible exact LeO.none _)
   | (with_reducible refine LeO.ite ?_ ?_)
   | (with_reducible refine LeO.bind ?_ (fun _ => ?_))
   | exact ih0 _ _ _ _ _ _ _
   | exact ih1 _ _ _ _ _ _ _
   | exact ih2 _ _ _ _ _ _ _ _ _
   | exact ih3 _ _ _ _ _
   | exact ih4 _ _ _ _ _ _ _
   | exact ih5 _ _ _ _ _ _ _ _ _
   | exact impl_CountLabels.mono _ _ _
   | exact impl_CountLinear.mono _ _
   | exact impl_CountStrict.mono _ _ _
   | exact impl_IsPoset.mono _ _
   | exact impl_LabelPolynomialAt.mono _ _ _
   | exact impl_StepCounts.mono _ _
   | exact laws_oSame.mono _ _ _
   | exact spec_CountLabels.mono _ _ _
   | exact spec_CountStrict.mono _ _ _
   | exact spec_DrawCountLabels.mono _ _
   | exact spec_DrawLabelPolynomialAt.mono _ _
   | exact spec_DrawStepCounts.mono _ _
   | exact spec_LabelPolynomialAt.mono _ _ _
   | exact spec_StepCounts.mono _ _
   | exact LeO.none _
   | refine LeO.ite ?_ ?_
   | refine LeO.bind ?_ (fun _ => ?_)
  ·intro y0 y1 y2 y3 y4
   unfold laws_FnLabelsCounted.j5
   repeat' first
   | (with_reducible exact impl_CountLabels.mono _ _ _)
   | (with_reducible exact impl_CountLinear.mono _ _)
   | (with_reducible exact impl_CountStrict.mono _ _ _)
   | (with_reducible exact impl_IsPoset.mono _ _)
   | (with_reducible exact impl_LabelPolynomialAt.mono _ _ _)
   | (with_reducible exact impl_StepCounts.mono _ _)
   | (with_reducible exact laws_oSame.mono _ _ _)
   | (with_reducible exact spec_CountLabels.mono _ _ _)
   | (with_reducible exact spec_CountStrict.mono _ _ _)
   | (with_reducible exact spec_DrawCountLabels.mono _ _)
   | (with_reducible exact spec_DrawLabelPolynomialAt.mono _ _)
   | (with_reducible exact spec_DrawStepCounts.mono _ _)
   | (with_reducible exact spec_LabelPolynomialAt.mono _ _ _)
   | (with_reducible exact spec_StepCounts.mono _ _)
   | (with_reducible exact LeO.refl _)
   | (with_reducible exact LeO.none _)
   | (with_reducible refine LeO.ite ?_ ?_)
   | (with_reducible refine LeO.bind ?_ (fun _ => ?_))
   | exact ih0 _ _ _ _ _ _ _
   | exact ih1 _ _ _ _ _ _ _
   | exact ih2 _ _ _ _ _ _ _ _ _
   | exact ih3 _ _ _ _ _
   | exact ih4 _ _ _ _ _ _ _
   | exact ih5 _ _ _ _ _ _ _ _ _
   | exact impl_CountLabels.mono _ _ _
   | exact impl_CountLinear.mono _ _
   | exact impl_CountStrict.mono _ _ _
   | exact impl_IsPoset.mono _ _
   | exact impl_LabelPolynomialAt.mono _ _ _
   | exact impl_StepCounts.mono _ _
   | exact laws_oSame.mono _ _ _
   | exact spec_CountLabels.mono _ _ _
   | exact spec_CountStrict.mono _ _ _
   | exact spec_DrawCountLabels.mono _ _
   | exact spec_DrawLabelPolynomialAt.mono _ _
   | exact spec_DrawStepCounts.mono _ _
   | exact spec_LabelPolynomialAt.mono _ _ _
   | exact spec_StepCounts.mono _ _
   | exact LeO.none _
   | refine LeO.ite ?_ ?_
   | refine LeO.bind ?_ (fun _ => ?_)
  ·intro y0 y1 y2 y3 y4 y5 y6
   unfold laws_FnLabelsCounted.j3
   repeat' first
   | (with_reducible exact impl_CountLabels.mono _ _ _)
   | (with_reducible exact impl_CountLinear.mono _ _)
   | (with_reducible exact impl_CountStrict.mono _ _ _)
   | (with_reducible exact impl_IsPoset.mono _ _)
   | (with_reducible exact impl_LabelPolynomialAt.mono _ _ _)
   | (with_reducible exact impl_StepCounts.mono _ _)
   | (with_reducible exact laws_oSame.mono _ _ _)
   | (with_reducible exact spec_CountLabels.mono _ _ _)
   | (with_reducible exact spec_CountStrict.mono _ _ _)
   | (with_reducible exact spec_DrawCountLabels.mono _ _)
   | (with_reducible exact spec_DrawLabelPolynomialAt.mono _ _)
   | (with_reducible exact spec_DrawStepCounts.mono _ _)
   | (with_reducible exact spec_LabelPolynomialAt.mono _ _ _)
   | (with_reducible exact spec_StepCounts.mono _ _)
   | (with_reducible exact LeO.refl _)
   | (with_reducible exact LeO.none _)
   | (with_reducible refine LeO.ite ?_ ?_)
   | (with_reducible refine LeO.bind ?_ (fun _ => ?_))
   | exact ih0 _ _ _ _ _ _ _
   | exact ih1 _ _ _ _ _ _ _
   | exact ih2 _ _ _ _ _ _ _ _ _
   | exact ih3 _ _ _ _ _
   | exact ih4 _ _ _ _ _ _ _
   | exact ih5 _ _ _ _ _ _ _ _ _
   | exact impl_CountLabels.mono _ _ _
   | exact impl_CountLinear.mono _ _
   | exact impl_CountStrict.mono _ _ _
   | exact impl_IsPoset.mono _ _
   | exact impl_LabelPolynomialAt.mono _ _ _
   | exact impl_StepCounts.mono _ _
   | exact laws_oSame.mono _ _ _
   | exact spec_CountLabels.mono _ _ _
   | exact spec_CountStrict.mono _ _ _
   | exact spec_DrawCountLabels.mono _ _
   | exact spec_DrawLabelPolynomialAt.mono _ _
   | exact spec_DrawStepCounts.mono _ _
   | exact spec_LabelPolynomialAt.mono _ _ _
   | exact spec_StepCounts.mono _ _
   | exact LeO.none _
   | refine LeO.ite ?_ ?_
   | refine LeO.bind ?_ (fun _ => ?_)
  ·intro y0 y1 y2 y3 y4 y5 y6 y7 y8
   unfold laws_FnLabelsCounted.l0
   repeat' first
   | (with_reducible exact impl_CountLabels.mono _ _ _)
   | (with_reducible exact impl_CountLinear.mono _ _)
   | (with_reducible exact impl_CountStrict.mono _ _ _)
   | (with_reducible exact impl_IsPoset.mono _ _)
   | (with_reducible exact impl_LabelPolynomialAt.mono _ _ _)
   | (with_reducible exact impl_StepCounts.mono _ _)
   | (with_reducible exact laws_oSame.mono _ _ _)
   | (with_reducible exact spec_CountLabels.mono _ _ _)
   | (with_reducible exact spec_CountStrict.mono _ _ _)
   | (with_reducible exact spec_DrawCountLabels.mono _ _)
   | (with_reducible exact spec_DrawLabelPolynomialAt.mono _ _)
   | (with_reducible exact spec_DrawStepCounts.mono _ _)
   | (with_reducible exact spec_LabelPolynomialAt.mono _ _ _)
   | (with_reducible exact spec_StepCounts.mono _ _)
   | (with_reducible exact LeO.refl _)
   | (with_reducible exact LeO.none _)
   | (with_reducible refine LeO.ite ?_ ?_)
   | (with_reducible refine LeO.bind ?_ (fun _ => ?_))
   | exact ih0 _ _ _ _ _ _ _
   | exact ih1 _ _ _ _ _ _ _
   | exact ih2 _ _ _ _ _ _ _ _ _
   | exact ih3 _ _ _ _ _
   | exact ih4 _ _ _ _ _ _ _
   | exact ih5 _ _ _ _ _ _ _ _ _
   | exact impl_CountLabels.mono _ _ _
   | exact impl_CountLinear.mono _ _
   | exact impl_CountStrict.mono _ _ _
   | exact impl_IsPoset.mono _ _
   | exact impl_LabelPolynomialAt.mono _ _ _
   | exact impl_StepCounts.mono _ _
   | exact laws_oSame.mono _ _ _
   | exact spec_CountLabels.mono _ _ _
   | exact spec_CountStrict.mono _ _ _
   | exact spec_DrawCountLabels.mono _ _
   | exact spec_DrawLabelPolynomialAt.mono _ _
   | exact spec_DrawStepCounts.mono _ _
   | exact spec_LabelPolynomialAt.mono _ _ _
   | exact spec_StepCounts.mono _ _
   | exact LeO.none _
   | refine LeO.ite ?_ ?_
   | refine LeO.bind ?_ (fun _ => ?_)
theorem laws_FnLabelsCounted.mono : ∀ a0 a1 k, LeO (laws_FnLabelsCounted.f k a0 a1) (laws_FnLabelsCounted.f (k + 1) a0 a1) := by
 intro a0 a1 k
 obtain ⟨ih0, ih1, ih2, ih3, ih4, ih5⟩ := laws_FnLabelsCounted.mono_l k
 unfold laws_FnLabelsCounted.f
 repeat' first
  | (with_reducible exact impl_CountLabels.mono _ _ _)
  | (with_reducible exact impl_CountLinear.mono _ _)
  | (with_reducible exact impl_CountStrict.mono _ _ _)
  | (with_reducible exact impl_IsPoset.mono _ _)
  | (with_reducible exact impl_LabelPolynomialAt.mono _ _ _)
  | (with_reducible exact impl_StepCounts.mono _ _)
  | (with_reducible exact laws_oSame.mono _ _ _)
  | (with_reducible exact spec_CountLabels.mono _ _ _)
  | (with_reducible exact spec_CountStrict.mono _ _ _)
  | (with_reducible exact spec_DrawCountLabels.mono _ _)
  | (with_reducible exact spec_DrawLabelPolynomialAt.mono _ _)
  | (with_reducible exact spec_DrawStepCounts.mono _ _)
  | (with_reducible exact spec_LabelPolynomialAt.mono _ _ _)
  | (with_reducible exact spec_StepCounts.mono _ _)
  | (with_reducible exact LeO.refl _)
  | (with_reducible exact LeO.none _)
  | (with_reducible refine LeO.ite ?_ ?_)
  | (with_reducible refine LeO.bind ?_ (fun _ => ?_))
  | exact ih0 _ _ _ _ _ _ _
  | exact ih1 _ _ _ _ _ _ _
  | exact ih2 _ _ _ _ _ _ _ _ _
  | exact ih3 _ _ _ _ _
  | exact ih4 _ _ _ _ _ _ _
  | exact ih5 _ _ _ _ _ _ _ _ _
  | exact impl_CountLabels.mono _ _ _
  | exact impl_CountLinear.mono _ _
  | exact impl_CountStrict.mono _ _ _
  | exact impl_IsPoset.mono _ _
  | exact impl_LabelPolynomialAt.mono _ _ _
  | exact impl_StepCounts.mono _ _
  | exact laws_oSame.mono _ _ _
  | exact spec_CountLabels.mono _ _ _
  | exact spec_CountStrict.mono _ _ _
  | exact spec_DrawCountLabels.mono _ _
  | exact spec_DrawLabelPolynomialAt.mono _ _
  | exact spec_DrawStepCounts.mono _ _
  | exact spec_LabelPolynomialAt.mono _ _ _
  | exact spec_StepCounts.mono _ _
  | exact LeO.none _
  | refine LeO.ite ?_ ?_
  | refine LeO.bind ?_ (fun _ => ?_)
set_option maxHeartbeats 8000000 in
set_option maxRecDepth 100000 in
theorem laws_FnLabelsCounted.calls (k : Nat) (A0 : Option Addr) (c0 : Nat) (l0 : List Int) (A1 : Option Addr) (c1 : Nat) (l1 : List Int) (r : Bool) (w : World) (hr0 : Kd.C (Kd.int .u8) w A0 l0.length l0) (hc0 : l0.length ≤ c0) (hr1 : Kd.C (Kd.int .u8) w A1 l1.length l1) (hc1 : l1.length ≤ c1) (h : laws_FnLabelsCounted.f k l0 l1 = some r) :
 Calls Try.prog 4 #[.slice A0 l0.length c0, .slice A1 l1.length c1] w fun e w' => e = .returned (.bool r) ∧ Below w.heap.size w w' := by
 have hu26 := Try.underlying26
 have HR0 := am hr0
 have HC0 := am hc0
 clear hr0 hc0
 have HR1 := am hr1
 have HC1 := am hc1
 clear hr1 hc1
 have HB := am (Below.refl w.heap.size w)
 have H : ((laws_big.f l0 l1).bind fun t744 => (if t744 = true then (some true) else ((spec_DrawCountLabels.f k l0).bind fun bt745 => ((impl_CountLabels.f k bt745.1 bt745.2).bind fun bt750 => ((spec_CountLabels.f k bt745.1 bt745.2).bind fun bt752 => ((impl_CountStrict.f k bt745.1 bt745.2).bind fun bt754 => ((spec_CountStrict.f k bt745.1 bt745.2).bind fun bt756 => (if (bt750.2 != bt752.2) = true then (laws_FnLabelsCounted.j0 k l1 bt745.2 bt750.1 bt752.2 bt754.1 true bt745.1) else (if bt750.1 = bt752.1 then (if (bt754.2 != bt756.2) = true then (laws_FnLabelsCounted.j0 k l1 bt745.2 bt750.1 bt752.2 bt754.1 true bt745.1) else (if bt754.1 = bt756.1 then (laws_FnLabelsCounted.j0 k l1 bt745.2 bt750.1 bt752.2 bt754.1 (bt754.2 != bt750.2) bt745.1) else (laws_FnLabelsCounted.j0 k l1 bt745.2 bt750.1 bt752.2 bt754.1 true bt745.1))) else (laws_FnLabelsCounted.j0 k l1 bt745.2 bt750.1 bt752.2 bt754.1 true bt745.1)))))))))) = some r := h
 clear h
 replace H := Option.bind_eq_some_iff.mp H
 obtain ⟨t744, A30, H⟩ := H
 replace H : (if t744 = true then (some true) else ((spec_DrawCountLabels.f k l0).bind fun bt745 => ((impl_CountLabels.f k bt745.1 bt745.2).bind fun bt750 => ((spec_CountLabels.f k bt745.1 bt745.2).bind fun bt752 => ((impl_CountStrict.f k bt745.1 bt745.2).bind fun bt754 => ((spec_CountStrict.f k bt745.1 bt745.2).bind fun bt756 => (if (bt750.2 != bt752.2) = true then (laws_FnLabelsCounted.j0 k l1 bt745.2 bt750.1 bt752.2 bt754.1 true bt745.1) else (if bt750.1 = bt752.1 then (if (bt754.2 != bt756.2) = true then (laws_FnLabelsCounted.j0 k l1 bt745.2 bt750.1 bt752.2 bt754.1 true bt745.1) else (if bt754.1 = bt756.1 then (laws_FnLabelsCounted.j0 k l1 bt745.2 bt750.1 bt752.2 bt754.1 (bt754.2 != bt750.2) bt745.1) else (laws_FnLabelsCounted.j0 k l1 bt745.2 bt750.1 bt752.2 bt754.1 true bt745.1))) else (laws_FnLabelsCounted.j0 k l1 bt745.2 bt750.1 bt752.2 bt754.1 true bt745.1))))))))) = some r := H
 have A3 := am A30
 clear A30
 by_cases c4 : t744 = true
 ·subst c4
  have H1 : (some true) = some r := by rw [if_pos rfl] at H; exact H
  clear H
  have H := H1
  clear H1
  obtain rfl := Option.some.inj H
  go_enter Try.func4, Try.ntmps4
  go_wp2_with (first | ((with_reducible refine gate_callee (f := 7) rfl ?_); refine gL (some 37) Try.func7 #[.slice A0 l0.length c0, .slice A1 l1.length c1] ?_; (with_reducible refine (laws_big.calls _ _ l0 _ _ l1 true _ ?side1 ?side2 ?side3 ?side4 A3.out).mono ?_); (case side1 => exact qC HR0.out); (case side2 => exact HC0.out); (case side3 => exact qC HR1.out); (case side4 => exact HC1.out); rintro e w' ⟨rfl, ⟨nd, rfl⟩⟩; refine ⟨_, rfl, ?_⟩))
  go_ret
  exact ⟨qr, qB⟩
 ·as_aux_lemma =>
    replace c4 := Bool.eq_false_iff.mpr c4
    subst c4
    have H1 : ((spec_DrawCountLabels.f k l0).bind fun bt745 => ((impl_CountLabels.f k bt745.1 bt745.2).bind fun bt750 => ((spec_CountLabels.f k bt745.1 bt745.2).bind fun bt752 => ((impl_CountStrict.f k bt745.1 bt745.2).bind fun bt754 => ((spec_CountStrict.f k bt745.1 bt745.2).bind fun bt756 => (if (bt750.2 != bt752.2) = true then (laws_FnLabelsCounted.j0 k l1 bt745.2 bt750.1 bt752.2 bt754.1 true bt745.1) else (if bt750.1 = bt752.1 then (if (bt754.2 != bt756.2) = true then (laws_FnLabelsCounted.j0 k l1 bt745.2 bt750.1 bt752.2 bt754.1 true bt745.1) else (if bt754.1 = bt756.1 then (laws_FnLabelsCounted.j0 k l1 bt745.2 bt750.1 bt752.2 bt754.1 (bt754.2 != bt750.2) bt745.1) else (laws_FnLabelsCounted.j0 k l1 bt745.2 bt750.1 bt752.2 bt754.1 true bt745.1))) else (laws_FnLabelsCounted.j0 k l1 bt745.2 bt750.1 bt752.2 bt754.1 true bt745.1)))))))) = some r := by rw [if_neg (show ¬ (false = true) by decide)] at H; exact H
    clear H
    have H := H1
    clear H1
    replace H := Option.bind_eq_some_iff.mp H
    obtain ⟨⟨t745, t748⟩, A50, H⟩ := H
    replace H : ((impl_CountLabels.f k t745 t748).bind fun bt750 => ((spec_CountLabels.f k t745 t748).bind fun bt752 => ((impl_CountStrict.f k t745 t748).bind fun bt754 => ((spec_CountStrict.f k t745 t748).bind fun bt756 => (if (bt750.2 != bt752.2) = true then (laws_FnLabelsCounted.j0 k l1 t748 bt750.1 bt752.2 bt754.1 true t745) else (if bt750.1 = bt752.1 then (if (bt754.2 != bt756.2) = true then (laws_FnLabelsCounted.j0 k l1 t748 bt750.1 bt752.2 bt754.1 true t745) else (if bt754.1 = bt756.1 then (laws_FnLabelsCounted.j0 k l1 t748 bt750.1 bt752.2 bt754.1 (bt754.2 != bt750.2) t745) else (laws_FnLabelsCounted.j0 k l1 t748 bt750.1 bt752.2 bt754.1 true t745))) else (laws_FnLabelsCounted.j0 k l1 t748 bt750.1 bt752.2 bt754.1 true t745))))))) = some r := H
    have A5 := am A50
    clear A50
    replace H := Option.bind_eq_some_iff.mp H
    obtain ⟨⟨t750, t751⟩, A60, H⟩ := H
    replace H : ((spec_CountLabels.f k t745 t748).bind fun bt752 => ((impl_CountStrict.f k t745 t748).bind fun bt754 => ((spec_CountStrict.f k t745 t748).bind fun bt756 => (if (t751 != bt752.2) = true then (laws_FnLabelsCounted.j0 k l1 t748 t750 bt752.2 bt754.1 true t745) else (if t750 = bt752.1 then (if (bt754.2 != bt756.2) = true then (laws_FnLabelsCounted.j0 k l1 t748 t750 bt752.2 bt754.1 true t745) else (if bt754.1 = bt756.1 then (laws_FnLabelsCounted.j0 k l1 t748 t750 bt752.2 bt754.1 (bt754.2 != t751) t745) else (laws_FnLabelsCounted.j0 k l1 t748 t750 bt752.2 bt754.1 true t745))) else (laws_FnLabelsCounted.j0 k l1 t748 t750 bt752.2 bt754.1 true t745)))))) = some r := H
    have A6 := am A60
    clear A60
    replace H := Option.bind_eq_some_iff.mp H
    obtain ⟨⟨t752, t753⟩, A70, H⟩ := H
    replace H : ((impl_CountStrict.f k t745 t748).bind fun bt754 => ((spec_CountStrict.f k t745 t748).bind fun bt756 => (if (t751 != t753) = true then (laws_FnLabelsCounted.j0 k l1 t748 t750 t753 bt754.1 true t745) else (if t750 = t752 then (if (bt754.2 != bt756.2) = true then (laws_FnLabelsCounted.j0 k l1 t748 t750 t753 bt754.1 true t745) else (if bt754.1 = bt756.1 then (laws_FnLabelsCounted.j0 k l1 t748 t750 t753 bt754.1 (bt754.2 != t751) t745) else (laws_FnLabelsCounted.j0 k l1 t748 t750 t753 bt754.1 true t745))) else (laws_FnLabelsCounted.j0 k l1 t748 t750 t753 bt754.1 true t745))))) = some r := H
    have A7 := am A70
    clear A70
    replace H := Option.bind_eq_some_iff.mp H
    obtain ⟨⟨t754, t755⟩, A80, H⟩ := H
    replace H : ((spec_CountStrict.f k t745 t748).bind fun bt756 => (if (t751 != t753) = true then (laws_FnLabelsCounted.j0 k l1 t748 t750 t753 t754 true t745) else (if t750 = t752 then (if (t755 != bt756.2) = true then (laws_FnLabelsCounted.j0 k l1 t748 t750 t753 t754 true t745) else (if t754 = bt756.1 then (laws_FnLabelsCounted.j0 k l1 t748 t750 t753 t754 (t755 != t751) t745) else (laws_FnLabelsCounted.j0 k l1 t748 t750 t753 t754 true t745))) else (laws_FnLabelsCounted.j0 k l1 t748 t750 t753 t754 true t745)))) = some r := H
    have A8 := am A80
    clear A80
    replace H := Option.bind_eq_some_iff.mp H
    obtain ⟨⟨t756, t757⟩, A90, H⟩ := H
    replace H : (if (t751 != t753) = true then (laws_FnLabelsCounted.j0 k l1 t748 t750 t753 t754 true t745) else (if t750 = t752 then (if (t755 != t757) = true then (laws_FnLabelsCounted.j0 k l1 t748 t750 t753 t754 true t745) else (if t754 = t756 then (laws_FnLabelsCounted.j0 k l1 t748 t750 t753 t754 (t755 != t751) t745) else (laws_FnLabelsCounted.j0 k l1 t748 t750 t753 t754 true t745))) else (laws_FnLabelsCounted.j0 k l1 t748 t750 t753 t754 true t745))) = some r := H
    have A9 := am A90
    clear A90
    have HC10 := am H
    clear H
    go_enter Try.func4, Try.ntmps4
    go_upto_region 8 with (first | ((with_reducible refine gate_callee (f := 7) rfl ?_); refine gL (some 37) Try.func7 #[.slice A0 l0.length c0, .slice A1 l1.length c1] ?_; (with_reducible refine (laws_big.calls _ _ l0 _ _ l1 false _ ?side1 ?side2 ?side3 ?side4 A3.out).mono ?_); (case side1 => exact qC HR0.out); (case side2 => exact HC0.out); (case side3 => exact qC HR1.out); (case side4 => exact HC1.out); rintro e w' ⟨rfl, ⟨nd, rfl⟩⟩; refine ⟨_, rfl, ?_⟩) | ((with_reducible refine gate_callee (f := 29) rfl ?_); refine gL (some 40) Try.func29 #[.slice A0 l0.length c0] ?_; (with_reducible refine (spec_DrawCountLabels.calls k _ _ l0 t745 t748 _ ?side1 ?side2 A5.out).mono ?_); (case side1 => exact qC HR0.out); (case side2 => exact HC0.out); rintro e w11 ⟨v746, rfl, ho0, hb⟩; refine ⟨_, rfl, ?_⟩; have HO747 := am (Kd.R_lower ho0 (below_size qB)); replace HB := am (below_step qB hb); (try clear hb); (try clear hb2); (try clear hk); (try clear hi); (try clear ho0)) | ((with_reducible refine gate_dst (N := 5) rfl ?_); refine qx (N := 5) (cs := #[.slice none 0 0]) (t := 26) ?_; intro gb749 hg w12 hbox hb; replace HO747 := am (Kd.R_below (qR HO747.out) hb); have n1_ := am (below_step qB hb); have BK749 := am (hbox); have GW749 := am (qg w hg); have GE749 := am (qg w hg); clear HB; have HB := n1_; clear n1_; clear hb hbox hg; obtain ⟨Ao13, co13, eo13⟩ := Kd.R_slice HO747.out; subst eo13; have hcz14_0 := qz w12 BK749.out; have hfz14_0 := blk_frozen BK749.out 0) | ((with_reducible refine gate_callee (f := 30) rfl ?_); refine gL (some 46) Try.func30 #[.agg #[.slice Ao13 t745.length co13], .int .i64 t748] ?_; (with_reducible refine (impl_CountLabels.calls k _ _ t745 t748 t750 t751 _ ?side1 ?side2 A6.out).mono ?_); (case side1 => refine (Kd.R_reads' (e := 3) (base := w.heap.size) (ok := fun k_ => True) (n := t745.length) (c := co13) ?_).2.2; exact (qR ((Kd.R_mono (Kd.R_far (p := ⟨gb749, 0, none⟩) (Kd.R_types HO747.out BK749.out (by decide)) (fun _ hk => hk.2) (.slice Ao13 t745.length co13)) (fun _ h_ => h_.1))))); (case side2 => exact (Kd.R_reads' HO747.out).2.1); rintro e w15 ⟨rfl, hb⟩; refine ⟨_, rfl, ?_⟩; replace HO747 := am (Kd.R_below (qR ((Kd.R_mono (Kd.R_far (p := ⟨gb749, 0, none⟩) (Kd.R_types HO747.out BK749.out (by decide)) (fun _ hk => hk.2) (.slice Ao13 t745.length co13)) (fun _ h_ => h_.1)))) hb); replace BK749 := am (blk_below (g := gb749) (o := .cells #[.slice Ao13 t745.length co13] 26 (0, 0)) (by (with_reducible repeat (first | refine blk_drewN ?_ _ | refine blk_drew ?_ | refine blk_alloc ?_ _)); refine blk_put (cs := #[.slice none 0 0]) ?_ 0 _ rfl; refine qb ?_; exact BK749.out) hb); replace HB := am (below_step qB hb); (try clear hb); (try clear hb2); (try clear hk); (try clear hi); have hcz16_0 := qz w15 BK749.out; have hfz16_0 := blk_frozen BK749.out 0) | ((with_reducible refine gate_callee (f := 31) rfl ?_); refine gL (some 52) Try.func31 #[.agg #[.slice Ao13 t745.length co13], .int .i64 t748] ?_; (with_reducible refine (spec_CountLabels.calls k _ _ t745 t748 t752 t753 _ ?side1 ?side2 A7.out).mono ?_); (case side1 => exact qC (Kd.R_reads' HO747.out).2.2); (case side2 => exact (Kd.R_reads' HO747.out).2.1); rintro e w17 ⟨rfl, hb⟩; refine ⟨_, rfl, ?_⟩; replace HO747 := am (Kd.R_below (qR HO747.out) hb); replace BK749 := am (blk_below (g := gb749) (o := .cells #[.slice Ao13 t745.length co13] 26 (0, 0)) (qb BK749.out) hb); replace HB := am (below_step qB hb); (try clear hb); (try clear hb2); (try clear hk); (try clear hi); have hcz18_0 := qz w17 BK749.out; have hfz18_0 := blk_frozen BK749.out 0) | ((with_reducible refine gate_callee (f := 32) rfl ?_); refine gL (some 58) Try.func32 #[.agg #[.slice Ao13 t745.length co13], .int .i64 t748] ?_; (with_reducible refine (impl_CountStrict.calls k _ _ t745 t748 t754 t755 _ ?side1 ?side2 A8.out).mono ?_); (case side1 => exact qC (Kd.R_reads' HO747.out).2.2); (case side2 => exact (Kd.R_reads' HO747.out).2.1); rintro e w19 ⟨rfl, hb⟩; refine ⟨_, rfl, ?_⟩; replace HO747 := am (Kd.R_below (qR HO747.out) hb); replace BK749 := am (blk_below (g := gb749) (o := .cells #[.slice Ao13 t745.length co13] 26 (0, 0)) (qb BK749.out) hb); replace HB := am (below_step qB hb); (try clear hb); (try clear hb2); (try clear hk); (try clear hi); have hcz20_0 := qz w19 BK749.out; have hfz20_0 := blk_frozen BK749.out 0) | ((with_reducible refine gate_callee (f := 33) rfl ?_); refine gL (some 64) Try.func33 #[.agg #[.slice Ao13 t745.length co13], .int .i64 t748] ?_; (with_reducible refine (spec_CountStrict.calls k _ _ t745 t748 t756 t757 _ ?side1 ?side2 A9.out).mono ?_); (case side1 => exact qC (Kd.R_reads' HO747.out).2.2); (case side2 => exact (Kd.R_reads' HO747.out).2.1); rintro e w21 ⟨rfl, hb⟩; refine ⟨_, rfl, ?_⟩; replace HO747 := am (Kd.R_below (qR HO747.out) hb); replace BK749 := am (blk_below (g := gb749) (o := .cells #[.slice Ao13 t745.length co13] 26 (0, 0)) (qb BK749.out) hb); replace HB := am (below_step qB hb); (try clear hb); (try clear hb2); (try clear hk); (try clear hi)))
    (try simp only [Act.put, List.setIfInBounds_toArray, List.set_cons_zero, List.set_cons_succ])
    go_cut [89] (fun v89 wc => ∃ (kq : Nat) (x89_9 : Bool), v89 = .bool x89_9 ∧ Aside0 (laws_FnLabelsCounted.j0 kq l1 t748 t750 t753 t754 x89_9 t745 = some r) ∧ Aside0 (kq ≤ k) ∧ Aside0 (Kd.R (Kd.int .i64) 3 wc w.heap.size (fun _ => True) (.slice Ao13 t745.length co13) t745) ∧ Aside0 (wc.heap[gb749]? = some (.cells #[(.slice Ao13 t745.length co13)] 26 (0, 0))) ∧ Aside0 (Below w.heap.size w wc))
    case first =>
     have H := HC10.out
     clear HC10
     by_cases c22 : (t751 != t753) = true
     ·as_aux_lemma =>
        rw [if_pos c22] at H
        have c22b0 : (t751 != t753) = true := c22
        (try (have c22b1 : decide (t751 = t753) = false := by simpa using c22))
        (try (have c22b2 : (t751 == t753) = false := by simpa using c22))
        (try (have c22b3 : ¬ (t751 = t753) := by simpa using c22))
        clear c22
        (first | rw [c22b0] | (simp only [i64_w, i32_w]; rw [c22b0]) | skip)
        have H' := am H
        clear H
        go_wp2
        go_meet
        case rel => exact ⟨_, (true), qe, H', ⟨by first | omega | exact Nat.le_refl _⟩, ⟨qR HO747.out⟩, ⟨qb BK749.out⟩, ⟨qB⟩⟩
     ·as_aux_lemma =>
        rw [if_neg c22] at H
        have c22b0 : (t751 != t753) = false := by simpa using c22
        (try (have c22b1 : decide (t751 = t753) = true := by simpa using c22))
        (try (have c22b2 : (t751 == t753) = true := by simpa using c22))
        clear c22
        (first | rw [c22b0] | (simp only [i64_w, i32_w]; rw [c22b0]) | skip)
        by_cases c23 : t750 = t752
        ·as_aux_lemma =>
           rw [if_pos c23] at H
           have c23b0 : (t750 == t752) = true := beq_iff_eq.mpr c23
           have c23b1 : (t750 != t752) = false := bne_eq_false_iff_eq.mpr c23
           clear c23
           by_cases c24 : (t755 != t757) = true
           ·rw [if_pos c24] at H
            have c24b0 : (t755 != t757) = true := c24
            (try (have c24b1 : decide (t755 = t757) = false := by simpa using c24))
            (try (have c24b2 : (t755 == t757) = false := by simpa using c24))
            (try (have c24b3 : ¬ (t755 = t757) := by simpa using c24))
            clear c24
            have H' := am H
            clear H
            go_wp2
            go_meet
            case rel => exact ⟨_, (true), qe, H', ⟨by first | omega | exact Nat.le_refl _⟩, ⟨qR HO747.out⟩, ⟨qb BK749.out⟩, ⟨qB⟩⟩
           ·as_aux_lemma =>
              rw [if_neg c24] at H
              have c24b0 : (t755 != t757) = false := by simpa using c24
              (try (have c24b1 : decide (t755 = t757) = true := by simpa using c24))
              (try (have c24b2 : (t755 == t757) = true := by simpa using c24))
              clear c24
              by_cases c25 : t754 = t756
              ·rw [if_pos c25] at H
               have c25b0 : (t754 == t756) = true := beq_iff_eq.mpr c25
               have c25b1 : (t754 != t756) = false := bne_eq_false_iff_eq.mpr c25
               clear c25
               have H' := am H
               clear H
               go_wp2
               go_meet
               case rel => exact ⟨_, ((t755 != t751)), qe, H', ⟨by first | omega | exact Nat.le_refl _⟩, ⟨qR HO747.out⟩, ⟨qb BK749.out⟩, ⟨qB⟩⟩
              ·rw [if_neg c25] at H
               have c25b0 : (t754 == t756) = false := beq_eq_false_iff_ne.mpr c25
               have c25b1 : (t754 != t756) = true := bne_iff_ne.mpr c25
               have H' := am H
               clear H
               go_wp2
               go_meet
               case rel => exact ⟨_, (true), qe, H', ⟨by first | omega | exact Nat.le_refl _⟩, ⟨qR HO747.out⟩, ⟨qb BK749.out⟩, ⟨qB⟩⟩
        ·rw [if_neg c23] at H
         have c23b0 : (t750 == t752) = false := beq_eq_false_iff_ne.mpr c23
         have c23b1 : (t750 != t752) = true := bne_iff_ne.mpr c23
         have H' := am H
         clear H
         go_wp2
         go_meet
         case rel => exact ⟨_, (true), qe, H', ⟨by first | omega | exact Nat.le_refl _⟩, ⟨qR HO747.out⟩, ⟨qb BK749.out⟩, ⟨qB⟩⟩
    case rest =>
     clear HC10
     try clear c1
     try clear c2
     try clear p2
     try clear c3
     try clear c4
     try clear c7
     try clear c22
     try clear c22b0
     try clear c22b1
     try clear c22b2
     try clear c23
     try clear c23b0
     try clear c23b1
     try clear c24
     try clear c24b0
     try clear c24b1
     try clear c24b2
     try clear c25
     try clear c25b0
     try clear c25b1
     try clear hcz14_0
     try clear hcz16_0
     try clear hcz18_0
     try clear hcz20_0
     try clear hfz14_0
     try clear hfz16_0
     try clear hfz18_0
     try clear hfz20_0
     obtain ⟨kq, x89_9, rfl, HA, HJ9, HO_750000, BK749, HB⟩ := hcut
     cases kq with
     | zero => exact absurd HA.out (by simp [laws_FnLabelsCounted.j0])
     | succ kj9 =>
      have H := HA.out
      clear HA
      simp only [laws_FnLabelsCounted.j0] at H
      by_cases c26 : x89_9 = true
      ·subst c26
       have H1 : (some false) = some r := by rw [if_pos rfl] at H; exact H
       clear H
       have H := H1
       clear H1
       obtain rfl := Option.some.inj H
       go_wp2
       go_ret
       exact ⟨qr, qB⟩
      ·as_aux_lemma =>
         replace c26 := Bool.eq_false_iff.mpr c26
         subst c26
         have H1 : ((spec_DrawLabelPolynomialAt.f kj9 l1).bind fun bt758 => ((impl_LabelPolynomialAt.f kj9 bt758.1 bt758.2).bind fun bt763 => ((spec_LabelPolynomialAt.f kj9 bt758.1 bt758.2).bind fun bt765 => (if (bt763.2 != bt765.2) = true then (laws_FnLabelsCounted.j1 kj9 l1 t748 t750 t753 t754 true t745) else (laws_FnLabelsCounted.j1 kj9 l1 t748 t750 t753 t754 (bt763.1 != bt765.1) t745))))) = some r := by rw [if_neg (show ¬ (false = true) by decide)] at H; exact H
         clear H
         have H := H1
         clear H1
         replace H := Option.bind_eq_some_iff.mp H
         obtain ⟨⟨t758, t761⟩, A270, H⟩ := H
         replace H : ((impl_LabelPolynomialAt.f kj9 t758 t761).bind fun bt763 => ((spec_LabelPolynomialAt.f kj9 t758 t761).bind fun bt765 => (if (bt763.2 != bt765.2) = true then (laws_FnLabelsCounted.j1 kj9 l1 t748 t750 t753 t754 true t745) else (laws_FnLabelsCounted.j1 kj9 l1 t748 t750 t753 t754 (bt763.1 != bt765.1) t745)))) = some r := H
         have A27 := am A270
         clear A270
         replace H := Option.bind_eq_some_iff.mp H
         obtain ⟨⟨t763, t764⟩, A280, H⟩ := H
         replace H : ((spec_LabelPolynomialAt.f kj9 t758 t761).bind fun bt765 => (if (t764 != bt765.2) = true then (laws_FnLabelsCounted.j1 kj9 l1 t748 t750 t753 t754 true t745) else (laws_FnLabelsCounted.j1 kj9 l1 t748 t750 t753 t754 (t763 != bt765.1) t745))) = some r := H
         have A28 := am A280
         clear A280
         replace H := Option.bind_eq_some_iff.mp H
         obtain ⟨⟨t765, t766⟩, A290, H⟩ := H
         replace H : (if (t764 != t766) = true then (laws_FnLabelsCounted.j1 kj9 l1 t748 t750 t753 t754 true t745) else (laws_FnLabelsCounted.j1 kj9 l1 t748 t750 t753 t754 (t763 != t765) t745)) = some r := H
         have A29 := am A290
         clear A290
         have HC30 := am H
         clear H
         go_upto_region 13 with (first | ((with_reducible refine gate_callee (f := 34) rfl ?_); refine gL (some 92) Try.func34 #[.slice A1 l1.length c1] ?_; (with_reducible refine (spec_DrawLabelPolynomialAt.calls kj9 _ _ l1 t758 t761 _ ?side1 ?side2 A27.out).mono ?_); (case side1 => exact qC (Kd.C_below HR1.out HB.out)); (case side2 => exact HC1.out); rintro e w31 ⟨v759, rfl, ho0, hb⟩; refine ⟨_, rfl, ?_⟩; have n0_ := am (Kd.R_elder' (qR HO_750000.out) (Kd.R_base ho0) hb); have HO760 := am (Kd.R_lower (Kd.R_new' ho0 (Kd.R_lt (qR HO_750000.out))) (below_size qB)); replace BK749 := am (blk_below (g := gb749) (o := .cells #[.slice Ao13 t745.length co13] 26 (0, 0)) (qb BK749.out) hb); replace HB := am (below_step qB hb); clear HO_750000; have HO_750000 := n0_; clear n0_; (try clear hb); (try clear hb2); (try clear hk); (try clear hi); (try clear ho0)) | ((with_reducible refine gate_dst (N := 15) rfl ?_); refine qx (N := 15) (cs := #[.slice none 0 0]) (t := 26) ?_; intro gb762 hg w32 hbox hb; replace HO_750000 := am (Kd.R_below (qR HO_750000.out) hb); replace HO760 := am (Kd.R_below (qR HO760.out) hb); have n2_ := am (blk_below (g := gb749) (o := .cells #[.slice Ao13 t745.length co13] 26 (0, 0)) (qb BK749.out) hb); have n3_ := am (below_step qB hb); have BK762 := am (hbox); have GW762 := am (qg w hg); have GE762 := am (qg w hg); have NB749_762 := am ((by rw [hg]; exact Nat.ne_of_lt (blk_lt (g := gb749) (o := .cells #[.slice Ao13 t745.length co13] 26 (0, 0)) (qb BK749.out)) : gb749 ≠ gb762)); have NB762_749 := am ((by rw [hg]; exact Nat.ne_of_gt (blk_lt (g := gb749) (o := .cells #[.slice Ao13 t745.length co13] 26 (0, 0)) (qb BK749.out)) : gb762 ≠ gb749)); clear BK749 HB; have BK749 := n2_; have HB := n3_; clear n2_ n3_; clear hb hbox hg; obtain ⟨Ao33, co33, eo33⟩ := Kd.R_slice HO760.out; subst eo33; have hnb34 := NB762_749.out; have hnc34 := NB749_762.out; have hcz35_0 := qz w32 BK762.out; have hfz35_0 := blk_frozen BK762.out 0) | ((with_reducible refine gate_callee (f := 35) rfl ?_); refine gL (some 98) Try.func35 #[.agg #[.slice Ao33 t758.length co33], .int .i64 t761] ?_; (with_reducible refine (impl_LabelPolynomialAt.calls kj9 _ _ t758 t761 t763 t764 _ ?side1 ?side2 A28.out).mono ?_); (case side1 => refine (Kd.R_reads' (e := 3) (base := w.heap.size) (ok := fun k_ => (True ∧ some k_ ≠ (.slice Ao13 t745.length co13 : Value).ownBlock)) (n := t758.length) (c := co33) ?_).2.2; exact (qR ((Kd.R_mono (Kd.R_far (p := ⟨gb762, 0, none⟩) (Kd.R_types HO760.out BK762.out (by decide)) (fun _ hk => hk.2) (.slice Ao33 t758.length co33)) (fun _ h_ => h_.1))))); (case side2 => exact (Kd.R_reads' HO760.out).2.1); rintro e w36 ⟨rfl, hb⟩; refine ⟨_, rfl, ?_⟩; replace HO_750000 := am (Kd.R_below (qR ((Kd.R_mono (Kd.R_far (p := ⟨gb762, 0, none⟩) (Kd.R_types HO_750000.out BK762.out (by decide)) (fun _ hk => hk.2) (.slice Ao33 t758.length co33)) (fun _ h_ => h_.1)))) hb); replace HO760 := am (Kd.R_below (qR ((Kd.R_mono (Kd.R_far (p := ⟨gb762, 0, none⟩) (Kd.R_types HO760.out BK762.out (by decide)) (fun _ hk => hk.2) (.slice Ao33 t758.length co33)) (fun _ h_ => h_.1)))) hb); replace BK749 := am (blk_below (g := gb749) (o := .cells #[.slice Ao13 t745.length co13] 26 (0, 0)) (by (with_reducible repeat (first | refine blk_drewN ?_ _ | refine blk_drew ?_ | refine blk_alloc ?_ _)); refine blk_far ?_ NB749_762.out _; refine qb ?_; exact BK749.out) hb); replace BK762 := am (blk_below (g := gb762) (o := .cells #[.slice Ao33 t758.length co33] 26 (0, 0)) (by (with_reducible repeat (first | refine blk_drewN ?_ _ | refine blk_drew ?_ | refine blk_alloc ?_ _)); refine blk_put (cs := #[.slice none 0 0]) ?_ 0 _ rfl; refine qb ?_; exact BK762.out) hb); replace HB := am (below_step qB hb); (try clear hb); (try clear hb2); (try clear hk); (try clear hi); have hcz37_0 := qz w36 BK762.out; have hfz37_0 := blk_frozen BK762.out 0) | ((with_reducible refine gate_callee (f := 36) rfl ?_); refine gL (some 104) Try.func36 #[.agg #[.slice Ao33 t758.length co33], .int .i64 t761] ?_; (with_reducible refine (spec_LabelPolynomialAt.calls kj9 _ _ t758 t761 t765 t766 _ ?side1 ?side2 A29.out).mono ?_); (case side1 => exact qC (Kd.R_reads' HO760.out).2.2); (case side2 => exact (Kd.R_reads' HO760.out).2.1); rintro e w38 ⟨rfl, hb⟩; refine ⟨_, rfl, ?_⟩; replace HO_750000 := am (Kd.R_below (qR HO_750000.out) hb); replace HO760 := am (Kd.R_below (qR HO760.out) hb); replace BK749 := am (blk_below (g := gb749) (o := .cells #[.slice Ao13 t745.length co13] 26 (0, 0)) (qb BK749.out) hb); replace BK762 := am (blk_below (g := gb762) (o := .cells #[.slice Ao33 t758.length co33] 26 (0, 0)) (qb BK762.out) hb); replace HB := am (below_step qB hb); (try clear hb); (try clear hb2); (try clear hk); (try clear hi)))
         (try simp only [Act.put, List.setIfInBounds_toArray, List.set_cons_zero, List.set_cons_succ])
         go_cut [114] (fun v114 wc => ∃ (kq : Nat) (x114_29 : Bool), v114 = .bool x114_29 ∧ Aside0 (laws_FnLabelsCounted.j1 kq l1 t748 t750 t753 t754 x114_29 t745 = some r) ∧ Aside0 (kq ≤ kj9) ∧ Aside0 (Kd.R (Kd.int .i64) 3 wc w.heap.size (fun k_ => some k_ ≠ ((.slice Ao33 t758.length co33) : Value).ownBlock) (.slice Ao13 t745.length co13) t745) ∧ Aside0 (Kd.R (Kd.int .i64) 3 wc w.heap.size (fun k_ => some k_ ≠ ((.slice Ao13 t745.length co13) : Value).ownBlock) (.slice Ao33 t758.length co33) t758) ∧ Aside0 (wc.heap[gb749]? = some (.cells #[(.slice Ao13 t745.length co13)] 26 (0, 0))) ∧ Aside0 (wc.heap[gb762]? = some (.cells #[(.slice Ao33 t758.length co33)] 26 (0, 0))) ∧ Aside0 (Below w.heap.size w wc))
         case first =>
          have H := HC30.out
          clear HC30
          by_cases c39 : (t764 != t766) = true
          ·as_aux_lemma =>
             rw [if_pos c39] at H
             have c39b0 : (t764 != t766) = true := c39
             (try (have c39b1 : decide (t764 = t766) = false := by simpa using c39))
             (try (have c39b2 : (t764 == t766) = false := by simpa using c39))
             (try (have c39b3 : ¬ (t764 = t766) := by simpa using c39))
             clear c39
             (first | rw [c39b0] | (simp only [i64_w, i32_w]; rw [c39b0]) | skip)
             have H' := am H
             clear H
             go_wp2
             go_meet
             case rel => exact ⟨_, (true), qe, H', ⟨by have := HJ9.out; first | omega | exact Nat.le_refl _⟩, ⟨qR (Kd.R_mono HO_750000.out (fun _ hk => hk.2))⟩, ⟨qR (Kd.R_mono HO760.out (fun _ hk => hk.2))⟩, ⟨qb BK749.out⟩, ⟨qb BK762.out⟩, ⟨qB⟩⟩
          ·rw [if_neg c39] at H
           have c39b0 : (t764 != t766) = false := by simpa using c39
           (try (have c39b1 : decide (t764 = t766) = true := by simpa using c39))
           (try (have c39b2 : (t764 == t766) = true := by simpa using c39))
           clear c39
           (first | rw [c39b0] | (simp only [i64_w, i32_w]; rw [c39b0]) | skip)
           have H' := am H
           clear H
           go_wp2
           go_meet
           case rel => exact ⟨_, ((t763 != t765)), qe, H', ⟨by have := HJ9.out; first | omega | exact Nat.le_refl _⟩, ⟨qR (Kd.R_mono HO_750000.out (fun _ hk => hk.2))⟩, ⟨qR (Kd.R_mono HO760.out (fun _ hk => hk.2))⟩, ⟨qb BK749.out⟩, ⟨qb BK762.out⟩, ⟨qB⟩⟩
         case rest =>
          clear HC30
          try clear c1
          try clear c2
          try clear p2
          try clear c3
          try clear c4
          try clear c7
          try clear c22
          try clear c22b0
          try clear c22b1
          try clear c22b2
          try clear c23
          try clear c23b0
          try clear c23b1
          try clear c24
          try clear c24b0
          try clear c24b1
          try clear c24b2
          try clear c25
          try clear c25b0
          try clear c25b1
          try clear c26
          try clear c29
          try clear c30
          try clear c31
          try clear c32
          try clear c33
          try clear c34
          try clear c35
          try clear c36
          try clear c39
          try clear c39b0
          try clear c39b1
          try clear c39b2
          try clear hcz14_0
          try clear hcz16_0
          try clear hcz18_0
          try clear hcz20_0
          try clear hcz35_0
          try clear hcz37_0
          try clear hfz14_0
          try clear hfz16_0
          try clear hfz18_0
          try clear hfz20_0
          try clear hfz35_0
          try clear hfz37_0
          try clear p2
          obtain ⟨kq, x114_29, rfl, HA, HJ29, HO_750000, HO_763000, BK749, BK762, HB⟩ := hcut
          cases kq with
          | zero => exact absurd HA.out (by simp [laws_FnLabelsCounted.j1])
          | succ kj29 =>
           have H := HA.out
           clear HA
           simp only [laws_FnLabelsCounted.j1] at H
           by_cases c40 : x114_29 = true
           ·subst c40
            have H1 : (some false) = some r := by rw [if_pos rfl] at H; exact H
            clear H
            have H := H1
            clear H1
            obtain rfl := Option.some.inj H
            go_wp2
            go_ret
            exact ⟨qr, qB⟩
           ·as_aux_lemma =>
              replace c40 := Bool.eq_false_iff.mpr c40
              subst c40
              have H1 : ((spec_DrawStepCounts.f kj29 l1).bind fun t767 => ((impl_StepCounts.f kj29 t767).bind fun bt771 => ((spec_StepCounts.f kj29 t767).bind fun bt775 => (if (bt771.2 != bt775.2) = true then (laws_FnLabelsCounted.j2 kj29 t748 t750 t753 t754 bt771.1 bt771.2 true t745 t767) else ((laws_oSame.f kj29 bt771.1 bt775.1).bind fun t779 => (if t779 = true then ((impl_IsPoset.f kj29 t767).bind fun t780 => (laws_FnLabelsCounted.j2 kj29 t748 t750 t753 t754 bt771.1 bt771.2 (bt771.2 != t780) t745 t767)) else (laws_FnLabelsCounted.j2 kj29 t748 t750 t753 t754 bt771.1 bt771.2 true t745 t767))))))) = some r := by rw [if_neg (show ¬ (false = true) by decide)] at H; exact H
              clear H
              have H := H1
              clear H1
              replace H := Option.bind_eq_some_iff.mp H
              obtain ⟨t767, A410, H⟩ := H
              replace H : ((impl_StepCounts.f kj29 t767).bind fun bt771 => ((spec_StepCounts.f kj29 t767).bind fun bt775 => (if (bt771.2 != bt775.2) = true then (laws_FnLabelsCounted.j2 kj29 t748 t750 t753 t754 bt771.1 bt771.2 true t745 t767) else ((laws_oSame.f kj29 bt771.1 bt775.1).bind fun t779 => (if t779 = true then ((impl_IsPoset.f kj29 t767).bind fun t780 => (laws_FnLabelsCounted.j2 kj29 t748 t750 t753 t754 bt771.1 bt771.2 (bt771.2 != t780) t745 t767)) else (laws_FnLabelsCounted.j2 kj29 t748 t750 t753 t754 bt771.1 bt771.2 true t745 t767)))))) = some r := H
              have A41 := am A410
              clear A410
              replace H := Option.bind_eq_some_iff.mp H
              obtain ⟨⟨t771, t774⟩, A420, H⟩ := H
              replace H : ((spec_StepCounts.f kj29 t767).bind fun bt775 => (if (t774 != bt775.2) = true then (laws_FnLabelsCounted.j2 kj29 t748 t750 t753 t754 t771 t774 true t745 t767) else ((laws_oSame.f kj29 t771 bt775.1).bind fun t779 => (if t779 = true then ((impl_IsPoset.f kj29 t767).bind fun t780 => (laws_FnLabelsCounted.j2 kj29 t748 t750 t753 t754 t771 t774 (t774 != t780) t745 t767)) else (laws_FnLabelsCounted.j2 kj29 t748 t750 t753 t754 t771 t774 true t745 t767))))) = some r := H
              have A42 := am A420
              clear A420
              replace H := Option.bind_eq_some_iff.mp H
              obtain ⟨⟨t775, t778⟩, A430, H⟩ := H
              replace H : (if (t774 != t778) = true then (laws_FnLabelsCounted.j2 kj29 t748 t750 t753 t754 t771 t774 true t745 t767) else ((laws_oSame.f kj29 t771 t775).bind fun t779 => (if t779 = true then ((impl_IsPoset.f kj29 t767).bind fun t780 => (laws_FnLabelsCounted.j2 kj29 t748 t750 t753 t754 t771 t774 (t774 != t780) t745 t767)) else (laws_FnLabelsCounted.j2 kj29 t748 t750 t753 t754 t771 t774 true t745 t767)))) = some r := H
              have A43 := am A430
              clear A430
              have HC44 := am H
              clear H
              go_upto_region 18 with (first | ((with_reducible refine gate_callee (f := 37) rfl ?_); refine gL (some 116) Try.func37 #[.slice A1 l1.length c1] ?_; (with_reducible refine (spec_DrawStepCounts.calls kj29 _ _ l1 t767 _ ?side1 ?side2 A41.out).mono ?_); (case side1 => exact qC (Kd.C_below HR1.out HB.out)); (case side2 => exact HC1.out); rintro e w45 ⟨v768, rfl, ho0, hb⟩; refine ⟨_, rfl, ?_⟩; have n0_ := am (Kd.R_elder' (qR HO_750000.out) (Kd.R_base ho0) hb); have n1_ := am (Kd.R_elder' (qR HO_763000.out) (Kd.R_base ho0) hb); have HO769 := am (Kd.R_lower (Kd.R_new' (Kd.R_new' ho0 (Kd.R_lt (qR HO_750000.out))) (Kd.R_lt (qR HO_763000.out))) (below_size qB)); replace BK749 := am (blk_below (g := gb749) (o := .cells #[.slice Ao13 t745.length co13] 26 (0, 0)) (qb BK749.out) hb); replace BK762 := am (blk_below (g := gb762) (o := .cells #[.slice Ao33 t758.length co33] 26 (0, 0)) (qb BK762.out) hb); replace HB := am (below_step qB hb); clear HO_750000 HO_763000; have HO_750000 := n0_; have HO_763000 := n1_; clear n0_ n1_; (try clear hb); (try clear hb2); (try clear hk); (try clear hi); (try clear ho0)) | ((with_reducible refine gate_dst (N := 21) rfl ?_); refine qx (N := 21) (cs := #[.slice none 0 0]) (t := 26) ?_; intro gb770 hg w46 hbox hb; replace HO_750000 := am (Kd.R_below (qR HO_750000.out) hb); replace HO_763000 := am (Kd.R_below (qR HO_763000.out) hb); replace HO769 := am (Kd.R_below (qR HO769.out) hb); have n3_ := am (blk_below (g := gb749) (o := .cells #[.slice Ao13 t745.length co13] 26 (0, 0)) (qb BK749.out) hb); have n4_ := am (blk_below (g := gb762) (o := .cells #[.slice Ao33 t758.length co33] 26 (0, 0)) (qb BK762.out) hb); have n5_ := am (below_step qB hb); have BK770 := am (hbox); have GW770 := am (qg w hg); have GE770 := am (qg w hg); have NB749_770 := am ((by rw [hg]; exact Nat.ne_of_lt (blk_lt (g := gb749) (o := .cells #[.slice Ao13 t745.length co13] 26 (0, 0)) (qb BK749.out)) : gb749 ≠ gb770)); have NB770_749 := am ((by rw [hg]; exact Nat.ne_of_gt (blk_lt (g := gb749) (o := .cells #[.slice Ao13 t745.length co13] 26 (0, 0)) (qb BK749.out)) : gb770 ≠ gb749)); have NB762_770 := am ((by rw [hg]; exact Nat.ne_of_lt (blk_lt (g := gb762) (o := .cells #[.slice Ao33 t758.length co33] 26 (0, 0)) (qb BK762.out)) : gb762 ≠ gb770)); have NB770_762 := am ((by rw [hg]; exact Nat.ne_of_gt (blk_lt (g := gb762) (o := .cells #[.slice Ao33 t758.length co33] 26 (0, 0)) (qb BK762.out)) : gb770 ≠ gb762)); clear BK749 BK762 HB; have BK749 := n3_; have BK762 := n4_; have HB := n5_; clear n3_ n4_ n5_; clear hb hbox hg; obtain ⟨Ao47, co47, eo47⟩ := Kd.R_slice HO769.out; subst eo47; have hnb48 := NB770_749.out; have hnc48 := NB749_770.out; have hnb49 := NB770_762.out; have hnc49 := NB762_770.out; have hcz50_0 := qz w46 BK770.out; have hfz50_0 := blk_frozen BK770.out 0) | ((with_reducible refine gate_callee (f := 38) rfl ?_); refine gL (some 119) Try.func38 #[.agg #[.slice Ao47 t767.length co47]] ?_; (with_reducible refine (impl_StepCounts.calls kj29 _ _ t767 t771 t774 _ ?side1 ?side2 A42.out).mono ?_); (case side1 => refine (Kd.R_reads' (e := 3) (base := w.heap.size) (ok := fun k_ => ((True ∧ some k_ ≠ (.slice Ao13 t745.length co13 : Value).ownBlock) ∧ some k_ ≠ (.slice Ao33 t758.length co33 : Value).ownBlock)) (n := t767.length) (c := co47) ?_).2.2; exact (qR ((Kd.R_mono (Kd.R_far (p := ⟨gb770, 0, none⟩) (Kd.R_types HO769.out BK770.out (by decide)) (fun _ hk => hk.2) (.slice Ao47 t767.length co47)) (fun _ h_ => h_.1))))); (case side2 => exact (Kd.R_reads' HO769.out).2.1); rintro e w51 ⟨v772, rfl, ho0, hb⟩; refine ⟨_, rfl, ?_⟩; have n0_ := am (Kd.R_elder' (qR ((Kd.R_mono (Kd.R_far (p := ⟨gb770, 0, none⟩) (Kd.R_types HO_750000.out BK770.out (by decide)) (fun _ hk => hk.2) (.slice Ao47 t767.length co47)) (fun _ h_ => h_.1)))) (Kd.R_base ho0) hb); have n1_ := am (Kd.R_elder' (qR ((Kd.R_mono (Kd.R_far (p := ⟨gb770, 0, none⟩) (Kd.R_types HO_763000.out BK770.out (by decide)) (fun _ hk => hk.2) (.slice Ao47 t767.length co47)) (fun _ h_ => h_.1)))) (Kd.R_base ho0) hb); have n2_ := am (Kd.R_elder' (qR ((Kd.R_mono (Kd.R_far (p := ⟨gb770, 0, none⟩) (Kd.R_types HO769.out BK770.out (by decide)) (fun _ hk => hk.2) (.slice Ao47 t767.length co47)) (fun _ h_ => h_.1)))) (Kd.R_base ho0) hb); have HO773 := am (Kd.R_lower (Kd.R_new' (Kd.R_new' (Kd.R_new' ho0 (Kd.R_lt (qR ((Kd.R_mono (Kd.R_far (p := ⟨gb770, 0, none⟩) (Kd.R_types HO_750000.out BK770.out (by decide)) (fun _ hk => hk.2) (.slice Ao47 t767.length co47)) (fun _ h_ => h_.1)))))) (Kd.R_lt (qR ((Kd.R_mono (Kd.R_far (p := ⟨gb770, 0, none⟩) (Kd.R_types HO_763000.out BK770.out (by decide)) (fun _ hk => hk.2) (.slice Ao47 t767.length co47)) (fun _ h_ => h_.1)))))) (Kd.R_lt (qR ((Kd.R_mono (Kd.R_far (p := ⟨gb770, 0, none⟩) (Kd.R_types HO769.out BK770.out (by decide)) (fun _ hk => hk.2) (.slice Ao47 t767.length co47)) (fun _ h_ => h_.1)))))) (below_size qB)); replace BK749 := am (blk_below (g := gb749) (o := .cells #[.slice Ao13 t745.length co13] 26 (0, 0)) (by (with_reducible repeat (first | refine blk_drewN ?_ _ | refine blk_drew ?_ | refine blk_alloc ?_ _)); refine blk_far ?_ NB749_770.out _; refine qb ?_; exact BK749.out) hb); replace BK762 := am (blk_below (g := gb762) (o := .cells #[.slice Ao33 t758.length co33] 26 (0, 0)) (by (with_reducible repeat (first | refine blk_drewN ?_ _ | refine blk_drew ?_ | refine blk_alloc ?_ _)); refine blk_far ?_ NB762_770.out _; refine qb ?_; exact BK762.out) hb); replace BK770 := am (blk_below (g := gb770) (o := .cells #[.slice Ao47 t767.length co47] 26 (0, 0)) (by (with_reducible repeat (first | refine blk_drewN ?_ _ | refine blk_drew ?_ | refine blk_alloc ?_ _)); refine blk_put (cs := #[.slice none 0 0]) ?_ 0 _ rfl; refine qb ?_; exact BK770.out) hb); replace HB := am (below_step qB hb); clear HO_750000 HO_763000 HO769; have HO_750000 := n0_; have HO_763000 := n1_; have HO769 := n2_; clear n0_ n1_ n2_; (try clear hb); (try clear hb2); (try clear hk); (try clear hi); (try clear ho0); have hcz52_0 := qz w51 BK770.out; have hfz52_0 := blk_frozen BK770.out 0) | ((with_reducible refine gate_callee (f := 39) rfl ?_); refine gL (some 124) Try.func39 #[.agg #[.slice Ao47 t767.length co47]] ?_; (with_reducible refine (spec_StepCounts.calls kj29 _ _ t767 t775 t778 _ ?side1 ?side2 A43.out).mono ?_); (case side1 => exact qC (Kd.R_reads' HO769.out).2.2); (case side2 => exact (Kd.R_reads' HO769.out).2.1); rintro e w53 ⟨v776, rfl, ho0, hb⟩; refine ⟨_, rfl, ?_⟩; have n0_ := am (Kd.R_elder' (qR HO_750000.out) (Kd.R_base ho0) hb); have n1_ := am (Kd.R_elder' (qR HO_763000.out) (Kd.R_base ho0) hb); have n2_ := am (Kd.R_elder' (qR HO769.out) (Kd.R_base ho0) hb); have n3_ := am (Kd.R_elder' (qR HO773.out) (Kd.R_base ho0) hb); have HO777 := am (Kd.R_lower (Kd.R_new' (Kd.R_new' (Kd.R_new' (Kd.R_new' ho0 (Kd.R_lt (qR HO_750000.out))) (Kd.R_lt (qR HO_763000.out))) (Kd.R_lt (qR HO769.out))) (Kd.R_lt (qR HO773.out))) (below_size qB)); replace BK749 := am (blk_below (g := gb749) (o := .cells #[.slice Ao13 t745.length co13] 26 (0, 0)) (qb BK749.out) hb); replace BK762 := am (blk_below (g := gb762) (o := .cells #[.slice Ao33 t758.length co33] 26 (0, 0)) (qb BK762.out) hb); replace BK770 := am (blk_below (g := gb770) (o := .cells #[.slice Ao47 t767.length co47] 26 (0, 0)) (qb BK770.out) hb); replace HB := am (below_step qB hb); clear HO_750000 HO_763000 HO769 HO773; have HO_750000 := n0_; have HO_763000 := n1_; have HO769 := n2_; have HO773 := n3_; clear n0_ n1_ n2_ n3_; (try clear hb); (try clear hb2); (try clear hk); (try clear hi); (try clear ho0)))
              (try simp only [Act.put, List.setIfInBounds_toArray, List.set_cons_zero, List.set_cons_succ])
              go_cut [141] (fun v141 wc => ∃ (kq : Nat) (x141_43 : Bool), v141 = .bool x141_43 ∧ Aside0 (laws_FnLabelsCounted.j2 kq t748 t750 t753 t754 t771 t774 x141_43 t745 t767 = some r) ∧ Aside0 (kq ≤ kj29) ∧ Aside0 (Kd.R (Kd.int .i64) 3 wc w.heap.size (fun k_ => some k_ ≠ ((.slice Ao13 t745.length co13) : Value).ownBlock ∧ some k_ ≠ ((.slice Ao33 t758.length co33) : Value).ownBlock ∧ some k_ ≠ ((.slice Ao47 t767.length co47) : Value).ownBlock) v772 t771) ∧ Aside0 (Kd.R (Kd.int .i64) 3 wc w.heap.size (fun k_ => some k_ ≠ (v772 : Value).ownBlock ∧ some k_ ≠ ((.slice Ao33 t758.length co33) : Value).ownBlock ∧ some k_ ≠ ((.slice Ao47 t767.length co47) : Value).ownBlock) (.slice Ao13 t745.length co13) t745) ∧ Aside0 (Kd.R (Kd.int .i64) 3 wc w.heap.size (fun k_ => some k_ ≠ (v772 : Value).ownBlock ∧ some k_ ≠ ((.slice Ao13 t745.length co13) : Value).ownBlock ∧ some k_ ≠ ((.slice Ao47 t767.length co47) : Value).ownBlock) (.slice Ao33 t758.length co33) t758) ∧ Aside0 (Kd.R (Kd.int .i64) 3 wc w.heap.size (fun k_ => some k_ ≠ (v772 : Value).ownBlock ∧ some k_ ≠ ((.slice Ao13 t745.length co13) : Value).ownBlock ∧ some k_ ≠ ((.slice Ao33 t758.length co33) : Value).ownBlock) (.slice Ao47 t767.length co47) t767) ∧ Aside0 (wc.heap[gb749]? = some (.cells #[(.slice Ao13 t745.length co13)] 26 (0, 0))) ∧ Aside0 (wc.heap[gb762]? = some (.cells #[(.slice Ao33 t758.length co33)] 26 (0, 0))) ∧ Aside0 (wc.heap[gb770]? = some (.cells #[(.slice Ao47 t767.length co47)] 26 (0, 0))) ∧ Aside0 (Below w.heap.size w wc))
              case first =>
               have H := HC44.out
               clear HC44
               by_cases c54 : (t774 != t778) = true
               ·as_aux_lemma =>
                  rw [if_pos c54] at H
                  have c54b0 : (t774 != t778) = true := c54
                  (try (have c54b1 : decide (t774 = t778) = false := by simpa using c54))
                  (try (have c54b2 : (t774 == t778) = false := by simpa using c54))
                  (try (have c54b3 : ¬ (t774 = t778) := by simpa using c54))
                  clear c54
                  (first | rw [c54b0] | (simp only [i64_w, i32_w]; rw [c54b0]) | skip)
                  have H' := am H
                  clear H
                  go_wp2
                  go_meet
                  case rel => exact ⟨_, (true), qe, H', ⟨by have := HJ9.out; have := HJ29.out; first | omega | exact Nat.le_refl _⟩, ⟨qR (Kd.R_mono HO773.out (fun _ hk => ⟨hk.1.1.1.2, ⟨hk.1.1.2, hk.1.2⟩⟩))⟩, ⟨qR (Kd.R_mono HO_750000.out (fun _ hk => ⟨hk.1.2, ⟨hk.1.1.1, hk.1.1.2⟩⟩))⟩, ⟨qR (Kd.R_mono HO_763000.out (fun _ hk => ⟨hk.1.2, ⟨hk.1.1.1, hk.1.1.2⟩⟩))⟩, ⟨qR (Kd.R_mono HO769.out (fun _ hk => ⟨hk.1.2, ⟨hk.1.1.1.2, hk.1.1.2⟩⟩))⟩, ⟨qb BK749.out⟩, ⟨qb BK762.out⟩, ⟨qb BK770.out⟩, ⟨qB⟩⟩
               ·as_aux_lemma =>
                  rw [if_neg c54] at H
                  have c54b0 : (t774 != t778) = false := by simpa using c54
                  (try (have c54b1 : decide (t774 = t778) = true := by simpa using c54))
                  (try (have c54b2 : (t774 == t778) = true := by simpa using c54))
                  clear c54
                  (first | rw [c54b0] | (simp only [i64_w, i32_w]; rw [c54b0]) | skip)
                  replace H := Option.bind_eq_some_iff.mp H
                  obtain ⟨t779, A550, H⟩ := H
                  replace H : (if t779 = true then ((impl_IsPoset.f kj29 t767).bind fun t780 => (laws_FnLabelsCounted.j2 kj29 t748 t750 t753 t754 t771 t774 (t774 != t780) t745 t767)) else (laws_FnLabelsCounted.j2 kj29 t748 t750 t753 t754 t771 t774 true t745 t767)) = some r := H
                  have A55 := am A550
                  clear A550
                  by_cases c56 : t779 = true
                  ·as_aux_lemma =>
                     subst c56
                     have H1 : ((impl_IsPoset.f kj29 t767).bind fun t780 => (laws_FnLabelsCounted.j2 kj29 t748 t750 t753 t754 t771 t774 (t774 != t780) t745 t767)) = some r := by rw [if_pos rfl] at H; exact H
                     clear H
                     have H := H1
                     clear H1
                     replace H := Option.bind_eq_some_iff.mp H
                     obtain ⟨t780, A570, H⟩ := H
                     replace H : (laws_FnLabelsCounted.j2 kj29 t748 t750 t753 t754 t771 t774 (t774 != t780) t745 t767) = some r := H
                     have A57 := am A570
                     clear A570
                     have H' := am H
                     clear H
                     obtain ⟨Ao58, co58, eo58⟩ := Kd.R_slice HO773.out
                     subst eo58
                     obtain ⟨Ao59, co59, eo59⟩ := Kd.R_slice HO777.out
                     subst eo59
                     go_wp2_with (first | (go_at_call 11; (with_reducible refine (laws_oSame.calls kj29 _ _ t771 _ _ t775 true _ ?side1 ?side2 ?side3 ?side4 A55.out).mono ?_); (case side1 => exact qC (Kd.R_reads' HO773.out).2.2); (case side2 => exact (Kd.R_reads' HO773.out).2.1); (case side3 => exact qC (Kd.R_reads' HO777.out).2.2); (case side4 => exact (Kd.R_reads' HO777.out).2.1); rintro e w' ⟨rfl, ⟨nd, rfl⟩⟩; have hnb60 := NB770_749.out; have hnc60 := NB749_770.out; have hnb61 := NB770_762.out; have hnc61 := NB762_770.out; have hcz62_0 := qz w53 BK770.out; have hfz62_0 := blk_frozen BK770.out 0) | (go_at_call 40; (with_reducible refine (impl_IsPoset.calls kj29 _ _ t767 t780 _ ?side1 ?side2 A57.out).mono ?_); (case side1 => exact qC (Kd.R_reads' HO769.out).2.2); (case side2 => exact (Kd.R_reads' HO769.out).2.1); rintro e w63 ⟨rfl, hb⟩; replace HO_750000 := am (Kd.R_below (qR HO_750000.out) hb); replace HO_763000 := am (Kd.R_below (qR HO_763000.out) hb); replace HO769 := am (Kd.R_below (qR HO769.out) hb); replace HO773 := am (Kd.R_below (qR HO773.out) hb); replace HO777 := am (Kd.R_below (qR HO777.out) hb); replace BK749 := am (blk_below (g := gb749) (o := .cells #[.slice Ao13 t745.length co13] 26 (0, 0)) (qb BK749.out) hb); replace BK762 := am (blk_below (g := gb762) (o := .cells #[.slice Ao33 t758.length co33] 26 (0, 0)) (qb BK762.out) hb); replace BK770 := am (blk_below (g := gb770) (o := .cells #[.slice Ao47 t767.length co47] 26 (0, 0)) (qb BK770.out) hb); replace HB := am (below_step qB hb); (try clear hb); (try clear hb2); (try clear hk); (try clear hi)))
                     go_meet
                     case rel => exact ⟨_, ((t774 != t780)), qe, H', ⟨by have := HJ9.out; have := HJ29.out; first | omega | exact Nat.le_refl _⟩, ⟨qR (Kd.R_mono HO773.out (fun _ hk => ⟨hk.1.1.1.2, ⟨hk.1.1.2, hk.1.2⟩⟩))⟩, ⟨qR (Kd.R_mono HO_750000.out (fun _ hk => ⟨hk.1.2, ⟨hk.1.1.1, hk.1.1.2⟩⟩))⟩, ⟨qR (Kd.R_mono HO_763000.out (fun _ hk => ⟨hk.1.2, ⟨hk.1.1.1, hk.1.1.2⟩⟩))⟩, ⟨qR (Kd.R_mono HO769.out (fun _ hk => ⟨hk.1.2, ⟨hk.1.1.1.2, hk.1.1.2⟩⟩))⟩, ⟨qb BK749.out⟩, ⟨qb BK762.out⟩, ⟨qb BK770.out⟩, ⟨qB⟩⟩
                  ·as_aux_lemma =>
                     replace c56 := Bool.eq_false_iff.mpr c56
                     subst c56
                     have H1 : (laws_FnLabelsCounted.j2 kj29 t748 t750 t753 t754 t771 t774 true t745 t767) = some r := by rw [if_neg (show ¬ (false = true) by decide)] at H; exact H
                     clear H
                     have H := H1
                     clear H1
                     have H' := am H
                     clear H
                     obtain ⟨Ao64, co64, eo64⟩ := Kd.R_slice HO773.out
                     subst eo64
                     obtain ⟨Ao65, co65, eo65⟩ := Kd.R_slice HO777.out
                     subst eo65
                     go_wp2_with (first | (go_at_call 11; (with_reducible refine (laws_oSame.calls kj29 _ _ t771 _ _ t775 false _ ?side1 ?side2 ?side3 ?side4 A55.out).mono ?_); (case side1 => exact qC (Kd.R_reads' HO773.out).2.2); (case side2 => exact (Kd.R_reads' HO773.out).2.1); (case side3 => exact qC (Kd.R_reads' HO777.out).2.2); (case side4 => exact (Kd.R_reads' HO777.out).2.1); rintro e w' ⟨rfl, ⟨nd, rfl⟩⟩))
                     go_meet
                     case rel => exact ⟨_, (true), qe, H', ⟨by have := HJ9.out; have := HJ29.out; first | omega | exact Nat.le_refl _⟩, ⟨qR (Kd.R_mono HO773.out (fun _ hk => ⟨hk.1.1.1.2, ⟨hk.1.1.2, hk.1.2⟩⟩))⟩, ⟨qR (Kd.R_mono HO_750000.out (fun _ hk => ⟨hk.1.2, ⟨hk.1.1.1, hk.1.1.2⟩⟩))⟩, ⟨qR (Kd.R_mono HO_763000.out (fun _ hk => ⟨hk.1.2, ⟨hk.1.1.1, hk.1.1.2⟩⟩))⟩, ⟨qR (Kd.R_mono HO769.out (fun _ hk => ⟨hk.1.2, ⟨hk.1.1.1.2, hk.1.1.2⟩⟩))⟩, ⟨qb BK749.out⟩, ⟨qb BK762.out⟩, ⟨qb BK770.out⟩, ⟨qB⟩⟩
              case rest =>
               clear HC44
               try clear c1
               try clear c2
               try clear p2
               try clear c3
               try clear c4
               try clear c5
               try clear c6
               try clear c7
               try clear c22
               try clear c22b0
               try clear c22b1
               try clear c22b2
               try clear c23
               try clear c23b0
               try clear c23b1
               try clear c24
               try clear c24b0
               try clear c24b1
               try clear c24b2
               try clear c25
               try clear c25b0
               try clear c25b1
               try clear c26
               try clear c29
               try clear c30
               try clear c31
               try clear c32
               try clear c33
               try clear c34
               try clear c35
               try clear c36
               try clear c37
               try clear c38
               try clear c39
               try clear c39b0
               try clear c39b1
               try clear c39b2
               try clear c40
               try clear c48
               try clear c49
               try clear c54
               try clear c54b0
               try clear c54b1
               try clear c54b2
               try clear c56
               try clear c60
               try clear c61
               try clear hcz14_0
               try clear hcz16_0
               try clear hcz18_0
               try clear hcz20_0
               try clear hcz35_0
               try clear hcz37_0
               try clear hcz50_0
               try clear hcz52_0
               try clear hcz62_0
               try clear hfz14_0
               try clear hfz16_0
               try clear hfz18_0
               try clear hfz20_0
               try clear hfz35_0
               try clear hfz37_0
               try clear hfz50_0
               try clear hfz52_0
               try clear hfz62_0
               try clear p2
               obtain ⟨kq, x141_43, rfl, HA, HJ43, HO_22, HO_750000, HO_763000, HO_771000, BK749, BK762, BK770, HB⟩ := hcut
               cases kq with
               | zero => exact absurd HA.out (by simp [laws_FnLabelsCounted.j2])
               | succ kj43 =>
                have H := HA.out
                clear HA
                simp only [laws_FnLabelsCounted.j2] at H
                by_cases c66 : x141_43 = true
                ·subst c66
                 have H1 : (some false) = some r := by rw [if_pos rfl] at H; exact H
                 clear H
                 have H := H1
                 clear H1
                 obtain rfl := Option.some.inj H
                 go_wp2
                 go_ret
                 exact ⟨qr, qB⟩
                ·as_aux_lemma =>
                   replace c66 := Bool.eq_false_iff.mpr c66
                   subst c66
                   have H1 : (if t774 = true then ((impl_CountLinear.f kj43 t767).bind fun bt781 => (if bt781.2 = true then (if (t771.length : Int) = (t767.length : Int) then (if 0 ≤ (wrap64 ((t771.length : Int) - 1)) then (if (wrap64 ((t771.length : Int) - 1)) < (t771.length : Int) then (laws_FnLabelsCounted.j3 kj43 t748 t750 t753 t754 t771 ((rd t771 (wrap64 ((t771.length : Int) - 1))) != bt781.1) t745) else (none)) else (none)) else (laws_FnLabelsCounted.j3 kj43 t748 t750 t753 t754 t771 true t745)) else (laws_FnLabelsCounted.j3 kj43 t748 t750 t753 t754 t771 true t745))) else (laws_FnLabelsCounted.j5 kj43 t748 t750 t753 t754 t745)) = some r := by rw [if_neg (show ¬ (false = true) by decide)] at H; exact H
                   clear H
                   have H := H1
                   clear H1
                   have HC67 := am H
                   clear H
                   go_upto_if 142 with (fail)
                   go_cut [] (fun wc => ∃ (kq : Nat), Aside0 (laws_FnLabelsCounted.j5 kq t748 t750 t753 t754 t745 = some r) ∧ Aside0 (kq ≤ kj43) ∧ Aside0 (Kd.R (Kd.int .i64) 3 wc w.heap.size (fun k_ => some k_ ≠ ((.slice Ao33 t758.length co33) : Value).ownBlock ∧ some k_ ≠ ((.slice Ao47 t767.length co47) : Value).ownBlock) (.slice Ao13 t745.length co13) t745) ∧ Aside0 (Kd.R (Kd.int .i64) 3 wc w.heap.size (fun k_ => some k_ ≠ ((.slice Ao13 t745.length co13) : Value).ownBlock ∧ some k_ ≠ ((.slice Ao47 t767.length co47) : Value).ownBlock) (.slice Ao33 t758.length co33) t758) ∧ Aside0 (Kd.R (Kd.int .i64) 3 wc w.heap.size (fun k_ => some k_ ≠ ((.slice Ao13 t745.length co13) : Value).ownBlock ∧ some k_ ≠ ((.slice Ao33 t758.length co33) : Value).ownBlock) (.slice Ao47 t767.length co47) t767) ∧ Aside0 (wc.heap[gb749]? = some (.cells #[(.slice Ao13 t745.length co13)] 26 (0, 0))) ∧ Aside0 (wc.heap[gb762]? = some (.cells #[(.slice Ao33 t758.length co33)] 26 (0, 0))) ∧ Aside0 (wc.heap[gb770]? = some (.cells #[(.slice Ao47 t767.length co47)] 26 (0, 0))) ∧ Aside0 (Below w.heap.size w wc))
                   case first =>
                    have H := HC67.out
                    clear HC67
                    by_cases c68 : t774 = true
                    ·as_aux_lemma =>
                       subst c68
                       have H1 : ((impl_CountLinear.f kj43 t767).bind fun bt781 => (if bt781.2 = true then (if (t771.length : Int) = (t767.length : Int) then (if 0 ≤ (wrap64 ((t771.length : Int) - 1)) then (if (wrap64 ((t771.length : Int) - 1)) < (t771.length : Int) then (laws_FnLabelsCounted.j3 kj43 t748 t750 t753 t754 t771 ((rd t771 (wrap64 ((t771.length : Int) - 1))) != bt781.1) t745) else (none)) else (none)) else (laws_FnLabelsCounted.j3 kj43 t748 t750 t753 t754 t771 true t745)) else (laws_FnLabelsCounted.j3 kj43 t748 t750 t753 t754 t771 true t745))) = some r := by rw [if_pos rfl] at H; exact H
                       clear H
                       have H := H1
                       clear H1
                       replace H := Option.bind_eq_some_iff.mp H
                       obtain ⟨⟨t781, t782⟩, A690, H⟩ := H
                       replace H : (if t782 = true then (if (t771.length : Int) = (t767.length : Int) then (if 0 ≤ (wrap64 ((t771.length : Int) - 1)) then (if (wrap64 ((t771.length : Int) - 1)) < (t771.length : Int) then (laws_FnLabelsCounted.j3 kj43 t748 t750 t753 t754 t771 ((rd t771 (wrap64 ((t771.length : Int) - 1))) != t781) t745) else (none)) else (none)) else (laws_FnLabelsCounted.j3 kj43 t748 t750 t753 t754 t771 true t745)) else (laws_FnLabelsCounted.j3 kj43 t748 t750 t753 t754 t771 true t745)) = some r := H
                       have A69 := am A690
                       clear A690
                       have HC70 := am H
                       clear H
                       have hnb71 := NB770_749.out
                       have hnc71 := NB749_770.out
                       have hnb72 := NB770_762.out
                       have hnc72 := NB762_770.out
                       have hcz73_0 := qz wc BK770.out
                       have hfz73_0 := blk_frozen BK770.out 0
                       go_upto_region 22 with (first | ((with_reducible refine gate_callee (f := 41) rfl ?_); refine gL (some 145) Try.func41 #[.agg #[.slice Ao47 t767.length co47]] ?_; (with_reducible refine (impl_CountLinear.calls kj43 _ _ t767 t781 t782 _ ?side1 ?side2 A69.out).mono ?_); (case side1 => exact qC (Kd.R_reads' HO_771000.out).2.2); (case side2 => exact (Kd.R_reads' HO_771000.out).2.1); rintro e w74 ⟨rfl, hb⟩; refine ⟨_, rfl, ?_⟩; replace HO_22 := am (Kd.R_below (qR HO_22.out) hb); replace HO_750000 := am (Kd.R_below (qR HO_750000.out) hb); replace HO_763000 := am (Kd.R_below (qR HO_763000.out) hb); replace HO_771000 := am (Kd.R_below (qR HO_771000.out) hb); replace BK749 := am (blk_below (g := gb749) (o := .cells #[.slice Ao13 t745.length co13] 26 (0, 0)) (qb BK749.out) hb); replace BK762 := am (blk_below (g := gb762) (o := .cells #[.slice Ao33 t758.length co33] 26 (0, 0)) (qb BK762.out) hb); replace BK770 := am (blk_below (g := gb770) (o := .cells #[.slice Ao47 t767.length co47] 26 (0, 0)) (qb BK770.out) hb); replace HB := am (below_step qB hb); (try clear hb); (try clear hb2); (try clear hk); (try clear hi)))
                       (try simp only [Act.put, List.setIfInBounds_toArray, List.set_cons_zero, List.set_cons_succ])
                       go_cut [167] (fun v167 wc => ∃ (kq : Nat) (x167_69 : Bool), v167 = .bool x167_69 ∧ Aside0 (laws_FnLabelsCounted.j3 kq t748 t750 t753 t754 t771 x167_69 t745 = some r) ∧ Aside0 (kq ≤ kj43) ∧ Aside0 (Kd.R (Kd.int .i64) 3 wc w.heap.size (fun k_ => some k_ ≠ ((.slice Ao13 t745.length co13) : Value).ownBlock ∧ some k_ ≠ ((.slice Ao33 t758.length co33) : Value).ownBlock ∧ some k_ ≠ ((.slice Ao47 t767.length co47) : Value).ownBlock) v772 t771) ∧ Aside0 (Kd.R (Kd.int .i64) 3 wc w.heap.size (fun k_ => some k_ ≠ (v772 : Value).ownBlock ∧ some k_ ≠ ((.slice Ao33 t758.length co33) : Value).ownBlock ∧ some k_ ≠ ((.slice Ao47 t767.length co47) : Value).ownBlock) (.slice Ao13 t745.length co13) t745) ∧ Aside0 (Kd.R (Kd.int .i64) 3 wc w.heap.size (fun k_ => some k_ ≠ (v772 : Value).ownBlock ∧ some k_ ≠ ((.slice Ao13 t745.length co13) : Value).ownBlock ∧ some k_ ≠ ((.slice Ao47 t767.length co47) : Value).ownBlock) (.slice Ao33 t758.length co33) t758) ∧ Aside0 (Kd.R (Kd.int .i64) 3 wc w.heap.size (fun k_ => some k_ ≠ (v772 : Value).ownBlock ∧ some k_ ≠ ((.slice Ao13 t745.length co13) : Value).ownBlock ∧ some k_ ≠ ((.slice Ao33 t758.length co33) : Value).ownBlock) (.slice Ao47 t767.length co47) t767) ∧ Aside0 (wc.heap[gb749]? = some (.cells #[(.slice Ao13 t745.length co13)] 26 (0, 0))) ∧ Aside0 (wc.heap[gb762]? = some (.cells #[(.slice Ao33 t758.length co33)] 26 (0, 0))) ∧ Aside0 (wc.heap[gb770]? = some (.cells #[(.slice Ao47 t767.length co47)] 26 (0, 0))) ∧ Aside0 (Below w.heap.size w wc))
                       case first =>
                        have H := HC70.out
                        clear HC70
                        by_cases c75 : t782 = true
                        ·as_aux_lemma =>
                           subst c75
                           have H1 : (if (t771.length : Int) = (t767.length : Int) then (if 0 ≤ (wrap64 ((t771.length : Int) - 1)) then (if (wrap64 ((t771.length : Int) - 1)) < (t771.length : Int) then (laws_FnLabelsCounted.j3 kj43 t748 t750 t753 t754 t771 ((rd t771 (wrap64 ((t771.length : Int) - 1))) != t781) t745) else (none)) else (none)) else (laws_FnLabelsCounted.j3 kj43 t748 t750 t753 t754 t771 true t745)) = some r := by rw [if_pos rfl] at H; exact H
                           clear H
                           have H := H1
                           clear H1
                           by_cases c76 : (t771.length : Int) = (t767.length : Int)
                           ·as_aux_lemma =>
                              rw [if_pos c76] at H
                              have c76b0 : ((t771.length : Int) == (t767.length : Int)) = true := beq_iff_eq.mpr c76
                              have c76b1 : ((t771.length : Int) != (t767.length : Int)) = false := bne_eq_false_iff_eq.mpr c76
                              have c76b2 : (t771.length == t767.length) = true := by first | simpa using c76 | (simp at c76 ⊢; omega)
                              clear c76
                              (first | rw [c76b0] | (simp only [i64_w, i32_w]; rw [c76b0]) | skip)
                              obtain ⟨ji77, hji77⟩ : ∃ j_ : Int, (wrap64 ((t771.length : Int) - 1)) = j_ := ⟨_, rfl⟩
                              replace H : (if 0 ≤ (ji77) then (if (ji77) < (t771.length : Int) then (laws_FnLabelsCounted.j3 kj43 t748 t750 t753 t754 t771 ((rd t771 (ji77)) != t781) t745) else (none)) else (none)) = some r := by first | (rw [hji77] at H; exact H) | (simp only [hji77] at H ⊢; exact H)
                              have hji77w : (IntKind.i64.wrap ((t771.length : Int) - 1)) = ji77 := (i64_w _).trans hji77
                              by_cases c78 : 0 ≤ (ji77)
                              ·as_aux_lemma =>
                                 rw [if_pos c78] at H
                                 have c78b0 := decide_eq_true c78
                                 clear c78
                                 by_cases c79 : (ji77) < (t771.length : Int)
                                 ·as_aux_lemma =>
                                    rw [if_pos c79] at H
                                    have c79b0 := decide_eq_true c79
                                    clear c79
                                    have H' := am H
                                    clear H
                                    obtain ⟨Ao80, co80, eo80⟩ := Kd.R_slice HO_22.out
                                    subst eo80
                                    have hnb81 := NB770_749.out
                                    have hnc81 := NB749_770.out
                                    have hnb82 := NB770_762.out
                                    have hnc82 := NB762_770.out
                                    have hcz83_0 := qz w74 BK770.out
                                    have hfz83_0 := blk_frozen BK770.out 0
                                    have p783 : 0 ≤ ((ji77) : Int) := qd
                                    have q783 : (ji77) < (t771.length : Int) := qd
                                    obtain ⟨ad783, e783, hx783_0⟩ := Kd.at_int (Kd.R_reads' HO_22.out).2.2 (ji77) p783 q783
                                    cases e783
                                    replace p783 := eq_true p783
                                    replace q783 := eq_true q783
                                    go_wp2
                                    go_meet
                                    case rel => exact ⟨_, (((rd t771 (ji77)) != t781)), (by first | rfl | (simp; done) | (simp only [← hji77] <;> (first | rfl | simp)) | (simp [*]; done)), H', ⟨by have := HJ9.out; have := HJ29.out; have := HJ43.out; first | omega | exact Nat.le_refl _⟩, ⟨qR HO_22.out⟩, ⟨qR HO_750000.out⟩, ⟨qR HO_763000.out⟩, ⟨qR HO_771000.out⟩, ⟨qb BK749.out⟩, ⟨qb BK762.out⟩, ⟨qb BK770.out⟩, ⟨qB⟩⟩
                                 ·rw [if_neg c79] at H
                                  exact absurd H (by simp)
                              ·rw [if_neg c78] at H
                               exact absurd H (by simp)
                           ·as_aux_lemma =>
                              rw [if_neg c76] at H
                              have c76b0 : ((t771.length : Int) == (t767.length : Int)) = false := beq_eq_false_iff_ne.mpr c76
                              have c76b1 : ((t771.length : Int) != (t767.length : Int)) = true := bne_iff_ne.mpr c76
                              have c76b2 : (t771.length == t767.length) = false := by first | simpa using c76 | (simp at c76 ⊢; omega)
                              (first | rw [c76b0] | (simp only [i64_w, i32_w]; rw [c76b0]) | skip)
                              have H' := am H
                              clear H
                              obtain ⟨Ao84, co84, eo84⟩ := Kd.R_slice HO_22.out
                              subst eo84
                              have hnb85 := NB770_749.out
                              have hnc85 := NB749_770.out
                              have hnb86 := NB770_762.out
                              have hnc86 := NB762_770.out
                              have hcz87_0 := qz w74 BK770.out
                              have hfz87_0 := blk_frozen BK770.out 0
                              go_wp2
                              go_meet
                              case rel => exact ⟨_, (true), qe, H', ⟨by have := HJ9.out; have := HJ29.out; have := HJ43.out; first | omega | exact Nat.le_refl _⟩, ⟨qR HO_22.out⟩, ⟨qR HO_750000.out⟩, ⟨qR HO_763000.out⟩, ⟨qR HO_771000.out⟩, ⟨qb BK749.out⟩, ⟨qb BK762.out⟩, ⟨qb BK770.out⟩, ⟨qB⟩⟩
                        ·replace c75 := Bool.eq_false_iff.mpr c75
                         subst c75
                         have H1 : (laws_FnLabelsCounted.j3 kj43 t748 t750 t753 t754 t771 true t745) = some r := by rw [if_neg (show ¬ (false = true) by decide)] at H; exact H
                         clear H
                         have H := H1
                         clear H1
                         have H' := am H
                         clear H
                         go_wp2
                         go_meet
                         case rel => exact ⟨_, (true), qe, H', ⟨by have := HJ9.out; have := HJ29.out; have := HJ43.out; first | omega | exact Nat.le_refl _⟩, ⟨qR HO_22.out⟩, ⟨qR HO_750000.out⟩, ⟨qR HO_763000.out⟩, ⟨qR HO_771000.out⟩, ⟨qb BK749.out⟩, ⟨qb BK762.out⟩, ⟨qb BK770.out⟩, ⟨qB⟩⟩
                       case rest =>
                        clear HC70
                        try clear c1
                        try clear c2
                        try clear p2
                        try clear c3
                        try clear c4
                        try clear c5
                        try clear c6
                        try clear p6
                        try clear c7
                        try clear p7
                        try clear q7
                        try clear hx7
                        try clear c8
                        try clear c22
                        try clear c22b0
                        try clear c22b1
                        try clear c22b2
                        try clear c23
                        try clear c23b0
                        try clear c23b1
                        try clear c24
                        try clear c24b0
                        try clear c24b1
                        try clear c24b2
                        try clear c25
                        try clear c25b0
                        try clear c25b1
                        try clear c26
                        try clear c29
                        try clear c30
                        try clear c31
                        try clear c32
                        try clear c33
                        try clear c34
                        try clear c35
                        try clear c36
                        try clear c37
                        try clear c38
                        try clear c39
                        try clear c39b0
                        try clear c39b1
                        try clear c39b2
                        try clear c40
                        try clear c41
                        try clear c48
                        try clear c49
                        try clear c54
                        try clear c54b0
                        try clear c54b1
                        try clear c54b2
                        try clear c56
                        try clear c60
                        try clear c61
                        try clear p64
                        try clear c66
                        try clear c68
                        try clear c71
                        try clear c72
                        try clear c75
                        try clear c76
                        try clear c76b0
                        try clear c76b1
                        try clear c76b2
                        try clear c78
                        try clear c78b0
                        try clear p78
                        try clear q78
                        try clear hx78
                        try clear c79
                        try clear c79b0
                        try clear c81
                        try clear c82
                        try clear c85
                        try clear c86
                        try clear hcz14_0
                        try clear hcz16_0
                        try clear hcz18_0
                        try clear hcz20_0
                        try clear hcz35_0
                        try clear hcz37_0
                        try clear hcz50_0
                        try clear hcz52_0
                        try clear hcz62_0
                        try clear hcz73_0
                        try clear hcz83_0
                        try clear hcz87_0
                        try clear hfz14_0
                        try clear hfz16_0
                        try clear hfz18_0
                        try clear hfz20_0
                        try clear hfz35_0
                        try clear hfz37_0
                        try clear hfz50_0
                        try clear hfz52_0
                        try clear hfz62_0
                        try clear hfz73_0
                        try clear hfz83_0
                        try clear hfz87_0
                        try clear hx783_0
                        try clear p2
                        try clear p783
                        try clear q783
                        obtain ⟨kq, x167_69, rfl, HA, HJ69, HO_22, HO_750000, HO_763000, HO_771000, BK749, BK762, BK770, HB⟩ := hcut
                        cases kq with
                        | zero => exact absurd HA.out (by simp [laws_FnLabelsCounted.j3])
                        | succ kj69 =>
                         have H := HA.out
                         clear HA
                         simp only [laws_FnLabelsCounted.j3] at H
                         by_cases c88 : x167_69 = true
                         ·subst c88
                          have H1 : (some false) = some r := by rw [if_pos rfl] at H; exact H
                          clear H
                          have H := H1
                          clear H1
                          obtain rfl := Option.some.inj H
                          go_wp2
                          go_ret
                          exact ⟨qr, qB⟩
                         ·as_aux_lemma =>
                            replace c88 := Bool.eq_false_iff.mpr c88
                            subst c88
                            have H1 : (laws_FnLabelsCounted.l0 kj69 t748 t750 t753 t754 t771 0 1 (wrap64 ((t771.length : Int) - 1)) t745) = some r := by rw [if_neg (show ¬ (false = true) by decide)] at H; exact H
                            clear H
                            have H := H1
                            clear H1
                            have H' := am H
                            clear H
                            obtain ⟨Ao89, co89, eo89⟩ := Kd.R_slice HO_22.out
                            subst eo89
                            go_wp2
                            go_loopg [28, 29, 30] kj69 (fun kq v28 v29 v30 w' => ∃ (x28_5 : Int) (x29_5 : Int) (x30_5 : Int), v28 = .int .i64 x28_5 ∧ v29 = .int .i64 x29_5 ∧ v30 = .int .i64 x30_5 ∧ Aside0 (laws_FnLabelsCounted.l0 kq t748 t750 t753 t754 t771 x28_5 x29_5 x30_5 t745 = some r) ∧ Aside0 (kq ≤ kj69) ∧ Aside0 (Kd.R (Kd.int .i64) 3 w' w.heap.size (fun k_ => some k_ ≠ ((.slice Ao13 t745.length co13) : Value).ownBlock ∧ some k_ ≠ ((.slice Ao33 t758.length co33) : Value).ownBlock ∧ some k_ ≠ ((.slice Ao47 t767.length co47) : Value).ownBlock) (.slice Ao89 t771.length co89) t771) ∧ Aside0 (Kd.R (Kd.int .i64) 3 w' w.heap.size (fun k_ => some k_ ≠ ((.slice Ao89 t771.length co89) : Value).ownBlock ∧ some k_ ≠ ((.slice Ao33 t758.length co33) : Value).ownBlock ∧ some k_ ≠ ((.slice Ao47 t767.length co47) : Value).ownBlock) (.slice Ao13 t745.length co13) t745) ∧ Aside0 (Kd.R (Kd.int .i64) 3 w' w.heap.size (fun k_ => some k_ ≠ ((.slice Ao89 t771.length co89) : Value).ownBlock ∧ some k_ ≠ ((.slice Ao13 t745.length co13) : Value).ownBlock ∧ some k_ ≠ ((.slice Ao47 t767.length co47) : Value).ownBlock) (.slice Ao33 t758.length co33) t758) ∧ Aside0 (Kd.R (Kd.int .i64) 3 w' w.heap.size (fun k_ => some k_ ≠ ((.slice Ao89 t771.length co89) : Value).ownBlock ∧ some k_ ≠ ((.slice Ao13 t745.length co13) : Value).ownBlock ∧ some k_ ≠ ((.slice Ao33 t758.length co33) : Value).ownBlock) (.slice Ao47 t767.length co47) t767) ∧ Aside0 (w'.heap[gb749]? = some (.cells #[(.slice Ao13 t745.length co13)] 26 (0, 0))) ∧ Aside0 (w'.heap[gb762]? = some (.cells #[(.slice Ao33 t758.length co33)] 26 (0, 0))) ∧ Aside0 (w'.heap[gb770]? = some (.cells #[(.slice Ao47 t767.length co47)] 26 (0, 0))) ∧ Aside0 (Below w.heap.size w w'))
                            case atStart => exact ⟨(0), (1), (wrap64 ((t771.length : Int) - 1)), qe, qe, qe, H', ⟨Nat.le_refl _⟩, ⟨qR HO_22.out⟩, ⟨qR HO_750000.out⟩, ⟨qR HO_763000.out⟩, ⟨qR HO_771000.out⟩, ⟨qb BK749.out⟩, ⟨qb BK762.out⟩, ⟨qb BK770.out⟩, ⟨qB⟩⟩
                            case round =>
                             clear H'
                             try clear c1
                             try clear c2
                             try clear p2
                             try clear c3
                             try clear c4
                             try clear c5
                             try clear c6
                             try clear p6
                             try clear c7
                             try clear p7
                             try clear q7
                             try clear hx7
                             try clear c8
                             try clear c22
                             try clear c22b0
                             try clear c22b1
                             try clear c22b2
                             try clear c23
                             try clear c23b0
                             try clear c23b1
                             try clear c24
                             try clear c24b0
                             try clear c24b1
                             try clear c24b2
                             try clear c25
                             try clear c25b0
                             try clear c25b1
                             try clear c26
                             try clear c29
                             try clear c30
                             try clear c31
                             try clear c32
                             try clear c33
                             try clear c34
                             try clear c35
                             try clear c36
                             try clear c37
                             try clear c38
                             try clear c39
                             try clear c39b0
                             try clear c39b1
                             try clear c39b2
                             try clear c40
                             try clear c41
                             try clear c48
                             try clear c49
                             try clear c54
                             try clear c54b0
                             try clear c54b1
                             try clear c54b2
                             try clear c56
                             try clear c60
                             try clear c61
                             try clear p64
                             try clear c66
                             try clear c68
                             try clear c71
                             try clear c72
                             try clear c75
                             try clear c76
                             try clear c76b0
                             try clear c76b1
                             try clear c76b2
                             try clear c78
                             try clear c78b0
                             try clear p78
                             try clear q78
                             try clear hx78
                             try clear c79
                             try clear c79b0
                             try clear c81
                             try clear c82
                             try clear c85
                             try clear c86
                             try clear c88
                             try clear hcz14_0
                             try clear hcz16_0
                             try clear hcz18_0
                             try clear hcz20_0
                             try clear hcz35_0
                             try clear hcz37_0
                             try clear hcz50_0
                             try clear hcz52_0
                             try clear hcz62_0
                             try clear hcz73_0
                             try clear hcz83_0
                             try clear hcz87_0
                             try clear hfz14_0
                             try clear hfz16_0
                             try clear hfz18_0
                             try clear hfz20_0
                             try clear hfz35_0
                             try clear hfz37_0
                             try clear hfz50_0
                             try clear hfz52_0
                             try clear hfz62_0
                             try clear hfz73_0
                             try clear hfz83_0
                             try clear hfz87_0
                             try clear hx783_0
                             try clear p2
                             try clear p6
                             try clear p64
                             try clear p7
                             try clear p78
                             try clear p783
                             try clear q7
                             try clear q78
                             try clear q783
                             obtain ⟨x28_5, x29_5, x30_5, rfl, rfl, rfl, HA, HK5, HO_22, HO_750000, HO_763000, HO_771000, BK749, BK762, BK770, HB⟩ := hrel
                             cases gk with
                             | zero => exact absurd HA.out (by simp [laws_FnLabelsCounted.l0])
                             | succ k5 =>
                              have H := HA.out
                              clear HA
                              simp only [laws_FnLabelsCounted.l0] at H
                              by_cases c90 : x30_5 ≥ 0
                              ·as_aux_lemma =>
                                 rw [if_pos c90] at H
                                 have c90b0 : decide (0 ≤ x30_5) = true := decide_eq_true c90
                                 clear c90
                                 by_cases c91 : 0 ≤ x30_5
                                 ·as_aux_lemma =>
                                    rw [if_pos c91] at H
                                    have c91b0 := decide_eq_true c91
                                    clear c91
                                    by_cases c92 : x30_5 < (t771.length : Int)
                                    ·as_aux_lemma =>
                                       rw [if_pos c92] at H
                                       have c92b0 := decide_eq_true c92
                                       clear c92
                                       have H' := am H
                                       clear H
                                       have p784 : 0 ≤ (x30_5 : Int) := qd
                                       have q784 : x30_5 < (t771.length : Int) := qd
                                       obtain ⟨ad784, e784, hx784_0⟩ := Kd.at_int (Kd.R_reads' HO_22.out).2.2 x30_5 p784 q784
                                       cases e784
                                       replace p784 := eq_true p784
                                       replace q784 := eq_true q784
                                       go_wp2
                                       go_roundg k5
                                       case measure => have := HJ9.out; have := HJ29.out; have := HJ43.out; have := HJ69.out; have := HK5.out; omega
                                       case rel => exact ⟨(wrap64 (x28_5 + (wrap64 (x29_5 * (rd t771 x30_5))))), (wrap64 (-x29_5)), (wrap64 (x30_5 - 1)), qe, qe, qe, H', ⟨by have := HJ9.out; have := HJ29.out; have := HJ43.out; have := HJ69.out; have := HK5.out; omega⟩, ⟨qR HO_22.out⟩, ⟨qR HO_750000.out⟩, ⟨qR HO_763000.out⟩, ⟨qR HO_771000.out⟩, ⟨qb BK749.out⟩, ⟨qb BK762.out⟩, ⟨qb BK770.out⟩, ⟨qB⟩⟩
                                    ·rw [if_neg c92] at H
                                     exact absurd H (by simp)
                                 ·rw [if_neg c91] at H
                                  exact absurd H (by simp)
                              ·as_aux_lemma =>
                                 rw [if_neg c90] at H
                                 have c90b0 : decide (0 ≤ x30_5) = false := decide_eq_false c90
                                 clear c90
                                 by_cases c93 : x28_5 = 1
                                 ·rw [if_pos c93] at H
                                  have c93b0 : (x28_5 == 1) = true := beq_iff_eq.mpr c93
                                  have c93b1 : (x28_5 != 1) = false := bne_eq_false_iff_eq.mpr c93
                                  clear c93
                                  have H' := am H
                                  clear H
                                  go_wp2
                                  go_meet
                                  case rel => exact ⟨_, H', ⟨by have := HJ9.out; have := HJ29.out; have := HJ43.out; have := HJ69.out; have := HK5.out; first | omega | exact Nat.le_refl _⟩, ⟨qR (Kd.R_mono HO_750000.out (fun _ hk => ⟨hk.2.1, hk.2.2⟩))⟩, ⟨qR (Kd.R_mono HO_763000.out (fun _ hk => ⟨hk.2.1, hk.2.2⟩))⟩, ⟨qR (Kd.R_mono HO_771000.out (fun _ hk => ⟨hk.2.1, hk.2.2⟩))⟩, ⟨qb BK749.out⟩, ⟨qb BK762.out⟩, ⟨qb BK770.out⟩, ⟨qB⟩⟩
                                 ·rw [if_neg c93] at H
                                  have c93b0 : (x28_5 == 1) = false := beq_eq_false_iff_ne.mpr c93
                                  have c93b1 : (x28_5 != 1) = true := bne_iff_ne.mpr c93
                                  obtain rfl := Option.some.inj H
                                  go_wp2
                                  go_ret
                                  exact ⟨qr, qB⟩
                    ·replace c68 := Bool.eq_false_iff.mpr c68
                     subst c68
                     have H1 : (laws_FnLabelsCounted.j5 kj43 t748 t750 t753 t754 t745) = some r := by rw [if_neg (show ¬ (false = true) by decide)] at H; exact H
                     clear H
                     have H := H1
                     clear H1
                     have H' := am H
                     clear H
                     go_wp2
                     go_meet
                     case rel => exact ⟨_, H', ⟨by have := HJ9.out; have := HJ29.out; have := HJ43.out; first | omega | exact Nat.le_refl _⟩, ⟨qR (Kd.R_mono HO_750000.out (fun _ hk => ⟨hk.2.1, hk.2.2⟩))⟩, ⟨qR (Kd.R_mono HO_763000.out (fun _ hk => ⟨hk.2.1, hk.2.2⟩))⟩, ⟨qR (Kd.R_mono HO_771000.out (fun _ hk => ⟨hk.2.1, hk.2.2⟩))⟩, ⟨qb BK749.out⟩, ⟨qb BK762.out⟩, ⟨qb BK770.out⟩, ⟨qB⟩⟩
                   case rest =>
                    clear HC67
                    try clear c1
                    try clear c2
                    try clear p2
                    try clear c3
                    try clear c4
                    try clear c5
                    try clear c6
                    try clear p6
                    try clear c7
                    try clear p7
                    try clear q7
                    try clear hx7
                    try clear c8
                    try clear c9
                    try clear c22
                    try clear c22b0
                    try clear c22b1
                    try clear c22b2
                    try clear c23
                    try clear c23b0
                    try clear c23b1
                    try clear c24
                    try clear c24b0
                    try clear c24b1
                    try clear c24b2
                    try clear c25
                    try clear c25b0
                    try clear c25b1
                    try clear c26
                    try clear c29
                    try clear c30
                    try clear c31
                    try clear c32
                    try clear c33
                    try clear c34
                    try clear c35
                    try clear c36
                    try clear c37
                    try clear c38
                    try clear c39
                    try clear c39b0
                    try clear c39b1
                    try clear c39b2
                    try clear c40
                    try clear c41
                    try clear c48
                    try clear c49
                    try clear c54
                    try clear c54b0
                    try clear c54b1
                    try clear c54b2
                    try clear c56
                    try clear c60
                    try clear c61
                    try clear p64
                    try clear c66
                    try clear c68
                    try clear c71
                    try clear c72
                    try clear c75
                    try clear c76
                    try clear c76b0
                    try clear c76b1
                    try clear c76b2
                    try clear c78
                    try clear c78b0
                    try clear p78
                    try clear q78
                    try clear hx78
                    try clear c79
                    try clear c79b0
                    try clear c81
                    try clear c82
                    try clear c85
                    try clear c86
                    try clear c88
                    try clear c90
                    try clear c90b0
                    try clear c91
                    try clear c91b0
                    try clear c92
                    try clear c92b0
                    try clear c93
                    try clear c93b0
                    try clear c93b1
                    try clear hcz14_0
                    try clear hcz16_0
                    try clear hcz18_0
                    try clear hcz20_0
                    try clear hcz35_0
                    try clear hcz37_0
                    try clear hcz50_0
                    try clear hcz52_0
                    try clear hcz62_0
                    try clear hcz73_0
                    try clear hcz83_0
                    try clear hcz87_0
                    try clear hfz14_0
                    try clear hfz16_0
                    try clear hfz18_0
                    try clear hfz20_0
                    try clear hfz35_0
                    try clear hfz37_0
                    try clear hfz50_0
                    try clear hfz52_0
                    try clear hfz62_0
                    try clear hfz73_0
                    try clear hfz83_0
                    try clear hfz87_0
                    try clear hx783_0
                    try clear hx784_0
                    try clear p2
                    try clear p6
                    try clear p64
                    try clear p7
                    try clear p78
                    try clear p783
                    try clear p784
                    try clear q7
                    try clear q78
                    try clear q783
                    try clear q784
                    obtain ⟨kq, HA, HJ66, HO_750000, HO_763000, HO_771000, BK749, BK762, BK770, HB⟩ := hcut
                    cases kq with
                    | zero => exact absurd HA.out (by simp [laws_FnLabelsCounted.j5])
                    | succ kj66 =>
                     have H := HA.out
                     clear HA
                     simp only [laws_FnLabelsCounted.j5] at H
                     by_cases c94 : t753 = true
                     ·as_aux_lemma =>
                        subst c94
                        have H1 : ((impl_LabelPolynomialAt.f kj66 t745 (wrap64 (t748 + 1))).bind fun bt785 => ((impl_LabelPolynomialAt.f kj66 t745 (wrap64 ((wrap64 (-t748)) - 1))).bind fun bt787 => (if ((t745.length : Int) % 2) = 1 then (if bt785.2 = true then (if bt787.2 = true then (if bt785.1 = t754 then (if (wrap64 (-bt787.1)) = t750 then (some (decide (t754 ≤ t750))) else (some false)) else (some false)) else (some false)) else (some false)) else (if bt785.2 = true then (if bt787.2 = true then (if bt785.1 = t754 then (if bt787.1 = t750 then (some (decide (t754 ≤ t750))) else (some false)) else (some false)) else (some false)) else (some false))))) = some r := by rw [if_pos rfl] at H; exact H
                        clear H
                        have H := H1
                        clear H1
                        replace H := Option.bind_eq_some_iff.mp H
                        obtain ⟨⟨t785, t786⟩, A950, H⟩ := H
                        replace H : ((impl_LabelPolynomialAt.f kj66 t745 (wrap64 ((wrap64 (-t748)) - 1))).bind fun bt787 => (if ((t745.length : Int) % 2) = 1 then (if t786 = true then (if bt787.2 = true then (if t785 = t754 then (if (wrap64 (-bt787.1)) = t750 then (some (decide (t754 ≤ t750))) else (some false)) else (some false)) else (some false)) else (some false)) else (if t786 = true then (if bt787.2 = true then (if t785 = t754 then (if bt787.1 = t750 then (some (decide (t754 ≤ t750))) else (some false)) else (some false)) else (some false)) else (some false)))) = some r := H
                        have A95 := am A950
                        clear A950
                        replace H := Option.bind_eq_some_iff.mp H
                        obtain ⟨⟨t787, t788⟩, A960, H⟩ := H
                        replace H : (if ((t745.length : Int) % 2) = 1 then (if t786 = true then (if t788 = true then (if t785 = t754 then (if (wrap64 (-t787)) = t750 then (some (decide (t754 ≤ t750))) else (some false)) else (some false)) else (some false)) else (some false)) else (if t786 = true then (if t788 = true then (if t785 = t754 then (if t787 = t750 then (some (decide (t754 ≤ t750))) else (some false)) else (some false)) else (some false)) else (some false))) = some r := H
                        have A96 := am A960
                        clear A960
                        by_cases c97 : ((t745.length : Int) % 2) = 1
                        ·as_aux_lemma =>
                           rw [if_pos c97] at H
                           have c97b0 : (((t745.length : Int) % 2) == 1) = true := beq_iff_eq.mpr c97
                           have c97b1 : (((t745.length : Int) % 2) != 1) = false := bne_eq_false_iff_eq.mpr c97
                           clear c97
                           by_cases c98 : t786 = true
                           ·as_aux_lemma =>
                              subst c98
                              have H1 : (if t788 = true then (if t785 = t754 then (if (wrap64 (-t787)) = t750 then (some (decide (t754 ≤ t750))) else (some false)) else (some false)) else (some false)) = some r := by rw [if_pos rfl] at H; exact H
                              clear H
                              have H := H1
                              clear H1
                              by_cases c99 : t788 = true
                              ·as_aux_lemma =>
                                 subst c99
                                 have H1 : (if t785 = t754 then (if (wrap64 (-t787)) = t750 then (some (decide (t754 ≤ t750))) else (some false)) else (some false)) = some r := by rw [if_pos rfl] at H; exact H
                                 clear H
                                 have H := H1
                                 clear H1
                                 by_cases c100 : t785 = t754
                                 ·as_aux_lemma =>
                                    rw [if_pos c100] at H
                                    have c100b0 : (t785 == t754) = true := beq_iff_eq.mpr c100
                                    have c100b1 : (t785 != t754) = false := bne_eq_false_iff_eq.mpr c100
                                    clear c100
                                    by_cases c101 : (wrap64 (-t787)) = t750
                                    ·as_aux_lemma =>
                                       rw [if_pos c101] at H
                                       have c101b0 : ((wrap64 (-t787)) == t750) = true := beq_iff_eq.mpr c101
                                       have c101b1 : ((wrap64 (-t787)) != t750) = false := bne_eq_false_iff_eq.mpr c101
                                       clear c101
                                       obtain rfl := Option.some.inj H
                                       have hnb102 := NB749_762.out
                                       have hnc102 := NB762_749.out
                                       have hnb103 := NB749_770.out
                                       have hnc103 := NB770_749.out
                                       have hcz104_0 := qz wc BK749.out
                                       have hfz104_0 := blk_frozen BK749.out 0
                                       go_wp2_with (first | ((with_reducible refine gate_callee (f := 35) rfl ?_); refine gL (some 193) Try.func35 #[.agg #[.slice Ao13 t745.length co13], .int .i64 (wrap64 (t748 + 1))] ?_; (with_reducible refine (impl_LabelPolynomialAt.calls kj66 _ _ t745 (wrap64 (t748 + 1)) t785 true _ ?side1 ?side2 A95.out).mono ?_); (case side1 => exact qC (Kd.R_reads' HO_750000.out).2.2); (case side2 => exact (Kd.R_reads' HO_750000.out).2.1); rintro e w105 ⟨rfl, hb⟩; refine ⟨_, rfl, ?_⟩; replace HO_750000 := am (Kd.R_below (qR HO_750000.out) hb); replace HO_763000 := am (Kd.R_below (qR HO_763000.out) hb); replace HO_771000 := am (Kd.R_below (qR HO_771000.out) hb); replace BK749 := am (blk_below (g := gb749) (o := .cells #[.slice Ao13 t745.length co13] 26 (0, 0)) (qb BK749.out) hb); replace BK762 := am (blk_below (g := gb762) (o := .cells #[.slice Ao33 t758.length co33] 26 (0, 0)) (qb BK762.out) hb); replace BK770 := am (blk_below (g := gb770) (o := .cells #[.slice Ao47 t767.length co47] 26 (0, 0)) (qb BK770.out) hb); replace HB := am (below_step qB hb); (try clear hb); (try clear hb2); (try clear hk); (try clear hi); have hcz106_0 := qz w105 BK749.out; have hfz106_0 := blk_frozen BK749.out 0) | ((with_reducible refine gate_callee (f := 35) rfl ?_); refine gL (some 201) Try.func35 #[.agg #[.slice Ao13 t745.length co13], .int .i64 (wrap64 ((wrap64 (-t748)) - 1))] ?_; (with_reducible refine (impl_LabelPolynomialAt.calls kj66 _ _ t745 (wrap64 ((wrap64 (-t748)) - 1)) t787 true _ ?side1 ?side2 A96.out).mono ?_); (case side1 => exact qC (Kd.R_reads' HO_750000.out).2.2); (case side2 => exact (Kd.R_reads' HO_750000.out).2.1); rintro e w107 ⟨rfl, hb⟩; refine ⟨_, rfl, ?_⟩; replace HO_750000 := am (Kd.R_below (qR HO_750000.out) hb); replace HO_763000 := am (Kd.R_below (qR HO_763000.out) hb); replace HO_771000 := am (Kd.R_below (qR HO_771000.out) hb); replace BK749 := am (blk_below (g := gb749) (o := .cells #[.slice Ao13 t745.length co13] 26 (0, 0)) (qb BK749.out) hb); replace BK762 := am (blk_below (g := gb762) (o := .cells #[.slice Ao33 t758.length co33] 26 (0, 0)) (qb BK762.out) hb); replace BK770 := am (blk_below (g := gb770) (o := .cells #[.slice Ao47 t767.length co47] 26 (0, 0)) (qb BK770.out) hb); replace HB := am (below_step qB hb); (try clear hb); (try clear hb2); (try clear hk); (try clear hi); have hcz108_0 := qz w107 BK749.out; have hfz108_0 := blk_frozen BK749.out 0))
                                       go_ret
                                       exact ⟨qr, qB⟩
                                    ·as_aux_lemma =>
                                       rw [if_neg c101] at H
                                       have c101b0 : ((wrap64 (-t787)) == t750) = false := beq_eq_false_iff_ne.mpr c101
                                       have c101b1 : ((wrap64 (-t787)) != t750) = true := bne_iff_ne.mpr c101
                                       obtain rfl := Option.some.inj H
                                       have hnb109 := NB749_762.out
                                       have hnc109 := NB762_749.out
                                       have hnb110 := NB749_770.out
                                       have hnc110 := NB770_749.out
                                       have hcz111_0 := qz wc BK749.out
                                       have hfz111_0 := blk_frozen BK749.out 0
                                       go_wp2_with (first | ((with_reducible refine gate_callee (f := 35) rfl ?_); refine gL (some 193) Try.func35 #[.agg #[.slice Ao13 t745.length co13], .int .i64 (wrap64 (t748 + 1))] ?_; (with_reducible refine (impl_LabelPolynomialAt.calls kj66 _ _ t745 (wrap64 (t748 + 1)) t785 true _ ?side1 ?side2 A95.out).mono ?_); (case side1 => exact qC (Kd.R_reads' HO_750000.out).2.2); (case side2 => exact (Kd.R_reads' HO_750000.out).2.1); rintro e w112 ⟨rfl, hb⟩; refine ⟨_, rfl, ?_⟩; replace HO_750000 := am (Kd.R_below (qR HO_750000.out) hb); replace HO_763000 := am (Kd.R_below (qR HO_763000.out) hb); replace HO_771000 := am (Kd.R_below (qR HO_771000.out) hb); replace BK749 := am (blk_below (g := gb749) (o := .cells #[.slice Ao13 t745.length co13] 26 (0, 0)) (qb BK749.out) hb); replace BK762 := am (blk_below (g := gb762) (o := .cells #[.slice Ao33 t758.length co33] 26 (0, 0)) (qb BK762.out) hb); replace BK770 := am (blk_below (g := gb770) (o := .cells #[.slice Ao47 t767.length co47] 26 (0, 0)) (qb BK770.out) hb); replace HB := am (below_step qB hb); (try clear hb); (try clear hb2); (try clear hk); (try clear hi); have hcz113_0 := qz w112 BK749.out; have hfz113_0 := blk_frozen BK749.out 0) | ((with_reducible refine gate_callee (f := 35) rfl ?_); refine gL (some 201) Try.func35 #[.agg #[.slice Ao13 t745.length co13], .int .i64 (wrap64 ((wrap64 (-t748)) - 1))] ?_; (with_reducible refine (impl_LabelPolynomialAt.calls kj66 _ _ t745 (wrap64 ((wrap64 (-t748)) - 1)) t787 true _ ?side1 ?side2 A96.out).mono ?_); (case side1 => exact qC (Kd.R_reads' HO_750000.out).2.2); (case side2 => exact (Kd.R_reads' HO_750000.out).2.1); rintro e w114 ⟨rfl, hb⟩; refine ⟨_, rfl, ?_⟩; replace HO_750000 := am (Kd.R_below (qR HO_750000.out) hb); replace HO_763000 := am (Kd.R_below (qR HO_763000.out) hb); replace HO_771000 := am (Kd.R_below (qR HO_771000.out) hb); replace BK749 := am (blk_below (g := gb749) (o := .cells #[.slice Ao13 t745.length co13] 26 (0, 0)) (qb BK749.out) hb); replace BK762 := am (blk_below (g := gb762) (o := .cells #[.slice Ao33 t758.length co33] 26 (0, 0)) (qb BK762.out) hb); replace BK770 := am (blk_below (g := gb770) (o := .cells #[.slice Ao47 t767.length co47] 26 (0, 0)) (qb BK770.out) hb); replace HB := am (below_step qB hb); (try clear hb); (try clear hb2); (try clear hk); (try clear hi); have hcz115_0 := qz w114 BK749.out; have hfz115_0 := blk_frozen BK749.out 0))
                                       go_ret
                                       exact ⟨qr, qB⟩
                                 ·as_aux_lemma =>
                                    rw [if_neg c100] at H
                                    have c100b0 : (t785 == t754) = false := beq_eq_false_iff_ne.mpr c100
                                    have c100b1 : (t785 != t754) = true := bne_iff_ne.mpr c100
                                    obtain rfl := Option.some.inj H
                                    have hnb116 := NB749_762.out
                                    have hnc116 := NB762_749.out
                                    have hnb117 := NB749_770.out
                                    have hnc117 := NB770_749.out
                                    have hcz118_0 := qz wc BK749.out
                                    have hfz118_0 := blk_frozen BK749.out 0
                                    go_wp2_with (first | ((with_reducible refine gate_callee (f := 35) rfl ?_); refine gL (some 193) Try.func35 #[.agg #[.slice Ao13 t745.length co13], .int .i64 (wrap64 (t748 + 1))] ?_; (with_reducible refine (impl_LabelPolynomialAt.calls kj66 _ _ t745 (wrap64 (t748 + 1)) t785 true _ ?side1 ?side2 A95.out).mono ?_); (case side1 => exact qC (Kd.R_reads' HO_750000.out).2.2); (case side2 => exact (Kd.R_reads' HO_750000.out).2.1); rintro e w119 ⟨rfl, hb⟩; refine ⟨_, rfl, ?_⟩; replace HO_750000 := am (Kd.R_below (qR HO_750000.out) hb); replace HO_763000 := am (Kd.R_below (qR HO_763000.out) hb); replace HO_771000 := am (Kd.R_below (qR HO_771000.out) hb); replace BK749 := am (blk_below (g := gb749) (o := .cells #[.slice Ao13 t745.length co13] 26 (0, 0)) (qb BK749.out) hb); replace BK762 := am (blk_below (g := gb762) (o := .cells #[.slice Ao33 t758.length co33] 26 (0, 0)) (qb BK762.out) hb); replace BK770 := am (blk_below (g := gb770) (o := .cells #[.slice Ao47 t767.length co47] 26 (0, 0)) (qb BK770.out) hb); replace HB := am (below_step qB hb); (try clear hb); (try clear hb2); (try clear hk); (try clear hi); have hcz120_0 := qz w119 BK749.out; have hfz120_0 := blk_frozen BK749.out 0) | ((with_reducible refine gate_callee (f := 35) rfl ?_); refine gL (some 201) Try.func35 #[.agg #[.slice Ao13 t745.length co13], .int .i64 (wrap64 ((wrap64 (-t748)) - 1))] ?_; (with_reducible refine (impl_LabelPolynomialAt.calls kj66 _ _ t745 (wrap64 ((wrap64 (-t748)) - 1)) t787 true _ ?side1 ?side2 A96.out).mono ?_); (case side1 => exact qC (Kd.R_reads' HO_750000.out).2.2); (case side2 => exact (Kd.R_reads' HO_750000.out).2.1); rintro e w121 ⟨rfl, hb⟩; refine ⟨_, rfl, ?_⟩; replace HO_750000 := am (Kd.R_below (qR HO_750000.out) hb); replace HO_763000 := am (Kd.R_below (qR HO_763000.out) hb); replace HO_771000 := am (Kd.R_below (qR HO_771000.out) hb); replace BK749 := am (blk_below (g := gb749) (o := .cells #[.slice Ao13 t745.length co13] 26 (0, 0)) (qb BK749.out) hb); replace BK762 := am (blk_below (g := gb762) (o := .cells #[.slice Ao33 t758.length co33] 26 (0, 0)) (qb BK762.out) hb); replace BK770 := am (blk_below (g := gb770) (o := .cells #[.slice Ao47 t767.length co47] 26 (0, 0)) (qb BK770.out) hb); replace HB := am (below_step qB hb); (try clear hb); (try clear hb2); (try clear hk); (try clear hi); have hcz122_0 := qz w121 BK749.out; have hfz122_0 := blk_frozen BK749.out 0))
                                    go_ret
                                    exact ⟨qr, qB⟩
                              ·as_aux_lemma =>
                                 replace c99 := Bool.eq_false_iff.mpr c99
                                 subst c99
                                 have H1 : (some false) = some r := by rw [if_neg (show ¬ (false = true) by decide)] at H; exact H
                                 clear H
                                 have H := H1
                                 clear H1
                                 obtain rfl := Option.some.inj H
                                 have hnb123 := NB749_762.out
                                 have hnc123 := NB762_749.out
                                 have hnb124 := NB749_770.out
                                 have hnc124 := NB770_749.out
                                 have hcz125_0 := qz wc BK749.out
                                 have hfz125_0 := blk_frozen BK749.out 0
                                 go_wp2_with (first | ((with_reducible refine gate_callee (f := 35) rfl ?_); refine gL (some 193) Try.func35 #[.agg #[.slice Ao13 t745.length co13], .int .i64 (wrap64 (t748 + 1))] ?_; (with_reducible refine (impl_LabelPolynomialAt.calls kj66 _ _ t745 (wrap64 (t748 + 1)) t785 true _ ?side1 ?side2 A95.out).mono ?_); (case side1 => exact qC (Kd.R_reads' HO_750000.out).2.2); (case side2 => exact (Kd.R_reads' HO_750000.out).2.1); rintro e w126 ⟨rfl, hb⟩; refine ⟨_, rfl, ?_⟩; replace HO_750000 := am (Kd.R_below (qR HO_750000.out) hb); replace HO_763000 := am (Kd.R_below (qR HO_763000.out) hb); replace HO_771000 := am (Kd.R_below (qR HO_771000.out) hb); replace BK749 := am (blk_below (g := gb749) (o := .cells #[.slice Ao13 t745.length co13] 26 (0, 0)) (qb BK749.out) hb); replace BK762 := am (blk_below (g := gb762) (o := .cells #[.slice Ao33 t758.length co33] 26 (0, 0)) (qb BK762.out) hb); replace BK770 := am (blk_below (g := gb770) (o := .cells #[.slice Ao47 t767.length co47] 26 (0, 0)) (qb BK770.out) hb); replace HB := am (below_step qB hb); (try clear hb); (try clear hb2); (try clear hk); (try clear hi); have hcz127_0 := qz w126 BK749.out; have hfz127_0 := blk_frozen BK749.out 0) | ((with_reducible refine gate_callee (f := 35) rfl ?_); refine gL (some 201) Try.func35 #[.agg #[.slice Ao13 t745.length co13], .int .i64 (wrap64 ((wrap64 (-t748)) - 1))] ?_; (with_reducible refine (impl_LabelPolynomialAt.calls kj66 _ _ t745 (wrap64 ((wrap64 (-t748)) - 1)) t787 false _ ?side1 ?side2 A96.out).mono ?_); (case side1 => exact qC (Kd.R_reads' HO_750000.out).2.2); (case side2 => exact (Kd.R_reads' HO_750000.out).2.1); rintro e w128 ⟨rfl, hb⟩; refine ⟨_, rfl, ?_⟩; replace HO_750000 := am (Kd.R_below (qR HO_750000.out) hb); replace HO_763000 := am (Kd.R_below (qR HO_763000.out) hb); replace HO_771000 := am (Kd.R_below (qR HO_771000.out) hb); replace BK749 := am (blk_below (g := gb749) (o := .cells #[.slice Ao13 t745.length co13] 26 (0, 0)) (qb BK749.out) hb); replace BK762 := am (blk_below (g := gb762) (o := .cells #[.slice Ao33 t758.length co33] 26 (0, 0)) (qb BK762.out) hb); replace BK770 := am (blk_below (g := gb770) (o := .cells #[.slice Ao47 t767.length co47] 26 (0, 0)) (qb BK770.out) hb); replace HB := am (below_step qB hb); (try clear hb); (try clear hb2); (try clear hk); (try clear hi); have hcz129_0 := qz w128 BK749.out; have hfz129_0 := blk_frozen BK749.out 0))
                                 go_ret
                                 exact ⟨qr, qB⟩
                           ·as_aux_lemma =>
                              replace c98 := Bool.eq_false_iff.mpr c98
                              subst c98
                              have H1 : (some false) = some r := by rw [if_neg (show ¬ (false = true) by decide)] at H; exact H
                              clear H
                              have H := H1
                              clear H1
                              obtain rfl := Option.some.inj H
                              have hnb130 := NB749_762.out
                              have hnc130 := NB762_749.out
                              have hnb131 := NB749_770.out
                              have hnc131 := NB770_749.out
                              have hcz132_0 := qz wc BK749.out
                              have hfz132_0 := blk_frozen BK749.out 0
                              go_wp2_with (first | ((with_reducible refine gate_callee (f := 35) rfl ?_); refine gL (some 193) Try.func35 #[.agg #[.slice Ao13 t745.length co13], .int .i64 (wrap64 (t748 + 1))] ?_; (with_reducible refine (impl_LabelPolynomialAt.calls kj66 _ _ t745 (wrap64 (t748 + 1)) t785 false _ ?side1 ?side2 A95.out).mono ?_); (case side1 => exact qC (Kd.R_reads' HO_750000.out).2.2); (case side2 => exact (Kd.R_reads' HO_750000.out).2.1); rintro e w133 ⟨rfl, hb⟩; refine ⟨_, rfl, ?_⟩; replace HO_750000 := am (Kd.R_below (qR HO_750000.out) hb); replace HO_763000 := am (Kd.R_below (qR HO_763000.out) hb); replace HO_771000 := am (Kd.R_below (qR HO_771000.out) hb); replace BK749 := am (blk_below (g := gb749) (o := .cells #[.slice Ao13 t745.length co13] 26 (0, 0)) (qb BK749.out) hb); replace BK762 := am (blk_below (g := gb762) (o := .cells #[.slice Ao33 t758.length co33] 26 (0, 0)) (qb BK762.out) hb); replace BK770 := am (blk_below (g := gb770) (o := .cells #[.slice Ao47 t767.length co47] 26 (0, 0)) (qb BK770.out) hb); replace HB := am (below_step qB hb); (try clear hb); (try clear hb2); (try clear hk); (try clear hi); have hcz134_0 := qz w133 BK749.out; have hfz134_0 := blk_frozen BK749.out 0) | ((with_reducible refine gate_callee (f := 35) rfl ?_); refine gL (some 201) Try.func35 #[.agg #[.slice Ao13 t745.length co13], .int .i64 (wrap64 ((wrap64 (-t748)) - 1))] ?_; (with_reducible refine (impl_LabelPolynomialAt.calls kj66 _ _ t745 (wrap64 ((wrap64 (-t748)) - 1)) t787 t788 _ ?side1 ?side2 A96.out).mono ?_); (case side1 => exact qC (Kd.R_reads' HO_750000.out).2.2); (case side2 => exact (Kd.R_reads' HO_750000.out).2.1); rintro e w135 ⟨rfl, hb⟩; refine ⟨_, rfl, ?_⟩; replace HO_750000 := am (Kd.R_below (qR HO_750000.out) hb); replace HO_763000 := am (Kd.R_below (qR HO_763000.out) hb); replace HO_771000 := am (Kd.R_below (qR HO_771000.out) hb); replace BK749 := am (blk_below (g := gb749) (o := .cells #[.slice Ao13 t745.length co13] 26 (0, 0)) (qb BK749.out) hb); replace BK762 := am (blk_below (g := gb762) (o := .cells #[.slice Ao33 t758.length co33] 26 (0, 0)) (qb BK762.out) hb); replace BK770 := am (blk_below (g := gb770) (o := .cells #[.slice Ao47 t767.length co47] 26 (0, 0)) (qb BK770.out) hb); replace HB := am (below_step qB hb); (try clear hb); (try clear hb2); (try clear hk); (try clear hi); have hcz136_0 := qz w135 BK749.out; have hfz136_0 := blk_frozen BK749.out 0))
                              go_ret
                              exact ⟨qr, qB⟩
                        ·as_aux_lemma =>
                           rw [if_neg c97] at H
                           have c97b0 : (((t745.length : Int) % 2) == 1) = false := beq_eq_false_iff_ne.mpr c97
                           have c97b1 : (((t745.length : Int) % 2) != 1) = true := bne_iff_ne.mpr c97
                           by_cases c137 : t786 = true
                           ·as_aux_lemma =>
                              subst c137
                              have H1 : (if t788 = true then (if t785 = t754 then (if t787 = t750 then (some (decide (t754 ≤ t750))) else (some false)) else (some false)) else (some false)) = some r := by rw [if_pos rfl] at H; exact H
                              clear H
                              have H := H1
                              clear H1
                              by_cases c138 : t788 = true
                              ·as_aux_lemma =>
                                 subst c138
                                 have H1 : (if t785 = t754 then (if t787 = t750 then (some (decide (t754 ≤ t750))) else (some false)) else (some false)) = some r := by rw [if_pos rfl] at H; exact H
                                 clear H
                                 have H := H1
                                 clear H1
                                 by_cases c139 : t785 = t754
                                 ·as_aux_lemma =>
                                    rw [if_pos c139] at H
                                    have c139b0 : (t785 == t754) = true := beq_iff_eq.mpr c139
                                    have c139b1 : (t785 != t754) = false := bne_eq_false_iff_eq.mpr c139
                                    clear c139
                                    by_cases c140 : t787 = t750
                                    ·as_aux_lemma =>
                                       rw [if_pos c140] at H
                                       have c140b0 : (t787 == t750) = true := beq_iff_eq.mpr c140
                                       have c140b1 : (t787 != t750) = false := bne_eq_false_iff_eq.mpr c140
                                       clear c140
                                       obtain rfl := Option.some.inj H
                                       have hnb141 := NB749_762.out
                                       have hnc141 := NB762_749.out
                                       have hnb142 := NB749_770.out
                                       have hnc142 := NB770_749.out
                                       have hcz143_0 := qz wc BK749.out
                                       have hfz143_0 := blk_frozen BK749.out 0
                                       go_wp2_with (first | ((with_reducible refine gate_callee (f := 35) rfl ?_); refine gL (some 193) Try.func35 #[.agg #[.slice Ao13 t745.length co13], .int .i64 (wrap64 (t748 + 1))] ?_; (with_reducible refine (impl_LabelPolynomialAt.calls kj66 _ _ t745 (wrap64 (t748 + 1)) t785 true _ ?side1 ?side2 A95.out).mono ?_); (case side1 => exact qC (Kd.R_reads' HO_750000.out).2.2); (case side2 => exact (Kd.R_reads' HO_750000.out).2.1); rintro e w144 ⟨rfl, hb⟩; refine ⟨_, rfl, ?_⟩; replace HO_750000 := am (Kd.R_below (qR HO_750000.out) hb); replace HO_763000 := am (Kd.R_below (qR HO_763000.out) hb); replace HO_771000 := am (Kd.R_below (qR HO_771000.out) hb); replace BK749 := am (blk_below (g := gb749) (o := .cells #[.slice Ao13 t745.length co13] 26 (0, 0)) (qb BK749.out) hb); replace BK762 := am (blk_below (g := gb762) (o := .cells #[.slice Ao33 t758.length co33] 26 (0, 0)) (qb BK762.out) hb); replace BK770 := am (blk_below (g := gb770) (o := .cells #[.slice Ao47 t767.length co47] 26 (0, 0)) (qb BK770.out) hb); replace HB := am (below_step qB hb); (try clear hb); (try clear hb2); (try clear hk); (try clear hi); have hcz145_0 := qz w144 BK749.out; have hfz145_0 := blk_frozen BK749.out 0) | ((with_reducible refine gate_callee (f := 35) rfl ?_); refine gL (some 201) Try.func35 #[.agg #[.slice Ao13 t745.length co13], .int .i64 (wrap64 ((wrap64 (-t748)) - 1))] ?_; (with_reducible refine (impl_LabelPolynomialAt.calls kj66 _ _ t745 (wrap64 ((wrap64 (-t748)) - 1)) t787 true _ ?side1 ?side2 A96.out).mono ?_); (case side1 => exact qC (Kd.R_reads' HO_750000.out).2.2); (case side2 => exact (Kd.R_reads' HO_750000.out).2.1); rintro e w146 ⟨rfl, hb⟩; refine ⟨_, rfl, ?_⟩; replace HO_750000 := am (Kd.R_below (qR HO_750000.out) hb); replace HO_763000 := am (Kd.R_below (qR HO_763000.out) hb); replace HO_771000 := am (Kd.R_below (qR HO_771000.out) hb); replace BK749 := am (blk_below (g := gb749) (o := .cells #[.slice Ao13 t745.length co13] 26 (0, 0)) (qb BK749.out) hb); replace BK762 := am (blk_below (g := gb762) (o := .cells #[.slice Ao33 t758.length co33] 26 (0, 0)) (qb BK762.out) hb); replace BK770 := am (blk_below (g := gb770) (o := .cells #[.slice Ao47 t767.length co47] 26 (0, 0)) (qb BK770.out) hb); replace HB := am (below_step qB hb); (try clear hb); (try clear hb2); (try clear hk); (try clear hi); have hcz147_0 := qz w146 BK749.out; have hfz147_0 := blk_frozen BK749.out 0))
                                       go_ret
                                       exact ⟨qr, qB⟩
                                    ·as_aux_lemma =>
                                       rw [if_neg c140] at H
                                       have c140b0 : (t787 == t750) = false := beq_eq_false_iff_ne.mpr c140
                                       have c140b1 : (t787 != t750) = true := bne_iff_ne.mpr c140
                                       obtain rfl := Option.some.inj H
                                       have hnb148 := NB749_762.out
                                       have hnc148 := NB762_749.out
                                       have hnb149 := NB749_770.out
                                       have hnc149 := NB770_749.out
                                       have hcz150_0 := qz wc BK749.out
                                       have hfz150_0 := blk_frozen BK749.out 0
                                       go_wp2_with (first | ((with_reducible refine gate_callee (f := 35) rfl ?_); refine gL (some 193) Try.func35 #[.agg #[.slice Ao13 t745.length co13], .int .i64 (wrap64 (t748 + 1))] ?_; (with_reducible refine (impl_LabelPolynomialAt.calls kj66 _ _ t745 (wrap64 (t748 + 1)) t785 true _ ?side1 ?side2 A95.out).mono ?_); (case side1 => exact qC (Kd.R_reads' HO_750000.out).2.2); (case side2 => exact (Kd.R_reads' HO_750000.out).2.1); rintro e w151 ⟨rfl, hb⟩; refine ⟨_, rfl, ?_⟩; replace HO_750000 := am (Kd.R_below (qR HO_750000.out) hb); replace HO_763000 := am (Kd.R_below (qR HO_763000.out) hb); replace HO_771000 := am (Kd.R_below (qR HO_771000.out) hb); replace BK749 := am (blk_below (g := gb749) (o := .cells #[.slice Ao13 t745.length co13] 26 (0, 0)) (qb BK749.out) hb); replace BK762 := am (blk_below (g := gb762) (o := .cells #[.slice Ao33 t758.length co33] 26 (0, 0)) (qb BK762.out) hb); replace BK770 := am (blk_below (g := gb770) (o := .cells #[.slice Ao47 t767.length co47] 26 (0, 0)) (qb BK770.out) hb); replace HB := am (below_step qB hb); (try clear hb); (try clear hb2); (try clear hk); (try clear hi); have hcz152_0 := qz w151 BK749.out; have hfz152_0 := blk_frozen BK749.out 0) | ((with_reducible refine gate_callee (f := 35) rfl ?_); refine gL (some 201) Try.func35 #[.agg #[.slice Ao13 t745.length co13], .int .i64 (wrap64 ((wrap64 (-t748)) - 1))] ?_; (with_reducible refine (impl_LabelPolynomialAt.calls kj66 _ _ t745 (wrap64 ((wrap64 (-t748)) - 1)) t787 true _ ?side1 ?side2 A96.out).mono ?_); (case side1 => exact qC (Kd.R_reads' HO_750000.out).2.2); (case side2 => exact (Kd.R_reads' HO_750000.out).2.1); rintro e w153 ⟨rfl, hb⟩; refine ⟨_, rfl, ?_⟩; replace HO_750000 := am (Kd.R_below (qR HO_750000.out) hb); replace HO_763000 := am (Kd.R_below (qR HO_763000.out) hb); replace HO_771000 := am (Kd.R_below (qR HO_771000.out) hb); replace BK749 := am (blk_below (g := gb749) (o := .cells #[.slice Ao13 t745.length co13] 26 (0, 0)) (qb BK749.out) hb); replace BK762 := am (blk_below (g := gb762) (o := .cells #[.slice Ao33 t758.length co33] 26 (0, 0)) (qb BK762.out) hb); replace BK770 := am (blk_below (g := gb770) (o := .cells #[.slice Ao47 t767.length co47] 26 (0, 0)) (qb BK770.out) hb); replace HB := am (below_step qB hb); (try clear hb); (try clear hb2); (try clear hk); (try clear hi); have hcz154_0 := qz w153 BK749.out; have hfz154_0 := blk_frozen BK749.out 0))
                                       go_ret
                                       exact ⟨qr, qB⟩
                                 ·as_aux_lemma =>
                                    rw [if_neg c139] at H
                                    have c139b0 : (t785 == t754) = false := beq_eq_false_iff_ne.mpr c139
                                    have c139b1 : (t785 != t754) = true := bne_iff_ne.mpr c139
                                    obtain rfl := Option.some.inj H
                                    have hnb155 := NB749_762.out
                                    have hnc155 := NB762_749.out
                                    have hnb156 := NB749_770.out
                                    have hnc156 := NB770_749.out
                                    have hcz157_0 := qz wc BK749.out
                                    have hfz157_0 := blk_frozen BK749.out 0
                                    go_wp2_with (first | ((with_reducible refine gate_callee (f := 35) rfl ?_); refine gL (some 193) Try.func35 #[.agg #[.slice Ao13 t745.length co13], .int .i64 (wrap64 (t748 + 1))] ?_; (with_reducible refine (impl_LabelPolynomialAt.calls kj66 _ _ t745 (wrap64 (t748 + 1)) t785 true _ ?side1 ?side2 A95.out).mono ?_); (case side1 => exact qC (Kd.R_reads' HO_750000.out).2.2); (case side2 => exact (Kd.R_reads' HO_750000.out).2.1); rintro e w158 ⟨rfl, hb⟩; refine ⟨_, rfl, ?_⟩; replace HO_750000 := am (Kd.R_below (qR HO_750000.out) hb); replace HO_763000 := am (Kd.R_below (qR HO_763000.out) hb); replace HO_771000 := am (Kd.R_below (qR HO_771000.out) hb); replace BK749 := am (blk_below (g := gb749) (o := .cells #[.slice Ao13 t745.length co13] 26 (0, 0)) (qb BK749.out) hb); replace BK762 := am (blk_below (g := gb762) (o := .cells #[.slice Ao33 t758.length co33] 26 (0, 0)) (qb BK762.out) hb); replace BK770 := am (blk_below (g := gb770) (o := .cells #[.slice Ao47 t767.length co47] 26 (0, 0)) (qb BK770.out) hb); replace HB := am (below_step qB hb); (try clear hb); (try clear hb2); (try clear hk); (try clear hi); have hcz159_0 := qz w158 BK749.out; have hfz159_0 := blk_frozen BK749.out 0) | ((with_reducible refine gate_callee (f := 35) rfl ?_); refine gL (some 201) Try.func35 #[.agg #[.slice Ao13 t745.length co13], .int .i64 (wrap64 ((wrap64 (-t748)) - 1))] ?_; (with_reducible refine (impl_LabelPolynomialAt.calls kj66 _ _ t745 (wrap64 ((wrap64 (-t748)) - 1)) t787 true _ ?side1 ?side2 A96.out).mono ?_); (case side1 => exact qC (Kd.R_reads' HO_750000.out).2.2); (case side2 => exact (Kd.R_reads' HO_750000.out).2.1); rintro e w160 ⟨rfl, hb⟩; refine ⟨_, rfl, ?_⟩; replace HO_750000 := am (Kd.R_below (qR HO_750000.out) hb); replace HO_763000 := am (Kd.R_below (qR HO_763000.out) hb); replace HO_771000 := am (Kd.R_below (qR HO_771000.out) hb); replace BK749 := am (blk_below (g := gb749) (o := .cells #[.slice Ao13 t745.length co13] 26 (0, 0)) (qb BK749.out) hb); replace BK762 := am (blk_below (g := gb762) (o := .cells #[.slice Ao33 t758.length co33] 26 (0, 0)) (qb BK762.out) hb); replace BK770 := am (blk_below (g := gb770) (o := .cells #[.slice Ao47 t767.length co47] 26 (0, 0)) (qb BK770.out) hb); replace HB := am (below_step qB hb); (try clear hb); (try clear hb2); (try clear hk); (try clear hi); have hcz161_0 := qz w160 BK749.out; have hfz161_0 := blk_frozen BK749.out 0))
                                    go_ret
                                    exact ⟨qr, qB⟩
                              ·as_aux_lemma =>
                                 replace c138 := Bool.eq_false_iff.mpr c138
                                 subst c138
                                 have H1 : (some false) = some r := by rw [if_neg (show ¬ (false = true) by decide)] at H; exact H
                                 clear H
                                 have H := H1
                                 clear H1
                                 obtain rfl := Option.some.inj H
                                 have hnb162 := NB749_762.out
                                 have hnc162 := NB762_749.out
                                 have hnb163 := NB749_770.out
                                 have hnc163 := NB770_749.out
                                 have hcz164_0 := qz wc BK749.out
                                 have hfz164_0 := blk_frozen BK749.out 0
                                 go_wp2_with (first | ((with_reducible refine gate_callee (f := 35) rfl ?_); refine gL (some 193) Try.func35 #[.agg #[.slice Ao13 t745.length co13], .int .i64 (wrap64 (t748 + 1))] ?_; (with_reducible refine (impl_LabelPolynomialAt.calls kj66 _ _ t745 (wrap64 (t748 + 1)) t785 true _ ?side1 ?side2 A95.out).mono ?_); (case side1 => exact qC (Kd.R_reads' HO_750000.out).2.2); (case side2 => exact (Kd.R_reads' HO_750000.out).2.1); rintro e w165 ⟨rfl, hb⟩; refine ⟨_, rfl, ?_⟩; replace HO_750000 := am (Kd.R_below (qR HO_750000.out) hb); replace HO_763000 := am (Kd.R_below (qR HO_763000.out) hb); replace HO_771000 := am (Kd.R_below (qR HO_771000.out) hb); replace BK749 := am (blk_below (g := gb749) (o := .cells #[.slice Ao13 t745.length co13] 26 (0, 0)) (qb BK749.out) hb); replace BK762 := am (blk_below (g := gb762) (o := .cells #[.slice Ao33 t758.length co33] 26 (0, 0)) (qb BK762.out) hb); replace BK770 := am (blk_below (g := gb770) (o := .cells #[.slice Ao47 t767.length co47] 26 (0, 0)) (qb BK770.out) hb); replace HB := am (below_step qB hb); (try clear hb); (try clear hb2); (try clear hk); (try clear hi); have hcz166_0 := qz w165 BK749.out; have hfz166_0 := blk_frozen BK749.out 0) | ((with_reducible refine gate_callee (f := 35) rfl ?_); refine gL (some 201) Try.func35 #[.agg #[.slice Ao13 t745.length co13], .int .i64 (wrap64 ((wrap64 (-t748)) - 1))] ?_; (with_reducible refine (impl_LabelPolynomialAt.calls kj66 _ _ t745 (wrap64 ((wrap64 (-t748)) - 1)) t787 false _ ?side1 ?side2 A96.out).mono ?_); (case side1 => exact qC (Kd.R_reads' HO_750000.out).2.2); (case side2 => exact (Kd.R_reads' HO_750000.out).2.1); rintro e w167 ⟨rfl, hb⟩; refine ⟨_, rfl, ?_⟩; replace HO_750000 := am (Kd.R_below (qR HO_750000.out) hb); replace HO_763000 := am (Kd.R_below (qR HO_763000.out) hb); replace HO_771000 := am (Kd.R_below (qR HO_771000.out) hb); replace BK749 := am (blk_below (g := gb749) (o := .cells #[.slice Ao13 t745.length co13] 26 (0, 0)) (qb BK749.out) hb); replace BK762 := am (blk_below (g := gb762) (o := .cells #[.slice Ao33 t758.length co33] 26 (0, 0)) (qb BK762.out) hb); replace BK770 := am (blk_below (g := gb770) (o := .cells #[.slice Ao47 t767.length co47] 26 (0, 0)) (qb BK770.out) hb); replace HB := am (below_step qB hb); (try clear hb); (try clear hb2); (try clear hk); (try clear hi); have hcz168_0 := qz w167 BK749.out; have hfz168_0 := blk_frozen BK749.out 0))
                                 go_ret
                                 exact ⟨qr, qB⟩
                           ·as_aux_lemma =>
                              replace c137 := Bool.eq_false_iff.mpr c137
                              subst c137
                              have H1 : (some false) = some r := by rw [if_neg (show ¬ (false = true) by decide)] at H; exact H
                              clear H
                              have H := H1
                              clear H1
                              obtain rfl := Option.some.inj H
                              have hnb169 := NB749_762.out
                              have hnc169 := NB762_749.out
                              have hnb170 := NB749_770.out
                              have hnc170 := NB770_749.out
                              have hcz171_0 := qz wc BK749.out
                              have hfz171_0 := blk_frozen BK749.out 0
                              go_wp2_with (first | ((with_reducible refine gate_callee (f := 35) rfl ?_); refine gL (some 193) Try.func35 #[.agg #[.slice Ao13 t745.length co13], .int .i64 (wrap64 (t748 + 1))] ?_; (with_reducible refine (impl_LabelPolynomialAt.calls kj66 _ _ t745 (wrap64 (t748 + 1)) t785 false _ ?side1 ?side2 A95.out).mono ?_); (case side1 => exact qC (Kd.R_reads' HO_750000.out).2.2); (case side2 => exact (Kd.R_reads' HO_750000.out).2.1); rintro e w172 ⟨rfl, hb⟩; refine ⟨_, rfl, ?_⟩; replace HO_750000 := am (Kd.R_below (qR HO_750000.out) hb); replace HO_763000 := am (Kd.R_below (qR HO_763000.out) hb); replace HO_771000 := am (Kd.R_below (qR HO_771000.out) hb); replace BK749 := am (blk_below (g := gb749) (o := .cells #[.slice Ao13 t745.length co13] 26 (0, 0)) (qb BK749.out) hb); replace BK762 := am (blk_below (g := gb762) (o := .cells #[.slice Ao33 t758.length co33] 26 (0, 0)) (qb BK762.out) hb); replace BK770 := am (blk_below (g := gb770) (o := .cells #[.slice Ao47 t767.length co47] 26 (0, 0)) (qb BK770.out) hb); replace HB := am (below_step qB hb); (try clear hb); (try clear hb2); (try clear hk); (try clear hi); have hcz173_0 := qz w172 BK749.out; have hfz173_0 := blk_frozen BK749.out 0) | ((with_reducible refine gate_callee (f := 35) rfl ?_); refine gL (some 201) Try.func35 #[.agg #[.slice Ao13 t745.length co13], .int .i64 (wrap64 ((wrap64 (-t748)) - 1))] ?_; (with_reducible refine (impl_LabelPolynomialAt.calls kj66 _ _ t745 (wrap64 ((wrap64 (-t748)) - 1)) t787 t788 _ ?side1 ?side2 A96.out).mono ?_); (case side1 => exact qC (Kd.R_reads' HO_750000.out).2.2); (case side2 => exact (Kd.R_reads' HO_750000.out).2.1); rintro e w174 ⟨rfl, hb⟩; refine ⟨_, rfl, ?_⟩; replace HO_750000 := am (Kd.R_below (qR HO_750000.out) hb); replace HO_763000 := am (Kd.R_below (qR HO_763000.out) hb); replace HO_771000 := am (Kd.R_below (qR HO_771000.out) hb); replace BK749 := am (blk_below (g := gb749) (o := .cells #[.slice Ao13 t745.length co13] 26 (0, 0)) (qb BK749.out) hb); replace BK762 := am (blk_below (g := gb762) (o := .cells #[.slice Ao33 t758.length co33] 26 (0, 0)) (qb BK762.out) hb); replace BK770 := am (blk_below (g := gb770) (o := .cells #[.slice Ao47 t767.length co47] 26 (0, 0)) (qb BK770.out) hb); replace HB := am (below_step qB hb); (try clear hb); (try clear hb2); (try clear hk); (try clear hi); have hcz175_0 := qz w174 BK749.out; have hfz175_0 := blk_frozen BK749.out 0))
                              go_ret
                              exact ⟨qr, qB⟩
                     ·as_aux_lemma =>
                        replace c94 := Bool.eq_false_iff.mpr c94
                        subst c94
                        have H1 : (some true) = some r := by rw [if_neg (show ¬ (false = true) by decide)] at H; exact H
                        clear H
                        have H := H1
                        clear H1
                        obtain rfl := Option.some.inj H
                        go_wp2
                        go_ret
                        exact ⟨qr, qB⟩
end Go.Proofs.Ytmbojobkiainlaa.F
end

section
namespace Go.Proofs.Ytmbojobkiainlaa.Q
open Go.RowKit Go.Proofs.YtmbojobkiainlaaW.PrintWords Go.Proofs.Ytmbojobkiainlaa.F
set_option linter.unusedVariables false
def topN (p : List Int) (s : Nat) : Nat := (itemsN s).foldl (fun a e => ndiff a (L p e)) s
theorem foldl_ndiff_lt (g : Nat → Nat) (l : List Nat) (a n : Nat) (ha : a < n) : l.foldl (fun a e => ndiff a (g e)) a < n := by
 induction l generalizing a with
 | nil => exact ha
 | cons x l ih => exact ih _ (ndiff_lt ha)
theorem foldl_ndiff_bit (g : Nat → Nat) (l : List Nat) (a i : Nat) : (l.foldl (fun a e => ndiff a (g e)) a).testBit i = (a.testBit i && !l.any fun e => (g e).testBit i) := by
 induction l generalizing a with
 | nil => simp
 | cons x l ih =>
  rw [List.foldl_cons, ih, ndiff_bit, List.any_cons]
  cases a.testBit i <;> cases (g x).testBit i <;> simp
theorem top_ev {p : List Int} (hp : PO p) {s : Nat} (hs : s < 2 ^ p.length) : Ev (fun k => impl_Poset_top.f k p (s : Int)) ((topN p s : Nat) : Int) := by
 have hn := hp.small
 unfold impl_Poset_top.f
 refine Ev.bind (items_ev s (lt_pow hs (by omega))) ?_
 have hil := itemsN_len s
 have key : ∀ i, i ≤ (itemsN s).length → ∀ a : Nat, a < 2 ^ p.length → Ev (fun k => impl_Poset_top.l0 k (a : Int) (ints (itemsN s)) ((ints (itemsN s)).length : Int) (i : Int) p) ((((itemsN s).drop i).foldl (fun a e => ndiff a (L p e)) a : Nat) : Int) := by
  refine downTo _ ?_ ?_
  ·intro a ha
   rw [List.drop_length]
   exact Ev.step (by intro k; simp only [impl_Poset_top.l0]; rfl) (Ev.no (by rw [ints_len]; omega) (Ev.now _))
  ·intro i hi ih a ha
   have he : (itemsN s).getD i 0 < p.length := items_lt hs hi
   have hrd : rd (ints (itemsN s)) (i : Int) = (((itemsN s).getD i 0 : Nat) : Int) := rd_ints _ _
   refine Ev.step (by intro k; simp only [impl_Poset_top.l0]; rfl) (Ev.yes (by rw [ints_len]; omega) (Ev.yes (by omega) (Ev.yes (by rw [ints_len]; omega) ?_)))
   rw [hrd]
   refine Ev.yes (by omega) (Ev.yes (by omega) ?_)
   rw [rdN, hp.val _ he, bits_andNotN (lt_pow ha (by omega)) (lt_pow (L_lt hp he) (by omega)), wid1 hi (by omega), foldl_drop_step _ _ 0 a hi]
   exact ih _ (ndiff_lt ha)
 exact key 0 (Nat.zero_le _) s hs
theorem topN_eq {p : List Int} (hp : PO p) {u : Nat} (hu : u < 2 ^ p.length) : (topN p u == u) = frB p u := by
 have hn := hp.small
 rw [Bool.eq_iff_iff, beq_iff_eq]
 unfold frB
 rw [allFrom_iff]
 constructor
 ·intro h i _ hi
  cases hb : u.testBit i with
  | false => rfl
  | true =>
   rw [Bool.not_true, Bool.false_or, decide_eq_true_eq]
   apply Nat.eq_of_testBit_eq
   intro j
   rw [Nat.testBit_and, Nat.zero_testBit]
   cases hj : u.testBit j with
   | false => simp
   | true =>
    have h1 : (topN p u).testBit j = true := by rw [h]; exact hj
    unfold topN at h1
    rw [foldl_ndiff_bit, hj, Bool.true_and] at h1
    have h2 : ¬ (L p i).testBit j = true := fun hl => by
     rw [List.any_eq_true.2 ⟨i, mem_itemsN.2 ⟨by omega, hb⟩, hl⟩] at h1; cases h1
    simp [h2]
 ·intro h
  apply Nat.eq_of_testBit_eq
  intro j
  unfold topN
  rw [foldl_ndiff_bit]
  cases hj : u.testBit j with
  | false => rfl
  | true =>
   rw [Bool.true_and, Bool.not_eq_true', List.any_eq_false]
   intro e he hl
   have hb := (mem_itemsN.1 he).2
   have h1 := h e (Nat.zero_le _) (lt_of_bit hu hb)
   rw [hb, Bool.not_true, Bool.false_or, decide_eq_true_eq] at h1
   have h2 : (L p e &&& u).testBit j = true := by rw [Nat.testBit_and, hl, hj]; rfl
   rw [h1, Nat.zero_testBit] at h2
   cases h2
theorem steps_ev {p : List Int} (hp : PO p) : Ev (fun k => impl_Poset_steps.f k p) (ints (stepsN p)) := by
 have hn := hp.small
 have hall : allN p ∈ idealsN p := mem_idealsN.2 ⟨allN_lt p, idealB_all p hp⟩
 obtain ⟨K1, hK1⟩ := ideals_ev hp
 obtain ⟨K2, hK2⟩ := Ev.all (g := fun s k => impl_Poset_top.f k p (s : Int)) (r := fun s => ((topN p s : Nat) : Int)) (2 ^ p.length) (fun s hs => top_ev hp hs)
 refine ⟨K1 + K2, fun k hk => ?_⟩
 show impl_Poset_steps.f k p = _
 unfold impl_Poset_steps.f
 have htop : ∀ s ∈ idealsN p, ∀ t ∈ idealsN p, impl_Poset_top.f k p (Go.bits .andNot .i64 (t : Int) (s : Int)) = some ((topN p (ndiff t s) : Nat) : Int) := fun s hs t ht => by
  rw [bits_andNotN (lt_pow (mem_idealsN.1 ht).1 (by omega)) (lt_pow (mem_idealsN.1 hs).1 (by omega))]
  exact hK2 k (by omega) _ (ndiff_lt (mem_idealsN.1 ht).1)
 have hok : stpOk k p (ints (idealsN p)) = true := List.all_eq_true.2 fun x hx => List.all_eq_true.2 fun y hy => by
  obtain ⟨t, ht, rfl⟩ := List.mem_map.1 hx
  obtain ⟨s, hs, rfl⟩ := List.mem_map.1 hy
  show (impl_Poset_top.f k p (Go.bits .andNot .i64 (t : Int) (s : Int))).isSome = true
  rw [htop s hs t ht]; rfl
 have h1 : impl_Poset_ideals.f k p = some (ints (idealsN p)) := hK1 k (by omega)
 rw [h1, Option.bind_some, all_eq (by omega), Option.bind_some, if_pos ⟨cntOk_ids hn, ⟨List.mem_map.2 ⟨allN p, hall, rfl⟩, by omega⟩, hok⟩]
 congr 1
 unfold stpOuts stepsN ints
 rw [List.map_map]
 refine List.map_congr_left fun j hj => ?_
 have hj := List.mem_range.1 hj
 refine cntAt_eq hn (B := opB p) (fun s hs t ht => ?_) (fun s t h => opB_sub h) (j + 1) (by omega) (allN p) hall
 unfold stpB opB
 rw [htop s hs t ht, Option.getD_some, bits_andNotN (lt_pow (mem_idealsN.1 hs).1 (by omega)) (lt_pow (mem_idealsN.1 ht).1 (by omega)), bits_andNotN (lt_pow (mem_idealsN.1 ht).1 (by omega)) (lt_pow (mem_idealsN.1 hs).1 (by omega)), ← topN_eq hp (ndiff_lt (mem_idealsN.1 ht).1)]
 have e1 : (((ndiff s t : Nat) : Int) == 0) = subB s t := by unfold subB; rw [Bool.eq_iff_iff, beq_iff_eq, beq_iff_eq]; omega
 have e2 : (((ndiff t s : Nat) : Int) != 0) = !(ndiff t s == 0) := by unfold bne; congr 1; rw [Bool.eq_iff_iff, beq_iff_eq, beq_iff_eq]; omega
 have e3 : (((topN p (ndiff t s) : Nat) : Int) == ((ndiff t s : Nat) : Int)) = (topN p (ndiff t s) == ndiff t s) := by rw [Bool.eq_iff_iff, beq_iff_eq, beq_iff_eq]; omega
 rw [e1, e2, e3]
theorem polynomial_ev {p : List Int} (hp : PO p) (x : Int) : Ev (fun k => impl_Poset_polynomial.f k p x) (polyL x (ints (stepsN p)) 0 0) := by
 have hn := hp.small
 unfold impl_Poset_polynomial.f
 refine Ev.bind (steps_ev hp) ?_
 have hl : (ints (stepsN p)).length = p.length := by rw [ints_len, stepsN_len]
 generalize ints (stepsN p) = S at hl ⊢
 have key : ∀ i, i ≤ S.length → ∀ acc : Int, Ev (fun k => impl_Poset_polynomial.l0 k x acc (ch x i) S (S.length : Int) (i : Int)) (polyL x (S.drop i) i acc) := by
  refine downTo _ ?_ ?_
  ·intro acc
   rw [List.drop_length]
   exact Ev.step (by intro k; simp only [impl_Poset_polynomial.l0]; rfl) (Ev.no (by omega) (Ev.now _))
  ·intro i hi ih acc
   refine Ev.step (by intro k; simp only [impl_Poset_polynomial.l0]; rfl) (Ev.yes (by omega) (Ev.yes (by omega) (Ev.yes (by omega) ?_)))
   rw [wid1 hi (by omega), List.drop_eq_getElem_cons hi]
   refine Ev.no (by omega) ?_
   rw [rdN' hi]
   exact ih _
 exact key 0 (Nat.zero_le _) 0
theorem CountStrict_same (p : List Int) (hp : p.length ≤ 1048576) (_ : ∀ n ∈ p, (Lit.int .i64 n).wf = true) (m : Int) (_ : (Lit.int .i64 m).wf = true) :
 ∃ r, Ev (fun k => spec_CountStrict.f k p m) r ∧ Ev (fun k => impl_CountStrict.f k p m) r ∧ True := by
 unfold spec_CountStrict.f impl_CountStrict.f
 cases hpo : isPo p with
 | false =>
  refine ⟨(0, false), Ev.bind (poGood_ev p) ?_, Ev.bind (IsPoset_ev p) ?_, trivial⟩
  ·rw [hpo]; exact Ev.no (by simp) (Ev.now _)
  ·rw [hpo]; exact Ev.no (by simp) (Ev.now _)
 | true =>
  have hP := (isPo_iff p).1 hpo
  by_cases hm : 0 ≤ m ∧ m ≤ 12
  rotate_left
  ·refine ⟨(0, false), Ev.bind (poGood_ev p) ?_, Ev.bind (IsPoset_ev p) ?_, trivial⟩
   ·rw [hpo, laBound_eq, range_false hm]; exact Ev.yes rfl (Ev.call rfl (Ev.no (by simp) (Ev.now _)))
   ·rw [hpo, isBound_eq, range_false hm]; exact Ev.yes rfl (Ev.call rfl (Ev.no (by simp) (Ev.now _)))
  obtain ⟨q, rfl⟩ := Int.eq_ofNat_of_zero_le hm.1
  have hw : wrap64 ((q : Int) + 1) = ((q + 1 : Nat) : Int) := wid1 (show q < q + 1 by omega) (by omega)
  refine ⟨(((wvN (stB p true) (idealsN p) (q + 1) (allN p) : Nat) : Int), true), Ev.bind (poGood_ev p) ?_, Ev.bind (IsPoset_ev p) ?_, trivial⟩
  ·rw [hpo, laBound_eq, range_true hm]
   refine Ev.yes rfl (Ev.call rfl (Ev.yes rfl (Ev.bind ?_ (Ev.now _))))
   rw [hw]
   exact laChains_ev hP true (by omega)
  ·rw [hpo, isBound_eq, range_true hm, hw]
   refine Ev.yes rfl (Ev.call rfl (Ev.yes rfl (Ev.bind ?_ (Ev.now _))))
   rw [← poly_strict hP (by omega)]
   exact polynomial_ev hP _
theorem spec_poly {x : Int} (h0 : -13 ≤ x) (h1 : x ≤ 13) (S : List Int) (hS : S.length ≤ 10) : ∀ i, i ≤ S.length → ∀ acc : Int, Ev (fun k => spec_LabelPolynomialAt.l0 k x acc S (S.length : Int) (i : Int)) (polyL x (S.drop i) i acc, true) := by
 refine downTo _ ?_ ?_
 ·intro acc
  rw [List.drop_length]
  exact Ev.step (by intro k; simp only [spec_LabelPolynomialAt.l0]; rfl) (Ev.no (by omega) (Ev.now _))
 ·intro i hi ih acc
  refine Ev.step (by intro k; simp only [spec_LabelPolynomialAt.l0]; rfl) (Ev.yes (by omega) (Ev.yes (by omega) (Ev.yes (by omega) ?_)))
  rw [wid1 hi (by omega), List.drop_eq_getElem_cons hi]
  refine Ev.bind (laChoose_ev h0 h1 (by omega)) ?_
  rw [rdN' hi]
  exact ih _
theorem LabelPolynomialAt_same (p : List Int) (hp : p.length ≤ 1048576) (_ : ∀ n ∈ p, (Lit.int .i64 n).wf = true) (x : Int) (_ : (Lit.int .i64 x).wf = true) :
 ∃ r, Ev (fun k => spec_LabelPolynomialAt.f k p x) r ∧ Ev (fun k => impl_LabelPolynomialAt.f k p x) r ∧ True := by
 unfold spec_LabelPolynomialAt.f impl_LabelPolynomialAt.f
 cases hpo : isPo p with
 | false =>
  refine ⟨(0, false), Ev.bind (poGood_ev p) ?_, Ev.bind (IsPoset_ev p) ?_, trivial⟩
  ·rw [hpo]
   refine Ev.no (by simp) ?_
   refine Ev.step (by intro k; simp only [spec_LabelPolynomialAt.j0]; rfl) ?_
   exact Ev.yes (by simp) (Ev.now _)
  ·rw [hpo]; exact Ev.no (by simp) (Ev.now _)
 | true =>
  have hP := (isPo_iff p).1 hpo
  have hn := hP.small
  by_cases hx : -13 ≤ x ∧ x ≤ 13
  rotate_left
  ·refine ⟨(0, false), Ev.bind (poGood_ev p) ?_, Ev.bind (IsPoset_ev p) ?_, trivial⟩
   ·rw [hpo, l1In_eq, range_false hx]
    refine Ev.yes rfl (Ev.call rfl ?_)
    refine Ev.step (by intro k; simp only [spec_LabelPolynomialAt.j0]; rfl) ?_
    exact Ev.yes (by simp) (Ev.now _)
   ·rw [hpo, within_eq, range_false hx]; exact Ev.yes rfl (Ev.call rfl (Ev.no (by simp) (Ev.now _)))
  refine ⟨(polyL x (ints (stepsN p)) 0 0, true), Ev.bind (poGood_ev p) ?_, Ev.bind (IsPoset_ev p) ?_, trivial⟩
  ·rw [hpo, l1In_eq, range_true hx]
   refine Ev.yes rfl (Ev.call rfl ?_)
   refine Ev.step (by intro k; simp only [spec_LabelPolynomialAt.j0]; rfl) ?_
   refine Ev.no (by simp) (Ev.bind (laSteps_ev hP) ?_)
   exact spec_poly hx.1 hx.2 (ints (stepsN p)) (by rw [ints_len, stepsN_len]; exact hn) 0 (Nat.zero_le _) 0
  ·rw [hpo, within_eq, range_true hx]
   exact Ev.yes rfl (Ev.call rfl (Ev.yes rfl (Ev.bind (polynomial_ev hP x) (Ev.now _))))
theorem StepCounts_same (p : List Int) (hp : p.length ≤ 1048576) (_ : ∀ n ∈ p, (Lit.int .i64 n).wf = true) :
 ∃ r, Ev (fun k => spec_StepCounts.f k p) r ∧ Ev (fun k => impl_StepCounts.f k p) r ∧ r.1.length ≤ 1000 := by
 unfold spec_StepCounts.f impl_StepCounts.f
 cases hpo : isPo p with
 | false =>
  refine ⟨([], false), Ev.bind (poGood_ev p) ?_, Ev.bind (IsPoset_ev p) ?_, Nat.zero_le _⟩
  ·rw [hpo]; exact Ev.no (by simp) (Ev.now _)
  ·rw [hpo]; exact Ev.no (by simp) (Ev.now _)
 | true =>
  have hP := (isPo_iff p).1 hpo
  have hn := hP.small
  refine ⟨(ints (stepsN p), true), Ev.bind (poGood_ev p) ?_, Ev.bind (IsPoset_ev p) ?_, ?_⟩
  ·rw [hpo]; exact Ev.yes rfl (Ev.bind (laSteps_ev hP) (Ev.now _))
  ·rw [hpo]; exact Ev.yes rfl (Ev.bind (steps_ev hP) (Ev.now _))
  ·show (ints (stepsN p)).length ≤ 1000
   rw [ints_len, stepsN_len]; omega
end Go.Proofs.Ytmbojobkiainlaa.Q
end
