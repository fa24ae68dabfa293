/- Part 6 of the texts below the row of FnKnownPosets: printed functions with their contracts, and plain lemmas. No condition. -/
import Derived.Test.YtonfifhoklaliaaZFnKnownPosets5
section
namespace Go.Proofs.Ytonfifhoklaliaa.F
open Go.RowKit Go.Proofs.YtonfifhoklaliaaW.PrintWords Go.Proofs.YtonfifhoklaliaaW.PrintLast Go.Proofs.YtonfifhoklaliaaW.PrintMore
attribute [local go_sem] max2_int min2_int max_two min_two max_three min_three max_four min_four
set_option linter.unusedVariables false
set_option linter.unusedSimpArgs false
mutual
def laws_FnKnownPosets.j0 : Nat → List Int → Int → Int → Bool → Bool → List Int → Option (Bool)
 | 0, _, _, _, _, _, _ => none
 | k + 1, x1, x5, x6, x8, x78, x423000 => if x78 = true then (some false) else (if x8 = true then ((impl_CountIdeals.f k x423000).bind fun bt429 => ((impl_IsRanked.f k x423000).bind fun bt431 => ((impl_HeightsOf.f k x423000).bind fun bt433 => (laws_FnKnownPosets.l0 k x1 x5 x6 bt429.1 bt429.2 bt431.1 bt431.2 bt433.1 bt433.2 1 1)))) else (laws_FnKnownPosets.j4 k x1))
def laws_FnKnownPosets.j4 : Nat → List Int → Option (Bool)
 | 0, _ => none
 | k + 1, x1 => (spec_DrawStaircase.f k x1).bind fun t438 => ((impl_Staircase.f k t438).bind fun bt439 => ((spec_Staircase.f k t438).bind fun bt444 => (if (bt439.2 != bt444.2) = true then (laws_FnKnownPosets.j5 k x1 t438 bt439.2 true bt439.1) else ((laws_nPoset.f k bt439.1 bt444.1).bind fun t449 => (laws_FnKnownPosets.j5 k x1 t438 bt439.2 (!t449) bt439.1)))))
def laws_FnKnownPosets.j5 : Nat → List Int → Int → Bool → Bool → List Int → Option (Bool)
 | 0, _, _, _, _, _ => none
 | k + 1, x1, x21, x23, x163, x444000 => if x163 = true then (some false) else (if x23 = true then ((impl_CountIdeals.f k x444000).bind fun bt450 => (laws_FnKnownPosets.l2 k x1 x21 bt450.1 bt450.2 1 0 x444000)) else (laws_FnKnownPosets.j7 k x1))
def laws_FnKnownPosets.j7 : Nat → List Int → Option (Bool)
 | 0, _ => none
 | k + 1, x1 => (spec_DrawFence.f k x1).bind fun t452 => ((impl_Fence.f k t452).bind fun bt453 => ((spec_Fence.f k t452).bind fun bt458 => (if (bt453.2 != bt458.2) = true then (laws_FnKnownPosets.j8 k x1 t452 bt453.2 true bt453.1) else ((laws_nPoset.f k bt453.1 bt458.1).bind fun t463 => (laws_FnKnownPosets.j8 k x1 t452 bt453.2 (!t463) bt453.1)))))
def laws_FnKnownPosets.j8 : Nat → List Int → Int → Bool → Bool → List Int → Option (Bool)
 | 0, _, _, _, _, _ => none
 | k + 1, x1, x30, x32, x222, x458000 => if x222 = true then (some false) else (if x32 = true then ((impl_CountIdeals.f k x458000).bind fun bt464 => (laws_FnKnownPosets.l3 k x1 x30 bt464.1 bt464.2 1 2 1)) else (laws_FnKnownPosets.j10 k x1))
def laws_FnKnownPosets.j10 : Nat → List Int → Option (Bool)
 | 0, _ => none
 | k + 1, x1 => (spec_DrawHeightsOf.f k x1).bind fun t466 => ((impl_HeightsOf.f k t466).bind fun bt470 => ((spec_HeightsOf.f k t466).bind fun bt474 => ((impl_IsRanked.f k t466).bind fun bt478 => ((spec_IsRanked.f k t466).bind fun bt480 => (if (bt470.2 == bt474.2) = true then ((laws_nSame.f k bt470.1 bt474.1).bind fun t482 => (if t482 = true then (if (bt478.2 == bt480.2) = true then (some (bt478.1 == bt480.1)) else (some false)) else (some false))) else (some false))))))
def laws_FnKnownPosets.l3 : Nat → List Int → Int → Int → Bool → Int → Int → Int → Option (Bool)
 | 0, _, _, _, _, _, _, _ => none
 | k + 1, x1, x30, x35, x36, x37, x38, x39 => if x39 < x30 then (laws_FnKnownPosets.l3 k x1 x30 x35 x36 x38 (wrap64 (x37 + x38)) (wrap64 (x39 + 1))) else (if x36 = true then (if x35 = x38 then (laws_FnKnownPosets.j10 k x1) else (some false)) else (some false))
def laws_FnKnownPosets.l2 : Nat → List Int → Int → Int → Bool → Int → Int → List Int → Option (Bool)
 | 0, _, _, _, _, _, _, _ => none
 | k + 1, x1, x21, x26, x27, x28, x29, x444000 => if x29 ≤ x21 then (if (wrap64 (x29 + 2)) = 0 then (none) else (laws_FnKnownPosets.l2 k x1 x21 x26 x27 (wrap64 (Int.tdiv (wrap64 ((wrap64 (x28 * 2)) * (wrap64 ((wrap64 (2 * x29)) + 1)))) (wrap64 (x29 + 2)))) (wrap64 (x29 + 1)) x444000)) else (if x27 = true then (if x26 = x28 then (if (x444000.length : Int) = (wrap64 (Int.tdiv (wrap64 (x21 * (wrap64 (x21 + 1)))) 2)) then (laws_FnKnownPosets.j7 k x1) else (some false)) else (some false)) else (some false))
def laws_FnKnownPosets.l0 : Nat → List Int → Int → Int → Int → Bool → Bool → Bool → List Int → Bool → Int → Int → Option (Bool)
 | 0, _, _, _, _, _, _, _, _, _, _, _ => none
 | k + 1, x1, x5, x6, x11, x12, x13, x14, x15, x16, x17, x18 => if x18 ≤ x5 then (if x18 = 0 then (none) else (laws_FnKnownPosets.l0 k x1 x5 x6 x11 x12 x13 x14 x15 x16 (wrap64 (Int.tdiv (wrap64 (x17 * (wrap64 (x6 + x18)))) x18)) (wrap64 (x18 + 1)))) else (if x12 = true then (if x11 = x17 then (if x14 = true then (if x13 = true then (laws_FnKnownPosets.j2 k x1 x6 x15 (!x16)) else (laws_FnKnownPosets.j2 k x1 x6 x15 true)) else (laws_FnKnownPosets.j2 k x1 x6 x15 true)) else (laws_FnKnownPosets.j2 k x1 x6 x15 true)) else (laws_FnKnownPosets.j2 k x1 x6 x15 true))
def laws_FnKnownPosets.j2 : Nat → List Int → Int → List Int → Bool → Option (Bool)
 | 0, _, _, _, _ => none
 | k + 1, x1, x6, x15, x125 => if x125 = true then (some false) else (laws_FnKnownPosets.l1 k x1 x6 x15 (x15.length : Int) 0)
def laws_FnKnownPosets.l1 : Nat → List Int → Int → List Int → Int → Int → Option (Bool)
 | 0, _, _, _, _, _ => none
 | k + 1, x1, x6, x126, x127, x128 => if x128 < x127 then (if 0 ≤ x128 then (if x128 < (x126.length : Int) then (if x6 = 0 then (none) else (if (rd x126 x128) = (wrap64 ((wrap64 (Int.tdiv x128 x6)) + (Int.tmod x128 x6))) then (laws_FnKnownPosets.l1 k x1 x6 x126 x127 (wrap64 (x128 + 1))) else (some false))) else (none)) else (none)) else (laws_FnKnownPosets.j4 k x1)
end
def laws_FnKnownPosets.f (k : Nat) (l0 : List Int) (l1 : List Int) : Option (Bool) := (laws_big.f l0 l1).bind fun t415 => (if t415 = true then (some true) else ((spec_DrawRectangle.f k l0).bind fun bt416 => ((impl_Rectangle.f k bt416.1 bt416.2).bind fun bt418 => ((spec_Rectangle.f k bt416.1 bt416.2).bind fun bt423 => (if (bt418.2 != bt423.2) = true then (laws_FnKnownPosets.j0 k l1 bt416.1 bt416.2 bt418.2 true bt418.1) else ((laws_nPoset.f k bt418.1 bt423.1).bind fun t428 => (laws_FnKnownPosets.j0 k l1 bt416.1 bt416.2 bt418.2 (!t428) bt418.1)))))))
theorem laws_FnKnownPosets.mono_l : ∀ k, (∀ y0 y1 y2 y3 y4 y5, LeO (laws_FnKnownPosets.j0 k y0 y1 y2 y3 y4 y5) (laws_FnKnownPosets.j0 (k + 1) y0 y1 y2 y3 y4 y5)) ∧ (∀ y0, LeO (laws_FnKnownPosets.j4 k y0) (laws_FnKnownPosets.j4 (k + 1) y0)) ∧ (∀ y0 y1 y2 y3 y4, LeO (laws_FnKnownPosets.j5 k y0 y1 y2 y3 y4) (laws_FnKnownPosets.j5 (k + 1) y0 y1 y2 y3 y4)) ∧ (∀ y0, LeO (laws_FnKnownPosets.j7 k y0) (laws_FnKnownPosets.j7 (k + 1) y0)) ∧ (∀ y0 y1 y2 y3 y4, LeO (laws_FnKnownPosets.j8 k y0 y1 y2 y3 y4) (laws_FnKnownPosets.j8 (k + 1) y0 y1 y2 y3 y4)) ∧ (∀ y0, LeO (laws_FnKnownPosets.j10 k y0) (laws_FnKnownPosets.j10 (k + 1) y0)) ∧ (∀ y0 y1 y2 y3 y4 y5 y6, LeO (laws_FnKnownPosets.l3 k y0 y1 y2 y3 y4 y5 y6) (laws_FnKnownPosets.l3 (k + 1) y0 y1 y2 y3 y4 y5 y6)) ∧ (∀ y0 y1 y2 y3 y4 y5 y6, LeO (laws_FnKnownPosets.l2 k y0 y1 y2 y3 y4 y5 y6) (laws_FnKnownPosets.l2 (k + 1) y0 y1 y2 y3 y4 y5 y6)) ∧ (∀ y0 y1 y2 y3 y4 y5 y6 y7 y8 y9 y10, LeO (laws_FnKnownPosets.l0 k y0 y1 y2 y3 y4 y5 y6 y7 y8 y9 y10) (laws_FnKnownPosets.l0 (k + 1) y0 y1 y2 y3 y4 y5 y6 y7 y8 y9 y10)) ∧ (∀ y0 y1 y2 y3, LeO (laws_FnKnownPosets.j2 k y0 y1 y2 y3) (laws_FnKnownPosets.j2 (k + 1) y0 y1 y2 y3)) ∧ (∀ y0 y1 y2 y3 y4, LeO (laws_FnKnownPosets.l1 k y0 y1 y2 y3 y4) (laws_FnKnownPosets.l1 (k + 1) y0 y1 y2 y3 y4))
 | 0 => ⟨fun _ _ _ _ _ _ r h => by simp [laws_FnKnownPosets.j0] at h, fun _ r h => by simp [laws_FnKnownPosets.j4] at h, fun _ _ _ _ _ r h => by simp [laws_FnKnownPosets.j5] at h, fun _ r h => by simp [laws_FnKnownPosets.j7] at h, fun _ _ _ _ _ r h => by simp [laws_FnKnownPosets.j8] at h, fun _ r h => by simp [laws_FnKnownPosets.j10] at h, fun _ _ _ _ _ _ _ r h => by simp [laws_FnKnownPosets.l3] at h, fun _ _ _ _ _ _ _ r h => by simp [laws_FnKnownPosets.l2] at h, fun _ _ _ _ _ _ _ _ _ _ _ r h => by simp [laws_FnKnownPosets.l0] at h, fun _ _ _ _ r h => by simp [laws_FnKnownPosets.j2] at h, fun _ _ _ _ _ r h => by simp [laws_FnKnownPosets.l1] at h⟩
 | k + 1 => by
  obtain ⟨ih0, ih1, ih2, ih3, ih4, ih5, ih6, ih7, ih8, ih9, ih10⟩ := laws_FnKnownPosets.mono_l k
  refine ⟨?_, ?_, ?_, ?_, ?_, ?_, ?_, ?_, ?_, ?_, ?_⟩
  ·intro y0 y1 y2 y3 y4 y5
   unfold laws_FnKnownPosets.j0
   repeat' first
   | (with_reducible exact impl_CountIdeals.mono _ _)
   | (with_reducible exact impl_Fence.mono _ _)
   | (with_reducible exact impl_HeightsOf.mono _ _)
   | (with_reducible exact impl_IsRanked.mono _ _)
   | (with_reducible exact impl_Rectangle.mono _ _ _)
   | (with_reducible exact impl_Staircase.mono _ _)
   | (with_reducible exact laws_nPoset.mono _ _ _)
   | (with_reducible exact laws_nSame.mono _ _ _)
   | (with_reducible exact spec_DrawFence.mono _ _)
   | (with_reducible exact spec_DrawHeightsOf.mono _ _)
   | (with_reducible exact spec_DrawRectangle.mono _ _)
   | (with_reducible exact spec_DrawStaircase.mono _ _)
   | (with_reducible exact spec_Fence.mono _ _)
   | (with_reducible exact spec_HeightsOf.mono _ _)
   | (with_reducible exact spec_IsRanked.mono _ _)
   | (with_reducible exact spec_Rectangle.mono _ _ _)
   | (with_reducible exact spec_Staircase.mono _ _)
   | (with_reducible exact LeO.refl _)
   | (with_reducible exact LeO.none _)
   | (with_reducible refine LeO.ite ?_ ?_)
   | (with_reducible refine LeO.bind ?_ (fun _ => ?_))
   | exact ih0 _ _ _ _ _ _
   | exact ih1 _
   | exact ih2 _ _ _ _ _
   | exact ih3 _
   | exact ih4 _ _ _ _ _
   | exact ih5 _
   | exact ih6 _ _ _ _ _ _ _
   | exact ih7 _ _ _ _ _ _ _
   | exact ih8 _ _ _ _ _ _ _ _ _ _ _
   | exact ih9 _ _ _ _
   | exact ih10 _ _ _ _ _
   | exact impl_CountIdeals.mono _ _
   | exact impl_Fence.mono _ _
   | exact impl_HeightsOf.mono _ _
   | exact impl_IsRanked.mono _ _
   | exact impl_Rectangle.mono _ _ _
   | exact impl_Staircase.mono _ _
   | exact laws_nPoset.mono _ _ _
   | exact laws_nSame.mono _ _ _
   | exact spec_DrawFence.mono _ _
   | exact spec_DrawHeightsOf.mono _ _
   | exact spec_DrawRectangle.mono _ _
   | exact spec_DrawStaircase.mono _ _
   | exact spec_Fence.mono _ _
   | exact spec_HeightsOf.mono _ _
   | exact spec_IsRanked.mono _ _
   | exact spec_Rectangle.mono _ _ _
   | exact spec_Staircase.mono _ _
   | exact LeO.none _
   | refine LeO.ite ?_ ?_
   | refine LeO.bind ?_ (fun _ => ?_)
  ·intro y0
   unfold laws_FnKnownPosets.j4
   repeat' first
   | (with_reducible exact impl_CountIdeals.mono _ _)
   | (with_reducible exact impl_Fence.mono _ _)
   | (with_reducible exact impl_HeightsOf.mono _ _)
   | (with_reducible exact impl_IsRanked.mono _ _)
   | (with_reducible exact impl_Rectangle.mono _ _ _)
   | (with_reducible exact impl_Staircase.mono _ _)
   | (with_reducible exact laws_nPoset.mono _ _ _)
   | (with_reducible exact laws_nSame.mono _ _ _)
   | (with_reducible exact spec_DrawFence.mono _ _)
   | (with_reducible exact spec_DrawHeightsOf.mono _ _)
   | (with_reducible exact spec_DrawRectangle.mono _ _)
   | (with_reducible exact spec_DrawStaircase.mono _ _)
   | (with_reducible exact spec_Fence.mono _ _)
   | (with_reducible exact spec_HeightsOf.mono _ _)
   | (with_reducible exact spec_IsRanked.mono _ _)
   | (with_reducible exact spec_Rectangle.mono _ _ _)
   | (with_reducible exact spec_Staircase.mono _ _)
   | (with_reducible exact LeO.refl _)
   | (with_reducible exact LeO.none _)
   | (with_reducible refine LeO.ite ?_ ?_)
   | (with_reducible refine LeO.bind ?_ (fun _ => ?_))
   | exact ih0 _ _ _ _ _ _
   | exact ih1 _
   | exact ih2 _ _ _ _ _
   | exact ih3 _
   | exact ih4 _ _ _ _ _
   | exact ih5 _
   | exact ih6 _ _ _ _ _ _ _
   | exact ih7 _ _ _ _ _ _ _
   | exact ih8 _ _ _ _ _ _ _ _ _ _ _
   | exact ih9 _ _ _ _
   | exact ih10 _ _ _ _ _
   | exact impl_CountIdeals.mono _ _
   | exact impl_Fence.mono _ _
   | exact impl_HeightsOf.mono _ _
   | exact impl_IsRanked.mono _ _
   | exact impl_Rectangle.mono _ _ _
   | exact impl_Staircase.mono _ _
   | exact laws_nPoset.mono _ _ _
   | exact laws_nSame.mono _ _ _
   | exact spec_DrawFence.mono _ _
   | exact spec_DrawHeightsOf.mono _ _
   | exact spec_DrawRectangle.mono _ _
   | exact spec_DrawStaircase.mono _ _
   | exact spec_Fence.mono _ _
   | exact spec_HeightsOf.mono _ _
   | exact spec_IsRanked.mono _ _
   | exact spec_Rectangle.mono _ _ _
   | exact spec_Staircase.mono _ _
   | exact LeO.none _
   | refine LeO.ite ?_ ?_
   | refine LeO.bind ?_ (fun _ => ?_)
  ·intro y0 y1 y2 y3 y4
   unfold laws_FnKnownPosets.j5
   repeat' first
   | (with_reducible exact impl_CountIdeals.mono _ _)
   | (with_reducible exact impl_Fence.mono _ _)
   | (with_reducible exact impl_HeightsOf.mono _ _)
   | (with_reducible exact impl_IsRanked.mono _ _)
   | (with_reducible exact impl_Rectangle.mono _ _ _)
   | (with_reducible exact impl_Staircase.mono _ _)
   | (with_reducible exact laws_nPoset.mono _ _ _)
   | (with_reducible exact laws_nSame.mono _ _ _)
   | (with_reducible exact spec_DrawFence.mono _ _)
   | (with_reducible exact spec_DrawHeightsOf.mono _ _)
   | (with_reducible exact spec_DrawRectangle.mono _ _)
   | (with_reducible exact spec_DrawStaircase.mono _ _)
   | (with_reducible exact spec_Fence.mono _ _)
   | (with_reducible exact spec_HeightsOf.mono _ _)
   | (with_reducible exact spec_IsRanked.mono _ _)
   | (with_reducible exact spec_Rectangle.mono _ _ _)
   | (with_reducible exact spec_Staircase.mono _ _)
   | (with_reducible exact LeO.refl _)
   | (with_reducible exact LeO.none _)
   | (with_reducible refine LeO.ite ?_ ?_)
   | (with_reducible refine LeO.bind ?_ (fun _ => ?_))
   | exact ih0 _ _ _ _ _ _
   | exact ih1 _
   | exact ih2 _ _ _ _ _
   | exact ih3 _
   | exact ih4 _ _ _ _ _
   | exact ih5 _
   | exact ih6 _ _ _ _ _ _ _
   | exact ih7 _ _ _ _ _ _ _
   | exact ih8 _ _ _ _ _ _ _ _ _ _ _
   | exact ih9 _ _ _ _
   | exact ih10 _ _ _ _ _
   | exact impl_CountIdeals.mono _ _
   | exact impl_Fence.mono _ _
   | exact impl_HeightsOf.mono _ _
   | exact impl_IsRanked.mono _ _
   | exact impl_Rectangle.mono _ _ _
   | exact impl_Staircase.mono _ _
   | exact laws_nPoset.mono _ _ _
   | exact laws_nSame.mono _ _ _
   | exact spec_DrawFence.mono _ _
   | exact spec_DrawHeightsOf.mono _ _
   | exact spec_DrawRectangle.mono _ _
   | exact spec_DrawStaircase.mono _ _
   | exact spec_Fence.mono _ _
   | exact spec_HeightsOf.mono _ _
   | exact spec_IsRanked.mono _ _
   | exact spec_Rectangle.mono _ _ _
   | exact spec_Staircase.mono _ _
   | exact LeO.none _
   | refine LeO.ite ?_ ?_
   | refine LeO.bind ?_ (fun _ => ?_)
  ·intro y0
   unfold laws_FnKnownPosets.j7
   repeat' first
   | (with_reducible exact impl_CountIdeals.mono _ _)
   | (with_reducible exact impl_Fence.mono _ _)
   | (with_reducible exact impl_HeightsOf.mono _ _)
   | (with_reducible exact impl_IsRanked.mono _ _)
   | (with_reducible exact impl_Rectangle.mono _ _ _)
   | (with_reducible exact impl_Staircase.mono _ _)
   | (with_reducible exact laws_nPoset.mono _ _ _)
   | (with_reducible exact laws_nSame.mono _ _ _)
   | (with_reducible exact spec_DrawFence.mono _ _)
   | (with_reducible exact spec_DrawHeightsOf.mono _ _)
   | (with_reducible exact spec_DrawRectangle.mono _ _)
   | (with_reducible exact spec_DrawStaircase.mono _ _)
   | (with_reducible exact spec_Fence.mono _ _)
   | (with_reducible exact spec_HeightsOf.mono _ _)
   | (with_reducible exact spec_IsRanked.mono _ _)
   | (with_reducible exact spec_Rectangle.mono _ _ _)
   | (with_reducible exact spec_Staircase.mono _ _)
   | (with_reducible exact LeO.refl _)
   | (with_reducible exact LeO.none _)
   | (with_reducible refine LeO.ite ?_ ?_)
   | (with_reducible refine LeO.bind ?_ (fun _ => ?_))
   | exact ih0 _ _ _ _ _ _
   | exact ih1 _
   | exact ih2 _ _ _ _ _
   | exact ih3 _
   | exact ih4 _ _ _ _ _
   | exact ih5 _
   | exact ih6 _ _ _ _ _ _ _
   | exact ih7 _ _ _ _ _ _ _
   | exact ih8 _ _ _ _ _ _ _ _ _ _ _
   | exact ih9 _ _ _ _
   | exact ih10 _ _ _ _ _
   | exact impl_CountIdeals.mono _ _
   | exact impl_Fence.mono _ _
   | exact impl_HeightsOf.mono _ _
   | exact impl_IsRanked.mono _ _
   | exact impl_Rectangle.mono _ _ _
   | exact impl_Staircase.mono _ _
   | exact laws_nPoset.mono _ _ _
   | exact laws_nSame.mono _ _ _
   | exact spec_DrawFence.mono _ _
   | exact spec_DrawHeightsOf.mono _ _
   | exact spec_DrawRectangle.mono _ _
   | exact spec_DrawStaircase.mono _ _
   | exact spec_Fence.mono _ _
   | exact spec_HeightsOf.mono _ _
   | exact spec_IsRanked.mono _ _
   | exact spec_Rectangle.mono _ _ _
   | exact spec_Staircase.mono _ _
   | exact LeO.none _
   | refine LeO.ite ?_ ?_
   | refine LeO.bind ?_ (fun _ => ?_)
  ·intro y0 y1 y2 y3 y4
   unfold laws_FnKnownPosets.j8
   repeat' first
   | (with_reducible exact impl_CountIdeals.mono _ _)
   | (with_reducible exact impl_Fence.mono _ _)
   | (with_reducible exact impl_HeightsOf.mono _ _)
   | (with_reducible exact impl_IsRanked.mono _ _)
   | (with_reducible exact impl_Rectangle.mono _ _ _)
   | (with_reducible exact impl_Staircase.mono _ _)
   | (with_reducible exact laws_nPoset.mono _ _ _)
   | (with_reducible exact laws_nSame.mono _ _ _)
   | (with_reducible exact spec_DrawFence.mono _ _)
   | (with_reducible exact spec_DrawHeightsOf.mono _ _)
   | (with_reducible exact spec_DrawRectangle.mono _ _)
   | (with_reducible exact spec_DrawStaircase.mono _ _)
   | (with_reducible exact spec_Fence.mono _ _)
   | (with_reducible exact spec_HeightsOf.mono _ _)
   | (with_reducible exact spec_IsRanked.mono _ _)
   | (with_reducible exact spec_Rectangle.mono _ _ _)
   | (with_reducible exact spec_Staircase.mono _ _)
   | (with_reducible exact LeO.refl _)
   | (with_reducible exact LeO.none _)
   | (with_reducible refine LeO.ite ?_ ?_)
   | (with_reducible refine LeO.bind ?_ (fun _ => ?_))
   | exact ih0 _ _ _ _ _ _
   | exact ih1 _
   | exact ih2 _ _ _ _ _
   | exact ih3 _
   | exact ih4 _ _ _ _ _
   | exact ih5 _
   | exact ih6 _ _ _ _ _ _ _
   | exact ih7 _ _ _ _ _ _ _
   | exact ih8 _ _ _ _ _ _ _ _ _ _ _
   | exact ih9 _ _ _ _
   | exact ih10 _ _ _ _ _
   | exact impl_CountIdeals.mono _ _
   | exact impl_Fence.mono _ _
   | exact impl_HeightsOf.mono _ _
   | exact impl_IsRanked.mono _ _
   | exact impl_Rectangle.mono _ _ _
   | exact impl_Staircase.mono _ _
   | exact laws_nPoset.mono _ _ _
   | exact laws_nSame.mono _ _ _
   | exact spec_DrawFence.mono _ _
   | exact spec_DrawHeightsOf.mono _ _
   | exact spec_DrawRectangle.mono _ _
   | exact spec_DrawStaircase.mono _ _
   | exact spec_Fence.mono _ _
   | exact spec_HeightsOf.mono _ _
   | exact spec_IsRanked.mono _ _
   | exact spec_Rectangle.mono _ _ _
   | exact spec_Staircase.mono _ _
   | exact LeO.none _
   | refine LeO.ite ?_ ?_
   | refine LeO.bind ?_ (fun _ => ?_)
  ·intro y0
   unfold laws_FnKnownPosets.j10
   repeat' first
   | (with_reducible exact impl_CountIdeals.mono _ _)
   | (with_reducible exact impl_Fence.mono _ _)
   | (with_reducible exact impl_HeightsOf.mono _ _)
   | (with_reducible exact impl_IsRanked.mono _ _)
   | (with_reducible exact impl_Rectangle.mono _ _ _)
   | (with_reducible exact impl_Staircase.mono _ _)
   | (with_reducible exact laws_nPoset.mono _ _ _)
   | (with_reducible exact laws_nSame.mono _ _ _)
   | (with_reducible exact spec_DrawFence.mono _ _)
   | (with_reducible exact spec_DrawHeightsOf.mono _ _)
   | (with_reducible exact spec_DrawRectangle.mono _ _)
   | (with_reducible exact spec_DrawStaircase.mono _ _)
   | (with_reducible exact spec_Fence.mono _ _)
   | (with_reducible exact spec_HeightsOf.mono _ _)
   | (with_reducible exact spec_IsRanked.mono _ _)
   | (with_reducible exact spec_Rectangle.mono _ _ _)
   | (with_reducible exact spec_Staircase.mono _ _)
   | (with_reducible exact LeO.refl _)
   | (with_reducible exact LeO.none _)
   | (with_reducible refine LeO.ite ?_ ?_)
   | (with_reducible refine LeO.bind ?_ (fun _ => ?_))
   | exact ih0 _ _ _ _ _ _
   | exact ih1 _
   | exact ih2 _ _ _ _ _
   | exact ih3 _
   | exact ih4 _ _ _ _ _
   | exact ih5 _
   | exact ih6 _ _ _ _ _ _ _
   | exact ih7 _ _ _ _ _ _ _
   | exact ih8 _ _ _ _ _ _ _ _ _ _ _
   | exact ih9 _ _ _ _
   | exact ih10 _ _ _ _ _
   | exact impl_CountIdeals.mono _ _
   | exact impl_Fence.mono _ _
   | exact impl_HeightsOf.mono _ _
   | exact impl_IsRanked.mono _ _
   | exact impl_Rectangle.mono _ _ _
   | exact impl_Staircase.mono _ _
   | exact laws_nPoset.mono _ _ _
   | exact laws_nSame.mono _ _ _
   | exact spec_DrawFence.mono _ _
   | exact spec_DrawHeightsOf.mono _ _
   | exact spec_DrawRectangle.mono _ _
   | exact spec_DrawStaircase.mono _ _
   | exact spec_Fence.mono _ _
   | exact spec_HeightsOf.mono _ _
   | exact spec_IsRanked.mono _ _
   | exact spec_Rectangle.mono _ _ _
   | exact spec_Staircase.mono _ _
   | exact LeO.none _
   | refine LeO.ite ?_ ?_
   | refine LeO.bind ?_ (fun _ => ?_)
  ·intro y0 y1 y2 y3 y4 y5 y6
   unfold laws_FnKnownPosets.l3
   repeat' first
   | (with_reducible exact impl_CountIdeals.mono _ _)
   | (with_reducible exact impl_Fence.mono _ _)
   | (with_reducible exact impl_HeightsOf.mono _ _)
   | (with_reducible exact impl_IsRanked.mono _ _)
   | (with_reducible exact impl_Rectangle.mono _ _ _)
   | (with_reducible exact impl_Staircase.mono _ _)
   | (with_reducible exact laws_nPoset.mono _ _ _)
   | (with_reducible exact laws_nSame.mono _ _ _)
   | (with_reducible exact spec_DrawFence.mono _ _)
   | (with_reducible exact spec_DrawHeightsOf.mono _ _)
   | (with_reducible exact spec_DrawRectangle.mono _ _)
   | (with_reducible exact spec_DrawStaircase.mono _ _)
   | (with_reducible exact spec_Fence.mono _ _)
   | (with_reducible exact spec_HeightsOf.mono _ _)
   | (with_reducible exact spec_IsRanked.mono _ _)
   | (with_reducible exact spec_Rectangle.mono _ _ _)
   | (with_reducible exact spec_Staircase.mono _ _)
   | (with_reducible exact LeO.refl _)
   | (with_reducible exact LeO.none _)
   | (with_reducible refine LeO.ite ?_ ?_)
   | (with_reducible refine LeO.bind ?_ (fun _ => ?_))
   | exact ih0 _ _ _ _ _ _
   | exact ih1 _
   | exact ih2 _ _ _ _ _
   | exact ih3 _
   | exact ih4 _ _ _ _ _
   | exact ih5 _
   | exact ih6 _ _ _ _ _ _ _
   | exact ih7 _ _ _ _ _ _ _
   | exact ih8 _ _ _ _ _ _ _ _ _ _ _
   | exact ih9 _ _ _ _
   | exact ih10 _ _ _ _ _
   | exact impl_CountIdeals.mono _ _
   | exact impl_Fence.mono _ _
   | exact impl_HeightsOf.mono _ _
   | exact impl_IsRanked.mono _ _
   | exact impl_Rectangle.mono _ _ _
   | exact impl_Staircase.mono _ _
   | exact laws_nPoset.mono _ _ _
   | exact laws_nSame.mono _ _ _
   | exact spec_DrawFence.mono _ _
   | exact spec_DrawHeightsOf.mono _ _
   | exact spec_DrawRectangle.mono _ _
   | exact spec_DrawStaircase.mono _ _
   | exact spec_Fence.mono _ _
   | exact spec_HeightsOf.mono _ _
   | exact spec_IsRanked.mono _ _
   | exact spec_Rectangle.mono _ _ _
   | exact spec_Staircase.mono _ _
   | exact LeO.none _
   | refine LeO.ite ?_ ?_
   | refine LeO.bind ?_ (fun _ => ?_)
  ·intro y0 y1 y2 y3 y4 y5 y6
   unfold laws_FnKnownPosets.l2
   repeat' first
   | (with_reducible exact impl_CountIdeals.mono _ _)
   | (with_reducible exact impl_Fence.mono _ _)
   | (with_reducible exact impl_HeightsOf.mono _ _)
   | (with_reducible exact impl_IsRanked.mono _ _)
   | (with_reducible exact impl_Rectangle.mono _ _ _)
   | (with_reducible exact impl_Staircase.mono _ _)
   | (with_reducible exact laws_nPoset.mono _ _ _)
   | (with_reducible exact laws_nSame.mono _ _ _)
   | (with_reducible exact spec_DrawFence.mono _ _)
   | (with_reducible exact spec_DrawHeightsOf.mono _ _)
   | (with_reducible exact spec_DrawRectangle.mono _ _)
   | (with_reducible exact spec_DrawStaircase.mono _ _)
   | (with_reducible exact spec_Fence.mono _ _)
   | (with_reducible exact spec_HeightsOf.mono _ _)
   | (with_reducible exact spec_IsRanked.mono _ _)
   | (with_reducible exact spec_Rectangle.mono _ _ _)
   | (with_reducible exact spec_Staircase.mono _ _)
   | (with_reducible exact LeO.refl _)
   | (with_reducible exact LeO.none _)
   | (with_reducible refine LeO.ite ?_ ?_)
   | (with_reducible refine LeO.bind ?_ (fun _ => ?_))
   | exact ih0 _ _ _ _ _ _
   | exact ih1 _
   | exact ih2 _ _ _ _ _
   | exact ih3 _
   | exact ih4 _ _ _ _ _
   | exact ih5 _
   | exact ih6 _ _ _ _ _ _ _
   | exact ih7 _ _ _ _ _ _ _
   | exact ih8 _ _ _ _ _ _ _ _ _ _ _
   | exact ih9 _ _ _ _
   | exact ih10 _ _ _ _ _
   | exact impl_CountIdeals.mono _ _
   | exact impl_Fence.mono _ _
   | exact impl_HeightsOf.mono _ _
   | exact impl_IsRanked.mono _ _
   | exact impl_Rectangle.mono _ _ _
   | exact impl_Staircase.mono _ _
   | exact laws_nPoset.mono _ _ _
   | exact laws_nSame.mono _ _ _
   | exact spec_DrawFence.mono _ _
   | exact spec_DrawHeightsOf.mono _ _
   | exact spec_DrawRectangle.mono _ _
   | exact spec_DrawStaircase.mono _ _
   | exact spec_Fence.mono _ _
   | exact spec_HeightsOf.mono _ _
   | exact spec_IsRanked.mono _ _
   | exact spec_Rectangle.mono _ _ _
   | exact spec_Staircase.mono _ _
   | exact LeO.none _
   | refine LeO.ite ?_ ?_
   | refine LeO.bind ?_ (fun _ => ?_)
  ·intro y0 y1 y2 y3 y4 y5 y6 y7 y8 y9 y10
   unfold laws_FnKnownPosets.l0
   repeat' first
   | (with_reducible exact impl_CountIdeals.mono _ _)
   | (with_reducible exact impl_Fence.mono _ _)
   | (with_reducible exact impl_HeightsOf.mono _ _)
   | (with_reducible exact impl_IsRanked.mono _ _)
   | (with_reducible exact impl_Rectangle.mono _ _ _)
   | (with_reducible exact impl_Staircase.mono _ _)
   | (with_reducible exact laws_nPoset.mono _ _ _)
   | (with_reducible exact laws_nSame.mono _ _ _)
   | (with_reducible exact spec_DrawFence.mono _ _)
   | (with_reducible exact spec_DrawHeightsOf.mono _ _)
   | (with_reducible exact spec_DrawRectangle.mono _ _)
   | (with_reducible exact spec_DrawStaircase.mono _ _)
   | (with_reducible exact spec_Fence.mono _ _)
   | (with_reducible exact spec_HeightsOf.mono _ _)
   | (with_reducible exact spec_IsRanked.mono _ _)
   | (with_reducible exact spec_Rectangle.mono _ _ _)
   | (with_reducible exact spec_Staircase.mono _ _)
   | (with_reducible exact LeO.refl _)
   | (with_reducible exact LeO.none _)
   | (with_reducible refine LeO.ite ?_ ?_)
   | (with_reducible refine LeO.bind ?_ (fun _ => ?_))
   | exact ih0 _ _ _ _ _ _
   | exact ih1 _
   | exact ih2 _ _ _ _ _
   | exact ih3 _
   | exact ih4 _ _ _ _ _
   | exact ih5 _
   | exact ih6 _ _ _ _ _ _ _
   | exact ih7 _ _ _ _ _ _ _
   | exact ih8 _ _ _ _ _ _ _ _ _ _ _
   | exact ih9 _ _ _ _
   | exact ih10 _ _ _ _ _
   | exact impl_CountIdeals.mono _ _
   | exact impl_Fence.mono _ _
   | exact impl_HeightsOf.mono _ _
   | exact impl_IsRanked.mono _ _
   | exact impl_Rectangle.mono _ _ _
   | exact impl_Staircase.mono _ _
   | exact laws_nPoset.mono _ _ _
   | exact laws_nSame.mono _ _ _
   | exact spec_DrawFence.mono _ _
   | exact spec_DrawHeightsOf.mono _ _
   | exact spec_DrawRectangle.mono _ _
   | exact spec_DrawStaircase.mono _ _
   | exact spec_Fence.mono _ _
   | exact spec_HeightsOf.mono _ _
   | exact spec_IsRanked.mono _ _
   | exact spec_Rectangle.mono _ _ _
   | exact spec_Staircase.mono _ _
   | exact LeO.none _
   | refine LeO.ite ?_ ?_
   | refine LeO.bind ?_ (fun _ => ?_)
  ·intro y0 y1 y2 y3
   unfold laws_FnKnownPosets.j2
   repeat' first
   | (with_reducible exact impl_CountIdeals.mono _ _)
   | (with_reducible exact impl_Fence.mono _ _)
   | (with_reducible exact impl_HeightsOf.mono _ _)
   | (with_reducible exact impl_IsRanked.mono _ _)
   | (with_reducible exact impl_Rectangle.mono _ _ _)
   | (with_reducible exact impl_Staircase.mono _ _)
   | (with_reducible exact laws_nPoset.mono _ _ _)
   | (with_reducible exact laws_nSame.mono _ _ _)
   | (with_reducible exact spec_DrawFence.mono _ _)
   | (with_reducible exact spec_DrawHeightsOf.mono _ _)
   | (with_reducible exact spec_DrawRectangle.mono _ _)
   | (with_reducible exact spec_DrawStaircase.mono _ _)
   | (with_reducible exact spec_Fence.mono _ _)
   | (with_reducible exact spec_HeightsOf.mono _ _)
   | (with_reducible exact spec_IsRanked.mono _ _)
   | (with_reducible exact spec_Rectangle.mono _ _ _)
   | (with_reducible exact spec_Staircase.mono _ _)
   | (with_reducible exact LeO.refl _)
   | (with_reducible exact LeO.none _)
   | (with_reducible refine LeO.ite ?_ ?_)
   | (with_reducible refine LeO.bind ?_ (fun _ => ?_))
   | exact ih0 _ _ _ _ _ _
   | exact ih1 _
   | exact ih2 _ _ _ _ _
   | exact ih3 _
   | exact ih4 _ _ _ _ _
   | exact ih5 _
   | exact ih6 _ _ _ _ _ _ _
   | exact ih7 _ _ _ _ _ _ _
   | exact ih8 _ _ _ _ _ _ _ _ _ _ _
   | exact ih9 _ _ _ _
   | exact ih10 _ _ _ _ _
   | exact impl_CountIdeals.mono _ _
   | exact impl_Fence.mono _ _
   | exact impl_HeightsOf.mono _ _
   | exact impl_IsRanked.mono _ _
   | exact impl_Rectangle.mono _ _ _
   | exact impl_Staircase.mono _ _
   | exact laws_nPoset.mono _ _ _
   | exact laws_nSame.mono _ _ _
   | exact spec_DrawFence.mono _ _
   | exact spec_DrawHeightsOf.mono _ _
   | exact spec_DrawRectangle.mono _ _
   | exact spec_DrawStaircase.mono _ _
   | exact spec_Fence.mono _ _
   | exact spec_HeightsOf.mono _ _
   | exact spec_IsRanked.mono _ _
   | exact spec_Rectangle.mono _ _ _
   | exact spec_Staircase.mono _ _
   | exact LeO.none _
   | refine LeO.ite ?_ ?_
   | refine LeO.bind ?_ (fun _ => ?_)
  ·intro y0 y1 y2 y3 y4
   unfold laws_FnKnownPosets.l1
   repeat' first
   | (with_reducible exact impl_CountIdeals.mono _ _)
   | (with_reducible exact impl_Fence.mono _ _)
   | (with_reducible exact impl_HeightsOf.mono _ _)
   | (with_reducible exact impl_IsRanked.mono _ _)
   | (with_reducible exact impl_Rectangle.mono _ _ _)
   | (with_reducible exact impl_Staircase.mono _ _)
   | (with_reducible exact laws_nPoset.mono _ _ _)
   | (with_reducible exact laws_nSame.mono _ _ _)
   | (with_reducible exact spec_DrawFence.mono _ _)
   | (with_reducible exact spec_DrawHeightsOf.mono _ _)
   | (with_reducible exact spec_DrawRectangle.mono _ _)
   | (with_reducible exact spec_DrawStaircase.mono _ _)
   | (with_reducible exact spec_Fence.mono _ _)
   | (with_reducible exact spec_HeightsOf.mono _ _)
   | (with_reducible exact spec_IsRanked.mono _ _)
   | (with_reducible exact spec_Rectangle.mono _ _ _)
   | (with_reducible exact spec_Staircase.mono _ _)
   | (with_reducible exact LeO.refl _)
   | (with_reducible exact LeO.none _)
   | (with_reducible refine LeO.ite ?_ ?_)
   | (with_reducible refine LeO.bind ?_ (fun _ => ?_))
   | exact ih0 _ _ _ _ _ _
   | exact ih1 _
   | exact ih2 _ _ _ _ _
   | exact ih3 _
   | exact ih4 _ _ _ _ _
   | exact ih5 _
   | exact ih6 _ _ _ _ _ _ _
   | exact ih7 _ _ _ _ _ _ _
   | exact ih8 _ _ _ _ _ _ _ _ _ _ _
   | exact ih9 _ _ _ _
   | exact ih10 _ _ _ _ _
   | exact impl_CountIdeals.mono _ _
   | exact impl_Fence.mono _ _
   | exact impl_HeightsOf.mono _ _
   | exact impl_IsRanked.mono _ _
   | exact impl_Rectangle.mono _ _ _
   | exact impl_Staircase.mono _ _
   | exact laws_nPoset.mono _ _ _
   | exact laws_nSame.mono _ _ _
   | exact spec_DrawFence.mono _ _
   | exact spec_DrawHeightsOf.mono _ _
   | exact spec_DrawRectangle.mono _ _
   | exact spec_DrawStaircase.mono _ _
   | exact spec_Fence.mono _ _
   | exact spec_HeightsOf.mono _ _
   | exact spec_IsRanked.mono _ _
   | exact spec_Rectangle.mono _ _ _
   | exact spec_Staircase.mono _ _
   | exact LeO.none _
   | refine LeO.ite ?_ ?_
   | refine LeO.bind ?_ (fun _ => ?_)
theorem laws_FnKnownPosets.mono : ∀ a0 a1 k, LeO (laws_FnKnownPosets.f k a0 a1) (laws_FnKnownPosets.f (k + 1) a0 a1) := by
 intro a0 a1 k
 obtain ⟨ih0, ih1, ih2, ih3, ih4, ih5, ih6, ih7, ih8, ih9, ih10⟩ := laws_FnKnownPosets.mono_l k
 unfold laws_FnKnownPosets.f
 repeat' first
  | (with_reducible exact impl_CountIdeals.mono _ _)
  | (with_reducible exact impl_Fence.mono _ _)
  | (with_reducible exact impl_HeightsOf.mono _ _)
  | (with_reducible exact impl_IsRanked.mono _ _)
  | (with_reducible exact impl_Rectangle.mono _ _ _)
  | (with_reducible exact impl_Staircase.mono _ _)
  | (with_reducible exact laws_nPoset.mono _ _ _)
  | (with_reducible exact laws_nSame.mono _ _ _)
  | (with_reducible exact spec_DrawFence.mono _ _)
  | (with_reducible exact spec_DrawHeightsOf.mono _ _)
  | (with_reducible exact spec_DrawRectangle.mono _ _)
  | (with_reducible exact spec_DrawStaircase.mono _ _)
  | (with_reducible exact spec_Fence.mono _ _)
  | (with_reducible exact spec_HeightsOf.mono _ _)
  | (with_reducible exact spec_IsRanked.mono _ _)
  | (with_reducible exact spec_Rectangle.mono _ _ _)
  | (with_reducible exact spec_Staircase.mono _ _)
  | (with_reducible exact LeO.refl _)
  | (with_reducible exact LeO.none _)
  | (with_reducible refine LeO.ite ?_ ?_)
  | (with_reducible refine LeO.bind ?_ (fun _ => ?_))
  | exact ih0 _ _ _ _ _ _
  | exact ih1 _
  | exact ih2 _ _ _ _ _
  | exact ih3 _
  | exact ih4 _ _ _ _ _
  | exact ih5 _
  | exact ih6 _ _ _ _ _ _ _
  | exact ih7 _ _ _ _ _ _ _
  | exact ih8 _ _ _ _ _ _ _ _ _ _ _
  | exact ih9 _ _ _ _
  | exact ih10 _ _ _ _ _
  | exact impl_CountIdeals.mono _ _
  | exact impl_Fence.mono _ _
  | exact impl_HeightsOf.mono _ _
  | exact impl_IsRanked.mono _ _
  | exact impl_Rectangle.mono _ _ _
  | exact impl_Staircase.mono _ _
  | exact laws_nPoset.mono _ _ _
  | exact laws_nSame.mono _ _ _
  | exact spec_DrawFence.mono _ _
  | exact spec_DrawHeightsOf.mono _ _
  | exact spec_DrawRectangle.mono _ _
  | exact spec_DrawStaircase.mono _ _
  | exact spec_Fence.mono _ _
  | exact spec_HeightsOf.mono _ _
  | exact spec_IsRanked.mono _ _
  | exact spec_Rectangle.mono _ _ _
  | exact spec_Staircase.mono _ _
  | exact LeO.none _
  | refine LeO.ite ?_ ?_
  | refine LeO.bind ?_ (fun _ => ?_)
theorem laws_FnKnownPosets.j0_no : ∀ y0 y1 y2 y3 y4 y5, laws_FnKnownPosets.j0 y0 y1 y2 y3 y4 true y5 ≠ some true
 | 0, _, _, _, _, _ => by simp [laws_FnKnownPosets.j0]
 | _ + 1, _, _, _, _, _ => by simp [laws_FnKnownPosets.j0]
theorem laws_FnKnownPosets.j5_no : ∀ y0 y1 y2 y3 y4, laws_FnKnownPosets.j5 y0 y1 y2 y3 true y4 ≠ some true
 | 0, _, _, _, _ => by simp [laws_FnKnownPosets.j5]
 | _ + 1, _, _, _, _ => by simp [laws_FnKnownPosets.j5]
theorem laws_FnKnownPosets.j8_no : ∀ y0 y1 y2 y3 y4, laws_FnKnownPosets.j8 y0 y1 y2 y3 true y4 ≠ some true
 | 0, _, _, _, _ => by simp [laws_FnKnownPosets.j8]
 | _ + 1, _, _, _, _ => by simp [laws_FnKnownPosets.j8]
theorem laws_FnKnownPosets.j2_no : ∀ y0 y1 y2 y3, laws_FnKnownPosets.j2 y0 y1 y2 y3 true ≠ some true
 | 0, _, _, _ => by simp [laws_FnKnownPosets.j2]
 | _ + 1, _, _, _ => by simp [laws_FnKnownPosets.j2]
set_option maxHeartbeats 8000000 in
set_option maxRecDepth 100000 in
theorem laws_FnKnownPosets.calls (k : Nat) (A0 : Option Addr) (c0 : Nat) (l0 : List Int) (A1 : Option Addr) (c1 : Nat) (l1 : List Int) (r : Bool) (w : World) (hr0 : Kd.C (Kd.int .u8) w A0 l0.length l0) (hc0 : l0.length ≤ c0) (hr1 : Kd.C (Kd.int .u8) w A1 l1.length l1) (hc1 : l1.length ≤ c1) (h : laws_FnKnownPosets.f k l0 l1 = some r) (hrt : Aside0 (r = true) := by exact ⟨rfl⟩) :
 Calls Try.prog 3 #[.slice A0 l0.length c0, .slice A1 l1.length c1] w fun e w' => e = .returned (.bool r) ∧ Below w.heap.size w w' := by
 have hu28 := Try.underlying28
 have HR0 := am hr0
 have HC0 := am hc0
 clear hr0 hc0
 have HR1 := am hr1
 have HC1 := am hc1
 clear hr1 hc1
 have HB := am (Below.refl w.heap.size w)
 have H : ((laws_big.f l0 l1).bind fun t415 => (if t415 = true then (some true) else ((spec_DrawRectangle.f k l0).bind fun bt416 => ((impl_Rectangle.f k bt416.1 bt416.2).bind fun bt418 => ((spec_Rectangle.f k bt416.1 bt416.2).bind fun bt423 => (if (bt418.2 != bt423.2) = true then (laws_FnKnownPosets.j0 k l1 bt416.1 bt416.2 bt418.2 true bt418.1) else ((laws_nPoset.f k bt418.1 bt423.1).bind fun t428 => (laws_FnKnownPosets.j0 k l1 bt416.1 bt416.2 bt418.2 (!t428) bt418.1)))))))) = some r := h
 clear h
 replace H := Option.bind_eq_some_iff.mp H
 obtain ⟨t415, A30, H⟩ := H
 replace H : (if t415 = true then (some true) else ((spec_DrawRectangle.f k l0).bind fun bt416 => ((impl_Rectangle.f k bt416.1 bt416.2).bind fun bt418 => ((spec_Rectangle.f k bt416.1 bt416.2).bind fun bt423 => (if (bt418.2 != bt423.2) = true then (laws_FnKnownPosets.j0 k l1 bt416.1 bt416.2 bt418.2 true bt418.1) else ((laws_nPoset.f k bt418.1 bt423.1).bind fun t428 => (laws_FnKnownPosets.j0 k l1 bt416.1 bt416.2 bt418.2 (!t428) bt418.1))))))) = some r := H
 have A3 := am A30
 clear A30
 by_cases c4 : t415 = true
 ·subst c4
  have H1 : (some true) = some r := by rw [if_pos rfl] at H; exact H
  clear H
  have H := H1
  clear H1
  obtain rfl := Option.some.inj H
  go_enter Try.func3, Try.ntmps3
  go_wp2_with ((go_at_call 7; (with_reducible refine (laws_big.calls _ _ l0 _ _ l1 true _ ?side1 ?side2 ?side3 ?side4 A3.out).mono ?_); (case side1 => exact qC HR0.out); (case side2 => exact HC0.out); (case side3 => exact qC HR1.out); (case side4 => exact HC1.out); rintro e w' ⟨rfl, ⟨nd, rfl⟩⟩; (try first | exact ⟨rfl, _, World.drewN_drewN _ _ _⟩ | exact ⟨rfl, _, Eq.trans (World.drewN_drewN _ _ _) (congrArg (World.drewN _) (Nat.add_assoc _ _ _))⟩)))
  skip
  go_ret
  exact ⟨qr, qB⟩
 ·as_aux_lemma =>
    replace c4 := Bool.eq_false_iff.mpr c4
    subst c4
    have H1 : ((spec_DrawRectangle.f k l0).bind fun bt416 => ((impl_Rectangle.f k bt416.1 bt416.2).bind fun bt418 => ((spec_Rectangle.f k bt416.1 bt416.2).bind fun bt423 => (if (bt418.2 != bt423.2) = true then (laws_FnKnownPosets.j0 k l1 bt416.1 bt416.2 bt418.2 true bt418.1) else ((laws_nPoset.f k bt418.1 bt423.1).bind fun t428 => (laws_FnKnownPosets.j0 k l1 bt416.1 bt416.2 bt418.2 (!t428) bt418.1)))))) = some r := by rw [if_neg (show ¬ (false = true) by decide)] at H; exact H
    clear H
    have H := H1
    clear H1
    replace H := Option.bind_eq_some_iff.mp H
    obtain ⟨⟨t416, t417⟩, A50, H⟩ := H
    replace H : ((impl_Rectangle.f k t416 t417).bind fun bt418 => ((spec_Rectangle.f k t416 t417).bind fun bt423 => (if (bt418.2 != bt423.2) = true then (laws_FnKnownPosets.j0 k l1 t416 t417 bt418.2 true bt418.1) else ((laws_nPoset.f k bt418.1 bt423.1).bind fun t428 => (laws_FnKnownPosets.j0 k l1 t416 t417 bt418.2 (!t428) bt418.1))))) = some r := H
    have A5 := am A50
    clear A50
    replace H := Option.bind_eq_some_iff.mp H
    obtain ⟨⟨t418, t421⟩, A60, H⟩ := H
    replace H : ((spec_Rectangle.f k t416 t417).bind fun bt423 => (if (t421 != bt423.2) = true then (laws_FnKnownPosets.j0 k l1 t416 t417 t421 true t418) else ((laws_nPoset.f k t418 bt423.1).bind fun t428 => (laws_FnKnownPosets.j0 k l1 t416 t417 t421 (!t428) t418)))) = some r := H
    have A6 := am A60
    clear A60
    replace H := Option.bind_eq_some_iff.mp H
    obtain ⟨⟨t423, t426⟩, A70, H⟩ := H
    replace H : (if (t421 != t426) = true then (laws_FnKnownPosets.j0 k l1 t416 t417 t421 true t418) else ((laws_nPoset.f k t418 t423).bind fun t428 => (laws_FnKnownPosets.j0 k l1 t416 t417 t421 (!t428) t418))) = some r := H
    have A7 := am A70
    clear A70
    have HC8 := am H
    clear H
    go_enter Try.func3, Try.ntmps3
    go_upto_region 6 with (first | (go_at_call 7; (with_reducible refine (laws_big.calls _ _ l0 _ _ l1 false _ ?side1 ?side2 ?side3 ?side4 A3.out).mono ?_); (case side1 => exact qC HR0.out); (case side2 => exact HC0.out); (case side3 => exact qC HR1.out); (case side4 => exact HC1.out); rintro e w' ⟨rfl, ⟨nd, rfl⟩⟩; (try first | exact ⟨rfl, _, World.drewN_drewN _ _ _⟩ | exact ⟨rfl, _, Eq.trans (World.drewN_drewN _ _ _) (congrArg (World.drewN _) (Nat.add_assoc _ _ _))⟩)) | (go_at_call 8; (with_reducible refine (spec_DrawRectangle.calls k _ _ l0 t416 t417 _ ?side1 ?side2 A5.out).mono ?_); (case side1 => exact qC HR0.out); (case side2 => exact HC0.out); rintro e w9 ⟨rfl, hb⟩; replace HB := am (below_step qB hb); (try clear hb); (try clear hb2); (try clear hk); (try clear hi)) | (go_at_call 9; (with_reducible refine (impl_Rectangle.calls k t416 t417 t418 t421 _ A6.out).mono ?_); rintro e w10 ⟨v419, rfl, ho0, hb⟩; have HO420 := am (Kd.R_lower ho0 (below_size qB)); replace HB := am (below_step qB hb); (try clear hb); (try clear hb2); (try clear hk); (try clear hi); (try clear ho0)) | ((with_reducible refine gate_dst (N := 7) rfl ?_); refine qx (N := 7) (cs := #[.slice none 0 0]) (t := 28) ?_; intro gb422 hg w11 hbox hb; replace HO420 := am (Kd.R_below (qR HO420.out) hb); have n1_ := am (below_step qB hb); have BK422 := am (hbox); have GW422 := am (qg w hg); have GE422 := am (qg w hg); clear HB; have HB := n1_; clear n1_; clear hb hbox hg; obtain ⟨Ao12, co12, eo12⟩ := Kd.R_slice HO420.out; subst eo12; have hcz13_0 := qz w11 BK422.out; have hfz13_0 := blk_frozen BK422.out 0) | (go_at_call 10; (with_reducible refine (spec_Rectangle.calls k t416 t417 t423 t426 _ A7.out).mono ?_); rintro e w14 ⟨v424, rfl, ho0, hb⟩; have n0_ := am (Kd.R_elder' (qR ((Kd.R_mono (Kd.R_far (p := ⟨gb422, 0, none⟩) (Kd.R_types HO420.out BK422.out (by decide)) (fun _ hk => hk.2) (.slice Ao12 t418.length co12)) (fun _ h_ => h_.1)))) (Kd.R_base ho0) hb); have HO425 := am (Kd.R_lower (Kd.R_new' ho0 (Kd.R_lt (qR ((Kd.R_mono (Kd.R_far (p := ⟨gb422, 0, none⟩) (Kd.R_types HO420.out BK422.out (by decide)) (fun _ hk => hk.2) (.slice Ao12 t418.length co12)) (fun _ h_ => h_.1)))))) (below_size qB)); replace BK422 := am (blk_below (g := gb422) (o := .cells #[.slice Ao12 t418.length co12] 28 (0, 0)) (by (with_reducible repeat (first | refine blk_drewN ?_ _ | refine blk_drew ?_ | refine blk_alloc ?_ _)); refine blk_put (cs := #[.slice none 0 0]) ?_ 0 _ rfl; refine qb ?_; exact BK422.out) hb); replace HB := am (below_step qB hb); clear HO420; have HO420 := n0_; clear n0_; (try clear hb); (try clear hb2); (try clear hk); (try clear hi); (try clear ho0)) | ((with_reducible refine gate_dst (N := 9) rfl ?_); refine qx (N := 9) (cs := #[.slice none 0 0]) (t := 28) ?_; intro gb427 hg w15 hbox hb; replace HO420 := am (Kd.R_below (qR HO420.out) hb); replace HO425 := am (Kd.R_below (qR HO425.out) hb); have n2_ := am (blk_below (g := gb422) (o := .cells #[.slice Ao12 t418.length co12] 28 (0, 0)) (qb BK422.out) hb); have n3_ := am (below_step qB hb); have BK427 := am (hbox); have GW427 := am (qg w hg); have GE427 := am (qg w hg); have NB422_427 := am ((by rw [hg]; exact Nat.ne_of_lt (blk_lt (g := gb422) (o := .cells #[.slice Ao12 t418.length co12] 28 (0, 0)) (qb BK422.out)) : gb422 ≠ gb427)); have NB427_422 := am ((by rw [hg]; exact Nat.ne_of_gt (blk_lt (g := gb422) (o := .cells #[.slice Ao12 t418.length co12] 28 (0, 0)) (qb BK422.out)) : gb427 ≠ gb422)); clear BK422 HB; have BK422 := n2_; have HB := n3_; clear n2_ n3_; clear hb hbox hg; obtain ⟨Ao16, co16, eo16⟩ := Kd.R_slice HO425.out; subst eo16; have hnb17 := NB427_422.out; have hnc17 := NB422_427.out; have hcz18_0 := qz w15 BK427.out; have hfz18_0 := blk_frozen BK427.out 0))
    skip
    (try simp only [Act.put, List.setIfInBounds_toArray, List.set_cons_zero, List.set_cons_succ])
    go_cut [78] (fun v78 wc => ∃ (kq : Nat) (x78_7 : Bool), v78 = .bool x78_7 ∧ Aside0 (laws_FnKnownPosets.j0 kq l1 t416 t417 t421 x78_7 t418 = some r) ∧ Aside0 (kq ≤ k) ∧ Aside0 (Kd.R (Kd.int .i64) 3 wc w.heap.size (fun k_ => some k_ ≠ ((.slice Ao16 t423.length co16) : Value).ownBlock) (.slice Ao12 t418.length co12) t418) ∧ Aside0 (Kd.R (Kd.int .i64) 3 wc w.heap.size (fun k_ => some k_ ≠ ((.slice Ao12 t418.length co12) : Value).ownBlock) (.slice Ao16 t423.length co16) t423) ∧ Aside0 (wc.heap[gb422]? = some (.cells #[(.slice Ao12 t418.length co12)] 28 (0, 0))) ∧ Aside0 (wc.heap[gb427]? = some (.cells #[(.slice Ao16 t423.length co16)] 28 (0, 0))) ∧ Aside0 (Below w.heap.size w wc))
    case first =>
     have H := HC8.out
     clear HC8
     by_cases c19 : (t421 != t426) = true
     ·as_aux_lemma =>
        rw [if_pos c19] at H
        exact absurd (hrt.out ▸ H) (laws_FnKnownPosets.j0_no _ _ _ _ _ _)
     ·as_aux_lemma =>
        rw [if_neg c19] at H
        have c19b0 : (t421 != t426) = false := by simpa using c19
        (try (have c19b1 : decide (t421 = t426) = true := by simpa using c19))
        (try (have c19b2 : (t421 == t426) = true := by simpa using c19))
        clear c19
        (first | rw [c19b0] | (simp only [i64_w, i32_w]; rw [c19b0]) | skip)
        replace H := Option.bind_eq_some_iff.mp H
        obtain ⟨t428, A200, H⟩ := H
        replace H : (laws_FnKnownPosets.j0 k l1 t416 t417 t421 (!t428) t418) = some r := H
        have A20 := am A200
        clear A200
        have H' := am H
        clear H
        have hnb21 := NB422_427.out
        have hnc21 := NB427_422.out
        have hcz22_0 := qz w15 BK422.out
        have hfz22_0 := blk_frozen BK422.out 0
        have hcz23_0 := qz w15 BK427.out
        have hfz23_0 := blk_frozen BK427.out 0
        go_wp2_with ((go_at_call 11; (with_reducible refine (laws_nPoset.calls k _ _ t418 _ _ t423 t428 _ ?side1 ?side2 ?side3 ?side4 A20.out).mono ?_); (case side1 => refine (Kd.R_reads' (e := 3) (base := w.heap.size) (ok := fun k_ => (True ∧ some k_ ≠ (.slice Ao16 t423.length co16 : Value).ownBlock)) (n := t418.length) (c := co12) ?_).2.2; exact (qR ((Kd.R_mono (Kd.R_far (p := ⟨gb427, 0, none⟩) (Kd.R_types HO420.out BK427.out (by decide)) (fun _ hk => hk.2) (.slice Ao16 t423.length co16)) (fun _ h_ => h_.1))))); (case side2 => exact (Kd.R_reads' HO420.out).2.1); (case side3 => refine (Kd.R_reads' (e := 3) (base := w.heap.size) (ok := fun k_ => (True ∧ some k_ ≠ (.slice Ao12 t418.length co12 : Value).ownBlock)) (n := t423.length) (c := co16) ?_).2.2; exact (qR ((Kd.R_mono (Kd.R_far (p := ⟨gb427, 0, none⟩) (Kd.R_types HO425.out BK427.out (by decide)) (fun _ hk => hk.2) (.slice Ao16 t423.length co16)) (fun _ h_ => h_.1))))); (case side4 => exact (Kd.R_reads' HO425.out).2.1); rintro e w24 ⟨rfl, hb⟩; replace HO420 := am (Kd.R_below (qR ((Kd.R_mono (Kd.R_far (p := ⟨gb427, 0, none⟩) (Kd.R_types HO420.out BK427.out (by decide)) (fun _ hk => hk.2) (.slice Ao16 t423.length co16)) (fun _ h_ => h_.1)))) hb); replace HO425 := am (Kd.R_below (qR ((Kd.R_mono (Kd.R_far (p := ⟨gb427, 0, none⟩) (Kd.R_types HO425.out BK427.out (by decide)) (fun _ hk => hk.2) (.slice Ao16 t423.length co16)) (fun _ h_ => h_.1)))) hb); replace BK422 := am (blk_below (g := gb422) (o := .cells #[.slice Ao12 t418.length co12] 28 (0, 0)) (by (with_reducible repeat (first | refine blk_drewN ?_ _ | refine blk_drew ?_ | refine blk_alloc ?_ _)); refine blk_far ?_ NB422_427.out _; refine qb ?_; exact BK422.out) hb); replace BK427 := am (blk_below (g := gb427) (o := .cells #[.slice Ao16 t423.length co16] 28 (0, 0)) (by (with_reducible repeat (first | refine blk_drewN ?_ _ | refine blk_drew ?_ | refine blk_alloc ?_ _)); refine blk_put (cs := #[.slice none 0 0]) ?_ 0 _ rfl; refine qb ?_; exact BK427.out) hb); replace HB := am (below_step qB hb); (try clear hb); (try clear hb2); (try clear hk); (try clear hi)))
        skip
        go_meet
        case rel => exact ⟨_, (!t428), qe, H', ⟨by first | omega | exact Nat.le_refl _⟩, ⟨qR (Kd.R_mono HO420.out (fun _ hk => hk.2))⟩, ⟨qR (Kd.R_mono HO425.out (fun _ hk => hk.2))⟩, ⟨qb BK422.out⟩, ⟨qb BK427.out⟩, ⟨qB⟩⟩
    case rest =>
     clear HC8
     try clear c1
     try clear c2
     try clear p2
     try clear c3
     try clear c4
     try clear c17
     try clear c19
     try clear c19b0
     try clear c19b1
     try clear c19b2
     try clear c21
     try clear hcz13_0
     try clear hcz18_0
     try clear hcz22_0
     try clear hcz23_0
     try clear hfz13_0
     try clear hfz18_0
     try clear hfz22_0
     try clear hfz23_0
     obtain ⟨kq, x78_7, rfl, HA, HJ7, HO_423000, HO_428000, BK422, BK427, HB⟩ := hcut
     cases kq with
     | zero => exact absurd HA.out (by simp [laws_FnKnownPosets.j0])
     | succ kj7 =>
      have H := HA.out
      clear HA
      simp only [laws_FnKnownPosets.j0] at H
      by_cases c25 : x78_7 = true
      ·subst c25
       have H1 : (some false) = some r := by rw [if_pos rfl] at H; exact H
       exact absurd (Option.some.inj H1) (by rw [hrt.out]; decide)
      ·as_aux_lemma =>
         replace c25 := Bool.eq_false_iff.mpr c25
         subst c25
         have H1 : (if t421 = true then ((impl_CountIdeals.f kj7 t418).bind fun bt429 => ((impl_IsRanked.f kj7 t418).bind fun bt431 => ((impl_HeightsOf.f kj7 t418).bind fun bt433 => (laws_FnKnownPosets.l0 kj7 l1 t416 t417 bt429.1 bt429.2 bt431.1 bt431.2 bt433.1 bt433.2 1 1)))) else (laws_FnKnownPosets.j4 kj7 l1)) = some r := by rw [if_neg (show ¬ (false = true) by decide)] at H; exact H
         clear H
         have H := H1
         clear H1
         have HC26 := am H
         clear H
         go_upto_if 79 with (fail)
         skip
         go_cut [] (fun wc => ∃ (kq : Nat), Aside0 (laws_FnKnownPosets.j4 kq l1 = some r) ∧ Aside0 (kq ≤ kj7) ∧ Aside0 (Kd.R (Kd.int .i64) 3 wc w.heap.size (fun k_ => some k_ ≠ ((.slice Ao16 t423.length co16) : Value).ownBlock) (.slice Ao12 t418.length co12) t418) ∧ Aside0 (Kd.R (Kd.int .i64) 3 wc w.heap.size (fun k_ => some k_ ≠ ((.slice Ao12 t418.length co12) : Value).ownBlock) (.slice Ao16 t423.length co16) t423) ∧ Aside0 (wc.heap[gb422]? = some (.cells #[(.slice Ao12 t418.length co12)] 28 (0, 0))) ∧ Aside0 (wc.heap[gb427]? = some (.cells #[(.slice Ao16 t423.length co16)] 28 (0, 0))) ∧ Aside0 (Below w.heap.size w wc))
         case first =>
          have H := HC26.out
          clear HC26
          by_cases c27 : t421 = true
          ·as_aux_lemma =>
             subst c27
             have H1 : ((impl_CountIdeals.f kj7 t418).bind fun bt429 => ((impl_IsRanked.f kj7 t418).bind fun bt431 => ((impl_HeightsOf.f kj7 t418).bind fun bt433 => (laws_FnKnownPosets.l0 kj7 l1 t416 t417 bt429.1 bt429.2 bt431.1 bt431.2 bt433.1 bt433.2 1 1)))) = some r := by rw [if_pos rfl] at H; exact H
             clear H
             have H := H1
             clear H1
             replace H := Option.bind_eq_some_iff.mp H
             obtain ⟨⟨t429, t430⟩, A280, H⟩ := H
             replace H : ((impl_IsRanked.f kj7 t418).bind fun bt431 => ((impl_HeightsOf.f kj7 t418).bind fun bt433 => (laws_FnKnownPosets.l0 kj7 l1 t416 t417 t429 t430 bt431.1 bt431.2 bt433.1 bt433.2 1 1))) = some r := H
             have A28 := am A280
             clear A280
             replace H := Option.bind_eq_some_iff.mp H
             obtain ⟨⟨t431, t432⟩, A290, H⟩ := H
             replace H : ((impl_HeightsOf.f kj7 t418).bind fun bt433 => (laws_FnKnownPosets.l0 kj7 l1 t416 t417 t429 t430 t431 t432 bt433.1 bt433.2 1 1)) = some r := H
             have A29 := am A290
             clear A290
             replace H := Option.bind_eq_some_iff.mp H
             obtain ⟨⟨t433, t436⟩, A300, H⟩ := H
             replace H : (laws_FnKnownPosets.l0 kj7 l1 t416 t417 t429 t430 t431 t432 t433 t436 1 1) = some r := H
             have A30 := am A300
             clear A300
             have H' := am H
             clear H
             have hnb31 := NB422_427.out
             have hnc31 := NB427_422.out
             have hcz32_0 := qz wc BK422.out
             have hfz32_0 := blk_frozen BK422.out 0
             go_wp2_with (first | (go_at_call 12; (with_reducible refine (impl_CountIdeals.calls kj7 _ _ t418 t429 t430 _ ?side1 ?side2 A28.out).mono ?_); (case side1 => exact qC (Kd.R_reads' HO_423000.out).2.2); (case side2 => exact (Kd.R_reads' HO_423000.out).2.1); rintro e w33 ⟨rfl, hb⟩; replace HO_423000 := am (Kd.R_below (qR HO_423000.out) hb); replace HO_428000 := am (Kd.R_below (qR HO_428000.out) hb); replace BK422 := am (blk_below (g := gb422) (o := .cells #[.slice Ao12 t418.length co12] 28 (0, 0)) (qb BK422.out) hb); replace BK427 := am (blk_below (g := gb427) (o := .cells #[.slice Ao16 t423.length co16] 28 (0, 0)) (qb BK427.out) hb); replace HB := am (below_step qB hb); (try clear hb); (try clear hb2); (try clear hk); (try clear hi); have hcz34_0 := qz w33 BK422.out; have hfz34_0 := blk_frozen BK422.out 0) | (go_at_call 13; (with_reducible refine (impl_IsRanked.calls kj7 _ _ t418 t431 t432 _ ?side1 ?side2 A29.out).mono ?_); (case side1 => exact qC (Kd.R_reads' HO_423000.out).2.2); (case side2 => exact (Kd.R_reads' HO_423000.out).2.1); rintro e w35 ⟨rfl, hb⟩; replace HO_423000 := am (Kd.R_below (qR HO_423000.out) hb); replace HO_428000 := am (Kd.R_below (qR HO_428000.out) hb); replace BK422 := am (blk_below (g := gb422) (o := .cells #[.slice Ao12 t418.length co12] 28 (0, 0)) (qb BK422.out) hb); replace BK427 := am (blk_below (g := gb427) (o := .cells #[.slice Ao16 t423.length co16] 28 (0, 0)) (qb BK427.out) hb); replace HB := am (below_step qB hb); (try clear hb); (try clear hb2); (try clear hk); (try clear hi); have hcz36_0 := qz w35 BK422.out; have hfz36_0 := blk_frozen BK422.out 0) | (go_at_call 14; (with_reducible refine (impl_HeightsOf.calls kj7 _ _ t418 t433 t436 _ ?side1 ?side2 A30.out).mono ?_); (case side1 => exact qC (Kd.R_reads' HO_423000.out).2.2); (case side2 => exact (Kd.R_reads' HO_423000.out).2.1); rintro e w37 ⟨v434, rfl, ho0, hb⟩; have n0_ := am (Kd.R_elder' (qR HO_423000.out) (Kd.R_base ho0) hb); have n1_ := am (Kd.R_elder' (qR HO_428000.out) (Kd.R_base ho0) hb); have HO435 := am (Kd.R_lower (Kd.R_new' (Kd.R_new' ho0 (Kd.R_lt (qR HO_423000.out))) (Kd.R_lt (qR HO_428000.out))) (below_size qB)); replace BK422 := am (blk_below (g := gb422) (o := .cells #[.slice Ao12 t418.length co12] 28 (0, 0)) (qb BK422.out) hb); replace BK427 := am (blk_below (g := gb427) (o := .cells #[.slice Ao16 t423.length co16] 28 (0, 0)) (qb BK427.out) hb); replace HB := am (below_step qB hb); clear HO_423000 HO_428000; have HO_423000 := n0_; have HO_428000 := n1_; clear n0_ n1_; (try clear hb); (try clear hb2); (try clear hk); (try clear hi); (try clear ho0)))
             skip
             go_loopg [17, 18] kj7 (fun kq v17 v18 w' => ∃ (x17_2 : Int) (x18_2 : Int), v17 = .int .i64 x17_2 ∧ v18 = .int .i64 x18_2 ∧ Aside0 (laws_FnKnownPosets.l0 kq l1 t416 t417 t429 t430 t431 t432 t433 t436 x17_2 x18_2 = some r) ∧ Aside0 (kq ≤ kj7) ∧ Aside0 (Kd.R (Kd.int .i64) 3 w' w.heap.size (fun k_ => some k_ ≠ ((.slice Ao12 t418.length co12) : Value).ownBlock ∧ some k_ ≠ ((.slice Ao16 t423.length co16) : Value).ownBlock) v434 t433) ∧ Aside0 (Kd.R (Kd.int .i64) 3 w' w.heap.size (fun k_ => some k_ ≠ (v434 : Value).ownBlock ∧ some k_ ≠ ((.slice Ao16 t423.length co16) : Value).ownBlock) (.slice Ao12 t418.length co12) t418) ∧ Aside0 (Kd.R (Kd.int .i64) 3 w' w.heap.size (fun k_ => some k_ ≠ (v434 : Value).ownBlock ∧ some k_ ≠ ((.slice Ao12 t418.length co12) : Value).ownBlock) (.slice Ao16 t423.length co16) t423) ∧ Aside0 (w'.heap[gb422]? = some (.cells #[(.slice Ao12 t418.length co12)] 28 (0, 0))) ∧ Aside0 (w'.heap[gb427]? = some (.cells #[(.slice Ao16 t423.length co16)] 28 (0, 0))) ∧ Aside0 (Below w.heap.size w w'))
             case atStart => exact ⟨(1), (1), qe, qe, H', ⟨Nat.le_refl _⟩, ⟨qR (Kd.R_mono HO435.out (fun _ hk => ⟨hk.1.2, hk.2⟩))⟩, ⟨qR (Kd.R_mono HO_423000.out (fun _ hk => ⟨hk.2, hk.1⟩))⟩, ⟨qR (Kd.R_mono HO_428000.out (fun _ hk => ⟨hk.2, hk.1⟩))⟩, ⟨qb BK422.out⟩, ⟨qb BK427.out⟩, ⟨qB⟩⟩
             case round =>
              clear H'
              try clear c1
              try clear c2
              try clear p2
              try clear c3
              try clear c4
              try clear c17
              try clear c19
              try clear c19b0
              try clear c19b1
              try clear c19b2
              try clear c21
              try clear c25
              try clear c27
              try clear c31
              try clear hcz13_0
              try clear hcz18_0
              try clear hcz22_0
              try clear hcz23_0
              try clear hcz32_0
              try clear hcz34_0
              try clear hcz36_0
              try clear hfz13_0
              try clear hfz18_0
              try clear hfz22_0
              try clear hfz23_0
              try clear hfz32_0
              try clear hfz34_0
              try clear hfz36_0
              try clear p2
              obtain ⟨x17_2, x18_2, rfl, rfl, HA, HK2, HO_15, HO_423000, HO_428000, BK422, BK427, HB⟩ := hrel
              cases gk with
              | zero => exact absurd HA.out (by simp [laws_FnKnownPosets.l0])
              | succ k2 =>
               have H := HA.out
               clear HA
               simp only [laws_FnKnownPosets.l0] at H
               by_cases c38 : x18_2 ≤ t416
               ·as_aux_lemma =>
                  rw [if_pos c38] at H
                  have c38b0 := decide_eq_true c38
                  clear c38
                  (first | rw [c38b0] | (simp only [i64_w, i32_w]; rw [c38b0]) | skip)
                  by_cases c39 : x18_2 = 0
                  ·rw [if_pos c39] at H
                   exact absurd H (by simp)
                  ·rw [if_neg c39] at H
                   have c39b0 : (x18_2 == 0) = false := beq_eq_false_iff_ne.mpr c39
                   have c39b1 : (x18_2 != 0) = true := bne_iff_ne.mpr c39
                   have H' := am H
                   clear H
                   go_wp2
                   skip
                   go_roundg k2
                   case measure => have := HJ7.out; have := HK2.out; omega
                   case rel => exact ⟨(wrap64 (Int.tdiv (wrap64 (x17_2 * (wrap64 (t417 + x18_2)))) x18_2)), (wrap64 (x18_2 + 1)), qe, qe, H', ⟨by have := HJ7.out; have := HK2.out; omega⟩, ⟨qR HO_15.out⟩, ⟨qR HO_423000.out⟩, ⟨qR HO_428000.out⟩, ⟨qb BK422.out⟩, ⟨qb BK427.out⟩, ⟨qB⟩⟩
               ·as_aux_lemma =>
                  rw [if_neg c38] at H
                  have c38b0 := decide_eq_false c38
                  clear c38
                  (first | rw [c38b0] | (simp only [i64_w, i32_w]; rw [c38b0]) | skip)
                  have HC40 := am H
                  clear H
                  go_upto_region 17 with (fail)
                  skip
                  go_cut [125] (fun v125 wc => ∃ (kq : Nat) (x125_39 : Bool), v125 = .bool x125_39 ∧ Aside0 (laws_FnKnownPosets.j2 kq l1 t417 t433 x125_39 = some r) ∧ Aside0 (kq ≤ k2) ∧ Aside0 (Kd.R (Kd.int .i64) 3 wc w.heap.size (fun k_ => some k_ ≠ ((.slice Ao12 t418.length co12) : Value).ownBlock ∧ some k_ ≠ ((.slice Ao16 t423.length co16) : Value).ownBlock) v434 t433) ∧ Aside0 (Kd.R (Kd.int .i64) 3 wc w.heap.size (fun k_ => some k_ ≠ (v434 : Value).ownBlock ∧ some k_ ≠ ((.slice Ao16 t423.length co16) : Value).ownBlock) (.slice Ao12 t418.length co12) t418) ∧ Aside0 (Kd.R (Kd.int .i64) 3 wc w.heap.size (fun k_ => some k_ ≠ (v434 : Value).ownBlock ∧ some k_ ≠ ((.slice Ao12 t418.length co12) : Value).ownBlock) (.slice Ao16 t423.length co16) t423) ∧ Aside0 (wc.heap[gb422]? = some (.cells #[(.slice Ao12 t418.length co12)] 28 (0, 0))) ∧ Aside0 (wc.heap[gb427]? = some (.cells #[(.slice Ao16 t423.length co16)] 28 (0, 0))) ∧ Aside0 (Below w.heap.size w wc))
                  case first =>
                   have H := HC40.out
                   clear HC40
                   by_cases c41 : t430 = true
                   ·as_aux_lemma =>
                      subst c41
                      have H1 : (if t429 = x17_2 then (if t432 = true then (if t431 = true then (laws_FnKnownPosets.j2 k2 l1 t417 t433 (!t436)) else (laws_FnKnownPosets.j2 k2 l1 t417 t433 true)) else (laws_FnKnownPosets.j2 k2 l1 t417 t433 true)) else (laws_FnKnownPosets.j2 k2 l1 t417 t433 true)) = some r := by rw [if_pos rfl] at H; exact H
                      clear H
                      have H := H1
                      clear H1
                      by_cases c42 : t429 = x17_2
                      ·as_aux_lemma =>
                         rw [if_pos c42] at H
                         have c42b0 : (t429 == x17_2) = true := beq_iff_eq.mpr c42
                         have c42b1 : (t429 != x17_2) = false := bne_eq_false_iff_eq.mpr c42
                         clear c42
                         (first | rw [c42b0] | (simp only [i64_w, i32_w]; rw [c42b0]) | skip)
                         by_cases c43 : t432 = true
                         ·as_aux_lemma =>
                            subst c43
                            have H1 : (if t431 = true then (laws_FnKnownPosets.j2 k2 l1 t417 t433 (!t436)) else (laws_FnKnownPosets.j2 k2 l1 t417 t433 true)) = some r := by rw [if_pos rfl] at H; exact H
                            clear H
                            have H := H1
                            clear H1
                            by_cases c44 : t431 = true
                            ·subst c44
                             have H1 : (laws_FnKnownPosets.j2 k2 l1 t417 t433 (!t436)) = some r := by rw [if_pos rfl] at H; exact H
                             clear H
                             have H := H1
                             clear H1
                             have H' := am H
                             clear H
                             go_wp2
                             skip
                             go_meet
                             case rel => exact ⟨_, (!t436), qe, H', ⟨by have := HJ7.out; have := HK2.out; first | omega | exact Nat.le_refl _⟩, ⟨qR HO_15.out⟩, ⟨qR HO_423000.out⟩, ⟨qR HO_428000.out⟩, ⟨qb BK422.out⟩, ⟨qb BK427.out⟩, ⟨qB⟩⟩
                            ·as_aux_lemma =>
                               replace c44 := Bool.eq_false_iff.mpr c44
                               subst c44
                               have H1 : (laws_FnKnownPosets.j2 k2 l1 t417 t433 true) = some r := by rw [if_neg (show ¬ (false = true) by decide)] at H; exact H
                               exact absurd (hrt.out ▸ H1) (laws_FnKnownPosets.j2_no _ _ _ _)
                         ·as_aux_lemma =>
                            replace c43 := Bool.eq_false_iff.mpr c43
                            subst c43
                            have H1 : (laws_FnKnownPosets.j2 k2 l1 t417 t433 true) = some r := by rw [if_neg (show ¬ (false = true) by decide)] at H; exact H
                            exact absurd (hrt.out ▸ H1) (laws_FnKnownPosets.j2_no _ _ _ _)
                      ·rw [if_neg c42] at H
                       exact absurd (hrt.out ▸ H) (laws_FnKnownPosets.j2_no _ _ _ _)
                   ·as_aux_lemma =>
                      replace c41 := Bool.eq_false_iff.mpr c41
                      subst c41
                      have H1 : (laws_FnKnownPosets.j2 k2 l1 t417 t433 true) = some r := by rw [if_neg (show ¬ (false = true) by decide)] at H; exact H
                      exact absurd (hrt.out ▸ H1) (laws_FnKnownPosets.j2_no _ _ _ _)
                  case rest =>
                   clear HC40
                   try clear c1
                   try clear c2
                   try clear p2
                   try clear c3
                   try clear c4
                   try clear p6
                   try clear c17
                   try clear c19
                   try clear c19b0
                   try clear c19b1
                   try clear c19b2
                   try clear c21
                   try clear c25
                   try clear c27
                   try clear c31
                   try clear c38
                   try clear c38b0
                   try clear c39
                   try clear c39b0
                   try clear c39b1
                   try clear c41
                   try clear c42
                   try clear c42b0
                   try clear c42b1
                   try clear c43
                   try clear c44
                   try clear hcz13_0
                   try clear hcz18_0
                   try clear hcz22_0
                   try clear hcz23_0
                   try clear hcz32_0
                   try clear hcz34_0
                   try clear hcz36_0
                   try clear hfz13_0
                   try clear hfz18_0
                   try clear hfz22_0
                   try clear hfz23_0
                   try clear hfz32_0
                   try clear hfz34_0
                   try clear hfz36_0
                   try clear p2
                   obtain ⟨kq, x125_39, rfl, HA, HJ39, HO_15, HO_423000, HO_428000, BK422, BK427, HB⟩ := hcut
                   cases kq with
                   | zero => exact absurd HA.out (by simp [laws_FnKnownPosets.j2])
                   | succ kj39 =>
                    have H := HA.out
                    clear HA
                    simp only [laws_FnKnownPosets.j2] at H
                    by_cases c45 : x125_39 = true
                    ·subst c45
                     have H1 : (some false) = some r := by rw [if_pos rfl] at H; exact H
                     exact absurd (Option.some.inj H1) (by rw [hrt.out]; decide)
                    ·as_aux_lemma =>
                       replace c45 := Bool.eq_false_iff.mpr c45
                       subst c45
                       have H1 : (laws_FnKnownPosets.l1 kj39 l1 t417 t433 (t433.length : Int) 0) = some r := by rw [if_neg (show ¬ (false = true) by decide)] at H; exact H
                       clear H
                       have H := H1
                       clear H1
                       have H' := am H
                       clear H
                       obtain ⟨Ao46, co46, eo46⟩ := Kd.R_slice HO_15.out
                       subst eo46
                       go_wp2
                       skip
                       go_loopg [128] kj39 (fun kq v128 w' => ∃ (x128_4 : Int), v128 = .int .i64 x128_4 ∧ Aside0 (laws_FnKnownPosets.l1 kq l1 t417 t433 (t433.length : Int) x128_4 = some r) ∧ Aside0 (kq ≤ kj39) ∧ Aside0 (Kd.R (Kd.int .i64) 3 w' w.heap.size (fun k_ => some k_ ≠ ((.slice Ao12 t418.length co12) : Value).ownBlock ∧ some k_ ≠ ((.slice Ao16 t423.length co16) : Value).ownBlock) (.slice Ao46 t433.length co46) t433) ∧ Aside0 (Kd.R (Kd.int .i64) 3 w' w.heap.size (fun k_ => some k_ ≠ ((.slice Ao46 t433.length co46) : Value).ownBlock ∧ some k_ ≠ ((.slice Ao16 t423.length co16) : Value).ownBlock) (.slice Ao12 t418.length co12) t418) ∧ Aside0 (Kd.R (Kd.int .i64) 3 w' w.heap.size (fun k_ => some k_ ≠ ((.slice Ao46 t433.length co46) : Value).ownBlock ∧ some k_ ≠ ((.slice Ao12 t418.length co12) : Value).ownBlock) (.slice Ao16 t423.length co16) t423) ∧ Aside0 (w'.heap[gb422]? = some (.cells #[(.slice Ao12 t418.length co12)] 28 (0, 0))) ∧ Aside0 (w'.heap[gb427]? = some (.cells #[(.slice Ao16 t423.length co16)] 28 (0, 0))) ∧ Aside0 (Below w.heap.size w w'))
                       case atStart => exact ⟨(0), qe, H', ⟨Nat.le_refl _⟩, ⟨qR HO_15.out⟩, ⟨qR HO_423000.out⟩, ⟨qR HO_428000.out⟩, ⟨qb BK422.out⟩, ⟨qb BK427.out⟩, ⟨qB⟩⟩
                       case round =>
                        clear H'
                        try clear c1
                        try clear c2
                        try clear p2
                        try clear c3
                        try clear c4
                        try clear p6
                        try clear c17
                        try clear c19
                        try clear c19b0
                        try clear c19b1
                        try clear c19b2
                        try clear c21
                        try clear c25
                        try clear c27
                        try clear c31
                        try clear c38
                        try clear c38b0
                        try clear c39
                        try clear c39b0
                        try clear c39b1
                        try clear c41
                        try clear c42
                        try clear c42b0
                        try clear c42b1
                        try clear c43
                        try clear c44
                        try clear c45
                        try clear hcz13_0
                        try clear hcz18_0
                        try clear hcz22_0
                        try clear hcz23_0
                        try clear hcz32_0
                        try clear hcz34_0
                        try clear hcz36_0
                        try clear hfz13_0
                        try clear hfz18_0
                        try clear hfz22_0
                        try clear hfz23_0
                        try clear hfz32_0
                        try clear hfz34_0
                        try clear hfz36_0
                        try clear p2
                        try clear p6
                        obtain ⟨x128_4, rfl, HA, HK4, HO_126, HO_423000, HO_428000, BK422, BK427, HB⟩ := hrel
                        cases gk with
                        | zero => exact absurd HA.out (by simp [laws_FnKnownPosets.l1])
                        | succ k4 =>
                         have H := HA.out
                         clear HA
                         simp only [laws_FnKnownPosets.l1] at H
                         by_cases c47 : x128_4 < (t433.length : Int)
                         ·as_aux_lemma =>
                            rw [if_pos c47] at H
                            have c47b0 := decide_eq_true c47
                            clear c47
                            by_cases c48 : 0 ≤ x128_4
                            ·as_aux_lemma =>
                               rw [if_pos c48] at H
                               have c48b0 := decide_eq_true c48
                               clear c48
                               by_cases c49 : x128_4 < (t433.length : Int)
                               ·as_aux_lemma =>
                                  rw [if_pos c49] at H
                                  have c49b0 := decide_eq_true c49
                                  clear c49
                                  by_cases c50 : t417 = 0
                                  ·rw [if_pos c50] at H
                                   exact absurd H (by simp)
                                  ·as_aux_lemma =>
                                     rw [if_neg c50] at H
                                     have c50b0 : (t417 == 0) = false := beq_eq_false_iff_ne.mpr c50
                                     have c50b1 : (t417 != 0) = true := bne_iff_ne.mpr c50
                                     by_cases c51 : (rd t433 x128_4) = (wrap64 ((wrap64 (Int.tdiv x128_4 t417)) + (Int.tmod x128_4 t417)))
                                     ·as_aux_lemma =>
                                        rw [if_pos c51] at H
                                        have c51b0 : ((rd t433 x128_4) == (wrap64 ((wrap64 (Int.tdiv x128_4 t417)) + (Int.tmod x128_4 t417)))) = true := beq_iff_eq.mpr c51
                                        have c51b1 : ((rd t433 x128_4) != (wrap64 ((wrap64 (Int.tdiv x128_4 t417)) + (Int.tmod x128_4 t417)))) = false := bne_eq_false_iff_eq.mpr c51
                                        clear c51
                                        have H' := am H
                                        clear H
                                        have p437 : 0 ≤ (x128_4 : Int) := qd
                                        have q437 : x128_4 < (t433.length : Int) := qd
                                        obtain ⟨ad437, e437, hx437_0⟩ := Kd.at_int (Kd.R_reads' HO_126.out).2.2 x128_4 p437 q437
                                        cases e437
                                        replace p437 := eq_true p437
                                        replace q437 := eq_true q437
                                        go_wp2
                                        repeat (go_quiet (fail); try go_wp2)
                                        go_roundg k4
                                        case measure => have := HJ7.out; have := HK2.out; have := HJ39.out; have := HK4.out; omega
                                        case rel => exact ⟨(wrap64 (x128_4 + 1)), qe, H', ⟨by have := HJ7.out; have := HK2.out; have := HJ39.out; have := HK4.out; omega⟩, ⟨qR HO_126.out⟩, ⟨qR HO_423000.out⟩, ⟨qR HO_428000.out⟩, ⟨qb BK422.out⟩, ⟨qb BK427.out⟩, ⟨qB⟩⟩
                                     ·as_aux_lemma =>
                                        rw [if_neg c51] at H
                                        have c51b0 : ((rd t433 x128_4) == (wrap64 ((wrap64 (Int.tdiv x128_4 t417)) + (Int.tmod x128_4 t417)))) = false := beq_eq_false_iff_ne.mpr c51
                                        have c51b1 : ((rd t433 x128_4) != (wrap64 ((wrap64 (Int.tdiv x128_4 t417)) + (Int.tmod x128_4 t417)))) = true := bne_iff_ne.mpr c51
                                        obtain rfl := Option.some.inj H
                                        have p437 : 0 ≤ (x128_4 : Int) := qd
                                        have q437 : x128_4 < (t433.length : Int) := qd
                                        obtain ⟨ad437, e437, hx437_0⟩ := Kd.at_int (Kd.R_reads' HO_126.out).2.2 x128_4 p437 q437
                                        cases e437
                                        replace p437 := eq_true p437
                                        replace q437 := eq_true q437
                                        go_wp2
                                        repeat (go_quiet (fail); try go_wp2)
                                        go_ret
                                        exact ⟨qr, qB⟩
                               ·rw [if_neg c49] at H
                                exact absurd H (by simp)
                            ·rw [if_neg c48] at H
                             exact absurd H (by simp)
                         ·rw [if_neg c47] at H
                          have c47b0 := decide_eq_false c47
                          clear c47
                          have H' := am H
                          clear H
                          go_wp2
                          skip
                          go_meet
                          case rel => exact ⟨_, H', ⟨by have := HJ7.out; have := HK2.out; have := HJ39.out; have := HK4.out; first | omega | exact Nat.le_refl _⟩, ⟨qR (Kd.R_mono HO_423000.out (fun _ hk => hk.2))⟩, ⟨qR (Kd.R_mono HO_428000.out (fun _ hk => hk.2))⟩, ⟨qb BK422.out⟩, ⟨qb BK427.out⟩, ⟨qB⟩⟩
          ·as_aux_lemma =>
             replace c27 := Bool.eq_false_iff.mpr c27
             subst c27
             have H1 : (laws_FnKnownPosets.j4 kj7 l1) = some r := by rw [if_neg (show ¬ (false = true) by decide)] at H; exact H
             clear H
             have H := H1
             clear H1
             have H' := am H
             clear H
             go_wp2
             skip
             go_meet
             case rel => exact ⟨_, H', ⟨by have := HJ7.out; first | omega | exact Nat.le_refl _⟩, ⟨qR HO_423000.out⟩, ⟨qR HO_428000.out⟩, ⟨qb BK422.out⟩, ⟨qb BK427.out⟩, ⟨qB⟩⟩
         case rest =>
          clear HC26
          try clear c1
          try clear c2
          try clear p2
          try clear c3
          try clear c4
          try clear p4
          try clear q4
          try clear hx4
          try clear c5
          try clear p6
          try clear c17
          try clear c19
          try clear c19b0
          try clear c19b1
          try clear c19b2
          try clear c21
          try clear c25
          try clear c27
          try clear c31
          try clear c38
          try clear c38b0
          try clear c39
          try clear c39b0
          try clear c39b1
          try clear c41
          try clear c42
          try clear c42b0
          try clear c42b1
          try clear c43
          try clear p43
          try clear q43
          try clear hx43
          try clear c44
          try clear c45
          try clear c47
          try clear c47b0
          try clear c48
          try clear c48b0
          try clear c49
          try clear c49b0
          try clear c50
          try clear c50b0
          try clear c50b1
          try clear c51
          try clear c51b0
          try clear c51b1
          try clear hcz13_0
          try clear hcz18_0
          try clear hcz22_0
          try clear hcz23_0
          try clear hcz32_0
          try clear hcz34_0
          try clear hcz36_0
          try clear hfz13_0
          try clear hfz18_0
          try clear hfz22_0
          try clear hfz23_0
          try clear hfz32_0
          try clear hfz34_0
          try clear hfz36_0
          try clear hx437_0
          try clear p2
          try clear p437
          try clear p6
          try clear q437
          obtain ⟨kq, HA, HJ25, HO_423000, HO_428000, BK422, BK427, HB⟩ := hcut
          cases kq with
          | zero => exact absurd HA.out (by simp [laws_FnKnownPosets.j4])
          | succ kj25 =>
           have H := HA.out
           clear HA
           simp only [laws_FnKnownPosets.j4] at H
           replace H := Option.bind_eq_some_iff.mp H
           obtain ⟨t438, A520, H⟩ := H
           replace H : ((impl_Staircase.f kj25 t438).bind fun bt439 => ((spec_Staircase.f kj25 t438).bind fun bt444 => (if (bt439.2 != bt444.2) = true then (laws_FnKnownPosets.j5 kj25 l1 t438 bt439.2 true bt439.1) else ((laws_nPoset.f kj25 bt439.1 bt444.1).bind fun t449 => (laws_FnKnownPosets.j5 kj25 l1 t438 bt439.2 (!t449) bt439.1))))) = some r := H
           have A52 := am A520
           clear A520
           replace H := Option.bind_eq_some_iff.mp H
           obtain ⟨⟨t439, t442⟩, A530, H⟩ := H
           replace H : ((spec_Staircase.f kj25 t438).bind fun bt444 => (if (t442 != bt444.2) = true then (laws_FnKnownPosets.j5 kj25 l1 t438 t442 true t439) else ((laws_nPoset.f kj25 t439 bt444.1).bind fun t449 => (laws_FnKnownPosets.j5 kj25 l1 t438 t442 (!t449) t439)))) = some r := H
           have A53 := am A530
           clear A530
           replace H := Option.bind_eq_some_iff.mp H
           obtain ⟨⟨t444, t447⟩, A540, H⟩ := H
           replace H : (if (t442 != t447) = true then (laws_FnKnownPosets.j5 kj25 l1 t438 t442 true t439) else ((laws_nPoset.f kj25 t439 t444).bind fun t449 => (laws_FnKnownPosets.j5 kj25 l1 t438 t442 (!t449) t439))) = some r := H
           have A54 := am A540
           clear A540
           have HC55 := am H
           clear H
           go_upto_region 28 with (first | (go_at_call 15; (with_reducible refine (spec_DrawStaircase.calls kj25 _ _ l1 t438 _ ?side1 ?side2 A52.out).mono ?_); (case side1 => exact qC (Kd.C_below HR1.out HB.out)); (case side2 => exact HC1.out); rintro e w56 ⟨rfl, hb⟩; replace HO_423000 := am (Kd.R_below (qR HO_423000.out) hb); replace HO_428000 := am (Kd.R_below (qR HO_428000.out) hb); replace BK422 := am (blk_below (g := gb422) (o := .cells #[.slice Ao12 t418.length co12] 28 (0, 0)) (qb BK422.out) hb); replace BK427 := am (blk_below (g := gb427) (o := .cells #[.slice Ao16 t423.length co16] 28 (0, 0)) (qb BK427.out) hb); replace HB := am (below_step qB hb); (try clear hb); (try clear hb2); (try clear hk); (try clear hi)) | (go_at_call 16; (with_reducible refine (impl_Staircase.calls kj25 t438 t439 t442 _ A53.out).mono ?_); rintro e w57 ⟨v440, rfl, ho0, hb⟩; have n0_ := am (Kd.R_elder' (qR HO_423000.out) (Kd.R_base ho0) hb); have n1_ := am (Kd.R_elder' (qR HO_428000.out) (Kd.R_base ho0) hb); have HO441 := am (Kd.R_lower (Kd.R_new' (Kd.R_new' ho0 (Kd.R_lt (qR HO_423000.out))) (Kd.R_lt (qR HO_428000.out))) (below_size qB)); replace BK422 := am (blk_below (g := gb422) (o := .cells #[.slice Ao12 t418.length co12] 28 (0, 0)) (qb BK422.out) hb); replace BK427 := am (blk_below (g := gb427) (o := .cells #[.slice Ao16 t423.length co16] 28 (0, 0)) (qb BK427.out) hb); replace HB := am (below_step qB hb); clear HO_423000 HO_428000; have HO_423000 := n0_; have HO_428000 := n1_; clear n0_ n1_; (try clear hb); (try clear hb2); (try clear hk); (try clear hi); (try clear ho0)) | ((with_reducible refine gate_dst (N := 22) rfl ?_); refine qx (N := 22) (cs := #[.slice none 0 0]) (t := 28) ?_; intro gb443 hg w58 hbox hb; replace HO_423000 := am (Kd.R_below (qR HO_423000.out) hb); replace HO_428000 := am (Kd.R_below (qR HO_428000.out) hb); replace HO441 := am (Kd.R_below (qR HO441.out) hb); have n3_ := am (blk_below (g := gb422) (o := .cells #[.slice Ao12 t418.length co12] 28 (0, 0)) (qb BK422.out) hb); have n4_ := am (blk_below (g := gb427) (o := .cells #[.slice Ao16 t423.length co16] 28 (0, 0)) (qb BK427.out) hb); have n5_ := am (below_step qB hb); have BK443 := am (hbox); have GW443 := am (qg w hg); have GE443 := am (qg w hg); have NB422_443 := am ((by rw [hg]; exact Nat.ne_of_lt (blk_lt (g := gb422) (o := .cells #[.slice Ao12 t418.length co12] 28 (0, 0)) (qb BK422.out)) : gb422 ≠ gb443)); have NB443_422 := am ((by rw [hg]; exact Nat.ne_of_gt (blk_lt (g := gb422) (o := .cells #[.slice Ao12 t418.length co12] 28 (0, 0)) (qb BK422.out)) : gb443 ≠ gb422)); have NB427_443 := am ((by rw [hg]; exact Nat.ne_of_lt (blk_lt (g := gb427) (o := .cells #[.slice Ao16 t423.length co16] 28 (0, 0)) (qb BK427.out)) : gb427 ≠ gb443)); have NB443_427 := am ((by rw [hg]; exact Nat.ne_of_gt (blk_lt (g := gb427) (o := .cells #[.slice Ao16 t423.length co16] 28 (0, 0)) (qb BK427.out)) : gb443 ≠ gb427)); clear BK422 BK427 HB; have BK422 := n3_; have BK427 := n4_; have HB := n5_; clear n3_ n4_ n5_; clear hb hbox hg; obtain ⟨Ao59, co59, eo59⟩ := Kd.R_slice HO441.out; subst eo59; have hnb60 := NB443_422.out; have hnc60 := NB422_443.out; have hnb61 := NB443_427.out; have hnc61 := NB427_443.out; have hcz62_0 := qz w58 BK443.out; have hfz62_0 := blk_frozen BK443.out 0) | (go_at_call 17; (with_reducible refine (spec_Staircase.calls kj25 t438 t444 t447 _ A54.out).mono ?_); rintro e w63 ⟨v445, rfl, ho0, hb⟩; have n0_ := am (Kd.R_elder' (qR ((Kd.R_mono (Kd.R_far (p := ⟨gb443, 0, none⟩) (Kd.R_types HO_423000.out BK443.out (by decide)) (fun _ hk => hk.2) (.slice Ao59 t439.length co59)) (fun _ h_ => h_.1)))) (Kd.R_base ho0) hb); have n1_ := am (Kd.R_elder' (qR ((Kd.R_mono (Kd.R_far (p := ⟨gb443, 0, none⟩) (Kd.R_types HO_428000.out BK443.out (by decide)) (fun _ hk => hk.2) (.slice Ao59 t439.length co59)) (fun _ h_ => h_.1)))) (Kd.R_base ho0) hb); have n2_ := am (Kd.R_elder' (qR ((Kd.R_mono (Kd.R_far (p := ⟨gb443, 0, none⟩) (Kd.R_types HO441.out BK443.out (by decide)) (fun _ hk => hk.2) (.slice Ao59 t439.length co59)) (fun _ h_ => h_.1)))) (Kd.R_base ho0) hb); have HO446 := am (Kd.R_lower (Kd.R_new' (Kd.R_new' (Kd.R_new' ho0 (Kd.R_lt (qR ((Kd.R_mono (Kd.R_far (p := ⟨gb443, 0, none⟩) (Kd.R_types HO_423000.out BK443.out (by decide)) (fun _ hk => hk.2) (.slice Ao59 t439.length co59)) (fun _ h_ => h_.1)))))) (Kd.R_lt (qR ((Kd.R_mono (Kd.R_far (p := ⟨gb443, 0, none⟩) (Kd.R_types HO_428000.out BK443.out (by decide)) (fun _ hk => hk.2) (.slice Ao59 t439.length co59)) (fun _ h_ => h_.1)))))) (Kd.R_lt (qR ((Kd.R_mono (Kd.R_far (p := ⟨gb443, 0, none⟩) (Kd.R_types HO441.out BK443.out (by decide)) (fun _ hk => hk.2) (.slice Ao59 t439.length co59)) (fun _ h_ => h_.1)))))) (below_size qB)); replace BK422 := am (blk_below (g := gb422) (o := .cells #[.slice Ao12 t418.length co12] 28 (0, 0)) (by (with_reducible repeat (first | refine blk_drewN ?_ _ | refine blk_drew ?_ | refine blk_alloc ?_ _)); refine blk_far ?_ NB422_443.out _; refine qb ?_; exact BK422.out) hb); replace BK427 := am (blk_below (g := gb427) (o := .cells #[.slice Ao16 t423.length co16] 28 (0, 0)) (by (with_reducible repeat (first | refine blk_drewN ?_ _ | refine blk_drew ?_ | refine blk_alloc ?_ _)); refine blk_far ?_ NB427_443.out _; refine qb ?_; exact BK427.out) hb); replace BK443 := am (blk_below (g := gb443) (o := .cells #[.slice Ao59 t439.length co59] 28 (0, 0)) (by (with_reducible repeat (first | refine blk_drewN ?_ _ | refine blk_drew ?_ | refine blk_alloc ?_ _)); refine blk_put (cs := #[.slice none 0 0]) ?_ 0 _ rfl; refine qb ?_; exact BK443.out) hb); replace HB := am (below_step qB hb); clear HO_423000 HO_428000 HO441; have HO_423000 := n0_; have HO_428000 := n1_; have HO441 := n2_; clear n0_ n1_ n2_; (try clear hb); (try clear hb2); (try clear hk); (try clear hi); (try clear ho0)) | ((with_reducible refine gate_dst (N := 24) rfl ?_); refine qx (N := 24) (cs := #[.slice none 0 0]) (t := 28) ?_; intro gb448 hg w64 hbox hb; replace HO_423000 := am (Kd.R_below (qR HO_423000.out) hb); replace HO_428000 := am (Kd.R_below (qR HO_428000.out) hb); replace HO441 := am (Kd.R_below (qR HO441.out) hb); replace HO446 := am (Kd.R_below (qR HO446.out) hb); have n4_ := am (blk_below (g := gb422) (o := .cells #[.slice Ao12 t418.length co12] 28 (0, 0)) (qb BK422.out) hb); have n5_ := am (blk_below (g := gb427) (o := .cells #[.slice Ao16 t423.length co16] 28 (0, 0)) (qb BK427.out) hb); have n6_ := am (blk_below (g := gb443) (o := .cells #[.slice Ao59 t439.length co59] 28 (0, 0)) (qb BK443.out) hb); have n7_ := am (below_step qB hb); have BK448 := am (hbox); have GW448 := am (qg w hg); have GE448 := am (qg w hg); have NB422_448 := am ((by rw [hg]; exact Nat.ne_of_lt (blk_lt (g := gb422) (o := .cells #[.slice Ao12 t418.length co12] 28 (0, 0)) (qb BK422.out)) : gb422 ≠ gb448)); have NB448_422 := am ((by rw [hg]; exact Nat.ne_of_gt (blk_lt (g := gb422) (o := .cells #[.slice Ao12 t418.length co12] 28 (0, 0)) (qb BK422.out)) : gb448 ≠ gb422)); have NB427_448 := am ((by rw [hg]; exact Nat.ne_of_lt (blk_lt (g := gb427) (o := .cells #[.slice Ao16 t423.length co16] 28 (0, 0)) (qb BK427.out)) : gb427 ≠ gb448)); have NB448_427 := am ((by rw [hg]; exact Nat.ne_of_gt (blk_lt (g := gb427) (o := .cells #[.slice Ao16 t423.length co16] 28 (0, 0)) (qb BK427.out)) : gb448 ≠ gb427)); have NB443_448 := am ((by rw [hg]; exact Nat.ne_of_lt (blk_lt (g := gb443) (o := .cells #[.slice Ao59 t439.length co59] 28 (0, 0)) (qb BK443.out)) : gb443 ≠ gb448)); have NB448_443 := am ((by rw [hg]; exact Nat.ne_of_gt (blk_lt (g := gb443) (o := .cells #[.slice Ao59 t439.length co59] 28 (0, 0)) (qb BK443.out)) : gb448 ≠ gb443)); clear BK422 BK427 BK443 HB; have BK422 := n4_; have BK427 := n5_; have BK443 := n6_; have HB := n7_; clear n4_ n5_ n6_ n7_; clear hb hbox hg; obtain ⟨Ao65, co65, eo65⟩ := Kd.R_slice HO446.out; subst eo65; have hnb66 := NB448_422.out; have hnc66 := NB422_448.out; have hnb67 := NB448_427.out; have hnc67 := NB427_448.out; have hnb68 := NB448_443.out; have hnc68 := NB443_448.out; have hcz69_0 := qz w64 BK448.out; have hfz69_0 := blk_frozen BK448.out 0))
           skip
           (try simp only [Act.put, List.setIfInBounds_toArray, List.set_cons_zero, List.set_cons_succ])
           go_cut [163] (fun v163 wc => ∃ (kq : Nat) (x163_54 : Bool), v163 = .bool x163_54 ∧ Aside0 (laws_FnKnownPosets.j5 kq l1 t438 t442 x163_54 t439 = some r) ∧ Aside0 (kq ≤ kj25) ∧ Aside0 (Kd.R (Kd.int .i64) 3 wc w.heap.size (fun k_ => some k_ ≠ ((.slice Ao16 t423.length co16) : Value).ownBlock ∧ some k_ ≠ ((.slice Ao59 t439.length co59) : Value).ownBlock ∧ some k_ ≠ ((.slice Ao65 t444.length co65) : Value).ownBlock) (.slice Ao12 t418.length co12) t418) ∧ Aside0 (Kd.R (Kd.int .i64) 3 wc w.heap.size (fun k_ => some k_ ≠ ((.slice Ao12 t418.length co12) : Value).ownBlock ∧ some k_ ≠ ((.slice Ao59 t439.length co59) : Value).ownBlock ∧ some k_ ≠ ((.slice Ao65 t444.length co65) : Value).ownBlock) (.slice Ao16 t423.length co16) t423) ∧ Aside0 (Kd.R (Kd.int .i64) 3 wc w.heap.size (fun k_ => some k_ ≠ ((.slice Ao12 t418.length co12) : Value).ownBlock ∧ some k_ ≠ ((.slice Ao16 t423.length co16) : Value).ownBlock ∧ some k_ ≠ ((.slice Ao65 t444.length co65) : Value).ownBlock) (.slice Ao59 t439.length co59) t439) ∧ Aside0 (Kd.R (Kd.int .i64) 3 wc w.heap.size (fun k_ => some k_ ≠ ((.slice Ao12 t418.length co12) : Value).ownBlock ∧ some k_ ≠ ((.slice Ao16 t423.length co16) : Value).ownBlock ∧ some k_ ≠ ((.slice Ao59 t439.length co59) : Value).ownBlock) (.slice Ao65 t444.length co65) t444) ∧ Aside0 (wc.heap[gb422]? = some (.cells #[(.slice Ao12 t418.length co12)] 28 (0, 0))) ∧ Aside0 (wc.heap[gb427]? = some (.cells #[(.slice Ao16 t423.length co16)] 28 (0, 0))) ∧ Aside0 (wc.heap[gb443]? = some (.cells #[(.slice Ao59 t439.length co59)] 28 (0, 0))) ∧ Aside0 (wc.heap[gb448]? = some (.cells #[(.slice Ao65 t444.length co65)] 28 (0, 0))) ∧ Aside0 (Below w.heap.size w wc))
           case first =>
            have H := HC55.out
            clear HC55
            by_cases c70 : (t442 != t447) = true
            ·as_aux_lemma =>
               rw [if_pos c70] at H
               exact absurd (hrt.out ▸ H) (laws_FnKnownPosets.j5_no _ _ _ _ _)
            ·as_aux_lemma =>
               rw [if_neg c70] at H
               have c70b0 : (t442 != t447) = false := by simpa using c70
               (try (have c70b1 : decide (t442 = t447) = true := by simpa using c70))
               (try (have c70b2 : (t442 == t447) = true := by simpa using c70))
               clear c70
               (first | rw [c70b0] | (simp only [i64_w, i32_w]; rw [c70b0]) | skip)
               replace H := Option.bind_eq_some_iff.mp H
               obtain ⟨t449, A710, H⟩ := H
               replace H : (laws_FnKnownPosets.j5 kj25 l1 t438 t442 (!t449) t439) = some r := H
               have A71 := am A710
               clear A710
               have H' := am H
               clear H
               have hnb72 := NB443_422.out
               have hnc72 := NB422_443.out
               have hnb73 := NB443_427.out
               have hnc73 := NB427_443.out
               have hnb74 := NB443_448.out
               have hnc74 := NB448_443.out
               have hcz75_0 := qz w64 BK443.out
               have hfz75_0 := blk_frozen BK443.out 0
               have hnb76 := NB448_422.out
               have hnc76 := NB422_448.out
               have hnb77 := NB448_427.out
               have hnc77 := NB427_448.out
               have hcz78_0 := qz w64 BK448.out
               have hfz78_0 := blk_frozen BK448.out 0
               go_wp2_with ((go_at_call 11; (with_reducible refine (laws_nPoset.calls kj25 _ _ t439 _ _ t444 t449 _ ?side1 ?side2 ?side3 ?side4 A71.out).mono ?_); (case side1 => refine (Kd.R_reads' (e := 3) (base := w.heap.size) (ok := fun k_ => (((True ∧ some k_ ≠ (.slice Ao12 t418.length co12 : Value).ownBlock) ∧ some k_ ≠ (.slice Ao16 t423.length co16 : Value).ownBlock) ∧ some k_ ≠ (.slice Ao65 t444.length co65 : Value).ownBlock)) (n := t439.length) (c := co59) ?_).2.2; exact (qR ((Kd.R_mono (Kd.R_far (p := ⟨gb448, 0, none⟩) (Kd.R_types HO441.out BK448.out (by decide)) (fun _ hk => hk.2) (.slice Ao65 t444.length co65)) (fun _ h_ => h_.1))))); (case side2 => exact (Kd.R_reads' HO441.out).2.1); (case side3 => refine (Kd.R_reads' (e := 3) (base := w.heap.size) (ok := fun k_ => (((True ∧ some k_ ≠ (.slice Ao12 t418.length co12 : Value).ownBlock) ∧ some k_ ≠ (.slice Ao16 t423.length co16 : Value).ownBlock) ∧ some k_ ≠ (.slice Ao59 t439.length co59 : Value).ownBlock)) (n := t444.length) (c := co65) ?_).2.2; exact (qR ((Kd.R_mono (Kd.R_far (p := ⟨gb448, 0, none⟩) (Kd.R_types HO446.out BK448.out (by decide)) (fun _ hk => hk.2) (.slice Ao65 t444.length co65)) (fun _ h_ => h_.1))))); (case side4 => exact (Kd.R_reads' HO446.out).2.1); rintro e w79 ⟨rfl, hb⟩; replace HO_423000 := am (Kd.R_below (qR ((Kd.R_mono (Kd.R_far (p := ⟨gb448, 0, none⟩) (Kd.R_types HO_423000.out BK448.out (by decide)) (fun _ hk => hk.2) (.slice Ao65 t444.length co65)) (fun _ h_ => h_.1)))) hb); replace HO_428000 := am (Kd.R_below (qR ((Kd.R_mono (Kd.R_far (p := ⟨gb448, 0, none⟩) (Kd.R_types HO_428000.out BK448.out (by decide)) (fun _ hk => hk.2) (.slice Ao65 t444.length co65)) (fun _ h_ => h_.1)))) hb); replace HO441 := am (Kd.R_below (qR ((Kd.R_mono (Kd.R_far (p := ⟨gb448, 0, none⟩) (Kd.R_types HO441.out BK448.out (by decide)) (fun _ hk => hk.2) (.slice Ao65 t444.length co65)) (fun _ h_ => h_.1)))) hb); replace HO446 := am (Kd.R_below (qR ((Kd.R_mono (Kd.R_far (p := ⟨gb448, 0, none⟩) (Kd.R_types HO446.out BK448.out (by decide)) (fun _ hk => hk.2) (.slice Ao65 t444.length co65)) (fun _ h_ => h_.1)))) hb); replace BK422 := am (blk_below (g := gb422) (o := .cells #[.slice Ao12 t418.length co12] 28 (0, 0)) (by (with_reducible repeat (first | refine blk_drewN ?_ _ | refine blk_drew ?_ | refine blk_alloc ?_ _)); refine blk_far ?_ NB422_448.out _; refine qb ?_; exact BK422.out) hb); replace BK427 := am (blk_below (g := gb427) (o := .cells #[.slice Ao16 t423.length co16] 28 (0, 0)) (by (with_reducible repeat (first | refine blk_drewN ?_ _ | refine blk_drew ?_ | refine blk_alloc ?_ _)); refine blk_far ?_ NB427_448.out _; refine qb ?_; exact BK427.out) hb); replace BK443 := am (blk_below (g := gb443) (o := .cells #[.slice Ao59 t439.length co59] 28 (0, 0)) (by (with_reducible repeat (first | refine blk_drewN ?_ _ | refine blk_drew ?_ | refine blk_alloc ?_ _)); refine blk_far ?_ NB443_448.out _; refine qb ?_; exact BK443.out) hb); replace BK448 := am (blk_below (g := gb448) (o := .cells #[.slice Ao65 t444.length co65] 28 (0, 0)) (by (with_reducible repeat (first | refine blk_drewN ?_ _ | refine blk_drew ?_ | refine blk_alloc ?_ _)); refine blk_put (cs := #[.slice none 0 0]) ?_ 0 _ rfl; refine qb ?_; exact BK448.out) hb); replace HB := am (below_step qB hb); (try clear hb); (try clear hb2); (try clear hk); (try clear hi)))
               skip
               go_meet
               case rel => exact ⟨_, (!t449), qe, H', ⟨by have := HJ7.out; have := HJ25.out; first | omega | exact Nat.le_refl _⟩, ⟨qR (Kd.R_mono HO_423000.out (fun _ hk => ⟨hk.1.1, ⟨hk.1.2, hk.2⟩⟩))⟩, ⟨qR (Kd.R_mono HO_428000.out (fun _ hk => ⟨hk.1.1, ⟨hk.1.2, hk.2⟩⟩))⟩, ⟨qR (Kd.R_mono HO441.out (fun _ hk => ⟨hk.1.1.2, ⟨hk.1.2, hk.2⟩⟩))⟩, ⟨qR (Kd.R_mono HO446.out (fun _ hk => ⟨hk.1.1.2, ⟨hk.1.2, hk.2⟩⟩))⟩, ⟨qb BK422.out⟩, ⟨qb BK427.out⟩, ⟨qb BK443.out⟩, ⟨qb BK448.out⟩, ⟨qB⟩⟩
           case rest =>
            clear HC55
            try clear c1
            try clear c2
            try clear p2
            try clear c3
            try clear c4
            try clear p4
            try clear q4
            try clear hx4
            try clear c5
            try clear c6
            try clear p6
            try clear c7
            try clear c17
            try clear c19
            try clear c19b0
            try clear c19b1
            try clear c19b2
            try clear c21
            try clear c25
            try clear c27
            try clear c31
            try clear c38
            try clear c38b0
            try clear c39
            try clear c39b0
            try clear c39b1
            try clear c41
            try clear c42
            try clear c42b0
            try clear c42b1
            try clear c43
            try clear p43
            try clear q43
            try clear hx43
            try clear c44
            try clear c45
            try clear c47
            try clear c47b0
            try clear c48
            try clear c48b0
            try clear c49
            try clear c49b0
            try clear c50
            try clear c50b0
            try clear c50b1
            try clear c51
            try clear c51b0
            try clear c51b1
            try clear c60
            try clear c61
            try clear p64
            try clear c66
            try clear c67
            try clear c68
            try clear c70
            try clear c70b0
            try clear c70b1
            try clear c70b2
            try clear c72
            try clear c73
            try clear c74
            try clear c76
            try clear c77
            try clear hcz13_0
            try clear hcz18_0
            try clear hcz22_0
            try clear hcz23_0
            try clear hcz32_0
            try clear hcz34_0
            try clear hcz36_0
            try clear hcz62_0
            try clear hcz69_0
            try clear hcz75_0
            try clear hcz78_0
            try clear hfz13_0
            try clear hfz18_0
            try clear hfz22_0
            try clear hfz23_0
            try clear hfz32_0
            try clear hfz34_0
            try clear hfz36_0
            try clear hfz62_0
            try clear hfz69_0
            try clear hfz75_0
            try clear hfz78_0
            try clear hx437_0
            try clear p2
            try clear p4
            try clear p43
            try clear p437
            try clear p6
            try clear q4
            try clear q43
            try clear q437
            obtain ⟨kq, x163_54, rfl, HA, HJ54, HO_423000, HO_428000, HO_444000, HO_449000, BK422, BK427, BK443, BK448, HB⟩ := hcut
            cases kq with
            | zero => exact absurd HA.out (by simp [laws_FnKnownPosets.j5])
            | succ kj54 =>
             have H := HA.out
             clear HA
             simp only [laws_FnKnownPosets.j5] at H
             by_cases c80 : x163_54 = true
             ·subst c80
              have H1 : (some false) = some r := by rw [if_pos rfl] at H; exact H
              exact absurd (Option.some.inj H1) (by rw [hrt.out]; decide)
             ·as_aux_lemma =>
                replace c80 := Bool.eq_false_iff.mpr c80
                subst c80
                have H1 : (if t442 = true then ((impl_CountIdeals.f kj54 t439).bind fun bt450 => (laws_FnKnownPosets.l2 kj54 l1 t438 bt450.1 bt450.2 1 0 t439)) else (laws_FnKnownPosets.j7 kj54 l1)) = some r := by rw [if_neg (show ¬ (false = true) by decide)] at H; exact H
                clear H
                have H := H1
                clear H1
                have HC81 := am H
                clear H
                go_upto_if 164 with (fail)
                skip
                go_cut [] (fun wc => ∃ (kq : Nat), Aside0 (laws_FnKnownPosets.j7 kq l1 = some r) ∧ Aside0 (kq ≤ kj54) ∧ Aside0 (Kd.R (Kd.int .i64) 3 wc w.heap.size (fun k_ => some k_ ≠ ((.slice Ao16 t423.length co16) : Value).ownBlock ∧ some k_ ≠ ((.slice Ao59 t439.length co59) : Value).ownBlock ∧ some k_ ≠ ((.slice Ao65 t444.length co65) : Value).ownBlock) (.slice Ao12 t418.length co12) t418) ∧ Aside0 (Kd.R (Kd.int .i64) 3 wc w.heap.size (fun k_ => some k_ ≠ ((.slice Ao12 t418.length co12) : Value).ownBlock ∧ some k_ ≠ ((.slice Ao59 t439.length co59) : Value).ownBlock ∧ some k_ ≠ ((.slice Ao65 t444.length co65) : Value).ownBlock) (.slice Ao16 t423.length co16) t423) ∧ Aside0 (Kd.R (Kd.int .i64) 3 wc w.heap.size (fun k_ => some k_ ≠ ((.slice Ao12 t418.length co12) : Value).ownBlock ∧ some k_ ≠ ((.slice Ao16 t423.length co16) : Value).ownBlock ∧ some k_ ≠ ((.slice Ao65 t444.length co65) : Value).ownBlock) (.slice Ao59 t439.length co59) t439) ∧ Aside0 (Kd.R (Kd.int .i64) 3 wc w.heap.size (fun k_ => some k_ ≠ ((.slice Ao12 t418.length co12) : Value).ownBlock ∧ some k_ ≠ ((.slice Ao16 t423.length co16) : Value).ownBlock ∧ some k_ ≠ ((.slice Ao59 t439.length co59) : Value).ownBlock) (.slice Ao65 t444.length co65) t444) ∧ Aside0 (wc.heap[gb422]? = some (.cells #[(.slice Ao12 t418.length co12)] 28 (0, 0))) ∧ Aside0 (wc.heap[gb427]? = some (.cells #[(.slice Ao16 t423.length co16)] 28 (0, 0))) ∧ Aside0 (wc.heap[gb443]? = some (.cells #[(.slice Ao59 t439.length co59)] 28 (0, 0))) ∧ Aside0 (wc.heap[gb448]? = some (.cells #[(.slice Ao65 t444.length co65)] 28 (0, 0))) ∧ Aside0 (Below w.heap.size w wc))
                case first =>
                 have H := HC81.out
                 clear HC81
                 by_cases c82 : t442 = true
                 ·as_aux_lemma =>
                    subst c82
                    have H1 : ((impl_CountIdeals.f kj54 t439).bind fun bt450 => (laws_FnKnownPosets.l2 kj54 l1 t438 bt450.1 bt450.2 1 0 t439)) = some r := by rw [if_pos rfl] at H; exact H
                    clear H
                    have H := H1
                    clear H1
                    replace H := Option.bind_eq_some_iff.mp H
                    obtain ⟨⟨t450, t451⟩, A830, H⟩ := H
                    replace H : (laws_FnKnownPosets.l2 kj54 l1 t438 t450 t451 1 0 t439) = some r := H
                    have A83 := am A830
                    clear A830
                    have H' := am H
                    clear H
                    have hnb84 := NB443_422.out
                    have hnc84 := NB422_443.out
                    have hnb85 := NB443_427.out
                    have hnc85 := NB427_443.out
                    have hnb86 := NB443_448.out
                    have hnc86 := NB448_443.out
                    have hcz87_0 := qz wc BK443.out
                    have hfz87_0 := blk_frozen BK443.out 0
                    go_wp2_with ((go_at_call 12; (with_reducible refine (impl_CountIdeals.calls kj54 _ _ t439 t450 t451 _ ?side1 ?side2 A83.out).mono ?_); (case side1 => exact qC (Kd.R_reads' HO_444000.out).2.2); (case side2 => exact (Kd.R_reads' HO_444000.out).2.1); rintro e w88 ⟨rfl, hb⟩; replace HO_423000 := am (Kd.R_below (qR HO_423000.out) hb); replace HO_428000 := am (Kd.R_below (qR HO_428000.out) hb); replace HO_444000 := am (Kd.R_below (qR HO_444000.out) hb); replace HO_449000 := am (Kd.R_below (qR HO_449000.out) hb); replace BK422 := am (blk_below (g := gb422) (o := .cells #[.slice Ao12 t418.length co12] 28 (0, 0)) (qb BK422.out) hb); replace BK427 := am (blk_below (g := gb427) (o := .cells #[.slice Ao16 t423.length co16] 28 (0, 0)) (qb BK427.out) hb); replace BK443 := am (blk_below (g := gb443) (o := .cells #[.slice Ao59 t439.length co59] 28 (0, 0)) (qb BK443.out) hb); replace BK448 := am (blk_below (g := gb448) (o := .cells #[.slice Ao65 t444.length co65] 28 (0, 0)) (qb BK448.out) hb); replace HB := am (below_step qB hb); (try clear hb); (try clear hb2); (try clear hk); (try clear hi)))
                    skip
                    go_loopg [28, 29] kj54 (fun kq v28 v29 w' => ∃ (x28_4 : Int) (x29_4 : Int), v28 = .int .i64 x28_4 ∧ v29 = .int .i64 x29_4 ∧ Aside0 (laws_FnKnownPosets.l2 kq l1 t438 t450 t451 x28_4 x29_4 t439 = some r) ∧ Aside0 (kq ≤ kj54) ∧ Aside0 (Kd.R (Kd.int .i64) 3 w' w.heap.size (fun k_ => some k_ ≠ ((.slice Ao16 t423.length co16) : Value).ownBlock ∧ some k_ ≠ ((.slice Ao59 t439.length co59) : Value).ownBlock ∧ some k_ ≠ ((.slice Ao65 t444.length co65) : Value).ownBlock) (.slice Ao12 t418.length co12) t418) ∧ Aside0 (Kd.R (Kd.int .i64) 3 w' w.heap.size (fun k_ => some k_ ≠ ((.slice Ao12 t418.length co12) : Value).ownBlock ∧ some k_ ≠ ((.slice Ao59 t439.length co59) : Value).ownBlock ∧ some k_ ≠ ((.slice Ao65 t444.length co65) : Value).ownBlock) (.slice Ao16 t423.length co16) t423) ∧ Aside0 (Kd.R (Kd.int .i64) 3 w' w.heap.size (fun k_ => some k_ ≠ ((.slice Ao12 t418.length co12) : Value).ownBlock ∧ some k_ ≠ ((.slice Ao16 t423.length co16) : Value).ownBlock ∧ some k_ ≠ ((.slice Ao65 t444.length co65) : Value).ownBlock) (.slice Ao59 t439.length co59) t439) ∧ Aside0 (Kd.R (Kd.int .i64) 3 w' w.heap.size (fun k_ => some k_ ≠ ((.slice Ao12 t418.length co12) : Value).ownBlock ∧ some k_ ≠ ((.slice Ao16 t423.length co16) : Value).ownBlock ∧ some k_ ≠ ((.slice Ao59 t439.length co59) : Value).ownBlock) (.slice Ao65 t444.length co65) t444) ∧ Aside0 (w'.heap[gb422]? = some (.cells #[(.slice Ao12 t418.length co12)] 28 (0, 0))) ∧ Aside0 (w'.heap[gb427]? = some (.cells #[(.slice Ao16 t423.length co16)] 28 (0, 0))) ∧ Aside0 (w'.heap[gb443]? = some (.cells #[(.slice Ao59 t439.length co59)] 28 (0, 0))) ∧ Aside0 (w'.heap[gb448]? = some (.cells #[(.slice Ao65 t444.length co65)] 28 (0, 0))) ∧ Aside0 (Below w.heap.size w w'))
                    case atStart => exact ⟨(1), (0), qe, qe, H', ⟨Nat.le_refl _⟩, ⟨qR HO_423000.out⟩, ⟨qR HO_428000.out⟩, ⟨qR HO_444000.out⟩, ⟨qR HO_449000.out⟩, ⟨qb BK422.out⟩, ⟨qb BK427.out⟩, ⟨qb BK443.out⟩, ⟨qb BK448.out⟩, ⟨qB⟩⟩
                    case round =>
                     clear H'
                     try clear c1
                     try clear c2
                     try clear p2
                     try clear c3
                     try clear c4
                     try clear p4
                     try clear q4
                     try clear hx4
                     try clear c5
                     try clear c6
                     try clear p6
                     try clear c7
                     try clear c8
                     try clear c17
                     try clear c19
                     try clear c19b0
                     try clear c19b1
                     try clear c19b2
                     try clear c21
                     try clear c25
                     try clear c27
                     try clear c31
                     try clear c38
                     try clear c38b0
                     try clear c39
                     try clear c39b0
                     try clear c39b1
                     try clear c41
                     try clear c42
                     try clear c42b0
                     try clear c42b1
                     try clear c43
                     try clear p43
                     try clear q43
                     try clear hx43
                     try clear c44
                     try clear c45
                     try clear c47
                     try clear c47b0
                     try clear c48
                     try clear c48b0
                     try clear c49
                     try clear c49b0
                     try clear c50
                     try clear c50b0
                     try clear c50b1
                     try clear c51
                     try clear c51b0
                     try clear c51b1
                     try clear c60
                     try clear c61
                     try clear p64
                     try clear c66
                     try clear c67
                     try clear c68
                     try clear c70
                     try clear c70b0
                     try clear c70b1
                     try clear c70b2
                     try clear c72
                     try clear c73
                     try clear c74
                     try clear c76
                     try clear c77
                     try clear c80
                     try clear c82
                     try clear c84
                     try clear c85
                     try clear c86
                     try clear hcz13_0
                     try clear hcz18_0
                     try clear hcz22_0
                     try clear hcz23_0
                     try clear hcz32_0
                     try clear hcz34_0
                     try clear hcz36_0
                     try clear hcz62_0
                     try clear hcz69_0
                     try clear hcz75_0
                     try clear hcz78_0
                     try clear hcz87_0
                     try clear hfz13_0
                     try clear hfz18_0
                     try clear hfz22_0
                     try clear hfz23_0
                     try clear hfz32_0
                     try clear hfz34_0
                     try clear hfz36_0
                     try clear hfz62_0
                     try clear hfz69_0
                     try clear hfz75_0
                     try clear hfz78_0
                     try clear hfz87_0
                     try clear hx437_0
                     try clear p2
                     try clear p4
                     try clear p43
                     try clear p437
                     try clear p6
                     try clear p64
                     try clear q4
                     try clear q43
                     try clear q437
                     obtain ⟨x28_4, x29_4, rfl, rfl, HA, HK4, HO_423000, HO_428000, HO_444000, HO_449000, BK422, BK427, BK443, BK448, HB⟩ := hrel
                     cases gk with
                     | zero => exact absurd HA.out (by simp [laws_FnKnownPosets.l2])
                     | succ k4 =>
                      have H := HA.out
                      clear HA
                      simp only [laws_FnKnownPosets.l2] at H
                      by_cases c89 : x29_4 ≤ t438
                      ·as_aux_lemma =>
                         rw [if_pos c89] at H
                         have c89b0 := decide_eq_true c89
                         clear c89
                         (first | rw [c89b0] | (simp only [i64_w, i32_w]; rw [c89b0]) | skip)
                         by_cases c90 : (wrap64 (x29_4 + 2)) = 0
                         ·rw [if_pos c90] at H
                          exact absurd H (by simp)
                         ·rw [if_neg c90] at H
                          have c90b0 : ((wrap64 (x29_4 + 2)) == 0) = false := beq_eq_false_iff_ne.mpr c90
                          have c90b1 : ((wrap64 (x29_4 + 2)) != 0) = true := bne_iff_ne.mpr c90
                          have H' := am H
                          clear H
                          go_wp2
                          skip
                          go_roundg k4
                          case measure => have := HJ7.out; have := HJ25.out; have := HJ54.out; have := HK4.out; omega
                          case rel => exact ⟨(wrap64 (Int.tdiv (wrap64 ((wrap64 (x28_4 * 2)) * (wrap64 ((wrap64 (2 * x29_4)) + 1)))) (wrap64 (x29_4 + 2)))), (wrap64 (x29_4 + 1)), qe, qe, H', ⟨by have := HJ7.out; have := HJ25.out; have := HJ54.out; have := HK4.out; omega⟩, ⟨qR HO_423000.out⟩, ⟨qR HO_428000.out⟩, ⟨qR HO_444000.out⟩, ⟨qR HO_449000.out⟩, ⟨qb BK422.out⟩, ⟨qb BK427.out⟩, ⟨qb BK443.out⟩, ⟨qb BK448.out⟩, ⟨qB⟩⟩
                      ·as_aux_lemma =>
                         rw [if_neg c89] at H
                         have c89b0 := decide_eq_false c89
                         clear c89
                         (first | rw [c89b0] | (simp only [i64_w, i32_w]; rw [c89b0]) | skip)
                         by_cases c91 : t451 = true
                         ·as_aux_lemma =>
                            subst c91
                            have H1 : (if t450 = x28_4 then (if (t439.length : Int) = (wrap64 (Int.tdiv (wrap64 (t438 * (wrap64 (t438 + 1)))) 2)) then (laws_FnKnownPosets.j7 k4 l1) else (some false)) else (some false)) = some r := by rw [if_pos rfl] at H; exact H
                            clear H
                            have H := H1
                            clear H1
                            by_cases c92 : t450 = x28_4
                            ·as_aux_lemma =>
                               rw [if_pos c92] at H
                               have c92b0 : (t450 == x28_4) = true := beq_iff_eq.mpr c92
                               have c92b1 : (t450 != x28_4) = false := bne_eq_false_iff_eq.mpr c92
                               clear c92
                               by_cases c93 : (t439.length : Int) = (wrap64 (Int.tdiv (wrap64 (t438 * (wrap64 (t438 + 1)))) 2))
                               ·as_aux_lemma =>
                                  rw [if_pos c93] at H
                                  have c93b0 : ((t439.length : Int) == (wrap64 (Int.tdiv (wrap64 (t438 * (wrap64 (t438 + 1)))) 2))) = true := beq_iff_eq.mpr c93
                                  have c93b1 : ((t439.length : Int) != (wrap64 (Int.tdiv (wrap64 (t438 * (wrap64 (t438 + 1)))) 2))) = false := bne_eq_false_iff_eq.mpr c93
                                  clear c93
                                  have H' := am H
                                  clear H
                                  have hnb94 := NB443_422.out
                                  have hnc94 := NB422_443.out
                                  have hnb95 := NB443_427.out
                                  have hnc95 := NB427_443.out
                                  have hnb96 := NB443_448.out
                                  have hnc96 := NB448_443.out
                                  have hcz97_0 := qz wr BK443.out
                                  have hfz97_0 := blk_frozen BK443.out 0
                                  go_wp2
                                  skip
                                  go_meet
                                  case rel => exact ⟨_, H', ⟨by have := HJ7.out; have := HJ25.out; have := HJ54.out; have := HK4.out; first | omega | exact Nat.le_refl _⟩, ⟨qR HO_423000.out⟩, ⟨qR HO_428000.out⟩, ⟨qR HO_444000.out⟩, ⟨qR HO_449000.out⟩, ⟨qb BK422.out⟩, ⟨qb BK427.out⟩, ⟨qb BK443.out⟩, ⟨qb BK448.out⟩, ⟨qB⟩⟩
                               ·as_aux_lemma =>
                                  rw [if_neg c93] at H
                                  exact absurd (Option.some.inj H) (by rw [hrt.out]; decide)
                            ·rw [if_neg c92] at H
                             exact absurd (Option.some.inj H) (by rw [hrt.out]; decide)
                         ·replace c91 := Bool.eq_false_iff.mpr c91
                          subst c91
                          have H1 : (some false) = some r := by rw [if_neg (show ¬ (false = true) by decide)] at H; exact H
                          exact absurd (Option.some.inj H1) (by rw [hrt.out]; decide)
                 ·as_aux_lemma =>
                    replace c82 := Bool.eq_false_iff.mpr c82
                    subst c82
                    have H1 : (laws_FnKnownPosets.j7 kj54 l1) = some r := by rw [if_neg (show ¬ (false = true) by decide)] at H; exact H
                    clear H
                    have H := H1
                    clear H1
                    have H' := am H
                    clear H
                    go_wp2
                    skip
                    go_meet
                    case rel => exact ⟨_, H', ⟨by have := HJ7.out; have := HJ25.out; have := HJ54.out; first | omega | exact Nat.le_refl _⟩, ⟨qR HO_423000.out⟩, ⟨qR HO_428000.out⟩, ⟨qR HO_444000.out⟩, ⟨qR HO_449000.out⟩, ⟨qb BK422.out⟩, ⟨qb BK427.out⟩, ⟨qb BK443.out⟩, ⟨qb BK448.out⟩, ⟨qB⟩⟩
                case rest =>
                 clear HC81
                 try clear c1
                 try clear c2
                 try clear p2
                 try clear c3
                 try clear c4
                 try clear p4
                 try clear q4
                 try clear hx4
                 try clear c5
                 try clear c6
                 try clear p6
                 try clear c7
                 try clear c8
                 try clear c9
                 try clear c10
                 try clear c17
                 try clear c19
                 try clear c19b0
                 try clear c19b1
                 try clear c19b2
                 try clear c21
                 try clear c25
                 try clear c27
                 try clear c31
                 try clear c38
                 try clear c38b0
                 try clear c39
                 try clear c39b0
                 try clear c39b1
                 try clear c41
                 try clear c42
                 try clear c42b0
                 try clear c42b1
                 try clear c43
                 try clear p43
                 try clear q43
                 try clear hx43
                 try clear c44
                 try clear c45
                 try clear c47
                 try clear c47b0
                 try clear c48
                 try clear c48b0
                 try clear c49
                 try clear c49b0
                 try clear c50
                 try clear c50b0
                 try clear c50b1
                 try clear c51
                 try clear c51b0
                 try clear c51b1
                 try clear c60
                 try clear c61
                 try clear p64
                 try clear c66
                 try clear c67
                 try clear c68
                 try clear c70
                 try clear c70b0
                 try clear c70b1
                 try clear c70b2
                 try clear c72
                 try clear c73
                 try clear c74
                 try clear c76
                 try clear c77
                 try clear c80
                 try clear c82
                 try clear c84
                 try clear c85
                 try clear c86
                 try clear c89
                 try clear c89b0
                 try clear c90
                 try clear c90b0
                 try clear c90b1
                 try clear c91
                 try clear c92
                 try clear c92b0
                 try clear c92b1
                 try clear c93
                 try clear c93b0
                 try clear c93b1
                 try clear c94
                 try clear c95
                 try clear c96
                 try clear c98
                 try clear c99
                 try clear c100
                 try clear hcz101_0
                 try clear hcz13_0
                 try clear hcz18_0
                 try clear hcz22_0
                 try clear hcz23_0
                 try clear hcz32_0
                 try clear hcz34_0
                 try clear hcz36_0
                 try clear hcz62_0
                 try clear hcz69_0
                 try clear hcz75_0
                 try clear hcz78_0
                 try clear hcz87_0
                 try clear hcz97_0
                 try clear hfz101_0
                 try clear hfz13_0
                 try clear hfz18_0
                 try clear hfz22_0
                 try clear hfz23_0
                 try clear hfz32_0
                 try clear hfz34_0
                 try clear hfz36_0
                 try clear hfz62_0
                 try clear hfz69_0
                 try clear hfz75_0
                 try clear hfz78_0
                 try clear hfz87_0
                 try clear hfz97_0
                 try clear hx437_0
                 try clear p2
                 try clear p4
                 try clear p43
                 try clear p437
                 try clear p6
                 try clear p64
                 try clear q4
                 try clear q43
                 try clear q437
                 obtain ⟨kq, HA, HJ80, HO_423000, HO_428000, HO_444000, HO_449000, BK422, BK427, BK443, BK448, HB⟩ := hcut
                 cases kq with
                 | zero => exact absurd HA.out (by simp [laws_FnKnownPosets.j7])
                 | succ kj80 =>
                  have H := HA.out
                  clear HA
                  simp only [laws_FnKnownPosets.j7] at H
                  replace H := Option.bind_eq_some_iff.mp H
                  obtain ⟨t452, A1020, H⟩ := H
                  replace H : ((impl_Fence.f kj80 t452).bind fun bt453 => ((spec_Fence.f kj80 t452).bind fun bt458 => (if (bt453.2 != bt458.2) = true then (laws_FnKnownPosets.j8 kj80 l1 t452 bt453.2 true bt453.1) else ((laws_nPoset.f kj80 bt453.1 bt458.1).bind fun t463 => (laws_FnKnownPosets.j8 kj80 l1 t452 bt453.2 (!t463) bt453.1))))) = some r := H
                  have A102 := am A1020
                  clear A1020
                  replace H := Option.bind_eq_some_iff.mp H
                  obtain ⟨⟨t453, t456⟩, A1030, H⟩ := H
                  replace H : ((spec_Fence.f kj80 t452).bind fun bt458 => (if (t456 != bt458.2) = true then (laws_FnKnownPosets.j8 kj80 l1 t452 t456 true t453) else ((laws_nPoset.f kj80 t453 bt458.1).bind fun t463 => (laws_FnKnownPosets.j8 kj80 l1 t452 t456 (!t463) t453)))) = some r := H
                  have A103 := am A1030
                  clear A1030
                  replace H := Option.bind_eq_some_iff.mp H
                  obtain ⟨⟨t458, t461⟩, A1040, H⟩ := H
                  replace H : (if (t456 != t461) = true then (laws_FnKnownPosets.j8 kj80 l1 t452 t456 true t453) else ((laws_nPoset.f kj80 t453 t458).bind fun t463 => (laws_FnKnownPosets.j8 kj80 l1 t452 t456 (!t463) t453))) = some r := H
                  have A104 := am A1040
                  clear A1040
                  have HC105 := am H
                  clear H
                  go_upto_region 42 with (first | (go_at_call 18; (with_reducible refine (spec_DrawFence.calls kj80 _ _ l1 t452 _ ?side1 ?side2 A102.out).mono ?_); (case side1 => exact qC (Kd.C_below HR1.out HB.out)); (case side2 => exact HC1.out); rintro e w106 ⟨rfl, hb⟩; replace HO_423000 := am (Kd.R_below (qR HO_423000.out) hb); replace HO_428000 := am (Kd.R_below (qR HO_428000.out) hb); replace HO_444000 := am (Kd.R_below (qR HO_444000.out) hb); replace HO_449000 := am (Kd.R_below (qR HO_449000.out) hb); replace BK422 := am (blk_below (g := gb422) (o := .cells #[.slice Ao12 t418.length co12] 28 (0, 0)) (qb BK422.out) hb); replace BK427 := am (blk_below (g := gb427) (o := .cells #[.slice Ao16 t423.length co16] 28 (0, 0)) (qb BK427.out) hb); replace BK443 := am (blk_below (g := gb443) (o := .cells #[.slice Ao59 t439.length co59] 28 (0, 0)) (qb BK443.out) hb); replace BK448 := am (blk_below (g := gb448) (o := .cells #[.slice Ao65 t444.length co65] 28 (0, 0)) (qb BK448.out) hb); replace HB := am (below_step qB hb); (try clear hb); (try clear hb2); (try clear hk); (try clear hi)) | (go_at_call 19; (with_reducible refine (impl_Fence.calls kj80 t452 t453 t456 _ A103.out).mono ?_); rintro e w107 ⟨v454, rfl, ho0, hb⟩; have n0_ := am (Kd.R_elder' (qR HO_423000.out) (Kd.R_base ho0) hb); have n1_ := am (Kd.R_elder' (qR HO_428000.out) (Kd.R_base ho0) hb); have n2_ := am (Kd.R_elder' (qR HO_444000.out) (Kd.R_base ho0) hb); have n3_ := am (Kd.R_elder' (qR HO_449000.out) (Kd.R_base ho0) hb); have HO455 := am (Kd.R_lower (Kd.R_new' (Kd.R_new' (Kd.R_new' (Kd.R_new' ho0 (Kd.R_lt (qR HO_423000.out))) (Kd.R_lt (qR HO_428000.out))) (Kd.R_lt (qR HO_444000.out))) (Kd.R_lt (qR HO_449000.out))) (below_size qB)); replace BK422 := am (blk_below (g := gb422) (o := .cells #[.slice Ao12 t418.length co12] 28 (0, 0)) (qb BK422.out) hb); replace BK427 := am (blk_below (g := gb427) (o := .cells #[.slice Ao16 t423.length co16] 28 (0, 0)) (qb BK427.out) hb); replace BK443 := am (blk_below (g := gb443) (o := .cells #[.slice Ao59 t439.length co59] 28 (0, 0)) (qb BK443.out) hb); replace BK448 := am (blk_below (g := gb448) (o := .cells #[.slice Ao65 t444.length co65] 28 (0, 0)) (qb BK448.out) hb); replace HB := am (below_step qB hb); clear HO_423000 HO_428000 HO_444000 HO_449000; have HO_423000 := n0_; have HO_428000 := n1_; have HO_444000 := n2_; have HO_449000 := n3_; clear n0_ n1_ n2_ n3_; (try clear hb); (try clear hb2); (try clear hk); (try clear hi); (try clear ho0)) | ((with_reducible refine gate_dst (N := 31) rfl ?_); refine qx (N := 31) (cs := #[.slice none 0 0]) (t := 28) ?_; intro gb457 hg w108 hbox hb; replace HO_423000 := am (Kd.R_below (qR HO_423000.out) hb); replace HO_428000 := am (Kd.R_below (qR HO_428000.out) hb); replace HO_444000 := am (Kd.R_below (qR HO_444000.out) hb); replace HO_449000 := am (Kd.R_below (qR HO_449000.out) hb); replace HO455 := am (Kd.R_below (qR HO455.out) hb); have n5_ := am (blk_below (g := gb422) (o := .cells #[.slice Ao12 t418.length co12] 28 (0, 0)) (qb BK422.out) hb); have n6_ := am (blk_below (g := gb427) (o := .cells #[.slice Ao16 t423.length co16] 28 (0, 0)) (qb BK427.out) hb); have n7_ := am (blk_below (g := gb443) (o := .cells #[.slice Ao59 t439.length co59] 28 (0, 0)) (qb BK443.out) hb); have n8_ := am (blk_below (g := gb448) (o := .cells #[.slice Ao65 t444.length co65] 28 (0, 0)) (qb BK448.out) hb); have n9_ := am (below_step qB hb); have BK457 := am (hbox); have GW457 := am (qg w hg); have GE457 := am (qg w hg); have NB422_457 := am ((by rw [hg]; exact Nat.ne_of_lt (blk_lt (g := gb422) (o := .cells #[.slice Ao12 t418.length co12] 28 (0, 0)) (qb BK422.out)) : gb422 ≠ gb457)); have NB457_422 := am ((by rw [hg]; exact Nat.ne_of_gt (blk_lt (g := gb422) (o := .cells #[.slice Ao12 t418.length co12] 28 (0, 0)) (qb BK422.out)) : gb457 ≠ gb422)); have NB427_457 := am ((by rw [hg]; exact Nat.ne_of_lt (blk_lt (g := gb427) (o := .cells #[.slice Ao16 t423.length co16] 28 (0, 0)) (qb BK427.out)) : gb427 ≠ gb457)); have NB457_427 := am ((by rw [hg]; exact Nat.ne_of_gt (blk_lt (g := gb427) (o := .cells #[.slice Ao16 t423.length co16] 28 (0, 0)) (qb BK427.out)) : gb457 ≠ gb427)); have NB443_457 := am ((by rw [hg]; exact Nat.ne_of_lt (blk_lt (g := gb443) (o := .cells #[.slice Ao59 t439.length co59] 28 (0, 0)) (qb BK443.out)) : gb443 ≠ gb457)); have NB457_443 := am ((by rw [hg]; exact Nat.ne_of_gt (blk_lt (g := gb443) (o := .cells #[.slice Ao59 t439.length co59] 28 (0, 0)) (qb BK443.out)) : gb457 ≠ gb443)); have NB448_457 := am ((by rw [hg]; exact Nat.ne_of_lt (blk_lt (g := gb448) (o := .cells #[.slice Ao65 t444.length co65] 28 (0, 0)) (qb BK448.out)) : gb448 ≠ gb457)); have NB457_448 := am ((by rw [hg]; exact Nat.ne_of_gt (blk_lt (g := gb448) (o := .cells #[.slice Ao65 t444.length co65] 28 (0, 0)) (qb BK448.out)) : gb457 ≠ gb448)); clear BK422 BK427 BK443 BK448 HB; have BK422 := n5_; have BK427 := n6_; have BK443 := n7_; have BK448 := n8_; have HB := n9_; clear n5_ n6_ n7_ n8_ n9_; clear hb hbox hg; obtain ⟨Ao109, co109, eo109⟩ := Kd.R_slice HO455.out; subst eo109; have hnb110 := NB457_422.out; have hnc110 := NB422_457.out; have hnb111 := NB457_427.out; have hnc111 := NB427_457.out; have hnb112 := NB457_443.out; have hnc112 := NB443_457.out; have hnb113 := NB457_448.out; have hnc113 := NB448_457.out; have hcz114_0 := qz w108 BK457.out; have hfz114_0 := blk_frozen BK457.out 0) | (go_at_call 20; (with_reducible refine (spec_Fence.calls kj80 t452 t458 t461 _ A104.out).mono ?_); rintro e w115 ⟨v459, rfl, ho0, hb⟩; have n0_ := am (Kd.R_elder' (qR ((Kd.R_mono (Kd.R_far (p := ⟨gb457, 0, none⟩) (Kd.R_types HO_423000.out BK457.out (by decide)) (fun _ hk => hk.2) (.slice Ao109 t453.length co109)) (fun _ h_ => h_.1)))) (Kd.R_base ho0) hb); have n1_ := am (Kd.R_elder' (qR ((Kd.R_mono (Kd.R_far (p := ⟨gb457, 0, none⟩) (Kd.R_types HO_428000.out BK457.out (by decide)) (fun _ hk => hk.2) (.slice Ao109 t453.length co109)) (fun _ h_ => h_.1)))) (Kd.R_base ho0) hb); have n2_ := am (Kd.R_elder' (qR ((Kd.R_mono (Kd.R_far (p := ⟨gb457, 0, none⟩) (Kd.R_types HO_444000.out BK457.out (by decide)) (fun _ hk => hk.2) (.slice Ao109 t453.length co109)) (fun _ h_ => h_.1)))) (Kd.R_base ho0) hb); have n3_ := am (Kd.R_elder' (qR ((Kd.R_mono (Kd.R_far (p := ⟨gb457, 0, none⟩) (Kd.R_types HO_449000.out BK457.out (by decide)) (fun _ hk => hk.2) (.slice Ao109 t453.length co109)) (fun _ h_ => h_.1)))) (Kd.R_base ho0) hb); have n4_ := am (Kd.R_elder' (qR ((Kd.R_mono (Kd.R_far (p := ⟨gb457, 0, none⟩) (Kd.R_types HO455.out BK457.out (by decide)) (fun _ hk => hk.2) (.slice Ao109 t453.length co109)) (fun _ h_ => h_.1)))) (Kd.R_base ho0) hb); have HO460 := am (Kd.R_lower (Kd.R_new' (Kd.R_new' (Kd.R_new' (Kd.R_new' (Kd.R_new' ho0 (Kd.R_lt (qR ((Kd.R_mono (Kd.R_far (p := ⟨gb457, 0, none⟩) (Kd.R_types HO_423000.out BK457.out (by decide)) (fun _ hk => hk.2) (.slice Ao109 t453.length co109)) (fun _ h_ => h_.1)))))) (Kd.R_lt (qR ((Kd.R_mono (Kd.R_far (p := ⟨gb457, 0, none⟩) (Kd.R_types HO_428000.out BK457.out (by decide)) (fun _ hk => hk.2) (.slice Ao109 t453.length co109)) (fun _ h_ => h_.1)))))) (Kd.R_lt (qR ((Kd.R_mono (Kd.R_far (p := ⟨gb457, 0, none⟩) (Kd.R_types HO_444000.out BK457.out (by decide)) (fun _ hk => hk.2) (.slice Ao109 t453.length co109)) (fun _ h_ => h_.1)))))) (Kd.R_lt (qR ((Kd.R_mono (Kd.R_far (p := ⟨gb457, 0, none⟩) (Kd.R_types HO_449000.out BK457.out (by decide)) (fun _ hk => hk.2) (.slice Ao109 t453.length co109)) (fun _ h_ => h_.1)))))) (Kd.R_lt (qR ((Kd.R_mono (Kd.R_far (p := ⟨gb457, 0, none⟩) (Kd.R_types HO455.out BK457.out (by decide)) (fun _ hk => hk.2) (.slice Ao109 t453.length co109)) (fun _ h_ => h_.1)))))) (below_size qB)); replace BK422 := am (blk_below (g := gb422) (o := .cells #[.slice Ao12 t418.length co12] 28 (0, 0)) (by (with_reducible repeat (first | refine blk_drewN ?_ _ | refine blk_drew ?_ | refine blk_alloc ?_ _)); refine blk_far ?_ NB422_457.out _; refine qb ?_; exact BK422.out) hb); replace BK427 := am (blk_below (g := gb427) (o := .cells #[.slice Ao16 t423.length co16] 28 (0, 0)) (by (with_reducible repeat (first | refine blk_drewN ?_ _ | refine blk_drew ?_ | refine blk_alloc ?_ _)); refine blk_far ?_ NB427_457.out _; refine qb ?_; exact BK427.out) hb); replace BK443 := am (blk_below (g := gb443) (o := .cells #[.slice Ao59 t439.length co59] 28 (0, 0)) (by (with_reducible repeat (first | refine blk_drewN ?_ _ | refine blk_drew ?_ | refine blk_alloc ?_ _)); refine blk_far ?_ NB443_457.out _; refine qb ?_; exact BK443.out) hb); replace BK448 := am (blk_below (g := gb448) (o := .cells #[.slice Ao65 t444.length co65] 28 (0, 0)) (by (with_reducible repeat (first | refine blk_drewN ?_ _ | refine blk_drew ?_ | refine blk_alloc ?_ _)); refine blk_far ?_ NB448_457.out _; refine qb ?_; exact BK448.out) hb); replace BK457 := am (blk_below (g := gb457) (o := .cells #[.slice Ao109 t453.length co109] 28 (0, 0)) (by (with_reducible repeat (first | refine blk_drewN ?_ _ | refine blk_drew ?_ | refine blk_alloc ?_ _)); refine blk_put (cs := #[.slice none 0 0]) ?_ 0 _ rfl; refine qb ?_; exact BK457.out) hb); replace HB := am (below_step qB hb); clear HO_423000 HO_428000 HO_444000 HO_449000 HO455; have HO_423000 := n0_; have HO_428000 := n1_; have HO_444000 := n2_; have HO_449000 := n3_; have HO455 := n4_; clear n0_ n1_ n2_ n3_ n4_; (try clear hb); (try clear hb2); (try clear hk); (try clear hi); (try clear ho0)) | ((with_reducible refine gate_dst (N := 33) rfl ?_); refine qx (N := 33) (cs := #[.slice none 0 0]) (t := 28) ?_; intro gb462 hg w116 hbox hb; replace HO_423000 := am (Kd.R_below (qR HO_423000.out) hb); replace HO_428000 := am (Kd.R_below (qR HO_428000.out) hb); replace HO_444000 := am (Kd.R_below (qR HO_444000.out) hb); replace HO_449000 := am (Kd.R_below (qR HO_449000.out) hb); replace HO455 := am (Kd.R_below (qR HO455.out) hb); replace HO460 := am (Kd.R_below (qR HO460.out) hb); have n6_ := am (blk_below (g := gb422) (o := .cells #[.slice Ao12 t418.length co12] 28 (0, 0)) (qb BK422.out) hb); have n7_ := am (blk_below (g := gb427) (o := .cells #[.slice Ao16 t423.length co16] 28 (0, 0)) (qb BK427.out) hb); have n8_ := am (blk_below (g := gb443) (o := .cells #[.slice Ao59 t439.length co59] 28 (0, 0)) (qb BK443.out) hb); have n9_ := am (blk_below (g := gb448) (o := .cells #[.slice Ao65 t444.length co65] 28 (0, 0)) (qb BK448.out) hb); have n10_ := am (blk_below (g := gb457) (o := .cells #[.slice Ao109 t453.length co109] 28 (0, 0)) (qb BK457.out) hb); have n11_ := am (below_step qB hb); have BK462 := am (hbox); have GW462 := am (qg w hg); have GE462 := am (qg w hg); have NB422_462 := am ((by rw [hg]; exact Nat.ne_of_lt (blk_lt (g := gb422) (o := .cells #[.slice Ao12 t418.length co12] 28 (0, 0)) (qb BK422.out)) : gb422 ≠ gb462)); have NB462_422 := am ((by rw [hg]; exact Nat.ne_of_gt (blk_lt (g := gb422) (o := .cells #[.slice Ao12 t418.length co12] 28 (0, 0)) (qb BK422.out)) : gb462 ≠ gb422)); have NB427_462 := am ((by rw [hg]; exact Nat.ne_of_lt (blk_lt (g := gb427) (o := .cells #[.slice Ao16 t423.length co16] 28 (0, 0)) (qb BK427.out)) : gb427 ≠ gb462)); have NB462_427 := am ((by rw [hg]; exact Nat.ne_of_gt (blk_lt (g := gb427) (o := .cells #[.slice Ao16 t423.length co16] 28 (0, 0)) (qb BK427.out)) : gb462 ≠ gb427)); have NB443_462 := am ((by rw [hg]; exact Nat.ne_of_lt (blk_lt (g := gb443) (o := .cells #[.slice Ao59 t439.length co59] 28 (0, 0)) (qb BK443.out)) : gb443 ≠ gb462)); have NB462_443 := am ((by rw [hg]; exact Nat.ne_of_gt (blk_lt (g := gb443) (o := .cells #[.slice Ao59 t439.length co59] 28 (0, 0)) (qb BK443.out)) : gb462 ≠ gb443)); have NB448_462 := am ((by rw [hg]; exact Nat.ne_of_lt (blk_lt (g := gb448) (o := .cells #[.slice Ao65 t444.length co65] 28 (0, 0)) (qb BK448.out)) : gb448 ≠ gb462)); have NB462_448 := am ((by rw [hg]; exact Nat.ne_of_gt (blk_lt (g := gb448) (o := .cells #[.slice Ao65 t444.length co65] 28 (0, 0)) (qb BK448.out)) : gb462 ≠ gb448)); have NB457_462 := am ((by rw [hg]; exact Nat.ne_of_lt (blk_lt (g := gb457) (o := .cells #[.slice Ao109 t453.length co109] 28 (0, 0)) (qb BK457.out)) : gb457 ≠ gb462)); have NB462_457 := am ((by rw [hg]; exact Nat.ne_of_gt (blk_lt (g := gb457) (o := .cells #[.slice Ao109 t453.length co109] 28 (0, 0)) (qb BK457.out)) : gb462 ≠ gb457)); clear BK422 BK427 BK443 BK448 BK457 HB; have BK422 := n6_; have BK427 := n7_; have BK443 := n8_; have BK448 := n9_; have BK457 := n10_; have HB := n11_; clear n6_ n7_ n8_ n9_ n10_ n11_; clear hb hbox hg; obtain ⟨Ao117, co117, eo117⟩ := Kd.R_slice HO460.out; subst eo117; have hnb118 := NB462_422.out; have hnc118 := NB422_462.out; have hnb119 := NB462_427.out; have hnc119 := NB427_462.out; have hnb120 := NB462_443.out; have hnc120 := NB443_462.out; have hnb121 := NB462_448.out; have hnc121 := NB448_462.out; have hnb122 := NB462_457.out; have hnc122 := NB457_462.out; have hcz123_0 := qz w116 BK462.out; have hfz123_0 := blk_frozen BK462.out 0))
                  skip
                  (try simp only [Act.put, List.setIfInBounds_toArray, List.set_cons_zero, List.set_cons_succ])
                  go_cut [222] (fun v222 wc => ∃ (kq : Nat) (x222_104 : Bool), v222 = .bool x222_104 ∧ Aside0 (laws_FnKnownPosets.j8 kq l1 t452 t456 x222_104 t453 = some r) ∧ Aside0 (kq ≤ kj80) ∧ Aside0 (Kd.R (Kd.int .i64) 3 wc w.heap.size (fun k_ => some k_ ≠ ((.slice Ao16 t423.length co16) : Value).ownBlock ∧ some k_ ≠ ((.slice Ao59 t439.length co59) : Value).ownBlock ∧ some k_ ≠ ((.slice Ao65 t444.length co65) : Value).ownBlock ∧ some k_ ≠ ((.slice Ao109 t453.length co109) : Value).ownBlock ∧ some k_ ≠ ((.slice Ao117 t458.length co117) : Value).ownBlock) (.slice Ao12 t418.length co12) t418) ∧ Aside0 (Kd.R (Kd.int .i64) 3 wc w.heap.size (fun k_ => some k_ ≠ ((.slice Ao12 t418.length co12) : Value).ownBlock ∧ some k_ ≠ ((.slice Ao59 t439.length co59) : Value).ownBlock ∧ some k_ ≠ ((.slice Ao65 t444.length co65) : Value).ownBlock ∧ some k_ ≠ ((.slice Ao109 t453.length co109) : Value).ownBlock ∧ some k_ ≠ ((.slice Ao117 t458.length co117) : Value).ownBlock) (.slice Ao16 t423.length co16) t423) ∧ Aside0 (Kd.R (Kd.int .i64) 3 wc w.heap.size (fun k_ => some k_ ≠ ((.slice Ao12 t418.length co12) : Value).ownBlock ∧ some k_ ≠ ((.slice Ao16 t423.length co16) : Value).ownBlock ∧ some k_ ≠ ((.slice Ao65 t444.length co65) : Value).ownBlock ∧ some k_ ≠ ((.slice Ao109 t453.length co109) : Value).ownBlock ∧ some k_ ≠ ((.slice Ao117 t458.length co117) : Value).ownBlock) (.slice Ao59 t439.length co59) t439) ∧ Aside0 (Kd.R (Kd.int .i64) 3 wc w.heap.size (fun k_ => some k_ ≠ ((.slice Ao12 t418.length co12) : Value).ownBlock ∧ some k_ ≠ ((.slice Ao16 t423.length co16) : Value).ownBlock ∧ some k_ ≠ ((.slice Ao59 t439.length co59) : Value).ownBlock ∧ some k_ ≠ ((.slice Ao109 t453.length co109) : Value).ownBlock ∧ some k_ ≠ ((.slice Ao117 t458.length co117) : Value).ownBlock) (.slice Ao65 t444.length co65) t444) ∧ Aside0 (Kd.R (Kd.int .i64) 3 wc w.heap.size (fun k_ => some k_ ≠ ((.slice Ao12 t418.length co12) : Value).ownBlock ∧ some k_ ≠ ((.slice Ao16 t423.length co16) : Value).ownBlock ∧ some k_ ≠ ((.slice Ao59 t439.length co59) : Value).ownBlock ∧ some k_ ≠ ((.slice Ao65 t444.length co65) : Value).ownBlock ∧ some k_ ≠ ((.slice Ao117 t458.length co117) : Value).ownBlock) (.slice Ao109 t453.length co109) t453) ∧ Aside0 (Kd.R (Kd.int .i64) 3 wc w.heap.size (fun k_ => some k_ ≠ ((.slice Ao12 t418.length co12) : Value).ownBlock ∧ some k_ ≠ ((.slice Ao16 t423.length co16) : Value).ownBlock ∧ some k_ ≠ ((.slice Ao59 t439.length co59) : Value).ownBlock ∧ some k_ ≠ ((.slice Ao65 t444.length co65) : Value).ownBlock ∧ some k_ ≠ ((.slice Ao109 t453.length co109) : Value).ownBlock) (.slice Ao117 t458.length co117) t458) ∧ Aside0 (wc.heap[gb422]? = some (.cells #[(.slice Ao12 t418.length co12)] 28 (0, 0))) ∧ Aside0 (wc.heap[gb427]? = some (.cells #[(.slice Ao16 t423.length co16)] 28 (0, 0))) ∧ Aside0 (wc.heap[gb443]? = some (.cells #[(.slice Ao59 t439.length co59)] 28 (0, 0))) ∧ Aside0 (wc.heap[gb448]? = some (.cells #[(.slice Ao65 t444.length co65)] 28 (0, 0))) ∧ Aside0 (wc.heap[gb457]? = some (.cells #[(.slice Ao109 t453.length co109)] 28 (0, 0))) ∧ Aside0 (wc.heap[gb462]? = some (.cells #[(.slice Ao117 t458.length co117)] 28 (0, 0))) ∧ Aside0 (Below w.heap.size w wc))
                  case first =>
                   have H := HC105.out
                   clear HC105
                   by_cases c124 : (t456 != t461) = true
                   ·as_aux_lemma =>
                      rw [if_pos c124] at H
                      exact absurd (hrt.out ▸ H) (laws_FnKnownPosets.j8_no _ _ _ _ _)
                   ·as_aux_lemma =>
                      rw [if_neg c124] at H
                      have c124b0 : (t456 != t461) = false := by simpa using c124
                      (try (have c124b1 : decide (t456 = t461) = true := by simpa using c124))
                      (try (have c124b2 : (t456 == t461) = true := by simpa using c124))
                      clear c124
                      (first | rw [c124b0] | (simp only [i64_w, i32_w]; rw [c124b0]) | skip)
                      replace H := Option.bind_eq_some_iff.mp H
                      obtain ⟨t463, A1250, H⟩ := H
                      replace H : (laws_FnKnownPosets.j8 kj80 l1 t452 t456 (!t463) t453) = some r := H
                      have A125 := am A1250
                      clear A1250
                      have H' := am H
                      clear H
                      have hnb126 := NB457_422.out
                      have hnc126 := NB422_457.out
                      have hnb127 := NB457_427.out
                      have hnc127 := NB427_457.out
                      have hnb128 := NB457_443.out
                      have hnc128 := NB443_457.out
                      have hnb129 := NB457_448.out
                      have hnc129 := NB448_457.out
                      have hnb130 := NB457_462.out
                      have hnc130 := NB462_457.out
                      have hcz131_0 := qz w116 BK457.out
                      have hfz131_0 := blk_frozen BK457.out 0
                      have hnb132 := NB462_422.out
                      have hnc132 := NB422_462.out
                      have hnb133 := NB462_427.out
                      have hnc133 := NB427_462.out
                      have hnb134 := NB462_443.out
                      have hnc134 := NB443_462.out
                      have hnb135 := NB462_448.out
                      have hnc135 := NB448_462.out
                      have hcz136_0 := qz w116 BK462.out
                      have hfz136_0 := blk_frozen BK462.out 0
                      go_wp2_with ((go_at_call 11; (with_reducible refine (laws_nPoset.calls kj80 _ _ t453 _ _ t458 t463 _ ?side1 ?side2 ?side3 ?side4 A125.out).mono ?_); (case side1 => refine (Kd.R_reads' (e := 3) (base := w.heap.size) (ok := fun k_ => (((((True ∧ some k_ ≠ (.slice Ao12 t418.length co12 : Value).ownBlock) ∧ some k_ ≠ (.slice Ao16 t423.length co16 : Value).ownBlock) ∧ some k_ ≠ (.slice Ao59 t439.length co59 : Value).ownBlock) ∧ some k_ ≠ (.slice Ao65 t444.length co65 : Value).ownBlock) ∧ some k_ ≠ (.slice Ao117 t458.length co117 : Value).ownBlock)) (n := t453.length) (c := co109) ?_).2.2; exact (qR ((Kd.R_mono (Kd.R_far (p := ⟨gb462, 0, none⟩) (Kd.R_types HO455.out BK462.out (by decide)) (fun _ hk => hk.2) (.slice Ao117 t458.length co117)) (fun _ h_ => h_.1))))); (case side2 => exact (Kd.R_reads' HO455.out).2.1); (case side3 => refine (Kd.R_reads' (e := 3) (base := w.heap.size) (ok := fun k_ => (((((True ∧ some k_ ≠ (.slice Ao12 t418.length co12 : Value).ownBlock) ∧ some k_ ≠ (.slice Ao16 t423.length co16 : Value).ownBlock) ∧ some k_ ≠ (.slice Ao59 t439.length co59 : Value).ownBlock) ∧ some k_ ≠ (.slice Ao65 t444.length co65 : Value).ownBlock) ∧ some k_ ≠ (.slice Ao109 t453.length co109 : Value).ownBlock)) (n := t458.length) (c := co117) ?_).2.2; exact (qR ((Kd.R_mono (Kd.R_far (p := ⟨gb462, 0, none⟩) (Kd.R_types HO460.out BK462.out (by decide)) (fun _ hk => hk.2) (.slice Ao117 t458.length co117)) (fun _ h_ => h_.1))))); (case side4 => exact (Kd.R_reads' HO460.out).2.1); rintro e w137 ⟨rfl, hb⟩; replace HO_423000 := am (Kd.R_below (qR ((Kd.R_mono (Kd.R_far (p := ⟨gb462, 0, none⟩) (Kd.R_types HO_423000.out BK462.out (by decide)) (fun _ hk => hk.2) (.slice Ao117 t458.length co117)) (fun _ h_ => h_.1)))) hb); replace HO_428000 := am (Kd.R_below (qR ((Kd.R_mono (Kd.R_far (p := ⟨gb462, 0, none⟩) (Kd.R_types HO_428000.out BK462.out (by decide)) (fun _ hk => hk.2) (.slice Ao117 t458.length co117)) (fun _ h_ => h_.1)))) hb); replace HO_444000 := am (Kd.R_below (qR ((Kd.R_mono (Kd.R_far (p := ⟨gb462, 0, none⟩) (Kd.R_types HO_444000.out BK462.out (by decide)) (fun _ hk => hk.2) (.slice Ao117 t458.length co117)) (fun _ h_ => h_.1)))) hb); replace HO_449000 := am (Kd.R_below (qR ((Kd.R_mono (Kd.R_far (p := ⟨gb462, 0, none⟩) (Kd.R_types HO_449000.out BK462.out (by decide)) (fun _ hk => hk.2) (.slice Ao117 t458.length co117)) (fun _ h_ => h_.1)))) hb); replace HO455 := am (Kd.R_below (qR ((Kd.R_mono (Kd.R_far (p := ⟨gb462, 0, none⟩) (Kd.R_types HO455.out BK462.out (by decide)) (fun _ hk => hk.2) (.slice Ao117 t458.length co117)) (fun _ h_ => h_.1)))) hb); replace HO460 := am (Kd.R_below (qR ((Kd.R_mono (Kd.R_far (p := ⟨gb462, 0, none⟩) (Kd.R_types HO460.out BK462.out (by decide)) (fun _ hk => hk.2) (.slice Ao117 t458.length co117)) (fun _ h_ => h_.1)))) hb); replace BK422 := am (blk_below (g := gb422) (o := .cells #[.slice Ao12 t418.length co12] 28 (0, 0)) (by (with_reducible repeat (first | refine blk_drewN ?_ _ | refine blk_drew ?_ | refine blk_alloc ?_ _)); refine blk_far ?_ NB422_462.out _; refine qb ?_; exact BK422.out) hb); replace BK427 := am (blk_below (g := gb427) (o := .cells #[.slice Ao16 t423.length co16] 28 (0, 0)) (by (with_reducible repeat (first | refine blk_drewN ?_ _ | refine blk_drew ?_ | refine blk_alloc ?_ _)); refine blk_far ?_ NB427_462.out _; refine qb ?_; exact BK427.out) hb); replace BK443 := am (blk_below (g := gb443) (o := .cells #[.slice Ao59 t439.length co59] 28 (0, 0)) (by (with_reducible repeat (first | refine blk_drewN ?_ _ | refine blk_drew ?_ | refine blk_alloc ?_ _)); refine blk_far ?_ NB443_462.out _; refine qb ?_; exact BK443.out) hb); replace BK448 := am (blk_below (g := gb448) (o := .cells #[.slice Ao65 t444.length co65] 28 (0, 0)) (by (with_reducible repeat (first | refine blk_drewN ?_ _ | refine blk_drew ?_ | refine blk_alloc ?_ _)); refine blk_far ?_ NB448_462.out _; refine qb ?_; exact BK448.out) hb); replace BK457 := am (blk_below (g := gb457) (o := .cells #[.slice Ao109 t453.length co109] 28 (0, 0)) (by (with_reducible repeat (first | refine blk_drewN ?_ _ | refine blk_drew ?_ | refine blk_alloc ?_ _)); refine blk_far ?_ NB457_462.out _; refine qb ?_; exact BK457.out) hb); replace BK462 := am (blk_below (g := gb462) (o := .cells #[.slice Ao117 t458.length co117] 28 (0, 0)) (by (with_reducible repeat (first | refine blk_drewN ?_ _ | refine blk_drew ?_ | refine blk_alloc ?_ _)); refine blk_put (cs := #[.slice none 0 0]) ?_ 0 _ rfl; refine qb ?_; exact BK462.out) hb); replace HB := am (below_step qB hb); (try clear hb); (try clear hb2); (try clear hk); (try clear hi)))
                      skip
                      go_meet
                      case rel => exact ⟨_, (!t463), qe, H', ⟨by have := HJ7.out; have := HJ25.out; have := HJ54.out; have := HJ80.out; first | omega | exact Nat.le_refl _⟩, ⟨qR (Kd.R_mono HO_423000.out (fun _ hk => ⟨hk.1.1.1, ⟨hk.1.1.2.1, ⟨hk.1.1.2.2, ⟨hk.1.2, hk.2⟩⟩⟩⟩))⟩, ⟨qR (Kd.R_mono HO_428000.out (fun _ hk => ⟨hk.1.1.1, ⟨hk.1.1.2.1, ⟨hk.1.1.2.2, ⟨hk.1.2, hk.2⟩⟩⟩⟩))⟩, ⟨qR (Kd.R_mono HO_444000.out (fun _ hk => ⟨hk.1.1.1, ⟨hk.1.1.2.1, ⟨hk.1.1.2.2, ⟨hk.1.2, hk.2⟩⟩⟩⟩))⟩, ⟨qR (Kd.R_mono HO_449000.out (fun _ hk => ⟨hk.1.1.1, ⟨hk.1.1.2.1, ⟨hk.1.1.2.2, ⟨hk.1.2, hk.2⟩⟩⟩⟩))⟩, ⟨qR (Kd.R_mono HO455.out (fun _ hk => ⟨hk.1.1.1.1.2, ⟨hk.1.1.1.2, ⟨hk.1.1.2, ⟨hk.1.2, hk.2⟩⟩⟩⟩))⟩, ⟨qR (Kd.R_mono HO460.out (fun _ hk => ⟨hk.1.1.1.1.2, ⟨hk.1.1.1.2, ⟨hk.1.1.2, ⟨hk.1.2, hk.2⟩⟩⟩⟩))⟩, ⟨qb BK422.out⟩, ⟨qb BK427.out⟩, ⟨qb BK443.out⟩, ⟨qb BK448.out⟩, ⟨qb BK457.out⟩, ⟨qb BK462.out⟩, ⟨qB⟩⟩
                  case rest =>
                   clear HC105
                   try clear c1
                   try clear c2
                   try clear p2
                   try clear c3
                   try clear c4
                   try clear p4
                   try clear q4
                   try clear hx4
                   try clear c5
                   try clear c6
                   try clear p6
                   try clear c7
                   try clear c8
                   try clear c9
                   try clear c10
                   try clear c11
                   try clear c12
                   try clear c13
                   try clear c17
                   try clear c19
                   try clear c19b0
                   try clear c19b1
                   try clear c19b2
                   try clear c21
                   try clear c25
                   try clear c27
                   try clear c31
                   try clear c38
                   try clear c38b0
                   try clear c39
                   try clear c39b0
                   try clear c39b1
                   try clear c41
                   try clear c42
                   try clear c42b0
                   try clear c42b1
                   try clear c43
                   try clear p43
                   try clear q43
                   try clear hx43
                   try clear c44
                   try clear c45
                   try clear c47
                   try clear c47b0
                   try clear c48
                   try clear c48b0
                   try clear c49
                   try clear c49b0
                   try clear c50
                   try clear c50b0
                   try clear c50b1
                   try clear c51
                   try clear c51b0
                   try clear c51b1
                   try clear c60
                   try clear c61
                   try clear p64
                   try clear c66
                   try clear c67
                   try clear c68
                   try clear c70
                   try clear c70b0
                   try clear c70b1
                   try clear c70b2
                   try clear c72
                   try clear c73
                   try clear c74
                   try clear c76
                   try clear c77
                   try clear c80
                   try clear c82
                   try clear c84
                   try clear c85
                   try clear c86
                   try clear c89
                   try clear c89b0
                   try clear c90
                   try clear c90b0
                   try clear c90b1
                   try clear c91
                   try clear c92
                   try clear c92b0
                   try clear c92b1
                   try clear c93
                   try clear c93b0
                   try clear c93b1
                   try clear c94
                   try clear c95
                   try clear c96
                   try clear c98
                   try clear c99
                   try clear c100
                   try clear c110
                   try clear c111
                   try clear c112
                   try clear c113
                   try clear c118
                   try clear c119
                   try clear c120
                   try clear c121
                   try clear c122
                   try clear c124
                   try clear c124b0
                   try clear c124b1
                   try clear c124b2
                   try clear c126
                   try clear c127
                   try clear c128
                   try clear c129
                   try clear c130
                   try clear c132
                   try clear c133
                   try clear c134
                   try clear c135
                   try clear hcz101_0
                   try clear hcz114_0
                   try clear hcz123_0
                   try clear hcz131_0
                   try clear hcz136_0
                   try clear hcz13_0
                   try clear hcz18_0
                   try clear hcz22_0
                   try clear hcz23_0
                   try clear hcz32_0
                   try clear hcz34_0
                   try clear hcz36_0
                   try clear hcz62_0
                   try clear hcz69_0
                   try clear hcz75_0
                   try clear hcz78_0
                   try clear hcz87_0
                   try clear hcz97_0
                   try clear hfz101_0
                   try clear hfz114_0
                   try clear hfz123_0
                   try clear hfz131_0
                   try clear hfz136_0
                   try clear hfz13_0
                   try clear hfz18_0
                   try clear hfz22_0
                   try clear hfz23_0
                   try clear hfz32_0
                   try clear hfz34_0
                   try clear hfz36_0
                   try clear hfz62_0
                   try clear hfz69_0
                   try clear hfz75_0
                   try clear hfz78_0
                   try clear hfz87_0
                   try clear hfz97_0
                   try clear hx437_0
                   try clear p2
                   try clear p4
                   try clear p43
                   try clear p437
                   try clear p6
                   try clear p64
                   try clear q4
                   try clear q43
                   try clear q437
                   obtain ⟨kq, x222_104, rfl, HA, HJ104, HO_423000, HO_428000, HO_444000, HO_449000, HO_458000, HO_463000, BK422, BK427, BK443, BK448, BK457, BK462, HB⟩ := hcut
                   cases kq with
                   | zero => exact absurd HA.out (by simp [laws_FnKnownPosets.j8])
                   | succ kj104 =>
                    have H := HA.out
                    clear HA
                    simp only [laws_FnKnownPosets.j8] at H
                    by_cases c138 : x222_104 = true
                    ·subst c138
                     have H1 : (some false) = some r := by rw [if_pos rfl] at H; exact H
                     exact absurd (Option.some.inj H1) (by rw [hrt.out]; decide)
                    ·as_aux_lemma =>
                       replace c138 := Bool.eq_false_iff.mpr c138
                       subst c138
                       have H1 : (if t456 = true then ((impl_CountIdeals.f kj104 t453).bind fun bt464 => (laws_FnKnownPosets.l3 kj104 l1 t452 bt464.1 bt464.2 1 2 1)) else (laws_FnKnownPosets.j10 kj104 l1)) = some r := by rw [if_neg (show ¬ (false = true) by decide)] at H; exact H
                       clear H
                       have H := H1
                       clear H1
                       have HC139 := am H
                       clear H
                       go_upto_if 223 with (fail)
                       skip
                       go_cut [] (fun wc => ∃ (kq : Nat), Aside0 (laws_FnKnownPosets.j10 kq l1 = some r) ∧ Aside0 (kq ≤ kj104) ∧ Aside0 (Kd.R (Kd.int .i64) 3 wc w.heap.size (fun k_ => some k_ ≠ ((.slice Ao16 t423.length co16) : Value).ownBlock ∧ some k_ ≠ ((.slice Ao59 t439.length co59) : Value).ownBlock ∧ some k_ ≠ ((.slice Ao65 t444.length co65) : Value).ownBlock ∧ some k_ ≠ ((.slice Ao109 t453.length co109) : Value).ownBlock ∧ some k_ ≠ ((.slice Ao117 t458.length co117) : Value).ownBlock) (.slice Ao12 t418.length co12) t418) ∧ Aside0 (Kd.R (Kd.int .i64) 3 wc w.heap.size (fun k_ => some k_ ≠ ((.slice Ao12 t418.length co12) : Value).ownBlock ∧ some k_ ≠ ((.slice Ao59 t439.length co59) : Value).ownBlock ∧ some k_ ≠ ((.slice Ao65 t444.length co65) : Value).ownBlock ∧ some k_ ≠ ((.slice Ao109 t453.length co109) : Value).ownBlock ∧ some k_ ≠ ((.slice Ao117 t458.length co117) : Value).ownBlock) (.slice Ao16 t423.length co16) t423) ∧ Aside0 (Kd.R (Kd.int .i64) 3 wc w.heap.size (fun k_ => some k_ ≠ ((.slice Ao12 t418.length co12) : Value).ownBlock ∧ some k_ ≠ ((.slice Ao16 t423.length co16) : Value).ownBlock ∧ some k_ ≠ ((.slice Ao65 t444.length co65) : Value).ownBlock ∧ some k_ ≠ ((.slice Ao109 t453.length co109) : Value).ownBlock ∧ some k_ ≠ ((.slice Ao117 t458.length co117) : Value).ownBlock) (.slice Ao59 t439.length co59) t439) ∧ Aside0 (Kd.R (Kd.int .i64) 3 wc w.heap.size (fun k_ => some k_ ≠ ((.slice Ao12 t418.length co12) : Value).ownBlock ∧ some k_ ≠ ((.slice Ao16 t423.length co16) : Value).ownBlock ∧ some k_ ≠ ((.slice Ao59 t439.length co59) : Value).ownBlock ∧ some k_ ≠ ((.slice Ao109 t453.length co109) : Value).ownBlock ∧ some k_ ≠ ((.slice Ao117 t458.length co117) : Value).ownBlock) (.slice Ao65 t444.length co65) t444) ∧ Aside0 (Kd.R (Kd.int .i64) 3 wc w.heap.size (fun k_ => some k_ ≠ ((.slice Ao12 t418.length co12) : Value).ownBlock ∧ some k_ ≠ ((.slice Ao16 t423.length co16) : Value).ownBlock ∧ some k_ ≠ ((.slice Ao59 t439.length co59) : Value).ownBlock ∧ some k_ ≠ ((.slice Ao65 t444.length co65) : Value).ownBlock ∧ some k_ ≠ ((.slice Ao117 t458.length co117) : Value).ownBlock) (.slice Ao109 t453.length co109) t453) ∧ Aside0 (Kd.R (Kd.int .i64) 3 wc w.heap.size (fun k_ => some k_ ≠ ((.slice Ao12 t418.length co12) : Value).ownBlock ∧ some k_ ≠ ((.slice Ao16 t423.length co16) : Value).ownBlock ∧ some k_ ≠ ((.slice Ao59 t439.length co59) : Value).ownBlock ∧ some k_ ≠ ((.slice Ao65 t444.length co65) : Value).ownBlock ∧ some k_ ≠ ((.slice Ao109 t453.length co109) : Value).ownBlock) (.slice Ao117 t458.length co117) t458) ∧ Aside0 (wc.heap[gb422]? = some (.cells #[(.slice Ao12 t418.length co12)] 28 (0, 0))) ∧ Aside0 (wc.heap[gb427]? = some (.cells #[(.slice Ao16 t423.length co16)] 28 (0, 0))) ∧ Aside0 (wc.heap[gb443]? = some (.cells #[(.slice Ao59 t439.length co59)] 28 (0, 0))) ∧ Aside0 (wc.heap[gb448]? = some (.cells #[(.slice Ao65 t444.length co65)] 28 (0, 0))) ∧ Aside0 (wc.heap[gb457]? = some (.cells #[(.slice Ao109 t453.length co109)] 28 (0, 0))) ∧ Aside0 (wc.heap[gb462]? = some (.cells #[(.slice Ao117 t458.length co117)] 28 (0, 0))) ∧ Aside0 (Below w.heap.size w wc))
                       case first =>
                        have H := HC139.out
                        clear HC139
                        by_cases c140 : t456 = true
                        ·as_aux_lemma =>
                           subst c140
                           have H1 : ((impl_CountIdeals.f kj104 t453).bind fun bt464 => (laws_FnKnownPosets.l3 kj104 l1 t452 bt464.1 bt464.2 1 2 1)) = some r := by rw [if_pos rfl] at H; exact H
                           clear H
                           have H := H1
                           clear H1
                           replace H := Option.bind_eq_some_iff.mp H
                           obtain ⟨⟨t464, t465⟩, A1410, H⟩ := H
                           replace H : (laws_FnKnownPosets.l3 kj104 l1 t452 t464 t465 1 2 1) = some r := H
                           have A141 := am A1410
                           clear A1410
                           have H' := am H
                           clear H
                           have hnb142 := NB457_422.out
                           have hnc142 := NB422_457.out
                           have hnb143 := NB457_427.out
                           have hnc143 := NB427_457.out
                           have hnb144 := NB457_443.out
                           have hnc144 := NB443_457.out
                           have hnb145 := NB457_448.out
                           have hnc145 := NB448_457.out
                           have hnb146 := NB457_462.out
                           have hnc146 := NB462_457.out
                           have hcz147_0 := qz wc BK457.out
                           have hfz147_0 := blk_frozen BK457.out 0
                           go_wp2_with ((go_at_call 12; (with_reducible refine (impl_CountIdeals.calls kj104 _ _ t453 t464 t465 _ ?side1 ?side2 A141.out).mono ?_); (case side1 => exact qC (Kd.R_reads' HO_458000.out).2.2); (case side2 => exact (Kd.R_reads' HO_458000.out).2.1); rintro e w148 ⟨rfl, hb⟩; replace HO_423000 := am (Kd.R_below (qR HO_423000.out) hb); replace HO_428000 := am (Kd.R_below (qR HO_428000.out) hb); replace HO_444000 := am (Kd.R_below (qR HO_444000.out) hb); replace HO_449000 := am (Kd.R_below (qR HO_449000.out) hb); replace HO_458000 := am (Kd.R_below (qR HO_458000.out) hb); replace HO_463000 := am (Kd.R_below (qR HO_463000.out) hb); replace BK422 := am (blk_below (g := gb422) (o := .cells #[.slice Ao12 t418.length co12] 28 (0, 0)) (qb BK422.out) hb); replace BK427 := am (blk_below (g := gb427) (o := .cells #[.slice Ao16 t423.length co16] 28 (0, 0)) (qb BK427.out) hb); replace BK443 := am (blk_below (g := gb443) (o := .cells #[.slice Ao59 t439.length co59] 28 (0, 0)) (qb BK443.out) hb); replace BK448 := am (blk_below (g := gb448) (o := .cells #[.slice Ao65 t444.length co65] 28 (0, 0)) (qb BK448.out) hb); replace BK457 := am (blk_below (g := gb457) (o := .cells #[.slice Ao109 t453.length co109] 28 (0, 0)) (qb BK457.out) hb); replace BK462 := am (blk_below (g := gb462) (o := .cells #[.slice Ao117 t458.length co117] 28 (0, 0)) (qb BK462.out) hb); replace HB := am (below_step qB hb); (try clear hb); (try clear hb2); (try clear hk); (try clear hi)))
                           skip
                           go_loopg [37, 38, 39] kj104 (fun kq v37 v38 v39 w' => ∃ (x37_6 : Int) (x38_6 : Int) (x39_6 : Int), v37 = .int .i64 x37_6 ∧ v38 = .int .i64 x38_6 ∧ v39 = .int .i64 x39_6 ∧ Aside0 (laws_FnKnownPosets.l3 kq l1 t452 t464 t465 x37_6 x38_6 x39_6 = some r) ∧ Aside0 (kq ≤ kj104) ∧ Aside0 (Kd.R (Kd.int .i64) 3 w' w.heap.size (fun k_ => some k_ ≠ ((.slice Ao16 t423.length co16) : Value).ownBlock ∧ some k_ ≠ ((.slice Ao59 t439.length co59) : Value).ownBlock ∧ some k_ ≠ ((.slice Ao65 t444.length co65) : Value).ownBlock ∧ some k_ ≠ ((.slice Ao109 t453.length co109) : Value).ownBlock ∧ some k_ ≠ ((.slice Ao117 t458.length co117) : Value).ownBlock) (.slice Ao12 t418.length co12) t418) ∧ Aside0 (Kd.R (Kd.int .i64) 3 w' w.heap.size (fun k_ => some k_ ≠ ((.slice Ao12 t418.length co12) : Value).ownBlock ∧ some k_ ≠ ((.slice Ao59 t439.length co59) : Value).ownBlock ∧ some k_ ≠ ((.slice Ao65 t444.length co65) : Value).ownBlock ∧ some k_ ≠ ((.slice Ao109 t453.length co109) : Value).ownBlock ∧ some k_ ≠ ((.slice Ao117 t458.length co117) : Value).ownBlock) (.slice Ao16 t423.length co16) t423) ∧ Aside0 (Kd.R (Kd.int .i64) 3 w' w.heap.size (fun k_ => some k_ ≠ ((.slice Ao12 t418.length co12) : Value).ownBlock ∧ some k_ ≠ ((.slice Ao16 t423.length co16) : Value).ownBlock ∧ some k_ ≠ ((.slice Ao65 t444.length co65) : Value).ownBlock ∧ some k_ ≠ ((.slice Ao109 t453.length co109) : Value).ownBlock ∧ some k_ ≠ ((.slice Ao117 t458.length co117) : Value).ownBlock) (.slice Ao59 t439.length co59) t439) ∧ Aside0 (Kd.R (Kd.int .i64) 3 w' w.heap.size (fun k_ => some k_ ≠ ((.slice Ao12 t418.length co12) : Value).ownBlock ∧ some k_ ≠ ((.slice Ao16 t423.length co16) : Value).ownBlock ∧ some k_ ≠ ((.slice Ao59 t439.length co59) : Value).ownBlock ∧ some k_ ≠ ((.slice Ao109 t453.length co109) : Value).ownBlock ∧ some k_ ≠ ((.slice Ao117 t458.length co117) : Value).ownBlock) (.slice Ao65 t444.length co65) t444) ∧ Aside0 (Kd.R (Kd.int .i64) 3 w' w.heap.size (fun k_ => some k_ ≠ ((.slice Ao12 t418.length co12) : Value).ownBlock ∧ some k_ ≠ ((.slice Ao16 t423.length co16) : Value).ownBlock ∧ some k_ ≠ ((.slice Ao59 t439.length co59) : Value).ownBlock ∧ some k_ ≠ ((.slice Ao65 t444.length co65) : Value).ownBlock ∧ some k_ ≠ ((.slice Ao117 t458.length co117) : Value).ownBlock) (.slice Ao109 t453.length co109) t453) ∧ Aside0 (Kd.R (Kd.int .i64) 3 w' w.heap.size (fun k_ => some k_ ≠ ((.slice Ao12 t418.length co12) : Value).ownBlock ∧ some k_ ≠ ((.slice Ao16 t423.length co16) : Value).ownBlock ∧ some k_ ≠ ((.slice Ao59 t439.length co59) : Value).ownBlock ∧ some k_ ≠ ((.slice Ao65 t444.length co65) : Value).ownBlock ∧ some k_ ≠ ((.slice Ao109 t453.length co109) : Value).ownBlock) (.slice Ao117 t458.length co117) t458) ∧ Aside0 (w'.heap[gb422]? = some (.cells #[(.slice Ao12 t418.length co12)] 28 (0, 0))) ∧ Aside0 (w'.heap[gb427]? = some (.cells #[(.slice Ao16 t423.length co16)] 28 (0, 0))) ∧ Aside0 (w'.heap[gb443]? = some (.cells #[(.slice Ao59 t439.length co59)] 28 (0, 0))) ∧ Aside0 (w'.heap[gb448]? = some (.cells #[(.slice Ao65 t444.length co65)] 28 (0, 0))) ∧ Aside0 (w'.heap[gb457]? = some (.cells #[(.slice Ao109 t453.length co109)] 28 (0, 0))) ∧ Aside0 (w'.heap[gb462]? = some (.cells #[(.slice Ao117 t458.length co117)] 28 (0, 0))) ∧ Aside0 (Below w.heap.size w w'))
                           case atStart => exact ⟨(1), (2), (1), qe, qe, qe, H', ⟨Nat.le_refl _⟩, ⟨qR HO_423000.out⟩, ⟨qR HO_428000.out⟩, ⟨qR HO_444000.out⟩, ⟨qR HO_449000.out⟩, ⟨qR HO_458000.out⟩, ⟨qR HO_463000.out⟩, ⟨qb BK422.out⟩, ⟨qb BK427.out⟩, ⟨qb BK443.out⟩, ⟨qb BK448.out⟩, ⟨qb BK457.out⟩, ⟨qb BK462.out⟩, ⟨qB⟩⟩
                           case round =>
                            clear H'
                            try clear c1
                            try clear c2
                            try clear p2
                            try clear c3
                            try clear c4
                            try clear p4
                            try clear q4
                            try clear hx4
                            try clear c5
                            try clear c6
                            try clear p6
                            try clear c7
                            try clear c8
                            try clear c9
                            try clear c10
                            try clear c11
                            try clear c12
                            try clear c13
                            try clear c14
                            try clear c17
                            try clear c19
                            try clear c19b0
                            try clear c19b1
                            try clear c19b2
                            try clear c21
                            try clear c25
                            try clear c27
                            try clear c31
                            try clear c38
                            try clear c38b0
                            try clear c39
                            try clear c39b0
                            try clear c39b1
                            try clear c41
                            try clear c42
                            try clear c42b0
                            try clear c42b1
                            try clear c43
                            try clear p43
                            try clear q43
                            try clear hx43
                            try clear c44
                            try clear c45
                            try clear c47
                            try clear c47b0
                            try clear c48
                            try clear c48b0
                            try clear c49
                            try clear c49b0
                            try clear c50
                            try clear c50b0
                            try clear c50b1
                            try clear c51
                            try clear c51b0
                            try clear c51b1
                            try clear c60
                            try clear c61
                            try clear p64
                            try clear c66
                            try clear c67
                            try clear c68
                            try clear c70
                            try clear c70b0
                            try clear c70b1
                            try clear c70b2
                            try clear c72
                            try clear c73
                            try clear c74
                            try clear c76
                            try clear c77
                            try clear c80
                            try clear c82
                            try clear c84
                            try clear c85
                            try clear c86
                            try clear c89
                            try clear c89b0
                            try clear c90
                            try clear c90b0
                            try clear c90b1
                            try clear c91
                            try clear c92
                            try clear c92b0
                            try clear c92b1
                            try clear c93
                            try clear c93b0
                            try clear c93b1
                            try clear c94
                            try clear c95
                            try clear c96
                            try clear c98
                            try clear c99
                            try clear c100
                            try clear c110
                            try clear c111
                            try clear c112
                            try clear c113
                            try clear c118
                            try clear c119
                            try clear c120
                            try clear c121
                            try clear c122
                            try clear c124
                            try clear c124b0
                            try clear c124b1
                            try clear c124b2
                            try clear c126
                            try clear c127
                            try clear c128
                            try clear c129
                            try clear c130
                            try clear c132
                            try clear c133
                            try clear c134
                            try clear c135
                            try clear c138
                            try clear c140
                            try clear c142
                            try clear c143
                            try clear c144
                            try clear c145
                            try clear c146
                            try clear hcz101_0
                            try clear hcz114_0
                            try clear hcz123_0
                            try clear hcz131_0
                            try clear hcz136_0
                            try clear hcz13_0
                            try clear hcz147_0
                            try clear hcz18_0
                            try clear hcz22_0
                            try clear hcz23_0
                            try clear hcz32_0
                            try clear hcz34_0
                            try clear hcz36_0
                            try clear hcz62_0
                            try clear hcz69_0
                            try clear hcz75_0
                            try clear hcz78_0
                            try clear hcz87_0
                            try clear hcz97_0
                            try clear hfz101_0
                            try clear hfz114_0
                            try clear hfz123_0
                            try clear hfz131_0
                            try clear hfz136_0
                            try clear hfz13_0
                            try clear hfz147_0
                            try clear hfz18_0
                            try clear hfz22_0
                            try clear hfz23_0
                            try clear hfz32_0
                            try clear hfz34_0
                            try clear hfz36_0
                            try clear hfz62_0
                            try clear hfz69_0
                            try clear hfz75_0
                            try clear hfz78_0
                            try clear hfz87_0
                            try clear hfz97_0
                            try clear hx437_0
                            try clear p2
                            try clear p4
                            try clear p43
                            try clear p437
                            try clear p6
                            try clear p64
                            try clear q4
                            try clear q43
                            try clear q437
                            obtain ⟨x37_6, x38_6, x39_6, rfl, rfl, rfl, HA, HK6, HO_423000, HO_428000, HO_444000, HO_449000, HO_458000, HO_463000, BK422, BK427, BK443, BK448, BK457, BK462, HB⟩ := hrel
                            cases gk with
                            | zero => exact absurd HA.out (by simp [laws_FnKnownPosets.l3])
                            | succ k6 =>
                             have H := HA.out
                             clear HA
                             simp only [laws_FnKnownPosets.l3] at H
                             by_cases c149 : x39_6 < t452
                             ·rw [if_pos c149] at H
                              have c149b0 := decide_eq_true c149
                              clear c149
                              (first | rw [c149b0] | (simp only [i64_w, i32_w]; rw [c149b0]) | skip)
                              have H' := am H
                              clear H
                              go_wp2
                              skip
                              go_roundg k6
                              case measure => have := HJ7.out; have := HJ25.out; have := HJ54.out; have := HJ80.out; have := HJ104.out; have := HK6.out; omega
                              case rel => exact ⟨(x38_6), (wrap64 (x37_6 + x38_6)), (wrap64 (x39_6 + 1)), qe, qe, qe, H', ⟨by have := HJ7.out; have := HJ25.out; have := HJ54.out; have := HJ80.out; have := HJ104.out; have := HK6.out; omega⟩, ⟨qR HO_423000.out⟩, ⟨qR HO_428000.out⟩, ⟨qR HO_444000.out⟩, ⟨qR HO_449000.out⟩, ⟨qR HO_458000.out⟩, ⟨qR HO_463000.out⟩, ⟨qb BK422.out⟩, ⟨qb BK427.out⟩, ⟨qb BK443.out⟩, ⟨qb BK448.out⟩, ⟨qb BK457.out⟩, ⟨qb BK462.out⟩, ⟨qB⟩⟩
                             ·as_aux_lemma =>
                                rw [if_neg c149] at H
                                have c149b0 := decide_eq_false c149
                                clear c149
                                (first | rw [c149b0] | (simp only [i64_w, i32_w]; rw [c149b0]) | skip)
                                by_cases c150 : t465 = true
                                ·as_aux_lemma =>
                                   subst c150
                                   have H1 : (if t464 = x38_6 then (laws_FnKnownPosets.j10 k6 l1) else (some false)) = some r := by rw [if_pos rfl] at H; exact H
                                   clear H
                                   have H := H1
                                   clear H1
                                   by_cases c151 : t464 = x38_6
                                   ·rw [if_pos c151] at H
                                    have c151b0 : (t464 == x38_6) = true := beq_iff_eq.mpr c151
                                    have c151b1 : (t464 != x38_6) = false := bne_eq_false_iff_eq.mpr c151
                                    clear c151
                                    have H' := am H
                                    clear H
                                    go_wp2
                                    skip
                                    go_meet
                                    case rel => exact ⟨_, H', ⟨by have := HJ7.out; have := HJ25.out; have := HJ54.out; have := HJ80.out; have := HJ104.out; have := HK6.out; first | omega | exact Nat.le_refl _⟩, ⟨qR HO_423000.out⟩, ⟨qR HO_428000.out⟩, ⟨qR HO_444000.out⟩, ⟨qR HO_449000.out⟩, ⟨qR HO_458000.out⟩, ⟨qR HO_463000.out⟩, ⟨qb BK422.out⟩, ⟨qb BK427.out⟩, ⟨qb BK443.out⟩, ⟨qb BK448.out⟩, ⟨qb BK457.out⟩, ⟨qb BK462.out⟩, ⟨qB⟩⟩
                                   ·rw [if_neg c151] at H
                                    exact absurd (Option.some.inj H) (by rw [hrt.out]; decide)
                                ·replace c150 := Bool.eq_false_iff.mpr c150
                                 subst c150
                                 have H1 : (some false) = some r := by rw [if_neg (show ¬ (false = true) by decide)] at H; exact H
                                 exact absurd (Option.some.inj H1) (by rw [hrt.out]; decide)
                        ·as_aux_lemma =>
                           replace c140 := Bool.eq_false_iff.mpr c140
                           subst c140
                           have H1 : (laws_FnKnownPosets.j10 kj104 l1) = some r := by rw [if_neg (show ¬ (false = true) by decide)] at H; exact H
                           clear H
                           have H := H1
                           clear H1
                           have H' := am H
                           clear H
                           go_wp2
                           skip
                           go_meet
                           case rel => exact ⟨_, H', ⟨by have := HJ7.out; have := HJ25.out; have := HJ54.out; have := HJ80.out; have := HJ104.out; first | omega | exact Nat.le_refl _⟩, ⟨qR HO_423000.out⟩, ⟨qR HO_428000.out⟩, ⟨qR HO_444000.out⟩, ⟨qR HO_449000.out⟩, ⟨qR HO_458000.out⟩, ⟨qR HO_463000.out⟩, ⟨qb BK422.out⟩, ⟨qb BK427.out⟩, ⟨qb BK443.out⟩, ⟨qb BK448.out⟩, ⟨qb BK457.out⟩, ⟨qb BK462.out⟩, ⟨qB⟩⟩
                       case rest =>
                        clear HC139
                        try clear c1
                        try clear c2
                        try clear p2
                        try clear c3
                        try clear c4
                        try clear p4
                        try clear q4
                        try clear hx4
                        try clear c5
                        try clear c6
                        try clear p6
                        try clear c7
                        try clear c8
                        try clear c9
                        try clear c10
                        try clear c11
                        try clear c12
                        try clear c13
                        try clear c14
                        try clear c15
                        try clear c17
                        try clear c19
                        try clear c19b0
                        try clear c19b1
                        try clear c19b2
                        try clear c21
                        try clear c25
                        try clear c27
                        try clear c31
                        try clear c38
                        try clear c38b0
                        try clear c39
                        try clear c39b0
                        try clear c39b1
                        try clear c41
                        try clear c42
                        try clear c42b0
                        try clear c42b1
                        try clear c43
                        try clear p43
                        try clear q43
                        try clear hx43
                        try clear c44
                        try clear c45
                        try clear c47
                        try clear c47b0
                        try clear c48
                        try clear c48b0
                        try clear c49
                        try clear c49b0
                        try clear c50
                        try clear c50b0
                        try clear c50b1
                        try clear c51
                        try clear c51b0
                        try clear c51b1
                        try clear c60
                        try clear c61
                        try clear p64
                        try clear c66
                        try clear c67
                        try clear c68
                        try clear c70
                        try clear c70b0
                        try clear c70b1
                        try clear c70b2
                        try clear c72
                        try clear c73
                        try clear c74
                        try clear c76
                        try clear c77
                        try clear c80
                        try clear c82
                        try clear c84
                        try clear c85
                        try clear c86
                        try clear c89
                        try clear c89b0
                        try clear c90
                        try clear c90b0
                        try clear c90b1
                        try clear c91
                        try clear c92
                        try clear c92b0
                        try clear c92b1
                        try clear c93
                        try clear c93b0
                        try clear c93b1
                        try clear c94
                        try clear c95
                        try clear c96
                        try clear c98
                        try clear c99
                        try clear c100
                        try clear c110
                        try clear c111
                        try clear c112
                        try clear c113
                        try clear c118
                        try clear c119
                        try clear c120
                        try clear c121
                        try clear c122
                        try clear c124
                        try clear c124b0
                        try clear c124b1
                        try clear c124b2
                        try clear c126
                        try clear c127
                        try clear c128
                        try clear c129
                        try clear c130
                        try clear c132
                        try clear c133
                        try clear c134
                        try clear c135
                        try clear c138
                        try clear c140
                        try clear c142
                        try clear c143
                        try clear c144
                        try clear c145
                        try clear c146
                        try clear c149
                        try clear c149b0
                        try clear c150
                        try clear c151
                        try clear c151b0
                        try clear c151b1
                        try clear hcz101_0
                        try clear hcz114_0
                        try clear hcz123_0
                        try clear hcz131_0
                        try clear hcz136_0
                        try clear hcz13_0
                        try clear hcz147_0
                        try clear hcz18_0
                        try clear hcz22_0
                        try clear hcz23_0
                        try clear hcz32_0
                        try clear hcz34_0
                        try clear hcz36_0
                        try clear hcz62_0
                        try clear hcz69_0
                        try clear hcz75_0
                        try clear hcz78_0
                        try clear hcz87_0
                        try clear hcz97_0
                        try clear hfz101_0
                        try clear hfz114_0
                        try clear hfz123_0
                        try clear hfz131_0
                        try clear hfz136_0
                        try clear hfz13_0
                        try clear hfz147_0
                        try clear hfz18_0
                        try clear hfz22_0
                        try clear hfz23_0
                        try clear hfz32_0
                        try clear hfz34_0
                        try clear hfz36_0
                        try clear hfz62_0
                        try clear hfz69_0
                        try clear hfz75_0
                        try clear hfz78_0
                        try clear hfz87_0
                        try clear hfz97_0
                        try clear hx437_0
                        try clear p2
                        try clear p4
                        try clear p43
                        try clear p437
                        try clear p6
                        try clear p64
                        try clear q4
                        try clear q43
                        try clear q437
                        obtain ⟨kq, HA, HJ138, HO_423000, HO_428000, HO_444000, HO_449000, HO_458000, HO_463000, BK422, BK427, BK443, BK448, BK457, BK462, HB⟩ := hcut
                        cases kq with
                        | zero => exact absurd HA.out (by simp [laws_FnKnownPosets.j10])
                        | succ kj138 =>
                         have H := HA.out
                         clear HA
                         simp only [laws_FnKnownPosets.j10] at H
                         replace H := Option.bind_eq_some_iff.mp H
                         obtain ⟨t466, A1520, H⟩ := H
                         replace H : ((impl_HeightsOf.f kj138 t466).bind fun bt470 => ((spec_HeightsOf.f kj138 t466).bind fun bt474 => ((impl_IsRanked.f kj138 t466).bind fun bt478 => ((spec_IsRanked.f kj138 t466).bind fun bt480 => (if (bt470.2 == bt474.2) = true then ((laws_nSame.f kj138 bt470.1 bt474.1).bind fun t482 => (if t482 = true then (if (bt478.2 == bt480.2) = true then (some (bt478.1 == bt480.1)) else (some false)) else (some false))) else (some false)))))) = some r := H
                         have A152 := am A1520
                         clear A1520
                         replace H := Option.bind_eq_some_iff.mp H
                         obtain ⟨⟨t470, t473⟩, A1530, H⟩ := H
                         replace H : ((spec_HeightsOf.f kj138 t466).bind fun bt474 => ((impl_IsRanked.f kj138 t466).bind fun bt478 => ((spec_IsRanked.f kj138 t466).bind fun bt480 => (if (t473 == bt474.2) = true then ((laws_nSame.f kj138 t470 bt474.1).bind fun t482 => (if t482 = true then (if (bt478.2 == bt480.2) = true then (some (bt478.1 == bt480.1)) else (some false)) else (some false))) else (some false))))) = some r := H
                         have A153 := am A1530
                         clear A1530
                         replace H := Option.bind_eq_some_iff.mp H
                         obtain ⟨⟨t474, t477⟩, A1540, H⟩ := H
                         replace H : ((impl_IsRanked.f kj138 t466).bind fun bt478 => ((spec_IsRanked.f kj138 t466).bind fun bt480 => (if (t473 == t477) = true then ((laws_nSame.f kj138 t470 t474).bind fun t482 => (if t482 = true then (if (bt478.2 == bt480.2) = true then (some (bt478.1 == bt480.1)) else (some false)) else (some false))) else (some false)))) = some r := H
                         have A154 := am A1540
                         clear A1540
                         replace H := Option.bind_eq_some_iff.mp H
                         obtain ⟨⟨t478, t479⟩, A1550, H⟩ := H
                         replace H : ((spec_IsRanked.f kj138 t466).bind fun bt480 => (if (t473 == t477) = true then ((laws_nSame.f kj138 t470 t474).bind fun t482 => (if t482 = true then (if (t479 == bt480.2) = true then (some (t478 == bt480.1)) else (some false)) else (some false))) else (some false))) = some r := H
                         have A155 := am A1550
                         clear A1550
                         replace H := Option.bind_eq_some_iff.mp H
                         obtain ⟨⟨t480, t481⟩, A1560, H⟩ := H
                         replace H : (if (t473 == t477) = true then ((laws_nSame.f kj138 t470 t474).bind fun t482 => (if t482 = true then (if (t479 == t481) = true then (some (t478 == t480)) else (some false)) else (some false))) else (some false)) = some r := H
                         have A156 := am A1560
                         clear A1560
                         by_cases c157 : (t473 == t477) = true
                         ·as_aux_lemma =>
                            rw [if_pos c157] at H
                            have c157b0 : (t473 == t477) = true := c157
                            (try (have c157b1 : decide (t473 = t477) = true := by simpa using c157))
                            (try (have c157b2 : (t473 == t477) = true := by simpa using c157))
                            clear c157
                            replace H := Option.bind_eq_some_iff.mp H
                            obtain ⟨t482, A1580, H⟩ := H
                            replace H : (if t482 = true then (if (t479 == t481) = true then (some (t478 == t480)) else (some false)) else (some false)) = some r := H
                            have A158 := am A1580
                            clear A1580
                            by_cases c159 : t482 = true
                            ·as_aux_lemma =>
                               subst c159
                               have H1 : (if (t479 == t481) = true then (some (t478 == t480)) else (some false)) = some r := by rw [if_pos rfl] at H; exact H
                               clear H
                               have H := H1
                               clear H1
                               by_cases c160 : (t479 == t481) = true
                               ·rw [if_pos c160] at H
                                have c160b0 : (t479 == t481) = true := c160
                                (try (have c160b1 : decide (t479 = t481) = true := by simpa using c160))
                                (try (have c160b2 : (t479 == t481) = true := by simpa using c160))
                                clear c160
                                obtain rfl := Option.some.inj H
                                go_wp2_with (first | (go_at_call 21; (with_reducible refine (spec_DrawHeightsOf.calls kj138 _ _ l1 t466 _ ?side1 ?side2 A152.out).mono ?_); (case side1 => exact qC (Kd.C_below HR1.out HB.out)); (case side2 => exact HC1.out); rintro e w161 ⟨v467, rfl, ho0, hb⟩; have n0_ := am (Kd.R_elder' (qR HO_423000.out) (Kd.R_base ho0) hb); have n1_ := am (Kd.R_elder' (qR HO_428000.out) (Kd.R_base ho0) hb); have n2_ := am (Kd.R_elder' (qR HO_444000.out) (Kd.R_base ho0) hb); have n3_ := am (Kd.R_elder' (qR HO_449000.out) (Kd.R_base ho0) hb); have n4_ := am (Kd.R_elder' (qR HO_458000.out) (Kd.R_base ho0) hb); have n5_ := am (Kd.R_elder' (qR HO_463000.out) (Kd.R_base ho0) hb); have HO468 := am (Kd.R_lower (Kd.R_new' (Kd.R_new' (Kd.R_new' (Kd.R_new' (Kd.R_new' (Kd.R_new' ho0 (Kd.R_lt (qR HO_423000.out))) (Kd.R_lt (qR HO_428000.out))) (Kd.R_lt (qR HO_444000.out))) (Kd.R_lt (qR HO_449000.out))) (Kd.R_lt (qR HO_458000.out))) (Kd.R_lt (qR HO_463000.out))) (below_size qB)); replace BK422 := am (blk_below (g := gb422) (o := .cells #[.slice Ao12 t418.length co12] 28 (0, 0)) (qb BK422.out) hb); replace BK427 := am (blk_below (g := gb427) (o := .cells #[.slice Ao16 t423.length co16] 28 (0, 0)) (qb BK427.out) hb); replace BK443 := am (blk_below (g := gb443) (o := .cells #[.slice Ao59 t439.length co59] 28 (0, 0)) (qb BK443.out) hb); replace BK448 := am (blk_below (g := gb448) (o := .cells #[.slice Ao65 t444.length co65] 28 (0, 0)) (qb BK448.out) hb); replace BK457 := am (blk_below (g := gb457) (o := .cells #[.slice Ao109 t453.length co109] 28 (0, 0)) (qb BK457.out) hb); replace BK462 := am (blk_below (g := gb462) (o := .cells #[.slice Ao117 t458.length co117] 28 (0, 0)) (qb BK462.out) hb); replace HB := am (below_step qB hb); clear HO_423000 HO_428000 HO_444000 HO_449000 HO_458000 HO_463000; have HO_423000 := n0_; have HO_428000 := n1_; have HO_444000 := n2_; have HO_449000 := n3_; have HO_458000 := n4_; have HO_463000 := n5_; clear n0_ n1_ n2_ n3_ n4_ n5_; (try clear hb); (try clear hb2); (try clear hk); (try clear hi); (try clear ho0)) | ((with_reducible refine gate_dst (N := 41) rfl ?_); refine qx (N := 41) (cs := #[.slice none 0 0]) (t := 28) ?_; intro gb469 hg w162 hbox hb; replace HO_423000 := am (Kd.R_below (qR HO_423000.out) hb); replace HO_428000 := am (Kd.R_below (qR HO_428000.out) hb); replace HO_444000 := am (Kd.R_below (qR HO_444000.out) hb); replace HO_449000 := am (Kd.R_below (qR HO_449000.out) hb); replace HO_458000 := am (Kd.R_below (qR HO_458000.out) hb); replace HO_463000 := am (Kd.R_below (qR HO_463000.out) hb); replace HO468 := am (Kd.R_below (qR HO468.out) hb); have n7_ := am (blk_below (g := gb422) (o := .cells #[.slice Ao12 t418.length co12] 28 (0, 0)) (qb BK422.out) hb); have n8_ := am (blk_below (g := gb427) (o := .cells #[.slice Ao16 t423.length co16] 28 (0, 0)) (qb BK427.out) hb); have n9_ := am (blk_below (g := gb443) (o := .cells #[.slice Ao59 t439.length co59] 28 (0, 0)) (qb BK443.out) hb); have n10_ := am (blk_below (g := gb448) (o := .cells #[.slice Ao65 t444.length co65] 28 (0, 0)) (qb BK448.out) hb); have n11_ := am (blk_below (g := gb457) (o := .cells #[.slice Ao109 t453.length co109] 28 (0, 0)) (qb BK457.out) hb); have n12_ := am (blk_below (g := gb462) (o := .cells #[.slice Ao117 t458.length co117] 28 (0, 0)) (qb BK462.out) hb); have n13_ := am (below_step qB hb); have BK469 := am (hbox); have GW469 := am (qg w hg); have GE469 := am (qg w hg); have NB422_469 := am ((by rw [hg]; exact Nat.ne_of_lt (blk_lt (g := gb422) (o := .cells #[.slice Ao12 t418.length co12] 28 (0, 0)) (qb BK422.out)) : gb422 ≠ gb469)); have NB469_422 := am ((by rw [hg]; exact Nat.ne_of_gt (blk_lt (g := gb422) (o := .cells #[.slice Ao12 t418.length co12] 28 (0, 0)) (qb BK422.out)) : gb469 ≠ gb422)); have NB427_469 := am ((by rw [hg]; exact Nat.ne_of_lt (blk_lt (g := gb427) (o := .cells #[.slice Ao16 t423.length co16] 28 (0, 0)) (qb BK427.out)) : gb427 ≠ gb469)); have NB469_427 := am ((by rw [hg]; exact Nat.ne_of_gt (blk_lt (g := gb427) (o := .cells #[.slice Ao16 t423.length co16] 28 (0, 0)) (qb BK427.out)) : gb469 ≠ gb427)); have NB443_469 := am ((by rw [hg]; exact Nat.ne_of_lt (blk_lt (g := gb443) (o := .cells #[.slice Ao59 t439.length co59] 28 (0, 0)) (qb BK443.out)) : gb443 ≠ gb469)); have NB469_443 := am ((by rw [hg]; exact Nat.ne_of_gt (blk_lt (g := gb443) (o := .cells #[.slice Ao59 t439.length co59] 28 (0, 0)) (qb BK443.out)) : gb469 ≠ gb443)); have NB448_469 := am ((by rw [hg]; exact Nat.ne_of_lt (blk_lt (g := gb448) (o := .cells #[.slice Ao65 t444.length co65] 28 (0, 0)) (qb BK448.out)) : gb448 ≠ gb469)); have NB469_448 := am ((by rw [hg]; exact Nat.ne_of_gt (blk_lt (g := gb448) (o := .cells #[.slice Ao65 t444.length co65] 28 (0, 0)) (qb BK448.out)) : gb469 ≠ gb448)); have NB457_469 := am ((by rw [hg]; exact Nat.ne_of_lt (blk_lt (g := gb457) (o := .cells #[.slice Ao109 t453.length co109] 28 (0, 0)) (qb BK457.out)) : gb457 ≠ gb469)); have NB469_457 := am ((by rw [hg]; exact Nat.ne_of_gt (blk_lt (g := gb457) (o := .cells #[.slice Ao109 t453.length co109] 28 (0, 0)) (qb BK457.out)) : gb469 ≠ gb457)); have NB462_469 := am ((by rw [hg]; exact Nat.ne_of_lt (blk_lt (g := gb462) (o := .cells #[.slice Ao117 t458.length co117] 28 (0, 0)) (qb BK462.out)) : gb462 ≠ gb469)); have NB469_462 := am ((by rw [hg]; exact Nat.ne_of_gt (blk_lt (g := gb462) (o := .cells #[.slice Ao117 t458.length co117] 28 (0, 0)) (qb BK462.out)) : gb469 ≠ gb462)); clear BK422 BK427 BK443 BK448 BK457 BK462 HB; have BK422 := n7_; have BK427 := n8_; have BK443 := n9_; have BK448 := n10_; have BK457 := n11_; have BK462 := n12_; have HB := n13_; clear n7_ n8_ n9_ n10_ n11_ n12_ n13_; clear hb hbox hg; obtain ⟨Ao163, co163, eo163⟩ := Kd.R_slice HO468.out; subst eo163; have hnb164 := NB469_422.out; have hnc164 := NB422_469.out; have hnb165 := NB469_427.out; have hnc165 := NB427_469.out; have hnb166 := NB469_443.out; have hnc166 := NB443_469.out; have hnb167 := NB469_448.out; have hnc167 := NB448_469.out; have hnb168 := NB469_457.out; have hnc168 := NB457_469.out; have hnb169 := NB469_462.out; have hnc169 := NB462_469.out; have hcz170_0 := qz w162 BK469.out; have hfz170_0 := blk_frozen BK469.out 0) | (go_at_call 14; (with_reducible refine (impl_HeightsOf.calls kj138 _ _ t466 t470 t473 _ ?side1 ?side2 A153.out).mono ?_); (case side1 => refine (Kd.R_reads' (e := 3) (base := w.heap.size) (ok := fun k_ => ((((((True ∧ some k_ ≠ (.slice Ao12 t418.length co12 : Value).ownBlock) ∧ some k_ ≠ (.slice Ao16 t423.length co16 : Value).ownBlock) ∧ some k_ ≠ (.slice Ao59 t439.length co59 : Value).ownBlock) ∧ some k_ ≠ (.slice Ao65 t444.length co65 : Value).ownBlock) ∧ some k_ ≠ (.slice Ao109 t453.length co109 : Value).ownBlock) ∧ some k_ ≠ (.slice Ao117 t458.length co117 : Value).ownBlock)) (n := t466.length) (c := co163) ?_).2.2; exact (qR ((Kd.R_mono (Kd.R_far (p := ⟨gb469, 0, none⟩) (Kd.R_types HO468.out BK469.out (by decide)) (fun _ hk => hk.2) (.slice Ao163 t466.length co163)) (fun _ h_ => h_.1))))); (case side2 => exact (Kd.R_reads' HO468.out).2.1); rintro e w171 ⟨v471, rfl, ho0, hb⟩; have n0_ := am (Kd.R_elder' (qR ((Kd.R_mono (Kd.R_far (p := ⟨gb469, 0, none⟩) (Kd.R_types HO_423000.out BK469.out (by decide)) (fun _ hk => hk.2) (.slice Ao163 t466.length co163)) (fun _ h_ => h_.1)))) (Kd.R_base ho0) hb); have n1_ := am (Kd.R_elder' (qR ((Kd.R_mono (Kd.R_far (p := ⟨gb469, 0, none⟩) (Kd.R_types HO_428000.out BK469.out (by decide)) (fun _ hk => hk.2) (.slice Ao163 t466.length co163)) (fun _ h_ => h_.1)))) (Kd.R_base ho0) hb); have n2_ := am (Kd.R_elder' (qR ((Kd.R_mono (Kd.R_far (p := ⟨gb469, 0, none⟩) (Kd.R_types HO_444000.out BK469.out (by decide)) (fun _ hk => hk.2) (.slice Ao163 t466.length co163)) (fun _ h_ => h_.1)))) (Kd.R_base ho0) hb); have n3_ := am (Kd.R_elder' (qR ((Kd.R_mono (Kd.R_far (p := ⟨gb469, 0, none⟩) (Kd.R_types HO_449000.out BK469.out (by decide)) (fun _ hk => hk.2) (.slice Ao163 t466.length co163)) (fun _ h_ => h_.1)))) (Kd.R_base ho0) hb); have n4_ := am (Kd.R_elder' (qR ((Kd.R_mono (Kd.R_far (p := ⟨gb469, 0, none⟩) (Kd.R_types HO_458000.out BK469.out (by decide)) (fun _ hk => hk.2) (.slice Ao163 t466.length co163)) (fun _ h_ => h_.1)))) (Kd.R_base ho0) hb); have n5_ := am (Kd.R_elder' (qR ((Kd.R_mono (Kd.R_far (p := ⟨gb469, 0, none⟩) (Kd.R_types HO_463000.out BK469.out (by decide)) (fun _ hk => hk.2) (.slice Ao163 t466.length co163)) (fun _ h_ => h_.1)))) (Kd.R_base ho0) hb); have n6_ := am (Kd.R_elder' (qR ((Kd.R_mono (Kd.R_far (p := ⟨gb469, 0, none⟩) (Kd.R_types HO468.out BK469.out (by decide)) (fun _ hk => hk.2) (.slice Ao163 t466.length co163)) (fun _ h_ => h_.1)))) (Kd.R_base ho0) hb); have HO472 := am (Kd.R_lower (Kd.R_new' (Kd.R_new' (Kd.R_new' (Kd.R_new' (Kd.R_new' (Kd.R_new' (Kd.R_new' ho0 (Kd.R_lt (qR ((Kd.R_mono (Kd.R_far (p := ⟨gb469, 0, none⟩) (Kd.R_types HO_423000.out BK469.out (by decide)) (fun _ hk => hk.2) (.slice Ao163 t466.length co163)) (fun _ h_ => h_.1)))))) (Kd.R_lt (qR ((Kd.R_mono (Kd.R_far (p := ⟨gb469, 0, none⟩) (Kd.R_types HO_428000.out BK469.out (by decide)) (fun _ hk => hk.2) (.slice Ao163 t466.length co163)) (fun _ h_ => h_.1)))))) (Kd.R_lt (qR ((Kd.R_mono (Kd.R_far (p := ⟨gb469, 0, none⟩) (Kd.R_types HO_444000.out BK469.out (by decide)) (fun _ hk => hk.2) (.slice Ao163 t466.length co163)) (fun _ h_ => h_.1)))))) (Kd.R_lt (qR ((Kd.R_mono (Kd.R_far (p := ⟨gb469, 0, none⟩) (Kd.R_types HO_449000.out BK469.out (by decide)) (fun _ hk => hk.2) (.slice Ao163 t466.length co163)) (fun _ h_ => h_.1)))))) (Kd.R_lt (qR ((Kd.R_mono (Kd.R_far (p := ⟨gb469, 0, none⟩) (Kd.R_types HO_458000.out BK469.out (by decide)) (fun _ hk => hk.2) (.slice Ao163 t466.length co163)) (fun _ h_ => h_.1)))))) (Kd.R_lt (qR ((Kd.R_mono (Kd.R_far (p := ⟨gb469, 0, none⟩) (Kd.R_types HO_463000.out BK469.out (by decide)) (fun _ hk => hk.2) (.slice Ao163 t466.length co163)) (fun _ h_ => h_.1)))))) (Kd.R_lt (qR ((Kd.R_mono (Kd.R_far (p := ⟨gb469, 0, none⟩) (Kd.R_types HO468.out BK469.out (by decide)) (fun _ hk => hk.2) (.slice Ao163 t466.length co163)) (fun _ h_ => h_.1)))))) (below_size qB)); replace BK422 := am (blk_below (g := gb422) (o := .cells #[.slice Ao12 t418.length co12] 28 (0, 0)) (by (with_reducible repeat (first | refine blk_drewN ?_ _ | refine blk_drew ?_ | refine blk_alloc ?_ _)); refine blk_far ?_ NB422_469.out _; refine qb ?_; exact BK422.out) hb); replace BK427 := am (blk_below (g := gb427) (o := .cells #[.slice Ao16 t423.length co16] 28 (0, 0)) (by (with_reducible repeat (first | refine blk_drewN ?_ _ | refine blk_drew ?_ | refine blk_alloc ?_ _)); refine blk_far ?_ NB427_469.out _; refine qb ?_; exact BK427.out) hb); replace BK443 := am (blk_below (g := gb443) (o := .cells #[.slice Ao59 t439.length co59] 28 (0, 0)) (by (with_reducible repeat (first | refine blk_drewN ?_ _ | refine blk_drew ?_ | refine blk_alloc ?_ _)); refine blk_far ?_ NB443_469.out _; refine qb ?_; exact BK443.out) hb); replace BK448 := am (blk_below (g := gb448) (o := .cells #[.slice Ao65 t444.length co65] 28 (0, 0)) (by (with_reducible repeat (first | refine blk_drewN ?_ _ | refine blk_drew ?_ | refine blk_alloc ?_ _)); refine blk_far ?_ NB448_469.out _; refine qb ?_; exact BK448.out) hb); replace BK457 := am (blk_below (g := gb457) (o := .cells #[.slice Ao109 t453.length co109] 28 (0, 0)) (by (with_reducible repeat (first | refine blk_drewN ?_ _ | refine blk_drew ?_ | refine blk_alloc ?_ _)); refine blk_far ?_ NB457_469.out _; refine qb ?_; exact BK457.out) hb); replace BK462 := am (blk_below (g := gb462) (o := .cells #[.slice Ao117 t458.length co117] 28 (0, 0)) (by (with_reducible repeat (first | refine blk_drewN ?_ _ | refine blk_drew ?_ | refine blk_alloc ?_ _)); refine blk_far ?_ NB462_469.out _; refine qb ?_; exact BK462.out) hb); replace BK469 := am (blk_below (g := gb469) (o := .cells #[.slice Ao163 t466.length co163] 28 (0, 0)) (by (with_reducible repeat (first | refine blk_drewN ?_ _ | refine blk_drew ?_ | refine blk_alloc ?_ _)); refine blk_put (cs := #[.slice none 0 0]) ?_ 0 _ rfl; refine qb ?_; exact BK469.out) hb); replace HB := am (below_step qB hb); clear HO_423000 HO_428000 HO_444000 HO_449000 HO_458000 HO_463000 HO468; have HO_423000 := n0_; have HO_428000 := n1_; have HO_444000 := n2_; have HO_449000 := n3_; have HO_458000 := n4_; have HO_463000 := n5_; have HO468 := n6_; clear n0_ n1_ n2_ n3_ n4_ n5_ n6_; (try clear hb); (try clear hb2); (try clear hk); (try clear hi); (try clear ho0); have hcz172_0 := qz w171 BK469.out; have hfz172_0 := blk_frozen BK469.out 0) | (go_at_call 22; (with_reducible refine (spec_HeightsOf.calls kj138 _ _ t466 t474 t477 _ ?side1 ?side2 A154.out).mono ?_); (case side1 => exact qC (Kd.R_reads' HO468.out).2.2); (case side2 => exact (Kd.R_reads' HO468.out).2.1); rintro e w173 ⟨v475, rfl, ho0, hb⟩; have n0_ := am (Kd.R_elder' (qR HO_423000.out) (Kd.R_base ho0) hb); have n1_ := am (Kd.R_elder' (qR HO_428000.out) (Kd.R_base ho0) hb); have n2_ := am (Kd.R_elder' (qR HO_444000.out) (Kd.R_base ho0) hb); have n3_ := am (Kd.R_elder' (qR HO_449000.out) (Kd.R_base ho0) hb); have n4_ := am (Kd.R_elder' (qR HO_458000.out) (Kd.R_base ho0) hb); have n5_ := am (Kd.R_elder' (qR HO_463000.out) (Kd.R_base ho0) hb); have n6_ := am (Kd.R_elder' (qR HO468.out) (Kd.R_base ho0) hb); have n7_ := am (Kd.R_elder' (qR HO472.out) (Kd.R_base ho0) hb); have HO476 := am (Kd.R_lower (Kd.R_new' (Kd.R_new' (Kd.R_new' (Kd.R_new' (Kd.R_new' (Kd.R_new' (Kd.R_new' (Kd.R_new' ho0 (Kd.R_lt (qR HO_423000.out))) (Kd.R_lt (qR HO_428000.out))) (Kd.R_lt (qR HO_444000.out))) (Kd.R_lt (qR HO_449000.out))) (Kd.R_lt (qR HO_458000.out))) (Kd.R_lt (qR HO_463000.out))) (Kd.R_lt (qR HO468.out))) (Kd.R_lt (qR HO472.out))) (below_size qB)); replace BK422 := am (blk_below (g := gb422) (o := .cells #[.slice Ao12 t418.length co12] 28 (0, 0)) (qb BK422.out) hb); replace BK427 := am (blk_below (g := gb427) (o := .cells #[.slice Ao16 t423.length co16] 28 (0, 0)) (qb BK427.out) hb); replace BK443 := am (blk_below (g := gb443) (o := .cells #[.slice Ao59 t439.length co59] 28 (0, 0)) (qb BK443.out) hb); replace BK448 := am (blk_below (g := gb448) (o := .cells #[.slice Ao65 t444.length co65] 28 (0, 0)) (qb BK448.out) hb); replace BK457 := am (blk_below (g := gb457) (o := .cells #[.slice Ao109 t453.length co109] 28 (0, 0)) (qb BK457.out) hb); replace BK462 := am (blk_below (g := gb462) (o := .cells #[.slice Ao117 t458.length co117] 28 (0, 0)) (qb BK462.out) hb); replace BK469 := am (blk_below (g := gb469) (o := .cells #[.slice Ao163 t466.length co163] 28 (0, 0)) (qb BK469.out) hb); replace HB := am (below_step qB hb); clear HO_423000 HO_428000 HO_444000 HO_449000 HO_458000 HO_463000 HO468 HO472; have HO_423000 := n0_; have HO_428000 := n1_; have HO_444000 := n2_; have HO_449000 := n3_; have HO_458000 := n4_; have HO_463000 := n5_; have HO468 := n6_; have HO472 := n7_; clear n0_ n1_ n2_ n3_ n4_ n5_ n6_ n7_; (try clear hb); (try clear hb2); (try clear hk); (try clear hi); (try clear ho0); have hcz174_0 := qz w173 BK469.out; have hfz174_0 := blk_frozen BK469.out 0) | (go_at_call 13; (with_reducible refine (impl_IsRanked.calls kj138 _ _ t466 t478 t479 _ ?side1 ?side2 A155.out).mono ?_); (case side1 => exact qC (Kd.R_reads' HO468.out).2.2); (case side2 => exact (Kd.R_reads' HO468.out).2.1); rintro e w175 ⟨rfl, hb⟩; replace HO_423000 := am (Kd.R_below (qR HO_423000.out) hb); replace HO_428000 := am (Kd.R_below (qR HO_428000.out) hb); replace HO_444000 := am (Kd.R_below (qR HO_444000.out) hb); replace HO_449000 := am (Kd.R_below (qR HO_449000.out) hb); replace HO_458000 := am (Kd.R_below (qR HO_458000.out) hb); replace HO_463000 := am (Kd.R_below (qR HO_463000.out) hb); replace HO468 := am (Kd.R_below (qR HO468.out) hb); replace HO472 := am (Kd.R_below (qR HO472.out) hb); replace HO476 := am (Kd.R_below (qR HO476.out) hb); replace BK422 := am (blk_below (g := gb422) (o := .cells #[.slice Ao12 t418.length co12] 28 (0, 0)) (qb BK422.out) hb); replace BK427 := am (blk_below (g := gb427) (o := .cells #[.slice Ao16 t423.length co16] 28 (0, 0)) (qb BK427.out) hb); replace BK443 := am (blk_below (g := gb443) (o := .cells #[.slice Ao59 t439.length co59] 28 (0, 0)) (qb BK443.out) hb); replace BK448 := am (blk_below (g := gb448) (o := .cells #[.slice Ao65 t444.length co65] 28 (0, 0)) (qb BK448.out) hb); replace BK457 := am (blk_below (g := gb457) (o := .cells #[.slice Ao109 t453.length co109] 28 (0, 0)) (qb BK457.out) hb); replace BK462 := am (blk_below (g := gb462) (o := .cells #[.slice Ao117 t458.length co117] 28 (0, 0)) (qb BK462.out) hb); replace BK469 := am (blk_below (g := gb469) (o := .cells #[.slice Ao163 t466.length co163] 28 (0, 0)) (qb BK469.out) hb); replace HB := am (below_step qB hb); (try clear hb); (try clear hb2); (try clear hk); (try clear hi); have hcz176_0 := qz w175 BK469.out; have hfz176_0 := blk_frozen BK469.out 0) | (go_at_call 23; (with_reducible refine (spec_IsRanked.calls kj138 _ _ t466 t480 t481 _ ?side1 ?side2 A156.out).mono ?_); (case side1 => exact qC (Kd.R_reads' HO468.out).2.2); (case side2 => exact (Kd.R_reads' HO468.out).2.1); rintro e w177 ⟨rfl, hb⟩; replace HO_423000 := am (Kd.R_below (qR HO_423000.out) hb); replace HO_428000 := am (Kd.R_below (qR HO_428000.out) hb); replace HO_444000 := am (Kd.R_below (qR HO_444000.out) hb); replace HO_449000 := am (Kd.R_below (qR HO_449000.out) hb); replace HO_458000 := am (Kd.R_below (qR HO_458000.out) hb); replace HO_463000 := am (Kd.R_below (qR HO_463000.out) hb); replace HO468 := am (Kd.R_below (qR HO468.out) hb); replace HO472 := am (Kd.R_below (qR HO472.out) hb); replace HO476 := am (Kd.R_below (qR HO476.out) hb); replace BK422 := am (blk_below (g := gb422) (o := .cells #[.slice Ao12 t418.length co12] 28 (0, 0)) (qb BK422.out) hb); replace BK427 := am (blk_below (g := gb427) (o := .cells #[.slice Ao16 t423.length co16] 28 (0, 0)) (qb BK427.out) hb); replace BK443 := am (blk_below (g := gb443) (o := .cells #[.slice Ao59 t439.length co59] 28 (0, 0)) (qb BK443.out) hb); replace BK448 := am (blk_below (g := gb448) (o := .cells #[.slice Ao65 t444.length co65] 28 (0, 0)) (qb BK448.out) hb); replace BK457 := am (blk_below (g := gb457) (o := .cells #[.slice Ao109 t453.length co109] 28 (0, 0)) (qb BK457.out) hb); replace BK462 := am (blk_below (g := gb462) (o := .cells #[.slice Ao117 t458.length co117] 28 (0, 0)) (qb BK462.out) hb); replace BK469 := am (blk_below (g := gb469) (o := .cells #[.slice Ao163 t466.length co163] 28 (0, 0)) (qb BK469.out) hb); replace HB := am (below_step qB hb); (try clear hb); (try clear hb2); (try clear hk); (try clear hi); obtain ⟨Ao178, co178, eo178⟩ := Kd.R_slice HO472.out; subst eo178; obtain ⟨Ao179, co179, eo179⟩ := Kd.R_slice HO476.out; subst eo179) | (go_at_call 24; (with_reducible refine (laws_nSame.calls kj138 _ _ t470 _ _ t474 true _ ?side1 ?side2 ?side3 ?side4 A158.out).mono ?_); (case side1 => exact qC (Kd.R_reads' HO472.out).2.2); (case side2 => exact (Kd.R_reads' HO472.out).2.1); (case side3 => exact qC (Kd.R_reads' HO476.out).2.2); (case side4 => exact (Kd.R_reads' HO476.out).2.1); rintro e w' ⟨rfl, ⟨nd, rfl⟩⟩; (try first | exact ⟨rfl, _, World.drewN_drewN _ _ _⟩ | exact ⟨rfl, _, Eq.trans (World.drewN_drewN _ _ _) (congrArg (World.drewN _) (Nat.add_assoc _ _ _))⟩)))
                                skip
                                go_ret
                                exact ⟨qr, qB⟩
                               ·rw [if_neg c160] at H
                                exact absurd (Option.some.inj H) (by rw [hrt.out]; decide)
                            ·replace c159 := Bool.eq_false_iff.mpr c159
                             subst c159
                             have H1 : (some false) = some r := by rw [if_neg (show ¬ (false = true) by decide)] at H; exact H
                             exact absurd (Option.some.inj H1) (by rw [hrt.out]; decide)
                         ·as_aux_lemma =>
                            rw [if_neg c157] at H
                            exact absurd (Option.some.inj H) (by rw [hrt.out]; decide)
end Go.Proofs.Ytonfifhoklaliaa.F
end
