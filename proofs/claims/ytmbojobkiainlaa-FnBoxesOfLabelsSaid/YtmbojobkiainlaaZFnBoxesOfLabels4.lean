/- Part 4 of the texts below the row of FnBoxesOfLabels: printed functions with their contracts, and plain lemmas. No condition. -/
import Derived.Test.YtmbojobkiainlaaZFnBoxesOfLabels3
import Derived.Lib.Hide
import Derived.Maps.RangeWalk
import Derived.Maps.OwnOps
import Derived.Maps.Ext
import Derived.LoopTactic
import Derived.Deep.LoopGhost
section
namespace Go.Proofs.Ytmbojobkiainlaa.F
open Go.RowKit Go.Proofs.YtmbojobkiainlaaW.PrintWords Go.Proofs.YtmbojobkiainlaaW.PrintLast Go.Proofs.YtmbojobkiainlaaW.PrintMore
attribute [local go_sem] max2_int min2_int max_two min_two max_three min_three max_four min_four
set_option linter.unusedVariables false
set_option linter.unusedSimpArgs false
def spec_laBox.f (a0 : Int) (a1 : Int) (a2 : Int) : Option (Bool) := (spec_shSides.f a0 a1).bind fun t863 => (if t863 = true then ((spec_laBound.f a2).bind fun t864 => (some t864)) else (some false))
set_option maxHeartbeats 8000000 in
set_option maxRecDepth 100000 in
theorem spec_laBox.calls (a0 : Int) (a1 : Int) (a2 : Int) (r : Bool) (w : World) (h : spec_laBox.f a0 a1 a2 = some r) :
 Calls Try.prog 106 #[.int .i64 a0, .int .i64 a1, .int .i64 a2] w fun e w' => e = .returned (.bool r) ∧ Drawn0 w w' := by
 have H := h
 unfold spec_laBox.f at H
 clear h
 replace H := Option.bind_eq_some_iff.mp H
 obtain ⟨t863, A40, H⟩ := H
 (try dsimp only at H)
 have A4 := am A40
 clear A40
 by_cases c5 : t863 = true
 ·subst c5
  rw [if_pos rfl] at H
  replace H := Option.bind_eq_some_iff.mp H
  obtain ⟨t864, A60, H⟩ := H
  (try dsimp only at H)
  have A6 := am A60
  clear A60
  obtain rfl := Option.some.inj H
  go_enter Try.func106, Try.ntmps106
  go_wp2_with (first | ((with_reducible refine gate_callee (f := 142) rfl ?_); refine gL (some 9) Try.func142 #[.int .i64 a0, .int .i64 a1] ?_; (with_reducible refine (spec_shSides.calls a0 a1 true _ A4.out).mono ?_); rintro e w' ⟨rfl, ⟨nd, rfl⟩⟩; refine ⟨_, rfl, ?_⟩) | (go_at_call 83; (with_reducible refine (spec_laBound.calls a2 t864 _ A6.out).mono ?_); rintro e w' ⟨rfl, ⟨nd, rfl⟩⟩))
  go_ret
  exact ⟨by first | rfl | (simp; done) | (simp [*]; done), by repeat (first | exact Drawn0.refl _ | apply Drawn0.step)⟩
 ·replace c5 := Bool.eq_false_iff.mpr c5
  subst c5
  rw [if_neg (show ¬ (false = true) by decide)] at H
  obtain rfl := Option.some.inj H
  go_enter Try.func106, Try.ntmps106
  go_wp2_with (((with_reducible refine gate_callee (f := 142) rfl ?_); refine gL (some 9) Try.func142 #[.int .i64 a0, .int .i64 a1] ?_; (with_reducible refine (spec_shSides.calls a0 a1 false _ A4.out).mono ?_); rintro e w' ⟨rfl, ⟨nd, rfl⟩⟩; refine ⟨_, rfl, ?_⟩))
  go_ret
  exact ⟨by first | rfl | (simp; done) | (simp [*]; done), by repeat (first | exact Drawn0.refl _ | apply Drawn0.step)⟩
mutual
def spec_BoxBySum.l0 : Nat → Int → Int → Int → List Int → Int → Option (List Int × Bool)
 | 0, _, _, _, _, _ => none
 | k + 1, x0, x1, x2, x8, x9 => if x9 ≤ x0 then (spec_BoxBySum.l1 k x0 x1 x2 x8 x9 1) else (some (x8, true))
def spec_BoxBySum.l1 : Nat → Int → Int → Int → List Int → Int → Int → Option (List Int × Bool)
 | 0, _, _, _, _, _, _ => none
 | k + 1, x0, x1, x2, x8, x9, x10 => if x10 ≤ x1 then (spec_BoxBySum.l2 k x0 x1 x2 x8 x9 x10 (wrap64 ((wrap64 ((wrap64 (x9 + x10)) + x2)) - 1)) (wrap64 ((wrap64 (x9 + x10)) - 1)) (wrap64 ((x8.length : Int) - 1))) else (spec_BoxBySum.l0 k x0 x1 x2 x8 (wrap64 (x9 + 1)))
def spec_BoxBySum.l2 : Nat → Int → Int → Int → List Int → Int → Int → Int → Int → Int → Option (List Int × Bool)
 | 0, _, _, _, _, _, _, _, _, _ => none
 | k + 1, x0, x1, x2, x8, x9, x10, x11, x12, x13 => if x13 ≥ x11 then (if 0 ≤ x13 then (if x13 < (x8.length : Int) then (if 0 ≤ (wrap64 (x13 - x11)) then (if (wrap64 (x13 - x11)) < (x8.length : Int) then (spec_BoxBySum.l2 k x0 x1 x2 (x8.set (x13 : Int).toNat (wrap64 ((rd x8 x13) - (rd x8 (wrap64 (x13 - x11)))))) x9 x10 x11 x12 (wrap64 (x13 - 1))) else (none)) else (none)) else (none)) else (none)) else (spec_BoxBySum.l3 k x0 x1 x2 x8 x9 x10 x12 x12)
def spec_BoxBySum.l3 : Nat → Int → Int → Int → List Int → Int → Int → Int → Int → Option (List Int × Bool)
 | 0, _, _, _, _, _, _, _, _ => none
 | k + 1, x0, x1, x2, x8, x9, x10, x12, x14 => if x14 < (x8.length : Int) then (if 0 ≤ x14 then (if 0 ≤ (wrap64 (x14 - x12)) then (if (wrap64 (x14 - x12)) < (x8.length : Int) then (spec_BoxBySum.l3 k x0 x1 x2 (x8.set (x14 : Int).toNat (wrap64 ((rd x8 x14) + (rd x8 (wrap64 (x14 - x12)))))) x9 x10 x12 (wrap64 (x14 + 1))) else (none)) else (none)) else (none)) else (spec_BoxBySum.l1 k x0 x1 x2 x8 x9 (wrap64 (x10 + 1)))
end
def spec_BoxBySum.f (k : Nat) (a0 : Int) (a1 : Int) (a2 : Int) : Option (List Int × Bool) := (spec_laBox.f a0 a1 a2).bind fun t865 => (if t865 = true then (if 0 ≤ (wrap64 ((wrap64 ((wrap64 (a0 * a1)) * a2)) + 1)) then (if (wrap64 ((wrap64 ((wrap64 (a0 * a1)) * a2)) + 1) : Int).toNat ≤ 35184372088832 then ((some (List.replicate (wrap64 ((wrap64 ((wrap64 (a0 * a1)) * a2)) + 1) : Int).toNat 0 : List Int)).bind fun y866 => (if 0 < (y866.length : Int) then (spec_BoxBySum.l0 k a0 a1 a2 (y866.set (0 : Int).toNat 1) 1) else (none))) else (none)) else (none)) else (some (([] : List Int), false)))
theorem spec_BoxBySum.mono_l : ∀ k, (∀ y0 y1 y2 y3 y4, LeO (spec_BoxBySum.l0 k y0 y1 y2 y3 y4) (spec_BoxBySum.l0 (k + 1) y0 y1 y2 y3 y4)) ∧ (∀ y0 y1 y2 y3 y4 y5, LeO (spec_BoxBySum.l1 k y0 y1 y2 y3 y4 y5) (spec_BoxBySum.l1 (k + 1) y0 y1 y2 y3 y4 y5)) ∧ (∀ y0 y1 y2 y3 y4 y5 y6 y7 y8, LeO (spec_BoxBySum.l2 k y0 y1 y2 y3 y4 y5 y6 y7 y8) (spec_BoxBySum.l2 (k + 1) y0 y1 y2 y3 y4 y5 y6 y7 y8)) ∧ (∀ y0 y1 y2 y3 y4 y5 y6 y7, LeO (spec_BoxBySum.l3 k y0 y1 y2 y3 y4 y5 y6 y7) (spec_BoxBySum.l3 (k + 1) y0 y1 y2 y3 y4 y5 y6 y7))
 | 0 => ⟨fun _ _ _ _ _ r h => by simp [spec_BoxBySum.l0] at h, fun _ _ _ _ _ _ r h => by simp [spec_BoxBySum.l1] at h, fun _ _ _ _ _ _ _ _ _ r h => by simp [spec_BoxBySum.l2] at h, fun _ _ _ _ _ _ _ _ r h => by simp [spec_BoxBySum.l3] at h⟩
 | k + 1 => by
  obtain ⟨ih0, ih1, ih2, ih3⟩ := spec_BoxBySum.mono_l k
  refine ⟨?_, ?_, ?_, ?_⟩
  ·intro y0 y1 y2 y3 y4
   unfold spec_BoxBySum.l0
   repeat' first
   | (with_reducible exact LeO.refl _)
   | (with_reducible exact LeO.none _)
   | (with_reducible refine LeO.ite ?_ ?_)
   | (with_reducible refine LeO.bind ?_ (fun _ => ?_))
   | exact ih0 _ _ _ _ _
   | exact ih1 _ _ _ _ _ _
   | exact ih2 _ _ _ _ _ _ _ _ _
   | exact ih3 _ _ _ _ _ _ _ _
   | exact LeO.none _
   | refine LeO.ite ?_ ?_
   | refine LeO.bind ?_ (fun _ => ?_)
  ·intro y0 y1 y2 y3 y4 y5
   unfold spec_BoxBySum.l1
   repeat' first
   | (with_reducible exact LeO.refl _)
   | (with_reducible exact LeO.none _)
   | (with_reducible refine LeO.ite ?_ ?_)
   | (with_reducible refine LeO.bind ?_ (fun _ => ?_))
   | exact ih0 _ _ _ _ _
   | exact ih1 _ _ _ _ _ _
   | exact ih2 _ _ _ _ _ _ _ _ _
   | exact ih3 _ _ _ _ _ _ _ _
   | exact LeO.none _
   | refine LeO.ite ?_ ?_
   | refine LeO.bind ?_ (fun _ => ?_)
  ·intro y0 y1 y2 y3 y4 y5 y6 y7 y8
   unfold spec_BoxBySum.l2
   repeat' first
   | (with_reducible exact LeO.refl _)
   | (with_reducible exact LeO.none _)
   | (with_reducible refine LeO.ite ?_ ?_)
   | (with_reducible refine LeO.bind ?_ (fun _ => ?_))
   | exact ih0 _ _ _ _ _
   | exact ih1 _ _ _ _ _ _
   | exact ih2 _ _ _ _ _ _ _ _ _
   | exact ih3 _ _ _ _ _ _ _ _
   | exact LeO.none _
   | refine LeO.ite ?_ ?_
   | refine LeO.bind ?_ (fun _ => ?_)
  ·intro y0 y1 y2 y3 y4 y5 y6 y7
   unfold spec_BoxBySum.l3
   repeat' first
   | (with_reducible exact LeO.refl _)
   | (with_reducible exact LeO.none _)
   | (with_reducible refine LeO.ite ?_ ?_)
   | (with_reducible refine LeO.bind ?_ (fun _ => ?_))
   | exact ih0 _ _ _ _ _
   | exact ih1 _ _ _ _ _ _
   | exact ih2 _ _ _ _ _ _ _ _ _
   | exact ih3 _ _ _ _ _ _ _ _
   | exact LeO.none _
   | refine LeO.ite ?_ ?_
   | refine LeO.bind ?_ (fun _ => ?_)
theorem spec_BoxBySum.mono : ∀ a0 a1 a2 k, LeO (spec_BoxBySum.f k a0 a1 a2) (spec_BoxBySum.f (k + 1) a0 a1 a2) := by
 intro a0 a1 a2 k
 obtain ⟨ih0, ih1, ih2, ih3⟩ := spec_BoxBySum.mono_l k
 unfold spec_BoxBySum.f
 repeat' first
  | (with_reducible exact LeO.refl _)
  | (with_reducible exact LeO.none _)
  | (with_reducible refine LeO.ite ?_ ?_)
  | (with_reducible refine LeO.bind ?_ (fun _ => ?_))
  | exact ih0 _ _ _ _ _
  | exact ih1 _ _ _ _ _ _
  | exact ih2 _ _ _ _ _ _ _ _ _
  | exact ih3 _ _ _ _ _ _ _ _
  | exact LeO.none _
  | refine LeO.ite ?_ ?_
  | refine LeO.bind ?_ (fun _ => ?_)
def spec_BoxBySum.T15 : Bool × List (List Nat × List Nat) := (true, [([], []), ([], []), ([0, 1], [0, 1]), ([2], [2]), ([], []), ([], []), ([], []), ([5, 6], [5, 6]), ([4, 7], [4, 7]), ([8], [8]), ([3, 9], [3, 9]), ([0, 1, 0, 1, 2, 3, 4, 5, 6, 7, 8, 9, 10], [0, 1]), ([11, 10, 0, 1, 2, 3, 4, 5, 6, 7, 8, 9, 10], [10, 11])])
def spec_BoxBySum.B15 : List Nat := [0, 0, 3, 7, 0, 0, 0, 96, 240, 496, 1023, 2047, 4095]
theorem spec_BoxBySum.tab15 : rtab .any (opsOf Try.f44 15) = spec_BoxBySum.T15 := by kernel_rfl
theorem spec_BoxBySum.bits15 : waitsOk spec_BoxBySum.T15.2 spec_BoxBySum.B15 = true := by kernel_rfl
def spec_BoxBySum.T19 : Bool × List (List Nat × List Nat) := (true, [([], []), ([], []), ([0, 1], [0, 1]), ([2], [2]), ([], []), ([], []), ([], []), ([5, 6], [5, 6]), ([4, 7], [4, 7]), ([8], [8]), ([3, 9], [3, 9]), ([0, 1, 0, 1, 2, 3, 4, 5, 6, 7, 8, 9, 10], [0, 1]), ([11, 10, 0, 1, 2, 3, 4, 5, 6, 7, 8, 9, 10], [10, 11])])
def spec_BoxBySum.B19 : List Nat := [0, 0, 3, 7, 0, 0, 0, 96, 240, 496, 1023, 2047, 4095]
theorem spec_BoxBySum.tab19 : rtab .any (opsOf Try.f44 19) = spec_BoxBySum.T19 := by kernel_rfl
theorem spec_BoxBySum.bits19 : waitsOk spec_BoxBySum.T19.2 spec_BoxBySum.B19 = true := by kernel_rfl
set_option maxHeartbeats 8000000 in
set_option maxRecDepth 100000 in
theorem spec_BoxBySum.calls (k : Nat) (a0 : Int) (a1 : Int) (a2 : Int) (r1 : List Int) (r2 : Bool) (w : World) (h : spec_BoxBySum.f k a0 a1 a2 = some (r1, r2)) :
 Calls Try.prog 44 #[.int .i64 a0, .int .i64 a1, .int .i64 a2] w fun e w' => ∃ v0_ : Value, e = .returned (.tuple #[v0_, .bool r2]) ∧ Kd.R (Kd.int .i64) 3 w' w.heap.size (fun _ => True) v0_ r1 ∧ Below w.heap.size w w' := by
 have HB := am (Below.refl w.heap.size w)
 have H := h
 unfold spec_BoxBySum.f at H
 clear h
 replace H := Option.bind_eq_some_iff.mp H
 obtain ⟨t865, A40, H⟩ := H
 (try dsimp only at H)
 have A4 := am A40
 clear A40
 by_cases c5 : t865 = true
 ·subst c5
  rw [if_pos rfl] at H
  obtain ⟨ji6, hji6⟩ : ∃ j_ : Int, (wrap64 ((wrap64 ((wrap64 (a0 * a1)) * a2)) + 1)) = j_ := ⟨_, rfl⟩
  first | rw [hji6] at H | simp only [hji6] at H
  (try rw [hji6] at A4)
  have hji6w : (IntKind.i64.wrap ((wrap64 ((wrap64 (a0 * a1)) * a2)) + 1)) = ji6 := (i64_w _).trans hji6
  by_cases c7 : 0 ≤ (ji6)
  rotate_left
  ·rw [if_neg c7] at H
   exact absurd H (by simp)
  rw [if_pos c7] at H
  have c7b0 := eq_true c7
  have c7b1 := decide_eq_true c7
  clear c7
  by_cases c8 : (ji6 : Int).toNat ≤ 35184372088832
  rotate_left
  ·rw [if_neg c8] at H
   exact absurd H (by simp)
  rw [if_pos c8] at H
  have c8b0 := eq_true c8
  have c8b1 := decide_eq_true c8
  clear c8
  obtain ⟨y866, hy866⟩ : ∃ y_ : List Int, y_ = (List.replicate (ji6 : Int).toNat 0) := ⟨_, rfl⟩
  replace H : (if 0 < (y866.length : Int) then (spec_BoxBySum.l0 k a0 a1 a2 (y866.set (0 : Int).toNat 1) 1) else (none)) = some (r1, r2) := by first | (rw [hy866]; with_reducible exact H) | (have H2_ := (Option.bind_some _ _).symm.trans H; rw [hy866]; with_reducible exact H2_) | (have H2_ := (Option.bind_some _ _).symm.trans H; with_reducible exact H2_) | with_reducible exact H | (rw [hy866]; exact H) | exact H
  have Ny866 := am hy866
  clear hy866
  by_cases c9 : 0 < (y866.length : Int)
  rotate_left
  ·rw [if_neg c9] at H
   exact absurd H (by simp)
  rw [if_pos c9] at H
  have c9b0 := decide_eq_true c9
  have c9b1 : decide (0 < y866.length) = true := decide_eq_true (by omega)
  clear c9
  obtain ⟨y869, hy869⟩ : ∃ y_ : List Int, y_ = (y866.set (0 : Int).toNat 1) := ⟨_, rfl⟩
  replace H : (spec_BoxBySum.l0 k a0 a1 a2 y869 1) = some (r1, r2) := by first | (rw [hy869]; with_reducible exact H) | (have H2_ := (Option.bind_some _ _).symm.trans H; rw [hy869]; with_reducible exact H2_) | (have H2_ := (Option.bind_some _ _).symm.trans H; with_reducible exact H2_) | with_reducible exact H | (rw [hy869]; exact H) | exact H
  have Ny869 := am hy869
  clear hy869
  have H' := am H
  clear H
  go_enter Try.func44, Try.ntmps44
  go_wp2_with (first | ((with_reducible refine gate_callee (f := 106) rfl ?_); refine gL (some 18) Try.func106 #[.int .i64 a0, .int .i64 a1, .int .i64 a2] ?_; (with_reducible refine (spec_laBox.calls a0 a1 a2 true _ A4.out).mono ?_); rintro e w' ⟨rfl, ⟨nd, rfl⟩⟩; refine ⟨_, rfl, ?_⟩) | ((with_reducible refine gate_dst (N := 26) rfl ?_); refine Kd.R_make (Kd.int .i64) _ 3 rfl (N := 26) rfl 24 _ _ rfl ji6 rfl rfl Try.underlying24 (.int .i64 0) 8 info3 rfl (by decide) (by omega) 0 (ok := fun _ => True) (okp := fun _ => True) rfl (fun _ hk => hk) trivial (qd) (Nat.le_trans (Nat.mul_le_mul_right _ (qd : ji6.toNat ≤ 35184372088832)) (by omega)) (Below.refl _ _) (Nat.le_refl _) ?_; intro v867 w11 ho12 hb hg_ hnew_; clear hg_ hnew_; (first | rw [← Ny866.out] at ho12 | (simp only [Int.reduceToNat] at ho12; rw [← Ny866.out] at ho12)); have HO868 := am (Kd.R_lower ho12 (below_size qB)); replace HB := am (below_step qB hb); clear hb ho12; have p10 : 0 ≤ (0 : Int) := (by omega); have q10 : (0 : Int) < ((y866.length : Int) : Int) := qd; have qi10 : (0 < y866.length) = True := eq_true (by omega); obtain ⟨go10, co10, eo10, gb10, gl10, cl10, HG10⟩ := Kd.R_form HO868.out (by omega); (first | cases eo10 | (injection eo10 with ea_ en_ ec_; (first | subst ea_ | (injection ea_ with ea_; subst ea_)); subst ec_; clear en_)); have GB10 := am gb10; have GG10 := am HG10; clear gb10 gl10 HG10; obtain ⟨hx10_0, hf10_0⟩ := Kd.R_celln 0 HO868.out (0 : Int) p10 q10; (try rw [show ((0 : Int)).toNat = 0 from rfl] at hx10_0); (try simp only [Nat.reduceMul, Nat.zero_mul, Nat.zero_add, Nat.reduceAdd] at hx10_0); (try rw [show ((0 : Int)).toNat = 0 from rfl] at hf10_0); (try simp only [Nat.reduceMul, Nat.zero_mul, Nat.zero_add, Nat.reduceAdd] at hf10_0); replace p10 := eq_true p10; replace q10 := eq_true q10; obtain ⟨hy13_, hz13_⟩ := Kd.R_celln 0 HO868.out (0 : Int) (by omega) (qd); (try simp only [Int.reduceToNat, Int.toNat_zero, Int.toNat_ofNat, Nat.reduceMul, Nat.zero_mul, Nat.zero_add] at hy13_ hz13_); (try rw [show ((0 : Int)).toNat = 0 from rfl] at hy13_); (try rw [show ((0 : Int)).toNat = 0 from rfl] at hz13_); have HP13 := Kd.R_putg HO868.out (0 : Int) 1) | ((with_reducible refine gate_store (t := 3) (p := 28) rfl ?_); refine store_event (t := 3) (p := 28) (v := ?vo_w14) (w1 := (w11.setCell ⟨go10, (0 : Int).toNat, none⟩ (.int .i64 1))) ?hg ?ho ?hn ?hr ?_; (case ho => rfl); (case hg => rfl); (case hn => rfl); (case hr => first | (go_simp; done) | (go_simp; rfl) | (obtain ⟨Av_, cv_, ev_⟩ := Kd.R_slice HO868.out; subst ev_; go_simp; done) | (obtain ⟨Av_, cv_, ev_⟩ := Kd.R_slice HO868.out; subst ev_; go_simp; rfl)); intro w14 hw; have hg : w11.grownBy w14 (some go10) := (by rw [hw]; exact HP13.2); have hp_ : Kd.R (Kd.int .i64) 3 w14 w.heap.size (fun _ => True) (.slice (some ⟨go10, 0, none⟩) y866.length co10) y869 := (by rw [hw, Ny869.out]; exact HP13.1); clear HP13; replace HO868 := am (hp_); replace HB := am ((by rw [hw]; exact below_set (HB.out) GB10.out : Below w.heap.size w w14)); clear hg hw hp_))
  go_loopg [9] k (fun kq v9 w' => ∃ (x8_1 : List Int) (x9_1 : Int), v9 = .int .i64 x9_1 ∧ Aside0 (spec_BoxBySum.l0 kq a0 a1 a2 x8_1 x9_1 = some (r1, r2)) ∧ Aside0 (kq ≤ k) ∧ Aside0 (Kd.R (Kd.int .i64) 3 w' w.heap.size (fun _ => True) (.slice (some ⟨go10, 0, none⟩) y866.length co10) x8_1) ∧ Aside0 (Below w.heap.size w w'))
  case atStart => exact ⟨(y869), (1), qe, H', ⟨Nat.le_refl _⟩, ⟨qR HO868.out⟩, ⟨qB⟩⟩
  case round =>
   clear H'
   try clear c1
   try clear p1
   try clear q1
   try clear hx1
   try clear qi1
   try clear p2
   try clear c4
   try clear c5
   try clear p6
   try clear c7
   try clear c7b0
   try clear c7b1
   try clear c8
   try clear c8b0
   try clear c8b1
   try clear c9
   try clear c9b0
   try clear c9b1
   try clear c10
   try clear p10
   try clear q10
   try clear hx10
   try clear qi10
   try clear hf10
   try clear hx10_0
   try clear p10
   try clear q10
   obtain ⟨x8_1, x9_1, rfl, HA, HK1, HO_8, HB⟩ := hrel
   have hl8_1 := (Kd.R_reads' HO_8.out).1
   rw [hl8_1] at HO_8
   (try simp only [hl8_1])
   cases gk with
   | zero => exact absurd HA.out (by simp [spec_BoxBySum.l0])
   | succ k1 =>
    have H := HA.out
    clear HA
    simp only [spec_BoxBySum.l0] at H
    by_cases c15 : x9_1 ≤ a0
    ·rw [if_pos c15] at H
     have c15b0 := decide_eq_true c15
     clear c15
     have H' := am H
     clear H
     go_wp2
     go_loopg [10] k1 (fun kq v10 w' => ∃ (x8_2 : List Int) (x10_2 : Int), v10 = .int .i64 x10_2 ∧ Aside0 (spec_BoxBySum.l1 kq a0 a1 a2 x8_2 x9_1 x10_2 = some (r1, r2)) ∧ Aside0 (kq ≤ k1) ∧ Aside0 (Kd.R (Kd.int .i64) 3 w' w.heap.size (fun _ => True) (.slice (some ⟨go10, 0, none⟩) x8_1.length co10) x8_2) ∧ Aside0 (Below w.heap.size w w'))
     case atStart => exact ⟨(x8_1), (1), qe, H', ⟨Nat.le_refl _⟩, ⟨by (try simp only [hl8_1]); (with_reducible repeat (first | apply Kd.R_alloc | apply Kd.R_drewN | apply Kd.R_drew)); exact HO_8.out⟩, ⟨qB⟩⟩
     case round =>
      clear H'
      try clear c1
      try clear p1
      try clear q1
      try clear hx1
      try clear qi1
      try clear p2
      try clear c4
      try clear c5
      try clear p6
      try clear c7
      try clear c7b0
      try clear c7b1
      try clear c8
      try clear c8b0
      try clear c8b1
      try clear c9
      try clear c9b0
      try clear c9b1
      try clear c10
      try clear p10
      try clear q10
      try clear hx10
      try clear qi10
      try clear hf10
      try clear c15
      try clear c15b0
      try clear hx10_0
      try clear p1
      try clear p10
      try clear p2
      try clear p6
      try clear q1
      try clear q10
      obtain ⟨x8_2, x10_2, rfl, HA, HK2, HO_8, HB⟩ := hrel
      have hl8_2 := (Kd.R_reads' HO_8.out).1
      rw [hl8_2] at HO_8
      (try simp only [hl8_2])
      cases gk with
      | zero => exact absurd HA.out (by simp [spec_BoxBySum.l1])
      | succ k2 =>
       have H := HA.out
       clear HA
       simp only [spec_BoxBySum.l1] at H
       by_cases c16 : x10_2 ≤ a1
       ·rw [if_pos c16] at H
        have c16b0 := decide_eq_true c16
        clear c16
        have H' := am H
        clear H
        go_wp2
        go_loopg [13] k2 (fun kq v13 w' => ∃ (x8_3 : List Int) (x13_3 : Int), v13 = .int .i64 x13_3 ∧ Aside0 (spec_BoxBySum.l2 kq a0 a1 a2 x8_3 x9_1 x10_2 (wrap64 ((wrap64 ((wrap64 (x9_1 + x10_2)) + a2)) - 1)) (wrap64 ((wrap64 (x9_1 + x10_2)) - 1)) x13_3 = some (r1, r2)) ∧ Aside0 (kq ≤ k2) ∧ Aside0 (Kd.R (Kd.int .i64) 3 w' w.heap.size (fun _ => True) (.slice (some ⟨go10, 0, none⟩) x8_2.length co10) x8_3) ∧ Aside0 (Below w.heap.size w w'))
        case atStart => exact ⟨(x8_2), (wrap64 ((x8_2.length : Int) - 1)), qe, H', ⟨Nat.le_refl _⟩, ⟨by (try simp only [hl8_1]); (try simp only [hl8_2]); (with_reducible repeat (first | apply Kd.R_alloc | apply Kd.R_drewN | apply Kd.R_drew)); exact HO_8.out⟩, ⟨qB⟩⟩
        case round =>
         clear H'
         try clear c1
         try clear p1
         try clear q1
         try clear hx1
         try clear qi1
         try clear p2
         try clear c4
         try clear c5
         try clear p6
         try clear c7
         try clear c7b0
         try clear c7b1
         try clear c8
         try clear c8b0
         try clear c8b1
         try clear c9
         try clear c9b0
         try clear c9b1
         try clear c10
         try clear p10
         try clear q10
         try clear hx10
         try clear qi10
         try clear hf10
         try clear c15
         try clear c15b0
         try clear c16
         try clear c16b0
         try clear hx10_0
         try clear p1
         try clear p10
         try clear p2
         try clear p6
         try clear q1
         try clear q10
         obtain ⟨x8_3, x13_3, rfl, HA, HK3, HO_8, HB⟩ := hrel
         have hl8_3 := (Kd.R_reads' HO_8.out).1
         rw [hl8_3] at HO_8
         (try simp only [hl8_3])
         cases gk with
         | zero => exact absurd HA.out (by simp [spec_BoxBySum.l2])
         | succ k3 =>
          have H := HA.out
          clear HA
          simp only [spec_BoxBySum.l2] at H
          by_cases c17 : x13_3 ≥ (wrap64 ((wrap64 ((wrap64 (x9_1 + x10_2)) + a2)) - 1))
          ·rw [if_pos c17] at H
           have c17b0 : decide ((wrap64 ((wrap64 ((wrap64 (x9_1 + x10_2)) + a2)) - 1)) ≤ x13_3) = true := decide_eq_true c17
           clear c17
           by_cases c18 : 0 ≤ x13_3
           rotate_left
           ·rw [if_neg c18] at H
            exact absurd H (by simp)
           rw [if_pos c18] at H
           have c18b0 := decide_eq_true c18
           clear c18
           by_cases c19 : x13_3 < (x8_3.length : Int)
           rotate_left
           ·rw [if_neg c19] at H
            exact absurd H (by simp)
           rw [if_pos c19] at H
           have c19b0 := decide_eq_true c19
           clear c19
           obtain ⟨ji20, hji20⟩ : ∃ j_ : Int, (wrap64 (x13_3 - (wrap64 ((wrap64 ((wrap64 (x9_1 + x10_2)) + a2)) - 1)))) = j_ := ⟨_, rfl⟩
           first | rw [hji20] at H | simp only [hji20] at H
           have hji20w : (IntKind.i64.wrap (x13_3 - (wrap64 ((wrap64 ((wrap64 (x9_1 + x10_2)) + a2)) - 1)))) = ji20 := (i64_w _).trans hji20
           by_cases c21 : 0 ≤ (ji20)
           rotate_left
           ·rw [if_neg c21] at H
            exact absurd H (by simp)
           rw [if_pos c21] at H
           have c21b0 := decide_eq_true c21
           clear c21
           by_cases c22 : (ji20) < (x8_3.length : Int)
           rotate_left
           ·rw [if_neg c22] at H
            exact absurd H (by simp)
           rw [if_pos c22] at H
           have c22b0 := decide_eq_true c22
           clear c22
           obtain ⟨y872, hy872⟩ : ∃ y_ : List Int, y_ = (x8_3.set (x13_3 : Int).toNat (wrap64 ((rd x8_3 x13_3) - (rd x8_3 (ji20))))) := ⟨_, rfl⟩
           replace H : (spec_BoxBySum.l2 k3 a0 a1 a2 y872 x9_1 x10_2 (wrap64 ((wrap64 ((wrap64 (x9_1 + x10_2)) + a2)) - 1)) (wrap64 ((wrap64 (x9_1 + x10_2)) - 1)) (wrap64 (x13_3 - 1))) = some (r1, r2) := by first | (rw [hy872]; with_reducible exact H) | (have H2_ := (Option.bind_some _ _).symm.trans H; rw [hy872]; with_reducible exact H2_) | (have H2_ := (Option.bind_some _ _).symm.trans H; with_reducible exact H2_) | with_reducible exact H | (rw [hy872]; exact H) | exact H
           have Ny872 := am hy872
           clear hy872
           have H' := am H
           clear H
           try go_wp2
           have n0_ := am (Kd.R_drew HO_8.out)
           have n1_ := am (below_drew1 HB.out)
           clear HO_8
           clear HB
           have HO_8 := n0_
           have HB := n1_
           clear n0_ n1_
           have p870 : 0 ≤ (x13_3 : Int) := qd
           have q870 : x13_3 < (x8_3.length : Int) := qd
           obtain ⟨ad870, e870, hx870_0⟩ := Kd.at_int (Kd.R_reads' HO_8.out).2.2 x13_3 p870 q870
           obtain rfl : (⟨go10, 0, none⟩ : Addr) = ad870 := (by injection e870)
           (first | simp only [add_plain] at hx870_0 | simp only [add_at] at hx870_0 | simp only [Addr.add, Nat.zero_add] at hx870_0 | skip)
           replace p870 := eq_true p870
           replace q870 := eq_true q870
           have p871 : 0 ≤ ((ji20) : Int) := qd
           have q871 : (ji20) < (x8_3.length : Int) := qd
           obtain ⟨ad871, e871, hx871_0⟩ := Kd.at_int (Kd.R_reads' HO_8.out).2.2 (ji20) p871 q871
           obtain rfl : (⟨go10, 0, none⟩ : Addr) = ad871 := (by injection e871)
           (first | simp only [add_plain] at hx871_0 | simp only [add_at] at hx871_0 | simp only [Addr.add, Nat.zero_add] at hx871_0 | skip)
           replace p871 := eq_true p871
           replace q871 := eq_true q871
           have p23 : 0 ≤ (x13_3 : Int) := qd
           have q23 : (x13_3 : Int) < ((x8_3.length : Int) : Int) := qd
           obtain ⟨hx23_0, hf23_0⟩ := Kd.R_celln 0 HO_8.out (x13_3 : Int) p23 q23
           replace p23 := eq_true p23
           replace q23 := eq_true q23
           have HP25 := Kd.R_putn HO_8.out (x13_3 : Int) (wrap64 ((rd x8_3 x13_3) - (rd x8_3 (ji20))))
           rw [← Ny872.out] at HP25
           have HQ25 := am HP25
           clear HP25
           refine start_ (n := 13) (S := fun w' => w'.cell? ⟨go10, (x13_3).toNat, none⟩ = some (.int .i64 (rd x8_3 x13_3)) ∧ w'.cell? ⟨go10, ((ji20)).toNat, none⟩ = some (.int .i64 (rd x8_3 (ji20)))) (ds := [12]) #[false, false, false, false, false, false, false, false, false, false, false, false, false] (by kernel_rfl) rfl rfl ⟨hx870_0, hx871_0⟩ (fun hHeld => ?_); refine with_tabW spec_BoxBySum.tab15 spec_BoxBySum.bits15 (fun HT_ HW_ => ?_)
           generalize wr.drew = w24 at HO_8 HB HQ25 hf23_0 hx23_0 hx870_0 hx871_0 hHeld ⊢
           refine pure_ (i := 0) (N := some 57) (v := ?_) (a' := ?_) #[true, false, false, false, false, false, false, false, false, false, false, false, false] rfl rfl (any_of HT_.out (by kernel_rfl)) (fun _ _ _ h => h) (Or.inl ⟨by rfl, ?_⟩) ?_ ?_
           rotate_left
           ·intro w'
            go_simp
            with_reducible rfl
           rotate_left
           ·exact qP
           refine pure_ (i := 1) (N := some 58) (v := ?_) (a' := ?_) #[true, true, false, false, false, false, false, false, false, false, false, false, false] rfl rfl (any_of HT_.out (by kernel_rfl)) (fun _ _ _ h => h) (Or.inl ⟨by rfl, ?_⟩) ?_ ?_
           rotate_left
           ·intro w'
            go_simp
            with_reducible rfl
           rotate_left
           ·exact qP
           refine pure_ (i := 2) (N := some 59) (v := ?_) (a' := ?_) #[true, true, true, false, false, false, false, false, false, false, false, false, false] rfl rfl (any_of HT_.out (by kernel_rfl)) (fun _ _ _ h => h) (Or.inl ⟨by rfl, ?_⟩) ?_ ?_
           rotate_left
           ·intro w'
            go_simp
            with_reducible rfl
           rotate_left
           ·exact qP
           refine pure_ (i := 4) (N := some 61) (v := ?_) (a' := ?_) #[true, true, true, false, true, false, false, false, false, false, false, false, false] rfl rfl (any_of HT_.out (by kernel_rfl)) (fun _ _ _ h => h) (Or.inl ⟨by rfl, ?_⟩) ?_ ?_
           rotate_left
           ·intro w'
            go_simp
            with_reducible rfl
           rotate_left
           ·exact qP
           refine pure_ (i := 5) (N := some 62) (v := ?_) (a' := ?_) #[true, true, true, false, true, true, false, false, false, false, false, false, false] rfl rfl (any_of HT_.out (by kernel_rfl)) (fun _ _ _ h => h) (Or.inl ⟨by rfl, ?_⟩) ?_ ?_
           rotate_left
           ·intro w'
            go_simp
            with_reducible rfl
           rotate_left
           ·exact qP
           refine pure_ (i := 6) (N := some 63) (v := ?_) (a' := ?_) #[true, true, true, false, true, true, true, false, false, false, false, false, false] rfl rfl (any_of HT_.out (by kernel_rfl)) (fun _ _ _ h => h) (Or.inl ⟨by rfl, ?_⟩) ?_ ?_
           rotate_left
           ·intro w'
            go_simp
            with_reducible rfl
           rotate_left
           ·exact qP
           refine pure_ (i := 7) (N := some 64) (v := ?_) (a' := ?_) #[true, true, true, false, true, true, true, true, false, false, false, false, false] rfl rfl (any_of HT_.out (by kernel_rfl)) (fun _ _ _ h => h) (Or.inl ⟨by rfl, ?_⟩) ?_ ?_
           rotate_left
           ·intro w'
            go_simp
            with_reducible rfl
           rotate_left
           ·exact qP
           refine pure_ (i := 8) (N := some 65) (v := ?_) (a' := ?_) #[true, true, true, false, true, true, true, true, true, false, false, false, false] rfl rfl (any_of HT_.out (by kernel_rfl)) (fun _ _ _ h => h) (Or.inl ⟨by rfl, ?_⟩) ?_ ?_
           rotate_left
           ·intro w'
            go_simp
            with_reducible rfl
           rotate_left
           ·exact qP
           refine take_ (i := 3) (N := some 60) (v := ?_) (a' := ?_) #[true, true, true, true, true, true, true, true, true, false, false, false, false] rfl rfl (take_ofW HT_.out HW_.out (by kernel_rfl)) (fun _ _ _ h => h) (Or.inl ⟨by rfl, ?_⟩) hHeld ?_ ?_
           rotate_left
           ·rintro w' ⟨s0, s1⟩
            go_simp
            with_reducible rfl
           rotate_left
           ·exact qP
           refine take_ (i := 9) (N := some 66) (v := ?_) (a' := ?_) #[true, true, true, true, true, true, true, true, true, true, false, false, false] rfl rfl (take_ofW HT_.out HW_.out (by kernel_rfl)) (fun _ _ _ h => h) (Or.inl ⟨by rfl, ?_⟩) hHeld ?_ ?_
           rotate_left
           ·rintro w' ⟨s0, s1⟩
            go_simp
            with_reducible rfl
           rotate_left
           ·exact qP
           refine pure_ (i := 10) (N := some 67) (v := ?_) (a' := ?_) #[true, true, true, true, true, true, true, true, true, true, true, false, false] rfl rfl (any_of HT_.out (by kernel_rfl)) (fun _ _ _ h => h) (Or.inl ⟨by rfl, ?_⟩) ?_ ?_
           rotate_left
           ·intro w'
            go_simp
            with_reducible rfl
           rotate_left
           ·exact qP
           refine pure_ (i := 11) (N := some 68) (v := ?_) (a' := ?_) #[true, true, true, true, true, true, true, true, true, true, true, true, false] rfl rfl (any_of HT_.out (by kernel_rfl)) (fun _ _ _ h => h) (Or.inl ⟨by rfl, ?_⟩) ?_ ?_
           rotate_left
           ·intro w'
            go_simp
            with_reducible rfl
           rotate_left
           ·exact qP
           refine last_ (i := 12) (N := none) #[true, true, true, true, true, true, true, true, true, true, true, true, true] rfl rfl (one_of HT_.out (by kernel_rfl)) (by decide) (fun K hK => ?_)
           refine skip_ (w1 := ?_) (by rfl) rfl ?_ ?_
           rotate_left
           ·go_simp
            rfl
           refine hK.out _ _ ?_
           clear hK K
           refine done_ (done_of HT_.out (by kernel_rfl)) ?_
           try go_wp2
           (try simp only [← hl8_3])
           go_roundg k3
           case measure => have := HK1.out; have := HK2.out; have := HK3.out; omega
           case rel => exact ⟨(y872), (wrap64 (x13_3 - 1)), qe, H', ⟨by have := HK1.out; have := HK2.out; have := HK3.out; omega⟩, ⟨by (try simp only [hl8_1]); (try simp only [hl8_2]); (try simp only [hl8_3]); (with_reducible repeat (first | apply Kd.R_alloc | apply Kd.R_drewN | apply Kd.R_drew)); exact HQ25.out⟩, ⟨qB⟩⟩
          ·rw [if_neg c17] at H
           have c17b0 : decide ((wrap64 ((wrap64 ((wrap64 (x9_1 + x10_2)) + a2)) - 1)) ≤ x13_3) = false := decide_eq_false c17
           clear c17
           have H' := am H
           clear H
           go_wp2
           go_loopg [14] k3 (fun kq v14 w' => ∃ (x8_4 : List Int) (x14_4 : Int), v14 = .int .i64 x14_4 ∧ Aside0 (spec_BoxBySum.l3 kq a0 a1 a2 x8_4 x9_1 x10_2 (wrap64 ((wrap64 (x9_1 + x10_2)) - 1)) x14_4 = some (r1, r2)) ∧ Aside0 (kq ≤ k3) ∧ Aside0 (Kd.R (Kd.int .i64) 3 w' w.heap.size (fun _ => True) (.slice (some ⟨go10, 0, none⟩) x8_3.length co10) x8_4) ∧ Aside0 (Below w.heap.size w w'))
           case atStart => exact ⟨(x8_3), ((wrap64 ((wrap64 (x9_1 + x10_2)) - 1))), qe, H', ⟨Nat.le_refl _⟩, ⟨by (try simp only [hl8_1]); (try simp only [hl8_2]); (try simp only [hl8_3]); (with_reducible repeat (first | apply Kd.R_alloc | apply Kd.R_drewN | apply Kd.R_drew)); exact HO_8.out⟩, ⟨qB⟩⟩
           case round =>
            clear H'
            try clear c1
            try clear p1
            try clear q1
            try clear hx1
            try clear qi1
            try clear c2
            try clear p2
            try clear q2
            try clear hx2
            try clear c4
            try clear c5
            try clear p6
            try clear c7
            try clear c7b0
            try clear c7b1
            try clear c8
            try clear c8b0
            try clear c8b1
            try clear p8
            try clear q8
            try clear hx8
            try clear c9
            try clear c9b0
            try clear c9b1
            try clear c10
            try clear p10
            try clear q10
            try clear hx10
            try clear qi10
            try clear hf10
            try clear c15
            try clear c15b0
            try clear c16
            try clear c16b0
            try clear c17
            try clear c17b0
            try clear c18
            try clear c18b0
            try clear c19
            try clear c19b0
            try clear c21
            try clear c21b0
            try clear c22
            try clear c22b0
            try clear p23
            try clear q23
            try clear hx23
            try clear hf23
            try clear hx10_0
            try clear hx23_0
            try clear hx870_0
            try clear hx871_0
            try clear p1
            try clear p10
            try clear p2
            try clear p23
            try clear p6
            try clear p870
            try clear p871
            try clear q1
            try clear q10
            try clear q23
            try clear q870
            try clear q871
            obtain ⟨x8_4, x14_4, rfl, HA, HK4, HO_8, HB⟩ := hrel
            have hl8_4 := (Kd.R_reads' HO_8.out).1
            rw [hl8_4] at HO_8
            (try simp only [hl8_4])
            cases gk with
            | zero => exact absurd HA.out (by simp [spec_BoxBySum.l3])
            | succ k4 =>
             have H := HA.out
             clear HA
             simp only [spec_BoxBySum.l3] at H
             by_cases c26 : x14_4 < (x8_4.length : Int)
             ·rw [if_pos c26] at H
              have c26b0 := decide_eq_true c26
              clear c26
              by_cases c27 : 0 ≤ x14_4
              rotate_left
              ·rw [if_neg c27] at H
               exact absurd H (by simp)
              rw [if_pos c27] at H
              have c27b0 := decide_eq_true c27
              clear c27
              obtain ⟨ji28, hji28⟩ : ∃ j_ : Int, (wrap64 (x14_4 - (wrap64 ((wrap64 (x9_1 + x10_2)) - 1)))) = j_ := ⟨_, rfl⟩
              first | rw [hji28] at H | simp only [hji28] at H
              have hji28w : (IntKind.i64.wrap (x14_4 - (wrap64 ((wrap64 (x9_1 + x10_2)) - 1)))) = ji28 := (i64_w _).trans hji28
              by_cases c29 : 0 ≤ (ji28)
              rotate_left
              ·rw [if_neg c29] at H
               exact absurd H (by simp)
              rw [if_pos c29] at H
              have c29b0 := decide_eq_true c29
              clear c29
              by_cases c30 : (ji28) < (x8_4.length : Int)
              rotate_left
              ·rw [if_neg c30] at H
               exact absurd H (by simp)
              rw [if_pos c30] at H
              have c30b0 := decide_eq_true c30
              clear c30
              obtain ⟨y875, hy875⟩ : ∃ y_ : List Int, y_ = (x8_4.set (x14_4 : Int).toNat (wrap64 ((rd x8_4 x14_4) + (rd x8_4 (ji28))))) := ⟨_, rfl⟩
              replace H : (spec_BoxBySum.l3 k4 a0 a1 a2 y875 x9_1 x10_2 (wrap64 ((wrap64 (x9_1 + x10_2)) - 1)) (wrap64 (x14_4 + 1))) = some (r1, r2) := by first | (rw [hy875]; with_reducible exact H) | (have H2_ := (Option.bind_some _ _).symm.trans H; rw [hy875]; with_reducible exact H2_) | (have H2_ := (Option.bind_some _ _).symm.trans H; with_reducible exact H2_) | with_reducible exact H | (rw [hy875]; exact H) | exact H
              have Ny875 := am hy875
              clear hy875
              have H' := am H
              clear H
              try go_wp2
              have n0_ := am (Kd.R_drew HO_8.out)
              have n1_ := am (below_drew1 HB.out)
              clear HO_8
              clear HB
              have HO_8 := n0_
              have HB := n1_
              clear n0_ n1_
              have p873 : 0 ≤ (x14_4 : Int) := qd
              have q873 : x14_4 < (x8_4.length : Int) := qd
              obtain ⟨ad873, e873, hx873_0⟩ := Kd.at_int (Kd.R_reads' HO_8.out).2.2 x14_4 p873 q873
              obtain rfl : (⟨go10, 0, none⟩ : Addr) = ad873 := (by injection e873)
              (first | simp only [add_plain] at hx873_0 | simp only [add_at] at hx873_0 | simp only [Addr.add, Nat.zero_add] at hx873_0 | skip)
              replace p873 := eq_true p873
              replace q873 := eq_true q873
              have p874 : 0 ≤ ((ji28) : Int) := qd
              have q874 : (ji28) < (x8_4.length : Int) := qd
              obtain ⟨ad874, e874, hx874_0⟩ := Kd.at_int (Kd.R_reads' HO_8.out).2.2 (ji28) p874 q874
              obtain rfl : (⟨go10, 0, none⟩ : Addr) = ad874 := (by injection e874)
              (first | simp only [add_plain] at hx874_0 | simp only [add_at] at hx874_0 | simp only [Addr.add, Nat.zero_add] at hx874_0 | skip)
              replace p874 := eq_true p874
              replace q874 := eq_true q874
              have p31 : 0 ≤ (x14_4 : Int) := qd
              have q31 : (x14_4 : Int) < ((x8_4.length : Int) : Int) := qd
              obtain ⟨hx31_0, hf31_0⟩ := Kd.R_celln 0 HO_8.out (x14_4 : Int) p31 q31
              replace p31 := eq_true p31
              replace q31 := eq_true q31
              have HP33 := Kd.R_putn HO_8.out (x14_4 : Int) (wrap64 ((rd x8_4 x14_4) + (rd x8_4 (ji28))))
              rw [← Ny875.out] at HP33
              have HQ33 := am HP33
              clear HP33
              refine start_ (n := 13) (S := fun w' => w'.cell? ⟨go10, (x14_4).toNat, none⟩ = some (.int .i64 (rd x8_4 x14_4)) ∧ w'.cell? ⟨go10, ((ji28)).toNat, none⟩ = some (.int .i64 (rd x8_4 (ji28)))) (ds := [12]) #[false, false, false, false, false, false, false, false, false, false, false, false, false] (by kernel_rfl) rfl rfl ⟨hx873_0, hx874_0⟩ (fun hHeld => ?_); refine with_tabW spec_BoxBySum.tab19 spec_BoxBySum.bits19 (fun HT_ HW_ => ?_)
              generalize wr.drew = w32 at HO_8 HB HQ33 hf31_0 hx31_0 hx873_0 hx874_0 hHeld ⊢
              refine pure_ (i := 0) (N := some 76) (v := ?_) (a' := ?_) #[true, false, false, false, false, false, false, false, false, false, false, false, false] rfl rfl (any_of HT_.out (by kernel_rfl)) (fun _ _ _ h => h) (Or.inl ⟨by rfl, ?_⟩) ?_ ?_
              rotate_left
              ·intro w'
               go_simp
               with_reducible rfl
              rotate_left
              ·exact qP
              refine pure_ (i := 1) (N := some 77) (v := ?_) (a' := ?_) #[true, true, false, false, false, false, false, false, false, false, false, false, false] rfl rfl (any_of HT_.out (by kernel_rfl)) (fun _ _ _ h => h) (Or.inl ⟨by rfl, ?_⟩) ?_ ?_
              rotate_left
              ·intro w'
               go_simp
               with_reducible rfl
              rotate_left
              ·exact qP
              refine pure_ (i := 2) (N := some 78) (v := ?_) (a' := ?_) #[true, true, true, false, false, false, false, false, false, false, false, false, false] rfl rfl (any_of HT_.out (by kernel_rfl)) (fun _ _ _ h => h) (Or.inl ⟨by rfl, ?_⟩) ?_ ?_
              rotate_left
              ·intro w'
               go_simp
               with_reducible rfl
              rotate_left
              ·exact qP
              refine pure_ (i := 4) (N := some 80) (v := ?_) (a' := ?_) #[true, true, true, false, true, false, false, false, false, false, false, false, false] rfl rfl (any_of HT_.out (by kernel_rfl)) (fun _ _ _ h => h) (Or.inl ⟨by rfl, ?_⟩) ?_ ?_
              rotate_left
              ·intro w'
               go_simp
               with_reducible rfl
              rotate_left
              ·exact qP
              refine pure_ (i := 5) (N := some 81) (v := ?_) (a' := ?_) #[true, true, true, false, true, true, false, false, false, false, false, false, false] rfl rfl (any_of HT_.out (by kernel_rfl)) (fun _ _ _ h => h) (Or.inl ⟨by rfl, ?_⟩) ?_ ?_
              rotate_left
              ·intro w'
               go_simp
               with_reducible rfl
              rotate_left
              ·exact qP
              refine pure_ (i := 6) (N := some 82) (v := ?_) (a' := ?_) #[true, true, true, false, true, true, true, false, false, false, false, false, false] rfl rfl (any_of HT_.out (by kernel_rfl)) (fun _ _ _ h => h) (Or.inl ⟨by rfl, ?_⟩) ?_ ?_
              rotate_left
              ·intro w'
               go_simp
               with_reducible rfl
              rotate_left
              ·exact qP
              refine pure_ (i := 7) (N := some 83) (v := ?_) (a' := ?_) #[true, true, true, false, true, true, true, true, false, false, false, false, false] rfl rfl (any_of HT_.out (by kernel_rfl)) (fun _ _ _ h => h) (Or.inl ⟨by rfl, ?_⟩) ?_ ?_
              rotate_left
              ·intro w'
               go_simp
               with_reducible rfl
              rotate_left
              ·exact qP
              refine pure_ (i := 8) (N := some 84) (v := ?_) (a' := ?_) #[true, true, true, false, true, true, true, true, true, false, false, false, false] rfl rfl (any_of HT_.out (by kernel_rfl)) (fun _ _ _ h => h) (Or.inl ⟨by rfl, ?_⟩) ?_ ?_
              rotate_left
              ·intro w'
               go_simp
               with_reducible rfl
              rotate_left
              ·exact qP
              refine take_ (i := 3) (N := some 79) (v := ?_) (a' := ?_) #[true, true, true, true, true, true, true, true, true, false, false, false, false] rfl rfl (take_ofW HT_.out HW_.out (by kernel_rfl)) (fun _ _ _ h => h) (Or.inl ⟨by rfl, ?_⟩) hHeld ?_ ?_
              rotate_left
              ·rintro w' ⟨s0, s1⟩
               go_simp
               with_reducible rfl
              rotate_left
              ·exact qP
              refine take_ (i := 9) (N := some 85) (v := ?_) (a' := ?_) #[true, true, true, true, true, true, true, true, true, true, false, false, false] rfl rfl (take_ofW HT_.out HW_.out (by kernel_rfl)) (fun _ _ _ h => h) (Or.inl ⟨by rfl, ?_⟩) hHeld ?_ ?_
              rotate_left
              ·rintro w' ⟨s0, s1⟩
               go_simp
               with_reducible rfl
              rotate_left
              ·exact qP
              refine pure_ (i := 10) (N := some 86) (v := ?_) (a' := ?_) #[true, true, true, true, true, true, true, true, true, true, true, false, false] rfl rfl (any_of HT_.out (by kernel_rfl)) (fun _ _ _ h => h) (Or.inl ⟨by rfl, ?_⟩) ?_ ?_
              rotate_left
              ·intro w'
               go_simp
               with_reducible rfl
              rotate_left
              ·exact qP
              refine pure_ (i := 11) (N := some 87) (v := ?_) (a' := ?_) #[true, true, true, true, true, true, true, true, true, true, true, true, false] rfl rfl (any_of HT_.out (by kernel_rfl)) (fun _ _ _ h => h) (Or.inl ⟨by rfl, ?_⟩) ?_ ?_
              rotate_left
              ·intro w'
               go_simp
               with_reducible rfl
              rotate_left
              ·exact qP
              refine last_ (i := 12) (N := none) #[true, true, true, true, true, true, true, true, true, true, true, true, true] rfl rfl (one_of HT_.out (by kernel_rfl)) (by decide) (fun K hK => ?_)
              refine skip_ (w1 := ?_) (by rfl) rfl ?_ ?_
              rotate_left
              ·go_simp
               rfl
              refine hK.out _ _ ?_
              clear hK K
              refine done_ (done_of HT_.out (by kernel_rfl)) ?_
              try go_wp2
              (try simp only [← hl8_4])
              go_roundg k4
              case measure => have := HK1.out; have := HK2.out; have := HK3.out; have := HK4.out; omega
              case rel => exact ⟨(y875), (wrap64 (x14_4 + 1)), qe, H', ⟨by have := HK1.out; have := HK2.out; have := HK3.out; have := HK4.out; omega⟩, ⟨by (try simp only [hl8_1]); (try simp only [hl8_2]); (try simp only [hl8_3]); (try simp only [hl8_4]); (with_reducible repeat (first | apply Kd.R_alloc | apply Kd.R_drewN | apply Kd.R_drew)); exact HQ33.out⟩, ⟨qB⟩⟩
             ·rw [if_neg c26] at H
              have c26b0 := decide_eq_false c26
              clear c26
              have H' := am H
              clear H
              go_wp2
              (try simp only [← hl8_2, ← hl8_3, ← hl8_4])
              go_roundg k4
              case measure => have := HK1.out; have := HK2.out; have := HK3.out; have := HK4.out; omega
              case rel => exact ⟨(x8_4), (wrap64 (x10_2 + 1)), qe, H', ⟨by have := HK1.out; have := HK2.out; have := HK3.out; have := HK4.out; omega⟩, ⟨by (try simp only [hl8_1]); (try simp only [hl8_2]); (try simp only [hl8_3]); (try simp only [hl8_4]); (with_reducible repeat (first | apply Kd.R_alloc | apply Kd.R_drewN | apply Kd.R_drew)); exact HO_8.out⟩, ⟨qB⟩⟩
       ·rw [if_neg c16] at H
        have c16b0 := decide_eq_false c16
        clear c16
        have H' := am H
        clear H
        go_wp2
        (try simp only [← hl8_1, ← hl8_2])
        go_roundg k2
        case measure => have := HK1.out; have := HK2.out; omega
        case rel => exact ⟨(x8_2), (wrap64 (x9_1 + 1)), qe, H', ⟨by have := HK1.out; have := HK2.out; omega⟩, ⟨by (try simp only [hl8_1]); (try simp only [hl8_2]); (with_reducible repeat (first | apply Kd.R_alloc | apply Kd.R_drewN | apply Kd.R_drew)); exact HO_8.out⟩, ⟨qB⟩⟩
    ·rw [if_neg c15] at H
     have c15b0 := decide_eq_false c15
     clear c15
     simp only [Option.some.injEq, Prod.mk.injEq] at H
     obtain ⟨rfl, rfl⟩ := H
     go_wp2
     go_ret2
     exact ⟨_, by first | rfl | (simp [errW_none, errW_some] <;> rfl) | (simp only [← hji6]; first | rfl | (simp [errW_none, errW_some] <;> rfl)) | (simp [*, errW_none, errW_some] <;> rfl), qR HO_8.out, qB⟩
 ·replace c5 := Bool.eq_false_iff.mpr c5
  subst c5
  rw [if_neg (show ¬ (false = true) by decide)] at H
  simp only [Option.some.injEq, Prod.mk.injEq] at H
  obtain ⟨rfl, rfl⟩ := H
  go_enter Try.func44, Try.ntmps44
  go_wp2_with (((with_reducible refine gate_callee (f := 106) rfl ?_); refine gL (some 18) Try.func106 #[.int .i64 a0, .int .i64 a1, .int .i64 a2] ?_; (with_reducible refine (spec_laBox.calls a0 a1 a2 false _ A4.out).mono ?_); rintro e w' ⟨rfl, ⟨nd, rfl⟩⟩; refine ⟨_, rfl, ?_⟩))
  go_ret2
  exact ⟨_, qr, by first | exact Kd.R_nil _ _ _ _ _ | exact Kd.N_nil _ _ _ _ _ | exact Kd.V_nil _ _ _ _ _ | exact Kd.Q_nil _ _ _ _ _ | exact Kd.S_nil _ _ _ _ _, qB⟩
mutual
def spec_BoxCount.l0 : Nat → Int → Int → Int → Int → Int → Int → Option (Int × Bool)
 | 0, _, _, _, _, _, _ => none
 | k + 1, x0, x1, x2, x8, x9, x10 => if x10 ≤ x0 then (spec_BoxCount.l1 k x0 x1 x2 x8 x9 x10 1) else (if x9 = 0 then (none) else (some (wrap64 (Int.tdiv x8 x9), true)))
def spec_BoxCount.l1 : Nat → Int → Int → Int → Int → Int → Int → Int → Option (Int × Bool)
 | 0, _, _, _, _, _, _, _ => none
 | k + 1, x0, x1, x2, x8, x9, x10, x11 => if x11 ≤ x1 then ((spec_liGcd.f k (wrap64 (x8 * (wrap64 ((wrap64 ((wrap64 (x10 + x11)) + x2)) - 1)))) (wrap64 (x9 * (wrap64 ((wrap64 (x10 + x11)) - 1))))).bind fun t884 => (if t884 = 0 then (none) else (spec_BoxCount.l1 k x0 x1 x2 (wrap64 (Int.tdiv (wrap64 (x8 * (wrap64 ((wrap64 ((wrap64 (x10 + x11)) + x2)) - 1)))) t884)) (wrap64 (Int.tdiv (wrap64 (x9 * (wrap64 ((wrap64 (x10 + x11)) - 1)))) t884)) x10 (wrap64 (x11 + 1))))) else (spec_BoxCount.l0 k x0 x1 x2 x8 x9 (wrap64 (x10 + 1)))
end
def spec_BoxCount.f (k : Nat) (a0 : Int) (a1 : Int) (a2 : Int) : Option (Int × Bool) := (spec_laBox.f a0 a1 a2).bind fun t883 => (if t883 = true then (spec_BoxCount.l0 k a0 a1 a2 1 1 1) else (some (0, false)))
theorem spec_BoxCount.mono_l : ∀ k, (∀ y0 y1 y2 y3 y4 y5, LeO (spec_BoxCount.l0 k y0 y1 y2 y3 y4 y5) (spec_BoxCount.l0 (k + 1) y0 y1 y2 y3 y4 y5)) ∧ (∀ y0 y1 y2 y3 y4 y5 y6, LeO (spec_BoxCount.l1 k y0 y1 y2 y3 y4 y5 y6) (spec_BoxCount.l1 (k + 1) y0 y1 y2 y3 y4 y5 y6))
 | 0 => ⟨fun _ _ _ _ _ _ r h => by simp [spec_BoxCount.l0] at h, fun _ _ _ _ _ _ _ r h => by simp [spec_BoxCount.l1] at h⟩
 | k + 1 => by
  obtain ⟨ih0, ih1⟩ := spec_BoxCount.mono_l k
  refine ⟨?_, ?_⟩
  ·intro y0 y1 y2 y3 y4 y5
   unfold spec_BoxCount.l0
   repeat' first
   | (with_reducible exact spec_liGcd.mono _ _ _)
   | (with_reducible exact LeO.refl _)
   | (with_reducible exact LeO.none _)
   | (with_reducible refine LeO.ite ?_ ?_)
   | (with_reducible refine LeO.bind ?_ (fun _ => ?_))
   | exact ih0 _ _ _ _ _ _
   | exact ih1 _ _ _ _ _ _ _
   | exact spec_liGcd.mono _ _ _
   | exact LeO.none _
   | refine LeO.ite ?_ ?_
   | refine LeO.bind ?_ (fun _ => ?_)
  ·intro y0 y1 y2 y3 y4 y5 y6
   unfold spec_BoxCount.l1
   repeat' first
   | (with_reducible exact spec_liGcd.mono _ _ _)
   | (with_reducible exact LeO.refl _)
   | (with_reducible exact LeO.none _)
   | (with_reducible refine LeO.ite ?_ ?_)
   | (with_reducible refine LeO.bind ?_ (fun _ => ?_))
   | exact ih0 _ _ _ _ _ _
   | exact ih1 _ _ _ _ _ _ _
   | exact spec_liGcd.mono _ _ _
   | exact LeO.none _
   | refine LeO.ite ?_ ?_
   | refine LeO.bind ?_ (fun _ => ?_)
theorem spec_BoxCount.mono : ∀ a0 a1 a2 k, LeO (spec_BoxCount.f k a0 a1 a2) (spec_BoxCount.f (k + 1) a0 a1 a2) := by
 intro a0 a1 a2 k
 obtain ⟨ih0, ih1⟩ := spec_BoxCount.mono_l k
 unfold spec_BoxCount.f
 repeat' first
  | (with_reducible exact spec_liGcd.mono _ _ _)
  | (with_reducible exact LeO.refl _)
  | (with_reducible exact LeO.none _)
  | (with_reducible refine LeO.ite ?_ ?_)
  | (with_reducible refine LeO.bind ?_ (fun _ => ?_))
  | exact ih0 _ _ _ _ _ _
  | exact ih1 _ _ _ _ _ _ _
  | exact spec_liGcd.mono _ _ _
  | exact LeO.none _
  | refine LeO.ite ?_ ?_
  | refine LeO.bind ?_ (fun _ => ?_)
set_option maxHeartbeats 8000000 in
set_option maxRecDepth 100000 in
theorem spec_BoxCount.calls (k : Nat) (a0 : Int) (a1 : Int) (a2 : Int) (r1 : Int) (r2 : Bool) (w : World) (h : spec_BoxCount.f k a0 a1 a2 = some (r1, r2)) :
 Calls Try.prog 46 #[.int .i64 a0, .int .i64 a1, .int .i64 a2] w fun e w' => e = .returned (.tuple #[.int .i64 r1, .bool r2]) ∧ Drawn0 w w' := by
 have H := h
 unfold spec_BoxCount.f at H
 clear h
 replace H := Option.bind_eq_some_iff.mp H
 obtain ⟨t883, A40, H⟩ := H
 (try dsimp only at H)
 have A4 := am A40
 clear A40
 by_cases c5 : t883 = true
 ·subst c5
  rw [if_pos rfl] at H
  have H' := am H
  clear H
  go_enter Try.func46, Try.ntmps46
  go_wp2_with (((with_reducible refine gate_callee (f := 106) rfl ?_); refine gL (some 16) Try.func106 #[.int .i64 a0, .int .i64 a1, .int .i64 a2] ?_; (with_reducible refine (spec_laBox.calls a0 a1 a2 true _ A4.out).mono ?_); rintro e w' ⟨rfl, ⟨nd, rfl⟩⟩; refine ⟨_, rfl, ?_⟩))
  go_loopg [8, 9, 10] k (fun kq v8 v9 v10 w' => ∃ (x8_1 : Int) (x9_1 : Int) (x10_1 : Int), v8 = .int .i64 x8_1 ∧ v9 = .int .i64 x9_1 ∧ v10 = .int .i64 x10_1 ∧ Aside0 (spec_BoxCount.l0 kq a0 a1 a2 x8_1 x9_1 x10_1 = some (r1, r2)) ∧ Aside0 (kq ≤ k) ∧ Drawn0 w w')
  case atStart => exact ⟨(1), (1), (1), qe, qe, qe, H', ⟨Nat.le_refl _⟩, by repeat (first | exact Drawn0.refl _ | apply Drawn0.step)⟩
  case round =>
   clear H'
   try clear c1
   try clear p2
   try clear c4
   try clear c5
   obtain ⟨x8_1, x9_1, x10_1, rfl, rfl, rfl, HA, HK1, ⟨m1, rfl⟩⟩ := hrel
   cases gk with
   | zero => exact absurd HA.out (by simp [spec_BoxCount.l0])
   | succ k1 =>
    have H := HA.out
    clear HA
    simp only [spec_BoxCount.l0] at H
    by_cases c6 : x10_1 ≤ a0
    ·rw [if_pos c6] at H
     have c6b0 := decide_eq_true c6
     clear c6
     have H' := am H
     clear H
     go_wp2
     go_loopg [8, 9, 11] k1 (fun kq v8 v9 v11 w' => ∃ (x8_2 : Int) (x9_2 : Int) (x11_2 : Int), v8 = .int .i64 x8_2 ∧ v9 = .int .i64 x9_2 ∧ v11 = .int .i64 x11_2 ∧ Aside0 (spec_BoxCount.l1 kq a0 a1 a2 x8_2 x9_2 x10_1 x11_2 = some (r1, r2)) ∧ Aside0 (kq ≤ k1) ∧ Drawn0 w w')
     case atStart => exact ⟨(x8_1), (x9_1), (1), qe, qe, qe, H', ⟨Nat.le_refl _⟩, by repeat (first | exact Drawn0.refl _ | apply Drawn0.step)⟩
     case round =>
      clear H'
      try clear c1
      try clear p2
      try clear c4
      try clear c5
      try clear c6
      try clear c6b0
      try clear p2
      obtain ⟨x8_2, x9_2, x11_2, rfl, rfl, rfl, HA, HK2, ⟨m2, rfl⟩⟩ := hrel
      cases gk with
      | zero => exact absurd HA.out (by simp [spec_BoxCount.l1])
      | succ k2 =>
       have H := HA.out
       clear HA
       simp only [spec_BoxCount.l1] at H
       by_cases c7 : x11_2 ≤ a1
       ·rw [if_pos c7] at H
        have c7b0 := decide_eq_true c7
        clear c7
        replace H := Option.bind_eq_some_iff.mp H
        obtain ⟨t884, A80, H⟩ := H
        (try dsimp only at H)
        have A8 := am A80
        clear A80
        by_cases c9 : t884 = 0
        ·rw [if_pos c9] at H
         exact absurd H (by simp)
        ·rw [if_neg c9] at H
         have c9b0 : (t884 == 0) = false := beq_eq_false_iff_ne.mpr c9
         have c9b1 : (t884 != 0) = true := bne_iff_ne.mpr c9
         have H' := am H
         clear H
         go_wp2_with (((with_reducible refine gate_callee (f := 107) rfl ?_); refine gL (some 44) Try.func107 #[.int .i64 (wrap64 (x8_2 * (wrap64 ((wrap64 ((wrap64 (x10_1 + x11_2)) + a2)) - 1)))), .int .i64 (wrap64 (x9_2 * (wrap64 ((wrap64 (x10_1 + x11_2)) - 1))))] ?_; (with_reducible refine (spec_liGcd.calls k2 (wrap64 (x8_2 * (wrap64 ((wrap64 ((wrap64 (x10_1 + x11_2)) + a2)) - 1)))) (wrap64 (x9_2 * (wrap64 ((wrap64 (x10_1 + x11_2)) - 1)))) t884 _ A8.out).mono ?_); rintro e w' ⟨rfl, ⟨nd, rfl⟩⟩; refine ⟨_, rfl, ?_⟩))
         go_roundg k2
         case measure => have := HK1.out; have := HK2.out; omega
         case rel => exact ⟨(wrap64 (Int.tdiv (wrap64 (x8_2 * (wrap64 ((wrap64 ((wrap64 (x10_1 + x11_2)) + a2)) - 1)))) t884)), (wrap64 (Int.tdiv (wrap64 (x9_2 * (wrap64 ((wrap64 (x10_1 + x11_2)) - 1)))) t884)), (wrap64 (x11_2 + 1)), qe, qe, qe, H', ⟨by have := HK1.out; have := HK2.out; omega⟩, by repeat (first | exact Drawn0.refl _ | apply Drawn0.step)⟩
       ·rw [if_neg c7] at H
        have c7b0 := decide_eq_false c7
        clear c7
        have H' := am H
        clear H
        go_wp2
        go_roundg k2
        case measure => have := HK1.out; have := HK2.out; omega
        case rel => exact ⟨(x8_2), (x9_2), (wrap64 (x10_1 + 1)), qe, qe, qe, H', ⟨by have := HK1.out; have := HK2.out; omega⟩, by repeat (first | exact Drawn0.refl _ | apply Drawn0.step)⟩
    ·rw [if_neg c6] at H
     have c6b0 := decide_eq_false c6
     clear c6
     by_cases c10 : x9_1 = 0
     ·rw [if_pos c10] at H
      exact absurd H (by simp)
     ·rw [if_neg c10] at H
      have c10b0 : (x9_1 == 0) = false := beq_eq_false_iff_ne.mpr c10
      have c10b1 : (x9_1 != 0) = true := bne_iff_ne.mpr c10
      simp only [Option.some.injEq, Prod.mk.injEq] at H
      obtain ⟨rfl, rfl⟩ := H
      go_wp2
      go_ret2
      exact ⟨by first | rfl | (simp; done) | (simp [*]; done), by repeat (first | exact Drawn0.refl _ | apply Drawn0.step)⟩
 ·replace c5 := Bool.eq_false_iff.mpr c5
  subst c5
  rw [if_neg (show ¬ (false = true) by decide)] at H
  simp only [Option.some.injEq, Prod.mk.injEq] at H
  obtain ⟨rfl, rfl⟩ := H
  go_enter Try.func46, Try.ntmps46
  go_wp2_with (((with_reducible refine gate_callee (f := 106) rfl ?_); refine gL (some 16) Try.func106 #[.int .i64 a0, .int .i64 a1, .int .i64 a2] ?_; (with_reducible refine (spec_laBox.calls a0 a1 a2 false _ A4.out).mono ?_); rintro e w' ⟨rfl, ⟨nd, rfl⟩⟩; refine ⟨_, rfl, ?_⟩))
  go_ret2
  exact ⟨by first | rfl | (simp; done) | (simp [*]; done), by repeat (first | exact Drawn0.refl _ | apply Drawn0.step)⟩
end Go.Proofs.Ytmbojobkiainlaa.F
end

section
namespace Go.Proofs.Ytmbojobkiainlaa.Q
open Go.RowKit Go.Proofs.YtmbojobkiainlaaW.PrintWords
set_option linter.unusedVariables false
theorem wid {n : Int} (h0 : -9223372036854775808 ≤ n) (h1 : n ≤ 9223372036854775807) : wrap64 n = n := by unfold wrap64; omega
theorem wid1 {i n : Nat} (h : i < n) (hn : n ≤ 9223372036854775807) : wrap64 ((i : Int) + 1) = ((i + 1 : Nat) : Int) := by unfold wrap64; omega
theorem rdN (l : List Int) (i : Nat) : rd l (i : Int) = l.getD i 0 := by unfold rd; simp
theorem rdN' {l : List Int} {i : Nat} (h : i < l.length) : rd l (i : Int) = l[i] := by rw [rdN, List.getD_eq_getElem?_getD, List.getElem?_eq_getElem h]; rfl
theorem downTo {P : Nat → Prop} (n : Nat) (h0 : P n) (hs : ∀ i, i < n → P (i + 1) → P i) : ∀ i, i ≤ n → P i := by
  intro i hi
  obtain ⟨d, hd⟩ : ∃ d, n - i = d := ⟨_, rfl⟩
  induction d generalizing i with
  | zero => have : i = n := by omega
            subst this; exact h0
  | succ d ih => exact hs i (by omega) (ih (i + 1) (by omega) (by omega))
theorem evc {α : Type} {g : Nat → Option α} {r r' : α} (h : Ev g r) (e : r = r') : Ev g r' := e ▸ h
theorem Ev.ret {α : Type} {r r' : α} (e : r = r') : Ev (fun _ => some r) r' := e ▸ Ev.now r
theorem Ev.call {α β : Type} {o : Option α} {a : α} {f : Nat → α → Option β} {r : β} (h : o = some a) (k : Ev (fun n => f n a) r) : Ev (fun n => o.bind (f n)) r := by
 subst h; exact k
theorem Ev.yes {α : Type} {c : Prop} [Decidable c] {f g : Nat → Option α} {r : α} (h : c) (k : Ev f r) : Ev (fun n => if c then f n else g n) r := by
 obtain ⟨K, k⟩ := k
 exact ⟨K, fun n hn => by show (if c then f n else g n) = _; rw [if_pos h]; exact k n hn⟩
theorem Ev.no {α : Type} {c : Prop} [Decidable c] {f g : Nat → Option α} {r : α} (h : ¬ c) (k : Ev g r) : Ev (fun n => if c then f n else g n) r := by
 obtain ⟨K, k⟩ := k
 exact ⟨K, fun n hn => by show (if c then f n else g n) = _; rw [if_neg h]; exact k n hn⟩
theorem Ev.ite {α : Type} {c : Prop} [Decidable c] {f g : Nat → Option α} {r : α} (h1 : c → Ev f r) (h2 : ¬ c → Ev g r) : Ev (fun n => if c then f n else g n) r := by
 by_cases h : c
 ·exact Ev.yes h (h1 h)
 ·exact Ev.no h (h2 h)
theorem Ev.uniq {α : Type} {g : Nat → Option α} {r r' : α} (h : Ev g r) (h' : Ev g r') : r = r' := by
 obtain ⟨K, h⟩ := h
 obtain ⟨K', h'⟩ := h'
 have a := h (max K K') (by omega)
 have b := h' (max K K') (by omega)
 rw [a] at b
 exact Option.some.inj b
theorem Ev.const {α : Type} {o : Option α} {r : α} (h : o = some r) : Ev (fun _ => o) r := ⟨0, fun _ _ => h⟩

def ndiff (a b : Nat) : Nat := a ^^^ (a &&& b)
theorem ndiff_bit (a b i : Nat) : (ndiff a b).testBit i = (a.testBit i && !b.testBit i) := by
 unfold ndiff; rw [Nat.testBit_xor, Nat.testBit_and]; cases a.testBit i <;> cases b.testBit i <;> rfl
theorem wrap_i64_id {n : Int} (h0 : -9223372036854775808 ≤ n) (h1 : n ≤ 9223372036854775807) : IntKind.i64.wrap n = n := by rw [IntKind.wrap_i64]; omega
theorem wraps62 (n : Int) (h0 : 0 ≤ n) (h1 : n < 2 ^ 62) : IntKind.i64.wrap n = n := wrap_i64_id (by omega) (by omega)
theorem bits_andN {a b : Nat} (ha : a < 2 ^ 62) (hb : b < 2 ^ 62) : Go.bits .and .i64 (a : Int) (b : Int) = ((a &&& b : Nat) : Int) :=
 (Go.bits_nat .i64 62 (by decide) wraps62 a b ha hb).1
theorem bits_orN {a b : Nat} (ha : a < 2 ^ 62) (hb : b < 2 ^ 62) : Go.bits .or .i64 (a : Int) (b : Int) = ((a ||| b : Nat) : Int) :=
 (Go.bits_nat .i64 62 (by decide) wraps62 a b ha hb).2
theorem lt_pow {a n m : Nat} (h : a < 2 ^ n) (hnm : n ≤ m) : a < 2 ^ m := Nat.lt_of_lt_of_le h (Nat.pow_le_pow_right (by decide) hnm)
theorem ndiff_le (a b : Nat) : ndiff a b ≤ a := by
 have h := Nat.and_le_left (n := a) (m := b)
 have hx : ndiff a b &&& (a &&& b) = 0 := by
  apply Nat.eq_of_testBit_eq
  intro i
  rw [Nat.testBit_and, ndiff_bit, Nat.testBit_and, Nat.zero_testBit]
  cases a.testBit i <;> cases b.testBit i <;> rfl
 apply Nat.le_of_testBit
 intro i hi
 rw [ndiff_bit] at hi
 simp at hi
 exact hi.1
theorem ndiff_lt {a b m : Nat} (h : a < m) : ndiff a b < m := Nat.lt_of_le_of_lt (ndiff_le a b) h
theorem bits_andNotN {a b : Nat} (ha : a < 2 ^ 62) (hb : b < 2 ^ 62) : Go.bits .andNot .i64 (a : Int) (b : Int) = ((ndiff a b : Nat) : Int) := by
 have e : Go.bits .andNot .i64 (a : Int) (b : Int) = IntKind.i64.wrap ((((BitVec.ofInt 64 a) &&& ~~~(BitVec.ofInt 64 b)).toNat : Nat) : Int) := rfl
 have e2 : ((BitVec.ofInt 64 (a : Int)) &&& ~~~(BitVec.ofInt 64 (b : Int))).toNat = ndiff a b := by
  apply Nat.eq_of_testBit_eq
  intro i
  rw [ndiff_bit, BitVec.ofInt_natCast, BitVec.ofInt_natCast]
  rw [BitVec.testBit_toNat, BitVec.getLsbD_and, BitVec.getLsbD_not, BitVec.getLsbD_ofNat, BitVec.getLsbD_ofNat]
  by_cases hi : i < 64
  ·simp [hi]
  ·have : a.testBit i = false := Nat.testBit_lt_two_pow (lt_pow ha (by omega))
   simp [hi, this]
 rw [e, e2]
 have h2 := ndiff_lt (b := b) ha
 exact wrap_i64_id (by omega) (by omega)
theorem shlN {i : Nat} (hi : i ≤ 61) : shl .i64 1 (i : Int) = ((2 ^ i : Nat) : Int) := by
 unfold shl
 have h1 : min (i : Int).toNat (IntKind.bits .i64) = i := by simp [IntKind.bits]; omega
 rw [h1]
 have h2 : (2 : Nat) ^ i < 2 ^ 62 := Nat.pow_lt_pow_right (by decide) (by omega)
 have e : (1 : Int) * 2 ^ i = ((2 ^ i : Nat) : Int) := by rw [Int.one_mul]; exact (Int.natCast_pow 2 i).symm
 rw [e]
 exact wraps62 _ (Int.natCast_nonneg _) (by
  have : ((2 ^ i : Nat) : Int) < ((4611686018427387904 : Nat) : Int) := by exact_mod_cast h2
  exact this)
theorem shrN (a i : Nat) (hi : i ≤ 64) : shr .i64 (a : Int) (i : Int) = ((a / 2 ^ i : Nat) : Int) := by
 unfold shr
 have h1 : min (i : Int).toNat (IntKind.bits .i64) = i := by simp [IntKind.bits]; omega
 rw [h1, Int.natCast_ediv, Int.natCast_pow]; rfl
theorem odd_bit (a i : Nat) : ((a / 2 ^ i) % 2 == 1) = a.testBit i := by
 rw [Nat.testBit_eq_decide_div_mod_eq]; rfl
theorem or_lt {a b n : Nat} (ha : a < 2 ^ n) (hb : b < 2 ^ n) : a ||| b < 2 ^ n := Nat.or_lt_two_pow ha hb
theorem bit_lt {a n i : Nat} (h : a < 2 ^ n) (hi : n ≤ i) : a.testBit i = false := Nat.testBit_lt_two_pow (lt_pow h hi)
theorem lt_of_bit {a n i : Nat} (h : a < 2 ^ n) (hi : a.testBit i = true) : i < n := by
 rcases Nat.lt_or_ge i n with h1 | h1
 ·exact h1
 ·rw [bit_lt h h1] at hi; cases hi
theorem pow_bit (i j : Nat) : (2 ^ i).testBit j = decide (i = j) := by
 rw [Nat.testBit_two_pow]
theorem pow_lt_pow {i n : Nat} (h : i < n) : 2 ^ i < 2 ^ n := Nat.pow_lt_pow_right (by decide) h
theorem ext_bits {a b n : Nat} (ha : a < 2 ^ n) (hb : b < 2 ^ n) (h : ∀ i, i < n → a.testBit i = b.testBit i) : a = b := by
 apply Nat.eq_of_testBit_eq
 intro i
 rcases Nat.lt_or_ge i n with h1 | h1
 ·exact h i h1
 ·rw [bit_lt ha h1, bit_lt hb h1]
def allFrom (f : Nat → Bool) (n i : Nat) : Bool := (List.range' i (n - i)).all f
theorem allFrom_end (f : Nat → Bool) (n : Nat) : allFrom f n n = true := by simp [allFrom]
theorem allFrom_step (f : Nat → Bool) {n i : Nat} (h : i < n) : allFrom f n i = (f i && allFrom f n (i + 1)) := by
 unfold allFrom
 obtain ⟨d, hd⟩ : ∃ d, n - i = d + 1 := ⟨n - i - 1, by omega⟩
 rw [hd, List.range'_succ, List.all_cons, show n - (i + 1) = d by omega]
theorem allFrom_iff (f : Nat → Bool) (n i : Nat) : allFrom f n i = true ↔ ∀ j, i ≤ j → j < n → f j = true := by
 unfold allFrom
 rw [List.all_eq_true]
 constructor
 ·intro h j h1 h2
  exact h j (List.mem_range'_1.2 ⟨h1, by omega⟩)
 ·intro h j hj
  obtain ⟨h1, h2⟩ := List.mem_range'_1.1 hj
  exact h j h1 (by omega)
theorem allFrom_congr {f g : Nat → Bool} {n i : Nat} (h : ∀ j, i ≤ j → j < n → f j = g j) : allFrom f n i = allFrom g n i := by
 rw [Bool.eq_iff_iff, allFrom_iff, allFrom_iff]
 exact ⟨fun H j a b => by rw [← h j a b]; exact H j a b, fun H j a b => by rw [h j a b]; exact H j a b⟩
theorem pow_int (i : Nat) : ((2 : Int) ^ i) = ((2 ^ i : Nat) : Int) := (Int.natCast_pow 2 i).symm
theorem mask_eq {i : Nat} (hi : i ≤ 61) : wrap64 ((shl .i64 1 (i : Int)) - 1) = (2 : Int) ^ i - 1 := by
 rw [shlN hi, pow_int]
 have h2 : (2 : Nat) ^ i ≤ 2 ^ 61 := Nat.pow_le_pow_right (by decide) hi
 have hp : 0 < 2 ^ i := Nat.two_pow_pos i
 apply wid <;> generalize 2 ^ i = z at * <;> omega
theorem bit_test {a : Nat} {j : Nat} (hj : j ≤ 64) : (Int.tmod (shr .i64 (a : Int) (j : Int)) 2 = 1) ↔ a.testBit j = true := by
 rw [shrN a j hj, Int.tmod_eq_emod_of_nonneg (Int.natCast_nonneg _), ← odd_bit, beq_iff_eq]
 omega
theorem range_false {a b : Int} {x : Int} (h : ¬ (a ≤ x ∧ x ≤ b)) : (decide (a ≤ x) && decide (x ≤ b)) = false := by
 rw [← Bool.not_eq_true, Bool.and_eq_true, decide_eq_true_eq, decide_eq_true_eq]; exact h
theorem range_true {a b : Int} {x : Int} (h : a ≤ x ∧ x ≤ b) : (decide (a ≤ x) && decide (x ≤ b)) = true := by
 rw [Bool.and_eq_true, decide_eq_true_eq, decide_eq_true_eq]; exact h
end Go.Proofs.Ytmbojobkiainlaa.Q
end

section
namespace Go.Proofs.Ytmbojobkiainlaa.Q
open Go.RowKit Go.Proofs.YtmbojobkiainlaaW.PrintWords Go.Proofs.Ytmbojobkiainlaa.F
set_option linter.unusedVariables false
theorem l1In_eq (a b c : Int) : spec_l1In.f a b c = some (decide (b ≤ a) && decide (a ≤ c)) := by
 unfold spec_l1In.f
 by_cases h : b ≤ a
 ·rw [if_pos h]; simp [h]
 ·rw [if_neg h]; simp [h]
end Go.Proofs.Ytmbojobkiainlaa.Q
end

section
namespace Go.Proofs.Ytmbojobkiainlaa.Q
open Go.RowKit Go.Proofs.YtmbojobkiainlaaW.PrintWords
set_option linter.unusedVariables false
theorem Ev.all {α : Type} {g : Nat → Nat → Option α} {r : Nat → α} : ∀ N : Nat, (∀ s, s < N → Ev (g s) (r s)) → ∃ K, ∀ k, K ≤ k → ∀ s, s < N → g s k = some (r s)
 | 0, _ => ⟨0, fun k _ s hs => absurd hs (Nat.not_lt_zero _)⟩
 | N + 1, h => by
  obtain ⟨K, hK⟩ := Ev.all N (fun s hs => h s (by omega))
  obtain ⟨K', hK'⟩ := h N (Nat.lt_succ_self _)
  refine ⟨K + K', fun k hk s hs => ?_⟩
  rcases Nat.lt_or_ge s N with h1 | h1
  ·exact hK k (by omega) s h1
  ·rw [show s = N by omega]; exact hK' k (by omega)
end Go.Proofs.Ytmbojobkiainlaa.Q
end

section
namespace Go.Proofs.Ytmbojobkiainlaa.Q
open Go.RowKit Go.Proofs.YtmbojobkiainlaaW.PrintWords Go.Proofs.Ytmbojobkiainlaa.F
set_option linter.unusedVariables false
theorem has_eq {a j : Nat} (ha : a < 2 ^ 62) (hj : j ≤ 64) : impl_has.f (a : Int) (j : Int) = some (a.testBit j) := by
 unfold impl_has.f
 rw [if_pos (Int.natCast_nonneg _), shrN a j hj]
 congr 1
 have h1 : a / 2 ^ j < 2 ^ 62 := Nat.lt_of_le_of_lt (Nat.div_le_self _ _) ha
 have := bits_andN (a := a / 2 ^ j) (b := 1) h1 (by decide)
 rw [show ((1 : Nat) : Int) = 1 from rfl] at this
 rw [this, ← odd_bit, Nat.and_one_is_mod]
 rw [Bool.eq_iff_iff, beq_iff_eq, beq_iff_eq]
 omega
def inR (a b x : Int) : Bool := decide (a ≤ x) && decide (x ≤ b)
theorem inR_iff {a b x : Int} : inR a b x = true ↔ a ≤ x ∧ x ≤ b := by unfold inR; rw [Bool.and_eq_true, decide_eq_true_eq, decide_eq_true_eq]
theorem l1All_ev (l : List Int) (a b : Int) (h : l.length ≤ 9223372036854775807) : Ev (fun k => spec_l1All.f k l a b) (allFrom (fun i => inR a b (l.getD i 0)) l.length 0) := by
 unfold spec_l1All.f
 have key : ∀ i, i ≤ l.length → Ev (fun k => spec_l1All.l0 k a b l (l.length : Int) (i : Int)) (allFrom (fun i => inR a b (l.getD i 0)) l.length i) := by
  refine downTo _ ?_ ?_
  ·refine Ev.step (by intro k; simp only [spec_l1All.l0]; rfl) (Ev.no (by omega) (Ev.ret (allFrom_end _ _).symm))
  ·intro i hi ih
   refine Ev.step (by intro k; simp only [spec_l1All.l0]; rfl) (Ev.yes (by omega) (Ev.yes (by omega) (Ev.yes (by omega) ?_)))
   rw [wid1 hi (by omega), rdN, allFrom_step _ hi]
   refine Ev.call (l1In_eq _ _ _) ?_
   show Ev (fun k => if inR a b (l.getD i 0) = true then _ else _) (inR a b (l.getD i 0) && _)
   cases inR a b (l.getD i 0) with
   | true => exact Ev.yes rfl (evc ih (by simp))
   | false => exact Ev.no (by simp) (Ev.ret rfl)
 exact key 0 (by omega)
end Go.Proofs.Ytmbojobkiainlaa.Q
end

section
namespace Go.Proofs.Ytmbojobkiainlaa.Q
open Go.RowKit Go.Proofs.YtmbojobkiainlaaW.PrintWords
set_option linter.unusedVariables false
theorem getD_set {α : Type} (l : List α) (i j : Nat) (v d : α) (hi : i < l.length) : (l.set i v).getD j d = if i = j then v else l.getD j d := by
 simp only [List.getD_eq_getElem?_getD, List.getElem?_set]
 by_cases h : i = j
 ·subst h; simp [hi]
 ·simp [h]
theorem ext_getD {a b : List Int} (hl : a.length = b.length) (h : ∀ i, i < a.length → a.getD i 0 = b.getD i 0) : a = b := by
 apply List.ext_getElem hl
 intro i h1 h2
 have := h i h1
 rw [List.getD_eq_getElem?_getD, List.getD_eq_getElem?_getD, List.getElem?_eq_getElem h1, List.getElem?_eq_getElem h2] at this
 exact this
theorem reverse_getD (l : List Int) (i : Nat) (h : i < l.length) : l.reverse.getD i 0 = l.getD (l.length - 1 - i) 0 := by
 rw [List.getD_eq_getElem?_getD, List.getD_eq_getElem?_getD, List.getElem?_reverse h]
def upFrom (a : Nat) (n : Nat) : List Int := (List.range' a n).map Int.ofNat
theorem upFrom_len (a n : Nat) : (upFrom a n).length = n := by simp [upFrom]
theorem upFrom_get {a n i : Nat} (h : i < n) : (upFrom a n).getD i 0 = ((a + i : Nat) : Int) := by
 rw [List.getD_eq_getElem?_getD]
 simp [upFrom, h]
end Go.Proofs.Ytmbojobkiainlaa.Q
end

section
namespace Go.Proofs.Ytmbojobkiainlaa.Q

end Go.Proofs.Ytmbojobkiainlaa.Q
end

section
namespace Go.Proofs.Ytmbojobkiainlaa.Q
open Go.RowKit Go.Proofs.YtmbojobkiainlaaW.PrintWords Go.Proofs.Ytmbojobkiainlaa.F
set_option linter.unusedVariables false
theorem poIn_eq {a j : Nat} (hj : j ≤ 64) : spec_poIn.f (a : Int) (j : Int) = some (a.testBit j) := by
 unfold spec_poIn.f
 rw [if_pos (Int.natCast_nonneg _)]
 congr 1
 rw [Bool.eq_iff_iff, beq_iff_eq]
 exact bit_test hj
end Go.Proofs.Ytmbojobkiainlaa.Q
end

section
namespace Go.Proofs.Ytmbojobkiainlaa.Q
open Go.RowKit Go.Proofs.YtmbojobkiainlaaW.PrintWords
set_option linter.unusedVariables false
def L (p : List Int) (i : Nat) : Nat := (p.getD i 0).toNat
def rowOk (p : List Int) (i : Nat) : Bool := decide (0 ≤ p.getD i 0) && decide (p.getD i 0 ≤ 2 ^ i - 1) && allFrom (fun j => !(L p i).testBit j || decide (Go.bits .andNot .i64 (p.getD j 0) (p.getD i 0) = 0)) i 0
def isPo (p : List Int) : Bool := decide (1 ≤ p.length) && decide (p.length ≤ 10) && allFrom (rowOk p) p.length 0
structure PO (p : List Int) : Prop where
 pos : 1 ≤ p.length
 small : p.length ≤ 10
 val : ∀ i, i < p.length → p.getD i 0 = (L p i : Int)
 lt : ∀ i, i < p.length → L p i < 2 ^ i
 tr : ∀ i j, i < p.length → (L p i).testBit j = true → ndiff (L p j) (L p i) = 0
theorem L_big {p : List Int} {i : Nat} (h : p.length ≤ i) : L p i = 0 := by
 unfold L; rw [List.getD_eq_getElem?_getD, List.getElem?_eq_none h]; rfl
theorem isPo_iff (p : List Int) : isPo p = true ↔ PO p := by
 unfold isPo
 rw [Bool.and_eq_true, Bool.and_eq_true, decide_eq_true_eq, decide_eq_true_eq, allFrom_iff]
 constructor
 ·rintro ⟨⟨h1, h2⟩, h3⟩
  have hv : ∀ i, i < p.length → p.getD i 0 = (L p i : Int) ∧ L p i < 2 ^ i := by
   intro i hi
   have := h3 i (Nat.zero_le _) hi
   simp only [rowOk, Bool.and_eq_true, decide_eq_true_eq] at this
   obtain ⟨⟨a, b⟩, _⟩ := this
   rw [pow_int] at b
   have hp : 0 < 2 ^ i := Nat.two_pow_pos i
   unfold L
   generalize 2 ^ i = z at *
   omega
  refine ⟨h1, h2, fun i hi => (hv i hi).1, fun i hi => (hv i hi).2, fun i j hi hj => ?_⟩
  have hji : j < i := lt_of_bit (hv i hi).2 hj
  have := h3 i (Nat.zero_le _) hi
  simp only [rowOk, Bool.and_eq_true] at this
  have h4 := (allFrom_iff _ _ _).1 this.2 j (Nat.zero_le _) hji
  rw [hj] at h4
  simp only [Bool.not_true, Bool.false_or, decide_eq_true_eq] at h4
  rw [(hv i hi).1, (hv j (by omega)).1, bits_andNotN (lt_pow (hv j (by omega)).2 (by omega)) (lt_pow (hv i hi).2 (by omega))] at h4
  exact_mod_cast h4
 ·intro h
  refine ⟨⟨h.pos, h.small⟩, fun i _ hi => ?_⟩
  have hs := h.small
  have hl := h.lt i hi
  simp only [rowOk, Bool.and_eq_true, decide_eq_true_eq]
  refine ⟨⟨by rw [h.val i hi]; omega, by rw [h.val i hi, pow_int]; generalize 2 ^ i = z at *; omega⟩, ?_⟩
  rw [allFrom_iff]
  intro j _ hj
  cases hb : (L p i).testBit j with
  | false => rfl
  | true =>
   simp only [Bool.not_true, Bool.false_or, decide_eq_true_eq]
   rw [h.val i hi, h.val j (by omega), bits_andNotN (lt_pow (h.lt j (by omega)) (by omega)) (lt_pow hl (by omega)), h.tr i j hi hb]
   rfl
theorem isPo_false {p : List Int} (h : ¬ PO p) : isPo p = false := by
 cases e : isPo p with
 | false => rfl
 | true => exact absurd ((isPo_iff p).1 e) h

def itemsN (m : Nat) : List Nat := (List.range 10).filter m.testBit
def ints (l : List Nat) : List Int := l.map Int.ofNat
theorem ints_len (l : List Nat) : (ints l).length = l.length := by simp [ints]
theorem ints_app (a b : List Nat) : ints (a ++ b) = ints a ++ ints b := by simp [ints]
theorem ints_get (l : List Nat) (i : Nat) : (ints l).getD i 0 = ((l.getD i 0 : Nat) : Int) := by
 simp only [ints, List.getD_eq_getElem?_getD, List.getElem?_map]
 cases l[i]? <;> rfl
theorem rd_ints (l : List Nat) (i : Nat) : rd (ints l) (i : Int) = ((l.getD i 0 : Nat) : Int) := by rw [rdN, ints_get]
theorem mem_itemsN {m j : Nat} : j ∈ itemsN m ↔ j < 10 ∧ m.testBit j = true := by
 unfold itemsN; rw [List.mem_filter, List.mem_range]
theorem itemsN_len (m : Nat) : (itemsN m).length ≤ 10 := by
 unfold itemsN; have := List.length_filter_le m.testBit (List.range 10); simpa using this
theorem rowOk_false {p : List Int} {i : Nat} (h : ¬ (0 ≤ p.getD i 0 ∧ p.getD i 0 ≤ 2 ^ i - 1)) : rowOk p i = false := by
 unfold rowOk; rw [range_false h]; rfl
theorem rowOk_true {p : List Int} {i : Nat} (h : 0 ≤ p.getD i 0 ∧ p.getD i 0 ≤ 2 ^ i - 1) :
 rowOk p i = allFrom (fun j => !(L p i).testBit j || decide (Go.bits .andNot .i64 (p.getD j 0) (p.getD i 0) = 0)) i 0 := by
 unfold rowOk; rw [range_true h]; rfl
theorem all_drop_step {α : Type} (f : α → Bool) (l : List α) (d : α) {i : Nat} (h : i < l.length) : (l.drop i).all f = (f (l.getD i d) && (l.drop (i + 1)).all f) := by
 rw [List.drop_eq_getElem_cons h, List.all_cons, List.getD_eq_getElem?_getD, List.getElem?_eq_getElem h]; rfl
theorem items_lt {m i : Nat} {j : Nat} (hm : m < 2 ^ i) (hj : j < (itemsN m).length) : (itemsN m).getD j 0 < i := by
 rw [List.getD_eq_getElem?_getD, List.getElem?_eq_getElem hj]
 have := List.getElem_mem hj
 exact lt_of_bit hm (mem_itemsN.1 this).2
theorem items_all {m i : Nat} (hm : m < 2 ^ i) (hi : i ≤ 10) (f : Nat → Bool) : (itemsN m).all f = allFrom (fun j => !m.testBit j || f j) i 0 := by
 rw [Bool.eq_iff_iff, List.all_eq_true, allFrom_iff]
 constructor
 ·intro h j _ hj
  cases hb : m.testBit j with
  | false => rfl
  | true => rw [h j (mem_itemsN.2 ⟨by omega, hb⟩)]; rfl
 ·intro h j hj
  obtain ⟨h1, h2⟩ := mem_itemsN.1 hj
  have := h j (Nat.zero_le _) (lt_of_bit hm h2)
  rw [h2] at this
  simpa using this
end Go.Proofs.Ytmbojobkiainlaa.Q
end

section
namespace Go.Proofs.Ytmbojobkiainlaa.Q
open Go.RowKit Go.Proofs.YtmbojobkiainlaaW.PrintWords Go.Proofs.Ytmbojobkiainlaa.F
set_option linter.unusedVariables false
def bytesL (l : List Int) : Prop := ∀ n ∈ l, 0 ≤ n ∧ n ≤ 255
def cAt (B : Nat) (a : Int) : Prop := 0 ≤ a ∧ a ≤ (B : Int)
theorem cAt_mono {B C : Nat} {a : Int} (h : cAt B a) (hBC : B ≤ C) : cAt C a := ⟨h.1, by have := h.2; omega⟩
theorem rd_byte {l : List Int} (hl : bytesL l) (i : Int) : 0 ≤ rd l i ∧ rd l i ≤ 255 := by
 unfold rd
 rw [List.getD_eq_getElem?_getD]
 rcases Nat.lt_or_ge i.toNat l.length with h | h
 ·rw [List.getElem?_eq_getElem h]
  exact hl _ (List.getElem_mem h)
 ·rw [List.getElem?_eq_none h]; exact ⟨Int.le_refl _, by decide⟩
theorem wrapu62 (n : Int) (h0 : 0 ≤ n) (h1 : n < 2 ^ 62) : IntKind.u64.wrap n = n := by rw [IntKind.wrap_u64]; omega
theorem seed_byte (x : Int) : 0 ≤ wrap64 (Go.bits .and .u64 ((IntKind.u64.wrap x) / 1099511627776) 255) ∧ wrap64 (Go.bits .and .u64 ((IntKind.u64.wrap x) / 1099511627776) 255) ≤ 255 := by
 have h : 0 ≤ IntKind.u64.wrap x ∧ IntKind.u64.wrap x < 18446744073709551616 := by rw [IntKind.wrap_u64]; omega
 obtain ⟨q, hq⟩ : ∃ q : Nat, (IntKind.u64.wrap x) / 1099511627776 = (q : Int) := ⟨((IntKind.u64.wrap x) / 1099511627776).toNat, by omega⟩
 have hq2 : q < 2 ^ 62 := by omega
 have := (Go.bits_nat .u64 62 (by decide) wrapu62 q 255 hq2 (by decide)).1
 rw [hq, show (255 : Int) = ((255 : Nat) : Int) from rfl, this]
 have h2 : q &&& 255 ≤ 255 := Nat.and_le_right
 rw [wid (by omega) (by omega)]
 omega
theorem next_ok {l : List Int} (hl : bytesL l) {B : Nat} {a : Int} (s : Int) (ha : cAt B a) (hB : B ≤ 1000000) : ∃ x a' s', spec_l1Cur_next.f l a s = some (x, a', s') ∧ cAt (B + 1) a' ∧ 0 ≤ x ∧ x ≤ 255 := by
 obtain ⟨h0, h1⟩ := ha
 have hw : wrap64 (a + 1) = a + 1 := wid (by omega) (by omega)
 have hc : cAt (B + 1) (a + 1) := ⟨by omega, by omega⟩
 obtain ⟨r0, r1⟩ := rd_byte hl a
 unfold spec_l1Cur_next.f
 rw [hw]
 by_cases c1 : a < (l.length : Int)
 ·rw [if_pos c1, if_pos h0]
  by_cases c2 : a + 1 ≤ (l.length : Int)
  ·rw [if_pos c2]
   exact ⟨_, _, _, rfl, hc, by rw [wid (by omega) (by omega)]; exact r0, by rw [wid (by omega) (by omega)]; exact r1⟩
  ·rw [if_neg c2]
   exact ⟨_, _, _, rfl, hc, (seed_byte _).1, (seed_byte _).2⟩
 ·rw [if_neg c1]
  by_cases c2 : a + 1 ≤ (l.length : Int)
  ·rw [if_pos c2]; exact ⟨_, _, _, rfl, hc, by omega, by omega⟩
  ·rw [if_neg c2]; exact ⟨_, _, _, rfl, hc, (seed_byte _).1, (seed_byte _).2⟩
def pickTo (n x : Int) : Prop := 0 ≤ x ∧ (x < n ∨ (x = 0 ∧ n ≤ 1))
theorem tmod_to {x n : Int} (hx : 0 ≤ x) (hn : 1 < n) : pickTo n (Int.tmod x n) := by
 rw [Int.tmod_eq_emod_of_nonneg hx]
 exact ⟨Int.emod_nonneg _ (by omega), Or.inl (Int.emod_lt_of_pos _ (by omega))⟩
theorem cpick_ok {l : List Int} (hl : bytesL l) {B : Nat} {a : Int} (s n : Int) (ha : cAt B a) (hB : B ≤ 900000) : ∃ x a' s', spec_l1Cur_pick.f l a s n = some (x, a', s') ∧ cAt (B + 2) a' ∧ pickTo n x := by
 unfold spec_l1Cur_pick.f
 by_cases c1 : n ≤ 1
 ·rw [if_pos c1]
  exact ⟨_, _, _, rfl, cAt_mono ha (by omega), Int.le_refl _, Or.inr ⟨rfl, c1⟩⟩
 rw [if_neg c1]
 obtain ⟨x1, a1, s1, e1, h1, g1, g2⟩ := next_ok hl s ha (by omega)
 rw [e1]
 simp only [Option.bind_some]
 by_cases c2 : n > 200
 ·rw [if_pos c2]
  obtain ⟨x2, a2, s2, e2, h2, k1, k2⟩ := next_ok hl s1 h1 (by omega)
  rw [e2]
  simp only [Option.bind_some]
  rw [if_neg (by omega), wid (n := x1 * 256) (by omega) (by omega), wid (n := x1 * 256 + x2) (by omega) (by omega)]
  exact ⟨_, _, _, rfl, h2, tmod_to (by omega) (by omega)⟩
 ·rw [if_neg c2, if_neg (by omega)]
  exact ⟨_, _, _, rfl, cAt_mono h1 (by omega), tmod_to g1 (by omega)⟩
theorem one_ok {l : List Int} (hl : bytesL l) {B : Nat} {a : Int} (s n : Int) (ha : cAt B a) (hB : B ≤ 900000) : ∃ x a' s', spec_l1Cur_one.f l a s n = some (x, a', s') ∧ cAt (B + 2) a' := by
 obtain ⟨x, a', s', e, h, _⟩ := cpick_ok hl s n ha hB
 unfold spec_l1Cur_one.f
 rw [e]
 exact ⟨_, _, _, rfl, h⟩
theorem among_ok {l : List Int} (hl : bytesL l) {B : Nat} {a : Int} (s : Int) (ha : cAt B a) (hB : B ≤ 900000) {m : List Int} (hm : 0 < m.length) : ∃ x a' s', spec_l1Cur_among.f l a s m = some (x, a', s') ∧ cAt (B + 2) a' ∧ x ∈ m := by
 obtain ⟨x, a', s', e, h, g0, g1⟩ := cpick_ok hl s (m.length : Int) ha hB
 unfold spec_l1Cur_among.f
 rw [e]
 simp only [Option.bind_some]
 have hx : x < (m.length : Int) := by omega
 rw [if_pos g0, if_pos hx]
 refine ⟨_, _, _, rfl, h, ?_⟩
 unfold rd
 rw [List.getD_eq_getElem?_getD, List.getElem?_eq_getElem (by omega)]
 exact List.getElem_mem _
def wfL (l : List Int) : Prop := ∀ n ∈ l, (Lit.int .i64 n).wf = true
theorem wf_wrapI (n : Int) : (Lit.int .i64 (IntKind.i64.wrap n)).wf = true := WalkArith.wf_i64 (by rw [IntKind.wrap_i64]; omega)
theorem wf_wrap64 (n : Int) : (Lit.int .i64 (wrap64 n)).wf = true := WalkArith.wf_i64 (by unfold wrap64; omega)
theorem wf_or (a b : Int) : (Lit.int .i64 (Go.bits .or .i64 a b)).wf = true := wf_wrapI _
theorem wfL_set {l : List Int} (h : wfL l) {x : Int} (hx : (Lit.int .i64 x).wf = true) (i : Nat) : wfL (l.set i x) := fun n hn => by
 rcases List.mem_or_eq_of_mem_set hn with h1 | h1
 ·exact h n h1
 ·rw [h1]; exact hx
theorem wfL_rep (n : Nat) : wfL (List.replicate n 0) := fun x hx => by
 rw [(List.mem_replicate.1 hx).2]; decide
theorem wfL_app {a b : List Int} (ha : wfL a) (hb : wfL b) : wfL (a ++ b) := fun n hn => by
 rcases List.mem_append.1 hn with h | h
 ·exact ha n h
 ·exact hb n h
def pairsOk (n : Nat) (ps : List (List Int)) : Prop := ps.length ≤ 1000 ∧ ∀ c ∈ ps, c.length = 2 ∧ 0 ≤ c.getD 0 0 ∧ c.getD 0 0 < (n : Int)
theorem poFrom_ok {n : Nat} (hn : n ≤ 1000) {ps : List (List Int)} (hp : pairsOk n ps) : ∃ r, Ev (fun k => spec_poFrom.f k (n : Int) ps) r ∧ r.length = n ∧ wfL r := by
 unfold spec_poFrom.f
 have outer : ∀ i, i ≤ n → ∀ out : List Int, out.length = n → wfL out → ∃ r, Ev (fun k => spec_poFrom.l0 k (n : Int) ps (i : Int) out) r ∧ r.length = n ∧ wfL r := by
  refine downTo _ ?_ ?_
  ·intro out h1 h2
   exact ⟨out, Ev.step (by intro k; simp only [spec_poFrom.l0]; rfl) (Ev.no (by omega) (Ev.now _)), h1, h2⟩
  ·intro i hi ih
   have inner : ∀ j, j ≤ ps.length → ∀ out : List Int, out.length = n → wfL out → ∃ r, Ev (fun k => spec_poFrom.l1 k (n : Int) ps (i : Int) ps (ps.length : Int) (j : Int) out) r ∧ r.length = n ∧ wfL r := by
    refine downTo _ ?_ ?_
    ·intro out h1 h2
     obtain ⟨r, g1, g2, g3⟩ := ih out h1 h2
     refine ⟨r, Ev.step (by intro k; simp only [spec_poFrom.l1]; rfl) (Ev.no (by omega) ?_), g2, g3⟩
     rw [wid1 hi (by omega)]
     exact g1
    ·intro j hj ihj out h1 h2
     obtain ⟨hc1, hc2, hc3⟩ := hp.2 _ (List.getElem_mem hj)
     have hrow : rd_L1 ps (j : Int) = ps[j] := by
      unfold rd_L1
      rw [Int.toNat_natCast, List.getD_eq_getElem?_getD, List.getElem?_eq_getElem hj]; rfl
     have hpl := hp.1
     have hw : wrap64 ((j : Int) + 1) = ((j + 1 : Nat) : Int) := wid1 hj (by omega)
     have hr0 : rd ps[j] 0 = ps[j].getD 0 0 := rfl
     by_cases hc : rd ps[j] 1 = (i : Int)
     ·obtain ⟨r, g1, g2, g3⟩ := ihj (out.set ((i : Int)).toNat (Go.bits .or .i64 (rd out (i : Int)) (Go.bits .or .i64 (shl .i64 1 (rd ps[j] 0)) (rd out (rd ps[j] 0))))) (by rw [List.length_set]; exact h1) (wfL_set h2 (wf_or _ _) _)
      refine ⟨r, Ev.step (by intro k; simp only [spec_poFrom.l1]; rfl) (Ev.yes (by omega) (Ev.yes (by omega) (Ev.yes (by omega) ?_))), g2, g3⟩
      rw [hrow, hw]
      exact Ev.yes (by omega) (Ev.yes hc (Ev.yes (by omega) (Ev.yes (by omega) (Ev.yes (by omega) (Ev.yes (by omega) (Ev.yes (by omega) g1))))))
     ·obtain ⟨r, g1, g2, g3⟩ := ihj out h1 h2
      refine ⟨r, Ev.step (by intro k; simp only [spec_poFrom.l1]; rfl) (Ev.yes (by omega) (Ev.yes (by omega) (Ev.yes (by omega) ?_))), g2, g3⟩
      rw [hrow, hw]
      exact Ev.yes (by omega) (Ev.no hc g1)
   intro out h1 h2
   obtain ⟨r, g1, g2, g3⟩ := inner 0 (Nat.zero_le _) out h1 h2
   exact ⟨r, Ev.step (by intro k; simp only [spec_poFrom.l0]; rfl) (Ev.yes (by omega) g1), g2, g3⟩
 obtain ⟨r, g1, g2, g3⟩ := outer 0 (Nat.zero_le _) (List.replicate n 0) (by simp) (wfL_rep n)
 refine ⟨r, Ev.yes (by omega) (Ev.yes (by omega) ?_), g2, g3⟩
 rw [Int.toNat_natCast]
 exact g1
theorem items_ev (m : Nat) (hm : m < 2 ^ 62) : Ev (fun k => impl_items.f k (m : Int)) (ints (itemsN m)) := by
 show Ev (fun k => impl_items.l0 k (m : Int) [] 0) _
 have key : ∀ i, i ≤ 10 → ∀ acc : List Int, acc.length ≤ i → Ev (fun k => impl_items.l0 k (m : Int) acc (i : Int)) (acc ++ ints ((List.range' i (10 - i)).filter m.testBit)) := by
  refine downTo 10 ?_ ?_
  ·intro acc _
   refine Ev.step (by intro k; simp only [impl_items.l0]; rfl) ?_
   refine Ev.no (by omega) (Ev.ret (by simp [ints]))
  ·intro i hi ih acc ha
   refine Ev.step (by intro k; simp only [impl_items.l0]; rfl) ?_
   refine Ev.yes (by omega) (Ev.call (has_eq hm (by omega)) ?_)
   have hr : List.range' i (10 - i) = i :: List.range' (i + 1) (10 - (i + 1)) := by
    rw [show 10 - i = (10 - (i + 1)) + 1 by omega, List.range'_succ]
   rw [hr, wid1 hi (by omega)]
   cases hb : m.testBit i with
   | true =>
    refine Ev.yes rfl (Ev.yes (by omega) (evc (ih (acc ++ [(i : Int)]) (by simp; omega)) ?_))
    rw [List.filter_cons_of_pos hb]
    simp [ints]
   | false =>
    refine Ev.no (by simp) (evc (ih acc (by omega)) ?_)
    rw [List.filter_cons_of_neg (by simp [hb])]
 have := key 0 (by omega) [] (by simp)
 exact evc this (by simp [itemsN, List.range_eq_range'])
theorem rdL_at {rows : List (List Int)} {i : Nat} (h : i < rows.length) : rd_L1 rows (i : Int) = rows[i] := by
 unfold rd_L1
 rw [Int.toNat_natCast, List.getD_eq_getElem?_getD, List.getElem?_eq_getElem h]; rfl
theorem big_eq {a b : List Int} (h : ¬ (a.length > 1048576 ∨ b.length > 1048576 - a.length)) : laws_big.f a b = some false := by
 unfold laws_big.f
 rw [if_neg (by omega), wid (by omega) (by omega), decide_eq_false (by omega)]
theorem big_or (a b : List Int) : laws_big.f a b = some true ∨ (laws_big.f a b = some false ∧ a.length ≤ 1048576 ∧ b.length ≤ 1048576) := by
 by_cases h : a.length > 1048576 ∨ b.length > 1048576 - a.length
 ·left
  unfold laws_big.f
  by_cases h1 : (a.length : Int) > 1048576
  ·rw [if_pos h1]
  ·rw [if_neg h1, wid (by omega) (by omega), decide_eq_true (by omega)]
 ·right
  exact ⟨big_eq h, by omega, by omega⟩
theorem oSame_refl {a : List Int} (h : a.length ≤ 100000000) : Ev (fun k => laws_oSame.f k a a) true := by
 unfold laws_oSame.f
 refine Ev.yes rfl ?_
 have key : ∀ i, i ≤ a.length → Ev (fun k => laws_oSame.l0 k a a (a.length : Int) (i : Int)) true := by
  refine downTo _ ?_ ?_
  ·exact Ev.step (by intro k; simp only [laws_oSame.l0]; rfl) (Ev.no (by omega) (Ev.now _))
  ·intro i hi ih
   refine Ev.step (by intro k; simp only [laws_oSame.l0]; rfl) (Ev.yes (by omega) (Ev.yes (by omega) (Ev.yes (by omega) (Ev.yes (by omega) (Ev.yes (c := rd a (i : Int) = rd a (i : Int)) rfl ?_)))))
   rw [wid1 hi (by omega)]
   exact ih
 exact key 0 (Nat.zero_le _)
end Go.Proofs.Ytmbojobkiainlaa.Q
end

section
namespace Go.Proofs.Ytmbojobkiainlaa.Q
open Go.RowKit Go.Proofs.YtmbojobkiainlaaW.PrintWords
set_option linter.unusedVariables false
def maskOf : Nat → (Nat → Bool) → Nat
 | 0, _ => 0
 | n + 1, c => if c n then maskOf n c ||| 2 ^ n else maskOf n c
theorem maskOf_bit (n : Nat) (c : Nat → Bool) (i : Nat) : (maskOf n c).testBit i = (decide (i < n) && c i) := by
 induction n with
 | zero => simp [maskOf]
 | succ n ih =>
  unfold maskOf
  by_cases hc : c n = true
  ·rw [if_pos hc, Nat.testBit_or, ih, pow_bit]
   by_cases h : n = i
   ·subst h; simp [hc]
   ·have : decide (i < n + 1) = decide (i < n) := by rw [decide_eq_decide]; omega
    rw [this]; simp [h]
  ·rw [if_neg hc, ih]
   by_cases h : n = i
   ·subst h; simp at hc; simp [hc]
   ·have : decide (i < n + 1) = decide (i < n) := by rw [decide_eq_decide]; omega
    rw [this]
theorem maskOf_lt (n : Nat) (c : Nat → Bool) : maskOf n c < 2 ^ n := by
 apply Nat.lt_pow_two_of_testBit
 intro i hi
 rw [maskOf_bit, decide_eq_false (by omega)]; rfl
def subB (a b : Nat) : Bool := ndiff a b == 0
theorem ndiff_zero {a b : Nat} : ndiff a b = 0 ↔ ∀ i, a.testBit i = true → b.testBit i = true := by
 constructor
 ·intro h i hi
  have := ndiff_bit a b i
  rw [h, hi, Nat.zero_testBit] at this
  cases hb : b.testBit i with
  | true => rfl
  | false => rw [hb] at this; simp at this
 ·intro h
  apply Nat.eq_of_testBit_eq
  intro i
  rw [ndiff_bit, Nat.zero_testBit]
  cases ha : a.testBit i with
  | false => rfl
  | true => rw [h i ha]; rfl
theorem subB_iff {a b : Nat} : subB a b = true ↔ ∀ i, a.testBit i = true → b.testBit i = true := by unfold subB; rw [beq_iff_eq]; exact ndiff_zero
def allN (p : List Int) : Nat := 2 ^ p.length - 1
theorem allN_bit (p : List Int) (i : Nat) : (allN p).testBit i = decide (i < p.length) := by unfold allN; rw [Nat.testBit_two_pow_sub_one]
theorem allN_lt (p : List Int) : allN p < 2 ^ p.length := by unfold allN; have := Nat.two_pow_pos p.length; omega
def setB (p : List Int) (x : Int) : Bool := decide (0 ≤ x) && decide (x ≤ ((allN p : Nat) : Int))
theorem setB_iff {p : List Int} {x : Int} : setB p x = true ↔ ∃ s : Nat, x = (s : Int) ∧ s < 2 ^ p.length := by
 unfold setB
 rw [Bool.and_eq_true, decide_eq_true_eq, decide_eq_true_eq]
 have := Nat.two_pow_pos p.length
 unfold allN
 constructor
 ·rintro ⟨h1, h2⟩; exact ⟨x.toNat, by omega, by omega⟩
 ·rintro ⟨s, rfl, h⟩; omega
def idealB (p : List Int) (s : Nat) : Bool := allFrom (fun i => !s.testBit i || subB (L p i) s) p.length 0
theorem idealB_iff {p : List Int} {s : Nat} : idealB p s = true ↔ ∀ i, i < p.length → s.testBit i = true → ∀ j, (L p i).testBit j = true → s.testBit j = true := by
 unfold idealB
 rw [allFrom_iff]
 constructor
 ·intro h i hi hs
  have := h i (Nat.zero_le _) hi
  rw [hs] at this
  exact subB_iff.1 (by simpa using this)
 ·intro h i _ hi
  cases hs : s.testBit i with
  | false => rfl
  | true => rw [subB_iff.2 (h i hi hs)]; rfl
def closeN (p : List Int) (s : Nat) : Nat := (itemsN s).foldl (fun a e => a ||| L p e) s
theorem foldl_or_bit (g : Nat → Nat) (l : List Nat) (a i : Nat) : (l.foldl (fun a e => a ||| g e) a).testBit i = (a.testBit i || l.any fun e => (g e).testBit i) := by
 induction l generalizing a with
 | nil => simp
 | cons x l ih => rw [List.foldl_cons, ih, Nat.testBit_or, List.any_cons, Bool.or_assoc]
theorem closeN_bit {p : List Int} {s i : Nat} : (closeN p s).testBit i = (s.testBit i || (itemsN s).any fun e => (L p e).testBit i) := foldl_or_bit _ _ _ _
theorem closeN_eq {p : List Int} (hp : PO p) {s : Nat} (hs : s < 2 ^ p.length) : (closeN p s == s) = idealB p s := by
 have hn := hp.small
 rw [Bool.eq_iff_iff, beq_iff_eq, idealB_iff]
 constructor
 ·intro h i hi hb j hj
  have := closeN_bit (p := p) (s := s) (i := j)
  rw [h] at this
  rw [this]
  have : (itemsN s).any (fun e => (L p e).testBit j) = true := List.any_eq_true.2 ⟨i, mem_itemsN.2 ⟨by omega, hb⟩, hj⟩
  rw [this]; simp
 ·intro h
  apply Nat.eq_of_testBit_eq
  intro i
  rw [closeN_bit]
  cases hb : s.testBit i with
  | true => rfl
  | false =>
   rw [Bool.false_or, ← Bool.not_eq_true, List.any_eq_true]
   rintro ⟨e, he, hj⟩
   obtain ⟨_, h2⟩ := mem_itemsN.1 he
   have := h e (lt_of_bit hs h2) h2 i hj
   rw [this] at hb; cases hb
theorem L_lt {p : List Int} (hp : PO p) {i : Nat} (hi : i < p.length) : L p i < 2 ^ p.length := lt_pow (hp.lt i hi) (by omega)
theorem foldl_or_lt (g : Nat → Nat) (l : List Nat) (a n : Nat) (ha : a < 2 ^ n) (hg : ∀ e, e ∈ l → g e < 2 ^ n) : l.foldl (fun a e => a ||| g e) a < 2 ^ n := by
 induction l generalizing a with
 | nil => exact ha
 | cons x l ih => exact ih _ (or_lt ha (hg x List.mem_cons_self)) (fun e he => hg e (List.mem_cons_of_mem _ he))
theorem closeN_lt {p : List Int} (hp : PO p) {s : Nat} (hs : s < 2 ^ p.length) : closeN p s < 2 ^ p.length :=
 foldl_or_lt _ _ _ _ hs (fun e he => L_lt hp (lt_of_bit hs (mem_itemsN.1 he).2))
theorem foldl_drop_step {α β : Type} (f : β → α → β) (l : List α) (d : α) (b : β) {i : Nat} (h : i < l.length) : (l.drop i).foldl f b = (l.drop (i + 1)).foldl f (f b (l.getD i d)) := by
 rw [List.drop_eq_getElem_cons h, List.foldl_cons, List.getD_eq_getElem?_getD, List.getElem?_eq_getElem h]; rfl
def sumL : List Nat → Nat
 | [] => 0
 | x :: l => x + sumL l
theorem sumL_append (a b : List Nat) : sumL (a ++ b) = sumL a + sumL b := by
 induction a with
 | nil => simp [sumL]
 | cons x a ih => simp only [List.cons_append, sumL, ih]; omega
theorem sumL_le (l : List Nat) (b n : Nat) (h : ∀ x ∈ l, x ≤ b) (hn : l.length ≤ n) : sumL l ≤ n * b := by
 induction l generalizing n with
 | nil => exact Nat.zero_le _
 | cons x l ih =>
  cases n with
  | zero => simp at hn
  | succ n =>
   have h1 := h x List.mem_cons_self
   have h2 := ih n (fun y hy => h y (List.mem_cons_of_mem _ hy)) (by simpa using hn)
   rw [Nat.add_mul]; simp only [sumL]; omega
def nextN (p : List Int) (s : Nat) : List Nat := (List.range 10).filter fun e => decide (e < p.length) && !s.testBit e && subB (L p e) s
theorem mem_nextN {p : List Int} {s e : Nat} : e ∈ nextN p s ↔ e < 10 ∧ e < p.length ∧ s.testBit e = false ∧ subB (L p e) s = true := by
 unfold nextN
 rw [List.mem_filter, List.mem_range, Bool.and_eq_true, Bool.and_eq_true, decide_eq_true_eq, Bool.not_eq_true']
 constructor
 ·rintro ⟨a, ⟨b, c⟩, d⟩; exact ⟨a, b, c, d⟩
 ·rintro ⟨a, b, c, d⟩; exact ⟨a, ⟨b, c⟩, d⟩
theorem nextN_len (p : List Int) (s : Nat) : (nextN p s).length ≤ 10 := by
 unfold nextN; exact Nat.le_trans (List.length_filter_le _ _) (by simp)
def cnt (p : List Int) : Nat → Nat → Nat
 | 0, s => if s = allN p then 1 else 0
 | d + 1, s => if s = allN p then 1 else sumL ((nextN p s).map fun e => cnt p d (s ||| 2 ^ e))
theorem cnt_le (p : List Int) (d s : Nat) : cnt p d s ≤ 10 ^ d := by
 induction d generalizing s with
 | zero => unfold cnt; split <;> simp
 | succ d ih =>
  unfold cnt
  have h1 : 1 ≤ 10 ^ (d + 1) := Nat.one_le_pow _ _ (by decide)
  split
  ·exact h1
  ·have := sumL_le ((nextN p s).map fun e => cnt p d (s ||| 2 ^ e)) (10 ^ d) 10 (fun x hx => by obtain ⟨e, _, rfl⟩ := List.mem_map.1 hx; exact ih _) (by rw [List.length_map]; exact nextN_len p s)
   rw [Nat.pow_succ]; omega
def miss (p : List Int) (s : Nat) : Nat := (List.range p.length).countP fun e => !s.testBit e
theorem miss_le (p : List Int) (s : Nat) : miss p s ≤ p.length := by unfold miss; have := List.countP_le_length (p := fun e => !s.testBit e) (l := List.range p.length); simpa using this
theorem countP_lt {α : Type} (f g : α → Bool) (l : List α) (h : ∀ x ∈ l, f x = true → g x = true) (x : α) (hx : x ∈ l) (hg : g x = true) (hf : f x = false) : l.countP f < l.countP g := by
 induction l with
 | nil => cases hx
 | cons y l ih =>
  have hle : l.countP f ≤ l.countP g := List.countP_mono_left (fun z hz => h z (List.mem_cons_of_mem _ hz))
  rw [List.countP_cons, List.countP_cons]
  rcases List.mem_cons.1 hx with rfl | hx'
  ·rw [hf, hg]; simp; omega
  ·have := ih (fun z hz => h z (List.mem_cons_of_mem _ hz)) hx'
   have hy := h y List.mem_cons_self
   cases hfy : f y with
   | true => rw [hy hfy]; simp; omega
   | false => cases g y <;> simp <;> omega
theorem miss_lt {p : List Int} {s e : Nat} (he : e < p.length) (hb : s.testBit e = false) : miss p (s ||| 2 ^ e) < miss p s := by
 unfold miss
 refine countP_lt _ _ _ (fun x _ hx => ?_) e (List.mem_range.2 he) (by rw [hb]; rfl) ?_
 ·rw [Nat.testBit_or] at hx
  cases h : s.testBit x with
  | false => rfl
  | true => rw [h] at hx; simp at hx
 ·rw [Nat.testBit_or, pow_bit]; simp
theorem miss_zero {p : List Int} {s : Nat} (hs : s < 2 ^ p.length) (h : miss p s = 0) : s = allN p := by
 refine ext_bits hs (allN_lt p) (fun i hi => ?_)
 rw [allN_bit, decide_eq_true hi]
 unfold miss at h
 rw [List.countP_eq_zero] at h
 have := h i (List.mem_range.2 hi)
 simpa using this
theorem add_lt {p : List Int} {s e : Nat} (hs : s < 2 ^ p.length) (he : e < p.length) : s ||| 2 ^ e < 2 ^ p.length := or_lt hs (pow_lt_pow he)
theorem cnt_fuel {p : List Int} : ∀ (d d' s : Nat), s < 2 ^ p.length → miss p s ≤ d → miss p s ≤ d' → cnt p d s = cnt p d' s := by
 intro d
 induction d with
 | zero =>
  intro d' s hs h _
  have := miss_zero hs (by omega)
  subst this
  cases d' <;> simp [cnt]
 | succ d ih =>
  intro d' s hs h h'
  by_cases ha : s = allN p
  ·subst ha; cases d' <;> simp [cnt]
  ·cases d' with
   | zero => exact absurd (miss_zero hs (by omega)) ha
   | succ d' =>
    simp only [cnt, if_neg ha]
    congr 1
    apply List.map_congr_left
    intro e he
    obtain ⟨_, h1, h2, _⟩ := mem_nextN.1 he
    have := miss_lt h1 h2
    exact ih d' _ (add_lt hs h1) (by omega) (by omega)
def ways (p : List Int) (s : Nat) : Nat := cnt p p.length s
theorem ways_step {p : List Int} {s : Nat} (hs : s < 2 ^ p.length) (ha : s ≠ allN p) : ways p s = sumL ((nextN p s).map fun e => ways p (s ||| 2 ^ e)) := by
 unfold ways
 rw [cnt_fuel p.length (p.length + 1) s hs (miss_le p s) (by have := miss_le p s; omega)]
 simp only [cnt, if_neg ha]
theorem ways_all (p : List Int) : ways p (allN p) = 1 := by unfold ways; cases p.length <;> simp [cnt]
theorem ways_le {p : List Int} (h : p.length ≤ 10) (s : Nat) : ways p s ≤ 10000000000 := by
 unfold ways
 exact Nat.le_trans (cnt_le p _ s) (Nat.le_trans (Nat.pow_le_pow_right (by decide) h) (by decide))
theorem ways_cnt {p : List Int} {s d : Nat} (hs : s < 2 ^ p.length) (hd : p.length ≤ d) : ways p s = cnt p d s := cnt_fuel _ _ s hs (miss_le p s) (by have := miss_le p s; omega)
theorem idealB_all (p : List Int) (hp : PO p) : idealB p (allN p) = true := by
 rw [idealB_iff]
 intro i hi _ j hj
 rw [allN_bit, decide_eq_true_eq]
 have := lt_of_bit (hp.lt i hi) hj
 omega
theorem idealB_add {p : List Int} (hp : PO p) {s e : Nat} (hs : idealB p s = true) (he : e ∈ nextN p s) : idealB p (s ||| 2 ^ e) = true := by
 obtain ⟨_, h1, _, h3⟩ := mem_nextN.1 he
 rw [idealB_iff] at hs ⊢
 intro i hi hb j hj
 rw [Nat.testBit_or, pow_bit, Bool.or_eq_true, decide_eq_true_eq] at hb
 rw [Nat.testBit_or, Bool.or_eq_true]
 left
 rcases hb with hb | rfl
 ·exact hs i hi hb j hj
 ·exact subB_iff.1 h3 j hj
end Go.Proofs.Ytmbojobkiainlaa.Q
end

section
namespace Go.Proofs.Ytmbojobkiainlaa.Q
open Go.RowKit Go.Proofs.YtmbojobkiainlaaW.PrintWords Go.Proofs.Ytmbojobkiainlaa.F
set_option linter.unusedVariables false
theorem all_eq {p : List Int} (h : p.length ≤ 61) : impl_Poset_all.f p = some ((allN p : Nat) : Int) := by
 unfold impl_Poset_all.f
 rw [show impl_Poset_n.f p = some (p.length : Int) from rfl]
 simp only [Option.bind_some]
 rw [if_pos (by omega), mask_eq h, pow_int]
 unfold allN
 have := Nat.two_pow_pos p.length
 congr 1
 omega
theorem close_ev {p : List Int} (hp : PO p) {s : Nat} (hs : s < 2 ^ p.length) : Ev (fun k => impl_Poset_close.f k p (s : Int)) ((closeN p s : Nat) : Int) := by
 have hn := hp.small
 unfold impl_Poset_close.f closeN
 refine Ev.bind (items_ev s (lt_pow hs (by omega))) ?_
 rw [ints_len]
 have hl := itemsN_len s
 have key : ∀ i, i ≤ (itemsN s).length → ∀ a : Nat, a < 2 ^ p.length → Ev (fun k => impl_Poset_close.l0 k (a : Int) (ints (itemsN s)) ((itemsN s).length : Int) (i : Int) p) (((itemsN s).drop i).foldl (fun a e => a ||| L p e) a : Nat) := by
  refine downTo _ ?_ ?_
  ·intro a ha
   refine Ev.step (by intro k; simp only [impl_Poset_close.l0]; rfl) (Ev.no (by omega) (Ev.ret ?_))
   rw [List.drop_length]; rfl
  ·intro i hi ih a ha
   have hlt := items_lt hs hi
   refine Ev.step (by intro k; simp only [impl_Poset_close.l0]; rfl) (Ev.yes (by omega) (Ev.yes (by omega) (Ev.yes (by rw [ints_len]; omega) ?_)))
   rw [rd_ints, wid1 hi (by omega), rdN, foldl_drop_step _ _ 0 _ hi]
   refine Ev.yes (by omega) (Ev.yes (by omega) ?_)
   rw [hp.val _ hlt, bits_orN (lt_pow ha (by omega)) (lt_pow (L_lt hp hlt) (by omega))]
   exact ih _ (or_lt ha (L_lt hp hlt))
 exact key 0 (by omega) s hs
theorem poIdeal_ev {p : List Int} (hp : PO p) {s : Nat} (hs : s < 2 ^ p.length) : Ev (fun k => spec_poIdeal.f k p (s : Int)) (idealB p s) := by
 have hn := hp.small
 unfold spec_poIdeal.f idealB
 have key : ∀ i, i ≤ p.length → Ev (fun k => spec_poIdeal.l0 k (s : Int) p (p.length : Int) (i : Int)) (allFrom (fun i => !s.testBit i || subB (L p i) s) p.length i) := by
  refine downTo _ ?_ ?_
  ·exact Ev.step (by intro k; simp only [spec_poIdeal.l0]; rfl) (Ev.no (by omega) (Ev.ret (allFrom_end _ _).symm))
  ·intro i hi ih
   refine Ev.step (by intro k; simp only [spec_poIdeal.l0]; rfl) (Ev.yes (by omega) (Ev.yes (by omega) (Ev.yes (by omega) ?_)))
   rw [wid1 hi (by omega), rdN, hp.val i hi, allFrom_step _ hi]
   refine Ev.call (poIn_eq (by omega)) ?_
   cases s.testBit i with
   | false => exact Ev.no (by simp) (evc ih (by simp))
   | true =>
    refine Ev.yes rfl ?_
    rw [bits_andNotN (lt_pow (L_lt hp hi) (by omega)) (lt_pow hs (by omega))]
    refine Ev.ite (fun h => evc ih ?_) (fun h => Ev.ret ?_)
    ·rw [show subB (L p i) s = true by unfold subB; rw [beq_iff_eq]; exact_mod_cast h]; simp
    ·rw [show subB (L p i) s = false by unfold subB; rw [beq_eq_false_iff_ne]; intro e; exact h (by rw [e]; rfl)]; simp
 exact key 0 (by omega)
end Go.Proofs.Ytmbojobkiainlaa.Q
end

section
namespace Go.Proofs.Ytmbojobkiainlaa.Q
open Go.RowKit Go.Proofs.YtmbojobkiainlaaW.PrintWords
set_option linter.unusedVariables false
def ordRun (p : List Int) : Nat → List Int → Option Nat
 | s, [] => some s
 | s, e :: l => if (0 ≤ e ∧ e < (p.length : Int)) ∧ s.testBit e.toNat = false ∧ subB (L p e.toNat) s = true then ordRun p (s ||| 2 ^ e.toNat) l else none
def ordB (p w : List Int) : Bool := ordRun p 0 w == some (allN p)
theorem ordB_iff {p w : List Int} : ordB p w = true ↔ ordRun p 0 w = some (allN p) := by unfold ordB; rw [beq_iff_eq]
theorem ordRun_app (p x y : List Int) : ∀ s, ordRun p s (x ++ y) = (ordRun p s x).bind fun t => ordRun p t y := by
 induction x with
 | nil => intro s; rfl
 | cons e x ih =>
  intro s
  simp only [List.cons_append, ordRun]
  split
  ·exact ih _
  ·rfl
theorem ordRun_range {p l : List Int} : ∀ {s t : Nat}, ordRun p s l = some t → ∀ e ∈ l, 0 ≤ e ∧ e < (p.length : Int) := by
 induction l with
 | nil => intro s t h e he; cases he
 | cons x l ih =>
  intro s t h e he
  simp only [ordRun] at h
  split at h
  ·rename_i hc
   rcases List.mem_cons.1 he with rfl | he
   ·exact hc.1
   ·exact ih h e he
  ·cases h
def pcard (n s : Nat) : Nat := (List.range n).countP s.testBit
theorem pcard_succ (n s : Nat) : pcard (n + 1) s = pcard n s + if s.testBit n then 1 else 0 := by
 unfold pcard; rw [List.range_succ, List.countP_append, List.countP_singleton]
theorem pcard_above {n e : Nat} (s : Nat) (h : n ≤ e) : pcard n (s ||| 2 ^ e) = pcard n s := by
 unfold pcard
 apply List.countP_congr
 intro x hx
 rw [List.mem_range] at hx
 rw [Nat.testBit_or, pow_bit, decide_eq_false (by omega), Bool.or_false]
theorem pcard_add {n s e : Nat} (he : e < n) (hb : s.testBit e = false) : pcard n (s ||| 2 ^ e) = pcard n s + 1 := by
 induction n with
 | zero => omega
 | succ n ih =>
  rw [pcard_succ, pcard_succ, Nat.testBit_or, pow_bit]
  rcases Nat.lt_succ_iff_lt_or_eq.1 he with h | h
  ·rw [ih h, decide_eq_false (by omega), Bool.or_false]; omega
  ·subst h; rw [pcard_above s (Nat.le_refl _), hb]; simp
theorem pcard_zero (n : Nat) : pcard n 0 = 0 := by unfold pcard; rw [List.countP_eq_zero]; intro x _; simp
theorem pcard_le (n s : Nat) : pcard n s ≤ n := by unfold pcard; have := List.countP_le_length (p := s.testBit) (l := List.range n); simpa using this
theorem pcard_all (p : List Int) : pcard p.length (allN p) = p.length := by
 unfold pcard
 have : (List.range p.length).countP (allN p).testBit = (List.range p.length).length := by
  rw [List.countP_eq_length]; intro x hx; rw [List.mem_range] at hx; rw [allN_bit, decide_eq_true hx]
 rw [this, List.length_range]
theorem all_of_pcard {p : List Int} {s : Nat} (hs : s < 2 ^ p.length) (h : pcard p.length s = p.length) : s = allN p := by
 refine ext_bits hs (allN_lt p) (fun i hi => ?_)
 rw [allN_bit, decide_eq_true hi]
 have h2 : (List.range p.length).countP s.testBit = (List.range p.length).length := by rw [List.length_range]; exact h
 rw [List.countP_eq_length] at h2
 exact h2 i (List.mem_range.2 hi)
theorem ordRun_card {p l : List Int} : ∀ {s t : Nat}, s < 2 ^ p.length → ordRun p s l = some t → t < 2 ^ p.length ∧ pcard p.length t = pcard p.length s + l.length := by
 induction l with
 | nil => intro s t hs h; simp only [ordRun, Option.some.injEq] at h; subst h; exact ⟨hs, rfl⟩
 | cons x l ih =>
  intro s t hs h
  simp only [ordRun] at h
  split at h
  ·rename_i hc
   obtain ⟨⟨h0, h1⟩, h2, h3⟩ := hc
   have hx : x.toNat < p.length := by omega
   obtain ⟨g1, g2⟩ := ih (or_lt hs (pow_lt_pow hx)) h
   refine ⟨g1, ?_⟩
   rw [g2, pcard_add hx h2, List.length_cons]; omega
  ·cases h
theorem ordB_len {p w : List Int} (h : ordB p w = true) : w.length = p.length := by
 have := (ordRun_card (Nat.two_pow_pos _) (ordB_iff.1 h)).2
 rw [pcard_all, pcard_zero] at this; omega
theorem ordB_eq (p w : List Int) : (decide (w.length = p.length) && (ordRun p 0 w).isSome) = ordB p w := by
 rw [Bool.eq_iff_iff, Bool.and_eq_true, decide_eq_true_eq]
 constructor
 ·rintro ⟨hl, hs⟩
  obtain ⟨t, ht⟩ := Option.isSome_iff_exists.1 hs
  obtain ⟨g1, g2⟩ := ordRun_card (Nat.two_pow_pos _) ht
  rw [pcard_zero, hl, Nat.zero_add] at g2
  rw [ordB_iff, ht, all_of_pcard g1 g2]
 ·intro h
  exact ⟨ordB_len h, by rw [ordB_iff.1 h]; rfl⟩
theorem ordB_range {p w : List Int} (h : ordB p w = true) : ∀ e ∈ w, 0 ≤ e ∧ e < (p.length : Int) := ordRun_range (ordB_iff.1 h)
theorem drop_getD (w : List Int) {i : Nat} (h : i < w.length) : w.drop i = w.getD i 0 :: w.drop (i + 1) := by
 rw [List.drop_eq_getElem_cons h, List.getD_eq_getElem?_getD, List.getElem?_eq_getElem h]; rfl
def idealsN (p : List Int) : List Nat := (List.range (2 ^ p.length)).filter (idealB p)
theorem mem_idealsN {p : List Int} {s : Nat} : s ∈ idealsN p ↔ s < 2 ^ p.length ∧ idealB p s = true := by
 unfold idealsN; rw [List.mem_filter, List.mem_range]
theorem idealsN_nodup (p : List Int) : (idealsN p).Nodup := List.Pairwise.filter _ List.nodup_range
theorem idealsN_len (p : List Int) : (idealsN p).length ≤ 2 ^ p.length := by
 have := List.length_filter_le (idealB p) (List.range (2 ^ p.length))
 rwa [List.length_range] at this
theorem idealB_zero' (p : List Int) : idealB p 0 = true := by rw [idealB_iff]; intro i _ h; rw [Nat.zero_testBit] at h; cases h
theorem zero_mem (p : List Int) : 0 ∈ idealsN p := mem_idealsN.2 ⟨Nat.two_pow_pos _, idealB_zero' p⟩
def frB (p : List Int) (u : Nat) : Bool := allFrom (fun i => !u.testBit i || decide (L p i &&& u = 0)) p.length 0
def stB (p : List Int) (strict : Bool) (s t : Nat) : Bool := subB s t && (!strict || frB p (ndiff t s))
def wvN (B : Nat → Nat → Bool) (ids : List Nat) : Nat → Nat → Nat
 | 0, t => if t = 0 then 1 else 0
 | k + 1, t => sumL ((ids.filter fun s => B s t).map (wvN B ids k))
theorem sumL_map_le {α : Type} (f g : α → Nat) : ∀ l : List α, (∀ x ∈ l, f x ≤ g x) → sumL (l.map f) ≤ sumL (l.map g)
 | [], _ => Nat.le_refl _
 | x :: l, h => by
  have h1 := sumL_map_le f g l (fun y hy => h y (List.mem_cons_of_mem _ hy))
  have h2 := h x List.mem_cons_self
  simp only [List.map_cons, sumL]
  omega
theorem sumL_filter_le {α : Type} (f : α → Nat) (P Q : α → Bool) : ∀ l : List α, (∀ x ∈ l, P x = true → Q x = true) → sumL ((l.filter P).map f) ≤ sumL ((l.filter Q).map f)
 | [], _ => Nat.le_refl _
 | x :: l, h => by
  have h1 := sumL_filter_le f P Q l (fun y hy => h y (List.mem_cons_of_mem _ hy))
  rw [List.filter_cons, List.filter_cons]
  cases hp : P x with
  | false =>
   rw [if_neg (by simp)]
   cases hq : Q x with
   | false => rw [if_neg (by simp)]; exact h1
   | true => rw [if_pos rfl, List.map_cons]; simp only [sumL]; omega
  | true =>
   rw [if_pos rfl, if_pos (h x List.mem_cons_self hp)]
   simp only [List.map_cons, sumL]; omega
theorem sumL_take_le {α : Type} (f : α → Nat) (l : List α) (i : Nat) : sumL ((l.take i).map f) ≤ sumL (l.map f) := by
 rw [show l.map f = (l.take i).map f ++ (l.drop i).map f by rw [← List.map_append, List.take_append_drop], sumL_append]
 omega
theorem sub_pow (c : Nat) : ∀ (n t : Nat), sumL (((List.range (2 ^ n)).filter fun s => subB s t).map fun s => c ^ pcard n s) = (c + 1) ^ pcard n t
 | 0, t => by
  have e : (List.range (2 ^ 0)).filter (fun s => subB s t) = [0] := by
   rw [show List.range (2 ^ 0) = [0] from rfl, List.filter_cons, if_pos (subB_iff.2 fun i h => by rw [Nat.zero_testBit] at h; cases h)]; rfl
  rw [e]; rfl
 | n + 1, t => by
  have hr : List.range (2 ^ (n + 1)) = List.range (2 ^ n) ++ (List.range (2 ^ n)).map (2 ^ n + ·) := by
   rw [show 2 ^ (n + 1) = 2 ^ n + 2 ^ n by rw [Nat.pow_succ]; omega, List.range_add]
  rw [hr, List.filter_append, List.map_append, sumL_append, List.filter_map, List.map_map]
  have hbit : ∀ s, s < 2 ^ n → 2 ^ n + s = s ||| 2 ^ n := fun s hs => by
   have h := Nat.two_pow_add_eq_or_of_lt hs 1
   rw [Nat.mul_one] at h
   rw [h, Nat.or_comm]
  have h1 : sumL (((List.range (2 ^ n)).filter fun s => subB s t).map fun s => c ^ pcard (n + 1) s) = (c + 1) ^ pcard n t := by
   rw [← sub_pow c n t]
   congr 1
   refine List.map_congr_left fun s hs => ?_
   have hs := List.mem_range.1 (List.mem_filter.1 hs).1
   rw [pcard_succ, Nat.testBit_lt_two_pow hs]; simp
  have hsub : ∀ s, s < 2 ^ n → subB (2 ^ n + s) t = (t.testBit n && subB s t) := fun s hs => by
   rw [hbit s hs, Bool.eq_iff_iff, Bool.and_eq_true, subB_iff, subB_iff]
   constructor
   ·intro h
    exact ⟨h n (by rw [Nat.testBit_or, pow_bit]; simp), fun i hi => h i (by rw [Nat.testBit_or, hi]; rfl)⟩
   ·rintro ⟨h1, h2⟩ i hi
    rw [Nat.testBit_or, pow_bit, Bool.or_eq_true, decide_eq_true_eq] at hi
    rcases hi with hi | hi
    ·exact h2 i hi
    ·rw [← hi]; exact h1
  have h2 : sumL (((List.range (2 ^ n)).filter ((fun s => subB s t) ∘ (2 ^ n + ·))).map ((fun s => c ^ pcard (n + 1) s) ∘ (2 ^ n + ·))) = if t.testBit n = true then c * (c + 1) ^ pcard n t else 0 := by
   have e1 : (List.range (2 ^ n)).filter ((fun s => subB s t) ∘ (2 ^ n + ·)) = (List.range (2 ^ n)).filter fun s => t.testBit n && subB s t := by
    refine List.filter_congr fun s hs => ?_
    exact hsub s (List.mem_range.1 hs)
   rw [e1]
   cases hb : t.testBit n with
   | false =>
    rw [if_neg (by simp)]
    have e2 : (List.range (2 ^ n)).filter (fun s => false && subB s t) = [] := by simp
    rw [e2]; rfl
   | true =>
    rw [if_pos rfl]
    simp only [Bool.true_and]
    rw [← sub_pow c n t]
    have hmul : ∀ l : List Nat, sumL (l.map fun s => c * c ^ pcard n s) = c * sumL (l.map fun s => c ^ pcard n s) := by
     intro l
     induction l with
     | nil => rfl
     | cons x l ih => simp only [List.map_cons, sumL]; rw [ih, Nat.mul_add]
    rw [← hmul]
    congr 1
    refine List.map_congr_left fun s hs => ?_
    have hs := List.mem_range.1 (List.mem_filter.1 hs).1
    show c ^ pcard (n + 1) (2 ^ n + s) = _
    rw [hbit s hs, pcard_add (Nat.lt_succ_self n) (Nat.testBit_lt_two_pow hs), pcard_succ, Nat.testBit_lt_two_pow hs]
    simp [Nat.pow_succ, Nat.mul_comm]
  rw [h1, h2, pcard_succ]
  cases t.testBit n with
  | false => simp
  | true => simp only [if_pos]; rw [Nat.pow_succ, Nat.mul_comm ((c + 1) ^ pcard n t), Nat.add_mul, Nat.one_mul]; omega
theorem wvN_le {p : List Int} {B : Nat → Nat → Bool} (hB : ∀ s t, B s t = true → subB s t = true) : ∀ k t, wvN B (idealsN p) k t ≤ (k + 1) ^ pcard p.length t
 | 0, t => by
  unfold wvN
  rw [Nat.one_pow]
  split <;> omega
 | k + 1, t => by
  unfold wvN
  rw [← sub_pow (k + 1) p.length t]
  refine Nat.le_trans (sumL_map_le _ (fun s => (k + 1) ^ pcard p.length s) _ (fun s _ => wvN_le hB k s)) ?_
  unfold idealsN
  rw [List.filter_filter]
  refine sumL_filter_le _ _ _ _ fun s _ h => ?_
  rw [Bool.and_eq_true] at h
  exact hB s t h.1
theorem pow_bound {c m : Nat} (hc : c ≤ 15) (hm : m ≤ 10) : c ^ m ≤ 576650390625 := by
 refine Nat.le_trans (Nat.pow_le_pow_left hc m) ?_
 have h15 : (15 : Nat) ^ m ≤ 15 ^ 10 := Nat.pow_le_pow_right (by decide) hm
 exact Nat.le_trans h15 (by decide)
theorem wvN_small {p : List Int} (hp : p.length ≤ 10) {B : Nat → Nat → Bool} (hB : ∀ s t, B s t = true → subB s t = true) {k t : Nat} (hk : k ≤ 14) : wvN B (idealsN p) k t ≤ 576650390625 :=
 Nat.le_trans (wvN_le hB k t) (pow_bound (by omega) (Nat.le_trans (pcard_le _ _) hp))
theorem stB_sub {p : List Int} {b : Bool} {s t : Nat} (h : stB p b s t = true) : subB s t = true := by
 unfold stB at h
 rw [Bool.and_eq_true] at h
 exact h.1
theorem sub_all {p : List Int} {s : Nat} (hs : s < 2 ^ p.length) : subB s (allN p) = true := subB_iff.2 fun i hi => by
 rw [allN_bit]; exact decide_eq_true (lt_of_bit hs hi)
end Go.Proofs.Ytmbojobkiainlaa.Q
end

section
namespace Go.Proofs.Ytmbojobkiainlaa.Q
open Go.RowKit Go.Proofs.YtmbojobkiainlaaW.PrintWords Go.Proofs.Ytmbojobkiainlaa.F
set_option linter.unusedVariables false
theorem liIs_ev {p : List Int} (hp : PO p) (w : List Int) : Ev (fun k => spec_liIs.f k p w) (ordB p w) := by
 have hn := hp.small
 have hn1 := hp.pos
 rw [← ordB_eq]
 unfold spec_liIs.f
 by_cases hl : w.length = p.length
 rotate_left
 ·refine Ev.no (by omega) (Ev.step (by intro k; simp only [spec_liIs.j0]; rfl) (Ev.yes (show true = true from rfl) (Ev.ret ?_)))
  rw [decide_eq_false hl]; rfl
 refine Ev.yes (by omega) ?_
 rw [decide_eq_true hl, Bool.true_and, show wrap64 ((w.length : Int) - 1) = (w.length : Int) - 1 from wid (by omega) (by omega)]
 refine Ev.bind (l1All_ev w 0 _ (by omega)) ?_
 cases hall : allFrom (fun i => inR 0 ((w.length : Int) - 1) (w.getD i 0)) w.length 0 with
 | false =>
  refine Ev.step (by intro k; simp only [spec_liIs.j0]; rfl) (Ev.ret ?_)
  cases ho : ordRun p 0 w with
  | none => rfl
  | some t =>
   have hr := ordRun_range ho
   have : allFrom (fun i => inR 0 ((w.length : Int) - 1) (w.getD i 0)) w.length 0 = true := by
    rw [allFrom_iff]
    intro j _ hj
    rw [inR_iff, List.getD_eq_getElem?_getD, List.getElem?_eq_getElem hj]
    have := hr _ (List.getElem_mem hj)
    show 0 ≤ w[j] ∧ w[j] ≤ _
    omega
   rw [this] at hall; cases hall
 | true =>
 refine Ev.step (by intro k; simp only [spec_liIs.j0]; rfl) (Ev.no (by simp) ?_)
 have hin : ∀ i, i < w.length → 0 ≤ w.getD i 0 ∧ w.getD i 0 ≤ (w.length : Int) - 1 := fun i hi => inR_iff.1 ((allFrom_iff _ _ _).1 hall i (Nat.zero_le _) hi)
 have key : ∀ i, i ≤ w.length → ∀ s : Nat, s < 2 ^ p.length → Ev (fun k => spec_liIs.l0 k (s : Int) w (w.length : Int) (i : Int) p) (ordRun p s (w.drop i)).isSome := by
  refine downTo _ ?_ ?_
  ·intro s hs
   refine Ev.step (by intro k; simp only [spec_liIs.l0]; rfl) (Ev.no (by omega) (Ev.ret ?_))
   rw [List.drop_length]; rfl
  ·intro i hi ih s hs
   refine Ev.step (by intro k; simp only [spec_liIs.l0]; rfl) (Ev.yes (by omega) (Ev.yes (by omega) (Ev.yes (by omega) ?_)))
   have h1 := hin i hi
   rw [rdN, drop_getD w hi, wid1 hi (by omega)]
   generalize w.getD i 0 = e at h1
   simp only [ordRun]
   obtain ⟨x, rfl⟩ := Int.eq_ofNat_of_zero_le h1.1
   have hx : x < p.length := by omega
   refine Ev.call (poIn_eq (by omega)) ?_
   rw [Int.toNat_natCast]
   by_cases h2 : s.testBit x = true
   ·exact Ev.yes h2 (Ev.ret (by rw [if_neg (fun h => by rw [h.2.1] at h2; cases h2)]; rfl))
   refine Ev.no h2 (Ev.yes (by omega) (Ev.yes (by omega) ?_))
   rw [rdN, hp.val x hx, bits_andNotN (lt_pow (L_lt hp hx) (by omega)) (lt_pow hs (by omega))]
   by_cases h3 : subB (L p x) s = true
   ·have h4 : ndiff (L p x) s = 0 := by unfold subB at h3; exact beq_iff_eq.1 h3
    refine Ev.yes (by rw [h4]; rfl) ?_
    rw [shlN (by omega), bits_orN (lt_pow hs (by omega)) (Nat.pow_lt_pow_right (by decide) (by omega)), if_pos ⟨by omega, by simpa using h2, h3⟩]
    exact ih _ (or_lt hs (pow_lt_pow hx))
   ·have h4 : ¬ (((ndiff (L p x) s : Nat) : Int) = 0) := fun h => h3 (by unfold subB; rw [beq_iff_eq]; exact_mod_cast h)
    exact Ev.no h4 (Ev.ret (by rw [if_neg (fun h => h3 h.2.2)]; rfl))
 have := key 0 (by omega) 0 (Nat.two_pow_pos _)
 rw [List.drop_zero] at this
 exact this
theorem poIdeals_ev {p : List Int} (hp : PO p) : Ev (fun k => spec_poIdeals.f k p) (ints (idealsN p)) := by
 have hn := hp.small
 have h2 : 2 ^ p.length ≤ 1024 := Nat.le_trans (Nat.pow_le_pow_right (by decide) hn) (by decide)
 unfold spec_poIdeals.f
 have key : ∀ i, i ≤ 2 ^ p.length → ∀ acc : List Int, acc.length ≤ i → Ev (fun k => spec_poIdeals.l0 k acc (i : Int) p) (acc ++ ints ((List.range' i (2 ^ p.length - i)).filter (idealB p))) := by
  refine downTo _ ?_ ?_
  ·intro acc _
   refine Ev.step (by intro k; simp only [spec_poIdeals.l0]; rfl) ?_
   rw [shlN (by omega), Nat.sub_self]
   exact Ev.no (by omega) (Ev.ret (by simp [ints]))
  ·intro i hi ih acc ha
   refine Ev.step (by intro k; simp only [spec_poIdeals.l0]; rfl) ?_
   rw [shlN (by omega)]
   refine Ev.yes (by omega) (Ev.bind (poIdeal_ev hp hi) ?_)
   rw [show 2 ^ p.length - i = (2 ^ p.length - (i + 1)) + 1 by omega, List.range'_succ, List.filter_cons, wid1 hi (by omega)]
   cases hc : idealB p i with
   | true =>
    rw [if_pos rfl]
    refine Ev.yes rfl (Ev.yes (by omega) (evc (ih (acc ++ [(i : Int)]) (by rw [List.length_append, List.length_singleton]; omega)) ?_))
    rw [List.append_assoc]; rfl
   | false =>
    rw [if_neg (by simp)]
    exact Ev.no (by simp) (ih acc (by omega))
 have := key 0 (Nat.zero_le _) [] (Nat.le_refl _)
 rw [Nat.sub_zero, ← List.range_eq_range'] at this
 exact this
end Go.Proofs.Ytmbojobkiainlaa.Q
end

section
namespace Go.Proofs.Ytmbojobkiainlaa.Q
open Go.RowKit Go.Proofs.YtmbojobkiainlaaW.PrintWords
set_option linter.unusedVariables false
theorem sizes_eq (n : Nat) : (decide ((1 : Int) ≤ (n : Int)) && decide ((n : Int) ≤ 10)) = (decide (1 ≤ n) && decide (n ≤ 10)) := by
 rw [Bool.eq_iff_iff]; simp only [Bool.and_eq_true, decide_eq_true_eq]; omega
end Go.Proofs.Ytmbojobkiainlaa.Q
end

section
namespace Go.Proofs.Ytmbojobkiainlaa.Q
open Go.RowKit Go.Proofs.YtmbojobkiainlaaW.PrintWords Go.Proofs.Ytmbojobkiainlaa.F
set_option linter.unusedVariables false
theorem poGood_ev (p : List Int) : Ev (fun k => spec_poGood.f k p) (isPo p) := by
 unfold spec_poGood.f
 refine Ev.call (l1In_eq _ _ _) ?_
 unfold isPo
 rw [sizes_eq]
 cases hs : (decide (1 ≤ p.length) && decide (p.length ≤ 10)) with
 | false => exact Ev.no (by simp) (Ev.ret rfl)
 | true =>
 refine Ev.yes rfl ?_
 rw [Bool.and_eq_true, decide_eq_true_eq, decide_eq_true_eq] at hs
 obtain ⟨h1, h2⟩ := hs
 have key : ∀ i, i ≤ p.length → Ev (fun k => spec_poGood.l0 k p (p.length : Int) (i : Int) p) (allFrom (rowOk p) p.length i) := by
  refine downTo p.length ?_ ?_
  ·refine Ev.step (by intro k; simp only [spec_poGood.l0]; rfl) ?_
   exact Ev.no (by omega) (Ev.ret (allFrom_end _ _).symm)
  ·intro i hi ih
   refine Ev.step (by intro k; simp only [spec_poGood.l0]; rfl) ?_
   refine Ev.yes (by omega) (Ev.yes (by omega) (Ev.yes (by omega) ?_))
   rw [rdN, mask_eq (by omega)]
   refine Ev.call (l1In_eq _ _ _) ?_
   rw [allFrom_step _ hi]
   by_cases hb : 0 ≤ p.getD i 0 ∧ p.getD i 0 ≤ 2 ^ i - 1
   rotate_left
   ·exact Ev.no (by rw [range_false hb]; simp) (Ev.ret (by rw [rowOk_false hb]; rfl))
   refine Ev.yes (range_true hb) ?_
   have hv : p.getD i 0 = (L p i : Int) := by unfold L; omega
   rw [rowOk_true hb]
   generalize hx : p.getD i 0 = x at *
   have inner : ∀ j, j ≤ i → Ev (fun k => spec_poGood.l1 k (i : Int) x (j : Int) p (p.length : Int) (i : Int) p)
    (allFrom (fun j => !(L p i).testBit j || decide (Go.bits .andNot .i64 (p.getD j 0) x = 0)) i j && allFrom (rowOk p) p.length (i + 1)) := by
    refine downTo i ?_ ?_
    ·refine Ev.step (by intro k; simp only [spec_poGood.l1]; rfl) ?_
     refine Ev.no (by omega) ?_
     rw [wid1 hi (by omega), allFrom_end, Bool.true_and]
     exact ih
    ·intro j hj ihj
     refine Ev.step (by intro k; simp only [spec_poGood.l1]; rfl) ?_
     refine Ev.yes (by omega) (Ev.yes (by omega) ?_)
     rw [allFrom_step _ hj, wid1 hj (by omega), rdN]
     cases hbit : (L p i).testBit j with
     | false => exact Ev.no (by rw [hv, bit_test (by omega), hbit]; simp) (evc ihj (by simp))
     | true =>
      refine Ev.yes (by rw [hv, bit_test (by omega), hbit]) (Ev.yes (by omega) ?_)
      refine Ev.ite (fun h => evc ihj ?_) (fun h => Ev.ret ?_)
      ·rw [decide_eq_true h]; simp
      ·rw [decide_eq_false h]; simp
   exact inner 0 (by omega)
 exact key 0 (by omega)
end Go.Proofs.Ytmbojobkiainlaa.Q
end

section
namespace Go.Proofs.Ytmbojobkiainlaa.Q
open Go.RowKit Go.Proofs.YtmbojobkiainlaaW.PrintWords
set_option linter.unusedVariables false
def Tl (N : Nat) (f : Nat → Nat) : List Int := (List.range N).map fun t => ((f t : Nat) : Int)
theorem Tl_len (N : Nat) (f : Nat → Nat) : (Tl N f).length = N := by simp [Tl]
theorem Tl_get (N : Nat) (f : Nat → Nat) {t : Nat} (ht : t < N) : rd (Tl N f) (t : Int) = ((f t : Nat) : Int) := by
 rw [rdN]
 unfold Tl
 rw [List.getD_eq_getElem?_getD, List.getElem?_map, List.getElem?_range ht]; rfl
theorem Tl_congr {N : Nat} {f g : Nat → Nat} (h : ∀ t, t < N → f t = g t) : Tl N f = Tl N g := List.map_congr_left fun t ht => by rw [h t (List.mem_range.1 ht)]
theorem Tl_set {N : Nat} {f : Nat → Nat} {t x : Nat} (ht : t < N) : (Tl N f).set t (x : Int) = Tl N fun u => if u = t then x else f u := by
 apply List.ext_getElem?
 intro i
 unfold Tl
 rw [List.getElem?_set, List.getElem?_map, List.getElem?_map, List.length_map, List.length_range]
 by_cases hi : i < N
 ·rw [List.getElem?_range hi]
  by_cases e : t = i
  ·subst e
   rw [if_pos rfl, if_pos ht]
   simp
  ·rw [if_neg e]
   simp only [Option.map_some]
   rw [if_neg (fun h => e h.symm)]
 ·rw [List.getElem?_eq_none (l := List.range N) (by simpa using hi)]
  by_cases e : t = i
  ·subst e; exact absurd ht hi
  ·rw [if_neg e]; rfl
theorem Tl_zero (N : Nat) : List.replicate N (0 : Int) = Tl N fun _ => 0 := by
 unfold Tl
 apply List.ext_getElem
 ·simp
 ·intro i h1 h2; simp
theorem sumL_snoc (l : List Nat) (x : Nat) : sumL (l ++ [x]) = sumL l + x := by rw [sumL_append]; simp [sumL]
theorem take_snoc {α : Type} (l : List α) (i : Nat) (h : i < l.length) : l.take (i + 1) = l.take i ++ [l[i]] := by
 rw [List.take_add_one, List.getElem?_eq_getElem h]; rfl
end Go.Proofs.Ytmbojobkiainlaa.Q
end

section
namespace Go.Proofs.Ytmbojobkiainlaa.Q
open Go.RowKit Go.Proofs.YtmbojobkiainlaaW.PrintWords Go.Proofs.Ytmbojobkiainlaa.F
set_option linter.unusedVariables false
theorem laFree_ev {p : List Int} (hp : PO p) {u : Nat} (hu : u < 2 ^ p.length) : Ev (fun k => spec_laFree.f k p (u : Int)) (frB p u) := by
 have hn := hp.small
 unfold spec_laFree.f frB
 have key : ∀ i, i ≤ p.length → Ev (fun k => spec_laFree.l0 k (u : Int) p (p.length : Int) (i : Int)) (allFrom (fun i => !u.testBit i || decide (L p i &&& u = 0)) p.length i) := by
  refine downTo _ ?_ ?_
  ·exact Ev.step (by intro k; simp only [spec_laFree.l0]; rfl) (Ev.no (by omega) (Ev.ret (allFrom_end _ _).symm))
  ·intro i hi ih
   refine Ev.step (by intro k; simp only [spec_laFree.l0]; rfl) (Ev.yes (by omega) (Ev.yes (by omega) (Ev.yes (by omega) ?_)))
   rw [wid1 hi (by omega), rdN, hp.val i hi, allFrom_step _ hi]
   refine Ev.call (poIn_eq (by omega)) ?_
   cases u.testBit i with
   | false => exact Ev.no (by simp) (evc ih (by simp))
   | true =>
    refine Ev.yes rfl ?_
    rw [bits_andN (lt_pow (L_lt hp hi) (by omega)) (lt_pow hu (by omega))]
    refine Ev.ite (fun h => evc ih ?_) (fun h => Ev.ret ?_)
    ·rw [decide_eq_true (show L p i &&& u = 0 by exact_mod_cast h)]; simp
    ·rw [decide_eq_false (show ¬ L p i &&& u = 0 by intro e; exact h (by rw [e]; rfl))]; simp
 exact key 0 (Nat.zero_le _)
def gotN (B : Nat → Nat → Bool) (ids : List Nat) (v : Nat → Nat) (i t : Nat) : Nat := if t ∈ ids then sumL (((ids.take i).filter fun s => B s t).map v) else 0
def gotJ (B : Nat → Nat → Bool) (ids : List Nat) (v : Nat → Nat) (i j s t : Nat) : Nat := gotN B ids v i t + if t ∈ ids.take j ∧ B s t = true then v s else 0
theorem gotN_le {B : Nat → Nat → Bool} {ids : List Nat} {v : Nat → Nat} {i t : Nat} : gotN B ids v i t ≤ sumL ((ids.filter fun s => B s t).map v) := by
 unfold gotN
 split
 ·refine Nat.le_trans ?_ (Nat.le_refl (sumL ((ids.filter fun s => B s t).map v)))
  have e : ids.filter (fun s => B s t) = (ids.take i).filter (fun s => B s t) ++ (ids.drop i).filter (fun s => B s t) := by rw [← List.filter_append, List.take_append_drop]
  rw [e, List.map_append, sumL_append]
  omega
 ·omega
theorem gotN_step {B : Nat → Nat → Bool} {ids : List Nat} {v : Nat → Nat} {i t : Nat} (hi : i < ids.length) : gotN B ids v (i + 1) t = gotN B ids v i t + if t ∈ ids ∧ B ids[i] t = true then v ids[i] else 0 := by
 unfold gotN
 by_cases ht : t ∈ ids
 ·rw [if_pos ht, if_pos ht, take_snoc ids i hi, List.filter_append, List.map_append, sumL_append]
  cases hb : B ids[i] t with
  | true => simp [ht, hb, sumL]
  | false => simp [hb, sumL]
 ·rw [if_neg ht, if_neg ht, if_neg (fun h => ht h.1)]
theorem gotJ_end {B : Nat → Nat → Bool} {ids : List Nat} {v : Nat → Nat} {i t : Nat} (hi : i < ids.length) : gotJ B ids v i ids.length ids[i] t = gotN B ids v (i + 1) t := by
 unfold gotJ
 rw [List.take_length, gotN_step hi]
theorem not_in_take {ids : List Nat} (hn : ids.Nodup) {j : Nat} (hj : j < ids.length) : ids[j] ∉ ids.take j := by
 intro h
 obtain ⟨i, hi, e⟩ := List.mem_take_iff_getElem.1 h
 rw [List.nodup_iff_pairwise_ne, List.pairwise_iff_getElem] at hn
 exact hn i j (by omega) hj (by omega) e
theorem gotJ_step {B : Nat → Nat → Bool} {ids : List Nat} {v : Nat → Nat} {i j s : Nat} (hn : ids.Nodup) (hj : j < ids.length) (u : Nat) :
 gotJ B ids v i (j + 1) s u = if u = ids[j] ∧ B s u = true then gotJ B ids v i j s u + v s else gotJ B ids v i j s u := by
 unfold gotJ
 rw [take_snoc ids j hj]
 by_cases e : u = ids[j]
 ·subst e
  have h0 := not_in_take hn hj
  have h1 : ids[j] ∈ ids.take j ++ [ids[j]] := List.mem_append.2 (.inr (List.mem_singleton.2 rfl))
  cases hb : B s ids[j] with
  | true => rw [if_pos ⟨h1, rfl⟩, if_pos ⟨rfl, rfl⟩, if_neg (fun h => h0 h.1)]; omega
  | false => rw [if_neg (by simp), if_neg (by simp), if_neg (by simp)]
 ·have hne : ¬ (u = ids[j] ∧ B s u = true) := fun h => e h.1
  have : (u ∈ ids.take j ++ [ids[j]]) ↔ u ∈ ids.take j := by rw [List.mem_append, List.mem_singleton]; exact ⟨fun h => h.elim id (fun h => absurd h e), .inl⟩
  rw [if_neg hne]
  by_cases h : u ∈ ids.take j ∧ B s u = true
  ·rw [if_pos h, if_pos ⟨this.2 h.1, h.2⟩]
  ·rw [if_neg h, if_neg (fun h2 => h ⟨this.1 h2.1, h2.2⟩)]
theorem gotJ_le {B : Nat → Nat → Bool} {ids : List Nat} {v : Nat → Nat} {i j t : Nat} (hi : i < ids.length) (hj : j ≤ ids.length) : gotJ B ids v i j ids[i] t ≤ gotN B ids v (i + 1) t := by
 rw [← gotJ_end hi]
 unfold gotJ
 rw [List.take_length]
 by_cases h : t ∈ ids.take j ∧ B ids[i] t = true
 ·rw [if_pos h, if_pos ⟨List.mem_of_mem_take h.1, h.2⟩]; omega
 ·rw [if_neg h]; omega
theorem chains_row {p : List Int} (hp : PO p) (b : Bool) (v : Nat → Nat) (hv : ∀ t, sumL (((idealsN p).filter fun s => stB p b s t).map v) ≤ 4000000000000000000) {i : Nat} (hi : i < (idealsN p).length) {x1 : Int} {r : Int} :
 ∀ j, j ≤ (idealsN p).length → Ev (fun k => spec_laChains.l1 k x1 b (ints (idealsN p)) (Tl (2 ^ p.length) v) (Tl (2 ^ p.length) (gotN (stB p b) (idealsN p) v (i + 1))) (ints (idealsN p)) ((ints (idealsN p)).length : Int) (wrap64 ((i : Int) + 1)) p) r →
 Ev (fun k => spec_laChains.l2 k x1 b (ints (idealsN p)) (Tl (2 ^ p.length) v) (Tl (2 ^ p.length) (gotJ (stB p b) (idealsN p) v i j (idealsN p)[i])) ((idealsN p)[i] : Int) (ints (idealsN p)) ((ints (idealsN p)).length : Int) (i : Int) (ints (idealsN p)) ((ints (idealsN p)).length : Int) (j : Int) p) r := by
 have hn := hp.small
 have h2 : 2 ^ p.length ≤ 1024 := Nat.le_trans (Nat.pow_le_pow_right (by decide) hn) (by decide)
 have hl := idealsN_len p
 have hnd := idealsN_nodup p
 obtain ⟨hs, hsi⟩ := mem_idealsN.1 (List.getElem_mem hi)
 generalize hS : (idealsN p)[i] = s at hs hsi ⊢
 rw [ints_len]
 refine downTo _ ?_ ?_
 ·intro hr
  refine Ev.step (by intro k; simp only [spec_laChains.l2]; rfl) (Ev.no (by omega) ?_)
  have e : Tl (2 ^ p.length) (gotJ (stB p b) (idealsN p) v i (idealsN p).length s) = Tl (2 ^ p.length) (gotN (stB p b) (idealsN p) v (i + 1)) := Tl_congr fun t _ => by rw [← hS]; exact gotJ_end hi
  rw [e]
  exact hr
 ·intro j hj ih hr
  have ih := ih hr
  obtain ⟨ht, hti⟩ := mem_idealsN.1 (List.getElem_mem hj)
  have hrd : rd (ints (idealsN p)) (j : Int) = ((idealsN p)[j] : Int) := by rw [rd_ints, List.getD_eq_getElem?_getD, List.getElem?_eq_getElem hj]; rfl
  have hstep := gotJ_step (B := stB p b) (v := v) (i := i) (s := s) hnd hj
  generalize hT : (idealsN p)[j] = t at ht hti hrd hstep
  have hsame : stB p b s t = false ∨ v s = 0 → Tl (2 ^ p.length) (gotJ (stB p b) (idealsN p) v i (j + 1) s) = Tl (2 ^ p.length) (gotJ (stB p b) (idealsN p) v i j s) := fun h => Tl_congr fun u _ => by
   rw [hstep u]
   by_cases hu : u = t ∧ stB p b s u = true
   ·rw [if_pos hu]
    rcases h with h | h
    ·rw [hu.1, h] at hu; exact absurd hu.2 (by simp)
    ·omega
   ·rw [if_neg hu]
  refine Ev.step (by intro k; simp only [spec_laChains.l2]; rfl) (Ev.yes (by omega) (Ev.yes (by omega) (Ev.yes (by rw [ints_len]; omega) (Ev.yes (by omega) (Ev.yes (by rw [Tl_len]; omega) ?_)))))
  rw [hrd, Tl_get _ _ hs, Tl_get _ _ ht, wid1 (show j < (idealsN p).length from hj) (by omega), bits_andNotN (lt_pow hs (by omega)) (lt_pow ht (by omega)), bits_andNotN (lt_pow ht (by omega)) (lt_pow hs (by omega))]
  refine Ev.ite (fun hv0 => ?_) (fun hv0 => ?_)
  rotate_left
  ·rw [hsame (.inr (by omega))] at ih; exact ih
  have hadd : stB p b s t = true → (Tl (2 ^ p.length) (gotJ (stB p b) (idealsN p) v i j s)).set ((t : Int)).toNat (wrap64 (((gotJ (stB p b) (idealsN p) v i j s t : Nat) : Int) + ((v s : Nat) : Int))) = Tl (2 ^ p.length) (gotJ (stB p b) (idealsN p) v i (j + 1) s) := fun hB => by
   have hle : gotJ (stB p b) (idealsN p) v i (j + 1) s t ≤ 4000000000000000000 := by
    rw [← hS]
    exact Nat.le_trans (gotJ_le hi (by omega)) (Nat.le_trans gotN_le (hv t))
   rw [hstep t, if_pos ⟨rfl, hB⟩] at hle
   rw [wid (by omega) (by omega), Int.toNat_natCast, show ((gotJ (stB p b) (idealsN p) v i j s t : Nat) : Int) + ((v s : Nat) : Int) = ((gotJ (stB p b) (idealsN p) v i j s t + v s : Nat) : Int) by omega, Tl_set ht]
   refine Tl_congr fun u _ => ?_
   rw [hstep u]
   by_cases e : u = t
   ·subst e; rw [if_pos rfl, if_pos ⟨rfl, hB⟩]
   ·rw [if_neg e, if_neg (fun h => e h.1)]
  refine Ev.ite (fun hsub => ?_) (fun hsub => ?_)
  rotate_left
  ·have : stB p b s t = false := by
    unfold stB subB
    rw [show (ndiff s t == 0) = false by rw [beq_eq_false_iff_ne]; intro e; exact hsub (by rw [e]; rfl)]; rfl
   rw [hsame (.inl this)] at ih; exact ih
  have hsub' : subB s t = true := by unfold subB; rw [beq_iff_eq]; exact_mod_cast hsub
  cases b with
  | false =>
   have hB : stB p false s t = true := by unfold stB; rw [hsub']; rfl
   refine Ev.no (by simp) (Ev.yes (by omega) (Ev.yes (by rw [Tl_len]; omega) ?_))
   rw [hadd hB]; exact ih
  | true =>
   refine Ev.yes rfl (Ev.bind (laFree_ev hp (ndiff_lt ht)) ?_)
   cases hf : frB p (ndiff t s) with
   | true =>
    have hB : stB p true s t = true := by unfold stB; rw [hsub', hf]; rfl
    refine Ev.yes rfl (Ev.yes (by omega) (Ev.yes (by rw [Tl_len]; omega) ?_))
    rw [hadd hB]; exact ih
   | false =>
    have hB : stB p true s t = false := by unfold stB; rw [hsub', hf]; rfl
    rw [hsame (.inl hB)] at ih
    exact Ev.no (by simp) ih
theorem chains_rows {p : List Int} (hp : PO p) (b : Bool) (v : Nat → Nat) (hv : ∀ t, sumL (((idealsN p).filter fun s => stB p b s t).map v) ≤ 4000000000000000000) {x1 : Int} {r : Int}
 (hr : Ev (fun k => spec_laChains.l0 k (wrap64 (x1 - 1)) b (ints (idealsN p)) (Tl (2 ^ p.length) (gotN (stB p b) (idealsN p) v (idealsN p).length)) p) r) :
 ∀ i, i ≤ (idealsN p).length → Ev (fun k => spec_laChains.l1 k x1 b (ints (idealsN p)) (Tl (2 ^ p.length) v) (Tl (2 ^ p.length) (gotN (stB p b) (idealsN p) v i)) (ints (idealsN p)) ((ints (idealsN p)).length : Int) (i : Int) p) r := by
 have hn := hp.small
 have h2 : 2 ^ p.length ≤ 1024 := Nat.le_trans (Nat.pow_le_pow_right (by decide) hn) (by decide)
 have hl := idealsN_len p
 refine downTo _ ?_ ?_
 ·refine Ev.step (by intro k; simp only [spec_laChains.l1]; rfl) (Ev.no (by rw [ints_len]; omega) hr)
 ·intro i hi ih
  refine Ev.step (by intro k; simp only [spec_laChains.l1]; rfl) (Ev.yes (by rw [ints_len]; omega) (Ev.yes (by omega) (Ev.yes (by rw [ints_len]; omega) ?_)))
  have hrd : rd (ints (idealsN p)) (i : Int) = ((idealsN p)[i] : Int) := by rw [rd_ints, List.getD_eq_getElem?_getD, List.getElem?_eq_getElem hi]; rfl
  rw [hrd]
  have h0 : Tl (2 ^ p.length) (gotN (stB p b) (idealsN p) v i) = Tl (2 ^ p.length) (gotJ (stB p b) (idealsN p) v i 0 (idealsN p)[i]) := Tl_congr fun t _ => by unfold gotJ; simp
  rw [h0]
  exact chains_row hp b v hv hi 0 (Nat.zero_le _) (by rw [wid1 hi (by omega)]; exact ih)
def wvI (p : List Int) (b : Bool) (k t : Nat) : Nat := if t ∈ idealsN p then wvN (stB p b) (idealsN p) k t else 0
theorem wvI_step (p : List Int) (b : Bool) (k t : Nat) : gotN (stB p b) (idealsN p) (wvI p b k) (idealsN p).length t = wvI p b (k + 1) t := by
 unfold gotN
 rw [List.take_length]
 conv => rhs; unfold wvI
 by_cases h : t ∈ idealsN p
 ·rw [if_pos h, if_pos h]
  conv => rhs; unfold wvN
  congr 1
  refine List.map_congr_left fun s hs => ?_
  unfold wvI
  rw [if_pos (List.mem_filter.1 hs).1]
 ·rw [if_neg h, if_neg h]
theorem wvI_sum {p : List Int} (hp : PO p) (b : Bool) {k : Nat} (hk : k ≤ 13) (t : Nat) : sumL (((idealsN p).filter fun s => stB p b s t).map (wvI p b k)) ≤ 4000000000000000000 := by
 refine Nat.le_trans ?_ (Nat.le_trans (wvN_small hp.small (B := stB p b) (k := k + 1) (t := t) (fun s t h => stB_sub h) (by omega)) (by decide))
 conv => rhs; unfold wvN
 refine sumL_map_le _ _ _ fun s _ => ?_
 unfold wvI
 split
 ·exact Nat.le_refl _
 ·exact Nat.zero_le _
theorem laChains_ev {p : List Int} (hp : PO p) (b : Bool) {k : Nat} (hk : k ≤ 14) : Ev (fun n => spec_laChains.f n p (k : Int) b) ((wvN (stB p b) (idealsN p) k (allN p) : Nat) : Int) := by
 have hn := hp.small
 have h2 : 2 ^ p.length ≤ 1024 := Nat.le_trans (Nat.pow_le_pow_right (by decide) hn) (by decide)
 have hpos := Nat.two_pow_pos p.length
 have hall : allN p ∈ idealsN p := mem_idealsN.2 ⟨allN_lt p, idealB_all p hp⟩
 unfold spec_laChains.f
 refine Ev.bind (poIdeals_ev hp) ?_
 rw [shlN (by omega)]
 refine Ev.yes (by omega) (Ev.yes (by rw [Int.toNat_natCast]; omega) ?_)
 rw [Int.toNat_natCast, Tl_zero]
 refine Ev.call rfl (Ev.yes (by rw [Tl_len]; omega) ?_)
 have e0 : (Tl (2 ^ p.length) fun _ => 0).set (0 : Int).toNat 1 = Tl (2 ^ p.length) (wvI p b 0) := by
  refine (Tl_set (f := fun _ => 0) (t := 0) (x := 1) hpos).trans (Tl_congr fun u _ => ?_)
  unfold wvI wvN
  by_cases hu : u = 0
  ·subst hu; rw [if_pos rfl, if_pos (zero_mem p)]
  ·rw [if_neg hu]
   split
   ·rfl
   ·rfl
 rw [e0]
 have key : ∀ q, q ≤ k → Ev (fun n => spec_laChains.l0 n (((k - q : Nat) : Nat) : Int) b (ints (idealsN p)) (Tl (2 ^ p.length) (wvI p b q)) p) ((wvN (stB p b) (idealsN p) k (allN p) : Nat) : Int) := by
  refine downTo _ ?_ ?_
  ·refine Ev.step (by intro k; simp only [spec_laChains.l0]; rfl) (Ev.no (by omega) ?_)
   have e1 : wrap64 (((Tl (2 ^ p.length) (wvI p b k)).length : Int) - 1) = ((allN p : Nat) : Int) := by
    rw [Tl_len, wid (by omega) (by omega)]; unfold allN; omega
   rw [e1]
   refine Ev.yes (by omega) (Ev.yes (by rw [Tl_len]; have := allN_lt p; omega) (Ev.ret ?_))
   rw [Tl_get _ _ (allN_lt p)]
   unfold wvI
   rw [if_pos hall]
  ·intro q hq ih
   refine Ev.step (by intro k; simp only [spec_laChains.l0]; rfl) (Ev.yes (by omega) (Ev.yes (by omega) (Ev.yes (by rw [Tl_len, Int.toNat_natCast]; omega) ?_)))
   rw [Tl_len, Int.toNat_natCast, Tl_zero]
   have e2 : Tl (2 ^ p.length) (fun _ => 0) = Tl (2 ^ p.length) (gotN (stB p b) (idealsN p) (wvI p b q) 0) := Tl_congr fun t _ => by unfold gotN; split <;> simp [sumL]
   rw [e2]
   refine chains_rows hp b _ (wvI_sum hp b (by omega)) ?_ 0 (Nat.zero_le _)
   rw [wid (by omega) (by omega), show (((k - q : Nat) : Nat) : Int) - 1 = ((k - (q + 1) : Nat) : Int) by omega]
   rw [show Tl (2 ^ p.length) (gotN (stB p b) (idealsN p) (wvI p b q) (idealsN p).length) = Tl (2 ^ p.length) (wvI p b (q + 1)) from Tl_congr fun t _ => wvI_step p b q t]
   exact ih
 exact key 0 (Nat.zero_le _)
end Go.Proofs.Ytmbojobkiainlaa.Q
end

section
namespace Go.Proofs.Ytmbojobkiainlaa.Q
open Go.RowKit Go.Proofs.YtmbojobkiainlaaW.PrintWords
set_option linter.unusedVariables false
def opB (p : List Int) (s t : Nat) : Bool := subB s t && (!(ndiff t s == 0) && frB p (ndiff t s))
theorem opB_sub {p : List Int} {s t : Nat} (h : opB p s t = true) : subB s t = true := by
 unfold opB at h
 rw [Bool.and_eq_true] at h
 exact h.1
def stepsN (p : List Int) : List Nat := (List.range p.length).map fun j => wvN (opB p) (idealsN p) (j + 1) (allN p)
def bin : Nat → Nat → Nat
 | _, 0 => 1
 | 0, _ + 1 => 0
 | k + 1, j + 1 => bin k j + bin k (j + 1)
theorem bin_big : ∀ k j, k < j → bin k j = 0
 | _, 0, h => absurd h (Nat.not_lt_zero _)
 | 0, _ + 1, _ => rfl
 | k + 1, j + 1, h => by unfold bin; rw [bin_big k j (by omega), bin_big k (j + 1) (by omega)]
theorem bin_self : ∀ k, bin k k = 1
 | 0 => rfl
 | k + 1 => by unfold bin; rw [bin_self k, bin_big k (k + 1) (by omega)]
theorem bin_zero (k : Nat) : bin k 0 = 1 := by cases k <;> rfl
theorem frB_zero (p : List Int) : frB p 0 = true := by unfold frB; rw [allFrom_iff]; intro j _ _; rw [Nat.zero_testBit]; rfl
theorem ndiff_self (s : Nat) : ndiff s s = 0 := by unfold ndiff; rw [Nat.and_self, Nat.xor_self]
theorem sub_antisymm {s t : Nat} (h1 : subB s t = true) (h2 : ndiff t s = 0) : s = t := by
 apply Nat.eq_of_testBit_eq
 intro i
 rw [Bool.eq_iff_iff]
 exact ⟨fun h => subB_iff.1 h1 i h, fun h => ndiff_zero.1 h2 i h⟩
theorem st_split (p : List Int) (s t : Nat) : stB p true s t = (decide (s = t) || opB p s t) := by
 by_cases e : s = t
 ·subst e
  unfold stB
  rw [ndiff_self, frB_zero, show subB s s = true by unfold subB; rw [ndiff_self]; rfl]
  simp
 ·rw [decide_eq_false e, Bool.false_or]
  unfold stB opB
  cases h : subB s t with
  | false => rfl
  | true =>
   have : (ndiff t s == 0) = false := by rw [beq_eq_false_iff_ne]; exact fun h2 => e (sub_antisymm h h2)
   rw [this]; rfl
theorem op_irrefl (p : List Int) (s : Nat) : opB p s s = false := by unfold opB; rw [ndiff_self]; simp
theorem sum_split (p : List Int) (f : Nat → Nat) (t : Nat) : ∀ l : List Nat, l.Nodup → t ∈ l → sumL ((l.filter fun s => stB p true s t).map f) = f t + sumL ((l.filter fun s => opB p s t).map f)
 | [], _, h => by cases h
 | s :: l, hn, h => by
  obtain ⟨h1, h2⟩ := List.nodup_cons.1 hn
  rw [List.filter_cons, List.filter_cons, st_split]
  by_cases e : s = t
  ·subst e
   rw [decide_eq_true rfl, Bool.true_or, if_pos rfl, op_irrefl, if_neg (by simp), List.map_cons]
   have e2 : l.filter (fun x => stB p true x s) = l.filter fun x => opB p x s := List.filter_congr fun x hx => by
    rw [st_split, decide_eq_false (fun e => h1 (by rw [← e]; exact hx)), Bool.false_or]
   rw [e2]; rfl
  ·have ht : t ∈ l := by
    rcases List.mem_cons.1 h with h | h
    ·exact absurd h.symm e
    ·exact h
   rw [decide_eq_false e, Bool.false_or]
   have ih := sum_split p f t l h2 ht
   cases opB p s t with
   | false => rw [if_neg (by simp), if_neg (by simp)]; exact ih
   | true => rw [if_pos rfl, if_pos rfl, List.map_cons, List.map_cons]; simp only [sumL]; rw [ih]; omega
def upto (f : Nat → Nat) : Nat → Nat
 | 0 => 0
 | n + 1 => upto f n + f n
theorem upto_congr {f g : Nat → Nat} : ∀ n, (∀ i, i < n → f i = g i) → upto f n = upto g n
 | 0, _ => rfl
 | n + 1, h => by unfold upto; rw [upto_congr n (fun i hi => h i (by omega)), h n (by omega)]
theorem upto_add (f g : Nat → Nat) : ∀ n, upto (fun i => f i + g i) n = upto f n + upto g n
 | 0 => rfl
 | n + 1 => by unfold upto; rw [upto_add f g n]; omega
theorem upto_shift (f : Nat → Nat) : ∀ n, upto f (n + 1) = f 0 + upto (fun i => f (i + 1)) n
 | 0 => by simp [upto]
 | n + 1 => by
  have e : upto f (n + 1 + 1) = upto f (n + 1) + f (n + 1) := rfl
  rw [e, upto_shift f n]
  show _ = f 0 + (upto (fun i => f (i + 1)) n + f (n + 1))
  omega
theorem upto_sum {α : Type} (g : Nat → α → Nat) : ∀ (l : List α) (n : Nat), sumL (l.map fun s => upto (fun j => g j s) n) = upto (fun j => sumL (l.map (g j))) n
 | [], n => by
  induction n with
  | zero => rfl
  | succ n ih => unfold upto; rw [← ih]; rfl
 | s :: l, n => by
  simp only [List.map_cons, sumL]
  rw [upto_sum g l n, ← upto_add]
theorem sumL_mul (c : Nat) {α : Type} (f : α → Nat) : ∀ l : List α, sumL (l.map fun s => c * f s) = c * sumL (l.map f)
 | [] => rfl
 | x :: l => by simp only [List.map_cons, sumL]; rw [sumL_mul c f l, Nat.mul_add]
theorem upto_zero (f : Nat → Nat) : ∀ (n m : Nat), n ≤ m → (∀ i, n ≤ i → i < m → f i = 0) → upto f m = upto f n
 | n, 0, h, _ => by rw [show n = 0 by omega]
 | n, m + 1, h, h0 => by
  rcases Nat.lt_or_ge m n with h1 | h1
  ·rw [show n = m + 1 by omega]
  ·show upto f m + f m = upto f n
   rw [upto_zero f n m h1 (fun i a b => h0 i a (by omega)), h0 m h1 (by omega), Nat.add_zero]
theorem strict_steps (p : List Int) : ∀ (k N : Nat), k + 1 ≤ N → ∀ t ∈ idealsN p, wvN (stB p true) (idealsN p) k t = upto (fun j => bin k j * wvN (opB p) (idealsN p) j t) N
 | 0, N, h, t, ht => by
  rw [upto_zero _ 1 N h (fun i h1 _ => by rw [bin_big 0 i (by omega), Nat.zero_mul])]
  show _ = 0 + bin 0 0 * wvN (opB p) (idealsN p) 0 t
  rw [bin_zero, Nat.one_mul, Nat.zero_add]
  unfold wvN; rfl
 | k + 1, N, h, t, ht => by
  conv => lhs; unfold wvN
  rw [sum_split p _ t _ (idealsN_nodup p) ht]
  obtain ⟨M, rfl⟩ : ∃ M, N = M + 1 := ⟨N - 1, by omega⟩
  have e1 : sumL (((idealsN p).filter fun s => opB p s t).map (wvN (stB p true) (idealsN p) k)) = upto (fun j => bin k j * wvN (opB p) (idealsN p) (j + 1) t) M := by
   have e2 : ((idealsN p).filter fun s => opB p s t).map (wvN (stB p true) (idealsN p) k) = ((idealsN p).filter fun s => opB p s t).map fun s => upto (fun j => bin k j * wvN (opB p) (idealsN p) j s) M :=
    List.map_congr_left fun s hs => strict_steps p k M (by omega) s (List.mem_filter.1 hs).1
   rw [e2, upto_sum]
   refine upto_congr M fun j _ => ?_
   rw [sumL_mul]
   conv => rhs; unfold wvN
  rw [e1, strict_steps p k (M + 1) (by omega) t ht, upto_shift, upto_shift]
  have e3 : upto (fun i => bin (k + 1) (i + 1) * wvN (opB p) (idealsN p) (i + 1) t) M = upto (fun i => bin k (i + 1) * wvN (opB p) (idealsN p) (i + 1) t) M + upto (fun i => bin k i * wvN (opB p) (idealsN p) (i + 1) t) M := by
   rw [← upto_add]
   refine upto_congr M fun i _ => ?_
   show (bin k i + bin k (i + 1)) * _ = _
   rw [Nat.add_mul]; omega
  rw [e3, bin_zero, bin_zero]
  omega
theorem pcard_lt {p : List Int} {s t : Nat} (ht : t < 2 ^ p.length) (h : opB p s t = true) : pcard p.length s < pcard p.length t := by
 have hs := opB_sub h
 unfold opB at h
 simp only [Bool.and_eq_true, Bool.not_eq_true', beq_eq_false_iff_ne] at h
 obtain ⟨i, hi⟩ : ∃ i, (ndiff t s).testBit i = true := by
  rcases Classical.em (∃ i, (ndiff t s).testBit i = true) with h1 | h1
  ·exact h1
  ·refine absurd (Nat.eq_of_testBit_eq fun i => ?_) h.2.1
   rw [Nat.zero_testBit]
   cases hb : (ndiff t s).testBit i with
   | false => rfl
   | true => exact absurd ⟨i, hb⟩ h1
 rw [ndiff_bit, Bool.and_eq_true, Bool.not_eq_true'] at hi
 unfold pcard
 exact countP_lt _ _ _ (fun x _ hx => subB_iff.1 hs x hx) i (List.mem_range.2 (lt_of_bit ht hi.1)) hi.1 hi.2
theorem op_short {p : List Int} : ∀ j t, t < 2 ^ p.length → pcard p.length t < j → wvN (opB p) (idealsN p) j t = 0
 | 0, _, _, h => absurd h (Nat.not_lt_zero _)
 | j + 1, t, ht, h => by
  unfold wvN
  have : ∀ l : List Nat, (∀ s ∈ l, wvN (opB p) (idealsN p) j s = 0) → sumL (l.map (wvN (opB p) (idealsN p) j)) = 0 := by
   intro l
   induction l with
   | nil => intro _; rfl
   | cons x l ih => intro hl; simp only [List.map_cons, sumL]; rw [hl x List.mem_cons_self, ih (fun s hs => hl s (List.mem_cons_of_mem _ hs))]
  refine this _ fun s hs => ?_
  obtain ⟨h1, h2⟩ := List.mem_filter.1 hs
  exact op_short j s (mem_idealsN.1 h1).1 (by have := pcard_lt ht h2; omega)
theorem strict_all {p : List Int} (hp : PO p) (k : Nat) : wvN (stB p true) (idealsN p) k (allN p) = upto (fun j => bin k (j + 1) * wvN (opB p) (idealsN p) (j + 1) (allN p)) p.length := by
 have hall : allN p ∈ idealsN p := mem_idealsN.2 ⟨allN_lt p, idealB_all p hp⟩
 rw [strict_steps p k (k + p.length + 2) (by omega) _ hall]
 rw [show k + p.length + 2 = (k + p.length + 1) + 1 by omega, upto_shift]
 have h0 : wvN (opB p) (idealsN p) 0 (allN p) = 0 := by
  unfold wvN
  rw [if_neg]
  unfold allN
  have : 2 ^ 1 ≤ 2 ^ p.length := Nat.pow_le_pow_right (by decide) hp.pos
  omega
 rw [h0, Nat.mul_zero, Nat.zero_add]
 exact upto_zero _ p.length _ (by omega) (fun i h1 _ => by rw [op_short (i + 1) _ (allN_lt p) (by rw [pcard_all]; omega), Nat.mul_zero])
def outN (p : List Int) (t : Nat) : Nat := p.length - pcard p.length t
theorem outN_le (p : List Int) (t : Nat) : outN p t ≤ p.length := Nat.sub_le _ _
def wsN (p : List Int) : Nat → Nat → Nat → Nat
 | 0, s, j => if s = 0 ∧ j = 0 then 1 else 0
 | q + 1, t, j => if outN p t ≤ j then sumL (((idealsN p).filter fun s => subB s t).map fun s => wsN p q s (j - outN p t)) else 0
theorem wsN_le (p : List Int) : ∀ q s j, wsN p q s j ≤ wvN (stB p false) (idealsN p) q s
 | 0, s, j => by
  unfold wsN wvN
  by_cases h : s = 0
  ·rw [if_pos h]; split <;> omega
  ·rw [if_neg (fun h2 => h h2.1), if_neg h]; exact Nat.le_refl _
 | q + 1, t, j => by
  unfold wsN wvN
  split
  ·have e : (idealsN p).filter (fun s => stB p false s t) = (idealsN p).filter fun s => subB s t := List.filter_congr fun s _ => by unfold stB; simp
   rw [e]
   exact sumL_map_le _ _ _ fun s _ => wsN_le p q s _
  ·exact Nat.zero_le _
theorem sumL_none {α : Type} (f : α → Nat) : ∀ l : List α, (∀ x ∈ l, f x = 0) → sumL (l.map f) = 0
 | [], _ => rfl
 | x :: l, h => by simp only [List.map_cons, sumL]; rw [h x List.mem_cons_self, sumL_none f l (fun y hy => h y (List.mem_cons_of_mem _ hy))]
theorem wsN_zero (p : List Int) : ∀ q s j, p.length * q < j → wsN p q s j = 0
 | 0, s, j, h => by
  unfold wsN
  rw [if_neg (fun h2 => by omega)]
 | q + 1, t, j, h => by
  unfold wsN
  split
  ·refine sumL_none _ _ fun s _ => wsN_zero p q s _ ?_
   have := outN_le p t
   rw [Nat.mul_succ] at h
   omega
  ·rfl
def wT (p : List Int) (m j : Nat) : Nat := sumL ((idealsN p).map fun s => wsN p m s j)
theorem wT_le (p : List Int) (m j : Nat) : wT p m j ≤ sumL ((idealsN p).map fun s => wvN (stB p false) (idealsN p) m s) := sumL_map_le _ _ _ fun s _ => wsN_le p m s j
theorem wT_total (p : List Int) (m : Nat) : sumL ((idealsN p).map fun s => wvN (stB p false) (idealsN p) m s) = wvN (stB p false) (idealsN p) (m + 1) (allN p) := by
 conv => rhs; unfold wvN
 have e : (idealsN p).filter (fun s => stB p false s (allN p)) = idealsN p := List.filter_eq_self.2 fun s hs => by unfold stB; rw [sub_all (mem_idealsN.1 hs).1]; rfl
 rw [e]
theorem wT_small {p : List Int} (hp : p.length ≤ 10) {m : Nat} (hm : m ≤ 13) (j : Nat) : wT p m j ≤ 576650390625 :=
 Nat.le_trans (wT_le p m j) (by rw [wT_total]; exact wvN_small hp (fun s t h => stB_sub h) (by omega))
theorem upto_split (g : Nat → Nat) (i : Nat) : ∀ r, upto g (i + r) = upto g i + upto (fun j => g (i + j)) r
 | 0 => by simp [upto]
 | r + 1 => by
  show upto g (i + r) + g (i + r) = _
  rw [upto_split g i r]
  show _ = upto g i + (upto (fun j => g (i + j)) r + g (i + r))
  omega
theorem upto_mul (c : Nat) (g : Nat → Nat) : ∀ n, upto (fun j => c * g j) n = c * upto g n
 | 0 => rfl
 | n + 1 => by
  show upto (fun j => c * g j) n + c * g n = c * (upto g n + g n)
  rw [upto_mul c g n, Nat.mul_add]
theorem digits_lt {B : Nat} (f : Nat → Nat) (hB : ∀ j, f j < B) : ∀ n, upto (fun j => f j * B ^ j) n < B ^ n
 | 0 => by simp [upto]
 | n + 1 => by
  have ih := digits_lt f hB n
  have h := hB n
  show upto (fun j => f j * B ^ j) n + f n * B ^ n < B ^ (n + 1)
  have h2 : (f n + 1) * B ^ n ≤ B * B ^ n := Nat.mul_le_mul_right _ h
  rw [Nat.add_mul, Nat.one_mul] at h2
  rw [Nat.pow_succ, Nat.mul_comm (B ^ n) B]
  omega
theorem digit {B : Nat} (f : Nat → Nat) (hB : ∀ j, f j < B) {n i : Nat} (hi : i < n) : (upto (fun j => f j * B ^ j) n / B ^ i) % B = f i := by
 obtain ⟨r, rfl⟩ : ∃ r, n = i + (r + 1) := ⟨n - i - 1, by omega⟩
 have hB0 : 0 < B := Nat.lt_of_le_of_lt (Nat.zero_le _) (hB 0)
 have hlow := digits_lt f hB i
 have e : upto (fun j => f j * B ^ j) (i + (r + 1)) = upto (fun j => f j * B ^ j) i + B ^ i * (f i + B * upto (fun j => f (i + (j + 1)) * B ^ j) r) := by
  rw [upto_split]
  congr 1
  have e1 : upto (fun j => f (i + j) * B ^ (i + j)) (r + 1) = upto (fun j => B ^ i * (f (i + j) * B ^ j)) (r + 1) := upto_congr _ fun j _ => by rw [Nat.pow_add, Nat.mul_left_comm]
  rw [e1, upto_mul, upto_shift]
  congr 1
  have e2 : upto (fun j => f (i + (j + 1)) * B ^ (j + 1)) r = upto (fun j => B * (f (i + (j + 1)) * B ^ j)) r := upto_congr _ fun j _ => by rw [Nat.pow_succ, Nat.mul_comm (B ^ j) B, Nat.mul_left_comm]
  rw [e2, upto_mul, Nat.pow_zero, Nat.mul_one]
  rfl
 rw [e, Nat.add_mul_div_left _ _ (Nat.pow_pos hB0), Nat.div_eq_of_lt hlow, Nat.zero_add, Nat.add_mul_mod_self_left, Nat.mod_eq_of_lt (hB i)]
def B40 : Nat := 1099511627776
def kN (p : List Int) (q s : Nat) : Nat := upto (fun j => wsN p q s j * B40 ^ j) (p.length * q + 1)
def kstep (p : List Int) (ids vals : List Nat) : List Nat := ids.map fun t => B40 ^ outN p t * sumL (((ids.zip vals).filter fun x => subB x.1 t).map fun x => x.2)
theorem kN_more (p : List Int) (q s N : Nat) (h : p.length * q + 1 ≤ N) : upto (fun j => wsN p q s j * B40 ^ j) N = kN p q s :=
 upto_zero _ _ _ h fun i h1 _ => by rw [wsN_zero p q s i (by omega), Nat.zero_mul]
theorem kN_step (p : List Int) (q t : Nat) : kN p (q + 1) t = B40 ^ outN p t * sumL (((idealsN p).filter fun s => subB s t).map (kN p q)) := by
 have ho := outN_le p t
 have e0 : p.length * (q + 1) + 1 = outN p t + (p.length * q + 1 + (p.length - outN p t)) := by rw [Nat.mul_succ]; omega
 conv => lhs; unfold kN
 rw [e0, upto_split]
 have z : upto (fun j => wsN p (q + 1) t j * B40 ^ j) (outN p t) = upto (fun j => wsN p (q + 1) t j * B40 ^ j) 0 := upto_zero _ _ _ (Nat.zero_le _) fun i _ h => by
  have : wsN p (q + 1) t i = 0 := by unfold wsN; rw [if_neg (by omega)]
  rw [this, Nat.zero_mul]
 rw [z]
 show 0 + _ = _
 rw [Nat.zero_add]
 have e1 : upto (fun j => wsN p (q + 1) t (outN p t + j) * B40 ^ (outN p t + j)) (p.length * q + 1 + (p.length - outN p t)) = upto (fun j => B40 ^ outN p t * sumL (((idealsN p).filter fun s => subB s t).map fun s => wsN p q s j * B40 ^ j)) (p.length * q + 1 + (p.length - outN p t)) := by
  refine upto_congr _ fun j _ => ?_
  have e2 : wsN p (q + 1) t (outN p t + j) = sumL (((idealsN p).filter fun s => subB s t).map fun s => wsN p q s j) := by
   conv => lhs; unfold wsN
   rw [if_pos (by omega), Nat.add_sub_cancel_left]
  have e3 : ((idealsN p).filter fun s => subB s t).map (fun s => wsN p q s j * B40 ^ j) = ((idealsN p).filter fun s => subB s t).map fun s => B40 ^ j * wsN p q s j := List.map_congr_left fun s _ => Nat.mul_comm _ _
  rw [e2, e3, sumL_mul, Nat.pow_add, Nat.mul_comm, Nat.mul_assoc]
 rw [e1, upto_mul, ← upto_sum]
 congr 2
 exact List.map_congr_left fun s _ => kN_more p q s _ (by omega)
theorem zip_self {α β : Type} (f : α → β) : ∀ l : List α, l.zip (l.map f) = l.map fun x => (x, f x)
 | [] => rfl
 | x :: l => by rw [List.map_cons, List.zip_cons_cons, zip_self f l, List.map_cons]
theorem kstep_eq (p : List Int) (q : Nat) : kstep p (idealsN p) ((idealsN p).map (kN p q)) = (idealsN p).map (kN p (q + 1)) := by
 unfold kstep
 refine List.map_congr_left fun t _ => ?_
 rw [zip_self, List.filter_map, List.map_map, kN_step]
 rfl
theorem kN_first (p : List Int) : (idealsN p).map (kN p 0) = (idealsN p).map fun s => if s = 0 then 1 else 0 := List.map_congr_left fun s _ => by
 unfold kN
 rw [Nat.mul_zero]
 show 0 + wsN p 0 s 0 * B40 ^ 0 = _
 unfold wsN
 by_cases h : s = 0
 ·rw [if_pos ⟨h, rfl⟩, if_pos h]; rfl
 ·rw [if_neg (fun h2 => h h2.1), if_neg h]; rfl
theorem kN_total (p : List Int) (m : Nat) : sumL ((idealsN p).map (kN p m)) = upto (fun j => wT p m j * B40 ^ j) (p.length * m + 1) := by
 unfold kN
 rw [upto_sum]
 refine upto_congr _ fun j _ => ?_
 have e3 : (idealsN p).map (fun s => wsN p m s j * B40 ^ j) = (idealsN p).map fun s => B40 ^ j * wsN p m s j := List.map_congr_left fun s _ => Nat.mul_comm _ _
 rw [e3, sumL_mul, Nat.mul_comm]
 rfl
def kDigits (K N : Nat) : List Nat := (List.range N).map fun i => (K / B40 ^ i) % B40
theorem kDigits_eq {p : List Int} (hp : p.length ≤ 10) {m : Nat} (hm : m ≤ 12) : kDigits (sumL ((idealsN p).map (kN p m))) (p.length * m + 1) = (List.range (p.length * m + 1)).map (wT p m) := by
 unfold kDigits
 rw [kN_total]
 refine List.map_congr_left fun i hi => ?_
 exact digit (wT p m) (fun j => Nat.lt_of_le_of_lt (wT_small hp (by omega) j) (by decide)) (List.mem_range.1 hi)
structure LabN (p : List Int) (m : Nat) (f : List Nat) : Prop where
 len : f.length = p.length
 le : ∀ i, i < p.length → f.getD i 0 ≤ m
 up : ∀ i, i < p.length → ∀ j, (L p i).testBit j = true → f.getD j 0 ≤ f.getD i 0
theorem ext_nat {a b : List Nat} (hl : a.length = b.length) (h : ∀ i, i < a.length → a.getD i 0 = b.getD i 0) : a = b := by
 apply List.ext_getElem hl
 intro i h1 h2
 have := h i h1
 rw [List.getD_eq_getElem?_getD, List.getD_eq_getElem?_getD, List.getElem?_eq_getElem h1, List.getElem?_eq_getElem h2] at this
 exact this
theorem getD_tab (n : Nat) (g : Nat → Nat) {i : Nat} (h : i < n) : ((List.range n).map g).getD i 0 = g i := by
 rw [List.getD_eq_getElem?_getD, List.getElem?_map, List.getElem?_range h]; rfl
theorem getD_snoc (f : List Nat) (x i : Nat) : (f ++ [x]).getD i 0 = if i = f.length then x else f.getD i 0 := by
 rw [List.getD_eq_getElem?_getD, List.getD_eq_getElem?_getD]
 rcases Nat.lt_trichotomy i f.length with h | h | h
 ·rw [List.getElem?_append_left h, if_neg (by omega)]
 ·subst h; rw [List.getElem?_append_right (Nat.le_refl _), Nat.sub_self, if_pos rfl]; rfl
 ·rw [List.getElem?_append_right (by omega), if_neg (by omega), List.getElem?_eq_none (by simp; omega), List.getElem?_eq_none (by omega)]
theorem getD_take (f : List Nat) {k i : Nat} (h : i < k) : (f.take k).getD i 0 = f.getD i 0 := by
 rw [List.getD_eq_getElem?_getD, List.getD_eq_getElem?_getD, List.getElem?_take, if_pos h]
def leastN (p : List Int) (f : List Nat) (k : Nat) : Nat := (List.range k).foldl (fun a j => if (L p f.length).testBit j then max a (f.getD j 0) else a) 0
theorem leastN_le (p : List Int) (f : List Nat) (x : Nat) : ∀ k, leastN p f k ≤ x ↔ ∀ j, j < k → (L p f.length).testBit j = true → f.getD j 0 ≤ x
 | 0 => by simp [leastN]
 | k + 1 => by
  have ih := leastN_le p f x k
  have e : leastN p f (k + 1) = if (L p f.length).testBit k then max (leastN p f k) (f.getD k 0) else leastN p f k := by
   unfold leastN; rw [List.range_succ, List.foldl_append]; rfl
  rw [e]
  constructor
  ·intro h j hj hb
   rcases Nat.lt_or_ge j k with h1 | h1
   ·refine ih.1 ?_ j h1 hb
    split at h <;> omega
   ·have hjk : j = k := by omega
    subst hjk
    rw [if_pos hb] at h; omega
  ·intro h
   have h1 := ih.2 (fun j hj hb => h j (by omega) hb)
   split
   ·rename_i hb
    have := h k (by omega) hb
    omega
   ·exact h1
def laN (p : List Int) (m : Nat) : Nat → List Nat → List (List Nat)
 | 0, f => [f]
 | d + 1, f => (List.range' (leastN p f f.length) (m + 1 - leastN p f f.length)).flatMap fun x => laN p m d (f ++ [x])
theorem mem_range'' {a n x : Nat} : x ∈ List.range' a n ↔ a ≤ x ∧ x < a + n := by
 rw [List.mem_range'_1]
theorem mem_laN {p : List Int} (hp : PO p) (m : Nat) : ∀ d f, f.length + d = p.length → ∀ g, g ∈ laN p m d f ↔ g.length = p.length ∧ g.take f.length = f ∧ ∀ i, f.length ≤ i → i < p.length → g.getD i 0 ≤ m ∧ ∀ j, (L p i).testBit j = true → g.getD j 0 ≤ g.getD i 0 := by
 intro d
 induction d with
 | zero =>
  intro f hf g
  unfold laN
  rw [List.mem_singleton]
  constructor
  ·rintro rfl
   exact ⟨by omega, List.take_length, fun i h1 h2 => by omega⟩
  ·rintro ⟨h1, h2, _⟩
   rw [List.take_of_length_le (by omega)] at h2
   exact h2
 | succ d ih =>
  intro f hf g
  unfold laN
  rw [List.mem_flatMap]
  constructor
  ·rintro ⟨x, hx, hg⟩
   rw [mem_range''] at hx
   obtain ⟨h1, h2, h3⟩ := (ih (f ++ [x]) (by rw [List.length_append, List.length_singleton]; omega) g).1 hg
   rw [List.length_append, List.length_singleton] at h2 h3
   have hget : ∀ j, j < f.length + 1 → g.getD j 0 = (f ++ [x]).getD j 0 := fun j hj => by rw [← h2, getD_take _ hj]
   refine ⟨h1, ?_, fun i hi1 hi2 => ?_⟩
   ·have : (g.take (f.length + 1)).take f.length = f := by rw [h2, List.take_left' rfl]
    rwa [List.take_take, Nat.min_eq_left (by omega)] at this
   ·rcases Nat.lt_or_ge f.length i with h4 | h4
    ·exact h3 i (by omega) hi2
    ·have hi : i = f.length := by omega
     subst hi
     have hgi : g.getD f.length 0 = x := by rw [hget _ (by omega), getD_snoc, if_pos rfl]
     rw [hgi]
     refine ⟨by omega, fun j hb => ?_⟩
     have hj := lt_of_bit (hp.lt f.length hi2) hb
     rw [hget j (by omega), getD_snoc, if_neg (by omega)]
     exact (leastN_le p f x f.length).1 hx.1 j hj hb
  ·rintro ⟨h1, h2, h3⟩
   have hget : ∀ j, j < f.length → g.getD j 0 = f.getD j 0 := fun j hj => by rw [← getD_take g hj, h2]
   obtain ⟨h4, h5⟩ := h3 f.length (Nat.le_refl _) (by omega)
   have h6 : leastN p f f.length ≤ g.getD f.length 0 := (leastN_le p f _ f.length).2 fun j hj hb => by rw [← hget j hj]; exact h5 j hb
   refine ⟨g.getD f.length 0, mem_range''.2 ⟨h6, by omega⟩, ?_⟩
   refine (ih (f ++ [g.getD f.length 0]) (by rw [List.length_append, List.length_singleton]; omega) g).2 ⟨h1, ?_, fun i hi1 hi2 => ?_⟩
   ·rw [List.length_append, List.length_singleton, List.take_add_one, h2, List.getD_eq_getElem?_getD, List.getElem?_eq_getElem (by omega)]
    rfl
   ·rw [List.length_append, List.length_singleton] at hi1
    exact h3 i (by omega) hi2
theorem nodup_laN {p : List Int} (hp : PO p) (m : Nat) : ∀ d f, f.length + d = p.length → (laN p m d f).Nodup := by
 intro d
 induction d with
 | zero => intro f _; unfold laN; exact List.nodup_cons.2 ⟨by simp, List.nodup_nil⟩
 | succ d ih =>
  intro f hf
  unfold laN
  refine List.pairwise_flatMap.2 ⟨fun x _ => ih _ (by rw [List.length_append, List.length_singleton]; omega), ?_⟩
  refine List.Pairwise.imp ?_ (List.nodup_range' (s := leastN p f f.length) (n := m + 1 - leastN p f f.length))
  intro a b hab x hx y hy hxy
  subst hxy
  have e1 := ((mem_laN hp m d (f ++ [a]) (by rw [List.length_append, List.length_singleton]; omega) x).1 hx).2.1
  have e2 := ((mem_laN hp m d (f ++ [b]) (by rw [List.length_append, List.length_singleton]; omega) x).1 hy).2.1
  rw [List.length_append, List.length_singleton] at e1 e2
  rw [e1] at e2
  have := List.append_cancel_left e2
  exact hab (List.cons.inj this).1
def addOut (p : List Int) (t : Nat) (g : List Nat) : List Nat := (List.range p.length).map fun i => g.getD i 0 + if t.testBit i then 0 else 1
theorem addOut_len (p : List Int) (t : Nat) (g : List Nat) : (addOut p t g).length = p.length := by simp [addOut]
theorem addOut_get (p : List Int) (t : Nat) (g : List Nat) {i : Nat} (h : i < p.length) : (addOut p t g).getD i 0 = g.getD i 0 + if t.testBit i then 0 else 1 := getD_tab _ _ h
theorem addOut_inj {p : List Int} {t : Nat} {g g' : List Nat} (h1 : g.length = p.length) (h2 : g'.length = p.length) (h : addOut p t g = addOut p t g') : g = g' := by
 refine ext_nat (by omega) (fun i hi => ?_)
 have e1 := addOut_get p t g (i := i) (by omega)
 have e2 := addOut_get p t g' (i := i) (by omega)
 rw [h, e2] at e1
 omega
def labL (p : List Int) : Nat → Nat → List (List Nat)
 | 0, t => if t = 0 then [List.replicate p.length 0] else []
 | q + 1, t => ((idealsN p).filter fun s => subB s t).flatMap fun s => (labL p q s).map (addOut p t)
theorem rep_get (n i : Nat) : (List.replicate n 0).getD i 0 = 0 := by
 rw [List.getD_eq_getElem?_getD, List.getElem?_replicate]; split <;> rfl
theorem mem_labL {p : List Int} (hp : PO p) : ∀ q t, t ∈ idealsN p → ∀ f, f ∈ labL p q t ↔ LabN p q f ∧ ∀ i, i < p.length → t.testBit i = decide (f.getD i 0 < q) := by
 intro q
 induction q with
 | zero =>
  intro t ht f
  have htl := (mem_idealsN.1 ht).1
  unfold labL
  constructor
  ·intro h
   by_cases h0 : t = 0
   ·rw [if_pos h0, List.mem_singleton] at h
    subst h
    refine ⟨⟨by simp, fun i _ => by rw [rep_get]; exact Nat.le_refl _, fun i _ j _ => by rw [rep_get, rep_get]; exact Nat.le_refl _⟩, fun i _ => ?_⟩
    rw [h0, rep_get, Nat.zero_testBit]; rfl
   ·rw [if_neg h0] at h; cases h
  ·rintro ⟨hf, hb⟩
   have h0 : t = 0 := ext_bits htl (Nat.two_pow_pos _) fun i hi => by rw [hb i hi, Nat.zero_testBit]; simp
   rw [if_pos h0, List.mem_singleton]
   refine ext_nat (by rw [hf.len]; simp) fun i hi => ?_
   have := hf.le i (by have := hf.len; omega)
   rw [rep_get]; omega
 | succ q ih =>
  intro t ht f
  obtain ⟨htl, hti⟩ := mem_idealsN.1 ht
  unfold labL
  rw [List.mem_flatMap]
  constructor
  ·rintro ⟨s, hs, hf⟩
   obtain ⟨hs1, hs2⟩ := List.mem_filter.1 hs
   obtain ⟨g, hg, rfl⟩ := List.mem_map.1 hf
   obtain ⟨hg1, hg2⟩ := (ih s hs1 g).1 hg
   have hst := subB_iff.1 hs2
   have hv : ∀ i, i < p.length → t.testBit i = false → g.getD i 0 = q := fun i hi hb => by
    have h1 := hg1.le i hi
    have h2 := hg2 i hi
    cases h3 : s.testBit i with
    | true => rw [hst i h3] at hb; cases hb
    | false => rw [h3] at h2; have := of_decide_eq_false h2.symm; omega
   refine ⟨⟨addOut_len _ _ _, fun i hi => ?_, fun i hi j hb => ?_⟩, fun i hi => ?_⟩
   ·rw [addOut_get _ _ _ hi]
    have := hg1.le i hi
    split <;> omega
   ·have hj : j < p.length := Nat.lt_trans (lt_of_bit (hp.lt i hi) hb) hi
    rw [addOut_get _ _ _ hi, addOut_get _ _ _ hj]
    have h1 := hg1.up i hi j hb
    cases h2 : t.testBit i with
    | true =>
     rw [idealB_iff.1 hti i hi h2 j hb]
     exact Nat.add_le_add_right h1 _
    | false =>
     have h3 := hv i hi h2
     have h4 := hg1.le j hj
     show g.getD j 0 + (if t.testBit j = true then 0 else 1) ≤ g.getD i 0 + 1
     split <;> omega
   ·rw [addOut_get _ _ _ hi]
    cases h2 : t.testBit i with
    | true => have := hg1.le i hi; rw [if_pos rfl]; exact (decide_eq_true (by omega)).symm
    | false => have := hv i hi h2; rw [if_neg (by simp)]; exact (decide_eq_false (by omega)).symm
  ·rintro ⟨hf, hb⟩
   obtain ⟨s, hs⟩ : ∃ s, s = maskOf p.length (fun i => decide (f.getD i 0 < q)) := ⟨_, rfl⟩
   have hsl : s < 2 ^ p.length := by rw [hs]; exact maskOf_lt _ _
   have hsb : ∀ i, s.testBit i = (decide (i < p.length) && decide (f.getD i 0 < q)) := fun i => by rw [hs, maskOf_bit]
   have hsi : idealB p s = true := idealB_iff.2 fun i hi h j hj => by
    rw [hsb, Bool.and_eq_true, decide_eq_true_eq, decide_eq_true_eq] at h ⊢
    have := hf.up i hi j hj
    exact ⟨Nat.lt_trans (lt_of_bit (hp.lt i hi) hj) hi, by omega⟩
   have hst : subB s t = true := subB_iff.2 fun i h => by
    rw [hsb, Bool.and_eq_true, decide_eq_true_eq, decide_eq_true_eq] at h
    rw [hb i h.1]; exact decide_eq_true (by omega)
   have hs1 : s ∈ idealsN p := mem_idealsN.2 ⟨hsl, hsi⟩
   obtain ⟨g, hg⟩ : ∃ g, g = (List.range p.length).map (fun i => min (f.getD i 0) q) := ⟨_, rfl⟩
   have hgg : ∀ i, i < p.length → g.getD i 0 = min (f.getD i 0) q := fun i hi => by rw [hg, getD_tab _ _ hi]
   refine ⟨s, List.mem_filter.2 ⟨hs1, hst⟩, List.mem_map.2 ⟨g, (ih s hs1 g).2 ⟨⟨by rw [hg]; simp, fun i hi => by rw [hgg i hi]; omega, fun i hi j hj => ?_⟩, fun i hi => ?_⟩, ?_⟩⟩
   ·rw [hgg i hi, hgg j (Nat.lt_trans (lt_of_bit (hp.lt i hi) hj) hi)]
    have := hf.up i hi j hj
    omega
   ·rw [hsb, hgg i hi, decide_eq_true hi, Bool.true_and]
    by_cases h : f.getD i 0 < q
    ·rw [decide_eq_true h, decide_eq_true (by omega)]
    ·rw [decide_eq_false h, decide_eq_false (by omega)]
   ·refine ext_nat (by rw [addOut_len, hf.len]) fun i hi => ?_
    rw [addOut_len] at hi
    rw [addOut_get _ _ _ hi, hgg i hi, hb i hi]
    have := hf.le i hi
    by_cases h : f.getD i 0 < q + 1
    ·rw [decide_eq_true h, if_pos rfl]; omega
    ·rw [decide_eq_false h, if_neg (by simp)]; omega
theorem nodup_of_ids {p : List Int} {P : Nat → Bool} : ((idealsN p).filter P).Nodup := List.Pairwise.filter _ (idealsN_nodup p)
theorem nodup_map_inj {α β : Type} {f : α → β} {l : List α} (hl : l.Nodup) (h : ∀ a ∈ l, ∀ b ∈ l, f a = f b → a = b) : (l.map f).Nodup := by
 refine List.pairwise_map.2 (List.Pairwise.imp_of_mem ?_ hl)
 intro a b ha hb hab e
 exact hab (h a ha b hb e)
theorem bits_eq_of {p : List Int} {s s' : Nat} (h1 : s < 2 ^ p.length) (h2 : s' < 2 ^ p.length) {q : Nat} {g : List Nat} (e1 : ∀ i, i < p.length → s.testBit i = decide (g.getD i 0 < q)) (e2 : ∀ i, i < p.length → s'.testBit i = decide (g.getD i 0 < q)) : s = s' :=
 ext_bits h1 h2 fun i hi => by rw [e1 i hi, e2 i hi]
theorem nodup_labL {p : List Int} (hp : PO p) : ∀ q t, t ∈ idealsN p → (labL p q t).Nodup := by
 intro q
 induction q with
 | zero => intro t _; unfold labL; split; exact List.nodup_cons.2 ⟨by simp, List.nodup_nil⟩; exact List.nodup_nil
 | succ q ih =>
  intro t ht
  unfold labL
  refine List.pairwise_flatMap.2 ⟨fun s hs => ?_, ?_⟩
  ·have hs1 := (List.mem_filter.1 hs).1
   exact nodup_map_inj (ih s hs1) fun a ha b hb e => addOut_inj ((mem_labL hp q s hs1 a).1 ha).1.len ((mem_labL hp q s hs1 b).1 hb).1.len e
  ·refine List.Pairwise.imp_of_mem ?_ (nodup_of_ids (p := p) (P := fun s => subB s t))
   intro s s' hs hs' hne x hx y hy hxy
   subst hxy
   have hs1 := (List.mem_filter.1 hs).1
   have hs2 := (List.mem_filter.1 hs').1
   obtain ⟨g, hg, e1⟩ := List.mem_map.1 hx
   obtain ⟨g', hg', e2⟩ := List.mem_map.1 hy
   have k1 := (mem_labL hp q s hs1 g).1 hg
   have k2 := (mem_labL hp q s' hs2 g').1 hg'
   have := addOut_inj k1.1.len k2.1.len (e1.trans e2.symm)
   subst this
   exact hne (bits_eq_of (mem_idealsN.1 hs1).1 (mem_idealsN.1 hs2).1 k1.2 k2.2)
def chL (p : List Int) (m : Nat) : List (List Nat) := (idealsN p).flatMap (labL p m)
theorem mem_chL {p : List Int} (hp : PO p) (m : Nat) (f : List Nat) : f ∈ chL p m ↔ LabN p m f := by
 unfold chL
 rw [List.mem_flatMap]
 constructor
 ·rintro ⟨s, hs, hf⟩; exact ((mem_labL hp m s hs f).1 hf).1
 ·intro hf
  obtain ⟨s, hs⟩ : ∃ s, s = maskOf p.length (fun i => decide (f.getD i 0 < m)) := ⟨_, rfl⟩
  have hsb : ∀ i, s.testBit i = (decide (i < p.length) && decide (f.getD i 0 < m)) := fun i => by rw [hs, maskOf_bit]
  have hs1 : s ∈ idealsN p := mem_idealsN.2 ⟨by rw [hs]; exact maskOf_lt _ _, idealB_iff.2 fun i hi h j hj => by
   rw [hsb, Bool.and_eq_true, decide_eq_true_eq, decide_eq_true_eq] at h ⊢
   have := hf.up i hi j hj
   exact ⟨Nat.lt_trans (lt_of_bit (hp.lt i hi) hj) hi, by omega⟩⟩
  exact ⟨s, hs1, (mem_labL hp m s hs1 f).2 ⟨hf, fun i hi => by rw [hsb, decide_eq_true hi, Bool.true_and]⟩⟩
theorem nodup_chL {p : List Int} (hp : PO p) (m : Nat) : (chL p m).Nodup := by
 unfold chL
 refine List.pairwise_flatMap.2 ⟨fun s hs => nodup_labL hp m s hs, ?_⟩
 refine List.Pairwise.imp_of_mem ?_ (idealsN_nodup p)
 intro s s' hs hs' hne x hx y hy hxy
 subst hxy
 exact hne (bits_eq_of (mem_idealsN.1 hs).1 (mem_idealsN.1 hs').1 ((mem_labL hp m s hs x).1 hx).2 ((mem_labL hp m s' hs' x).1 hy).2)
def labsN (p : List Int) (m : Nat) : List (List Nat) := laN p m p.length []
theorem mem_labsN {p : List Int} (hp : PO p) (m : Nat) (f : List Nat) : f ∈ labsN p m ↔ LabN p m f := by
 unfold labsN
 rw [mem_laN hp m p.length [] (by simp) f]
 constructor
 ·rintro ⟨h1, _, h3⟩; exact ⟨h1, fun i hi => (h3 i (Nat.zero_le _) hi).1, fun i hi => (h3 i (Nat.zero_le _) hi).2⟩
 ·intro h; exact ⟨h.len, rfl, fun i _ hi => ⟨h.le i hi, h.up i hi⟩⟩
theorem labs_perm {p : List Int} (hp : PO p) (m : Nat) : List.Perm (labsN p m) (chL p m) :=
 (List.perm_ext_iff_of_nodup (nodup_laN hp m p.length [] (by simp)) (nodup_chL hp m)).2 fun f => (mem_labsN hp m f).trans (mem_chL hp m f).symm
theorem sumL_sum (l : List Nat) : sumL l = l.sum := by
 induction l with
 | nil => rfl
 | cons x l ih => simp only [sumL, List.sum_cons, ih]
theorem labL_len {p : List Int} : ∀ q t, (labL p q t).length = wvN (stB p false) (idealsN p) q t
 | 0, t => by unfold labL wvN; split <;> rfl
 | q + 1, t => by
  unfold labL wvN
  have e : (idealsN p).filter (fun s => stB p false s t) = (idealsN p).filter fun s => subB s t := List.filter_congr fun s _ => by unfold stB; simp
  rw [e, List.length_flatMap, sumL_sum]
  congr 1
  refine List.map_congr_left fun s _ => ?_
  rw [List.length_map, labL_len q s]
theorem labs_count {p : List Int} (hp : PO p) (m : Nat) : (labsN p m).length = wvN (stB p false) (idealsN p) (m + 1) (allN p) := by
 rw [(labs_perm hp m).length_eq, ← wT_total, sumL_sum]
 unfold chL
 rw [List.length_flatMap]
 congr 1
 exact List.map_congr_left fun s _ => labL_len m s
theorem sum_tab (g : Nat → Nat) (t : Nat) : ∀ k, ((List.range k).map fun i => g i + if t.testBit i then 0 else 1).sum + pcard k t = ((List.range k).map g).sum + k
 | 0 => by rw [show pcard 0 t = 0 from rfl]; rfl
 | k + 1 => by
  have := sum_tab g t k
  rw [List.range_succ, List.map_append, List.map_append, List.sum_append, List.sum_append, pcard_succ]
  simp only [List.map_cons, List.map_nil, List.sum_cons, List.sum_nil]
  split <;> omega
theorem tab_self {n : Nat} {g : List Nat} (h : g.length = n) : (List.range n).map (fun i => g.getD i 0) = g :=
 ext_nat (by simp [h]) fun i hi => getD_tab n _ (by simpa using hi)
theorem addOut_sum {p : List Int} {t : Nat} {g : List Nat} (h : g.length = p.length) : (addOut p t g).sum = g.sum + outN p t := by
 have h1 := sum_tab (fun i => g.getD i 0) t p.length
 rw [tab_self h] at h1
 have h2 := pcard_le p.length t
 unfold addOut outN
 omega
theorem labL_sum {p : List Int} (hp : PO p) : ∀ q t j, t ∈ idealsN p → (labL p q t).countP (fun f => decide (f.sum = j)) = wsN p q t j
 | 0, t, j, _ => by
  unfold labL wsN
  by_cases h : t = 0
  ·rw [if_pos h]
   by_cases hj : j = 0
   ·rw [if_pos ⟨h, hj⟩, hj]; simp
   ·rw [if_neg (fun g => hj g.2)]; simp; omega
  ·rw [if_neg h, if_neg (fun g => h g.1)]; rfl
 | q + 1, t, j, ht => by
  unfold labL wsN
  rw [List.countP_flatMap]
  have e : ∀ s ∈ (idealsN p).filter (fun s => subB s t), (List.countP (fun f => decide (f.sum = j)) ∘ fun s => (labL p q s).map (addOut p t)) s = if outN p t ≤ j then wsN p q s (j - outN p t) else 0 := fun s hs => by
   have hs1 := (List.mem_filter.1 hs).1
   show List.countP (fun f => decide (f.sum = j)) ((labL p q s).map (addOut p t)) = _
   rw [List.countP_map]
   have hlen : ∀ g ∈ labL p q s, g.length = p.length := fun g hg => ((mem_labL hp q s hs1 g).1 hg).1.len
   by_cases h : outN p t ≤ j
   ·rw [if_pos h, ← labL_sum hp q s (j - outN p t) hs1]
    refine List.countP_congr fun g hg => ?_
    show decide ((addOut p t g).sum = j) = true ↔ _
    rw [addOut_sum (hlen g hg), decide_eq_true_eq, decide_eq_true_eq]
    omega
   ·rw [if_neg h, List.countP_eq_zero]
    intro g hg
    show ¬ decide ((addOut p t g).sum = j) = true
    rw [addOut_sum (hlen g hg), decide_eq_true_eq]
    omega
  rw [List.map_congr_left e]
  by_cases h : outN p t ≤ j
  ·rw [if_pos h, sumL_sum]
   congr 1
   exact List.map_congr_left fun s _ => if_pos h
  ·rw [if_neg h, ← sumL_sum]
   exact sumL_none _ _ fun s _ => if_neg h
theorem labs_sum {p : List Int} (hp : PO p) (m j : Nat) : (labsN p m).countP (fun f => decide (f.sum = j)) = wT p m j := by
 rw [List.Perm.countP_eq _ (labs_perm hp m)]
 unfold chL wT
 rw [List.countP_flatMap, sumL_sum]
 congr 1
 exact List.map_congr_left fun s hs => labL_sum hp m s j hs
end Go.Proofs.Ytmbojobkiainlaa.Q
end

section
namespace Go.Proofs.Ytmbojobkiainlaa.Q
open Go.RowKit Go.Proofs.YtmbojobkiainlaaW.PrintWords Go.Proofs.Ytmbojobkiainlaa.F
set_option linter.unusedVariables false
theorem l1MostN (a b : Nat) : spec_l1Most.f (a : Int) (b : Int) = some ((max a b : Nat) : Int) := by
 unfold spec_l1Most.f
 split
 ·congr 1; omega
 ·congr 1; omega
theorem l1OwnN {l : List Int} (h : l.length ≤ 1000) : spec_l1Own.f l = some l := by
 unfold spec_l1Own.f
 rw [Option.bind_some, if_pos (by simp; omega), List.nil_append]
theorem laN_ne {p : List Int} (hp : PO p) (m : Nat) : ∀ d f, f.length + d = p.length → (∀ i, i < f.length → f.getD i 0 ≤ m) → 0 < (laN p m d f).length
 | 0, f, _, _ => by unfold laN; exact Nat.one_pos
 | d + 1, f, hf, hm => by
  have h1 : leastN p f f.length ≤ m := (leastN_le p f m f.length).2 fun j hj _ => hm j hj
  have h2 := laN_ne hp m d (f ++ [leastN p f f.length]) (by rw [List.length_append, List.length_singleton]; omega) (fun i hi => by
   rw [getD_snoc]
   rw [List.length_append, List.length_singleton] at hi
   split
   ·exact h1
   ·exact hm i (by omega))
  obtain ⟨g, hg⟩ := List.exists_mem_of_length_pos h2
  have : g ∈ laN p m (d + 1) f := by
   unfold laN
   exact List.mem_flatMap.2 ⟨leastN p f f.length, mem_range''.2 ⟨Nat.le_refl _, by omega⟩, hg⟩
  exact List.length_pos_of_mem this
theorem leastN_step (p : List Int) (f : List Nat) (k : Nat) : leastN p f (k + 1) = if (L p f.length).testBit k then max (leastN p f k) (f.getD k 0) else leastN p f k := by
 unfold leastN; rw [List.range_succ, List.foldl_append]; rfl
theorem range'_succ'' (x e : Nat) : List.range' x (e + 1) = x :: List.range' (x + 1) e := rfl
theorem laAll_ev {p : List Int} (hp : PO p) {m : Nat} (hm : m ≤ 12) : ∀ d f, f.length + d = p.length → (∀ i, i < f.length → f.getD i 0 ≤ m) → ∀ most : Nat, most ≤ 100000 → (laN p m d f).length ≤ most → Ev (fun k => spec_laAll.f k p (ints f) (m : Int) (most : Int)) ((laN p m d f).map ints) := by
 have hn := hp.small
 intro d
 induction d with
 | zero =>
  intro f hf _ most _ _
  refine Ev.step (by intro k; simp only [spec_laAll.f]; rfl) ?_
  rw [ints_len]
  refine Ev.yes (by omega) (Ev.call (l1OwnN (by rw [ints_len]; omega)) (Ev.ret ?_))
  unfold laN; rfl
 | succ d ih =>
  intro f hf hfm most hmost hlen
  refine Ev.step (by intro k; simp only [spec_laAll.f]; rfl) ?_
  rw [ints_len]
  refine Ev.no (by omega) ?_
  have hi : f.length < p.length := by omega
  have hL : L p f.length < 2 ^ 62 := lt_pow (hp.lt _ hi) (by omega)
  -- the numbers to be tried
  have inner : ∀ (e x : Nat) (out : List (List Nat)), x + e = m + 1 → out.length + ((List.range' x e).flatMap fun x => laN p m d (f ++ [x])).length ≤ most →
   Ev (fun k => spec_laAll.l1 k (ints f) (m : Int) (most : Int) (out.map ints) (x : Int) p) (((out ++ (List.range' x e).flatMap fun x => laN p m d (f ++ [x]))).map ints) := by
   intro e
   induction e with
   | zero =>
    intro x out hx _
    refine Ev.step (by intro k; simp only [spec_laAll.l1]; rfl) (Ev.no (by omega) ?_)
    refine Ev.step (by intro k; simp only [spec_laAll.j2]; rfl) (Ev.no (by simp) (Ev.ret ?_))
    rw [show List.range' x 0 = [] from rfl, List.flatMap_nil, List.append_nil]
   | succ e ihe =>
    intro x out hx hl
    rw [range'_succ'', List.flatMap_cons, List.length_append] at hl
    have hxm : ∀ i, i < (f ++ [x]).length → (f ++ [x]).getD i 0 ≤ m := fun i hi2 => by
     rw [List.length_append, List.length_singleton] at hi2
     rw [getD_snoc]
     split
     ·omega
     ·exact hfm i (by omega)
    have hlx : (f ++ [x]).length + d = p.length := by rw [List.length_append, List.length_singleton]; omega
    have hne := laN_ne hp m d (f ++ [x]) hlx hxm
    refine Ev.step (by intro k; simp only [spec_laAll.l1]; rfl) (Ev.yes (by omega) ?_)
    rw [List.length_map, decide_eq_true (show (out.length : Int) < (most : Int) by omega)]
    refine Ev.step (by intro k; simp only [spec_laAll.j2]; rfl) (Ev.yes (show true = true from rfl) ?_)
    refine Ev.call (l1OwnN (by rw [ints_len]; omega)) (Ev.call rfl (Ev.yes (by rw [ints_len]; simp; omega) ?_))
    rw [List.length_map, show wrap64 ((most : Int) - (out.length : Int)) = ((most - out.length : Nat) : Int) by rw [wid (by omega) (by omega)]; omega]
    have hcall := ih (f ++ [x]) hlx hxm (most - out.length) (by omega) (by omega)
    rw [show ints f ++ [(x : Int)] = ints (f ++ [x]) by rw [ints_app]; rfl]
    refine Ev.bind hcall (Ev.yes (by rw [List.length_map]; omega) ?_)
    have hnext := ihe (x + 1) (out ++ laN p m d (f ++ [x])) (by omega) (by rw [List.length_append]; omega)
    rw [show wrap64 ((x : Int) + 1) = ((x + 1 : Nat) : Int) by rw [wid (by omega) (by omega)]; omega, ← List.map_append]
    rw [range'_succ'', List.flatMap_cons, ← List.append_assoc]
    exact hnext
  have h1 : leastN p f f.length ≤ m := (leastN_le p f m f.length).2 fun j hj _ => hfm j hj
  have hstart := inner (m + 1 - leastN p f f.length) (leastN p f f.length) [] (by omega) (by
   have e : laN p m (d + 1) f = (List.range' (leastN p f f.length) (m + 1 - leastN p f f.length)).flatMap fun x => laN p m d (f ++ [x]) := rfl
   rw [e] at hlen
   simpa using hlen)
  -- the least number
  have least : ∀ j, j ≤ f.length → Ev (fun k => spec_laAll.l0 k (ints f) (m : Int) (most : Int) (f.length : Int) ((leastN p f j : Nat) : Int) (j : Int) p) ((laN p m (d + 1) f).map ints) := by
   refine downTo _ ?_ ?_
   ·refine Ev.step (by intro k; simp only [spec_laAll.l0]; rfl) (Ev.no (by omega) ?_)
    exact hstart
   ·intro j hj ihj
    rw [leastN_step] at ihj
    refine Ev.step (by intro k; simp only [spec_laAll.l0]; rfl) (Ev.yes (by omega) (Ev.yes (by omega) (Ev.yes (by omega) ?_)))
    rw [rdN, hp.val _ hi, wid1 hj (by omega)]
    refine Ev.call (poIn_eq (by omega)) (Ev.ite (fun hb => Ev.yes (by omega) (Ev.yes (by rw [ints_len]; omega) ?_)) (fun hb => ?_))
    ·rw [rd_ints]
     refine Ev.call (l1MostN _ _) ?_
     rw [if_pos hb] at ihj
     exact ihj
    ·rw [if_neg hb] at ihj
     exact ihj
  exact least 0 (Nat.zero_le _)
theorem labs_ev {p : List Int} (hp : PO p) {m : Nat} (hm : m ≤ 12) {most : Nat} (h1 : most ≤ 100000) (h2 : (labsN p m).length ≤ most) : Ev (fun k => spec_laAll.f k p [] (m : Int) (most : Int)) ((labsN p m).map ints) :=
 laAll_ev hp hm p.length [] (by simp) (fun i hi => by cases hi) most h1 h2
theorem laSum_ev {f : List Nat} (hl : f.length ≤ 100) (hv : ∀ x ∈ f, x ≤ 1000) : Ev (fun k => spec_laSum.f k (ints f)) ((f.sum : Nat) : Int) := by
 unfold spec_laSum.f
 rw [ints_len]
 have hb : ∀ l : List Nat, (∀ x ∈ l, x ≤ 1000) → l.sum ≤ l.length * 1000 := by
  intro l
  induction l with
  | nil => intro _; simp
  | cons x l ih => intro h; have := ih (fun y hy => h y (List.mem_cons_of_mem _ hy)); have := h x List.mem_cons_self; rw [List.sum_cons, List.length_cons]; omega
 have key : ∀ i, i ≤ f.length → Ev (fun k => spec_laSum.l0 k (((f.take i).sum : Nat) : Int) (ints f) (f.length : Int) (i : Int)) ((f.sum : Nat) : Int) := by
  refine downTo _ ?_ ?_
  ·refine Ev.step (by intro k; simp only [spec_laSum.l0]; rfl) (Ev.no (by omega) (Ev.ret ?_))
   rw [List.take_length]
  ·intro i hi ih
   refine Ev.step (by intro k; simp only [spec_laSum.l0]; rfl) (Ev.yes (by omega) (Ev.yes (by omega) (Ev.yes (by rw [ints_len]; omega) ?_)))
   rw [rd_ints, wid1 hi (by omega)]
   have e : (f.take (i + 1)).sum = (f.take i).sum + f.getD i 0 := by
    rw [List.take_add_one, List.sum_append, List.getD_eq_getElem?_getD, List.getElem?_eq_getElem hi]; simp
   have h1 := hb (f.take (i + 1)) (fun x hx => hv x (List.mem_of_mem_take hx))
   have h2 : (f.take (i + 1)).length ≤ 100 := by rw [List.length_take]; omega
   have h3 : (f.take (i + 1)).length * 1000 ≤ 100 * 1000 := Nat.mul_le_mul_right _ h2
   rw [wid (by omega) (by omega), show (((f.take i).sum : Nat) : Int) + ((f.getD i 0 : Nat) : Int) = (((f.take (i + 1)).sum : Nat) : Int) by omega]
   exact ih
 exact key 0 (Nat.zero_le _)
end Go.Proofs.Ytmbojobkiainlaa.Q
end

section
namespace Go.Proofs.Ytmbojobkiainlaa.Q
open Go.RowKit Go.Proofs.YtmbojobkiainlaaW.PrintWords
set_option linter.unusedVariables false
theorem sumL_range (f : Nat → Nat) : ∀ n, sumL ((List.range n).map f) = upto f n
 | 0 => rfl
 | n + 1 => by
  rw [List.range_succ, List.map_append, sumL_append, sumL_range f n]
  show upto f n + (f n + 0) = upto f n + f n
  rfl
theorem ws_total (p : List Int) : ∀ (q s N : Nat), p.length * q < N → upto (wsN p q s) N = wvN (stB p false) (idealsN p) q s
 | 0, s, N, h => by
  rw [upto_zero _ 1 N (by omega) (fun i h1 _ => by unfold wsN; rw [if_neg (by omega)])]
  show 0 + wsN p 0 s 0 = _
  unfold wsN wvN
  by_cases h : s = 0
  ·rw [if_pos ⟨h, rfl⟩, if_pos h]
  ·rw [if_neg (fun h2 => h h2.1), if_neg h]
 | q + 1, t, N, h => by
  have ho := outN_le p t
  rw [Nat.mul_succ] at h
  obtain ⟨r, rfl⟩ : ∃ r, N = outN p t + r := ⟨N - outN p t, by omega⟩
  rw [upto_split]
  have z : upto (wsN p (q + 1) t) (outN p t) = upto (wsN p (q + 1) t) 0 := upto_zero _ _ _ (Nat.zero_le _) fun i _ h => by unfold wsN; rw [if_neg (by omega)]
  rw [z]
  show 0 + _ = _
  rw [Nat.zero_add]
  have e1 : upto (fun j => wsN p (q + 1) t (outN p t + j)) r = upto (fun j => sumL (((idealsN p).filter fun s => subB s t).map fun s => wsN p q s j)) r := upto_congr _ fun j _ => by
   conv => lhs; unfold wsN
   rw [if_pos (by omega), Nat.add_sub_cancel_left]
  rw [e1]
  have e2 := upto_sum (fun j s => wsN p q s j) ((idealsN p).filter fun s => subB s t) r
  rw [← e2]
  conv => rhs; unfold wvN
  have e : (idealsN p).filter (fun s => stB p false s t) = (idealsN p).filter fun s => subB s t := List.filter_congr fun s _ => by unfold stB; simp
  rw [e]
  congr 1
  exact List.map_congr_left fun s _ => ws_total p q s r (by omega)
theorem sums_total (p : List Int) (q : Nat) : sumL ((List.range (p.length * q + 1)).map (wT p q)) = wvN (stB p false) (idealsN p) (q + 1) (allN p) := by
 rw [sumL_range, ← wT_total]
 unfold wT
 have e := upto_sum (fun j s => wsN p q s j) (idealsN p) (p.length * q + 1)
 rw [← e]
 congr 1
 exact List.map_congr_left fun s _ => ws_total p q s _ (by omega)
end Go.Proofs.Ytmbojobkiainlaa.Q
end

section
namespace Go.Proofs.Ytmbojobkiainlaa.Q
open Go.RowKit Go.Proofs.YtmbojobkiainlaaW.PrintWords Go.Proofs.Ytmbojobkiainlaa.F
set_option linter.unusedVariables false
theorem within_eq (a b c : Int) : impl_within.f a b c = some (decide (b ≤ a) && decide (a ≤ c)) := by
 unfold impl_within.f
 by_cases h : b ≤ a
 ·rw [if_pos h]; simp [h]
 ·rw [if_neg h]; simp [h]
theorem isBound_eq (m : Int) : impl_isBound.f m = some (decide (0 ≤ m) && decide (m ≤ 12)) := by
 unfold impl_isBound.f
 rw [within_eq]; rfl
theorem laBound_eq (m : Int) : spec_laBound.f m = some (decide (0 ≤ m) && decide (m ≤ 12)) := by
 unfold spec_laBound.f
 rw [l1In_eq]; rfl
theorem isOrder_ev {p : List Int} (hp : PO p) (w : List Int) (hw : w.length ≤ 9223372036854775807) : Ev (fun k => impl_isOrder.f k p w) (ordB p w) := by
 have hn := hp.small
 have hn1 := hp.pos
 unfold impl_isOrder.f ordB
 have key : ∀ i, i ≤ w.length → ∀ s : Nat, s < 2 ^ p.length → Ev (fun k => impl_isOrder.l0 k (s : Int) w (w.length : Int) (i : Int) p) (ordRun p s (w.drop i) == some (allN p)) := by
  refine downTo _ ?_ ?_
  ·intro s hs
   refine Ev.step (by intro k; simp only [impl_isOrder.l0]; rfl) (Ev.no (by omega) (Ev.call (all_eq (by omega)) (Ev.ret ?_)))
   rw [List.drop_length]
   simp only [ordRun]
   rw [Bool.eq_iff_iff, beq_iff_eq, beq_iff_eq, Option.some.injEq]
   omega
  ·intro i hi ih s hs
   refine Ev.step (by intro k; simp only [impl_isOrder.l0]; rfl) (Ev.yes (by omega) (Ev.yes (by omega) (Ev.yes (by omega) ?_)))
   rw [rdN, drop_getD w hi, wid1 hi (by omega)]
   generalize w.getD i 0 = e
   refine Ev.call (show impl_Poset_n.f p = some (p.length : Int) from rfl) (Ev.call (within_eq _ _ _) ?_)
   rw [show wrap64 ((p.length : Int) - 1) = (p.length : Int) - 1 from wid (by omega) (by omega)]
   simp only [ordRun]
   by_cases h1 : 0 ≤ e ∧ e < (p.length : Int)
   rotate_left
   ·exact Ev.no (by rw [range_false (by omega)]; simp) (Ev.ret (by rw [if_neg (fun h => h1 h.1)]; rfl))
   refine Ev.yes (range_true (by omega)) ?_
   obtain ⟨x, rfl⟩ := Int.eq_ofNat_of_zero_le h1.1
   have hx : x < p.length := by omega
   refine Ev.call (has_eq (lt_pow hs (by omega)) (by omega)) ?_
   rw [Int.toNat_natCast]
   by_cases h2 : s.testBit x = true
   ·exact Ev.yes h2 (Ev.ret (by rw [if_neg (fun h => by rw [h.2.1] at h2; cases h2)]; rfl))
   refine Ev.no h2 (Ev.yes (by omega) (Ev.yes (by omega) ?_))
   rw [rdN, hp.val x hx, bits_andNotN (lt_pow (L_lt hp hx) (by omega)) (lt_pow hs (by omega))]
   by_cases h3 : subB (L p x) s = true
   ·have h4 : ndiff (L p x) s = 0 := by unfold subB at h3; exact beq_iff_eq.1 h3
    refine Ev.yes (by rw [h4]; rfl) ?_
    rw [shlN (by omega), bits_orN (lt_pow hs (by omega)) (Nat.pow_lt_pow_right (by decide) (by omega)), if_pos ⟨h1, by simpa using h2, h3⟩]
    exact ih _ (or_lt hs (pow_lt_pow hx))
   ·have h4 : ¬ (((ndiff (L p x) s : Nat) : Int) = 0) := fun h => h3 (by unfold subB; rw [beq_iff_eq]; exact_mod_cast h)
    exact Ev.no h4 (Ev.ret (by rw [if_neg (fun h => h3 h.2.2)]; rfl))
 have := key 0 (by omega) 0 (Nat.two_pow_pos _)
 rw [List.drop_zero] at this
 exact this
theorem IsPoset_ev (p : List Int) : Ev (fun k => impl_IsPoset.f k p) (isPo p) := by
 unfold impl_IsPoset.f
 refine Ev.call (show impl_Poset_n.f p = some (p.length : Int) from rfl) (Ev.call (within_eq _ _ _) ?_)
 unfold isPo
 rw [sizes_eq]
 cases hs : (decide (1 ≤ p.length) && decide (p.length ≤ 10)) with
 | false => exact Ev.no (by simp) (Ev.ret rfl)
 | true =>
 refine Ev.yes rfl ?_
 rw [Bool.and_eq_true, decide_eq_true_eq, decide_eq_true_eq] at hs
 obtain ⟨h1, h2⟩ := hs
 have key : ∀ i, i ≤ p.length → Ev (fun k => impl_IsPoset.l0 k p (p.length : Int) (i : Int) p) (allFrom (rowOk p) p.length i) := by
  refine downTo p.length ?_ ?_
  ·refine Ev.step (by intro k; simp only [impl_IsPoset.l0]; rfl) ?_
   exact Ev.no (by omega) (Ev.ret (allFrom_end _ _).symm)
  ·intro i hi ih
   refine Ev.step (by intro k; simp only [impl_IsPoset.l0]; rfl) ?_
   refine Ev.yes (by omega) (Ev.yes (by omega) (Ev.yes (by omega) ?_))
   rw [rdN, mask_eq (by omega)]
   refine Ev.call (within_eq _ _ _) ?_
   rw [allFrom_step _ hi]
   by_cases hb : 0 ≤ p.getD i 0 ∧ p.getD i 0 ≤ 2 ^ i - 1
   rotate_left
   ·exact Ev.no (by rw [range_false hb]; simp) (Ev.ret (by rw [rowOk_false hb]; rfl))
   refine Ev.yes (range_true hb) ?_
   have hv : p.getD i 0 = (L p i : Int) := by unfold L; omega
   have hm : L p i < 2 ^ i := by
    have := hb.2
    rw [hv, pow_int] at this
    have hp : 0 < 2 ^ i := Nat.two_pow_pos i
    generalize 2 ^ i = z at *
    omega
   rw [rowOk_true hb, ← items_all hm (by omega) (fun j => decide (Go.bits .andNot .i64 (p.getD j 0) (p.getD i 0) = 0)), hv]
   refine Ev.bind (items_ev _ (lt_pow hm (by omega))) ?_
   have inner : ∀ j, j ≤ (itemsN (L p i)).length → Ev (fun k => impl_IsPoset.l1 k (L p i : Int) p (p.length : Int) (i : Int) (ints (itemsN (L p i))) ((ints (itemsN (L p i))).length : Int) (j : Int) p)
    (((itemsN (L p i)).drop j).all (fun j => decide (Go.bits .andNot .i64 (p.getD j 0) (L p i : Int) = 0)) && allFrom (rowOk p) p.length (i + 1)) := by
    rw [ints_len]
    refine downTo _ ?_ ?_
    ·refine Ev.step (by intro k; simp only [impl_IsPoset.l1]; rfl) ?_
     refine Ev.no (by omega) ?_
     rw [wid1 hi (by omega), List.drop_length, List.all_nil, Bool.true_and]
     exact ih
    ·intro j hj ihj
     have hlt := items_lt hm hj
     have hl := itemsN_len (L p i)
     refine Ev.step (by intro k; simp only [impl_IsPoset.l1]; rfl) ?_
     refine Ev.yes (by omega) (Ev.yes (by omega) (Ev.yes (by rw [ints_len]; omega) ?_))
     rw [rd_ints, all_drop_step _ _ 0 hj, wid1 hj (by omega), rdN]
     refine Ev.yes (by omega) (Ev.yes (by omega) ?_)
     refine Ev.ite (fun h => evc ihj ?_) (fun h => Ev.ret ?_)
     ·rw [decide_eq_true h]; simp
     ·rw [decide_eq_false h]; simp
   exact inner 0 (by omega)
 exact key 0 (by omega)
end Go.Proofs.Ytmbojobkiainlaa.Q
end

section
namespace Go.Proofs.Ytmbojobkiainlaa.Q

end Go.Proofs.Ytmbojobkiainlaa.Q
end

section
namespace Go.Proofs.Ytmbojobkiainlaa.Q
open Go.RowKit Go.Proofs.YtmbojobkiainlaaW.PrintWords Go.Proofs.Ytmbojobkiainlaa.F
set_option linter.unusedVariables false
def linB (p w : List Int) : Bool := isPo p && ordB p w
theorem isLinear_ev (p w : List Int) (hw : w.length ≤ 9223372036854775807) : Ev (fun k => impl_isLinear.f k p w) (linB p w) := by
 unfold impl_isLinear.f linB
 refine Ev.bind (IsPoset_ev p) ?_
 cases hp : isPo p with
 | false => exact Ev.no (by simp) (Ev.ret rfl)
 | true => exact Ev.yes rfl (Ev.bind (isOrder_ev ((isPo_iff p).1 hp) w hw) (Ev.ret rfl))
structure Lin (p w : List Int) : Prop where
 po : PO p
 ord : ordB p w = true
 len : w.length = p.length
 pos : 1 ≤ p.length
 small : p.length ≤ 10
theorem linB_lin {p w : List Int} (h : linB p w = true) : Lin p w := by
 unfold linB at h
 rw [Bool.and_eq_true] at h
 have hp := (isPo_iff p).1 h.1
 exact ⟨hp, h.2, ordB_len h.2, hp.pos, hp.small⟩
end Go.Proofs.Ytmbojobkiainlaa.Q
end

section
namespace Go.Proofs.Ytmbojobkiainlaa.F
open Go.RowKit Go.Proofs.YtmbojobkiainlaaW.PrintWords Go.Proofs.YtmbojobkiainlaaW.PrintLast Go.Proofs.YtmbojobkiainlaaW.PrintMore
attribute [local go_sem] max2_int min2_int max_two min_two max_three min_three max_four min_four
set_option linter.unusedVariables false
set_option linter.unusedSimpArgs false
def spec_DrawBoxCountR.f (s0_0 : List Int) (s0_1 : Int) (s0_2 : Int) : Option (Int × Int × Int × Int × Int) := (spec_l1Cur_sides.f s0_0 s0_1 s0_2).bind fun bt1314 => ((spec_l1Cur_bound.f s0_0 bt1314.2.2.1 bt1314.2.2.2 4).bind fun bt1318 => (some (bt1314.1, bt1314.2.1, bt1318.1, bt1318.2.1, bt1318.2.2)))
def spec_DrawBoxCount.f (k : Nat) (l0 : List Int) : Option ((Int) × (Int) × (Int)) := (spec_DrawBoxCountR.f l0 0 0).bind fun bt => some (bt.1, bt.2.1, bt.2.2.1)
theorem spec_DrawBoxCount.mono : ∀ a0 k, LeO (spec_DrawBoxCount.f k a0) (spec_DrawBoxCount.f (k + 1) a0) := fun a0 k => LeO.refl _
set_option maxHeartbeats 8000000 in
set_option maxRecDepth 100000 in
theorem spec_DrawBoxCount.calls (k : Nat) (A0 : Option Addr) (c0 : Nat) (l0 : List Int) (r1 : Int) (r2 : Int) (r3 : Int) (w : World) (hr0 : Kd.C (Kd.int .u8) w A0 l0.length l0) (hc0 : l0.length ≤ c0) (hf : spec_DrawBoxCount.f k l0 = some (r1, r2, r3)) :
 Calls Try.prog 104 #[.slice A0 l0.length c0] w fun e w' => e = .returned (.tuple #[.int .i64 r1, .int .i64 r2, .int .i64 r3]) ∧ Below w.heap.size w w' := by
 unfold spec_DrawBoxCount.f at hf
 obtain ⟨⟨r1_, r2_, r3_, r4, r5⟩, h, hf⟩ := Option.bind_eq_some_iff.1 hf
 have hf := Option.some.inj hf
 simp only [Prod.mk.injEq] at hf
 obtain ⟨hf0, hf1, hf2⟩ := hf
 replace hf0 := hf0.symm
 subst hf0
 replace hf1 := hf1.symm
 subst hf1
 replace hf2 := hf2.symm
 subst hf2
 have HR0 := am hr0
 have HC0 := am hc0
 clear hr0 hc0
 have HL := am (Nat.le_refl w.heap.size)
 have HW0 := am (Nat.le_refl w.heap.size)
 have H : ((spec_l1Cur_sides.f l0 0 0).bind fun bt1314 => ((spec_l1Cur_bound.f l0 bt1314.2.2.1 bt1314.2.2.2 4).bind fun bt1318 => (some (bt1314.1, bt1314.2.1, bt1318.1, bt1318.2.1, bt1318.2.2)))) = some (r1, r2, r3, r4, r5) := h
 clear h
 replace H := Option.bind_eq_some_iff.mp H
 obtain ⟨⟨t1314, t1315, t1316, t1317⟩, A20, H⟩ := H
 (try dsimp only at H)
 have A2 := am A20
 clear A20
 replace H := Option.bind_eq_some_iff.mp H
 obtain ⟨⟨t1318, t1319, t1320⟩, A30, H⟩ := H
 (try dsimp only at H)
 have A3 := am A30
 clear A30
 simp only [Option.some.injEq, Prod.mk.injEq] at H
 obtain ⟨rfl, rfl, rfl, rfl, rfl⟩ := H
 go_enter Try.func104, Try.ntmps104
 go_wp2_with (first | ((with_reducible refine gate_dst (N := 10) rfl ?_); refine qx (N := 10) (cs := #[.slice A0 l0.length c0, .int .i64 0, .int .u64 0]) (t := 67) ?_; intro g hg w1_ hbox hb; have hge : w.heap.size ≤ g := (by rw [hg]; exact Nat.le_refl _); have HI0 : Aside0 (IsS67 w w1_ g l0 0 0) := ⟨A0, c0, hbox, hge, HR0.out⟩; have HK := am (KeepBut.of_below hb g none); have HB := am hb; clear hbox hb hge hg) | ((with_reducible refine gate_callee (f := 140) rfl ?_); refine gL (some 13) Try.func140 #[.pointer (some ⟨g, 0, none⟩)] ?_; (with_reducible refine (spec_l1Cur_sides.calls g l0 0 0 t1314 t1315 t1316 t1317 w _ ?side1 ?side2 A2.out).mono ?_); (case side1 => exact qI67); (case side2 => exact qB); rintro e w4 ⟨rfl, hi, hb, hk⟩; refine ⟨_, rfl, ?_⟩; have n0_ := am (KeepBut.trans qK hk (.inl rfl)); have n1_ := am (hb); replace HI0 := am (hi); clear HK HB; have HK := n0_; have HB := n1_; clear n0_ n1_; (try clear hb); (try clear hb2); (try clear hk); (try clear hi)) | ((with_reducible refine gate_callee (f := 65) rfl ?_); refine gL (some 19) Try.func65 #[.pointer (some ⟨g, 0, none⟩), .int .i64 4] ?_; (with_reducible refine (spec_l1Cur_bound.calls g l0 t1316 t1317 4 t1318 t1319 t1320 w _ ?side1 ?side2 A3.out).mono ?_); (case side1 => exact qI67); (case side2 => exact qB); rintro e w5 ⟨rfl, hi, hb, hk⟩; refine ⟨_, rfl, ?_⟩; have n0_ := am (KeepBut.trans qK hk (.inl rfl)); have n1_ := am (hb); replace HI0 := am (hi); clear HK HB; have HK := n0_; have HB := n1_; clear n0_ n1_; (try clear hb); (try clear hb2); (try clear hk); (try clear hi)))
 go_ret3
 exact ⟨qr, qB⟩
def spec_DrawBoxBySum.f (k : Nat) (l0 : List Int) : Option (Int × Int × Int) := (spec_DrawBoxCount.f k l0).bind fun bt840 => (some (bt840.1, bt840.2.1, bt840.2.2))
theorem spec_DrawBoxBySum.mono : ∀ a0 k, LeO (spec_DrawBoxBySum.f k a0) (spec_DrawBoxBySum.f (k + 1) a0) := by
 intro a0 k
 unfold spec_DrawBoxBySum.f
 repeat' first
  | (with_reducible exact spec_DrawBoxCount.mono _ _)
  | (with_reducible exact LeO.refl _)
  | (with_reducible exact LeO.none _)
  | (with_reducible refine LeO.ite ?_ ?_)
  | (with_reducible refine LeO.bind ?_ (fun _ => ?_))
  | exact spec_DrawBoxCount.mono _ _
  | exact LeO.none _
  | refine LeO.ite ?_ ?_
  | refine LeO.bind ?_ (fun _ => ?_)
set_option maxHeartbeats 8000000 in
set_option maxRecDepth 100000 in
theorem spec_DrawBoxBySum.calls (k : Nat) (A0 : Option Addr) (c0 : Nat) (l0 : List Int) (r1 : Int) (r2 : Int) (r3 : Int) (w : World) (hr0 : Kd.C (Kd.int .u8) w A0 l0.length l0) (hc0 : l0.length ≤ c0) (h : spec_DrawBoxBySum.f k l0 = some (r1, r2, r3)) :
 Calls Try.prog 42 #[.slice A0 l0.length c0] w fun e w' => e = .returned (.tuple #[.int .i64 r1, .int .i64 r2, .int .i64 r3]) ∧ Below w.heap.size w w' := by
 have HR0 := am hr0
 have HC0 := am hc0
 clear hr0 hc0
 have HB := am (Below.refl w.heap.size w)
 have H := h
 unfold spec_DrawBoxBySum.f at H
 clear h
 replace H := Option.bind_eq_some_iff.mp H
 obtain ⟨⟨t840, t841, t842⟩, A20, H⟩ := H
 (try dsimp only at H)
 have A2 := am A20
 clear A20
 simp only [Option.some.injEq, Prod.mk.injEq] at H
 obtain ⟨rfl, rfl, rfl⟩ := H
 go_enter Try.func42, Try.ntmps42
 go_wp2_with (((with_reducible refine gate_callee (f := 104) rfl ?_); refine gL (some 6) Try.func104 #[.slice A0 l0.length c0] ?_; (with_reducible refine (spec_DrawBoxCount.calls k _ _ l0 t840 t841 t842 _ ?side1 ?side2 A2.out).mono ?_); (case side1 => exact qC HR0.out); (case side2 => exact HC0.out); rintro e w3 ⟨rfl, hb⟩; refine ⟨_, rfl, ?_⟩; replace HB := am (below_step qB hb); (try clear hb); (try clear hb2); (try clear hk); (try clear hi)))
 go_ret3
 exact ⟨qr, qB⟩
end Go.Proofs.Ytmbojobkiainlaa.F
end

section
namespace Go.Proofs.Ytmbojobkiainlaa.F
open Go.RowKit Go.Proofs.YtmbojobkiainlaaW.PrintWords Go.Proofs.YtmbojobkiainlaaW.PrintLast Go.Proofs.YtmbojobkiainlaaW.PrintMore
set_option linter.unusedVariables false
set_option linter.unusedSimpArgs false
def impl_Poset_ideals.f (k : Nat) (l0_0 : List Int) : Option (List Int) := sets_ideals.f (fun x => lit_ideals.f k x l0_0) k l0_0
theorem ideals_mono_l {F F' : Int → Option Bool} (hF : ∀ x, LeO (F x) (F' x)) : ∀ k y0 y1 y2, LeO (sets_ideals.l0 F k y0 y1 y2) (sets_ideals.l0 F' k y0 y1 y2)
 | 0, _, _, _ => fun r h => by simp [sets_ideals.l0] at h
 | k + 1, y0, y1, y2 => by
  unfold sets_ideals.l0
  exact LeO.ite (LeO.bind (hF _) (fun _ => LeO.ite (LeO.ite (ideals_mono_l hF k _ _ _) (LeO.none _)) (ideals_mono_l hF k _ _ _))) (LeO.refl _)
theorem impl_Poset_ideals.mono : ∀ a0 k, LeO (impl_Poset_ideals.f k a0) (impl_Poset_ideals.f (k + 1) a0) := fun a0 k r h => by
 unfold impl_Poset_ideals.f at h ⊢
 refine sets_ideals.mono _ _ _ r ?_
 unfold sets_ideals.f at h ⊢
 exact LeO.bind (LeO.refl _) (fun _ => ideals_mono_l (fun x => lit_ideals.mono x a0 k) k _ _ _) r h
set_option maxHeartbeats 8000000 in
set_option maxRecDepth 100000 in
theorem impl_Poset_ideals.calls (k : Nat) (A0_0 : Option Addr) (c0_0 : Nat) (l0_0 : List Int) (r : List Int) (w : World) (hr0_0 : Kd.C (Kd.int .i64) w A0_0 l0_0.length l0_0) (hc0_0 : l0_0.length ≤ c0_0) (h : impl_Poset_ideals.f k l0_0 = some r) :
 Calls Try.prog 127 #[.agg #[.slice A0_0 l0_0.length c0_0]] w fun e w' => ∃ v0_ : Value, e = .returned (v0_) ∧ Kd.R (Kd.int .i64) 3 w' w.heap.size (fun _ => True) v0_ r ∧ Below w.heap.size w w' := by
 unfold impl_Poset_ideals.f at h
 have hmf : ∀ (fn : Fn) (first cap : Array Value) (w : World), (Instr.makeFunc fn first cap).run Try.prog w = .ok (.func fn first cap) w := fun _ _ _ _ => rfl
 have hu39 := Try.underlying26
 obtain ⟨W, hW⟩ : ∃ W, W = (w.alloc (.cells #[.slice A0_0 l0_0.length c0_0] 26 (0, 0))) := ⟨_, rfl⟩
 have hsz : W.heap.size = w.heap.size + 1 := by rw [hW]; simp
 have hcB : W.cell? ⟨w.heap.size, 0, none⟩ = some (.slice A0_0 l0_0.length c0_0) := by rw [hW, World.cell?_alloc_at _ _ _ _ rfl]; rfl
 have hbW : Below w.heap.size w W := by rw [hW]; exact (Below.refl _ _).alloc (Nat.le_refl _) _
 have hrW : Kd.C (Kd.int .i64) W A0_0 l0_0.length l0_0 := Kd.C_below hr0_0 hbW
 have HF : Aside0 (∀ (x0_ : Int) (r_ : Bool) (W' : World), lit_ideals.f k x0_ l0_0 = some r_ → Below W.heap.size W W' → Calls Try.prog 156 #[.int .i64 x0_, .pointer (some ⟨w.heap.size, 0, none⟩)] W' fun e w' => e = .returned (.bool r_) ∧ Below W'.heap.size W' w') :=
  ⟨fun x0_ r_ W' hF hb => lit_ideals.calls w.heap.size k x0_ A0_0 c0_0 l0_0 r_ W' ((hb.cell (p := ⟨w.heap.size, 0, none⟩) (by rw [hsz]; show w.heap.size < w.heap.size + 1; omega)).trans hcB) (Kd.C_below hrW hb) hc0_0 hF⟩
 have hcall := sets_ideals.calls (fun x => lit_ideals.f k x l0_0) w.heap.size k A0_0 c0_0 l0_0 r W HF hrW hc0_0 h
 have hcall' : Aside0 (Calls Try.prog 155 #[.agg #[.slice A0_0 l0_0.length c0_0], .func (.func 156) #[] #[.pointer (some ⟨w.heap.size, 0, none⟩)]] (w.alloc (.cells #[.slice A0_0 l0_0.length c0_0] 26 (0, 0))) fun e w' => ∃ v0_ : Value, e = .returned (v0_) ∧ (Kd.R (Kd.int .i64) 3 w' W.heap.size (fun _ => True) v0_ r ∧ Below W.heap.size W w')) := ⟨by rw [← hW]; exact hcall⟩
 have HW := Lib.hid hW
 clear hcall HF h hW hrW hr0_0 hc0_0
 have HsW := am hsz
 have HbW := am hbW
 clear hcB hsz hbW
 go_enter Try.func127, Try.ntmps127
 go_wp2_with fail
 refine hcall'.out.mono ?_
 rintro e w1 ⟨v, rfl, ho, hb⟩
 have Ho := am ho
 have Hb := am hb
 clear ho hb hmf hcall'
 go_wp2
 go_ret
 refine ⟨_, rfl, Kd.R_lower Ho.out (by have := HsW.out; omega), HbW.out.trans (Hb.out.mono (by have := HsW.out; omega))⟩
end Go.Proofs.Ytmbojobkiainlaa.F
end

section
namespace Go.Proofs.Ytmbojobkiainlaa.Q
open Go.RowKit Go.Proofs.YtmbojobkiainlaaW.PrintWords Go.Proofs.Ytmbojobkiainlaa.F
set_option linter.unusedVariables false
theorem sets_run {F : Int → Option Bool} {c : Nat → Bool} {N : Nat} (hN : N ≤ 1024) (hF : ∀ s : Nat, s < N → F (s : Int) = some (c s)) : ∀ (d i : Nat), i + d = N → ∀ (k : Nat) (acc : List Int), d < k → acc.length ≤ i → sets_ideals.l0 F k acc (N : Int) (i : Int) = some (acc ++ ints ((List.range' i d).filter c))
 | 0, i, h, 0, acc, hk, _ => by omega
 | 0, i, h, k + 1, acc, hk, _ => by
  simp only [sets_ideals.l0]
  rw [if_neg (by omega)]
  simp [ints]
 | d + 1, i, h, 0, acc, hk, _ => by omega
 | d + 1, i, h, k + 1, acc, hk, ha => by
  simp only [sets_ideals.l0]
  rw [if_pos (by omega), hF i (by omega), Option.bind_some, wid1 (show i < N by omega) (by omega), List.range'_succ, List.filter_cons]
  cases hc : c i with
  | true =>
   rw [if_pos rfl, if_pos (by omega), if_pos rfl, sets_run hN hF d (i + 1) (by omega) k (acc ++ [(i : Int)]) (by omega) (by rw [List.length_append, List.length_singleton]; omega)]
   rw [List.append_assoc]; rfl
  | false =>
   rw [if_neg (by simp), if_neg (by simp), sets_run hN hF d (i + 1) (by omega) k acc (by omega) (by omega)]
theorem two_pow_small {n : Nat} (h : n ≤ 10) : 2 ^ n ≤ 1024 := Nat.le_trans (Nat.pow_le_pow_right (by decide) h) (by decide)
theorem ideals_ev {p : List Int} (hp : PO p) : Ev (fun k => impl_Poset_ideals.f k p) (ints (idealsN p)) := by
 have hn := hp.small
 have h2 := two_pow_small hn
 have hpos := Nat.two_pow_pos p.length
 obtain ⟨K, hK⟩ := Ev.all (g := fun s k => lit_ideals.f k (s : Int) p) (r := fun s => idealB p s) (2 ^ p.length) (fun s hs => by
  unfold lit_ideals.f
  refine Ev.bind (close_ev hp hs) (Ev.ret ?_)
  rw [← closeN_eq hp hs, Bool.eq_iff_iff, beq_iff_eq, beq_iff_eq]
  omega)
 refine ⟨K + 2 ^ p.length + 1, fun k hk => ?_⟩
 show sets_ideals.f _ k p = _
 unfold sets_ideals.f
 rw [all_eq (by omega), Option.bind_some]
 have e : wrap64 (((allN p : Nat) : Int) + 1) = ((2 ^ p.length : Nat) : Int) := by
  rw [wid (by unfold allN; omega) (by unfold allN; omega)]
  unfold allN; omega
 rw [e]
 have := sets_run (F := fun x => lit_ideals.f k x p) (c := idealB p) h2 (fun s hs => hK k (by omega) s hs) (2 ^ p.length) 0 (by omega) k [] (by omega) (by simp)
 rw [show ((0 : Nat) : Int) = 0 from rfl] at this
 rw [this, List.nil_append, ← List.range_eq_range']
 rfl
end Go.Proofs.Ytmbojobkiainlaa.Q
end

section
namespace Go.Proofs.Ytmbojobkiainlaa.F
open Go.RowKit Go.Maps Go.Proofs.YtmbojobkiainlaaW.PrintWords Go.Proofs.YtmbojobkiainlaaW.PrintLast Go.Proofs.YtmbojobkiainlaaW.PrintMore
set_option linter.unusedVariables false
set_option linter.unusedSimpArgs false
theorem mp_law : Keyed Try.prog 3 := int_keyed Try.underlying3
theorem mp_zero (w : World) : (zeroValue 3).run Try.prog w = .ok (.int .i64 0) w := by kernel_rfl
/-- An entry of a map's literal. -/
theorem wpList_insert_own {H : Type} {P : Program} (w : World) {ops : Array Oper} {rest : List Oper} {o : Oper} {a : Act} {Q : Exit → Act → World → Prop}
 (hg : o.guard = none) (m x v : Operand) (t : TypeId) (hop : o.op = Op.insert t m x v)
 (k e : TypeId) (K : Keyed P k) (ht : P.underlying t = some (.map k e)) (R : Value → Option (DataW H × List MemPlace)) (b n : Nat) (D : DataW H)
 (hm : a.eval m = .map (some b)) (hown : w.ownsMap P k R b n D) (hn : n < maxLen) (key val : Value) (kl : Lit) (hx : a.eval x = key) (hv : a.eval v = val) (hkey : keyOf P k key = some kl)
 (d : DataW H) (ps : List MemPlace) (hval : R val = some (d, ps))
 (hK : ∀ w', w'.ownsMap P k R b (n + 1) (D.put kl d) → w.grownBy w' (some b) → wpList P ops Q rest (a.put o.dst undef) w') :
 wpList P ops Q (o :: rest) a w := by
 refine wpList_plain hg fun K' hK' => ?_
 obtain ⟨w', hrun, r1, r2⟩ := hown.update K ht hn hkey hval
 unfold Oper.wp
 simp [execOp, hop, hm, hx, hv, hrun, Result.andThen]
 exact hK' _ _ (hK w' r1 r2)
theorem mp_nodup_le {α : Type} [DecidableEq α] : ∀ (l m : List α), l.Nodup → (∀ x ∈ l, x ∈ m) → l.length ≤ m.length
 | [], _, _, _ => Nat.zero_le _
 | x :: l, m, hn, h => by
  obtain ⟨h1, h2⟩ := List.nodup_cons.1 hn
  have hx : x ∈ m := h x List.mem_cons_self
  have := mp_nodup_le l (m.erase x) h2 (fun y hy => (List.mem_erase_of_ne (fun e => h1 (by rw [← e]; exact hy))).2 (h y (List.mem_cons_of_mem _ hy)))
  rw [List.length_erase_of_mem hx] at this
  have hp : 0 < m.length := List.length_pos_of_mem hx
  simp only [List.length_cons]
  omega
theorem mp_tight {H : Type} {P : Program} {k : TypeId} {R : Value → Option (DataW H × List MemPlace)} {w : World} {b n m : Nat} {D : DataW H} (h : w.ownsMap P k R b n D) (hm : Maps.size D ≤ m) : w.ownsMap P k R b m D := by
 obtain ⟨es, clock, hb, F, hs, rfl⟩ := h
 exact ⟨es, clock, hb, F, by rw [Maps.size_eq, length_sorted] at hm; simpa using hm, rfl⟩
/-- What a map reads as at the numbers of a list; it has no other keys. -/
structure MpReads {H : Type} (D : DataW H) (ids : List Int) (v : Int → Int) : Prop where
 at_ : ∀ s ∈ ids, D.atKey (.int .i64 s) (.lit (.int .i64 0)) = .lit (.int .i64 (v s))
 has_ : ∀ kl, Maps.has D kl = true → ∃ s ∈ ids, kl = .int .i64 s
theorem mp_norm {H : Type} {P : Program} {k : TypeId} {R : Value → Option (DataW H × List MemPlace)} {w : World} {b n : Nat} {D : DataW H} {ids : List Int} {v : Int → Int} (K : Keyed P k) (h : w.ownsMap P k R b n D) (hr : MpReads D ids v) : w.ownsMap P k R b ids.length D := by
 refine mp_tight h ?_
 obtain ⟨es, rfl, hp, hk⟩ := h.entries K
 rw [Maps.size_eq]
 haveI : DecidableEq Lit := fun a b => Classical.propDecidable (a = b)
 have hn : (es.map Prod.fst).Nodup := by
  rw [List.nodup_iff_pairwise_ne, List.pairwise_map]
  exact hp
 have hsub : ∀ x ∈ es.map Prod.fst, x ∈ ids.map (Lit.int .i64) := fun x hx => by
  obtain ⟨p, hp1, rfl⟩ := List.mem_map.1 hx
  obtain ⟨s, hs, e⟩ := hr.has_ p.1 (List.any_eq_true.2 ⟨p, hp1, WideAt.sameKey_self (hk p hp1)⟩)
  rw [e]
  exact List.mem_map.2 ⟨s, hs, rfl⟩
 have := mp_nodup_le _ _ hn hsub
 rw [List.length_map, List.length_map] at this
 exact this
theorem mp_empty {H : Type} (ids : List Int) : MpReads (.map [] : DataW H) ids (fun _ => 0) := ⟨fun _ _ => rfl, fun kl h => by cases h⟩
theorem mp_congr {H : Type} {D : DataW H} {ids : List Int} {v v' : Int → Int} (h : MpReads D ids v) (e : ∀ s ∈ ids, v s = v' s) : MpReads D ids v' := ⟨fun s hs => by rw [h.at_ s hs, e s hs], h.has_⟩
theorem mp_put {H : Type} {D : DataW H} {ids : List Int} {v : Int → Int} (hD : Maps.IsMap D) (h : MpReads D ids v) {t c : Int} (ht : t ∈ ids) : MpReads (D.put (.int .i64 t) (.lit (.int .i64 c))) ids (fun s => if s = t then c else v s) := by
 refine ⟨fun s hs => ?_, fun kl hk => ?_⟩
 ·by_cases e : s = t
  ·subst e
   rw [if_pos rfl]
   exact Maps.atKey_put_same hD (show WideAt.IsKeyLit (.int .i64 s) from trivial) _ _
  ·rw [if_neg e, Maps.atKey_put_other (fun e2 => e (by injection e2)) _ _]
   exact h.at_ s hs
 ·by_cases e : kl = .int .i64 t
  ·exact ⟨t, ht, e⟩
  ·rw [Maps.has_put_other e] at hk
   exact h.has_ kl hk
theorem mp_val {H : Type} {D : DataW H} {ids : List Int} {v : Int → Int} (h : MpReads D ids v) {x c : Int} (hk : Maps.has D (.int .i64 x) = true) (hat : ∀ zd, D.atKey (.int .i64 x) zd = .lit (.int .i64 c)) : x ∈ ids ∧ v x = c := by
 obtain ⟨s, hs, e⟩ := h.has_ _ hk
 injection e with _ e
 subst e
 have := h.at_ x hs
 rw [hat] at this
 injection this with this
 injection this with _ this
 exact ⟨hs, this.symm⟩
/-- The sum over those of a list for which something holds. -/
def mpTot (ids : List Int) (P : Int → Bool) (v : Int → Int) : Int := (ids.map fun s => if P s = true then v s else 0).sum
theorem mpTot_congr {ids : List Int} {P P' : Int → Bool} {v v' : Int → Int} (h : ∀ s ∈ ids, (if P s = true then v s else 0) = if P' s = true then v' s else 0) : mpTot ids P v = mpTot ids P' v' := by
 unfold mpTot
 rw [List.map_congr_left h]
theorem mpTot_step {P P' : Int → Bool} {v : Int → Int} {x : Int} (hP : P x = false) (ho : ∀ s, s ≠ x → P' s = P s) : ∀ ids : List Int, ids.Nodup → x ∈ ids → mpTot ids P' v = mpTot ids P v + if P' x = true then v x else 0
 | [], _, h => by cases h
 | s :: ids, hn, h => by
  obtain ⟨h1, h2⟩ := List.nodup_cons.1 hn
  unfold mpTot
  rw [List.map_cons, List.map_cons, List.sum_cons, List.sum_cons]
  by_cases e : s = x
  ·subst e
   have h3 : (if P s = true then v s else 0) = 0 := by rw [hP]; rfl
   rw [h3]
   have e2 : (ids.map fun s => if P' s = true then v s else 0) = ids.map fun s => if P s = true then v s else 0 := List.map_congr_left fun y hy => by rw [ho y (fun e => h1 (by rw [← e]; exact hy))]
   rw [e2]
   omega
  ·have hx : x ∈ ids := by
    rcases List.mem_cons.1 h with h | h
    ·exact absurd h.symm e
    ·exact h
   have := mpTot_step (v := v) hP ho ids h2 hx
   unfold mpTot at this
   rw [this, ho s e]
   omega
theorem mpTot_none {ids : List Int} {P : Int → Bool} {v : Int → Int} (h : ∀ s ∈ ids, P s = true → v s = 0) : mpTot ids P v = 0 := by
 have e : mpTot ids P v = mpTot ids (fun _ => false) v := mpTot_congr fun s hs => by
  cases hp : P s with
  | false => rfl
  | true => rw [if_pos rfl, h s hs hp]; rfl
 rw [e]
 unfold mpTot
 induction ids with
 | nil => rfl
 | cons s ids ih => rw [List.map_cons, List.sum_cons, ih (fun y hy => h y (List.mem_cons_of_mem _ hy)) (mpTot_congr fun s hs => by
  cases hp : P s with
  | false => rfl
  | true => rw [if_pos rfl, h s (List.mem_cons_of_mem _ hs) hp]; rfl)]; rfl
theorem mp_wrap_add (a b : Int) : wrap64 (wrap64 a + b) = wrap64 (a + b) := by unfold wrap64; omega
theorem mp_wrap_add' (a b : Int) : wrap64 (a + wrap64 b) = wrap64 (a + b) := by unfold wrap64; omega
/-- A key that is to come no more is one that is not of the map, or one that has come. -/
theorem mp_absent {H : Type} {D : DataW H} {ids : List Int} {v : Int → Int} (h : MpReads D ids v) {s : Int} (hs : s ∈ ids) (hk : Maps.has D (.int .i64 s) = false) : v s = 0 := by
 have := h.at_ s hs
 rw [Maps.atKey_of_not_has hk] at this
 injection this with this
 injection this with _ this
 exact this.symm
theorem mp_strike (left : Lit → Bool) (x s : Int) (h : s ≠ x) : ((fun z : Lit => left z && !z.sameKey (.int .i64 x)) (.int .i64 s)) = left (.int .i64 s) := by
 show (left (.int .i64 s) && !(Lit.int .i64 s).sameKey (.int .i64 x)) = _
 rw [Maps.sameKey_ne (fun e => h (by injection e))]
 simp
theorem mp_struck (left : Lit → Bool) (x : Int) : ((fun z : Lit => left z && !z.sameKey (.int .i64 x)) (.int .i64 x)) = false := by
 show (left (.int .i64 x) && !(Lit.int .i64 x).sameKey (.int .i64 x)) = _
 rw [WideAt.sameKey_self (show WideAt.IsKeyLit (.int .i64 x) from trivial)]
 simp
theorem mp_cell {ids : List Int} {W W1 : World} {b g c : Nat} {ok : Nat → Prop} (hr : Kd.R (Kd.int .i64) 3 W b ok (.slice (some ⟨g, 0, none⟩) ids.length c) ids) (hb : Below W.heap.size W W1) (i : Nat) (hi : i < ids.length) :
 W1.cell? ⟨g, i, none⟩ = some (.int .i64 (ids.getD i 0)) := by
 have h2 := (Kd.R_cell (0 : Int) (Kd.R_below hr hb) (i : Int) (by omega) (by omega)).1
 rw [Int.toNat_natCast] at h2
 rw [h2]
 congr 2
theorem mp_wf {n : Int} (h : -9223372036854775808 ≤ n ∧ n ≤ 9223372036854775807) : (Lit.int .i64 n).wf = true := WalkArith.wf_i64 h
theorem mp_grown {w w' : World} (hb : Below w.heap.size w w') : w.grownBy w' none := ⟨hb.os, hb.tape, hb.output, hb.size, fun k hk _ => hb.block k hk⟩
theorem mp_emptyO {X : World} {base n e sz : Nat} (hn : base ≤ n) (hx : X.heap[n]? = some (.cells #[] e (0, 0))) : X.ownsRow base e sz (.slice (some ⟨n, 0, none⟩) 0 0) 0 [] :=
 ⟨by simp, .inr ⟨n, 0, #[], rfl, hn, hx, by omega, by omega, by simp, by simp⟩⟩
theorem mp_emptyR {α : Type} (d : Kd α) {X : World} {base n e : Nat} {ok : Nat → Prop} (hn : base ≤ n) (hx : X.heap[n]? = some (.cells #[] e (0, 0))) (hok : ok n) : d.R e X base ok (.slice (some ⟨n, 0, none⟩) 0 0) ([] : List α) :=
 ⟨fun k hk => by
  have : n = k := by simpa [Value.ownBlock] using hk
  exact this ▸ hok, [], mp_emptyO hn hx, Reps.none _ _⟩
/-- A row's own block is no map. -/
theorem mp_apart {H : Type} {P : Program} {k : TypeId} {R : Value → Option (DataW H × List MemPlace)} {W : World} {b n base e : Nat} {D : DataW H} {ok : Nat → Prop} {v : Value} {xs : List Int} (h : Kd.R (Kd.int .i64) e W base ok v xs) (hm : W.ownsMap P k R b n D) : some b ≠ v.ownBlock := by
 intro hv
 obtain ⟨_, _, _, q, _, cells, hc⟩ := (Kd.R_bound h).1 b hv.symm
 obtain ⟨es, clock, hb, _⟩ := hm
 rw [hb] at hc
 cases hc
theorem mp_row_kept {H : Type} {P : Program} {k : TypeId} {R : Value → Option (DataW H × List MemPlace)} {W W1 : World} {b n base e : Nat} {D : DataW H} {ok : Nat → Prop} {v : Value} {xs : List Int} (h : Kd.R (Kd.int .i64) e W base ok v xs) (hm : W.ownsMap P k R b n D) (hg : W.grownBy W1 (some b)) : Kd.R (Kd.int .i64) e W1 base ok v xs :=
 Kd.R_grown2 h rfl hg (fun k hk => by cases hk; exact mp_apart h hm)
/-- An iterator's block is none of a row. -/
theorem mp_iter_kept {H : Type} {P : Program} {k : TypeId} {R : Value → Option (DataW H × List MemPlace)} {W W1 : World} {b r n base e cnt : Nat} {D : DataW H} {left : Lit → Bool} {ok : Nat → Prop} {v : Value} {xs : List Int} (h : Kd.R (Kd.int .i64) e W base ok v xs) (hm : W.ranges P k R b r n D left cnt) (hg : W.grownBy W1 (some r)) : Kd.R (Kd.int .i64) e W1 base ok v xs :=
 Kd.R_grown2 h rfl hg (fun k hk => by
  cases hk
  intro hv
  obtain ⟨_, _, _, q, _, cells, hc⟩ := (Kd.R_bound h).1 r hv.symm
  obtain ⟨es, clock, since, seen, c0, _, _, _, _, hr, _⟩ := hm
  rw [hr] at hc
  cases hc)
/-- How many rows end in t, out of how many end in each. -/
def cntNew (B : Int → Int → Bool) (ids : List Int) (v : Int → Int) (t : Int) : Int := wrap64 (mpTot ids (fun s => B s t) v)
def cntAt (B : Int → Int → Bool) (ids : List Int) : Nat → Int → Int
 | 0 => fun s => if s = 0 then 1 else 0
 | k + 1 => cntNew B ids (cntAt B ids k)
def cntOk (ids : List Int) : Bool := decide (ids.Nodup) && (decide ((0 : Int) ∈ ids) && (decide (ids.length ≤ 1024) && ids.all fun s => decide (-9223372036854775808 ≤ s ∧ s ≤ 9223372036854775807)))
theorem cntOk_parts {ids : List Int} (h : cntOk ids = true) : ids.Nodup ∧ (0 : Int) ∈ ids ∧ ids.length ≤ 1024 ∧ ∀ s ∈ ids, -9223372036854775808 ≤ s ∧ s ≤ 9223372036854775807 := by
 unfold cntOk at h
 rw [Bool.and_eq_true, Bool.and_eq_true, Bool.and_eq_true, decide_eq_true_eq, decide_eq_true_eq, decide_eq_true_eq] at h
 exact ⟨h.1, h.2.1, h.2.2.1, fun s hs => of_decide_eq_true (List.all_eq_true.1 h.2.2.2 s hs)⟩
/-- The map in which the next rows are counted, while the old one is ranged over: the values at the elements ahead of i are drawn up, that at t as far as the range has come. -/
def cntMid (B : Int → Int → Bool) (ids : List Int) (v : Int → Int) (i : Nat) (s : Int) : Int := if s ∈ ids.take i then cntNew B ids v s else 0
def cntIn (B : Int → Int → Bool) (ids : List Int) (v : Int → Int) (i : Nat) (t : Int) (left : Lit → Bool) (s : Int) : Int := if s = t then wrap64 (mpTot ids (fun s => B s t && !left (.int .i64 s)) v) else cntMid B ids v i s
theorem cnt_notyet {ids : List Int} (hn : ids.Nodup) {i : Nat} (hi : i < ids.length) : ids.getD i 0 ∉ ids.take i := by
 rw [List.getD_eq_getElem?_getD, List.getElem?_eq_getElem hi]
 show ids[i] ∉ ids.take i
 intro h
 obtain ⟨j, hj, e⟩ := List.mem_take_iff_getElem.1 h
 have := (List.nodup_iff_pairwise_ne.1 hn)
 rw [List.pairwise_iff_getElem] at this
 exact this j i (by omega) hi (by omega) e
theorem cnt_start {B : Int → Int → Bool} {D Dr : DataW Unit} {ids : List Int} {v : Int → Int} {i : Nat} {t : Int} (hr : MpReads Dr ids v) (h : MpReads D ids (cntMid B ids v i)) (ht : t ∉ ids.take i) : MpReads D ids (cntIn B ids v i t (Maps.has Dr)) := by
 refine mp_congr h fun s hs => ?_
 unfold cntIn
 by_cases e : s = t
 ·subst e
  rw [if_pos rfl, mpTot_none]
  ·unfold cntMid; rw [if_neg ht]; unfold wrap64; decide
  ·intro y hy hp
   simp only [Bool.and_eq_true, Bool.not_eq_true'] at hp
   exact mp_absent hr hy hp.2
 ·rw [if_neg e]
theorem cnt_end {B : Int → Int → Bool} {D : DataW Unit} {ids : List Int} {v : Int → Int} {i : Nat} {left : Lit → Bool} (hn : ids.Nodup) (hi : i < ids.length) (hl : ∀ kl, left kl = false) (h : MpReads D ids (cntIn B ids v i (ids.getD i 0) left)) : MpReads D ids (cntMid B ids v (i + 1)) := by
 refine mp_congr h fun s hs => ?_
 have e0 : ids.take (i + 1) = ids.take i ++ [ids.getD i 0] := by
  rw [List.take_add_one, List.getElem?_eq_getElem hi, List.getD_eq_getElem?_getD, List.getElem?_eq_getElem hi]; rfl
 unfold cntIn cntMid
 rw [e0]
 by_cases e : s = ids.getD i 0
 ·rw [if_pos e, if_pos (List.mem_append.2 (.inr (by rw [e]; exact List.mem_singleton.2 rfl))), e]
  unfold cntNew
  congr 1
  exact mpTot_congr fun y hy => by rw [hl]; simp
 ·rw [if_neg e]
  by_cases e2 : s ∈ ids.take i
  ·rw [if_pos e2, if_pos (List.mem_append.2 (.inl e2))]
  ·rw [if_neg e2, if_neg (fun h => by
    rcases List.mem_append.1 h with h | h
    ·exact e2 h
    ·exact e (List.mem_singleton.1 h))]
/-- An entry has come that is no part of t. -/
theorem cnt_skip {B : Int → Int → Bool} {D : DataW Unit} {ids : List Int} {v : Int → Int} {i : Nat} {t x : Int} {left : Lit → Bool} (hn : ids.Nodup) (hx : x ∈ ids) (hlx : left (.int .i64 x) = true) (hb : B x t = false)
 (h : MpReads D ids (cntIn B ids v i t left)) : MpReads D ids (cntIn B ids v i t (fun z => left z && !z.sameKey (.int .i64 x))) := by
 refine mp_congr h fun s hs => ?_
 unfold cntIn
 by_cases e : s = t
 ·rw [if_pos e, if_pos e]
  congr 1
  have := mpTot_step (v := v) (x := x) (P := fun s => B s t && !left (.int .i64 s)) (P' := fun s => B s t && !(fun z : Lit => left z && !z.sameKey (.int .i64 x)) (.int .i64 s)) (by rw [hlx]; simp) (fun y hy => by show (_ && !((fun z : Lit => left z && !z.sameKey (.int .i64 x)) (.int .i64 y))) = _; rw [mp_strike left x y hy]) ids hn hx
  rw [this, if_neg (by show ¬ ((_ && _) = true); rw [hb]; simp)]
  omega
 ·rw [if_neg e, if_neg e]
/-- An entry has come that is part of t. -/
theorem cnt_add {B : Int → Int → Bool} {D : DataW Unit} {ids : List Int} {v : Int → Int} {i : Nat} {t x c c0 : Int} {left : Lit → Bool} (hn : ids.Nodup) (ht : t ∈ ids) (hx : x ∈ ids) (hc : v x = c) (hlx : left (.int .i64 x) = true) (hb : B x t = true)
 (hD : Maps.IsMap D) (h : MpReads D ids (cntIn B ids v i t left)) (h0 : D.atKey (.int .i64 t) (.lit (.int .i64 0)) = .lit (.int .i64 c0)) : MpReads (D.put (.int .i64 t) (.lit (.int .i64 (wrap64 (c0 + c))))) ids (cntIn B ids v i t (fun z => left z && !z.sameKey (.int .i64 x))) := by
 refine mp_congr (mp_put hD h ht) fun s hs => ?_
 have e0 : c0 = wrap64 (mpTot ids (fun s => B s t && !left (.int .i64 s)) v) := by
  have := h.at_ t ht
  rw [h0] at this
  injection this with this
  injection this with _ this
  rw [this]
  unfold cntIn
  rw [if_pos rfl]
 unfold cntIn
 by_cases e : s = t
 ·rw [if_pos e, if_pos e, e0, mp_wrap_add]
  congr 1
  have := mpTot_step (v := v) (x := x) (P := fun s => B s t && !left (.int .i64 s)) (P' := fun s => B s t && !(fun z : Lit => left z && !z.sameKey (.int .i64 x)) (.int .i64 s)) (by rw [hlx]; simp) (fun y hy => by show (_ && !((fun z : Lit => left z && !z.sameKey (.int .i64 x)) (.int .i64 y))) = _; rw [mp_strike left x y hy]) ids hn hx
  rw [this, if_pos (by show (_ && _) = true; rw [hb, mp_struck]; rfl), hc]
 ·rw [if_neg e, if_neg e, if_neg e]
/-- The sum at the end: another entry. -/
theorem cnt_sum {ids : List Int} {v : Int → Int} {x c : Int} {left : Lit → Bool} (hn : ids.Nodup) (hx : x ∈ ids) (hc : v x = c) (hlx : left (.int .i64 x) = true) :
 wrap64 (wrap64 (mpTot ids (fun s => !left (.int .i64 s)) v) + c) = wrap64 (mpTot ids (fun s => !(fun z : Lit => left z && !z.sameKey (.int .i64 x)) (.int .i64 s)) v) := by
 rw [mp_wrap_add]
 congr 1
 have := mpTot_step (v := v) (x := x) (P := fun s => !left (.int .i64 s)) (P' := fun s => !(fun z : Lit => left z && !z.sameKey (.int .i64 x)) (.int .i64 s)) (by rw [hlx]; rfl) (fun y hy => by show (!((fun z : Lit => left z && !z.sameKey (.int .i64 x)) (.int .i64 y))) = _; rw [mp_strike left x y hy]) ids hn hx
 rw [this, if_pos (by show (!_) = true; rw [mp_struck]; rfl), hc]
theorem cnt_first {B : Int → Int → Bool} (ids : List Int) (h : (0 : Int) ∈ ids) : MpReads ((DataW.map [] : DataW Unit).put (.int .i64 0) (.lit (.int .i64 1))) ids (cntAt B ids 0) := mp_congr (mp_put ⟨[], rfl⟩ (mp_empty ids) h) (fun _ _ => rfl)
theorem cnt_mid0 {B : Int → Int → Bool} (ids : List Int) (v : Int → Int) : MpReads (DataW.map [] : DataW Unit) ids (cntMid B ids v 0) := mp_congr (mp_empty ids) (fun s _ => by unfold cntMid; rw [if_neg (by simp)])
theorem cnt_done {B : Int → Int → Bool} {D : DataW Unit} {ids : List Int} {v : Int → Int} (h : MpReads D ids (cntMid B ids v ids.length)) : MpReads D ids (cntNew B ids v) := mp_congr h (fun s hs => by unfold cntMid; rw [List.take_length, if_pos hs])
end Go.Proofs.Ytmbojobkiainlaa.F
end

section
namespace Go.Proofs.Ytmbojobkiainlaa.Q
open Go.RowKit Go.Proofs.YtmbojobkiainlaaW.PrintWords Go.Proofs.Ytmbojobkiainlaa.F
set_option linter.unusedVariables false
theorem mpTot_ints {P' : Int → Bool} {v' : Int → Int} {P : Nat → Bool} {v : Nat → Nat} : ∀ ids : List Nat, (∀ s ∈ ids, P' (s : Int) = P s) → (∀ s ∈ ids, v' (s : Int) = (v s : Int)) → mpTot (ints ids) P' v' = ((sumL ((ids.filter P).map v) : Nat) : Int)
 | [], _, _ => rfl
 | s :: ids, h1, h2 => by
  have ih := mpTot_ints ids (fun s hs => h1 s (List.mem_cons_of_mem _ hs)) (fun s hs => h2 s (List.mem_cons_of_mem _ hs))
  unfold mpTot ints at ih ⊢
  rw [List.map_cons, List.map_cons, List.sum_cons, ih, List.filter_cons]
  have e1 := h1 s List.mem_cons_self
  have e2 := h2 s List.mem_cons_self
  show (if P' (s : Int) = true then v' (s : Int) else 0) + _ = _
  rw [e1, e2]
  cases P s with
  | true => rw [if_pos rfl, if_pos rfl, List.map_cons]; simp only [sumL]; omega
  | false => rw [if_neg (by simp), if_neg (by simp)]; omega
theorem cntAt_eq {p : List Int} (hp : p.length ≤ 10) {B' : Int → Int → Bool} {B : Nat → Nat → Bool} (hB : ∀ s ∈ idealsN p, ∀ t ∈ idealsN p, B' (s : Int) (t : Int) = B s t) (hsub : ∀ s t, B s t = true → subB s t = true) :
 ∀ k, k ≤ 14 → ∀ t ∈ idealsN p, cntAt B' (ints (idealsN p)) k (t : Int) = ((wvN B (idealsN p) k t : Nat) : Int)
 | 0, _, t, _ => by
  unfold cntAt wvN
  by_cases h : t = 0
  ·subst h; rfl
  ·rw [if_neg h, if_neg (by omega)]; rfl
 | k + 1, hk, t, ht => by
  unfold cntAt cntNew
  rw [mpTot_ints (P := fun s => B s t) (v := wvN B (idealsN p) k) (idealsN p) (fun s hs => hB s hs t ht) (fun s hs => cntAt_eq hp hB hsub k (by omega) s hs)]
  have := wvN_small hp (B := B) (k := k + 1) (t := t) hsub (by omega)
  have e : wvN B (idealsN p) (k + 1) t = sumL (((idealsN p).filter fun s => B s t).map (wvN B (idealsN p) k)) := by conv => lhs; unfold wvN
  rw [e] at this ⊢
  exact wid (by omega) (by omega)
theorem cntOk_ids {p : List Int} (hp : p.length ≤ 10) : cntOk (ints (idealsN p)) = true := by
 have h2 : 2 ^ p.length ≤ 1024 := Nat.le_trans (Nat.pow_le_pow_right (by decide) hp) (by decide)
 unfold cntOk
 rw [Bool.and_eq_true, Bool.and_eq_true, Bool.and_eq_true, decide_eq_true_eq, decide_eq_true_eq, decide_eq_true_eq, List.all_eq_true]
 refine ⟨?_, List.mem_map.2 ⟨0, zero_mem p, rfl⟩, ?_, fun x hx => ?_⟩
 ·unfold ints
  rw [List.nodup_iff_pairwise_ne, List.pairwise_map]
  exact (List.nodup_iff_pairwise_ne.1 (idealsN_nodup p)).imp (fun h e => h (Int.ofNat.inj e))
 ·rw [ints_len]; have := idealsN_len p; omega
 ·obtain ⟨s, hs, rfl⟩ := List.mem_map.1 hx
  have := (mem_idealsN.1 hs).1
  refine decide_eq_true ?_
  show _ ≤ (s : Int) ∧ (s : Int) ≤ _
  omega
end Go.Proofs.Ytmbojobkiainlaa.Q
end

section
namespace Go.Proofs.Ytmbojobkiainlaa.F
open Go.RowKit Go.Maps Go.Proofs.YtmbojobkiainlaaW.PrintWords Go.Proofs.YtmbojobkiainlaaW.PrintLast Go.Proofs.YtmbojobkiainlaaW.PrintMore
set_option linter.unusedVariables false
set_option linter.unusedSimpArgs false
/-- Whether a set is part of another one. -/
def cntB (s t : Int) : Bool := Go.bits .andNot .i64 s t == 0
def impl_Poset_count.f (k : Nat) (l0_0 : List Int) (a1 : Int) : Option Int := (impl_Poset_ideals.f k l0_0).bind fun ids => if cntOk ids = true ∧ (0 ≤ a1 ∧ a1 ≤ 1000) then some (wrap64 (mpTot ids (fun _ => true) (cntAt cntB ids a1.toNat))) else none
theorem impl_Poset_count.mono : ∀ a0 a1 k, LeO (impl_Poset_count.f k a0 a1) (impl_Poset_count.f (k + 1) a0 a1) := fun a0 a1 k => LeO.bind (impl_Poset_ideals.mono _ _) (fun _ => LeO.refl _)
set_option maxHeartbeats 8000000 in
set_option maxRecDepth 100000 in
theorem impl_Poset_count.calls (k : Nat) (A0_0 : Option Addr) (c0_0 : Nat) (l0_0 : List Int) (a1 : Int) (r : Int) (w : World) (hr0_0 : Kd.C (Kd.int .i64) w A0_0 l0_0.length l0_0) (hc0_0 : l0_0.length ≤ c0_0) (h : impl_Poset_count.f k l0_0 a1 = some r) :
 Calls Try.prog 70 #[.agg #[.slice A0_0 l0_0.length c0_0], .int .i64 a1] w fun e w' => e = .returned (.int .i64 r) ∧ Below w.heap.size w w' := by
 have hu30 := Try.underlying26
 have hmm := @run_makeMap Try.prog
 unfold impl_Poset_count.f at h
 obtain ⟨ids, hid, h⟩ := Option.bind_eq_some_iff.1 h
 split at h
 rotate_left
 ·cases h
 rename_i hok
 have h := Option.some.inj h
 obtain ⟨⟨hnd, h0, hlen, hwf⟩, ha0, ha1⟩ : (ids.Nodup ∧ (0 : Int) ∈ ids ∧ ids.length ≤ 1024 ∧ ∀ s ∈ ids, -9223372036854775808 ≤ s ∧ s ≤ 9223372036854775807) ∧ 0 ≤ a1 ∧ a1 ≤ 1000 := ⟨cntOk_parts hok.1, hok.2⟩
 obtain ⟨m, rfl⟩ := Int.eq_ofNat_of_zero_le ha0
 rw [Int.toNat_natCast] at h
 have hm : m ≤ 1000 := by omega
 have hpos : 0 < ids.length := List.length_pos_of_mem h0
 have HRES := am h
 have HID := am hid
 have HND := am hnd
 have HZ := am h0
 have HLEN := am hlen
 have HWF := am hwf
 have HM := am hm
 have HP := am hpos
 have HR := am (Kd.C_alloc hr0_0 (.cells #[.slice A0_0 l0_0.length c0_0] 26 (0, 0)))
 have HC := am hc0_0
 clear h hid hnd h0 hlen hwf hm hpos hr0_0 hc0_0 hok ha0 ha1
 go_enter Try.func70, Try.ntmps70
 go_wp2_with (first
  | (go_at_call 127; (with_reducible refine (impl_Poset_ideals.calls k A0_0 c0_0 l0_0 ids _ HR.out HC.out HID.out).mono ?_); rintro e w1 ⟨vi, rfl, hr1, hb1⟩; obtain ⟨g, cap, rfl, hgb, hgl, _⟩ := Kd.R_form hr1 HP.out; have HR1 := am hr1; have HB1 := am ((below_alloc (Below.refl w.heap.size w) _).trans (hb1.mono (by simp))); clear hr1 hb1 hgb)
  | (refine wpList_insert_own _ rfl (.tmp 17) (.const (.int .i64 0)) (.const (.int .i64 1)) 96 rfl 3 3 mp_law Try.underlying96 (plainElem (H := Unit) Try.prog 3) w1.heap.size 0 _ rfl (World.ownsMap_made w1 Try.prog 3 _) (by unfold maxLen; omega) (.int .i64 0) (.int .i64 1) (.int .i64 0) rfl rfl (keyOf_int_mk Try.underlying3 (by decide)) (.lit (.int .i64 1)) [] (plainElem_int Try.underlying3 (by decide)) ?_; intro w2 hown2 hgrow2; have HMAP := am (mp_norm mp_law hown2 (cnt_first (B := cntB) ids HZ.out)); have HB2 := am (((Below.refl w1.heap.size w1).alloc (Nat.le_refl _) (.map #[] 0)).grown hgrow2 (by simp) (fun j hj => by cases hj; exact Nat.le_refl _)); clear hown2 hgrow2)
  | go_in)
 clear hmm
 have hmm := @run_makeMap Try.prog
 go_loopg [6, 20] (m + 1) (fun kq v6 v20 w' => ∃ (q b : Nat) (D : DataW Unit), v6 = .map (some b) ∧ v20 = .int .i64 (q : Int) ∧ Aside0 (kq + q = m + 1 ∧ q ≤ m) ∧ Aside0 (w1.heap.size ≤ b) ∧ Aside0 (w'.ownsMap Try.prog 3 (plainElem Try.prog 3) b ids.length D) ∧ Aside0 (MpReads D ids (cntAt cntB ids q)) ∧ Aside0 (Below w1.heap.size w1 w'))
 case atStart => exact ⟨0, _, _, rfl, rfl, ⟨rfl, Nat.zero_le _⟩, ⟨Nat.le_refl _⟩, HMAP, ⟨cnt_first ids HZ.out⟩, HB2⟩
 case round =>
  obtain ⟨q, b, D, rfl, rfl, HK, HBB, HD, HRD, HBW⟩ := hrel
  obtain ⟨WA, rfl⟩ : ∃ x, x = wr := ⟨wr, rfl⟩
  cases gk with
  | zero => exact absurd HK.out (by omega)
  | succ k1 =>
   clear HMAP HB2
   by_cases hq : q < m
   ·have d1 : decide ((q : Int) < (m : Int)) = true := decide_eq_true (by omega)
    have d2 : decide (q < m) = true := decide_eq_true hq
    have d3 := eq_true hq
    have HQ := am hq
    clear hq
    go_wp2_with (fail)
    go_loopg [25] (ids.length + 1) (fun kq v25 w' => ∃ (i : Nat) (D1 : DataW Unit), v25 = .int .i64 (i : Int) ∧ Aside0 (kq + i = ids.length + 1 ∧ i ≤ ids.length) ∧ Aside0 (w'.ownsMap Try.prog 3 (plainElem Try.prog 3) WA.heap.size ids.length D1) ∧ Aside0 (MpReads D1 ids (cntMid cntB ids (cntAt cntB ids q) i)) ∧ Aside0 (w'.ownsMap Try.prog 3 (plainElem Try.prog 3) b ids.length D) ∧ Aside0 (Below w1.heap.size w1 w'))
    case atStart => exact ⟨0, _, rfl, ⟨rfl, Nat.zero_le _⟩, ⟨(World.ownsMap_made WA Try.prog 3 _).mono (Nat.zero_le _)⟩, ⟨cnt_mid0 ids _⟩, ⟨HD.out.alloc _⟩, ⟨HBW.out.alloc HBW.out.size _⟩⟩
    case round =>
     obtain ⟨i, D1, rfl, HK2, HD1, HRD1, HD0, HBW1⟩ := hrel
     obtain ⟨WB, rfl⟩ : ∃ x, x = wr := ⟨wr, rfl⟩
     cases gk with
     | zero => exact absurd HK2.out (by omega)
     | succ k2 =>
      by_cases hi : i < ids.length
      ·have hcell := mp_cell HR1.out HBW1.out i hi
       have hmem : ids.getD i 0 ∈ ids := by rw [List.getD_eq_getElem?_getD, List.getElem?_eq_getElem hi]; exact List.getElem_mem hi
       have HT := am (cnt_notyet HND.out hi)
       obtain ⟨t, ht⟩ : ∃ t, t = ids.getD i 0 := ⟨_, rfl⟩
       rw [← ht] at hcell hmem HT
       have HTE := am ht
       have HTM := am hmem
       clear ht hmem
       have e1 : (0 : Int) ≤ (i : Int) := by omega
       have e2 : (i : Int) < (ids.length : Int) := by omega
       have e3 : decide ((i : Int) < (ids.length : Int)) = true := decide_eq_true e2
       have e4 : decide (i < ids.length) = true := decide_eq_true hi
       have e5 := eq_true hi
       have HI := am hi
       clear hi
       go_wp2_with (first
        | (at_range; refine wpList_range_own _ rfl _ 96 rfl 3 3 mp_law Try.underlying96 _ b ids.length D rfl HD0.out ?_; intro w0 hrg0 hg0 hs0; have HRG0 := am hrg0; have HG0 := am hg0; clear hrg0 hg0 hs0)
        | go_in)
       go_frame
       clear hcell e1 e2 e3 e4 e5
       go_loopg [10] (Maps.size D + 1) (fun kq _ w' => ∃ (left : Lit → Bool) (cnt : Nat) (D2 : DataW Unit), Aside0 (kq = cnt + 1) ∧ Aside0 (w'.ranges Try.prog 3 (plainElem Try.prog 3) b WB.heap.size ids.length D left cnt) ∧ Aside0 (w'.ownsMap Try.prog 3 (plainElem Try.prog 3) WA.heap.size ids.length D2) ∧ Aside0 (MpReads D2 ids (cntIn cntB ids (cntAt cntB ids q) i t left)) ∧ Aside0 (Below w1.heap.size w1 w'))
       case atStart => exact ⟨_, _, _, ⟨rfl⟩, HRG0, ⟨HD1.out.kept HG0.out (by simp)⟩, ⟨cnt_start HRD.out HRD1.out HT.out⟩, ⟨HBW1.out.grown HG0.out HBW1.out.size (fun j hj => by cases hj)⟩⟩
       case round =>
        obtain ⟨left, cnt, D2, HK3, HRG, HD2, HRD2, HBW2⟩ := hrel
        obtain ⟨WC, rfl⟩ : ∃ x, x = wr := ⟨wr, rfl⟩
        have HNE : Aside0 (WB.heap.size ≠ b ∧ WB.heap.size ≠ WA.heap.size ∧ w1.heap.size ≤ WA.heap.size ∧ w1.heap.size ≤ WB.heap.size ∧ WA.heap.size ≠ b) := ⟨by have h1 := HD0.out.lt; have h2 := HD1.out.lt; have h3 := HBW.out.size; have h4 := HBW1.out.size; have h5 := HD.out.lt; omega⟩
        go_wp2_with (first
         | (at_next; refine wpList_next_ranges_ii _ rfl _ rfl 3 3 .i64 .i64 mp_law Try.underlying3 Try.underlying3 b WB.heap.size ids.length D left cnt rfl HRG.out ?_ ?_)
         | go_in)
        ·-- nothing is left
         intro hc0 hl0
         have hwi : wrap64 ((i : Int) + 1) = ((i + 1 : Nat) : Int) := by unfold wrap64; have := HI.out; have := HLEN.out; omega
         have HL0 := am hl0
         clear hc0 hl0
         go_wp2_with (fail)
         go_roundg k2
         case measure => omega
         case rel =>
          refine ⟨i + 1, D2, by rw [hwi], ⟨by have := HK2.out; have := HI.out; omega⟩, HD2, ⟨cnt_end HND.out HI.out HL0.out (by have := HRD2.out; rwa [HTE.out] at this)⟩, ⟨HRG.out.owns⟩, HBW2⟩
        ·intro x c w3 cnt1 hwx hwc hlx hat hrg1 hlt hg1 hs1 hen
         have HXV := am (mp_val HRD.out (Maps.has_true_of_atKey hat) hat)
         have HLX := am hlx
         have HRG1 := am hrg1
         have HLT := am hlt
         have HD2' := am (HD2.out.kept hg1 (by have := HNE.out; intro e; have := Option.some.inj e; omega))
         have HBW3 := am (HBW2.out.grown hg1 HBW2.out.size (fun j hj => by cases hj; exact HNE.out.2.2.2.1))
         clear hwx hwc hlx hat hrg1 hlt hg1 hs1
         cases hb : (Go.bits .andNot .i64 x t == 0) with
         | false =>
          have HB0 : Aside0 (cntB x t = _) := ⟨hb⟩
          go_wp2_with (fail)
          go_roundg (cnt1 + 1)
          case measure => have := HK3.out; have := HLT.out; omega
          case rel => exact ⟨_, cnt1, D2, ⟨rfl⟩, HRG1, HD2', ⟨cnt_skip HND.out HXV.out.1 HLX.out HB0.out HRD2.out⟩, HBW3⟩
         | true =>
          have HB0 : Aside0 (cntB x t = _) := ⟨hb⟩
          go_wp2_with (first
           | (at_lookup; refine wpList_lookup_own_int _ rfl _ _ 96 rfl 3 3 .i64 mp_law Try.underlying96 Try.underlying3 (mp_zero _) WA.heap.size ids.length D2 rfl HD2'.out _ _ rfl (keyOf_int_mk Try.underlying3 (mp_wf (HWF.out t HTM.out))) ?_; intro c0 hat0 hwc0; have HAT0 := am hat0; clear hat0 hwc0)
           | (at_mapUpdate; refine wpList_mapUpdate_own _ rfl _ _ _ 96 rfl 3 3 mp_law Try.underlying96 _ WA.heap.size ids.length D2 rfl HD2'.out (by have := HLEN.out; unfold maxLen; omega) _ _ _ rfl rfl (keyOf_int_mk Try.underlying3 (mp_wf (HWF.out t HTM.out))) _ [] (plainElem_int Try.underlying3 (wrap64_wf _)) ?_; intro w4 hown4 hgrow4; have HD4 := am hown4; have HG4 := am hgrow4; clear hown4 hgrow4)
           | go_in)
          have HRD4 := am (cnt_add (i := i) (v := cntAt cntB ids q) HND.out HTM.out HXV.out.1 HXV.out.2 HLX.out HB0.out HD2'.out.isMap HRD2.out HAT0.out)
          go_roundg (cnt1 + 1)
          case measure => have := HK3.out; have := HLT.out; omega
          case rel => exact ⟨_, cnt1, _, ⟨rfl⟩, ⟨HRG1.out.kept HG4.out (by have := HNE.out; intro e; have := Option.some.inj e; omega) (by have := HNE.out; intro e; have := Option.some.inj e; omega)⟩, ⟨mp_norm mp_law HD4.out HRD4.out⟩, HRD4, ⟨HBW3.out.grown HG4.out HBW3.out.size (fun j hj => by cases hj; exact HNE.out.2.2.1)⟩⟩
      ·have hi' : i = ids.length := by have := HK2.out; omega
       have e3 : decide ((i : Int) < (ids.length : Int)) = false := decide_eq_false (by omega)
       have e4 : decide (i < ids.length) = false := decide_eq_false hi
       have e5 : (i < ids.length) = False := eq_false hi
       have hwq : wrap64 ((q : Int) + 1) = ((q + 1 : Nat) : Int) := by unfold wrap64; have := HQ.out; have := HM.out; omega
       have HE := am hi'
       clear hi hi'
       go_wp2_with (fail)
       go_roundg k1
       case measure => omega
       case rel => exact ⟨q + 1, _, D1, rfl, by rw [hwq], ⟨by have := HK.out; have := HQ.out; omega⟩, ⟨HBW.out.size⟩, HD1, ⟨cnt_done (by have := HRD1.out; rwa [HE.out] at this)⟩, HBW1⟩
   ·have HQE : Aside0 (q = m) := ⟨by have := HK.out; omega⟩
    have d1 : decide ((q : Int) < (m : Int)) = false := decide_eq_false (by omega)
    have d2 : decide (q < m) = false := decide_eq_false hq
    have d3 : (q < m) = False := eq_false hq
    clear hq
    go_wp2_with (first
     | (at_range; refine wpList_range_own _ rfl _ 96 rfl 3 3 mp_law Try.underlying96 _ b ids.length D rfl HD.out ?_; intro w0 hrg0 hg0 hs0; have HRG0 := am hrg0; have HG0 := am hg0; clear hrg0 hg0 hs0)
     | go_in)
    go_frame
    go_loopg [12] (Maps.size D + 1) (fun kq v12 w' => ∃ (left : Lit → Bool) (cnt : Nat) (n : Int), v12 = .int .i64 n ∧ Aside0 (n = wrap64 (mpTot ids (fun s => !left (.int .i64 s)) (cntAt cntB ids q))) ∧ Aside0 (kq = cnt + 1) ∧ Aside0 (w'.ranges Try.prog 3 (plainElem Try.prog 3) b WA.heap.size ids.length D left cnt) ∧ Aside0 (Below w1.heap.size w1 w'))
    case atStart => exact ⟨_, _, 0, rfl, ⟨by rw [mpTot_none (fun s hs hk => mp_absent HRD.out hs (by simpa using hk))]; unfold wrap64; decide⟩, ⟨rfl⟩, HRG0, ⟨HBW.out.grown HG0.out HBW.out.size (fun j hj => by cases hj)⟩⟩
    case round =>
     obtain ⟨left, cnt, n, rfl, HN, HK3, HRG, HBW2⟩ := hrel
     obtain ⟨WC, rfl⟩ : ∃ x, x = wr := ⟨wr, rfl⟩
     go_wp2_with (first
      | (at_next; refine wpList_next_ranges_ii _ rfl _ rfl 3 3 .i64 .i64 mp_law Try.underlying3 Try.underlying3 b WA.heap.size ids.length D left cnt rfl HRG.out ?_ ?_)
      | go_in)
     ·intro hc0 hl0
      have HL0 := am hl0
      clear hc0 hl0
      go_wp2_with (fail)
      go_ret
      have hn : n = r := by
       rw [HN.out, ← HRES.out, ← HQE.out]
       congr 1
       exact mpTot_congr fun y hy => by rw [HL0.out]; rfl
      subst hn
      exact ⟨rfl, HB1.out.trans (HBW2.out.mono HB1.out.size)⟩
     ·intro x c w3 cnt1 hwx hwc hlx hat hrg1 hlt hg1 hs1 hen
      have HXV := am (mp_val HRD.out (Maps.has_true_of_atKey hat) hat)
      have HSUM := am (cnt_sum (ids := ids) HND.out HXV.out.1 HXV.out.2 hlx)
      have HRG1 := am hrg1
      have HLT := am hlt
      have HBW3 := am (HBW2.out.grown hg1 HBW2.out.size (fun j hj => by cases hj; exact HBW.out.size))
      clear hwx hwc hlx hat hrg1 hlt hg1 hs1
      go_wp2_with (fail)
      go_roundg (cnt1 + 1)
      case measure => have := HK3.out; have := HLT.out; omega
      case rel => exact ⟨_, cnt1, _, rfl, ⟨by rw [HN.out]; exact HSUM.out⟩, ⟨rfl⟩, HRG1, HBW3⟩
end Go.Proofs.Ytmbojobkiainlaa.F
end

section
namespace Go.Proofs.Ytmbojobkiainlaa.F
open Go.RowKit Go.Proofs.YtmbojobkiainlaaW.PrintWords Go.Proofs.YtmbojobkiainlaaW.PrintLast Go.Proofs.YtmbojobkiainlaaW.PrintMore
attribute [local go_sem] max2_int min2_int max_two min_two max_three min_three max_four min_four
set_option linter.unusedVariables false
set_option linter.unusedSimpArgs false
def impl_CountLabels.f (k : Nat) (l0_0 : List Int) (a1 : Int) : Option (Int × Bool) := (impl_IsPoset.f k l0_0).bind fun t669 => (if t669 = true then ((impl_isBound.f a1).bind fun t670 => (if t670 = true then ((impl_Poset_count.f k l0_0 a1).bind fun t671 => (some (t671, true))) else (some (0, false)))) else (some (0, false)))
theorem impl_CountLabels.mono : ∀ a0 a1 k, LeO (impl_CountLabels.f k a0 a1) (impl_CountLabels.f (k + 1) a0 a1) := by
 intro a0 a1 k
 unfold impl_CountLabels.f
 repeat' first
  | (with_reducible exact impl_IsPoset.mono _ _)
  | (with_reducible exact impl_Poset_count.mono _ _ _)
  | (with_reducible exact LeO.refl _)
  | (with_reducible exact LeO.none _)
  | (with_reducible refine LeO.ite ?_ ?_)
  | (with_reducible refine LeO.bind ?_ (fun _ => ?_))
  | exact impl_IsPoset.mono _ _
  | exact impl_Poset_count.mono _ _ _
  | exact LeO.none _
  | refine LeO.ite ?_ ?_
  | refine LeO.bind ?_ (fun _ => ?_)
set_option maxHeartbeats 8000000 in
set_option maxRecDepth 100000 in
theorem impl_CountLabels.calls (k : Nat) (A0_0 : Option Addr) (c0_0 : Nat) (l0_0 : List Int) (a1 : Int) (r1 : Int) (r2 : Bool) (w : World) (hr0_0 : Kd.C (Kd.int .i64) w A0_0 l0_0.length l0_0) (hc0_0 : l0_0.length ≤ c0_0) (h : impl_CountLabels.f k l0_0 a1 = some (r1, r2)) :
 Calls Try.prog 30 #[.agg #[.slice A0_0 l0_0.length c0_0], .int .i64 a1] w fun e w' => e = .returned (.tuple #[.int .i64 r1, .bool r2]) ∧ Below w.heap.size w w' := by
 have hu26 := Try.underlying26
 have HR0_0 := am hr0_0
 have HC0_0 := am hc0_0
 clear hr0_0 hc0_0
 have HB := am (Below.refl w.heap.size w)
 have H := h
 unfold impl_CountLabels.f at H
 clear h
 replace H := Option.bind_eq_some_iff.mp H
 obtain ⟨t669, A30, H⟩ := H
 (try dsimp only at H)
 have A3 := am A30
 clear A30
 by_cases c4 : t669 = true
 ·subst c4
  rw [if_pos rfl] at H
  replace H := Option.bind_eq_some_iff.mp H
  obtain ⟨t670, A50, H⟩ := H
  (try dsimp only at H)
  have A5 := am A50
  clear A50
  by_cases c6 : t670 = true
  ·subst c6
   rw [if_pos rfl] at H
   replace H := Option.bind_eq_some_iff.mp H
   obtain ⟨t671, A70, H⟩ := H
   (try dsimp only at H)
   have A7 := am A70
   clear A70
   simp only [Option.some.injEq, Prod.mk.injEq] at H
   obtain ⟨rfl, rfl⟩ := H
   go_enter Try.func30, Try.ntmps30
   go_wp2_with (first | ((with_reducible refine gate_dst (N := 2) rfl ?_); refine qx (N := 2) (cs := #[.slice A0_0 l0_0.length c0_0]) (t := 26) ?_; intro gb668 hg w8 hbox hb; have n0_ := am (below_step qB hb); have BK668 := am (hbox); have GW668 := am (qg w hg); have GE668 := am (qg w hg); clear HB; have HB := n0_; clear n0_; clear hb hbox hg; have hcz9_0 := qz w8 BK668.out; have hfz9_0 := blk_frozen BK668.out 0) | ((with_reducible refine gate_callee (f := 40) rfl ?_); refine gL (some 7) Try.func40 #[.agg #[.slice A0_0 l0_0.length c0_0]] ?_; (with_reducible refine (impl_IsPoset.calls k _ _ l0_0 true _ ?side1 ?side2 A3.out).mono ?_); (case side1 => exact qC (Kd.C_below HR0_0.out HB.out)); (case side2 => exact HC0_0.out); rintro e w10 ⟨rfl, hb⟩; refine ⟨_, rfl, ?_⟩; replace BK668 := am (blk_below (g := gb668) (o := .cells #[.slice A0_0 l0_0.length c0_0] 26 (0, 0)) (qb BK668.out) hb); replace HB := am (below_step qB hb); (try clear hb); (try clear hb2); (try clear hk); (try clear hi)) | (go_at_call 69; (with_reducible refine (impl_isBound.calls a1 true _ A5.out).mono ?_); rintro e w' ⟨rfl, ⟨nd, rfl⟩⟩; have hcz11_0 := qz w10 BK668.out; have hfz11_0 := blk_frozen BK668.out 0) | ((with_reducible refine gate_callee (f := 70) rfl ?_); refine gL (some 16) Try.func70 #[.agg #[.slice A0_0 l0_0.length c0_0], .int .i64 a1] ?_; (with_reducible refine (impl_Poset_count.calls k _ _ l0_0 a1 t671 _ ?side1 ?side2 A7.out).mono ?_); (case side1 => exact qC (Kd.C_below HR0_0.out qB)); (case side2 => exact HC0_0.out); rintro e w12 ⟨rfl, hb⟩; refine ⟨_, rfl, ?_⟩; replace BK668 := am (blk_below (g := gb668) (o := .cells #[.slice A0_0 l0_0.length c0_0] 26 (0, 0)) (qb BK668.out) hb); replace HB := am (below_step qB hb); (try clear hb); (try clear hb2); (try clear hk); (try clear hi)))
   go_ret2
   exact ⟨qr, qB⟩
  ·replace c6 := Bool.eq_false_iff.mpr c6
   subst c6
   rw [if_neg (show ¬ (false = true) by decide)] at H
   simp only [Option.some.injEq, Prod.mk.injEq] at H
   obtain ⟨rfl, rfl⟩ := H
   go_enter Try.func30, Try.ntmps30
   go_wp2_with (first | ((with_reducible refine gate_dst (N := 2) rfl ?_); refine qx (N := 2) (cs := #[.slice A0_0 l0_0.length c0_0]) (t := 26) ?_; intro gb668 hg w13 hbox hb; have n0_ := am (below_step qB hb); have BK668 := am (hbox); have GW668 := am (qg w hg); have GE668 := am (qg w hg); clear HB; have HB := n0_; clear n0_; clear hb hbox hg; have hcz14_0 := qz w13 BK668.out; have hfz14_0 := blk_frozen BK668.out 0) | ((with_reducible refine gate_callee (f := 40) rfl ?_); refine gL (some 7) Try.func40 #[.agg #[.slice A0_0 l0_0.length c0_0]] ?_; (with_reducible refine (impl_IsPoset.calls k _ _ l0_0 true _ ?side1 ?side2 A3.out).mono ?_); (case side1 => exact qC (Kd.C_below HR0_0.out HB.out)); (case side2 => exact HC0_0.out); rintro e w15 ⟨rfl, hb⟩; refine ⟨_, rfl, ?_⟩; replace BK668 := am (blk_below (g := gb668) (o := .cells #[.slice A0_0 l0_0.length c0_0] 26 (0, 0)) (qb BK668.out) hb); replace HB := am (below_step qB hb); (try clear hb); (try clear hb2); (try clear hk); (try clear hi)) | (go_at_call 69; (with_reducible refine (impl_isBound.calls a1 false _ A5.out).mono ?_); rintro e w' ⟨rfl, ⟨nd, rfl⟩⟩))
   go_ret2
   exact ⟨qr, qB⟩
 ·replace c4 := Bool.eq_false_iff.mpr c4
  subst c4
  rw [if_neg (show ¬ (false = true) by decide)] at H
  simp only [Option.some.injEq, Prod.mk.injEq] at H
  obtain ⟨rfl, rfl⟩ := H
  go_enter Try.func30, Try.ntmps30
  go_wp2_with (first | ((with_reducible refine gate_dst (N := 2) rfl ?_); refine qx (N := 2) (cs := #[.slice A0_0 l0_0.length c0_0]) (t := 26) ?_; intro gb668 hg w16 hbox hb; have n0_ := am (below_step qB hb); have BK668 := am (hbox); have GW668 := am (qg w hg); have GE668 := am (qg w hg); clear HB; have HB := n0_; clear n0_; clear hb hbox hg; have hcz17_0 := qz w16 BK668.out; have hfz17_0 := blk_frozen BK668.out 0) | ((with_reducible refine gate_callee (f := 40) rfl ?_); refine gL (some 7) Try.func40 #[.agg #[.slice A0_0 l0_0.length c0_0]] ?_; (with_reducible refine (impl_IsPoset.calls k _ _ l0_0 false _ ?side1 ?side2 A3.out).mono ?_); (case side1 => exact qC (Kd.C_below HR0_0.out HB.out)); (case side2 => exact HC0_0.out); rintro e w18 ⟨rfl, hb⟩; refine ⟨_, rfl, ?_⟩; replace BK668 := am (blk_below (g := gb668) (o := .cells #[.slice A0_0 l0_0.length c0_0] 26 (0, 0)) (qb BK668.out) hb); replace HB := am (below_step qB hb); (try clear hb); (try clear hb2); (try clear hk); (try clear hi)))
  go_ret2
  exact ⟨qr, qB⟩
end Go.Proofs.Ytmbojobkiainlaa.F
end

section
namespace Go.Proofs.Ytmbojobkiainlaa.Q
open Go.RowKit Go.Proofs.YtmbojobkiainlaaW.PrintWords Go.Proofs.Ytmbojobkiainlaa.F
set_option linter.unusedVariables false
theorem cntB_eq {s t : Nat} (hs : s < 2 ^ 62) (ht : t < 2 ^ 62) : cntB (s : Int) (t : Int) = subB s t := by
 unfold cntB subB
 rw [bits_andNotN hs ht, Bool.eq_iff_iff, beq_iff_eq, beq_iff_eq]
 omega
theorem stB_false (p : List Int) (s t : Nat) : stB p false s t = subB s t := by unfold stB; simp
theorem wv_total (p : List Int) (k : Nat) : wvN (stB p false) (idealsN p) (k + 1) (allN p) = sumL ((idealsN p).map (wvN (stB p false) (idealsN p) k)) := by
 conv => lhs; unfold wvN
 have e : (idealsN p).filter (fun s => stB p false s (allN p)) = idealsN p := List.filter_eq_self.2 fun s hs => by rw [stB_false]; exact sub_all (mem_idealsN.1 hs).1
 rw [e]
theorem count_ev {p : List Int} (hp : PO p) {m : Nat} (hm : m ≤ 13) : Ev (fun k => impl_Poset_count.f k p (m : Int)) ((wvN (stB p false) (idealsN p) (m + 1) (allN p) : Nat) : Int) := by
 have hn := hp.small
 unfold impl_Poset_count.f
 refine Ev.bind (ideals_ev hp) (Ev.yes ⟨cntOk_ids hn, by omega, by omega⟩ (Ev.ret ?_))
 rw [Int.toNat_natCast, mpTot_ints (P := fun _ => true) (v := wvN (stB p false) (idealsN p) m) (idealsN p) (fun _ _ => rfl) (fun s hs => ?_)]
 rotate_left
 ·refine cntAt_eq hn (fun a ha b hb => ?_) (fun s t h => stB_sub h) m (by omega) s hs
  rw [stB_false]
  exact cntB_eq (lt_pow (mem_idealsN.1 ha).1 (by omega)) (lt_pow (mem_idealsN.1 hb).1 (by omega))
 have hb := wvN_small hn (B := stB p false) (k := m + 1) (t := allN p) (fun s t h => stB_sub h) (by omega)
 rw [wv_total] at hb ⊢
 rw [List.filter_eq_self.2 (fun _ _ => rfl)]
 exact wid (by omega) (by omega)
end Go.Proofs.Ytmbojobkiainlaa.Q
end

section
namespace Go.Proofs.Ytmbojobkiainlaa.F
open Go.RowKit Go.Proofs.YtmbojobkiainlaaW.PrintWords Go.Proofs.YtmbojobkiainlaaW.PrintLast Go.Proofs.YtmbojobkiainlaaW.PrintMore
set_option linter.unusedVariables false
set_option linter.unusedSimpArgs false
def impl_rectangle.f (k : Nat) (a0 a1 : Int) : Option (List Int) := made_rectangle.f (fun j i => lit_rectangle.f j i a1) k (wrap64 (a0 * a1))
theorem impl_rectangle.mono : ∀ a0 a1 k, LeO (impl_rectangle.f k a0 a1) (impl_rectangle.f (k + 1) a0 a1) := fun a0 a1 k => made_rectangle.mono _ _ k
set_option maxHeartbeats 8000000 in
set_option maxRecDepth 100000 in
theorem impl_rectangle.calls (k : Nat) (a0 : Int) (a1 : Int) (r : List Int) (w : World) (h : impl_rectangle.f k a0 a1 = some r) :
 Calls Try.prog 110 #[.int .i64 a0, .int .i64 a1] w fun e w' => ∃ v0_ : Value, e = .returned (.agg #[v0_]) ∧ Kd.R (Kd.int .i64) 3 w' w.heap.size (fun _ => True) v0_ r ∧ Below w.heap.size w w' := by
 unfold impl_rectangle.f at h
 have hmf : ∀ (fn : Fn) (first cap : Array Value) (w : World), (Instr.makeFunc fn first cap).run Try.prog w = .ok (.func fn first cap) w := fun _ _ _ _ => rfl
 have hu39 := Try.underlying26
 obtain ⟨W, hW⟩ : ∃ W, W = (w.alloc (.cells #[.int .i64 a1] 3 (0, 0))).alloc (.cells #[.slice none 0 0] 26 (0, 0)) := ⟨_, rfl⟩
 have hsz : W.heap.size = w.heap.size + 2 := by rw [hW]; simp
 have hcB : W.cell? ⟨w.heap.size, 0, none⟩ = some (.int .i64 a1) := by rw [hW, World.cell?_alloc_past _ _ _ (by simp), World.cell?_alloc_at _ _ _ _ rfl]; rfl
 have hP : W.heap[w.heap.size + 1]? = some (.cells #[.slice none 0 0] 26 (0, 0)) := by rw [hW]; simpa using heap_alloc_new (w.alloc (.cells #[.int .i64 a1] 3 (0, 0))) (.cells #[.slice none 0 0] 26 (0, 0))
 have hbW : Below w.heap.size w W := by rw [hW]; exact ((Below.refl _ _).alloc (Nat.le_refl _) _).alloc (by simp) _
 have HF : Aside0 (∀ (x0_ : Int) (x1_ : Int) (r_ : Bool) (W' : World), lit_rectangle.f x0_ x1_ a1 = some r_ → Below W.heap.size W W' → Calls Try.prog 143 #[.int .i64 x0_, .int .i64 x1_, .pointer (some ⟨w.heap.size, 0, none⟩)] W' fun e w' => e = .returned (.bool r_) ∧ Drawn0 W' w') :=
  ⟨fun x0_ x1_ r_ W' hF hb => lit_rectangle.calls w.heap.size x0_ x1_ a1 r_ W' ((hb.cell (p := ⟨w.heap.size, 0, none⟩) (by rw [hsz]; show w.heap.size < w.heap.size + 2; omega)).trans hcB) hF⟩
 have hcall := made_rectangle.calls (fun j i => lit_rectangle.f j i a1) w.heap.size k _ r W HF h
 have hcall' : Aside0 (Calls Try.prog 134 #[.int .i64 (wrap64 (a0 * a1)), .func (.func 143) #[] #[.pointer (some ⟨w.heap.size, 0, none⟩)]] ((w.alloc (.cells #[.int .i64 a1] 3 (0, 0))).alloc (.cells #[.slice none 0 0] 26 (0, 0))) fun e w' => ∃ v0_ : Value, e = .returned (.agg #[v0_]) ∧ (Kd.R (Kd.int .i64) 3 w' W.heap.size (fun _ => True) v0_ r ∧ Below W.heap.size W w')) := ⟨by rw [← hW]; exact hcall⟩
 have HW := Lib.hid hW
 clear hcall HF h hW
 have HP := am hP
 have HsW := am hsz
 have HbW := am hbW
 clear hcB hP hsz hbW
 go_enter Try.func110, Try.ntmps110
 go_wp2_with fail
 refine hcall'.out.mono ?_
 rintro e w1 ⟨v, rfl, ho, hb⟩
 have hlt : w.heap.size + 1 < W.heap.size := by have := HsW.out; omega
 have hP1 := am ((hb.block (w.heap.size + 1) hlt).trans HP.out)
 have hc1 : w1.cell? ⟨w.heap.size + 1, 0, none⟩ = some (.slice none 0 0) := (blk_cell hP1.out 0).trans rfl
 have hf1 := blk_frozen hP1.out 0
 obtain ⟨Ao, co, eo⟩ := Kd.R_slice ho
 subst eo
 have Ho := am ho
 have Hb := am hb
 have Hlt := am hlt
 clear ho hb hlt hmf
 go_wp2
 refine bodyPost_ret (results_cell_row rfl _ _ (w.heap.size + 1) 26 #[.slice Ao r.length co] (0, 0) _ rfl (blk_put (cs := #[.slice none 0 0]) hP1.out 0 _ rfl) Try.underlying26 rfl (by kernel_rfl)) rfl ⟨_, rfl, ?_, ?_⟩
 ·refine Kd.R_lower (base := W.heap.size) ?_ (by have := HsW.out; omega)
  exact Kd.R_mono (Kd.R_far (p := ⟨w.heap.size + 1, 0, none⟩) (Kd.R_bound Ho.out) (fun k hk => by have := hk.2.1; have := Hlt.out; show k ≠ w.heap.size + 1; omega) _) (fun _ _ => trivial)
 ·exact (HbW.out.trans (Hb.out.mono (by have := HsW.out; omega))).setCell (by show w.heap.size ≤ w.heap.size + 1; omega) _
end Go.Proofs.Ytmbojobkiainlaa.F
end

section
namespace Go.Proofs.Ytmbojobkiainlaa.F
open Go.RowKit Go.Proofs.YtmbojobkiainlaaW.PrintWords Go.Proofs.YtmbojobkiainlaaW.PrintLast Go.Proofs.YtmbojobkiainlaaW.PrintMore
attribute [local go_sem] max2_int min2_int max_two min_two max_three min_three max_four min_four
set_option linter.unusedVariables false
set_option linter.unusedSimpArgs false
def impl_Rectangle.f (k : Nat) (a0 : Int) (a1 : Int) : Option (List Int × Bool) := (impl_areSides.f a0 a1 10).bind fun t846 => (if t846 = true then ((impl_rectangle.f k a0 a1).bind fun t847 => (some (t847, true))) else (some (([] : List Int), false)))
theorem impl_Rectangle.mono : ∀ a0 a1 k, LeO (impl_Rectangle.f k a0 a1) (impl_Rectangle.f (k + 1) a0 a1) := by
 intro a0 a1 k
 unfold impl_Rectangle.f
 repeat' first
  | (with_reducible exact impl_rectangle.mono _ _ _)
  | (with_reducible exact LeO.refl _)
  | (with_reducible exact LeO.none _)
  | (with_reducible refine LeO.ite ?_ ?_)
  | (with_reducible refine LeO.bind ?_ (fun _ => ?_))
  | exact impl_rectangle.mono _ _ _
  | exact LeO.none _
  | refine LeO.ite ?_ ?_
  | refine LeO.bind ?_ (fun _ => ?_)
set_option maxHeartbeats 8000000 in
set_option maxRecDepth 100000 in
theorem impl_Rectangle.calls (k : Nat) (a0 : Int) (a1 : Int) (r1 : List Int) (r2 : Bool) (w : World) (h : impl_Rectangle.f k a0 a1 = some (r1, r2)) :
 Calls Try.prog 51 #[.int .i64 a0, .int .i64 a1] w fun e w' => ∃ v0_ : Value, e = .returned (.tuple #[.agg #[v0_], .bool r2]) ∧ Kd.R (Kd.int .i64) 3 w' w.heap.size (fun _ => True) v0_ r1 ∧ Below w.heap.size w w' := by
 have hu26 := Try.underlying26
 have HB := am (Below.refl w.heap.size w)
 have H := h
 unfold impl_Rectangle.f at H
 clear h
 replace H := Option.bind_eq_some_iff.mp H
 obtain ⟨t846, A30, H⟩ := H
 (try dsimp only at H)
 have A3 := am A30
 clear A30
 by_cases c4 : t846 = true
 ·subst c4
  rw [if_pos rfl] at H
  replace H := Option.bind_eq_some_iff.mp H
  obtain ⟨t847, A50, H⟩ := H
  (try dsimp only at H)
  have A5 := am A50
  clear A50
  simp only [Option.some.injEq, Prod.mk.injEq] at H
  obtain ⟨rfl, rfl⟩ := H
  go_enter Try.func51, Try.ntmps51
  go_wp2_with (first | ((with_reducible refine gate_dst (N := 4) rfl ?_); refine qx (N := 4) (cs := #[.slice none 0 0]) (t := 26) ?_; intro gb845 hg w6 hbox hb; have n0_ := am (below_step qB hb); have BK845 := am (hbox); have GW845 := am (qg w hg); have GE845 := am (qg w hg); clear HB; have HB := n0_; clear n0_; clear hb hbox hg) | ((with_reducible refine gate_callee (f := 109) rfl ?_); refine gL (some 8) Try.func109 #[.int .i64 a0, .int .i64 a1, .int .i64 10] ?_; (with_reducible refine (impl_areSides.calls a0 a1 10 true _ A3.out).mono ?_); rintro e w' ⟨rfl, ⟨nd, rfl⟩⟩; refine ⟨_, rfl, ?_⟩; (try (rw [drewN_self w6]; generalize hq_ : World.drewN w6 _ = w6; have n0_ : Aside0 (w6.heap[gb845]? = some (.cells #[.slice none 0 0] 26 (0, 0))) := ⟨by rw [← hq_]; exact (qb BK845.out)⟩; have n1_ : Aside0 (Below w.heap.size w w6) := ⟨by rw [← hq_]; exact qB⟩; clear BK845 HB hq_; have BK845 := n0_; have HB := n1_; clear n0_ n1_))) | ((with_reducible refine gate_callee (f := 110) rfl ?_); refine gL (some 13) Try.func110 #[.int .i64 a0, .int .i64 a1] ?_; (with_reducible refine (impl_rectangle.calls k a0 a1 t847 _ A5.out).mono ?_); rintro e w7 ⟨v848, rfl, ho0, hb⟩; refine ⟨_, rfl, ?_⟩; have HO849 := am (Kd.R_lower ho0 (below_size qB)); replace BK845 := am (blk_below (g := gb845) (o := .cells #[.slice none 0 0] 26 (0, 0)) (qb BK845.out) hb); replace HB := am (below_step qB hb); (try clear hb); (try clear hb2); (try clear hk); (try clear hi); (try clear ho0); obtain ⟨Ao8, co8, eo8⟩ := Kd.R_slice HO849.out; subst eo8; have hcz9_0 := qz w7 BK845.out; have hfz9_0 := blk_frozen BK845.out 0))
  refine bodyPost_ret (results_ct rfl _ _ gb845 26 #[.slice Ao8 t847.length co8] (0, 0) _ rfl (by (with_reducible repeat (first | refine blk_drewN ?_ _ | refine blk_drew ?_ | refine blk_alloc ?_ _)); refine blk_put (cs := #[.slice none 0 0]) ?_ 0 _ rfl; refine qb ?_; exact BK845.out) Try.underlying26 rfl (by kernel_rfl)) rfl ?_
  exact ⟨_, qr, qR (Kd.R_mono (Kd.R_far (p := ⟨gb845, 0, none⟩) (Kd.R_types HO849.out BK845.out (by decide)) (fun _ hk => hk.2) (.slice Ao8 t847.length co8)) (fun _ hk => trivial)), qB⟩
 ·replace c4 := Bool.eq_false_iff.mpr c4
  subst c4
  rw [if_neg (show ¬ (false = true) by decide)] at H
  simp only [Option.some.injEq, Prod.mk.injEq] at H
  obtain ⟨rfl, rfl⟩ := H
  go_enter Try.func51, Try.ntmps51
  go_wp2_with (first | ((with_reducible refine gate_dst (N := 4) rfl ?_); refine qx (N := 4) (cs := #[.slice none 0 0]) (t := 26) ?_; intro gb845 hg w10 hbox hb; have n0_ := am (below_step qB hb); have BK845 := am (hbox); have GW845 := am (qg w hg); have GE845 := am (qg w hg); clear HB; have HB := n0_; clear n0_; clear hb hbox hg) | ((with_reducible refine gate_callee (f := 109) rfl ?_); refine gL (some 8) Try.func109 #[.int .i64 a0, .int .i64 a1, .int .i64 10] ?_; (with_reducible refine (impl_areSides.calls a0 a1 10 false _ A3.out).mono ?_); rintro e w' ⟨rfl, ⟨nd, rfl⟩⟩; refine ⟨_, rfl, ?_⟩; (try (rw [drewN_self w10]; generalize hq_ : World.drewN w10 _ = w10; have n0_ : Aside0 (w10.heap[gb845]? = some (.cells #[.slice none 0 0] 26 (0, 0))) := ⟨by rw [← hq_]; exact (qb BK845.out)⟩; have n1_ : Aside0 (Below w.heap.size w w10) := ⟨by rw [← hq_]; exact qB⟩; clear BK845 HB hq_; have BK845 := n0_; have HB := n1_; clear n0_ n1_)); have hcz11_0 := qz w10 BK845.out; have hfz11_0 := blk_frozen BK845.out 0))
  refine bodyPost_ret (results_ct rfl _ _ gb845 26 #[.slice none 0 0] (0, 0) _ rfl (by (with_reducible repeat (first | refine blk_drewN ?_ _ | refine blk_drew ?_ | refine blk_alloc ?_ _)); refine blk_put (cs := #[.slice none 0 0]) ?_ 0 _ rfl; refine qb ?_; exact BK845.out) Try.underlying26 rfl (by kernel_rfl)) rfl ?_
  exact ⟨_, qr, by first | exact Kd.R_nil _ _ _ _ _ | exact Kd.N_nil _ _ _ _ _ | exact Kd.V_nil _ _ _ _ _ | exact Kd.Q_nil _ _ _ _ _ | exact Kd.S_nil _ _ _ _ _, qB⟩
def impl_BoxCount.f (k : Nat) (a0 : Int) (a1 : Int) (a2 : Int) : Option (Int × Bool) := (impl_Rectangle.f k a0 a1).bind fun bt876 => (if bt876.2 = true then ((impl_isBound.f a2).bind fun t881 => (if t881 = true then ((impl_Poset_count.f k bt876.1 a2).bind fun t882 => (some (t882, true))) else (some (0, false)))) else (some (0, false)))
theorem impl_BoxCount.mono : ∀ a0 a1 a2 k, LeO (impl_BoxCount.f k a0 a1 a2) (impl_BoxCount.f (k + 1) a0 a1 a2) := by
 intro a0 a1 a2 k
 unfold impl_BoxCount.f
 repeat' first
  | (with_reducible exact impl_Poset_count.mono _ _ _)
  | (with_reducible exact impl_Rectangle.mono _ _ _)
  | (with_reducible exact LeO.refl _)
  | (with_reducible exact LeO.none _)
  | (with_reducible refine LeO.ite ?_ ?_)
  | (with_reducible refine LeO.bind ?_ (fun _ => ?_))
  | exact impl_Poset_count.mono _ _ _
  | exact impl_Rectangle.mono _ _ _
  | exact LeO.none _
  | refine LeO.ite ?_ ?_
  | refine LeO.bind ?_ (fun _ => ?_)
set_option maxHeartbeats 8000000 in
set_option maxRecDepth 100000 in
theorem impl_BoxCount.calls (k : Nat) (a0 : Int) (a1 : Int) (a2 : Int) (r1 : Int) (r2 : Bool) (w : World) (h : impl_BoxCount.f k a0 a1 a2 = some (r1, r2)) :
 Calls Try.prog 45 #[.int .i64 a0, .int .i64 a1, .int .i64 a2] w fun e w' => e = .returned (.tuple #[.int .i64 r1, .bool r2]) ∧ Below w.heap.size w w' := by
 have hu26 := Try.underlying26
 have HB := am (Below.refl w.heap.size w)
 have H := h
 unfold impl_BoxCount.f at H
 clear h
 replace H := Option.bind_eq_some_iff.mp H
 obtain ⟨⟨t876, t879⟩, A40, H⟩ := H
 (try dsimp only at H)
 have A4 := am A40
 clear A40
 by_cases c5 : t879 = true
 ·subst c5
  rw [if_pos rfl] at H
  replace H := Option.bind_eq_some_iff.mp H
  obtain ⟨t881, A60, H⟩ := H
  (try dsimp only at H)
  have A6 := am A60
  clear A60
  by_cases c7 : t881 = true
  ·subst c7
   rw [if_pos rfl] at H
   replace H := Option.bind_eq_some_iff.mp H
   obtain ⟨t882, A80, H⟩ := H
   (try dsimp only at H)
   have A8 := am A80
   clear A80
   simp only [Option.some.injEq, Prod.mk.injEq] at H
   obtain ⟨rfl, rfl⟩ := H
   go_enter Try.func45, Try.ntmps45
   go_wp2_with (first | ((with_reducible refine gate_callee (f := 51) rfl ?_); refine gL (some 13) Try.func51 #[.int .i64 a0, .int .i64 a1] ?_; (with_reducible refine (impl_Rectangle.calls k a0 a1 t876 true _ A4.out).mono ?_); rintro e w9 ⟨v877, rfl, ho0, hb⟩; refine ⟨_, rfl, ?_⟩; have HO878 := am (Kd.R_lower ho0 (below_size qB)); replace HB := am (below_step qB hb); (try clear hb); (try clear hb2); (try clear hk); (try clear hi); (try clear ho0)) | ((with_reducible refine gate_dst (N := 8) rfl ?_); refine qx (N := 8) (cs := #[.slice none 0 0]) (t := 26) ?_; intro gb880 hg w10 hbox hb; replace HO878 := am (Kd.R_below (qR HO878.out) hb); have n1_ := am (below_step qB hb); have BK880 := am (hbox); have GW880 := am (qg w hg); have GE880 := am (qg w hg); clear HB; have HB := n1_; clear n1_; clear hb hbox hg; obtain ⟨Ao11, co11, eo11⟩ := Kd.R_slice HO878.out; subst eo11; have hcz12_0 := qz w10 BK880.out; have hfz12_0 := blk_frozen BK880.out 0) | (go_at_call 69; (with_reducible refine (impl_isBound.calls a2 true _ A6.out).mono ?_); rintro e w' ⟨rfl, ⟨nd, rfl⟩⟩) | ((with_reducible refine gate_callee (f := 70) rfl ?_); refine gL (some 25) Try.func70 #[.agg #[.slice Ao11 t876.length co11], .int .i64 a2] ?_; (with_reducible refine (impl_Poset_count.calls k _ _ t876 a2 t882 _ ?side1 ?side2 A8.out).mono ?_); (case side1 => refine (Kd.R_reads' (e := 3) (base := w.heap.size) (ok := fun k_ => True) (n := t876.length) (c := co11) ?_).2.2; exact (qR ((Kd.R_mono (Kd.R_far (p := ⟨gb880, 0, none⟩) (Kd.R_types HO878.out BK880.out (by decide)) (fun _ hk => hk.2) (.slice Ao11 t876.length co11)) (fun _ h_ => h_.1))))); (case side2 => exact (Kd.R_reads' HO878.out).2.1); rintro e w13 ⟨rfl, hb⟩; refine ⟨_, rfl, ?_⟩; replace HO878 := am (Kd.R_below (qR ((Kd.R_mono (Kd.R_far (p := ⟨gb880, 0, none⟩) (Kd.R_types HO878.out BK880.out (by decide)) (fun _ hk => hk.2) (.slice Ao11 t876.length co11)) (fun _ h_ => h_.1)))) hb); replace BK880 := am (blk_below (g := gb880) (o := .cells #[.slice Ao11 t876.length co11] 26 (0, 0)) (by (with_reducible repeat (first | refine blk_drewN ?_ _ | refine blk_drew ?_ | refine blk_alloc ?_ _)); refine blk_put (cs := #[.slice none 0 0]) ?_ 0 _ rfl; refine qb ?_; exact BK880.out) hb); replace HB := am (below_step qB hb); (try clear hb); (try clear hb2); (try clear hk); (try clear hi)))
   go_ret2
   exact ⟨qr, qB⟩
  ·replace c7 := Bool.eq_false_iff.mpr c7
   subst c7
   rw [if_neg (show ¬ (false = true) by decide)] at H
   simp only [Option.some.injEq, Prod.mk.injEq] at H
   obtain ⟨rfl, rfl⟩ := H
   go_enter Try.func45, Try.ntmps45
   go_wp2_with (first | ((with_reducible refine gate_callee (f := 51) rfl ?_); refine gL (some 13) Try.func51 #[.int .i64 a0, .int .i64 a1] ?_; (with_reducible refine (impl_Rectangle.calls k a0 a1 t876 true _ A4.out).mono ?_); rintro e w14 ⟨v877, rfl, ho0, hb⟩; refine ⟨_, rfl, ?_⟩; have HO878 := am (Kd.R_lower ho0 (below_size qB)); replace HB := am (below_step qB hb); (try clear hb); (try clear hb2); (try clear hk); (try clear hi); (try clear ho0)) | ((with_reducible refine gate_dst (N := 8) rfl ?_); refine qx (N := 8) (cs := #[.slice none 0 0]) (t := 26) ?_; intro gb880 hg w15 hbox hb; replace HO878 := am (Kd.R_below (qR HO878.out) hb); have n1_ := am (below_step qB hb); have BK880 := am (hbox); have GW880 := am (qg w hg); have GE880 := am (qg w hg); clear HB; have HB := n1_; clear n1_; clear hb hbox hg; obtain ⟨Ao16, co16, eo16⟩ := Kd.R_slice HO878.out; subst eo16; have hcz17_0 := qz w15 BK880.out; have hfz17_0 := blk_frozen BK880.out 0) | (go_at_call 69; (with_reducible refine (impl_isBound.calls a2 false _ A6.out).mono ?_); rintro e w' ⟨rfl, ⟨nd, rfl⟩⟩))
   go_ret2
   exact ⟨qr, qB⟩
 ·replace c5 := Bool.eq_false_iff.mpr c5
  subst c5
  rw [if_neg (show ¬ (false = true) by decide)] at H
  simp only [Option.some.injEq, Prod.mk.injEq] at H
  obtain ⟨rfl, rfl⟩ := H
  go_enter Try.func45, Try.ntmps45
  go_wp2_with (first | ((with_reducible refine gate_callee (f := 51) rfl ?_); refine gL (some 13) Try.func51 #[.int .i64 a0, .int .i64 a1] ?_; (with_reducible refine (impl_Rectangle.calls k a0 a1 t876 false _ A4.out).mono ?_); rintro e w18 ⟨v877, rfl, ho0, hb⟩; refine ⟨_, rfl, ?_⟩; have HO878 := am (Kd.R_lower ho0 (below_size qB)); replace HB := am (below_step qB hb); (try clear hb); (try clear hb2); (try clear hk); (try clear hi); (try clear ho0)) | ((with_reducible refine gate_dst (N := 8) rfl ?_); refine qx (N := 8) (cs := #[.slice none 0 0]) (t := 26) ?_; intro gb880 hg w19 hbox hb; replace HO878 := am (Kd.R_below (qR HO878.out) hb); have n1_ := am (below_step qB hb); have BK880 := am (hbox); have GW880 := am (qg w hg); have GE880 := am (qg w hg); clear HB; have HB := n1_; clear n1_; clear hb hbox hg; obtain ⟨Ao20, co20, eo20⟩ := Kd.R_slice HO878.out; subst eo20; have hcz21_0 := qz w19 BK880.out; have hfz21_0 := blk_frozen BK880.out 0))
  go_ret2
  exact ⟨qr, qB⟩
end Go.Proofs.Ytmbojobkiainlaa.F
end

section
namespace Go.Proofs.Ytmbojobkiainlaa.Q
open Go.RowKit Go.Proofs.YtmbojobkiainlaaW.PrintWords Go.Proofs.Ytmbojobkiainlaa.F
set_option linter.unusedVariables false
def sidesOk (a b : Int) : Prop := (1 ≤ a ∧ a ≤ 10) ∧ (1 ≤ b ∧ b ≤ 10) ∧ a * b ≤ 10
instance (a b : Int) : Decidable (sidesOk a b) := by unfold sidesOk; exact inferInstance
theorem areSides_iff (a b : Int) : impl_areSides.f a b 10 = some (decide (sidesOk a b)) := by
 have e : decide (sidesOk a b) = decide ((1 ≤ a ∧ a ≤ 10) ∧ (1 ≤ b ∧ b ≤ 10) ∧ a * b ≤ 10) := by rw [decide_eq_decide]; exact Iff.rfl
 rw [e]
 unfold impl_areSides.f
 simp only [within_eq, Option.bind_some]
 by_cases ha : 1 ≤ a ∧ a ≤ 10
 ·by_cases hb : 1 ≤ b ∧ b ≤ 10
  ·have h1 : 0 ≤ a * b := Int.mul_nonneg (by omega) (by omega)
   have h2 : a * b ≤ 10 * 10 := Int.mul_le_mul ha.2 hb.2 (by omega) (by omega)
   rw [wid (by omega) (by omega), range_true ha, range_true hb]
   simp [ha, hb]
  ·rw [range_true ha, range_false hb]
   rw [if_pos rfl, if_neg (by simp), decide_eq_false (by intro h; exact hb h.2.1)]
 ·rw [range_false ha, if_neg (by simp), decide_eq_false (by intro h; exact ha h.1)]
def rectI : Option (List Int) → Nat → Bool
 | some p, n => isPo p && decide (p.length = n)
 | none, _ => false
def okRectI (a b : Nat) : Bool := rectI (impl_rectangle.f 200 (a : Int) (b : Int)) (a * b)
theorem allRectI : (List.range 11).all (fun a => (List.range 11).all fun b => a == 0 || b == 0 || decide (10 < a * b) || okRectI a b) = true := by decide +kernel
theorem sides_all {f : Nat → Nat → Bool} (hf : (List.range 11).all (fun a => (List.range 11).all fun b => a == 0 || b == 0 || decide (10 < a * b) || f a b) = true) {a b : Int} (h : sidesOk a b) : ∃ n m : Nat, a = (n : Int) ∧ b = (m : Int) ∧ 1 ≤ n ∧ 1 ≤ m ∧ n ≤ 10 ∧ m ≤ 10 ∧ n * m ≤ 10 ∧ f n m = true := by
 have h0 := h
 unfold sidesOk at h0
 obtain ⟨n, rfl⟩ := Int.eq_ofNat_of_zero_le (show 0 ≤ a by omega)
 obtain ⟨m, rfl⟩ := Int.eq_ofNat_of_zero_le (show 0 ≤ b by omega)
 have hab : n * m ≤ 10 := by have := h0.2.2; exact Int.ofNat_le.1 (by rw [Int.natCast_mul]; exact this)
 have hk := List.all_eq_true.1 (List.all_eq_true.1 hf n (List.mem_range.2 (by omega))) m (List.mem_range.2 (by omega))
 rw [Bool.or_eq_true, Bool.or_eq_true, Bool.or_eq_true, beq_iff_eq, beq_iff_eq, decide_eq_true_eq] at hk
 rcases hk with ((hk | hk) | hk) | hk
 ·omega
 ·omega
 ·omega
 ·exact ⟨n, m, rfl, rfl, by omega, by omega, by omega, by omega, hab, hk⟩
theorem rect_impl {a b : Int} (h : sidesOk a b) : ∃ (n m : Nat) (p : List Int), a = (n : Int) ∧ b = (m : Int) ∧ 1 ≤ n ∧ 1 ≤ m ∧ n ≤ 10 ∧ m ≤ 10 ∧ n * m ≤ 10 ∧ impl_rectangle.f 200 (n : Int) (m : Int) = some p ∧ PO p ∧ p.length = n * m := by
 obtain ⟨n, m, rfl, rfl, h1, h2, h3, h4, h5, hk⟩ := sides_all allRectI h
 unfold okRectI at hk
 cases hr : impl_rectangle.f 200 (n : Int) (m : Int) with
 | none => rw [hr] at hk; simp [rectI] at hk
 | some p =>
  rw [hr] at hk
  simp only [rectI, Bool.and_eq_true, decide_eq_true_eq, isPo_iff] at hk
  exact ⟨n, m, p, rfl, rfl, h1, h2, h3, h4, h5, hr, hk.1, hk.2⟩
def rectO : Option (List Int) → Option (List Int) → Nat → Bool
 | some p, some q, n => decide (p = q) && (isPo p && decide (p.length = n))
 | _, _, _ => false
theorem rectO_parts {o1 o2 : Option (List Int)} {n : Nat} (h : rectO o1 o2 n = true) : ∃ p, o1 = some p ∧ o2 = some p ∧ PO p ∧ p.length = n := by
 cases o1 with
 | none => simp [rectO] at h
 | some p =>
  cases o2 with
  | none => simp [rectO] at h
  | some q =>
   simp only [rectO] at h
   rw [Bool.and_eq_true, Bool.and_eq_true, decide_eq_true_eq, decide_eq_true_eq, isPo_iff] at h
   obtain ⟨rfl, h2, h3⟩ := h
   exact ⟨p, rfl, rfl, h2, h3⟩
def okRect (a b : Nat) : Bool := rectO (impl_rectangle.f 200 (a : Int) (b : Int)) (spec_poRectangle.f 200 (a : Int) (b : Int)) (a * b)
theorem allRect : (List.range 11).all (fun a => (List.range 11).all fun b => a == 0 || b == 0 || decide (10 < a * b) || okRect a b) = true := by decide +kernel
theorem rect_both {a b : Int} (h : sidesOk a b) : ∃ (n m : Nat) (p : List Int), a = (n : Int) ∧ b = (m : Int) ∧ 1 ≤ n ∧ 1 ≤ m ∧ n ≤ 10 ∧ m ≤ 10 ∧ n * m ≤ 10 ∧ Ev (fun k => impl_rectangle.f k a b) p ∧ Ev (fun k => spec_poRectangle.f k a b) p ∧ PO p ∧ p.length = n * m := by
 have h0 := h
 unfold sidesOk at h0
 obtain ⟨n, rfl⟩ := Int.eq_ofNat_of_zero_le (show 0 ≤ a by omega)
 obtain ⟨m, rfl⟩ := Int.eq_ofNat_of_zero_le (show 0 ≤ b by omega)
 have hab : n * m ≤ 10 := by have := h0.2.2; exact Int.ofNat_le.1 (by rw [Int.natCast_mul]; exact this)
 have hk := List.all_eq_true.1 (List.all_eq_true.1 allRect n (List.mem_range.2 (by omega))) m (List.mem_range.2 (by omega))
 rw [Bool.or_eq_true, Bool.or_eq_true, Bool.or_eq_true, beq_iff_eq, beq_iff_eq, decide_eq_true_eq] at hk
 rcases hk with ((hk | hk) | hk) | hk
 ·omega
 ·omega
 ·omega
 ·unfold okRect at hk
  obtain ⟨p, h1, h2, h3, h4⟩ := rectO_parts hk
  exact ⟨n, m, p, rfl, rfl, by omega, by omega, by omega, by omega, hab, Ev.of (impl_rectangle.mono _ _) h1, Ev.of (spec_poRectangle.mono _ _) h2, h3, h4⟩
theorem Rectangle_yes {a b : Int} {p : List Int} (h : sidesOk a b) (hp : Ev (fun k => impl_rectangle.f k a b) p) : Ev (fun k => impl_Rectangle.f k a b) (p, true) := by
 unfold impl_Rectangle.f
 rw [areSides_iff, decide_eq_true h]
 exact Ev.call rfl (Ev.yes rfl (Ev.bind hp (Ev.ret rfl)))
theorem Rectangle_no {a b : Int} (h : ¬ sidesOk a b) : Ev (fun k => impl_Rectangle.f k a b) ([], false) := by
 unfold impl_Rectangle.f
 rw [areSides_iff, decide_eq_false h]
 exact Ev.call rfl (Ev.no (by simp) (Ev.now _))
end Go.Proofs.Ytmbojobkiainlaa.Q
end
