/- Part 3 of the texts below the row of FnExactBoxBySum: printed functions with their contracts, and plain lemmas. No condition. -/
import Derived.Test.YtemkddgfneohhaaZFnExactBoxBySum2
import Derived.Lib.Hide
import Derived.Maps.RangeWalk
import Derived.Maps.OwnOps
import Derived.Maps.Ext
import Derived.LoopTactic
import Derived.Deep.LoopGhost
section
namespace Go.Proofs.Ytemkddgfneohhaa.F
open Go.RowKit Go.Proofs.YtemkddgfneohhaaW.PrintWords Go.Proofs.YtemkddgfneohhaaW.PrintLast Go.Proofs.YtemkddgfneohhaaW.PrintMore
attribute [local go_sem] max2_int min2_int max_two min_two max_three min_three max_four min_four
set_option linter.unusedVariables false
set_option linter.unusedSimpArgs false

/-! ### spec_BoxBySum: function 19 -/
mutual
def spec_BoxBySum.l0 : Nat → Int → Int → Int → List Int → Int → Option (List Int × Bool)
  | 0, _, _, _, _, _ => none
  | k + 1, x0, x1, x2, x8, x9 => if x9 ≤ x0 then (spec_BoxBySum.l1 k x0 x1 x2 x8 x9 1) else (some (x8, true))
def spec_BoxBySum.l1 : Nat → Int → Int → Int → List Int → Int → Int → Option (List Int × Bool)
  | 0, _, _, _, _, _, _ => none
  | k + 1, x0, x1, x2, x8, x9, x10 => if x10 ≤ x1 then (spec_BoxBySum.l2 k x0 x1 x2 x8 x9 x10 (wrap64 ((wrap64 ((wrap64 (x9 + x10)) + x2)) - 1)) (wrap64 ((wrap64 (x9 + x10)) - 1)) (wrap64 ((x8.length : Int) - 1))) else (spec_BoxBySum.l0 k x0 x1 x2 x8 (wrap64 (x9 + 1)))
def spec_BoxBySum.l2 : Nat → Int → Int → Int → List Int → Int → Int → Int → Int → Int → Option (List Int × Bool)
  | 0, _, _, _, _, _, _, _, _, _ => none
  | k + 1, x0, x1, x2, x8, x9, x10, x11, x12, x13 => if x13 ≥ x11 then (if 0 ≤ x13 then (if x13 < (x8.length : Int) then (if 0 ≤ (wrap64 (x13 - x11)) then (if (wrap64 (x13 - x11)) < (x8.length : Int) then (spec_BoxBySum.l2 k x0 x1 x2 (x8.set (x13 : Int).toNat (wrap64 ((rd x8 x13) - (rd x8 (wrap64 (x13 - x11)))))) x9 x10 x11 x12 (wrap64 (x13 - 1))) else (none)) else (none)) else (none)) else (none)) else (spec_BoxBySum.l3 k x0 x1 x2 x8 x9 x10 x12 x12)
def spec_BoxBySum.l3 : Nat → Int → Int → Int → List Int → Int → Int → Int → Int → Option (List Int × Bool)
  | 0, _, _, _, _, _, _, _, _ => none
  | k + 1, x0, x1, x2, x8, x9, x10, x12, x14 => if x14 < (x8.length : Int) then (if 0 ≤ x14 then (if 0 ≤ (wrap64 (x14 - x12)) then (if (wrap64 (x14 - x12)) < (x8.length : Int) then (spec_BoxBySum.l3 k x0 x1 x2 (x8.set (x14 : Int).toNat (wrap64 ((rd x8 x14) + (rd x8 (wrap64 (x14 - x12)))))) x9 x10 x12 (wrap64 (x14 + 1))) else (none)) else (none)) else (none)) else (spec_BoxBySum.l1 k x0 x1 x2 x8 x9 (wrap64 (x10 + 1)))
end
def spec_BoxBySum.f (k : Nat) (a0 : Int) (a1 : Int) (a2 : Int) : Option (List Int × Bool) := (spec_laBox.f a0 a1 a2).bind fun t217 => (if t217 = true then (if 0 ≤ (wrap64 ((wrap64 ((wrap64 (a0 * a1)) * a2)) + 1)) then (if (wrap64 ((wrap64 ((wrap64 (a0 * a1)) * a2)) + 1) : Int).toNat ≤ 35184372088832 then ((some (List.replicate (wrap64 ((wrap64 ((wrap64 (a0 * a1)) * a2)) + 1) : Int).toNat 0 : List Int)).bind fun y218 => (if 0 < (y218.length : Int) then (spec_BoxBySum.l0 k a0 a1 a2 (y218.set (0 : Int).toNat 1) 1) else (none))) else (none)) else (none)) else (some (([] : List Int), false)))
theorem spec_BoxBySum.mono_l : ∀ k, (∀ y0 y1 y2 y3 y4, LeO (spec_BoxBySum.l0 k y0 y1 y2 y3 y4) (spec_BoxBySum.l0 (k + 1) y0 y1 y2 y3 y4)) ∧ (∀ y0 y1 y2 y3 y4 y5, LeO (spec_BoxBySum.l1 k y0 y1 y2 y3 y4 y5) (spec_BoxBySum.l1 (k + 1) y0 y1 y2 y3 y4 y5)) ∧ (∀ y0 y1 y2 y3 y4 y5 y6 y7 y8, LeO (spec_BoxBySum.l2 k y0 y1 y2 y3 y4 y5 y6 y7 y8) (spec_BoxBySum.l2 (k + 1) y0 y1 y2 y3 y4 y5 y6 y7 y8)) ∧ (∀ y0 y1 y2 y3 y4 y5 y6 y7, LeO (spec_BoxBySum.l3 k y0 y1 y2 y3 y4 y5 y6 y7) (spec_BoxBySum.l3 (k + 1) y0 y1 y2 y3 y4 y5 y6 y7))
  | 0 => ⟨fun _ _ _ _ _ r h => by simp [spec_BoxBySum.l0] at h, fun _ _ _ _ _ _ r h => by simp [spec_BoxBySum.l1] at h, fun _ _ _ _ _ _ _ _ _ r h => by simp [spec_BoxBySum.l2] at h, fun _ _ _ _ _ _ _ _ r h => by simp [spec_BoxBySum.l3] at h⟩
  | k + 1 => by
    obtain ⟨ih0, ih1, ih2, ih3⟩ := spec_BoxBySum.mono_l k
    refine ⟨?_, ?_, ?_, ?_⟩
    · intro y0 y1 y2 y3 y4
      unfold spec_BoxBySum.l0
      repeat' first
      | (with_reducible exact ih0 _ _ _ _ _)
      | (with_reducible exact ih1 _ _ _ _ _ _)
      | (with_reducible exact ih2 _ _ _ _ _ _ _ _ _)
      | (with_reducible exact ih3 _ _ _ _ _ _ _ _)
      | (with_reducible exact LeO.refl _)
      | (with_reducible exact LeO.none _)
      | (with_reducible refine LeO.ite ?_ ?_)
      | (with_reducible refine LeO.bind ?_ (fun _ => ?_))
      | exact ih0 _ _ _ _ _
      | exact ih1 _ _ _ _ _ _
      | exact ih2 _ _ _ _ _ _ _ _ _
      | exact ih3 _ _ _ _ _ _ _ _
      | exact LeO.none _
      | refine LeO.ite ?_ ?_
      | refine LeO.bind ?_ (fun _ => ?_)
    · intro y0 y1 y2 y3 y4 y5
      unfold spec_BoxBySum.l1
      repeat' first
      | (with_reducible exact ih0 _ _ _ _ _)
      | (with_reducible exact ih1 _ _ _ _ _ _)
      | (with_reducible exact ih2 _ _ _ _ _ _ _ _ _)
      | (with_reducible exact ih3 _ _ _ _ _ _ _ _)
      | (with_reducible exact LeO.refl _)
      | (with_reducible exact LeO.none _)
      | (with_reducible refine LeO.ite ?_ ?_)
      | (with_reducible refine LeO.bind ?_ (fun _ => ?_))
      | exact ih0 _ _ _ _ _
      | exact ih1 _ _ _ _ _ _
      | exact ih2 _ _ _ _ _ _ _ _ _
      | exact ih3 _ _ _ _ _ _ _ _
      | exact LeO.none _
      | refine LeO.ite ?_ ?_
      | refine LeO.bind ?_ (fun _ => ?_)
    · intro y0 y1 y2 y3 y4 y5 y6 y7 y8
      unfold spec_BoxBySum.l2
      repeat' first
      | (with_reducible exact ih0 _ _ _ _ _)
      | (with_reducible exact ih1 _ _ _ _ _ _)
      | (with_reducible exact ih2 _ _ _ _ _ _ _ _ _)
      | (with_reducible exact ih3 _ _ _ _ _ _ _ _)
      | (with_reducible exact LeO.refl _)
      | (with_reducible exact LeO.none _)
      | (with_reducible refine LeO.ite ?_ ?_)
      | (with_reducible refine LeO.bind ?_ (fun _ => ?_))
      | exact ih0 _ _ _ _ _
      | exact ih1 _ _ _ _ _ _
      | exact ih2 _ _ _ _ _ _ _ _ _
      | exact ih3 _ _ _ _ _ _ _ _
      | exact LeO.none _
      | refine LeO.ite ?_ ?_
      | refine LeO.bind ?_ (fun _ => ?_)
    · intro y0 y1 y2 y3 y4 y5 y6 y7
      unfold spec_BoxBySum.l3
      repeat' first
      | (with_reducible exact ih0 _ _ _ _ _)
      | (with_reducible exact ih1 _ _ _ _ _ _)
      | (with_reducible exact ih2 _ _ _ _ _ _ _ _ _)
      | (with_reducible exact ih3 _ _ _ _ _ _ _ _)
      | (with_reducible exact LeO.refl _)
      | (with_reducible exact LeO.none _)
      | (with_reducible refine LeO.ite ?_ ?_)
      | (with_reducible refine LeO.bind ?_ (fun _ => ?_))
      | exact ih0 _ _ _ _ _
      | exact ih1 _ _ _ _ _ _
      | exact ih2 _ _ _ _ _ _ _ _ _
      | exact ih3 _ _ _ _ _ _ _ _
      | exact LeO.none _
      | refine LeO.ite ?_ ?_
      | refine LeO.bind ?_ (fun _ => ?_)
theorem spec_BoxBySum.mono : ∀ a0 a1 a2 k, LeO (spec_BoxBySum.f k a0 a1 a2) (spec_BoxBySum.f (k + 1) a0 a1 a2) := by
  intro a0 a1 a2 k
  obtain ⟨ih0, ih1, ih2, ih3⟩ := spec_BoxBySum.mono_l k
  unfold spec_BoxBySum.f
  repeat' first
      | (with_reducible exact ih0 _ _ _ _ _)
      | (with_reducible exact ih1 _ _ _ _ _ _)
      | (with_reducible exact ih2 _ _ _ _ _ _ _ _ _)
      | (with_reducible exact ih3 _ _ _ _ _ _ _ _)
      | (with_reducible exact LeO.refl _)
      | (with_reducible exact LeO.none _)
      | (with_reducible refine LeO.ite ?_ ?_)
      | (with_reducible refine LeO.bind ?_ (fun _ => ?_))
      | exact ih0 _ _ _ _ _
      | exact ih1 _ _ _ _ _ _
      | exact ih2 _ _ _ _ _ _ _ _ _
      | exact ih3 _ _ _ _ _ _ _ _
      | exact LeO.none _
      | refine LeO.ite ?_ ?_
      | refine LeO.bind ?_ (fun _ => ?_)
def spec_BoxBySum.T15 : Bool × List (List Nat × List Nat) := (true, [([], []), ([], []), ([0, 1], [0, 1]), ([2], [2]), ([], []), ([], []), ([], []), ([5, 6], [5, 6]), ([4, 7], [4, 7]), ([8], [8]), ([3, 9], [3, 9]), ([0, 1, 0, 1, 2, 3, 4, 5, 6, 7, 8, 9, 10], [0, 1]), ([11, 10, 0, 1, 2, 3, 4, 5, 6, 7, 8, 9, 10], [10, 11])])
def spec_BoxBySum.B15 : List Nat := [0, 0, 3, 7, 0, 0, 0, 96, 240, 496, 1023, 2047, 4095]
theorem spec_BoxBySum.tab15 : rtab .any (opsOf Try.f19 15) = spec_BoxBySum.T15 := by kernel_rfl
theorem spec_BoxBySum.bits15 : waitsOk spec_BoxBySum.T15.2 spec_BoxBySum.B15 = true := by kernel_rfl
def spec_BoxBySum.T19 : Bool × List (List Nat × List Nat) := (true, [([], []), ([], []), ([0, 1], [0, 1]), ([2], [2]), ([], []), ([], []), ([], []), ([5, 6], [5, 6]), ([4, 7], [4, 7]), ([8], [8]), ([3, 9], [3, 9]), ([0, 1, 0, 1, 2, 3, 4, 5, 6, 7, 8, 9, 10], [0, 1]), ([11, 10, 0, 1, 2, 3, 4, 5, 6, 7, 8, 9, 10], [10, 11])])
def spec_BoxBySum.B19 : List Nat := [0, 0, 3, 7, 0, 0, 0, 96, 240, 496, 1023, 2047, 4095]
theorem spec_BoxBySum.tab19 : rtab .any (opsOf Try.f19 19) = spec_BoxBySum.T19 := by kernel_rfl
theorem spec_BoxBySum.bits19 : waitsOk spec_BoxBySum.T19.2 spec_BoxBySum.B19 = true := by kernel_rfl
set_option maxHeartbeats 8000000 in
set_option maxRecDepth 100000 in
theorem spec_BoxBySum.calls (k : Nat) (a0 : Int) (a1 : Int) (a2 : Int) (r1 : List Int) (r2 : Bool) (w : World) (h : spec_BoxBySum.f k a0 a1 a2 = some (r1, r2)) :
    Calls Try.prog 19 #[.int .i64 a0, .int .i64 a1, .int .i64 a2] w fun e w' => ∃ v0_ : Value, e = .returned (.tuple #[v0_, .bool r2]) ∧ Kd.R (Kd.int .i64) 3 w' w.heap.size (fun _ => True) v0_ r1 ∧ Below w.heap.size w w' := by
  have HB := Aside0.mk (Below.refl w.heap.size w)
  have H : ((spec_laBox.f a0 a1 a2).bind fun t217 => (if t217 = true then (if 0 ≤ (wrap64 ((wrap64 ((wrap64 (a0 * a1)) * a2)) + 1)) then (if (wrap64 ((wrap64 ((wrap64 (a0 * a1)) * a2)) + 1) : Int).toNat ≤ 35184372088832 then ((some (List.replicate (wrap64 ((wrap64 ((wrap64 (a0 * a1)) * a2)) + 1) : Int).toNat 0 : List Int)).bind fun y218 => (if 0 < (y218.length : Int) then (spec_BoxBySum.l0 k a0 a1 a2 (y218.set (0 : Int).toNat 1) 1) else (none))) else (none)) else (none)) else (some (([] : List Int), false)))) = some (r1, r2) := h
  clear h
  replace H := Option.bind_eq_some_iff.mp H
  obtain ⟨t217, A40, H⟩ := H
  replace H : (if t217 = true then (if 0 ≤ (wrap64 ((wrap64 ((wrap64 (a0 * a1)) * a2)) + 1)) then (if (wrap64 ((wrap64 ((wrap64 (a0 * a1)) * a2)) + 1) : Int).toNat ≤ 35184372088832 then ((some (List.replicate (wrap64 ((wrap64 ((wrap64 (a0 * a1)) * a2)) + 1) : Int).toNat 0 : List Int)).bind fun y218 => (if 0 < (y218.length : Int) then (spec_BoxBySum.l0 k a0 a1 a2 (y218.set (0 : Int).toNat 1) 1) else (none))) else (none)) else (none)) else (some (([] : List Int), false))) = some (r1, r2) := H
  have A4 := Aside0.mk A40
  clear A40
  by_cases c5 : t217 = true
  · subst c5
    have H1 : (if 0 ≤ (wrap64 ((wrap64 ((wrap64 (a0 * a1)) * a2)) + 1)) then (if (wrap64 ((wrap64 ((wrap64 (a0 * a1)) * a2)) + 1) : Int).toNat ≤ 35184372088832 then ((some (List.replicate (wrap64 ((wrap64 ((wrap64 (a0 * a1)) * a2)) + 1) : Int).toNat 0 : List Int)).bind fun y218 => (if 0 < (y218.length : Int) then (spec_BoxBySum.l0 k a0 a1 a2 (y218.set (0 : Int).toNat 1) 1) else (none))) else (none)) else (none)) = some (r1, r2) := by rw [if_pos rfl] at H; exact H
    clear H
    have H := H1
    clear H1
    obtain ⟨ji6, hji6⟩ : ∃ j_ : Int, (wrap64 ((wrap64 ((wrap64 (a0 * a1)) * a2)) + 1)) = j_ := ⟨_, rfl⟩
    replace H : (if 0 ≤ (ji6) then (if (ji6 : Int).toNat ≤ 35184372088832 then ((some (List.replicate (ji6 : Int).toNat 0 : List Int)).bind fun y218 => (if 0 < (y218.length : Int) then (spec_BoxBySum.l0 k a0 a1 a2 (y218.set (0 : Int).toNat 1) 1) else (none))) else (none)) else (none)) = some (r1, r2) := by first | (rw [hji6] at H; exact H) | (simp only [hji6] at H ⊢; exact H)
    (try rw [hji6] at A4)
    have hji6w : (IntKind.i64.wrap ((wrap64 ((wrap64 (a0 * a1)) * a2)) + 1)) = ji6 := (i64_w _).trans hji6
    by_cases c7 : 0 ≤ (ji6)
    · rw [if_pos c7] at H
      have c7b0 := eq_true c7
      have c7b1 : decide (0 ≤ (ji6)) = true := decide_eq_true c7
      clear c7
      by_cases c8 : (ji6 : Int).toNat ≤ 35184372088832
      · rw [if_pos c8] at H
        have c8b0 := eq_true c8
        have c8b1 : decide ((ji6 : Int).toNat ≤ 35184372088832) = true := decide_eq_true c8
        clear c8
        obtain ⟨y218, hy218⟩ : ∃ y_ : List Int, y_ = (List.replicate (ji6 : Int).toNat 0) := ⟨_, rfl⟩
        replace H : (if 0 < (y218.length : Int) then (spec_BoxBySum.l0 k a0 a1 a2 (y218.set (0 : Int).toNat 1) 1) else (none)) = some (r1, r2) := by first | (rw [hy218]; with_reducible exact H) | (have H2_ := (Option.bind_some _ _).symm.trans H; rw [hy218]; with_reducible exact H2_) | (have H2_ := (Option.bind_some _ _).symm.trans H; with_reducible exact H2_) | with_reducible exact H | (rw [hy218]; exact H) | exact H
        have Ny218 := Aside0.mk hy218
        clear hy218
        by_cases c9 : 0 < (y218.length : Int)
        · rw [if_pos c9] at H
          have c9b0 : decide (0 < (y218.length : Int)) = true := decide_eq_true c9
          have c9b1 : decide (0 < y218.length) = true := decide_eq_true (by omega)
          clear c9
          obtain ⟨y221, hy221⟩ : ∃ y_ : List Int, y_ = (y218.set (0 : Int).toNat 1) := ⟨_, rfl⟩
          replace H : (spec_BoxBySum.l0 k a0 a1 a2 y221 1) = some (r1, r2) := by first | (rw [hy221]; with_reducible exact H) | (have H2_ := (Option.bind_some _ _).symm.trans H; rw [hy221]; with_reducible exact H2_) | (have H2_ := (Option.bind_some _ _).symm.trans H; with_reducible exact H2_) | with_reducible exact H | (rw [hy221]; exact H) | exact H
          have Ny221 := Aside0.mk hy221
          clear hy221
          have H' := Aside0.mk H
          clear H
          go_enter Try.func19, Try.ntmps19
          go_wp2_with (first | ((with_reducible refine gate_callee (f := 38) rfl ?_); refine goesL_ (some 18) rfl rfl Try.func38 (by kernel_rfl) rfl #[.int .i64 a0, .int .i64 a1, .int .i64 a2] rfl (by (try simp only [List.map_toArray, List.map_cons, List.map_nil]); first | done | rfl | (simp only [List.length_drop, List.length_take]; rfl)) ?_; (with_reducible refine (spec_laBox.calls a0 a1 a2 true _ A4.out).mono ?_); rintro e w' ⟨rfl, ⟨nd, rfl⟩⟩; refine ⟨_, rfl, ?_⟩) | ((with_reducible refine gate_dst (N := 26) rfl ?_); refine Kd.R_make (Kd.int .i64) _ 3 rfl (N := 26) rfl 25 _ _ rfl ji6 rfl rfl Try.underlying25 (.int .i64 0) 8 info3 rfl (by decide) (by omega) 0 (ok := fun _ => True) (okp := fun _ => True) rfl (fun _ hk => hk) trivial (of_decide_eq_true (by first | (with_reducible assumption) | assumption)) (Nat.le_trans (Nat.mul_le_mul_right _ (of_decide_eq_true (by first | (with_reducible assumption) | assumption) : ji6.toNat ≤ 35184372088832)) (by omega)) (Below.refl _ _) (Nat.le_refl _) ?_; intro v219 w11 ho12 hb hg_ hnew_; clear hg_ hnew_; (first | rw [← Ny218.out] at ho12 | (simp only [Int.reduceToNat] at ho12; rw [← Ny218.out] at ho12)); have n0_ := Aside0.mk (Kd.R_lower ho12 (below_size (by repeat (first | (with_reducible first | exact HB.out | apply below_alloc | apply pw_below_drewN | apply below_drew1) | exact HB.out)))); have n1_ := Aside0.mk (below_step (by repeat (first | (with_reducible first | exact HB.out | apply below_alloc | apply pw_below_drewN | apply below_drew1) | exact HB.out)) hb); clear HB; have HO220 := n0_; have HB := n1_; clear n0_ n1_; clear hb ho12; have p10 : 0 ≤ (0 : Int) := (by omega); have q10 : (0 : Int) < ((y218.length : Int) : Int) := of_decide_eq_true (by first | (with_reducible assumption) | assumption); have qi10 : (0 < y218.length) = True := eq_true (by omega); obtain ⟨go10, co10, eo10, gb10, gl10, cl10, HG10⟩ := Kd.R_form HO220.out (by omega); (first | cases eo10 | (injection eo10 with ea_ en_ ec_; (first | subst ea_ | (injection ea_ with ea_; subst ea_)); subst ec_; clear en_)); have GB10 := Aside0.mk gb10; have GG10 := Aside0.mk HG10; clear gb10 gl10 HG10; obtain ⟨hx10_0, hf10_0⟩ := Kd.R_celln 0 HO220.out (0 : Int) p10 q10; (try rw [show ((0 : Int)).toNat = 0 from rfl] at hx10_0); (try simp only [Nat.reduceMul, Nat.zero_mul, Nat.zero_add, Nat.reduceAdd] at hx10_0); (try rw [show ((0 : Int)).toNat = 0 from rfl] at hf10_0); (try simp only [Nat.reduceMul, Nat.zero_mul, Nat.zero_add, Nat.reduceAdd] at hf10_0); replace p10 := eq_true p10; replace q10 := eq_true q10; obtain ⟨hy13_, hz13_⟩ := Kd.R_celln 0 HO220.out (0 : Int) (by omega) (of_decide_eq_true (by first | (with_reducible assumption) | assumption)); (try simp only [Int.reduceToNat, Int.toNat_zero, Int.toNat_ofNat, Nat.reduceMul, Nat.zero_mul, Nat.zero_add] at hy13_ hz13_); (try rw [show ((0 : Int)).toNat = 0 from rfl] at hy13_); (try rw [show ((0 : Int)).toNat = 0 from rfl] at hz13_); have HP13 := Kd.R_putg HO220.out (0 : Int) 1) | ((with_reducible refine gate_store (t := 3) (p := 28) rfl ?_); refine store_event (t := 3) (p := 28) (v := ?vo_w14) (w1 := (w11.setCell ⟨go10, (0 : Int).toNat, none⟩ (.int .i64 1))) ?hg ?ho ?hn ?hr ?_; (case ho => rfl); (case hg => rfl); (case hn => rfl); (case hr => first | (go_simp; done) | (go_simp; rfl) | (obtain ⟨Av_, cv_, ev_⟩ := Kd.R_slice HO220.out; subst ev_; go_simp; done) | (obtain ⟨Av_, cv_, ev_⟩ := Kd.R_slice HO220.out; subst ev_; go_simp; rfl)); intro w14 hw; have hg : w11.grownBy w14 (some go10) := (by rw [hw]; exact HP13.2); have hp_ : Kd.R (Kd.int .i64) 3 w14 w.heap.size (fun _ => True) (.slice (some ⟨go10, 0, none⟩) y218.length co10) y221 := (by rw [hw, Ny221.out]; exact HP13.1); clear HP13; have n0_ := Aside0.mk (hp_); have n1_ := Aside0.mk ((by rw [hw]; exact below_set (HB.out) GB10.out : Below w.heap.size w w14)); clear HO220; clear HB; have HO220 := n0_; have HB := n1_; clear n0_ n1_; clear hg hw hp_))
          go_loopg [9] k (fun kq v9 w' => ∃ (x8_1 : List Int) (x9_1 : Int), v9 = .int .i64 x9_1 ∧ Aside0 (spec_BoxBySum.l0 kq a0 a1 a2 x8_1 x9_1 = some (r1, r2)) ∧ Aside0 (kq ≤ k) ∧ Aside0 (Kd.R (Kd.int .i64) 3 w' w.heap.size (fun _ => True) (.slice (some ⟨go10, 0, none⟩) y218.length co10) x8_1) ∧ Aside0 (Below w.heap.size w w'))
          case atStart => exact ⟨(y221), (1), (by first | rfl | (simp; done) | (simp [*]; done)), H', ⟨Nat.le_refl _⟩, ⟨by (with_reducible repeat (first | apply Kd.R_alloc | apply Kd.R_drewN | apply Kd.R_drew)); exact HO220.out⟩, ⟨by repeat (first | (with_reducible first | exact HB.out | apply below_alloc | apply pw_below_drewN | apply below_drew1) | exact HB.out)⟩⟩
          case round =>
            clear H'
            try clear c1
            try clear p1
            try clear q1
            try clear hx1
            try clear qi1
            try clear p2
            try clear c3
            try clear c5
            try clear p6
            try clear c7
            try clear c7b0
            try clear c7b1
            try clear c8
            try clear c8b0
            try clear c8b1
            try clear c9
            try clear c9b0
            try clear c9b1
            try clear p10
            try clear q10
            try clear hx10
            try clear qi10
            try clear hf10
            try clear hx10_0
            try clear p10
            try clear q10
            obtain ⟨x8_1, x9_1, rfl, HA, HK1, HO_8, HB⟩ := hrel
            have hl8_1 := (Kd.R_reads' HO_8.out).1
            rw [hl8_1] at HO_8
            (try simp only [hl8_1])
            cases gk with
            | zero => exact absurd HA.out (by simp [spec_BoxBySum.l0])
            | succ k1 =>
              have H := HA.out
              clear HA
              simp only [spec_BoxBySum.l0] at H
              by_cases c15 : x9_1 ≤ a0
              · rw [if_pos c15] at H
                have c15b0 : decide (x9_1 ≤ a0) = true := decide_eq_true c15
                clear c15
                have H' := Aside0.mk H
                clear H
                go_wp2
                go_loopg [10] k1 (fun kq v10 w' => ∃ (x8_2 : List Int) (x10_2 : Int), v10 = .int .i64 x10_2 ∧ Aside0 (spec_BoxBySum.l1 kq a0 a1 a2 x8_2 x9_1 x10_2 = some (r1, r2)) ∧ Aside0 (kq ≤ k1) ∧ Aside0 (Kd.R (Kd.int .i64) 3 w' w.heap.size (fun _ => True) (.slice (some ⟨go10, 0, none⟩) x8_1.length co10) x8_2) ∧ Aside0 (Below w.heap.size w w'))
                case atStart => exact ⟨(x8_1), (1), (by first | rfl | (simp; done) | (simp [*]; done)), H', ⟨Nat.le_refl _⟩, ⟨by (try simp only [hl8_1]); (with_reducible repeat (first | apply Kd.R_alloc | apply Kd.R_drewN | apply Kd.R_drew)); exact HO_8.out⟩, ⟨by repeat (first | (with_reducible first | exact HB.out | apply below_alloc | apply pw_below_drewN | apply below_drew1) | exact HB.out)⟩⟩
                case round =>
                  clear H'
                  try clear c1
                  try clear p1
                  try clear q1
                  try clear hx1
                  try clear qi1
                  try clear p2
                  try clear c3
                  try clear c5
                  try clear p6
                  try clear c7
                  try clear c7b0
                  try clear c7b1
                  try clear c8
                  try clear c8b0
                  try clear c8b1
                  try clear c9
                  try clear c9b0
                  try clear c9b1
                  try clear p10
                  try clear q10
                  try clear hx10
                  try clear qi10
                  try clear hf10
                  try clear c15
                  try clear c15b0
                  try clear hx10_0
                  try clear p1
                  try clear p10
                  try clear p2
                  try clear p6
                  try clear q1
                  try clear q10
                  obtain ⟨x8_2, x10_2, rfl, HA, HK2, HO_8, HB⟩ := hrel
                  have hl8_2 := (Kd.R_reads' HO_8.out).1
                  rw [hl8_2] at HO_8
                  (try simp only [hl8_2])
                  cases gk with
                  | zero => exact absurd HA.out (by simp [spec_BoxBySum.l1])
                  | succ k2 =>
                    have H := HA.out
                    clear HA
                    simp only [spec_BoxBySum.l1] at H
                    by_cases c16 : x10_2 ≤ a1
                    · rw [if_pos c16] at H
                      have c16b0 : decide (x10_2 ≤ a1) = true := decide_eq_true c16
                      clear c16
                      have H' := Aside0.mk H
                      clear H
                      go_wp2
                      go_loopg [13] k2 (fun kq v13 w' => ∃ (x8_3 : List Int) (x13_3 : Int), v13 = .int .i64 x13_3 ∧ Aside0 (spec_BoxBySum.l2 kq a0 a1 a2 x8_3 x9_1 x10_2 (wrap64 ((wrap64 ((wrap64 (x9_1 + x10_2)) + a2)) - 1)) (wrap64 ((wrap64 (x9_1 + x10_2)) - 1)) x13_3 = some (r1, r2)) ∧ Aside0 (kq ≤ k2) ∧ Aside0 (Kd.R (Kd.int .i64) 3 w' w.heap.size (fun _ => True) (.slice (some ⟨go10, 0, none⟩) x8_2.length co10) x8_3) ∧ Aside0 (Below w.heap.size w w'))
                      case atStart => exact ⟨(x8_2), (wrap64 ((x8_2.length : Int) - 1)), (by first | rfl | (simp; done) | (simp [*]; done)), H', ⟨Nat.le_refl _⟩, ⟨by (try simp only [hl8_1]); (try simp only [hl8_2]); (with_reducible repeat (first | apply Kd.R_alloc | apply Kd.R_drewN | apply Kd.R_drew)); exact HO_8.out⟩, ⟨by repeat (first | (with_reducible first | exact HB.out | apply below_alloc | apply pw_below_drewN | apply below_drew1) | exact HB.out)⟩⟩
                      case round =>
                        clear H'
                        try clear c1
                        try clear p1
                        try clear q1
                        try clear hx1
                        try clear qi1
                        try clear p2
                        try clear c3
                        try clear c5
                        try clear p6
                        try clear c7
                        try clear c7b0
                        try clear c7b1
                        try clear c8
                        try clear c8b0
                        try clear c8b1
                        try clear c9
                        try clear c9b0
                        try clear c9b1
                        try clear p10
                        try clear q10
                        try clear hx10
                        try clear qi10
                        try clear hf10
                        try clear c15
                        try clear c15b0
                        try clear c16
                        try clear c16b0
                        try clear hx10_0
                        try clear p1
                        try clear p10
                        try clear p2
                        try clear p6
                        try clear q1
                        try clear q10
                        obtain ⟨x8_3, x13_3, rfl, HA, HK3, HO_8, HB⟩ := hrel
                        have hl8_3 := (Kd.R_reads' HO_8.out).1
                        rw [hl8_3] at HO_8
                        (try simp only [hl8_3])
                        cases gk with
                        | zero => exact absurd HA.out (by simp [spec_BoxBySum.l2])
                        | succ k3 =>
                          have H := HA.out
                          clear HA
                          simp only [spec_BoxBySum.l2] at H
                          by_cases c17 : x13_3 ≥ (wrap64 ((wrap64 ((wrap64 (x9_1 + x10_2)) + a2)) - 1))
                          · rw [if_pos c17] at H
                            have c17b0 : decide ((wrap64 ((wrap64 ((wrap64 (x9_1 + x10_2)) + a2)) - 1)) ≤ x13_3) = true := decide_eq_true c17
                            clear c17
                            by_cases c18 : 0 ≤ x13_3
                            · rw [if_pos c18] at H
                              have c18b0 : decide (0 ≤ x13_3) = true := decide_eq_true c18
                              clear c18
                              by_cases c19 : x13_3 < (x8_3.length : Int)
                              · rw [if_pos c19] at H
                                have c19b0 : decide (x13_3 < (x8_3.length : Int)) = true := decide_eq_true c19
                                clear c19
                                obtain ⟨ji20, hji20⟩ : ∃ j_ : Int, (wrap64 (x13_3 - (wrap64 ((wrap64 ((wrap64 (x9_1 + x10_2)) + a2)) - 1)))) = j_ := ⟨_, rfl⟩
                                replace H : (if 0 ≤ (ji20) then (if (ji20) < (x8_3.length : Int) then (spec_BoxBySum.l2 k3 a0 a1 a2 (x8_3.set (x13_3 : Int).toNat (wrap64 ((rd x8_3 x13_3) - (rd x8_3 (ji20))))) x9_1 x10_2 (wrap64 ((wrap64 ((wrap64 (x9_1 + x10_2)) + a2)) - 1)) (wrap64 ((wrap64 (x9_1 + x10_2)) - 1)) (wrap64 (x13_3 - 1))) else (none)) else (none)) = some (r1, r2) := by first | (rw [hji20] at H; exact H) | (simp only [hji20] at H ⊢; exact H)
                                have hji20w : (IntKind.i64.wrap (x13_3 - (wrap64 ((wrap64 ((wrap64 (x9_1 + x10_2)) + a2)) - 1)))) = ji20 := (i64_w _).trans hji20
                                by_cases c21 : 0 ≤ (ji20)
                                · rw [if_pos c21] at H
                                  have c21b0 : decide (0 ≤ (ji20)) = true := decide_eq_true c21
                                  clear c21
                                  by_cases c22 : (ji20) < (x8_3.length : Int)
                                  · rw [if_pos c22] at H
                                    have c22b0 : decide ((ji20) < (x8_3.length : Int)) = true := decide_eq_true c22
                                    clear c22
                                    obtain ⟨y224, hy224⟩ : ∃ y_ : List Int, y_ = (x8_3.set (x13_3 : Int).toNat (wrap64 ((rd x8_3 x13_3) - (rd x8_3 (ji20))))) := ⟨_, rfl⟩
                                    replace H : (spec_BoxBySum.l2 k3 a0 a1 a2 y224 x9_1 x10_2 (wrap64 ((wrap64 ((wrap64 (x9_1 + x10_2)) + a2)) - 1)) (wrap64 ((wrap64 (x9_1 + x10_2)) - 1)) (wrap64 (x13_3 - 1))) = some (r1, r2) := by first | (rw [hy224]; with_reducible exact H) | (have H2_ := (Option.bind_some _ _).symm.trans H; rw [hy224]; with_reducible exact H2_) | (have H2_ := (Option.bind_some _ _).symm.trans H; with_reducible exact H2_) | with_reducible exact H | (rw [hy224]; exact H) | exact H
                                    have Ny224 := Aside0.mk hy224
                                    clear hy224
                                    have H' := Aside0.mk H
                                    clear H
                                    try go_wp2
                                    have n0_ := Aside0.mk (Kd.R_drew HO_8.out)
                                    have n1_ := Aside0.mk (below_drew1 HB.out)
                                    clear HO_8
                                    clear HB
                                    have HO_8 := n0_
                                    have HB := n1_
                                    clear n0_ n1_
                                    have p222 : 0 ≤ (x13_3 : Int) := of_decide_eq_true (by first | (with_reducible assumption) | assumption)
                                    have q222 : x13_3 < (x8_3.length : Int) := of_decide_eq_true (by first | (with_reducible assumption) | assumption)
                                    obtain ⟨ad222, e222, hx222_0⟩ := Kd.at_int (Kd.R_reads' HO_8.out).2.2 x13_3 p222 q222
                                    obtain rfl : (⟨go10, 0, none⟩ : Addr) = ad222 := (by injection e222)
                                    (first | simp only [add_plain] at hx222_0 | simp only [add_at] at hx222_0 | simp only [Addr.add, Nat.zero_add] at hx222_0 | skip)
                                    replace p222 := eq_true p222
                                    replace q222 := eq_true q222
                                    have p223 : 0 ≤ ((ji20) : Int) := of_decide_eq_true (by first | (with_reducible assumption) | assumption)
                                    have q223 : (ji20) < (x8_3.length : Int) := of_decide_eq_true (by first | (with_reducible assumption) | assumption)
                                    obtain ⟨ad223, e223, hx223_0⟩ := Kd.at_int (Kd.R_reads' HO_8.out).2.2 (ji20) p223 q223
                                    obtain rfl : (⟨go10, 0, none⟩ : Addr) = ad223 := (by injection e223)
                                    (first | simp only [add_plain] at hx223_0 | simp only [add_at] at hx223_0 | simp only [Addr.add, Nat.zero_add] at hx223_0 | skip)
                                    replace p223 := eq_true p223
                                    replace q223 := eq_true q223
                                    have p23 : 0 ≤ (x13_3 : Int) := of_decide_eq_true (by first | (with_reducible assumption) | assumption)
                                    have q23 : (x13_3 : Int) < ((x8_3.length : Int) : Int) := of_decide_eq_true (by first | (with_reducible assumption) | assumption)
                                    obtain ⟨hx23_0, hf23_0⟩ := Kd.R_celln 0 HO_8.out (x13_3 : Int) p23 q23
                                    replace p23 := eq_true p23
                                    replace q23 := eq_true q23
                                    have HP25 := Kd.R_putn HO_8.out (x13_3 : Int) (wrap64 ((rd x8_3 x13_3) - (rd x8_3 (ji20))))
                                    rw [← Ny224.out] at HP25
                                    have HQ25 := Aside0.mk HP25
                                    clear HP25
                                    refine start_ (n := 13) (S := fun w' => w'.cell? ⟨go10, (x13_3).toNat, none⟩ = some (.int .i64 (rd x8_3 x13_3)) ∧ w'.cell? ⟨go10, ((ji20)).toNat, none⟩ = some (.int .i64 (rd x8_3 (ji20)))) (ds := [12]) #[false, false, false, false, false, false, false, false, false, false, false, false, false] (by kernel_rfl) rfl rfl ⟨hx222_0, hx223_0⟩ (fun hHeld => ?_); refine with_tabW spec_BoxBySum.tab15 spec_BoxBySum.bits15 (fun HT_ HW_ => ?_)
                                    generalize wr.drew = w24 at HO_8 HB HQ25 hf23_0 hx222_0 hx223_0 hx23_0 hHeld ⊢
                                    refine pure_ (i := 0) (N := some 57) (v := ?_) (a' := ?_) #[true, false, false, false, false, false, false, false, false, false, false, false, false] rfl rfl (any_of HT_.out (by kernel_rfl)) (fun _ _ _ h => h) (Or.inl ⟨by rfl, ?_⟩) ?_ ?_
                                    rotate_left
                                    · intro w'
                                      go_simp
                                      with_reducible rfl
                                    rotate_left
                                    · simp only [Act.put, List.setIfInBounds_toArray, List.set_cons_zero, List.set_cons_succ, i64_w, i32_w]
                                      rfl
                                    refine pure_ (i := 1) (N := some 58) (v := ?_) (a' := ?_) #[true, true, false, false, false, false, false, false, false, false, false, false, false] rfl rfl (any_of HT_.out (by kernel_rfl)) (fun _ _ _ h => h) (Or.inl ⟨by rfl, ?_⟩) ?_ ?_
                                    rotate_left
                                    · intro w'
                                      go_simp
                                      with_reducible rfl
                                    rotate_left
                                    · simp only [Act.put, List.setIfInBounds_toArray, List.set_cons_zero, List.set_cons_succ, i64_w, i32_w]
                                      rfl
                                    refine pure_ (i := 2) (N := some 59) (v := ?_) (a' := ?_) #[true, true, true, false, false, false, false, false, false, false, false, false, false] rfl rfl (any_of HT_.out (by kernel_rfl)) (fun _ _ _ h => h) (Or.inl ⟨by rfl, ?_⟩) ?_ ?_
                                    rotate_left
                                    · intro w'
                                      go_simp
                                      with_reducible rfl
                                    rotate_left
                                    · simp only [Act.put, List.setIfInBounds_toArray, List.set_cons_zero, List.set_cons_succ, i64_w, i32_w]
                                      rfl
                                    refine pure_ (i := 4) (N := some 61) (v := ?_) (a' := ?_) #[true, true, true, false, true, false, false, false, false, false, false, false, false] rfl rfl (any_of HT_.out (by kernel_rfl)) (fun _ _ _ h => h) (Or.inl ⟨by rfl, ?_⟩) ?_ ?_
                                    rotate_left
                                    · intro w'
                                      go_simp
                                      with_reducible rfl
                                    rotate_left
                                    · simp only [Act.put, List.setIfInBounds_toArray, List.set_cons_zero, List.set_cons_succ, i64_w, i32_w]
                                      rfl
                                    refine pure_ (i := 5) (N := some 62) (v := ?_) (a' := ?_) #[true, true, true, false, true, true, false, false, false, false, false, false, false] rfl rfl (any_of HT_.out (by kernel_rfl)) (fun _ _ _ h => h) (Or.inl ⟨by rfl, ?_⟩) ?_ ?_
                                    rotate_left
                                    · intro w'
                                      go_simp
                                      with_reducible rfl
                                    rotate_left
                                    · simp only [Act.put, List.setIfInBounds_toArray, List.set_cons_zero, List.set_cons_succ, i64_w, i32_w]
                                      rfl
                                    refine pure_ (i := 6) (N := some 63) (v := ?_) (a' := ?_) #[true, true, true, false, true, true, true, false, false, false, false, false, false] rfl rfl (any_of HT_.out (by kernel_rfl)) (fun _ _ _ h => h) (Or.inl ⟨by rfl, ?_⟩) ?_ ?_
                                    rotate_left
                                    · intro w'
                                      go_simp
                                      with_reducible rfl
                                    rotate_left
                                    · simp only [Act.put, List.setIfInBounds_toArray, List.set_cons_zero, List.set_cons_succ, i64_w, i32_w]
                                      rfl
                                    refine pure_ (i := 7) (N := some 64) (v := ?_) (a' := ?_) #[true, true, true, false, true, true, true, true, false, false, false, false, false] rfl rfl (any_of HT_.out (by kernel_rfl)) (fun _ _ _ h => h) (Or.inl ⟨by rfl, ?_⟩) ?_ ?_
                                    rotate_left
                                    · intro w'
                                      go_simp
                                      with_reducible rfl
                                    rotate_left
                                    · simp only [Act.put, List.setIfInBounds_toArray, List.set_cons_zero, List.set_cons_succ, i64_w, i32_w]
                                      rfl
                                    refine pure_ (i := 8) (N := some 65) (v := ?_) (a' := ?_) #[true, true, true, false, true, true, true, true, true, false, false, false, false] rfl rfl (any_of HT_.out (by kernel_rfl)) (fun _ _ _ h => h) (Or.inl ⟨by rfl, ?_⟩) ?_ ?_
                                    rotate_left
                                    · intro w'
                                      go_simp
                                      with_reducible rfl
                                    rotate_left
                                    · simp only [Act.put, List.setIfInBounds_toArray, List.set_cons_zero, List.set_cons_succ, i64_w, i32_w]
                                      rfl
                                    refine take_ (i := 3) (N := some 60) (v := ?_) (a' := ?_) #[true, true, true, true, true, true, true, true, true, false, false, false, false] rfl rfl (take_ofW HT_.out HW_.out (by kernel_rfl)) (fun _ _ _ h => h) (Or.inl ⟨by rfl, ?_⟩) hHeld ?_ ?_
                                    rotate_left
                                    · rintro w' ⟨s0, s1⟩
                                      go_simp
                                      with_reducible rfl
                                    rotate_left
                                    · simp only [Act.put, List.setIfInBounds_toArray, List.set_cons_zero, List.set_cons_succ, i64_w, i32_w]
                                      rfl
                                    refine take_ (i := 9) (N := some 66) (v := ?_) (a' := ?_) #[true, true, true, true, true, true, true, true, true, true, false, false, false] rfl rfl (take_ofW HT_.out HW_.out (by kernel_rfl)) (fun _ _ _ h => h) (Or.inl ⟨by rfl, ?_⟩) hHeld ?_ ?_
                                    rotate_left
                                    · rintro w' ⟨s0, s1⟩
                                      go_simp
                                      with_reducible rfl
                                    rotate_left
                                    · simp only [Act.put, List.setIfInBounds_toArray, List.set_cons_zero, List.set_cons_succ, i64_w, i32_w]
                                      rfl
                                    refine pure_ (i := 10) (N := some 67) (v := ?_) (a' := ?_) #[true, true, true, true, true, true, true, true, true, true, true, false, false] rfl rfl (any_of HT_.out (by kernel_rfl)) (fun _ _ _ h => h) (Or.inl ⟨by rfl, ?_⟩) ?_ ?_
                                    rotate_left
                                    · intro w'
                                      go_simp
                                      with_reducible rfl
                                    rotate_left
                                    · simp only [Act.put, List.setIfInBounds_toArray, List.set_cons_zero, List.set_cons_succ, i64_w, i32_w]
                                      rfl
                                    refine pure_ (i := 11) (N := some 68) (v := ?_) (a' := ?_) #[true, true, true, true, true, true, true, true, true, true, true, true, false] rfl rfl (any_of HT_.out (by kernel_rfl)) (fun _ _ _ h => h) (Or.inl ⟨by rfl, ?_⟩) ?_ ?_
                                    rotate_left
                                    · intro w'
                                      go_simp
                                      with_reducible rfl
                                    rotate_left
                                    · simp only [Act.put, List.setIfInBounds_toArray, List.set_cons_zero, List.set_cons_succ, i64_w, i32_w]
                                      rfl
                                    refine last_ (i := 12) (N := none) #[true, true, true, true, true, true, true, true, true, true, true, true, true] rfl rfl (one_of HT_.out (by kernel_rfl)) (by decide) (fun K hK => ?_)
                                    refine skip_ (w1 := ?_) (by rfl) rfl ?_ ?_
                                    rotate_left
                                    · go_simp
                                      rfl
                                    refine hK.out _ _ ?_
                                    clear hK K
                                    refine done_ (done_of HT_.out (by kernel_rfl)) ?_
                                    try go_wp2
                                    (try simp only [← hl8_3])
                                    go_roundg k3
                                    case measure => have := HK1.out; have := HK2.out; have := HK3.out; omega
                                    case rel => exact ⟨(y224), (wrap64 (x13_3 - 1)), (by first | rfl | (simp; done) | (simp [*]; done)), H', ⟨by have := HK1.out; have := HK2.out; have := HK3.out; omega⟩, ⟨by (try simp only [hl8_1]); (try simp only [hl8_2]); (try simp only [hl8_3]); (with_reducible repeat (first | apply Kd.R_alloc | apply Kd.R_drewN | apply Kd.R_drew)); exact HQ25.out⟩, ⟨by repeat (first | (with_reducible first | exact HB.out | apply below_alloc | apply pw_below_drewN | apply below_drew1 | refine below_set ?_ GB10.out) | exact HB.out)⟩⟩
                                  · rw [if_neg c22] at H
                                    exact absurd H (by simp)
                                · rw [if_neg c21] at H
                                  exact absurd H (by simp)
                              · rw [if_neg c19] at H
                                exact absurd H (by simp)
                            · rw [if_neg c18] at H
                              exact absurd H (by simp)
                          · rw [if_neg c17] at H
                            have c17b0 : decide ((wrap64 ((wrap64 ((wrap64 (x9_1 + x10_2)) + a2)) - 1)) ≤ x13_3) = false := decide_eq_false c17
                            clear c17
                            have H' := Aside0.mk H
                            clear H
                            go_wp2
                            go_loopg [14] k3 (fun kq v14 w' => ∃ (x8_4 : List Int) (x14_4 : Int), v14 = .int .i64 x14_4 ∧ Aside0 (spec_BoxBySum.l3 kq a0 a1 a2 x8_4 x9_1 x10_2 (wrap64 ((wrap64 (x9_1 + x10_2)) - 1)) x14_4 = some (r1, r2)) ∧ Aside0 (kq ≤ k3) ∧ Aside0 (Kd.R (Kd.int .i64) 3 w' w.heap.size (fun _ => True) (.slice (some ⟨go10, 0, none⟩) x8_3.length co10) x8_4) ∧ Aside0 (Below w.heap.size w w'))
                            case atStart => exact ⟨(x8_3), ((wrap64 ((wrap64 (x9_1 + x10_2)) - 1))), (by first | rfl | (simp; done) | (simp [*]; done)), H', ⟨Nat.le_refl _⟩, ⟨by (try simp only [hl8_1]); (try simp only [hl8_2]); (try simp only [hl8_3]); (with_reducible repeat (first | apply Kd.R_alloc | apply Kd.R_drewN | apply Kd.R_drew)); exact HO_8.out⟩, ⟨by repeat (first | (with_reducible first | exact HB.out | apply below_alloc | apply pw_below_drewN | apply below_drew1) | exact HB.out)⟩⟩
                            case round =>
                              clear H'
                              try clear c1
                              try clear p1
                              try clear q1
                              try clear hx1
                              try clear qi1
                              try clear c2
                              try clear p2
                              try clear q2
                              try clear hx2
                              try clear c3
                              try clear c5
                              try clear p6
                              try clear c7
                              try clear c7b0
                              try clear c7b1
                              try clear c8
                              try clear c8b0
                              try clear c8b1
                              try clear c9
                              try clear c9b0
                              try clear c9b1
                              try clear p10
                              try clear q10
                              try clear hx10
                              try clear qi10
                              try clear hf10
                              try clear c15
                              try clear c15b0
                              try clear c16
                              try clear c16b0
                              try clear c17
                              try clear c17b0
                              try clear c18
                              try clear c18b0
                              try clear c19
                              try clear c19b0
                              try clear c21
                              try clear c21b0
                              try clear c22
                              try clear c22b0
                              try clear p22
                              try clear q22
                              try clear hx22
                              try clear p23
                              try clear q23
                              try clear hx23
                              try clear hf23
                              try clear hx10_0
                              try clear hx222_0
                              try clear hx223_0
                              try clear hx23_0
                              try clear p1
                              try clear p10
                              try clear p2
                              try clear p222
                              try clear p223
                              try clear p23
                              try clear p6
                              try clear q1
                              try clear q10
                              try clear q222
                              try clear q223
                              try clear q23
                              obtain ⟨x8_4, x14_4, rfl, HA, HK4, HO_8, HB⟩ := hrel
                              have hl8_4 := (Kd.R_reads' HO_8.out).1
                              rw [hl8_4] at HO_8
                              (try simp only [hl8_4])
                              cases gk with
                              | zero => exact absurd HA.out (by simp [spec_BoxBySum.l3])
                              | succ k4 =>
                                have H := HA.out
                                clear HA
                                simp only [spec_BoxBySum.l3] at H
                                by_cases c26 : x14_4 < (x8_4.length : Int)
                                · rw [if_pos c26] at H
                                  have c26b0 : decide (x14_4 < (x8_4.length : Int)) = true := decide_eq_true c26
                                  clear c26
                                  by_cases c27 : 0 ≤ x14_4
                                  · rw [if_pos c27] at H
                                    have c27b0 : decide (0 ≤ x14_4) = true := decide_eq_true c27
                                    clear c27
                                    obtain ⟨ji28, hji28⟩ : ∃ j_ : Int, (wrap64 (x14_4 - (wrap64 ((wrap64 (x9_1 + x10_2)) - 1)))) = j_ := ⟨_, rfl⟩
                                    replace H : (if 0 ≤ (ji28) then (if (ji28) < (x8_4.length : Int) then (spec_BoxBySum.l3 k4 a0 a1 a2 (x8_4.set (x14_4 : Int).toNat (wrap64 ((rd x8_4 x14_4) + (rd x8_4 (ji28))))) x9_1 x10_2 (wrap64 ((wrap64 (x9_1 + x10_2)) - 1)) (wrap64 (x14_4 + 1))) else (none)) else (none)) = some (r1, r2) := by first | (rw [hji28] at H; exact H) | (simp only [hji28] at H ⊢; exact H)
                                    have hji28w : (IntKind.i64.wrap (x14_4 - (wrap64 ((wrap64 (x9_1 + x10_2)) - 1)))) = ji28 := (i64_w _).trans hji28
                                    by_cases c29 : 0 ≤ (ji28)
                                    · rw [if_pos c29] at H
                                      have c29b0 : decide (0 ≤ (ji28)) = true := decide_eq_true c29
                                      clear c29
                                      by_cases c30 : (ji28) < (x8_4.length : Int)
                                      · rw [if_pos c30] at H
                                        have c30b0 : decide ((ji28) < (x8_4.length : Int)) = true := decide_eq_true c30
                                        clear c30
                                        obtain ⟨y227, hy227⟩ : ∃ y_ : List Int, y_ = (x8_4.set (x14_4 : Int).toNat (wrap64 ((rd x8_4 x14_4) + (rd x8_4 (ji28))))) := ⟨_, rfl⟩
                                        replace H : (spec_BoxBySum.l3 k4 a0 a1 a2 y227 x9_1 x10_2 (wrap64 ((wrap64 (x9_1 + x10_2)) - 1)) (wrap64 (x14_4 + 1))) = some (r1, r2) := by first | (rw [hy227]; with_reducible exact H) | (have H2_ := (Option.bind_some _ _).symm.trans H; rw [hy227]; with_reducible exact H2_) | (have H2_ := (Option.bind_some _ _).symm.trans H; with_reducible exact H2_) | with_reducible exact H | (rw [hy227]; exact H) | exact H
                                        have Ny227 := Aside0.mk hy227
                                        clear hy227
                                        have H' := Aside0.mk H
                                        clear H
                                        try go_wp2
                                        have n0_ := Aside0.mk (Kd.R_drew HO_8.out)
                                        have n1_ := Aside0.mk (below_drew1 HB.out)
                                        clear HO_8
                                        clear HB
                                        have HO_8 := n0_
                                        have HB := n1_
                                        clear n0_ n1_
                                        have p225 : 0 ≤ (x14_4 : Int) := of_decide_eq_true (by first | (with_reducible assumption) | assumption)
                                        have q225 : x14_4 < (x8_4.length : Int) := of_decide_eq_true (by first | (with_reducible assumption) | assumption)
                                        obtain ⟨ad225, e225, hx225_0⟩ := Kd.at_int (Kd.R_reads' HO_8.out).2.2 x14_4 p225 q225
                                        obtain rfl : (⟨go10, 0, none⟩ : Addr) = ad225 := (by injection e225)
                                        (first | simp only [add_plain] at hx225_0 | simp only [add_at] at hx225_0 | simp only [Addr.add, Nat.zero_add] at hx225_0 | skip)
                                        replace p225 := eq_true p225
                                        replace q225 := eq_true q225
                                        have p226 : 0 ≤ ((ji28) : Int) := of_decide_eq_true (by first | (with_reducible assumption) | assumption)
                                        have q226 : (ji28) < (x8_4.length : Int) := of_decide_eq_true (by first | (with_reducible assumption) | assumption)
                                        obtain ⟨ad226, e226, hx226_0⟩ := Kd.at_int (Kd.R_reads' HO_8.out).2.2 (ji28) p226 q226
                                        obtain rfl : (⟨go10, 0, none⟩ : Addr) = ad226 := (by injection e226)
                                        (first | simp only [add_plain] at hx226_0 | simp only [add_at] at hx226_0 | simp only [Addr.add, Nat.zero_add] at hx226_0 | skip)
                                        replace p226 := eq_true p226
                                        replace q226 := eq_true q226
                                        have p31 : 0 ≤ (x14_4 : Int) := of_decide_eq_true (by first | (with_reducible assumption) | assumption)
                                        have q31 : (x14_4 : Int) < ((x8_4.length : Int) : Int) := of_decide_eq_true (by first | (with_reducible assumption) | assumption)
                                        obtain ⟨hx31_0, hf31_0⟩ := Kd.R_celln 0 HO_8.out (x14_4 : Int) p31 q31
                                        replace p31 := eq_true p31
                                        replace q31 := eq_true q31
                                        have HP33 := Kd.R_putn HO_8.out (x14_4 : Int) (wrap64 ((rd x8_4 x14_4) + (rd x8_4 (ji28))))
                                        rw [← Ny227.out] at HP33
                                        have HQ33 := Aside0.mk HP33
                                        clear HP33
                                        refine start_ (n := 13) (S := fun w' => w'.cell? ⟨go10, (x14_4).toNat, none⟩ = some (.int .i64 (rd x8_4 x14_4)) ∧ w'.cell? ⟨go10, ((ji28)).toNat, none⟩ = some (.int .i64 (rd x8_4 (ji28)))) (ds := [12]) #[false, false, false, false, false, false, false, false, false, false, false, false, false] (by kernel_rfl) rfl rfl ⟨hx225_0, hx226_0⟩ (fun hHeld => ?_); refine with_tabW spec_BoxBySum.tab19 spec_BoxBySum.bits19 (fun HT_ HW_ => ?_)
                                        generalize wr.drew = w32 at HO_8 HB HQ33 hf31_0 hx225_0 hx226_0 hx31_0 hHeld ⊢
                                        refine pure_ (i := 0) (N := some 76) (v := ?_) (a' := ?_) #[true, false, false, false, false, false, false, false, false, false, false, false, false] rfl rfl (any_of HT_.out (by kernel_rfl)) (fun _ _ _ h => h) (Or.inl ⟨by rfl, ?_⟩) ?_ ?_
                                        rotate_left
                                        · intro w'
                                          go_simp
                                          with_reducible rfl
                                        rotate_left
                                        · simp only [Act.put, List.setIfInBounds_toArray, List.set_cons_zero, List.set_cons_succ, i64_w, i32_w]
                                          rfl
                                        refine pure_ (i := 1) (N := some 77) (v := ?_) (a' := ?_) #[true, true, false, false, false, false, false, false, false, false, false, false, false] rfl rfl (any_of HT_.out (by kernel_rfl)) (fun _ _ _ h => h) (Or.inl ⟨by rfl, ?_⟩) ?_ ?_
                                        rotate_left
                                        · intro w'
                                          go_simp
                                          with_reducible rfl
                                        rotate_left
                                        · simp only [Act.put, List.setIfInBounds_toArray, List.set_cons_zero, List.set_cons_succ, i64_w, i32_w]
                                          rfl
                                        refine pure_ (i := 2) (N := some 78) (v := ?_) (a' := ?_) #[true, true, true, false, false, false, false, false, false, false, false, false, false] rfl rfl (any_of HT_.out (by kernel_rfl)) (fun _ _ _ h => h) (Or.inl ⟨by rfl, ?_⟩) ?_ ?_
                                        rotate_left
                                        · intro w'
                                          go_simp
                                          with_reducible rfl
                                        rotate_left
                                        · simp only [Act.put, List.setIfInBounds_toArray, List.set_cons_zero, List.set_cons_succ, i64_w, i32_w]
                                          rfl
                                        refine pure_ (i := 4) (N := some 80) (v := ?_) (a' := ?_) #[true, true, true, false, true, false, false, false, false, false, false, false, false] rfl rfl (any_of HT_.out (by kernel_rfl)) (fun _ _ _ h => h) (Or.inl ⟨by rfl, ?_⟩) ?_ ?_
                                        rotate_left
                                        · intro w'
                                          go_simp
                                          with_reducible rfl
                                        rotate_left
                                        · simp only [Act.put, List.setIfInBounds_toArray, List.set_cons_zero, List.set_cons_succ, i64_w, i32_w]
                                          rfl
                                        refine pure_ (i := 5) (N := some 81) (v := ?_) (a' := ?_) #[true, true, true, false, true, true, false, false, false, false, false, false, false] rfl rfl (any_of HT_.out (by kernel_rfl)) (fun _ _ _ h => h) (Or.inl ⟨by rfl, ?_⟩) ?_ ?_
                                        rotate_left
                                        · intro w'
                                          go_simp
                                          with_reducible rfl
                                        rotate_left
                                        · simp only [Act.put, List.setIfInBounds_toArray, List.set_cons_zero, List.set_cons_succ, i64_w, i32_w]
                                          rfl
                                        refine pure_ (i := 6) (N := some 82) (v := ?_) (a' := ?_) #[true, true, true, false, true, true, true, false, false, false, false, false, false] rfl rfl (any_of HT_.out (by kernel_rfl)) (fun _ _ _ h => h) (Or.inl ⟨by rfl, ?_⟩) ?_ ?_
                                        rotate_left
                                        · intro w'
                                          go_simp
                                          with_reducible rfl
                                        rotate_left
                                        · simp only [Act.put, List.setIfInBounds_toArray, List.set_cons_zero, List.set_cons_succ, i64_w, i32_w]
                                          rfl
                                        refine pure_ (i := 7) (N := some 83) (v := ?_) (a' := ?_) #[true, true, true, false, true, true, true, true, false, false, false, false, false] rfl rfl (any_of HT_.out (by kernel_rfl)) (fun _ _ _ h => h) (Or.inl ⟨by rfl, ?_⟩) ?_ ?_
                                        rotate_left
                                        · intro w'
                                          go_simp
                                          with_reducible rfl
                                        rotate_left
                                        · simp only [Act.put, List.setIfInBounds_toArray, List.set_cons_zero, List.set_cons_succ, i64_w, i32_w]
                                          rfl
                                        refine pure_ (i := 8) (N := some 84) (v := ?_) (a' := ?_) #[true, true, true, false, true, true, true, true, true, false, false, false, false] rfl rfl (any_of HT_.out (by kernel_rfl)) (fun _ _ _ h => h) (Or.inl ⟨by rfl, ?_⟩) ?_ ?_
                                        rotate_left
                                        · intro w'
                                          go_simp
                                          with_reducible rfl
                                        rotate_left
                                        · simp only [Act.put, List.setIfInBounds_toArray, List.set_cons_zero, List.set_cons_succ, i64_w, i32_w]
                                          rfl
                                        refine take_ (i := 3) (N := some 79) (v := ?_) (a' := ?_) #[true, true, true, true, true, true, true, true, true, false, false, false, false] rfl rfl (take_ofW HT_.out HW_.out (by kernel_rfl)) (fun _ _ _ h => h) (Or.inl ⟨by rfl, ?_⟩) hHeld ?_ ?_
                                        rotate_left
                                        · rintro w' ⟨s0, s1⟩
                                          go_simp
                                          with_reducible rfl
                                        rotate_left
                                        · simp only [Act.put, List.setIfInBounds_toArray, List.set_cons_zero, List.set_cons_succ, i64_w, i32_w]
                                          rfl
                                        refine take_ (i := 9) (N := some 85) (v := ?_) (a' := ?_) #[true, true, true, true, true, true, true, true, true, true, false, false, false] rfl rfl (take_ofW HT_.out HW_.out (by kernel_rfl)) (fun _ _ _ h => h) (Or.inl ⟨by rfl, ?_⟩) hHeld ?_ ?_
                                        rotate_left
                                        · rintro w' ⟨s0, s1⟩
                                          go_simp
                                          with_reducible rfl
                                        rotate_left
                                        · simp only [Act.put, List.setIfInBounds_toArray, List.set_cons_zero, List.set_cons_succ, i64_w, i32_w]
                                          rfl
                                        refine pure_ (i := 10) (N := some 86) (v := ?_) (a' := ?_) #[true, true, true, true, true, true, true, true, true, true, true, false, false] rfl rfl (any_of HT_.out (by kernel_rfl)) (fun _ _ _ h => h) (Or.inl ⟨by rfl, ?_⟩) ?_ ?_
                                        rotate_left
                                        · intro w'
                                          go_simp
                                          with_reducible rfl
                                        rotate_left
                                        · simp only [Act.put, List.setIfInBounds_toArray, List.set_cons_zero, List.set_cons_succ, i64_w, i32_w]
                                          rfl
                                        refine pure_ (i := 11) (N := some 87) (v := ?_) (a' := ?_) #[true, true, true, true, true, true, true, true, true, true, true, true, false] rfl rfl (any_of HT_.out (by kernel_rfl)) (fun _ _ _ h => h) (Or.inl ⟨by rfl, ?_⟩) ?_ ?_
                                        rotate_left
                                        · intro w'
                                          go_simp
                                          with_reducible rfl
                                        rotate_left
                                        · simp only [Act.put, List.setIfInBounds_toArray, List.set_cons_zero, List.set_cons_succ, i64_w, i32_w]
                                          rfl
                                        refine last_ (i := 12) (N := none) #[true, true, true, true, true, true, true, true, true, true, true, true, true] rfl rfl (one_of HT_.out (by kernel_rfl)) (by decide) (fun K hK => ?_)
                                        refine skip_ (w1 := ?_) (by rfl) rfl ?_ ?_
                                        rotate_left
                                        · go_simp
                                          rfl
                                        refine hK.out _ _ ?_
                                        clear hK K
                                        refine done_ (done_of HT_.out (by kernel_rfl)) ?_
                                        try go_wp2
                                        (try simp only [← hl8_4])
                                        go_roundg k4
                                        case measure => have := HK1.out; have := HK2.out; have := HK3.out; have := HK4.out; omega
                                        case rel => exact ⟨(y227), (wrap64 (x14_4 + 1)), (by first | rfl | (simp; done) | (simp [*]; done)), H', ⟨by have := HK1.out; have := HK2.out; have := HK3.out; have := HK4.out; omega⟩, ⟨by (try simp only [hl8_1]); (try simp only [hl8_2]); (try simp only [hl8_3]); (try simp only [hl8_4]); (with_reducible repeat (first | apply Kd.R_alloc | apply Kd.R_drewN | apply Kd.R_drew)); exact HQ33.out⟩, ⟨by repeat (first | (with_reducible first | exact HB.out | apply below_alloc | apply pw_below_drewN | apply below_drew1 | refine below_set ?_ GB10.out) | exact HB.out)⟩⟩
                                      · rw [if_neg c30] at H
                                        exact absurd H (by simp)
                                    · rw [if_neg c29] at H
                                      exact absurd H (by simp)
                                  · rw [if_neg c27] at H
                                    exact absurd H (by simp)
                                · rw [if_neg c26] at H
                                  have c26b0 : decide (x14_4 < (x8_4.length : Int)) = false := decide_eq_false c26
                                  clear c26
                                  have H' := Aside0.mk H
                                  clear H
                                  go_wp2
                                  (try simp only [← hl8_2, ← hl8_3, ← hl8_4])
                                  go_roundg k4
                                  case measure => have := HK1.out; have := HK2.out; have := HK3.out; have := HK4.out; omega
                                  case rel => exact ⟨(x8_4), (wrap64 (x10_2 + 1)), (by first | rfl | (simp; done) | (simp [*]; done)), H', ⟨by have := HK1.out; have := HK2.out; have := HK3.out; have := HK4.out; omega⟩, ⟨by (try simp only [hl8_1]); (try simp only [hl8_2]); (try simp only [hl8_3]); (try simp only [hl8_4]); (with_reducible repeat (first | apply Kd.R_alloc | apply Kd.R_drewN | apply Kd.R_drew)); exact HO_8.out⟩, ⟨by repeat (first | (with_reducible first | exact HB.out | apply below_alloc | apply pw_below_drewN | apply below_drew1) | exact HB.out)⟩⟩
                    · rw [if_neg c16] at H
                      have c16b0 : decide (x10_2 ≤ a1) = false := decide_eq_false c16
                      clear c16
                      have H' := Aside0.mk H
                      clear H
                      go_wp2
                      (try simp only [← hl8_1, ← hl8_2])
                      go_roundg k2
                      case measure => have := HK1.out; have := HK2.out; omega
                      case rel => exact ⟨(x8_2), (wrap64 (x9_1 + 1)), (by first | rfl | (simp; done) | (simp [*]; done)), H', ⟨by have := HK1.out; have := HK2.out; omega⟩, ⟨by (try simp only [hl8_1]); (try simp only [hl8_2]); (with_reducible repeat (first | apply Kd.R_alloc | apply Kd.R_drewN | apply Kd.R_drew)); exact HO_8.out⟩, ⟨by repeat (first | (with_reducible first | exact HB.out | apply below_alloc | apply pw_below_drewN | apply below_drew1) | exact HB.out)⟩⟩
              · rw [if_neg c15] at H
                have c15b0 : decide (x9_1 ≤ a0) = false := decide_eq_false c15
                clear c15
                simp only [Option.some.injEq, Prod.mk.injEq] at H
                obtain ⟨rfl, rfl⟩ := H
                go_wp2
                go_ret2
                exact ⟨_, by first | rfl | (simp [errW_none, errW_some] <;> rfl) | (simp only [← hji6]; first | rfl | (simp [errW_none, errW_some] <;> rfl)) | (simp [*, errW_none, errW_some] <;> rfl), by (with_reducible repeat (first | apply Kd.R_alloc | apply Kd.R_drewN | apply Kd.R_drew)); exact HO_8.out, by repeat (first | (with_reducible first | exact HB.out | apply below_alloc | apply pw_below_drewN | apply below_drew1) | exact HB.out)⟩
        · rw [if_neg c9] at H
          exact absurd H (by simp)
      · rw [if_neg c8] at H
        exact absurd H (by simp)
    · rw [if_neg c7] at H
      exact absurd H (by simp)
  · replace c5 := Bool.eq_false_iff.mpr c5
    subst c5
    have H1 : (some (([] : List Int), false)) = some (r1, r2) := by rw [if_neg (show ¬ (false = true) by decide)] at H; exact H
    clear H
    have H := H1
    clear H1
    simp only [Option.some.injEq, Prod.mk.injEq] at H
    obtain ⟨rfl, rfl⟩ := H
    go_enter Try.func19, Try.ntmps19
    go_wp2_with (first | ((with_reducible refine gate_callee (f := 38) rfl ?_); refine goesL_ (some 18) rfl rfl Try.func38 (by kernel_rfl) rfl #[.int .i64 a0, .int .i64 a1, .int .i64 a2] rfl (by (try simp only [List.map_toArray, List.map_cons, List.map_nil]); first | done | rfl | (simp only [List.length_drop, List.length_take]; rfl)) ?_; (with_reducible refine (spec_laBox.calls a0 a1 a2 false _ A4.out).mono ?_); rintro e w' ⟨rfl, ⟨nd, rfl⟩⟩; refine ⟨_, rfl, ?_⟩))
    go_ret2
    exact ⟨_, by first | rfl | (simp [errW_none, errW_some] <;> rfl) | (simp [*, errW_none, errW_some] <;> rfl), by first | exact Kd.R_nil _ _ _ _ _ | exact Kd.N_nil _ _ _ _ _ | exact Kd.V_nil _ _ _ _ _ | exact Kd.Q_nil _ _ _ _ _ | exact Kd.S_nil _ _ _ _ _, by repeat (first | (with_reducible first | exact HB.out | apply below_alloc | apply pw_below_drewN | apply below_drew1) | exact HB.out)⟩

end Go.Proofs.Ytemkddgfneohhaa.F
end

section
namespace Go.Proofs.Ytemkddgfneohhaa.Q
open Go.RowKit Go.Proofs.YtemkddgfneohhaaW.PrintWords
set_option linter.unusedVariables false
theorem wid {n : Int} (h0 : -9223372036854775808 ≤ n) (h1 : n ≤ 9223372036854775807) : wrap64 n = n := by unfold wrap64; omega
theorem wid1 {i n : Nat} (h : i < n) (hn : n ≤ 9223372036854775807) : wrap64 ((i : Int) + 1) = ((i + 1 : Nat) : Int) := by unfold wrap64; omega
theorem rdN (l : List Int) (i : Nat) : rd l (i : Int) = l.getD i 0 := by unfold rd; simp
theorem rdN' {l : List Int} {i : Nat} (h : i < l.length) : rd l (i : Int) = l[i] := by rw [rdN, List.getD_eq_getElem?_getD, List.getElem?_eq_getElem h]; rfl
theorem downTo {P : Nat → Prop} (n : Nat) (h0 : P n) (hs : ∀ i, i < n → P (i + 1) → P i) : ∀ i, i ≤ n → P i := by
  intro i hi
  obtain ⟨d, hd⟩ : ∃ d, n - i = d := ⟨_, rfl⟩
  induction d generalizing i with
  | zero => have : i = n := by omega
            subst this; exact h0
  | succ d ih => exact hs i (by omega) (ih (i + 1) (by omega) (by omega))
theorem evc {α : Type} {g : Nat → Option α} {r r' : α} (h : Ev g r) (e : r = r') : Ev g r' := e ▸ h
theorem Ev.ret {α : Type} {r r' : α} (e : r = r') : Ev (fun _ => some r) r' := e ▸ Ev.now r
/-- A call that needs no rounds. -/
theorem Ev.call {α β : Type} {o : Option α} {a : α} {f : Nat → α → Option β} {r : β} (h : o = some a) (k : Ev (fun n => f n a) r) : Ev (fun n => o.bind (f n)) r := by
  subst h; exact k
theorem Ev.yes {α : Type} {c : Prop} [Decidable c] {f g : Nat → Option α} {r : α} (h : c) (k : Ev f r) : Ev (fun n => if c then f n else g n) r := by
  obtain ⟨K, k⟩ := k
  exact ⟨K, fun n hn => by show (if c then f n else g n) = _; rw [if_pos h]; exact k n hn⟩
theorem Ev.no {α : Type} {c : Prop} [Decidable c] {f g : Nat → Option α} {r : α} (h : ¬ c) (k : Ev g r) : Ev (fun n => if c then f n else g n) r := by
  obtain ⟨K, k⟩ := k
  exact ⟨K, fun n hn => by show (if c then f n else g n) = _; rw [if_neg h]; exact k n hn⟩
theorem Ev.ite {α : Type} {c : Prop} [Decidable c] {f g : Nat → Option α} {r : α} (h1 : c → Ev f r) (h2 : ¬ c → Ev g r) : Ev (fun n => if c then f n else g n) r := by
  by_cases h : c
  · exact Ev.yes h (h1 h)
  · exact Ev.no h (h2 h)
theorem Ev.uniq {α : Type} {g : Nat → Option α} {r r' : α} (h : Ev g r) (h' : Ev g r') : r = r' := by
  obtain ⟨K, h⟩ := h
  obtain ⟨K', h'⟩ := h'
  have a := h (max K K') (by omega)
  have b := h' (max K K') (by omega)
  rw [a] at b
  exact Option.some.inj b
theorem Ev.const {α : Type} {o : Option α} {r : α} (h : o = some r) : Ev (fun _ => o) r := ⟨0, fun _ _ => h⟩

/-! ### bits -/
/-- The elements of a that are not in b. -/
def ndiff (a b : Nat) : Nat := a ^^^ (a &&& b)
theorem ndiff_bit (a b i : Nat) : (ndiff a b).testBit i = (a.testBit i && !b.testBit i) := by
  unfold ndiff; rw [Nat.testBit_xor, Nat.testBit_and]; cases a.testBit i <;> cases b.testBit i <;> rfl
theorem wrap_i64_id {n : Int} (h0 : -9223372036854775808 ≤ n) (h1 : n ≤ 9223372036854775807) : IntKind.i64.wrap n = n := by rw [IntKind.wrap_i64]; omega
theorem wraps62 (n : Int) (h0 : 0 ≤ n) (h1 : n < 2 ^ 62) : IntKind.i64.wrap n = n := wrap_i64_id (by omega) (by omega)
theorem bits_andN {a b : Nat} (ha : a < 2 ^ 62) (hb : b < 2 ^ 62) : Go.bits .and .i64 (a : Int) (b : Int) = ((a &&& b : Nat) : Int) :=
  (Go.bits_nat .i64 62 (by decide) wraps62 a b ha hb).1
theorem bits_orN {a b : Nat} (ha : a < 2 ^ 62) (hb : b < 2 ^ 62) : Go.bits .or .i64 (a : Int) (b : Int) = ((a ||| b : Nat) : Int) :=
  (Go.bits_nat .i64 62 (by decide) wraps62 a b ha hb).2
theorem lt_pow {a n m : Nat} (h : a < 2 ^ n) (hnm : n ≤ m) : a < 2 ^ m := Nat.lt_of_lt_of_le h (Nat.pow_le_pow_right (by decide) hnm)
theorem ndiff_le (a b : Nat) : ndiff a b ≤ a := by
  have h := Nat.and_le_left (n := a) (m := b)
  have hx : ndiff a b &&& (a &&& b) = 0 := by
    apply Nat.eq_of_testBit_eq
    intro i
    rw [Nat.testBit_and, ndiff_bit, Nat.testBit_and, Nat.zero_testBit]
    cases a.testBit i <;> cases b.testBit i <;> rfl
  apply Nat.le_of_testBit
  intro i hi
  rw [ndiff_bit] at hi
  simp at hi
  exact hi.1
theorem ndiff_lt {a b m : Nat} (h : a < m) : ndiff a b < m := Nat.lt_of_le_of_lt (ndiff_le a b) h
theorem bits_andNotN {a b : Nat} (ha : a < 2 ^ 62) (hb : b < 2 ^ 62) : Go.bits .andNot .i64 (a : Int) (b : Int) = ((ndiff a b : Nat) : Int) := by
  have e : Go.bits .andNot .i64 (a : Int) (b : Int) = IntKind.i64.wrap ((((BitVec.ofInt 64 a) &&& ~~~(BitVec.ofInt 64 b)).toNat : Nat) : Int) := rfl
  have e2 : ((BitVec.ofInt 64 (a : Int)) &&& ~~~(BitVec.ofInt 64 (b : Int))).toNat = ndiff a b := by
    apply Nat.eq_of_testBit_eq
    intro i
    rw [ndiff_bit, BitVec.ofInt_natCast, BitVec.ofInt_natCast]
    rw [BitVec.testBit_toNat, BitVec.getLsbD_and, BitVec.getLsbD_not, BitVec.getLsbD_ofNat, BitVec.getLsbD_ofNat]
    by_cases hi : i < 64
    · simp [hi]
    · have : a.testBit i = false := Nat.testBit_lt_two_pow (lt_pow ha (by omega))
      simp [hi, this]
  rw [e, e2]
  have h2 := ndiff_lt (b := b) ha
  exact wrap_i64_id (by omega) (by omega)
theorem shlN {i : Nat} (hi : i ≤ 61) : shl .i64 1 (i : Int) = ((2 ^ i : Nat) : Int) := by
  unfold shl
  have h1 : min (i : Int).toNat (IntKind.bits .i64) = i := by simp [IntKind.bits]; omega
  rw [h1]
  have h2 : (2 : Nat) ^ i < 2 ^ 62 := Nat.pow_lt_pow_right (by decide) (by omega)
  have e : (1 : Int) * 2 ^ i = ((2 ^ i : Nat) : Int) := by rw [Int.one_mul]; exact (Int.natCast_pow 2 i).symm
  rw [e]
  exact wraps62 _ (Int.natCast_nonneg _) (by
    have : ((2 ^ i : Nat) : Int) < ((4611686018427387904 : Nat) : Int) := by exact_mod_cast h2
    exact this)
theorem shrN (a i : Nat) (hi : i ≤ 64) : shr .i64 (a : Int) (i : Int) = ((a / 2 ^ i : Nat) : Int) := by
  unfold shr
  have h1 : min (i : Int).toNat (IntKind.bits .i64) = i := by simp [IntKind.bits]; omega
  rw [h1, Int.natCast_ediv, Int.natCast_pow]; rfl
theorem odd_bit (a i : Nat) : ((a / 2 ^ i) % 2 == 1) = a.testBit i := by
  rw [Nat.testBit_eq_decide_div_mod_eq]; rfl
theorem or_lt {a b n : Nat} (ha : a < 2 ^ n) (hb : b < 2 ^ n) : a ||| b < 2 ^ n := Nat.or_lt_two_pow ha hb
theorem bit_lt {a n i : Nat} (h : a < 2 ^ n) (hi : n ≤ i) : a.testBit i = false := Nat.testBit_lt_two_pow (lt_pow h hi)
theorem lt_of_bit {a n i : Nat} (h : a < 2 ^ n) (hi : a.testBit i = true) : i < n := by
  rcases Nat.lt_or_ge i n with h1 | h1
  · exact h1
  · rw [bit_lt h h1] at hi; cases hi
theorem pow_bit (i j : Nat) : (2 ^ i).testBit j = decide (i = j) := by
  rw [Nat.testBit_two_pow]
theorem pow_lt_pow {i n : Nat} (h : i < n) : 2 ^ i < 2 ^ n := Nat.pow_lt_pow_right (by decide) h
theorem ext_bits {a b n : Nat} (ha : a < 2 ^ n) (hb : b < 2 ^ n) (h : ∀ i, i < n → a.testBit i = b.testBit i) : a = b := by
  apply Nat.eq_of_testBit_eq
  intro i
  rcases Nat.lt_or_ge i n with h1 | h1
  · exact h i h1
  · rw [bit_lt ha h1, bit_lt hb h1]
end Go.Proofs.Ytemkddgfneohhaa.Q
end

section
namespace Go.Proofs.Ytemkddgfneohhaa.Q
open Go.RowKit Go.Proofs.YtemkddgfneohhaaW.PrintWords
set_option linter.unusedVariables false
/-- f holds at i, i + 1, .., n - 1. -/
def allFrom (f : Nat → Bool) (n i : Nat) : Bool := (List.range' i (n - i)).all f
theorem allFrom_end (f : Nat → Bool) (n : Nat) : allFrom f n n = true := by simp [allFrom]
theorem allFrom_step (f : Nat → Bool) {n i : Nat} (h : i < n) : allFrom f n i = (f i && allFrom f n (i + 1)) := by
  unfold allFrom
  obtain ⟨d, hd⟩ : ∃ d, n - i = d + 1 := ⟨n - i - 1, by omega⟩
  rw [hd, List.range'_succ, List.all_cons, show n - (i + 1) = d by omega]
theorem allFrom_iff (f : Nat → Bool) (n i : Nat) : allFrom f n i = true ↔ ∀ j, i ≤ j → j < n → f j = true := by
  unfold allFrom
  rw [List.all_eq_true]
  constructor
  · intro h j h1 h2
    exact h j (List.mem_range'_1.2 ⟨h1, by omega⟩)
  · intro h j hj
    obtain ⟨h1, h2⟩ := List.mem_range'_1.1 hj
    exact h j h1 (by omega)
theorem allFrom_congr {f g : Nat → Bool} {n i : Nat} (h : ∀ j, i ≤ j → j < n → f j = g j) : allFrom f n i = allFrom g n i := by
  rw [Bool.eq_iff_iff, allFrom_iff, allFrom_iff]
  exact ⟨fun H j a b => by rw [← h j a b]; exact H j a b, fun H j a b => by rw [h j a b]; exact H j a b⟩
theorem pow_int (i : Nat) : ((2 : Int) ^ i) = ((2 ^ i : Nat) : Int) := (Int.natCast_pow 2 i).symm
theorem mask_eq {i : Nat} (hi : i ≤ 61) : wrap64 ((shl .i64 1 (i : Int)) - 1) = (2 : Int) ^ i - 1 := by
  rw [shlN hi, pow_int]
  have h2 : (2 : Nat) ^ i ≤ 2 ^ 61 := Nat.pow_le_pow_right (by decide) hi
  have hp : 0 < 2 ^ i := Nat.two_pow_pos i
  apply wid <;> generalize 2 ^ i = z at * <;> omega
theorem bit_test {a : Nat} {j : Nat} (hj : j ≤ 64) : (Int.tmod (shr .i64 (a : Int) (j : Int)) 2 = 1) ↔ a.testBit j = true := by
  rw [shrN a j hj, Int.tmod_eq_emod_of_nonneg (Int.natCast_nonneg _), ← odd_bit, beq_iff_eq]
  omega
theorem range_false {a b : Int} {x : Int} (h : ¬ (a ≤ x ∧ x ≤ b)) : (decide (a ≤ x) && decide (x ≤ b)) = false := by
  rw [← Bool.not_eq_true, Bool.and_eq_true, decide_eq_true_eq, decide_eq_true_eq]; exact h
theorem range_true {a b : Int} {x : Int} (h : a ≤ x ∧ x ≤ b) : (decide (a ≤ x) && decide (x ≤ b)) = true := by
  rw [Bool.and_eq_true, decide_eq_true_eq, decide_eq_true_eq]; exact h
end Go.Proofs.Ytemkddgfneohhaa.Q
end

section
namespace Go.Proofs.Ytemkddgfneohhaa.Q
open Go.RowKit Go.Proofs.YtemkddgfneohhaaW.PrintWords Go.Proofs.Ytemkddgfneohhaa.F
set_option linter.unusedVariables false
theorem l1In_eq (a b c : Int) : spec_l1In.f a b c = some (decide (b ≤ a) && decide (a ≤ c)) := by
  unfold spec_l1In.f
  by_cases h : b ≤ a
  · rw [if_pos h]; simp [h]
  · rw [if_neg h]; simp [h]
end Go.Proofs.Ytemkddgfneohhaa.Q
end

section
namespace Go.Proofs.Ytemkddgfneohhaa.Q
open Go.RowKit Go.Proofs.YtemkddgfneohhaaW.PrintWords Go.Proofs.Ytemkddgfneohhaa.F
set_option linter.unusedVariables false
theorem has_eq {a j : Nat} (ha : a < 2 ^ 62) (hj : j ≤ 64) : impl_has.f (a : Int) (j : Int) = some (a.testBit j) := by
  unfold impl_has.f
  rw [if_pos (Int.natCast_nonneg _), shrN a j hj]
  congr 1
  have h1 : a / 2 ^ j < 2 ^ 62 := Nat.lt_of_le_of_lt (Nat.div_le_self _ _) ha
  have := bits_andN (a := a / 2 ^ j) (b := 1) h1 (by decide)
  rw [show ((1 : Nat) : Int) = 1 from rfl] at this
  rw [this, ← odd_bit, Nat.and_one_is_mod]
  rw [Bool.eq_iff_iff, beq_iff_eq, beq_iff_eq]
  omega

end Go.Proofs.Ytemkddgfneohhaa.Q
end

section
namespace Go.Proofs.Ytemkddgfneohhaa.Q
open Go.RowKit Go.Proofs.YtemkddgfneohhaaW.PrintWords Go.Proofs.Ytemkddgfneohhaa.F
set_option linter.unusedVariables false
theorem eqIntS_ev (a b : List Int) (h : a.length ≤ 9223372036854775807) : Ev (fun k => laws_eqIntS.f k a b) (decide (a = b)) := by
  unfold laws_eqIntS.f
  refine Ev.ite (fun hl => ?_) (fun hl => Ev.ret ?_)
  · have hl' : a.length = b.length := by omega
    have key : ∀ i, i ≤ a.length → a.take i = b.take i → Ev (fun k => laws_eqIntS.l0 k a b (i : Int)) (decide (a = b)) := by
      refine downTo _ ?_ ?_
      · intro hp
        refine Ev.step (by intro k; simp only [laws_eqIntS.l0]; rfl) (Ev.no (by omega) (Ev.ret ?_))
        rw [List.take_length, hl', List.take_length] at hp
        simp [hp]
      · intro i hi ih hp
        refine Ev.step (by intro k; simp only [laws_eqIntS.l0]; rfl) (Ev.yes (by omega) (Ev.yes (by omega) (Ev.yes (by omega) ?_)))
        rw [wid1 hi (by omega), rdN, rdN]
        have ga : a.getD i 0 = a[i] := by rw [List.getD_eq_getElem?_getD, List.getElem?_eq_getElem hi]; rfl
        have gb : b.getD i 0 = b[i]'(by omega) := by rw [List.getD_eq_getElem?_getD, List.getElem?_eq_getElem (by omega)]; rfl
        rw [ga, gb]
        refine Ev.ite (fun h => ih ?_) (fun h => Ev.ret ?_)
        · rw [List.take_add_one, List.take_add_one, hp, List.getElem?_eq_getElem hi, List.getElem?_eq_getElem (show i < b.length by omega), h]
        · rw [decide_eq_false]
          intro e
          subst e
          exact h rfl
    exact key 0 (by omega) rfl
  · rw [decide_eq_false]
    intro e
    subst e
    exact hl rfl
theorem eqIntS_refl (a : List Int) (h : a.length ≤ 9223372036854775807) : Ev (fun k => laws_eqIntS.f k a a) true := evc (eqIntS_ev a a h) (by simp)
end Go.Proofs.Ytemkddgfneohhaa.Q
end

section
namespace Go.Proofs.Ytemkddgfneohhaa.Q
open Go.RowKit Go.Proofs.YtemkddgfneohhaaW.PrintWords Go.Proofs.Ytemkddgfneohhaa.F
set_option linter.unusedVariables false
theorem eqPoset_refl (a : List Int) (h : a.length ≤ 9223372036854775807) : Ev (fun k => laws_eqPoset.f k a a) true := by
  unfold laws_eqPoset.f
  exact Ev.bind (eqIntS_refl a h) (Ev.yes rfl (Ev.ret rfl))
end Go.Proofs.Ytemkddgfneohhaa.Q
end

section
namespace Go.Proofs.Ytemkddgfneohhaa.Q
open Go.RowKit Go.Proofs.YtemkddgfneohhaaW.PrintWords Go.Proofs.Ytemkddgfneohhaa.F
set_option linter.unusedVariables false
theorem szIntS_eq (l : List Int) (a : Nat) (ha : a ≤ 1048576) (h : l.length ≤ maxLen) : laws_szIntS.f l (a : Int) = some (if l.length ≤ a then ((a - l.length : Nat) : Int) else -1) := by
  unfold laws_szIntS.f
  unfold maxLen at h
  have e : wrap64 ((a : Int) - (l.length : Int)) = (a : Int) - (l.length : Int) := wid (by omega) (by omega)
  rw [e]
  by_cases hc : l.length ≤ a
  · rw [if_neg (by omega), if_pos hc]; congr 1; omega
  · rw [if_pos (by omega), if_neg hc]
end Go.Proofs.Ytemkddgfneohhaa.Q
end

section
namespace Go.Proofs.Ytemkddgfneohhaa.Q
open Go.RowKit Go.Proofs.YtemkddgfneohhaaW.PrintWords Go.Proofs.Ytemkddgfneohhaa.F
set_option linter.unusedVariables false
theorem szPoset_eq (l : List Int) (a : Nat) (ha : a ≤ 1048576) (h : l.length ≤ maxLen) : laws_szPoset.f l (a : Int) = some (if l.length ≤ a then ((a - l.length : Nat) : Int) else -1) := by
  unfold laws_szPoset.f
  rw [szIntS_eq l a ha h]
  by_cases hc : l.length ≤ a
  · simp only [if_pos hc, Option.bind_some]; rw [if_neg (by omega)]
  · simp only [if_neg hc, Option.bind_some]; rw [if_pos (by omega)]
end Go.Proofs.Ytemkddgfneohhaa.Q
end

section
namespace Go.Proofs.Ytemkddgfneohhaa.Q
open Go.RowKit Go.Proofs.YtemkddgfneohhaaW.PrintWords Go.Proofs.Ytemkddgfneohhaa.F
set_option linter.unusedVariables false
theorem toIntS_ev (l : List Int) (h : l.length ≤ 1048576) : Ev (fun k => laws_toIntS.f k l) l := by
  unfold laws_toIntS.f
  refine Ev.yes (by omega) (Ev.yes (by omega) ?_)
  have key : ∀ i, i ≤ l.length → ∀ acc : List Int, acc.length = l.length → acc.take i = l.take i → Ev (fun k => laws_toIntS.l0 k l acc (i : Int)) l := by
    refine downTo _ ?_ ?_
    · intro acc ha hi
      refine Ev.step (by intro k; simp only [laws_toIntS.l0]; rfl) (Ev.no (by omega) (Ev.ret ?_))
      rw [List.take_length, ← ha, List.take_length] at hi
      exact hi
    · intro i hi ih acc ha hp
      refine Ev.step (by intro k; simp only [laws_toIntS.l0]; rfl) (Ev.yes (by omega) (Ev.yes (by omega) (Ev.yes (by omega) ?_)))
      rw [wid1 hi (by omega), rdN, Int.toNat_natCast]
      refine ih _ (by simp [ha]) ?_
      rw [List.take_add_one, List.take_add_one, List.take_set_of_le (Nat.le_refl _), hp, List.getElem?_set, List.getD_eq_getElem?_getD, List.getElem?_eq_getElem hi]
      simp [ha, hi]
  exact key 0 (by omega) _ (by simp) (by simp)
end Go.Proofs.Ytemkddgfneohhaa.Q
end

section
namespace Go.Proofs.Ytemkddgfneohhaa.Q
open Go.RowKit Go.Proofs.YtemkddgfneohhaaW.PrintWords Go.Proofs.Ytemkddgfneohhaa.F
set_option linter.unusedVariables false
theorem toPoset_ev (l : List Int) (h : l.length ≤ 1048576) : Ev (fun k => laws_toPoset.f k l) l := by
  unfold laws_toPoset.f
  exact Ev.bind (toIntS_ev l h) (Ev.ret rfl)
end Go.Proofs.Ytemkddgfneohhaa.Q
end

section
namespace Go.Proofs.Ytemkddgfneohhaa.Q
open Go.RowKit Go.Proofs.YtemkddgfneohhaaW.PrintWords
set_option linter.unusedVariables false
/-- a, a + 1, .., n of them. -/
def upFrom (a : Nat) (n : Nat) : List Int := (List.range' a n).map Int.ofNat
theorem upFrom_len (a n : Nat) : (upFrom a n).length = n := by simp [upFrom]
theorem upFrom_get {a n i : Nat} (h : i < n) : (upFrom a n).getD i 0 = ((a + i : Nat) : Int) := by
  rw [List.getD_eq_getElem?_getD]
  simp [upFrom, h]
end Go.Proofs.Ytemkddgfneohhaa.Q
end

section
namespace Go.Proofs.Ytemkddgfneohhaa.Q
open Go.RowKit Go.Proofs.YtemkddgfneohhaaW.PrintWords Go.Proofs.Ytemkddgfneohhaa.F
set_option linter.unusedVariables false
theorem heldIntS_ev (a n : Nat) (h : a + n ≤ 4611686018427387904) : Ev (fun k => laws_heldIntS.f k (upFrom a n) (a : Int)) ((a + n : Nat) : Int) := by
  unfold laws_heldIntS.f
  have key : ∀ i, i ≤ n → Ev (fun k => laws_heldIntS.l0 k (upFrom a n) ((a + i : Nat) : Int) (i : Int)) ((a + n : Nat) : Int) := by
    refine downTo _ ?_ ?_
    · refine Ev.step (by intro k; simp only [laws_heldIntS.l0]; rfl) (Ev.no (by rw [upFrom_len]; omega) (Ev.ret rfl))
    · intro i hi ih
      refine Ev.step (by intro k; simp only [laws_heldIntS.l0]; rfl) (Ev.yes (by rw [upFrom_len]; omega) (Ev.yes (by omega) (Ev.yes ?_ ?_)))
      · rw [rdN, upFrom_get hi]
      · rw [wid1 hi (by omega), wid1 (i := a + i) (n := a + n) (by omega) (by omega)]
        exact ih
  exact key 0 (by omega)
theorem heldIntS_ev1 (n : Nat) (h : n ≤ 4611686018427387000) : Ev (fun k => laws_heldIntS.f k (upFrom 1 n) 1) ((1 + n : Nat) : Int) := heldIntS_ev 1 n (by omega)
end Go.Proofs.Ytemkddgfneohhaa.Q
end

section
namespace Go.Proofs.Ytemkddgfneohhaa.Q
open Go.RowKit Go.Proofs.YtemkddgfneohhaaW.PrintWords Go.Proofs.Ytemkddgfneohhaa.F
set_option linter.unusedVariables false
theorem markIntS_ev (l : List Int) (a : Nat) (h : a + l.length ≤ 4611686018427387904) : Ev (fun k => laws_markIntS.f k l (a : Int)) (((a + l.length : Nat) : Int), upFrom a l.length) := by
  unfold laws_markIntS.f
  have key : ∀ i, i ≤ l.length → ∀ acc : List Int, acc.length = l.length → acc.take i = upFrom a i → Ev (fun k => laws_markIntS.l0 k acc ((a + i : Nat) : Int) (i : Int)) (((a + l.length : Nat) : Int), upFrom a l.length) := by
    refine downTo _ ?_ ?_
    · intro acc ha hp
      refine Ev.step (by intro k; simp only [laws_markIntS.l0]; rfl) (Ev.no (by omega) (Ev.ret ?_))
      rw [← ha, List.take_length] at hp
      rw [hp, ha]
    · intro i hi ih acc ha hp
      refine Ev.step (by intro k; simp only [laws_markIntS.l0]; rfl) (Ev.yes (by omega) (Ev.yes (by omega) ?_))
      rw [wid1 hi (by omega), wid1 (i := a + i) (n := a + l.length) (by omega) (by omega), Int.toNat_natCast]
      refine ih _ (by simp [ha]) ?_
      rw [List.take_add_one, List.take_set_of_le (Nat.le_refl _), hp, List.getElem?_set]
      simp [ha, hi, upFrom, List.range'_concat]
  exact key 0 (by omega) l rfl (by simp [upFrom])
theorem markIntS_ev1 (l : List Int) (h : l.length ≤ 4611686018427387000) : Ev (fun k => laws_markIntS.f k l 1) (((1 + l.length : Nat) : Int), upFrom 1 l.length) := markIntS_ev l 1 (by omega)
end Go.Proofs.Ytemkddgfneohhaa.Q
end

section
namespace Go.Proofs.Ytemkddgfneohhaa.Q
open Go.RowKit Go.Proofs.YtemkddgfneohhaaW.PrintWords Go.Proofs.Ytemkddgfneohhaa.F
set_option linter.unusedVariables false
theorem markPoset_ev (l : List Int) (a : Nat) (h : a + l.length ≤ 4611686018427387904) : Ev (fun k => laws_markPoset.f k l (a : Int)) (((a + l.length : Nat) : Int), upFrom a l.length) := by
  unfold laws_markPoset.f
  exact Ev.bind (markIntS_ev l a h) (Ev.ret rfl)
theorem markPoset_ev1 (l : List Int) (h : l.length ≤ 4611686018427387000) : Ev (fun k => laws_markPoset.f k l 1) (((1 + l.length : Nat) : Int), upFrom 1 l.length) := markPoset_ev l 1 (by omega)
end Go.Proofs.Ytemkddgfneohhaa.Q
end

section
namespace Go.Proofs.Ytemkddgfneohhaa.Q
end Go.Proofs.Ytemkddgfneohhaa.Q
end

section
namespace Go.Proofs.Ytemkddgfneohhaa.Q
open Go.RowKit Go.Proofs.YtemkddgfneohhaaW.PrintWords Go.Proofs.Ytemkddgfneohhaa.F
set_option linter.unusedVariables false
theorem poIn_eq {a j : Nat} (hj : j ≤ 64) : spec_poIn.f (a : Int) (j : Int) = some (a.testBit j) := by
  unfold spec_poIn.f
  rw [if_pos (Int.natCast_nonneg _)]
  congr 1
  rw [Bool.eq_iff_iff, beq_iff_eq]
  exact bit_test hj
end Go.Proofs.Ytemkddgfneohhaa.Q
end

section
namespace Go.Proofs.Ytemkddgfneohhaa.Q
open Go.RowKit Go.Proofs.YtemkddgfneohhaaW.PrintWords
set_option linter.unusedVariables false
/-- What is less than element i, as a set. -/
def L (p : List Int) (i : Nat) : Nat := (p.getD i 0).toNat
def rowOk (p : List Int) (i : Nat) : Bool := decide (0 ≤ p.getD i 0) && decide (p.getD i 0 ≤ 2 ^ i - 1) && allFrom (fun j => !(L p i).testBit j || decide (Go.bits .andNot .i64 (p.getD j 0) (p.getD i 0) = 0)) i 0
def isPo (p : List Int) : Bool := decide (1 ≤ p.length) && decide (p.length ≤ 10) && allFrom (rowOk p) p.length 0
structure PO (p : List Int) : Prop where
  pos : 1 ≤ p.length
  small : p.length ≤ 10
  val : ∀ i, i < p.length → p.getD i 0 = (L p i : Int)
  lt : ∀ i, i < p.length → L p i < 2 ^ i
  tr : ∀ i j, i < p.length → (L p i).testBit j = true → ndiff (L p j) (L p i) = 0
theorem L_big {p : List Int} {i : Nat} (h : p.length ≤ i) : L p i = 0 := by
  unfold L; rw [List.getD_eq_getElem?_getD, List.getElem?_eq_none h]; rfl
theorem isPo_iff (p : List Int) : isPo p = true ↔ PO p := by
  unfold isPo
  rw [Bool.and_eq_true, Bool.and_eq_true, decide_eq_true_eq, decide_eq_true_eq, allFrom_iff]
  constructor
  · rintro ⟨⟨h1, h2⟩, h3⟩
    have hv : ∀ i, i < p.length → p.getD i 0 = (L p i : Int) ∧ L p i < 2 ^ i := by
      intro i hi
      have := h3 i (Nat.zero_le _) hi
      simp only [rowOk, Bool.and_eq_true, decide_eq_true_eq] at this
      obtain ⟨⟨a, b⟩, _⟩ := this
      rw [pow_int] at b
      have hp : 0 < 2 ^ i := Nat.two_pow_pos i
      unfold L
      generalize 2 ^ i = z at *
      omega
    refine ⟨h1, h2, fun i hi => (hv i hi).1, fun i hi => (hv i hi).2, fun i j hi hj => ?_⟩
    have hji : j < i := lt_of_bit (hv i hi).2 hj
    have := h3 i (Nat.zero_le _) hi
    simp only [rowOk, Bool.and_eq_true] at this
    have h4 := (allFrom_iff _ _ _).1 this.2 j (Nat.zero_le _) hji
    rw [hj] at h4
    simp only [Bool.not_true, Bool.false_or, decide_eq_true_eq] at h4
    rw [(hv i hi).1, (hv j (by omega)).1, bits_andNotN (lt_pow (hv j (by omega)).2 (by omega)) (lt_pow (hv i hi).2 (by omega))] at h4
    exact_mod_cast h4
  · intro h
    refine ⟨⟨h.pos, h.small⟩, fun i _ hi => ?_⟩
    have hs := h.small
    have hl := h.lt i hi
    simp only [rowOk, Bool.and_eq_true, decide_eq_true_eq]
    refine ⟨⟨by rw [h.val i hi]; omega, by rw [h.val i hi, pow_int]; generalize 2 ^ i = z at *; omega⟩, ?_⟩
    rw [allFrom_iff]
    intro j _ hj
    cases hb : (L p i).testBit j with
    | false => rfl
    | true =>
      simp only [Bool.not_true, Bool.false_or, decide_eq_true_eq]
      rw [h.val i hi, h.val j (by omega), bits_andNotN (lt_pow (h.lt j (by omega)) (by omega)) (lt_pow hl (by omega)), h.tr i j hi hb]
      rfl
theorem isPo_false {p : List Int} (h : ¬ PO p) : isPo p = false := by
  cases e : isPo p with
  | false => rfl
  | true => exact absurd ((isPo_iff p).1 e) h

/-- The elements of a set, in order. -/
def itemsN (m : Nat) : List Nat := (List.range 10).filter m.testBit
def ints (l : List Nat) : List Int := l.map Int.ofNat
theorem ints_len (l : List Nat) : (ints l).length = l.length := by simp [ints]
theorem ints_app (a b : List Nat) : ints (a ++ b) = ints a ++ ints b := by simp [ints]
theorem ints_get (l : List Nat) (i : Nat) : (ints l).getD i 0 = ((l.getD i 0 : Nat) : Int) := by
  simp only [ints, List.getD_eq_getElem?_getD, List.getElem?_map]
  cases l[i]? <;> rfl
theorem rd_ints (l : List Nat) (i : Nat) : rd (ints l) (i : Int) = ((l.getD i 0 : Nat) : Int) := by rw [rdN, ints_get]
theorem mem_itemsN {m j : Nat} : j ∈ itemsN m ↔ j < 10 ∧ m.testBit j = true := by
  unfold itemsN; rw [List.mem_filter, List.mem_range]
theorem itemsN_len (m : Nat) : (itemsN m).length ≤ 10 := by
  unfold itemsN; have := List.length_filter_le m.testBit (List.range 10); simpa using this
theorem rowOk_false {p : List Int} {i : Nat} (h : ¬ (0 ≤ p.getD i 0 ∧ p.getD i 0 ≤ 2 ^ i - 1)) : rowOk p i = false := by
  unfold rowOk; rw [range_false h]; rfl
theorem rowOk_true {p : List Int} {i : Nat} (h : 0 ≤ p.getD i 0 ∧ p.getD i 0 ≤ 2 ^ i - 1) :
    rowOk p i = allFrom (fun j => !(L p i).testBit j || decide (Go.bits .andNot .i64 (p.getD j 0) (p.getD i 0) = 0)) i 0 := by
  unfold rowOk; rw [range_true h]; rfl
theorem all_drop_step {α : Type} (f : α → Bool) (l : List α) (d : α) {i : Nat} (h : i < l.length) : (l.drop i).all f = (f (l.getD i d) && (l.drop (i + 1)).all f) := by
  rw [List.drop_eq_getElem_cons h, List.all_cons, List.getD_eq_getElem?_getD, List.getElem?_eq_getElem h]; rfl
theorem items_lt {m i : Nat} {j : Nat} (hm : m < 2 ^ i) (hj : j < (itemsN m).length) : (itemsN m).getD j 0 < i := by
  rw [List.getD_eq_getElem?_getD, List.getElem?_eq_getElem hj]
  have := List.getElem_mem hj
  exact lt_of_bit hm (mem_itemsN.1 this).2
theorem items_all {m i : Nat} (hm : m < 2 ^ i) (hi : i ≤ 10) (f : Nat → Bool) : (itemsN m).all f = allFrom (fun j => !m.testBit j || f j) i 0 := by
  rw [Bool.eq_iff_iff, List.all_eq_true, allFrom_iff]
  constructor
  · intro h j _ hj
    cases hb : m.testBit j with
    | false => rfl
    | true => rw [h j (mem_itemsN.2 ⟨by omega, hb⟩)]; rfl
  · intro h j hj
    obtain ⟨h1, h2⟩ := mem_itemsN.1 hj
    have := h j (Nat.zero_le _) (lt_of_bit hm h2)
    rw [h2] at this
    simpa using this
end Go.Proofs.Ytemkddgfneohhaa.Q
end

section
namespace Go.Proofs.Ytemkddgfneohhaa.Q
open Go.RowKit Go.Proofs.YtemkddgfneohhaaW.PrintWords Go.Proofs.Ytemkddgfneohhaa.F
set_option linter.unusedVariables false
theorem items_ev (m : Nat) (hm : m < 2 ^ 62) : Ev (fun k => impl_items.f k (m : Int)) (ints (itemsN m)) := by
  show Ev (fun k => impl_items.l0 k (m : Int) [] 0) _
  have key : ∀ i, i ≤ 10 → ∀ acc : List Int, acc.length ≤ i → Ev (fun k => impl_items.l0 k (m : Int) acc (i : Int)) (acc ++ ints ((List.range' i (10 - i)).filter m.testBit)) := by
    refine downTo 10 ?_ ?_
    · intro acc _
      refine Ev.step (by intro k; simp only [impl_items.l0]; rfl) ?_
      refine Ev.no (by omega) (Ev.ret (by simp [ints]))
    · intro i hi ih acc ha
      refine Ev.step (by intro k; simp only [impl_items.l0]; rfl) ?_
      refine Ev.yes (by omega) (Ev.call (has_eq hm (by omega)) ?_)
      have hr : List.range' i (10 - i) = i :: List.range' (i + 1) (10 - (i + 1)) := by
        rw [show 10 - i = (10 - (i + 1)) + 1 by omega, List.range'_succ]
      rw [hr, wid1 hi (by omega)]
      cases hb : m.testBit i with
      | true =>
        refine Ev.yes rfl (Ev.yes (by omega) (evc (ih (acc ++ [(i : Int)]) (by simp; omega)) ?_))
        rw [List.filter_cons_of_pos hb]
        simp [ints]
      | false =>
        refine Ev.no (by simp) (evc (ih acc (by omega)) ?_)
        rw [List.filter_cons_of_neg (by simp [hb])]
  have := key 0 (by omega) [] (by simp)
  exact evc this (by simp [itemsN, List.range_eq_range'])

end Go.Proofs.Ytemkddgfneohhaa.Q
end

section
namespace Go.Proofs.Ytemkddgfneohhaa.Q
open Go.RowKit Go.Proofs.YtemkddgfneohhaaW.PrintWords
set_option linter.unusedVariables false
/-- The set of the e below n with c e. -/
def maskOf : Nat → (Nat → Bool) → Nat
  | 0, _ => 0
  | n + 1, c => if c n then maskOf n c ||| 2 ^ n else maskOf n c
theorem maskOf_bit (n : Nat) (c : Nat → Bool) (i : Nat) : (maskOf n c).testBit i = (decide (i < n) && c i) := by
  induction n with
  | zero => simp [maskOf]
  | succ n ih =>
    unfold maskOf
    by_cases hc : c n = true
    · rw [if_pos hc, Nat.testBit_or, ih, pow_bit]
      by_cases h : n = i
      · subst h; simp [hc]
      · have : decide (i < n + 1) = decide (i < n) := by rw [decide_eq_decide]; omega
        rw [this]; simp [h]
    · rw [if_neg hc, ih]
      by_cases h : n = i
      · subst h; simp at hc; simp [hc]
      · have : decide (i < n + 1) = decide (i < n) := by rw [decide_eq_decide]; omega
        rw [this]
theorem maskOf_lt (n : Nat) (c : Nat → Bool) : maskOf n c < 2 ^ n := by
  apply Nat.lt_pow_two_of_testBit
  intro i hi
  rw [maskOf_bit, decide_eq_false (by omega)]; rfl
def subB (a b : Nat) : Bool := ndiff a b == 0
theorem ndiff_zero {a b : Nat} : ndiff a b = 0 ↔ ∀ i, a.testBit i = true → b.testBit i = true := by
  constructor
  · intro h i hi
    have := ndiff_bit a b i
    rw [h, hi, Nat.zero_testBit] at this
    cases hb : b.testBit i with
    | true => rfl
    | false => rw [hb] at this; simp at this
  · intro h
    apply Nat.eq_of_testBit_eq
    intro i
    rw [ndiff_bit, Nat.zero_testBit]
    cases ha : a.testBit i with
    | false => rfl
    | true => rw [h i ha]; rfl
theorem subB_iff {a b : Nat} : subB a b = true ↔ ∀ i, a.testBit i = true → b.testBit i = true := by unfold subB; rw [beq_iff_eq]; exact ndiff_zero
/-- The set of all elements of a poset. -/
def allN (p : List Int) : Nat := 2 ^ p.length - 1
theorem allN_bit (p : List Int) (i : Nat) : (allN p).testBit i = decide (i < p.length) := by unfold allN; rw [Nat.testBit_two_pow_sub_one]
theorem allN_lt (p : List Int) : allN p < 2 ^ p.length := by unfold allN; have := Nat.two_pow_pos p.length; omega
/-- A number that is a set of elements of p. -/
def setB (p : List Int) (x : Int) : Bool := decide (0 ≤ x) && decide (x ≤ ((allN p : Nat) : Int))
theorem setB_iff {p : List Int} {x : Int} : setB p x = true ↔ ∃ s : Nat, x = (s : Int) ∧ s < 2 ^ p.length := by
  unfold setB
  rw [Bool.and_eq_true, decide_eq_true_eq, decide_eq_true_eq]
  have := Nat.two_pow_pos p.length
  unfold allN
  constructor
  · rintro ⟨h1, h2⟩; exact ⟨x.toNat, by omega, by omega⟩
  · rintro ⟨s, rfl, h⟩; omega
/-- A set that has with each element all that are less. -/
def idealB (p : List Int) (s : Nat) : Bool := allFrom (fun i => !s.testBit i || subB (L p i) s) p.length 0
theorem idealB_iff {p : List Int} {s : Nat} : idealB p s = true ↔ ∀ i, i < p.length → s.testBit i = true → ∀ j, (L p i).testBit j = true → s.testBit j = true := by
  unfold idealB
  rw [allFrom_iff]
  constructor
  · intro h i hi hs
    have := h i (Nat.zero_le _) hi
    rw [hs] at this
    exact subB_iff.1 (by simpa using this)
  · intro h i _ hi
    cases hs : s.testBit i with
    | false => rfl
    | true => rw [subB_iff.2 (h i hi hs)]; rfl
def closeN (p : List Int) (s : Nat) : Nat := (itemsN s).foldl (fun a e => a ||| L p e) s
theorem foldl_or_bit (g : Nat → Nat) (l : List Nat) (a i : Nat) : (l.foldl (fun a e => a ||| g e) a).testBit i = (a.testBit i || l.any fun e => (g e).testBit i) := by
  induction l generalizing a with
  | nil => simp
  | cons x l ih => rw [List.foldl_cons, ih, Nat.testBit_or, List.any_cons, Bool.or_assoc]
theorem closeN_bit {p : List Int} {s i : Nat} : (closeN p s).testBit i = (s.testBit i || (itemsN s).any fun e => (L p e).testBit i) := foldl_or_bit _ _ _ _
theorem closeN_eq {p : List Int} (hp : PO p) {s : Nat} (hs : s < 2 ^ p.length) : (closeN p s == s) = idealB p s := by
  have hn := hp.small
  rw [Bool.eq_iff_iff, beq_iff_eq, idealB_iff]
  constructor
  · intro h i hi hb j hj
    have := closeN_bit (p := p) (s := s) (i := j)
    rw [h] at this
    rw [this]
    have : (itemsN s).any (fun e => (L p e).testBit j) = true := List.any_eq_true.2 ⟨i, mem_itemsN.2 ⟨by omega, hb⟩, hj⟩
    rw [this]; simp
  · intro h
    apply Nat.eq_of_testBit_eq
    intro i
    rw [closeN_bit]
    cases hb : s.testBit i with
    | true => rfl
    | false =>
      rw [Bool.false_or, ← Bool.not_eq_true, List.any_eq_true]
      rintro ⟨e, he, hj⟩
      obtain ⟨_, h2⟩ := mem_itemsN.1 he
      have := h e (lt_of_bit hs h2) h2 i hj
      rw [this] at hb; cases hb
theorem L_lt {p : List Int} (hp : PO p) {i : Nat} (hi : i < p.length) : L p i < 2 ^ p.length := lt_pow (hp.lt i hi) (by omega)
theorem foldl_or_lt (g : Nat → Nat) (l : List Nat) (a n : Nat) (ha : a < 2 ^ n) (hg : ∀ e, e ∈ l → g e < 2 ^ n) : l.foldl (fun a e => a ||| g e) a < 2 ^ n := by
  induction l generalizing a with
  | nil => exact ha
  | cons x l ih => exact ih _ (or_lt ha (hg x List.mem_cons_self)) (fun e he => hg e (List.mem_cons_of_mem _ he))
theorem closeN_lt {p : List Int} (hp : PO p) {s : Nat} (hs : s < 2 ^ p.length) : closeN p s < 2 ^ p.length :=
  foldl_or_lt _ _ _ _ hs (fun e he => L_lt hp (lt_of_bit hs (mem_itemsN.1 he).2))
theorem foldl_drop_step {α β : Type} (f : β → α → β) (l : List α) (d : α) (b : β) {i : Nat} (h : i < l.length) : (l.drop i).foldl f b = (l.drop (i + 1)).foldl f (f b (l.getD i d)) := by
  rw [List.drop_eq_getElem_cons h, List.foldl_cons, List.getD_eq_getElem?_getD, List.getElem?_eq_getElem h]; rfl
end Go.Proofs.Ytemkddgfneohhaa.Q
end

section
namespace Go.Proofs.Ytemkddgfneohhaa.Q
open Go.RowKit Go.Proofs.YtemkddgfneohhaaW.PrintWords
set_option linter.unusedVariables false
def sumL : List Nat → Nat
  | [] => 0
  | x :: l => x + sumL l
theorem sumL_append (a b : List Nat) : sumL (a ++ b) = sumL a + sumL b := by
  induction a with
  | nil => simp [sumL]
  | cons x a ih => simp only [List.cons_append, sumL, ih]; omega
theorem sumL_le (l : List Nat) (b n : Nat) (h : ∀ x ∈ l, x ≤ b) (hn : l.length ≤ n) : sumL l ≤ n * b := by
  induction l generalizing n with
  | nil => exact Nat.zero_le _
  | cons x l ih =>
    cases n with
    | zero => simp at hn
    | succ n =>
      have h1 := h x List.mem_cons_self
      have h2 := ih n (fun y hy => h y (List.mem_cons_of_mem _ hy)) (by simpa using hn)
      rw [Nat.add_mul]; simp only [sumL]; omega
/-- The elements that can come behind those of s. -/
def nextN (p : List Int) (s : Nat) : List Nat := (List.range 10).filter fun e => decide (e < p.length) && !s.testBit e && subB (L p e) s
theorem mem_nextN {p : List Int} {s e : Nat} : e ∈ nextN p s ↔ e < 10 ∧ e < p.length ∧ s.testBit e = false ∧ subB (L p e) s = true := by
  unfold nextN
  rw [List.mem_filter, List.mem_range, Bool.and_eq_true, Bool.and_eq_true, decide_eq_true_eq, Bool.not_eq_true']
  constructor
  · rintro ⟨a, ⟨b, c⟩, d⟩; exact ⟨a, b, c, d⟩
  · rintro ⟨a, b, c, d⟩; exact ⟨a, ⟨b, c⟩, d⟩
theorem nextN_len (p : List Int) (s : Nat) : (nextN p s).length ≤ 10 := by
  unfold nextN; exact Nat.le_trans (List.length_filter_le _ _) (by simp)
def cnt (p : List Int) : Nat → Nat → Nat
  | 0, s => if s = allN p then 1 else 0
  | d + 1, s => if s = allN p then 1 else sumL ((nextN p s).map fun e => cnt p d (s ||| 2 ^ e))
theorem cnt_le (p : List Int) (d s : Nat) : cnt p d s ≤ 10 ^ d := by
  induction d generalizing s with
  | zero => unfold cnt; split <;> simp
  | succ d ih =>
    unfold cnt
    have h1 : 1 ≤ 10 ^ (d + 1) := Nat.one_le_pow _ _ (by decide)
    split
    · exact h1
    · have := sumL_le ((nextN p s).map fun e => cnt p d (s ||| 2 ^ e)) (10 ^ d) 10 (fun x hx => by obtain ⟨e, _, rfl⟩ := List.mem_map.1 hx; exact ih _) (by rw [List.length_map]; exact nextN_len p s)
      rw [Nat.pow_succ]; omega
def miss (p : List Int) (s : Nat) : Nat := (List.range p.length).countP fun e => !s.testBit e
theorem miss_le (p : List Int) (s : Nat) : miss p s ≤ p.length := by unfold miss; have := List.countP_le_length (p := fun e => !s.testBit e) (l := List.range p.length); simpa using this
theorem countP_lt {α : Type} (f g : α → Bool) (l : List α) (h : ∀ x ∈ l, f x = true → g x = true) (x : α) (hx : x ∈ l) (hg : g x = true) (hf : f x = false) : l.countP f < l.countP g := by
  induction l with
  | nil => cases hx
  | cons y l ih =>
    have hle : l.countP f ≤ l.countP g := List.countP_mono_left (fun z hz => h z (List.mem_cons_of_mem _ hz))
    rw [List.countP_cons, List.countP_cons]
    rcases List.mem_cons.1 hx with rfl | hx'
    · rw [hf, hg]; simp; omega
    · have := ih (fun z hz => h z (List.mem_cons_of_mem _ hz)) hx'
      have hy := h y List.mem_cons_self
      cases hfy : f y with
      | true => rw [hy hfy]; simp; omega
      | false => cases g y <;> simp <;> omega
theorem miss_lt {p : List Int} {s e : Nat} (he : e < p.length) (hb : s.testBit e = false) : miss p (s ||| 2 ^ e) < miss p s := by
  unfold miss
  refine countP_lt _ _ _ (fun x _ hx => ?_) e (List.mem_range.2 he) (by rw [hb]; rfl) ?_
  · rw [Nat.testBit_or] at hx
    cases h : s.testBit x with
    | false => rfl
    | true => rw [h] at hx; simp at hx
  · rw [Nat.testBit_or, pow_bit]; simp
theorem miss_zero {p : List Int} {s : Nat} (hs : s < 2 ^ p.length) (h : miss p s = 0) : s = allN p := by
  refine ext_bits hs (allN_lt p) (fun i hi => ?_)
  rw [allN_bit, decide_eq_true hi]
  unfold miss at h
  rw [List.countP_eq_zero] at h
  have := h i (List.mem_range.2 hi)
  simpa using this
theorem add_lt {p : List Int} {s e : Nat} (hs : s < 2 ^ p.length) (he : e < p.length) : s ||| 2 ^ e < 2 ^ p.length := or_lt hs (pow_lt_pow he)
theorem cnt_fuel {p : List Int} : ∀ (d d' s : Nat), s < 2 ^ p.length → miss p s ≤ d → miss p s ≤ d' → cnt p d s = cnt p d' s := by
  intro d
  induction d with
  | zero =>
    intro d' s hs h _
    have := miss_zero hs (by omega)
    subst this
    cases d' <;> simp [cnt]
  | succ d ih =>
    intro d' s hs h h'
    by_cases ha : s = allN p
    · subst ha; cases d' <;> simp [cnt]
    · cases d' with
      | zero => exact absurd (miss_zero hs (by omega)) ha
      | succ d' =>
        simp only [cnt, if_neg ha]
        congr 1
        apply List.map_congr_left
        intro e he
        obtain ⟨_, h1, h2, _⟩ := mem_nextN.1 he
        have := miss_lt h1 h2
        exact ih d' _ (add_lt hs h1) (by omega) (by omega)
/-- In how many orders the elements outside of s can follow. -/
def ways (p : List Int) (s : Nat) : Nat := cnt p p.length s
theorem ways_step {p : List Int} {s : Nat} (hs : s < 2 ^ p.length) (ha : s ≠ allN p) : ways p s = sumL ((nextN p s).map fun e => ways p (s ||| 2 ^ e)) := by
  unfold ways
  rw [cnt_fuel p.length (p.length + 1) s hs (miss_le p s) (by have := miss_le p s; omega)]
  simp only [cnt, if_neg ha]
theorem ways_all (p : List Int) : ways p (allN p) = 1 := by unfold ways; cases p.length <;> simp [cnt]
theorem ways_le {p : List Int} (h : p.length ≤ 10) (s : Nat) : ways p s ≤ 10000000000 := by
  unfold ways
  exact Nat.le_trans (cnt_le p _ s) (Nat.le_trans (Nat.pow_le_pow_right (by decide) h) (by decide))
theorem ways_cnt {p : List Int} {s d : Nat} (hs : s < 2 ^ p.length) (hd : p.length ≤ d) : ways p s = cnt p d s := cnt_fuel _ _ s hs (miss_le p s) (by have := miss_le p s; omega)
theorem idealB_all (p : List Int) (hp : PO p) : idealB p (allN p) = true := by
  rw [idealB_iff]
  intro i hi _ j hj
  rw [allN_bit, decide_eq_true_eq]
  have := lt_of_bit (hp.lt i hi) hj
  omega
theorem idealB_add {p : List Int} (hp : PO p) {s e : Nat} (hs : idealB p s = true) (he : e ∈ nextN p s) : idealB p (s ||| 2 ^ e) = true := by
  obtain ⟨_, h1, _, h3⟩ := mem_nextN.1 he
  rw [idealB_iff] at hs ⊢
  intro i hi hb j hj
  rw [Nat.testBit_or, pow_bit, Bool.or_eq_true, decide_eq_true_eq] at hb
  rw [Nat.testBit_or, Bool.or_eq_true]
  left
  rcases hb with hb | rfl
  · exact hs i hi hb j hj
  · exact subB_iff.1 h3 j hj
end Go.Proofs.Ytemkddgfneohhaa.Q
end

section
namespace Go.Proofs.Ytemkddgfneohhaa.Q
open Go.RowKit Go.Proofs.YtemkddgfneohhaaW.PrintWords Go.Proofs.Ytemkddgfneohhaa.F
set_option linter.unusedVariables false
theorem all_eq {p : List Int} (h : p.length ≤ 61) : impl_Poset_all.f p = some ((allN p : Nat) : Int) := by
  unfold impl_Poset_all.f
  rw [show impl_Poset_n.f p = some (p.length : Int) from rfl]
  simp only [Option.bind_some]
  rw [if_pos (by omega), mask_eq h, pow_int]
  unfold allN
  have := Nat.two_pow_pos p.length
  congr 1
  omega
end Go.Proofs.Ytemkddgfneohhaa.Q
end

section
namespace Go.Proofs.Ytemkddgfneohhaa.Q
open Go.RowKit Go.Proofs.YtemkddgfneohhaaW.PrintWords Go.Proofs.Ytemkddgfneohhaa.F
set_option linter.unusedVariables false
theorem close_ev {p : List Int} (hp : PO p) {s : Nat} (hs : s < 2 ^ p.length) : Ev (fun k => impl_Poset_close.f k p (s : Int)) ((closeN p s : Nat) : Int) := by
  have hn := hp.small
  unfold impl_Poset_close.f closeN
  refine Ev.bind (items_ev s (lt_pow hs (by omega))) ?_
  rw [ints_len]
  have hl := itemsN_len s
  have key : ∀ i, i ≤ (itemsN s).length → ∀ a : Nat, a < 2 ^ p.length → Ev (fun k => impl_Poset_close.l0 k (a : Int) (ints (itemsN s)) ((itemsN s).length : Int) (i : Int) p) (((itemsN s).drop i).foldl (fun a e => a ||| L p e) a : Nat) := by
    refine downTo _ ?_ ?_
    · intro a ha
      refine Ev.step (by intro k; simp only [impl_Poset_close.l0]; rfl) (Ev.no (by omega) (Ev.ret ?_))
      rw [List.drop_length]; rfl
    · intro i hi ih a ha
      have hlt := items_lt hs hi
      refine Ev.step (by intro k; simp only [impl_Poset_close.l0]; rfl) (Ev.yes (by omega) (Ev.yes (by omega) (Ev.yes (by rw [ints_len]; omega) ?_)))
      rw [rd_ints, wid1 hi (by omega), rdN, foldl_drop_step _ _ 0 _ hi]
      refine Ev.yes (by omega) (Ev.yes (by omega) ?_)
      rw [hp.val _ hlt, bits_orN (lt_pow ha (by omega)) (lt_pow (L_lt hp hlt) (by omega))]
      exact ih _ (or_lt ha (L_lt hp hlt))
  exact key 0 (by omega) s hs
end Go.Proofs.Ytemkddgfneohhaa.Q
end

section
namespace Go.Proofs.Ytemkddgfneohhaa.Q
open Go.RowKit Go.Proofs.YtemkddgfneohhaaW.PrintWords
set_option linter.unusedVariables false
/-- The elements of l are put behind the set s one by one, each behind all that are less. -/
def ordRun (p : List Int) : Nat → List Int → Option Nat
  | s, [] => some s
  | s, e :: l => if (0 ≤ e ∧ e < (p.length : Int)) ∧ s.testBit e.toNat = false ∧ subB (L p e.toNat) s = true then ordRun p (s ||| 2 ^ e.toNat) l else none
def ordB (p w : List Int) : Bool := ordRun p 0 w == some (allN p)
theorem ordB_iff {p w : List Int} : ordB p w = true ↔ ordRun p 0 w = some (allN p) := by unfold ordB; rw [beq_iff_eq]
theorem ordRun_app (p x y : List Int) : ∀ s, ordRun p s (x ++ y) = (ordRun p s x).bind fun t => ordRun p t y := by
  induction x with
  | nil => intro s; rfl
  | cons e x ih =>
    intro s
    simp only [List.cons_append, ordRun]
    split
    · exact ih _
    · rfl
theorem ordRun_range {p l : List Int} : ∀ {s t : Nat}, ordRun p s l = some t → ∀ e ∈ l, 0 ≤ e ∧ e < (p.length : Int) := by
  induction l with
  | nil => intro s t h e he; cases he
  | cons x l ih =>
    intro s t h e he
    simp only [ordRun] at h
    split at h
    · rename_i hc
      rcases List.mem_cons.1 he with rfl | he
      · exact hc.1
      · exact ih h e he
    · cases h
def pcard (n s : Nat) : Nat := (List.range n).countP s.testBit
theorem pcard_succ (n s : Nat) : pcard (n + 1) s = pcard n s + if s.testBit n then 1 else 0 := by
  unfold pcard; rw [List.range_succ, List.countP_append, List.countP_singleton]
theorem pcard_above {n e : Nat} (s : Nat) (h : n ≤ e) : pcard n (s ||| 2 ^ e) = pcard n s := by
  unfold pcard
  apply List.countP_congr
  intro x hx
  rw [List.mem_range] at hx
  rw [Nat.testBit_or, pow_bit, decide_eq_false (by omega), Bool.or_false]
theorem pcard_add {n s e : Nat} (he : e < n) (hb : s.testBit e = false) : pcard n (s ||| 2 ^ e) = pcard n s + 1 := by
  induction n with
  | zero => omega
  | succ n ih =>
    rw [pcard_succ, pcard_succ, Nat.testBit_or, pow_bit]
    rcases Nat.lt_succ_iff_lt_or_eq.1 he with h | h
    · rw [ih h, decide_eq_false (by omega), Bool.or_false]; omega
    · subst h; rw [pcard_above s (Nat.le_refl _), hb]; simp
theorem pcard_zero (n : Nat) : pcard n 0 = 0 := by unfold pcard; rw [List.countP_eq_zero]; intro x _; simp
theorem pcard_le (n s : Nat) : pcard n s ≤ n := by unfold pcard; have := List.countP_le_length (p := s.testBit) (l := List.range n); simpa using this
theorem pcard_all (p : List Int) : pcard p.length (allN p) = p.length := by
  unfold pcard
  have : (List.range p.length).countP (allN p).testBit = (List.range p.length).length := by
    rw [List.countP_eq_length]; intro x hx; rw [List.mem_range] at hx; rw [allN_bit, decide_eq_true hx]
  rw [this, List.length_range]
theorem all_of_pcard {p : List Int} {s : Nat} (hs : s < 2 ^ p.length) (h : pcard p.length s = p.length) : s = allN p := by
  refine ext_bits hs (allN_lt p) (fun i hi => ?_)
  rw [allN_bit, decide_eq_true hi]
  have h2 : (List.range p.length).countP s.testBit = (List.range p.length).length := by rw [List.length_range]; exact h
  rw [List.countP_eq_length] at h2
  exact h2 i (List.mem_range.2 hi)
theorem ordRun_card {p l : List Int} : ∀ {s t : Nat}, s < 2 ^ p.length → ordRun p s l = some t → t < 2 ^ p.length ∧ pcard p.length t = pcard p.length s + l.length := by
  induction l with
  | nil => intro s t hs h; simp only [ordRun, Option.some.injEq] at h; subst h; exact ⟨hs, rfl⟩
  | cons x l ih =>
    intro s t hs h
    simp only [ordRun] at h
    split at h
    · rename_i hc
      obtain ⟨⟨h0, h1⟩, h2, h3⟩ := hc
      have hx : x.toNat < p.length := by omega
      obtain ⟨g1, g2⟩ := ih (or_lt hs (pow_lt_pow hx)) h
      refine ⟨g1, ?_⟩
      rw [g2, pcard_add hx h2, List.length_cons]; omega
    · cases h
theorem ordB_len {p w : List Int} (h : ordB p w = true) : w.length = p.length := by
  have := (ordRun_card (Nat.two_pow_pos _) (ordB_iff.1 h)).2
  rw [pcard_all, pcard_zero] at this; omega
theorem ordB_eq (p w : List Int) : (decide (w.length = p.length) && (ordRun p 0 w).isSome) = ordB p w := by
  rw [Bool.eq_iff_iff, Bool.and_eq_true, decide_eq_true_eq]
  constructor
  · rintro ⟨hl, hs⟩
    obtain ⟨t, ht⟩ := Option.isSome_iff_exists.1 hs
    obtain ⟨g1, g2⟩ := ordRun_card (Nat.two_pow_pos _) ht
    rw [pcard_zero, hl, Nat.zero_add] at g2
    rw [ordB_iff, ht, all_of_pcard g1 g2]
  · intro h
    exact ⟨ordB_len h, by rw [ordB_iff.1 h]; rfl⟩
theorem ordB_range {p w : List Int} (h : ordB p w = true) : ∀ e ∈ w, 0 ≤ e ∧ e < (p.length : Int) := ordRun_range (ordB_iff.1 h)
theorem drop_getD (w : List Int) {i : Nat} (h : i < w.length) : w.drop i = w.getD i 0 :: w.drop (i + 1) := by
  rw [List.drop_eq_getElem_cons h, List.getD_eq_getElem?_getD, List.getElem?_eq_getElem h]; rfl
end Go.Proofs.Ytemkddgfneohhaa.Q
end

section
namespace Go.Proofs.Ytemkddgfneohhaa.Q
open Go.RowKit Go.Proofs.YtemkddgfneohhaaW.PrintWords
set_option linter.unusedVariables false
/-- All ideals. -/
def idealsN (p : List Int) : List Nat := (List.range (2 ^ p.length)).filter (idealB p)
theorem mem_idealsN {p : List Int} {s : Nat} : s ∈ idealsN p ↔ s < 2 ^ p.length ∧ idealB p s = true := by
  unfold idealsN; rw [List.mem_filter, List.mem_range]
theorem idealsN_nodup (p : List Int) : (idealsN p).Nodup := List.Pairwise.filter _ List.nodup_range
theorem idealsN_len (p : List Int) : (idealsN p).length ≤ 2 ^ p.length := by
  have := List.length_filter_le (idealB p) (List.range (2 ^ p.length))
  rwa [List.length_range] at this
theorem idealB_zero' (p : List Int) : idealB p 0 = true := by rw [idealB_iff]; intro i _ h; rw [Nat.zero_testBit] at h; cases h
theorem zero_mem (p : List Int) : 0 ∈ idealsN p := mem_idealsN.2 ⟨Nat.two_pow_pos _, idealB_zero' p⟩
/-- No element of a set is less than another one. -/
def frB (p : List Int) (u : Nat) : Bool := allFrom (fun i => !u.testBit i || decide (L p i &&& u = 0)) p.length 0
/-- What may follow in a row. -/
def stB (p : List Int) (strict : Bool) (s t : Nat) : Bool := subB s t && (!strict || frB p (ndiff t s))
/-- How many rows of so many steps end in a set. -/
def wvN (B : Nat → Nat → Bool) (ids : List Nat) : Nat → Nat → Nat
  | 0, t => if t = 0 then 1 else 0
  | k + 1, t => sumL ((ids.filter fun s => B s t).map (wvN B ids k))
theorem sumL_map_le {α : Type} (f g : α → Nat) : ∀ l : List α, (∀ x ∈ l, f x ≤ g x) → sumL (l.map f) ≤ sumL (l.map g)
  | [], _ => Nat.le_refl _
  | x :: l, h => by
    have h1 := sumL_map_le f g l (fun y hy => h y (List.mem_cons_of_mem _ hy))
    have h2 := h x List.mem_cons_self
    simp only [List.map_cons, sumL]
    omega
theorem sumL_filter_le {α : Type} (f : α → Nat) (P Q : α → Bool) : ∀ l : List α, (∀ x ∈ l, P x = true → Q x = true) → sumL ((l.filter P).map f) ≤ sumL ((l.filter Q).map f)
  | [], _ => Nat.le_refl _
  | x :: l, h => by
    have h1 := sumL_filter_le f P Q l (fun y hy => h y (List.mem_cons_of_mem _ hy))
    rw [List.filter_cons, List.filter_cons]
    cases hp : P x with
    | false =>
      rw [if_neg (by simp)]
      cases hq : Q x with
      | false => rw [if_neg (by simp)]; exact h1
      | true => rw [if_pos rfl, List.map_cons]; simp only [sumL]; omega
    | true =>
      rw [if_pos rfl, if_pos (h x List.mem_cons_self hp)]
      simp only [List.map_cons, sumL]; omega
theorem sumL_take_le {α : Type} (f : α → Nat) (l : List α) (i : Nat) : sumL ((l.take i).map f) ≤ sumL (l.map f) := by
  rw [show l.map f = (l.take i).map f ++ (l.drop i).map f by rw [← List.map_append, List.take_append_drop], sumL_append]
  omega
/-- The sum over all parts of a set of the powers of a number by their sizes. -/
theorem sub_pow (c : Nat) : ∀ (n t : Nat), sumL (((List.range (2 ^ n)).filter fun s => subB s t).map fun s => c ^ pcard n s) = (c + 1) ^ pcard n t
  | 0, t => by
    have e : (List.range (2 ^ 0)).filter (fun s => subB s t) = [0] := by
      rw [show List.range (2 ^ 0) = [0] from rfl, List.filter_cons, if_pos (subB_iff.2 fun i h => by rw [Nat.zero_testBit] at h; cases h)]; rfl
    rw [e]; rfl
  | n + 1, t => by
    have hr : List.range (2 ^ (n + 1)) = List.range (2 ^ n) ++ (List.range (2 ^ n)).map (2 ^ n + ·) := by
      rw [show 2 ^ (n + 1) = 2 ^ n + 2 ^ n by rw [Nat.pow_succ]; omega, List.range_add]
    rw [hr, List.filter_append, List.map_append, sumL_append, List.filter_map, List.map_map]
    have hbit : ∀ s, s < 2 ^ n → 2 ^ n + s = s ||| 2 ^ n := fun s hs => by
      have h := Nat.two_pow_add_eq_or_of_lt hs 1
      rw [Nat.mul_one] at h
      rw [h, Nat.or_comm]
    have h1 : sumL (((List.range (2 ^ n)).filter fun s => subB s t).map fun s => c ^ pcard (n + 1) s) = (c + 1) ^ pcard n t := by
      rw [← sub_pow c n t]
      congr 1
      refine List.map_congr_left fun s hs => ?_
      have hs := List.mem_range.1 (List.mem_filter.1 hs).1
      rw [pcard_succ, Nat.testBit_lt_two_pow hs]; simp
    have hsub : ∀ s, s < 2 ^ n → subB (2 ^ n + s) t = (t.testBit n && subB s t) := fun s hs => by
      rw [hbit s hs, Bool.eq_iff_iff, Bool.and_eq_true, subB_iff, subB_iff]
      constructor
      · intro h
        exact ⟨h n (by rw [Nat.testBit_or, pow_bit]; simp), fun i hi => h i (by rw [Nat.testBit_or, hi]; rfl)⟩
      · rintro ⟨h1, h2⟩ i hi
        rw [Nat.testBit_or, pow_bit, Bool.or_eq_true, decide_eq_true_eq] at hi
        rcases hi with hi | hi
        · exact h2 i hi
        · rw [← hi]; exact h1
    have h2 : sumL (((List.range (2 ^ n)).filter ((fun s => subB s t) ∘ (2 ^ n + ·))).map ((fun s => c ^ pcard (n + 1) s) ∘ (2 ^ n + ·))) = if t.testBit n = true then c * (c + 1) ^ pcard n t else 0 := by
      have e1 : (List.range (2 ^ n)).filter ((fun s => subB s t) ∘ (2 ^ n + ·)) = (List.range (2 ^ n)).filter fun s => t.testBit n && subB s t := by
        refine List.filter_congr fun s hs => ?_
        exact hsub s (List.mem_range.1 hs)
      rw [e1]
      cases hb : t.testBit n with
      | false =>
        rw [if_neg (by simp)]
        have e2 : (List.range (2 ^ n)).filter (fun s => false && subB s t) = [] := by simp
        rw [e2]; rfl
      | true =>
        rw [if_pos rfl]
        simp only [Bool.true_and]
        rw [← sub_pow c n t]
        have hmul : ∀ l : List Nat, sumL (l.map fun s => c * c ^ pcard n s) = c * sumL (l.map fun s => c ^ pcard n s) := by
          intro l
          induction l with
          | nil => rfl
          | cons x l ih => simp only [List.map_cons, sumL]; rw [ih, Nat.mul_add]
        rw [← hmul]
        congr 1
        refine List.map_congr_left fun s hs => ?_
        have hs := List.mem_range.1 (List.mem_filter.1 hs).1
        show c ^ pcard (n + 1) (2 ^ n + s) = _
        rw [hbit s hs, pcard_add (Nat.lt_succ_self n) (Nat.testBit_lt_two_pow hs), pcard_succ, Nat.testBit_lt_two_pow hs]
        simp [Nat.pow_succ, Nat.mul_comm]
    rw [h1, h2, pcard_succ]
    cases t.testBit n with
    | false => simp
    | true => simp only [if_pos]; rw [Nat.pow_succ, Nat.mul_comm ((c + 1) ^ pcard n t), Nat.add_mul, Nat.one_mul]; omega
/-- Rows are few. -/
theorem wvN_le {p : List Int} {B : Nat → Nat → Bool} (hB : ∀ s t, B s t = true → subB s t = true) : ∀ k t, wvN B (idealsN p) k t ≤ (k + 1) ^ pcard p.length t
  | 0, t => by
    unfold wvN
    rw [Nat.one_pow]
    split <;> omega
  | k + 1, t => by
    unfold wvN
    rw [← sub_pow (k + 1) p.length t]
    refine Nat.le_trans (sumL_map_le _ (fun s => (k + 1) ^ pcard p.length s) _ (fun s _ => wvN_le hB k s)) ?_
    unfold idealsN
    rw [List.filter_filter]
    refine sumL_filter_le _ _ _ _ fun s _ h => ?_
    rw [Bool.and_eq_true] at h
    exact hB s t h.1
theorem pow_bound {c m : Nat} (hc : c ≤ 15) (hm : m ≤ 10) : c ^ m ≤ 576650390625 := by
  refine Nat.le_trans (Nat.pow_le_pow_left hc m) ?_
  have h15 : (15 : Nat) ^ m ≤ 15 ^ 10 := Nat.pow_le_pow_right (by decide) hm
  exact Nat.le_trans h15 (by decide)
theorem wvN_small {p : List Int} (hp : p.length ≤ 10) {B : Nat → Nat → Bool} (hB : ∀ s t, B s t = true → subB s t = true) {k t : Nat} (hk : k ≤ 14) : wvN B (idealsN p) k t ≤ 576650390625 :=
  Nat.le_trans (wvN_le hB k t) (pow_bound (by omega) (Nat.le_trans (pcard_le _ _) hp))
theorem stB_sub {p : List Int} {b : Bool} {s t : Nat} (h : stB p b s t = true) : subB s t = true := by
  unfold stB at h
  rw [Bool.and_eq_true] at h
  exact h.1
theorem sub_all {p : List Int} {s : Nat} (hs : s < 2 ^ p.length) : subB s (allN p) = true := subB_iff.2 fun i hi => by
  rw [allN_bit]; exact decide_eq_true (lt_of_bit hs hi)
end Go.Proofs.Ytemkddgfneohhaa.Q
end

section
namespace Go.Proofs.Ytemkddgfneohhaa.Q
open Go.RowKit Go.Proofs.YtemkddgfneohhaaW.PrintWords
set_option linter.unusedVariables false
theorem sizes_eq (n : Nat) : (decide ((1 : Int) ≤ (n : Int)) && decide ((n : Int) ≤ 10)) = (decide (1 ≤ n) && decide (n ≤ 10)) := by
  rw [Bool.eq_iff_iff]; simp only [Bool.and_eq_true, decide_eq_true_eq]; omega
end Go.Proofs.Ytemkddgfneohhaa.Q
end

section
namespace Go.Proofs.Ytemkddgfneohhaa.Q
open Go.RowKit Go.Proofs.YtemkddgfneohhaaW.PrintWords Go.Proofs.Ytemkddgfneohhaa.F
set_option linter.unusedVariables false
theorem poGood_ev (p : List Int) : Ev (fun k => spec_poGood.f k p) (isPo p) := by
  unfold spec_poGood.f
  refine Ev.call (l1In_eq _ _ _) ?_
  unfold isPo
  rw [sizes_eq]
  cases hs : (decide (1 ≤ p.length) && decide (p.length ≤ 10)) with
  | false => exact Ev.no (by simp) (Ev.ret rfl)
  | true =>
  refine Ev.yes rfl ?_
  rw [Bool.and_eq_true, decide_eq_true_eq, decide_eq_true_eq] at hs
  obtain ⟨h1, h2⟩ := hs
  have key : ∀ i, i ≤ p.length → Ev (fun k => spec_poGood.l0 k p (p.length : Int) (i : Int) p) (allFrom (rowOk p) p.length i) := by
    refine downTo p.length ?_ ?_
    · refine Ev.step (by intro k; simp only [spec_poGood.l0]; rfl) ?_
      exact Ev.no (by omega) (Ev.ret (allFrom_end _ _).symm)
    · intro i hi ih
      refine Ev.step (by intro k; simp only [spec_poGood.l0]; rfl) ?_
      refine Ev.yes (by omega) (Ev.yes (by omega) (Ev.yes (by omega) ?_))
      rw [rdN, mask_eq (by omega)]
      refine Ev.call (l1In_eq _ _ _) ?_
      rw [allFrom_step _ hi]
      by_cases hb : 0 ≤ p.getD i 0 ∧ p.getD i 0 ≤ 2 ^ i - 1
      rotate_left
      · exact Ev.no (by rw [range_false hb]; simp) (Ev.ret (by rw [rowOk_false hb]; rfl))
      refine Ev.yes (range_true hb) ?_
      have hv : p.getD i 0 = (L p i : Int) := by unfold L; omega
      rw [rowOk_true hb]
      generalize hx : p.getD i 0 = x at *
      have inner : ∀ j, j ≤ i → Ev (fun k => spec_poGood.l1 k (i : Int) x (j : Int) p (p.length : Int) (i : Int) p)
          (allFrom (fun j => !(L p i).testBit j || decide (Go.bits .andNot .i64 (p.getD j 0) x = 0)) i j && allFrom (rowOk p) p.length (i + 1)) := by
        refine downTo i ?_ ?_
        · refine Ev.step (by intro k; simp only [spec_poGood.l1]; rfl) ?_
          refine Ev.no (by omega) ?_
          rw [wid1 hi (by omega), allFrom_end, Bool.true_and]
          exact ih
        · intro j hj ihj
          refine Ev.step (by intro k; simp only [spec_poGood.l1]; rfl) ?_
          refine Ev.yes (by omega) (Ev.yes (by omega) ?_)
          rw [allFrom_step _ hj, wid1 hj (by omega), rdN]
          cases hbit : (L p i).testBit j with
          | false => exact Ev.no (by rw [hv, bit_test (by omega), hbit]; simp) (evc ihj (by simp))
          | true =>
            refine Ev.yes (by rw [hv, bit_test (by omega), hbit]) (Ev.yes (by omega) ?_)
            refine Ev.ite (fun h => evc ihj ?_) (fun h => Ev.ret ?_)
            · rw [decide_eq_true h]; simp
            · rw [decide_eq_false h]; simp
      exact inner 0 (by omega)
  exact key 0 (by omega)
end Go.Proofs.Ytemkddgfneohhaa.Q
end

section
namespace Go.Proofs.Ytemkddgfneohhaa.Q
open Go.RowKit Go.Proofs.YtemkddgfneohhaaW.PrintWords
set_option linter.unusedVariables false
def Tl (N : Nat) (f : Nat → Nat) : List Int := (List.range N).map fun t => ((f t : Nat) : Int)
theorem Tl_len (N : Nat) (f : Nat → Nat) : (Tl N f).length = N := by simp [Tl]
theorem Tl_get (N : Nat) (f : Nat → Nat) {t : Nat} (ht : t < N) : rd (Tl N f) (t : Int) = ((f t : Nat) : Int) := by
  rw [rdN]
  unfold Tl
  rw [List.getD_eq_getElem?_getD, List.getElem?_map, List.getElem?_range ht]; rfl
theorem Tl_congr {N : Nat} {f g : Nat → Nat} (h : ∀ t, t < N → f t = g t) : Tl N f = Tl N g := List.map_congr_left fun t ht => by rw [h t (List.mem_range.1 ht)]
theorem Tl_set {N : Nat} {f : Nat → Nat} {t x : Nat} (ht : t < N) : (Tl N f).set t (x : Int) = Tl N fun u => if u = t then x else f u := by
  apply List.ext_getElem?
  intro i
  unfold Tl
  rw [List.getElem?_set, List.getElem?_map, List.getElem?_map, List.length_map, List.length_range]
  by_cases hi : i < N
  · rw [List.getElem?_range hi]
    by_cases e : t = i
    · subst e
      rw [if_pos rfl, if_pos ht]
      simp
    · rw [if_neg e]
      simp only [Option.map_some]
      rw [if_neg (fun h => e h.symm)]
  · rw [List.getElem?_eq_none (l := List.range N) (by simpa using hi)]
    by_cases e : t = i
    · subst e; exact absurd ht hi
    · rw [if_neg e]; rfl
theorem Tl_zero (N : Nat) : List.replicate N (0 : Int) = Tl N fun _ => 0 := by
  unfold Tl
  apply List.ext_getElem
  · simp
  · intro i h1 h2; simp
theorem sumL_snoc (l : List Nat) (x : Nat) : sumL (l ++ [x]) = sumL l + x := by rw [sumL_append]; simp [sumL]
theorem take_snoc {α : Type} (l : List α) (i : Nat) (h : i < l.length) : l.take (i + 1) = l.take i ++ [l[i]] := by
  rw [List.take_add_one, List.getElem?_eq_getElem h]; rfl
end Go.Proofs.Ytemkddgfneohhaa.Q
end

section
namespace Go.Proofs.Ytemkddgfneohhaa.Q
open Go.RowKit Go.Proofs.YtemkddgfneohhaaW.PrintWords
set_option linter.unusedVariables false
/-- What may follow in a row of steps. -/
def opB (p : List Int) (s t : Nat) : Bool := subB s t && (!(ndiff t s == 0) && frB p (ndiff t s))
theorem opB_sub {p : List Int} {s t : Nat} (h : opB p s t = true) : subB s t = true := by
  unfold opB at h
  rw [Bool.and_eq_true] at h
  exact h.1
def stepsN (p : List Int) : List Nat := (List.range p.length).map fun j => wvN (opB p) (idealsN p) (j + 1) (allN p)
/-- Choices. -/
def bin : Nat → Nat → Nat
  | _, 0 => 1
  | 0, _ + 1 => 0
  | k + 1, j + 1 => bin k j + bin k (j + 1)
theorem bin_big : ∀ k j, k < j → bin k j = 0
  | _, 0, h => absurd h (Nat.not_lt_zero _)
  | 0, _ + 1, _ => rfl
  | k + 1, j + 1, h => by unfold bin; rw [bin_big k j (by omega), bin_big k (j + 1) (by omega)]
theorem bin_self : ∀ k, bin k k = 1
  | 0 => rfl
  | k + 1 => by unfold bin; rw [bin_self k, bin_big k (k + 1) (by omega)]
theorem bin_zero (k : Nat) : bin k 0 = 1 := by cases k <;> rfl
theorem frB_zero (p : List Int) : frB p 0 = true := by unfold frB; rw [allFrom_iff]; intro j _ _; rw [Nat.zero_testBit]; rfl
theorem ndiff_self (s : Nat) : ndiff s s = 0 := by unfold ndiff; rw [Nat.and_self, Nat.xor_self]
theorem sub_antisymm {s t : Nat} (h1 : subB s t = true) (h2 : ndiff t s = 0) : s = t := by
  apply Nat.eq_of_testBit_eq
  intro i
  rw [Bool.eq_iff_iff]
  exact ⟨fun h => subB_iff.1 h1 i h, fun h => ndiff_zero.1 h2 i h⟩
theorem st_split (p : List Int) (s t : Nat) : stB p true s t = (decide (s = t) || opB p s t) := by
  by_cases e : s = t
  · subst e
    unfold stB
    rw [ndiff_self, frB_zero, show subB s s = true by unfold subB; rw [ndiff_self]; rfl]
    simp
  · rw [decide_eq_false e, Bool.false_or]
    unfold stB opB
    cases h : subB s t with
    | false => rfl
    | true =>
      have : (ndiff t s == 0) = false := by rw [beq_eq_false_iff_ne]; exact fun h2 => e (sub_antisymm h h2)
      rw [this]; rfl
theorem op_irrefl (p : List Int) (s : Nat) : opB p s s = false := by unfold opB; rw [ndiff_self]; simp
theorem sum_split (p : List Int) (f : Nat → Nat) (t : Nat) : ∀ l : List Nat, l.Nodup → t ∈ l → sumL ((l.filter fun s => stB p true s t).map f) = f t + sumL ((l.filter fun s => opB p s t).map f)
  | [], _, h => by cases h
  | s :: l, hn, h => by
    obtain ⟨h1, h2⟩ := List.nodup_cons.1 hn
    rw [List.filter_cons, List.filter_cons, st_split]
    by_cases e : s = t
    · subst e
      rw [decide_eq_true rfl, Bool.true_or, if_pos rfl, op_irrefl, if_neg (by simp), List.map_cons]
      have e2 : l.filter (fun x => stB p true x s) = l.filter fun x => opB p x s := List.filter_congr fun x hx => by
        rw [st_split, decide_eq_false (fun e => h1 (by rw [← e]; exact hx)), Bool.false_or]
      rw [e2]; rfl
    · have ht : t ∈ l := by
        rcases List.mem_cons.1 h with h | h
        · exact absurd h.symm e
        · exact h
      rw [decide_eq_false e, Bool.false_or]
      have ih := sum_split p f t l h2 ht
      cases opB p s t with
      | false => rw [if_neg (by simp), if_neg (by simp)]; exact ih
      | true => rw [if_pos rfl, if_pos rfl, List.map_cons, List.map_cons]; simp only [sumL]; rw [ih]; omega
/-- f 0 + .. + f (n - 1). -/
def upto (f : Nat → Nat) : Nat → Nat
  | 0 => 0
  | n + 1 => upto f n + f n
theorem upto_congr {f g : Nat → Nat} : ∀ n, (∀ i, i < n → f i = g i) → upto f n = upto g n
  | 0, _ => rfl
  | n + 1, h => by unfold upto; rw [upto_congr n (fun i hi => h i (by omega)), h n (by omega)]
theorem upto_add (f g : Nat → Nat) : ∀ n, upto (fun i => f i + g i) n = upto f n + upto g n
  | 0 => rfl
  | n + 1 => by unfold upto; rw [upto_add f g n]; omega
theorem upto_shift (f : Nat → Nat) : ∀ n, upto f (n + 1) = f 0 + upto (fun i => f (i + 1)) n
  | 0 => by simp [upto]
  | n + 1 => by
    have e : upto f (n + 1 + 1) = upto f (n + 1) + f (n + 1) := rfl
    rw [e, upto_shift f n]
    show _ = f 0 + (upto (fun i => f (i + 1)) n + f (n + 1))
    omega
theorem upto_sum {α : Type} (g : Nat → α → Nat) : ∀ (l : List α) (n : Nat), sumL (l.map fun s => upto (fun j => g j s) n) = upto (fun j => sumL (l.map (g j))) n
  | [], n => by
    induction n with
    | zero => rfl
    | succ n ih => unfold upto; rw [← ih]; rfl
  | s :: l, n => by
    simp only [List.map_cons, sumL]
    rw [upto_sum g l n, ← upto_add]
theorem sumL_mul (c : Nat) {α : Type} (f : α → Nat) : ∀ l : List α, sumL (l.map fun s => c * f s) = c * sumL (l.map f)
  | [] => rfl
  | x :: l => by simp only [List.map_cons, sumL]; rw [sumL_mul c f l, Nat.mul_add]
theorem upto_zero (f : Nat → Nat) : ∀ (n m : Nat), n ≤ m → (∀ i, n ≤ i → i < m → f i = 0) → upto f m = upto f n
  | n, 0, h, _ => by rw [show n = 0 by omega]
  | n, m + 1, h, h0 => by
    rcases Nat.lt_or_ge m n with h1 | h1
    · rw [show n = m + 1 by omega]
    · show upto f m + f m = upto f n
      rw [upto_zero f n m h1 (fun i a b => h0 i a (by omega)), h0 m h1 (by omega), Nat.add_zero]
/-- STRICT ROWS ARE CHOICES OF STEPS. -/
theorem strict_steps (p : List Int) : ∀ (k N : Nat), k + 1 ≤ N → ∀ t ∈ idealsN p, wvN (stB p true) (idealsN p) k t = upto (fun j => bin k j * wvN (opB p) (idealsN p) j t) N
  | 0, N, h, t, ht => by
    rw [upto_zero _ 1 N h (fun i h1 _ => by rw [bin_big 0 i (by omega), Nat.zero_mul])]
    show _ = 0 + bin 0 0 * wvN (opB p) (idealsN p) 0 t
    rw [bin_zero, Nat.one_mul, Nat.zero_add]
    unfold wvN; rfl
  | k + 1, N, h, t, ht => by
    conv => lhs; unfold wvN
    rw [sum_split p _ t _ (idealsN_nodup p) ht]
    obtain ⟨M, rfl⟩ : ∃ M, N = M + 1 := ⟨N - 1, by omega⟩
    have e1 : sumL (((idealsN p).filter fun s => opB p s t).map (wvN (stB p true) (idealsN p) k)) = upto (fun j => bin k j * wvN (opB p) (idealsN p) (j + 1) t) M := by
      have e2 : ((idealsN p).filter fun s => opB p s t).map (wvN (stB p true) (idealsN p) k) = ((idealsN p).filter fun s => opB p s t).map fun s => upto (fun j => bin k j * wvN (opB p) (idealsN p) j s) M :=
        List.map_congr_left fun s hs => strict_steps p k M (by omega) s (List.mem_filter.1 hs).1
      rw [e2, upto_sum]
      refine upto_congr M fun j _ => ?_
      rw [sumL_mul]
      conv => rhs; unfold wvN
    rw [e1, strict_steps p k (M + 1) (by omega) t ht, upto_shift, upto_shift]
    have e3 : upto (fun i => bin (k + 1) (i + 1) * wvN (opB p) (idealsN p) (i + 1) t) M = upto (fun i => bin k (i + 1) * wvN (opB p) (idealsN p) (i + 1) t) M + upto (fun i => bin k i * wvN (opB p) (idealsN p) (i + 1) t) M := by
      rw [← upto_add]
      refine upto_congr M fun i _ => ?_
      show (bin k i + bin k (i + 1)) * _ = _
      rw [Nat.add_mul]; omega
    rw [e3, bin_zero, bin_zero]
    omega
theorem pcard_lt {p : List Int} {s t : Nat} (ht : t < 2 ^ p.length) (h : opB p s t = true) : pcard p.length s < pcard p.length t := by
  have hs := opB_sub h
  unfold opB at h
  simp only [Bool.and_eq_true, Bool.not_eq_true', beq_eq_false_iff_ne] at h
  obtain ⟨i, hi⟩ : ∃ i, (ndiff t s).testBit i = true := by
    rcases Classical.em (∃ i, (ndiff t s).testBit i = true) with h1 | h1
    · exact h1
    · refine absurd (Nat.eq_of_testBit_eq fun i => ?_) h.2.1
      rw [Nat.zero_testBit]
      cases hb : (ndiff t s).testBit i with
      | false => rfl
      | true => exact absurd ⟨i, hb⟩ h1
  rw [ndiff_bit, Bool.and_eq_true, Bool.not_eq_true'] at hi
  unfold pcard
  exact countP_lt _ _ _ (fun x _ hx => subB_iff.1 hs x hx) i (List.mem_range.2 (lt_of_bit ht hi.1)) hi.1 hi.2
theorem op_short {p : List Int} : ∀ j t, t < 2 ^ p.length → pcard p.length t < j → wvN (opB p) (idealsN p) j t = 0
  | 0, _, _, h => absurd h (Nat.not_lt_zero _)
  | j + 1, t, ht, h => by
    unfold wvN
    have : ∀ l : List Nat, (∀ s ∈ l, wvN (opB p) (idealsN p) j s = 0) → sumL (l.map (wvN (opB p) (idealsN p) j)) = 0 := by
      intro l
      induction l with
      | nil => intro _; rfl
      | cons x l ih => intro hl; simp only [List.map_cons, sumL]; rw [hl x List.mem_cons_self, ih (fun s hs => hl s (List.mem_cons_of_mem _ hs))]
    refine this _ fun s hs => ?_
    obtain ⟨h1, h2⟩ := List.mem_filter.1 hs
    exact op_short j s (mem_idealsN.1 h1).1 (by have := pcard_lt ht h2; omega)
/-- At the set of all: by the steps alone. -/
theorem strict_all {p : List Int} (hp : PO p) (k : Nat) : wvN (stB p true) (idealsN p) k (allN p) = upto (fun j => bin k (j + 1) * wvN (opB p) (idealsN p) (j + 1) (allN p)) p.length := by
  have hall : allN p ∈ idealsN p := mem_idealsN.2 ⟨allN_lt p, idealB_all p hp⟩
  rw [strict_steps p k (k + p.length + 2) (by omega) _ hall]
  rw [show k + p.length + 2 = (k + p.length + 1) + 1 by omega, upto_shift]
  have h0 : wvN (opB p) (idealsN p) 0 (allN p) = 0 := by
    unfold wvN
    rw [if_neg]
    unfold allN
    have : 2 ^ 1 ≤ 2 ^ p.length := Nat.pow_le_pow_right (by decide) hp.pos
    omega
  rw [h0, Nat.mul_zero, Nat.zero_add]
  exact upto_zero _ p.length _ (by omega) (fun i h1 _ => by rw [op_short (i + 1) _ (allN_lt p) (by rw [pcard_all]; omega), Nat.mul_zero])
end Go.Proofs.Ytemkddgfneohhaa.Q
end

section
namespace Go.Proofs.Ytemkddgfneohhaa.Q
open Go.RowKit Go.Proofs.YtemkddgfneohhaaW.PrintWords
set_option linter.unusedVariables false
def outN (p : List Int) (t : Nat) : Nat := p.length - pcard p.length t
theorem outN_le (p : List Int) (t : Nat) : outN p t ≤ p.length := Nat.sub_le _ _
/-- How many rows of so many steps end in a set and leave out just so many elements together. -/
def wsN (p : List Int) : Nat → Nat → Nat → Nat
  | 0, s, j => if s = 0 ∧ j = 0 then 1 else 0
  | q + 1, t, j => if outN p t ≤ j then sumL (((idealsN p).filter fun s => subB s t).map fun s => wsN p q s (j - outN p t)) else 0
theorem wsN_le (p : List Int) : ∀ q s j, wsN p q s j ≤ wvN (stB p false) (idealsN p) q s
  | 0, s, j => by
    unfold wsN wvN
    by_cases h : s = 0
    · rw [if_pos h]; split <;> omega
    · rw [if_neg (fun h2 => h h2.1), if_neg h]; exact Nat.le_refl _
  | q + 1, t, j => by
    unfold wsN wvN
    split
    · have e : (idealsN p).filter (fun s => stB p false s t) = (idealsN p).filter fun s => subB s t := List.filter_congr fun s _ => by unfold stB; simp
      rw [e]
      exact sumL_map_le _ _ _ fun s _ => wsN_le p q s _
    · exact Nat.zero_le _
theorem sumL_none {α : Type} (f : α → Nat) : ∀ l : List α, (∀ x ∈ l, f x = 0) → sumL (l.map f) = 0
  | [], _ => rfl
  | x :: l, h => by simp only [List.map_cons, sumL]; rw [h x List.mem_cons_self, sumL_none f l (fun y hy => h y (List.mem_cons_of_mem _ hy))]
theorem wsN_zero (p : List Int) : ∀ q s j, p.length * q < j → wsN p q s j = 0
  | 0, s, j, h => by
    unfold wsN
    rw [if_neg (fun h2 => by omega)]
  | q + 1, t, j, h => by
    unfold wsN
    split
    · refine sumL_none _ _ fun s _ => wsN_zero p q s _ ?_
      have := outN_le p t
      rw [Nat.mul_succ] at h
      omega
    · rfl
/-- All rows of so many steps with just so many left out. -/
def wT (p : List Int) (m j : Nat) : Nat := sumL ((idealsN p).map fun s => wsN p m s j)
theorem wT_le (p : List Int) (m j : Nat) : wT p m j ≤ sumL ((idealsN p).map fun s => wvN (stB p false) (idealsN p) m s) := sumL_map_le _ _ _ fun s _ => wsN_le p m s j
theorem wT_total (p : List Int) (m : Nat) : sumL ((idealsN p).map fun s => wvN (stB p false) (idealsN p) m s) = wvN (stB p false) (idealsN p) (m + 1) (allN p) := by
  conv => rhs; unfold wvN
  have e : (idealsN p).filter (fun s => stB p false s (allN p)) = idealsN p := List.filter_eq_self.2 fun s hs => by unfold stB; rw [sub_all (mem_idealsN.1 hs).1]; rfl
  rw [e]
theorem wT_small {p : List Int} (hp : p.length ≤ 10) {m : Nat} (hm : m ≤ 13) (j : Nat) : wT p m j ≤ 576650390625 :=
  Nat.le_trans (wT_le p m j) (by rw [wT_total]; exact wvN_small hp (fun s t h => stB_sub h) (by omega))
end Go.Proofs.Ytemkddgfneohhaa.Q
end

section
namespace Go.Proofs.Ytemkddgfneohhaa.Q
open Go.RowKit Go.Proofs.YtemkddgfneohhaaW.PrintWords
set_option linter.unusedVariables false
theorem upto_split (g : Nat → Nat) (i : Nat) : ∀ r, upto g (i + r) = upto g i + upto (fun j => g (i + j)) r
  | 0 => by simp [upto]
  | r + 1 => by
    show upto g (i + r) + g (i + r) = _
    rw [upto_split g i r]
    show _ = upto g i + (upto (fun j => g (i + j)) r + g (i + r))
    omega
theorem upto_mul (c : Nat) (g : Nat → Nat) : ∀ n, upto (fun j => c * g j) n = c * upto g n
  | 0 => rfl
  | n + 1 => by
    show upto (fun j => c * g j) n + c * g n = c * (upto g n + g n)
    rw [upto_mul c g n, Nat.mul_add]
theorem digits_lt {B : Nat} (f : Nat → Nat) (hB : ∀ j, f j < B) : ∀ n, upto (fun j => f j * B ^ j) n < B ^ n
  | 0 => by simp [upto]
  | n + 1 => by
    have ih := digits_lt f hB n
    have h := hB n
    show upto (fun j => f j * B ^ j) n + f n * B ^ n < B ^ (n + 1)
    have h2 : (f n + 1) * B ^ n ≤ B * B ^ n := Nat.mul_le_mul_right _ h
    rw [Nat.add_mul, Nat.one_mul] at h2
    rw [Nat.pow_succ, Nat.mul_comm (B ^ n) B]
    omega
theorem digit {B : Nat} (f : Nat → Nat) (hB : ∀ j, f j < B) {n i : Nat} (hi : i < n) : (upto (fun j => f j * B ^ j) n / B ^ i) % B = f i := by
  obtain ⟨r, rfl⟩ : ∃ r, n = i + (r + 1) := ⟨n - i - 1, by omega⟩
  have hB0 : 0 < B := Nat.lt_of_le_of_lt (Nat.zero_le _) (hB 0)
  have hlow := digits_lt f hB i
  have e : upto (fun j => f j * B ^ j) (i + (r + 1)) = upto (fun j => f j * B ^ j) i + B ^ i * (f i + B * upto (fun j => f (i + (j + 1)) * B ^ j) r) := by
    rw [upto_split]
    congr 1
    have e1 : upto (fun j => f (i + j) * B ^ (i + j)) (r + 1) = upto (fun j => B ^ i * (f (i + j) * B ^ j)) (r + 1) := upto_congr _ fun j _ => by rw [Nat.pow_add, Nat.mul_left_comm]
    rw [e1, upto_mul, upto_shift]
    congr 1
    have e2 : upto (fun j => f (i + (j + 1)) * B ^ (j + 1)) r = upto (fun j => B * (f (i + (j + 1)) * B ^ j)) r := upto_congr _ fun j _ => by rw [Nat.pow_succ, Nat.mul_comm (B ^ j) B, Nat.mul_left_comm]
    rw [e2, upto_mul, Nat.pow_zero, Nat.mul_one]
    rfl
  rw [e, Nat.add_mul_div_left _ _ (Nat.pow_pos hB0), Nat.div_eq_of_lt hlow, Nat.zero_add, Nat.add_mul_mod_self_left, Nat.mod_eq_of_lt (hB i)]
def B40 : Nat := 1099511627776
def kN (p : List Int) (q s : Nat) : Nat := upto (fun j => wsN p q s j * B40 ^ j) (p.length * q + 1)
def kstep (p : List Int) (ids vals : List Nat) : List Nat := ids.map fun t => B40 ^ outN p t * sumL (((ids.zip vals).filter fun x => subB x.1 t).map fun x => x.2)
theorem kN_more (p : List Int) (q s N : Nat) (h : p.length * q + 1 ≤ N) : upto (fun j => wsN p q s j * B40 ^ j) N = kN p q s :=
  upto_zero _ _ _ h fun i h1 _ => by rw [wsN_zero p q s i (by omega), Nat.zero_mul]
theorem kN_step (p : List Int) (q t : Nat) : kN p (q + 1) t = B40 ^ outN p t * sumL (((idealsN p).filter fun s => subB s t).map (kN p q)) := by
  have ho := outN_le p t
  have e0 : p.length * (q + 1) + 1 = outN p t + (p.length * q + 1 + (p.length - outN p t)) := by rw [Nat.mul_succ]; omega
  conv => lhs; unfold kN
  rw [e0, upto_split]
  have z : upto (fun j => wsN p (q + 1) t j * B40 ^ j) (outN p t) = upto (fun j => wsN p (q + 1) t j * B40 ^ j) 0 := upto_zero _ _ _ (Nat.zero_le _) fun i _ h => by
    have : wsN p (q + 1) t i = 0 := by unfold wsN; rw [if_neg (by omega)]
    rw [this, Nat.zero_mul]
  rw [z]
  show 0 + _ = _
  rw [Nat.zero_add]
  have e1 : upto (fun j => wsN p (q + 1) t (outN p t + j) * B40 ^ (outN p t + j)) (p.length * q + 1 + (p.length - outN p t)) = upto (fun j => B40 ^ outN p t * sumL (((idealsN p).filter fun s => subB s t).map fun s => wsN p q s j * B40 ^ j)) (p.length * q + 1 + (p.length - outN p t)) := by
    refine upto_congr _ fun j _ => ?_
    have e2 : wsN p (q + 1) t (outN p t + j) = sumL (((idealsN p).filter fun s => subB s t).map fun s => wsN p q s j) := by
      conv => lhs; unfold wsN
      rw [if_pos (by omega), Nat.add_sub_cancel_left]
    have e3 : ((idealsN p).filter fun s => subB s t).map (fun s => wsN p q s j * B40 ^ j) = ((idealsN p).filter fun s => subB s t).map fun s => B40 ^ j * wsN p q s j := List.map_congr_left fun s _ => Nat.mul_comm _ _
    rw [e2, e3, sumL_mul, Nat.pow_add, Nat.mul_comm, Nat.mul_assoc]
  rw [e1, upto_mul, ← upto_sum]
  congr 2
  exact List.map_congr_left fun s _ => kN_more p q s _ (by omega)
theorem zip_self {α β : Type} (f : α → β) : ∀ l : List α, l.zip (l.map f) = l.map fun x => (x, f x)
  | [] => rfl
  | x :: l => by rw [List.map_cons, List.zip_cons_cons, zip_self f l, List.map_cons]
theorem kstep_eq (p : List Int) (q : Nat) : kstep p (idealsN p) ((idealsN p).map (kN p q)) = (idealsN p).map (kN p (q + 1)) := by
  unfold kstep
  refine List.map_congr_left fun t _ => ?_
  rw [zip_self, List.filter_map, List.map_map, kN_step]
  rfl
theorem kN_first (p : List Int) : (idealsN p).map (kN p 0) = (idealsN p).map fun s => if s = 0 then 1 else 0 := List.map_congr_left fun s _ => by
  unfold kN
  rw [Nat.mul_zero]
  show 0 + wsN p 0 s 0 * B40 ^ 0 = _
  unfold wsN
  by_cases h : s = 0
  · rw [if_pos ⟨h, rfl⟩, if_pos h]; rfl
  · rw [if_neg (fun h2 => h h2.1), if_neg h]; rfl
theorem kN_total (p : List Int) (m : Nat) : sumL ((idealsN p).map (kN p m)) = upto (fun j => wT p m j * B40 ^ j) (p.length * m + 1) := by
  unfold kN
  rw [upto_sum]
  refine upto_congr _ fun j _ => ?_
  have e3 : (idealsN p).map (fun s => wsN p m s j * B40 ^ j) = (idealsN p).map fun s => B40 ^ j * wsN p m s j := List.map_congr_left fun s _ => Nat.mul_comm _ _
  rw [e3, sumL_mul, Nat.mul_comm]
  rfl
def kDigits (K N : Nat) : List Nat := (List.range N).map fun i => (K / B40 ^ i) % B40
theorem kDigits_eq {p : List Int} (hp : p.length ≤ 10) {m : Nat} (hm : m ≤ 12) : kDigits (sumL ((idealsN p).map (kN p m))) (p.length * m + 1) = (List.range (p.length * m + 1)).map (wT p m) := by
  unfold kDigits
  rw [kN_total]
  refine List.map_congr_left fun i hi => ?_
  exact digit (wT p m) (fun j => Nat.lt_of_le_of_lt (wT_small hp (by omega) j) (by decide)) (List.mem_range.1 hi)
end Go.Proofs.Ytemkddgfneohhaa.Q
end

section
namespace Go.Proofs.Ytemkddgfneohhaa.Q
open Go.RowKit Go.Proofs.YtemkddgfneohhaaW.PrintWords Go.Proofs.Ytemkddgfneohhaa.F
set_option linter.unusedVariables false
theorem within_eq (a b c : Int) : impl_within.f a b c = some (decide (b ≤ a) && decide (a ≤ c)) := by
  unfold impl_within.f
  by_cases h : b ≤ a
  · rw [if_pos h]; simp [h]
  · rw [if_neg h]; simp [h]
end Go.Proofs.Ytemkddgfneohhaa.Q
end

section
namespace Go.Proofs.Ytemkddgfneohhaa.Q
open Go.RowKit Go.Proofs.YtemkddgfneohhaaW.PrintWords Go.Proofs.Ytemkddgfneohhaa.F
set_option linter.unusedVariables false
theorem isBound_eq (m : Int) : impl_isBound.f m = some (decide (0 ≤ m) && decide (m ≤ 12)) := by
  unfold impl_isBound.f
  rw [within_eq]; rfl
theorem laBound_eq (m : Int) : spec_laBound.f m = some (decide (0 ≤ m) && decide (m ≤ 12)) := by
  unfold spec_laBound.f
  rw [l1In_eq]; rfl
end Go.Proofs.Ytemkddgfneohhaa.Q
end

section
namespace Go.Proofs.Ytemkddgfneohhaa.Q
open Go.RowKit Go.Proofs.YtemkddgfneohhaaW.PrintWords Go.Proofs.Ytemkddgfneohhaa.F
set_option linter.unusedVariables false
theorem IsPoset_ev (p : List Int) : Ev (fun k => impl_IsPoset.f k p) (isPo p) := by
  unfold impl_IsPoset.f
  refine Ev.call (show impl_Poset_n.f p = some (p.length : Int) from rfl) (Ev.call (within_eq _ _ _) ?_)
  unfold isPo
  rw [sizes_eq]
  cases hs : (decide (1 ≤ p.length) && decide (p.length ≤ 10)) with
  | false => exact Ev.no (by simp) (Ev.ret rfl)
  | true =>
  refine Ev.yes rfl ?_
  rw [Bool.and_eq_true, decide_eq_true_eq, decide_eq_true_eq] at hs
  obtain ⟨h1, h2⟩ := hs
  have key : ∀ i, i ≤ p.length → Ev (fun k => impl_IsPoset.l0 k p (p.length : Int) (i : Int) p) (allFrom (rowOk p) p.length i) := by
    refine downTo p.length ?_ ?_
    · refine Ev.step (by intro k; simp only [impl_IsPoset.l0]; rfl) ?_
      exact Ev.no (by omega) (Ev.ret (allFrom_end _ _).symm)
    · intro i hi ih
      refine Ev.step (by intro k; simp only [impl_IsPoset.l0]; rfl) ?_
      refine Ev.yes (by omega) (Ev.yes (by omega) (Ev.yes (by omega) ?_))
      rw [rdN, mask_eq (by omega)]
      refine Ev.call (within_eq _ _ _) ?_
      rw [allFrom_step _ hi]
      by_cases hb : 0 ≤ p.getD i 0 ∧ p.getD i 0 ≤ 2 ^ i - 1
      rotate_left
      · exact Ev.no (by rw [range_false hb]; simp) (Ev.ret (by rw [rowOk_false hb]; rfl))
      refine Ev.yes (range_true hb) ?_
      have hv : p.getD i 0 = (L p i : Int) := by unfold L; omega
      have hm : L p i < 2 ^ i := by
        have := hb.2
        rw [hv, pow_int] at this
        have hp : 0 < 2 ^ i := Nat.two_pow_pos i
        generalize 2 ^ i = z at *
        omega
      rw [rowOk_true hb, ← items_all hm (by omega) (fun j => decide (Go.bits .andNot .i64 (p.getD j 0) (p.getD i 0) = 0)), hv]
      refine Ev.bind (items_ev _ (lt_pow hm (by omega))) ?_
      have inner : ∀ j, j ≤ (itemsN (L p i)).length → Ev (fun k => impl_IsPoset.l1 k (L p i : Int) p (p.length : Int) (i : Int) (ints (itemsN (L p i))) ((ints (itemsN (L p i))).length : Int) (j : Int) p)
          (((itemsN (L p i)).drop j).all (fun j => decide (Go.bits .andNot .i64 (p.getD j 0) (L p i : Int) = 0)) && allFrom (rowOk p) p.length (i + 1)) := by
        rw [ints_len]
        refine downTo _ ?_ ?_
        · refine Ev.step (by intro k; simp only [impl_IsPoset.l1]; rfl) ?_
          refine Ev.no (by omega) ?_
          rw [wid1 hi (by omega), List.drop_length, List.all_nil, Bool.true_and]
          exact ih
        · intro j hj ihj
          have hlt := items_lt hm hj
          have hl := itemsN_len (L p i)
          refine Ev.step (by intro k; simp only [impl_IsPoset.l1]; rfl) ?_
          refine Ev.yes (by omega) (Ev.yes (by omega) (Ev.yes (by rw [ints_len]; omega) ?_))
          rw [rd_ints, all_drop_step _ _ 0 hj, wid1 hj (by omega), rdN]
          refine Ev.yes (by omega) (Ev.yes (by omega) ?_)
          refine Ev.ite (fun h => evc ihj ?_) (fun h => Ev.ret ?_)
          · rw [decide_eq_true h]; simp
          · rw [decide_eq_false h]; simp
      exact inner 0 (by omega)
  exact key 0 (by omega)
end Go.Proofs.Ytemkddgfneohhaa.Q
end

section
namespace Go.Proofs.Ytemkddgfneohhaa.Q
end Go.Proofs.Ytemkddgfneohhaa.Q
end

section
namespace Go.Proofs.Ytemkddgfneohhaa.F
open Go.RowKit Go.Proofs.YtemkddgfneohhaaW.PrintWords Go.Proofs.YtemkddgfneohhaaW.PrintLast Go.Proofs.YtemkddgfneohhaaW.PrintMore
set_option linter.unusedVariables false
set_option linter.unusedSimpArgs false
def impl_Poset_ideals.f (k : Nat) (l0_0 : List Int) : Option (List Int) := sets_ideals.f (fun x => lit_ideals.f k x l0_0) k l0_0
theorem ideals_mono_l {F F' : Int → Option Bool} (hF : ∀ x, LeO (F x) (F' x)) : ∀ k y0 y1 y2, LeO (sets_ideals.l0 F k y0 y1 y2) (sets_ideals.l0 F' k y0 y1 y2)
  | 0, _, _, _ => fun r h => by simp [sets_ideals.l0] at h
  | k + 1, y0, y1, y2 => by
    unfold sets_ideals.l0
    exact LeO.ite (LeO.bind (hF _) (fun _ => LeO.ite (LeO.ite (ideals_mono_l hF k _ _ _) (LeO.none _)) (ideals_mono_l hF k _ _ _))) (LeO.refl _)
theorem impl_Poset_ideals.mono : ∀ a0 k, LeO (impl_Poset_ideals.f k a0) (impl_Poset_ideals.f (k + 1) a0) := fun a0 k r h => by
  unfold impl_Poset_ideals.f at h ⊢
  refine sets_ideals.mono _ _ _ r ?_
  unfold sets_ideals.f at h ⊢
  exact LeO.bind (LeO.refl _) (fun _ => ideals_mono_l (fun x => lit_ideals.mono x a0 k) k _ _ _) r h
set_option maxHeartbeats 8000000 in
set_option maxRecDepth 100000 in
theorem impl_Poset_ideals.calls (k : Nat) (A0_0 : Option Addr) (c0_0 : Nat) (l0_0 : List Int) (r : List Int) (w : World) (hr0_0 : Kd.C (Kd.int .i64) w A0_0 l0_0.length l0_0) (hc0_0 : l0_0.length ≤ c0_0) (h : impl_Poset_ideals.f k l0_0 = some r) :
    Calls Try.prog 67 #[.agg #[.slice A0_0 l0_0.length c0_0]] w fun e w' => ∃ v0_ : Value, e = .returned (v0_) ∧ Kd.R (Kd.int .i64) 3 w' w.heap.size (fun _ => True) v0_ r ∧ Below w.heap.size w w' := by
  unfold impl_Poset_ideals.f at h
  have hmf : ∀ (fn : Fn) (first cap : Array Value) (w : World), (Instr.makeFunc fn first cap).run Try.prog w = .ok (.func fn first cap) w := fun _ _ _ _ => rfl
  have hu39 := Try.underlying30
  obtain ⟨W, hW⟩ : ∃ W, W = (w.alloc (.cells #[.slice A0_0 l0_0.length c0_0] 30 (0, 0))) := ⟨_, rfl⟩
  have hsz : W.heap.size = w.heap.size + 1 := by rw [hW]; simp
  have hcB : W.cell? ⟨w.heap.size, 0, none⟩ = some (.slice A0_0 l0_0.length c0_0) := by rw [hW, World.cell?_alloc_at _ _ _ _ rfl]; rfl
  have hbW : Below w.heap.size w W := by rw [hW]; exact (Below.refl _ _).alloc (Nat.le_refl _) _
  have hrW : Kd.C (Kd.int .i64) W A0_0 l0_0.length l0_0 := Kd.C_below hr0_0 hbW
  have HF : Aside0 (∀ (x0_ : Int) (r_ : Bool) (W' : World), lit_ideals.f k x0_ l0_0 = some r_ → Below W.heap.size W W' → Calls Try.prog 86 #[.int .i64 x0_, .pointer (some ⟨w.heap.size, 0, none⟩)] W' fun e w' => e = .returned (.bool r_) ∧ Below W'.heap.size W' w') :=
    ⟨fun x0_ r_ W' hF hb => lit_ideals.calls w.heap.size k x0_ A0_0 c0_0 l0_0 r_ W' ((hb.cell (p := ⟨w.heap.size, 0, none⟩) (by rw [hsz]; show w.heap.size < w.heap.size + 1; omega)).trans hcB) (Kd.C_below hrW hb) hc0_0 hF⟩
  have hcall := sets_ideals.calls (fun x => lit_ideals.f k x l0_0) w.heap.size k A0_0 c0_0 l0_0 r W HF hrW hc0_0 h
  have hcall' : Aside0 (Calls Try.prog 85 #[.agg #[.slice A0_0 l0_0.length c0_0], .func (.func 86) #[] #[.pointer (some ⟨w.heap.size, 0, none⟩)]] (w.alloc (.cells #[.slice A0_0 l0_0.length c0_0] 30 (0, 0))) fun e w' => ∃ v0_ : Value, e = .returned (v0_) ∧ (Kd.R (Kd.int .i64) 3 w' W.heap.size (fun _ => True) v0_ r ∧ Below W.heap.size W w')) := ⟨by rw [← hW]; exact hcall⟩
  have HW := Lib.hid hW
  clear hcall HF h hW hrW hr0_0 hc0_0
  have HsW := Aside0.mk hsz
  have HbW := Aside0.mk hbW
  clear hcB hsz hbW
  go_enter Try.func67, Try.ntmps67
  go_wp2_with fail
  refine hcall'.out.mono ?_
  rintro e w1 ⟨v, rfl, ho, hb⟩
  have Ho := Aside0.mk ho
  have Hb := Aside0.mk hb
  clear ho hb hmf hcall'
  go_wp2
  go_ret
  refine ⟨_, rfl, Kd.R_lower Ho.out (by have := HsW.out; omega), HbW.out.trans (Hb.out.mono (by have := HsW.out; omega))⟩
end Go.Proofs.Ytemkddgfneohhaa.F
end

section
namespace Go.Proofs.Ytemkddgfneohhaa.Q
open Go.RowKit Go.Proofs.YtemkddgfneohhaaW.PrintWords Go.Proofs.Ytemkddgfneohhaa.F
set_option linter.unusedVariables false
/-- Finitely many calls that all end, end with one number of rounds. -/
theorem Ev.all {α : Type} {g : Nat → Nat → Option α} {r : Nat → α} : ∀ N : Nat, (∀ s, s < N → Ev (g s) (r s)) → ∃ K, ∀ k, K ≤ k → ∀ s, s < N → g s k = some (r s)
  | 0, _ => ⟨0, fun k _ s hs => absurd hs (Nat.not_lt_zero _)⟩
  | N + 1, h => by
    obtain ⟨K, hK⟩ := Ev.all N (fun s hs => h s (by omega))
    obtain ⟨K', hK'⟩ := h N (Nat.lt_succ_self _)
    refine ⟨K + K', fun k hk s hs => ?_⟩
    rcases Nat.lt_or_ge s N with h1 | h1
    · exact hK k (by omega) s h1
    · rw [show s = N by omega]; exact hK' k (by omega)
theorem sets_run {F : Int → Option Bool} {c : Nat → Bool} {N : Nat} (hN : N ≤ 1024) (hF : ∀ s : Nat, s < N → F (s : Int) = some (c s)) : ∀ (d i : Nat), i + d = N → ∀ (k : Nat) (acc : List Int), d < k → acc.length ≤ i → sets_ideals.l0 F k acc (N : Int) (i : Int) = some (acc ++ ints ((List.range' i d).filter c))
  | 0, i, h, 0, acc, hk, _ => by omega
  | 0, i, h, k + 1, acc, hk, _ => by
    simp only [sets_ideals.l0]
    rw [if_neg (by omega)]
    simp [ints]
  | d + 1, i, h, 0, acc, hk, _ => by omega
  | d + 1, i, h, k + 1, acc, hk, ha => by
    simp only [sets_ideals.l0]
    rw [if_pos (by omega), hF i (by omega), Option.bind_some, wid1 (show i < N by omega) (by omega), List.range'_succ, List.filter_cons]
    cases hc : c i with
    | true =>
      rw [if_pos rfl, if_pos (by omega), if_pos rfl, sets_run hN hF d (i + 1) (by omega) k (acc ++ [(i : Int)]) (by omega) (by rw [List.length_append, List.length_singleton]; omega)]
      rw [List.append_assoc]; rfl
    | false =>
      rw [if_neg (by simp), if_neg (by simp), sets_run hN hF d (i + 1) (by omega) k acc (by omega) (by omega)]
theorem two_pow_small {n : Nat} (h : n ≤ 10) : 2 ^ n ≤ 1024 := Nat.le_trans (Nat.pow_le_pow_right (by decide) h) (by decide)
theorem ideals_ev {p : List Int} (hp : PO p) : Ev (fun k => impl_Poset_ideals.f k p) (ints (idealsN p)) := by
  have hn := hp.small
  have h2 := two_pow_small hn
  have hpos := Nat.two_pow_pos p.length
  obtain ⟨K, hK⟩ := Ev.all (g := fun s k => lit_ideals.f k (s : Int) p) (r := fun s => idealB p s) (2 ^ p.length) (fun s hs => by
    unfold lit_ideals.f
    refine Ev.bind (close_ev hp hs) (Ev.ret ?_)
    rw [← closeN_eq hp hs, Bool.eq_iff_iff, beq_iff_eq, beq_iff_eq]
    omega)
  refine ⟨K + 2 ^ p.length + 1, fun k hk => ?_⟩
  show sets_ideals.f _ k p = _
  unfold sets_ideals.f
  rw [all_eq (by omega), Option.bind_some]
  have e : wrap64 (((allN p : Nat) : Int) + 1) = ((2 ^ p.length : Nat) : Int) := by
    rw [wid (by unfold allN; omega) (by unfold allN; omega)]
    unfold allN; omega
  rw [e]
  have := sets_run (F := fun x => lit_ideals.f k x p) (c := idealB p) h2 (fun s hs => hK k (by omega) s hs) (2 ^ p.length) 0 (by omega) k [] (by omega) (by simp)
  rw [show ((0 : Nat) : Int) = 0 from rfl] at this
  rw [this, List.nil_append, ← List.range_eq_range']
  rfl
end Go.Proofs.Ytemkddgfneohhaa.Q
end

section
namespace Go.Proofs.Ytemkddgfneohhaa.F
open Go.RowKit Go.Maps Go.Proofs.YtemkddgfneohhaaW.PrintWords Go.Proofs.YtemkddgfneohhaaW.PrintLast Go.Proofs.YtemkddgfneohhaaW.PrintMore
set_option linter.unusedVariables false
set_option linter.unusedSimpArgs false
theorem mp_law : Keyed Try.prog 3 := int_keyed Try.underlying3
theorem mp_zero (w : World) : (zeroValue 3).run Try.prog w = .ok (.int .i64 0) w := by kernel_rfl
/-- An entry of a map's literal. -/
theorem wpList_insert_own {H : Type} {P : Program} (w : World) {ops : Array Oper} {rest : List Oper} {o : Oper} {a : Act} {Q : Exit → Act → World → Prop}
    (hg : o.guard = none) (m x v : Operand) (t : TypeId) (hop : o.op = Op.insert t m x v)
    (k e : TypeId) (K : Keyed P k) (ht : P.underlying t = some (.map k e)) (R : Value → Option (DataW H × List MemPlace)) (b n : Nat) (D : DataW H)
    (hm : a.eval m = .map (some b)) (hown : w.ownsMap P k R b n D) (hn : n < maxLen) (key val : Value) (kl : Lit) (hx : a.eval x = key) (hv : a.eval v = val) (hkey : keyOf P k key = some kl)
    (d : DataW H) (ps : List MemPlace) (hval : R val = some (d, ps))
    (hK : ∀ w', w'.ownsMap P k R b (n + 1) (D.put kl d) → w.grownBy w' (some b) → wpList P ops Q rest (a.put o.dst undef) w') :
    wpList P ops Q (o :: rest) a w := by
  refine wpList_plain hg fun K' hK' => ?_
  obtain ⟨w', hrun, r1, r2⟩ := hown.update K ht hn hkey hval
  unfold Oper.wp
  simp [execOp, hop, hm, hx, hv, hrun, Result.andThen]
  exact hK' _ _ (hK w' r1 r2)
theorem mp_nodup_le {α : Type} [DecidableEq α] : ∀ (l m : List α), l.Nodup → (∀ x ∈ l, x ∈ m) → l.length ≤ m.length
  | [], _, _, _ => Nat.zero_le _
  | x :: l, m, hn, h => by
    obtain ⟨h1, h2⟩ := List.nodup_cons.1 hn
    have hx : x ∈ m := h x List.mem_cons_self
    have := mp_nodup_le l (m.erase x) h2 (fun y hy => (List.mem_erase_of_ne (fun e => h1 (by rw [← e]; exact hy))).2 (h y (List.mem_cons_of_mem _ hy)))
    rw [List.length_erase_of_mem hx] at this
    have hp : 0 < m.length := List.length_pos_of_mem hx
    simp only [List.length_cons]
    omega
theorem mp_tight {H : Type} {P : Program} {k : TypeId} {R : Value → Option (DataW H × List MemPlace)} {w : World} {b n m : Nat} {D : DataW H} (h : w.ownsMap P k R b n D) (hm : Maps.size D ≤ m) : w.ownsMap P k R b m D := by
  obtain ⟨es, clock, hb, F, hs, rfl⟩ := h
  exact ⟨es, clock, hb, F, by rw [Maps.size_eq, length_sorted] at hm; simpa using hm, rfl⟩
/-- What a map reads as at the numbers of a list; it has no other keys. -/
structure MpReads {H : Type} (D : DataW H) (ids : List Int) (v : Int → Int) : Prop where
  at_ : ∀ s ∈ ids, D.atKey (.int .i64 s) (.lit (.int .i64 0)) = .lit (.int .i64 (v s))
  has_ : ∀ kl, Maps.has D kl = true → ∃ s ∈ ids, kl = .int .i64 s
theorem mp_norm {H : Type} {P : Program} {k : TypeId} {R : Value → Option (DataW H × List MemPlace)} {w : World} {b n : Nat} {D : DataW H} {ids : List Int} {v : Int → Int} (K : Keyed P k) (h : w.ownsMap P k R b n D) (hr : MpReads D ids v) : w.ownsMap P k R b ids.length D := by
  refine mp_tight h ?_
  obtain ⟨es, rfl, hp, hk⟩ := h.entries K
  rw [Maps.size_eq]
  haveI : DecidableEq Lit := fun a b => Classical.propDecidable (a = b)
  have hn : (es.map Prod.fst).Nodup := by
    rw [List.nodup_iff_pairwise_ne, List.pairwise_map]
    exact hp
  have hsub : ∀ x ∈ es.map Prod.fst, x ∈ ids.map (Lit.int .i64) := fun x hx => by
    obtain ⟨p, hp1, rfl⟩ := List.mem_map.1 hx
    obtain ⟨s, hs, e⟩ := hr.has_ p.1 (List.any_eq_true.2 ⟨p, hp1, WideAt.sameKey_self (hk p hp1)⟩)
    rw [e]
    exact List.mem_map.2 ⟨s, hs, rfl⟩
  have := mp_nodup_le _ _ hn hsub
  rw [List.length_map, List.length_map] at this
  exact this
theorem mp_empty {H : Type} (ids : List Int) : MpReads (.map [] : DataW H) ids (fun _ => 0) := ⟨fun _ _ => rfl, fun kl h => by cases h⟩
theorem mp_congr {H : Type} {D : DataW H} {ids : List Int} {v v' : Int → Int} (h : MpReads D ids v) (e : ∀ s ∈ ids, v s = v' s) : MpReads D ids v' := ⟨fun s hs => by rw [h.at_ s hs, e s hs], h.has_⟩
theorem mp_put {H : Type} {D : DataW H} {ids : List Int} {v : Int → Int} (hD : Maps.IsMap D) (h : MpReads D ids v) {t c : Int} (ht : t ∈ ids) : MpReads (D.put (.int .i64 t) (.lit (.int .i64 c))) ids (fun s => if s = t then c else v s) := by
  refine ⟨fun s hs => ?_, fun kl hk => ?_⟩
  · by_cases e : s = t
    · subst e
      rw [if_pos rfl]
      exact Maps.atKey_put_same hD (show WideAt.IsKeyLit (.int .i64 s) from trivial) _ _
    · rw [if_neg e, Maps.atKey_put_other (fun e2 => e (by injection e2)) _ _]
      exact h.at_ s hs
  · by_cases e : kl = .int .i64 t
    · exact ⟨t, ht, e⟩
    · rw [Maps.has_put_other e] at hk
      exact h.has_ kl hk
theorem mp_val {H : Type} {D : DataW H} {ids : List Int} {v : Int → Int} (h : MpReads D ids v) {x c : Int} (hk : Maps.has D (.int .i64 x) = true) (hat : ∀ zd, D.atKey (.int .i64 x) zd = .lit (.int .i64 c)) : x ∈ ids ∧ v x = c := by
  obtain ⟨s, hs, e⟩ := h.has_ _ hk
  injection e with _ e
  subst e
  have := h.at_ x hs
  rw [hat] at this
  injection this with this
  injection this with _ this
  exact ⟨hs, this.symm⟩
/-- The sum over those of a list for which something holds. -/
def mpTot (ids : List Int) (P : Int → Bool) (v : Int → Int) : Int := (ids.map fun s => if P s = true then v s else 0).sum
theorem mpTot_congr {ids : List Int} {P P' : Int → Bool} {v v' : Int → Int} (h : ∀ s ∈ ids, (if P s = true then v s else 0) = if P' s = true then v' s else 0) : mpTot ids P v = mpTot ids P' v' := by
  unfold mpTot
  rw [List.map_congr_left h]
theorem mpTot_step {P P' : Int → Bool} {v : Int → Int} {x : Int} (hP : P x = false) (ho : ∀ s, s ≠ x → P' s = P s) : ∀ ids : List Int, ids.Nodup → x ∈ ids → mpTot ids P' v = mpTot ids P v + if P' x = true then v x else 0
  | [], _, h => by cases h
  | s :: ids, hn, h => by
    obtain ⟨h1, h2⟩ := List.nodup_cons.1 hn
    unfold mpTot
    rw [List.map_cons, List.map_cons, List.sum_cons, List.sum_cons]
    by_cases e : s = x
    · subst e
      have h3 : (if P s = true then v s else 0) = 0 := by rw [hP]; rfl
      rw [h3]
      have e2 : (ids.map fun s => if P' s = true then v s else 0) = ids.map fun s => if P s = true then v s else 0 := List.map_congr_left fun y hy => by rw [ho y (fun e => h1 (by rw [← e]; exact hy))]
      rw [e2]
      omega
    · have hx : x ∈ ids := by
        rcases List.mem_cons.1 h with h | h
        · exact absurd h.symm e
        · exact h
      have := mpTot_step (v := v) hP ho ids h2 hx
      unfold mpTot at this
      rw [this, ho s e]
      omega
theorem mpTot_none {ids : List Int} {P : Int → Bool} {v : Int → Int} (h : ∀ s ∈ ids, P s = true → v s = 0) : mpTot ids P v = 0 := by
  have e : mpTot ids P v = mpTot ids (fun _ => false) v := mpTot_congr fun s hs => by
    cases hp : P s with
    | false => rfl
    | true => rw [if_pos rfl, h s hs hp]; rfl
  rw [e]
  unfold mpTot
  induction ids with
  | nil => rfl
  | cons s ids ih => rw [List.map_cons, List.sum_cons, ih (fun y hy => h y (List.mem_cons_of_mem _ hy)) (mpTot_congr fun s hs => by
    cases hp : P s with
    | false => rfl
    | true => rw [if_pos rfl, h s (List.mem_cons_of_mem _ hs) hp]; rfl)]; rfl
theorem mp_wrap_add (a b : Int) : wrap64 (wrap64 a + b) = wrap64 (a + b) := by unfold wrap64; omega
theorem mp_wrap_add' (a b : Int) : wrap64 (a + wrap64 b) = wrap64 (a + b) := by unfold wrap64; omega
/-- A key that is to come no more is one that is not of the map, or one that has come. -/
theorem mp_absent {H : Type} {D : DataW H} {ids : List Int} {v : Int → Int} (h : MpReads D ids v) {s : Int} (hs : s ∈ ids) (hk : Maps.has D (.int .i64 s) = false) : v s = 0 := by
  have := h.at_ s hs
  rw [Maps.atKey_of_not_has hk] at this
  injection this with this
  injection this with _ this
  exact this.symm
theorem mp_strike (left : Lit → Bool) (x s : Int) (h : s ≠ x) : ((fun z : Lit => left z && !z.sameKey (.int .i64 x)) (.int .i64 s)) = left (.int .i64 s) := by
  show (left (.int .i64 s) && !(Lit.int .i64 s).sameKey (.int .i64 x)) = _
  rw [Maps.sameKey_ne (fun e => h (by injection e))]
  simp
theorem mp_struck (left : Lit → Bool) (x : Int) : ((fun z : Lit => left z && !z.sameKey (.int .i64 x)) (.int .i64 x)) = false := by
  show (left (.int .i64 x) && !(Lit.int .i64 x).sameKey (.int .i64 x)) = _
  rw [WideAt.sameKey_self (show WideAt.IsKeyLit (.int .i64 x) from trivial)]
  simp
theorem mp_cell {ids : List Int} {W W1 : World} {b g c : Nat} {ok : Nat → Prop} (hr : Kd.R (Kd.int .i64) 3 W b ok (.slice (some ⟨g, 0, none⟩) ids.length c) ids) (hb : Below W.heap.size W W1) (i : Nat) (hi : i < ids.length) :
    W1.cell? ⟨g, i, none⟩ = some (.int .i64 (ids.getD i 0)) := by
  have h2 := (Kd.R_cell (0 : Int) (Kd.R_below hr hb) (i : Int) (by omega) (by omega)).1
  rw [Int.toNat_natCast] at h2
  rw [h2]
  congr 2
theorem mp_wf {n : Int} (h : -9223372036854775808 ≤ n ∧ n ≤ 9223372036854775807) : (Lit.int .i64 n).wf = true := WalkArith.wf_i64 h
theorem mp_grown {w w' : World} (hb : Below w.heap.size w w') : w.grownBy w' none := ⟨hb.os, hb.tape, hb.output, hb.size, fun k hk _ => hb.block k hk⟩
theorem mp_emptyO {X : World} {base n e sz : Nat} (hn : base ≤ n) (hx : X.heap[n]? = some (.cells #[] e (0, 0))) : X.ownsRow base e sz (.slice (some ⟨n, 0, none⟩) 0 0) 0 [] :=
  ⟨by simp, .inr ⟨n, 0, #[], rfl, hn, hx, by omega, by omega, by simp, by simp⟩⟩
theorem mp_emptyR {α : Type} (d : Kd α) {X : World} {base n e : Nat} {ok : Nat → Prop} (hn : base ≤ n) (hx : X.heap[n]? = some (.cells #[] e (0, 0))) (hok : ok n) : d.R e X base ok (.slice (some ⟨n, 0, none⟩) 0 0) ([] : List α) :=
  ⟨fun k hk => by
    have : n = k := by simpa [Value.ownBlock] using hk
    exact this ▸ hok, [], mp_emptyO hn hx, Reps.none _ _⟩
/-- A row's own block is no map. -/
theorem mp_apart {H : Type} {P : Program} {k : TypeId} {R : Value → Option (DataW H × List MemPlace)} {W : World} {b n base e : Nat} {D : DataW H} {ok : Nat → Prop} {v : Value} {xs : List Int} (h : Kd.R (Kd.int .i64) e W base ok v xs) (hm : W.ownsMap P k R b n D) : some b ≠ v.ownBlock := by
  intro hv
  obtain ⟨_, _, _, q, _, cells, hc⟩ := (Kd.R_bound h).1 b hv.symm
  obtain ⟨es, clock, hb, _⟩ := hm
  rw [hb] at hc
  cases hc
theorem mp_row_kept {H : Type} {P : Program} {k : TypeId} {R : Value → Option (DataW H × List MemPlace)} {W W1 : World} {b n base e : Nat} {D : DataW H} {ok : Nat → Prop} {v : Value} {xs : List Int} (h : Kd.R (Kd.int .i64) e W base ok v xs) (hm : W.ownsMap P k R b n D) (hg : W.grownBy W1 (some b)) : Kd.R (Kd.int .i64) e W1 base ok v xs :=
  Kd.R_grown2 h rfl hg (fun k hk => by cases hk; exact mp_apart h hm)
/-- An iterator's block is none of a row. -/
theorem mp_iter_kept {H : Type} {P : Program} {k : TypeId} {R : Value → Option (DataW H × List MemPlace)} {W W1 : World} {b r n base e cnt : Nat} {D : DataW H} {left : Lit → Bool} {ok : Nat → Prop} {v : Value} {xs : List Int} (h : Kd.R (Kd.int .i64) e W base ok v xs) (hm : W.ranges P k R b r n D left cnt) (hg : W.grownBy W1 (some r)) : Kd.R (Kd.int .i64) e W1 base ok v xs :=
  Kd.R_grown2 h rfl hg (fun k hk => by
    cases hk
    intro hv
    obtain ⟨_, _, _, q, _, cells, hc⟩ := (Kd.R_bound h).1 r hv.symm
    obtain ⟨es, clock, since, seen, c0, _, _, _, _, hr, _⟩ := hm
    rw [hr] at hc
    cases hc)
end Go.Proofs.Ytemkddgfneohhaa.F
end

section
namespace Go.Proofs.Ytemkddgfneohhaa.F
open Go.RowKit Go.Maps Go.Proofs.YtemkddgfneohhaaW.PrintWords Go.Proofs.YtemkddgfneohhaaW.PrintLast Go.Proofs.YtemkddgfneohhaaW.PrintMore
set_option linter.unusedVariables false
set_option linter.unusedSimpArgs false
/-- How many rows end in t, out of how many end in each. -/
def cntNew (B : Int → Int → Bool) (ids : List Int) (v : Int → Int) (t : Int) : Int := wrap64 (mpTot ids (fun s => B s t) v)
def cntAt (B : Int → Int → Bool) (ids : List Int) : Nat → Int → Int
  | 0 => fun s => if s = 0 then 1 else 0
  | k + 1 => cntNew B ids (cntAt B ids k)
def cntOk (ids : List Int) : Bool := decide (ids.Nodup) && (decide ((0 : Int) ∈ ids) && (decide (ids.length ≤ 1024) && ids.all fun s => decide (-9223372036854775808 ≤ s ∧ s ≤ 9223372036854775807)))
theorem cntOk_parts {ids : List Int} (h : cntOk ids = true) : ids.Nodup ∧ (0 : Int) ∈ ids ∧ ids.length ≤ 1024 ∧ ∀ s ∈ ids, -9223372036854775808 ≤ s ∧ s ≤ 9223372036854775807 := by
  unfold cntOk at h
  rw [Bool.and_eq_true, Bool.and_eq_true, Bool.and_eq_true, decide_eq_true_eq, decide_eq_true_eq, decide_eq_true_eq] at h
  exact ⟨h.1, h.2.1, h.2.2.1, fun s hs => of_decide_eq_true (List.all_eq_true.1 h.2.2.2 s hs)⟩
/-- The map in which the next rows are counted, while the old one is ranged over: the values at the elements ahead of i are drawn up, that at t as far as the range has come. -/
def cntMid (B : Int → Int → Bool) (ids : List Int) (v : Int → Int) (i : Nat) (s : Int) : Int := if s ∈ ids.take i then cntNew B ids v s else 0
def cntIn (B : Int → Int → Bool) (ids : List Int) (v : Int → Int) (i : Nat) (t : Int) (left : Lit → Bool) (s : Int) : Int := if s = t then wrap64 (mpTot ids (fun s => B s t && !left (.int .i64 s)) v) else cntMid B ids v i s
theorem cnt_notyet {ids : List Int} (hn : ids.Nodup) {i : Nat} (hi : i < ids.length) : ids.getD i 0 ∉ ids.take i := by
  rw [List.getD_eq_getElem?_getD, List.getElem?_eq_getElem hi]
  show ids[i] ∉ ids.take i
  intro h
  obtain ⟨j, hj, e⟩ := List.mem_take_iff_getElem.1 h
  have := (List.nodup_iff_pairwise_ne.1 hn)
  rw [List.pairwise_iff_getElem] at this
  exact this j i (by omega) hi (by omega) e
theorem cnt_start {B : Int → Int → Bool} {D Dr : DataW Unit} {ids : List Int} {v : Int → Int} {i : Nat} {t : Int} (hr : MpReads Dr ids v) (h : MpReads D ids (cntMid B ids v i)) (ht : t ∉ ids.take i) : MpReads D ids (cntIn B ids v i t (Maps.has Dr)) := by
  refine mp_congr h fun s hs => ?_
  unfold cntIn
  by_cases e : s = t
  · subst e
    rw [if_pos rfl, mpTot_none]
    · unfold cntMid; rw [if_neg ht]; unfold wrap64; decide
    · intro y hy hp
      simp only [Bool.and_eq_true, Bool.not_eq_true'] at hp
      exact mp_absent hr hy hp.2
  · rw [if_neg e]
theorem cnt_end {B : Int → Int → Bool} {D : DataW Unit} {ids : List Int} {v : Int → Int} {i : Nat} {left : Lit → Bool} (hn : ids.Nodup) (hi : i < ids.length) (hl : ∀ kl, left kl = false) (h : MpReads D ids (cntIn B ids v i (ids.getD i 0) left)) : MpReads D ids (cntMid B ids v (i + 1)) := by
  refine mp_congr h fun s hs => ?_
  have e0 : ids.take (i + 1) = ids.take i ++ [ids.getD i 0] := by
    rw [List.take_add_one, List.getElem?_eq_getElem hi, List.getD_eq_getElem?_getD, List.getElem?_eq_getElem hi]; rfl
  unfold cntIn cntMid
  rw [e0]
  by_cases e : s = ids.getD i 0
  · rw [if_pos e, if_pos (List.mem_append.2 (.inr (by rw [e]; exact List.mem_singleton.2 rfl))), e]
    unfold cntNew
    congr 1
    exact mpTot_congr fun y hy => by rw [hl]; simp
  · rw [if_neg e]
    by_cases e2 : s ∈ ids.take i
    · rw [if_pos e2, if_pos (List.mem_append.2 (.inl e2))]
    · rw [if_neg e2, if_neg (fun h => by
        rcases List.mem_append.1 h with h | h
        · exact e2 h
        · exact e (List.mem_singleton.1 h))]
/-- An entry has come that is no part of t. -/
theorem cnt_skip {B : Int → Int → Bool} {D : DataW Unit} {ids : List Int} {v : Int → Int} {i : Nat} {t x : Int} {left : Lit → Bool} (hn : ids.Nodup) (hx : x ∈ ids) (hlx : left (.int .i64 x) = true) (hb : B x t = false)
    (h : MpReads D ids (cntIn B ids v i t left)) : MpReads D ids (cntIn B ids v i t (fun z => left z && !z.sameKey (.int .i64 x))) := by
  refine mp_congr h fun s hs => ?_
  unfold cntIn
  by_cases e : s = t
  · rw [if_pos e, if_pos e]
    congr 1
    have := mpTot_step (v := v) (x := x) (P := fun s => B s t && !left (.int .i64 s)) (P' := fun s => B s t && !(fun z : Lit => left z && !z.sameKey (.int .i64 x)) (.int .i64 s)) (by rw [hlx]; simp) (fun y hy => by show (_ && !((fun z : Lit => left z && !z.sameKey (.int .i64 x)) (.int .i64 y))) = _; rw [mp_strike left x y hy]) ids hn hx
    rw [this, if_neg (by show ¬ ((_ && _) = true); rw [hb]; simp)]
    omega
  · rw [if_neg e, if_neg e]
/-- An entry has come that is part of t. -/
theorem cnt_add {B : Int → Int → Bool} {D : DataW Unit} {ids : List Int} {v : Int → Int} {i : Nat} {t x c c0 : Int} {left : Lit → Bool} (hn : ids.Nodup) (ht : t ∈ ids) (hx : x ∈ ids) (hc : v x = c) (hlx : left (.int .i64 x) = true) (hb : B x t = true)
    (hD : Maps.IsMap D) (h : MpReads D ids (cntIn B ids v i t left)) (h0 : D.atKey (.int .i64 t) (.lit (.int .i64 0)) = .lit (.int .i64 c0)) : MpReads (D.put (.int .i64 t) (.lit (.int .i64 (wrap64 (c0 + c))))) ids (cntIn B ids v i t (fun z => left z && !z.sameKey (.int .i64 x))) := by
  refine mp_congr (mp_put hD h ht) fun s hs => ?_
  have e0 : c0 = wrap64 (mpTot ids (fun s => B s t && !left (.int .i64 s)) v) := by
    have := h.at_ t ht
    rw [h0] at this
    injection this with this
    injection this with _ this
    rw [this]
    unfold cntIn
    rw [if_pos rfl]
  unfold cntIn
  by_cases e : s = t
  · rw [if_pos e, if_pos e, e0, mp_wrap_add]
    congr 1
    have := mpTot_step (v := v) (x := x) (P := fun s => B s t && !left (.int .i64 s)) (P' := fun s => B s t && !(fun z : Lit => left z && !z.sameKey (.int .i64 x)) (.int .i64 s)) (by rw [hlx]; simp) (fun y hy => by show (_ && !((fun z : Lit => left z && !z.sameKey (.int .i64 x)) (.int .i64 y))) = _; rw [mp_strike left x y hy]) ids hn hx
    rw [this, if_pos (by show (_ && _) = true; rw [hb, mp_struck]; rfl), hc]
  · rw [if_neg e, if_neg e, if_neg e]
/-- The sum at the end: another entry. -/
theorem cnt_sum {ids : List Int} {v : Int → Int} {x c : Int} {left : Lit → Bool} (hn : ids.Nodup) (hx : x ∈ ids) (hc : v x = c) (hlx : left (.int .i64 x) = true) :
    wrap64 (wrap64 (mpTot ids (fun s => !left (.int .i64 s)) v) + c) = wrap64 (mpTot ids (fun s => !(fun z : Lit => left z && !z.sameKey (.int .i64 x)) (.int .i64 s)) v) := by
  rw [mp_wrap_add]
  congr 1
  have := mpTot_step (v := v) (x := x) (P := fun s => !left (.int .i64 s)) (P' := fun s => !(fun z : Lit => left z && !z.sameKey (.int .i64 x)) (.int .i64 s)) (by rw [hlx]; rfl) (fun y hy => by show (!((fun z : Lit => left z && !z.sameKey (.int .i64 x)) (.int .i64 y))) = _; rw [mp_strike left x y hy]) ids hn hx
  rw [this, if_pos (by show (!_) = true; rw [mp_struck]; rfl), hc]
theorem cnt_first {B : Int → Int → Bool} (ids : List Int) (h : (0 : Int) ∈ ids) : MpReads ((DataW.map [] : DataW Unit).put (.int .i64 0) (.lit (.int .i64 1))) ids (cntAt B ids 0) := mp_congr (mp_put ⟨[], rfl⟩ (mp_empty ids) h) (fun _ _ => rfl)
theorem cnt_mid0 {B : Int → Int → Bool} (ids : List Int) (v : Int → Int) : MpReads (DataW.map [] : DataW Unit) ids (cntMid B ids v 0) := mp_congr (mp_empty ids) (fun s _ => by unfold cntMid; rw [if_neg (by simp)])
theorem cnt_done {B : Int → Int → Bool} {D : DataW Unit} {ids : List Int} {v : Int → Int} (h : MpReads D ids (cntMid B ids v ids.length)) : MpReads D ids (cntNew B ids v) := mp_congr h (fun s hs => by unfold cntMid; rw [List.take_length, if_pos hs])
end Go.Proofs.Ytemkddgfneohhaa.F
end

section
namespace Go.Proofs.Ytemkddgfneohhaa.Q
open Go.RowKit Go.Proofs.YtemkddgfneohhaaW.PrintWords Go.Proofs.Ytemkddgfneohhaa.F
set_option linter.unusedVariables false
theorem mpTot_ints {P' : Int → Bool} {v' : Int → Int} {P : Nat → Bool} {v : Nat → Nat} : ∀ ids : List Nat, (∀ s ∈ ids, P' (s : Int) = P s) → (∀ s ∈ ids, v' (s : Int) = (v s : Int)) → mpTot (ints ids) P' v' = ((sumL ((ids.filter P).map v) : Nat) : Int)
  | [], _, _ => rfl
  | s :: ids, h1, h2 => by
    have ih := mpTot_ints ids (fun s hs => h1 s (List.mem_cons_of_mem _ hs)) (fun s hs => h2 s (List.mem_cons_of_mem _ hs))
    unfold mpTot ints at ih ⊢
    rw [List.map_cons, List.map_cons, List.sum_cons, ih, List.filter_cons]
    have e1 := h1 s List.mem_cons_self
    have e2 := h2 s List.mem_cons_self
    show (if P' (s : Int) = true then v' (s : Int) else 0) + _ = _
    rw [e1, e2]
    cases P s with
    | true => rw [if_pos rfl, if_pos rfl, List.map_cons]; simp only [sumL]; omega
    | false => rw [if_neg (by simp), if_neg (by simp)]; omega
theorem cntAt_eq {p : List Int} (hp : p.length ≤ 10) {B' : Int → Int → Bool} {B : Nat → Nat → Bool} (hB : ∀ s ∈ idealsN p, ∀ t ∈ idealsN p, B' (s : Int) (t : Int) = B s t) (hsub : ∀ s t, B s t = true → subB s t = true) :
    ∀ k, k ≤ 14 → ∀ t ∈ idealsN p, cntAt B' (ints (idealsN p)) k (t : Int) = ((wvN B (idealsN p) k t : Nat) : Int)
  | 0, _, t, _ => by
    unfold cntAt wvN
    by_cases h : t = 0
    · subst h; rfl
    · rw [if_neg h, if_neg (by omega)]; rfl
  | k + 1, hk, t, ht => by
    unfold cntAt cntNew
    rw [mpTot_ints (P := fun s => B s t) (v := wvN B (idealsN p) k) (idealsN p) (fun s hs => hB s hs t ht) (fun s hs => cntAt_eq hp hB hsub k (by omega) s hs)]
    have := wvN_small hp (B := B) (k := k + 1) (t := t) hsub (by omega)
    have e : wvN B (idealsN p) (k + 1) t = sumL (((idealsN p).filter fun s => B s t).map (wvN B (idealsN p) k)) := by conv => lhs; unfold wvN
    rw [e] at this ⊢
    exact wid (by omega) (by omega)
theorem cntOk_ids {p : List Int} (hp : p.length ≤ 10) : cntOk (ints (idealsN p)) = true := by
  have h2 : 2 ^ p.length ≤ 1024 := Nat.le_trans (Nat.pow_le_pow_right (by decide) hp) (by decide)
  unfold cntOk
  rw [Bool.and_eq_true, Bool.and_eq_true, Bool.and_eq_true, decide_eq_true_eq, decide_eq_true_eq, decide_eq_true_eq, List.all_eq_true]
  refine ⟨?_, List.mem_map.2 ⟨0, zero_mem p, rfl⟩, ?_, fun x hx => ?_⟩
  · unfold ints
    rw [List.nodup_iff_pairwise_ne, List.pairwise_map]
    exact (List.nodup_iff_pairwise_ne.1 (idealsN_nodup p)).imp (fun h e => h (Int.ofNat.inj e))
  · rw [ints_len]; have := idealsN_len p; omega
  · obtain ⟨s, hs, rfl⟩ := List.mem_map.1 hx
    have := (mem_idealsN.1 hs).1
    refine decide_eq_true ?_
    show _ ≤ (s : Int) ∧ (s : Int) ≤ _
    omega
end Go.Proofs.Ytemkddgfneohhaa.Q
end

section
namespace Go.Proofs.Ytemkddgfneohhaa.F
open Go.RowKit Go.Proofs.YtemkddgfneohhaaW.PrintWords Go.Proofs.YtemkddgfneohhaaW.PrintLast Go.Proofs.YtemkddgfneohhaaW.PrintMore
set_option linter.unusedVariables false
set_option linter.unusedSimpArgs false
def impl_rectangle.f (k : Nat) (a0 a1 : Int) : Option (List Int) := made_rectangle.f (fun j i => lit_rectangle.f j i a1) k (wrap64 (a0 * a1))
theorem impl_rectangle.mono : ∀ a0 a1 k, LeO (impl_rectangle.f k a0 a1) (impl_rectangle.f (k + 1) a0 a1) := fun a0 a1 k => made_rectangle.mono _ _ k
set_option maxHeartbeats 8000000 in
set_option maxRecDepth 100000 in
theorem impl_rectangle.calls (k : Nat) (a0 : Int) (a1 : Int) (r : List Int) (w : World) (h : impl_rectangle.f k a0 a1 = some r) :
    Calls Try.prog 66 #[.int .i64 a0, .int .i64 a1] w fun e w' => ∃ v0_ : Value, e = .returned (.agg #[v0_]) ∧ Kd.R (Kd.int .i64) 3 w' w.heap.size (fun _ => True) v0_ r ∧ Below w.heap.size w w' := by
  unfold impl_rectangle.f at h
  have hmf : ∀ (fn : Fn) (first cap : Array Value) (w : World), (Instr.makeFunc fn first cap).run Try.prog w = .ok (.func fn first cap) w := fun _ _ _ _ => rfl
  have hu39 := Try.underlying30
  obtain ⟨W, hW⟩ : ∃ W, W = (w.alloc (.cells #[.int .i64 a1] 3 (0, 0))).alloc (.cells #[.slice none 0 0] 30 (0, 0)) := ⟨_, rfl⟩
  have hsz : W.heap.size = w.heap.size + 2 := by rw [hW]; simp
  have hcB : W.cell? ⟨w.heap.size, 0, none⟩ = some (.int .i64 a1) := by rw [hW, World.cell?_alloc_past _ _ _ (by simp), World.cell?_alloc_at _ _ _ _ rfl]; rfl
  have hP : W.heap[w.heap.size + 1]? = some (.cells #[.slice none 0 0] 30 (0, 0)) := by rw [hW]; simpa using heap_alloc_new (w.alloc (.cells #[.int .i64 a1] 3 (0, 0))) (.cells #[.slice none 0 0] 30 (0, 0))
  have hbW : Below w.heap.size w W := by rw [hW]; exact ((Below.refl _ _).alloc (Nat.le_refl _) _).alloc (by simp) _
  have HF : Aside0 (∀ (x0_ : Int) (x1_ : Int) (r_ : Bool) (W' : World), lit_rectangle.f x0_ x1_ a1 = some r_ → Below W.heap.size W W' → Calls Try.prog 84 #[.int .i64 x0_, .int .i64 x1_, .pointer (some ⟨w.heap.size, 0, none⟩)] W' fun e w' => e = .returned (.bool r_) ∧ Drawn0 W' w') :=
    ⟨fun x0_ x1_ r_ W' hF hb => lit_rectangle.calls w.heap.size x0_ x1_ a1 r_ W' ((hb.cell (p := ⟨w.heap.size, 0, none⟩) (by rw [hsz]; show w.heap.size < w.heap.size + 2; omega)).trans hcB) hF⟩
  have hcall := made_rectangle.calls (fun j i => lit_rectangle.f j i a1) w.heap.size k _ r W HF h
  have hcall' : Aside0 (Calls Try.prog 83 #[.int .i64 (wrap64 (a0 * a1)), .func (.func 84) #[] #[.pointer (some ⟨w.heap.size, 0, none⟩)]] ((w.alloc (.cells #[.int .i64 a1] 3 (0, 0))).alloc (.cells #[.slice none 0 0] 30 (0, 0))) fun e w' => ∃ v0_ : Value, e = .returned (.agg #[v0_]) ∧ (Kd.R (Kd.int .i64) 3 w' W.heap.size (fun _ => True) v0_ r ∧ Below W.heap.size W w')) := ⟨by rw [← hW]; exact hcall⟩
  have HW := Lib.hid hW
  clear hcall HF h hW
  have HP := Aside0.mk hP
  have HsW := Aside0.mk hsz
  have HbW := Aside0.mk hbW
  clear hcB hP hsz hbW
  go_enter Try.func66, Try.ntmps66
  go_wp2_with fail
  refine hcall'.out.mono ?_
  rintro e w1 ⟨v, rfl, ho, hb⟩
  have hlt : w.heap.size + 1 < W.heap.size := by have := HsW.out; omega
  have hP1 := Aside0.mk ((hb.block (w.heap.size + 1) hlt).trans HP.out)
  have hc1 : w1.cell? ⟨w.heap.size + 1, 0, none⟩ = some (.slice none 0 0) := (blk_cell hP1.out 0).trans rfl
  have hf1 := blk_frozen hP1.out 0
  obtain ⟨Ao, co, eo⟩ := Kd.R_slice ho
  subst eo
  have Ho := Aside0.mk ho
  have Hb := Aside0.mk hb
  have Hlt := Aside0.mk hlt
  clear ho hb hlt hmf
  go_wp2
  refine bodyPost_ret (results_cell_row rfl _ _ (w.heap.size + 1) 30 #[.slice Ao r.length co] (0, 0) _ rfl (blk_put (cs := #[.slice none 0 0]) hP1.out 0 _ rfl) Try.underlying30 rfl (by kernel_rfl)) rfl ⟨_, rfl, ?_, ?_⟩
  · refine Kd.R_lower (base := W.heap.size) ?_ (by have := HsW.out; omega)
    exact Kd.R_mono (Kd.R_far (p := ⟨w.heap.size + 1, 0, none⟩) (Kd.R_bound Ho.out) (fun k hk => by have := hk.2.1; have := Hlt.out; show k ≠ w.heap.size + 1; omega) _) (fun _ _ => trivial)
  · exact (HbW.out.trans (Hb.out.mono (by have := HsW.out; omega))).setCell (by show w.heap.size ≤ w.heap.size + 1; omega) _
end Go.Proofs.Ytemkddgfneohhaa.F
end

section
namespace Go.Proofs.Ytemkddgfneohhaa.F
open Go.RowKit Go.Proofs.YtemkddgfneohhaaW.PrintWords Go.Proofs.YtemkddgfneohhaaW.PrintLast Go.Proofs.YtemkddgfneohhaaW.PrintMore
attribute [local go_sem] max2_int min2_int max_two min_two max_three min_three max_four min_four
set_option linter.unusedVariables false
set_option linter.unusedSimpArgs false

/-! ### impl_Rectangle: function 40 -/
def impl_Rectangle.f (k : Nat) (a0 : Int) (a1 : Int) : Option (List Int × Bool) := (impl_areSides.f a0 a1 10).bind fun t124 => (if t124 = true then ((impl_rectangle.f k a0 a1).bind fun t125 => (some (t125, true))) else (some (([] : List Int), false)))
theorem impl_Rectangle.mono : ∀ a0 a1 k, LeO (impl_Rectangle.f k a0 a1) (impl_Rectangle.f (k + 1) a0 a1) := by
  intro a0 a1 k
  unfold impl_Rectangle.f
  repeat' first
      | (with_reducible exact impl_rectangle.mono _ _ _)
      | (with_reducible exact LeO.refl _)
      | (with_reducible exact LeO.none _)
      | (with_reducible refine LeO.ite ?_ ?_)
      | (with_reducible refine LeO.bind ?_ (fun _ => ?_))
      | exact impl_rectangle.mono _ _ _
      | exact LeO.none _
      | refine LeO.ite ?_ ?_
      | refine LeO.bind ?_ (fun _ => ?_)
set_option maxHeartbeats 8000000 in
set_option maxRecDepth 100000 in
theorem impl_Rectangle.calls (k : Nat) (a0 : Int) (a1 : Int) (r1 : List Int) (r2 : Bool) (w : World) (h : impl_Rectangle.f k a0 a1 = some (r1, r2)) :
    Calls Try.prog 40 #[.int .i64 a0, .int .i64 a1] w fun e w' => ∃ v0_ : Value, e = .returned (.tuple #[.agg #[v0_], .bool r2]) ∧ Kd.R (Kd.int .i64) 3 w' w.heap.size (fun _ => True) v0_ r1 ∧ Below w.heap.size w w' := by
  have hu30 := Try.underlying30
  have HB := Aside0.mk (Below.refl w.heap.size w)
  have H : ((impl_areSides.f a0 a1 10).bind fun t124 => (if t124 = true then ((impl_rectangle.f k a0 a1).bind fun t125 => (some (t125, true))) else (some (([] : List Int), false)))) = some (r1, r2) := h
  clear h
  replace H := Option.bind_eq_some_iff.mp H
  obtain ⟨t124, A30, H⟩ := H
  replace H : (if t124 = true then ((impl_rectangle.f k a0 a1).bind fun t125 => (some (t125, true))) else (some (([] : List Int), false))) = some (r1, r2) := H
  have A3 := Aside0.mk A30
  clear A30
  by_cases c4 : t124 = true
  · subst c4
    have H1 : ((impl_rectangle.f k a0 a1).bind fun t125 => (some (t125, true))) = some (r1, r2) := by rw [if_pos rfl] at H; exact H
    clear H
    have H := H1
    clear H1
    replace H := Option.bind_eq_some_iff.mp H
    obtain ⟨t125, A50, H⟩ := H
    replace H : (some (t125, true)) = some (r1, r2) := H
    have A5 := Aside0.mk A50
    clear A50
    simp only [Option.some.injEq, Prod.mk.injEq] at H
    obtain ⟨rfl, rfl⟩ := H
    go_enter Try.func40, Try.ntmps40
    go_wp2_with (first | ((with_reducible refine gate_dst (N := 4) rfl ?_); refine box_event ?hg (N := 4) ?hd (cs := #[.slice none 0 0]) (t := 30) ?hr ?_; (case hd => rfl); (case hg => rfl); (case hr => first | (go_simp; done) | (go_simp; rfl)); intro gb123 hg w6 hbox hb; have n0_ := Aside0.mk (below_step (by repeat (first | (with_reducible first | exact HB.out | apply below_alloc | apply pw_below_drewN | apply below_drew1) | exact HB.out)) hb); have n1_ := Aside0.mk (hbox); have n2_ := Aside0.mk ((by rw [hg]; exact (below_size (by repeat (first | (with_reducible first | exact HB.out | apply below_alloc | apply pw_below_drewN | apply below_drew1) | exact HB.out))) : w.heap.size ≤ gb123)); have n3_ := Aside0.mk ((by rw [hg]; exact (below_size (by repeat (first | (with_reducible first | exact HB.out | apply below_alloc | apply pw_below_drewN | apply below_drew1) | exact HB.out))) : w.heap.size ≤ gb123)); clear HB; have HB := n0_; have BK123 := n1_; have GW123 := n2_; have GE123 := n3_; clear n0_ n1_ n2_ n3_; clear hb hbox hg) | ((with_reducible refine gate_callee (f := 65) rfl ?_); refine goesL_ (some 8) rfl rfl Try.func65 (by kernel_rfl) rfl #[.int .i64 a0, .int .i64 a1, .int .i64 10] rfl (by (try simp only [List.map_toArray, List.map_cons, List.map_nil]); first | done | rfl | (simp only [List.length_drop, List.length_take]; rfl)) ?_; (with_reducible refine (impl_areSides.calls a0 a1 10 true _ A3.out).mono ?_); rintro e w' ⟨rfl, ⟨nd, rfl⟩⟩; refine ⟨_, rfl, ?_⟩; (try (rw [drewN_self w6]; generalize hq_ : World.drewN w6 _ = w6; have n0_ : Aside0 (w6.heap[gb123]? = some (.cells #[.slice none 0 0] 30 (0, 0))) := ⟨by rw [← hq_]; exact (by (with_reducible repeat (first | refine blk_drewN ?_ _ | refine blk_drew ?_ | refine blk_alloc ?_ _)); exact BK123.out)⟩; have n1_ : Aside0 (Below w.heap.size w w6) := ⟨by rw [← hq_]; exact (by repeat (first | (with_reducible first | exact HB.out | apply below_alloc | apply pw_below_drewN | apply below_drew1 | refine below_set ?_ GE123.out) | exact HB.out))⟩; clear BK123 HB hq_; have BK123 := n0_; have HB := n1_; clear n0_ n1_))) | ((with_reducible refine gate_callee (f := 66) rfl ?_); refine goesL_ (some 13) rfl rfl Try.func66 (by kernel_rfl) rfl #[.int .i64 a0, .int .i64 a1] rfl (by (try simp only [List.map_toArray, List.map_cons, List.map_nil]); first | done | rfl | (simp only [List.length_drop, List.length_take]; rfl)) ?_; (with_reducible refine (impl_rectangle.calls k a0 a1 t125 _ A5.out).mono ?_); rintro e w7 ⟨v126, rfl, ho0, hb⟩; refine ⟨_, rfl, ?_⟩; have n0_ := Aside0.mk (Kd.R_lower ho0 (below_size (by repeat (first | (with_reducible first | exact HB.out | apply below_alloc | apply pw_below_drewN | apply below_drew1 | refine below_set ?_ GE123.out) | exact HB.out)))); have n1_ := Aside0.mk (blk_below (g := gb123) (o := .cells #[.slice none 0 0] 30 (0, 0)) (by (with_reducible repeat (first | refine blk_drewN ?_ _ | refine blk_drew ?_ | refine blk_alloc ?_ _)); exact BK123.out) hb); have n2_ := Aside0.mk (below_step (by repeat (first | (with_reducible first | exact HB.out | apply below_alloc | apply pw_below_drewN | apply below_drew1 | refine below_set ?_ GE123.out) | exact HB.out)) hb); clear BK123; clear HB; have HO127 := n0_; have BK123 := n1_; have HB := n2_; clear n0_ n1_ n2_; (try clear hb); (try clear hb2); (try clear hk); (try clear hi); (try clear ho0); obtain ⟨Ao8, co8, eo8⟩ := Kd.R_slice HO127.out; subst eo8; have hcz9_0 : w7.cell? ⟨gb123, 0, none⟩ = some (.slice none 0 0) := (blk_cell BK123.out 0).trans rfl; have hfz9_0 := blk_frozen BK123.out 0))
    refine bodyPost_ret (results_ct rfl _ _ gb123 30 #[.slice Ao8 t125.length co8] (0, 0) _ rfl (by (with_reducible repeat (first | refine blk_drewN ?_ _ | refine blk_drew ?_ | refine blk_alloc ?_ _)); refine blk_put (cs := #[.slice none 0 0]) ?_ 0 _ rfl; (with_reducible repeat (first | refine blk_drewN ?_ _ | refine blk_drew ?_ | refine blk_alloc ?_ _)); exact BK123.out) Try.underlying30 rfl (by kernel_rfl)) rfl ?_
    exact ⟨_, by first | rfl | (simp [errW_none, errW_some] <;> rfl) | (simp [*, errW_none, errW_some] <;> rfl), by (with_reducible repeat (first | apply Kd.R_alloc | apply Kd.R_drewN | apply Kd.R_drew)); exact Kd.R_mono (Kd.R_far (p := ⟨gb123, 0, none⟩) (Kd.R_types HO127.out BK123.out (by decide)) (fun _ hk => hk.2) (.slice Ao8 t125.length co8)) (fun _ hk => trivial), by repeat (first | (with_reducible first | exact HB.out | apply below_alloc | apply pw_below_drewN | apply below_drew1 | refine below_set ?_ GE123.out) | exact HB.out)⟩
  · replace c4 := Bool.eq_false_iff.mpr c4
    subst c4
    have H1 : (some (([] : List Int), false)) = some (r1, r2) := by rw [if_neg (show ¬ (false = true) by decide)] at H; exact H
    clear H
    have H := H1
    clear H1
    simp only [Option.some.injEq, Prod.mk.injEq] at H
    obtain ⟨rfl, rfl⟩ := H
    go_enter Try.func40, Try.ntmps40
    go_wp2_with (first | ((with_reducible refine gate_dst (N := 4) rfl ?_); refine box_event ?hg (N := 4) ?hd (cs := #[.slice none 0 0]) (t := 30) ?hr ?_; (case hd => rfl); (case hg => rfl); (case hr => first | (go_simp; done) | (go_simp; rfl)); intro gb123 hg w10 hbox hb; have n0_ := Aside0.mk (below_step (by repeat (first | (with_reducible first | exact HB.out | apply below_alloc | apply pw_below_drewN | apply below_drew1) | exact HB.out)) hb); have n1_ := Aside0.mk (hbox); have n2_ := Aside0.mk ((by rw [hg]; exact (below_size (by repeat (first | (with_reducible first | exact HB.out | apply below_alloc | apply pw_below_drewN | apply below_drew1) | exact HB.out))) : w.heap.size ≤ gb123)); have n3_ := Aside0.mk ((by rw [hg]; exact (below_size (by repeat (first | (with_reducible first | exact HB.out | apply below_alloc | apply pw_below_drewN | apply below_drew1) | exact HB.out))) : w.heap.size ≤ gb123)); clear HB; have HB := n0_; have BK123 := n1_; have GW123 := n2_; have GE123 := n3_; clear n0_ n1_ n2_ n3_; clear hb hbox hg) | ((with_reducible refine gate_callee (f := 65) rfl ?_); refine goesL_ (some 8) rfl rfl Try.func65 (by kernel_rfl) rfl #[.int .i64 a0, .int .i64 a1, .int .i64 10] rfl (by (try simp only [List.map_toArray, List.map_cons, List.map_nil]); first | done | rfl | (simp only [List.length_drop, List.length_take]; rfl)) ?_; (with_reducible refine (impl_areSides.calls a0 a1 10 false _ A3.out).mono ?_); rintro e w' ⟨rfl, ⟨nd, rfl⟩⟩; refine ⟨_, rfl, ?_⟩; (try (rw [drewN_self w10]; generalize hq_ : World.drewN w10 _ = w10; have n0_ : Aside0 (w10.heap[gb123]? = some (.cells #[.slice none 0 0] 30 (0, 0))) := ⟨by rw [← hq_]; exact (by (with_reducible repeat (first | refine blk_drewN ?_ _ | refine blk_drew ?_ | refine blk_alloc ?_ _)); exact BK123.out)⟩; have n1_ : Aside0 (Below w.heap.size w w10) := ⟨by rw [← hq_]; exact (by repeat (first | (with_reducible first | exact HB.out | apply below_alloc | apply pw_below_drewN | apply below_drew1 | refine below_set ?_ GE123.out) | exact HB.out))⟩; clear BK123 HB hq_; have BK123 := n0_; have HB := n1_; clear n0_ n1_)); have hcz11_0 : w10.cell? ⟨gb123, 0, none⟩ = some (.slice none 0 0) := (blk_cell BK123.out 0).trans rfl; have hfz11_0 := blk_frozen BK123.out 0))
    refine bodyPost_ret (results_ct rfl _ _ gb123 30 #[.slice none 0 0] (0, 0) _ rfl (by (with_reducible repeat (first | refine blk_drewN ?_ _ | refine blk_drew ?_ | refine blk_alloc ?_ _)); refine blk_put (cs := #[.slice none 0 0]) ?_ 0 _ rfl; (with_reducible repeat (first | refine blk_drewN ?_ _ | refine blk_drew ?_ | refine blk_alloc ?_ _)); exact BK123.out) Try.underlying30 rfl (by kernel_rfl)) rfl ?_
    exact ⟨_, by first | rfl | (simp [errW_none, errW_some] <;> rfl) | (simp [*, errW_none, errW_some] <;> rfl), by first | exact Kd.R_nil _ _ _ _ _ | exact Kd.N_nil _ _ _ _ _ | exact Kd.V_nil _ _ _ _ _ | exact Kd.Q_nil _ _ _ _ _ | exact Kd.S_nil _ _ _ _ _, by repeat (first | (with_reducible first | exact HB.out | apply below_alloc | apply pw_below_drewN | apply below_drew1 | refine below_set ?_ GE123.out) | exact HB.out)⟩

end Go.Proofs.Ytemkddgfneohhaa.F
end

section
namespace Go.Proofs.Ytemkddgfneohhaa.Q
open Go.RowKit Go.Proofs.YtemkddgfneohhaaW.PrintWords Go.Proofs.Ytemkddgfneohhaa.F
set_option linter.unusedVariables false
def sidesOk (a b : Int) : Prop := (1 ≤ a ∧ a ≤ 10) ∧ (1 ≤ b ∧ b ≤ 10) ∧ a * b ≤ 10
instance (a b : Int) : Decidable (sidesOk a b) := by unfold sidesOk; exact inferInstance
theorem areSides_iff (a b : Int) : impl_areSides.f a b 10 = some (decide (sidesOk a b)) := by
  have e : decide (sidesOk a b) = decide ((1 ≤ a ∧ a ≤ 10) ∧ (1 ≤ b ∧ b ≤ 10) ∧ a * b ≤ 10) := by rw [decide_eq_decide]; exact Iff.rfl
  rw [e]
  unfold impl_areSides.f
  simp only [within_eq, Option.bind_some]
  by_cases ha : 1 ≤ a ∧ a ≤ 10
  · by_cases hb : 1 ≤ b ∧ b ≤ 10
    · have h1 : 0 ≤ a * b := Int.mul_nonneg (by omega) (by omega)
      have h2 : a * b ≤ 10 * 10 := Int.mul_le_mul ha.2 hb.2 (by omega) (by omega)
      rw [wid (by omega) (by omega), range_true ha, range_true hb]
      simp [ha, hb]
    · rw [range_true ha, range_false hb]
      rw [if_pos rfl, if_neg (by simp), decide_eq_false (by intro h; exact hb h.2.1)]
  · rw [range_false ha, if_neg (by simp), decide_eq_false (by intro h; exact ha h.1)]
def rectI : Option (List Int) → Nat → Bool
  | some p, n => isPo p && decide (p.length = n)
  | none, _ => false
def okRectI (a b : Nat) : Bool := rectI (impl_rectangle.f 200 (a : Int) (b : Int)) (a * b)
theorem allRectI : (List.range 11).all (fun a => (List.range 11).all fun b => a == 0 || b == 0 || decide (10 < a * b) || okRectI a b) = true := by decide +kernel
theorem sides_all {f : Nat → Nat → Bool} (hf : (List.range 11).all (fun a => (List.range 11).all fun b => a == 0 || b == 0 || decide (10 < a * b) || f a b) = true) {a b : Int} (h : sidesOk a b) : ∃ n m : Nat, a = (n : Int) ∧ b = (m : Int) ∧ 1 ≤ n ∧ 1 ≤ m ∧ n ≤ 10 ∧ m ≤ 10 ∧ n * m ≤ 10 ∧ f n m = true := by
  have h0 := h
  unfold sidesOk at h0
  obtain ⟨n, rfl⟩ := Int.eq_ofNat_of_zero_le (show 0 ≤ a by omega)
  obtain ⟨m, rfl⟩ := Int.eq_ofNat_of_zero_le (show 0 ≤ b by omega)
  have hab : n * m ≤ 10 := by have := h0.2.2; exact Int.ofNat_le.1 (by rw [Int.natCast_mul]; exact this)
  have hk := List.all_eq_true.1 (List.all_eq_true.1 hf n (List.mem_range.2 (by omega))) m (List.mem_range.2 (by omega))
  rw [Bool.or_eq_true, Bool.or_eq_true, Bool.or_eq_true, beq_iff_eq, beq_iff_eq, decide_eq_true_eq] at hk
  rcases hk with ((hk | hk) | hk) | hk
  · omega
  · omega
  · omega
  · exact ⟨n, m, rfl, rfl, by omega, by omega, by omega, by omega, hab, hk⟩
theorem rect_impl {a b : Int} (h : sidesOk a b) : ∃ (n m : Nat) (p : List Int), a = (n : Int) ∧ b = (m : Int) ∧ 1 ≤ n ∧ 1 ≤ m ∧ n ≤ 10 ∧ m ≤ 10 ∧ n * m ≤ 10 ∧ impl_rectangle.f 200 (n : Int) (m : Int) = some p ∧ PO p ∧ p.length = n * m := by
  obtain ⟨n, m, rfl, rfl, h1, h2, h3, h4, h5, hk⟩ := sides_all allRectI h
  unfold okRectI at hk
  cases hr : impl_rectangle.f 200 (n : Int) (m : Int) with
  | none => rw [hr] at hk; simp [rectI] at hk
  | some p =>
    rw [hr] at hk
    simp only [rectI, Bool.and_eq_true, decide_eq_true_eq, isPo_iff] at hk
    exact ⟨n, m, p, rfl, rfl, h1, h2, h3, h4, h5, hr, hk.1, hk.2⟩
end Go.Proofs.Ytemkddgfneohhaa.Q
end

section
namespace Go.Proofs.Ytemkddgfneohhaa.Q
open Go.RowKit Go.Proofs.YtemkddgfneohhaaW.PrintWords Go.Proofs.Ytemkddgfneohhaa.F
set_option linter.unusedVariables false
theorem Rectangle_yes {a b : Int} {p : List Int} (h : sidesOk a b) (hp : Ev (fun k => impl_rectangle.f k a b) p) : Ev (fun k => impl_Rectangle.f k a b) (p, true) := by
  unfold impl_Rectangle.f
  rw [areSides_iff, decide_eq_true h]
  exact Ev.call rfl (Ev.yes rfl (Ev.bind hp (Ev.ret rfl)))
theorem Rectangle_no {a b : Int} (h : ¬ sidesOk a b) : Ev (fun k => impl_Rectangle.f k a b) ([], false) := by
  unfold impl_Rectangle.f
  rw [areSides_iff, decide_eq_false h]
  exact Ev.call rfl (Ev.no (by simp) (Ev.now _))
end Go.Proofs.Ytemkddgfneohhaa.Q
end

section
namespace Go.Proofs.Ytemkddgfneohhaa.F
open Go.RowKit Go.Maps Go.Proofs.YtemkddgfneohhaaW.PrintWords Go.Proofs.YtemkddgfneohhaaW.PrintLast Go.Proofs.YtemkddgfneohhaaW.PrintMore
set_option linter.unusedVariables false
set_option linter.unusedSimpArgs false
/-- The row of M numbers that a function tells. -/
def rwL (M : Nat) (f : Nat → Int) : List Int := (List.range M).map f
theorem rwL_len (M : Nat) (f : Nat → Int) : (rwL M f).length = M := by simp [rwL]
theorem rwL_get {M : Nat} {f : Nat → Int} {i : Nat} (h : i < M) : rd (rwL M f) (i : Int) = f i := by
  unfold rd rwL
  rw [Int.toNat_natCast, List.getD_eq_getElem?_getD, List.getElem?_map, List.getElem?_range h]; rfl
theorem rwL_congr {M : Nat} {f g : Nat → Int} (h : ∀ i, i < M → f i = g i) : rwL M f = rwL M g := List.map_congr_left fun i hi => h i (List.mem_range.1 hi)
theorem rwL_set {M : Nat} {f : Nat → Int} {i : Nat} {x : Int} (h : i < M) : (rwL M f).set i x = rwL M fun j => if j = i then x else f j := by
  apply List.ext_getElem?
  intro j
  unfold rwL
  rw [List.getElem?_set, List.getElem?_map, List.getElem?_map, List.length_map, List.length_range]
  by_cases hj : j < M
  · rw [List.getElem?_range hj]
    by_cases e : i = j
    · subst e
      rw [if_pos rfl, if_pos h]
      simp
    · rw [if_neg e]
      simp only [Option.map_some]
      rw [if_neg (fun h => e h.symm)]
  · rw [List.getElem?_eq_none (l := List.range M) (by simpa using hj)]
    by_cases e : i = j
    · subst e; exact absurd h hj
    · rw [if_neg e]; rfl
theorem rwL_zero (M : Nat) : List.replicate M (0 : Int) = rwL M fun _ => 0 := by
  unfold rwL
  apply List.ext_getElem
  · simp
  · intro i h1 h2; simp
abbrev RwRow (w : World) (base M : Nat) (g c : Nat) (f : Nat → Int) : Prop := Kd.R (Kd.int .i64) 3 w base (fun _ => True) (.slice (some ⟨g, 0, none⟩) M c) (rwL M f)
theorem rw_cell {W : World} {base M g c : Nat} {f : Nat → Int} (h : RwRow W base M g c f) {i : Nat} (hi : i < M) : W.cell? ⟨g, i, none⟩ = some (.int .i64 (f i)) ∧ W.frozen? ⟨g, i, none⟩ = false := by
  have h2 := Kd.R_celln (0 : Int) h (i : Int) (by omega) (by omega)
  rw [Int.toNat_natCast] at h2
  refine ⟨h2.1.trans ?_, h2.2⟩
  have := rwL_get (f := f) hi
  unfold rd at this
  rw [← this]
  rfl
theorem rw_put {W : World} {base M g c : Nat} {f : Nat → Int} (h : RwRow W base M g c f) {i : Nat} (hi : i < M) (x : Int) : RwRow (W.setCell ⟨g, i, none⟩ (.int .i64 x)) base M g c (fun j => if j = i then x else f j) ∧ W.grownBy (W.setCell ⟨g, i, none⟩ (.int .i64 x)) (some g) := by
  have h0 : Kd.R (Kd.int .i64) 3 W base (fun _ => True) (.slice (some ⟨g, 0, none⟩) (rwL M f).length c) (rwL M f) := by rw [rwL_len]; exact h
  obtain ⟨h1, h2⟩ := Kd.R_put h0 (i : Int) x
  rw [Int.toNat_natCast] at h1 h2
  rw [rwL_set hi, rwL_len] at h1
  exact ⟨h1, h2⟩
theorem rw_block {W : World} {base M g c : Nat} {f : Nat → Int} (h : RwRow W base M g c f) : g < W.heap.size ∧ base ≤ g ∧ ∃ cells, W.heap[g]? = some (.cells cells 3 (0, 0)) := by
  obtain ⟨_, h1, h2, q, hq, cells, hc⟩ := (Kd.R_bound h).1 g rfl
  obtain ⟨cells', hc'⟩ := Kd.R_typed h g rfl
  exact ⟨h2, h1, cells', hc'⟩
theorem rw_move {W W1 : World} {base M g c : Nat} {f : Nat → Int} (h : RwRow W base M g c f) (hm : W1.heap[g]? = W.heap[g]?) : RwRow W1 base M g c f :=
  Kd.R_mono (Kd.R_move (Kd.R_tight rfl h) (fun k hk => by
    have : k = g := by injection hk
    rw [this]; exact hm)) (fun _ _ => trivial)
/-- How a row reads: by its block and its room. -/
def rwD (g c : Nat) : DataW Unit := .agg [.lit (.int .i64 (g : Int)), .lit (.int .i64 (c : Int))]
theorem rwD_inj {g c g' c' : Nat} (h : rwD g c = rwD g' c') : g = g' ∧ c = c' := by
  unfold rwD at h
  injection h with h
  injection h with h1 h2
  injection h1 with h1
  injection h1 with _ h1
  injection h2 with h2 _
  injection h2 with h2
  injection h2 with _ h2
  omega
def rwR (M : Nat) : Value → Option (DataW Unit × List MemPlace)
  | .slice (some ⟨g, 0, none⟩) n c => if n = M then some (rwD g c, []) else none
  | _ => none
theorem rwR_mk (M g c : Nat) : rwR M (.slice (some ⟨g, 0, none⟩) M c) = some (rwD g c, []) := by
  show (if M = M then _ else _) = _
  rw [if_pos rfl]
theorem rwR_inv {M : Nat} {v : Value} {y : DataW Unit × List MemPlace} (h : rwR M v = some y) : ∃ x : Nat × Nat, v = .slice (some ⟨x.1, 0, none⟩) M x.2 ∧ y.1 = rwD x.1 x.2 := by
  unfold rwR at h
  split at h
  · rename_i g n c
    split at h
    · rename_i e
      subst e
      injection h with h
      exact ⟨(g, c), rfl, by rw [← h]⟩
    · cases h
  · cases h
/-- What a map of rows reads as at the numbers of a list. -/
structure RwReads (w : World) (base top M : Nat) (D : DataW Unit) (ids : List Int) (v : Int → Nat → Int) : Prop where
  at_ : ∀ s ∈ ids, (∃ g c, Maps.has D (.int .i64 s) = true ∧ (∀ z, D.atKey (.int .i64 s) z = rwD g c) ∧ g < top ∧ RwRow w base M g c (v s)) ∨ (Maps.has D (.int .i64 s) = false ∧ ∀ j, v s j = 0)
  has_ : ∀ kl, Maps.has D kl = true → ∃ s ∈ ids, kl = .int .i64 s
theorem rw_keep {w w' : World} {base top M : Nat} {D : DataW Unit} {ids : List Int} {v : Int → Nat → Int} (h : RwReads w base top M D ids v) (hk : ∀ k, k < top → (∃ cells, w.heap[k]? = some (.cells cells 3 (0, 0))) → w'.heap[k]? = w.heap[k]?) : RwReads w' base top M D ids v :=
  ⟨fun s hs => by
    rcases h.at_ s hs with ⟨g, c, h1, h2, h3, h4⟩ | h1
    · exact .inl ⟨g, c, h1, h2, h3, rw_move h4 (hk g h3 (rw_block h4).2.2)⟩
    · exact .inr h1, h.has_⟩
theorem rw_up {w : World} {base top top' M : Nat} {D : DataW Unit} {ids : List Int} {v : Int → Nat → Int} (h : RwReads w base top M D ids v) (ht : top ≤ top') : RwReads w base top' M D ids v :=
  ⟨fun s hs => by
    rcases h.at_ s hs with ⟨g, c, h1, h2, h3, h4⟩ | h1
    · exact .inl ⟨g, c, h1, h2, Nat.lt_of_lt_of_le h3 ht, h4⟩
    · exact .inr h1, h.has_⟩
/-- A block that is no row is written, or one from top on. -/
theorem rw_grown {w w' : World} {base top M : Nat} {D : DataW Unit} {ids : List Int} {v : Int → Nat → Int} {row : Option Nat} (h : RwReads w base top M D ids v) (htop : top ≤ w.heap.size) (hg : w.grownBy w' row) (hr : ∀ k, row = some k → top ≤ k ∨ ∀ cells, w.heap[k]? ≠ some (.cells cells 3 (0, 0))) : RwReads w' base top M D ids v :=
  rw_keep h fun k hk hc => hg.block k (by omega) (fun e => by
    rcases hr k e.symm with h1 | h1
    · omega
    · obtain ⟨cells, hc⟩ := hc
      exact h1 cells hc)
theorem rw_below {w w' : World} {base top M : Nat} {D : DataW Unit} {ids : List Int} {v : Int → Nat → Int} (h : RwReads w base top M D ids v) (htop : top ≤ w.heap.size) (hb : Below w.heap.size w w') : RwReads w' base top M D ids v :=
  rw_keep h fun k hk _ => hb.block k (by omega)
theorem rw_nomap {H : Type} {P : Program} {k : TypeId} {R : Value → Option (DataW H × List MemPlace)} {W : World} {b n : Nat} {D : DataW H} (hm : W.ownsMap P k R b n D) : ∀ cells, W.heap[b]? ≠ some (.cells cells 3 (0, 0)) := fun cells hc => by
  obtain ⟨es, clock, hb, _⟩ := hm
  rw [hb] at hc
  cases hc
theorem rw_noiter {H : Type} {P : Program} {k : TypeId} {R : Value → Option (DataW H × List MemPlace)} {W : World} {b r n cnt : Nat} {D : DataW H} {left : Lit → Bool} (hm : W.ranges P k R b r n D left cnt) : ∀ cells, W.heap[r]? ≠ some (.cells cells 3 (0, 0)) := fun cells hc => by
  obtain ⟨es, clock, since, seen, c0, _, _, _, _, hr, _⟩ := hm
  rw [hr] at hc
  cases hc
theorem mp_normH {H : Type} {P : Program} {k : TypeId} {R : Value → Option (DataW H × List MemPlace)} {w : World} {b n : Nat} {D : DataW H} {ids : List Int} (K : Keyed P k) (h : w.ownsMap P k R b n D) (hh : ∀ kl, Maps.has D kl = true → ∃ s ∈ ids, kl = .int .i64 s) : w.ownsMap P k R b ids.length D := by
  refine mp_tight h ?_
  obtain ⟨es, rfl, hp, hk⟩ := h.entries K
  rw [Maps.size_eq]
  haveI : DecidableEq Lit := fun a b => Classical.propDecidable (a = b)
  have hn : (es.map Prod.fst).Nodup := by
    rw [List.nodup_iff_pairwise_ne, List.pairwise_map]
    exact hp
  have hsub : ∀ x ∈ es.map Prod.fst, x ∈ ids.map (Lit.int .i64) := fun x hx => by
    obtain ⟨p, hp1, rfl⟩ := List.mem_map.1 hx
    obtain ⟨s, hs, e⟩ := hh p.1 (List.any_eq_true.2 ⟨p, hp1, WideAt.sameKey_self (hk p hp1)⟩)
    rw [e]
    exact List.mem_map.2 ⟨s, hs, rfl⟩
  have := mp_nodup_le _ _ hn hsub
  rw [List.length_map, List.length_map] at this
  exact this
theorem rw_empty (w : World) (base top M : Nat) (ids : List Int) : RwReads w base top M (.map []) ids (fun _ _ => 0) := ⟨fun s _ => .inr ⟨rfl, fun _ => rfl⟩, fun kl h => by cases h⟩
theorem rw_congr {w : World} {base top M : Nat} {D : DataW Unit} {ids : List Int} {v v' : Int → Nat → Int} (h : RwReads w base top M D ids v) (e : ∀ s ∈ ids, ∀ j, (j < M ∨ Maps.has D (.int .i64 s) = false) → v s j = v' s j) : RwReads w base top M D ids v' :=
  ⟨fun s hs => by
    rcases h.at_ s hs with ⟨g, c, h1, h2, h3, h4⟩ | ⟨h1, h2⟩
    · refine .inl ⟨g, c, h1, h2, h3, ?_⟩
      have e2 : rwL M (v s) = rwL M (v' s) := rwL_congr fun j hj => e s hs j (.inl hj)
      unfold RwRow at h4 ⊢
      rwa [e2] at h4
    · exact .inr ⟨h1, fun j => by rw [← e s hs j (.inr h1)]; exact h2 j⟩, h.has_⟩
/-- A row is laid into the map. -/
theorem rw_store {w : World} {base top M : Nat} {D : DataW Unit} {ids : List Int} {v : Int → Nat → Int} (hD : Maps.IsMap D) (h : RwReads w base top M D ids v) {t : Int} (ht : t ∈ ids) {g c : Nat} (hg : g < top) {f : Nat → Int} (hr : RwRow w base M g c f) : RwReads w base top M (D.put (.int .i64 t) (rwD g c)) ids (fun s => if s = t then f else v s) := by
  refine ⟨fun s hs => ?_, fun kl hk => ?_⟩
  · by_cases e : s = t
    · subst e
      refine .inl ⟨g, c, Maps.has_put_same hD (show WideAt.IsKeyLit (.int .i64 s) from trivial) _, fun z => Maps.atKey_put_same hD (show WideAt.IsKeyLit (.int .i64 s) from trivial) _ _, hg, ?_⟩
      rw [if_pos rfl]
      exact hr
    · have hne : Lit.int .i64 s ≠ .int .i64 t := fun e2 => e (by injection e2)
      rw [if_neg e, Maps.has_put_other hne]
      rcases h.at_ s hs with ⟨g', c', h1, h2, h3, h4⟩ | h1
      · exact .inl ⟨g', c', h1, fun z => by rw [Maps.atKey_put_other hne]; exact h2 z, h3, h4⟩
      · exact .inr h1
  · by_cases e : kl = .int .i64 t
    · exact ⟨t, ht, e⟩
    · rw [Maps.has_put_other e] at hk
      exact h.has_ kl hk
/-- The row of an entry that comes. -/
theorem rw_val {w : World} {base top M : Nat} {D : DataW Unit} {ids : List Int} {v : Int → Nat → Int} (h : RwReads w base top M D ids v) {x : Int} {g c : Nat} (hk : Maps.has D (.int .i64 x) = true) (hat : ∀ z, D.atKey (.int .i64 x) z = rwD g c) : x ∈ ids ∧ g < top ∧ RwRow w base M g c (v x) := by
  obtain ⟨s, hs, e⟩ := h.has_ _ hk
  injection e with _ e
  subst e
  rcases h.at_ x hs with ⟨g', c', h1, h2, h3, h4⟩ | ⟨h1, _⟩
  · obtain ⟨rfl, rfl⟩ := rwD_inj ((hat .nil).symm.trans (h2 .nil))
    exact ⟨hs, h3, h4⟩
  · rw [hk] at h1; cases h1
theorem rw_absent {w : World} {base top M : Nat} {D : DataW Unit} {ids : List Int} {v : Int → Nat → Int} (h : RwReads w base top M D ids v) {s : Int} (hs : s ∈ ids) (hk : Maps.has D (.int .i64 s) = false) : ∀ j, v s j = 0 := by
  rcases h.at_ s hs with ⟨g, c, h1, _⟩ | ⟨_, h2⟩
  · rw [hk] at h1; cases h1
  · exact h2
theorem rw_apart {H : Type} {P : Program} {k : TypeId} {R : Value → Option (DataW H × List MemPlace)} {W : World} {b n base M g c : Nat} {D : DataW H} {f : Nat → Int} (hm : W.ownsMap P k R b n D) (h : RwRow W base M g c f) : some b ≠ some g := fun e => by
  obtain ⟨_, _, cells, hc⟩ := rw_block h
  exact rw_nomap hm cells (by rw [Option.some.inj e]; exact hc)
theorem rw_apart_iter {H : Type} {P : Program} {k : TypeId} {R : Value → Option (DataW H × List MemPlace)} {W : World} {b r n base M g c cnt : Nat} {D : DataW H} {left : Lit → Bool} {f : Nat → Int} (hm : W.ranges P k R b r n D left cnt) (h : RwRow W base M g c f) : some r ≠ some g := fun e => by
  obtain ⟨_, _, cells, hc⟩ := rw_block h
  exact rw_noiter hm cells (by rw [Option.some.inj e]; exact hc)
theorem rw_invK (key : Value) (kl : Lit) (h : keyOf Try.prog 3 key = some kl) : ∃ x, key = Value.int .i64 x := by
  obtain ⟨x, rfl, _⟩ := Maps.keyOf_int_inv Try.underlying3 h
  exact ⟨x, rfl⟩
theorem rw_invV (M : Nat) (v : Value) (y : DataW Unit × List MemPlace) (h : rwR M v = some y) : ∃ x : Nat × Nat, v = .slice (some ⟨x.1, 0, none⟩) M x.2 := by
  obtain ⟨x, e, _⟩ := rwR_inv h
  exact ⟨x, e⟩
theorem rw_fun {w : World} {base M g c : Nat} {f f' : Nat → Int} (h : RwRow w base M g c f) (e : ∀ j, j < M → f j = f' j) : RwRow w base M g c f' := by
  have e2 : rwL M f = rwL M f' := rwL_congr e
  unfold RwRow at h ⊢
  rwa [e2] at h
theorem rw_kept {w w' : World} {base M g c : Nat} {f : Nat → Int} {row : Option Nat} (h : RwRow w base M g c f) (hg : w.grownBy w' row) (hne : some g ≠ row) : RwRow w' base M g c f := rw_move h (hg.block g (rw_block h).1 hne)
theorem rw_bel {w w' : World} {base M g c : Nat} {f : Nat → Int} (h : RwRow w base M g c f) (hb : Below w.heap.size w w') : RwRow w' base M g c f := rw_move h (hb.block g (rw_block h).1)
end Go.Proofs.Ytemkddgfneohhaa.F
end

section
namespace Go.Proofs.Ytemkddgfneohhaa.F
open Go.RowKit Go.Maps Go.Proofs.YtemkddgfneohhaaW.PrintWords Go.Proofs.YtemkddgfneohhaaW.PrintLast Go.Proofs.YtemkddgfneohhaaW.PrintMore
set_option linter.unusedVariables false
set_option linter.unusedSimpArgs false
def chPos (n : Int) : Int := if n > 0 then n else 0
/-- What a row gives to the place j of a row that leaves out so many more. -/
def chTerm (out : Int) (vs : Nat → Int) (j : Nat) : Int := if out ≤ (j : Int) then chPos (vs ((j : Int) - out).toNat) else 0
/-- .. as far as its first i numbers go. -/
def chPart (out : Int) (vs : Nat → Int) (i j : Nat) : Int := if out ≤ (j : Int) ∧ (j : Int) - out < (i : Int) then chPos (vs ((j : Int) - out).toNat) else 0
def chSub (s t : Int) : Bool := Go.bits .andNot .i64 s t == 0
def chOut (p : List Int) (t : Int) : Int := wrap64 ((p.length : Int) - (impl_size.f t).getD 0)
def chNew (p ids : List Int) (v : Int → Nat → Int) (t : Int) (j : Nat) : Int := wrap64 (mpTot ids (fun s => chSub s t) (fun s => chTerm (chOut p t) (v s) j))
def chAt (p ids : List Int) : Nat → Int → Nat → Int
  | 0 => fun s j => if s = 0 then (if j = 0 then 1 else 0) else 0
  | q + 1 => chNew p ids (chAt p ids q)
def chM (p : List Int) (m : Int) : Int := wrap64 (wrap64 ((p.length : Int) * m) + 1)
structure ChOk (p ids : List Int) (m : Int) : Prop where
  ok : cntOk ids = true
  m0 : 0 ≤ m
  m1 : m ≤ 1000
  M1 : 1 ≤ chM p m
  M2 : chM p m ≤ 2000000
  sz : ∀ t ∈ ids, ∃ z, impl_size.f t = some z
  o1 : ∀ t ∈ ids, 0 ≤ chOut p t ∧ chOut p t ≤ 2000000
  rng : ∀ q : Nat, (q : Int) < m → ∀ t ∈ ids, ∀ s ∈ ids, chSub s t = true → ∀ i : Nat, (i : Int) < chM p m → 0 < chAt p ids q s i → (i : Int) + chOut p t < chM p m
def chOkB (p ids : List Int) (m : Int) : Bool := cntOk ids && (decide (0 ≤ m ∧ m ≤ 1000) && (decide (1 ≤ chM p m ∧ chM p m ≤ 2000000) && (ids.all (fun t => (impl_size.f t).isSome && decide (0 ≤ chOut p t ∧ chOut p t ≤ 2000000)) && (List.range m.toNat).all fun q => ids.all fun t => ids.all fun s => !chSub s t || (List.range (chM p m).toNat).all fun i => !decide (0 < chAt p ids q s i) || decide ((i : Int) + chOut p t < chM p m))))
theorem chOkB_iff (p ids : List Int) (m : Int) : chOkB p ids m = true ↔ ChOk p ids m := by
  unfold chOkB
  simp only [Bool.and_eq_true, decide_eq_true_eq, List.all_eq_true, List.mem_range, Bool.or_eq_true, Bool.not_eq_true', decide_eq_false_iff_not]
  constructor
  · rintro ⟨h1, ⟨h2, h3⟩, ⟨h4, h5⟩, h6, h7⟩
    refine ⟨h1, h2, h3, h4, h5, fun t ht => Option.isSome_iff_exists.1 (h6 t ht).1, fun t ht => (h6 t ht).2, fun q hq t ht s hs hst i hi h0 => ?_⟩
    rcases h7 q (by omega) t ht s hs with h | h
    · rw [hst] at h; cases h
    · rcases h i (by omega) with h | h
      · exact absurd h0 h
      · exact h
  · intro h
    refine ⟨h.ok, ⟨h.m0, h.m1⟩, ⟨h.M1, h.M2⟩, fun t ht => ⟨Option.isSome_iff_exists.2 (h.sz t ht), h.o1 t ht⟩, fun q hq t ht s hs => ?_⟩
    cases hst : chSub s t with
    | false => exact .inl rfl
    | true =>
      refine .inr fun i hi => ?_
      by_cases h0 : 0 < chAt p ids q s i
      · exact .inr (h.rng q (by omega) t ht s hs hst i (by omega) h0)
      · exact .inl h0
def chTot (p ids : List Int) (m : Int) (j : Nat) : Int := wrap64 (mpTot ids (fun _ => true) (fun s => chAt p ids m.toNat s j))
def impl_Poset_chains.f (k : Nat) (l0_0 : List Int) (a1 : Int) : Option (List Int) := (impl_Poset_ideals.f k l0_0).bind fun ids => if chOkB l0_0 ids a1 = true then some (rwL (chM l0_0 a1).toNat (chTot l0_0 ids a1)) else none
theorem impl_Poset_chains.mono : ∀ a0 a1 k, LeO (impl_Poset_chains.f k a0 a1) (impl_Poset_chains.f (k + 1) a0 a1) := fun a0 a1 k => LeO.bind (impl_Poset_ideals.mono _ _) (fun _ => LeO.refl _)
/-! The rows while they are drawn up. -/
def chS (p ids : List Int) (v : Int → Nat → Int) (t : Int) (left : Lit → Bool) (j : Nat) : Int := wrap64 (mpTot ids (fun s => chSub s t && !left (.int .i64 s)) (fun s => chTerm (chOut p t) (v s) j))
def chMid (p ids : List Int) (v : Int → Nat → Int) (i : Nat) (s : Int) (j : Nat) : Int := if s ∈ ids.take i then chNew p ids v s j else 0
theorem chPart_zero (out : Int) (vs : Nat → Int) (j : Nat) : chPart out vs 0 j = 0 := by
  unfold chPart
  rw [if_neg]
  omega
theorem chPart_step {out : Int} (ho : 0 ≤ out) (vs : Nat → Int) (i j : Nat) : chPart out vs (i + 1) j = chPart out vs i j + if (j : Int) = (i : Int) + out then chPos (vs i) else 0 := by
  unfold chPart
  by_cases e : (j : Int) = (i : Int) + out
  · rw [if_pos e, if_pos (by omega), if_neg (by omega), show ((j : Int) - out).toNat = i by omega]
    omega
  · rw [if_neg e]
    by_cases h : out ≤ (j : Int) ∧ (j : Int) - out < (i : Int)
    · rw [if_pos h, if_pos (by omega)]; omega
    · rw [if_neg h, if_neg (by omega)]; omega
theorem chPart_all {out : Int} (ho : 0 ≤ out) (vs : Nat → Int) {M j : Nat} (hj : j < M) : chPart out vs M j = chTerm out vs j := by
  unfold chPart chTerm
  by_cases h : out ≤ (j : Int)
  · rw [if_pos h, if_pos (by omega)]
  · rw [if_neg h, if_neg (by omega)]
theorem ch_start {p ids : List Int} {v : Int → Nat → Int} {w : World} {base top M : Nat} {D : DataW Unit} (h : RwReads w base top M D ids v) (t : Int) (j : Nat) : chS p ids v t (Maps.has D) j = 0 := by
  unfold chS
  rw [mpTot_none]
  · unfold wrap64; decide
  · intro s hs hp
    simp only [Bool.and_eq_true, Bool.not_eq_true'] at hp
    unfold chTerm
    rw [rw_absent h hs hp.2]
    split <;> rfl
theorem ch_step {p ids : List Int} {v : Int → Nat → Int} {t x : Int} {left : Lit → Bool} (hn : ids.Nodup) (hx : x ∈ ids) (hlx : left (.int .i64 x) = true) (j : Nat) :
    chS p ids v t (fun z => left z && !z.sameKey (.int .i64 x)) j = if chSub x t = true then wrap64 (chS p ids v t left j + chTerm (chOut p t) (v x) j) else chS p ids v t left j := by
  have := mpTot_step (v := fun s => chTerm (chOut p t) (v s) j) (x := x) (P := fun s => chSub s t && !left (.int .i64 s)) (P' := fun s => chSub s t && !(fun z : Lit => left z && !z.sameKey (.int .i64 x)) (.int .i64 s)) (by rw [hlx]; simp) (fun y hy => by show (_ && !((fun z : Lit => left z && !z.sameKey (.int .i64 x)) (.int .i64 y))) = _; rw [mp_strike left x y hy]) ids hn hx
  unfold chS
  rw [this]
  cases hb : chSub x t with
  | false =>
    rw [if_neg (by simp), if_neg (by simp)]
    congr 1; omega
  | true =>
    rw [if_pos (by rw [mp_struck]; rfl), if_pos rfl, mp_wrap_add]
theorem ch_end {p ids : List Int} {v : Int → Nat → Int} {t : Int} {left : Lit → Bool} (hl : ∀ kl, left kl = false) (j : Nat) : chS p ids v t left j = chNew p ids v t j := by
  unfold chS chNew
  congr 1
  exact mpTot_congr fun s hs => by rw [hl]; simp
theorem ch_mid {p ids : List Int} {v : Int → Nat → Int} {i : Nat} (hi : i < ids.length) (s : Int) (j : Nat) : (fun s' => if s' = ids.getD i 0 then chNew p ids v (ids.getD i 0) else chMid p ids v i s') s j = chMid p ids v (i + 1) s j := by
  have e0 : ids.take (i + 1) = ids.take i ++ [ids.getD i 0] := by
    rw [List.take_add_one, List.getElem?_eq_getElem hi, List.getD_eq_getElem?_getD, List.getElem?_eq_getElem hi]; rfl
  show (if s = ids.getD i 0 then chNew p ids v (ids.getD i 0) else chMid p ids v i s) j = _
  unfold chMid
  rw [e0]
  by_cases e : s = ids.getD i 0
  · rw [if_pos e, if_pos (List.mem_append.2 (.inr (by rw [e]; exact List.mem_singleton.2 rfl))), e]
  · rw [if_neg e]
    by_cases e2 : s ∈ ids.take i
    · have h1 : s ∈ ids.take i ++ [ids.getD i 0] := List.mem_append.2 (.inl e2)
      rw [if_pos h1, if_pos e2]
    · have h1 : ¬ s ∈ ids.take i ++ [ids.getD i 0] := fun h => by
        rcases List.mem_append.1 h with h | h
        · exact e2 h
        · exact e (List.mem_singleton.1 h)
      rw [if_neg h1, if_neg e2]
theorem ch_done {p ids : List Int} {v : Int → Nat → Int} {s : Int} (hs : s ∈ ids) (j : Nat) : chMid p ids v ids.length s j = chNew p ids v s j := by
  unfold chMid
  rw [List.take_length, if_pos hs]
/-- The totals: what the rows that have come give. -/
def chG (ids : List Int) (v : Int → Nat → Int) (left : Lit → Bool) (j : Nat) : Int := wrap64 (mpTot ids (fun s => !left (.int .i64 s)) (fun s => v s j))
theorem chG_step {ids : List Int} {v : Int → Nat → Int} {x : Int} {left : Lit → Bool} (hn : ids.Nodup) (hx : x ∈ ids) (hlx : left (.int .i64 x) = true) (j : Nat) :
    chG ids v (fun z => left z && !z.sameKey (.int .i64 x)) j = wrap64 (chG ids v left j + v x j) := by
  unfold chG
  rw [mp_wrap_add]
  congr 1
  have := mpTot_step (v := fun s => v s j) (x := x) (P := fun s => !left (.int .i64 s)) (P' := fun s => !(fun z : Lit => left z && !z.sameKey (.int .i64 x)) (.int .i64 s)) (by rw [hlx]; rfl) (fun y hy => by show (!((fun z : Lit => left z && !z.sameKey (.int .i64 x)) (.int .i64 y))) = _; rw [mp_strike left x y hy]) ids hn hx
  rw [this, if_pos (by show (!_) = true; rw [mp_struck]; rfl)]
theorem chG_start {ids : List Int} {v : Int → Nat → Int} {w : World} {base top M : Nat} {D : DataW Unit} (h : RwReads w base top M D ids v) (j : Nat) : chG ids v (Maps.has D) j = 0 := by
  unfold chG
  rw [mpTot_none]
  · unfold wrap64; decide
  · intro s hs hp
    exact rw_absent h hs (by simpa using hp) j
theorem chG_end {ids : List Int} {v : Int → Nat → Int} {left : Lit → Bool} (hl : ∀ kl, left kl = false) (j : Nat) : chG ids v left j = wrap64 (mpTot ids (fun _ => true) (fun s => v s j)) := by
  unfold chG
  congr 1
  exact mpTot_congr fun s hs => by rw [hl]; rfl
theorem ch_first (ids : List Int) (h : (0 : Int) ∈ ids) {w : World} {base top M g c : Nat} (hg : g < top) {p : List Int} (hr : RwRow w base M g c (fun j => if j = 0 then 1 else 0)) : RwReads w base top M ((DataW.map []).put (.int .i64 0) (rwD g c)) ids (chAt p ids 0) :=
  rw_congr (rw_store ⟨[], rfl⟩ (rw_empty w base top M ids) h hg hr) (fun s hs j _ => by
    unfold chAt
    by_cases e : s = 0
    · rw [if_pos e, if_pos e]
    · rw [if_neg e, if_neg e])
set_option maxHeartbeats 16000000 in
set_option maxRecDepth 100000 in
theorem impl_Poset_chains.calls (k : Nat) (A0_0 : Option Addr) (c0_0 : Nat) (l0_0 : List Int) (a1 : Int) (r : List Int) (w : World) (hr0_0 : Kd.C (Kd.int .i64) w A0_0 l0_0.length l0_0) (hc0_0 : l0_0.length ≤ c0_0) (h : impl_Poset_chains.f k l0_0 a1 = some r) :
    Calls Try.prog 48 #[.agg #[.slice A0_0 l0_0.length c0_0], .int .i64 a1] w fun e w' => ∃ v0_ : Value, e = .returned (v0_) ∧ Kd.R (Kd.int .i64) 3 w' w.heap.size (fun _ => True) v0_ r ∧ Below w.heap.size w w' := by
  have hu30 := Try.underlying30
  have hmm := @run_makeMap Try.prog
  unfold impl_Poset_chains.f at h
  obtain ⟨ids, hid, h⟩ := Option.bind_eq_some_iff.1 h
  split at h
  rotate_left
  · cases h
  rename_i hokb
  have hok := (chOkB_iff l0_0 ids a1).1 hokb
  clear hokb
  have h := Option.some.inj h
  obtain ⟨hnd, h0, hlen, hwf⟩ := cntOk_parts hok.ok
  obtain ⟨nn, hnn⟩ : ∃ x : Int, x = (l0_0.length : Int) := ⟨_, rfl⟩
  obtain ⟨M, hM⟩ : ∃ x : Nat, x = (chM l0_0 a1).toNat := ⟨_, rfl⟩
  have hM2 : wrap64 (wrap64 (nn * a1) + 1) = (M : Int) := by rw [hM, hnn]; have := hok.M1; unfold chM at this ⊢; omega
  have hpos : 0 < ids.length := List.length_pos_of_mem h0
  have hM0 : (0 : Int) < (M : Int) := by rw [hM]; have := hok.M1; omega
  have hM1 : decide ((0 : Int) < (M : Int)) = true := decide_eq_true hM0
  have hM3 : 0 < M := by omega
  have HMM : Aside0 ((M : Int) = chM l0_0 a1 ∧ 1 ≤ M ∧ M ≤ 2000000) := ⟨by have := hok.M1; have := hok.M2; omega⟩
  rw [← hM] at h
  have HRES := Aside0.mk h
  have HM2 := Aside0.mk hM2
  have HNN : Aside0 (impl_Poset_n.f l0_0 = some nn) := ⟨by rw [hnn]; rfl⟩
  have HNN2 := Aside0.mk hnn
  have HOK := Aside0.mk hok
  have HID := Aside0.mk hid
  have HND := Aside0.mk hnd
  have HZ := Aside0.mk h0
  have HLEN := Aside0.mk hlen
  have HWF := Aside0.mk hwf
  have HP := Aside0.mk hpos
  have HR0 := Aside0.mk hr0_0
  have HC := Aside0.mk hc0_0
  clear h hid hnd h0 hlen hwf hpos hr0_0 hc0_0 hok hnn hM hM2
  obtain ⟨w0, hw0⟩ : ∃ W, W = (w.alloc (.cells #[.slice A0_0 l0_0.length c0_0] 30 (0, 0))) := ⟨_, rfl⟩
  have HP0 : Aside0 (w0.heap[w.heap.size]? = some (.cells #[.slice A0_0 l0_0.length c0_0] 30 (0, 0))) := ⟨by rw [hw0]; exact blk_new w _⟩
  have HB0 : Aside0 (Below w.heap.size w w0) := ⟨by rw [hw0]; exact below_alloc (Below.refl w.heap.size w) _⟩
  have HIDC : Aside0 (Calls Try.prog 67 #[.agg #[.slice A0_0 l0_0.length c0_0]] (w.alloc (.cells #[.slice A0_0 l0_0.length c0_0] 30 (0, 0))) fun e w' => ∃ v0_ : Value, e = .returned v0_ ∧ Kd.R (Kd.int .i64) 3 w' w0.heap.size (fun _ => True) v0_ ids ∧ Below w0.heap.size w0 w') := ⟨by rw [← hw0]; exact impl_Poset_ideals.calls k A0_0 c0_0 l0_0 ids w0 (Kd.C_below HR0.out HB0.out) HC.out HID.out⟩
  clear hw0
  go_enter Try.func48, Try.ntmps48
  go_wp2_with (first
    | (go_at_call 67; (with_reducible refine HIDC.out.mono ?_); rintro e w1 ⟨vi, rfl, hr1, hb1⟩; obtain ⟨g, cap, rfl, hgb, hgl, _⟩ := Kd.R_form hr1 HP.out; have HR1 := Aside0.mk hr1; have HB1 := Aside0.mk (HB0.out.trans (hb1.mono HB0.out.size)); have HPX := Aside0.mk (blk_below HP0.out hb1); have hcp1 : (w1.alloc (.map #[] 0)).cell? ⟨w.heap.size, 0, none⟩ = some (.slice A0_0 l0_0.length c0_0) := (blk_cell (blk_alloc HPX.out _) 0).trans rfl; clear hr1 hb1 hgb)
    | (go_at_call 70; (with_reducible refine (impl_Poset_n.calls A0_0 c0_0 l0_0 nn _ (Kd.C_below HR0.out (below_alloc HB1.out _)) HC.out HNN.out).mono ?_); rintro e w2 ⟨rfl, hb2⟩; have HB2 := Aside0.mk hb2; have HBW2 := Aside0.mk (((Below.refl w1.heap.size w1).alloc (Nat.le_refl _) (.map #[] 0)).trans (hb2.mono (by simp))); clear hb2)
    | ((with_reducible refine gate_dst (N := 30) rfl ?_); refine Kd.R_make (Kd.int .i64) (w0 := w1) w1.heap.size 3 rfl (N := 30) rfl 25 _ _ rfl _ rfl rfl Try.underlying25 (.int .i64 0) 8 info3 rfl (by decide) (by omega) 0 (ok := fun _ => True) (okp := fun _ => True) rfl (fun _ hk => hk) trivial ?h0 ?hl ?hb ?hbs ?_; (case h0 => have := HM2.out; omega); (case hl => have := HM2.out; have := HMM.out; omega); (case hb => exact HBW2.out); (case hbs => exact HBW2.out.size); intro v3 w3 hr3 hb3 hg3 hnew3; rw [HM2.out, Int.toNat_natCast, rwL_zero] at hr3; obtain ⟨g3, c3, ev3, hg3b, hg3l, _⟩ := Kd.R_form hr3 (by rw [rwL_len]; exact HMM.out.2.1); rw [rwL_len] at ev3; subst ev3; have HR3 : Aside0 (RwRow w3 w1.heap.size M g3 c3 fun _ => 0) := ⟨hr3⟩; have HB3 := Aside0.mk hb3; have HG3 := Aside0.mk hg3; have hc3 := (rw_cell HR3.out (i := 0) (by have := HMM.out; omega)).1; have hf3 := (rw_cell HR3.out (i := 0) (by have := HMM.out; omega)).2; clear hr3 hb3 hg3 hnew3 hg3b hg3l)
    | ((with_reducible refine gate_store (t := 3) (p := 32) rfl ?_); refine store_event (t := 3) (p := 32) (v := ?vo) (w1 := (w3.setCell ⟨g3, 0, none⟩ (.int .i64 1))) ?hg ?ho ?hn ?hr ?_; (case ho => rfl); (case hg => rfl); (case hn => rfl); (case hr => first | (go_simp; done) | (go_simp; rfl)); intro w4 hw4; have HPUT := Aside0.mk (rw_put HR3.out (i := 0) (by have := HMM.out; omega) 1); have HR4 : Aside0 (RwRow w4 w1.heap.size M g3 c3 fun j => if j = 0 then 1 else 0) := ⟨by rw [hw4]; exact HPUT.out.1⟩; have HG4 : Aside0 (w3.grownBy w4 (some g3)) := ⟨by rw [hw4]; exact HPUT.out.2⟩; have HMAP3 : Aside0 (w3.ownsMap Try.prog 3 (rwR M) w1.heap.size 0 (.map [])) := ⟨((World.ownsMap_made w1 Try.prog 3 (rwR M)).kept (mp_grown HB2.out) (by simp)).kept HG3.out (by simp)⟩; have HMAP4 : Aside0 (w4.ownsMap Try.prog 3 (rwR M) w1.heap.size 0 (.map [])) := ⟨HMAP3.out.kept HG4.out (rw_apart HMAP3.out HR3.out)⟩; clear hw4 hc3 hf3)
    | (at_mapUpdate; refine wpList_mapUpdate_own _ rfl _ _ _ 70 rfl 3 25 mp_law Try.underlying70 (rwR M) w1.heap.size 0 (.map []) rfl HMAP4.out (by unfold maxLen; omega) _ _ _ rfl rfl (keyOf_int_mk Try.underlying3 (by decide)) _ [] (rwR_mk M g3 c3) ?_; intro w5 hown5 hgrow5; have HOWN5 := Aside0.mk hown5; have HG5 := Aside0.mk hgrow5; clear hown5 hgrow5)
    | go_in)
  have HR5 : Aside0 (RwRow w5 w1.heap.size M g3 c3 fun j => if j = 0 then 1 else 0) := ⟨rw_kept HR4.out HG5.out (fun e => rw_apart HMAP4.out HR4.out e.symm)⟩
  have HRD5 : Aside0 (RwReads w5 w1.heap.size w5.heap.size M ((DataW.map []).put (.int .i64 0) (rwD g3 c3)) ids (chAt l0_0 ids 0)) := ⟨ch_first ids HZ.out (rw_block HR5.out).1 HR5.out⟩
  have HB5 : Aside0 (Below w1.heap.size w1 w5) := ⟨(HB3.out.grown HG4.out (by have := HB3.out.size; omega) (fun j hj => by cases hj; exact (rw_block HR3.out).2.1)).grown HG5.out (by have := HB3.out.size; have := HG4.out.size; omega) (fun j hj => by cases hj; exact Nat.le_refl _)⟩
  have HD5 : Aside0 (w5.ownsMap Try.prog 3 (rwR M) w1.heap.size ids.length ((DataW.map []).put (.int .i64 0) (rwD g3 c3))) := ⟨mp_normH mp_law HOWN5.out HRD5.out.has_⟩
  clear HB2 HBW2 HR3 HB3 HG3 HPUT HR4 HG4 HMAP3 HMAP4 HOWN5 HG5 HR5 hcp1 hmm
  have hmm := @run_makeMap Try.prog
  go_loopg [6, 36] (a1.toNat + 1) (fun kq v6 v36 w' => ∃ (q b : Nat) (D : DataW Unit), v6 = .map (some b) ∧ v36 = .int .i64 (q : Int) ∧ Aside0 (kq + q = a1.toNat + 1 ∧ (q : Int) ≤ a1) ∧ Aside0 (w1.heap.size ≤ b) ∧ Aside0 (w'.ownsMap Try.prog 3 (rwR M) b ids.length D) ∧ Aside0 (RwReads w' w1.heap.size w'.heap.size M D ids (chAt l0_0 ids q)) ∧ Aside0 (Below w1.heap.size w1 w'))
  case atStart => exact ⟨0, _, _, rfl, rfl, ⟨by have := HOK.out.m0; omega⟩, ⟨Nat.le_refl _⟩, HD5, HRD5, HB5⟩
  case round =>
    obtain ⟨q, b, D, rfl, rfl, HK, HBB, HD, HRD, HBW⟩ := hrel
    obtain ⟨WA, rfl⟩ : ∃ x, x = wr := ⟨wr, rfl⟩
    cases gk with
    | zero => exact absurd HK.out (by omega)
    | succ k1 =>
      clear HRD5 HB5 HD5
      by_cases hq : (q : Int) < a1
      · have d1 : decide ((q : Int) < a1) = true := decide_eq_true hq
        have HQ := Aside0.mk hq
        go_wp2_with (fail)
        clear d1 hq
        go_loopg [41] (ids.length + 1) (fun kq v41 w' => ∃ (i : Nat) (D1 : DataW Unit), v41 = .int .i64 (i : Int) ∧ Aside0 (kq + i = ids.length + 1 ∧ i ≤ ids.length) ∧ Aside0 (w'.ownsMap Try.prog 3 (rwR M) WA.heap.size ids.length D1) ∧ Aside0 (RwReads w' w1.heap.size w'.heap.size M D1 ids (chMid l0_0 ids (chAt l0_0 ids q) i)) ∧ Aside0 (w'.ownsMap Try.prog 3 (rwR M) b ids.length D) ∧ Aside0 (RwReads w' w1.heap.size w'.heap.size M D ids (chAt l0_0 ids q)) ∧ Aside0 (Below w1.heap.size w1 w'))
        case atStart =>
          refine ⟨0, _, rfl, ⟨rfl, Nat.zero_le _⟩, ⟨(World.ownsMap_made WA Try.prog 3 _).mono (Nat.zero_le _)⟩, ⟨rw_congr (rw_empty _ _ _ _ _) (fun s _ j _ => by unfold chMid; rw [if_neg (by simp)])⟩, ⟨HD.out.alloc _⟩, ⟨?_⟩, ⟨HBW.out.alloc HBW.out.size _⟩⟩
          exact rw_up (rw_below HRD.out (Nat.le_refl _) (below_alloc (Below.refl _ _) _)) (by simp)
        case round =>
          obtain ⟨i, D1, rfl, HK2, HD1, HRD1, HD0, HRD0, HBW1⟩ := hrel
          obtain ⟨WB, rfl⟩ : ∃ x, x = wr := ⟨wr, rfl⟩
          cases gk with
          | zero => exact absurd HK2.out (by omega)
          | succ k2 =>
            by_cases hi : i < ids.length
            · have hcell := mp_cell HR1.out HBW1.out i hi
              have hmem : ids.getD i 0 ∈ ids := by rw [List.getD_eq_getElem?_getD, List.getElem?_eq_getElem hi]; exact List.getElem_mem hi
              obtain ⟨t, ht⟩ : ∃ t, t = ids.getD i 0 := ⟨_, rfl⟩
              rw [← ht] at hcell hmem
              have HTE := Aside0.mk ht
              have HTM := Aside0.mk hmem
              obtain ⟨sz, hsz⟩ := HOK.out.sz t hmem
              have HSZ := Aside0.mk hsz
              obtain ⟨out, hout⟩ : ∃ x, x = wrap64 (nn - sz) := ⟨_, rfl⟩
              have HOE : Aside0 (out = chOut l0_0 t) := ⟨by unfold chOut; rw [hsz, Option.getD_some, ← HNN2.out]; exact hout⟩
              have HO1 : Aside0 (0 ≤ out ∧ out ≤ 2000000) := ⟨by rw [HOE.out]; exact HOK.out.o1 t hmem⟩
              have hout' : wrap64 (nn - sz) = out := hout.symm
              have hcpB : WB.cell? ⟨w.heap.size, 0, none⟩ = some (.slice A0_0 l0_0.length c0_0) := (blk_cell (blk_below HPX.out HBW1.out) 0).trans rfl
              clear ht hmem hsz hout
              have e1 : (0 : Int) ≤ (i : Int) := by omega
              have e2 : (i : Int) < (ids.length : Int) := by omega
              have e3 : decide ((i : Int) < (ids.length : Int)) = true := decide_eq_true e2
              have e4 : decide (i < ids.length) = true := decide_eq_true hi
              have e5 := eq_true hi
              have HI := Aside0.mk hi
              have HFIRST : Aside0 True := ⟨trivial⟩
              clear hi
              go_wp2_with (first
                | (go_at_call 70; clear HFIRST; (with_reducible refine (impl_Poset_n.calls A0_0 c0_0 l0_0 nn _ (Kd.C_below HR0.out (HB1.out.trans (HBW1.out.mono HB1.out.size))) HC.out HNN.out).mono ?_); rintro e w2 ⟨rfl, hb2⟩; have HB2 := Aside0.mk hb2; have HBW2 := Aside0.mk (HBW1.out.trans (hb2.mono HBW1.out.size)); clear hb2)
                | ((with_reducible refine gate_dst (N := 50) rfl ?_); refine Kd.R_make (Kd.int .i64) (w0 := w1) w1.heap.size 3 rfl (N := 50) rfl 25 _ _ rfl _ rfl rfl Try.underlying25 (.int .i64 0) 8 info3 rfl (by decide) (by omega) 0 (ok := fun _ => True) (okp := fun _ => True) rfl (fun _ hk => hk) trivial ?h0 ?hl ?hb ?hbs ?_; (case h0 => have := HM2.out; omega); (case hl => have := HM2.out; have := HMM.out; omega); (case hb => exact HBW2.out); (case hbs => exact HBW2.out.size); intro v3 w3 hr3 hb3 hg3 hnew3; rw [HM2.out, Int.toNat_natCast, rwL_zero] at hr3; obtain ⟨go, co, ev3, hg3b, hg3l, _⟩ := Kd.R_form hr3 (by rw [rwL_len]; exact HMM.out.2.1); rw [rwL_len] at ev3; subst ev3; have HR3 : Aside0 (RwRow w3 w1.heap.size M go co fun _ => 0) := ⟨hr3⟩; have HB3 := Aside0.mk hb3; have HG3 := Aside0.mk hg3; have HGO : Aside0 (w2.heap.size ≤ go) := ⟨by obtain ⟨x, hx1, hx2⟩ := hnew3; have hx3 : some go = some x := hx1; injection hx3 with hx3; omega⟩; have hcp3 : w3.cell? ⟨w.heap.size, 0, none⟩ = some (.slice A0_0 l0_0.length c0_0) := (blk_cell (blk_below HPX.out HB3.out) 0).trans rfl; clear hr3 hb3 hg3 hnew3 hg3b hg3l)
                | (go_at_call 70; (with_reducible refine (impl_Poset_n.calls A0_0 c0_0 l0_0 nn _ (Kd.C_below HR0.out (HB1.out.trans (HB3.out.mono HB1.out.size))) HC.out HNN.out).mono ?_); rintro e w4 ⟨rfl, hb4⟩; have HB4 := Aside0.mk hb4; clear hb4)
                | (go_at_call 72; (with_reducible refine (impl_size.calls t sz _ HSZ.out).mono ?_); rintro e w5 ⟨rfl, hd5⟩; have HB5 : Aside0 (Below w4.heap.size w4 w5) := ⟨by obtain ⟨nd, rfl⟩ := hd5; exact pw_below_drewN (Below.refl _ _) nd⟩; have HG35 : Aside0 (w2.grownBy w5 none) := ⟨(HG3.out.andThen (mp_grown HB4.out) (by simp)).andThen (mp_grown HB5.out) (by simp)⟩; have HB25 : Aside0 (Below WB.heap.size WB w5) := ⟨HB2.out.trans (Below.mono ⟨HG35.out.os, HG35.out.tape, HG35.out.output, HG35.out.size, fun j hj => HG35.out.block j hj (by simp)⟩ HB2.out.size)⟩; have HD05 := Aside0.mk (HD0.out.kept (mp_grown HB25.out) (by simp)); clear hd5)
                | (at_range; refine wpList_range_own _ rfl _ 70 rfl 3 25 mp_law Try.underlying70 _ b ids.length D rfl HD05.out ?_; intro w6 hrg0 hg0 hs0; have HRG0 := Aside0.mk hrg0; have HG0 := Aside0.mk hg0; clear hrg0 hg0 hs0)
                | go_in)
              go_frame
              clear hcell e1 e2 e3 e4 e5 hcpB hcp3
              obtain ⟨ri, hri⟩ : ∃ x, x = w5.heap.size := ⟨_, rfl⟩
              rw [← hri] at HRG0 ⊢
              have HNUM : Aside0 (WA.heap.size < WB.heap.size ∧ WB.heap.size ≤ ri ∧ b < WA.heap.size ∧ w1.heap.size ≤ WA.heap.size ∧ WB.heap.size ≤ go ∧ WB.heap.size ≤ w6.heap.size) := ⟨by have h1 := HD1.out.lt; have h2 := HD.out.lt; have h3 := HBW.out.size; have h4 := HB25.out.size; have h5 := HGO.out; have h6 := HB2.out.size; have h7 := HG0.out.size; omega⟩
              have HROW6 : Aside0 (RwRow w6 w1.heap.size M go co (chS l0_0 ids (chAt l0_0 ids q) t (Maps.has D))) := ⟨rw_fun (rw_kept (rw_bel (rw_bel HR3.out HB4.out) HB5.out) HG0.out (by simp)) (fun j _ => (ch_start HRD0.out t j).symm)⟩
              have HD16 : Aside0 (w6.ownsMap Try.prog 3 (rwR M) WA.heap.size ids.length D1) := ⟨(HD1.out.kept (mp_grown HB25.out) (by simp)).kept HG0.out (by simp)⟩
              have HRD16 : Aside0 (RwReads w6 w1.heap.size WB.heap.size M D1 ids (chMid l0_0 ids (chAt l0_0 ids q) i)) := ⟨rw_grown (rw_below HRD1.out (Nat.le_refl _) HB25.out) HB25.out.size HG0.out (fun k hk => by cases hk)⟩
              have HRD06 : Aside0 (RwReads w6 w1.heap.size WB.heap.size M D ids (chAt l0_0 ids q)) := ⟨rw_grown (rw_below HRD0.out (Nat.le_refl _) HB25.out) HB25.out.size HG0.out (fun k hk => by cases hk)⟩
              have HBW6 : Aside0 (Below w1.heap.size w1 w6) := ⟨(HBW1.out.trans (HB25.out.mono HBW1.out.size)).grown HG0.out (by have := HBW1.out.size; have := HB25.out.size; omega) (fun j hj => by cases hj)⟩
              rw [hout']
              clear hri HB2 HBW2 HR3 HB3 HG3 HGO HB4 HB5 HG35 HB25 HD05 HG0 HSZ hout'
              go_loopg [13] (Maps.size D + 1) (fun kq _ w' => ∃ (left : Lit → Bool) (cnt : Nat), Aside0 (kq = cnt + 1) ∧ Aside0 (w'.ranges Try.prog 3 (rwR M) b ri ids.length D left cnt) ∧ Aside0 (RwRow w' w1.heap.size M go co (chS l0_0 ids (chAt l0_0 ids q) t left)) ∧ Aside0 (w'.ownsMap Try.prog 3 (rwR M) WA.heap.size ids.length D1) ∧ Aside0 (RwReads w' w1.heap.size WB.heap.size M D1 ids (chMid l0_0 ids (chAt l0_0 ids q) i)) ∧ Aside0 (RwReads w' w1.heap.size WB.heap.size M D ids (chAt l0_0 ids q)) ∧ Aside0 (Below w1.heap.size w1 w' ∧ WB.heap.size ≤ w'.heap.size))
              case atStart => exact ⟨_, _, ⟨rfl⟩, HRG0, HROW6, HD16, HRD16, HRD06, ⟨HBW6.out, HNUM.out.2.2.2.2.2⟩⟩
              case round =>
                obtain ⟨left, cnt, HK3, HRG, HROW, HD1c, HRD1c, HRD0c, HBWc⟩ := hrel
                obtain ⟨WC, rfl⟩ : ∃ x, x = wr := ⟨wr, rfl⟩
                clear HRG0 HROW6 HD16 HRD16 HRD06 HBW6
                go_wp2_with (first
                  | (at_next; refine wpList_next_ranges _ rfl _ rfl 3 mp_law (rwR M) (Value.int .i64) (fun x : Nat × Nat => Value.slice (some ⟨x.1, 0, none⟩) M x.2) rw_invK (rw_invV M) b ri ids.length D left cnt rfl HRG.out ?_ ?_)
                  | go_in)
                · intro hc0 hl0
                  have hwi : wrap64 ((i : Int) + 1) = ((i + 1 : Nat) : Int) := by unfold wrap64; have := HI.out; have := HLEN.out; omega
                  have HL0 := Aside0.mk hl0
                  clear hc0 hl0
                  go_wp2_with (first
                    | (at_mapUpdate; refine wpList_mapUpdate_own _ rfl _ _ _ 70 rfl 3 25 mp_law Try.underlying70 (rwR M) WA.heap.size ids.length D1 rfl HD1c.out (by have := HLEN.out; unfold maxLen; omega) _ _ _ rfl rfl (keyOf_int_mk Try.underlying3 (mp_wf (HWF.out t HTM.out))) _ [] (rwR_mk M go co) ?_; intro wE hownE hgrowE; have HOWNE := Aside0.mk hownE; have HGE := Aside0.mk hgrowE; clear hownE hgrowE)
                    | go_in)
                  have HROWE : Aside0 (RwRow wE w1.heap.size M go co (chNew l0_0 ids (chAt l0_0 ids q) t)) := ⟨rw_fun (rw_kept HROW.out HGE.out (fun e => rw_apart HD1c.out HROW.out e.symm)) (fun j _ => ch_end HL0.out j)⟩
                  have HRDE : Aside0 (RwReads wE w1.heap.size wE.heap.size M (D1.put (.int .i64 t) (rwD go co)) ids (chMid l0_0 ids (chAt l0_0 ids q) (i + 1))) := ⟨rw_congr (rw_store HD1c.out.isMap (rw_up (rw_grown HRD1c.out HBWc.out.2 HGE.out (fun k hk => by cases hk; exact .inr (rw_nomap HD1c.out))) (by have := HBWc.out.2; have := HGE.out.size; omega)) HTM.out (rw_block HROWE.out).1 HROWE.out) (fun s hs j _ => by have := ch_mid (p := l0_0) (v := chAt l0_0 ids q) HI.out s j; rw [← HTE.out] at this; exact this)⟩
                  go_roundg k2
                  case measure => omega
                  case rel =>
                    exact ⟨i + 1, _, by rw [hwi], ⟨by have := HK2.out; have := HI.out; omega⟩, ⟨mp_normH mp_law HOWNE.out HRDE.out.has_⟩, HRDE, ⟨HRG.out.owns.kept HGE.out (by have := HNUM.out; intro e; have := Option.some.inj e; omega)⟩, ⟨rw_up (rw_grown HRD0c.out HBWc.out.2 HGE.out (fun k hk => by cases hk; exact .inr (rw_nomap HD1c.out))) (by have := HBWc.out.2; have := HGE.out.size; omega)⟩, ⟨HBWc.out.1.grown HGE.out HBWc.out.1.size (fun j hj => by cases hj; exact HNUM.out.2.2.2.1)⟩⟩
                · intro x xg xc kl d ps wn cnt1 hkx hlx hRv hat hrg1 hlt hg1 hs1 hen
                  rw [rwR_mk] at hRv
                  obtain ⟨rfl, rfl⟩ : rwD xg xc = d ∧ [] = ps := by simpa using hRv
                  obtain ⟨x', ex, rfl, hwx⟩ := Maps.keyOf_int_inv Try.underlying3 hkx
                  cases ex
                  have HX := Aside0.mk (rw_val HRD0c.out (Maps.has_true_of_atKey hat) hat)
                  have HXR : Aside0 (RwRow wn w1.heap.size M xg xc (chAt l0_0 ids q x)) := ⟨rw_kept HX.out.2.2 hg1 (fun e => by have := HNUM.out; have := HX.out.2.1; have := Option.some.inj e; omega)⟩
                  have HLX := Aside0.mk hlx
                  have HRG1 := Aside0.mk hrg1
                  have HLT := Aside0.mk hlt
                  have HROWn : Aside0 (RwRow wn w1.heap.size M go co (chS l0_0 ids (chAt l0_0 ids q) t left)) := ⟨rw_kept HROW.out hg1 (fun e => rw_apart_iter HRG.out HROW.out e.symm)⟩
                  have HD1n := Aside0.mk (HD1c.out.kept hg1 (by have := HNUM.out; intro e; have := Option.some.inj e; omega))
                  have HRD1n := Aside0.mk (rw_grown HRD1c.out HBWc.out.2 hg1 (fun k hk => by cases hk; exact .inr (rw_noiter HRG.out)))
                  have HRD0n := Aside0.mk (rw_grown HRD0c.out HBWc.out.2 hg1 (fun k hk => by cases hk; exact .inr (rw_noiter HRG.out)))
                  have HBWn : Aside0 (Below w1.heap.size w1 wn ∧ WB.heap.size ≤ wn.heap.size) := ⟨HBWc.out.1.grown hg1 HBWc.out.1.size (fun j hj => by cases hj; have := HNUM.out; omega), by have := HBWc.out.2; have := hg1.size; omega⟩
                  clear hkx hlx hRv hat hrg1 hlt hg1 hs1 hwx
                  cases hb : (Go.bits .andNot .i64 x t == 0) with
                  | false =>
                    have HB0 : Aside0 (chSub x t = false) := ⟨hb⟩
                    have hbn : (Go.bits .andNot .i64 x t != 0) = true := by unfold bne; rw [hb]; rfl
                    go_wp2_with (fail)
                    go_roundg (cnt1 + 1)
                    case measure => have := HK3.out; have := HLT.out; omega
                    case rel => exact ⟨_, cnt1, ⟨rfl⟩, HRG1, ⟨rw_fun HROWn.out (fun j _ => by rw [ch_step HND.out HX.out.1 HLX.out j, if_neg (by rw [HB0.out]; simp)])⟩, HD1n, HRD1n, HRD0n, HBWn⟩
                  | true =>
                    have HB0 : Aside0 (chSub x t = true) := ⟨hb⟩
                    have hbn : (Go.bits .andNot .i64 x t != 0) = false := by unfold bne; rw [hb]; rfl
                    go_wp2_with (fail)
                    clear hb hbn hen
                    go_loopg [69] (M + 1) (fun kq v69 w' => ∃ (j : Nat), v69 = .int .i64 (j : Int) ∧ Aside0 (kq + j = M + 1 ∧ j ≤ M) ∧ Aside0 (RwRow w' w1.heap.size M go co (fun y => wrap64 (chS l0_0 ids (chAt l0_0 ids q) t left y + chPart out (chAt l0_0 ids q x) j y))) ∧ Aside0 (wn.grownBy w' (some go)))
                    case atStart => exact ⟨0, rfl, ⟨rfl, Nat.zero_le _⟩, ⟨rw_fun HROWn.out (fun y _ => by rw [chPart_zero]; unfold chS; rw [mp_wrap_add, Int.add_zero])⟩, ⟨World.grownBy.refl _ _⟩⟩
                    case round =>
                      obtain ⟨j, rfl, HK4, HROWk, HGK⟩ := hrel
                      obtain ⟨WD, rfl⟩ : ∃ x, x = wr := ⟨wr, rfl⟩
                      cases gk with
                      | zero => exact absurd HK4.out (by omega)
                      | succ k4 =>
                        by_cases hj : j < M
                        · have HJ := Aside0.mk hj
                          have HXRk := Aside0.mk (rw_kept HXR.out HGK.out (fun e => by have := HNUM.out; have := HX.out.2.1; have := Option.some.inj e; omega))
                          have hcl := (rw_cell HXRk.out hj).1
                          obtain ⟨n, hn⟩ : ∃ n, n = chAt l0_0 ids q x j := ⟨_, rfl⟩
                          rw [← hn] at hcl
                          have HNE := Aside0.mk hn
                          have e1 : (0 : Int) ≤ (j : Int) := by omega
                          have e2 : (j : Int) < (M : Int) := by omega
                          have e3 : decide ((j : Int) < (M : Int)) = true := decide_eq_true e2
                          have e4 : decide (j < M) = true := decide_eq_true hj
                          have e5 := eq_true hj
                          have HWJ : Aside0 (wrap64 ((j : Int) + 1) = ((j + 1 : Nat) : Int)) := ⟨by unfold wrap64; have := HMM.out; omega⟩
                          clear hn hj
                          by_cases hp : 0 < n
                          · have p1 : decide (0 < n) = true := decide_eq_true hp
                            have p2 : decide (n > 0) = true := decide_eq_true hp
                            obtain ⟨jo, hjo⟩ : ∃ x : Nat, x = ((j : Int) + out).toNat := ⟨_, rfl⟩
                            have HJO : Aside0 ((jo : Int) = (j : Int) + out ∧ jo < M) := ⟨by
                              have h1 := HO1.out
                              have h2 := HOK.out.rng q HQ.out t HTM.out x HX.out.1 HB0.out j (by have := HMM.out; have := HJ.out; omega) (by rw [← HNE.out]; exact hp)
                              rw [← HOE.out] at h2
                              have := HMM.out
                              omega⟩
                            have hidx : wrap64 ((j : Int) + out) = (jo : Int) := by have h1 := HJO.out; have h2 := HMM.out; unfold wrap64; omega
                            have hco := (rw_cell HROWk.out HJO.out.2).1
                            have hfo := (rw_cell HROWk.out HJO.out.2).2
                            obtain ⟨uo, huo⟩ : ∃ n, n = wrap64 (chS l0_0 ids (chAt l0_0 ids q) t left jo + chPart out (chAt l0_0 ids q x) j jo) := ⟨_, rfl⟩
                            rw [← huo] at hco
                            have HUO := Aside0.mk huo
                            have f1 : (0 : Int) ≤ (jo : Int) := by omega
                            have f2 : (jo : Int) < (M : Int) := by have := HJO.out; omega
                            have f3 : decide ((jo : Int) < (M : Int)) = true := decide_eq_true f2
                            have f4 : decide (jo < M) = true := decide_eq_true HJO.out.2
                            have f5 := eq_true HJO.out.2
                            clear hjo huo
                            have HPUT := Aside0.mk (rw_put HROWk.out HJO.out.2 (wrap64 (uo + n)))
                            go_wp2_with (fail)
                            go_roundg k4
                            case measure => omega
                            case rel =>
                              refine ⟨j + 1, by rw [HWJ.out], ⟨by have := HK4.out; have := HJ.out; omega⟩, ⟨rw_fun HPUT.out.1 (fun y hy => ?_)⟩, ⟨HGK.out.trans HPUT.out.2⟩⟩
                              show (if y = jo then wrap64 (uo + n) else _) = wrap64 (_ + chPart out (chAt l0_0 ids q x) (j + 1) y)
                              rw [chPart_step HO1.out.1, ← HNE.out]
                              have hpn : chPos n = n := by unfold chPos; rw [if_pos hp]
                              by_cases ey : y = jo
                              · rw [if_pos ey, if_pos (by rw [ey]; exact HJO.out.1), HUO.out, hpn, mp_wrap_add, ey]
                                congr 1; omega
                              · rw [if_neg ey, if_neg (fun e => ey (by have := HJO.out.1; omega)), Int.add_zero]
                          · have p1 : decide (0 < n) = false := decide_eq_false hp
                            have p2 : decide (n > 0) = false := decide_eq_false hp
                            go_wp2_with (fail)
                            go_roundg k4
                            case measure => omega
                            case rel =>
                              refine ⟨j + 1, by rw [HWJ.out], ⟨by have := HK4.out; have := HJ.out; omega⟩, ⟨rw_fun HROWk.out (fun y hy => ?_)⟩, HGK⟩
                              show _ = wrap64 (_ + chPart out (chAt l0_0 ids q x) (j + 1) y)
                              rw [chPart_step HO1.out.1, ← HNE.out]
                              have hpn : chPos n = 0 := by unfold chPos; rw [if_neg (by omega)]
                              rw [hpn, ite_self, Int.add_zero]
                        · have HJE : Aside0 (j = M) := ⟨by have := HK4.out; omega⟩
                          have e3 : decide ((j : Int) < (M : Int)) = false := decide_eq_false (by omega)
                          have e4 : decide (j < M) = false := decide_eq_false hj
                          have e5 : (j < M) = False := eq_false hj
                          clear hj
                          go_wp2_with (fail)
                          go_roundg (cnt1 + 1)
                          case measure => have := HK3.out; have := HLT.out; omega
                          case rel =>
                            refine ⟨_, cnt1, ⟨rfl⟩, ⟨HRG1.out.kept HGK.out (rw_apart HRG1.out.owns HROWn.out) (rw_apart_iter HRG1.out HROWn.out)⟩, ⟨rw_fun HROWk.out (fun y hy => ?_)⟩, ⟨HD1n.out.kept HGK.out (rw_apart HD1n.out HROWn.out)⟩, ⟨rw_grown HRD1n.out HBWn.out.2 HGK.out (fun k hk => by cases hk; exact .inl HNUM.out.2.2.2.2.1)⟩, ⟨rw_grown HRD0n.out HBWn.out.2 HGK.out (fun k hk => by cases hk; exact .inl HNUM.out.2.2.2.2.1)⟩, ⟨HBWn.out.1.grown HGK.out HBWn.out.1.size (fun z hz => by cases hz; have := HNUM.out; omega), by have := HBWn.out.2; have := HGK.out.size; omega⟩⟩
                            rw [HJE.out, chPart_all HO1.out.1 _ hy, ch_step HND.out HX.out.1 HLX.out y, if_pos HB0.out, HOE.out]
            · have hi' : i = ids.length := by have := HK2.out; omega
              have e3 : decide ((i : Int) < (ids.length : Int)) = false := decide_eq_false (by omega)
              have e4 : decide (i < ids.length) = false := decide_eq_false hi
              have e5 : (i < ids.length) = False := eq_false hi
              have HWQ : Aside0 (wrap64 ((q : Int) + 1) = ((q + 1 : Nat) : Int)) := ⟨by unfold wrap64; have := HQ.out; have := HOK.out.m1; omega⟩
              have HE := Aside0.mk hi'
              clear hi hi'
              go_wp2_with (fail)
              go_roundg k1
              case measure => omega
              case rel => exact ⟨q + 1, _, D1, rfl, by rw [HWQ.out], ⟨by have := HK.out; have := HQ.out; omega⟩, ⟨HBW.out.size⟩, HD1, ⟨rw_congr HRD1.out (fun s hs j _ => by rw [HE.out, ch_done hs j]; rfl)⟩, HBW1⟩
      · have HQE : Aside0 ((q : Int) = a1) := ⟨by have := HK.out; omega⟩
        have d1 : decide ((q : Int) < a1) = false := decide_eq_false hq
        have hcpA : WA.cell? ⟨w.heap.size, 0, none⟩ = some (.slice A0_0 l0_0.length c0_0) := (blk_cell (blk_below HPX.out HBW.out) 0).trans rfl
        clear hq
        go_wp2_with (first
          | (go_at_call 70; (with_reducible refine (impl_Poset_n.calls A0_0 c0_0 l0_0 nn _ (Kd.C_below HR0.out (HB1.out.trans (HBW.out.mono HB1.out.size))) HC.out HNN.out).mono ?_); rintro e w2 ⟨rfl, hb2⟩; have HB2 := Aside0.mk hb2; have HBW2 := Aside0.mk (HBW.out.trans (hb2.mono HBW.out.size)); clear hb2)
          | ((with_reducible refine gate_dst (N := 97) rfl ?_); refine Kd.R_make (Kd.int .i64) (w0 := w1) w1.heap.size 3 rfl (N := 97) rfl 25 _ _ rfl _ rfl rfl Try.underlying25 (.int .i64 0) 8 info3 rfl (by decide) (by omega) 0 (ok := fun _ => True) (okp := fun _ => True) rfl (fun _ hk => hk) trivial ?h0 ?hl ?hb ?hbs ?_; (case h0 => have := HM2.out; omega); (case hl => have := HM2.out; have := HMM.out; omega); (case hb => exact HBW2.out); (case hbs => exact HBW2.out.size); intro v3 w3 hr3 hb3 hg3 hnew3; rw [HM2.out, Int.toNat_natCast, rwL_zero] at hr3; obtain ⟨go, co, ev3, hg3b, hg3l, _⟩ := Kd.R_form hr3 (by rw [rwL_len]; exact HMM.out.2.1); rw [rwL_len] at ev3; subst ev3; have HR3 : Aside0 (RwRow w3 w1.heap.size M go co fun _ => 0) := ⟨hr3⟩; have HB3 := Aside0.mk hb3; have HG3 := Aside0.mk hg3; have HGO : Aside0 (w2.heap.size ≤ go) := ⟨by obtain ⟨x, hx1, hx2⟩ := hnew3; have hx3 : some go = some x := hx1; injection hx3 with hx3; omega⟩; have HD03 := Aside0.mk ((HD.out.kept (mp_grown HB2.out) (by simp)).kept hg3 (by simp)); clear hr3 hb3 hg3 hnew3 hg3b hg3l)
          | (at_range; refine wpList_range_own _ rfl _ 70 rfl 3 25 mp_law Try.underlying70 _ b ids.length D rfl HD03.out ?_; intro w6 hrg0 hg0 hs0; have HRG0 := Aside0.mk hrg0; have HG0 := Aside0.mk hg0; clear hrg0 hg0 hs0)
          | go_in)
        go_frame
        clear d1 hcpA
        obtain ⟨ri, hri⟩ : ∃ x, x = w3.heap.size := ⟨_, rfl⟩
        rw [← hri] at HRG0 ⊢
        have HNUM : Aside0 (WA.heap.size ≤ ri ∧ b < WA.heap.size ∧ w1.heap.size ≤ WA.heap.size ∧ WA.heap.size ≤ go ∧ WA.heap.size ≤ w6.heap.size) := ⟨by have h2 := HD.out.lt; have h3 := HBW.out.size; have h5 := HGO.out; have h6 := HB2.out.size; have h7 := HG0.out.size; have h8 := HG3.out.size; omega⟩
        have HTOT6 : Aside0 (RwRow w6 w1.heap.size M go co (chG ids (chAt l0_0 ids q) (Maps.has D))) := ⟨rw_fun (rw_kept HR3.out HG0.out (by simp)) (fun j _ => (chG_start HRD.out j).symm)⟩
        have HRD6 : Aside0 (RwReads w6 w1.heap.size WA.heap.size M D ids (chAt l0_0 ids q)) := ⟨rw_grown (rw_grown (rw_below HRD.out (Nat.le_refl _) HB2.out) HB2.out.size HG3.out (fun k hk => by cases hk)) (by have := HB2.out.size; have := HG3.out.size; omega) HG0.out (fun k hk => by cases hk)⟩
        have HBW6 : Aside0 (Below w1.heap.size w1 w6) := ⟨HB3.out.grown HG0.out HB3.out.size (fun j hj => by cases hj)⟩
        clear hri HB2 HBW2 HR3 HB3 HG3 HGO HD03 HG0
        go_loopg [19] (Maps.size D + 1) (fun kq _ w' => ∃ (left : Lit → Bool) (cnt : Nat), Aside0 (kq = cnt + 1) ∧ Aside0 (w'.ranges Try.prog 3 (rwR M) b ri ids.length D left cnt) ∧ Aside0 (RwRow w' w1.heap.size M go co (chG ids (chAt l0_0 ids q) left)) ∧ Aside0 (RwReads w' w1.heap.size WA.heap.size M D ids (chAt l0_0 ids q)) ∧ Aside0 (Below w1.heap.size w1 w' ∧ WA.heap.size ≤ w'.heap.size))
        case atStart => exact ⟨_, _, ⟨rfl⟩, HRG0, HTOT6, HRD6, ⟨HBW6.out, HNUM.out.2.2.2.2⟩⟩
        case round =>
          obtain ⟨left, cnt, HK3, HRG, HROW, HRD0c, HBWc⟩ := hrel
          obtain ⟨WC, rfl⟩ : ∃ x, x = wr := ⟨wr, rfl⟩
          clear HRG0 HTOT6 HRD6 HBW6
          go_wp2_with (first
            | (at_next; refine wpList_next_ranges _ rfl _ rfl 3 mp_law (rwR M) (Value.int .i64) (fun x : Nat × Nat => Value.slice (some ⟨x.1, 0, none⟩) M x.2) rw_invK (rw_invV M) b ri ids.length D left cnt rfl HRG.out ?_ ?_)
            | go_in)
          · intro hc0 hl0
            have HL0 := Aside0.mk hl0
            clear hc0 hl0
            go_wp2_with (fail)
            go_ret
            have e : rwL M (chG ids (chAt l0_0 ids q) left) = r := by
              rw [← HRES.out]
              refine rwL_congr fun j _ => ?_
              rw [chG_end HL0.out]
              unfold chTot
              rw [← HQE.out, Int.toNat_natCast]
            have hR := HROW.out
            unfold RwRow at hR
            rw [e] at hR
            exact ⟨_, rfl, Kd.R_lower hR HB1.out.size, HB1.out.trans (HBWc.out.1.mono HB1.out.size)⟩
          · intro x xg xc kl d ps wn cnt1 hkx hlx hRv hat hrg1 hlt hg1 hs1 hen
            rw [rwR_mk] at hRv
            obtain ⟨rfl, rfl⟩ : rwD xg xc = d ∧ [] = ps := by simpa using hRv
            obtain ⟨x', ex, rfl, hwx⟩ := Maps.keyOf_int_inv Try.underlying3 hkx
            cases ex
            have HX := Aside0.mk (rw_val HRD0c.out (Maps.has_true_of_atKey hat) hat)
            have HXR : Aside0 (RwRow wn w1.heap.size M xg xc (chAt l0_0 ids q x)) := ⟨rw_kept HX.out.2.2 hg1 (fun e => by have := HNUM.out; have := HX.out.2.1; have := Option.some.inj e; omega)⟩
            have HLX := Aside0.mk hlx
            have HRG1 := Aside0.mk hrg1
            have HLT := Aside0.mk hlt
            have HROWn : Aside0 (RwRow wn w1.heap.size M go co (chG ids (chAt l0_0 ids q) left)) := ⟨rw_kept HROW.out hg1 (fun e => rw_apart_iter HRG.out HROW.out e.symm)⟩
            have HRD0n := Aside0.mk (rw_grown HRD0c.out HBWc.out.2 hg1 (fun k hk => by cases hk; exact .inr (rw_noiter HRG.out)))
            have HBWn : Aside0 (Below w1.heap.size w1 wn ∧ WA.heap.size ≤ wn.heap.size) := ⟨HBWc.out.1.grown hg1 HBWc.out.1.size (fun j hj => by cases hj; have := HNUM.out; omega), by have := HBWc.out.2; have := hg1.size; omega⟩
            clear hkx hlx hRv hat hrg1 hlt hg1 hs1 hwx
            go_wp2_with (fail)
            clear hen
            go_loopg [106] (M + 1) (fun kq v106 w' => ∃ (j : Nat), v106 = .int .i64 (j : Int) ∧ Aside0 (kq + j = M + 1 ∧ j ≤ M) ∧ Aside0 (RwRow w' w1.heap.size M go co (fun y => if y < j then wrap64 (chG ids (chAt l0_0 ids q) left y + chAt l0_0 ids q x y) else chG ids (chAt l0_0 ids q) left y)) ∧ Aside0 (wn.grownBy w' (some go)))
            case atStart => exact ⟨0, rfl, ⟨rfl, Nat.zero_le _⟩, ⟨rw_fun HROWn.out (fun y _ => by rw [if_neg (Nat.not_lt_zero _)])⟩, ⟨World.grownBy.refl _ _⟩⟩
            case round =>
              obtain ⟨j, rfl, HK4, HROWk, HGK⟩ := hrel
              obtain ⟨WD, rfl⟩ : ∃ x, x = wr := ⟨wr, rfl⟩
              cases gk with
              | zero => exact absurd HK4.out (by omega)
              | succ k4 =>
                by_cases hj : j < M
                · have HJ := Aside0.mk hj
                  have HXRk := Aside0.mk (rw_kept HXR.out HGK.out (fun e => by have := HNUM.out; have := HX.out.2.1; have := Option.some.inj e; omega))
                  have hcl := (rw_cell HXRk.out hj).1
                  have hco := (rw_cell HROWk.out hj).1
                  have hfo := (rw_cell HROWk.out hj).2
                  rw [if_neg (Nat.lt_irrefl j)] at hco
                  obtain ⟨n, hn⟩ : ∃ n, n = chAt l0_0 ids q x j := ⟨_, rfl⟩
                  obtain ⟨uo, huo⟩ : ∃ n, n = chG ids (chAt l0_0 ids q) left j := ⟨_, rfl⟩
                  rw [← hn] at hcl
                  rw [← huo] at hco
                  have HNE := Aside0.mk hn
                  have HUO := Aside0.mk huo
                  have e1 : (0 : Int) ≤ (j : Int) := by omega
                  have e2 : (j : Int) < (M : Int) := by omega
                  have e3 : decide ((j : Int) < (M : Int)) = true := decide_eq_true e2
                  have e4 : decide (j < M) = true := decide_eq_true hj
                  have e5 := eq_true hj
                  have HWJ : Aside0 (wrap64 ((j : Int) + 1) = ((j + 1 : Nat) : Int)) := ⟨by unfold wrap64; have := HMM.out; omega⟩
                  clear hn hj huo
                  have HPUT := Aside0.mk (rw_put HROWk.out HJ.out (wrap64 (uo + n)))
                  go_wp2_with (fail)
                  go_roundg k4
                  case measure => omega
                  case rel =>
                    refine ⟨j + 1, by rw [HWJ.out], ⟨by have := HK4.out; have := HJ.out; omega⟩, ⟨rw_fun HPUT.out.1 (fun y hy => ?_)⟩, ⟨HGK.out.trans HPUT.out.2⟩⟩
                    show (if y = j then _ else _) = if y < j + 1 then _ else _
                    by_cases ey : y = j
                    · rw [if_pos ey, if_pos (by omega), HNE.out, HUO.out, ey]
                    · rw [if_neg ey]
                      by_cases hy2 : y < j
                      · rw [if_pos hy2, if_pos (by omega)]
                      · rw [if_neg hy2, if_neg (by omega)]
                · have HJE : Aside0 (j = M) := ⟨by have := HK4.out; omega⟩
                  have e3 : decide ((j : Int) < (M : Int)) = false := decide_eq_false (by omega)
                  have e4 : decide (j < M) = false := decide_eq_false hj
                  have e5 : (j < M) = False := eq_false hj
                  clear hj
                  go_wp2_with (fail)
                  go_roundg (cnt1 + 1)
                  case measure => have := HK3.out; have := HLT.out; omega
                  case rel =>
                    refine ⟨_, cnt1, ⟨rfl⟩, ⟨HRG1.out.kept HGK.out (rw_apart HRG1.out.owns HROWn.out) (rw_apart_iter HRG1.out HROWn.out)⟩, ⟨rw_fun HROWk.out (fun y hy => ?_)⟩, ⟨rw_grown HRD0n.out HBWn.out.2 HGK.out (fun k hk => by cases hk; exact .inl HNUM.out.2.2.2.1)⟩, ⟨HBWn.out.1.grown HGK.out HBWn.out.1.size (fun z hz => by cases hz; have := HNUM.out; omega), by have := HBWn.out.2; have := HGK.out.size; omega⟩⟩
                    rw [HJE.out, if_pos hy, chG_step HND.out HX.out.1 HLX.out y]
end Go.Proofs.Ytemkddgfneohhaa.F
end

section
namespace Go.Proofs.Ytemkddgfneohhaa.F
open Go.RowKit Go.Proofs.YtemkddgfneohhaaW.PrintWords Go.Proofs.YtemkddgfneohhaaW.PrintLast Go.Proofs.YtemkddgfneohhaaW.PrintMore
attribute [local go_sem] max2_int min2_int max_two min_two max_three min_three max_four min_four
set_option linter.unusedVariables false
set_option linter.unusedSimpArgs false

/-! ### impl_BoxBySum: function 20 -/
def impl_BoxBySum.f (k : Nat) (a0 : Int) (a1 : Int) (a2 : Int) : Option (List Int × Bool) := (impl_Rectangle.f k a0 a1).bind fun bt230 => (if bt230.2 = true then ((impl_isBound.f a2).bind fun t235 => (if t235 = true then ((impl_Poset_chains.f k bt230.1 a2).bind fun t236 => (some (t236, true))) else (some (([] : List Int), false)))) else (some (([] : List Int), false)))
theorem impl_BoxBySum.mono : ∀ a0 a1 a2 k, LeO (impl_BoxBySum.f k a0 a1 a2) (impl_BoxBySum.f (k + 1) a0 a1 a2) := by
  intro a0 a1 a2 k
  unfold impl_BoxBySum.f
  repeat' first
      | (with_reducible exact impl_Poset_chains.mono _ _ _)
      | (with_reducible exact impl_Rectangle.mono _ _ _)
      | (with_reducible exact LeO.refl _)
      | (with_reducible exact LeO.none _)
      | (with_reducible refine LeO.ite ?_ ?_)
      | (with_reducible refine LeO.bind ?_ (fun _ => ?_))
      | exact impl_Poset_chains.mono _ _ _
      | exact impl_Rectangle.mono _ _ _
      | exact LeO.none _
      | refine LeO.ite ?_ ?_
      | refine LeO.bind ?_ (fun _ => ?_)
set_option maxHeartbeats 8000000 in
set_option maxRecDepth 100000 in
theorem impl_BoxBySum.calls (k : Nat) (a0 : Int) (a1 : Int) (a2 : Int) (r1 : List Int) (r2 : Bool) (w : World) (h : impl_BoxBySum.f k a0 a1 a2 = some (r1, r2)) :
    Calls Try.prog 20 #[.int .i64 a0, .int .i64 a1, .int .i64 a2] w fun e w' => ∃ v0_ : Value, e = .returned (.tuple #[v0_, .bool r2]) ∧ Kd.R (Kd.int .i64) 3 w' w.heap.size (fun _ => True) v0_ r1 ∧ Below w.heap.size w w' := by
  have hu30 := Try.underlying30
  have HB := Aside0.mk (Below.refl w.heap.size w)
  have H : ((impl_Rectangle.f k a0 a1).bind fun bt230 => (if bt230.2 = true then ((impl_isBound.f a2).bind fun t235 => (if t235 = true then ((impl_Poset_chains.f k bt230.1 a2).bind fun t236 => (some (t236, true))) else (some (([] : List Int), false)))) else (some (([] : List Int), false)))) = some (r1, r2) := h
  clear h
  replace H := Option.bind_eq_some_iff.mp H
  obtain ⟨⟨t230, t233⟩, A40, H⟩ := H
  replace H : (if t233 = true then ((impl_isBound.f a2).bind fun t235 => (if t235 = true then ((impl_Poset_chains.f k t230 a2).bind fun t236 => (some (t236, true))) else (some (([] : List Int), false)))) else (some (([] : List Int), false))) = some (r1, r2) := H
  have A4 := Aside0.mk A40
  clear A40
  by_cases c5 : t233 = true
  · subst c5
    have H1 : ((impl_isBound.f a2).bind fun t235 => (if t235 = true then ((impl_Poset_chains.f k t230 a2).bind fun t236 => (some (t236, true))) else (some (([] : List Int), false)))) = some (r1, r2) := by rw [if_pos rfl] at H; exact H
    clear H
    have H := H1
    clear H1
    replace H := Option.bind_eq_some_iff.mp H
    obtain ⟨t235, A60, H⟩ := H
    replace H : (if t235 = true then ((impl_Poset_chains.f k t230 a2).bind fun t236 => (some (t236, true))) else (some (([] : List Int), false))) = some (r1, r2) := H
    have A6 := Aside0.mk A60
    clear A60
    by_cases c7 : t235 = true
    · subst c7
      have H1 : ((impl_Poset_chains.f k t230 a2).bind fun t236 => (some (t236, true))) = some (r1, r2) := by rw [if_pos rfl] at H; exact H
      clear H
      have H := H1
      clear H1
      replace H := Option.bind_eq_some_iff.mp H
      obtain ⟨t236, A80, H⟩ := H
      replace H : (some (t236, true)) = some (r1, r2) := H
      have A8 := Aside0.mk A80
      clear A80
      simp only [Option.some.injEq, Prod.mk.injEq] at H
      obtain ⟨rfl, rfl⟩ := H
      go_enter Try.func20, Try.ntmps20
      go_wp2_with (first | ((with_reducible refine gate_callee (f := 40) rfl ?_); refine goesL_ (some 13) rfl rfl Try.func40 (by kernel_rfl) rfl #[.int .i64 a0, .int .i64 a1] rfl (by (try simp only [List.map_toArray, List.map_cons, List.map_nil]); first | done | rfl | (simp only [List.length_drop, List.length_take]; rfl)) ?_; (with_reducible refine (impl_Rectangle.calls k a0 a1 t230 true _ A4.out).mono ?_); rintro e w9 ⟨v231, rfl, ho0, hb⟩; refine ⟨_, rfl, ?_⟩; have n0_ := Aside0.mk (Kd.R_lower ho0 (below_size (by repeat (first | (with_reducible first | exact HB.out | apply below_alloc | apply pw_below_drewN | apply below_drew1) | exact HB.out)))); have n1_ := Aside0.mk (below_step (by repeat (first | (with_reducible first | exact HB.out | apply below_alloc | apply pw_below_drewN | apply below_drew1) | exact HB.out)) hb); clear HB; have HO232 := n0_; have HB := n1_; clear n0_ n1_; (try clear hb); (try clear hb2); (try clear hk); (try clear hi); (try clear ho0)) | ((with_reducible refine gate_dst (N := 8) rfl ?_); refine box_event ?hg (N := 8) ?hd (cs := #[.slice none 0 0]) (t := 30) ?hr ?_; (case hd => rfl); (case hg => rfl); (case hr => first | (go_simp; done) | (go_simp; rfl)); intro gb234 hg w10 hbox hb; have n0_ := Aside0.mk (Kd.R_below (by (with_reducible repeat (first | apply Kd.R_alloc | apply Kd.R_drewN | apply Kd.R_drew)); exact HO232.out) hb); have n1_ := Aside0.mk (below_step (by repeat (first | (with_reducible first | exact HB.out | apply below_alloc | apply pw_below_drewN | apply below_drew1) | exact HB.out)) hb); have n2_ := Aside0.mk (hbox); have n3_ := Aside0.mk ((by rw [hg]; exact (below_size (by repeat (first | (with_reducible first | exact HB.out | apply below_alloc | apply pw_below_drewN | apply below_drew1) | exact HB.out))) : w.heap.size ≤ gb234)); have n4_ := Aside0.mk ((by rw [hg]; exact (below_size (by repeat (first | (with_reducible first | exact HB.out | apply below_alloc | apply pw_below_drewN | apply below_drew1) | exact HB.out))) : w.heap.size ≤ gb234)); clear HO232; clear HB; have HO232 := n0_; have HB := n1_; have BK234 := n2_; have GW234 := n3_; have GE234 := n4_; clear n0_ n1_ n2_ n3_ n4_; clear hb hbox hg; obtain ⟨Ao11, co11, eo11⟩ := Kd.R_slice HO232.out; subst eo11; have hcz12_0 : w10.cell? ⟨gb234, 0, none⟩ = some (.slice none 0 0) := (blk_cell BK234.out 0).trans rfl; have hfz12_0 := blk_frozen BK234.out 0) | (go_at_call 41; (with_reducible refine (impl_isBound.calls a2 true _ A6.out).mono ?_); rintro e w' ⟨rfl, ⟨nd, rfl⟩⟩) | ((with_reducible refine gate_callee (f := 48) rfl ?_); refine goesL_ (some 25) rfl rfl Try.func48 (by kernel_rfl) rfl #[.agg #[.slice Ao11 t230.length co11], .int .i64 a2] rfl (by (try simp only [List.map_toArray, List.map_cons, List.map_nil]); first | done | rfl | (simp only [List.length_drop, List.length_take]; rfl)) ?_; (with_reducible refine (impl_Poset_chains.calls k _ _ t230 a2 t236 _ ?side1 ?side2 A8.out).mono ?_); (case side1 => refine (Kd.R_reads' (e := 3) (base := w.heap.size) (ok := fun k_ => True) (n := t230.length) (c := co11) ?_).2.2; exact (by (with_reducible repeat (first | apply Kd.R_alloc | apply Kd.R_drewN | apply Kd.R_drew)); exact (Kd.R_mono (Kd.R_far (p := ⟨gb234, 0, none⟩) (Kd.R_types HO232.out BK234.out (by decide)) (fun _ hk => hk.2) (.slice Ao11 t230.length co11)) (fun _ h_ => h_.1)))); (case side2 => exact (Kd.R_reads' HO232.out).2.1); rintro e w13 ⟨v237, rfl, ho0, hb⟩; refine ⟨_, rfl, ?_⟩; have n0_ := Aside0.mk (Kd.R_elder' (by (with_reducible repeat (first | apply Kd.R_alloc | apply Kd.R_drewN | apply Kd.R_drew)); exact (Kd.R_mono (Kd.R_far (p := ⟨gb234, 0, none⟩) (Kd.R_types HO232.out BK234.out (by decide)) (fun _ hk => hk.2) (.slice Ao11 t230.length co11)) (fun _ h_ => h_.1))) (Kd.R_base ho0) hb); have n1_ := Aside0.mk (Kd.R_lower (Kd.R_new' ho0 (Kd.R_lt (by (with_reducible repeat (first | apply Kd.R_alloc | apply Kd.R_drewN | apply Kd.R_drew)); exact (Kd.R_mono (Kd.R_far (p := ⟨gb234, 0, none⟩) (Kd.R_types HO232.out BK234.out (by decide)) (fun _ hk => hk.2) (.slice Ao11 t230.length co11)) (fun _ h_ => h_.1))))) (below_size (by repeat (first | (with_reducible first | exact HB.out | apply below_alloc | apply pw_below_drewN | apply below_drew1 | refine below_set ?_ GE234.out) | exact HB.out)))); have n2_ := Aside0.mk (blk_below (g := gb234) (o := .cells #[.slice Ao11 t230.length co11] 30 (0, 0)) (by (with_reducible repeat (first | refine blk_drewN ?_ _ | refine blk_drew ?_ | refine blk_alloc ?_ _)); refine blk_put (cs := #[.slice none 0 0]) ?_ 0 _ rfl; (with_reducible repeat (first | refine blk_drewN ?_ _ | refine blk_drew ?_ | refine blk_alloc ?_ _)); exact BK234.out) hb); have n3_ := Aside0.mk (below_step (by repeat (first | (with_reducible first | exact HB.out | apply below_alloc | apply pw_below_drewN | apply below_drew1 | refine below_set ?_ GE234.out) | exact HB.out)) hb); clear HO232; clear BK234; clear HB; have HO232 := n0_; have HO238 := n1_; have BK234 := n2_; have HB := n3_; clear n0_ n1_ n2_ n3_; (try clear hb); (try clear hb2); (try clear hk); (try clear hi); (try clear ho0)))
      go_ret2
      exact ⟨_, by first | rfl | (simp [errW_none, errW_some] <;> rfl) | (simp [*, errW_none, errW_some] <;> rfl), by (with_reducible repeat (first | apply Kd.R_alloc | apply Kd.R_drewN | apply Kd.R_drew)); exact Kd.R_mono HO238.out (fun _ hk => trivial), by repeat (first | (with_reducible first | exact HB.out | apply below_alloc | apply pw_below_drewN | apply below_drew1 | refine below_set ?_ GE234.out) | exact HB.out)⟩
    · replace c7 := Bool.eq_false_iff.mpr c7
      subst c7
      have H1 : (some (([] : List Int), false)) = some (r1, r2) := by rw [if_neg (show ¬ (false = true) by decide)] at H; exact H
      clear H
      have H := H1
      clear H1
      simp only [Option.some.injEq, Prod.mk.injEq] at H
      obtain ⟨rfl, rfl⟩ := H
      go_enter Try.func20, Try.ntmps20
      go_wp2_with (first | ((with_reducible refine gate_callee (f := 40) rfl ?_); refine goesL_ (some 13) rfl rfl Try.func40 (by kernel_rfl) rfl #[.int .i64 a0, .int .i64 a1] rfl (by (try simp only [List.map_toArray, List.map_cons, List.map_nil]); first | done | rfl | (simp only [List.length_drop, List.length_take]; rfl)) ?_; (with_reducible refine (impl_Rectangle.calls k a0 a1 t230 true _ A4.out).mono ?_); rintro e w14 ⟨v231, rfl, ho0, hb⟩; refine ⟨_, rfl, ?_⟩; have n0_ := Aside0.mk (Kd.R_lower ho0 (below_size (by repeat (first | (with_reducible first | exact HB.out | apply below_alloc | apply pw_below_drewN | apply below_drew1) | exact HB.out)))); have n1_ := Aside0.mk (below_step (by repeat (first | (with_reducible first | exact HB.out | apply below_alloc | apply pw_below_drewN | apply below_drew1) | exact HB.out)) hb); clear HB; have HO232 := n0_; have HB := n1_; clear n0_ n1_; (try clear hb); (try clear hb2); (try clear hk); (try clear hi); (try clear ho0)) | ((with_reducible refine gate_dst (N := 8) rfl ?_); refine box_event ?hg (N := 8) ?hd (cs := #[.slice none 0 0]) (t := 30) ?hr ?_; (case hd => rfl); (case hg => rfl); (case hr => first | (go_simp; done) | (go_simp; rfl)); intro gb234 hg w15 hbox hb; have n0_ := Aside0.mk (Kd.R_below (by (with_reducible repeat (first | apply Kd.R_alloc | apply Kd.R_drewN | apply Kd.R_drew)); exact HO232.out) hb); have n1_ := Aside0.mk (below_step (by repeat (first | (with_reducible first | exact HB.out | apply below_alloc | apply pw_below_drewN | apply below_drew1) | exact HB.out)) hb); have n2_ := Aside0.mk (hbox); have n3_ := Aside0.mk ((by rw [hg]; exact (below_size (by repeat (first | (with_reducible first | exact HB.out | apply below_alloc | apply pw_below_drewN | apply below_drew1) | exact HB.out))) : w.heap.size ≤ gb234)); have n4_ := Aside0.mk ((by rw [hg]; exact (below_size (by repeat (first | (with_reducible first | exact HB.out | apply below_alloc | apply pw_below_drewN | apply below_drew1) | exact HB.out))) : w.heap.size ≤ gb234)); clear HO232; clear HB; have HO232 := n0_; have HB := n1_; have BK234 := n2_; have GW234 := n3_; have GE234 := n4_; clear n0_ n1_ n2_ n3_ n4_; clear hb hbox hg; obtain ⟨Ao16, co16, eo16⟩ := Kd.R_slice HO232.out; subst eo16; have hcz17_0 : w15.cell? ⟨gb234, 0, none⟩ = some (.slice none 0 0) := (blk_cell BK234.out 0).trans rfl; have hfz17_0 := blk_frozen BK234.out 0) | (go_at_call 41; (with_reducible refine (impl_isBound.calls a2 false _ A6.out).mono ?_); rintro e w' ⟨rfl, ⟨nd, rfl⟩⟩))
      go_ret2
      exact ⟨_, by first | rfl | (simp [errW_none, errW_some] <;> rfl) | (simp [*, errW_none, errW_some] <;> rfl), by first | exact Kd.R_nil _ _ _ _ _ | exact Kd.N_nil _ _ _ _ _ | exact Kd.V_nil _ _ _ _ _ | exact Kd.Q_nil _ _ _ _ _ | exact Kd.S_nil _ _ _ _ _, by repeat (first | (with_reducible first | exact HB.out | apply below_alloc | apply pw_below_drewN | apply below_drew1 | refine below_set ?_ GE234.out) | exact HB.out)⟩
  · replace c5 := Bool.eq_false_iff.mpr c5
    subst c5
    have H1 : (some (([] : List Int), false)) = some (r1, r2) := by rw [if_neg (show ¬ (false = true) by decide)] at H; exact H
    clear H
    have H := H1
    clear H1
    simp only [Option.some.injEq, Prod.mk.injEq] at H
    obtain ⟨rfl, rfl⟩ := H
    go_enter Try.func20, Try.ntmps20
    go_wp2_with (first | ((with_reducible refine gate_callee (f := 40) rfl ?_); refine goesL_ (some 13) rfl rfl Try.func40 (by kernel_rfl) rfl #[.int .i64 a0, .int .i64 a1] rfl (by (try simp only [List.map_toArray, List.map_cons, List.map_nil]); first | done | rfl | (simp only [List.length_drop, List.length_take]; rfl)) ?_; (with_reducible refine (impl_Rectangle.calls k a0 a1 t230 false _ A4.out).mono ?_); rintro e w18 ⟨v231, rfl, ho0, hb⟩; refine ⟨_, rfl, ?_⟩; have n0_ := Aside0.mk (Kd.R_lower ho0 (below_size (by repeat (first | (with_reducible first | exact HB.out | apply below_alloc | apply pw_below_drewN | apply below_drew1) | exact HB.out)))); have n1_ := Aside0.mk (below_step (by repeat (first | (with_reducible first | exact HB.out | apply below_alloc | apply pw_below_drewN | apply below_drew1) | exact HB.out)) hb); clear HB; have HO232 := n0_; have HB := n1_; clear n0_ n1_; (try clear hb); (try clear hb2); (try clear hk); (try clear hi); (try clear ho0)) | ((with_reducible refine gate_dst (N := 8) rfl ?_); refine box_event ?hg (N := 8) ?hd (cs := #[.slice none 0 0]) (t := 30) ?hr ?_; (case hd => rfl); (case hg => rfl); (case hr => first | (go_simp; done) | (go_simp; rfl)); intro gb234 hg w19 hbox hb; have n0_ := Aside0.mk (Kd.R_below (by (with_reducible repeat (first | apply Kd.R_alloc | apply Kd.R_drewN | apply Kd.R_drew)); exact HO232.out) hb); have n1_ := Aside0.mk (below_step (by repeat (first | (with_reducible first | exact HB.out | apply below_alloc | apply pw_below_drewN | apply below_drew1) | exact HB.out)) hb); have n2_ := Aside0.mk (hbox); have n3_ := Aside0.mk ((by rw [hg]; exact (below_size (by repeat (first | (with_reducible first | exact HB.out | apply below_alloc | apply pw_below_drewN | apply below_drew1) | exact HB.out))) : w.heap.size ≤ gb234)); have n4_ := Aside0.mk ((by rw [hg]; exact (below_size (by repeat (first | (with_reducible first | exact HB.out | apply below_alloc | apply pw_below_drewN | apply below_drew1) | exact HB.out))) : w.heap.size ≤ gb234)); clear HO232; clear HB; have HO232 := n0_; have HB := n1_; have BK234 := n2_; have GW234 := n3_; have GE234 := n4_; clear n0_ n1_ n2_ n3_ n4_; clear hb hbox hg; obtain ⟨Ao20, co20, eo20⟩ := Kd.R_slice HO232.out; subst eo20; have hcz21_0 : w19.cell? ⟨gb234, 0, none⟩ = some (.slice none 0 0) := (blk_cell BK234.out 0).trans rfl; have hfz21_0 := blk_frozen BK234.out 0))
    go_ret2
    exact ⟨_, by first | rfl | (simp [errW_none, errW_some] <;> rfl) | (simp [*, errW_none, errW_some] <;> rfl), by first | exact Kd.R_nil _ _ _ _ _ | exact Kd.N_nil _ _ _ _ _ | exact Kd.V_nil _ _ _ _ _ | exact Kd.Q_nil _ _ _ _ _ | exact Kd.S_nil _ _ _ _ _, by repeat (first | (with_reducible first | exact HB.out | apply below_alloc | apply pw_below_drewN | apply below_drew1 | refine below_set ?_ GE234.out) | exact HB.out)⟩

end Go.Proofs.Ytemkddgfneohhaa.F
end
