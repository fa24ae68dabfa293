/- Part 4 of the texts below the row of FnExactMajorOf: printed functions with their contracts, and plain lemmas. No condition. -/
import Derived.Test.YtfahkoimleiknaaZFnExactMajorOf3
import Derived.Lib.Hide
section
namespace Go.Proofs.Ytfahkoimleiknaa.F
open Go.RowKit Go.Proofs.YtfahkoimleiknaaW.PrintWords Go.Proofs.YtfahkoimleiknaaW.PrintLast Go.Proofs.YtfahkoimleiknaaW.PrintMore
attribute [local go_sem] max2_int min2_int max_two min_two max_three min_three max_four min_four
set_option linter.unusedVariables false
set_option linter.unusedSimpArgs false

/-! ### spec_shGood: function 66 -/
mutual
def spec_shGood.j0 : Nat → List (List Int) → Bool → Option (Bool)
  | 0, _, _ => none
  | k + 1, x0, x25 => if x25 = true then (some false) else (spec_shGood.l0 k x0 0 x0 (x0.length : Int) 0)
def spec_shGood.l0 : Nat → List (List Int) → Int → List (List Int) → Int → Int → Option (Bool)
  | 0, _, _, _, _, _ => none
  | k + 1, x0, x3, x26, x27, x28 => if x28 < x27 then (if 0 ≤ x28 then (if x28 < (x26.length : Int) then (if 0 < (x0.length : Int) then (if ((rd_L1 x26 x28).length : Int) = ((rd_L1 x0 0).length : Int) then ((spec_l1All.f k (rd_L1 x26 x28) 0 (wrap64 ((wrap64 ((x0.length : Int) * ((rd_L1 x26 x28).length : Int))) - 1))).bind fun t348 => (spec_shGood.j2 k x0 x3 x28 (rd_L1 x26 x28) x26 x27 x28 (!t348))) else (spec_shGood.j2 k x0 x3 x28 (rd_L1 x26 x28) x26 x27 x28 true)) else (none)) else (none)) else (none)) else (some true)
def spec_shGood.j2 : Nat → List (List Int) → Int → Int → List Int → List (List Int) → Int → Int → Bool → Option (Bool)
  | 0, _, _, _, _, _, _, _, _ => none
  | k + 1, x0, x3, x4, x5, x26, x27, x28, x50 => if x50 = true then (some false) else (spec_shGood.l1 k x0 x3 x4 x5 x26 x27 x28 x5 (x5.length : Int) 0)
def spec_shGood.l1 : Nat → List (List Int) → Int → Int → List Int → List (List Int) → Int → Int → List Int → Int → Int → Option (Bool)
  | 0, _, _, _, _, _, _, _, _, _, _ => none
  | k + 1, x0, x3, x4, x5, x26, x27, x28, x51, x52, x53 => if x53 < x52 then (if 0 ≤ x53 then (if x53 < (x51.length : Int) then ((spec_poIn.f x3 (rd x51 x53)).bind fun t350 => (if t350 = true then (some false) else (if x53 > 0 then (if 0 ≤ (wrap64 (x53 - 1)) then (if (wrap64 (x53 - 1)) < (x5.length : Int) then (if (rd x5 (wrap64 (x53 - 1))) > (rd x51 x53) then (some false) else (if x4 > 0 then (if 0 ≤ (wrap64 (x4 - 1)) then (if (wrap64 (x4 - 1)) < (x0.length : Int) then (if x53 < ((rd_L1 x0 (wrap64 (x4 - 1))).length : Int) then (if (rd (rd_L1 x0 (wrap64 (x4 - 1))) x53) > (rd x51 x53) then (some false) else (if 0 ≤ (rd x51 x53) then (spec_shGood.l1 k x0 (Go.bits .or .i64 x3 (shl .i64 1 (rd x51 x53))) x4 x5 x26 x27 x28 x51 x52 (wrap64 (x53 + 1))) else (none))) else (none)) else (none)) else (none)) else (if 0 ≤ (rd x51 x53) then (spec_shGood.l1 k x0 (Go.bits .or .i64 x3 (shl .i64 1 (rd x51 x53))) x4 x5 x26 x27 x28 x51 x52 (wrap64 (x53 + 1))) else (none)))) else (none)) else (none)) else (if x4 > 0 then (if 0 ≤ (wrap64 (x4 - 1)) then (if (wrap64 (x4 - 1)) < (x0.length : Int) then (if x53 < ((rd_L1 x0 (wrap64 (x4 - 1))).length : Int) then (if (rd (rd_L1 x0 (wrap64 (x4 - 1))) x53) > (rd x51 x53) then (some false) else (if 0 ≤ (rd x51 x53) then (spec_shGood.l1 k x0 (Go.bits .or .i64 x3 (shl .i64 1 (rd x51 x53))) x4 x5 x26 x27 x28 x51 x52 (wrap64 (x53 + 1))) else (none))) else (none)) else (none)) else (none)) else (if 0 ≤ (rd x51 x53) then (spec_shGood.l1 k x0 (Go.bits .or .i64 x3 (shl .i64 1 (rd x51 x53))) x4 x5 x26 x27 x28 x51 x52 (wrap64 (x53 + 1))) else (none)))))) else (none)) else (none)) else (spec_shGood.l0 k x0 x3 x26 x27 (wrap64 (x28 + 1)))
end
def spec_shGood.f (k : Nat) (l0 : List (List Int)) : Option (Bool) := if (l0.length : Int) = 0 then (spec_shGood.j0 k l0 true) else (if (l0.length : Int) > 10 then (spec_shGood.j0 k l0 true) else (if 0 < (l0.length : Int) then ((spec_shSides.f (l0.length : Int) ((rd_L1 l0 0).length : Int)).bind fun t345 => (spec_shGood.j0 k l0 (!t345))) else (none)))
theorem spec_shGood.mono_l : ∀ k, (∀ y0 y1, LeO (spec_shGood.j0 k y0 y1) (spec_shGood.j0 (k + 1) y0 y1)) ∧ (∀ y0 y1 y2 y3 y4, LeO (spec_shGood.l0 k y0 y1 y2 y3 y4) (spec_shGood.l0 (k + 1) y0 y1 y2 y3 y4)) ∧ (∀ y0 y1 y2 y3 y4 y5 y6 y7, LeO (spec_shGood.j2 k y0 y1 y2 y3 y4 y5 y6 y7) (spec_shGood.j2 (k + 1) y0 y1 y2 y3 y4 y5 y6 y7)) ∧ (∀ y0 y1 y2 y3 y4 y5 y6 y7 y8 y9, LeO (spec_shGood.l1 k y0 y1 y2 y3 y4 y5 y6 y7 y8 y9) (spec_shGood.l1 (k + 1) y0 y1 y2 y3 y4 y5 y6 y7 y8 y9))
  | 0 => ⟨fun _ _ r h => by simp [spec_shGood.j0] at h, fun _ _ _ _ _ r h => by simp [spec_shGood.l0] at h, fun _ _ _ _ _ _ _ _ r h => by simp [spec_shGood.j2] at h, fun _ _ _ _ _ _ _ _ _ _ r h => by simp [spec_shGood.l1] at h⟩
  | k + 1 => by
    obtain ⟨ih0, ih1, ih2, ih3⟩ := spec_shGood.mono_l k
    refine ⟨?_, ?_, ?_, ?_⟩
    · intro y0 y1
      unfold spec_shGood.j0
      repeat' first
      | (with_reducible exact ih0 _ _)
      | (with_reducible exact ih1 _ _ _ _ _)
      | (with_reducible exact ih2 _ _ _ _ _ _ _ _)
      | (with_reducible exact ih3 _ _ _ _ _ _ _ _ _ _)
      | (with_reducible exact spec_l1All.mono _ _ _ _)
      | (with_reducible exact LeO.refl _)
      | (with_reducible exact LeO.none _)
      | (with_reducible refine LeO.ite ?_ ?_)
      | (with_reducible refine LeO.bind ?_ (fun _ => ?_))
      | exact ih0 _ _
      | exact ih1 _ _ _ _ _
      | exact ih2 _ _ _ _ _ _ _ _
      | exact ih3 _ _ _ _ _ _ _ _ _ _
      | exact spec_l1All.mono _ _ _ _
      | exact LeO.none _
      | refine LeO.ite ?_ ?_
      | refine LeO.bind ?_ (fun _ => ?_)
    · intro y0 y1 y2 y3 y4
      unfold spec_shGood.l0
      repeat' first
      | (with_reducible exact ih0 _ _)
      | (with_reducible exact ih1 _ _ _ _ _)
      | (with_reducible exact ih2 _ _ _ _ _ _ _ _)
      | (with_reducible exact ih3 _ _ _ _ _ _ _ _ _ _)
      | (with_reducible exact spec_l1All.mono _ _ _ _)
      | (with_reducible exact LeO.refl _)
      | (with_reducible exact LeO.none _)
      | (with_reducible refine LeO.ite ?_ ?_)
      | (with_reducible refine LeO.bind ?_ (fun _ => ?_))
      | exact ih0 _ _
      | exact ih1 _ _ _ _ _
      | exact ih2 _ _ _ _ _ _ _ _
      | exact ih3 _ _ _ _ _ _ _ _ _ _
      | exact spec_l1All.mono _ _ _ _
      | exact LeO.none _
      | refine LeO.ite ?_ ?_
      | refine LeO.bind ?_ (fun _ => ?_)
    · intro y0 y1 y2 y3 y4 y5 y6 y7
      unfold spec_shGood.j2
      repeat' first
      | (with_reducible exact ih0 _ _)
      | (with_reducible exact ih1 _ _ _ _ _)
      | (with_reducible exact ih2 _ _ _ _ _ _ _ _)
      | (with_reducible exact ih3 _ _ _ _ _ _ _ _ _ _)
      | (with_reducible exact spec_l1All.mono _ _ _ _)
      | (with_reducible exact LeO.refl _)
      | (with_reducible exact LeO.none _)
      | (with_reducible refine LeO.ite ?_ ?_)
      | (with_reducible refine LeO.bind ?_ (fun _ => ?_))
      | exact ih0 _ _
      | exact ih1 _ _ _ _ _
      | exact ih2 _ _ _ _ _ _ _ _
      | exact ih3 _ _ _ _ _ _ _ _ _ _
      | exact spec_l1All.mono _ _ _ _
      | exact LeO.none _
      | refine LeO.ite ?_ ?_
      | refine LeO.bind ?_ (fun _ => ?_)
    · intro y0 y1 y2 y3 y4 y5 y6 y7 y8 y9
      unfold spec_shGood.l1
      repeat' first
      | (with_reducible exact ih0 _ _)
      | (with_reducible exact ih1 _ _ _ _ _)
      | (with_reducible exact ih2 _ _ _ _ _ _ _ _)
      | (with_reducible exact ih3 _ _ _ _ _ _ _ _ _ _)
      | (with_reducible exact spec_l1All.mono _ _ _ _)
      | (with_reducible exact LeO.refl _)
      | (with_reducible exact LeO.none _)
      | (with_reducible refine LeO.ite ?_ ?_)
      | (with_reducible refine LeO.bind ?_ (fun _ => ?_))
      | exact ih0 _ _
      | exact ih1 _ _ _ _ _
      | exact ih2 _ _ _ _ _ _ _ _
      | exact ih3 _ _ _ _ _ _ _ _ _ _
      | exact spec_l1All.mono _ _ _ _
      | exact LeO.none _
      | refine LeO.ite ?_ ?_
      | refine LeO.bind ?_ (fun _ => ?_)
theorem spec_shGood.mono : ∀ a0 k, LeO (spec_shGood.f k a0) (spec_shGood.f (k + 1) a0) := by
  intro a0 k
  obtain ⟨ih0, ih1, ih2, ih3⟩ := spec_shGood.mono_l k
  unfold spec_shGood.f
  repeat' first
      | (with_reducible exact ih0 _ _)
      | (with_reducible exact ih1 _ _ _ _ _)
      | (with_reducible exact ih2 _ _ _ _ _ _ _ _)
      | (with_reducible exact ih3 _ _ _ _ _ _ _ _ _ _)
      | (with_reducible exact spec_l1All.mono _ _ _ _)
      | (with_reducible exact LeO.refl _)
      | (with_reducible exact LeO.none _)
      | (with_reducible refine LeO.ite ?_ ?_)
      | (with_reducible refine LeO.bind ?_ (fun _ => ?_))
      | exact ih0 _ _
      | exact ih1 _ _ _ _ _
      | exact ih2 _ _ _ _ _ _ _ _
      | exact ih3 _ _ _ _ _ _ _ _ _ _
      | exact spec_l1All.mono _ _ _ _
      | exact LeO.none _
      | refine LeO.ite ?_ ?_
      | refine LeO.bind ?_ (fun _ => ?_)
set_option maxHeartbeats 8000000 in
set_option maxRecDepth 100000 in
theorem spec_shGood.calls (k : Nat) (A0 : Option Addr) (c0 : Nat) (l0 : List (List Int)) (r : Bool) (w : World) (hr0 : Kd.C (Kd.slice 3 (Kd.int .i64)) w A0 l0.length l0) (hc0 : l0.length ≤ c0) (h : spec_shGood.f k l0 = some r) :
    Calls Try.prog 66 #[.slice A0 l0.length c0] w fun e w' => e = .returned (.bool r) ∧ Drawn0 w w' := by
  have HR0 := Aside0.mk hr0
  have HC0 := Aside0.mk hc0
  clear hr0 hc0
  have H : (if (l0.length : Int) = 0 then (spec_shGood.j0 k l0 true) else (if (l0.length : Int) > 10 then (spec_shGood.j0 k l0 true) else (if 0 < (l0.length : Int) then ((spec_shSides.f (l0.length : Int) ((rd_L1 l0 0).length : Int)).bind fun t345 => (spec_shGood.j0 k l0 (!t345))) else (none)))) = some r := h
  clear h
  have HC2 := Aside0.mk H
  clear H
  go_enter Try.func66, Try.ntmps66
  go_upto_region 1 with (fail)
  go_cut [25] (fun v25 wc => ∃ (kq : Nat) (x25_1 : Bool), v25 = .bool x25_1 ∧ Aside0 (spec_shGood.j0 kq l0 x25_1 = some r) ∧ Aside0 (kq ≤ k) ∧ Drawn0 w wc)
  case first =>
    have H := HC2.out
    clear HC2
    by_cases c3 : (l0.length : Int) = 0
    · rw [if_pos c3] at H
      have c3b0 : ((l0.length : Int) == 0) = true := beq_iff_eq.mpr c3
      have c3b1 : ((l0.length : Int) != 0) = false := bne_eq_false_iff_eq.mpr c3
      clear c3
      (first | rw [c3b0] | (simp only [i64_w, i32_w]; rw [c3b0]) | skip)
      have H' := Aside0.mk H
      clear H
      go_wp2
      go_meet
      case rel => exact ⟨_, (true), (by first | rfl | (simp; done) | (simp [*]; done)), H', ⟨by first | omega | exact Nat.le_refl _⟩, by repeat (first | exact Drawn0.refl _ | apply Drawn0.step)⟩
    · rw [if_neg c3] at H
      have c3b0 : ((l0.length : Int) == 0) = false := beq_eq_false_iff_ne.mpr c3
      have c3b1 : ((l0.length : Int) != 0) = true := bne_iff_ne.mpr c3
      have c3b2 : ¬ (l0 = []) := fun h_ => c3 (by rw [h_]; rfl)
      (first | rw [c3b0] | (simp only [i64_w, i32_w]; rw [c3b0]) | skip)
      by_cases c4 : (l0.length : Int) > 10
      · rw [if_pos c4] at H
        have c4b0 : decide (10 < (l0.length : Int)) = true := decide_eq_true c4
        have c4b1 : decide (10 < l0.length) = true := decide_eq_true (by omega)
        clear c4
        have H' := Aside0.mk H
        clear H
        go_wp2
        go_meet
        case rel => exact ⟨_, (true), (by first | rfl | (simp; done) | (simp [*]; done)), H', ⟨by first | omega | exact Nat.le_refl _⟩, by repeat (first | exact Drawn0.refl _ | apply Drawn0.step)⟩
      · rw [if_neg c4] at H
        have c4b0 : decide (10 < (l0.length : Int)) = false := decide_eq_false c4
        have c4b1 : decide (10 < l0.length) = false := decide_eq_false (by omega)
        clear c4
        by_cases c5 : 0 < (l0.length : Int)
        · rw [if_pos c5] at H
          have c5b0 : decide (0 < (l0.length : Int)) = true := decide_eq_true c5
          have c5b1 : decide (0 < l0.length) = true := decide_eq_true (by omega)
          clear c5
          replace H := Option.bind_eq_some_iff.mp H
          obtain ⟨t345, A60, H⟩ := H
          replace H : (spec_shGood.j0 k l0 (!t345)) = some r := H
          have A6 := Aside0.mk A60
          clear A60
          have H' := Aside0.mk H
          clear H
          have p344 : 0 ≤ (0 : Int) := (by omega)
          have q344 : 0 < (l0.length : Int) := of_decide_eq_true (by first | (with_reducible assumption) | assumption)
          obtain ⟨ad344, A344_0, c344_0, e344, hx344_0, hl344_0, hi344_0⟩ := at_L1 HR0.out 0 p344 q344
          cases e344
          have qi344 : (0 < l0.length) = True := eq_true (by omega)
          (try rw [show ((0 : Int)).toNat = 0 from rfl] at hx344_0)
          (try rw [Addr.add_zero'] at hx344_0)
          have HR344_0 := Aside0.mk hi344_0
          have HC344_0 := Aside0.mk hl344_0
          clear hi344_0 hl344_0
          replace p344 := eq_true p344
          replace q344 := eq_true q344
          go_wp2_with (first | (go_at_call 69; (with_reducible refine (spec_shSides.calls (l0.length : Int) ((rd_L1 l0 0).length : Int) t345 _ A6.out).mono ?_); rintro e w' ⟨rfl, ⟨nd, rfl⟩⟩))
          go_meet
          case rel => exact ⟨_, (!t345), (by first | rfl | (simp; done) | (simp [*]; done)), H', ⟨by first | omega | exact Nat.le_refl _⟩, by repeat (first | exact Drawn0.refl _ | apply Drawn0.step)⟩
        · rw [if_neg c5] at H
          exact absurd H (by simp)
  case rest =>
    clear HC2
    try clear p2
    try clear c3
    try clear c3b0
    try clear c3b1
    try clear c3b2
    try clear p3
    try clear q3
    try clear hx3
    try clear qi3
    try clear c4
    try clear c4b0
    try clear c4b1
    try clear c5
    try clear c5b0
    try clear c5b1
    try clear c6
    try clear hx344_0
    try clear p344
    try clear q344
    obtain ⟨kq, x25_1, rfl, HA, HJ1, ⟨mc1, rfl⟩⟩ := hcut
    cases kq with
    | zero => exact absurd HA.out (by simp [spec_shGood.j0])
    | succ kj1 =>
      have H := HA.out
      clear HA
      simp only [spec_shGood.j0] at H
      by_cases c7 : x25_1 = true
      · subst c7
        have H1 : (some false) = some r := by rw [if_pos rfl] at H; exact H
        clear H
        have H := H1
        clear H1
        obtain rfl := Option.some.inj H
        go_wp2
        go_ret
        exact ⟨by first | rfl | (simp; done) | (simp [*]; done), by repeat (first | exact Drawn0.refl _ | apply Drawn0.step)⟩
      · replace c7 := Bool.eq_false_iff.mpr c7
        subst c7
        have H1 : (spec_shGood.l0 kj1 l0 0 l0 (l0.length : Int) 0) = some r := by rw [if_neg (show ¬ (false = true) by decide)] at H; exact H
        clear H
        have H := H1
        clear H1
        have H' := Aside0.mk H
        clear H
        go_wp2
        go_loopg [3, 28] kj1 (fun kq v3 v28 w' => ∃ (x3_2 : Int) (x28_2 : Int), v3 = .int .i64 x3_2 ∧ v28 = .int .i64 x28_2 ∧ Aside0 (spec_shGood.l0 kq l0 x3_2 l0 (l0.length : Int) x28_2 = some r) ∧ Aside0 (kq ≤ kj1) ∧ Drawn0 w w')
        case atStart => exact ⟨(0), (0), (by first | rfl | (simp; done) | (simp [*]; done)), (by first | rfl | (simp; done) | (simp [*]; done)), H', ⟨Nat.le_refl _⟩, by repeat (first | exact Drawn0.refl _ | apply Drawn0.step)⟩
        case round =>
          clear H'
          try clear c1
          try clear p2
          try clear c3
          try clear c3b0
          try clear c3b1
          try clear c3b2
          try clear p3
          try clear q3
          try clear hx3
          try clear qi3
          try clear c4
          try clear c4b0
          try clear c4b1
          try clear c5
          try clear c5b0
          try clear c5b1
          try clear c6
          try clear c7
          try clear hx344_0
          try clear p2
          try clear p3
          try clear p344
          try clear q3
          try clear q344
          obtain ⟨x3_2, x28_2, rfl, rfl, HA, HK2, ⟨m2, rfl⟩⟩ := hrel
          cases gk with
          | zero => exact absurd HA.out (by simp [spec_shGood.l0])
          | succ k2 =>
            have H := HA.out
            clear HA
            simp only [spec_shGood.l0] at H
            by_cases c8 : x28_2 < (l0.length : Int)
            · rw [if_pos c8] at H
              have c8b0 : decide (x28_2 < (l0.length : Int)) = true := decide_eq_true c8
              clear c8
              by_cases c9 : 0 ≤ x28_2
              · rw [if_pos c9] at H
                have c9b0 : decide (0 ≤ x28_2) = true := decide_eq_true c9
                clear c9
                by_cases c10 : x28_2 < (l0.length : Int)
                · rw [if_pos c10] at H
                  have c10b0 : decide (x28_2 < (l0.length : Int)) = true := decide_eq_true c10
                  clear c10
                  have HC11 := Aside0.mk H
                  clear H
                  have p346 : 0 ≤ (x28_2 : Int) := of_decide_eq_true (by first | (with_reducible assumption) | assumption)
                  have q346 : x28_2 < (l0.length : Int) := of_decide_eq_true (by first | (with_reducible assumption) | assumption)
                  obtain ⟨ad346, A346_0, c346_0, e346, hx346_0, hl346_0, hi346_0⟩ := at_L1 HR0.out x28_2 p346 q346
                  cases e346
                  have HR346_0 := Aside0.mk hi346_0
                  have HC346_0 := Aside0.mk hl346_0
                  clear hi346_0 hl346_0
                  replace p346 := eq_true p346
                  replace q346 := eq_true q346
                  go_upto_region 7 with (fail)
                  go_cut [50] (fun v50 wc => ∃ (kq : Nat) (x50_10 : Bool), v50 = .bool x50_10 ∧ Aside0 (spec_shGood.j2 kq l0 x3_2 x28_2 (rd_L1 l0 x28_2) l0 (l0.length : Int) x28_2 x50_10 = some r) ∧ Aside0 (kq ≤ k2) ∧ Drawn0 w wc)
                  case first =>
                    have H := HC11.out
                    clear HC11
                    by_cases c12 : 0 < (l0.length : Int)
                    · rw [if_pos c12] at H
                      have c12b0 : decide (0 < (l0.length : Int)) = true := decide_eq_true c12
                      have c12b1 : decide (0 < l0.length) = true := decide_eq_true (by omega)
                      clear c12
                      (first | rw [c12b0] | (simp only [i64_w, i32_w]; rw [c12b0]) | skip)
                      by_cases c13 : ((rd_L1 l0 x28_2).length : Int) = ((rd_L1 l0 0).length : Int)
                      · rw [if_pos c13] at H
                        have c13b0 : (((rd_L1 l0 x28_2).length : Int) == ((rd_L1 l0 0).length : Int)) = true := beq_iff_eq.mpr c13
                        have c13b1 : (((rd_L1 l0 x28_2).length : Int) != ((rd_L1 l0 0).length : Int)) = false := bne_eq_false_iff_eq.mpr c13
                        have c13b2 : ((rd_L1 l0 x28_2).length == (rd_L1 l0 0).length) = true := by first | simpa using c13 | (simp at c13 ⊢; omega)
                        clear c13
                        replace H := Option.bind_eq_some_iff.mp H
                        obtain ⟨t348, A140, H⟩ := H
                        replace H : (spec_shGood.j2 k2 l0 x3_2 x28_2 (rd_L1 l0 x28_2) l0 (l0.length : Int) x28_2 (!t348)) = some r := H
                        have A14 := Aside0.mk A140
                        clear A140
                        have H' := Aside0.mk H
                        clear H
                        have p347 : 0 ≤ (0 : Int) := (by omega)
                        have q347 : 0 < (l0.length : Int) := of_decide_eq_true (by first | (with_reducible assumption) | assumption)
                        obtain ⟨ad347, A347_0, c347_0, e347, hx347_0, hl347_0, hi347_0⟩ := at_L1 HR0.out 0 p347 q347
                        obtain rfl : ad346 = ad347 := (by injection e347)
                        have qi347 : (0 < l0.length) = True := eq_true (by omega)
                        (try rw [show ((0 : Int)).toNat = 0 from rfl] at hx347_0)
                        (try rw [Addr.add_zero'] at hx347_0)
                        have HR347_0 := Aside0.mk hi347_0
                        have HC347_0 := Aside0.mk hl347_0
                        clear hi347_0 hl347_0
                        replace p347 := eq_true p347
                        replace q347 := eq_true q347
                        go_wp2_with (first | (go_at_call 64; (with_reducible refine (spec_l1All.calls k2 _ _ (rd_L1 l0 x28_2) 0 (wrap64 ((wrap64 ((l0.length : Int) * ((rd_L1 l0 x28_2).length : Int))) - 1)) t348 _ ?side1 ?side2 A14.out).mono ?_); (case side1 => repeat (first | exact HR346_0.out | (with_reducible refine Kd.C_alloc ?_ _) | (with_reducible refine Kd.C_drewN ?_ _) | (with_reducible refine Kd.C_drew ?_))); (case side2 => exact HC346_0.out); rintro e w' ⟨rfl, ⟨nd, rfl⟩⟩))
                        go_meet
                        case rel => exact ⟨_, (!t348), (by first | rfl | (simp; done) | (simp [*]; done)), H', ⟨by have := HJ1.out; have := HK2.out; first | omega | exact Nat.le_refl _⟩, by repeat (first | exact Drawn0.refl _ | apply Drawn0.step)⟩
                      · rw [if_neg c13] at H
                        have c13b0 : (((rd_L1 l0 x28_2).length : Int) == ((rd_L1 l0 0).length : Int)) = false := beq_eq_false_iff_ne.mpr c13
                        have c13b1 : (((rd_L1 l0 x28_2).length : Int) != ((rd_L1 l0 0).length : Int)) = true := bne_iff_ne.mpr c13
                        have c13b2 : ((rd_L1 l0 x28_2).length == (rd_L1 l0 0).length) = false := by first | simpa using c13 | (simp at c13 ⊢; omega)
                        have H' := Aside0.mk H
                        clear H
                        have p347 : 0 ≤ (0 : Int) := (by omega)
                        have q347 : 0 < (l0.length : Int) := of_decide_eq_true (by first | (with_reducible assumption) | assumption)
                        obtain ⟨ad347, A347_0, c347_0, e347, hx347_0, hl347_0, hi347_0⟩ := at_L1 HR0.out 0 p347 q347
                        obtain rfl : ad346 = ad347 := (by injection e347)
                        have qi347 : (0 < l0.length) = True := eq_true (by omega)
                        (try rw [show ((0 : Int)).toNat = 0 from rfl] at hx347_0)
                        (try rw [Addr.add_zero'] at hx347_0)
                        have HR347_0 := Aside0.mk hi347_0
                        have HC347_0 := Aside0.mk hl347_0
                        clear hi347_0 hl347_0
                        replace p347 := eq_true p347
                        replace q347 := eq_true q347
                        go_wp2
                        go_meet
                        case rel => exact ⟨_, (true), (by first | rfl | (simp; done) | (simp [*]; done)), H', ⟨by have := HJ1.out; have := HK2.out; first | omega | exact Nat.le_refl _⟩, by repeat (first | exact Drawn0.refl _ | apply Drawn0.step)⟩
                    · rw [if_neg c12] at H
                      exact absurd H (by simp)
                  case rest =>
                    clear HC11
                    try clear c1
                    try clear p2
                    try clear c3
                    try clear c3b0
                    try clear c3b1
                    try clear c3b2
                    try clear p3
                    try clear q3
                    try clear hx3
                    try clear qi3
                    try clear c4
                    try clear c4b0
                    try clear c4b1
                    try clear c5
                    try clear c5b0
                    try clear c5b1
                    try clear c6
                    try clear p6
                    try clear c7
                    try clear c8
                    try clear c8b0
                    try clear c9
                    try clear c9b0
                    try clear c10
                    try clear c10b0
                    try clear c12
                    try clear c12b0
                    try clear c12b1
                    try clear c13
                    try clear c13b0
                    try clear c13b1
                    try clear c13b2
                    try clear hx344_0
                    try clear hx346_0
                    try clear hx347_0
                    try clear p2
                    try clear p3
                    try clear p344
                    try clear p346
                    try clear p347
                    try clear q3
                    try clear q344
                    try clear q346
                    try clear q347
                    obtain ⟨kq, x50_10, rfl, HA, HJ10, ⟨mc10, rfl⟩⟩ := hcut
                    cases kq with
                    | zero => exact absurd HA.out (by simp [spec_shGood.j2])
                    | succ kj10 =>
                      have H := HA.out
                      clear HA
                      simp only [spec_shGood.j2] at H
                      by_cases c15 : x50_10 = true
                      · subst c15
                        have H1 : (some false) = some r := by rw [if_pos rfl] at H; exact H
                        clear H
                        have H := H1
                        clear H1
                        obtain rfl := Option.some.inj H
                        go_wp2
                        go_ret
                        exact ⟨by first | rfl | (simp; done) | (simp [*]; done), by repeat (first | exact Drawn0.refl _ | apply Drawn0.step)⟩
                      · replace c15 := Bool.eq_false_iff.mpr c15
                        subst c15
                        have H1 : (spec_shGood.l1 kj10 l0 x3_2 x28_2 (rd_L1 l0 x28_2) l0 (l0.length : Int) x28_2 (rd_L1 l0 x28_2) ((rd_L1 l0 x28_2).length : Int) 0) = some r := by rw [if_neg (show ¬ (false = true) by decide)] at H; exact H
                        clear H
                        have H := H1
                        clear H1
                        have H' := Aside0.mk H
                        clear H
                        go_wp2
                        go_loopg [3, 53] kj10 (fun kq v3 v53 w' => ∃ (x3_4 : Int) (x53_4 : Int), v3 = .int .i64 x3_4 ∧ v53 = .int .i64 x53_4 ∧ Aside0 (spec_shGood.l1 kq l0 x3_4 x28_2 (rd_L1 l0 x28_2) l0 (l0.length : Int) x28_2 (rd_L1 l0 x28_2) ((rd_L1 l0 x28_2).length : Int) x53_4 = some r) ∧ Aside0 (kq ≤ kj10) ∧ Drawn0 w w')
                        case atStart => exact ⟨(x3_2), (0), (by first | rfl | (simp; done) | (simp [*]; done)), (by first | rfl | (simp; done) | (simp [*]; done)), H', ⟨Nat.le_refl _⟩, by repeat (first | exact Drawn0.refl _ | apply Drawn0.step)⟩
                        case round =>
                          clear H'
                          try clear c1
                          try clear p2
                          try clear c3
                          try clear c3b0
                          try clear c3b1
                          try clear c3b2
                          try clear p3
                          try clear q3
                          try clear hx3
                          try clear qi3
                          try clear c4
                          try clear c4b0
                          try clear c4b1
                          try clear c5
                          try clear c5b0
                          try clear c5b1
                          try clear c6
                          try clear p6
                          try clear c7
                          try clear c8
                          try clear c8b0
                          try clear c9
                          try clear c9b0
                          try clear c10
                          try clear c10b0
                          try clear c12
                          try clear c12b0
                          try clear c12b1
                          try clear c13
                          try clear c13b0
                          try clear c13b1
                          try clear c13b2
                          try clear c15
                          try clear hx344_0
                          try clear hx346_0
                          try clear hx347_0
                          try clear p2
                          try clear p3
                          try clear p344
                          try clear p346
                          try clear p347
                          try clear p6
                          try clear q3
                          try clear q344
                          try clear q346
                          try clear q347
                          obtain ⟨x3_4, x53_4, rfl, rfl, HA, HK4, ⟨m4, rfl⟩⟩ := hrel
                          cases gk with
                          | zero => exact absurd HA.out (by simp [spec_shGood.l1])
                          | succ k4 =>
                            have H := HA.out
                            clear HA
                            simp only [spec_shGood.l1] at H
                            by_cases c16 : x53_4 < ((rd_L1 l0 x28_2).length : Int)
                            · rw [if_pos c16] at H
                              have c16b0 : decide (x53_4 < ((rd_L1 l0 x28_2).length : Int)) = true := decide_eq_true c16
                              clear c16
                              by_cases c17 : 0 ≤ x53_4
                              · rw [if_pos c17] at H
                                have c17b0 : decide (0 ≤ x53_4) = true := decide_eq_true c17
                                clear c17
                                by_cases c18 : x53_4 < ((rd_L1 l0 x28_2).length : Int)
                                · rw [if_pos c18] at H
                                  have c18b0 : decide (x53_4 < ((rd_L1 l0 x28_2).length : Int)) = true := decide_eq_true c18
                                  clear c18
                                  replace H := Option.bind_eq_some_iff.mp H
                                  obtain ⟨t350, A190, H⟩ := H
                                  replace H : (if t350 = true then (some false) else (if x53_4 > 0 then (if 0 ≤ (wrap64 (x53_4 - 1)) then (if (wrap64 (x53_4 - 1)) < ((rd_L1 l0 x28_2).length : Int) then (if (rd (rd_L1 l0 x28_2) (wrap64 (x53_4 - 1))) > (rd (rd_L1 l0 x28_2) x53_4) then (some false) else (if x28_2 > 0 then (if 0 ≤ (wrap64 (x28_2 - 1)) then (if (wrap64 (x28_2 - 1)) < (l0.length : Int) then (if x53_4 < ((rd_L1 l0 (wrap64 (x28_2 - 1))).length : Int) then (if (rd (rd_L1 l0 (wrap64 (x28_2 - 1))) x53_4) > (rd (rd_L1 l0 x28_2) x53_4) then (some false) else (if 0 ≤ (rd (rd_L1 l0 x28_2) x53_4) then (spec_shGood.l1 k4 l0 (Go.bits .or .i64 x3_4 (shl .i64 1 (rd (rd_L1 l0 x28_2) x53_4))) x28_2 (rd_L1 l0 x28_2) l0 (l0.length : Int) x28_2 (rd_L1 l0 x28_2) ((rd_L1 l0 x28_2).length : Int) (wrap64 (x53_4 + 1))) else (none))) else (none)) else (none)) else (none)) else (if 0 ≤ (rd (rd_L1 l0 x28_2) x53_4) then (spec_shGood.l1 k4 l0 (Go.bits .or .i64 x3_4 (shl .i64 1 (rd (rd_L1 l0 x28_2) x53_4))) x28_2 (rd_L1 l0 x28_2) l0 (l0.length : Int) x28_2 (rd_L1 l0 x28_2) ((rd_L1 l0 x28_2).length : Int) (wrap64 (x53_4 + 1))) else (none)))) else (none)) else (none)) else (if x28_2 > 0 then (if 0 ≤ (wrap64 (x28_2 - 1)) then (if (wrap64 (x28_2 - 1)) < (l0.length : Int) then (if x53_4 < ((rd_L1 l0 (wrap64 (x28_2 - 1))).length : Int) then (if (rd (rd_L1 l0 (wrap64 (x28_2 - 1))) x53_4) > (rd (rd_L1 l0 x28_2) x53_4) then (some false) else (if 0 ≤ (rd (rd_L1 l0 x28_2) x53_4) then (spec_shGood.l1 k4 l0 (Go.bits .or .i64 x3_4 (shl .i64 1 (rd (rd_L1 l0 x28_2) x53_4))) x28_2 (rd_L1 l0 x28_2) l0 (l0.length : Int) x28_2 (rd_L1 l0 x28_2) ((rd_L1 l0 x28_2).length : Int) (wrap64 (x53_4 + 1))) else (none))) else (none)) else (none)) else (none)) else (if 0 ≤ (rd (rd_L1 l0 x28_2) x53_4) then (spec_shGood.l1 k4 l0 (Go.bits .or .i64 x3_4 (shl .i64 1 (rd (rd_L1 l0 x28_2) x53_4))) x28_2 (rd_L1 l0 x28_2) l0 (l0.length : Int) x28_2 (rd_L1 l0 x28_2) ((rd_L1 l0 x28_2).length : Int) (wrap64 (x53_4 + 1))) else (none))))) = some r := H
                                  have A19 := Aside0.mk A190
                                  clear A190
                                  by_cases c20 : t350 = true
                                  · subst c20
                                    have H1 : (some false) = some r := by rw [if_pos rfl] at H; exact H
                                    clear H
                                    have H := H1
                                    clear H1
                                    obtain rfl := Option.some.inj H
                                    have p349 : 0 ≤ (x53_4 : Int) := of_decide_eq_true (by first | (with_reducible assumption) | assumption)
                                    have q349 : x53_4 < ((rd_L1 l0 x28_2).length : Int) := of_decide_eq_true (by first | (with_reducible assumption) | assumption)
                                    obtain ⟨ad349, e349, hx349_0⟩ := Kd.at_int HR346_0.out x53_4 p349 q349
                                    cases e349
                                    replace p349 := eq_true p349
                                    replace q349 := eq_true q349
                                    go_wp2_with (first | ((with_reducible refine gate_callee (f := 61) rfl ?_); refine goesL_ (some 60) rfl rfl Try.func61 (by kernel_rfl) rfl #[.int .i64 x3_4, .int .i64 (rd (rd_L1 l0 x28_2) x53_4)] rfl (by (try simp only [List.map_toArray, List.map_cons, List.map_nil]); first | done | rfl | (simp only [List.length_drop, List.length_take]; rfl)) ?_; (with_reducible refine (spec_poIn.calls x3_4 (rd (rd_L1 l0 x28_2) x53_4) true _ A19.out).mono ?_); rintro e w' ⟨rfl, ⟨nd, rfl⟩⟩; refine ⟨_, rfl, ?_⟩))
                                    go_ret
                                    exact ⟨by first | rfl | (simp; done) | (simp [*]; done), by repeat (first | exact Drawn0.refl _ | apply Drawn0.step)⟩
                                  · replace c20 := Bool.eq_false_iff.mpr c20
                                    subst c20
                                    have H1 : (if x53_4 > 0 then (if 0 ≤ (wrap64 (x53_4 - 1)) then (if (wrap64 (x53_4 - 1)) < ((rd_L1 l0 x28_2).length : Int) then (if (rd (rd_L1 l0 x28_2) (wrap64 (x53_4 - 1))) > (rd (rd_L1 l0 x28_2) x53_4) then (some false) else (if x28_2 > 0 then (if 0 ≤ (wrap64 (x28_2 - 1)) then (if (wrap64 (x28_2 - 1)) < (l0.length : Int) then (if x53_4 < ((rd_L1 l0 (wrap64 (x28_2 - 1))).length : Int) then (if (rd (rd_L1 l0 (wrap64 (x28_2 - 1))) x53_4) > (rd (rd_L1 l0 x28_2) x53_4) then (some false) else (if 0 ≤ (rd (rd_L1 l0 x28_2) x53_4) then (spec_shGood.l1 k4 l0 (Go.bits .or .i64 x3_4 (shl .i64 1 (rd (rd_L1 l0 x28_2) x53_4))) x28_2 (rd_L1 l0 x28_2) l0 (l0.length : Int) x28_2 (rd_L1 l0 x28_2) ((rd_L1 l0 x28_2).length : Int) (wrap64 (x53_4 + 1))) else (none))) else (none)) else (none)) else (none)) else (if 0 ≤ (rd (rd_L1 l0 x28_2) x53_4) then (spec_shGood.l1 k4 l0 (Go.bits .or .i64 x3_4 (shl .i64 1 (rd (rd_L1 l0 x28_2) x53_4))) x28_2 (rd_L1 l0 x28_2) l0 (l0.length : Int) x28_2 (rd_L1 l0 x28_2) ((rd_L1 l0 x28_2).length : Int) (wrap64 (x53_4 + 1))) else (none)))) else (none)) else (none)) else (if x28_2 > 0 then (if 0 ≤ (wrap64 (x28_2 - 1)) then (if (wrap64 (x28_2 - 1)) < (l0.length : Int) then (if x53_4 < ((rd_L1 l0 (wrap64 (x28_2 - 1))).length : Int) then (if (rd (rd_L1 l0 (wrap64 (x28_2 - 1))) x53_4) > (rd (rd_L1 l0 x28_2) x53_4) then (some false) else (if 0 ≤ (rd (rd_L1 l0 x28_2) x53_4) then (spec_shGood.l1 k4 l0 (Go.bits .or .i64 x3_4 (shl .i64 1 (rd (rd_L1 l0 x28_2) x53_4))) x28_2 (rd_L1 l0 x28_2) l0 (l0.length : Int) x28_2 (rd_L1 l0 x28_2) ((rd_L1 l0 x28_2).length : Int) (wrap64 (x53_4 + 1))) else (none))) else (none)) else (none)) else (none)) else (if 0 ≤ (rd (rd_L1 l0 x28_2) x53_4) then (spec_shGood.l1 k4 l0 (Go.bits .or .i64 x3_4 (shl .i64 1 (rd (rd_L1 l0 x28_2) x53_4))) x28_2 (rd_L1 l0 x28_2) l0 (l0.length : Int) x28_2 (rd_L1 l0 x28_2) ((rd_L1 l0 x28_2).length : Int) (wrap64 (x53_4 + 1))) else (none)))) = some r := by rw [if_neg (show ¬ (false = true) by decide)] at H; exact H
                                    clear H
                                    have H := H1
                                    clear H1
                                    by_cases c21 : x53_4 > 0
                                    · rw [if_pos c21] at H
                                      have c21b0 : decide (0 < x53_4) = true := decide_eq_true c21
                                      clear c21
                                      obtain ⟨ji22, hji22⟩ : ∃ j_ : Int, (wrap64 (x53_4 - 1)) = j_ := ⟨_, rfl⟩
                                      replace H : (if 0 ≤ (ji22) then (if (ji22) < ((rd_L1 l0 x28_2).length : Int) then (if (rd (rd_L1 l0 x28_2) (ji22)) > (rd (rd_L1 l0 x28_2) x53_4) then (some false) else (if x28_2 > 0 then (if 0 ≤ (wrap64 (x28_2 - 1)) then (if (wrap64 (x28_2 - 1)) < (l0.length : Int) then (if x53_4 < ((rd_L1 l0 (wrap64 (x28_2 - 1))).length : Int) then (if (rd (rd_L1 l0 (wrap64 (x28_2 - 1))) x53_4) > (rd (rd_L1 l0 x28_2) x53_4) then (some false) else (if 0 ≤ (rd (rd_L1 l0 x28_2) x53_4) then (spec_shGood.l1 k4 l0 (Go.bits .or .i64 x3_4 (shl .i64 1 (rd (rd_L1 l0 x28_2) x53_4))) x28_2 (rd_L1 l0 x28_2) l0 (l0.length : Int) x28_2 (rd_L1 l0 x28_2) ((rd_L1 l0 x28_2).length : Int) (wrap64 (x53_4 + 1))) else (none))) else (none)) else (none)) else (none)) else (if 0 ≤ (rd (rd_L1 l0 x28_2) x53_4) then (spec_shGood.l1 k4 l0 (Go.bits .or .i64 x3_4 (shl .i64 1 (rd (rd_L1 l0 x28_2) x53_4))) x28_2 (rd_L1 l0 x28_2) l0 (l0.length : Int) x28_2 (rd_L1 l0 x28_2) ((rd_L1 l0 x28_2).length : Int) (wrap64 (x53_4 + 1))) else (none)))) else (none)) else (none)) = some r := by first | (rw [hji22] at H; exact H) | (simp only [hji22] at H ⊢; exact H)
                                      (try rw [hji22] at A19)
                                      have hji22w : (IntKind.i64.wrap (x53_4 - 1)) = ji22 := (i64_w _).trans hji22
                                      by_cases c23 : 0 ≤ (ji22)
                                      · rw [if_pos c23] at H
                                        have c23b0 : decide (0 ≤ (ji22)) = true := decide_eq_true c23
                                        clear c23
                                        by_cases c24 : (ji22) < ((rd_L1 l0 x28_2).length : Int)
                                        · rw [if_pos c24] at H
                                          have c24b0 : decide ((ji22) < ((rd_L1 l0 x28_2).length : Int)) = true := decide_eq_true c24
                                          clear c24
                                          by_cases c25 : (rd (rd_L1 l0 x28_2) (ji22)) > (rd (rd_L1 l0 x28_2) x53_4)
                                          · rw [if_pos c25] at H
                                            have c25b0 : decide ((rd (rd_L1 l0 x28_2) x53_4) < (rd (rd_L1 l0 x28_2) (ji22))) = true := decide_eq_true c25
                                            clear c25
                                            obtain rfl := Option.some.inj H
                                            have p349 : 0 ≤ (x53_4 : Int) := of_decide_eq_true (by first | (with_reducible assumption) | assumption)
                                            have q349 : x53_4 < ((rd_L1 l0 x28_2).length : Int) := of_decide_eq_true (by first | (with_reducible assumption) | assumption)
                                            obtain ⟨ad349, e349, hx349_0⟩ := Kd.at_int HR346_0.out x53_4 p349 q349
                                            cases e349
                                            replace p349 := eq_true p349
                                            replace q349 := eq_true q349
                                            go_wp2_with (first | ((with_reducible refine gate_callee (f := 61) rfl ?_); refine goesL_ (some 60) rfl rfl Try.func61 (by kernel_rfl) rfl #[.int .i64 x3_4, .int .i64 (rd (rd_L1 l0 x28_2) x53_4)] rfl (by (try simp only [List.map_toArray, List.map_cons, List.map_nil]); first | done | rfl | (simp only [List.length_drop, List.length_take]; rfl)) ?_; (with_reducible refine (spec_poIn.calls x3_4 (rd (rd_L1 l0 x28_2) x53_4) false _ A19.out).mono ?_); rintro e w' ⟨rfl, ⟨nd, rfl⟩⟩; refine ⟨_, rfl, ?_⟩; have p351 : 0 ≤ ((ji22) : Int) := of_decide_eq_true (by first | (with_reducible assumption) | assumption); have q351 : (ji22) < ((rd_L1 l0 x28_2).length : Int) := of_decide_eq_true (by first | (with_reducible assumption) | assumption); obtain ⟨ad351, e351, hx351_0⟩ := Kd.at_int HR346_0.out (ji22) p351 q351; obtain rfl : ad349 = ad351 := (by injection e351); replace p351 := eq_true p351; replace q351 := eq_true q351))
                                            go_ret
                                            exact ⟨by first | rfl | (simp; done) | (simp only [← hji22] <;> (first | rfl | simp)) | (simp [*]; done), by repeat (first | exact Drawn0.refl _ | apply Drawn0.step)⟩
                                          · rw [if_neg c25] at H
                                            have c25b0 : decide ((rd (rd_L1 l0 x28_2) x53_4) < (rd (rd_L1 l0 x28_2) (ji22))) = false := decide_eq_false c25
                                            clear c25
                                            by_cases c26 : x28_2 > 0
                                            · rw [if_pos c26] at H
                                              have c26b0 : decide (0 < x28_2) = true := decide_eq_true c26
                                              clear c26
                                              obtain ⟨ji27, hji27⟩ : ∃ j_ : Int, (wrap64 (x28_2 - 1)) = j_ := ⟨_, rfl⟩
                                              replace H : (if 0 ≤ (ji27) then (if (ji27) < (l0.length : Int) then (if x53_4 < ((rd_L1 l0 (ji27)).length : Int) then (if (rd (rd_L1 l0 (ji27)) x53_4) > (rd (rd_L1 l0 x28_2) x53_4) then (some false) else (if 0 ≤ (rd (rd_L1 l0 x28_2) x53_4) then (spec_shGood.l1 k4 l0 (Go.bits .or .i64 x3_4 (shl .i64 1 (rd (rd_L1 l0 x28_2) x53_4))) x28_2 (rd_L1 l0 x28_2) l0 (l0.length : Int) x28_2 (rd_L1 l0 x28_2) ((rd_L1 l0 x28_2).length : Int) (wrap64 (x53_4 + 1))) else (none))) else (none)) else (none)) else (none)) = some r := by first | (rw [hji27] at H; exact H) | (simp only [hji27] at H ⊢; exact H)
                                              (try rw [hji27] at A19)
                                              have hji27w : (IntKind.i64.wrap (x28_2 - 1)) = ji27 := (i64_w _).trans hji27
                                              by_cases c28 : 0 ≤ (ji27)
                                              · rw [if_pos c28] at H
                                                have c28b0 : decide (0 ≤ (ji27)) = true := decide_eq_true c28
                                                clear c28
                                                by_cases c29 : (ji27) < (l0.length : Int)
                                                · rw [if_pos c29] at H
                                                  have c29b0 : decide ((ji27) < (l0.length : Int)) = true := decide_eq_true c29
                                                  clear c29
                                                  by_cases c30 : x53_4 < ((rd_L1 l0 (ji27)).length : Int)
                                                  · rw [if_pos c30] at H
                                                    have c30b0 : decide (x53_4 < ((rd_L1 l0 (ji27)).length : Int)) = true := decide_eq_true c30
                                                    clear c30
                                                    by_cases c31 : (rd (rd_L1 l0 (ji27)) x53_4) > (rd (rd_L1 l0 x28_2) x53_4)
                                                    · rw [if_pos c31] at H
                                                      have c31b0 : decide ((rd (rd_L1 l0 x28_2) x53_4) < (rd (rd_L1 l0 (ji27)) x53_4)) = true := decide_eq_true c31
                                                      clear c31
                                                      obtain rfl := Option.some.inj H
                                                      have p349 : 0 ≤ (x53_4 : Int) := of_decide_eq_true (by first | (with_reducible assumption) | assumption)
                                                      have q349 : x53_4 < ((rd_L1 l0 x28_2).length : Int) := of_decide_eq_true (by first | (with_reducible assumption) | assumption)
                                                      obtain ⟨ad349, e349, hx349_0⟩ := Kd.at_int HR346_0.out x53_4 p349 q349
                                                      cases e349
                                                      replace p349 := eq_true p349
                                                      replace q349 := eq_true q349
                                                      go_wp2_with (first | ((with_reducible refine gate_callee (f := 61) rfl ?_); refine goesL_ (some 60) rfl rfl Try.func61 (by kernel_rfl) rfl #[.int .i64 x3_4, .int .i64 (rd (rd_L1 l0 x28_2) x53_4)] rfl (by (try simp only [List.map_toArray, List.map_cons, List.map_nil]); first | done | rfl | (simp only [List.length_drop, List.length_take]; rfl)) ?_; (with_reducible refine (spec_poIn.calls x3_4 (rd (rd_L1 l0 x28_2) x53_4) false _ A19.out).mono ?_); rintro e w' ⟨rfl, ⟨nd, rfl⟩⟩; refine ⟨_, rfl, ?_⟩; have p351 : 0 ≤ ((ji22) : Int) := of_decide_eq_true (by first | (with_reducible assumption) | assumption); have q351 : (ji22) < ((rd_L1 l0 x28_2).length : Int) := of_decide_eq_true (by first | (with_reducible assumption) | assumption); obtain ⟨ad351, e351, hx351_0⟩ := Kd.at_int HR346_0.out (ji22) p351 q351; obtain rfl : ad349 = ad351 := (by injection e351); replace p351 := eq_true p351; replace q351 := eq_true q351; have p352 : 0 ≤ ((ji27) : Int) := of_decide_eq_true (by first | (with_reducible assumption) | assumption); have q352 : (ji27) < (l0.length : Int) := of_decide_eq_true (by first | (with_reducible assumption) | assumption); obtain ⟨ad352, A352_0, c352_0, e352, hx352_0, hl352_0, hi352_0⟩ := at_L1 HR0.out (ji27) p352 q352; obtain rfl : ad346 = ad352 := (by injection e352); have HR352_0 := Aside0.mk hi352_0; have HC352_0 := Aside0.mk hl352_0; clear hi352_0 hl352_0; replace p352 := eq_true p352; replace q352 := eq_true q352; have p353 : 0 ≤ (x53_4 : Int) := of_decide_eq_true (by first | (with_reducible assumption) | assumption); have q353 : x53_4 < ((rd_L1 l0 (ji27)).length : Int) := of_decide_eq_true (by first | (with_reducible assumption) | assumption); obtain ⟨ad353, e353, hx353_0⟩ := Kd.at_int HR352_0.out x53_4 p353 q353; cases e353; replace p353 := eq_true p353; replace q353 := eq_true q353))
                                                      go_ret
                                                      exact ⟨by first | rfl | (simp; done) | (simp only [← hji22, ← hji27] <;> (first | rfl | simp)) | (simp [*]; done), by repeat (first | exact Drawn0.refl _ | apply Drawn0.step)⟩
                                                    · rw [if_neg c31] at H
                                                      have c31b0 : decide ((rd (rd_L1 l0 x28_2) x53_4) < (rd (rd_L1 l0 (ji27)) x53_4)) = false := decide_eq_false c31
                                                      clear c31
                                                      by_cases c32 : 0 ≤ (rd (rd_L1 l0 x28_2) x53_4)
                                                      · rw [if_pos c32] at H
                                                        have c32b0 := eq_true c32
                                                        have c32b1 : decide (0 ≤ (rd (rd_L1 l0 x28_2) x53_4)) = true := decide_eq_true c32
                                                        clear c32
                                                        obtain ⟨ji33, hji33⟩ : ∃ j_ : Int, (shl .i64 1 (rd (rd_L1 l0 x28_2) x53_4)) = j_ := ⟨_, rfl⟩
                                                        replace H : (spec_shGood.l1 k4 l0 (Go.bits .or .i64 x3_4 (ji33)) x28_2 (rd_L1 l0 x28_2) l0 (l0.length : Int) x28_2 (rd_L1 l0 x28_2) ((rd_L1 l0 x28_2).length : Int) (wrap64 (x53_4 + 1))) = some r := by first | (rw [hji33] at H; exact H) | (simp only [hji33] at H ⊢; exact H)
                                                        (try rw [hji33] at A19)
                                                        have hji33_ : (IntKind.i64.wrap (1 * 2 ^ min (rd (rd_L1 l0 x28_2) x53_4).toNat 64)) = ji33 := hji33
                                                        have hji33z : (rd (rd_L1 l0 x28_2) x53_4) ≤ 64 → (IntKind.i64.wrap (1 * 2 ^ (rd (rd_L1 l0 x28_2) x53_4).toNat)) = ji33 := shl_small hji33
                                                        have hji33u : (IntKind.i64.wrap (2 ^ min (rd (rd_L1 l0 x28_2) x53_4).toNat 64)) = ji33 := by have h_ := hji33_; rw [Int.one_mul] at h_; exact h_
                                                        have hji33v : (rd (rd_L1 l0 x28_2) x53_4) ≤ 64 → (IntKind.i64.wrap (2 ^ (rd (rd_L1 l0 x28_2) x53_4).toNat)) = ji33 := fun hle_ => by have h_ := hji33z hle_; rw [Int.one_mul] at h_; exact h_
                                                        have hji33y : (wrap64 (1 * 2 ^ min (rd (rd_L1 l0 x28_2) x53_4).toNat 64)) = ji33 := (i64_w _).symm.trans hji33_
                                                        have hji33x : (rd (rd_L1 l0 x28_2) x53_4) ≤ 64 → (wrap64 (1 * 2 ^ (rd (rd_L1 l0 x28_2) x53_4).toNat)) = ji33 := fun h_ => (i64_w _).symm.trans (hji33z h_)
                                                        have H' := Aside0.mk H
                                                        clear H
                                                        have p349 : 0 ≤ (x53_4 : Int) := of_decide_eq_true (by first | (with_reducible assumption) | assumption)
                                                        have q349 : x53_4 < ((rd_L1 l0 x28_2).length : Int) := of_decide_eq_true (by first | (with_reducible assumption) | assumption)
                                                        obtain ⟨ad349, e349, hx349_0⟩ := Kd.at_int HR346_0.out x53_4 p349 q349
                                                        cases e349
                                                        replace p349 := eq_true p349
                                                        replace q349 := eq_true q349
                                                        go_wp2_with (first | ((with_reducible refine gate_callee (f := 61) rfl ?_); refine goesL_ (some 60) rfl rfl Try.func61 (by kernel_rfl) rfl #[.int .i64 x3_4, .int .i64 (rd (rd_L1 l0 x28_2) x53_4)] rfl (by (try simp only [List.map_toArray, List.map_cons, List.map_nil]); first | done | rfl | (simp only [List.length_drop, List.length_take]; rfl)) ?_; (with_reducible refine (spec_poIn.calls x3_4 (rd (rd_L1 l0 x28_2) x53_4) false _ A19.out).mono ?_); rintro e w' ⟨rfl, ⟨nd, rfl⟩⟩; refine ⟨_, rfl, ?_⟩; have p351 : 0 ≤ ((ji22) : Int) := of_decide_eq_true (by first | (with_reducible assumption) | assumption); have q351 : (ji22) < ((rd_L1 l0 x28_2).length : Int) := of_decide_eq_true (by first | (with_reducible assumption) | assumption); obtain ⟨ad351, e351, hx351_0⟩ := Kd.at_int HR346_0.out (ji22) p351 q351; obtain rfl : ad349 = ad351 := (by injection e351); replace p351 := eq_true p351; replace q351 := eq_true q351; have p352 : 0 ≤ ((ji27) : Int) := of_decide_eq_true (by first | (with_reducible assumption) | assumption); have q352 : (ji27) < (l0.length : Int) := of_decide_eq_true (by first | (with_reducible assumption) | assumption); obtain ⟨ad352, A352_0, c352_0, e352, hx352_0, hl352_0, hi352_0⟩ := at_L1 HR0.out (ji27) p352 q352; obtain rfl : ad346 = ad352 := (by injection e352); have HR352_0 := Aside0.mk hi352_0; have HC352_0 := Aside0.mk hl352_0; clear hi352_0 hl352_0; replace p352 := eq_true p352; replace q352 := eq_true q352; have p353 : 0 ≤ (x53_4 : Int) := of_decide_eq_true (by first | (with_reducible assumption) | assumption); have q353 : x53_4 < ((rd_L1 l0 (ji27)).length : Int) := of_decide_eq_true (by first | (with_reducible assumption) | assumption); obtain ⟨ad353, e353, hx353_0⟩ := Kd.at_int HR352_0.out x53_4 p353 q353; cases e353; replace p353 := eq_true p353; replace q353 := eq_true q353))
                                                        go_roundg k4
                                                        case measure => have := HJ1.out; have := HK2.out; have := HJ10.out; have := HK4.out; omega
                                                        case rel => exact ⟨(Go.bits .or .i64 x3_4 (ji33)), (wrap64 (x53_4 + 1)), (by first | rfl | (simp; done) | (simp only [← hji33] <;> (first | rfl | simp)) | (simp [*]; done)), (by first | rfl | (simp; done) | (simp [*]; done)), H', ⟨by have := HJ1.out; have := HK2.out; have := HJ10.out; have := HK4.out; omega⟩, by repeat (first | exact Drawn0.refl _ | apply Drawn0.step)⟩
                                                      · rw [if_neg c32] at H
                                                        exact absurd H (by simp)
                                                  · rw [if_neg c30] at H
                                                    exact absurd H (by simp)
                                                · rw [if_neg c29] at H
                                                  exact absurd H (by simp)
                                              · rw [if_neg c28] at H
                                                exact absurd H (by simp)
                                            · rw [if_neg c26] at H
                                              have c26b0 : decide (0 < x28_2) = false := decide_eq_false c26
                                              clear c26
                                              by_cases c34 : 0 ≤ (rd (rd_L1 l0 x28_2) x53_4)
                                              · rw [if_pos c34] at H
                                                have c34b0 := eq_true c34
                                                have c34b1 : decide (0 ≤ (rd (rd_L1 l0 x28_2) x53_4)) = true := decide_eq_true c34
                                                clear c34
                                                obtain ⟨ji35, hji35⟩ : ∃ j_ : Int, (shl .i64 1 (rd (rd_L1 l0 x28_2) x53_4)) = j_ := ⟨_, rfl⟩
                                                replace H : (spec_shGood.l1 k4 l0 (Go.bits .or .i64 x3_4 (ji35)) x28_2 (rd_L1 l0 x28_2) l0 (l0.length : Int) x28_2 (rd_L1 l0 x28_2) ((rd_L1 l0 x28_2).length : Int) (wrap64 (x53_4 + 1))) = some r := by first | (rw [hji35] at H; exact H) | (simp only [hji35] at H ⊢; exact H)
                                                (try rw [hji35] at A19)
                                                have hji35_ : (IntKind.i64.wrap (1 * 2 ^ min (rd (rd_L1 l0 x28_2) x53_4).toNat 64)) = ji35 := hji35
                                                have hji35z : (rd (rd_L1 l0 x28_2) x53_4) ≤ 64 → (IntKind.i64.wrap (1 * 2 ^ (rd (rd_L1 l0 x28_2) x53_4).toNat)) = ji35 := shl_small hji35
                                                have hji35u : (IntKind.i64.wrap (2 ^ min (rd (rd_L1 l0 x28_2) x53_4).toNat 64)) = ji35 := by have h_ := hji35_; rw [Int.one_mul] at h_; exact h_
                                                have hji35v : (rd (rd_L1 l0 x28_2) x53_4) ≤ 64 → (IntKind.i64.wrap (2 ^ (rd (rd_L1 l0 x28_2) x53_4).toNat)) = ji35 := fun hle_ => by have h_ := hji35z hle_; rw [Int.one_mul] at h_; exact h_
                                                have hji35y : (wrap64 (1 * 2 ^ min (rd (rd_L1 l0 x28_2) x53_4).toNat 64)) = ji35 := (i64_w _).symm.trans hji35_
                                                have hji35x : (rd (rd_L1 l0 x28_2) x53_4) ≤ 64 → (wrap64 (1 * 2 ^ (rd (rd_L1 l0 x28_2) x53_4).toNat)) = ji35 := fun h_ => (i64_w _).symm.trans (hji35z h_)
                                                have H' := Aside0.mk H
                                                clear H
                                                have p349 : 0 ≤ (x53_4 : Int) := of_decide_eq_true (by first | (with_reducible assumption) | assumption)
                                                have q349 : x53_4 < ((rd_L1 l0 x28_2).length : Int) := of_decide_eq_true (by first | (with_reducible assumption) | assumption)
                                                obtain ⟨ad349, e349, hx349_0⟩ := Kd.at_int HR346_0.out x53_4 p349 q349
                                                cases e349
                                                replace p349 := eq_true p349
                                                replace q349 := eq_true q349
                                                go_wp2_with (first | ((with_reducible refine gate_callee (f := 61) rfl ?_); refine goesL_ (some 60) rfl rfl Try.func61 (by kernel_rfl) rfl #[.int .i64 x3_4, .int .i64 (rd (rd_L1 l0 x28_2) x53_4)] rfl (by (try simp only [List.map_toArray, List.map_cons, List.map_nil]); first | done | rfl | (simp only [List.length_drop, List.length_take]; rfl)) ?_; (with_reducible refine (spec_poIn.calls x3_4 (rd (rd_L1 l0 x28_2) x53_4) false _ A19.out).mono ?_); rintro e w' ⟨rfl, ⟨nd, rfl⟩⟩; refine ⟨_, rfl, ?_⟩; have p351 : 0 ≤ ((ji22) : Int) := of_decide_eq_true (by first | (with_reducible assumption) | assumption); have q351 : (ji22) < ((rd_L1 l0 x28_2).length : Int) := of_decide_eq_true (by first | (with_reducible assumption) | assumption); obtain ⟨ad351, e351, hx351_0⟩ := Kd.at_int HR346_0.out (ji22) p351 q351; obtain rfl : ad349 = ad351 := (by injection e351); replace p351 := eq_true p351; replace q351 := eq_true q351))
                                                go_roundg k4
                                                case measure => have := HJ1.out; have := HK2.out; have := HJ10.out; have := HK4.out; omega
                                                case rel => exact ⟨(Go.bits .or .i64 x3_4 (ji35)), (wrap64 (x53_4 + 1)), (by first | rfl | (simp; done) | (simp only [← hji35] <;> (first | rfl | simp)) | (simp [*]; done)), (by first | rfl | (simp; done) | (simp [*]; done)), H', ⟨by have := HJ1.out; have := HK2.out; have := HJ10.out; have := HK4.out; omega⟩, by repeat (first | exact Drawn0.refl _ | apply Drawn0.step)⟩
                                              · rw [if_neg c34] at H
                                                exact absurd H (by simp)
                                        · rw [if_neg c24] at H
                                          exact absurd H (by simp)
                                      · rw [if_neg c23] at H
                                        exact absurd H (by simp)
                                    · rw [if_neg c21] at H
                                      have c21b0 : decide (0 < x53_4) = false := decide_eq_false c21
                                      clear c21
                                      by_cases c36 : x28_2 > 0
                                      · rw [if_pos c36] at H
                                        have c36b0 : decide (0 < x28_2) = true := decide_eq_true c36
                                        clear c36
                                        obtain ⟨ji37, hji37⟩ : ∃ j_ : Int, (wrap64 (x28_2 - 1)) = j_ := ⟨_, rfl⟩
                                        replace H : (if 0 ≤ (ji37) then (if (ji37) < (l0.length : Int) then (if x53_4 < ((rd_L1 l0 (ji37)).length : Int) then (if (rd (rd_L1 l0 (ji37)) x53_4) > (rd (rd_L1 l0 x28_2) x53_4) then (some false) else (if 0 ≤ (rd (rd_L1 l0 x28_2) x53_4) then (spec_shGood.l1 k4 l0 (Go.bits .or .i64 x3_4 (shl .i64 1 (rd (rd_L1 l0 x28_2) x53_4))) x28_2 (rd_L1 l0 x28_2) l0 (l0.length : Int) x28_2 (rd_L1 l0 x28_2) ((rd_L1 l0 x28_2).length : Int) (wrap64 (x53_4 + 1))) else (none))) else (none)) else (none)) else (none)) = some r := by first | (rw [hji37] at H; exact H) | (simp only [hji37] at H ⊢; exact H)
                                        (try rw [hji37] at A19)
                                        have hji37w : (IntKind.i64.wrap (x28_2 - 1)) = ji37 := (i64_w _).trans hji37
                                        by_cases c38 : 0 ≤ (ji37)
                                        · rw [if_pos c38] at H
                                          have c38b0 : decide (0 ≤ (ji37)) = true := decide_eq_true c38
                                          clear c38
                                          by_cases c39 : (ji37) < (l0.length : Int)
                                          · rw [if_pos c39] at H
                                            have c39b0 : decide ((ji37) < (l0.length : Int)) = true := decide_eq_true c39
                                            clear c39
                                            by_cases c40 : x53_4 < ((rd_L1 l0 (ji37)).length : Int)
                                            · rw [if_pos c40] at H
                                              have c40b0 : decide (x53_4 < ((rd_L1 l0 (ji37)).length : Int)) = true := decide_eq_true c40
                                              clear c40
                                              by_cases c41 : (rd (rd_L1 l0 (ji37)) x53_4) > (rd (rd_L1 l0 x28_2) x53_4)
                                              · rw [if_pos c41] at H
                                                have c41b0 : decide ((rd (rd_L1 l0 x28_2) x53_4) < (rd (rd_L1 l0 (ji37)) x53_4)) = true := decide_eq_true c41
                                                clear c41
                                                obtain rfl := Option.some.inj H
                                                have p349 : 0 ≤ (x53_4 : Int) := of_decide_eq_true (by first | (with_reducible assumption) | assumption)
                                                have q349 : x53_4 < ((rd_L1 l0 x28_2).length : Int) := of_decide_eq_true (by first | (with_reducible assumption) | assumption)
                                                obtain ⟨ad349, e349, hx349_0⟩ := Kd.at_int HR346_0.out x53_4 p349 q349
                                                cases e349
                                                replace p349 := eq_true p349
                                                replace q349 := eq_true q349
                                                go_wp2_with (first | ((with_reducible refine gate_callee (f := 61) rfl ?_); refine goesL_ (some 60) rfl rfl Try.func61 (by kernel_rfl) rfl #[.int .i64 x3_4, .int .i64 (rd (rd_L1 l0 x28_2) x53_4)] rfl (by (try simp only [List.map_toArray, List.map_cons, List.map_nil]); first | done | rfl | (simp only [List.length_drop, List.length_take]; rfl)) ?_; (with_reducible refine (spec_poIn.calls x3_4 (rd (rd_L1 l0 x28_2) x53_4) false _ A19.out).mono ?_); rintro e w' ⟨rfl, ⟨nd, rfl⟩⟩; refine ⟨_, rfl, ?_⟩; have p354 : 0 ≤ ((ji37) : Int) := of_decide_eq_true (by first | (with_reducible assumption) | assumption); have q354 : (ji37) < (l0.length : Int) := of_decide_eq_true (by first | (with_reducible assumption) | assumption); obtain ⟨ad354, A354_0, c354_0, e354, hx354_0, hl354_0, hi354_0⟩ := at_L1 HR0.out (ji37) p354 q354; obtain rfl : ad346 = ad354 := (by injection e354); have HR354_0 := Aside0.mk hi354_0; have HC354_0 := Aside0.mk hl354_0; clear hi354_0 hl354_0; replace p354 := eq_true p354; replace q354 := eq_true q354; have p355 : 0 ≤ (x53_4 : Int) := of_decide_eq_true (by first | (with_reducible assumption) | assumption); have q355 : x53_4 < ((rd_L1 l0 (ji37)).length : Int) := of_decide_eq_true (by first | (with_reducible assumption) | assumption); obtain ⟨ad355, e355, hx355_0⟩ := Kd.at_int HR354_0.out x53_4 p355 q355; cases e355; replace p355 := eq_true p355; replace q355 := eq_true q355))
                                                go_ret
                                                exact ⟨by first | rfl | (simp; done) | (simp only [← hji37] <;> (first | rfl | simp)) | (simp [*]; done), by repeat (first | exact Drawn0.refl _ | apply Drawn0.step)⟩
                                              · rw [if_neg c41] at H
                                                have c41b0 : decide ((rd (rd_L1 l0 x28_2) x53_4) < (rd (rd_L1 l0 (ji37)) x53_4)) = false := decide_eq_false c41
                                                clear c41
                                                by_cases c42 : 0 ≤ (rd (rd_L1 l0 x28_2) x53_4)
                                                · rw [if_pos c42] at H
                                                  have c42b0 := eq_true c42
                                                  have c42b1 : decide (0 ≤ (rd (rd_L1 l0 x28_2) x53_4)) = true := decide_eq_true c42
                                                  clear c42
                                                  obtain ⟨ji43, hji43⟩ : ∃ j_ : Int, (shl .i64 1 (rd (rd_L1 l0 x28_2) x53_4)) = j_ := ⟨_, rfl⟩
                                                  replace H : (spec_shGood.l1 k4 l0 (Go.bits .or .i64 x3_4 (ji43)) x28_2 (rd_L1 l0 x28_2) l0 (l0.length : Int) x28_2 (rd_L1 l0 x28_2) ((rd_L1 l0 x28_2).length : Int) (wrap64 (x53_4 + 1))) = some r := by first | (rw [hji43] at H; exact H) | (simp only [hji43] at H ⊢; exact H)
                                                  (try rw [hji43] at A19)
                                                  have hji43_ : (IntKind.i64.wrap (1 * 2 ^ min (rd (rd_L1 l0 x28_2) x53_4).toNat 64)) = ji43 := hji43
                                                  have hji43z : (rd (rd_L1 l0 x28_2) x53_4) ≤ 64 → (IntKind.i64.wrap (1 * 2 ^ (rd (rd_L1 l0 x28_2) x53_4).toNat)) = ji43 := shl_small hji43
                                                  have hji43u : (IntKind.i64.wrap (2 ^ min (rd (rd_L1 l0 x28_2) x53_4).toNat 64)) = ji43 := by have h_ := hji43_; rw [Int.one_mul] at h_; exact h_
                                                  have hji43v : (rd (rd_L1 l0 x28_2) x53_4) ≤ 64 → (IntKind.i64.wrap (2 ^ (rd (rd_L1 l0 x28_2) x53_4).toNat)) = ji43 := fun hle_ => by have h_ := hji43z hle_; rw [Int.one_mul] at h_; exact h_
                                                  have hji43y : (wrap64 (1 * 2 ^ min (rd (rd_L1 l0 x28_2) x53_4).toNat 64)) = ji43 := (i64_w _).symm.trans hji43_
                                                  have hji43x : (rd (rd_L1 l0 x28_2) x53_4) ≤ 64 → (wrap64 (1 * 2 ^ (rd (rd_L1 l0 x28_2) x53_4).toNat)) = ji43 := fun h_ => (i64_w _).symm.trans (hji43z h_)
                                                  have H' := Aside0.mk H
                                                  clear H
                                                  have p349 : 0 ≤ (x53_4 : Int) := of_decide_eq_true (by first | (with_reducible assumption) | assumption)
                                                  have q349 : x53_4 < ((rd_L1 l0 x28_2).length : Int) := of_decide_eq_true (by first | (with_reducible assumption) | assumption)
                                                  obtain ⟨ad349, e349, hx349_0⟩ := Kd.at_int HR346_0.out x53_4 p349 q349
                                                  cases e349
                                                  replace p349 := eq_true p349
                                                  replace q349 := eq_true q349
                                                  go_wp2_with (first | ((with_reducible refine gate_callee (f := 61) rfl ?_); refine goesL_ (some 60) rfl rfl Try.func61 (by kernel_rfl) rfl #[.int .i64 x3_4, .int .i64 (rd (rd_L1 l0 x28_2) x53_4)] rfl (by (try simp only [List.map_toArray, List.map_cons, List.map_nil]); first | done | rfl | (simp only [List.length_drop, List.length_take]; rfl)) ?_; (with_reducible refine (spec_poIn.calls x3_4 (rd (rd_L1 l0 x28_2) x53_4) false _ A19.out).mono ?_); rintro e w' ⟨rfl, ⟨nd, rfl⟩⟩; refine ⟨_, rfl, ?_⟩; have p354 : 0 ≤ ((ji37) : Int) := of_decide_eq_true (by first | (with_reducible assumption) | assumption); have q354 : (ji37) < (l0.length : Int) := of_decide_eq_true (by first | (with_reducible assumption) | assumption); obtain ⟨ad354, A354_0, c354_0, e354, hx354_0, hl354_0, hi354_0⟩ := at_L1 HR0.out (ji37) p354 q354; obtain rfl : ad346 = ad354 := (by injection e354); have HR354_0 := Aside0.mk hi354_0; have HC354_0 := Aside0.mk hl354_0; clear hi354_0 hl354_0; replace p354 := eq_true p354; replace q354 := eq_true q354; have p355 : 0 ≤ (x53_4 : Int) := of_decide_eq_true (by first | (with_reducible assumption) | assumption); have q355 : x53_4 < ((rd_L1 l0 (ji37)).length : Int) := of_decide_eq_true (by first | (with_reducible assumption) | assumption); obtain ⟨ad355, e355, hx355_0⟩ := Kd.at_int HR354_0.out x53_4 p355 q355; cases e355; replace p355 := eq_true p355; replace q355 := eq_true q355))
                                                  go_roundg k4
                                                  case measure => have := HJ1.out; have := HK2.out; have := HJ10.out; have := HK4.out; omega
                                                  case rel => exact ⟨(Go.bits .or .i64 x3_4 (ji43)), (wrap64 (x53_4 + 1)), (by first | rfl | (simp; done) | (simp only [← hji43] <;> (first | rfl | simp)) | (simp [*]; done)), (by first | rfl | (simp; done) | (simp [*]; done)), H', ⟨by have := HJ1.out; have := HK2.out; have := HJ10.out; have := HK4.out; omega⟩, by repeat (first | exact Drawn0.refl _ | apply Drawn0.step)⟩
                                                · rw [if_neg c42] at H
                                                  exact absurd H (by simp)
                                            · rw [if_neg c40] at H
                                              exact absurd H (by simp)
                                          · rw [if_neg c39] at H
                                            exact absurd H (by simp)
                                        · rw [if_neg c38] at H
                                          exact absurd H (by simp)
                                      · rw [if_neg c36] at H
                                        have c36b0 : decide (0 < x28_2) = false := decide_eq_false c36
                                        clear c36
                                        by_cases c44 : 0 ≤ (rd (rd_L1 l0 x28_2) x53_4)
                                        · rw [if_pos c44] at H
                                          have c44b0 := eq_true c44
                                          have c44b1 : decide (0 ≤ (rd (rd_L1 l0 x28_2) x53_4)) = true := decide_eq_true c44
                                          clear c44
                                          obtain ⟨ji45, hji45⟩ : ∃ j_ : Int, (shl .i64 1 (rd (rd_L1 l0 x28_2) x53_4)) = j_ := ⟨_, rfl⟩
                                          replace H : (spec_shGood.l1 k4 l0 (Go.bits .or .i64 x3_4 (ji45)) x28_2 (rd_L1 l0 x28_2) l0 (l0.length : Int) x28_2 (rd_L1 l0 x28_2) ((rd_L1 l0 x28_2).length : Int) (wrap64 (x53_4 + 1))) = some r := by first | (rw [hji45] at H; exact H) | (simp only [hji45] at H ⊢; exact H)
                                          (try rw [hji45] at A19)
                                          have hji45_ : (IntKind.i64.wrap (1 * 2 ^ min (rd (rd_L1 l0 x28_2) x53_4).toNat 64)) = ji45 := hji45
                                          have hji45z : (rd (rd_L1 l0 x28_2) x53_4) ≤ 64 → (IntKind.i64.wrap (1 * 2 ^ (rd (rd_L1 l0 x28_2) x53_4).toNat)) = ji45 := shl_small hji45
                                          have hji45u : (IntKind.i64.wrap (2 ^ min (rd (rd_L1 l0 x28_2) x53_4).toNat 64)) = ji45 := by have h_ := hji45_; rw [Int.one_mul] at h_; exact h_
                                          have hji45v : (rd (rd_L1 l0 x28_2) x53_4) ≤ 64 → (IntKind.i64.wrap (2 ^ (rd (rd_L1 l0 x28_2) x53_4).toNat)) = ji45 := fun hle_ => by have h_ := hji45z hle_; rw [Int.one_mul] at h_; exact h_
                                          have hji45y : (wrap64 (1 * 2 ^ min (rd (rd_L1 l0 x28_2) x53_4).toNat 64)) = ji45 := (i64_w _).symm.trans hji45_
                                          have hji45x : (rd (rd_L1 l0 x28_2) x53_4) ≤ 64 → (wrap64 (1 * 2 ^ (rd (rd_L1 l0 x28_2) x53_4).toNat)) = ji45 := fun h_ => (i64_w _).symm.trans (hji45z h_)
                                          have H' := Aside0.mk H
                                          clear H
                                          have p349 : 0 ≤ (x53_4 : Int) := of_decide_eq_true (by first | (with_reducible assumption) | assumption)
                                          have q349 : x53_4 < ((rd_L1 l0 x28_2).length : Int) := of_decide_eq_true (by first | (with_reducible assumption) | assumption)
                                          obtain ⟨ad349, e349, hx349_0⟩ := Kd.at_int HR346_0.out x53_4 p349 q349
                                          cases e349
                                          replace p349 := eq_true p349
                                          replace q349 := eq_true q349
                                          go_wp2_with (first | ((with_reducible refine gate_callee (f := 61) rfl ?_); refine goesL_ (some 60) rfl rfl Try.func61 (by kernel_rfl) rfl #[.int .i64 x3_4, .int .i64 (rd (rd_L1 l0 x28_2) x53_4)] rfl (by (try simp only [List.map_toArray, List.map_cons, List.map_nil]); first | done | rfl | (simp only [List.length_drop, List.length_take]; rfl)) ?_; (with_reducible refine (spec_poIn.calls x3_4 (rd (rd_L1 l0 x28_2) x53_4) false _ A19.out).mono ?_); rintro e w' ⟨rfl, ⟨nd, rfl⟩⟩; refine ⟨_, rfl, ?_⟩))
                                          go_roundg k4
                                          case measure => have := HJ1.out; have := HK2.out; have := HJ10.out; have := HK4.out; omega
                                          case rel => exact ⟨(Go.bits .or .i64 x3_4 (ji45)), (wrap64 (x53_4 + 1)), (by first | rfl | (simp; done) | (simp only [← hji45] <;> (first | rfl | simp)) | (simp [*]; done)), (by first | rfl | (simp; done) | (simp [*]; done)), H', ⟨by have := HJ1.out; have := HK2.out; have := HJ10.out; have := HK4.out; omega⟩, by repeat (first | exact Drawn0.refl _ | apply Drawn0.step)⟩
                                        · rw [if_neg c44] at H
                                          exact absurd H (by simp)
                                · rw [if_neg c18] at H
                                  exact absurd H (by simp)
                              · rw [if_neg c17] at H
                                exact absurd H (by simp)
                            · rw [if_neg c16] at H
                              have c16b0 : decide (x53_4 < ((rd_L1 l0 x28_2).length : Int)) = false := decide_eq_false c16
                              clear c16
                              have H' := Aside0.mk H
                              clear H
                              go_wp2
                              go_roundg k4
                              case measure => have := HJ1.out; have := HK2.out; have := HJ10.out; have := HK4.out; omega
                              case rel => exact ⟨(x3_4), (wrap64 (x28_2 + 1)), (by first | rfl | (simp; done) | (simp [*]; done)), (by first | rfl | (simp; done) | (simp [*]; done)), H', ⟨by have := HJ1.out; have := HK2.out; have := HJ10.out; have := HK4.out; omega⟩, by repeat (first | exact Drawn0.refl _ | apply Drawn0.step)⟩
                · rw [if_neg c10] at H
                  exact absurd H (by simp)
              · rw [if_neg c9] at H
                exact absurd H (by simp)
            · rw [if_neg c8] at H
              have c8b0 : decide (x28_2 < (l0.length : Int)) = false := decide_eq_false c8
              clear c8
              obtain rfl := Option.some.inj H
              go_wp2
              go_ret
              exact ⟨by first | rfl | (simp; done) | (simp [*]; done), by repeat (first | exact Drawn0.refl _ | apply Drawn0.step)⟩

end Go.Proofs.Ytfahkoimleiknaa.F
end

section
namespace Go.Proofs.Ytfahkoimleiknaa.F
open Go.RowKit Go.Proofs.YtfahkoimleiknaaW.PrintWords Go.Proofs.YtfahkoimleiknaaW.PrintLast Go.Proofs.YtfahkoimleiknaaW.PrintMore
attribute [local go_sem] max2_int min2_int max_two min_two max_three min_three max_four min_four
set_option linter.unusedVariables false
set_option linter.unusedSimpArgs false

/-! ### spec_shWord: function 78 -/
mutual
def spec_shWord.l0 : Nat → List Int → List (List Int) → Int → Int → Option (List Int)
  | 0, _, _, _, _ => none
  | k + 1, x3, x16, x17, x18 => if x18 < x17 then (if 0 ≤ x18 then (if x18 < (x16.length : Int) then (spec_shWord.l1 k x3 x18 x16 x17 x18 (rd_L1 x16 x18) ((rd_L1 x16 x18).length : Int) 0) else (none)) else (none)) else (some x3)
def spec_shWord.l1 : Nat → List Int → Int → List (List Int) → Int → Int → List Int → Int → Int → Option (List Int)
  | 0, _, _, _, _, _, _, _, _ => none
  | k + 1, x3, x4, x16, x17, x18, x23, x24, x25 => if x25 < x24 then (if 0 ≤ x25 then (if x25 < (x23.length : Int) then (if 0 ≤ (rd x23 x25) then (if (rd x23 x25) < (x3.length : Int) then (spec_shWord.l1 k (x3.set ((rd x23 x25) : Int).toNat x4) x4 x16 x17 x18 x23 x24 (wrap64 (x25 + 1))) else (none)) else (none)) else (none)) else (none)) else (spec_shWord.l0 k x3 x16 x17 (wrap64 (x18 + 1)))
end
def spec_shWord.f (k : Nat) (l0 : List (List Int)) : Option (List Int) := if 0 < (l0.length : Int) then (if 0 ≤ (wrap64 ((l0.length : Int) * ((rd_L1 l0 0).length : Int))) then (if (wrap64 ((l0.length : Int) * ((rd_L1 l0 0).length : Int)) : Int).toNat ≤ 35184372088832 then (spec_shWord.l0 k (List.replicate (wrap64 ((l0.length : Int) * ((rd_L1 l0 0).length : Int)) : Int).toNat 0) l0 (l0.length : Int) 0) else (none)) else (none)) else (none)
theorem spec_shWord.mono_l : ∀ k, (∀ y0 y1 y2 y3, LeO (spec_shWord.l0 k y0 y1 y2 y3) (spec_shWord.l0 (k + 1) y0 y1 y2 y3)) ∧ (∀ y0 y1 y2 y3 y4 y5 y6 y7, LeO (spec_shWord.l1 k y0 y1 y2 y3 y4 y5 y6 y7) (spec_shWord.l1 (k + 1) y0 y1 y2 y3 y4 y5 y6 y7))
  | 0 => ⟨fun _ _ _ _ r h => by simp [spec_shWord.l0] at h, fun _ _ _ _ _ _ _ _ r h => by simp [spec_shWord.l1] at h⟩
  | k + 1 => by
    obtain ⟨ih0, ih1⟩ := spec_shWord.mono_l k
    refine ⟨?_, ?_⟩
    · intro y0 y1 y2 y3
      unfold spec_shWord.l0
      repeat' first
      | (with_reducible exact ih0 _ _ _ _)
      | (with_reducible exact ih1 _ _ _ _ _ _ _ _)
      | (with_reducible exact LeO.refl _)
      | (with_reducible exact LeO.none _)
      | (with_reducible refine LeO.ite ?_ ?_)
      | (with_reducible refine LeO.bind ?_ (fun _ => ?_))
      | exact ih0 _ _ _ _
      | exact ih1 _ _ _ _ _ _ _ _
      | exact LeO.none _
      | refine LeO.ite ?_ ?_
      | refine LeO.bind ?_ (fun _ => ?_)
    · intro y0 y1 y2 y3 y4 y5 y6 y7
      unfold spec_shWord.l1
      repeat' first
      | (with_reducible exact ih0 _ _ _ _)
      | (with_reducible exact ih1 _ _ _ _ _ _ _ _)
      | (with_reducible exact LeO.refl _)
      | (with_reducible exact LeO.none _)
      | (with_reducible refine LeO.ite ?_ ?_)
      | (with_reducible refine LeO.bind ?_ (fun _ => ?_))
      | exact ih0 _ _ _ _
      | exact ih1 _ _ _ _ _ _ _ _
      | exact LeO.none _
      | refine LeO.ite ?_ ?_
      | refine LeO.bind ?_ (fun _ => ?_)
theorem spec_shWord.mono : ∀ a0 k, LeO (spec_shWord.f k a0) (spec_shWord.f (k + 1) a0) := by
  intro a0 k
  obtain ⟨ih0, ih1⟩ := spec_shWord.mono_l k
  unfold spec_shWord.f
  repeat' first
      | (with_reducible exact ih0 _ _ _ _)
      | (with_reducible exact ih1 _ _ _ _ _ _ _ _)
      | (with_reducible exact LeO.refl _)
      | (with_reducible exact LeO.none _)
      | (with_reducible refine LeO.ite ?_ ?_)
      | (with_reducible refine LeO.bind ?_ (fun _ => ?_))
      | exact ih0 _ _ _ _
      | exact ih1 _ _ _ _ _ _ _ _
      | exact LeO.none _
      | refine LeO.ite ?_ ?_
      | refine LeO.bind ?_ (fun _ => ?_)
set_option maxHeartbeats 8000000 in
set_option maxRecDepth 100000 in
theorem spec_shWord.calls (k : Nat) (A0 : Option Addr) (c0 : Nat) (l0 : List (List Int)) (r : List Int) (w : World) (hr0 : Kd.C (Kd.slice 3 (Kd.int .i64)) w A0 l0.length l0) (hc0 : l0.length ≤ c0) (h : spec_shWord.f k l0 = some r) :
    Calls Try.prog 78 #[.slice A0 l0.length c0] w fun e w' => ∃ v0_ : Value, e = .returned (v0_) ∧ Kd.R (Kd.int .i64) 3 w' w.heap.size (fun _ => True) v0_ r ∧ Below w.heap.size w w' := by
  have HR0 := Aside0.mk hr0
  have HC0 := Aside0.mk hc0
  clear hr0 hc0
  have HB := Aside0.mk (Below.refl w.heap.size w)
  have H : (if 0 < (l0.length : Int) then (if 0 ≤ (wrap64 ((l0.length : Int) * ((rd_L1 l0 0).length : Int))) then (if (wrap64 ((l0.length : Int) * ((rd_L1 l0 0).length : Int)) : Int).toNat ≤ 35184372088832 then (spec_shWord.l0 k (List.replicate (wrap64 ((l0.length : Int) * ((rd_L1 l0 0).length : Int)) : Int).toNat 0) l0 (l0.length : Int) 0) else (none)) else (none)) else (none)) = some r := h
  clear h
  by_cases c2 : 0 < (l0.length : Int)
  · rw [if_pos c2] at H
    have c2b0 : decide (0 < (l0.length : Int)) = true := decide_eq_true c2
    have c2b1 : decide (0 < l0.length) = true := decide_eq_true (by omega)
    clear c2
    obtain ⟨ji3, hji3⟩ : ∃ j_ : Int, (wrap64 ((l0.length : Int) * ((rd_L1 l0 0).length : Int))) = j_ := ⟨_, rfl⟩
    replace H : (if 0 ≤ (ji3) then (if (ji3 : Int).toNat ≤ 35184372088832 then (spec_shWord.l0 k (List.replicate (ji3 : Int).toNat 0) l0 (l0.length : Int) 0) else (none)) else (none)) = some r := by first | (rw [hji3] at H; exact H) | (simp only [hji3] at H ⊢; exact H)
    have hji3w : (IntKind.i64.wrap ((l0.length : Int) * ((rd_L1 l0 0).length : Int))) = ji3 := (i64_w _).trans hji3
    by_cases c4 : 0 ≤ (ji3)
    · rw [if_pos c4] at H
      have c4b0 := eq_true c4
      have c4b1 : decide (0 ≤ (ji3)) = true := decide_eq_true c4
      clear c4
      by_cases c5 : (ji3 : Int).toNat ≤ 35184372088832
      · rw [if_pos c5] at H
        have c5b0 := eq_true c5
        have c5b1 : decide ((ji3 : Int).toNat ≤ 35184372088832) = true := decide_eq_true c5
        clear c5
        obtain ⟨y553, hy553⟩ : ∃ y_ : List Int, y_ = (List.replicate (ji3 : Int).toNat 0) := ⟨_, rfl⟩
        replace H : (spec_shWord.l0 k y553 l0 (l0.length : Int) 0) = some r := by first | (rw [hy553]; with_reducible exact H) | (have H2_ := (Option.bind_some _ _).symm.trans H; rw [hy553]; with_reducible exact H2_) | (have H2_ := (Option.bind_some _ _).symm.trans H; with_reducible exact H2_) | with_reducible exact H | (rw [hy553]; exact H) | exact H
        have Ny553 := Aside0.mk hy553
        clear hy553
        have H' := Aside0.mk H
        clear H
        have p552 : 0 ≤ (0 : Int) := (by omega)
        have q552 : 0 < (l0.length : Int) := of_decide_eq_true (by first | (with_reducible assumption) | assumption)
        obtain ⟨ad552, A552_0, c552_0, e552, hx552_0, hl552_0, hi552_0⟩ := at_L1 HR0.out 0 p552 q552
        cases e552
        have qi552 : (0 < l0.length) = True := eq_true (by omega)
        (try rw [show ((0 : Int)).toNat = 0 from rfl] at hx552_0)
        (try rw [Addr.add_zero'] at hx552_0)
        have HR552_0 := Aside0.mk hi552_0
        have HC552_0 := Aside0.mk hl552_0
        clear hi552_0 hl552_0
        replace p552 := eq_true p552
        replace q552 := eq_true q552
        go_enter Try.func78, Try.ntmps78
        go_wp2_with (first | ((with_reducible refine gate_dst (N := 15) rfl ?_); refine Kd.R_make (Kd.int .i64) _ 3 rfl (N := 15) rfl 22 _ _ rfl ji3 rfl rfl Try.underlying22 (.int .i64 0) 8 info3 rfl (by decide) (by omega) 0 (ok := fun _ => True) (okp := fun _ => True) rfl (fun _ hk => hk) trivial (of_decide_eq_true (by first | (with_reducible assumption) | assumption)) (Nat.le_trans (Nat.mul_le_mul_right _ (of_decide_eq_true (by first | (with_reducible assumption) | assumption) : ji3.toNat ≤ 35184372088832)) (by omega)) (Below.refl _ _) (Nat.le_refl _) ?_; intro v554 w6 ho7 hb hg_ hnew_; clear hg_ hnew_; (first | rw [← Ny553.out] at ho7 | (simp only [Int.reduceToNat] at ho7; rw [← Ny553.out] at ho7)); have n0_ := Aside0.mk (Kd.R_lower ho7 (below_size (by repeat (first | (with_reducible first | exact HB.out | apply below_alloc | apply pw_below_drewN | apply below_drew1) | exact HB.out)))); have n1_ := Aside0.mk (below_step (by repeat (first | (with_reducible first | exact HB.out | apply below_alloc | apply pw_below_drewN | apply below_drew1) | exact HB.out)) hb); clear HB; have HO555 := n0_; have HB := n1_; clear n0_ n1_; clear hb ho7))
        go_loopg [18] k (fun kq v18 w' => ∃ (x3_1 : List Int) (x18_1 : Int), v18 = .int .i64 x18_1 ∧ Aside0 (spec_shWord.l0 kq x3_1 l0 (l0.length : Int) x18_1 = some r) ∧ Aside0 (kq ≤ k) ∧ Aside0 (Kd.R (Kd.int .i64) 3 w' w.heap.size (fun _ => True) v554 x3_1) ∧ Aside0 (Below w.heap.size w w'))
        case atStart => exact ⟨(y553), (0), (by first | rfl | (simp; done) | (simp [*]; done)), H', ⟨Nat.le_refl _⟩, ⟨by (with_reducible repeat (first | apply Kd.R_alloc | apply Kd.R_drewN | apply Kd.R_drew)); exact HO555.out⟩, ⟨by repeat (first | (with_reducible first | exact HB.out | apply below_alloc | apply pw_below_drewN | apply below_drew1) | exact HB.out)⟩⟩
        case round =>
          clear H'
          try clear c2
          try clear c2b0
          try clear c2b1
          try clear p2
          try clear c4
          try clear c4b0
          try clear c4b1
          try clear c5
          try clear c5b0
          try clear c5b1
          try clear p5
          try clear q5
          try clear hx5
          try clear qi5
          try clear p6
          try clear c7
          try clear hx552_0
          try clear p552
          try clear q552
          obtain ⟨x3_1, x18_1, rfl, HA, HK1, HO_3, HB⟩ := hrel
          cases gk with
          | zero => exact absurd HA.out (by simp [spec_shWord.l0])
          | succ k1 =>
            have H := HA.out
            clear HA
            simp only [spec_shWord.l0] at H
            by_cases c8 : x18_1 < (l0.length : Int)
            · rw [if_pos c8] at H
              have c8b0 : decide (x18_1 < (l0.length : Int)) = true := decide_eq_true c8
              clear c8
              by_cases c9 : 0 ≤ x18_1
              · rw [if_pos c9] at H
                have c9b0 : decide (0 ≤ x18_1) = true := decide_eq_true c9
                clear c9
                by_cases c10 : x18_1 < (l0.length : Int)
                · rw [if_pos c10] at H
                  have c10b0 : decide (x18_1 < (l0.length : Int)) = true := decide_eq_true c10
                  clear c10
                  have H' := Aside0.mk H
                  clear H
                  have p556 : 0 ≤ (x18_1 : Int) := of_decide_eq_true (by first | (with_reducible assumption) | assumption)
                  have q556 : x18_1 < (l0.length : Int) := of_decide_eq_true (by first | (with_reducible assumption) | assumption)
                  obtain ⟨ad556, A556_0, c556_0, e556, hx556_0, hl556_0, hi556_0⟩ := at_L1 HR0.out x18_1 p556 q556
                  obtain rfl : ad552 = ad556 := (by injection e556)
                  replace hx556_0 := (HB.out.cell (World.block_lt_of_cell? w _ hx556_0)).trans hx556_0
                  have HR556_0 := Aside0.mk hi556_0
                  have HC556_0 := Aside0.mk hl556_0
                  clear hi556_0 hl556_0
                  replace p556 := eq_true p556
                  replace q556 := eq_true q556
                  go_wp2
                  go_loopg [25] k1 (fun kq v25 w' => ∃ (x3_2 : List Int) (x25_2 : Int), v25 = .int .i64 x25_2 ∧ Aside0 (spec_shWord.l1 kq x3_2 x18_1 l0 (l0.length : Int) x18_1 (rd_L1 l0 x18_1) ((rd_L1 l0 x18_1).length : Int) x25_2 = some r) ∧ Aside0 (kq ≤ k1) ∧ Aside0 (Kd.R (Kd.int .i64) 3 w' w.heap.size (fun _ => True) v554 x3_2) ∧ Aside0 (Below w.heap.size w w'))
                  case atStart => exact ⟨(x3_1), (0), (by first | rfl | (simp; done) | (simp [*]; done)), H', ⟨Nat.le_refl _⟩, ⟨by (with_reducible repeat (first | apply Kd.R_alloc | apply Kd.R_drewN | apply Kd.R_drew)); exact HO_3.out⟩, ⟨by repeat (first | (with_reducible first | exact HB.out | apply below_alloc | apply pw_below_drewN | apply below_drew1) | exact HB.out)⟩⟩
                  case round =>
                    clear H'
                    try clear c1
                    try clear c2
                    try clear c2b0
                    try clear c2b1
                    try clear p2
                    try clear c4
                    try clear c4b0
                    try clear c4b1
                    try clear c5
                    try clear c5b0
                    try clear c5b1
                    try clear p5
                    try clear q5
                    try clear hx5
                    try clear qi5
                    try clear p6
                    try clear c7
                    try clear c8
                    try clear c8b0
                    try clear c9
                    try clear c9b0
                    try clear c10
                    try clear c10b0
                    try clear hx552_0
                    try clear hx556_0
                    try clear p2
                    try clear p5
                    try clear p552
                    try clear p556
                    try clear p6
                    try clear q5
                    try clear q552
                    try clear q556
                    obtain ⟨x3_2, x25_2, rfl, HA, HK2, HO_3, HB⟩ := hrel
                    cases gk with
                    | zero => exact absurd HA.out (by simp [spec_shWord.l1])
                    | succ k2 =>
                      have H := HA.out
                      clear HA
                      simp only [spec_shWord.l1] at H
                      by_cases c11 : x25_2 < ((rd_L1 l0 x18_1).length : Int)
                      · rw [if_pos c11] at H
                        have c11b0 : decide (x25_2 < ((rd_L1 l0 x18_1).length : Int)) = true := decide_eq_true c11
                        clear c11
                        by_cases c12 : 0 ≤ x25_2
                        · rw [if_pos c12] at H
                          have c12b0 : decide (0 ≤ x25_2) = true := decide_eq_true c12
                          clear c12
                          by_cases c13 : x25_2 < ((rd_L1 l0 x18_1).length : Int)
                          · rw [if_pos c13] at H
                            have c13b0 : decide (x25_2 < ((rd_L1 l0 x18_1).length : Int)) = true := decide_eq_true c13
                            clear c13
                            by_cases c14 : 0 ≤ (rd (rd_L1 l0 x18_1) x25_2)
                            · rw [if_pos c14] at H
                              have c14b0 : decide (0 ≤ (rd (rd_L1 l0 x18_1) x25_2)) = true := decide_eq_true c14
                              clear c14
                              by_cases c15 : (rd (rd_L1 l0 x18_1) x25_2) < (x3_2.length : Int)
                              · rw [if_pos c15] at H
                                have c15b0 : decide ((rd (rd_L1 l0 x18_1) x25_2) < (x3_2.length : Int)) = true := decide_eq_true c15
                                clear c15
                                obtain ⟨y558, hy558⟩ : ∃ y_ : List Int, y_ = (x3_2.set ((rd (rd_L1 l0 x18_1) x25_2) : Int).toNat x18_1) := ⟨_, rfl⟩
                                replace H : (spec_shWord.l1 k2 y558 x18_1 l0 (l0.length : Int) x18_1 (rd_L1 l0 x18_1) ((rd_L1 l0 x18_1).length : Int) (wrap64 (x25_2 + 1))) = some r := by first | (rw [hy558]; with_reducible exact H) | (have H2_ := (Option.bind_some _ _).symm.trans H; rw [hy558]; with_reducible exact H2_) | (have H2_ := (Option.bind_some _ _).symm.trans H; with_reducible exact H2_) | with_reducible exact H | (rw [hy558]; exact H) | exact H
                                have Ny558 := Aside0.mk hy558
                                clear hy558
                                have H' := Aside0.mk H
                                clear H
                                have p557 : 0 ≤ (x25_2 : Int) := of_decide_eq_true (by first | (with_reducible assumption) | assumption)
                                have q557 : x25_2 < ((rd_L1 l0 x18_1).length : Int) := of_decide_eq_true (by first | (with_reducible assumption) | assumption)
                                obtain ⟨ad557, e557, hx557_0⟩ := Kd.at_int HR556_0.out x25_2 p557 q557
                                cases e557
                                replace hx557_0 := (HB.out.cell (World.block_lt_of_cell? w _ hx557_0)).trans hx557_0
                                replace p557 := eq_true p557
                                replace q557 := eq_true q557
                                have p16 : 0 ≤ ((rd (rd_L1 l0 x18_1) x25_2) : Int) := of_decide_eq_true (by first | (with_reducible assumption) | assumption)
                                have q16 : ((rd (rd_L1 l0 x18_1) x25_2) : Int) < ((x3_2.length : Int) : Int) := of_decide_eq_true (by first | (with_reducible assumption) | assumption)
                                obtain ⟨go16, co16, eo16, gb16, gl16, cl16, HG16⟩ := Kd.R_form HO_3.out (by omega)
                                (first | cases eo16 | (injection eo16 with ea_ en_ ec_; (first | subst ea_ | (injection ea_ with ea_; subst ea_)); subst ec_; clear en_))
                                have GB16 := Aside0.mk gb16
                                have GG16 := Aside0.mk HG16
                                clear gb16 gl16 HG16
                                obtain ⟨hx16_0, hf16_0⟩ := Kd.R_celln 0 HO_3.out ((rd (rd_L1 l0 x18_1) x25_2) : Int) p16 q16
                                replace p16 := eq_true p16
                                replace q16 := eq_true q16
                                have HP17 := Kd.R_putg HO_3.out ((rd (rd_L1 l0 x18_1) x25_2) : Int) x18_1
                                go_wp2_with (first | ((with_reducible refine gate_store (t := 3) (p := 32) rfl ?_); refine store_event (t := 3) (p := 32) (v := ?vo_w18) (w1 := (wr.setCell ⟨go16, ((rd (rd_L1 l0 x18_1) x25_2) : Int).toNat, none⟩ (.int .i64 x18_1))) ?hg ?ho ?hn ?hr ?_; (case ho => rfl); (case hg => rfl); (case hn => rfl); (case hr => first | (go_simp; done) | (go_simp; rfl) | (obtain ⟨Av_, cv_, ev_⟩ := Kd.R_slice HO555.out; subst ev_; go_simp; done) | (obtain ⟨Av_, cv_, ev_⟩ := Kd.R_slice HO555.out; subst ev_; go_simp; rfl)); intro w18 hw; have hg : wr.grownBy w18 (some go16) := (by rw [hw]; exact HP17.2); have hp_ : Kd.R (Kd.int .i64) 3 w18 w.heap.size (fun _ => True) (.slice (some ⟨go16, 0, none⟩) x3_2.length co16) y558 := (by rw [hw, Ny558.out]; exact HP17.1); clear HP17; have n0_ := Aside0.mk (hp_); have n1_ := Aside0.mk ((by rw [hw]; exact below_set (HB.out) GB16.out : Below w.heap.size w w18)); clear HO_3; clear HB; have HO_3 := n0_; have HB := n1_; clear n0_ n1_; clear hg hw hp_))
                                go_roundg k2
                                case measure => have := HK1.out; have := HK2.out; omega
                                case rel => exact ⟨(y558), (wrap64 (x25_2 + 1)), (by first | rfl | (simp; done) | (simp [*]; done)), H', ⟨by have := HK1.out; have := HK2.out; omega⟩, ⟨by (with_reducible repeat (first | apply Kd.R_alloc | apply Kd.R_drewN | apply Kd.R_drew)); exact HO_3.out⟩, ⟨by repeat (first | (with_reducible first | exact HB.out | apply below_alloc | apply pw_below_drewN | apply below_drew1) | exact HB.out)⟩⟩
                              · rw [if_neg c15] at H
                                exact absurd H (by simp)
                            · rw [if_neg c14] at H
                              exact absurd H (by simp)
                          · rw [if_neg c13] at H
                            exact absurd H (by simp)
                        · rw [if_neg c12] at H
                          exact absurd H (by simp)
                      · rw [if_neg c11] at H
                        have c11b0 : decide (x25_2 < ((rd_L1 l0 x18_1).length : Int)) = false := decide_eq_false c11
                        clear c11
                        have H' := Aside0.mk H
                        clear H
                        go_wp2
                        go_roundg k2
                        case measure => have := HK1.out; have := HK2.out; omega
                        case rel => exact ⟨(x3_2), (wrap64 (x18_1 + 1)), (by first | rfl | (simp; done) | (simp [*]; done)), H', ⟨by have := HK1.out; have := HK2.out; omega⟩, ⟨by (with_reducible repeat (first | apply Kd.R_alloc | apply Kd.R_drewN | apply Kd.R_drew)); exact HO_3.out⟩, ⟨by repeat (first | (with_reducible first | exact HB.out | apply below_alloc | apply pw_below_drewN | apply below_drew1) | exact HB.out)⟩⟩
                · rw [if_neg c10] at H
                  exact absurd H (by simp)
              · rw [if_neg c9] at H
                exact absurd H (by simp)
            · rw [if_neg c8] at H
              have c8b0 : decide (x18_1 < (l0.length : Int)) = false := decide_eq_false c8
              clear c8
              obtain rfl := Option.some.inj H
              go_wp2
              go_ret
              exact ⟨_, by first | rfl | (simp [errW_none, errW_some] <;> rfl) | (simp only [← hji3]; first | rfl | (simp [errW_none, errW_some] <;> rfl)) | (simp [*, errW_none, errW_some] <;> rfl), by (with_reducible repeat (first | apply Kd.R_alloc | apply Kd.R_drewN | apply Kd.R_drew)); exact HO_3.out, by repeat (first | (with_reducible first | exact HB.out | apply below_alloc | apply pw_below_drewN | apply below_drew1) | exact HB.out)⟩
      · rw [if_neg c5] at H
        exact absurd H (by simp)
    · rw [if_neg c4] at H
      exact absurd H (by simp)
  · rw [if_neg c2] at H
    exact absurd H (by simp)

end Go.Proofs.Ytfahkoimleiknaa.F
end

section
namespace Go.Proofs.Ytfahkoimleiknaa.F
open Go.RowKit Go.Proofs.YtfahkoimleiknaaW.PrintWords Go.Proofs.YtfahkoimleiknaaW.PrintLast Go.Proofs.YtfahkoimleiknaaW.PrintMore
attribute [local go_sem] max2_int min2_int max_two min_two max_three min_three max_four min_four
set_option linter.unusedVariables false
set_option linter.unusedSimpArgs false

/-! ### spec_shDescents: function 85 -/
def spec_shDescents.l0 : Nat → List Int → List Int → Int → Option (List Int)
  | 0, _, _, _ => none
  | k + 1, x3, x4, x5 => if x5 < (x4.length : Int) then (if 0 ≤ x5 then (if 0 ≤ (wrap64 (x5 - 1)) then (if (wrap64 (x5 - 1)) < (x4.length : Int) then (if (rd x4 x5) > (rd x4 (wrap64 (x5 - 1))) then (if x3.length < 17592186044416 then (spec_shDescents.l0 k (x3 ++ [x5]) x4 (wrap64 (x5 + 1))) else (none)) else (spec_shDescents.l0 k x3 x4 (wrap64 (x5 + 1)))) else (none)) else (none)) else (none)) else (some x3)
def spec_shDescents.f (k : Nat) (l0 : List (List Int)) : Option (List Int) := (spec_shWord.f k l0).bind fun t738 => (spec_shDescents.l0 k ([] : List Int) t738 1)
theorem spec_shDescents.mono_l : ∀ k, (∀ y0 y1 y2, LeO (spec_shDescents.l0 k y0 y1 y2) (spec_shDescents.l0 (k + 1) y0 y1 y2))
  | 0 => fun _ _ _ r h => by simp [spec_shDescents.l0] at h
  | k + 1 => by
    have ih0 := spec_shDescents.mono_l k
    · intro y0 y1 y2
      unfold spec_shDescents.l0
      repeat' first
      | (with_reducible exact ih0 _ _ _)
      | (with_reducible exact spec_shWord.mono _ _)
      | (with_reducible exact LeO.refl _)
      | (with_reducible exact LeO.none _)
      | (with_reducible refine LeO.ite ?_ ?_)
      | (with_reducible refine LeO.bind ?_ (fun _ => ?_))
      | exact ih0 _ _ _
      | exact spec_shWord.mono _ _
      | exact LeO.none _
      | refine LeO.ite ?_ ?_
      | refine LeO.bind ?_ (fun _ => ?_)
theorem spec_shDescents.mono : ∀ a0 k, LeO (spec_shDescents.f k a0) (spec_shDescents.f (k + 1) a0) := by
  intro a0 k
  have ih0 := spec_shDescents.mono_l k
  unfold spec_shDescents.f
  repeat' first
      | (with_reducible exact ih0 _ _ _)
      | (with_reducible exact spec_shWord.mono _ _)
      | (with_reducible exact LeO.refl _)
      | (with_reducible exact LeO.none _)
      | (with_reducible refine LeO.ite ?_ ?_)
      | (with_reducible refine LeO.bind ?_ (fun _ => ?_))
      | exact ih0 _ _ _
      | exact spec_shWord.mono _ _
      | exact LeO.none _
      | refine LeO.ite ?_ ?_
      | refine LeO.bind ?_ (fun _ => ?_)
set_option maxHeartbeats 8000000 in
set_option maxRecDepth 100000 in
theorem spec_shDescents.calls (k : Nat) (A0 : Option Addr) (c0 : Nat) (l0 : List (List Int)) (r : List Int) (w : World) (hr0 : Kd.C (Kd.slice 3 (Kd.int .i64)) w A0 l0.length l0) (hc0 : l0.length ≤ c0) (h : spec_shDescents.f k l0 = some r) :
    Calls Try.prog 85 #[.slice A0 l0.length c0] w fun e w' => ∃ v0_ : Value, e = .returned (v0_) ∧ Kd.R (Kd.int .i64) 3 w' w.heap.size (fun _ => True) v0_ r ∧ Below w.heap.size w w' := by
  have HR0 := Aside0.mk hr0
  have HC0 := Aside0.mk hc0
  clear hr0 hc0
  have HB := Aside0.mk (Below.refl w.heap.size w)
  have H : ((spec_shWord.f k l0).bind fun t738 => (spec_shDescents.l0 k ([] : List Int) t738 1)) = some r := h
  clear h
  replace H := Option.bind_eq_some_iff.mp H
  obtain ⟨t738, A20, H⟩ := H
  replace H : (spec_shDescents.l0 k ([] : List Int) t738 1) = some r := H
  have A2 := Aside0.mk A20
  clear A20
  have H' := Aside0.mk H
  clear H
  go_enter Try.func85, Try.ntmps85
  go_wp2_with (first | (go_at_call 78; (with_reducible refine (spec_shWord.calls k _ _ l0 t738 _ ?side1 ?side2 A2.out).mono ?_); (case side1 => repeat (first | exact HR0.out | (with_reducible refine Kd.C_alloc ?_ _) | (with_reducible refine Kd.C_drewN ?_ _) | (with_reducible refine Kd.C_drew ?_))); (case side2 => exact HC0.out); rintro e w3 ⟨v739, rfl, ho0, hb⟩; have n0_ := Aside0.mk (Kd.R_lower ho0 (below_size (by repeat (first | (with_reducible first | exact HB.out | apply below_alloc | apply pw_below_drewN | apply below_drew1) | exact HB.out)))); have n1_ := Aside0.mk (below_step (by repeat (first | (with_reducible first | exact HB.out | apply below_alloc | apply pw_below_drewN | apply below_drew1) | exact HB.out)) hb); clear HB; have HO740 := n0_; have HB := n1_; clear n0_ n1_; (try clear hb); (try clear hb2); (try clear hk); (try clear hi); (try clear ho0)))
  repeat (go_quiet (first | (go_at_call 78; (with_reducible refine (spec_shWord.calls k _ _ l0 t738 _ ?side1 ?side2 A2.out).mono ?_); (case side1 => repeat (first | exact HR0.out | (with_reducible refine Kd.C_alloc ?_ _) | (with_reducible refine Kd.C_drewN ?_ _) | (with_reducible refine Kd.C_drew ?_))); (case side2 => exact HC0.out); rintro e w3 ⟨v739, rfl, ho0, hb⟩; have n0_ := Aside0.mk (Kd.R_lower ho0 (below_size (by repeat (first | (with_reducible first | exact HB.out | apply below_alloc | apply pw_below_drewN | apply below_drew1) | exact HB.out)))); have n1_ := Aside0.mk (below_step (by repeat (first | (with_reducible first | exact HB.out | apply below_alloc | apply pw_below_drewN | apply below_drew1) | exact HB.out)) hb); clear HB; have HO740 := n0_; have HB := n1_; clear n0_ n1_; (try clear hb); (try clear hb2); (try clear hk); (try clear hi); (try clear ho0))); try go_wp2_with (first | (go_at_call 78; (with_reducible refine (spec_shWord.calls k _ _ l0 t738 _ ?side1 ?side2 A2.out).mono ?_); (case side1 => repeat (first | exact HR0.out | (with_reducible refine Kd.C_alloc ?_ _) | (with_reducible refine Kd.C_drewN ?_ _) | (with_reducible refine Kd.C_drew ?_))); (case side2 => exact HC0.out); rintro e w3 ⟨v739, rfl, ho0, hb⟩; have n0_ := Aside0.mk (Kd.R_lower ho0 (below_size (by repeat (first | (with_reducible first | exact HB.out | apply below_alloc | apply pw_below_drewN | apply below_drew1) | exact HB.out)))); have n1_ := Aside0.mk (below_step (by repeat (first | (with_reducible first | exact HB.out | apply below_alloc | apply pw_below_drewN | apply below_drew1) | exact HB.out)) hb); clear HB; have HO740 := n0_; have HB := n1_; clear n0_ n1_; (try clear hb); (try clear hb2); (try clear hk); (try clear hi); (try clear ho0))))
  go_loopg [3, 5] k (fun kq v3 v5 w' => ∃ (x3_1 : List Int) (x5_1 : Int), v5 = .int .i64 x5_1 ∧ Aside0 (spec_shDescents.l0 kq x3_1 t738 x5_1 = some r) ∧ Aside0 (kq ≤ k) ∧ Aside0 (Kd.R (Kd.int .i64) 3 w' w.heap.size (fun k_ => some k_ ≠ (v739 : Value).ownBlock) v3 x3_1) ∧ Aside0 (Kd.R (Kd.int .i64) 3 w' w.heap.size (fun k_ => some k_ ≠ (v3 : Value).ownBlock) v739 t738) ∧ Aside0 (Below w.heap.size w w'))
  case atStart => exact ⟨(([] : List Int)), (1), (by first | rfl | (simp; done) | (simp [*]; done)), H', ⟨Nat.le_refl _⟩, ⟨by first | exact Kd.R_nil _ _ _ _ _ | exact Kd.N_nil _ _ _ _ _ | exact Kd.V_nil _ _ _ _ _ | exact Kd.Q_nil _ _ _ _ _ | exact Kd.S_nil _ _ _ _ _⟩, ⟨by (with_reducible repeat (first | apply Kd.R_alloc | apply Kd.R_drewN | apply Kd.R_drew)); exact Kd.R_mono HO740.out (fun _ hk => (by simp [Value.ownBlock]))⟩, ⟨by repeat (first | (with_reducible first | exact HB.out | apply below_alloc | apply pw_below_drewN | apply below_drew1) | exact HB.out)⟩⟩
  case round =>
    clear H'
    try clear p2
    obtain ⟨x3_1, x5_1, rfl, HA, HK1, HO_3, HO_4, HB⟩ := hrel
    cases gk with
    | zero => exact absurd HA.out (by simp [spec_shDescents.l0])
    | succ k1 =>
      have H := HA.out
      clear HA
      simp only [spec_shDescents.l0] at H
      by_cases c4 : x5_1 < (t738.length : Int)
      · rw [if_pos c4] at H
        have c4b0 : decide (x5_1 < (t738.length : Int)) = true := decide_eq_true c4
        clear c4
        by_cases c5 : 0 ≤ x5_1
        · rw [if_pos c5] at H
          have c5b0 : decide (0 ≤ x5_1) = true := decide_eq_true c5
          clear c5
          obtain ⟨ji6, hji6⟩ : ∃ j_ : Int, (wrap64 (x5_1 - 1)) = j_ := ⟨_, rfl⟩
          replace H : (if 0 ≤ (ji6) then (if (ji6) < (t738.length : Int) then (if (rd t738 x5_1) > (rd t738 (ji6)) then (if x3_1.length < 17592186044416 then (spec_shDescents.l0 k1 (x3_1 ++ [x5_1]) t738 (wrap64 (x5_1 + 1))) else (none)) else (spec_shDescents.l0 k1 x3_1 t738 (wrap64 (x5_1 + 1)))) else (none)) else (none)) = some r := by first | (rw [hji6] at H; exact H) | (simp only [hji6] at H ⊢; exact H)
          have hji6w : (IntKind.i64.wrap (x5_1 - 1)) = ji6 := (i64_w _).trans hji6
          by_cases c7 : 0 ≤ (ji6)
          · rw [if_pos c7] at H
            have c7b0 : decide (0 ≤ (ji6)) = true := decide_eq_true c7
            clear c7
            by_cases c8 : (ji6) < (t738.length : Int)
            · rw [if_pos c8] at H
              have c8b0 : decide ((ji6) < (t738.length : Int)) = true := decide_eq_true c8
              clear c8
              by_cases c9 : (rd t738 x5_1) > (rd t738 (ji6))
              · rw [if_pos c9] at H
                have c9b0 : decide ((rd t738 (ji6)) < (rd t738 x5_1)) = true := decide_eq_true c9
                clear c9
                by_cases c10 : x3_1.length < 17592186044416
                · rw [if_pos c10] at H
                  have LMc10 := Aside0.mk c10
                  clear c10
                  obtain ⟨y743, hy743⟩ : ∃ y_ : List Int, y_ = (x3_1 ++ [x5_1]) := ⟨_, rfl⟩
                  replace H : (spec_shDescents.l0 k1 y743 t738 (wrap64 (x5_1 + 1))) = some r := by first | (rw [hy743]; with_reducible exact H) | (have H2_ := (Option.bind_some _ _).symm.trans H; rw [hy743]; with_reducible exact H2_) | (have H2_ := (Option.bind_some _ _).symm.trans H; with_reducible exact H2_) | with_reducible exact H | (rw [hy743]; exact H) | exact H
                  have Ny743 := Aside0.mk hy743
                  clear hy743
                  have H' := Aside0.mk H
                  clear H
                  obtain ⟨Ao11, co11, eo11⟩ := Kd.R_slice HO_4.out
                  subst eo11
                  have p741 : 0 ≤ (x5_1 : Int) := of_decide_eq_true (by first | (with_reducible assumption) | assumption)
                  have q741 : x5_1 < (t738.length : Int) := of_decide_eq_true (by first | (with_reducible assumption) | assumption)
                  obtain ⟨ad741, e741, hx741_0⟩ := Kd.at_int (Kd.R_reads' HO_4.out).2.2 x5_1 p741 q741
                  cases e741
                  replace p741 := eq_true p741
                  replace q741 := eq_true q741
                  have p742 : 0 ≤ ((ji6) : Int) := of_decide_eq_true (by first | (with_reducible assumption) | assumption)
                  have q742 : (ji6) < (t738.length : Int) := of_decide_eq_true (by first | (with_reducible assumption) | assumption)
                  obtain ⟨ad742, e742, hx742_0⟩ := Kd.at_int (Kd.R_reads' HO_4.out).2.2 (ji6) p742 q742
                  obtain rfl : ad741 = ad742 := (by injection e742)
                  replace p742 := eq_true p742
                  replace q742 := eq_true q742
                  go_wp2_with (first | ((with_reducible refine gate_builtin (b := .append) (xs := #[.tmp 24, .tmp 26]) rfl ?_); at_builtin; refine Kd.R_append (Kd.int .i64) (w0 := w) w.heap.size rfl (.tmp 24) (.tmp 26) 22 3 (.int .i64 0) 8 rfl Try.underlying22 info3 rfl (by decide) (by omega) u3 x3_1 x5_1 [.int .i64 x5_1] (fun k_ => some k_ ≠ (.slice (some ad741) t738.length co11 : Value).ownBlock) (fun _ => False) rfl rfl ?aP (fun _ hk => hk.elim) ?aF ?aO ?aB ?aS ?aL ?_; (case aP => exact rfl); (case aB => exact (by repeat (first | (with_reducible first | exact HB.out | apply below_alloc | apply pw_below_drewN | apply below_drew1) | exact HB.out))); (case aF => exact (fun k_ hk => Kd.fresh' (Kd.R_lt (by (with_reducible repeat (first | apply Kd.R_alloc | apply Kd.R_drewN | apply Kd.R_drew)); exact HO_4.out)) k_ hk)); (case aO => exact (by (with_reducible repeat (first | apply Kd.R_alloc | apply Kd.R_drewN | apply Kd.R_drew)); exact HO_3.out)); (case aS => exact (below_size (by repeat (first | (with_reducible first | exact HB.out | apply below_alloc | apply pw_below_drewN | apply below_drew1) | exact HB.out)))); (case aL => have := LMc10.out; omega); intro v744 w12 ho hb hg hat; rw [← Ny743.out] at ho; have n0_ := Aside0.mk (Kd.R_after (ok := (fun _ => True)) (by (with_reducible repeat (first | apply Kd.R_alloc | apply Kd.R_drewN | apply Kd.R_drew)); exact Kd.R_mono HO_4.out (fun _ hk => ⟨trivial, hk⟩)) hg hat); have n1_ := Aside0.mk (hb); have n2_ := Aside0.mk (ho); clear HO_4; clear HB; clear HO_3; have HO_4 := n0_; have HB := n1_; have HO745 := n2_; clear n0_ n1_ n2_; clear ho hb hg hat))
                  repeat (go_quiet (first | ((with_reducible refine gate_builtin (b := .append) (xs := #[.tmp 24, .tmp 26]) rfl ?_); at_builtin; refine Kd.R_append (Kd.int .i64) (w0 := w) w.heap.size rfl (.tmp 24) (.tmp 26) 22 3 (.int .i64 0) 8 rfl Try.underlying22 info3 rfl (by decide) (by omega) u3 x3_1 x5_1 [.int .i64 x5_1] (fun k_ => some k_ ≠ (.slice (some ad741) t738.length co11 : Value).ownBlock) (fun _ => False) rfl rfl ?aP (fun _ hk => hk.elim) ?aF ?aO ?aB ?aS ?aL ?_; (case aP => exact rfl); (case aB => exact (by repeat (first | (with_reducible first | exact HB.out | apply below_alloc | apply pw_below_drewN | apply below_drew1) | exact HB.out))); (case aF => exact (fun k_ hk => Kd.fresh' (Kd.R_lt (by (with_reducible repeat (first | apply Kd.R_alloc | apply Kd.R_drewN | apply Kd.R_drew)); exact HO_4.out)) k_ hk)); (case aO => exact (by (with_reducible repeat (first | apply Kd.R_alloc | apply Kd.R_drewN | apply Kd.R_drew)); exact HO_3.out)); (case aS => exact (below_size (by repeat (first | (with_reducible first | exact HB.out | apply below_alloc | apply pw_below_drewN | apply below_drew1) | exact HB.out)))); (case aL => have := LMc10.out; omega); intro v744 w12 ho hb hg hat; rw [← Ny743.out] at ho; have n0_ := Aside0.mk (Kd.R_after (ok := (fun _ => True)) (by (with_reducible repeat (first | apply Kd.R_alloc | apply Kd.R_drewN | apply Kd.R_drew)); exact Kd.R_mono HO_4.out (fun _ hk => ⟨trivial, hk⟩)) hg hat); have n1_ := Aside0.mk (hb); have n2_ := Aside0.mk (ho); clear HO_4; clear HB; clear HO_3; have HO_4 := n0_; have HB := n1_; have HO745 := n2_; clear n0_ n1_ n2_; clear ho hb hg hat)); try go_wp2_with (first | ((with_reducible refine gate_builtin (b := .append) (xs := #[.tmp 24, .tmp 26]) rfl ?_); at_builtin; refine Kd.R_append (Kd.int .i64) (w0 := w) w.heap.size rfl (.tmp 24) (.tmp 26) 22 3 (.int .i64 0) 8 rfl Try.underlying22 info3 rfl (by decide) (by omega) u3 x3_1 x5_1 [.int .i64 x5_1] (fun k_ => some k_ ≠ (.slice (some ad741) t738.length co11 : Value).ownBlock) (fun _ => False) rfl rfl ?aP (fun _ hk => hk.elim) ?aF ?aO ?aB ?aS ?aL ?_; (case aP => exact rfl); (case aB => exact (by repeat (first | (with_reducible first | exact HB.out | apply below_alloc | apply pw_below_drewN | apply below_drew1) | exact HB.out))); (case aF => exact (fun k_ hk => Kd.fresh' (Kd.R_lt (by (with_reducible repeat (first | apply Kd.R_alloc | apply Kd.R_drewN | apply Kd.R_drew)); exact HO_4.out)) k_ hk)); (case aO => exact (by (with_reducible repeat (first | apply Kd.R_alloc | apply Kd.R_drewN | apply Kd.R_drew)); exact HO_3.out)); (case aS => exact (below_size (by repeat (first | (with_reducible first | exact HB.out | apply below_alloc | apply pw_below_drewN | apply below_drew1) | exact HB.out)))); (case aL => have := LMc10.out; omega); intro v744 w12 ho hb hg hat; rw [← Ny743.out] at ho; have n0_ := Aside0.mk (Kd.R_after (ok := (fun _ => True)) (by (with_reducible repeat (first | apply Kd.R_alloc | apply Kd.R_drewN | apply Kd.R_drew)); exact Kd.R_mono HO_4.out (fun _ hk => ⟨trivial, hk⟩)) hg hat); have n1_ := Aside0.mk (hb); have n2_ := Aside0.mk (ho); clear HO_4; clear HB; clear HO_3; have HO_4 := n0_; have HB := n1_; have HO745 := n2_; clear n0_ n1_ n2_; clear ho hb hg hat)))
                  go_roundg k1
                  case measure => have := HK1.out; omega
                  case rel => exact ⟨(y743), (wrap64 (x5_1 + 1)), (by first | rfl | (simp; done) | (simp [*]; done)), H', ⟨by have := HK1.out; omega⟩, ⟨by (with_reducible repeat (first | apply Kd.R_alloc | apply Kd.R_drewN | apply Kd.R_drew)); exact HO745.out⟩, ⟨by (with_reducible repeat (first | apply Kd.R_alloc | apply Kd.R_drewN | apply Kd.R_drew)); exact Kd.R_mono HO_4.out (fun _ hk => hk.2)⟩, ⟨by repeat (first | (with_reducible first | exact HB.out | apply below_alloc | apply pw_below_drewN | apply below_drew1) | exact HB.out)⟩⟩
                · rw [if_neg c10] at H
                  exact absurd H (by simp)
              · rw [if_neg c9] at H
                have c9b0 : decide ((rd t738 (ji6)) < (rd t738 x5_1)) = false := decide_eq_false c9
                clear c9
                have H' := Aside0.mk H
                clear H
                obtain ⟨Ao13, co13, eo13⟩ := Kd.R_slice HO_4.out
                subst eo13
                have p741 : 0 ≤ (x5_1 : Int) := of_decide_eq_true (by first | (with_reducible assumption) | assumption)
                have q741 : x5_1 < (t738.length : Int) := of_decide_eq_true (by first | (with_reducible assumption) | assumption)
                obtain ⟨ad741, e741, hx741_0⟩ := Kd.at_int (Kd.R_reads' HO_4.out).2.2 x5_1 p741 q741
                cases e741
                replace p741 := eq_true p741
                replace q741 := eq_true q741
                have p742 : 0 ≤ ((ji6) : Int) := of_decide_eq_true (by first | (with_reducible assumption) | assumption)
                have q742 : (ji6) < (t738.length : Int) := of_decide_eq_true (by first | (with_reducible assumption) | assumption)
                obtain ⟨ad742, e742, hx742_0⟩ := Kd.at_int (Kd.R_reads' HO_4.out).2.2 (ji6) p742 q742
                obtain rfl : ad741 = ad742 := (by injection e742)
                replace p742 := eq_true p742
                replace q742 := eq_true q742
                go_wp2
                repeat (go_quiet (fail); try go_wp2)
                go_roundg k1
                case measure => have := HK1.out; omega
                case rel => exact ⟨(x3_1), (wrap64 (x5_1 + 1)), (by first | rfl | (simp; done) | (simp [*]; done)), H', ⟨by have := HK1.out; omega⟩, ⟨by (with_reducible repeat (first | apply Kd.R_alloc | apply Kd.R_drewN | apply Kd.R_drew)); exact HO_3.out⟩, ⟨by (with_reducible repeat (first | apply Kd.R_alloc | apply Kd.R_drewN | apply Kd.R_drew)); exact HO_4.out⟩, ⟨by repeat (first | (with_reducible first | exact HB.out | apply below_alloc | apply pw_below_drewN | apply below_drew1) | exact HB.out)⟩⟩
            · rw [if_neg c8] at H
              exact absurd H (by simp)
          · rw [if_neg c7] at H
            exact absurd H (by simp)
        · rw [if_neg c5] at H
          exact absurd H (by simp)
      · rw [if_neg c4] at H
        have c4b0 : decide (x5_1 < (t738.length : Int)) = false := decide_eq_false c4
        clear c4
        obtain rfl := Option.some.inj H
        obtain ⟨Ao14, co14, eo14⟩ := Kd.R_slice HO_4.out
        subst eo14
        go_wp2
        repeat (go_quiet (fail); try go_wp2)
        go_ret
        exact ⟨_, by first | rfl | (simp [errW_none, errW_some] <;> rfl) | (simp [*, errW_none, errW_some] <;> rfl), by (with_reducible repeat (first | apply Kd.R_alloc | apply Kd.R_drewN | apply Kd.R_drew)); exact Kd.R_mono HO_3.out (fun _ hk => trivial), by repeat (first | (with_reducible first | exact HB.out | apply below_alloc | apply pw_below_drewN | apply below_drew1) | exact HB.out)⟩

end Go.Proofs.Ytfahkoimleiknaa.F
end

section
namespace Go.Proofs.Ytfahkoimleiknaa.F
open Go.RowKit Go.Proofs.YtfahkoimleiknaaW.PrintWords Go.Proofs.YtfahkoimleiknaaW.PrintLast Go.Proofs.YtfahkoimleiknaaW.PrintMore
attribute [local go_sem] max2_int min2_int max_two min_two max_three min_three max_four min_four
set_option linter.unusedVariables false
set_option linter.unusedSimpArgs false

/-! ### spec_shMajor: function 83 -/
def spec_shMajor.l0 : Nat → Int → List Int → Int → Int → Option (Int)
  | 0, _, _, _, _ => none
  | k + 1, x3, x7, x8, x9 => if x9 < x8 then (if 0 ≤ x9 then (if x9 < (x7.length : Int) then (spec_shMajor.l0 k (wrap64 (x3 + (rd x7 x9))) x7 x8 (wrap64 (x9 + 1))) else (none)) else (none)) else (some x3)
def spec_shMajor.f (k : Nat) (l0 : List (List Int)) : Option (Int) := (spec_shDescents.f k l0).bind fun t746 => (spec_shMajor.l0 k 0 t746 (t746.length : Int) 0)
theorem spec_shMajor.mono_l : ∀ k, (∀ y0 y1 y2 y3, LeO (spec_shMajor.l0 k y0 y1 y2 y3) (spec_shMajor.l0 (k + 1) y0 y1 y2 y3))
  | 0 => fun _ _ _ _ r h => by simp [spec_shMajor.l0] at h
  | k + 1 => by
    have ih0 := spec_shMajor.mono_l k
    · intro y0 y1 y2 y3
      unfold spec_shMajor.l0
      repeat' first
      | (with_reducible exact ih0 _ _ _ _)
      | (with_reducible exact spec_shDescents.mono _ _)
      | (with_reducible exact LeO.refl _)
      | (with_reducible exact LeO.none _)
      | (with_reducible refine LeO.ite ?_ ?_)
      | (with_reducible refine LeO.bind ?_ (fun _ => ?_))
      | exact ih0 _ _ _ _
      | exact spec_shDescents.mono _ _
      | exact LeO.none _
      | refine LeO.ite ?_ ?_
      | refine LeO.bind ?_ (fun _ => ?_)
theorem spec_shMajor.mono : ∀ a0 k, LeO (spec_shMajor.f k a0) (spec_shMajor.f (k + 1) a0) := by
  intro a0 k
  have ih0 := spec_shMajor.mono_l k
  unfold spec_shMajor.f
  repeat' first
      | (with_reducible exact ih0 _ _ _ _)
      | (with_reducible exact spec_shDescents.mono _ _)
      | (with_reducible exact LeO.refl _)
      | (with_reducible exact LeO.none _)
      | (with_reducible refine LeO.ite ?_ ?_)
      | (with_reducible refine LeO.bind ?_ (fun _ => ?_))
      | exact ih0 _ _ _ _
      | exact spec_shDescents.mono _ _
      | exact LeO.none _
      | refine LeO.ite ?_ ?_
      | refine LeO.bind ?_ (fun _ => ?_)
set_option maxHeartbeats 8000000 in
set_option maxRecDepth 100000 in
theorem spec_shMajor.calls (k : Nat) (A0 : Option Addr) (c0 : Nat) (l0 : List (List Int)) (r : Int) (w : World) (hr0 : Kd.C (Kd.slice 3 (Kd.int .i64)) w A0 l0.length l0) (hc0 : l0.length ≤ c0) (h : spec_shMajor.f k l0 = some r) :
    Calls Try.prog 83 #[.slice A0 l0.length c0] w fun e w' => e = .returned (.int .i64 r) ∧ Below w.heap.size w w' := by
  have HR0 := Aside0.mk hr0
  have HC0 := Aside0.mk hc0
  clear hr0 hc0
  have HB := Aside0.mk (Below.refl w.heap.size w)
  have H : ((spec_shDescents.f k l0).bind fun t746 => (spec_shMajor.l0 k 0 t746 (t746.length : Int) 0)) = some r := h
  clear h
  replace H := Option.bind_eq_some_iff.mp H
  obtain ⟨t746, A20, H⟩ := H
  replace H : (spec_shMajor.l0 k 0 t746 (t746.length : Int) 0) = some r := H
  have A2 := Aside0.mk A20
  clear A20
  have H' := Aside0.mk H
  clear H
  go_enter Try.func83, Try.ntmps83
  go_wp2_with (first | ((with_reducible refine gate_callee (f := 85) rfl ?_); refine goesL_ (some 7) rfl rfl Try.func85 (by kernel_rfl) rfl #[.slice A0 l0.length c0] rfl (by (try simp only [List.map_toArray, List.map_cons, List.map_nil]); first | done | rfl | (simp only [List.length_drop, List.length_take]; rfl)) ?_; (with_reducible refine (spec_shDescents.calls k _ _ l0 t746 _ ?side1 ?side2 A2.out).mono ?_); (case side1 => repeat (first | exact HR0.out | (with_reducible refine Kd.C_alloc ?_ _) | (with_reducible refine Kd.C_drewN ?_ _) | (with_reducible refine Kd.C_drew ?_))); (case side2 => exact HC0.out); rintro e w3 ⟨v747, rfl, ho0, hb⟩; refine ⟨_, rfl, ?_⟩; have n0_ := Aside0.mk (Kd.R_lower ho0 (below_size (by repeat (first | (with_reducible first | exact HB.out | apply below_alloc | apply pw_below_drewN | apply below_drew1) | exact HB.out)))); have n1_ := Aside0.mk (below_step (by repeat (first | (with_reducible first | exact HB.out | apply below_alloc | apply pw_below_drewN | apply below_drew1) | exact HB.out)) hb); clear HB; have HO748 := n0_; have HB := n1_; clear n0_ n1_; (try clear hb); (try clear hb2); (try clear hk); (try clear hi); (try clear ho0); obtain ⟨Ao4, co4, eo4⟩ := Kd.R_slice HO748.out; subst eo4))
  go_loopg [3, 9] k (fun kq v3 v9 w' => ∃ (x3_1 : Int) (x9_1 : Int), v3 = .int .i64 x3_1 ∧ v9 = .int .i64 x9_1 ∧ Aside0 (spec_shMajor.l0 kq x3_1 t746 (t746.length : Int) x9_1 = some r) ∧ Aside0 (kq ≤ k) ∧ Aside0 (Kd.R (Kd.int .i64) 3 w' w.heap.size (fun _ => True) (.slice Ao4 t746.length co4) t746) ∧ Aside0 (Below w.heap.size w w'))
  case atStart => exact ⟨(0), (0), (by first | rfl | (simp; done) | (simp [*]; done)), (by first | rfl | (simp; done) | (simp [*]; done)), H', ⟨Nat.le_refl _⟩, ⟨by (with_reducible repeat (first | apply Kd.R_alloc | apply Kd.R_drewN | apply Kd.R_drew)); exact HO748.out⟩, ⟨by repeat (first | (with_reducible first | exact HB.out | apply below_alloc | apply pw_below_drewN | apply below_drew1) | exact HB.out)⟩⟩
  case round =>
    clear H'
    try clear p2
    obtain ⟨x3_1, x9_1, rfl, rfl, HA, HK1, HO_7, HB⟩ := hrel
    cases gk with
    | zero => exact absurd HA.out (by simp [spec_shMajor.l0])
    | succ k1 =>
      have H := HA.out
      clear HA
      simp only [spec_shMajor.l0] at H
      by_cases c5 : x9_1 < (t746.length : Int)
      · rw [if_pos c5] at H
        have c5b0 : decide (x9_1 < (t746.length : Int)) = true := decide_eq_true c5
        clear c5
        by_cases c6 : 0 ≤ x9_1
        · rw [if_pos c6] at H
          have c6b0 : decide (0 ≤ x9_1) = true := decide_eq_true c6
          clear c6
          by_cases c7 : x9_1 < (t746.length : Int)
          · rw [if_pos c7] at H
            have c7b0 : decide (x9_1 < (t746.length : Int)) = true := decide_eq_true c7
            clear c7
            have H' := Aside0.mk H
            clear H
            have p749 : 0 ≤ (x9_1 : Int) := of_decide_eq_true (by first | (with_reducible assumption) | assumption)
            have q749 : x9_1 < (t746.length : Int) := of_decide_eq_true (by first | (with_reducible assumption) | assumption)
            obtain ⟨ad749, e749, hx749_0⟩ := Kd.at_int (Kd.R_reads' HO_7.out).2.2 x9_1 p749 q749
            cases e749
            replace p749 := eq_true p749
            replace q749 := eq_true q749
            go_wp2
            go_roundg k1
            case measure => have := HK1.out; omega
            case rel => exact ⟨(wrap64 (x3_1 + (rd t746 x9_1))), (wrap64 (x9_1 + 1)), (by first | rfl | (simp; done) | (simp [*]; done)), (by first | rfl | (simp; done) | (simp [*]; done)), H', ⟨by have := HK1.out; omega⟩, ⟨by (with_reducible repeat (first | apply Kd.R_alloc | apply Kd.R_drewN | apply Kd.R_drew)); exact HO_7.out⟩, ⟨by repeat (first | (with_reducible first | exact HB.out | apply below_alloc | apply pw_below_drewN | apply below_drew1) | exact HB.out)⟩⟩
          · rw [if_neg c7] at H
            exact absurd H (by simp)
        · rw [if_neg c6] at H
          exact absurd H (by simp)
      · rw [if_neg c5] at H
        have c5b0 : decide (x9_1 < (t746.length : Int)) = false := decide_eq_false c5
        clear c5
        obtain rfl := Option.some.inj H
        go_wp2
        go_ret
        exact ⟨by first | rfl | (simp [errW_none, errW_some] <;> rfl) | (simp [*, errW_none, errW_some] <;> rfl), by repeat (first | (with_reducible first | exact HB.out | apply below_alloc | apply pw_below_drewN | apply below_drew1) | exact HB.out)⟩

end Go.Proofs.Ytfahkoimleiknaa.F
end

section
namespace Go.Proofs.Ytfahkoimleiknaa.F
open Go.RowKit Go.Proofs.YtfahkoimleiknaaW.PrintWords Go.Proofs.YtfahkoimleiknaaW.PrintLast Go.Proofs.YtfahkoimleiknaaW.PrintMore
attribute [local go_sem] max2_int min2_int max_two min_two max_three min_three max_four min_four
set_option linter.unusedVariables false
set_option linter.unusedSimpArgs false

/-! ### spec_MajorOf: function 48 -/
def spec_MajorOf.f (k : Nat) (l0 : List (List Int)) : Option (Int × Bool) := (spec_shGood.f k l0).bind fun t750 => (if t750 = true then ((spec_shMajor.f k l0).bind fun t751 => (some (t751, true))) else (some (0, false)))
theorem spec_MajorOf.mono : ∀ a0 k, LeO (spec_MajorOf.f k a0) (spec_MajorOf.f (k + 1) a0) := by
  intro a0 k
  unfold spec_MajorOf.f
  repeat' first
      | (with_reducible exact spec_shGood.mono _ _)
      | (with_reducible exact spec_shMajor.mono _ _)
      | (with_reducible exact LeO.refl _)
      | (with_reducible exact LeO.none _)
      | (with_reducible refine LeO.ite ?_ ?_)
      | (with_reducible refine LeO.bind ?_ (fun _ => ?_))
      | exact spec_shGood.mono _ _
      | exact spec_shMajor.mono _ _
      | exact LeO.none _
      | refine LeO.ite ?_ ?_
      | refine LeO.bind ?_ (fun _ => ?_)
set_option maxHeartbeats 8000000 in
set_option maxRecDepth 100000 in
theorem spec_MajorOf.calls (k : Nat) (A0 : Option Addr) (c0 : Nat) (l0 : List (List Int)) (r1 : Int) (r2 : Bool) (w : World) (hr0 : Kd.C (Kd.slice 3 (Kd.int .i64)) w A0 l0.length l0) (hc0 : l0.length ≤ c0) (h : spec_MajorOf.f k l0 = some (r1, r2)) :
    Calls Try.prog 48 #[.slice A0 l0.length c0] w fun e w' => e = .returned (.tuple #[.int .i64 r1, .bool r2]) ∧ Below w.heap.size w w' := by
  have HR0 := Aside0.mk hr0
  have HC0 := Aside0.mk hc0
  clear hr0 hc0
  have HB := Aside0.mk (Below.refl w.heap.size w)
  have H : ((spec_shGood.f k l0).bind fun t750 => (if t750 = true then ((spec_shMajor.f k l0).bind fun t751 => (some (t751, true))) else (some (0, false)))) = some (r1, r2) := h
  clear h
  replace H := Option.bind_eq_some_iff.mp H
  obtain ⟨t750, A20, H⟩ := H
  replace H : (if t750 = true then ((spec_shMajor.f k l0).bind fun t751 => (some (t751, true))) else (some (0, false))) = some (r1, r2) := H
  have A2 := Aside0.mk A20
  clear A20
  by_cases c3 : t750 = true
  · subst c3
    have H1 : ((spec_shMajor.f k l0).bind fun t751 => (some (t751, true))) = some (r1, r2) := by rw [if_pos rfl] at H; exact H
    clear H
    have H := H1
    clear H1
    replace H := Option.bind_eq_some_iff.mp H
    obtain ⟨t751, A40, H⟩ := H
    replace H : (some (t751, true)) = some (r1, r2) := H
    have A4 := Aside0.mk A40
    clear A40
    simp only [Option.some.injEq, Prod.mk.injEq] at H
    obtain ⟨rfl, rfl⟩ := H
    go_enter Try.func48, Try.ntmps48
    go_wp2_with (first | ((with_reducible refine gate_callee (f := 66) rfl ?_); refine goesL_ (some 5) rfl rfl Try.func66 (by kernel_rfl) rfl #[.slice A0 l0.length c0] rfl (by (try simp only [List.map_toArray, List.map_cons, List.map_nil]); first | done | rfl | (simp only [List.length_drop, List.length_take]; rfl)) ?_; (with_reducible refine (spec_shGood.calls k _ _ l0 true _ ?side1 ?side2 A2.out).mono ?_); (case side1 => repeat (first | exact HR0.out | (with_reducible refine Kd.C_alloc ?_ _) | (with_reducible refine Kd.C_drewN ?_ _) | (with_reducible refine Kd.C_drew ?_))); (case side2 => exact HC0.out); rintro e w' ⟨rfl, ⟨nd, rfl⟩⟩; refine ⟨_, rfl, ?_⟩) | ((with_reducible refine gate_callee (f := 83) rfl ?_); refine goesL_ (some 8) rfl rfl Try.func83 (by kernel_rfl) rfl #[.slice A0 l0.length c0] rfl (by (try simp only [List.map_toArray, List.map_cons, List.map_nil]); first | done | rfl | (simp only [List.length_drop, List.length_take]; rfl)) ?_; (with_reducible refine (spec_shMajor.calls k _ _ l0 t751 _ ?side1 ?side2 A4.out).mono ?_); (case side1 => repeat (first | exact HR0.out | (with_reducible refine Kd.C_alloc ?_ _) | (with_reducible refine Kd.C_drewN ?_ _) | (with_reducible refine Kd.C_drew ?_))); (case side2 => exact HC0.out); rintro e w5 ⟨rfl, hb⟩; refine ⟨_, rfl, ?_⟩; have n0_ := Aside0.mk (below_step (by repeat (first | (with_reducible first | exact HB.out | apply below_alloc | apply pw_below_drewN | apply below_drew1) | exact HB.out)) hb); clear HB; have HB := n0_; clear n0_; (try clear hb); (try clear hb2); (try clear hk); (try clear hi)))
    go_ret2
    exact ⟨by first | rfl | (simp [errW_none, errW_some] <;> rfl) | (simp [*, errW_none, errW_some] <;> rfl), by repeat (first | (with_reducible first | exact HB.out | apply below_alloc | apply pw_below_drewN | apply below_drew1) | exact HB.out)⟩
  · replace c3 := Bool.eq_false_iff.mpr c3
    subst c3
    have H1 : (some (0, false)) = some (r1, r2) := by rw [if_neg (show ¬ (false = true) by decide)] at H; exact H
    clear H
    have H := H1
    clear H1
    simp only [Option.some.injEq, Prod.mk.injEq] at H
    obtain ⟨rfl, rfl⟩ := H
    go_enter Try.func48, Try.ntmps48
    go_wp2_with (first | ((with_reducible refine gate_callee (f := 66) rfl ?_); refine goesL_ (some 5) rfl rfl Try.func66 (by kernel_rfl) rfl #[.slice A0 l0.length c0] rfl (by (try simp only [List.map_toArray, List.map_cons, List.map_nil]); first | done | rfl | (simp only [List.length_drop, List.length_take]; rfl)) ?_; (with_reducible refine (spec_shGood.calls k _ _ l0 false _ ?side1 ?side2 A2.out).mono ?_); (case side1 => repeat (first | exact HR0.out | (with_reducible refine Kd.C_alloc ?_ _) | (with_reducible refine Kd.C_drewN ?_ _) | (with_reducible refine Kd.C_drew ?_))); (case side2 => exact HC0.out); rintro e w' ⟨rfl, ⟨nd, rfl⟩⟩; refine ⟨_, rfl, ?_⟩))
    go_ret2
    exact ⟨by first | rfl | (simp [errW_none, errW_some] <;> rfl) | (simp [*, errW_none, errW_some] <;> rfl), by repeat (first | (with_reducible first | exact HB.out | apply below_alloc | apply pw_below_drewN | apply below_drew1) | exact HB.out)⟩

end Go.Proofs.Ytfahkoimleiknaa.F
end

section
namespace Go.Proofs.Ytfahkoimleiknaa.Q
open Go.RowKit Go.Proofs.YtfahkoimleiknaaW.PrintWords
set_option linter.unusedVariables false
theorem wid {n : Int} (h0 : -9223372036854775808 ≤ n) (h1 : n ≤ 9223372036854775807) : wrap64 n = n := by unfold wrap64; omega
theorem wid1 {i n : Nat} (h : i < n) (hn : n ≤ 9223372036854775807) : wrap64 ((i : Int) + 1) = ((i + 1 : Nat) : Int) := by unfold wrap64; omega
theorem rdN (l : List Int) (i : Nat) : rd l (i : Int) = l.getD i 0 := by unfold rd; simp
theorem rdN' {l : List Int} {i : Nat} (h : i < l.length) : rd l (i : Int) = l[i] := by rw [rdN, List.getD_eq_getElem?_getD, List.getElem?_eq_getElem h]; rfl
theorem downTo {P : Nat → Prop} (n : Nat) (h0 : P n) (hs : ∀ i, i < n → P (i + 1) → P i) : ∀ i, i ≤ n → P i := by
  intro i hi
  obtain ⟨d, hd⟩ : ∃ d, n - i = d := ⟨_, rfl⟩
  induction d generalizing i with
  | zero => have : i = n := by omega
            subst this; exact h0
  | succ d ih => exact hs i (by omega) (ih (i + 1) (by omega) (by omega))
theorem evc {α : Type} {g : Nat → Option α} {r r' : α} (h : Ev g r) (e : r = r') : Ev g r' := e ▸ h
theorem Ev.ret {α : Type} {r r' : α} (e : r = r') : Ev (fun _ => some r) r' := e ▸ Ev.now r
/-- A call that needs no rounds. -/
theorem Ev.call {α β : Type} {o : Option α} {a : α} {f : Nat → α → Option β} {r : β} (h : o = some a) (k : Ev (fun n => f n a) r) : Ev (fun n => o.bind (f n)) r := by
  subst h; exact k
theorem Ev.yes {α : Type} {c : Prop} [Decidable c] {f g : Nat → Option α} {r : α} (h : c) (k : Ev f r) : Ev (fun n => if c then f n else g n) r := by
  obtain ⟨K, k⟩ := k
  exact ⟨K, fun n hn => by show (if c then f n else g n) = _; rw [if_pos h]; exact k n hn⟩
theorem Ev.no {α : Type} {c : Prop} [Decidable c] {f g : Nat → Option α} {r : α} (h : ¬ c) (k : Ev g r) : Ev (fun n => if c then f n else g n) r := by
  obtain ⟨K, k⟩ := k
  exact ⟨K, fun n hn => by show (if c then f n else g n) = _; rw [if_neg h]; exact k n hn⟩
theorem Ev.ite {α : Type} {c : Prop} [Decidable c] {f g : Nat → Option α} {r : α} (h1 : c → Ev f r) (h2 : ¬ c → Ev g r) : Ev (fun n => if c then f n else g n) r := by
  by_cases h : c
  · exact Ev.yes h (h1 h)
  · exact Ev.no h (h2 h)
theorem Ev.uniq {α : Type} {g : Nat → Option α} {r r' : α} (h : Ev g r) (h' : Ev g r') : r = r' := by
  obtain ⟨K, h⟩ := h
  obtain ⟨K', h'⟩ := h'
  have a := h (max K K') (by omega)
  have b := h' (max K K') (by omega)
  rw [a] at b
  exact Option.some.inj b
theorem Ev.const {α : Type} {o : Option α} {r : α} (h : o = some r) : Ev (fun _ => o) r := ⟨0, fun _ _ => h⟩

/-! ### bits -/
/-- The elements of a that are not in b. -/
def ndiff (a b : Nat) : Nat := a ^^^ (a &&& b)
theorem ndiff_bit (a b i : Nat) : (ndiff a b).testBit i = (a.testBit i && !b.testBit i) := by
  unfold ndiff; rw [Nat.testBit_xor, Nat.testBit_and]; cases a.testBit i <;> cases b.testBit i <;> rfl
theorem wrap_i64_id {n : Int} (h0 : -9223372036854775808 ≤ n) (h1 : n ≤ 9223372036854775807) : IntKind.i64.wrap n = n := by rw [IntKind.wrap_i64]; omega
theorem wraps62 (n : Int) (h0 : 0 ≤ n) (h1 : n < 2 ^ 62) : IntKind.i64.wrap n = n := wrap_i64_id (by omega) (by omega)
theorem bits_andN {a b : Nat} (ha : a < 2 ^ 62) (hb : b < 2 ^ 62) : Go.bits .and .i64 (a : Int) (b : Int) = ((a &&& b : Nat) : Int) :=
  (Go.bits_nat .i64 62 (by decide) wraps62 a b ha hb).1
theorem bits_orN {a b : Nat} (ha : a < 2 ^ 62) (hb : b < 2 ^ 62) : Go.bits .or .i64 (a : Int) (b : Int) = ((a ||| b : Nat) : Int) :=
  (Go.bits_nat .i64 62 (by decide) wraps62 a b ha hb).2
theorem lt_pow {a n m : Nat} (h : a < 2 ^ n) (hnm : n ≤ m) : a < 2 ^ m := Nat.lt_of_lt_of_le h (Nat.pow_le_pow_right (by decide) hnm)
theorem ndiff_le (a b : Nat) : ndiff a b ≤ a := by
  have h := Nat.and_le_left (n := a) (m := b)
  have hx : ndiff a b &&& (a &&& b) = 0 := by
    apply Nat.eq_of_testBit_eq
    intro i
    rw [Nat.testBit_and, ndiff_bit, Nat.testBit_and, Nat.zero_testBit]
    cases a.testBit i <;> cases b.testBit i <;> rfl
  apply Nat.le_of_testBit
  intro i hi
  rw [ndiff_bit] at hi
  simp at hi
  exact hi.1
theorem ndiff_lt {a b m : Nat} (h : a < m) : ndiff a b < m := Nat.lt_of_le_of_lt (ndiff_le a b) h
theorem bits_andNotN {a b : Nat} (ha : a < 2 ^ 62) (hb : b < 2 ^ 62) : Go.bits .andNot .i64 (a : Int) (b : Int) = ((ndiff a b : Nat) : Int) := by
  have e : Go.bits .andNot .i64 (a : Int) (b : Int) = IntKind.i64.wrap ((((BitVec.ofInt 64 a) &&& ~~~(BitVec.ofInt 64 b)).toNat : Nat) : Int) := rfl
  have e2 : ((BitVec.ofInt 64 (a : Int)) &&& ~~~(BitVec.ofInt 64 (b : Int))).toNat = ndiff a b := by
    apply Nat.eq_of_testBit_eq
    intro i
    rw [ndiff_bit, BitVec.ofInt_natCast, BitVec.ofInt_natCast]
    rw [BitVec.testBit_toNat, BitVec.getLsbD_and, BitVec.getLsbD_not, BitVec.getLsbD_ofNat, BitVec.getLsbD_ofNat]
    by_cases hi : i < 64
    · simp [hi]
    · have : a.testBit i = false := Nat.testBit_lt_two_pow (lt_pow ha (by omega))
      simp [hi, this]
  rw [e, e2]
  have h2 := ndiff_lt (b := b) ha
  exact wrap_i64_id (by omega) (by omega)
theorem shlN {i : Nat} (hi : i ≤ 61) : shl .i64 1 (i : Int) = ((2 ^ i : Nat) : Int) := by
  unfold shl
  have h1 : min (i : Int).toNat (IntKind.bits .i64) = i := by simp [IntKind.bits]; omega
  rw [h1]
  have h2 : (2 : Nat) ^ i < 2 ^ 62 := Nat.pow_lt_pow_right (by decide) (by omega)
  have e : (1 : Int) * 2 ^ i = ((2 ^ i : Nat) : Int) := by rw [Int.one_mul]; exact (Int.natCast_pow 2 i).symm
  rw [e]
  exact wraps62 _ (Int.natCast_nonneg _) (by
    have : ((2 ^ i : Nat) : Int) < ((4611686018427387904 : Nat) : Int) := by exact_mod_cast h2
    exact this)
theorem shrN (a i : Nat) (hi : i ≤ 64) : shr .i64 (a : Int) (i : Int) = ((a / 2 ^ i : Nat) : Int) := by
  unfold shr
  have h1 : min (i : Int).toNat (IntKind.bits .i64) = i := by simp [IntKind.bits]; omega
  rw [h1, Int.natCast_ediv, Int.natCast_pow]; rfl
theorem odd_bit (a i : Nat) : ((a / 2 ^ i) % 2 == 1) = a.testBit i := by
  rw [Nat.testBit_eq_decide_div_mod_eq]; rfl
theorem or_lt {a b n : Nat} (ha : a < 2 ^ n) (hb : b < 2 ^ n) : a ||| b < 2 ^ n := Nat.or_lt_two_pow ha hb
theorem bit_lt {a n i : Nat} (h : a < 2 ^ n) (hi : n ≤ i) : a.testBit i = false := Nat.testBit_lt_two_pow (lt_pow h hi)
theorem lt_of_bit {a n i : Nat} (h : a < 2 ^ n) (hi : a.testBit i = true) : i < n := by
  rcases Nat.lt_or_ge i n with h1 | h1
  · exact h1
  · rw [bit_lt h h1] at hi; cases hi
theorem pow_bit (i j : Nat) : (2 ^ i).testBit j = decide (i = j) := by
  rw [Nat.testBit_two_pow]
theorem pow_lt_pow {i n : Nat} (h : i < n) : 2 ^ i < 2 ^ n := Nat.pow_lt_pow_right (by decide) h
theorem ext_bits {a b n : Nat} (ha : a < 2 ^ n) (hb : b < 2 ^ n) (h : ∀ i, i < n → a.testBit i = b.testBit i) : a = b := by
  apply Nat.eq_of_testBit_eq
  intro i
  rcases Nat.lt_or_ge i n with h1 | h1
  · exact h i h1
  · rw [bit_lt ha h1, bit_lt hb h1]
end Go.Proofs.Ytfahkoimleiknaa.Q
end

section
namespace Go.Proofs.Ytfahkoimleiknaa.Q
open Go.RowKit Go.Proofs.YtfahkoimleiknaaW.PrintWords
set_option linter.unusedVariables false
/-- f holds at i, i + 1, .., n - 1. -/
def allFrom (f : Nat → Bool) (n i : Nat) : Bool := (List.range' i (n - i)).all f
theorem allFrom_end (f : Nat → Bool) (n : Nat) : allFrom f n n = true := by simp [allFrom]
theorem allFrom_step (f : Nat → Bool) {n i : Nat} (h : i < n) : allFrom f n i = (f i && allFrom f n (i + 1)) := by
  unfold allFrom
  obtain ⟨d, hd⟩ : ∃ d, n - i = d + 1 := ⟨n - i - 1, by omega⟩
  rw [hd, List.range'_succ, List.all_cons, show n - (i + 1) = d by omega]
theorem allFrom_iff (f : Nat → Bool) (n i : Nat) : allFrom f n i = true ↔ ∀ j, i ≤ j → j < n → f j = true := by
  unfold allFrom
  rw [List.all_eq_true]
  constructor
  · intro h j h1 h2
    exact h j (List.mem_range'_1.2 ⟨h1, by omega⟩)
  · intro h j hj
    obtain ⟨h1, h2⟩ := List.mem_range'_1.1 hj
    exact h j h1 (by omega)
theorem allFrom_congr {f g : Nat → Bool} {n i : Nat} (h : ∀ j, i ≤ j → j < n → f j = g j) : allFrom f n i = allFrom g n i := by
  rw [Bool.eq_iff_iff, allFrom_iff, allFrom_iff]
  exact ⟨fun H j a b => by rw [← h j a b]; exact H j a b, fun H j a b => by rw [h j a b]; exact H j a b⟩
theorem pow_int (i : Nat) : ((2 : Int) ^ i) = ((2 ^ i : Nat) : Int) := (Int.natCast_pow 2 i).symm
theorem mask_eq {i : Nat} (hi : i ≤ 61) : wrap64 ((shl .i64 1 (i : Int)) - 1) = (2 : Int) ^ i - 1 := by
  rw [shlN hi, pow_int]
  have h2 : (2 : Nat) ^ i ≤ 2 ^ 61 := Nat.pow_le_pow_right (by decide) hi
  have hp : 0 < 2 ^ i := Nat.two_pow_pos i
  apply wid <;> generalize 2 ^ i = z at * <;> omega
theorem bit_test {a : Nat} {j : Nat} (hj : j ≤ 64) : (Int.tmod (shr .i64 (a : Int) (j : Int)) 2 = 1) ↔ a.testBit j = true := by
  rw [shrN a j hj, Int.tmod_eq_emod_of_nonneg (Int.natCast_nonneg _), ← odd_bit, beq_iff_eq]
  omega
theorem range_false {a b : Int} {x : Int} (h : ¬ (a ≤ x ∧ x ≤ b)) : (decide (a ≤ x) && decide (x ≤ b)) = false := by
  rw [← Bool.not_eq_true, Bool.and_eq_true, decide_eq_true_eq, decide_eq_true_eq]; exact h
theorem range_true {a b : Int} {x : Int} (h : a ≤ x ∧ x ≤ b) : (decide (a ≤ x) && decide (x ≤ b)) = true := by
  rw [Bool.and_eq_true, decide_eq_true_eq, decide_eq_true_eq]; exact h
end Go.Proofs.Ytfahkoimleiknaa.Q
end

section
namespace Go.Proofs.Ytfahkoimleiknaa.Q
open Go.RowKit Go.Proofs.YtfahkoimleiknaaW.PrintWords Go.Proofs.Ytfahkoimleiknaa.F
set_option linter.unusedVariables false
theorem l1In_eq (a b c : Int) : spec_l1In.f a b c = some (decide (b ≤ a) && decide (a ≤ c)) := by
  unfold spec_l1In.f
  by_cases h : b ≤ a
  · rw [if_pos h]; simp [h]
  · rw [if_neg h]; simp [h]
end Go.Proofs.Ytfahkoimleiknaa.Q
end

section
namespace Go.Proofs.Ytfahkoimleiknaa.Q
open Go.RowKit Go.Proofs.YtfahkoimleiknaaW.PrintWords Go.Proofs.Ytfahkoimleiknaa.F
set_option linter.unusedVariables false
theorem has_eq {a j : Nat} (ha : a < 2 ^ 62) (hj : j ≤ 64) : impl_has.f (a : Int) (j : Int) = some (a.testBit j) := by
  unfold impl_has.f
  rw [if_pos (Int.natCast_nonneg _), shrN a j hj]
  congr 1
  have h1 : a / 2 ^ j < 2 ^ 62 := Nat.lt_of_le_of_lt (Nat.div_le_self _ _) ha
  have := bits_andN (a := a / 2 ^ j) (b := 1) h1 (by decide)
  rw [show ((1 : Nat) : Int) = 1 from rfl] at this
  rw [this, ← odd_bit, Nat.and_one_is_mod]
  rw [Bool.eq_iff_iff, beq_iff_eq, beq_iff_eq]
  omega

end Go.Proofs.Ytfahkoimleiknaa.Q
end

section
namespace Go.Proofs.Ytfahkoimleiknaa.Q
open Go.RowKit Go.Proofs.YtfahkoimleiknaaW.PrintWords Go.Proofs.Ytfahkoimleiknaa.F
set_option linter.unusedVariables false
def inR (a b x : Int) : Bool := decide (a ≤ x) && decide (x ≤ b)
theorem inR_iff {a b x : Int} : inR a b x = true ↔ a ≤ x ∧ x ≤ b := by unfold inR; rw [Bool.and_eq_true, decide_eq_true_eq, decide_eq_true_eq]
theorem l1All_ev (l : List Int) (a b : Int) (h : l.length ≤ 9223372036854775807) : Ev (fun k => spec_l1All.f k l a b) (allFrom (fun i => inR a b (l.getD i 0)) l.length 0) := by
  unfold spec_l1All.f
  have key : ∀ i, i ≤ l.length → Ev (fun k => spec_l1All.l0 k a b l (l.length : Int) (i : Int)) (allFrom (fun i => inR a b (l.getD i 0)) l.length i) := by
    refine downTo _ ?_ ?_
    · refine Ev.step (by intro k; simp only [spec_l1All.l0]; rfl) (Ev.no (by omega) (Ev.ret (allFrom_end _ _).symm))
    · intro i hi ih
      refine Ev.step (by intro k; simp only [spec_l1All.l0]; rfl) (Ev.yes (by omega) (Ev.yes (by omega) (Ev.yes (by omega) ?_)))
      rw [wid1 hi (by omega), rdN, allFrom_step _ hi]
      refine Ev.call (l1In_eq _ _ _) ?_
      show Ev (fun k => if inR a b (l.getD i 0) = true then _ else _) (inR a b (l.getD i 0) && _)
      cases inR a b (l.getD i 0) with
      | true => exact Ev.yes rfl (evc ih (by simp))
      | false => exact Ev.no (by simp) (Ev.ret rfl)
  exact key 0 (by omega)
end Go.Proofs.Ytfahkoimleiknaa.Q
end

section
namespace Go.Proofs.Ytfahkoimleiknaa.Q
open Go.RowKit Go.Proofs.YtfahkoimleiknaaW.PrintWords
set_option linter.unusedVariables false
theorem getD_set {α : Type} (l : List α) (i j : Nat) (v d : α) (hi : i < l.length) : (l.set i v).getD j d = if i = j then v else l.getD j d := by
  simp only [List.getD_eq_getElem?_getD, List.getElem?_set]
  by_cases h : i = j
  · subst h; simp [hi]
  · simp [h]
theorem ext_getD {a b : List Int} (hl : a.length = b.length) (h : ∀ i, i < a.length → a.getD i 0 = b.getD i 0) : a = b := by
  apply List.ext_getElem hl
  intro i h1 h2
  have := h i h1
  rw [List.getD_eq_getElem?_getD, List.getD_eq_getElem?_getD, List.getElem?_eq_getElem h1, List.getElem?_eq_getElem h2] at this
  exact this
theorem reverse_getD (l : List Int) (i : Nat) (h : i < l.length) : l.reverse.getD i 0 = l.getD (l.length - 1 - i) 0 := by
  rw [List.getD_eq_getElem?_getD, List.getD_eq_getElem?_getD, List.getElem?_reverse h]
end Go.Proofs.Ytfahkoimleiknaa.Q
end

section
namespace Go.Proofs.Ytfahkoimleiknaa.Q
open Go.RowKit Go.Proofs.YtfahkoimleiknaaW.PrintWords Go.Proofs.Ytfahkoimleiknaa.F
set_option linter.unusedVariables false
theorem eqIntS_ev (a b : List Int) (h : a.length ≤ 9223372036854775807) : Ev (fun k => laws_eqIntS.f k a b) (decide (a = b)) := by
  unfold laws_eqIntS.f
  refine Ev.ite (fun hl => ?_) (fun hl => Ev.ret ?_)
  · have hl' : a.length = b.length := by omega
    have key : ∀ i, i ≤ a.length → a.take i = b.take i → Ev (fun k => laws_eqIntS.l0 k a b (i : Int)) (decide (a = b)) := by
      refine downTo _ ?_ ?_
      · intro hp
        refine Ev.step (by intro k; simp only [laws_eqIntS.l0]; rfl) (Ev.no (by omega) (Ev.ret ?_))
        rw [List.take_length, hl', List.take_length] at hp
        simp [hp]
      · intro i hi ih hp
        refine Ev.step (by intro k; simp only [laws_eqIntS.l0]; rfl) (Ev.yes (by omega) (Ev.yes (by omega) (Ev.yes (by omega) ?_)))
        rw [wid1 hi (by omega), rdN, rdN]
        have ga : a.getD i 0 = a[i] := by rw [List.getD_eq_getElem?_getD, List.getElem?_eq_getElem hi]; rfl
        have gb : b.getD i 0 = b[i]'(by omega) := by rw [List.getD_eq_getElem?_getD, List.getElem?_eq_getElem (by omega)]; rfl
        rw [ga, gb]
        refine Ev.ite (fun h => ih ?_) (fun h => Ev.ret ?_)
        · rw [List.take_add_one, List.take_add_one, hp, List.getElem?_eq_getElem hi, List.getElem?_eq_getElem (show i < b.length by omega), h]
        · rw [decide_eq_false]
          intro e
          subst e
          exact h rfl
    exact key 0 (by omega) rfl
  · rw [decide_eq_false]
    intro e
    subst e
    exact hl rfl
theorem eqIntS_refl (a : List Int) (h : a.length ≤ 9223372036854775807) : Ev (fun k => laws_eqIntS.f k a a) true := evc (eqIntS_ev a a h) (by simp)
end Go.Proofs.Ytfahkoimleiknaa.Q
end

section
namespace Go.Proofs.Ytfahkoimleiknaa.Q
open Go.RowKit Go.Proofs.YtfahkoimleiknaaW.PrintWords Go.Proofs.Ytfahkoimleiknaa.F
set_option linter.unusedVariables false
theorem eqPoset_refl (a : List Int) (h : a.length ≤ 9223372036854775807) : Ev (fun k => laws_eqPoset.f k a a) true := by
  unfold laws_eqPoset.f
  exact Ev.bind (eqIntS_refl a h) (Ev.yes rfl (Ev.ret rfl))
end Go.Proofs.Ytfahkoimleiknaa.Q
end

section
namespace Go.Proofs.Ytfahkoimleiknaa.Q
open Go.RowKit Go.Proofs.YtfahkoimleiknaaW.PrintWords Go.Proofs.Ytfahkoimleiknaa.F
set_option linter.unusedVariables false
theorem szIntS_eq (l : List Int) (a : Nat) (ha : a ≤ 1048576) (h : l.length ≤ maxLen) : laws_szIntS.f l (a : Int) = some (if l.length ≤ a then ((a - l.length : Nat) : Int) else -1) := by
  unfold laws_szIntS.f
  unfold maxLen at h
  have e : wrap64 ((a : Int) - (l.length : Int)) = (a : Int) - (l.length : Int) := wid (by omega) (by omega)
  rw [e]
  by_cases hc : l.length ≤ a
  · rw [if_neg (by omega), if_pos hc]; congr 1; omega
  · rw [if_pos (by omega), if_neg hc]
end Go.Proofs.Ytfahkoimleiknaa.Q
end

section
namespace Go.Proofs.Ytfahkoimleiknaa.Q
open Go.RowKit Go.Proofs.YtfahkoimleiknaaW.PrintWords Go.Proofs.Ytfahkoimleiknaa.F
set_option linter.unusedVariables false
theorem szPoset_eq (l : List Int) (a : Nat) (ha : a ≤ 1048576) (h : l.length ≤ maxLen) : laws_szPoset.f l (a : Int) = some (if l.length ≤ a then ((a - l.length : Nat) : Int) else -1) := by
  unfold laws_szPoset.f
  rw [szIntS_eq l a ha h]
  by_cases hc : l.length ≤ a
  · simp only [if_pos hc, Option.bind_some]; rw [if_neg (by omega)]
  · simp only [if_neg hc, Option.bind_some]; rw [if_pos (by omega)]
end Go.Proofs.Ytfahkoimleiknaa.Q
end

section
namespace Go.Proofs.Ytfahkoimleiknaa.Q
open Go.RowKit Go.Proofs.YtfahkoimleiknaaW.PrintWords Go.Proofs.Ytfahkoimleiknaa.F
set_option linter.unusedVariables false
theorem toIntS_ev (l : List Int) (h : l.length ≤ 1048576) : Ev (fun k => laws_toIntS.f k l) l := by
  unfold laws_toIntS.f
  refine Ev.yes (by omega) (Ev.yes (by omega) ?_)
  have key : ∀ i, i ≤ l.length → ∀ acc : List Int, acc.length = l.length → acc.take i = l.take i → Ev (fun k => laws_toIntS.l0 k l acc (i : Int)) l := by
    refine downTo _ ?_ ?_
    · intro acc ha hi
      refine Ev.step (by intro k; simp only [laws_toIntS.l0]; rfl) (Ev.no (by omega) (Ev.ret ?_))
      rw [List.take_length, ← ha, List.take_length] at hi
      exact hi
    · intro i hi ih acc ha hp
      refine Ev.step (by intro k; simp only [laws_toIntS.l0]; rfl) (Ev.yes (by omega) (Ev.yes (by omega) (Ev.yes (by omega) ?_)))
      rw [wid1 hi (by omega), rdN, Int.toNat_natCast]
      refine ih _ (by simp [ha]) ?_
      rw [List.take_add_one, List.take_add_one, List.take_set_of_le (Nat.le_refl _), hp, List.getElem?_set, List.getD_eq_getElem?_getD, List.getElem?_eq_getElem hi]
      simp [ha, hi]
  exact key 0 (by omega) _ (by simp) (by simp)
end Go.Proofs.Ytfahkoimleiknaa.Q
end

section
namespace Go.Proofs.Ytfahkoimleiknaa.Q
open Go.RowKit Go.Proofs.YtfahkoimleiknaaW.PrintWords Go.Proofs.Ytfahkoimleiknaa.F
set_option linter.unusedVariables false
theorem toPoset_ev (l : List Int) (h : l.length ≤ 1048576) : Ev (fun k => laws_toPoset.f k l) l := by
  unfold laws_toPoset.f
  exact Ev.bind (toIntS_ev l h) (Ev.ret rfl)
end Go.Proofs.Ytfahkoimleiknaa.Q
end

section
namespace Go.Proofs.Ytfahkoimleiknaa.Q
open Go.RowKit Go.Proofs.YtfahkoimleiknaaW.PrintWords
set_option linter.unusedVariables false
/-- a, a + 1, .., n of them. -/
def upFrom (a : Nat) (n : Nat) : List Int := (List.range' a n).map Int.ofNat
theorem upFrom_len (a n : Nat) : (upFrom a n).length = n := by simp [upFrom]
theorem upFrom_get {a n i : Nat} (h : i < n) : (upFrom a n).getD i 0 = ((a + i : Nat) : Int) := by
  rw [List.getD_eq_getElem?_getD]
  simp [upFrom, h]
end Go.Proofs.Ytfahkoimleiknaa.Q
end

section
namespace Go.Proofs.Ytfahkoimleiknaa.Q
open Go.RowKit Go.Proofs.YtfahkoimleiknaaW.PrintWords Go.Proofs.Ytfahkoimleiknaa.F
set_option linter.unusedVariables false
theorem heldIntS_ev (a n : Nat) (h : a + n ≤ 4611686018427387904) : Ev (fun k => laws_heldIntS.f k (upFrom a n) (a : Int)) ((a + n : Nat) : Int) := by
  unfold laws_heldIntS.f
  have key : ∀ i, i ≤ n → Ev (fun k => laws_heldIntS.l0 k (upFrom a n) ((a + i : Nat) : Int) (i : Int)) ((a + n : Nat) : Int) := by
    refine downTo _ ?_ ?_
    · refine Ev.step (by intro k; simp only [laws_heldIntS.l0]; rfl) (Ev.no (by rw [upFrom_len]; omega) (Ev.ret rfl))
    · intro i hi ih
      refine Ev.step (by intro k; simp only [laws_heldIntS.l0]; rfl) (Ev.yes (by rw [upFrom_len]; omega) (Ev.yes (by omega) (Ev.yes ?_ ?_)))
      · rw [rdN, upFrom_get hi]
      · rw [wid1 hi (by omega), wid1 (i := a + i) (n := a + n) (by omega) (by omega)]
        exact ih
  exact key 0 (by omega)
theorem heldIntS_ev1 (n : Nat) (h : n ≤ 4611686018427387000) : Ev (fun k => laws_heldIntS.f k (upFrom 1 n) 1) ((1 + n : Nat) : Int) := heldIntS_ev 1 n (by omega)
end Go.Proofs.Ytfahkoimleiknaa.Q
end

section
namespace Go.Proofs.Ytfahkoimleiknaa.Q
open Go.RowKit Go.Proofs.YtfahkoimleiknaaW.PrintWords Go.Proofs.Ytfahkoimleiknaa.F
set_option linter.unusedVariables false
theorem markIntS_ev (l : List Int) (a : Nat) (h : a + l.length ≤ 4611686018427387904) : Ev (fun k => laws_markIntS.f k l (a : Int)) (((a + l.length : Nat) : Int), upFrom a l.length) := by
  unfold laws_markIntS.f
  have key : ∀ i, i ≤ l.length → ∀ acc : List Int, acc.length = l.length → acc.take i = upFrom a i → Ev (fun k => laws_markIntS.l0 k acc ((a + i : Nat) : Int) (i : Int)) (((a + l.length : Nat) : Int), upFrom a l.length) := by
    refine downTo _ ?_ ?_
    · intro acc ha hp
      refine Ev.step (by intro k; simp only [laws_markIntS.l0]; rfl) (Ev.no (by omega) (Ev.ret ?_))
      rw [← ha, List.take_length] at hp
      rw [hp, ha]
    · intro i hi ih acc ha hp
      refine Ev.step (by intro k; simp only [laws_markIntS.l0]; rfl) (Ev.yes (by omega) (Ev.yes (by omega) ?_))
      rw [wid1 hi (by omega), wid1 (i := a + i) (n := a + l.length) (by omega) (by omega), Int.toNat_natCast]
      refine ih _ (by simp [ha]) ?_
      rw [List.take_add_one, List.take_set_of_le (Nat.le_refl _), hp, List.getElem?_set]
      simp [ha, hi, upFrom, List.range'_concat]
  exact key 0 (by omega) l rfl (by simp [upFrom])
theorem markIntS_ev1 (l : List Int) (h : l.length ≤ 4611686018427387000) : Ev (fun k => laws_markIntS.f k l 1) (((1 + l.length : Nat) : Int), upFrom 1 l.length) := markIntS_ev l 1 (by omega)
end Go.Proofs.Ytfahkoimleiknaa.Q
end

section
namespace Go.Proofs.Ytfahkoimleiknaa.Q
open Go.RowKit Go.Proofs.YtfahkoimleiknaaW.PrintWords Go.Proofs.Ytfahkoimleiknaa.F
set_option linter.unusedVariables false
theorem markPoset_ev (l : List Int) (a : Nat) (h : a + l.length ≤ 4611686018427387904) : Ev (fun k => laws_markPoset.f k l (a : Int)) (((a + l.length : Nat) : Int), upFrom a l.length) := by
  unfold laws_markPoset.f
  exact Ev.bind (markIntS_ev l a h) (Ev.ret rfl)
theorem markPoset_ev1 (l : List Int) (h : l.length ≤ 4611686018427387000) : Ev (fun k => laws_markPoset.f k l 1) (((1 + l.length : Nat) : Int), upFrom 1 l.length) := markPoset_ev l 1 (by omega)
end Go.Proofs.Ytfahkoimleiknaa.Q
end

section
namespace Go.Proofs.Ytfahkoimleiknaa.Q
end Go.Proofs.Ytfahkoimleiknaa.Q
end

section
namespace Go.Proofs.Ytfahkoimleiknaa.Q
open Go.RowKit Go.Proofs.YtfahkoimleiknaaW.PrintWords Go.Proofs.Ytfahkoimleiknaa.F
set_option linter.unusedVariables false
theorem rdL_get {rows : List (List Int)} {i : Nat} (h : i < rows.length) : rd_L1 rows (i : Int) = rows[i] := by
  unfold rd_L1; rw [Int.toNat_natCast, List.getD_eq_getElem?_getD, List.getElem?_eq_getElem h]; rfl
def szGo : List (List Int) → Nat → Int
  | [], a => (a : Int)
  | x :: l, a => if x.length ≤ a then szGo l (a - x.length) else -1
def szR (rows : List (List Int)) (a : Nat) : Int := if rows.length ≤ a then szGo rows (a - rows.length) else -1
theorem szGo_small (rows : List (List Int)) (a : Nat) (h : ¬ szGo rows a < 0) : ∀ q ∈ rows, q.length ≤ a := by
  induction rows generalizing a with
  | nil => intro q hq; cases hq
  | cons x l ih =>
    unfold szGo at h
    by_cases hx : x.length ≤ a
    · rw [if_pos hx] at h
      intro q hq
      rcases List.mem_cons.1 hq with rfl | hq
      · exact hx
      · have := ih _ h q hq; omega
    · rw [if_neg hx] at h; omega
theorem szRows_small {rows : List (List Int)} (h : ¬ szR rows 1048576 < 0) : rows.length ≤ 1048576 ∧ ∀ q ∈ rows, q.length ≤ 1048576 := by
  unfold szR at h
  by_cases hx : rows.length ≤ 1048576
  · rw [if_pos hx] at h
    exact ⟨hx, fun q hq => by have := szGo_small rows _ h q hq; omega⟩
  · rw [if_neg hx] at h; omega
theorem szIntSS_ev (rows : List (List Int)) (a : Nat) (ha : a ≤ 1048576) (h : rows.length ≤ maxLen) (h2 : ∀ q ∈ rows, q.length ≤ maxLen) : Ev (fun k => laws_szIntSS.f k rows (a : Int)) (szR rows a) := by
  unfold laws_szIntSS.f szR
  have hm := h
  unfold maxLen at hm
  have e : wrap64 ((a : Int) - (rows.length : Int)) = (a : Int) - (rows.length : Int) := wid (by omega) (by omega)
  rw [e]
  by_cases hc : rows.length ≤ a
  · rw [if_pos hc]
    refine Ev.no (by omega) ?_
    have key : ∀ i, i ≤ rows.length → ∀ b : Nat, b ≤ a → Ev (fun k => laws_szIntSS.l0 k rows (b : Int) (i : Int)) (szGo (rows.drop i) b) := by
      refine downTo _ ?_ ?_
      · intro b _
        refine Ev.step (by intro k; simp only [laws_szIntSS.l0]; rfl) (Ev.no (by omega) (Ev.ret ?_))
        rw [List.drop_length]; rfl
      · intro i hi ih b hb
        refine Ev.step (by intro k; simp only [laws_szIntSS.l0]; rfl) (Ev.yes (by omega) (Ev.yes (by omega) ?_))
        rw [rdL_get hi, wid1 hi (by omega)]
        refine Ev.call (szIntS_eq rows[i] b (by omega) (h2 _ (List.getElem_mem hi))) ?_
        rw [List.drop_eq_getElem_cons hi, szGo]
        by_cases hx : rows[i].length ≤ b
        · rw [if_pos hx, if_pos hx]
          exact Ev.no (by omega) (ih _ (by omega))
        · rw [if_neg hx, if_neg hx]
          exact Ev.yes (by omega) (Ev.ret rfl)
    have ea : (a : Int) - (rows.length : Int) = ((a - rows.length : Nat) : Int) := by omega
    rw [ea]
    exact key 0 (by omega) _ (by omega)
  · rw [if_neg hc]
    exact Ev.yes (by omega) (Ev.ret rfl)
theorem toIntSS_ev (l : List (List Int)) (h : l.length ≤ 1048576) (h2 : ∀ q ∈ l, q.length ≤ 1048576) : Ev (fun k => laws_toIntSS.f k l) l := by
  unfold laws_toIntSS.f
  refine Ev.yes (by omega) (Ev.yes (by omega) ?_)
  have key : ∀ i, i ≤ l.length → ∀ acc : List (List Int), acc.length = l.length → acc.take i = l.take i → Ev (fun k => laws_toIntSS.l0 k l acc (i : Int)) l := by
    refine downTo _ ?_ ?_
    · intro acc ha hi
      refine Ev.step (by intro k; simp only [laws_toIntSS.l0]; rfl) (Ev.no (by omega) (Ev.ret ?_))
      rw [List.take_length, ← ha, List.take_length] at hi
      exact hi
    · intro i hi ih acc ha hp
      refine Ev.step (by intro k; simp only [laws_toIntSS.l0]; rfl) (Ev.yes (by omega) (Ev.yes (by omega) ?_))
      rw [rdL_get hi, wid1 hi (by omega)]
      refine Ev.bind (toIntS_ev _ (h2 _ (List.getElem_mem hi))) (Ev.yes (by omega) ?_)
      rw [Int.toNat_natCast]
      refine ih _ (by simp [ha]) ?_
      rw [List.take_add_one, List.take_add_one, List.take_set_of_le (Nat.le_refl _), hp, List.getElem?_set, List.getElem?_eq_getElem hi]
      simp [ha, hi]
  exact key 0 (by omega) _ (by simp) (by simp)
theorem eqIntSS_refl (a : List (List Int)) (h : a.length ≤ 9223372036854775807) (h2 : ∀ q ∈ a, q.length ≤ 9223372036854775807) : Ev (fun k => laws_eqIntSS.f k a a) true := by
  unfold laws_eqIntSS.f
  refine Ev.yes rfl ?_
  have key : ∀ i, i ≤ a.length → Ev (fun k => laws_eqIntSS.l0 k a a (i : Int)) true := by
    refine downTo _ ?_ ?_
    · exact Ev.step (by intro k; simp only [laws_eqIntSS.l0]; rfl) (Ev.no (by omega) (Ev.ret rfl))
    · intro i hi ih
      refine Ev.step (by intro k; simp only [laws_eqIntSS.l0]; rfl) (Ev.yes (by omega) (Ev.yes (by omega) (Ev.yes (by omega) ?_)))
      rw [rdL_get hi, wid1 hi (by omega)]
      exact Ev.bind (eqIntS_refl _ (h2 _ (List.getElem_mem hi))) (Ev.yes rfl ih)
  exact key 0 (by omega)
end Go.Proofs.Ytfahkoimleiknaa.Q
end

section
namespace Go.Proofs.Ytfahkoimleiknaa.Q
open Go.RowKit Go.Proofs.YtfahkoimleiknaaW.PrintWords Go.Proofs.Ytfahkoimleiknaa.F
set_option linter.unusedVariables false
theorem poIn_eq {a j : Nat} (hj : j ≤ 64) : spec_poIn.f (a : Int) (j : Int) = some (a.testBit j) := by
  unfold spec_poIn.f
  rw [if_pos (Int.natCast_nonneg _)]
  congr 1
  rw [Bool.eq_iff_iff, beq_iff_eq]
  exact bit_test hj
end Go.Proofs.Ytfahkoimleiknaa.Q
end

section
namespace Go.Proofs.Ytfahkoimleiknaa.Q
open Go.RowKit Go.Proofs.YtfahkoimleiknaaW.PrintWords Go.Proofs.Ytfahkoimleiknaa.F
set_option linter.unusedVariables false
theorem within_eq (a b c : Int) : impl_within.f a b c = some (decide (b ≤ a) && decide (a ≤ c)) := by
  unfold impl_within.f
  by_cases h : b ≤ a
  · rw [if_pos h]; simp [h]
  · rw [if_neg h]; simp [h]
end Go.Proofs.Ytfahkoimleiknaa.Q
end

section
namespace Go.Proofs.Ytfahkoimleiknaa.F
open Go.RowKit Go.Proofs.YtfahkoimleiknaaW.PrintWords Go.Proofs.YtfahkoimleiknaaW.PrintLast Go.Proofs.YtfahkoimleiknaaW.PrintMore
set_option linter.unusedVariables false
set_option linter.unusedSimpArgs false
def impl_major.f (k : Nat) (l0 : List (List Int)) : Option Int := (impl_descents.f k l0).bind fun l => sum_major.f (fun x => lit_major.f x) k l
theorem impl_major.mono : ∀ a0 k, LeO (impl_major.f k a0) (impl_major.f (k + 1) a0) := fun a0 k => LeO.bind (impl_descents.mono _ _) (fun _ => sum_major.mono _ _ _)
set_option maxHeartbeats 8000000 in
set_option maxRecDepth 100000 in
theorem impl_major.calls (k : Nat) (A0 : Option Addr) (c0 : Nat) (l0 : List (List Int)) (r : Int) (w : World) (hr0 : Kd.C (Kd.slice 3 (Kd.int .i64)) w A0 l0.length l0) (hc0 : l0.length ≤ c0) (h : impl_major.f k l0 = some r) :
    Calls Try.prog 84 #[.slice A0 l0.length c0] w fun e w' => e = .returned (.int .i64 r) ∧ Below w.heap.size w w' := by
  unfold impl_major.f at h
  obtain ⟨l, hd, hs⟩ := Option.bind_eq_some_iff.1 h
  clear h
  have hdesc := Aside0.mk (impl_descents.calls k A0 c0 l0 l w hr0 hc0 hd)
  have hsum : Aside0 (∀ (W1 : World) (A : Option Addr) (c : Nat), Kd.C (Kd.int .i64) W1 A l.length l → l.length ≤ c → Calls Try.prog 97 #[.slice A l.length c, .func (.func 98) #[] #[]] W1 fun e w' => e = .returned (.int .i64 r) ∧ Drawn0 W1 w') :=
    ⟨fun W1 A c hr hc => sum_major.calls (fun x => lit_major.f x) k A c l r W1 ⟨fun x r_ W' hF hb' => lit_major.calls x r_ W' hF⟩ hr hc hs⟩
  clear hd hs hr0 hc0
  go_enter Try.func84, Try.ntmps84
  go_wp2_with fail
  refine hdesc.out.mono ?_
  rintro e w1 ⟨v, rfl, ho, hb⟩
  obtain ⟨A, c, rfl, hl, hr⟩ := Kd.R_reads ho
  have Hc := Aside0.mk (hsum.out w1 A c hr hl)
  have Hb := Aside0.mk hb
  clear ho hl hr hb hsum hdesc
  go_wp2_with (go_at_call 97; (with_reducible refine Hc.out.mono ?_); rintro e w' ⟨rfl, ⟨nd, rfl⟩⟩)
  go_ret
  refine ⟨rfl, ?_⟩
  repeat (first | exact Hb.out | apply pw_below_drewN | apply below_drew1)
end Go.Proofs.Ytfahkoimleiknaa.F
end

section
namespace Go.Proofs.Ytfahkoimleiknaa.F
open Go.RowKit Go.Proofs.YtfahkoimleiknaaW.PrintWords Go.Proofs.YtfahkoimleiknaaW.PrintLast Go.Proofs.YtfahkoimleiknaaW.PrintMore
set_option linter.unusedVariables false
set_option linter.unusedSimpArgs false
def laws_markIntSS.l0 : Nat → List (List Int) → Int → Int → Option (Int × List (List Int))
  | 0, _, _, _ => none
  | k + 1, x0, x1, x5 => if x5 < (x0.length : Int) then (if 0 ≤ x5 then ((laws_markIntS.f k (rd_L1 x0 x5) x1).bind fun bt => (laws_markIntSS.l0 k (x0.set x5.toNat bt.2) bt.1 (wrap64 (x5 + 1)))) else none) else some (x1, x0)
def laws_markIntSS.f (k : Nat) (l0 : List (List Int)) (a1 : Int) : Option (Int × List (List Int)) := laws_markIntSS.l0 k l0 a1 0
theorem laws_markIntSS.mono_l : ∀ k, (∀ y0 y1 y2, LeO (laws_markIntSS.l0 k y0 y1 y2) (laws_markIntSS.l0 (k + 1) y0 y1 y2))
  | 0 => fun _ _ _ r h => by simp [laws_markIntSS.l0] at h
  | k + 1 => by
    have ih0 := laws_markIntSS.mono_l k
    intro y0 y1 y2
    unfold laws_markIntSS.l0
    refine LeO.ite (LeO.ite (LeO.bind (laws_markIntS.mono _ _ _) (fun _ => ih0 _ _ _)) (LeO.refl _)) (LeO.refl _)
theorem laws_markIntSS.mono : ∀ a0 a1 k, LeO (laws_markIntSS.f k a0 a1) (laws_markIntSS.f (k + 1) a0 a1) := fun a0 a1 k => laws_markIntSS.mono_l k _ _ _
set_option maxHeartbeats 8000000 in
set_option maxRecDepth 100000 in
theorem laws_markIntSS.calls (k : Nat) (P0_ : Nat → Prop) (u9000_ : Value) (l0 : List (List Int)) (a1 : Int) (r1 : Int) (r2 : List (List Int)) (w0 w : World) (hB : Below w0.heap.size w0 w) (ho0 : Kd.S (Kd.slice 3 (Kd.int .i64)) 22 w w0.heap.size P0_ u9000_ l0) (h : laws_markIntSS.f k l0 a1 = some (r1, r2)) :
    Calls Try.prog 32 #[u9000_, .int .i64 a1] w fun e w' => e = .returned (.int .i64 r1) ∧ Kd.S (Kd.slice 3 (Kd.int .i64)) 22 w' w0.heap.size P0_ u9000_ r2 ∧ Below w0.heap.size w0 w' ∧ Kept w w' (fun k_ => P0_ k_) := by
  have HO0 := Aside0.mk ho0
  have HK := Aside0.mk (Kept.refl w (fun k_ => P0_ k_))
  have HW0 := Aside0.mk hB.size
  have HB := Aside0.mk hB
  clear hB ho0
  have H : (laws_markIntSS.l0 k l0 a1 0) = some (r1, r2) := h
  clear h
  have H' := Aside0.mk H
  clear H
  go_enter Try.func32, Try.ntmps32
  go_wp2
  go_loopg [1, 5] k (fun kq v1 v5 w' => ∃ (x0_1 : List (List Int)) (x1_1 : Int) (x5_1 : Int), v1 = .int .i64 x1_1 ∧ v5 = .int .i64 x5_1 ∧ Aside0 (laws_markIntSS.l0 kq x0_1 x1_1 x5_1 = some (r1, r2)) ∧ Aside0 (kq ≤ k) ∧ Aside0 (Kd.S (Kd.slice 3 (Kd.int .i64)) 22 w' w0.heap.size P0_ u9000_ x0_1) ∧ Aside0 (Kept w w' (fun k_ => P0_ k_)) ∧ Aside0 (Below w0.heap.size w0 w'))
  case atStart => exact ⟨(l0), (a1), (0), (by first | rfl | (simp; done) | (simp [*]; done)), (by first | rfl | (simp; done) | (simp [*]; done)), H', ⟨Nat.le_refl _⟩, ⟨by (with_reducible repeat (first | apply Kd.S_alloc | apply Kd.S_drewN | apply Kd.S_drew)); exact HO0.out⟩, ⟨by repeat (first | (with_reducible first | exact HK.out | apply Kept.alloc | apply Kept.drewN | apply Kept.drew) | exact HK.out)⟩, ⟨by repeat (first | (with_reducible first | exact HB.out | apply below_alloc | apply pw_below_drewN | apply below_drew1) | exact HB.out)⟩⟩
  case round =>
    clear H'
    try clear c2
    try clear p2
    obtain ⟨x0_1, x1_1, x5_1, rfl, rfl, HA, HK1, HO_0, HK, HB⟩ := hrel
    cases gk with
    | zero => exact absurd HA.out (by simp [laws_markIntSS.l0])
    | succ k1 =>
      have H := HA.out
      clear HA
      simp only [laws_markIntSS.l0] at H
      by_cases c3 : x5_1 < (x0_1.length : Int)
      · rw [if_pos c3] at H
        have c3b0 : decide (x5_1 < (x0_1.length : Int)) = true := decide_eq_true c3
        by_cases c4 : 0 ≤ x5_1
        · rw [if_pos c4] at H
          have c4b0 : decide (0 ≤ x5_1) = true := decide_eq_true c4
          replace H := Option.bind_eq_some_iff.mp H
          obtain ⟨⟨t1, t2⟩, A50, H⟩ := H
          replace H : (laws_markIntSS.l0 k1 (x0_1.set x5_1.toNat t2) t1 (wrap64 (x5_1 + 1))) = some (r1, r2) := H
          have A5 := Aside0.mk A50
          clear A50
          have H' := Aside0.mk H
          clear H
          obtain ⟨Ao6, co6, eo6⟩ := Kd.S_slice HO_0.out
          subst eo6
          obtain ⟨go5, co5, eo5, gb5, gl5, cl5, HG5⟩ := Kd.S_form HO_0.out (by omega)
          (first | cases eo5 | (injection eo5 with ea_ en_ ec_; (first | subst ea_ | (injection ea_ with ea_; subst ea_)); subst ec_; clear en_))
          obtain ⟨oki, c, hcl, hM, hcc, hoki, hH⟩ := Kd.S_lend HO_0.out [] x5_1 c4 c3
          obtain ⟨v, rfl, hR0⟩ := hM
          have hR : Kd.R (Kd.int .i64) 3 wr w0.heap.size oki v (rd_L1 x0_1 x5_1) := hR0
          clear hR0
          obtain ⟨Ae, ce, rfl⟩ := Kd.R_slice hR
          have hx5_0 : wr.cell? ⟨go5, x5_1.toNat, none⟩ = some (.slice Ae (rd_L1 x0_1 x5_1).length ce) := by
            have := hcc 0 _ rfl
            rw [show (Kd.slice 3 (Kd.int .i64)).sz = 1 from rfl, Nat.mul_one, Nat.add_zero] at this
            exact this
          have HR := Aside0.mk hR
          have HH := Aside0.mk hH
          have HI := Aside0.mk hoki
          clear hR hH hoki hcc hcl gb5 gl5 HG5
          have p5 : 0 ≤ (x5_1 : Int) := c4
          have q5 : (x5_1 : Int) < ((x0_1.length : Int) : Int) := c3
          clear c3 c4
          replace p5 := eq_true p5
          replace q5 := eq_true q5
          go_wp2_with fail
          refine (laws_markIntS.calls k1 (fun k_ => some k_ = (.slice Ae (rd_L1 x0_1 x5_1).length ce : Value).ownBlock) (.slice Ae (rd_L1 x0_1 x5_1).length ce) (rd_L1 x0_1 x5_1) x1_1 t1 t2 w0 _ ?side1 ?side2 A5.out).mono ?_
          case side1 => repeat (first | (with_reducible first | exact HB.out | apply below_alloc | apply pw_below_drewN | apply below_drew1) | exact HB.out)
          case side2 => (with_reducible repeat (first | apply Kd.R_alloc | apply Kd.R_drewN | apply Kd.R_drew)); exact Kd.R_tight rfl HR.out
          rintro e w7 ⟨rfl, hy0, hb, hkp⟩
          have hown := HR.out.1
          have hm2 : Kd.R (Kd.int .i64) 3 w7 w0.heap.size oki (.slice Ae (rd_L1 x0_1 x5_1).length ce) t2 := Kd.R_reok rfl hy0 (fun k_ e_ => hown k_ e_)
          have hh2 := Kd.H_step (w1 := w7) HH.out (fun k_ _ hn_ hl_ => hkp.2 k_ hl_ (fun e_ => hn_ (hown k_ e_.symm)))
          have n0_ := Aside0.mk (Kd.H_back hh2 ⟨_, rfl, hm2⟩ (fun _ hk_ => hk_))
          have n2_ := Aside0.mk (Kept.then_ (S := (fun k_ => P0_ k_)) HK.out hkp (fun k_ hs_ => .inl (HI.out k_ (hown k_ hs_.symm)).1))
          have n3_ := Aside0.mk hb
          clear HO_0 HR HH HI HK HB hm2 hh2 hown
          have HO_0 := n0_
          have HK := n2_
          have HB := n3_
          clear n0_ n2_ n3_ hb hkp hy0
          go_wp2
          go_roundg k1
          case measure => have := HK1.out; omega
          case rel => exact ⟨(x0_1.set x5_1.toNat t2), t1, (wrap64 (x5_1 + 1)), (by first | rfl | (simp; done) | (simp [*]; done)), (by first | rfl | (simp; done) | (simp [*]; done)), H', ⟨by have := HK1.out; omega⟩, ⟨by (with_reducible repeat (first | apply Kd.S_alloc | apply Kd.S_drewN | apply Kd.S_drew)); exact HO_0.out⟩, ⟨by repeat (first | (with_reducible first | exact HK.out | apply Kept.alloc | apply Kept.drewN | apply Kept.drew) | exact HK.out)⟩, ⟨by repeat (first | (with_reducible first | exact HB.out | apply below_alloc | apply pw_below_drewN | apply below_drew1) | exact HB.out)⟩⟩
        · rw [if_neg c4] at H
          exact absurd H (by simp)
      · rw [if_neg c3] at H
        have c3b0 : decide (x5_1 < (x0_1.length : Int)) = false := decide_eq_false c3
        clear c3
        simp only [Option.some.injEq, Prod.mk.injEq] at H
        obtain ⟨rfl, rfl⟩ := H
        obtain ⟨Ao9, co9, eo9⟩ := Kd.S_slice HO_0.out
        subst eo9
        go_wp2
        go_ret
        exact ⟨by first | rfl | (simp [errW_none, errW_some] <;> rfl) | (simp [*, errW_none, errW_some] <;> rfl), by (with_reducible repeat (first | apply Kd.S_alloc | apply Kd.S_drewN | apply Kd.S_drew)); exact HO_0.out, by repeat (first | (with_reducible first | exact HB.out | apply below_alloc | apply pw_below_drewN | apply below_drew1) | exact HB.out), by repeat (first | (with_reducible first | exact HK.out | apply Kept.alloc | apply Kept.drewN | apply Kept.drew) | exact HK.out)⟩
end Go.Proofs.Ytfahkoimleiknaa.F
end

section
namespace Go.Proofs.Ytfahkoimleiknaa.Q
open Go.RowKit Go.Proofs.YtfahkoimleiknaaW.PrintWords Go.Proofs.Ytfahkoimleiknaa.F
set_option linter.unusedVariables false
/-- Rows of running numbers, of the lengths of these. -/
def upRows : Nat → List (List Int) → List (List Int)
  | _, [] => []
  | a, q :: l => upFrom a q.length :: upRows (a + q.length) l
def totLen : List (List Int) → Nat
  | [] => 0
  | q :: l => q.length + totLen l
theorem upRows_len (a : Nat) (l : List (List Int)) : (upRows a l).length = l.length := by
  induction l generalizing a with
  | nil => rfl
  | cons q l ih => simp [upRows, ih]
theorem rdRows_app (p : List (List Int)) (q : List Int) (l : List (List Int)) : rd_L1 (p ++ q :: l) ((p.length : Nat) : Int) = q := by
  unfold rd_L1; rw [Int.toNat_natCast, List.getD_eq_getElem?_getD, List.getElem?_append_right (Nat.le_refl _), Nat.sub_self]; rfl
theorem set_app (p : List (List Int)) (q x : List Int) (l : List (List Int)) : (p ++ q :: l).set p.length x = (p ++ [x]) ++ l := by
  rw [List.set_append_right _ _ (Nat.le_refl _), Nat.sub_self]; simp
theorem markIntSS_go (l : List (List Int)) : ∀ (p : List (List Int)) (a : Nat), a + totLen l ≤ 4611686018427387904 → p.length + l.length ≤ 9223372036854775807 →
    Ev (fun k => laws_markIntSS.l0 k (p ++ l) (a : Int) ((p.length : Nat) : Int)) (((a + totLen l : Nat) : Int), p ++ upRows a l) := by
  induction l with
  | nil =>
    intro p a h hp
    refine Ev.step (by intro k; simp only [laws_markIntSS.l0]; rfl) (Ev.no (by simp) (Ev.ret ?_))
    simp [totLen, upRows]
  | cons q l ih =>
    intro p a h hp
    simp only [totLen, List.length_cons] at h hp
    refine Ev.step (by intro k; simp only [laws_markIntSS.l0]; rfl) (Ev.yes (by rw [List.length_append, List.length_cons]; omega) (Ev.yes (by omega) ?_))
    rw [rdRows_app]
    refine Ev.bind (markIntS_ev q a (by omega)) ?_
    rw [Int.toNat_natCast, set_app, wid1 (i := p.length) (n := p.length + (l.length + 1)) (by omega) (by omega)]
    have := ih (p ++ [upFrom a q.length]) (a + q.length) (by omega) (by rw [List.length_append, List.length_singleton]; omega)
    rw [List.length_append, List.length_singleton] at this
    refine evc this ?_
    simp only [totLen, upRows, List.append_assoc, List.singleton_append, Nat.add_assoc]
theorem markIntSS_ev1 (l : List (List Int)) (h : totLen l ≤ 4611686018427387000) (hl : l.length ≤ 9223372036854775807) : Ev (fun k => laws_markIntSS.f k l 1) (((1 + totLen l : Nat) : Int), upRows 1 l) := by
  exact markIntSS_go l [] 1 (by omega) (by simpa using hl)
theorem heldIntSS_go (l : List (List Int)) : ∀ (p : List (List Int)) (a : Nat), a + totLen l ≤ 4611686018427387904 → p.length + l.length ≤ 9223372036854775807 →
    Ev (fun k => laws_heldIntSS.l0 k (p ++ upRows a l) (a : Int) ((p.length : Nat) : Int)) ((a + totLen l : Nat) : Int) := by
  induction l with
  | nil =>
    intro p a h hp
    refine Ev.step (by intro k; simp only [laws_heldIntSS.l0]; rfl) (Ev.no (by simp [upRows]) (Ev.ret ?_))
    simp [totLen]
  | cons q l ih =>
    intro p a h hp
    simp only [totLen, List.length_cons] at h hp
    simp only [upRows]
    refine Ev.step (by intro k; simp only [laws_heldIntSS.l0]; rfl) (Ev.yes (by rw [List.length_append, List.length_cons]; omega) (Ev.yes (by omega) ?_))
    rw [rdRows_app]
    refine Ev.bind (heldIntS_ev a q.length (by omega)) (Ev.no (by omega) ?_)
    rw [wid1 (i := p.length) (n := p.length + (l.length + 1)) (by omega) (by omega)]
    have := ih (p ++ [upFrom a q.length]) (a + q.length) (by omega) (by rw [List.length_append, List.length_singleton]; omega)
    rw [List.length_append, List.length_singleton, List.append_assoc, List.singleton_append] at this
    refine evc this ?_
    simp only [totLen, Nat.add_assoc]
theorem heldIntSS_ev1 (l : List (List Int)) (h : totLen l ≤ 4611686018427387000) (hl : l.length ≤ 9223372036854775807) : Ev (fun k => laws_heldIntSS.f k (upRows 1 l) 1) ((1 + totLen l : Nat) : Int) := by
  exact heldIntSS_go l [] 1 (by omega) (by simpa using hl)
theorem totLen_le (m : Nat) (l : List (List Int)) (h : ∀ q ∈ l, q.length ≤ m) : totLen l ≤ l.length * m := by
  induction l with
  | nil => exact Nat.zero_le _
  | cons q l ih =>
    have h1 := h q List.mem_cons_self
    have h2 := ih (fun x hx => h x (List.mem_cons_of_mem _ hx))
    simp only [totLen, List.length_cons, Nat.add_mul]
    omega
theorem totLen_small {l : List (List Int)} (h : l.length ≤ 1048576) (h2 : ∀ q ∈ l, q.length ≤ 1048576) : totLen l ≤ 4611686018427387000 := by
  have h3 := totLen_le 1048576 l h2
  have h4 := Nat.mul_le_mul_right 1048576 h
  omega
theorem totLen_few {l : List (List Int)} (h : l.length ≤ 1000) (h2 : ∀ q ∈ l, q.length ≤ 1000) : totLen l ≤ 1000000 := by
  have h3 := totLen_le 1000 l h2
  have h4 := Nat.mul_le_mul_right 1000 h
  omega
end Go.Proofs.Ytfahkoimleiknaa.Q
end

section
namespace Go.Proofs.Ytfahkoimleiknaa.F
open Go.RowKit Go.Proofs.YtfahkoimleiknaaW.PrintWords Go.Proofs.YtfahkoimleiknaaW.PrintLast Go.Proofs.YtfahkoimleiknaaW.PrintMore
set_option linter.unusedVariables false
set_option linter.unusedSimpArgs false
theorem IndexFunc_sidesOf.tells (P : List Int → Bool) (l : List (List Int)) (h : l.length ≤ 1000) :
    ∃ i : Int, (0 ≤ i ↔ l.any P = true) ∧ Ev (fun k => IndexFunc_sidesOf.f (fun x => some (P x)) k l) i := by
  unfold IndexFunc_sidesOf.f
  have key : ∀ j, j ≤ l.length → ∃ i : Int, (0 ≤ i ↔ (l.drop j).any P = true) ∧ Ev (fun k => IndexFunc_sidesOf.l0 (fun x => some (P x)) k l (l.length : Int) (j : Int)) i := by
    refine Q.downTo _ ?_ ?_
    · refine ⟨-1, by rw [List.drop_length]; simp, Ev.step (by intro k; simp only [IndexFunc_sidesOf.l0]; rfl) (Q.Ev.no (by omega) (Ev.now _))⟩
    · rintro j hj ⟨i, hi, he⟩
      have hd : (l.drop j).any P = (P l[j] || (l.drop (j + 1)).any P) := by rw [List.drop_eq_getElem_cons hj, List.any_cons]
      have hr : rd_L1 l (j : Int) = l[j] := by unfold rd_L1; simp [hj]
      cases hP : P l[j] with
      | true =>
        refine ⟨(j : Int), by rw [hd, hP]; simp, Ev.step (by intro k; simp only [IndexFunc_sidesOf.l0]; rfl) (Q.Ev.yes (by omega) (Q.Ev.yes (by omega) (Q.Ev.yes (by omega) ?_)))⟩
        rw [hr, hP]
        exact Q.Ev.call rfl (Q.Ev.yes rfl (Ev.now _))
      | false =>
        refine ⟨i, by rw [hd, hP, Bool.false_or]; exact hi, Ev.step (by intro k; simp only [IndexFunc_sidesOf.l0]; rfl) (Q.Ev.yes (by omega) (Q.Ev.yes (by omega) (Q.Ev.yes (by omega) ?_)))⟩
        rw [hr, hP, Q.wid1 hj (by omega)]
        exact Q.Ev.call rfl (Q.Ev.no (by simp) he)
  exact key 0 (by omega)
set_option maxHeartbeats 8000000 in
set_option maxRecDepth 100000 in
theorem ContainsFunc_sidesOf.calls (g0_ : Nat) (b : Int) (A0 : Option Addr) (c0 : Nat) (l0 : List (List Int)) (w : World) (hg : w.heap[g0_]? = some (.cells #[.int .i64 b] 3 (0, 0))) (hr0 : Kd.C (Kd.slice 3 (Kd.int .i64)) w A0 l0.length l0) (hc0 : l0.length ≤ c0) (h : l0.length ≤ 1000) :
    Calls Try.prog 101 #[.slice A0 l0.length c0, .func (.func 102) #[] #[.pointer (some ⟨g0_, 0, none⟩)]] w fun e w' => e = .returned (.bool (l0.any fun x => ((x.length : Int) != b))) ∧ Drawn0 w w' := by
  obtain ⟨i, hi, k, he⟩ := IndexFunc_sidesOf.tells (fun x => ((x.length : Int) != b)) l0 h
  have hlt := blk_lt hg
  have hI := IndexFunc_sidesOf.calls (fun x => some ((x.length : Int) != b)) g0_ k A0 c0 l0 i w ⟨fun A c x r W hC hl hF hb => lit_sidesOf.calls g0_ A c x b r W ((hb.cell (p := ⟨g0_, 0, none⟩) hlt).trans ((blk_cell hg 0).trans rfl)) hC hl hF⟩ hr0 hc0 (he k (Nat.le_refl _))
  have HI := Aside0.mk hI
  have hb : decide (0 ≤ i) = (l0.any fun x => ((x.length : Int) != b)) := by rw [Bool.eq_iff_iff, decide_eq_true_eq]; exact hi
  have HB := Aside0.mk hb
  clear hI hi he hg hr0 hc0 h hlt hb
  go_enter Try.func101, Try.ntmps101
  go_wp2_with (go_at_call 107; (with_reducible refine HI.out.mono ?_); rintro e w' ⟨rfl, ⟨nd, rfl⟩⟩)
  go_ret
  exact ⟨by rw [← HB.out]; try simp, ⟨_, rfl⟩⟩
/-- The rows' sides. -/
def impl_sidesOf.b (l : List (List Int)) : Int := ((l.headD []).length : Int)
def impl_sidesOf.f (l : List (List Int)) : Option (Int × Int × Bool) :=
  if l.length = 0 ∨ 10 < l.length then some (0, 0, false) else
  some ((l.length : Int), impl_sidesOf.b l, (impl_areSides.f (l.length : Int) (impl_sidesOf.b l) 10 == some true) && !(l.any fun x => ((x.length : Int) != impl_sidesOf.b l)))
set_option maxHeartbeats 8000000 in
set_option maxRecDepth 100000 in
theorem impl_sidesOf.calls (A0 : Option Addr) (c0 : Nat) (l0 : List (List Int)) (r1 : Int) (r2 : Int) (r3 : Bool) (w : World) (hr0 : Kd.C (Kd.slice 3 (Kd.int .i64)) w A0 l0.length l0) (hc0 : l0.length ≤ c0) (h : impl_sidesOf.f l0 = some (r1, r2, r3)) :
    Calls Try.prog 91 #[.slice A0 l0.length c0] w fun e w' => e = .returned (.tuple #[.int .i64 r1, .int .i64 r2, .bool r3]) ∧ Below w.heap.size w w' := by
  have hmf : ∀ (fn : Fn) (first cap : Array Value) (w : World), (Instr.makeFunc fn first cap).run Try.prog w = .ok (.func fn first cap) w := fun _ _ _ _ => rfl
  unfold impl_sidesOf.f at h
  by_cases c0_ : l0.length = 0
  · rw [if_pos (.inl c0_)] at h
    simp only [Option.some.injEq, Prod.mk.injEq] at h
    obtain ⟨rfl, rfl, rfl⟩ := h
    have c1 : ((l0.length : Int) == 0) = true := beq_iff_eq.mpr (by omega)
    clear c0_ hr0 hc0
    go_enter Try.func91, Try.ntmps91
    go_wp2
    go_ret3
    exact ⟨rfl, Below.refl _ _⟩
  have c1 : ((l0.length : Int) == 0) = false := beq_eq_false_iff_ne.mpr (by omega)
  by_cases c10 : 10 < l0.length
  · rw [if_pos (.inr c10)] at h
    simp only [Option.some.injEq, Prod.mk.injEq] at h
    obtain ⟨rfl, rfl, rfl⟩ := h
    have c2 : decide ((10 : Int) < (l0.length : Int)) = true := decide_eq_true (by omega)
    have c3 : decide (10 < l0.length) = true := decide_eq_true (by omega)
    clear c10 c0_ hr0 hc0
    go_enter Try.func91, Try.ntmps91
    go_wp2
    go_ret3
    exact ⟨rfl, Below.refl _ _⟩
  rw [if_neg (by omega)] at h
  simp only [Option.some.injEq, Prod.mk.injEq] at h
  obtain ⟨rfl, rfl, rfl⟩ := h
  have c2 : decide ((10 : Int) < (l0.length : Int)) = false := decide_eq_false (by omega)
  have c3 : decide (10 < l0.length) = false := decide_eq_false (by omega)
  have p813 : 0 ≤ (0 : Int) := by omega
  have q813 : 0 < (l0.length : Int) := by omega
  obtain ⟨ad813, A813_0, c813_0, e813, hx813_0, hl813_0, hi813_0⟩ := at_L1 hr0 0 p813 q813
  cases e813
  have qi813 : (0 < l0.length) = True := eq_true (by omega)
  rw [show ((0 : Int)).toNat = 0 from rfl, Addr.add_zero'] at hx813_0
  have eb : impl_sidesOf.b l0 = ((rd_L1 l0 0).length : Int) := by
    cases l0 with
    | nil => exact absurd rfl c0_
    | cons x l => rfl
  rw [eb]
  have hC : Aside0 (∀ W : World, Aside0 (W.heap[w.heap.size]? = some (.cells #[.int .i64 ((rd_L1 l0 0).length : Int)] 3 (0, 0))) → Aside0 (Below w.heap.size w W) →
      Calls Try.prog 101 #[.slice (some ad813) l0.length c0, .func (.func 102) #[] #[.pointer (some ⟨w.heap.size, 0, none⟩)]] W fun e w' => e = .returned (.bool (l0.any fun x => ((x.length : Int) != ((rd_L1 l0 0).length : Int)))) ∧ Drawn0 W w') :=
    ⟨fun W h1 h2 => ContainsFunc_sidesOf.calls w.heap.size _ (some ad813) c0 l0 W h1.out (Kd.C_below hr0 h2.out) hc0 (by omega)⟩
  have HL := Aside0.mk hl813_0
  have HI := Aside0.mk hi813_0
  obtain ⟨t, ht⟩ : ∃ t, impl_areSides.f (l0.length : Int) ((rd_L1 l0 0).length : Int) 10 = some t := by
    unfold impl_areSides.f impl_within.f
    split <;> simp only [Option.bind_some] <;> split <;> (try (split <;> simp only [Option.bind_some] <;> split)) <;> exact ⟨_, rfl⟩
  have HT := Aside0.mk ht
  rw [ht]
  generalize hany : (l0.any fun x => ((x.length : Int) != ((rd_L1 l0 0).length : Int))) = an at hC ⊢
  clear hany ht hl813_0 hi813_0 hr0 hc0 c0_ c10 q813 eb p813
  cases t with
  | true =>
    go_enter Try.func91, Try.ntmps91
    go_wp2_with (fail)
    repeat (go_quiet (first | (go_at_call 94; (with_reducible refine (impl_areSides.calls (l0.length : Int) ((rd_L1 l0 0).length : Int) 10 true _ HT.out).mono ?_); rintro e w' ⟨rfl, ⟨nd, rfl⟩⟩; (try first | exact ⟨rfl, _, World.drewN_drewN _ _ _⟩ | exact ⟨rfl, _, Eq.trans (World.drewN_drewN _ _ _) (congrArg (World.drewN _) (Nat.add_assoc _ _ _))⟩)) | (go_at_call 101; (with_reducible refine (hC.out _ ?s1 ?s2).mono ?_); (case s1 => exact ⟨by (with_reducible repeat (first | refine blk_drewN ?_ _ | refine blk_drew ?_)); exact blk_new _ _⟩); (case s2 => exact ⟨by repeat (first | exact Below.refl _ _ | apply below_alloc | apply pw_below_drewN | apply below_drew1)⟩); rintro e w' ⟨rfl, ⟨nd, rfl⟩⟩; (try first | exact ⟨rfl, _, World.drewN_drewN _ _ _⟩ | exact ⟨rfl, _, Eq.trans (World.drewN_drewN _ _ _) (congrArg (World.drewN _) (Nat.add_assoc _ _ _))⟩))); try go_wp2_with (fail))
    go_ret3
    exact ⟨by first | rfl | (simp; done), by repeat (first | exact Below.refl _ _ | apply below_alloc | apply pw_below_drewN | apply below_drew1)⟩
  | false =>
    go_enter Try.func91, Try.ntmps91
    go_wp2_with (fail)
    repeat (go_quiet (first | (go_at_call 94; (with_reducible refine (impl_areSides.calls (l0.length : Int) ((rd_L1 l0 0).length : Int) 10 false _ HT.out).mono ?_); rintro e w' ⟨rfl, ⟨nd, rfl⟩⟩; (try first | exact ⟨rfl, _, World.drewN_drewN _ _ _⟩ | exact ⟨rfl, _, Eq.trans (World.drewN_drewN _ _ _) (congrArg (World.drewN _) (Nat.add_assoc _ _ _))⟩))); try go_wp2_with (fail))
    go_ret3
    exact ⟨by first | rfl | (simp; done), by repeat (first | exact Below.refl _ _ | apply below_alloc | apply pw_below_drewN | apply below_drew1)⟩
end Go.Proofs.Ytfahkoimleiknaa.F
end

section
namespace Go.Proofs.Ytfahkoimleiknaa.F
open Go.RowKit Go.Proofs.YtfahkoimleiknaaW.PrintWords Go.Proofs.YtfahkoimleiknaaW.PrintLast Go.Proofs.YtfahkoimleiknaaW.PrintMore
attribute [local go_sem] max2_int min2_int max_two min_two max_three min_three max_four min_four
set_option linter.unusedVariables false
set_option linter.unusedSimpArgs false

/-! ### impl_IsTableau: function 68 -/
mutual
def impl_IsTableau.l0 : Nat → List (List Int) → Int → Int → Int → Int → Int → Option (Bool)
  | 0, _, _, _, _, _, _ => none
  | k + 1, x0, x3, x4, x6, x18, x19 => if x19 < x18 then (impl_IsTableau.l1 k x0 x3 x4 x6 x19 x18 x19 x4 0) else (some true)
def impl_IsTableau.l1 : Nat → List (List Int) → Int → Int → Int → Int → Int → Int → Int → Int → Option (Bool)
  | 0, _, _, _, _, _, _, _, _, _ => none
  | k + 1, x0, x3, x4, x6, x7, x18, x19, x22, x23 => if x23 < x22 then (if 0 ≤ x7 then (if x7 < (x0.length : Int) then (if 0 ≤ x23 then (if x23 < ((rd_L1 x0 x7).length : Int) then ((impl_within.f (rd (rd_L1 x0 x7) x23) 0 (wrap64 ((wrap64 (x3 * x4)) - 1))).bind fun t377 => (if t377 = true then ((impl_has.f x6 (rd (rd_L1 x0 x7) x23)).bind fun t378 => (if t378 = true then (some false) else (if x7 > 0 then (if 0 ≤ (wrap64 (x7 - 1)) then (if (wrap64 (x7 - 1)) < (x0.length : Int) then (if x23 < ((rd_L1 x0 (wrap64 (x7 - 1))).length : Int) then (if (rd (rd_L1 x0 x7) x23) ≤ (rd (rd_L1 x0 (wrap64 (x7 - 1))) x23) then (some false) else (if x23 > 0 then (if 0 ≤ (wrap64 (x23 - 1)) then (if (wrap64 (x23 - 1)) < ((rd_L1 x0 x7).length : Int) then (if (rd (rd_L1 x0 x7) x23) ≤ (rd (rd_L1 x0 x7) (wrap64 (x23 - 1))) then (some false) else (if 0 ≤ (rd (rd_L1 x0 x7) x23) then (impl_IsTableau.l1 k x0 x3 x4 (Go.bits .or .i64 x6 (shl .i64 1 (rd (rd_L1 x0 x7) x23))) x7 x18 x19 x22 (wrap64 (x23 + 1))) else (none))) else (none)) else (none)) else (if 0 ≤ (rd (rd_L1 x0 x7) x23) then (impl_IsTableau.l1 k x0 x3 x4 (Go.bits .or .i64 x6 (shl .i64 1 (rd (rd_L1 x0 x7) x23))) x7 x18 x19 x22 (wrap64 (x23 + 1))) else (none)))) else (none)) else (none)) else (none)) else (if x23 > 0 then (if 0 ≤ (wrap64 (x23 - 1)) then (if (wrap64 (x23 - 1)) < ((rd_L1 x0 x7).length : Int) then (if (rd (rd_L1 x0 x7) x23) ≤ (rd (rd_L1 x0 x7) (wrap64 (x23 - 1))) then (some false) else (if 0 ≤ (rd (rd_L1 x0 x7) x23) then (impl_IsTableau.l1 k x0 x3 x4 (Go.bits .or .i64 x6 (shl .i64 1 (rd (rd_L1 x0 x7) x23))) x7 x18 x19 x22 (wrap64 (x23 + 1))) else (none))) else (none)) else (none)) else (if 0 ≤ (rd (rd_L1 x0 x7) x23) then (impl_IsTableau.l1 k x0 x3 x4 (Go.bits .or .i64 x6 (shl .i64 1 (rd (rd_L1 x0 x7) x23))) x7 x18 x19 x22 (wrap64 (x23 + 1))) else (none)))))) else (some false))) else (none)) else (none)) else (none)) else (none)) else (impl_IsTableau.l0 k x0 x3 x4 x6 x18 (wrap64 (x19 + 1)))
end
def impl_IsTableau.f (k : Nat) (l0 : List (List Int)) : Option (Bool) := (impl_sidesOf.f l0).bind fun bt372 => (if bt372.2.2 = true then (impl_IsTableau.l0 k l0 bt372.1 bt372.2.1 0 bt372.1 0) else (some false))
theorem impl_IsTableau.mono_l : ∀ k, (∀ y0 y1 y2 y3 y4 y5, LeO (impl_IsTableau.l0 k y0 y1 y2 y3 y4 y5) (impl_IsTableau.l0 (k + 1) y0 y1 y2 y3 y4 y5)) ∧ (∀ y0 y1 y2 y3 y4 y5 y6 y7 y8, LeO (impl_IsTableau.l1 k y0 y1 y2 y3 y4 y5 y6 y7 y8) (impl_IsTableau.l1 (k + 1) y0 y1 y2 y3 y4 y5 y6 y7 y8))
  | 0 => ⟨fun _ _ _ _ _ _ r h => by simp [impl_IsTableau.l0] at h, fun _ _ _ _ _ _ _ _ _ r h => by simp [impl_IsTableau.l1] at h⟩
  | k + 1 => by
    obtain ⟨ih0, ih1⟩ := impl_IsTableau.mono_l k
    refine ⟨?_, ?_⟩
    · intro y0 y1 y2 y3 y4 y5
      unfold impl_IsTableau.l0
      repeat' first
      | (with_reducible exact ih0 _ _ _ _ _ _)
      | (with_reducible exact ih1 _ _ _ _ _ _ _ _ _)
      | (with_reducible exact LeO.refl _)
      | (with_reducible exact LeO.none _)
      | (with_reducible refine LeO.ite ?_ ?_)
      | (with_reducible refine LeO.bind ?_ (fun _ => ?_))
      | exact ih0 _ _ _ _ _ _
      | exact ih1 _ _ _ _ _ _ _ _ _
      | exact LeO.none _
      | refine LeO.ite ?_ ?_
      | refine LeO.bind ?_ (fun _ => ?_)
    · intro y0 y1 y2 y3 y4 y5 y6 y7 y8
      unfold impl_IsTableau.l1
      repeat' first
      | (with_reducible exact ih0 _ _ _ _ _ _)
      | (with_reducible exact ih1 _ _ _ _ _ _ _ _ _)
      | (with_reducible exact LeO.refl _)
      | (with_reducible exact LeO.none _)
      | (with_reducible refine LeO.ite ?_ ?_)
      | (with_reducible refine LeO.bind ?_ (fun _ => ?_))
      | exact ih0 _ _ _ _ _ _
      | exact ih1 _ _ _ _ _ _ _ _ _
      | exact LeO.none _
      | refine LeO.ite ?_ ?_
      | refine LeO.bind ?_ (fun _ => ?_)
theorem impl_IsTableau.mono : ∀ a0 k, LeO (impl_IsTableau.f k a0) (impl_IsTableau.f (k + 1) a0) := by
  intro a0 k
  obtain ⟨ih0, ih1⟩ := impl_IsTableau.mono_l k
  unfold impl_IsTableau.f
  repeat' first
      | (with_reducible exact ih0 _ _ _ _ _ _)
      | (with_reducible exact ih1 _ _ _ _ _ _ _ _ _)
      | (with_reducible exact LeO.refl _)
      | (with_reducible exact LeO.none _)
      | (with_reducible refine LeO.ite ?_ ?_)
      | (with_reducible refine LeO.bind ?_ (fun _ => ?_))
      | exact ih0 _ _ _ _ _ _
      | exact ih1 _ _ _ _ _ _ _ _ _
      | exact LeO.none _
      | refine LeO.ite ?_ ?_
      | refine LeO.bind ?_ (fun _ => ?_)
set_option maxHeartbeats 8000000 in
set_option maxRecDepth 100000 in
theorem impl_IsTableau.calls (k : Nat) (A0 : Option Addr) (c0 : Nat) (l0 : List (List Int)) (r : Bool) (w : World) (hr0 : Kd.C (Kd.slice 3 (Kd.int .i64)) w A0 l0.length l0) (hc0 : l0.length ≤ c0) (h : impl_IsTableau.f k l0 = some r) :
    Calls Try.prog 68 #[.slice A0 l0.length c0] w fun e w' => e = .returned (.bool r) ∧ Below w.heap.size w w' := by
  have HR0 := Aside0.mk hr0
  have HC0 := Aside0.mk hc0
  clear hr0 hc0
  have HB := Aside0.mk (Below.refl w.heap.size w)
  have H : ((impl_sidesOf.f l0).bind fun bt372 => (if bt372.2.2 = true then (impl_IsTableau.l0 k l0 bt372.1 bt372.2.1 0 bt372.1 0) else (some false))) = some r := h
  clear h
  replace H := Option.bind_eq_some_iff.mp H
  obtain ⟨⟨t372, t373, t374⟩, A20, H⟩ := H
  replace H : (if t374 = true then (impl_IsTableau.l0 k l0 t372 t373 0 t372 0) else (some false)) = some r := H
  have A2 := Aside0.mk A20
  clear A20
  by_cases c3 : t374 = true
  · subst c3
    have H1 : (impl_IsTableau.l0 k l0 t372 t373 0 t372 0) = some r := by rw [if_pos rfl] at H; exact H
    clear H
    have H := H1
    clear H1
    have H' := Aside0.mk H
    clear H
    go_enter Try.func68, Try.ntmps68
    go_wp2_with (first | ((with_reducible refine gate_callee (f := 91) rfl ?_); refine goesL_ (some 12) rfl rfl Try.func91 (by kernel_rfl) rfl #[.slice A0 l0.length c0] rfl (by (try simp only [List.map_toArray, List.map_cons, List.map_nil]); first | done | rfl | (simp only [List.length_drop, List.length_take]; rfl)) ?_; (with_reducible refine (impl_sidesOf.calls _ _ l0 t372 t373 true _ ?side1 ?side2 A2.out).mono ?_); (case side1 => repeat (first | exact HR0.out | (with_reducible refine Kd.C_alloc ?_ _) | (with_reducible refine Kd.C_drewN ?_ _) | (with_reducible refine Kd.C_drew ?_))); (case side2 => exact HC0.out); rintro e w4 ⟨rfl, hb⟩; refine ⟨_, rfl, ?_⟩; have n0_ := Aside0.mk (below_step (by repeat (first | (with_reducible first | exact HB.out | apply below_alloc | apply pw_below_drewN | apply below_drew1) | exact HB.out)) hb); clear HB; have HB := n0_; clear n0_; (try clear hb); (try clear hb2); (try clear hk); (try clear hi)))
    go_loopg [6, 19] k (fun kq v6 v19 w' => ∃ (x6_1 : Int) (x19_1 : Int), v6 = .int .i64 x6_1 ∧ v19 = .int .i64 x19_1 ∧ Aside0 (impl_IsTableau.l0 kq l0 t372 t373 x6_1 t372 x19_1 = some r) ∧ Aside0 (kq ≤ k) ∧ Aside0 (Below w.heap.size w w'))
    case atStart => exact ⟨(0), (0), (by first | rfl | (simp; done) | (simp [*]; done)), (by first | rfl | (simp; done) | (simp [*]; done)), H', ⟨Nat.le_refl _⟩, ⟨by repeat (first | (with_reducible first | exact HB.out | apply below_alloc | apply pw_below_drewN | apply below_drew1) | exact HB.out)⟩⟩
    case round =>
      clear H'
      try clear p2
      try clear c3
      obtain ⟨x6_1, x19_1, rfl, rfl, HA, HK1, HB⟩ := hrel
      cases gk with
      | zero => exact absurd HA.out (by simp [impl_IsTableau.l0])
      | succ k1 =>
        have H := HA.out
        clear HA
        simp only [impl_IsTableau.l0] at H
        by_cases c5 : x19_1 < t372
        · rw [if_pos c5] at H
          have c5b0 : decide (x19_1 < t372) = true := decide_eq_true c5
          clear c5
          have H' := Aside0.mk H
          clear H
          go_wp2
          go_loopg [6, 23] k1 (fun kq v6 v23 w' => ∃ (x6_2 : Int) (x23_2 : Int), v6 = .int .i64 x6_2 ∧ v23 = .int .i64 x23_2 ∧ Aside0 (impl_IsTableau.l1 kq l0 t372 t373 x6_2 x19_1 t372 x19_1 t373 x23_2 = some r) ∧ Aside0 (kq ≤ k1) ∧ Aside0 (Below w.heap.size w w'))
          case atStart => exact ⟨(x6_1), (0), (by first | rfl | (simp; done) | (simp [*]; done)), (by first | rfl | (simp; done) | (simp [*]; done)), H', ⟨Nat.le_refl _⟩, ⟨by repeat (first | (with_reducible first | exact HB.out | apply below_alloc | apply pw_below_drewN | apply below_drew1) | exact HB.out)⟩⟩
          case round =>
            clear H'
            try clear p2
            try clear c3
            try clear c5
            try clear c5b0
            try clear p2
            obtain ⟨x6_2, x23_2, rfl, rfl, HA, HK2, HB⟩ := hrel
            cases gk with
            | zero => exact absurd HA.out (by simp [impl_IsTableau.l1])
            | succ k2 =>
              have H := HA.out
              clear HA
              simp only [impl_IsTableau.l1] at H
              by_cases c6 : x23_2 < t373
              · rw [if_pos c6] at H
                have c6b0 : decide (x23_2 < t373) = true := decide_eq_true c6
                clear c6
                by_cases c7 : 0 ≤ x19_1
                · rw [if_pos c7] at H
                  have c7b0 : decide (0 ≤ x19_1) = true := decide_eq_true c7
                  clear c7
                  by_cases c8 : x19_1 < (l0.length : Int)
                  · rw [if_pos c8] at H
                    have c8b0 : decide (x19_1 < (l0.length : Int)) = true := decide_eq_true c8
                    clear c8
                    by_cases c9 : 0 ≤ x23_2
                    · rw [if_pos c9] at H
                      have c9b0 : decide (0 ≤ x23_2) = true := decide_eq_true c9
                      clear c9
                      by_cases c10 : x23_2 < ((rd_L1 l0 x19_1).length : Int)
                      · rw [if_pos c10] at H
                        have c10b0 : decide (x23_2 < ((rd_L1 l0 x19_1).length : Int)) = true := decide_eq_true c10
                        clear c10
                        replace H := Option.bind_eq_some_iff.mp H
                        obtain ⟨t377, A110, H⟩ := H
                        replace H : (if t377 = true then ((impl_has.f x6_2 (rd (rd_L1 l0 x19_1) x23_2)).bind fun t378 => (if t378 = true then (some false) else (if x19_1 > 0 then (if 0 ≤ (wrap64 (x19_1 - 1)) then (if (wrap64 (x19_1 - 1)) < (l0.length : Int) then (if x23_2 < ((rd_L1 l0 (wrap64 (x19_1 - 1))).length : Int) then (if (rd (rd_L1 l0 x19_1) x23_2) ≤ (rd (rd_L1 l0 (wrap64 (x19_1 - 1))) x23_2) then (some false) else (if x23_2 > 0 then (if 0 ≤ (wrap64 (x23_2 - 1)) then (if (wrap64 (x23_2 - 1)) < ((rd_L1 l0 x19_1).length : Int) then (if (rd (rd_L1 l0 x19_1) x23_2) ≤ (rd (rd_L1 l0 x19_1) (wrap64 (x23_2 - 1))) then (some false) else (if 0 ≤ (rd (rd_L1 l0 x19_1) x23_2) then (impl_IsTableau.l1 k2 l0 t372 t373 (Go.bits .or .i64 x6_2 (shl .i64 1 (rd (rd_L1 l0 x19_1) x23_2))) x19_1 t372 x19_1 t373 (wrap64 (x23_2 + 1))) else (none))) else (none)) else (none)) else (if 0 ≤ (rd (rd_L1 l0 x19_1) x23_2) then (impl_IsTableau.l1 k2 l0 t372 t373 (Go.bits .or .i64 x6_2 (shl .i64 1 (rd (rd_L1 l0 x19_1) x23_2))) x19_1 t372 x19_1 t373 (wrap64 (x23_2 + 1))) else (none)))) else (none)) else (none)) else (none)) else (if x23_2 > 0 then (if 0 ≤ (wrap64 (x23_2 - 1)) then (if (wrap64 (x23_2 - 1)) < ((rd_L1 l0 x19_1).length : Int) then (if (rd (rd_L1 l0 x19_1) x23_2) ≤ (rd (rd_L1 l0 x19_1) (wrap64 (x23_2 - 1))) then (some false) else (if 0 ≤ (rd (rd_L1 l0 x19_1) x23_2) then (impl_IsTableau.l1 k2 l0 t372 t373 (Go.bits .or .i64 x6_2 (shl .i64 1 (rd (rd_L1 l0 x19_1) x23_2))) x19_1 t372 x19_1 t373 (wrap64 (x23_2 + 1))) else (none))) else (none)) else (none)) else (if 0 ≤ (rd (rd_L1 l0 x19_1) x23_2) then (impl_IsTableau.l1 k2 l0 t372 t373 (Go.bits .or .i64 x6_2 (shl .i64 1 (rd (rd_L1 l0 x19_1) x23_2))) x19_1 t372 x19_1 t373 (wrap64 (x23_2 + 1))) else (none)))))) else (some false)) = some r := H
                        have A11 := Aside0.mk A110
                        clear A110
                        by_cases c12 : t377 = true
                        · subst c12
                          have H1 : ((impl_has.f x6_2 (rd (rd_L1 l0 x19_1) x23_2)).bind fun t378 => (if t378 = true then (some false) else (if x19_1 > 0 then (if 0 ≤ (wrap64 (x19_1 - 1)) then (if (wrap64 (x19_1 - 1)) < (l0.length : Int) then (if x23_2 < ((rd_L1 l0 (wrap64 (x19_1 - 1))).length : Int) then (if (rd (rd_L1 l0 x19_1) x23_2) ≤ (rd (rd_L1 l0 (wrap64 (x19_1 - 1))) x23_2) then (some false) else (if x23_2 > 0 then (if 0 ≤ (wrap64 (x23_2 - 1)) then (if (wrap64 (x23_2 - 1)) < ((rd_L1 l0 x19_1).length : Int) then (if (rd (rd_L1 l0 x19_1) x23_2) ≤ (rd (rd_L1 l0 x19_1) (wrap64 (x23_2 - 1))) then (some false) else (if 0 ≤ (rd (rd_L1 l0 x19_1) x23_2) then (impl_IsTableau.l1 k2 l0 t372 t373 (Go.bits .or .i64 x6_2 (shl .i64 1 (rd (rd_L1 l0 x19_1) x23_2))) x19_1 t372 x19_1 t373 (wrap64 (x23_2 + 1))) else (none))) else (none)) else (none)) else (if 0 ≤ (rd (rd_L1 l0 x19_1) x23_2) then (impl_IsTableau.l1 k2 l0 t372 t373 (Go.bits .or .i64 x6_2 (shl .i64 1 (rd (rd_L1 l0 x19_1) x23_2))) x19_1 t372 x19_1 t373 (wrap64 (x23_2 + 1))) else (none)))) else (none)) else (none)) else (none)) else (if x23_2 > 0 then (if 0 ≤ (wrap64 (x23_2 - 1)) then (if (wrap64 (x23_2 - 1)) < ((rd_L1 l0 x19_1).length : Int) then (if (rd (rd_L1 l0 x19_1) x23_2) ≤ (rd (rd_L1 l0 x19_1) (wrap64 (x23_2 - 1))) then (some false) else (if 0 ≤ (rd (rd_L1 l0 x19_1) x23_2) then (impl_IsTableau.l1 k2 l0 t372 t373 (Go.bits .or .i64 x6_2 (shl .i64 1 (rd (rd_L1 l0 x19_1) x23_2))) x19_1 t372 x19_1 t373 (wrap64 (x23_2 + 1))) else (none))) else (none)) else (none)) else (if 0 ≤ (rd (rd_L1 l0 x19_1) x23_2) then (impl_IsTableau.l1 k2 l0 t372 t373 (Go.bits .or .i64 x6_2 (shl .i64 1 (rd (rd_L1 l0 x19_1) x23_2))) x19_1 t372 x19_1 t373 (wrap64 (x23_2 + 1))) else (none)))))) = some r := by rw [if_pos rfl] at H; exact H
                          clear H
                          have H := H1
                          clear H1
                          replace H := Option.bind_eq_some_iff.mp H
                          obtain ⟨t378, A130, H⟩ := H
                          replace H : (if t378 = true then (some false) else (if x19_1 > 0 then (if 0 ≤ (wrap64 (x19_1 - 1)) then (if (wrap64 (x19_1 - 1)) < (l0.length : Int) then (if x23_2 < ((rd_L1 l0 (wrap64 (x19_1 - 1))).length : Int) then (if (rd (rd_L1 l0 x19_1) x23_2) ≤ (rd (rd_L1 l0 (wrap64 (x19_1 - 1))) x23_2) then (some false) else (if x23_2 > 0 then (if 0 ≤ (wrap64 (x23_2 - 1)) then (if (wrap64 (x23_2 - 1)) < ((rd_L1 l0 x19_1).length : Int) then (if (rd (rd_L1 l0 x19_1) x23_2) ≤ (rd (rd_L1 l0 x19_1) (wrap64 (x23_2 - 1))) then (some false) else (if 0 ≤ (rd (rd_L1 l0 x19_1) x23_2) then (impl_IsTableau.l1 k2 l0 t372 t373 (Go.bits .or .i64 x6_2 (shl .i64 1 (rd (rd_L1 l0 x19_1) x23_2))) x19_1 t372 x19_1 t373 (wrap64 (x23_2 + 1))) else (none))) else (none)) else (none)) else (if 0 ≤ (rd (rd_L1 l0 x19_1) x23_2) then (impl_IsTableau.l1 k2 l0 t372 t373 (Go.bits .or .i64 x6_2 (shl .i64 1 (rd (rd_L1 l0 x19_1) x23_2))) x19_1 t372 x19_1 t373 (wrap64 (x23_2 + 1))) else (none)))) else (none)) else (none)) else (none)) else (if x23_2 > 0 then (if 0 ≤ (wrap64 (x23_2 - 1)) then (if (wrap64 (x23_2 - 1)) < ((rd_L1 l0 x19_1).length : Int) then (if (rd (rd_L1 l0 x19_1) x23_2) ≤ (rd (rd_L1 l0 x19_1) (wrap64 (x23_2 - 1))) then (some false) else (if 0 ≤ (rd (rd_L1 l0 x19_1) x23_2) then (impl_IsTableau.l1 k2 l0 t372 t373 (Go.bits .or .i64 x6_2 (shl .i64 1 (rd (rd_L1 l0 x19_1) x23_2))) x19_1 t372 x19_1 t373 (wrap64 (x23_2 + 1))) else (none))) else (none)) else (none)) else (if 0 ≤ (rd (rd_L1 l0 x19_1) x23_2) then (impl_IsTableau.l1 k2 l0 t372 t373 (Go.bits .or .i64 x6_2 (shl .i64 1 (rd (rd_L1 l0 x19_1) x23_2))) x19_1 t372 x19_1 t373 (wrap64 (x23_2 + 1))) else (none))))) = some r := H
                          have A13 := Aside0.mk A130
                          clear A130
                          by_cases c14 : t378 = true
                          · subst c14
                            have H1 : (some false) = some r := by rw [if_pos rfl] at H; exact H
                            clear H
                            have H := H1
                            clear H1
                            obtain rfl := Option.some.inj H
                            have p375 : 0 ≤ (x19_1 : Int) := of_decide_eq_true (by first | (with_reducible assumption) | assumption)
                            have q375 : x19_1 < (l0.length : Int) := of_decide_eq_true (by first | (with_reducible assumption) | assumption)
                            obtain ⟨ad375, A375_0, c375_0, e375, hx375_0, hl375_0, hi375_0⟩ := at_L1 HR0.out x19_1 p375 q375
                            cases e375
                            replace hx375_0 := (HB.out.cell (World.block_lt_of_cell? w _ hx375_0)).trans hx375_0
                            have HR375_0 := Aside0.mk hi375_0
                            have HC375_0 := Aside0.mk hl375_0
                            clear hi375_0 hl375_0
                            replace p375 := eq_true p375
                            replace q375 := eq_true q375
                            have p376 : 0 ≤ (x23_2 : Int) := of_decide_eq_true (by first | (with_reducible assumption) | assumption)
                            have q376 : x23_2 < ((rd_L1 l0 x19_1).length : Int) := of_decide_eq_true (by first | (with_reducible assumption) | assumption)
                            obtain ⟨ad376, e376, hx376_0⟩ := Kd.at_int HR375_0.out x23_2 p376 q376
                            cases e376
                            replace hx376_0 := (HB.out.cell (World.block_lt_of_cell? w _ hx376_0)).trans hx376_0
                            replace p376 := eq_true p376
                            replace q376 := eq_true q376
                            go_wp2_with (first | ((with_reducible refine gate_callee (f := 67) rfl ?_); refine goesL_ (some 38) rfl rfl Try.func67 (by kernel_rfl) rfl #[.int .i64 (rd (rd_L1 l0 x19_1) x23_2), .int .i64 0, .int .i64 (wrap64 ((wrap64 (t372 * t373)) - 1))] rfl (by (try simp only [List.map_toArray, List.map_cons, List.map_nil]); first | done | rfl | (simp only [List.length_drop, List.length_take]; rfl)) ?_; (with_reducible refine (impl_within.calls (rd (rd_L1 l0 x19_1) x23_2) 0 (wrap64 ((wrap64 (t372 * t373)) - 1)) true _ A11.out).mono ?_); rintro e w' ⟨rfl, ⟨nd, rfl⟩⟩; refine ⟨_, rfl, ?_⟩) | (go_at_call 92; (with_reducible refine (impl_has.calls x6_2 (rd (rd_L1 l0 x19_1) x23_2) true _ A13.out).mono ?_); rintro e w' ⟨rfl, ⟨nd, rfl⟩⟩))
                            go_ret
                            exact ⟨by first | rfl | (simp [errW_none, errW_some] <;> rfl) | (simp [*, errW_none, errW_some] <;> rfl), by repeat (first | (with_reducible first | exact HB.out | apply below_alloc | apply pw_below_drewN | apply below_drew1) | exact HB.out)⟩
                          · replace c14 := Bool.eq_false_iff.mpr c14
                            subst c14
                            have H1 : (if x19_1 > 0 then (if 0 ≤ (wrap64 (x19_1 - 1)) then (if (wrap64 (x19_1 - 1)) < (l0.length : Int) then (if x23_2 < ((rd_L1 l0 (wrap64 (x19_1 - 1))).length : Int) then (if (rd (rd_L1 l0 x19_1) x23_2) ≤ (rd (rd_L1 l0 (wrap64 (x19_1 - 1))) x23_2) then (some false) else (if x23_2 > 0 then (if 0 ≤ (wrap64 (x23_2 - 1)) then (if (wrap64 (x23_2 - 1)) < ((rd_L1 l0 x19_1).length : Int) then (if (rd (rd_L1 l0 x19_1) x23_2) ≤ (rd (rd_L1 l0 x19_1) (wrap64 (x23_2 - 1))) then (some false) else (if 0 ≤ (rd (rd_L1 l0 x19_1) x23_2) then (impl_IsTableau.l1 k2 l0 t372 t373 (Go.bits .or .i64 x6_2 (shl .i64 1 (rd (rd_L1 l0 x19_1) x23_2))) x19_1 t372 x19_1 t373 (wrap64 (x23_2 + 1))) else (none))) else (none)) else (none)) else (if 0 ≤ (rd (rd_L1 l0 x19_1) x23_2) then (impl_IsTableau.l1 k2 l0 t372 t373 (Go.bits .or .i64 x6_2 (shl .i64 1 (rd (rd_L1 l0 x19_1) x23_2))) x19_1 t372 x19_1 t373 (wrap64 (x23_2 + 1))) else (none)))) else (none)) else (none)) else (none)) else (if x23_2 > 0 then (if 0 ≤ (wrap64 (x23_2 - 1)) then (if (wrap64 (x23_2 - 1)) < ((rd_L1 l0 x19_1).length : Int) then (if (rd (rd_L1 l0 x19_1) x23_2) ≤ (rd (rd_L1 l0 x19_1) (wrap64 (x23_2 - 1))) then (some false) else (if 0 ≤ (rd (rd_L1 l0 x19_1) x23_2) then (impl_IsTableau.l1 k2 l0 t372 t373 (Go.bits .or .i64 x6_2 (shl .i64 1 (rd (rd_L1 l0 x19_1) x23_2))) x19_1 t372 x19_1 t373 (wrap64 (x23_2 + 1))) else (none))) else (none)) else (none)) else (if 0 ≤ (rd (rd_L1 l0 x19_1) x23_2) then (impl_IsTableau.l1 k2 l0 t372 t373 (Go.bits .or .i64 x6_2 (shl .i64 1 (rd (rd_L1 l0 x19_1) x23_2))) x19_1 t372 x19_1 t373 (wrap64 (x23_2 + 1))) else (none)))) = some r := by rw [if_neg (show ¬ (false = true) by decide)] at H; exact H
                            clear H
                            have H := H1
                            clear H1
                            by_cases c15 : x19_1 > 0
                            · rw [if_pos c15] at H
                              have c15b0 : decide (0 < x19_1) = true := decide_eq_true c15
                              clear c15
                              obtain ⟨ji16, hji16⟩ : ∃ j_ : Int, (wrap64 (x19_1 - 1)) = j_ := ⟨_, rfl⟩
                              replace H : (if 0 ≤ (ji16) then (if (ji16) < (l0.length : Int) then (if x23_2 < ((rd_L1 l0 (ji16)).length : Int) then (if (rd (rd_L1 l0 x19_1) x23_2) ≤ (rd (rd_L1 l0 (ji16)) x23_2) then (some false) else (if x23_2 > 0 then (if 0 ≤ (wrap64 (x23_2 - 1)) then (if (wrap64 (x23_2 - 1)) < ((rd_L1 l0 x19_1).length : Int) then (if (rd (rd_L1 l0 x19_1) x23_2) ≤ (rd (rd_L1 l0 x19_1) (wrap64 (x23_2 - 1))) then (some false) else (if 0 ≤ (rd (rd_L1 l0 x19_1) x23_2) then (impl_IsTableau.l1 k2 l0 t372 t373 (Go.bits .or .i64 x6_2 (shl .i64 1 (rd (rd_L1 l0 x19_1) x23_2))) x19_1 t372 x19_1 t373 (wrap64 (x23_2 + 1))) else (none))) else (none)) else (none)) else (if 0 ≤ (rd (rd_L1 l0 x19_1) x23_2) then (impl_IsTableau.l1 k2 l0 t372 t373 (Go.bits .or .i64 x6_2 (shl .i64 1 (rd (rd_L1 l0 x19_1) x23_2))) x19_1 t372 x19_1 t373 (wrap64 (x23_2 + 1))) else (none)))) else (none)) else (none)) else (none)) = some r := by first | (rw [hji16] at H; exact H) | (simp only [hji16] at H ⊢; exact H)
                              (try rw [hji16] at A11)
                              (try rw [hji16] at A13)
                              have hji16w : (IntKind.i64.wrap (x19_1 - 1)) = ji16 := (i64_w _).trans hji16
                              by_cases c17 : 0 ≤ (ji16)
                              · rw [if_pos c17] at H
                                have c17b0 : decide (0 ≤ (ji16)) = true := decide_eq_true c17
                                clear c17
                                by_cases c18 : (ji16) < (l0.length : Int)
                                · rw [if_pos c18] at H
                                  have c18b0 : decide ((ji16) < (l0.length : Int)) = true := decide_eq_true c18
                                  clear c18
                                  by_cases c19 : x23_2 < ((rd_L1 l0 (ji16)).length : Int)
                                  · rw [if_pos c19] at H
                                    have c19b0 : decide (x23_2 < ((rd_L1 l0 (ji16)).length : Int)) = true := decide_eq_true c19
                                    clear c19
                                    by_cases c20 : (rd (rd_L1 l0 x19_1) x23_2) ≤ (rd (rd_L1 l0 (ji16)) x23_2)
                                    · rw [if_pos c20] at H
                                      have c20b0 : decide ((rd (rd_L1 l0 x19_1) x23_2) ≤ (rd (rd_L1 l0 (ji16)) x23_2)) = true := decide_eq_true c20
                                      clear c20
                                      obtain rfl := Option.some.inj H
                                      have p375 : 0 ≤ (x19_1 : Int) := of_decide_eq_true (by first | (with_reducible assumption) | assumption)
                                      have q375 : x19_1 < (l0.length : Int) := of_decide_eq_true (by first | (with_reducible assumption) | assumption)
                                      obtain ⟨ad375, A375_0, c375_0, e375, hx375_0, hl375_0, hi375_0⟩ := at_L1 HR0.out x19_1 p375 q375
                                      cases e375
                                      replace hx375_0 := (HB.out.cell (World.block_lt_of_cell? w _ hx375_0)).trans hx375_0
                                      have HR375_0 := Aside0.mk hi375_0
                                      have HC375_0 := Aside0.mk hl375_0
                                      clear hi375_0 hl375_0
                                      replace p375 := eq_true p375
                                      replace q375 := eq_true q375
                                      have p376 : 0 ≤ (x23_2 : Int) := of_decide_eq_true (by first | (with_reducible assumption) | assumption)
                                      have q376 : x23_2 < ((rd_L1 l0 x19_1).length : Int) := of_decide_eq_true (by first | (with_reducible assumption) | assumption)
                                      obtain ⟨ad376, e376, hx376_0⟩ := Kd.at_int HR375_0.out x23_2 p376 q376
                                      cases e376
                                      replace hx376_0 := (HB.out.cell (World.block_lt_of_cell? w _ hx376_0)).trans hx376_0
                                      replace p376 := eq_true p376
                                      replace q376 := eq_true q376
                                      go_wp2_with (first | ((with_reducible refine gate_callee (f := 67) rfl ?_); refine goesL_ (some 38) rfl rfl Try.func67 (by kernel_rfl) rfl #[.int .i64 (rd (rd_L1 l0 x19_1) x23_2), .int .i64 0, .int .i64 (wrap64 ((wrap64 (t372 * t373)) - 1))] rfl (by (try simp only [List.map_toArray, List.map_cons, List.map_nil]); first | done | rfl | (simp only [List.length_drop, List.length_take]; rfl)) ?_; (with_reducible refine (impl_within.calls (rd (rd_L1 l0 x19_1) x23_2) 0 (wrap64 ((wrap64 (t372 * t373)) - 1)) true _ A11.out).mono ?_); rintro e w' ⟨rfl, ⟨nd, rfl⟩⟩; refine ⟨_, rfl, ?_⟩) | (go_at_call 92; (with_reducible refine (impl_has.calls x6_2 (rd (rd_L1 l0 x19_1) x23_2) false _ A13.out).mono ?_); rintro e w' ⟨rfl, ⟨nd, rfl⟩⟩; have p379 : 0 ≤ ((ji16) : Int) := of_decide_eq_true (by first | (with_reducible assumption) | assumption); have q379 : (ji16) < (l0.length : Int) := of_decide_eq_true (by first | (with_reducible assumption) | assumption); obtain ⟨ad379, A379_0, c379_0, e379, hx379_0, hl379_0, hi379_0⟩ := at_L1 HR0.out (ji16) p379 q379; obtain rfl : ad375 = ad379 := (by injection e379); replace hx379_0 := (HB.out.cell (World.block_lt_of_cell? w _ hx379_0)).trans hx379_0; have HR379_0 := Aside0.mk hi379_0; have HC379_0 := Aside0.mk hl379_0; clear hi379_0 hl379_0; replace p379 := eq_true p379; replace q379 := eq_true q379; have p380 : 0 ≤ (x23_2 : Int) := of_decide_eq_true (by first | (with_reducible assumption) | assumption); have q380 : x23_2 < ((rd_L1 l0 (ji16)).length : Int) := of_decide_eq_true (by first | (with_reducible assumption) | assumption); obtain ⟨ad380, e380, hx380_0⟩ := Kd.at_int HR379_0.out x23_2 p380 q380; cases e380; replace hx380_0 := (HB.out.cell (World.block_lt_of_cell? w _ hx380_0)).trans hx380_0; replace p380 := eq_true p380; replace q380 := eq_true q380))
                                      go_ret
                                      exact ⟨by first | rfl | (simp [errW_none, errW_some] <;> rfl) | (simp only [← hji16]; first | rfl | (simp [errW_none, errW_some] <;> rfl)) | (simp [*, errW_none, errW_some] <;> rfl), by repeat (first | (with_reducible first | exact HB.out | apply below_alloc | apply pw_below_drewN | apply below_drew1) | exact HB.out)⟩
                                    · rw [if_neg c20] at H
                                      have c20b0 : decide ((rd (rd_L1 l0 x19_1) x23_2) ≤ (rd (rd_L1 l0 (ji16)) x23_2)) = false := decide_eq_false c20
                                      clear c20
                                      by_cases c21 : x23_2 > 0
                                      · rw [if_pos c21] at H
                                        have c21b0 : decide (0 < x23_2) = true := decide_eq_true c21
                                        clear c21
                                        obtain ⟨ji22, hji22⟩ : ∃ j_ : Int, (wrap64 (x23_2 - 1)) = j_ := ⟨_, rfl⟩
                                        replace H : (if 0 ≤ (ji22) then (if (ji22) < ((rd_L1 l0 x19_1).length : Int) then (if (rd (rd_L1 l0 x19_1) x23_2) ≤ (rd (rd_L1 l0 x19_1) (ji22)) then (some false) else (if 0 ≤ (rd (rd_L1 l0 x19_1) x23_2) then (impl_IsTableau.l1 k2 l0 t372 t373 (Go.bits .or .i64 x6_2 (shl .i64 1 (rd (rd_L1 l0 x19_1) x23_2))) x19_1 t372 x19_1 t373 (wrap64 (x23_2 + 1))) else (none))) else (none)) else (none)) = some r := by first | (rw [hji22] at H; exact H) | (simp only [hji22] at H ⊢; exact H)
                                        (try rw [hji22] at A11)
                                        (try rw [hji22] at A13)
                                        have hji22w : (IntKind.i64.wrap (x23_2 - 1)) = ji22 := (i64_w _).trans hji22
                                        by_cases c23 : 0 ≤ (ji22)
                                        · rw [if_pos c23] at H
                                          have c23b0 : decide (0 ≤ (ji22)) = true := decide_eq_true c23
                                          clear c23
                                          by_cases c24 : (ji22) < ((rd_L1 l0 x19_1).length : Int)
                                          · rw [if_pos c24] at H
                                            have c24b0 : decide ((ji22) < ((rd_L1 l0 x19_1).length : Int)) = true := decide_eq_true c24
                                            clear c24
                                            by_cases c25 : (rd (rd_L1 l0 x19_1) x23_2) ≤ (rd (rd_L1 l0 x19_1) (ji22))
                                            · rw [if_pos c25] at H
                                              have c25b0 : decide ((rd (rd_L1 l0 x19_1) x23_2) ≤ (rd (rd_L1 l0 x19_1) (ji22))) = true := decide_eq_true c25
                                              clear c25
                                              obtain rfl := Option.some.inj H
                                              have p375 : 0 ≤ (x19_1 : Int) := of_decide_eq_true (by first | (with_reducible assumption) | assumption)
                                              have q375 : x19_1 < (l0.length : Int) := of_decide_eq_true (by first | (with_reducible assumption) | assumption)
                                              obtain ⟨ad375, A375_0, c375_0, e375, hx375_0, hl375_0, hi375_0⟩ := at_L1 HR0.out x19_1 p375 q375
                                              cases e375
                                              replace hx375_0 := (HB.out.cell (World.block_lt_of_cell? w _ hx375_0)).trans hx375_0
                                              have HR375_0 := Aside0.mk hi375_0
                                              have HC375_0 := Aside0.mk hl375_0
                                              clear hi375_0 hl375_0
                                              replace p375 := eq_true p375
                                              replace q375 := eq_true q375
                                              have p376 : 0 ≤ (x23_2 : Int) := of_decide_eq_true (by first | (with_reducible assumption) | assumption)
                                              have q376 : x23_2 < ((rd_L1 l0 x19_1).length : Int) := of_decide_eq_true (by first | (with_reducible assumption) | assumption)
                                              obtain ⟨ad376, e376, hx376_0⟩ := Kd.at_int HR375_0.out x23_2 p376 q376
                                              cases e376
                                              replace hx376_0 := (HB.out.cell (World.block_lt_of_cell? w _ hx376_0)).trans hx376_0
                                              replace p376 := eq_true p376
                                              replace q376 := eq_true q376
                                              go_wp2_with (first | ((with_reducible refine gate_callee (f := 67) rfl ?_); refine goesL_ (some 38) rfl rfl Try.func67 (by kernel_rfl) rfl #[.int .i64 (rd (rd_L1 l0 x19_1) x23_2), .int .i64 0, .int .i64 (wrap64 ((wrap64 (t372 * t373)) - 1))] rfl (by (try simp only [List.map_toArray, List.map_cons, List.map_nil]); first | done | rfl | (simp only [List.length_drop, List.length_take]; rfl)) ?_; (with_reducible refine (impl_within.calls (rd (rd_L1 l0 x19_1) x23_2) 0 (wrap64 ((wrap64 (t372 * t373)) - 1)) true _ A11.out).mono ?_); rintro e w' ⟨rfl, ⟨nd, rfl⟩⟩; refine ⟨_, rfl, ?_⟩) | (go_at_call 92; (with_reducible refine (impl_has.calls x6_2 (rd (rd_L1 l0 x19_1) x23_2) false _ A13.out).mono ?_); rintro e w' ⟨rfl, ⟨nd, rfl⟩⟩; have p379 : 0 ≤ ((ji16) : Int) := of_decide_eq_true (by first | (with_reducible assumption) | assumption); have q379 : (ji16) < (l0.length : Int) := of_decide_eq_true (by first | (with_reducible assumption) | assumption); obtain ⟨ad379, A379_0, c379_0, e379, hx379_0, hl379_0, hi379_0⟩ := at_L1 HR0.out (ji16) p379 q379; obtain rfl : ad375 = ad379 := (by injection e379); replace hx379_0 := (HB.out.cell (World.block_lt_of_cell? w _ hx379_0)).trans hx379_0; have HR379_0 := Aside0.mk hi379_0; have HC379_0 := Aside0.mk hl379_0; clear hi379_0 hl379_0; replace p379 := eq_true p379; replace q379 := eq_true q379; have p380 : 0 ≤ (x23_2 : Int) := of_decide_eq_true (by first | (with_reducible assumption) | assumption); have q380 : x23_2 < ((rd_L1 l0 (ji16)).length : Int) := of_decide_eq_true (by first | (with_reducible assumption) | assumption); obtain ⟨ad380, e380, hx380_0⟩ := Kd.at_int HR379_0.out x23_2 p380 q380; cases e380; replace hx380_0 := (HB.out.cell (World.block_lt_of_cell? w _ hx380_0)).trans hx380_0; replace p380 := eq_true p380; replace q380 := eq_true q380; have p381 : 0 ≤ (x19_1 : Int) := of_decide_eq_true (by first | (with_reducible assumption) | assumption); have q381 : x19_1 < (l0.length : Int) := of_decide_eq_true (by first | (with_reducible assumption) | assumption); obtain ⟨ad381, A381_0, c381_0, e381, hx381_0, hl381_0, hi381_0⟩ := at_L1 HR0.out x19_1 p381 q381; obtain rfl : ad375 = ad381 := (by injection e381); replace hx381_0 := (HB.out.cell (World.block_lt_of_cell? w _ hx381_0)).trans hx381_0; have HR381_0 := Aside0.mk hi381_0; have HC381_0 := Aside0.mk hl381_0; clear hi381_0 hl381_0; replace p381 := eq_true p381; replace q381 := eq_true q381; have ea_ := Option.some.inj (hx375_0.symm.trans hx381_0); injection ea_ with ea_ en_ ec_; subst ea_; subst ec_; clear en_; have p382 : 0 ≤ ((ji22) : Int) := of_decide_eq_true (by first | (with_reducible assumption) | assumption); have q382 : (ji22) < ((rd_L1 l0 x19_1).length : Int) := of_decide_eq_true (by first | (with_reducible assumption) | assumption); obtain ⟨ad382, e382, hx382_0⟩ := Kd.at_int HR381_0.out (ji22) p382 q382; cases e382; replace hx382_0 := (HB.out.cell (World.block_lt_of_cell? w _ hx382_0)).trans hx382_0; replace p382 := eq_true p382; replace q382 := eq_true q382))
                                              go_ret
                                              exact ⟨by first | rfl | (simp [errW_none, errW_some] <;> rfl) | (simp only [← hji16, ← hji22]; first | rfl | (simp [errW_none, errW_some] <;> rfl)) | (simp [*, errW_none, errW_some] <;> rfl), by repeat (first | (with_reducible first | exact HB.out | apply below_alloc | apply pw_below_drewN | apply below_drew1) | exact HB.out)⟩
                                            · rw [if_neg c25] at H
                                              have c25b0 : decide ((rd (rd_L1 l0 x19_1) x23_2) ≤ (rd (rd_L1 l0 x19_1) (ji22))) = false := decide_eq_false c25
                                              clear c25
                                              by_cases c26 : 0 ≤ (rd (rd_L1 l0 x19_1) x23_2)
                                              · rw [if_pos c26] at H
                                                have c26b0 := eq_true c26
                                                have c26b1 : decide (0 ≤ (rd (rd_L1 l0 x19_1) x23_2)) = true := decide_eq_true c26
                                                clear c26
                                                obtain ⟨ji27, hji27⟩ : ∃ j_ : Int, (shl .i64 1 (rd (rd_L1 l0 x19_1) x23_2)) = j_ := ⟨_, rfl⟩
                                                replace H : (impl_IsTableau.l1 k2 l0 t372 t373 (Go.bits .or .i64 x6_2 (ji27)) x19_1 t372 x19_1 t373 (wrap64 (x23_2 + 1))) = some r := by first | (rw [hji27] at H; exact H) | (simp only [hji27] at H ⊢; exact H)
                                                (try rw [hji27] at A11)
                                                (try rw [hji27] at A13)
                                                have hji27_ : (IntKind.i64.wrap (1 * 2 ^ min (rd (rd_L1 l0 x19_1) x23_2).toNat 64)) = ji27 := hji27
                                                have hji27z : (rd (rd_L1 l0 x19_1) x23_2) ≤ 64 → (IntKind.i64.wrap (1 * 2 ^ (rd (rd_L1 l0 x19_1) x23_2).toNat)) = ji27 := shl_small hji27
                                                have hji27u : (IntKind.i64.wrap (2 ^ min (rd (rd_L1 l0 x19_1) x23_2).toNat 64)) = ji27 := by have h_ := hji27_; rw [Int.one_mul] at h_; exact h_
                                                have hji27v : (rd (rd_L1 l0 x19_1) x23_2) ≤ 64 → (IntKind.i64.wrap (2 ^ (rd (rd_L1 l0 x19_1) x23_2).toNat)) = ji27 := fun hle_ => by have h_ := hji27z hle_; rw [Int.one_mul] at h_; exact h_
                                                have hji27y : (wrap64 (1 * 2 ^ min (rd (rd_L1 l0 x19_1) x23_2).toNat 64)) = ji27 := (i64_w _).symm.trans hji27_
                                                have hji27x : (rd (rd_L1 l0 x19_1) x23_2) ≤ 64 → (wrap64 (1 * 2 ^ (rd (rd_L1 l0 x19_1) x23_2).toNat)) = ji27 := fun h_ => (i64_w _).symm.trans (hji27z h_)
                                                have H' := Aside0.mk H
                                                clear H
                                                have p375 : 0 ≤ (x19_1 : Int) := of_decide_eq_true (by first | (with_reducible assumption) | assumption)
                                                have q375 : x19_1 < (l0.length : Int) := of_decide_eq_true (by first | (with_reducible assumption) | assumption)
                                                obtain ⟨ad375, A375_0, c375_0, e375, hx375_0, hl375_0, hi375_0⟩ := at_L1 HR0.out x19_1 p375 q375
                                                cases e375
                                                replace hx375_0 := (HB.out.cell (World.block_lt_of_cell? w _ hx375_0)).trans hx375_0
                                                have HR375_0 := Aside0.mk hi375_0
                                                have HC375_0 := Aside0.mk hl375_0
                                                clear hi375_0 hl375_0
                                                replace p375 := eq_true p375
                                                replace q375 := eq_true q375
                                                have p376 : 0 ≤ (x23_2 : Int) := of_decide_eq_true (by first | (with_reducible assumption) | assumption)
                                                have q376 : x23_2 < ((rd_L1 l0 x19_1).length : Int) := of_decide_eq_true (by first | (with_reducible assumption) | assumption)
                                                obtain ⟨ad376, e376, hx376_0⟩ := Kd.at_int HR375_0.out x23_2 p376 q376
                                                cases e376
                                                replace hx376_0 := (HB.out.cell (World.block_lt_of_cell? w _ hx376_0)).trans hx376_0
                                                replace p376 := eq_true p376
                                                replace q376 := eq_true q376
                                                go_wp2_with (first | ((with_reducible refine gate_callee (f := 67) rfl ?_); refine goesL_ (some 38) rfl rfl Try.func67 (by kernel_rfl) rfl #[.int .i64 (rd (rd_L1 l0 x19_1) x23_2), .int .i64 0, .int .i64 (wrap64 ((wrap64 (t372 * t373)) - 1))] rfl (by (try simp only [List.map_toArray, List.map_cons, List.map_nil]); first | done | rfl | (simp only [List.length_drop, List.length_take]; rfl)) ?_; (with_reducible refine (impl_within.calls (rd (rd_L1 l0 x19_1) x23_2) 0 (wrap64 ((wrap64 (t372 * t373)) - 1)) true _ A11.out).mono ?_); rintro e w' ⟨rfl, ⟨nd, rfl⟩⟩; refine ⟨_, rfl, ?_⟩) | (go_at_call 92; (with_reducible refine (impl_has.calls x6_2 (rd (rd_L1 l0 x19_1) x23_2) false _ A13.out).mono ?_); rintro e w' ⟨rfl, ⟨nd, rfl⟩⟩; have p379 : 0 ≤ ((ji16) : Int) := of_decide_eq_true (by first | (with_reducible assumption) | assumption); have q379 : (ji16) < (l0.length : Int) := of_decide_eq_true (by first | (with_reducible assumption) | assumption); obtain ⟨ad379, A379_0, c379_0, e379, hx379_0, hl379_0, hi379_0⟩ := at_L1 HR0.out (ji16) p379 q379; obtain rfl : ad375 = ad379 := (by injection e379); replace hx379_0 := (HB.out.cell (World.block_lt_of_cell? w _ hx379_0)).trans hx379_0; have HR379_0 := Aside0.mk hi379_0; have HC379_0 := Aside0.mk hl379_0; clear hi379_0 hl379_0; replace p379 := eq_true p379; replace q379 := eq_true q379; have p380 : 0 ≤ (x23_2 : Int) := of_decide_eq_true (by first | (with_reducible assumption) | assumption); have q380 : x23_2 < ((rd_L1 l0 (ji16)).length : Int) := of_decide_eq_true (by first | (with_reducible assumption) | assumption); obtain ⟨ad380, e380, hx380_0⟩ := Kd.at_int HR379_0.out x23_2 p380 q380; cases e380; replace hx380_0 := (HB.out.cell (World.block_lt_of_cell? w _ hx380_0)).trans hx380_0; replace p380 := eq_true p380; replace q380 := eq_true q380; have p381 : 0 ≤ (x19_1 : Int) := of_decide_eq_true (by first | (with_reducible assumption) | assumption); have q381 : x19_1 < (l0.length : Int) := of_decide_eq_true (by first | (with_reducible assumption) | assumption); obtain ⟨ad381, A381_0, c381_0, e381, hx381_0, hl381_0, hi381_0⟩ := at_L1 HR0.out x19_1 p381 q381; obtain rfl : ad375 = ad381 := (by injection e381); replace hx381_0 := (HB.out.cell (World.block_lt_of_cell? w _ hx381_0)).trans hx381_0; have HR381_0 := Aside0.mk hi381_0; have HC381_0 := Aside0.mk hl381_0; clear hi381_0 hl381_0; replace p381 := eq_true p381; replace q381 := eq_true q381; have ea_ := Option.some.inj (hx375_0.symm.trans hx381_0); injection ea_ with ea_ en_ ec_; subst ea_; subst ec_; clear en_; have p382 : 0 ≤ ((ji22) : Int) := of_decide_eq_true (by first | (with_reducible assumption) | assumption); have q382 : (ji22) < ((rd_L1 l0 x19_1).length : Int) := of_decide_eq_true (by first | (with_reducible assumption) | assumption); obtain ⟨ad382, e382, hx382_0⟩ := Kd.at_int HR381_0.out (ji22) p382 q382; cases e382; replace hx382_0 := (HB.out.cell (World.block_lt_of_cell? w _ hx382_0)).trans hx382_0; replace p382 := eq_true p382; replace q382 := eq_true q382))
                                                go_roundg k2
                                                case measure => have := HK1.out; have := HK2.out; omega
                                                case rel => exact ⟨(Go.bits .or .i64 x6_2 (ji27)), (wrap64 (x23_2 + 1)), (by first | rfl | (simp; done) | (simp only [← hji27] <;> (first | rfl | simp)) | (simp [*]; done)), (by first | rfl | (simp; done) | (simp [*]; done)), H', ⟨by have := HK1.out; have := HK2.out; omega⟩, ⟨by repeat (first | (with_reducible first | exact HB.out | apply below_alloc | apply pw_below_drewN | apply below_drew1) | exact HB.out)⟩⟩
                                              · rw [if_neg c26] at H
                                                exact absurd H (by simp)
                                          · rw [if_neg c24] at H
                                            exact absurd H (by simp)
                                        · rw [if_neg c23] at H
                                          exact absurd H (by simp)
                                      · rw [if_neg c21] at H
                                        have c21b0 : decide (0 < x23_2) = false := decide_eq_false c21
                                        clear c21
                                        by_cases c28 : 0 ≤ (rd (rd_L1 l0 x19_1) x23_2)
                                        · rw [if_pos c28] at H
                                          have c28b0 := eq_true c28
                                          have c28b1 : decide (0 ≤ (rd (rd_L1 l0 x19_1) x23_2)) = true := decide_eq_true c28
                                          clear c28
                                          obtain ⟨ji29, hji29⟩ : ∃ j_ : Int, (shl .i64 1 (rd (rd_L1 l0 x19_1) x23_2)) = j_ := ⟨_, rfl⟩
                                          replace H : (impl_IsTableau.l1 k2 l0 t372 t373 (Go.bits .or .i64 x6_2 (ji29)) x19_1 t372 x19_1 t373 (wrap64 (x23_2 + 1))) = some r := by first | (rw [hji29] at H; exact H) | (simp only [hji29] at H ⊢; exact H)
                                          (try rw [hji29] at A11)
                                          (try rw [hji29] at A13)
                                          have hji29_ : (IntKind.i64.wrap (1 * 2 ^ min (rd (rd_L1 l0 x19_1) x23_2).toNat 64)) = ji29 := hji29
                                          have hji29z : (rd (rd_L1 l0 x19_1) x23_2) ≤ 64 → (IntKind.i64.wrap (1 * 2 ^ (rd (rd_L1 l0 x19_1) x23_2).toNat)) = ji29 := shl_small hji29
                                          have hji29u : (IntKind.i64.wrap (2 ^ min (rd (rd_L1 l0 x19_1) x23_2).toNat 64)) = ji29 := by have h_ := hji29_; rw [Int.one_mul] at h_; exact h_
                                          have hji29v : (rd (rd_L1 l0 x19_1) x23_2) ≤ 64 → (IntKind.i64.wrap (2 ^ (rd (rd_L1 l0 x19_1) x23_2).toNat)) = ji29 := fun hle_ => by have h_ := hji29z hle_; rw [Int.one_mul] at h_; exact h_
                                          have hji29y : (wrap64 (1 * 2 ^ min (rd (rd_L1 l0 x19_1) x23_2).toNat 64)) = ji29 := (i64_w _).symm.trans hji29_
                                          have hji29x : (rd (rd_L1 l0 x19_1) x23_2) ≤ 64 → (wrap64 (1 * 2 ^ (rd (rd_L1 l0 x19_1) x23_2).toNat)) = ji29 := fun h_ => (i64_w _).symm.trans (hji29z h_)
                                          have H' := Aside0.mk H
                                          clear H
                                          have p375 : 0 ≤ (x19_1 : Int) := of_decide_eq_true (by first | (with_reducible assumption) | assumption)
                                          have q375 : x19_1 < (l0.length : Int) := of_decide_eq_true (by first | (with_reducible assumption) | assumption)
                                          obtain ⟨ad375, A375_0, c375_0, e375, hx375_0, hl375_0, hi375_0⟩ := at_L1 HR0.out x19_1 p375 q375
                                          cases e375
                                          replace hx375_0 := (HB.out.cell (World.block_lt_of_cell? w _ hx375_0)).trans hx375_0
                                          have HR375_0 := Aside0.mk hi375_0
                                          have HC375_0 := Aside0.mk hl375_0
                                          clear hi375_0 hl375_0
                                          replace p375 := eq_true p375
                                          replace q375 := eq_true q375
                                          have p376 : 0 ≤ (x23_2 : Int) := of_decide_eq_true (by first | (with_reducible assumption) | assumption)
                                          have q376 : x23_2 < ((rd_L1 l0 x19_1).length : Int) := of_decide_eq_true (by first | (with_reducible assumption) | assumption)
                                          obtain ⟨ad376, e376, hx376_0⟩ := Kd.at_int HR375_0.out x23_2 p376 q376
                                          cases e376
                                          replace hx376_0 := (HB.out.cell (World.block_lt_of_cell? w _ hx376_0)).trans hx376_0
                                          replace p376 := eq_true p376
                                          replace q376 := eq_true q376
                                          go_wp2_with (first | ((with_reducible refine gate_callee (f := 67) rfl ?_); refine goesL_ (some 38) rfl rfl Try.func67 (by kernel_rfl) rfl #[.int .i64 (rd (rd_L1 l0 x19_1) x23_2), .int .i64 0, .int .i64 (wrap64 ((wrap64 (t372 * t373)) - 1))] rfl (by (try simp only [List.map_toArray, List.map_cons, List.map_nil]); first | done | rfl | (simp only [List.length_drop, List.length_take]; rfl)) ?_; (with_reducible refine (impl_within.calls (rd (rd_L1 l0 x19_1) x23_2) 0 (wrap64 ((wrap64 (t372 * t373)) - 1)) true _ A11.out).mono ?_); rintro e w' ⟨rfl, ⟨nd, rfl⟩⟩; refine ⟨_, rfl, ?_⟩) | (go_at_call 92; (with_reducible refine (impl_has.calls x6_2 (rd (rd_L1 l0 x19_1) x23_2) false _ A13.out).mono ?_); rintro e w' ⟨rfl, ⟨nd, rfl⟩⟩; have p379 : 0 ≤ ((ji16) : Int) := of_decide_eq_true (by first | (with_reducible assumption) | assumption); have q379 : (ji16) < (l0.length : Int) := of_decide_eq_true (by first | (with_reducible assumption) | assumption); obtain ⟨ad379, A379_0, c379_0, e379, hx379_0, hl379_0, hi379_0⟩ := at_L1 HR0.out (ji16) p379 q379; obtain rfl : ad375 = ad379 := (by injection e379); replace hx379_0 := (HB.out.cell (World.block_lt_of_cell? w _ hx379_0)).trans hx379_0; have HR379_0 := Aside0.mk hi379_0; have HC379_0 := Aside0.mk hl379_0; clear hi379_0 hl379_0; replace p379 := eq_true p379; replace q379 := eq_true q379; have p380 : 0 ≤ (x23_2 : Int) := of_decide_eq_true (by first | (with_reducible assumption) | assumption); have q380 : x23_2 < ((rd_L1 l0 (ji16)).length : Int) := of_decide_eq_true (by first | (with_reducible assumption) | assumption); obtain ⟨ad380, e380, hx380_0⟩ := Kd.at_int HR379_0.out x23_2 p380 q380; cases e380; replace hx380_0 := (HB.out.cell (World.block_lt_of_cell? w _ hx380_0)).trans hx380_0; replace p380 := eq_true p380; replace q380 := eq_true q380))
                                          go_roundg k2
                                          case measure => have := HK1.out; have := HK2.out; omega
                                          case rel => exact ⟨(Go.bits .or .i64 x6_2 (ji29)), (wrap64 (x23_2 + 1)), (by first | rfl | (simp; done) | (simp only [← hji29] <;> (first | rfl | simp)) | (simp [*]; done)), (by first | rfl | (simp; done) | (simp [*]; done)), H', ⟨by have := HK1.out; have := HK2.out; omega⟩, ⟨by repeat (first | (with_reducible first | exact HB.out | apply below_alloc | apply pw_below_drewN | apply below_drew1) | exact HB.out)⟩⟩
                                        · rw [if_neg c28] at H
                                          exact absurd H (by simp)
                                  · rw [if_neg c19] at H
                                    exact absurd H (by simp)
                                · rw [if_neg c18] at H
                                  exact absurd H (by simp)
                              · rw [if_neg c17] at H
                                exact absurd H (by simp)
                            · rw [if_neg c15] at H
                              have c15b0 : decide (0 < x19_1) = false := decide_eq_false c15
                              clear c15
                              by_cases c30 : x23_2 > 0
                              · rw [if_pos c30] at H
                                have c30b0 : decide (0 < x23_2) = true := decide_eq_true c30
                                clear c30
                                obtain ⟨ji31, hji31⟩ : ∃ j_ : Int, (wrap64 (x23_2 - 1)) = j_ := ⟨_, rfl⟩
                                replace H : (if 0 ≤ (ji31) then (if (ji31) < ((rd_L1 l0 x19_1).length : Int) then (if (rd (rd_L1 l0 x19_1) x23_2) ≤ (rd (rd_L1 l0 x19_1) (ji31)) then (some false) else (if 0 ≤ (rd (rd_L1 l0 x19_1) x23_2) then (impl_IsTableau.l1 k2 l0 t372 t373 (Go.bits .or .i64 x6_2 (shl .i64 1 (rd (rd_L1 l0 x19_1) x23_2))) x19_1 t372 x19_1 t373 (wrap64 (x23_2 + 1))) else (none))) else (none)) else (none)) = some r := by first | (rw [hji31] at H; exact H) | (simp only [hji31] at H ⊢; exact H)
                                (try rw [hji31] at A11)
                                (try rw [hji31] at A13)
                                have hji31w : (IntKind.i64.wrap (x23_2 - 1)) = ji31 := (i64_w _).trans hji31
                                by_cases c32 : 0 ≤ (ji31)
                                · rw [if_pos c32] at H
                                  have c32b0 : decide (0 ≤ (ji31)) = true := decide_eq_true c32
                                  clear c32
                                  by_cases c33 : (ji31) < ((rd_L1 l0 x19_1).length : Int)
                                  · rw [if_pos c33] at H
                                    have c33b0 : decide ((ji31) < ((rd_L1 l0 x19_1).length : Int)) = true := decide_eq_true c33
                                    clear c33
                                    by_cases c34 : (rd (rd_L1 l0 x19_1) x23_2) ≤ (rd (rd_L1 l0 x19_1) (ji31))
                                    · rw [if_pos c34] at H
                                      have c34b0 : decide ((rd (rd_L1 l0 x19_1) x23_2) ≤ (rd (rd_L1 l0 x19_1) (ji31))) = true := decide_eq_true c34
                                      clear c34
                                      obtain rfl := Option.some.inj H
                                      have p375 : 0 ≤ (x19_1 : Int) := of_decide_eq_true (by first | (with_reducible assumption) | assumption)
                                      have q375 : x19_1 < (l0.length : Int) := of_decide_eq_true (by first | (with_reducible assumption) | assumption)
                                      obtain ⟨ad375, A375_0, c375_0, e375, hx375_0, hl375_0, hi375_0⟩ := at_L1 HR0.out x19_1 p375 q375
                                      cases e375
                                      replace hx375_0 := (HB.out.cell (World.block_lt_of_cell? w _ hx375_0)).trans hx375_0
                                      have HR375_0 := Aside0.mk hi375_0
                                      have HC375_0 := Aside0.mk hl375_0
                                      clear hi375_0 hl375_0
                                      replace p375 := eq_true p375
                                      replace q375 := eq_true q375
                                      have p376 : 0 ≤ (x23_2 : Int) := of_decide_eq_true (by first | (with_reducible assumption) | assumption)
                                      have q376 : x23_2 < ((rd_L1 l0 x19_1).length : Int) := of_decide_eq_true (by first | (with_reducible assumption) | assumption)
                                      obtain ⟨ad376, e376, hx376_0⟩ := Kd.at_int HR375_0.out x23_2 p376 q376
                                      cases e376
                                      replace hx376_0 := (HB.out.cell (World.block_lt_of_cell? w _ hx376_0)).trans hx376_0
                                      replace p376 := eq_true p376
                                      replace q376 := eq_true q376
                                      go_wp2_with (first | ((with_reducible refine gate_callee (f := 67) rfl ?_); refine goesL_ (some 38) rfl rfl Try.func67 (by kernel_rfl) rfl #[.int .i64 (rd (rd_L1 l0 x19_1) x23_2), .int .i64 0, .int .i64 (wrap64 ((wrap64 (t372 * t373)) - 1))] rfl (by (try simp only [List.map_toArray, List.map_cons, List.map_nil]); first | done | rfl | (simp only [List.length_drop, List.length_take]; rfl)) ?_; (with_reducible refine (impl_within.calls (rd (rd_L1 l0 x19_1) x23_2) 0 (wrap64 ((wrap64 (t372 * t373)) - 1)) true _ A11.out).mono ?_); rintro e w' ⟨rfl, ⟨nd, rfl⟩⟩; refine ⟨_, rfl, ?_⟩) | (go_at_call 92; (with_reducible refine (impl_has.calls x6_2 (rd (rd_L1 l0 x19_1) x23_2) false _ A13.out).mono ?_); rintro e w' ⟨rfl, ⟨nd, rfl⟩⟩; have p383 : 0 ≤ (x19_1 : Int) := of_decide_eq_true (by first | (with_reducible assumption) | assumption); have q383 : x19_1 < (l0.length : Int) := of_decide_eq_true (by first | (with_reducible assumption) | assumption); obtain ⟨ad383, A383_0, c383_0, e383, hx383_0, hl383_0, hi383_0⟩ := at_L1 HR0.out x19_1 p383 q383; obtain rfl : ad375 = ad383 := (by injection e383); replace hx383_0 := (HB.out.cell (World.block_lt_of_cell? w _ hx383_0)).trans hx383_0; have HR383_0 := Aside0.mk hi383_0; have HC383_0 := Aside0.mk hl383_0; clear hi383_0 hl383_0; replace p383 := eq_true p383; replace q383 := eq_true q383; have ea_ := Option.some.inj (hx375_0.symm.trans hx383_0); injection ea_ with ea_ en_ ec_; subst ea_; subst ec_; clear en_; have p384 : 0 ≤ ((ji31) : Int) := of_decide_eq_true (by first | (with_reducible assumption) | assumption); have q384 : (ji31) < ((rd_L1 l0 x19_1).length : Int) := of_decide_eq_true (by first | (with_reducible assumption) | assumption); obtain ⟨ad384, e384, hx384_0⟩ := Kd.at_int HR383_0.out (ji31) p384 q384; cases e384; replace hx384_0 := (HB.out.cell (World.block_lt_of_cell? w _ hx384_0)).trans hx384_0; replace p384 := eq_true p384; replace q384 := eq_true q384))
                                      go_ret
                                      exact ⟨by first | rfl | (simp [errW_none, errW_some] <;> rfl) | (simp only [← hji31]; first | rfl | (simp [errW_none, errW_some] <;> rfl)) | (simp [*, errW_none, errW_some] <;> rfl), by repeat (first | (with_reducible first | exact HB.out | apply below_alloc | apply pw_below_drewN | apply below_drew1) | exact HB.out)⟩
                                    · rw [if_neg c34] at H
                                      have c34b0 : decide ((rd (rd_L1 l0 x19_1) x23_2) ≤ (rd (rd_L1 l0 x19_1) (ji31))) = false := decide_eq_false c34
                                      clear c34
                                      by_cases c35 : 0 ≤ (rd (rd_L1 l0 x19_1) x23_2)
                                      · rw [if_pos c35] at H
                                        have c35b0 := eq_true c35
                                        have c35b1 : decide (0 ≤ (rd (rd_L1 l0 x19_1) x23_2)) = true := decide_eq_true c35
                                        clear c35
                                        obtain ⟨ji36, hji36⟩ : ∃ j_ : Int, (shl .i64 1 (rd (rd_L1 l0 x19_1) x23_2)) = j_ := ⟨_, rfl⟩
                                        replace H : (impl_IsTableau.l1 k2 l0 t372 t373 (Go.bits .or .i64 x6_2 (ji36)) x19_1 t372 x19_1 t373 (wrap64 (x23_2 + 1))) = some r := by first | (rw [hji36] at H; exact H) | (simp only [hji36] at H ⊢; exact H)
                                        (try rw [hji36] at A11)
                                        (try rw [hji36] at A13)
                                        have hji36_ : (IntKind.i64.wrap (1 * 2 ^ min (rd (rd_L1 l0 x19_1) x23_2).toNat 64)) = ji36 := hji36
                                        have hji36z : (rd (rd_L1 l0 x19_1) x23_2) ≤ 64 → (IntKind.i64.wrap (1 * 2 ^ (rd (rd_L1 l0 x19_1) x23_2).toNat)) = ji36 := shl_small hji36
                                        have hji36u : (IntKind.i64.wrap (2 ^ min (rd (rd_L1 l0 x19_1) x23_2).toNat 64)) = ji36 := by have h_ := hji36_; rw [Int.one_mul] at h_; exact h_
                                        have hji36v : (rd (rd_L1 l0 x19_1) x23_2) ≤ 64 → (IntKind.i64.wrap (2 ^ (rd (rd_L1 l0 x19_1) x23_2).toNat)) = ji36 := fun hle_ => by have h_ := hji36z hle_; rw [Int.one_mul] at h_; exact h_
                                        have hji36y : (wrap64 (1 * 2 ^ min (rd (rd_L1 l0 x19_1) x23_2).toNat 64)) = ji36 := (i64_w _).symm.trans hji36_
                                        have hji36x : (rd (rd_L1 l0 x19_1) x23_2) ≤ 64 → (wrap64 (1 * 2 ^ (rd (rd_L1 l0 x19_1) x23_2).toNat)) = ji36 := fun h_ => (i64_w _).symm.trans (hji36z h_)
                                        have H' := Aside0.mk H
                                        clear H
                                        have p375 : 0 ≤ (x19_1 : Int) := of_decide_eq_true (by first | (with_reducible assumption) | assumption)
                                        have q375 : x19_1 < (l0.length : Int) := of_decide_eq_true (by first | (with_reducible assumption) | assumption)
                                        obtain ⟨ad375, A375_0, c375_0, e375, hx375_0, hl375_0, hi375_0⟩ := at_L1 HR0.out x19_1 p375 q375
                                        cases e375
                                        replace hx375_0 := (HB.out.cell (World.block_lt_of_cell? w _ hx375_0)).trans hx375_0
                                        have HR375_0 := Aside0.mk hi375_0
                                        have HC375_0 := Aside0.mk hl375_0
                                        clear hi375_0 hl375_0
                                        replace p375 := eq_true p375
                                        replace q375 := eq_true q375
                                        have p376 : 0 ≤ (x23_2 : Int) := of_decide_eq_true (by first | (with_reducible assumption) | assumption)
                                        have q376 : x23_2 < ((rd_L1 l0 x19_1).length : Int) := of_decide_eq_true (by first | (with_reducible assumption) | assumption)
                                        obtain ⟨ad376, e376, hx376_0⟩ := Kd.at_int HR375_0.out x23_2 p376 q376
                                        cases e376
                                        replace hx376_0 := (HB.out.cell (World.block_lt_of_cell? w _ hx376_0)).trans hx376_0
                                        replace p376 := eq_true p376
                                        replace q376 := eq_true q376
                                        go_wp2_with (first | ((with_reducible refine gate_callee (f := 67) rfl ?_); refine goesL_ (some 38) rfl rfl Try.func67 (by kernel_rfl) rfl #[.int .i64 (rd (rd_L1 l0 x19_1) x23_2), .int .i64 0, .int .i64 (wrap64 ((wrap64 (t372 * t373)) - 1))] rfl (by (try simp only [List.map_toArray, List.map_cons, List.map_nil]); first | done | rfl | (simp only [List.length_drop, List.length_take]; rfl)) ?_; (with_reducible refine (impl_within.calls (rd (rd_L1 l0 x19_1) x23_2) 0 (wrap64 ((wrap64 (t372 * t373)) - 1)) true _ A11.out).mono ?_); rintro e w' ⟨rfl, ⟨nd, rfl⟩⟩; refine ⟨_, rfl, ?_⟩) | (go_at_call 92; (with_reducible refine (impl_has.calls x6_2 (rd (rd_L1 l0 x19_1) x23_2) false _ A13.out).mono ?_); rintro e w' ⟨rfl, ⟨nd, rfl⟩⟩; have p383 : 0 ≤ (x19_1 : Int) := of_decide_eq_true (by first | (with_reducible assumption) | assumption); have q383 : x19_1 < (l0.length : Int) := of_decide_eq_true (by first | (with_reducible assumption) | assumption); obtain ⟨ad383, A383_0, c383_0, e383, hx383_0, hl383_0, hi383_0⟩ := at_L1 HR0.out x19_1 p383 q383; obtain rfl : ad375 = ad383 := (by injection e383); replace hx383_0 := (HB.out.cell (World.block_lt_of_cell? w _ hx383_0)).trans hx383_0; have HR383_0 := Aside0.mk hi383_0; have HC383_0 := Aside0.mk hl383_0; clear hi383_0 hl383_0; replace p383 := eq_true p383; replace q383 := eq_true q383; have ea_ := Option.some.inj (hx375_0.symm.trans hx383_0); injection ea_ with ea_ en_ ec_; subst ea_; subst ec_; clear en_; have p384 : 0 ≤ ((ji31) : Int) := of_decide_eq_true (by first | (with_reducible assumption) | assumption); have q384 : (ji31) < ((rd_L1 l0 x19_1).length : Int) := of_decide_eq_true (by first | (with_reducible assumption) | assumption); obtain ⟨ad384, e384, hx384_0⟩ := Kd.at_int HR383_0.out (ji31) p384 q384; cases e384; replace hx384_0 := (HB.out.cell (World.block_lt_of_cell? w _ hx384_0)).trans hx384_0; replace p384 := eq_true p384; replace q384 := eq_true q384))
                                        go_roundg k2
                                        case measure => have := HK1.out; have := HK2.out; omega
                                        case rel => exact ⟨(Go.bits .or .i64 x6_2 (ji36)), (wrap64 (x23_2 + 1)), (by first | rfl | (simp; done) | (simp only [← hji36] <;> (first | rfl | simp)) | (simp [*]; done)), (by first | rfl | (simp; done) | (simp [*]; done)), H', ⟨by have := HK1.out; have := HK2.out; omega⟩, ⟨by repeat (first | (with_reducible first | exact HB.out | apply below_alloc | apply pw_below_drewN | apply below_drew1) | exact HB.out)⟩⟩
                                      · rw [if_neg c35] at H
                                        exact absurd H (by simp)
                                  · rw [if_neg c33] at H
                                    exact absurd H (by simp)
                                · rw [if_neg c32] at H
                                  exact absurd H (by simp)
                              · rw [if_neg c30] at H
                                have c30b0 : decide (0 < x23_2) = false := decide_eq_false c30
                                clear c30
                                by_cases c37 : 0 ≤ (rd (rd_L1 l0 x19_1) x23_2)
                                · rw [if_pos c37] at H
                                  have c37b0 := eq_true c37
                                  have c37b1 : decide (0 ≤ (rd (rd_L1 l0 x19_1) x23_2)) = true := decide_eq_true c37
                                  clear c37
                                  obtain ⟨ji38, hji38⟩ : ∃ j_ : Int, (shl .i64 1 (rd (rd_L1 l0 x19_1) x23_2)) = j_ := ⟨_, rfl⟩
                                  replace H : (impl_IsTableau.l1 k2 l0 t372 t373 (Go.bits .or .i64 x6_2 (ji38)) x19_1 t372 x19_1 t373 (wrap64 (x23_2 + 1))) = some r := by first | (rw [hji38] at H; exact H) | (simp only [hji38] at H ⊢; exact H)
                                  (try rw [hji38] at A11)
                                  (try rw [hji38] at A13)
                                  have hji38_ : (IntKind.i64.wrap (1 * 2 ^ min (rd (rd_L1 l0 x19_1) x23_2).toNat 64)) = ji38 := hji38
                                  have hji38z : (rd (rd_L1 l0 x19_1) x23_2) ≤ 64 → (IntKind.i64.wrap (1 * 2 ^ (rd (rd_L1 l0 x19_1) x23_2).toNat)) = ji38 := shl_small hji38
                                  have hji38u : (IntKind.i64.wrap (2 ^ min (rd (rd_L1 l0 x19_1) x23_2).toNat 64)) = ji38 := by have h_ := hji38_; rw [Int.one_mul] at h_; exact h_
                                  have hji38v : (rd (rd_L1 l0 x19_1) x23_2) ≤ 64 → (IntKind.i64.wrap (2 ^ (rd (rd_L1 l0 x19_1) x23_2).toNat)) = ji38 := fun hle_ => by have h_ := hji38z hle_; rw [Int.one_mul] at h_; exact h_
                                  have hji38y : (wrap64 (1 * 2 ^ min (rd (rd_L1 l0 x19_1) x23_2).toNat 64)) = ji38 := (i64_w _).symm.trans hji38_
                                  have hji38x : (rd (rd_L1 l0 x19_1) x23_2) ≤ 64 → (wrap64 (1 * 2 ^ (rd (rd_L1 l0 x19_1) x23_2).toNat)) = ji38 := fun h_ => (i64_w _).symm.trans (hji38z h_)
                                  have H' := Aside0.mk H
                                  clear H
                                  have p375 : 0 ≤ (x19_1 : Int) := of_decide_eq_true (by first | (with_reducible assumption) | assumption)
                                  have q375 : x19_1 < (l0.length : Int) := of_decide_eq_true (by first | (with_reducible assumption) | assumption)
                                  obtain ⟨ad375, A375_0, c375_0, e375, hx375_0, hl375_0, hi375_0⟩ := at_L1 HR0.out x19_1 p375 q375
                                  cases e375
                                  replace hx375_0 := (HB.out.cell (World.block_lt_of_cell? w _ hx375_0)).trans hx375_0
                                  have HR375_0 := Aside0.mk hi375_0
                                  have HC375_0 := Aside0.mk hl375_0
                                  clear hi375_0 hl375_0
                                  replace p375 := eq_true p375
                                  replace q375 := eq_true q375
                                  have p376 : 0 ≤ (x23_2 : Int) := of_decide_eq_true (by first | (with_reducible assumption) | assumption)
                                  have q376 : x23_2 < ((rd_L1 l0 x19_1).length : Int) := of_decide_eq_true (by first | (with_reducible assumption) | assumption)
                                  obtain ⟨ad376, e376, hx376_0⟩ := Kd.at_int HR375_0.out x23_2 p376 q376
                                  cases e376
                                  replace hx376_0 := (HB.out.cell (World.block_lt_of_cell? w _ hx376_0)).trans hx376_0
                                  replace p376 := eq_true p376
                                  replace q376 := eq_true q376
                                  go_wp2_with (first | ((with_reducible refine gate_callee (f := 67) rfl ?_); refine goesL_ (some 38) rfl rfl Try.func67 (by kernel_rfl) rfl #[.int .i64 (rd (rd_L1 l0 x19_1) x23_2), .int .i64 0, .int .i64 (wrap64 ((wrap64 (t372 * t373)) - 1))] rfl (by (try simp only [List.map_toArray, List.map_cons, List.map_nil]); first | done | rfl | (simp only [List.length_drop, List.length_take]; rfl)) ?_; (with_reducible refine (impl_within.calls (rd (rd_L1 l0 x19_1) x23_2) 0 (wrap64 ((wrap64 (t372 * t373)) - 1)) true _ A11.out).mono ?_); rintro e w' ⟨rfl, ⟨nd, rfl⟩⟩; refine ⟨_, rfl, ?_⟩) | (go_at_call 92; (with_reducible refine (impl_has.calls x6_2 (rd (rd_L1 l0 x19_1) x23_2) false _ A13.out).mono ?_); rintro e w' ⟨rfl, ⟨nd, rfl⟩⟩))
                                  go_roundg k2
                                  case measure => have := HK1.out; have := HK2.out; omega
                                  case rel => exact ⟨(Go.bits .or .i64 x6_2 (ji38)), (wrap64 (x23_2 + 1)), (by first | rfl | (simp; done) | (simp only [← hji38] <;> (first | rfl | simp)) | (simp [*]; done)), (by first | rfl | (simp; done) | (simp [*]; done)), H', ⟨by have := HK1.out; have := HK2.out; omega⟩, ⟨by repeat (first | (with_reducible first | exact HB.out | apply below_alloc | apply pw_below_drewN | apply below_drew1) | exact HB.out)⟩⟩
                                · rw [if_neg c37] at H
                                  exact absurd H (by simp)
                        · replace c12 := Bool.eq_false_iff.mpr c12
                          subst c12
                          have H1 : (some false) = some r := by rw [if_neg (show ¬ (false = true) by decide)] at H; exact H
                          clear H
                          have H := H1
                          clear H1
                          obtain rfl := Option.some.inj H
                          have p375 : 0 ≤ (x19_1 : Int) := of_decide_eq_true (by first | (with_reducible assumption) | assumption)
                          have q375 : x19_1 < (l0.length : Int) := of_decide_eq_true (by first | (with_reducible assumption) | assumption)
                          obtain ⟨ad375, A375_0, c375_0, e375, hx375_0, hl375_0, hi375_0⟩ := at_L1 HR0.out x19_1 p375 q375
                          cases e375
                          replace hx375_0 := (HB.out.cell (World.block_lt_of_cell? w _ hx375_0)).trans hx375_0
                          have HR375_0 := Aside0.mk hi375_0
                          have HC375_0 := Aside0.mk hl375_0
                          clear hi375_0 hl375_0
                          replace p375 := eq_true p375
                          replace q375 := eq_true q375
                          have p376 : 0 ≤ (x23_2 : Int) := of_decide_eq_true (by first | (with_reducible assumption) | assumption)
                          have q376 : x23_2 < ((rd_L1 l0 x19_1).length : Int) := of_decide_eq_true (by first | (with_reducible assumption) | assumption)
                          obtain ⟨ad376, e376, hx376_0⟩ := Kd.at_int HR375_0.out x23_2 p376 q376
                          cases e376
                          replace hx376_0 := (HB.out.cell (World.block_lt_of_cell? w _ hx376_0)).trans hx376_0
                          replace p376 := eq_true p376
                          replace q376 := eq_true q376
                          go_wp2_with (first | ((with_reducible refine gate_callee (f := 67) rfl ?_); refine goesL_ (some 38) rfl rfl Try.func67 (by kernel_rfl) rfl #[.int .i64 (rd (rd_L1 l0 x19_1) x23_2), .int .i64 0, .int .i64 (wrap64 ((wrap64 (t372 * t373)) - 1))] rfl (by (try simp only [List.map_toArray, List.map_cons, List.map_nil]); first | done | rfl | (simp only [List.length_drop, List.length_take]; rfl)) ?_; (with_reducible refine (impl_within.calls (rd (rd_L1 l0 x19_1) x23_2) 0 (wrap64 ((wrap64 (t372 * t373)) - 1)) false _ A11.out).mono ?_); rintro e w' ⟨rfl, ⟨nd, rfl⟩⟩; refine ⟨_, rfl, ?_⟩))
                          go_ret
                          exact ⟨by first | rfl | (simp [errW_none, errW_some] <;> rfl) | (simp [*, errW_none, errW_some] <;> rfl), by repeat (first | (with_reducible first | exact HB.out | apply below_alloc | apply pw_below_drewN | apply below_drew1) | exact HB.out)⟩
                      · rw [if_neg c10] at H
                        exact absurd H (by simp)
                    · rw [if_neg c9] at H
                      exact absurd H (by simp)
                  · rw [if_neg c8] at H
                    exact absurd H (by simp)
                · rw [if_neg c7] at H
                  exact absurd H (by simp)
              · rw [if_neg c6] at H
                have c6b0 : decide (x23_2 < t373) = false := decide_eq_false c6
                clear c6
                have H' := Aside0.mk H
                clear H
                go_wp2
                go_roundg k2
                case measure => have := HK1.out; have := HK2.out; omega
                case rel => exact ⟨(x6_2), (wrap64 (x19_1 + 1)), (by first | rfl | (simp; done) | (simp [*]; done)), (by first | rfl | (simp; done) | (simp [*]; done)), H', ⟨by have := HK1.out; have := HK2.out; omega⟩, ⟨by repeat (first | (with_reducible first | exact HB.out | apply below_alloc | apply pw_below_drewN | apply below_drew1) | exact HB.out)⟩⟩
        · rw [if_neg c5] at H
          have c5b0 : decide (x19_1 < t372) = false := decide_eq_false c5
          clear c5
          obtain rfl := Option.some.inj H
          go_wp2
          go_ret
          exact ⟨by first | rfl | (simp [errW_none, errW_some] <;> rfl) | (simp [*, errW_none, errW_some] <;> rfl), by repeat (first | (with_reducible first | exact HB.out | apply below_alloc | apply pw_below_drewN | apply below_drew1) | exact HB.out)⟩
  · replace c3 := Bool.eq_false_iff.mpr c3
    subst c3
    have H1 : (some false) = some r := by rw [if_neg (show ¬ (false = true) by decide)] at H; exact H
    clear H
    have H := H1
    clear H1
    obtain rfl := Option.some.inj H
    go_enter Try.func68, Try.ntmps68
    go_wp2_with (first | ((with_reducible refine gate_callee (f := 91) rfl ?_); refine goesL_ (some 12) rfl rfl Try.func91 (by kernel_rfl) rfl #[.slice A0 l0.length c0] rfl (by (try simp only [List.map_toArray, List.map_cons, List.map_nil]); first | done | rfl | (simp only [List.length_drop, List.length_take]; rfl)) ?_; (with_reducible refine (impl_sidesOf.calls _ _ l0 t372 t373 false _ ?side1 ?side2 A2.out).mono ?_); (case side1 => repeat (first | exact HR0.out | (with_reducible refine Kd.C_alloc ?_ _) | (with_reducible refine Kd.C_drewN ?_ _) | (with_reducible refine Kd.C_drew ?_))); (case side2 => exact HC0.out); rintro e w39 ⟨rfl, hb⟩; refine ⟨_, rfl, ?_⟩; have n0_ := Aside0.mk (below_step (by repeat (first | (with_reducible first | exact HB.out | apply below_alloc | apply pw_below_drewN | apply below_drew1) | exact HB.out)) hb); clear HB; have HB := n0_; clear n0_; (try clear hb); (try clear hb2); (try clear hk); (try clear hi)))
    go_ret
    exact ⟨by first | rfl | (simp [errW_none, errW_some] <;> rfl) | (simp [*, errW_none, errW_some] <;> rfl), by repeat (first | (with_reducible first | exact HB.out | apply below_alloc | apply pw_below_drewN | apply below_drew1) | exact HB.out)⟩

end Go.Proofs.Ytfahkoimleiknaa.F
end

section
namespace Go.Proofs.Ytfahkoimleiknaa.F
open Go.RowKit Go.Proofs.YtfahkoimleiknaaW.PrintWords Go.Proofs.YtfahkoimleiknaaW.PrintLast Go.Proofs.YtfahkoimleiknaaW.PrintMore
attribute [local go_sem] max2_int min2_int max_two min_two max_three min_three max_four min_four
set_option linter.unusedVariables false
set_option linter.unusedSimpArgs false

/-! ### impl_MajorOf: function 49 -/
def impl_MajorOf.f (k : Nat) (l0 : List (List Int)) : Option (Int × Bool) := (impl_IsTableau.f k l0).bind fun t763 => (if t763 = true then ((impl_major.f k l0).bind fun t764 => (some (t764, true))) else (some (0, false)))
theorem impl_MajorOf.mono : ∀ a0 k, LeO (impl_MajorOf.f k a0) (impl_MajorOf.f (k + 1) a0) := by
  intro a0 k
  unfold impl_MajorOf.f
  repeat' first
      | (with_reducible exact impl_IsTableau.mono _ _)
      | (with_reducible exact impl_major.mono _ _)
      | (with_reducible exact LeO.refl _)
      | (with_reducible exact LeO.none _)
      | (with_reducible refine LeO.ite ?_ ?_)
      | (with_reducible refine LeO.bind ?_ (fun _ => ?_))
      | exact impl_IsTableau.mono _ _
      | exact impl_major.mono _ _
      | exact LeO.none _
      | refine LeO.ite ?_ ?_
      | refine LeO.bind ?_ (fun _ => ?_)
set_option maxHeartbeats 8000000 in
set_option maxRecDepth 100000 in
theorem impl_MajorOf.calls (k : Nat) (A0 : Option Addr) (c0 : Nat) (l0 : List (List Int)) (r1 : Int) (r2 : Bool) (w : World) (hr0 : Kd.C (Kd.slice 3 (Kd.int .i64)) w A0 l0.length l0) (hc0 : l0.length ≤ c0) (h : impl_MajorOf.f k l0 = some (r1, r2)) :
    Calls Try.prog 49 #[.slice A0 l0.length c0] w fun e w' => e = .returned (.tuple #[.int .i64 r1, .bool r2]) ∧ Below w.heap.size w w' := by
  have HR0 := Aside0.mk hr0
  have HC0 := Aside0.mk hc0
  clear hr0 hc0
  have HB := Aside0.mk (Below.refl w.heap.size w)
  have H : ((impl_IsTableau.f k l0).bind fun t763 => (if t763 = true then ((impl_major.f k l0).bind fun t764 => (some (t764, true))) else (some (0, false)))) = some (r1, r2) := h
  clear h
  replace H := Option.bind_eq_some_iff.mp H
  obtain ⟨t763, A20, H⟩ := H
  replace H : (if t763 = true then ((impl_major.f k l0).bind fun t764 => (some (t764, true))) else (some (0, false))) = some (r1, r2) := H
  have A2 := Aside0.mk A20
  clear A20
  by_cases c3 : t763 = true
  · subst c3
    have H1 : ((impl_major.f k l0).bind fun t764 => (some (t764, true))) = some (r1, r2) := by rw [if_pos rfl] at H; exact H
    clear H
    have H := H1
    clear H1
    replace H := Option.bind_eq_some_iff.mp H
    obtain ⟨t764, A40, H⟩ := H
    replace H : (some (t764, true)) = some (r1, r2) := H
    have A4 := Aside0.mk A40
    clear A40
    simp only [Option.some.injEq, Prod.mk.injEq] at H
    obtain ⟨rfl, rfl⟩ := H
    go_enter Try.func49, Try.ntmps49
    go_wp2_with (first | ((with_reducible refine gate_callee (f := 68) rfl ?_); refine goesL_ (some 5) rfl rfl Try.func68 (by kernel_rfl) rfl #[.slice A0 l0.length c0] rfl (by (try simp only [List.map_toArray, List.map_cons, List.map_nil]); first | done | rfl | (simp only [List.length_drop, List.length_take]; rfl)) ?_; (with_reducible refine (impl_IsTableau.calls k _ _ l0 true _ ?side1 ?side2 A2.out).mono ?_); (case side1 => repeat (first | exact HR0.out | (with_reducible refine Kd.C_alloc ?_ _) | (with_reducible refine Kd.C_drewN ?_ _) | (with_reducible refine Kd.C_drew ?_))); (case side2 => exact HC0.out); rintro e w5 ⟨rfl, hb⟩; refine ⟨_, rfl, ?_⟩; have n0_ := Aside0.mk (below_step (by repeat (first | (with_reducible first | exact HB.out | apply below_alloc | apply pw_below_drewN | apply below_drew1) | exact HB.out)) hb); clear HB; have HB := n0_; clear n0_; (try clear hb); (try clear hb2); (try clear hk); (try clear hi)) | ((with_reducible refine gate_callee (f := 84) rfl ?_); refine goesL_ (some 8) rfl rfl Try.func84 (by kernel_rfl) rfl #[.slice A0 l0.length c0] rfl (by (try simp only [List.map_toArray, List.map_cons, List.map_nil]); first | done | rfl | (simp only [List.length_drop, List.length_take]; rfl)) ?_; (with_reducible refine (impl_major.calls k _ _ l0 t764 _ ?side1 ?side2 A4.out).mono ?_); (case side1 => repeat (first | exact (Kd.C_below HR0.out HB.out) | (with_reducible refine Kd.C_alloc ?_ _) | (with_reducible refine Kd.C_drewN ?_ _) | (with_reducible refine Kd.C_drew ?_))); (case side2 => exact HC0.out); rintro e w6 ⟨rfl, hb⟩; refine ⟨_, rfl, ?_⟩; have n0_ := Aside0.mk (below_step (by repeat (first | (with_reducible first | exact HB.out | apply below_alloc | apply pw_below_drewN | apply below_drew1) | exact HB.out)) hb); clear HB; have HB := n0_; clear n0_; (try clear hb); (try clear hb2); (try clear hk); (try clear hi)))
    go_ret2
    exact ⟨by first | rfl | (simp [errW_none, errW_some] <;> rfl) | (simp [*, errW_none, errW_some] <;> rfl), by repeat (first | (with_reducible first | exact HB.out | apply below_alloc | apply pw_below_drewN | apply below_drew1) | exact HB.out)⟩
  · replace c3 := Bool.eq_false_iff.mpr c3
    subst c3
    have H1 : (some (0, false)) = some (r1, r2) := by rw [if_neg (show ¬ (false = true) by decide)] at H; exact H
    clear H
    have H := H1
    clear H1
    simp only [Option.some.injEq, Prod.mk.injEq] at H
    obtain ⟨rfl, rfl⟩ := H
    go_enter Try.func49, Try.ntmps49
    go_wp2_with (first | ((with_reducible refine gate_callee (f := 68) rfl ?_); refine goesL_ (some 5) rfl rfl Try.func68 (by kernel_rfl) rfl #[.slice A0 l0.length c0] rfl (by (try simp only [List.map_toArray, List.map_cons, List.map_nil]); first | done | rfl | (simp only [List.length_drop, List.length_take]; rfl)) ?_; (with_reducible refine (impl_IsTableau.calls k _ _ l0 false _ ?side1 ?side2 A2.out).mono ?_); (case side1 => repeat (first | exact HR0.out | (with_reducible refine Kd.C_alloc ?_ _) | (with_reducible refine Kd.C_drewN ?_ _) | (with_reducible refine Kd.C_drew ?_))); (case side2 => exact HC0.out); rintro e w7 ⟨rfl, hb⟩; refine ⟨_, rfl, ?_⟩; have n0_ := Aside0.mk (below_step (by repeat (first | (with_reducible first | exact HB.out | apply below_alloc | apply pw_below_drewN | apply below_drew1) | exact HB.out)) hb); clear HB; have HB := n0_; clear n0_; (try clear hb); (try clear hb2); (try clear hk); (try clear hi)))
    go_ret2
    exact ⟨by first | rfl | (simp [errW_none, errW_some] <;> rfl) | (simp [*, errW_none, errW_some] <;> rfl), by repeat (first | (with_reducible first | exact HB.out | apply below_alloc | apply pw_below_drewN | apply below_drew1) | exact HB.out)⟩

end Go.Proofs.Ytfahkoimleiknaa.F
end
