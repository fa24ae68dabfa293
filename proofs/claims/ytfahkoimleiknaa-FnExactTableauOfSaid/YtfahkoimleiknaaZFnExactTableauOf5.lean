/- Part 5 of the texts below the row of FnExactTableauOf: printed functions with their contracts, and plain lemmas. No condition. -/
import Derived.Test.YtfahkoimleiknaaZFnExactTableauOf4
import Derived.Lib.Hide
section
namespace Go.Proofs.Ytfahkoimleiknaa.F
open Go.RowKit Go.Proofs.YtfahkoimleiknaaW.PrintWords Go.Proofs.YtfahkoimleiknaaW.PrintLast Go.Proofs.YtfahkoimleiknaaW.PrintMore
attribute [local go_sem] max2_int min2_int max_two min_two max_three min_three max_four min_four
set_option linter.unusedVariables false
set_option linter.unusedSimpArgs false

/-! ### spec_shGood: function 66 -/
mutual
def spec_shGood.j0 : Nat → List (List Int) → Bool → Option (Bool)
  | 0, _, _ => none
  | k + 1, x0, x25 => if x25 = true then (some false) else (spec_shGood.l0 k x0 0 x0 (x0.length : Int) 0)
def spec_shGood.l0 : Nat → List (List Int) → Int → List (List Int) → Int → Int → Option (Bool)
  | 0, _, _, _, _, _ => none
  | k + 1, x0, x3, x26, x27, x28 => if x28 < x27 then (if 0 ≤ x28 then (if x28 < (x26.length : Int) then (if 0 < (x0.length : Int) then (if ((rd_L1 x26 x28).length : Int) = ((rd_L1 x0 0).length : Int) then ((spec_l1All.f k (rd_L1 x26 x28) 0 (wrap64 ((wrap64 ((x0.length : Int) * ((rd_L1 x26 x28).length : Int))) - 1))).bind fun t348 => (spec_shGood.j2 k x0 x3 x28 (rd_L1 x26 x28) x26 x27 x28 (!t348))) else (spec_shGood.j2 k x0 x3 x28 (rd_L1 x26 x28) x26 x27 x28 true)) else (none)) else (none)) else (none)) else (some true)
def spec_shGood.j2 : Nat → List (List Int) → Int → Int → List Int → List (List Int) → Int → Int → Bool → Option (Bool)
  | 0, _, _, _, _, _, _, _, _ => none
  | k + 1, x0, x3, x4, x5, x26, x27, x28, x50 => if x50 = true then (some false) else (spec_shGood.l1 k x0 x3 x4 x5 x26 x27 x28 x5 (x5.length : Int) 0)
def spec_shGood.l1 : Nat → List (List Int) → Int → Int → List Int → List (List Int) → Int → Int → List Int → Int → Int → Option (Bool)
  | 0, _, _, _, _, _, _, _, _, _, _ => none
  | k + 1, x0, x3, x4, x5, x26, x27, x28, x51, x52, x53 => if x53 < x52 then (if 0 ≤ x53 then (if x53 < (x51.length : Int) then ((spec_poIn.f x3 (rd x51 x53)).bind fun t350 => (if t350 = true then (some false) else (if x53 > 0 then (if 0 ≤ (wrap64 (x53 - 1)) then (if (wrap64 (x53 - 1)) < (x5.length : Int) then (if (rd x5 (wrap64 (x53 - 1))) > (rd x51 x53) then (some false) else (if x4 > 0 then (if 0 ≤ (wrap64 (x4 - 1)) then (if (wrap64 (x4 - 1)) < (x0.length : Int) then (if x53 < ((rd_L1 x0 (wrap64 (x4 - 1))).length : Int) then (if (rd (rd_L1 x0 (wrap64 (x4 - 1))) x53) > (rd x51 x53) then (some false) else (if 0 ≤ (rd x51 x53) then (spec_shGood.l1 k x0 (Go.bits .or .i64 x3 (shl .i64 1 (rd x51 x53))) x4 x5 x26 x27 x28 x51 x52 (wrap64 (x53 + 1))) else (none))) else (none)) else (none)) else (none)) else (if 0 ≤ (rd x51 x53) then (spec_shGood.l1 k x0 (Go.bits .or .i64 x3 (shl .i64 1 (rd x51 x53))) x4 x5 x26 x27 x28 x51 x52 (wrap64 (x53 + 1))) else (none)))) else (none)) else (none)) else (if x4 > 0 then (if 0 ≤ (wrap64 (x4 - 1)) then (if (wrap64 (x4 - 1)) < (x0.length : Int) then (if x53 < ((rd_L1 x0 (wrap64 (x4 - 1))).length : Int) then (if (rd (rd_L1 x0 (wrap64 (x4 - 1))) x53) > (rd x51 x53) then (some false) else (if 0 ≤ (rd x51 x53) then (spec_shGood.l1 k x0 (Go.bits .or .i64 x3 (shl .i64 1 (rd x51 x53))) x4 x5 x26 x27 x28 x51 x52 (wrap64 (x53 + 1))) else (none))) else (none)) else (none)) else (none)) else (if 0 ≤ (rd x51 x53) then (spec_shGood.l1 k x0 (Go.bits .or .i64 x3 (shl .i64 1 (rd x51 x53))) x4 x5 x26 x27 x28 x51 x52 (wrap64 (x53 + 1))) else (none)))))) else (none)) else (none)) else (spec_shGood.l0 k x0 x3 x26 x27 (wrap64 (x28 + 1)))
end
def spec_shGood.f (k : Nat) (l0 : List (List Int)) : Option (Bool) := if (l0.length : Int) = 0 then (spec_shGood.j0 k l0 true) else (if (l0.length : Int) > 10 then (spec_shGood.j0 k l0 true) else (if 0 < (l0.length : Int) then ((spec_shSides.f (l0.length : Int) ((rd_L1 l0 0).length : Int)).bind fun t345 => (spec_shGood.j0 k l0 (!t345))) else (none)))
theorem spec_shGood.mono_l : ∀ k, (∀ y0 y1, LeO (spec_shGood.j0 k y0 y1) (spec_shGood.j0 (k + 1) y0 y1)) ∧ (∀ y0 y1 y2 y3 y4, LeO (spec_shGood.l0 k y0 y1 y2 y3 y4) (spec_shGood.l0 (k + 1) y0 y1 y2 y3 y4)) ∧ (∀ y0 y1 y2 y3 y4 y5 y6 y7, LeO (spec_shGood.j2 k y0 y1 y2 y3 y4 y5 y6 y7) (spec_shGood.j2 (k + 1) y0 y1 y2 y3 y4 y5 y6 y7)) ∧ (∀ y0 y1 y2 y3 y4 y5 y6 y7 y8 y9, LeO (spec_shGood.l1 k y0 y1 y2 y3 y4 y5 y6 y7 y8 y9) (spec_shGood.l1 (k + 1) y0 y1 y2 y3 y4 y5 y6 y7 y8 y9))
  | 0 => ⟨fun _ _ r h => by simp [spec_shGood.j0] at h, fun _ _ _ _ _ r h => by simp [spec_shGood.l0] at h, fun _ _ _ _ _ _ _ _ r h => by simp [spec_shGood.j2] at h, fun _ _ _ _ _ _ _ _ _ _ r h => by simp [spec_shGood.l1] at h⟩
  | k + 1 => by
    obtain ⟨ih0, ih1, ih2, ih3⟩ := spec_shGood.mono_l k
    refine ⟨?_, ?_, ?_, ?_⟩
    · intro y0 y1
      unfold spec_shGood.j0
      repeat' first
      | (with_reducible exact ih0 _ _)
      | (with_reducible exact ih1 _ _ _ _ _)
      | (with_reducible exact ih2 _ _ _ _ _ _ _ _)
      | (with_reducible exact ih3 _ _ _ _ _ _ _ _ _ _)
      | (with_reducible exact spec_l1All.mono _ _ _ _)
      | (with_reducible exact LeO.refl _)
      | (with_reducible exact LeO.none _)
      | (with_reducible refine LeO.ite ?_ ?_)
      | (with_reducible refine LeO.bind ?_ (fun _ => ?_))
      | exact ih0 _ _
      | exact ih1 _ _ _ _ _
      | exact ih2 _ _ _ _ _ _ _ _
      | exact ih3 _ _ _ _ _ _ _ _ _ _
      | exact spec_l1All.mono _ _ _ _
      | exact LeO.none _
      | refine LeO.ite ?_ ?_
      | refine LeO.bind ?_ (fun _ => ?_)
    · intro y0 y1 y2 y3 y4
      unfold spec_shGood.l0
      repeat' first
      | (with_reducible exact ih0 _ _)
      | (with_reducible exact ih1 _ _ _ _ _)
      | (with_reducible exact ih2 _ _ _ _ _ _ _ _)
      | (with_reducible exact ih3 _ _ _ _ _ _ _ _ _ _)
      | (with_reducible exact spec_l1All.mono _ _ _ _)
      | (with_reducible exact LeO.refl _)
      | (with_reducible exact LeO.none _)
      | (with_reducible refine LeO.ite ?_ ?_)
      | (with_reducible refine LeO.bind ?_ (fun _ => ?_))
      | exact ih0 _ _
      | exact ih1 _ _ _ _ _
      | exact ih2 _ _ _ _ _ _ _ _
      | exact ih3 _ _ _ _ _ _ _ _ _ _
      | exact spec_l1All.mono _ _ _ _
      | exact LeO.none _
      | refine LeO.ite ?_ ?_
      | refine LeO.bind ?_ (fun _ => ?_)
    · intro y0 y1 y2 y3 y4 y5 y6 y7
      unfold spec_shGood.j2
      repeat' first
      | (with_reducible exact ih0 _ _)
      | (with_reducible exact ih1 _ _ _ _ _)
      | (with_reducible exact ih2 _ _ _ _ _ _ _ _)
      | (with_reducible exact ih3 _ _ _ _ _ _ _ _ _ _)
      | (with_reducible exact spec_l1All.mono _ _ _ _)
      | (with_reducible exact LeO.refl _)
      | (with_reducible exact LeO.none _)
      | (with_reducible refine LeO.ite ?_ ?_)
      | (with_reducible refine LeO.bind ?_ (fun _ => ?_))
      | exact ih0 _ _
      | exact ih1 _ _ _ _ _
      | exact ih2 _ _ _ _ _ _ _ _
      | exact ih3 _ _ _ _ _ _ _ _ _ _
      | exact spec_l1All.mono _ _ _ _
      | exact LeO.none _
      | refine LeO.ite ?_ ?_
      | refine LeO.bind ?_ (fun _ => ?_)
    · intro y0 y1 y2 y3 y4 y5 y6 y7 y8 y9
      unfold spec_shGood.l1
      repeat' first
      | (with_reducible exact ih0 _ _)
      | (with_reducible exact ih1 _ _ _ _ _)
      | (with_reducible exact ih2 _ _ _ _ _ _ _ _)
      | (with_reducible exact ih3 _ _ _ _ _ _ _ _ _ _)
      | (with_reducible exact spec_l1All.mono _ _ _ _)
      | (with_reducible exact LeO.refl _)
      | (with_reducible exact LeO.none _)
      | (with_reducible refine LeO.ite ?_ ?_)
      | (with_reducible refine LeO.bind ?_ (fun _ => ?_))
      | exact ih0 _ _
      | exact ih1 _ _ _ _ _
      | exact ih2 _ _ _ _ _ _ _ _
      | exact ih3 _ _ _ _ _ _ _ _ _ _
      | exact spec_l1All.mono _ _ _ _
      | exact LeO.none _
      | refine LeO.ite ?_ ?_
      | refine LeO.bind ?_ (fun _ => ?_)
theorem spec_shGood.mono : ∀ a0 k, LeO (spec_shGood.f k a0) (spec_shGood.f (k + 1) a0) := by
  intro a0 k
  obtain ⟨ih0, ih1, ih2, ih3⟩ := spec_shGood.mono_l k
  unfold spec_shGood.f
  repeat' first
      | (with_reducible exact ih0 _ _)
      | (with_reducible exact ih1 _ _ _ _ _)
      | (with_reducible exact ih2 _ _ _ _ _ _ _ _)
      | (with_reducible exact ih3 _ _ _ _ _ _ _ _ _ _)
      | (with_reducible exact spec_l1All.mono _ _ _ _)
      | (with_reducible exact LeO.refl _)
      | (with_reducible exact LeO.none _)
      | (with_reducible refine LeO.ite ?_ ?_)
      | (with_reducible refine LeO.bind ?_ (fun _ => ?_))
      | exact ih0 _ _
      | exact ih1 _ _ _ _ _
      | exact ih2 _ _ _ _ _ _ _ _
      | exact ih3 _ _ _ _ _ _ _ _ _ _
      | exact spec_l1All.mono _ _ _ _
      | exact LeO.none _
      | refine LeO.ite ?_ ?_
      | refine LeO.bind ?_ (fun _ => ?_)
set_option maxHeartbeats 8000000 in
set_option maxRecDepth 100000 in
theorem spec_shGood.calls (k : Nat) (A0 : Option Addr) (c0 : Nat) (l0 : List (List Int)) (r : Bool) (w : World) (hr0 : Kd.C (Kd.slice 3 (Kd.int .i64)) w A0 l0.length l0) (hc0 : l0.length ≤ c0) (h : spec_shGood.f k l0 = some r) :
    Calls Try.prog 66 #[.slice A0 l0.length c0] w fun e w' => e = .returned (.bool r) ∧ Drawn0 w w' := by
  have HR0 := Aside0.mk hr0
  have HC0 := Aside0.mk hc0
  clear hr0 hc0
  have H : (if (l0.length : Int) = 0 then (spec_shGood.j0 k l0 true) else (if (l0.length : Int) > 10 then (spec_shGood.j0 k l0 true) else (if 0 < (l0.length : Int) then ((spec_shSides.f (l0.length : Int) ((rd_L1 l0 0).length : Int)).bind fun t345 => (spec_shGood.j0 k l0 (!t345))) else (none)))) = some r := h
  clear h
  have HC2 := Aside0.mk H
  clear H
  go_enter Try.func66, Try.ntmps66
  go_upto_region 1 with (fail)
  go_cut [25] (fun v25 wc => ∃ (kq : Nat) (x25_1 : Bool), v25 = .bool x25_1 ∧ Aside0 (spec_shGood.j0 kq l0 x25_1 = some r) ∧ Aside0 (kq ≤ k) ∧ Drawn0 w wc)
  case first =>
    have H := HC2.out
    clear HC2
    by_cases c3 : (l0.length : Int) = 0
    · rw [if_pos c3] at H
      have c3b0 : ((l0.length : Int) == 0) = true := beq_iff_eq.mpr c3
      have c3b1 : ((l0.length : Int) != 0) = false := bne_eq_false_iff_eq.mpr c3
      clear c3
      (first | rw [c3b0] | (simp only [i64_w, i32_w]; rw [c3b0]) | skip)
      have H' := Aside0.mk H
      clear H
      go_wp2
      go_meet
      case rel => exact ⟨_, (true), (by first | rfl | (simp; done) | (simp [*]; done)), H', ⟨by first | omega | exact Nat.le_refl _⟩, by repeat (first | exact Drawn0.refl _ | apply Drawn0.step)⟩
    · rw [if_neg c3] at H
      have c3b0 : ((l0.length : Int) == 0) = false := beq_eq_false_iff_ne.mpr c3
      have c3b1 : ((l0.length : Int) != 0) = true := bne_iff_ne.mpr c3
      have c3b2 : ¬ (l0 = []) := fun h_ => c3 (by rw [h_]; rfl)
      (first | rw [c3b0] | (simp only [i64_w, i32_w]; rw [c3b0]) | skip)
      by_cases c4 : (l0.length : Int) > 10
      · rw [if_pos c4] at H
        have c4b0 : decide (10 < (l0.length : Int)) = true := decide_eq_true c4
        have c4b1 : decide (10 < l0.length) = true := decide_eq_true (by omega)
        clear c4
        have H' := Aside0.mk H
        clear H
        go_wp2
        go_meet
        case rel => exact ⟨_, (true), (by first | rfl | (simp; done) | (simp [*]; done)), H', ⟨by first | omega | exact Nat.le_refl _⟩, by repeat (first | exact Drawn0.refl _ | apply Drawn0.step)⟩
      · rw [if_neg c4] at H
        have c4b0 : decide (10 < (l0.length : Int)) = false := decide_eq_false c4
        have c4b1 : decide (10 < l0.length) = false := decide_eq_false (by omega)
        clear c4
        by_cases c5 : 0 < (l0.length : Int)
        · rw [if_pos c5] at H
          have c5b0 : decide (0 < (l0.length : Int)) = true := decide_eq_true c5
          have c5b1 : decide (0 < l0.length) = true := decide_eq_true (by omega)
          clear c5
          replace H := Option.bind_eq_some_iff.mp H
          obtain ⟨t345, A60, H⟩ := H
          replace H : (spec_shGood.j0 k l0 (!t345)) = some r := H
          have A6 := Aside0.mk A60
          clear A60
          have H' := Aside0.mk H
          clear H
          have p344 : 0 ≤ (0 : Int) := (by omega)
          have q344 : 0 < (l0.length : Int) := of_decide_eq_true (by first | (with_reducible assumption) | assumption)
          obtain ⟨ad344, A344_0, c344_0, e344, hx344_0, hl344_0, hi344_0⟩ := at_L1 HR0.out 0 p344 q344
          cases e344
          have qi344 : (0 < l0.length) = True := eq_true (by omega)
          (try rw [show ((0 : Int)).toNat = 0 from rfl] at hx344_0)
          (try rw [Addr.add_zero'] at hx344_0)
          have HR344_0 := Aside0.mk hi344_0
          have HC344_0 := Aside0.mk hl344_0
          clear hi344_0 hl344_0
          replace p344 := eq_true p344
          replace q344 := eq_true q344
          go_wp2_with (first | (go_at_call 69; (with_reducible refine (spec_shSides.calls (l0.length : Int) ((rd_L1 l0 0).length : Int) t345 _ A6.out).mono ?_); rintro e w' ⟨rfl, ⟨nd, rfl⟩⟩))
          go_meet
          case rel => exact ⟨_, (!t345), (by first | rfl | (simp; done) | (simp [*]; done)), H', ⟨by first | omega | exact Nat.le_refl _⟩, by repeat (first | exact Drawn0.refl _ | apply Drawn0.step)⟩
        · rw [if_neg c5] at H
          exact absurd H (by simp)
  case rest =>
    clear HC2
    try clear p2
    try clear c3
    try clear c3b0
    try clear c3b1
    try clear c3b2
    try clear p3
    try clear q3
    try clear hx3
    try clear qi3
    try clear c4
    try clear c4b0
    try clear c4b1
    try clear c5
    try clear c5b0
    try clear c5b1
    try clear c6
    try clear hx344_0
    try clear p344
    try clear q344
    obtain ⟨kq, x25_1, rfl, HA, HJ1, ⟨mc1, rfl⟩⟩ := hcut
    cases kq with
    | zero => exact absurd HA.out (by simp [spec_shGood.j0])
    | succ kj1 =>
      have H := HA.out
      clear HA
      simp only [spec_shGood.j0] at H
      by_cases c7 : x25_1 = true
      · subst c7
        have H1 : (some false) = some r := by rw [if_pos rfl] at H; exact H
        clear H
        have H := H1
        clear H1
        obtain rfl := Option.some.inj H
        go_wp2
        go_ret
        exact ⟨by first | rfl | (simp; done) | (simp [*]; done), by repeat (first | exact Drawn0.refl _ | apply Drawn0.step)⟩
      · replace c7 := Bool.eq_false_iff.mpr c7
        subst c7
        have H1 : (spec_shGood.l0 kj1 l0 0 l0 (l0.length : Int) 0) = some r := by rw [if_neg (show ¬ (false = true) by decide)] at H; exact H
        clear H
        have H := H1
        clear H1
        have H' := Aside0.mk H
        clear H
        go_wp2
        go_loopg [3, 28] kj1 (fun kq v3 v28 w' => ∃ (x3_2 : Int) (x28_2 : Int), v3 = .int .i64 x3_2 ∧ v28 = .int .i64 x28_2 ∧ Aside0 (spec_shGood.l0 kq l0 x3_2 l0 (l0.length : Int) x28_2 = some r) ∧ Aside0 (kq ≤ kj1) ∧ Drawn0 w w')
        case atStart => exact ⟨(0), (0), (by first | rfl | (simp; done) | (simp [*]; done)), (by first | rfl | (simp; done) | (simp [*]; done)), H', ⟨Nat.le_refl _⟩, by repeat (first | exact Drawn0.refl _ | apply Drawn0.step)⟩
        case round =>
          clear H'
          try clear c1
          try clear p2
          try clear c3
          try clear c3b0
          try clear c3b1
          try clear c3b2
          try clear p3
          try clear q3
          try clear hx3
          try clear qi3
          try clear c4
          try clear c4b0
          try clear c4b1
          try clear c5
          try clear c5b0
          try clear c5b1
          try clear c6
          try clear c7
          try clear hx344_0
          try clear p2
          try clear p3
          try clear p344
          try clear q3
          try clear q344
          obtain ⟨x3_2, x28_2, rfl, rfl, HA, HK2, ⟨m2, rfl⟩⟩ := hrel
          cases gk with
          | zero => exact absurd HA.out (by simp [spec_shGood.l0])
          | succ k2 =>
            have H := HA.out
            clear HA
            simp only [spec_shGood.l0] at H
            by_cases c8 : x28_2 < (l0.length : Int)
            · rw [if_pos c8] at H
              have c8b0 : decide (x28_2 < (l0.length : Int)) = true := decide_eq_true c8
              clear c8
              by_cases c9 : 0 ≤ x28_2
              · rw [if_pos c9] at H
                have c9b0 : decide (0 ≤ x28_2) = true := decide_eq_true c9
                clear c9
                by_cases c10 : x28_2 < (l0.length : Int)
                · rw [if_pos c10] at H
                  have c10b0 : decide (x28_2 < (l0.length : Int)) = true := decide_eq_true c10
                  clear c10
                  have HC11 := Aside0.mk H
                  clear H
                  have p346 : 0 ≤ (x28_2 : Int) := of_decide_eq_true (by first | (with_reducible assumption) | assumption)
                  have q346 : x28_2 < (l0.length : Int) := of_decide_eq_true (by first | (with_reducible assumption) | assumption)
                  obtain ⟨ad346, A346_0, c346_0, e346, hx346_0, hl346_0, hi346_0⟩ := at_L1 HR0.out x28_2 p346 q346
                  cases e346
                  have HR346_0 := Aside0.mk hi346_0
                  have HC346_0 := Aside0.mk hl346_0
                  clear hi346_0 hl346_0
                  replace p346 := eq_true p346
                  replace q346 := eq_true q346
                  go_upto_region 7 with (fail)
                  go_cut [50] (fun v50 wc => ∃ (kq : Nat) (x50_10 : Bool), v50 = .bool x50_10 ∧ Aside0 (spec_shGood.j2 kq l0 x3_2 x28_2 (rd_L1 l0 x28_2) l0 (l0.length : Int) x28_2 x50_10 = some r) ∧ Aside0 (kq ≤ k2) ∧ Drawn0 w wc)
                  case first =>
                    have H := HC11.out
                    clear HC11
                    by_cases c12 : 0 < (l0.length : Int)
                    · rw [if_pos c12] at H
                      have c12b0 : decide (0 < (l0.length : Int)) = true := decide_eq_true c12
                      have c12b1 : decide (0 < l0.length) = true := decide_eq_true (by omega)
                      clear c12
                      (first | rw [c12b0] | (simp only [i64_w, i32_w]; rw [c12b0]) | skip)
                      by_cases c13 : ((rd_L1 l0 x28_2).length : Int) = ((rd_L1 l0 0).length : Int)
                      · rw [if_pos c13] at H
                        have c13b0 : (((rd_L1 l0 x28_2).length : Int) == ((rd_L1 l0 0).length : Int)) = true := beq_iff_eq.mpr c13
                        have c13b1 : (((rd_L1 l0 x28_2).length : Int) != ((rd_L1 l0 0).length : Int)) = false := bne_eq_false_iff_eq.mpr c13
                        have c13b2 : ((rd_L1 l0 x28_2).length == (rd_L1 l0 0).length) = true := by first | simpa using c13 | (simp at c13 ⊢; omega)
                        clear c13
                        replace H := Option.bind_eq_some_iff.mp H
                        obtain ⟨t348, A140, H⟩ := H
                        replace H : (spec_shGood.j2 k2 l0 x3_2 x28_2 (rd_L1 l0 x28_2) l0 (l0.length : Int) x28_2 (!t348)) = some r := H
                        have A14 := Aside0.mk A140
                        clear A140
                        have H' := Aside0.mk H
                        clear H
                        have p347 : 0 ≤ (0 : Int) := (by omega)
                        have q347 : 0 < (l0.length : Int) := of_decide_eq_true (by first | (with_reducible assumption) | assumption)
                        obtain ⟨ad347, A347_0, c347_0, e347, hx347_0, hl347_0, hi347_0⟩ := at_L1 HR0.out 0 p347 q347
                        obtain rfl : ad346 = ad347 := (by injection e347)
                        have qi347 : (0 < l0.length) = True := eq_true (by omega)
                        (try rw [show ((0 : Int)).toNat = 0 from rfl] at hx347_0)
                        (try rw [Addr.add_zero'] at hx347_0)
                        have HR347_0 := Aside0.mk hi347_0
                        have HC347_0 := Aside0.mk hl347_0
                        clear hi347_0 hl347_0
                        replace p347 := eq_true p347
                        replace q347 := eq_true q347
                        go_wp2_with (first | (go_at_call 64; (with_reducible refine (spec_l1All.calls k2 _ _ (rd_L1 l0 x28_2) 0 (wrap64 ((wrap64 ((l0.length : Int) * ((rd_L1 l0 x28_2).length : Int))) - 1)) t348 _ ?side1 ?side2 A14.out).mono ?_); (case side1 => repeat (first | exact HR346_0.out | (with_reducible refine Kd.C_alloc ?_ _) | (with_reducible refine Kd.C_drewN ?_ _) | (with_reducible refine Kd.C_drew ?_))); (case side2 => exact HC346_0.out); rintro e w' ⟨rfl, ⟨nd, rfl⟩⟩))
                        go_meet
                        case rel => exact ⟨_, (!t348), (by first | rfl | (simp; done) | (simp [*]; done)), H', ⟨by have := HJ1.out; have := HK2.out; first | omega | exact Nat.le_refl _⟩, by repeat (first | exact Drawn0.refl _ | apply Drawn0.step)⟩
                      · rw [if_neg c13] at H
                        have c13b0 : (((rd_L1 l0 x28_2).length : Int) == ((rd_L1 l0 0).length : Int)) = false := beq_eq_false_iff_ne.mpr c13
                        have c13b1 : (((rd_L1 l0 x28_2).length : Int) != ((rd_L1 l0 0).length : Int)) = true := bne_iff_ne.mpr c13
                        have c13b2 : ((rd_L1 l0 x28_2).length == (rd_L1 l0 0).length) = false := by first | simpa using c13 | (simp at c13 ⊢; omega)
                        have H' := Aside0.mk H
                        clear H
                        have p347 : 0 ≤ (0 : Int) := (by omega)
                        have q347 : 0 < (l0.length : Int) := of_decide_eq_true (by first | (with_reducible assumption) | assumption)
                        obtain ⟨ad347, A347_0, c347_0, e347, hx347_0, hl347_0, hi347_0⟩ := at_L1 HR0.out 0 p347 q347
                        obtain rfl : ad346 = ad347 := (by injection e347)
                        have qi347 : (0 < l0.length) = True := eq_true (by omega)
                        (try rw [show ((0 : Int)).toNat = 0 from rfl] at hx347_0)
                        (try rw [Addr.add_zero'] at hx347_0)
                        have HR347_0 := Aside0.mk hi347_0
                        have HC347_0 := Aside0.mk hl347_0
                        clear hi347_0 hl347_0
                        replace p347 := eq_true p347
                        replace q347 := eq_true q347
                        go_wp2
                        go_meet
                        case rel => exact ⟨_, (true), (by first | rfl | (simp; done) | (simp [*]; done)), H', ⟨by have := HJ1.out; have := HK2.out; first | omega | exact Nat.le_refl _⟩, by repeat (first | exact Drawn0.refl _ | apply Drawn0.step)⟩
                    · rw [if_neg c12] at H
                      exact absurd H (by simp)
                  case rest =>
                    clear HC11
                    try clear c1
                    try clear p2
                    try clear c3
                    try clear c3b0
                    try clear c3b1
                    try clear c3b2
                    try clear p3
                    try clear q3
                    try clear hx3
                    try clear qi3
                    try clear c4
                    try clear c4b0
                    try clear c4b1
                    try clear c5
                    try clear c5b0
                    try clear c5b1
                    try clear c6
                    try clear p6
                    try clear c7
                    try clear c8
                    try clear c8b0
                    try clear c9
                    try clear c9b0
                    try clear c10
                    try clear c10b0
                    try clear c12
                    try clear c12b0
                    try clear c12b1
                    try clear c13
                    try clear c13b0
                    try clear c13b1
                    try clear c13b2
                    try clear hx344_0
                    try clear hx346_0
                    try clear hx347_0
                    try clear p2
                    try clear p3
                    try clear p344
                    try clear p346
                    try clear p347
                    try clear q3
                    try clear q344
                    try clear q346
                    try clear q347
                    obtain ⟨kq, x50_10, rfl, HA, HJ10, ⟨mc10, rfl⟩⟩ := hcut
                    cases kq with
                    | zero => exact absurd HA.out (by simp [spec_shGood.j2])
                    | succ kj10 =>
                      have H := HA.out
                      clear HA
                      simp only [spec_shGood.j2] at H
                      by_cases c15 : x50_10 = true
                      · subst c15
                        have H1 : (some false) = some r := by rw [if_pos rfl] at H; exact H
                        clear H
                        have H := H1
                        clear H1
                        obtain rfl := Option.some.inj H
                        go_wp2
                        go_ret
                        exact ⟨by first | rfl | (simp; done) | (simp [*]; done), by repeat (first | exact Drawn0.refl _ | apply Drawn0.step)⟩
                      · replace c15 := Bool.eq_false_iff.mpr c15
                        subst c15
                        have H1 : (spec_shGood.l1 kj10 l0 x3_2 x28_2 (rd_L1 l0 x28_2) l0 (l0.length : Int) x28_2 (rd_L1 l0 x28_2) ((rd_L1 l0 x28_2).length : Int) 0) = some r := by rw [if_neg (show ¬ (false = true) by decide)] at H; exact H
                        clear H
                        have H := H1
                        clear H1
                        have H' := Aside0.mk H
                        clear H
                        go_wp2
                        go_loopg [3, 53] kj10 (fun kq v3 v53 w' => ∃ (x3_4 : Int) (x53_4 : Int), v3 = .int .i64 x3_4 ∧ v53 = .int .i64 x53_4 ∧ Aside0 (spec_shGood.l1 kq l0 x3_4 x28_2 (rd_L1 l0 x28_2) l0 (l0.length : Int) x28_2 (rd_L1 l0 x28_2) ((rd_L1 l0 x28_2).length : Int) x53_4 = some r) ∧ Aside0 (kq ≤ kj10) ∧ Drawn0 w w')
                        case atStart => exact ⟨(x3_2), (0), (by first | rfl | (simp; done) | (simp [*]; done)), (by first | rfl | (simp; done) | (simp [*]; done)), H', ⟨Nat.le_refl _⟩, by repeat (first | exact Drawn0.refl _ | apply Drawn0.step)⟩
                        case round =>
                          clear H'
                          try clear c1
                          try clear p2
                          try clear c3
                          try clear c3b0
                          try clear c3b1
                          try clear c3b2
                          try clear p3
                          try clear q3
                          try clear hx3
                          try clear qi3
                          try clear c4
                          try clear c4b0
                          try clear c4b1
                          try clear c5
                          try clear c5b0
                          try clear c5b1
                          try clear c6
                          try clear p6
                          try clear c7
                          try clear c8
                          try clear c8b0
                          try clear c9
                          try clear c9b0
                          try clear c10
                          try clear c10b0
                          try clear c12
                          try clear c12b0
                          try clear c12b1
                          try clear c13
                          try clear c13b0
                          try clear c13b1
                          try clear c13b2
                          try clear c15
                          try clear hx344_0
                          try clear hx346_0
                          try clear hx347_0
                          try clear p2
                          try clear p3
                          try clear p344
                          try clear p346
                          try clear p347
                          try clear p6
                          try clear q3
                          try clear q344
                          try clear q346
                          try clear q347
                          obtain ⟨x3_4, x53_4, rfl, rfl, HA, HK4, ⟨m4, rfl⟩⟩ := hrel
                          cases gk with
                          | zero => exact absurd HA.out (by simp [spec_shGood.l1])
                          | succ k4 =>
                            have H := HA.out
                            clear HA
                            simp only [spec_shGood.l1] at H
                            by_cases c16 : x53_4 < ((rd_L1 l0 x28_2).length : Int)
                            · rw [if_pos c16] at H
                              have c16b0 : decide (x53_4 < ((rd_L1 l0 x28_2).length : Int)) = true := decide_eq_true c16
                              clear c16
                              by_cases c17 : 0 ≤ x53_4
                              · rw [if_pos c17] at H
                                have c17b0 : decide (0 ≤ x53_4) = true := decide_eq_true c17
                                clear c17
                                by_cases c18 : x53_4 < ((rd_L1 l0 x28_2).length : Int)
                                · rw [if_pos c18] at H
                                  have c18b0 : decide (x53_4 < ((rd_L1 l0 x28_2).length : Int)) = true := decide_eq_true c18
                                  clear c18
                                  replace H := Option.bind_eq_some_iff.mp H
                                  obtain ⟨t350, A190, H⟩ := H
                                  replace H : (if t350 = true then (some false) else (if x53_4 > 0 then (if 0 ≤ (wrap64 (x53_4 - 1)) then (if (wrap64 (x53_4 - 1)) < ((rd_L1 l0 x28_2).length : Int) then (if (rd (rd_L1 l0 x28_2) (wrap64 (x53_4 - 1))) > (rd (rd_L1 l0 x28_2) x53_4) then (some false) else (if x28_2 > 0 then (if 0 ≤ (wrap64 (x28_2 - 1)) then (if (wrap64 (x28_2 - 1)) < (l0.length : Int) then (if x53_4 < ((rd_L1 l0 (wrap64 (x28_2 - 1))).length : Int) then (if (rd (rd_L1 l0 (wrap64 (x28_2 - 1))) x53_4) > (rd (rd_L1 l0 x28_2) x53_4) then (some false) else (if 0 ≤ (rd (rd_L1 l0 x28_2) x53_4) then (spec_shGood.l1 k4 l0 (Go.bits .or .i64 x3_4 (shl .i64 1 (rd (rd_L1 l0 x28_2) x53_4))) x28_2 (rd_L1 l0 x28_2) l0 (l0.length : Int) x28_2 (rd_L1 l0 x28_2) ((rd_L1 l0 x28_2).length : Int) (wrap64 (x53_4 + 1))) else (none))) else (none)) else (none)) else (none)) else (if 0 ≤ (rd (rd_L1 l0 x28_2) x53_4) then (spec_shGood.l1 k4 l0 (Go.bits .or .i64 x3_4 (shl .i64 1 (rd (rd_L1 l0 x28_2) x53_4))) x28_2 (rd_L1 l0 x28_2) l0 (l0.length : Int) x28_2 (rd_L1 l0 x28_2) ((rd_L1 l0 x28_2).length : Int) (wrap64 (x53_4 + 1))) else (none)))) else (none)) else (none)) else (if x28_2 > 0 then (if 0 ≤ (wrap64 (x28_2 - 1)) then (if (wrap64 (x28_2 - 1)) < (l0.length : Int) then (if x53_4 < ((rd_L1 l0 (wrap64 (x28_2 - 1))).length : Int) then (if (rd (rd_L1 l0 (wrap64 (x28_2 - 1))) x53_4) > (rd (rd_L1 l0 x28_2) x53_4) then (some false) else (if 0 ≤ (rd (rd_L1 l0 x28_2) x53_4) then (spec_shGood.l1 k4 l0 (Go.bits .or .i64 x3_4 (shl .i64 1 (rd (rd_L1 l0 x28_2) x53_4))) x28_2 (rd_L1 l0 x28_2) l0 (l0.length : Int) x28_2 (rd_L1 l0 x28_2) ((rd_L1 l0 x28_2).length : Int) (wrap64 (x53_4 + 1))) else (none))) else (none)) else (none)) else (none)) else (if 0 ≤ (rd (rd_L1 l0 x28_2) x53_4) then (spec_shGood.l1 k4 l0 (Go.bits .or .i64 x3_4 (shl .i64 1 (rd (rd_L1 l0 x28_2) x53_4))) x28_2 (rd_L1 l0 x28_2) l0 (l0.length : Int) x28_2 (rd_L1 l0 x28_2) ((rd_L1 l0 x28_2).length : Int) (wrap64 (x53_4 + 1))) else (none))))) = some r := H
                                  have A19 := Aside0.mk A190
                                  clear A190
                                  by_cases c20 : t350 = true
                                  · subst c20
                                    have H1 : (some false) = some r := by rw [if_pos rfl] at H; exact H
                                    clear H
                                    have H := H1
                                    clear H1
                                    obtain rfl := Option.some.inj H
                                    have p349 : 0 ≤ (x53_4 : Int) := of_decide_eq_true (by first | (with_reducible assumption) | assumption)
                                    have q349 : x53_4 < ((rd_L1 l0 x28_2).length : Int) := of_decide_eq_true (by first | (with_reducible assumption) | assumption)
                                    obtain ⟨ad349, e349, hx349_0⟩ := Kd.at_int HR346_0.out x53_4 p349 q349
                                    cases e349
                                    replace p349 := eq_true p349
                                    replace q349 := eq_true q349
                                    go_wp2_with (first | ((with_reducible refine gate_callee (f := 61) rfl ?_); refine goesL_ (some 60) rfl rfl Try.func61 (by kernel_rfl) rfl #[.int .i64 x3_4, .int .i64 (rd (rd_L1 l0 x28_2) x53_4)] rfl (by (try simp only [List.map_toArray, List.map_cons, List.map_nil]); first | done | rfl | (simp only [List.length_drop, List.length_take]; rfl)) ?_; (with_reducible refine (spec_poIn.calls x3_4 (rd (rd_L1 l0 x28_2) x53_4) true _ A19.out).mono ?_); rintro e w' ⟨rfl, ⟨nd, rfl⟩⟩; refine ⟨_, rfl, ?_⟩))
                                    go_ret
                                    exact ⟨by first | rfl | (simp; done) | (simp [*]; done), by repeat (first | exact Drawn0.refl _ | apply Drawn0.step)⟩
                                  · replace c20 := Bool.eq_false_iff.mpr c20
                                    subst c20
                                    have H1 : (if x53_4 > 0 then (if 0 ≤ (wrap64 (x53_4 - 1)) then (if (wrap64 (x53_4 - 1)) < ((rd_L1 l0 x28_2).length : Int) then (if (rd (rd_L1 l0 x28_2) (wrap64 (x53_4 - 1))) > (rd (rd_L1 l0 x28_2) x53_4) then (some false) else (if x28_2 > 0 then (if 0 ≤ (wrap64 (x28_2 - 1)) then (if (wrap64 (x28_2 - 1)) < (l0.length : Int) then (if x53_4 < ((rd_L1 l0 (wrap64 (x28_2 - 1))).length : Int) then (if (rd (rd_L1 l0 (wrap64 (x28_2 - 1))) x53_4) > (rd (rd_L1 l0 x28_2) x53_4) then (some false) else (if 0 ≤ (rd (rd_L1 l0 x28_2) x53_4) then (spec_shGood.l1 k4 l0 (Go.bits .or .i64 x3_4 (shl .i64 1 (rd (rd_L1 l0 x28_2) x53_4))) x28_2 (rd_L1 l0 x28_2) l0 (l0.length : Int) x28_2 (rd_L1 l0 x28_2) ((rd_L1 l0 x28_2).length : Int) (wrap64 (x53_4 + 1))) else (none))) else (none)) else (none)) else (none)) else (if 0 ≤ (rd (rd_L1 l0 x28_2) x53_4) then (spec_shGood.l1 k4 l0 (Go.bits .or .i64 x3_4 (shl .i64 1 (rd (rd_L1 l0 x28_2) x53_4))) x28_2 (rd_L1 l0 x28_2) l0 (l0.length : Int) x28_2 (rd_L1 l0 x28_2) ((rd_L1 l0 x28_2).length : Int) (wrap64 (x53_4 + 1))) else (none)))) else (none)) else (none)) else (if x28_2 > 0 then (if 0 ≤ (wrap64 (x28_2 - 1)) then (if (wrap64 (x28_2 - 1)) < (l0.length : Int) then (if x53_4 < ((rd_L1 l0 (wrap64 (x28_2 - 1))).length : Int) then (if (rd (rd_L1 l0 (wrap64 (x28_2 - 1))) x53_4) > (rd (rd_L1 l0 x28_2) x53_4) then (some false) else (if 0 ≤ (rd (rd_L1 l0 x28_2) x53_4) then (spec_shGood.l1 k4 l0 (Go.bits .or .i64 x3_4 (shl .i64 1 (rd (rd_L1 l0 x28_2) x53_4))) x28_2 (rd_L1 l0 x28_2) l0 (l0.length : Int) x28_2 (rd_L1 l0 x28_2) ((rd_L1 l0 x28_2).length : Int) (wrap64 (x53_4 + 1))) else (none))) else (none)) else (none)) else (none)) else (if 0 ≤ (rd (rd_L1 l0 x28_2) x53_4) then (spec_shGood.l1 k4 l0 (Go.bits .or .i64 x3_4 (shl .i64 1 (rd (rd_L1 l0 x28_2) x53_4))) x28_2 (rd_L1 l0 x28_2) l0 (l0.length : Int) x28_2 (rd_L1 l0 x28_2) ((rd_L1 l0 x28_2).length : Int) (wrap64 (x53_4 + 1))) else (none)))) = some r := by rw [if_neg (show ¬ (false = true) by decide)] at H; exact H
                                    clear H
                                    have H := H1
                                    clear H1
                                    by_cases c21 : x53_4 > 0
                                    · rw [if_pos c21] at H
                                      have c21b0 : decide (0 < x53_4) = true := decide_eq_true c21
                                      clear c21
                                      obtain ⟨ji22, hji22⟩ : ∃ j_ : Int, (wrap64 (x53_4 - 1)) = j_ := ⟨_, rfl⟩
                                      replace H : (if 0 ≤ (ji22) then (if (ji22) < ((rd_L1 l0 x28_2).length : Int) then (if (rd (rd_L1 l0 x28_2) (ji22)) > (rd (rd_L1 l0 x28_2) x53_4) then (some false) else (if x28_2 > 0 then (if 0 ≤ (wrap64 (x28_2 - 1)) then (if (wrap64 (x28_2 - 1)) < (l0.length : Int) then (if x53_4 < ((rd_L1 l0 (wrap64 (x28_2 - 1))).length : Int) then (if (rd (rd_L1 l0 (wrap64 (x28_2 - 1))) x53_4) > (rd (rd_L1 l0 x28_2) x53_4) then (some false) else (if 0 ≤ (rd (rd_L1 l0 x28_2) x53_4) then (spec_shGood.l1 k4 l0 (Go.bits .or .i64 x3_4 (shl .i64 1 (rd (rd_L1 l0 x28_2) x53_4))) x28_2 (rd_L1 l0 x28_2) l0 (l0.length : Int) x28_2 (rd_L1 l0 x28_2) ((rd_L1 l0 x28_2).length : Int) (wrap64 (x53_4 + 1))) else (none))) else (none)) else (none)) else (none)) else (if 0 ≤ (rd (rd_L1 l0 x28_2) x53_4) then (spec_shGood.l1 k4 l0 (Go.bits .or .i64 x3_4 (shl .i64 1 (rd (rd_L1 l0 x28_2) x53_4))) x28_2 (rd_L1 l0 x28_2) l0 (l0.length : Int) x28_2 (rd_L1 l0 x28_2) ((rd_L1 l0 x28_2).length : Int) (wrap64 (x53_4 + 1))) else (none)))) else (none)) else (none)) = some r := by first | (rw [hji22] at H; exact H) | (simp only [hji22] at H ⊢; exact H)
                                      (try rw [hji22] at A19)
                                      have hji22w : (IntKind.i64.wrap (x53_4 - 1)) = ji22 := (i64_w _).trans hji22
                                      by_cases c23 : 0 ≤ (ji22)
                                      · rw [if_pos c23] at H
                                        have c23b0 : decide (0 ≤ (ji22)) = true := decide_eq_true c23
                                        clear c23
                                        by_cases c24 : (ji22) < ((rd_L1 l0 x28_2).length : Int)
                                        · rw [if_pos c24] at H
                                          have c24b0 : decide ((ji22) < ((rd_L1 l0 x28_2).length : Int)) = true := decide_eq_true c24
                                          clear c24
                                          by_cases c25 : (rd (rd_L1 l0 x28_2) (ji22)) > (rd (rd_L1 l0 x28_2) x53_4)
                                          · rw [if_pos c25] at H
                                            have c25b0 : decide ((rd (rd_L1 l0 x28_2) x53_4) < (rd (rd_L1 l0 x28_2) (ji22))) = true := decide_eq_true c25
                                            clear c25
                                            obtain rfl := Option.some.inj H
                                            have p349 : 0 ≤ (x53_4 : Int) := of_decide_eq_true (by first | (with_reducible assumption) | assumption)
                                            have q349 : x53_4 < ((rd_L1 l0 x28_2).length : Int) := of_decide_eq_true (by first | (with_reducible assumption) | assumption)
                                            obtain ⟨ad349, e349, hx349_0⟩ := Kd.at_int HR346_0.out x53_4 p349 q349
                                            cases e349
                                            replace p349 := eq_true p349
                                            replace q349 := eq_true q349
                                            go_wp2_with (first | ((with_reducible refine gate_callee (f := 61) rfl ?_); refine goesL_ (some 60) rfl rfl Try.func61 (by kernel_rfl) rfl #[.int .i64 x3_4, .int .i64 (rd (rd_L1 l0 x28_2) x53_4)] rfl (by (try simp only [List.map_toArray, List.map_cons, List.map_nil]); first | done | rfl | (simp only [List.length_drop, List.length_take]; rfl)) ?_; (with_reducible refine (spec_poIn.calls x3_4 (rd (rd_L1 l0 x28_2) x53_4) false _ A19.out).mono ?_); rintro e w' ⟨rfl, ⟨nd, rfl⟩⟩; refine ⟨_, rfl, ?_⟩; have p351 : 0 ≤ ((ji22) : Int) := of_decide_eq_true (by first | (with_reducible assumption) | assumption); have q351 : (ji22) < ((rd_L1 l0 x28_2).length : Int) := of_decide_eq_true (by first | (with_reducible assumption) | assumption); obtain ⟨ad351, e351, hx351_0⟩ := Kd.at_int HR346_0.out (ji22) p351 q351; obtain rfl : ad349 = ad351 := (by injection e351); replace p351 := eq_true p351; replace q351 := eq_true q351))
                                            go_ret
                                            exact ⟨by first | rfl | (simp; done) | (simp only [← hji22] <;> (first | rfl | simp)) | (simp [*]; done), by repeat (first | exact Drawn0.refl _ | apply Drawn0.step)⟩
                                          · rw [if_neg c25] at H
                                            have c25b0 : decide ((rd (rd_L1 l0 x28_2) x53_4) < (rd (rd_L1 l0 x28_2) (ji22))) = false := decide_eq_false c25
                                            clear c25
                                            by_cases c26 : x28_2 > 0
                                            · rw [if_pos c26] at H
                                              have c26b0 : decide (0 < x28_2) = true := decide_eq_true c26
                                              clear c26
                                              obtain ⟨ji27, hji27⟩ : ∃ j_ : Int, (wrap64 (x28_2 - 1)) = j_ := ⟨_, rfl⟩
                                              replace H : (if 0 ≤ (ji27) then (if (ji27) < (l0.length : Int) then (if x53_4 < ((rd_L1 l0 (ji27)).length : Int) then (if (rd (rd_L1 l0 (ji27)) x53_4) > (rd (rd_L1 l0 x28_2) x53_4) then (some false) else (if 0 ≤ (rd (rd_L1 l0 x28_2) x53_4) then (spec_shGood.l1 k4 l0 (Go.bits .or .i64 x3_4 (shl .i64 1 (rd (rd_L1 l0 x28_2) x53_4))) x28_2 (rd_L1 l0 x28_2) l0 (l0.length : Int) x28_2 (rd_L1 l0 x28_2) ((rd_L1 l0 x28_2).length : Int) (wrap64 (x53_4 + 1))) else (none))) else (none)) else (none)) else (none)) = some r := by first | (rw [hji27] at H; exact H) | (simp only [hji27] at H ⊢; exact H)
                                              (try rw [hji27] at A19)
                                              have hji27w : (IntKind.i64.wrap (x28_2 - 1)) = ji27 := (i64_w _).trans hji27
                                              by_cases c28 : 0 ≤ (ji27)
                                              · rw [if_pos c28] at H
                                                have c28b0 : decide (0 ≤ (ji27)) = true := decide_eq_true c28
                                                clear c28
                                                by_cases c29 : (ji27) < (l0.length : Int)
                                                · rw [if_pos c29] at H
                                                  have c29b0 : decide ((ji27) < (l0.length : Int)) = true := decide_eq_true c29
                                                  clear c29
                                                  by_cases c30 : x53_4 < ((rd_L1 l0 (ji27)).length : Int)
                                                  · rw [if_pos c30] at H
                                                    have c30b0 : decide (x53_4 < ((rd_L1 l0 (ji27)).length : Int)) = true := decide_eq_true c30
                                                    clear c30
                                                    by_cases c31 : (rd (rd_L1 l0 (ji27)) x53_4) > (rd (rd_L1 l0 x28_2) x53_4)
                                                    · rw [if_pos c31] at H
                                                      have c31b0 : decide ((rd (rd_L1 l0 x28_2) x53_4) < (rd (rd_L1 l0 (ji27)) x53_4)) = true := decide_eq_true c31
                                                      clear c31
                                                      obtain rfl := Option.some.inj H
                                                      have p349 : 0 ≤ (x53_4 : Int) := of_decide_eq_true (by first | (with_reducible assumption) | assumption)
                                                      have q349 : x53_4 < ((rd_L1 l0 x28_2).length : Int) := of_decide_eq_true (by first | (with_reducible assumption) | assumption)
                                                      obtain ⟨ad349, e349, hx349_0⟩ := Kd.at_int HR346_0.out x53_4 p349 q349
                                                      cases e349
                                                      replace p349 := eq_true p349
                                                      replace q349 := eq_true q349
                                                      go_wp2_with (first | ((with_reducible refine gate_callee (f := 61) rfl ?_); refine goesL_ (some 60) rfl rfl Try.func61 (by kernel_rfl) rfl #[.int .i64 x3_4, .int .i64 (rd (rd_L1 l0 x28_2) x53_4)] rfl (by (try simp only [List.map_toArray, List.map_cons, List.map_nil]); first | done | rfl | (simp only [List.length_drop, List.length_take]; rfl)) ?_; (with_reducible refine (spec_poIn.calls x3_4 (rd (rd_L1 l0 x28_2) x53_4) false _ A19.out).mono ?_); rintro e w' ⟨rfl, ⟨nd, rfl⟩⟩; refine ⟨_, rfl, ?_⟩; have p351 : 0 ≤ ((ji22) : Int) := of_decide_eq_true (by first | (with_reducible assumption) | assumption); have q351 : (ji22) < ((rd_L1 l0 x28_2).length : Int) := of_decide_eq_true (by first | (with_reducible assumption) | assumption); obtain ⟨ad351, e351, hx351_0⟩ := Kd.at_int HR346_0.out (ji22) p351 q351; obtain rfl : ad349 = ad351 := (by injection e351); replace p351 := eq_true p351; replace q351 := eq_true q351; have p352 : 0 ≤ ((ji27) : Int) := of_decide_eq_true (by first | (with_reducible assumption) | assumption); have q352 : (ji27) < (l0.length : Int) := of_decide_eq_true (by first | (with_reducible assumption) | assumption); obtain ⟨ad352, A352_0, c352_0, e352, hx352_0, hl352_0, hi352_0⟩ := at_L1 HR0.out (ji27) p352 q352; obtain rfl : ad346 = ad352 := (by injection e352); have HR352_0 := Aside0.mk hi352_0; have HC352_0 := Aside0.mk hl352_0; clear hi352_0 hl352_0; replace p352 := eq_true p352; replace q352 := eq_true q352; have p353 : 0 ≤ (x53_4 : Int) := of_decide_eq_true (by first | (with_reducible assumption) | assumption); have q353 : x53_4 < ((rd_L1 l0 (ji27)).length : Int) := of_decide_eq_true (by first | (with_reducible assumption) | assumption); obtain ⟨ad353, e353, hx353_0⟩ := Kd.at_int HR352_0.out x53_4 p353 q353; cases e353; replace p353 := eq_true p353; replace q353 := eq_true q353))
                                                      go_ret
                                                      exact ⟨by first | rfl | (simp; done) | (simp only [← hji22, ← hji27] <;> (first | rfl | simp)) | (simp [*]; done), by repeat (first | exact Drawn0.refl _ | apply Drawn0.step)⟩
                                                    · rw [if_neg c31] at H
                                                      have c31b0 : decide ((rd (rd_L1 l0 x28_2) x53_4) < (rd (rd_L1 l0 (ji27)) x53_4)) = false := decide_eq_false c31
                                                      clear c31
                                                      by_cases c32 : 0 ≤ (rd (rd_L1 l0 x28_2) x53_4)
                                                      · rw [if_pos c32] at H
                                                        have c32b0 := eq_true c32
                                                        have c32b1 : decide (0 ≤ (rd (rd_L1 l0 x28_2) x53_4)) = true := decide_eq_true c32
                                                        clear c32
                                                        obtain ⟨ji33, hji33⟩ : ∃ j_ : Int, (shl .i64 1 (rd (rd_L1 l0 x28_2) x53_4)) = j_ := ⟨_, rfl⟩
                                                        replace H : (spec_shGood.l1 k4 l0 (Go.bits .or .i64 x3_4 (ji33)) x28_2 (rd_L1 l0 x28_2) l0 (l0.length : Int) x28_2 (rd_L1 l0 x28_2) ((rd_L1 l0 x28_2).length : Int) (wrap64 (x53_4 + 1))) = some r := by first | (rw [hji33] at H; exact H) | (simp only [hji33] at H ⊢; exact H)
                                                        (try rw [hji33] at A19)
                                                        have hji33_ : (IntKind.i64.wrap (1 * 2 ^ min (rd (rd_L1 l0 x28_2) x53_4).toNat 64)) = ji33 := hji33
                                                        have hji33z : (rd (rd_L1 l0 x28_2) x53_4) ≤ 64 → (IntKind.i64.wrap (1 * 2 ^ (rd (rd_L1 l0 x28_2) x53_4).toNat)) = ji33 := shl_small hji33
                                                        have hji33u : (IntKind.i64.wrap (2 ^ min (rd (rd_L1 l0 x28_2) x53_4).toNat 64)) = ji33 := by have h_ := hji33_; rw [Int.one_mul] at h_; exact h_
                                                        have hji33v : (rd (rd_L1 l0 x28_2) x53_4) ≤ 64 → (IntKind.i64.wrap (2 ^ (rd (rd_L1 l0 x28_2) x53_4).toNat)) = ji33 := fun hle_ => by have h_ := hji33z hle_; rw [Int.one_mul] at h_; exact h_
                                                        have hji33y : (wrap64 (1 * 2 ^ min (rd (rd_L1 l0 x28_2) x53_4).toNat 64)) = ji33 := (i64_w _).symm.trans hji33_
                                                        have hji33x : (rd (rd_L1 l0 x28_2) x53_4) ≤ 64 → (wrap64 (1 * 2 ^ (rd (rd_L1 l0 x28_2) x53_4).toNat)) = ji33 := fun h_ => (i64_w _).symm.trans (hji33z h_)
                                                        have H' := Aside0.mk H
                                                        clear H
                                                        have p349 : 0 ≤ (x53_4 : Int) := of_decide_eq_true (by first | (with_reducible assumption) | assumption)
                                                        have q349 : x53_4 < ((rd_L1 l0 x28_2).length : Int) := of_decide_eq_true (by first | (with_reducible assumption) | assumption)
                                                        obtain ⟨ad349, e349, hx349_0⟩ := Kd.at_int HR346_0.out x53_4 p349 q349
                                                        cases e349
                                                        replace p349 := eq_true p349
                                                        replace q349 := eq_true q349
                                                        go_wp2_with (first | ((with_reducible refine gate_callee (f := 61) rfl ?_); refine goesL_ (some 60) rfl rfl Try.func61 (by kernel_rfl) rfl #[.int .i64 x3_4, .int .i64 (rd (rd_L1 l0 x28_2) x53_4)] rfl (by (try simp only [List.map_toArray, List.map_cons, List.map_nil]); first | done | rfl | (simp only [List.length_drop, List.length_take]; rfl)) ?_; (with_reducible refine (spec_poIn.calls x3_4 (rd (rd_L1 l0 x28_2) x53_4) false _ A19.out).mono ?_); rintro e w' ⟨rfl, ⟨nd, rfl⟩⟩; refine ⟨_, rfl, ?_⟩; have p351 : 0 ≤ ((ji22) : Int) := of_decide_eq_true (by first | (with_reducible assumption) | assumption); have q351 : (ji22) < ((rd_L1 l0 x28_2).length : Int) := of_decide_eq_true (by first | (with_reducible assumption) | assumption); obtain ⟨ad351, e351, hx351_0⟩ := Kd.at_int HR346_0.out (ji22) p351 q351; obtain rfl : ad349 = ad351 := (by injection e351); replace p351 := eq_true p351; replace q351 := eq_true q351; have p352 : 0 ≤ ((ji27) : Int) := of_decide_eq_true (by first | (with_reducible assumption) | assumption); have q352 : (ji27) < (l0.length : Int) := of_decide_eq_true (by first | (with_reducible assumption) | assumption); obtain ⟨ad352, A352_0, c352_0, e352, hx352_0, hl352_0, hi352_0⟩ := at_L1 HR0.out (ji27) p352 q352; obtain rfl : ad346 = ad352 := (by injection e352); have HR352_0 := Aside0.mk hi352_0; have HC352_0 := Aside0.mk hl352_0; clear hi352_0 hl352_0; replace p352 := eq_true p352; replace q352 := eq_true q352; have p353 : 0 ≤ (x53_4 : Int) := of_decide_eq_true (by first | (with_reducible assumption) | assumption); have q353 : x53_4 < ((rd_L1 l0 (ji27)).length : Int) := of_decide_eq_true (by first | (with_reducible assumption) | assumption); obtain ⟨ad353, e353, hx353_0⟩ := Kd.at_int HR352_0.out x53_4 p353 q353; cases e353; replace p353 := eq_true p353; replace q353 := eq_true q353))
                                                        go_roundg k4
                                                        case measure => have := HJ1.out; have := HK2.out; have := HJ10.out; have := HK4.out; omega
                                                        case rel => exact ⟨(Go.bits .or .i64 x3_4 (ji33)), (wrap64 (x53_4 + 1)), (by first | rfl | (simp; done) | (simp only [← hji33] <;> (first | rfl | simp)) | (simp [*]; done)), (by first | rfl | (simp; done) | (simp [*]; done)), H', ⟨by have := HJ1.out; have := HK2.out; have := HJ10.out; have := HK4.out; omega⟩, by repeat (first | exact Drawn0.refl _ | apply Drawn0.step)⟩
                                                      · rw [if_neg c32] at H
                                                        exact absurd H (by simp)
                                                  · rw [if_neg c30] at H
                                                    exact absurd H (by simp)
                                                · rw [if_neg c29] at H
                                                  exact absurd H (by simp)
                                              · rw [if_neg c28] at H
                                                exact absurd H (by simp)
                                            · rw [if_neg c26] at H
                                              have c26b0 : decide (0 < x28_2) = false := decide_eq_false c26
                                              clear c26
                                              by_cases c34 : 0 ≤ (rd (rd_L1 l0 x28_2) x53_4)
                                              · rw [if_pos c34] at H
                                                have c34b0 := eq_true c34
                                                have c34b1 : decide (0 ≤ (rd (rd_L1 l0 x28_2) x53_4)) = true := decide_eq_true c34
                                                clear c34
                                                obtain ⟨ji35, hji35⟩ : ∃ j_ : Int, (shl .i64 1 (rd (rd_L1 l0 x28_2) x53_4)) = j_ := ⟨_, rfl⟩
                                                replace H : (spec_shGood.l1 k4 l0 (Go.bits .or .i64 x3_4 (ji35)) x28_2 (rd_L1 l0 x28_2) l0 (l0.length : Int) x28_2 (rd_L1 l0 x28_2) ((rd_L1 l0 x28_2).length : Int) (wrap64 (x53_4 + 1))) = some r := by first | (rw [hji35] at H; exact H) | (simp only [hji35] at H ⊢; exact H)
                                                (try rw [hji35] at A19)
                                                have hji35_ : (IntKind.i64.wrap (1 * 2 ^ min (rd (rd_L1 l0 x28_2) x53_4).toNat 64)) = ji35 := hji35
                                                have hji35z : (rd (rd_L1 l0 x28_2) x53_4) ≤ 64 → (IntKind.i64.wrap (1 * 2 ^ (rd (rd_L1 l0 x28_2) x53_4).toNat)) = ji35 := shl_small hji35
                                                have hji35u : (IntKind.i64.wrap (2 ^ min (rd (rd_L1 l0 x28_2) x53_4).toNat 64)) = ji35 := by have h_ := hji35_; rw [Int.one_mul] at h_; exact h_
                                                have hji35v : (rd (rd_L1 l0 x28_2) x53_4) ≤ 64 → (IntKind.i64.wrap (2 ^ (rd (rd_L1 l0 x28_2) x53_4).toNat)) = ji35 := fun hle_ => by have h_ := hji35z hle_; rw [Int.one_mul] at h_; exact h_
                                                have hji35y : (wrap64 (1 * 2 ^ min (rd (rd_L1 l0 x28_2) x53_4).toNat 64)) = ji35 := (i64_w _).symm.trans hji35_
                                                have hji35x : (rd (rd_L1 l0 x28_2) x53_4) ≤ 64 → (wrap64 (1 * 2 ^ (rd (rd_L1 l0 x28_2) x53_4).toNat)) = ji35 := fun h_ => (i64_w _).symm.trans (hji35z h_)
                                                have H' := Aside0.mk H
                                                clear H
                                                have p349 : 0 ≤ (x53_4 : Int) := of_decide_eq_true (by first | (with_reducible assumption) | assumption)
                                                have q349 : x53_4 < ((rd_L1 l0 x28_2).length : Int) := of_decide_eq_true (by first | (with_reducible assumption) | assumption)
                                                obtain ⟨ad349, e349, hx349_0⟩ := Kd.at_int HR346_0.out x53_4 p349 q349
                                                cases e349
                                                replace p349 := eq_true p349
                                                replace q349 := eq_true q349
                                                go_wp2_with (first | ((with_reducible refine gate_callee (f := 61) rfl ?_); refine goesL_ (some 60) rfl rfl Try.func61 (by kernel_rfl) rfl #[.int .i64 x3_4, .int .i64 (rd (rd_L1 l0 x28_2) x53_4)] rfl (by (try simp only [List.map_toArray, List.map_cons, List.map_nil]); first | done | rfl | (simp only [List.length_drop, List.length_take]; rfl)) ?_; (with_reducible refine (spec_poIn.calls x3_4 (rd (rd_L1 l0 x28_2) x53_4) false _ A19.out).mono ?_); rintro e w' ⟨rfl, ⟨nd, rfl⟩⟩; refine ⟨_, rfl, ?_⟩; have p351 : 0 ≤ ((ji22) : Int) := of_decide_eq_true (by first | (with_reducible assumption) | assumption); have q351 : (ji22) < ((rd_L1 l0 x28_2).length : Int) := of_decide_eq_true (by first | (with_reducible assumption) | assumption); obtain ⟨ad351, e351, hx351_0⟩ := Kd.at_int HR346_0.out (ji22) p351 q351; obtain rfl : ad349 = ad351 := (by injection e351); replace p351 := eq_true p351; replace q351 := eq_true q351))
                                                go_roundg k4
                                                case measure => have := HJ1.out; have := HK2.out; have := HJ10.out; have := HK4.out; omega
                                                case rel => exact ⟨(Go.bits .or .i64 x3_4 (ji35)), (wrap64 (x53_4 + 1)), (by first | rfl | (simp; done) | (simp only [← hji35] <;> (first | rfl | simp)) | (simp [*]; done)), (by first | rfl | (simp; done) | (simp [*]; done)), H', ⟨by have := HJ1.out; have := HK2.out; have := HJ10.out; have := HK4.out; omega⟩, by repeat (first | exact Drawn0.refl _ | apply Drawn0.step)⟩
                                              · rw [if_neg c34] at H
                                                exact absurd H (by simp)
                                        · rw [if_neg c24] at H
                                          exact absurd H (by simp)
                                      · rw [if_neg c23] at H
                                        exact absurd H (by simp)
                                    · rw [if_neg c21] at H
                                      have c21b0 : decide (0 < x53_4) = false := decide_eq_false c21
                                      clear c21
                                      by_cases c36 : x28_2 > 0
                                      · rw [if_pos c36] at H
                                        have c36b0 : decide (0 < x28_2) = true := decide_eq_true c36
                                        clear c36
                                        obtain ⟨ji37, hji37⟩ : ∃ j_ : Int, (wrap64 (x28_2 - 1)) = j_ := ⟨_, rfl⟩
                                        replace H : (if 0 ≤ (ji37) then (if (ji37) < (l0.length : Int) then (if x53_4 < ((rd_L1 l0 (ji37)).length : Int) then (if (rd (rd_L1 l0 (ji37)) x53_4) > (rd (rd_L1 l0 x28_2) x53_4) then (some false) else (if 0 ≤ (rd (rd_L1 l0 x28_2) x53_4) then (spec_shGood.l1 k4 l0 (Go.bits .or .i64 x3_4 (shl .i64 1 (rd (rd_L1 l0 x28_2) x53_4))) x28_2 (rd_L1 l0 x28_2) l0 (l0.length : Int) x28_2 (rd_L1 l0 x28_2) ((rd_L1 l0 x28_2).length : Int) (wrap64 (x53_4 + 1))) else (none))) else (none)) else (none)) else (none)) = some r := by first | (rw [hji37] at H; exact H) | (simp only [hji37] at H ⊢; exact H)
                                        (try rw [hji37] at A19)
                                        have hji37w : (IntKind.i64.wrap (x28_2 - 1)) = ji37 := (i64_w _).trans hji37
                                        by_cases c38 : 0 ≤ (ji37)
                                        · rw [if_pos c38] at H
                                          have c38b0 : decide (0 ≤ (ji37)) = true := decide_eq_true c38
                                          clear c38
                                          by_cases c39 : (ji37) < (l0.length : Int)
                                          · rw [if_pos c39] at H
                                            have c39b0 : decide ((ji37) < (l0.length : Int)) = true := decide_eq_true c39
                                            clear c39
                                            by_cases c40 : x53_4 < ((rd_L1 l0 (ji37)).length : Int)
                                            · rw [if_pos c40] at H
                                              have c40b0 : decide (x53_4 < ((rd_L1 l0 (ji37)).length : Int)) = true := decide_eq_true c40
                                              clear c40
                                              by_cases c41 : (rd (rd_L1 l0 (ji37)) x53_4) > (rd (rd_L1 l0 x28_2) x53_4)
                                              · rw [if_pos c41] at H
                                                have c41b0 : decide ((rd (rd_L1 l0 x28_2) x53_4) < (rd (rd_L1 l0 (ji37)) x53_4)) = true := decide_eq_true c41
                                                clear c41
                                                obtain rfl := Option.some.inj H
                                                have p349 : 0 ≤ (x53_4 : Int) := of_decide_eq_true (by first | (with_reducible assumption) | assumption)
                                                have q349 : x53_4 < ((rd_L1 l0 x28_2).length : Int) := of_decide_eq_true (by first | (with_reducible assumption) | assumption)
                                                obtain ⟨ad349, e349, hx349_0⟩ := Kd.at_int HR346_0.out x53_4 p349 q349
                                                cases e349
                                                replace p349 := eq_true p349
                                                replace q349 := eq_true q349
                                                go_wp2_with (first | ((with_reducible refine gate_callee (f := 61) rfl ?_); refine goesL_ (some 60) rfl rfl Try.func61 (by kernel_rfl) rfl #[.int .i64 x3_4, .int .i64 (rd (rd_L1 l0 x28_2) x53_4)] rfl (by (try simp only [List.map_toArray, List.map_cons, List.map_nil]); first | done | rfl | (simp only [List.length_drop, List.length_take]; rfl)) ?_; (with_reducible refine (spec_poIn.calls x3_4 (rd (rd_L1 l0 x28_2) x53_4) false _ A19.out).mono ?_); rintro e w' ⟨rfl, ⟨nd, rfl⟩⟩; refine ⟨_, rfl, ?_⟩; have p354 : 0 ≤ ((ji37) : Int) := of_decide_eq_true (by first | (with_reducible assumption) | assumption); have q354 : (ji37) < (l0.length : Int) := of_decide_eq_true (by first | (with_reducible assumption) | assumption); obtain ⟨ad354, A354_0, c354_0, e354, hx354_0, hl354_0, hi354_0⟩ := at_L1 HR0.out (ji37) p354 q354; obtain rfl : ad346 = ad354 := (by injection e354); have HR354_0 := Aside0.mk hi354_0; have HC354_0 := Aside0.mk hl354_0; clear hi354_0 hl354_0; replace p354 := eq_true p354; replace q354 := eq_true q354; have p355 : 0 ≤ (x53_4 : Int) := of_decide_eq_true (by first | (with_reducible assumption) | assumption); have q355 : x53_4 < ((rd_L1 l0 (ji37)).length : Int) := of_decide_eq_true (by first | (with_reducible assumption) | assumption); obtain ⟨ad355, e355, hx355_0⟩ := Kd.at_int HR354_0.out x53_4 p355 q355; cases e355; replace p355 := eq_true p355; replace q355 := eq_true q355))
                                                go_ret
                                                exact ⟨by first | rfl | (simp; done) | (simp only [← hji37] <;> (first | rfl | simp)) | (simp [*]; done), by repeat (first | exact Drawn0.refl _ | apply Drawn0.step)⟩
                                              · rw [if_neg c41] at H
                                                have c41b0 : decide ((rd (rd_L1 l0 x28_2) x53_4) < (rd (rd_L1 l0 (ji37)) x53_4)) = false := decide_eq_false c41
                                                clear c41
                                                by_cases c42 : 0 ≤ (rd (rd_L1 l0 x28_2) x53_4)
                                                · rw [if_pos c42] at H
                                                  have c42b0 := eq_true c42
                                                  have c42b1 : decide (0 ≤ (rd (rd_L1 l0 x28_2) x53_4)) = true := decide_eq_true c42
                                                  clear c42
                                                  obtain ⟨ji43, hji43⟩ : ∃ j_ : Int, (shl .i64 1 (rd (rd_L1 l0 x28_2) x53_4)) = j_ := ⟨_, rfl⟩
                                                  replace H : (spec_shGood.l1 k4 l0 (Go.bits .or .i64 x3_4 (ji43)) x28_2 (rd_L1 l0 x28_2) l0 (l0.length : Int) x28_2 (rd_L1 l0 x28_2) ((rd_L1 l0 x28_2).length : Int) (wrap64 (x53_4 + 1))) = some r := by first | (rw [hji43] at H; exact H) | (simp only [hji43] at H ⊢; exact H)
                                                  (try rw [hji43] at A19)
                                                  have hji43_ : (IntKind.i64.wrap (1 * 2 ^ min (rd (rd_L1 l0 x28_2) x53_4).toNat 64)) = ji43 := hji43
                                                  have hji43z : (rd (rd_L1 l0 x28_2) x53_4) ≤ 64 → (IntKind.i64.wrap (1 * 2 ^ (rd (rd_L1 l0 x28_2) x53_4).toNat)) = ji43 := shl_small hji43
                                                  have hji43u : (IntKind.i64.wrap (2 ^ min (rd (rd_L1 l0 x28_2) x53_4).toNat 64)) = ji43 := by have h_ := hji43_; rw [Int.one_mul] at h_; exact h_
                                                  have hji43v : (rd (rd_L1 l0 x28_2) x53_4) ≤ 64 → (IntKind.i64.wrap (2 ^ (rd (rd_L1 l0 x28_2) x53_4).toNat)) = ji43 := fun hle_ => by have h_ := hji43z hle_; rw [Int.one_mul] at h_; exact h_
                                                  have hji43y : (wrap64 (1 * 2 ^ min (rd (rd_L1 l0 x28_2) x53_4).toNat 64)) = ji43 := (i64_w _).symm.trans hji43_
                                                  have hji43x : (rd (rd_L1 l0 x28_2) x53_4) ≤ 64 → (wrap64 (1 * 2 ^ (rd (rd_L1 l0 x28_2) x53_4).toNat)) = ji43 := fun h_ => (i64_w _).symm.trans (hji43z h_)
                                                  have H' := Aside0.mk H
                                                  clear H
                                                  have p349 : 0 ≤ (x53_4 : Int) := of_decide_eq_true (by first | (with_reducible assumption) | assumption)
                                                  have q349 : x53_4 < ((rd_L1 l0 x28_2).length : Int) := of_decide_eq_true (by first | (with_reducible assumption) | assumption)
                                                  obtain ⟨ad349, e349, hx349_0⟩ := Kd.at_int HR346_0.out x53_4 p349 q349
                                                  cases e349
                                                  replace p349 := eq_true p349
                                                  replace q349 := eq_true q349
                                                  go_wp2_with (first | ((with_reducible refine gate_callee (f := 61) rfl ?_); refine goesL_ (some 60) rfl rfl Try.func61 (by kernel_rfl) rfl #[.int .i64 x3_4, .int .i64 (rd (rd_L1 l0 x28_2) x53_4)] rfl (by (try simp only [List.map_toArray, List.map_cons, List.map_nil]); first | done | rfl | (simp only [List.length_drop, List.length_take]; rfl)) ?_; (with_reducible refine (spec_poIn.calls x3_4 (rd (rd_L1 l0 x28_2) x53_4) false _ A19.out).mono ?_); rintro e w' ⟨rfl, ⟨nd, rfl⟩⟩; refine ⟨_, rfl, ?_⟩; have p354 : 0 ≤ ((ji37) : Int) := of_decide_eq_true (by first | (with_reducible assumption) | assumption); have q354 : (ji37) < (l0.length : Int) := of_decide_eq_true (by first | (with_reducible assumption) | assumption); obtain ⟨ad354, A354_0, c354_0, e354, hx354_0, hl354_0, hi354_0⟩ := at_L1 HR0.out (ji37) p354 q354; obtain rfl : ad346 = ad354 := (by injection e354); have HR354_0 := Aside0.mk hi354_0; have HC354_0 := Aside0.mk hl354_0; clear hi354_0 hl354_0; replace p354 := eq_true p354; replace q354 := eq_true q354; have p355 : 0 ≤ (x53_4 : Int) := of_decide_eq_true (by first | (with_reducible assumption) | assumption); have q355 : x53_4 < ((rd_L1 l0 (ji37)).length : Int) := of_decide_eq_true (by first | (with_reducible assumption) | assumption); obtain ⟨ad355, e355, hx355_0⟩ := Kd.at_int HR354_0.out x53_4 p355 q355; cases e355; replace p355 := eq_true p355; replace q355 := eq_true q355))
                                                  go_roundg k4
                                                  case measure => have := HJ1.out; have := HK2.out; have := HJ10.out; have := HK4.out; omega
                                                  case rel => exact ⟨(Go.bits .or .i64 x3_4 (ji43)), (wrap64 (x53_4 + 1)), (by first | rfl | (simp; done) | (simp only [← hji43] <;> (first | rfl | simp)) | (simp [*]; done)), (by first | rfl | (simp; done) | (simp [*]; done)), H', ⟨by have := HJ1.out; have := HK2.out; have := HJ10.out; have := HK4.out; omega⟩, by repeat (first | exact Drawn0.refl _ | apply Drawn0.step)⟩
                                                · rw [if_neg c42] at H
                                                  exact absurd H (by simp)
                                            · rw [if_neg c40] at H
                                              exact absurd H (by simp)
                                          · rw [if_neg c39] at H
                                            exact absurd H (by simp)
                                        · rw [if_neg c38] at H
                                          exact absurd H (by simp)
                                      · rw [if_neg c36] at H
                                        have c36b0 : decide (0 < x28_2) = false := decide_eq_false c36
                                        clear c36
                                        by_cases c44 : 0 ≤ (rd (rd_L1 l0 x28_2) x53_4)
                                        · rw [if_pos c44] at H
                                          have c44b0 := eq_true c44
                                          have c44b1 : decide (0 ≤ (rd (rd_L1 l0 x28_2) x53_4)) = true := decide_eq_true c44
                                          clear c44
                                          obtain ⟨ji45, hji45⟩ : ∃ j_ : Int, (shl .i64 1 (rd (rd_L1 l0 x28_2) x53_4)) = j_ := ⟨_, rfl⟩
                                          replace H : (spec_shGood.l1 k4 l0 (Go.bits .or .i64 x3_4 (ji45)) x28_2 (rd_L1 l0 x28_2) l0 (l0.length : Int) x28_2 (rd_L1 l0 x28_2) ((rd_L1 l0 x28_2).length : Int) (wrap64 (x53_4 + 1))) = some r := by first | (rw [hji45] at H; exact H) | (simp only [hji45] at H ⊢; exact H)
                                          (try rw [hji45] at A19)
                                          have hji45_ : (IntKind.i64.wrap (1 * 2 ^ min (rd (rd_L1 l0 x28_2) x53_4).toNat 64)) = ji45 := hji45
                                          have hji45z : (rd (rd_L1 l0 x28_2) x53_4) ≤ 64 → (IntKind.i64.wrap (1 * 2 ^ (rd (rd_L1 l0 x28_2) x53_4).toNat)) = ji45 := shl_small hji45
                                          have hji45u : (IntKind.i64.wrap (2 ^ min (rd (rd_L1 l0 x28_2) x53_4).toNat 64)) = ji45 := by have h_ := hji45_; rw [Int.one_mul] at h_; exact h_
                                          have hji45v : (rd (rd_L1 l0 x28_2) x53_4) ≤ 64 → (IntKind.i64.wrap (2 ^ (rd (rd_L1 l0 x28_2) x53_4).toNat)) = ji45 := fun hle_ => by have h_ := hji45z hle_; rw [Int.one_mul] at h_; exact h_
                                          have hji45y : (wrap64 (1 * 2 ^ min (rd (rd_L1 l0 x28_2) x53_4).toNat 64)) = ji45 := (i64_w _).symm.trans hji45_
                                          have hji45x : (rd (rd_L1 l0 x28_2) x53_4) ≤ 64 → (wrap64 (1 * 2 ^ (rd (rd_L1 l0 x28_2) x53_4).toNat)) = ji45 := fun h_ => (i64_w _).symm.trans (hji45z h_)
                                          have H' := Aside0.mk H
                                          clear H
                                          have p349 : 0 ≤ (x53_4 : Int) := of_decide_eq_true (by first | (with_reducible assumption) | assumption)
                                          have q349 : x53_4 < ((rd_L1 l0 x28_2).length : Int) := of_decide_eq_true (by first | (with_reducible assumption) | assumption)
                                          obtain ⟨ad349, e349, hx349_0⟩ := Kd.at_int HR346_0.out x53_4 p349 q349
                                          cases e349
                                          replace p349 := eq_true p349
                                          replace q349 := eq_true q349
                                          go_wp2_with (first | ((with_reducible refine gate_callee (f := 61) rfl ?_); refine goesL_ (some 60) rfl rfl Try.func61 (by kernel_rfl) rfl #[.int .i64 x3_4, .int .i64 (rd (rd_L1 l0 x28_2) x53_4)] rfl (by (try simp only [List.map_toArray, List.map_cons, List.map_nil]); first | done | rfl | (simp only [List.length_drop, List.length_take]; rfl)) ?_; (with_reducible refine (spec_poIn.calls x3_4 (rd (rd_L1 l0 x28_2) x53_4) false _ A19.out).mono ?_); rintro e w' ⟨rfl, ⟨nd, rfl⟩⟩; refine ⟨_, rfl, ?_⟩))
                                          go_roundg k4
                                          case measure => have := HJ1.out; have := HK2.out; have := HJ10.out; have := HK4.out; omega
                                          case rel => exact ⟨(Go.bits .or .i64 x3_4 (ji45)), (wrap64 (x53_4 + 1)), (by first | rfl | (simp; done) | (simp only [← hji45] <;> (first | rfl | simp)) | (simp [*]; done)), (by first | rfl | (simp; done) | (simp [*]; done)), H', ⟨by have := HJ1.out; have := HK2.out; have := HJ10.out; have := HK4.out; omega⟩, by repeat (first | exact Drawn0.refl _ | apply Drawn0.step)⟩
                                        · rw [if_neg c44] at H
                                          exact absurd H (by simp)
                                · rw [if_neg c18] at H
                                  exact absurd H (by simp)
                              · rw [if_neg c17] at H
                                exact absurd H (by simp)
                            · rw [if_neg c16] at H
                              have c16b0 : decide (x53_4 < ((rd_L1 l0 x28_2).length : Int)) = false := decide_eq_false c16
                              clear c16
                              have H' := Aside0.mk H
                              clear H
                              go_wp2
                              go_roundg k4
                              case measure => have := HJ1.out; have := HK2.out; have := HJ10.out; have := HK4.out; omega
                              case rel => exact ⟨(x3_4), (wrap64 (x28_2 + 1)), (by first | rfl | (simp; done) | (simp [*]; done)), (by first | rfl | (simp; done) | (simp [*]; done)), H', ⟨by have := HJ1.out; have := HK2.out; have := HJ10.out; have := HK4.out; omega⟩, by repeat (first | exact Drawn0.refl _ | apply Drawn0.step)⟩
                · rw [if_neg c10] at H
                  exact absurd H (by simp)
              · rw [if_neg c9] at H
                exact absurd H (by simp)
            · rw [if_neg c8] at H
              have c8b0 : decide (x28_2 < (l0.length : Int)) = false := decide_eq_false c8
              clear c8
              obtain rfl := Option.some.inj H
              go_wp2
              go_ret
              exact ⟨by first | rfl | (simp; done) | (simp [*]; done), by repeat (first | exact Drawn0.refl _ | apply Drawn0.step)⟩

end Go.Proofs.Ytfahkoimleiknaa.F
end

section
namespace Go.Proofs.Ytfahkoimleiknaa.F
open Go.RowKit Go.Proofs.YtfahkoimleiknaaW.PrintWords Go.Proofs.YtfahkoimleiknaaW.PrintLast Go.Proofs.YtfahkoimleiknaaW.PrintMore
attribute [local go_sem] max2_int min2_int max_two min_two max_three min_three max_four min_four
set_option linter.unusedVariables false
set_option linter.unusedSimpArgs false

/-! ### spec_TableauOf: function 34 -/
def spec_TableauOf.f (k : Nat) (a0 : Int) (a1 : Int) (l2 : List Int) : Option ((List (List Int)) × Bool) := (spec_shSides.f a0 a1).bind fun t455 => (if t455 = true then ((spec_poRectangle.f k a0 a1).bind fun t456 => ((spec_liIs.f k t456 l2).bind fun t459 => (if t459 = true then ((spec_shRows.f k a0 a1 l2).bind fun t460 => (some (t460, true))) else (some (([] : List (List Int)), false))))) else (some (([] : List (List Int)), false)))
theorem spec_TableauOf.mono : ∀ a0 a1 a2 k, LeO (spec_TableauOf.f k a0 a1 a2) (spec_TableauOf.f (k + 1) a0 a1 a2) := by
  intro a0 a1 a2 k
  unfold spec_TableauOf.f
  repeat' first
      | (with_reducible exact spec_liIs.mono _ _ _)
      | (with_reducible exact spec_poRectangle.mono _ _ _)
      | (with_reducible exact spec_shRows.mono _ _ _ _)
      | (with_reducible exact LeO.refl _)
      | (with_reducible exact LeO.none _)
      | (with_reducible refine LeO.ite ?_ ?_)
      | (with_reducible refine LeO.bind ?_ (fun _ => ?_))
      | exact spec_liIs.mono _ _ _
      | exact spec_poRectangle.mono _ _ _
      | exact spec_shRows.mono _ _ _ _
      | exact LeO.none _
      | refine LeO.ite ?_ ?_
      | refine LeO.bind ?_ (fun _ => ?_)
set_option maxHeartbeats 8000000 in
set_option maxRecDepth 100000 in
theorem spec_TableauOf.calls (k : Nat) (a0 : Int) (a1 : Int) (A2 : Option Addr) (c2 : Nat) (l2 : List Int) (r1 : List (List Int)) (r2 : Bool) (w : World) (hr2 : Kd.C (Kd.int .i64) w A2 l2.length l2) (hc2 : l2.length ≤ c2) (h : spec_TableauOf.f k a0 a1 l2 = some (r1, r2)) :
    Calls Try.prog 34 #[.int .i64 a0, .int .i64 a1, .slice A2 l2.length c2] w fun e w' => ∃ v0_ : Value, e = .returned (.tuple #[v0_, .bool r2]) ∧ Kd.S (Kd.slice 3 (Kd.int .i64)) 22 w' w.heap.size (fun _ => True) v0_ r1 ∧ Below w.heap.size w w' := by
  have HR2 := Aside0.mk hr2
  have HC2 := Aside0.mk hc2
  clear hr2 hc2
  have HB := Aside0.mk (Below.refl w.heap.size w)
  have H : ((spec_shSides.f a0 a1).bind fun t455 => (if t455 = true then ((spec_poRectangle.f k a0 a1).bind fun t456 => ((spec_liIs.f k t456 l2).bind fun t459 => (if t459 = true then ((spec_shRows.f k a0 a1 l2).bind fun t460 => (some (t460, true))) else (some (([] : List (List Int)), false))))) else (some (([] : List (List Int)), false)))) = some (r1, r2) := h
  clear h
  replace H := Option.bind_eq_some_iff.mp H
  obtain ⟨t455, A40, H⟩ := H
  replace H : (if t455 = true then ((spec_poRectangle.f k a0 a1).bind fun t456 => ((spec_liIs.f k t456 l2).bind fun t459 => (if t459 = true then ((spec_shRows.f k a0 a1 l2).bind fun t460 => (some (t460, true))) else (some (([] : List (List Int)), false))))) else (some (([] : List (List Int)), false))) = some (r1, r2) := H
  have A4 := Aside0.mk A40
  clear A40
  by_cases c5 : t455 = true
  · subst c5
    have H1 : ((spec_poRectangle.f k a0 a1).bind fun t456 => ((spec_liIs.f k t456 l2).bind fun t459 => (if t459 = true then ((spec_shRows.f k a0 a1 l2).bind fun t460 => (some (t460, true))) else (some (([] : List (List Int)), false))))) = some (r1, r2) := by rw [if_pos rfl] at H; exact H
    clear H
    have H := H1
    clear H1
    replace H := Option.bind_eq_some_iff.mp H
    obtain ⟨t456, A60, H⟩ := H
    replace H : ((spec_liIs.f k t456 l2).bind fun t459 => (if t459 = true then ((spec_shRows.f k a0 a1 l2).bind fun t460 => (some (t460, true))) else (some (([] : List (List Int)), false)))) = some (r1, r2) := H
    have A6 := Aside0.mk A60
    clear A60
    replace H := Option.bind_eq_some_iff.mp H
    obtain ⟨t459, A70, H⟩ := H
    replace H : (if t459 = true then ((spec_shRows.f k a0 a1 l2).bind fun t460 => (some (t460, true))) else (some (([] : List (List Int)), false))) = some (r1, r2) := H
    have A7 := Aside0.mk A70
    clear A70
    by_cases c8 : t459 = true
    · subst c8
      have H1 : ((spec_shRows.f k a0 a1 l2).bind fun t460 => (some (t460, true))) = some (r1, r2) := by rw [if_pos rfl] at H; exact H
      clear H
      have H := H1
      clear H1
      replace H := Option.bind_eq_some_iff.mp H
      obtain ⟨t460, A90, H⟩ := H
      replace H : (some (t460, true)) = some (r1, r2) := H
      have A9 := Aside0.mk A90
      clear A90
      simp only [Option.some.injEq, Prod.mk.injEq] at H
      obtain ⟨rfl, rfl⟩ := H
      go_enter Try.func34, Try.ntmps34
      go_wp2_with (first | ((with_reducible refine gate_callee (f := 69) rfl ?_); refine goesL_ (some 10) rfl rfl Try.func69 (by kernel_rfl) rfl #[.int .i64 a0, .int .i64 a1] rfl (by (try simp only [List.map_toArray, List.map_cons, List.map_nil]); first | done | rfl | (simp only [List.length_drop, List.length_take]; rfl)) ?_; (with_reducible refine (spec_shSides.calls a0 a1 true _ A4.out).mono ?_); rintro e w' ⟨rfl, ⟨nd, rfl⟩⟩; refine ⟨_, rfl, ?_⟩) | (go_at_call 71; (with_reducible refine (spec_poRectangle.calls k a0 a1 t456 _ A6.out).mono ?_); rintro e w10 ⟨v457, rfl, ho0, hb⟩; have n0_ := Aside0.mk (Kd.R_lower ho0 (below_size (by repeat (first | (with_reducible first | exact HB.out | apply below_alloc | apply pw_below_drewN | apply below_drew1) | exact HB.out)))); have n1_ := Aside0.mk (below_step (by repeat (first | (with_reducible first | exact HB.out | apply below_alloc | apply pw_below_drewN | apply below_drew1) | exact HB.out)) hb); clear HB; have HO458 := n0_; have HB := n1_; clear n0_ n1_; (try clear hb); (try clear hb2); (try clear hk); (try clear hi); (try clear ho0); obtain ⟨Ao11, co11, eo11⟩ := Kd.R_slice HO458.out; subst eo11) | (go_at_call 70; (with_reducible refine (spec_liIs.calls k _ _ t456 _ _ l2 true _ ?side1 ?side2 ?side3 ?side4 A7.out).mono ?_); (case side1 => repeat (first | exact (Kd.R_reads' HO458.out).2.2 | (with_reducible refine Kd.C_alloc ?_ _) | (with_reducible refine Kd.C_drewN ?_ _) | (with_reducible refine Kd.C_drew ?_))); (case side2 => exact (Kd.R_reads' HO458.out).2.1); (case side3 => repeat (first | exact (Kd.C_below HR2.out HB.out) | (with_reducible refine Kd.C_alloc ?_ _) | (with_reducible refine Kd.C_drewN ?_ _) | (with_reducible refine Kd.C_drew ?_))); (case side4 => exact HC2.out); rintro e w12 ⟨rfl, hb⟩; have n0_ := Aside0.mk (Kd.R_below (by (with_reducible repeat (first | apply Kd.R_alloc | apply Kd.R_drewN | apply Kd.R_drew)); exact HO458.out) hb); have n1_ := Aside0.mk (below_step (by repeat (first | (with_reducible first | exact HB.out | apply below_alloc | apply pw_below_drewN | apply below_drew1) | exact HB.out)) hb); clear HO458; clear HB; have HO458 := n0_; have HB := n1_; clear n0_ n1_; (try clear hb); (try clear hb2); (try clear hk); (try clear hi)) | ((with_reducible refine gate_callee (f := 72) rfl ?_); refine goesL_ (some 23) rfl rfl Try.func72 (by kernel_rfl) rfl #[.int .i64 a0, .int .i64 a1, .slice A2 l2.length c2] rfl (by (try simp only [List.map_toArray, List.map_cons, List.map_nil]); first | done | rfl | (simp only [List.length_drop, List.length_take]; rfl)) ?_; (with_reducible refine (spec_shRows.calls k a0 a1 _ _ l2 t460 _ ?side1 ?side2 A9.out).mono ?_); (case side1 => repeat (first | exact (Kd.C_below HR2.out HB.out) | (with_reducible refine Kd.C_alloc ?_ _) | (with_reducible refine Kd.C_drewN ?_ _) | (with_reducible refine Kd.C_drew ?_))); (case side2 => exact HC2.out); rintro e w13 ⟨v461, rfl, ho0, hb⟩; refine ⟨_, rfl, ?_⟩; have n0_ := Aside0.mk (Kd.R_below (by (with_reducible repeat (first | apply Kd.R_alloc | apply Kd.R_drewN | apply Kd.R_drew)); exact HO458.out) hb); have n1_ := Aside0.mk (Kd.S_lower (Kd.S_new' ho0 (Kd.R_lt (by (with_reducible repeat (first | apply Kd.R_alloc | apply Kd.R_drewN | apply Kd.R_drew)); exact HO458.out))) (below_size (by repeat (first | (with_reducible first | exact HB.out | apply below_alloc | apply pw_below_drewN | apply below_drew1) | exact HB.out)))); have n2_ := Aside0.mk (below_step (by repeat (first | (with_reducible first | exact HB.out | apply below_alloc | apply pw_below_drewN | apply below_drew1) | exact HB.out)) hb); clear HO458; clear HB; have HO458 := n0_; have HO462 := n1_; have HB := n2_; clear n0_ n1_ n2_; (try clear hb); (try clear hb2); (try clear hk); (try clear hi); (try clear ho0)))
      go_ret2
      exact ⟨_, by first | rfl | (simp [errW_none, errW_some] <;> rfl) | (simp [*, errW_none, errW_some] <;> rfl), by (with_reducible repeat (first | apply Kd.S_alloc | apply Kd.S_drewN | apply Kd.S_drew)); exact Kd.S_mono HO462.out (fun _ hk => trivial), by repeat (first | (with_reducible first | exact HB.out | apply below_alloc | apply pw_below_drewN | apply below_drew1) | exact HB.out)⟩
    · replace c8 := Bool.eq_false_iff.mpr c8
      subst c8
      have H1 : (some (([] : List (List Int)), false)) = some (r1, r2) := by rw [if_neg (show ¬ (false = true) by decide)] at H; exact H
      clear H
      have H := H1
      clear H1
      simp only [Option.some.injEq, Prod.mk.injEq] at H
      obtain ⟨rfl, rfl⟩ := H
      go_enter Try.func34, Try.ntmps34
      go_wp2_with (first | ((with_reducible refine gate_callee (f := 69) rfl ?_); refine goesL_ (some 10) rfl rfl Try.func69 (by kernel_rfl) rfl #[.int .i64 a0, .int .i64 a1] rfl (by (try simp only [List.map_toArray, List.map_cons, List.map_nil]); first | done | rfl | (simp only [List.length_drop, List.length_take]; rfl)) ?_; (with_reducible refine (spec_shSides.calls a0 a1 true _ A4.out).mono ?_); rintro e w' ⟨rfl, ⟨nd, rfl⟩⟩; refine ⟨_, rfl, ?_⟩) | (go_at_call 71; (with_reducible refine (spec_poRectangle.calls k a0 a1 t456 _ A6.out).mono ?_); rintro e w14 ⟨v457, rfl, ho0, hb⟩; have n0_ := Aside0.mk (Kd.R_lower ho0 (below_size (by repeat (first | (with_reducible first | exact HB.out | apply below_alloc | apply pw_below_drewN | apply below_drew1) | exact HB.out)))); have n1_ := Aside0.mk (below_step (by repeat (first | (with_reducible first | exact HB.out | apply below_alloc | apply pw_below_drewN | apply below_drew1) | exact HB.out)) hb); clear HB; have HO458 := n0_; have HB := n1_; clear n0_ n1_; (try clear hb); (try clear hb2); (try clear hk); (try clear hi); (try clear ho0); obtain ⟨Ao15, co15, eo15⟩ := Kd.R_slice HO458.out; subst eo15) | (go_at_call 70; (with_reducible refine (spec_liIs.calls k _ _ t456 _ _ l2 false _ ?side1 ?side2 ?side3 ?side4 A7.out).mono ?_); (case side1 => repeat (first | exact (Kd.R_reads' HO458.out).2.2 | (with_reducible refine Kd.C_alloc ?_ _) | (with_reducible refine Kd.C_drewN ?_ _) | (with_reducible refine Kd.C_drew ?_))); (case side2 => exact (Kd.R_reads' HO458.out).2.1); (case side3 => repeat (first | exact (Kd.C_below HR2.out HB.out) | (with_reducible refine Kd.C_alloc ?_ _) | (with_reducible refine Kd.C_drewN ?_ _) | (with_reducible refine Kd.C_drew ?_))); (case side4 => exact HC2.out); rintro e w16 ⟨rfl, hb⟩; have n0_ := Aside0.mk (Kd.R_below (by (with_reducible repeat (first | apply Kd.R_alloc | apply Kd.R_drewN | apply Kd.R_drew)); exact HO458.out) hb); have n1_ := Aside0.mk (below_step (by repeat (first | (with_reducible first | exact HB.out | apply below_alloc | apply pw_below_drewN | apply below_drew1) | exact HB.out)) hb); clear HO458; clear HB; have HO458 := n0_; have HB := n1_; clear n0_ n1_; (try clear hb); (try clear hb2); (try clear hk); (try clear hi)))
      go_ret2
      exact ⟨_, by first | rfl | (simp [errW_none, errW_some] <;> rfl) | (simp [*, errW_none, errW_some] <;> rfl), by first | exact Kd.S_nil _ _ _ _ _ | exact Kd.N_nil _ _ _ _ _ | exact Kd.V_nil _ _ _ _ _ | exact Kd.Q_nil _ _ _ _ _ | exact Kd.R_nil _ _ _ _ _, by repeat (first | (with_reducible first | exact HB.out | apply below_alloc | apply pw_below_drewN | apply below_drew1) | exact HB.out)⟩
  · replace c5 := Bool.eq_false_iff.mpr c5
    subst c5
    have H1 : (some (([] : List (List Int)), false)) = some (r1, r2) := by rw [if_neg (show ¬ (false = true) by decide)] at H; exact H
    clear H
    have H := H1
    clear H1
    simp only [Option.some.injEq, Prod.mk.injEq] at H
    obtain ⟨rfl, rfl⟩ := H
    go_enter Try.func34, Try.ntmps34
    go_wp2_with (first | ((with_reducible refine gate_callee (f := 69) rfl ?_); refine goesL_ (some 10) rfl rfl Try.func69 (by kernel_rfl) rfl #[.int .i64 a0, .int .i64 a1] rfl (by (try simp only [List.map_toArray, List.map_cons, List.map_nil]); first | done | rfl | (simp only [List.length_drop, List.length_take]; rfl)) ?_; (with_reducible refine (spec_shSides.calls a0 a1 false _ A4.out).mono ?_); rintro e w' ⟨rfl, ⟨nd, rfl⟩⟩; refine ⟨_, rfl, ?_⟩))
    go_ret2
    exact ⟨_, by first | rfl | (simp [errW_none, errW_some] <;> rfl) | (simp [*, errW_none, errW_some] <;> rfl), by first | exact Kd.S_nil _ _ _ _ _ | exact Kd.N_nil _ _ _ _ _ | exact Kd.V_nil _ _ _ _ _ | exact Kd.Q_nil _ _ _ _ _ | exact Kd.R_nil _ _ _ _ _, by repeat (first | (with_reducible first | exact HB.out | apply below_alloc | apply pw_below_drewN | apply below_drew1) | exact HB.out)⟩

end Go.Proofs.Ytfahkoimleiknaa.F
end

section
namespace Go.Proofs.Ytfahkoimleiknaa.Q
open Go.RowKit Go.Proofs.YtfahkoimleiknaaW.PrintWords
set_option linter.unusedVariables false
theorem wid {n : Int} (h0 : -9223372036854775808 ≤ n) (h1 : n ≤ 9223372036854775807) : wrap64 n = n := by unfold wrap64; omega
theorem wid1 {i n : Nat} (h : i < n) (hn : n ≤ 9223372036854775807) : wrap64 ((i : Int) + 1) = ((i + 1 : Nat) : Int) := by unfold wrap64; omega
theorem rdN (l : List Int) (i : Nat) : rd l (i : Int) = l.getD i 0 := by unfold rd; simp
theorem rdN' {l : List Int} {i : Nat} (h : i < l.length) : rd l (i : Int) = l[i] := by rw [rdN, List.getD_eq_getElem?_getD, List.getElem?_eq_getElem h]; rfl
theorem downTo {P : Nat → Prop} (n : Nat) (h0 : P n) (hs : ∀ i, i < n → P (i + 1) → P i) : ∀ i, i ≤ n → P i := by
  intro i hi
  obtain ⟨d, hd⟩ : ∃ d, n - i = d := ⟨_, rfl⟩
  induction d generalizing i with
  | zero => have : i = n := by omega
            subst this; exact h0
  | succ d ih => exact hs i (by omega) (ih (i + 1) (by omega) (by omega))
theorem evc {α : Type} {g : Nat → Option α} {r r' : α} (h : Ev g r) (e : r = r') : Ev g r' := e ▸ h
theorem Ev.ret {α : Type} {r r' : α} (e : r = r') : Ev (fun _ => some r) r' := e ▸ Ev.now r
/-- A call that needs no rounds. -/
theorem Ev.call {α β : Type} {o : Option α} {a : α} {f : Nat → α → Option β} {r : β} (h : o = some a) (k : Ev (fun n => f n a) r) : Ev (fun n => o.bind (f n)) r := by
  subst h; exact k
theorem Ev.yes {α : Type} {c : Prop} [Decidable c] {f g : Nat → Option α} {r : α} (h : c) (k : Ev f r) : Ev (fun n => if c then f n else g n) r := by
  obtain ⟨K, k⟩ := k
  exact ⟨K, fun n hn => by show (if c then f n else g n) = _; rw [if_pos h]; exact k n hn⟩
theorem Ev.no {α : Type} {c : Prop} [Decidable c] {f g : Nat → Option α} {r : α} (h : ¬ c) (k : Ev g r) : Ev (fun n => if c then f n else g n) r := by
  obtain ⟨K, k⟩ := k
  exact ⟨K, fun n hn => by show (if c then f n else g n) = _; rw [if_neg h]; exact k n hn⟩
theorem Ev.ite {α : Type} {c : Prop} [Decidable c] {f g : Nat → Option α} {r : α} (h1 : c → Ev f r) (h2 : ¬ c → Ev g r) : Ev (fun n => if c then f n else g n) r := by
  by_cases h : c
  · exact Ev.yes h (h1 h)
  · exact Ev.no h (h2 h)
theorem Ev.uniq {α : Type} {g : Nat → Option α} {r r' : α} (h : Ev g r) (h' : Ev g r') : r = r' := by
  obtain ⟨K, h⟩ := h
  obtain ⟨K', h'⟩ := h'
  have a := h (max K K') (by omega)
  have b := h' (max K K') (by omega)
  rw [a] at b
  exact Option.some.inj b
theorem Ev.const {α : Type} {o : Option α} {r : α} (h : o = some r) : Ev (fun _ => o) r := ⟨0, fun _ _ => h⟩

/-! ### bits -/
/-- The elements of a that are not in b. -/
def ndiff (a b : Nat) : Nat := a ^^^ (a &&& b)
theorem ndiff_bit (a b i : Nat) : (ndiff a b).testBit i = (a.testBit i && !b.testBit i) := by
  unfold ndiff; rw [Nat.testBit_xor, Nat.testBit_and]; cases a.testBit i <;> cases b.testBit i <;> rfl
theorem wrap_i64_id {n : Int} (h0 : -9223372036854775808 ≤ n) (h1 : n ≤ 9223372036854775807) : IntKind.i64.wrap n = n := by rw [IntKind.wrap_i64]; omega
theorem wraps62 (n : Int) (h0 : 0 ≤ n) (h1 : n < 2 ^ 62) : IntKind.i64.wrap n = n := wrap_i64_id (by omega) (by omega)
theorem bits_andN {a b : Nat} (ha : a < 2 ^ 62) (hb : b < 2 ^ 62) : Go.bits .and .i64 (a : Int) (b : Int) = ((a &&& b : Nat) : Int) :=
  (Go.bits_nat .i64 62 (by decide) wraps62 a b ha hb).1
theorem bits_orN {a b : Nat} (ha : a < 2 ^ 62) (hb : b < 2 ^ 62) : Go.bits .or .i64 (a : Int) (b : Int) = ((a ||| b : Nat) : Int) :=
  (Go.bits_nat .i64 62 (by decide) wraps62 a b ha hb).2
theorem lt_pow {a n m : Nat} (h : a < 2 ^ n) (hnm : n ≤ m) : a < 2 ^ m := Nat.lt_of_lt_of_le h (Nat.pow_le_pow_right (by decide) hnm)
theorem ndiff_le (a b : Nat) : ndiff a b ≤ a := by
  have h := Nat.and_le_left (n := a) (m := b)
  have hx : ndiff a b &&& (a &&& b) = 0 := by
    apply Nat.eq_of_testBit_eq
    intro i
    rw [Nat.testBit_and, ndiff_bit, Nat.testBit_and, Nat.zero_testBit]
    cases a.testBit i <;> cases b.testBit i <;> rfl
  apply Nat.le_of_testBit
  intro i hi
  rw [ndiff_bit] at hi
  simp at hi
  exact hi.1
theorem ndiff_lt {a b m : Nat} (h : a < m) : ndiff a b < m := Nat.lt_of_le_of_lt (ndiff_le a b) h
theorem bits_andNotN {a b : Nat} (ha : a < 2 ^ 62) (hb : b < 2 ^ 62) : Go.bits .andNot .i64 (a : Int) (b : Int) = ((ndiff a b : Nat) : Int) := by
  have e : Go.bits .andNot .i64 (a : Int) (b : Int) = IntKind.i64.wrap ((((BitVec.ofInt 64 a) &&& ~~~(BitVec.ofInt 64 b)).toNat : Nat) : Int) := rfl
  have e2 : ((BitVec.ofInt 64 (a : Int)) &&& ~~~(BitVec.ofInt 64 (b : Int))).toNat = ndiff a b := by
    apply Nat.eq_of_testBit_eq
    intro i
    rw [ndiff_bit, BitVec.ofInt_natCast, BitVec.ofInt_natCast]
    rw [BitVec.testBit_toNat, BitVec.getLsbD_and, BitVec.getLsbD_not, BitVec.getLsbD_ofNat, BitVec.getLsbD_ofNat]
    by_cases hi : i < 64
    · simp [hi]
    · have : a.testBit i = false := Nat.testBit_lt_two_pow (lt_pow ha (by omega))
      simp [hi, this]
  rw [e, e2]
  have h2 := ndiff_lt (b := b) ha
  exact wrap_i64_id (by omega) (by omega)
theorem shlN {i : Nat} (hi : i ≤ 61) : shl .i64 1 (i : Int) = ((2 ^ i : Nat) : Int) := by
  unfold shl
  have h1 : min (i : Int).toNat (IntKind.bits .i64) = i := by simp [IntKind.bits]; omega
  rw [h1]
  have h2 : (2 : Nat) ^ i < 2 ^ 62 := Nat.pow_lt_pow_right (by decide) (by omega)
  have e : (1 : Int) * 2 ^ i = ((2 ^ i : Nat) : Int) := by rw [Int.one_mul]; exact (Int.natCast_pow 2 i).symm
  rw [e]
  exact wraps62 _ (Int.natCast_nonneg _) (by
    have : ((2 ^ i : Nat) : Int) < ((4611686018427387904 : Nat) : Int) := by exact_mod_cast h2
    exact this)
theorem shrN (a i : Nat) (hi : i ≤ 64) : shr .i64 (a : Int) (i : Int) = ((a / 2 ^ i : Nat) : Int) := by
  unfold shr
  have h1 : min (i : Int).toNat (IntKind.bits .i64) = i := by simp [IntKind.bits]; omega
  rw [h1, Int.natCast_ediv, Int.natCast_pow]; rfl
theorem odd_bit (a i : Nat) : ((a / 2 ^ i) % 2 == 1) = a.testBit i := by
  rw [Nat.testBit_eq_decide_div_mod_eq]; rfl
theorem or_lt {a b n : Nat} (ha : a < 2 ^ n) (hb : b < 2 ^ n) : a ||| b < 2 ^ n := Nat.or_lt_two_pow ha hb
theorem bit_lt {a n i : Nat} (h : a < 2 ^ n) (hi : n ≤ i) : a.testBit i = false := Nat.testBit_lt_two_pow (lt_pow h hi)
theorem lt_of_bit {a n i : Nat} (h : a < 2 ^ n) (hi : a.testBit i = true) : i < n := by
  rcases Nat.lt_or_ge i n with h1 | h1
  · exact h1
  · rw [bit_lt h h1] at hi; cases hi
theorem pow_bit (i j : Nat) : (2 ^ i).testBit j = decide (i = j) := by
  rw [Nat.testBit_two_pow]
theorem pow_lt_pow {i n : Nat} (h : i < n) : 2 ^ i < 2 ^ n := Nat.pow_lt_pow_right (by decide) h
theorem ext_bits {a b n : Nat} (ha : a < 2 ^ n) (hb : b < 2 ^ n) (h : ∀ i, i < n → a.testBit i = b.testBit i) : a = b := by
  apply Nat.eq_of_testBit_eq
  intro i
  rcases Nat.lt_or_ge i n with h1 | h1
  · exact h i h1
  · rw [bit_lt ha h1, bit_lt hb h1]
end Go.Proofs.Ytfahkoimleiknaa.Q
end

section
namespace Go.Proofs.Ytfahkoimleiknaa.Q
open Go.RowKit Go.Proofs.YtfahkoimleiknaaW.PrintWords
set_option linter.unusedVariables false
/-- f holds at i, i + 1, .., n - 1. -/
def allFrom (f : Nat → Bool) (n i : Nat) : Bool := (List.range' i (n - i)).all f
theorem allFrom_end (f : Nat → Bool) (n : Nat) : allFrom f n n = true := by simp [allFrom]
theorem allFrom_step (f : Nat → Bool) {n i : Nat} (h : i < n) : allFrom f n i = (f i && allFrom f n (i + 1)) := by
  unfold allFrom
  obtain ⟨d, hd⟩ : ∃ d, n - i = d + 1 := ⟨n - i - 1, by omega⟩
  rw [hd, List.range'_succ, List.all_cons, show n - (i + 1) = d by omega]
theorem allFrom_iff (f : Nat → Bool) (n i : Nat) : allFrom f n i = true ↔ ∀ j, i ≤ j → j < n → f j = true := by
  unfold allFrom
  rw [List.all_eq_true]
  constructor
  · intro h j h1 h2
    exact h j (List.mem_range'_1.2 ⟨h1, by omega⟩)
  · intro h j hj
    obtain ⟨h1, h2⟩ := List.mem_range'_1.1 hj
    exact h j h1 (by omega)
theorem allFrom_congr {f g : Nat → Bool} {n i : Nat} (h : ∀ j, i ≤ j → j < n → f j = g j) : allFrom f n i = allFrom g n i := by
  rw [Bool.eq_iff_iff, allFrom_iff, allFrom_iff]
  exact ⟨fun H j a b => by rw [← h j a b]; exact H j a b, fun H j a b => by rw [h j a b]; exact H j a b⟩
theorem pow_int (i : Nat) : ((2 : Int) ^ i) = ((2 ^ i : Nat) : Int) := (Int.natCast_pow 2 i).symm
theorem mask_eq {i : Nat} (hi : i ≤ 61) : wrap64 ((shl .i64 1 (i : Int)) - 1) = (2 : Int) ^ i - 1 := by
  rw [shlN hi, pow_int]
  have h2 : (2 : Nat) ^ i ≤ 2 ^ 61 := Nat.pow_le_pow_right (by decide) hi
  have hp : 0 < 2 ^ i := Nat.two_pow_pos i
  apply wid <;> generalize 2 ^ i = z at * <;> omega
theorem bit_test {a : Nat} {j : Nat} (hj : j ≤ 64) : (Int.tmod (shr .i64 (a : Int) (j : Int)) 2 = 1) ↔ a.testBit j = true := by
  rw [shrN a j hj, Int.tmod_eq_emod_of_nonneg (Int.natCast_nonneg _), ← odd_bit, beq_iff_eq]
  omega
theorem range_false {a b : Int} {x : Int} (h : ¬ (a ≤ x ∧ x ≤ b)) : (decide (a ≤ x) && decide (x ≤ b)) = false := by
  rw [← Bool.not_eq_true, Bool.and_eq_true, decide_eq_true_eq, decide_eq_true_eq]; exact h
theorem range_true {a b : Int} {x : Int} (h : a ≤ x ∧ x ≤ b) : (decide (a ≤ x) && decide (x ≤ b)) = true := by
  rw [Bool.and_eq_true, decide_eq_true_eq, decide_eq_true_eq]; exact h
end Go.Proofs.Ytfahkoimleiknaa.Q
end

section
namespace Go.Proofs.Ytfahkoimleiknaa.Q
open Go.RowKit Go.Proofs.YtfahkoimleiknaaW.PrintWords Go.Proofs.Ytfahkoimleiknaa.F
set_option linter.unusedVariables false
theorem l1In_eq (a b c : Int) : spec_l1In.f a b c = some (decide (b ≤ a) && decide (a ≤ c)) := by
  unfold spec_l1In.f
  by_cases h : b ≤ a
  · rw [if_pos h]; simp [h]
  · rw [if_neg h]; simp [h]
end Go.Proofs.Ytfahkoimleiknaa.Q
end

section
namespace Go.Proofs.Ytfahkoimleiknaa.Q
open Go.RowKit Go.Proofs.YtfahkoimleiknaaW.PrintWords Go.Proofs.Ytfahkoimleiknaa.F
set_option linter.unusedVariables false
theorem has_eq {a j : Nat} (ha : a < 2 ^ 62) (hj : j ≤ 64) : impl_has.f (a : Int) (j : Int) = some (a.testBit j) := by
  unfold impl_has.f
  rw [if_pos (Int.natCast_nonneg _), shrN a j hj]
  congr 1
  have h1 : a / 2 ^ j < 2 ^ 62 := Nat.lt_of_le_of_lt (Nat.div_le_self _ _) ha
  have := bits_andN (a := a / 2 ^ j) (b := 1) h1 (by decide)
  rw [show ((1 : Nat) : Int) = 1 from rfl] at this
  rw [this, ← odd_bit, Nat.and_one_is_mod]
  rw [Bool.eq_iff_iff, beq_iff_eq, beq_iff_eq]
  omega

end Go.Proofs.Ytfahkoimleiknaa.Q
end

section
namespace Go.Proofs.Ytfahkoimleiknaa.Q
open Go.RowKit Go.Proofs.YtfahkoimleiknaaW.PrintWords Go.Proofs.Ytfahkoimleiknaa.F
set_option linter.unusedVariables false
def inR (a b x : Int) : Bool := decide (a ≤ x) && decide (x ≤ b)
theorem inR_iff {a b x : Int} : inR a b x = true ↔ a ≤ x ∧ x ≤ b := by unfold inR; rw [Bool.and_eq_true, decide_eq_true_eq, decide_eq_true_eq]
theorem l1All_ev (l : List Int) (a b : Int) (h : l.length ≤ 9223372036854775807) : Ev (fun k => spec_l1All.f k l a b) (allFrom (fun i => inR a b (l.getD i 0)) l.length 0) := by
  unfold spec_l1All.f
  have key : ∀ i, i ≤ l.length → Ev (fun k => spec_l1All.l0 k a b l (l.length : Int) (i : Int)) (allFrom (fun i => inR a b (l.getD i 0)) l.length i) := by
    refine downTo _ ?_ ?_
    · refine Ev.step (by intro k; simp only [spec_l1All.l0]; rfl) (Ev.no (by omega) (Ev.ret (allFrom_end _ _).symm))
    · intro i hi ih
      refine Ev.step (by intro k; simp only [spec_l1All.l0]; rfl) (Ev.yes (by omega) (Ev.yes (by omega) (Ev.yes (by omega) ?_)))
      rw [wid1 hi (by omega), rdN, allFrom_step _ hi]
      refine Ev.call (l1In_eq _ _ _) ?_
      show Ev (fun k => if inR a b (l.getD i 0) = true then _ else _) (inR a b (l.getD i 0) && _)
      cases inR a b (l.getD i 0) with
      | true => exact Ev.yes rfl (evc ih (by simp))
      | false => exact Ev.no (by simp) (Ev.ret rfl)
  exact key 0 (by omega)
end Go.Proofs.Ytfahkoimleiknaa.Q
end

section
namespace Go.Proofs.Ytfahkoimleiknaa.Q
open Go.RowKit Go.Proofs.YtfahkoimleiknaaW.PrintWords
set_option linter.unusedVariables false
theorem getD_set {α : Type} (l : List α) (i j : Nat) (v d : α) (hi : i < l.length) : (l.set i v).getD j d = if i = j then v else l.getD j d := by
  simp only [List.getD_eq_getElem?_getD, List.getElem?_set]
  by_cases h : i = j
  · subst h; simp [hi]
  · simp [h]
theorem ext_getD {a b : List Int} (hl : a.length = b.length) (h : ∀ i, i < a.length → a.getD i 0 = b.getD i 0) : a = b := by
  apply List.ext_getElem hl
  intro i h1 h2
  have := h i h1
  rw [List.getD_eq_getElem?_getD, List.getD_eq_getElem?_getD, List.getElem?_eq_getElem h1, List.getElem?_eq_getElem h2] at this
  exact this
theorem reverse_getD (l : List Int) (i : Nat) (h : i < l.length) : l.reverse.getD i 0 = l.getD (l.length - 1 - i) 0 := by
  rw [List.getD_eq_getElem?_getD, List.getD_eq_getElem?_getD, List.getElem?_reverse h]
end Go.Proofs.Ytfahkoimleiknaa.Q
end

section
namespace Go.Proofs.Ytfahkoimleiknaa.Q
open Go.RowKit Go.Proofs.YtfahkoimleiknaaW.PrintWords Go.Proofs.Ytfahkoimleiknaa.F
set_option linter.unusedVariables false
theorem eqIntS_ev (a b : List Int) (h : a.length ≤ 9223372036854775807) : Ev (fun k => laws_eqIntS.f k a b) (decide (a = b)) := by
  unfold laws_eqIntS.f
  refine Ev.ite (fun hl => ?_) (fun hl => Ev.ret ?_)
  · have hl' : a.length = b.length := by omega
    have key : ∀ i, i ≤ a.length → a.take i = b.take i → Ev (fun k => laws_eqIntS.l0 k a b (i : Int)) (decide (a = b)) := by
      refine downTo _ ?_ ?_
      · intro hp
        refine Ev.step (by intro k; simp only [laws_eqIntS.l0]; rfl) (Ev.no (by omega) (Ev.ret ?_))
        rw [List.take_length, hl', List.take_length] at hp
        simp [hp]
      · intro i hi ih hp
        refine Ev.step (by intro k; simp only [laws_eqIntS.l0]; rfl) (Ev.yes (by omega) (Ev.yes (by omega) (Ev.yes (by omega) ?_)))
        rw [wid1 hi (by omega), rdN, rdN]
        have ga : a.getD i 0 = a[i] := by rw [List.getD_eq_getElem?_getD, List.getElem?_eq_getElem hi]; rfl
        have gb : b.getD i 0 = b[i]'(by omega) := by rw [List.getD_eq_getElem?_getD, List.getElem?_eq_getElem (by omega)]; rfl
        rw [ga, gb]
        refine Ev.ite (fun h => ih ?_) (fun h => Ev.ret ?_)
        · rw [List.take_add_one, List.take_add_one, hp, List.getElem?_eq_getElem hi, List.getElem?_eq_getElem (show i < b.length by omega), h]
        · rw [decide_eq_false]
          intro e
          subst e
          exact h rfl
    exact key 0 (by omega) rfl
  · rw [decide_eq_false]
    intro e
    subst e
    exact hl rfl
theorem eqIntS_refl (a : List Int) (h : a.length ≤ 9223372036854775807) : Ev (fun k => laws_eqIntS.f k a a) true := evc (eqIntS_ev a a h) (by simp)
end Go.Proofs.Ytfahkoimleiknaa.Q
end

section
namespace Go.Proofs.Ytfahkoimleiknaa.Q
open Go.RowKit Go.Proofs.YtfahkoimleiknaaW.PrintWords Go.Proofs.Ytfahkoimleiknaa.F
set_option linter.unusedVariables false
theorem eqPoset_refl (a : List Int) (h : a.length ≤ 9223372036854775807) : Ev (fun k => laws_eqPoset.f k a a) true := by
  unfold laws_eqPoset.f
  exact Ev.bind (eqIntS_refl a h) (Ev.yes rfl (Ev.ret rfl))
end Go.Proofs.Ytfahkoimleiknaa.Q
end

section
namespace Go.Proofs.Ytfahkoimleiknaa.Q
open Go.RowKit Go.Proofs.YtfahkoimleiknaaW.PrintWords Go.Proofs.Ytfahkoimleiknaa.F
set_option linter.unusedVariables false
theorem szIntS_eq (l : List Int) (a : Nat) (ha : a ≤ 1048576) (h : l.length ≤ maxLen) : laws_szIntS.f l (a : Int) = some (if l.length ≤ a then ((a - l.length : Nat) : Int) else -1) := by
  unfold laws_szIntS.f
  unfold maxLen at h
  have e : wrap64 ((a : Int) - (l.length : Int)) = (a : Int) - (l.length : Int) := wid (by omega) (by omega)
  rw [e]
  by_cases hc : l.length ≤ a
  · rw [if_neg (by omega), if_pos hc]; congr 1; omega
  · rw [if_pos (by omega), if_neg hc]
end Go.Proofs.Ytfahkoimleiknaa.Q
end

section
namespace Go.Proofs.Ytfahkoimleiknaa.Q
open Go.RowKit Go.Proofs.YtfahkoimleiknaaW.PrintWords Go.Proofs.Ytfahkoimleiknaa.F
set_option linter.unusedVariables false
theorem szPoset_eq (l : List Int) (a : Nat) (ha : a ≤ 1048576) (h : l.length ≤ maxLen) : laws_szPoset.f l (a : Int) = some (if l.length ≤ a then ((a - l.length : Nat) : Int) else -1) := by
  unfold laws_szPoset.f
  rw [szIntS_eq l a ha h]
  by_cases hc : l.length ≤ a
  · simp only [if_pos hc, Option.bind_some]; rw [if_neg (by omega)]
  · simp only [if_neg hc, Option.bind_some]; rw [if_pos (by omega)]
end Go.Proofs.Ytfahkoimleiknaa.Q
end

section
namespace Go.Proofs.Ytfahkoimleiknaa.Q
open Go.RowKit Go.Proofs.YtfahkoimleiknaaW.PrintWords Go.Proofs.Ytfahkoimleiknaa.F
set_option linter.unusedVariables false
theorem toIntS_ev (l : List Int) (h : l.length ≤ 1048576) : Ev (fun k => laws_toIntS.f k l) l := by
  unfold laws_toIntS.f
  refine Ev.yes (by omega) (Ev.yes (by omega) ?_)
  have key : ∀ i, i ≤ l.length → ∀ acc : List Int, acc.length = l.length → acc.take i = l.take i → Ev (fun k => laws_toIntS.l0 k l acc (i : Int)) l := by
    refine downTo _ ?_ ?_
    · intro acc ha hi
      refine Ev.step (by intro k; simp only [laws_toIntS.l0]; rfl) (Ev.no (by omega) (Ev.ret ?_))
      rw [List.take_length, ← ha, List.take_length] at hi
      exact hi
    · intro i hi ih acc ha hp
      refine Ev.step (by intro k; simp only [laws_toIntS.l0]; rfl) (Ev.yes (by omega) (Ev.yes (by omega) (Ev.yes (by omega) ?_)))
      rw [wid1 hi (by omega), rdN, Int.toNat_natCast]
      refine ih _ (by simp [ha]) ?_
      rw [List.take_add_one, List.take_add_one, List.take_set_of_le (Nat.le_refl _), hp, List.getElem?_set, List.getD_eq_getElem?_getD, List.getElem?_eq_getElem hi]
      simp [ha, hi]
  exact key 0 (by omega) _ (by simp) (by simp)
end Go.Proofs.Ytfahkoimleiknaa.Q
end

section
namespace Go.Proofs.Ytfahkoimleiknaa.Q
open Go.RowKit Go.Proofs.YtfahkoimleiknaaW.PrintWords Go.Proofs.Ytfahkoimleiknaa.F
set_option linter.unusedVariables false
theorem toPoset_ev (l : List Int) (h : l.length ≤ 1048576) : Ev (fun k => laws_toPoset.f k l) l := by
  unfold laws_toPoset.f
  exact Ev.bind (toIntS_ev l h) (Ev.ret rfl)
end Go.Proofs.Ytfahkoimleiknaa.Q
end

section
namespace Go.Proofs.Ytfahkoimleiknaa.Q
open Go.RowKit Go.Proofs.YtfahkoimleiknaaW.PrintWords
set_option linter.unusedVariables false
/-- a, a + 1, .., n of them. -/
def upFrom (a : Nat) (n : Nat) : List Int := (List.range' a n).map Int.ofNat
theorem upFrom_len (a n : Nat) : (upFrom a n).length = n := by simp [upFrom]
theorem upFrom_get {a n i : Nat} (h : i < n) : (upFrom a n).getD i 0 = ((a + i : Nat) : Int) := by
  rw [List.getD_eq_getElem?_getD]
  simp [upFrom, h]
end Go.Proofs.Ytfahkoimleiknaa.Q
end

section
namespace Go.Proofs.Ytfahkoimleiknaa.Q
open Go.RowKit Go.Proofs.YtfahkoimleiknaaW.PrintWords Go.Proofs.Ytfahkoimleiknaa.F
set_option linter.unusedVariables false
theorem heldIntS_ev (a n : Nat) (h : a + n ≤ 4611686018427387904) : Ev (fun k => laws_heldIntS.f k (upFrom a n) (a : Int)) ((a + n : Nat) : Int) := by
  unfold laws_heldIntS.f
  have key : ∀ i, i ≤ n → Ev (fun k => laws_heldIntS.l0 k (upFrom a n) ((a + i : Nat) : Int) (i : Int)) ((a + n : Nat) : Int) := by
    refine downTo _ ?_ ?_
    · refine Ev.step (by intro k; simp only [laws_heldIntS.l0]; rfl) (Ev.no (by rw [upFrom_len]; omega) (Ev.ret rfl))
    · intro i hi ih
      refine Ev.step (by intro k; simp only [laws_heldIntS.l0]; rfl) (Ev.yes (by rw [upFrom_len]; omega) (Ev.yes (by omega) (Ev.yes ?_ ?_)))
      · rw [rdN, upFrom_get hi]
      · rw [wid1 hi (by omega), wid1 (i := a + i) (n := a + n) (by omega) (by omega)]
        exact ih
  exact key 0 (by omega)
theorem heldIntS_ev1 (n : Nat) (h : n ≤ 4611686018427387000) : Ev (fun k => laws_heldIntS.f k (upFrom 1 n) 1) ((1 + n : Nat) : Int) := heldIntS_ev 1 n (by omega)
end Go.Proofs.Ytfahkoimleiknaa.Q
end

section
namespace Go.Proofs.Ytfahkoimleiknaa.Q
open Go.RowKit Go.Proofs.YtfahkoimleiknaaW.PrintWords Go.Proofs.Ytfahkoimleiknaa.F
set_option linter.unusedVariables false
theorem markIntS_ev (l : List Int) (a : Nat) (h : a + l.length ≤ 4611686018427387904) : Ev (fun k => laws_markIntS.f k l (a : Int)) (((a + l.length : Nat) : Int), upFrom a l.length) := by
  unfold laws_markIntS.f
  have key : ∀ i, i ≤ l.length → ∀ acc : List Int, acc.length = l.length → acc.take i = upFrom a i → Ev (fun k => laws_markIntS.l0 k acc ((a + i : Nat) : Int) (i : Int)) (((a + l.length : Nat) : Int), upFrom a l.length) := by
    refine downTo _ ?_ ?_
    · intro acc ha hp
      refine Ev.step (by intro k; simp only [laws_markIntS.l0]; rfl) (Ev.no (by omega) (Ev.ret ?_))
      rw [← ha, List.take_length] at hp
      rw [hp, ha]
    · intro i hi ih acc ha hp
      refine Ev.step (by intro k; simp only [laws_markIntS.l0]; rfl) (Ev.yes (by omega) (Ev.yes (by omega) ?_))
      rw [wid1 hi (by omega), wid1 (i := a + i) (n := a + l.length) (by omega) (by omega), Int.toNat_natCast]
      refine ih _ (by simp [ha]) ?_
      rw [List.take_add_one, List.take_set_of_le (Nat.le_refl _), hp, List.getElem?_set]
      simp [ha, hi, upFrom, List.range'_concat]
  exact key 0 (by omega) l rfl (by simp [upFrom])
theorem markIntS_ev1 (l : List Int) (h : l.length ≤ 4611686018427387000) : Ev (fun k => laws_markIntS.f k l 1) (((1 + l.length : Nat) : Int), upFrom 1 l.length) := markIntS_ev l 1 (by omega)
end Go.Proofs.Ytfahkoimleiknaa.Q
end

section
namespace Go.Proofs.Ytfahkoimleiknaa.Q
open Go.RowKit Go.Proofs.YtfahkoimleiknaaW.PrintWords Go.Proofs.Ytfahkoimleiknaa.F
set_option linter.unusedVariables false
theorem markPoset_ev (l : List Int) (a : Nat) (h : a + l.length ≤ 4611686018427387904) : Ev (fun k => laws_markPoset.f k l (a : Int)) (((a + l.length : Nat) : Int), upFrom a l.length) := by
  unfold laws_markPoset.f
  exact Ev.bind (markIntS_ev l a h) (Ev.ret rfl)
theorem markPoset_ev1 (l : List Int) (h : l.length ≤ 4611686018427387000) : Ev (fun k => laws_markPoset.f k l 1) (((1 + l.length : Nat) : Int), upFrom 1 l.length) := markPoset_ev l 1 (by omega)
end Go.Proofs.Ytfahkoimleiknaa.Q
end

section
namespace Go.Proofs.Ytfahkoimleiknaa.Q
end Go.Proofs.Ytfahkoimleiknaa.Q
end

section
namespace Go.Proofs.Ytfahkoimleiknaa.Q
open Go.RowKit Go.Proofs.YtfahkoimleiknaaW.PrintWords Go.Proofs.Ytfahkoimleiknaa.F
set_option linter.unusedVariables false
theorem rdL_get {rows : List (List Int)} {i : Nat} (h : i < rows.length) : rd_L1 rows (i : Int) = rows[i] := by
  unfold rd_L1; rw [Int.toNat_natCast, List.getD_eq_getElem?_getD, List.getElem?_eq_getElem h]; rfl
def szGo : List (List Int) → Nat → Int
  | [], a => (a : Int)
  | x :: l, a => if x.length ≤ a then szGo l (a - x.length) else -1
def szR (rows : List (List Int)) (a : Nat) : Int := if rows.length ≤ a then szGo rows (a - rows.length) else -1
theorem szGo_small (rows : List (List Int)) (a : Nat) (h : ¬ szGo rows a < 0) : ∀ q ∈ rows, q.length ≤ a := by
  induction rows generalizing a with
  | nil => intro q hq; cases hq
  | cons x l ih =>
    unfold szGo at h
    by_cases hx : x.length ≤ a
    · rw [if_pos hx] at h
      intro q hq
      rcases List.mem_cons.1 hq with rfl | hq
      · exact hx
      · have := ih _ h q hq; omega
    · rw [if_neg hx] at h; omega
theorem szRows_small {rows : List (List Int)} (h : ¬ szR rows 1048576 < 0) : rows.length ≤ 1048576 ∧ ∀ q ∈ rows, q.length ≤ 1048576 := by
  unfold szR at h
  by_cases hx : rows.length ≤ 1048576
  · rw [if_pos hx] at h
    exact ⟨hx, fun q hq => by have := szGo_small rows _ h q hq; omega⟩
  · rw [if_neg hx] at h; omega
theorem szIntSS_ev (rows : List (List Int)) (a : Nat) (ha : a ≤ 1048576) (h : rows.length ≤ maxLen) (h2 : ∀ q ∈ rows, q.length ≤ maxLen) : Ev (fun k => laws_szIntSS.f k rows (a : Int)) (szR rows a) := by
  unfold laws_szIntSS.f szR
  have hm := h
  unfold maxLen at hm
  have e : wrap64 ((a : Int) - (rows.length : Int)) = (a : Int) - (rows.length : Int) := wid (by omega) (by omega)
  rw [e]
  by_cases hc : rows.length ≤ a
  · rw [if_pos hc]
    refine Ev.no (by omega) ?_
    have key : ∀ i, i ≤ rows.length → ∀ b : Nat, b ≤ a → Ev (fun k => laws_szIntSS.l0 k rows (b : Int) (i : Int)) (szGo (rows.drop i) b) := by
      refine downTo _ ?_ ?_
      · intro b _
        refine Ev.step (by intro k; simp only [laws_szIntSS.l0]; rfl) (Ev.no (by omega) (Ev.ret ?_))
        rw [List.drop_length]; rfl
      · intro i hi ih b hb
        refine Ev.step (by intro k; simp only [laws_szIntSS.l0]; rfl) (Ev.yes (by omega) (Ev.yes (by omega) ?_))
        rw [rdL_get hi, wid1 hi (by omega)]
        refine Ev.call (szIntS_eq rows[i] b (by omega) (h2 _ (List.getElem_mem hi))) ?_
        rw [List.drop_eq_getElem_cons hi, szGo]
        by_cases hx : rows[i].length ≤ b
        · rw [if_pos hx, if_pos hx]
          exact Ev.no (by omega) (ih _ (by omega))
        · rw [if_neg hx, if_neg hx]
          exact Ev.yes (by omega) (Ev.ret rfl)
    have ea : (a : Int) - (rows.length : Int) = ((a - rows.length : Nat) : Int) := by omega
    rw [ea]
    exact key 0 (by omega) _ (by omega)
  · rw [if_neg hc]
    exact Ev.yes (by omega) (Ev.ret rfl)
theorem toIntSS_ev (l : List (List Int)) (h : l.length ≤ 1048576) (h2 : ∀ q ∈ l, q.length ≤ 1048576) : Ev (fun k => laws_toIntSS.f k l) l := by
  unfold laws_toIntSS.f
  refine Ev.yes (by omega) (Ev.yes (by omega) ?_)
  have key : ∀ i, i ≤ l.length → ∀ acc : List (List Int), acc.length = l.length → acc.take i = l.take i → Ev (fun k => laws_toIntSS.l0 k l acc (i : Int)) l := by
    refine downTo _ ?_ ?_
    · intro acc ha hi
      refine Ev.step (by intro k; simp only [laws_toIntSS.l0]; rfl) (Ev.no (by omega) (Ev.ret ?_))
      rw [List.take_length, ← ha, List.take_length] at hi
      exact hi
    · intro i hi ih acc ha hp
      refine Ev.step (by intro k; simp only [laws_toIntSS.l0]; rfl) (Ev.yes (by omega) (Ev.yes (by omega) ?_))
      rw [rdL_get hi, wid1 hi (by omega)]
      refine Ev.bind (toIntS_ev _ (h2 _ (List.getElem_mem hi))) (Ev.yes (by omega) ?_)
      rw [Int.toNat_natCast]
      refine ih _ (by simp [ha]) ?_
      rw [List.take_add_one, List.take_add_one, List.take_set_of_le (Nat.le_refl _), hp, List.getElem?_set, List.getElem?_eq_getElem hi]
      simp [ha, hi]
  exact key 0 (by omega) _ (by simp) (by simp)
theorem eqIntSS_refl (a : List (List Int)) (h : a.length ≤ 9223372036854775807) (h2 : ∀ q ∈ a, q.length ≤ 9223372036854775807) : Ev (fun k => laws_eqIntSS.f k a a) true := by
  unfold laws_eqIntSS.f
  refine Ev.yes rfl ?_
  have key : ∀ i, i ≤ a.length → Ev (fun k => laws_eqIntSS.l0 k a a (i : Int)) true := by
    refine downTo _ ?_ ?_
    · exact Ev.step (by intro k; simp only [laws_eqIntSS.l0]; rfl) (Ev.no (by omega) (Ev.ret rfl))
    · intro i hi ih
      refine Ev.step (by intro k; simp only [laws_eqIntSS.l0]; rfl) (Ev.yes (by omega) (Ev.yes (by omega) (Ev.yes (by omega) ?_)))
      rw [rdL_get hi, wid1 hi (by omega)]
      exact Ev.bind (eqIntS_refl _ (h2 _ (List.getElem_mem hi))) (Ev.yes rfl ih)
  exact key 0 (by omega)
end Go.Proofs.Ytfahkoimleiknaa.Q
end

section
namespace Go.Proofs.Ytfahkoimleiknaa.Q
open Go.RowKit Go.Proofs.YtfahkoimleiknaaW.PrintWords Go.Proofs.Ytfahkoimleiknaa.F
set_option linter.unusedVariables false
theorem poIn_eq {a j : Nat} (hj : j ≤ 64) : spec_poIn.f (a : Int) (j : Int) = some (a.testBit j) := by
  unfold spec_poIn.f
  rw [if_pos (Int.natCast_nonneg _)]
  congr 1
  rw [Bool.eq_iff_iff, beq_iff_eq]
  exact bit_test hj
end Go.Proofs.Ytfahkoimleiknaa.Q
end

section
namespace Go.Proofs.Ytfahkoimleiknaa.Q
open Go.RowKit Go.Proofs.YtfahkoimleiknaaW.PrintWords
set_option linter.unusedVariables false
/-- What is less than element i, as a set. -/
def L (p : List Int) (i : Nat) : Nat := (p.getD i 0).toNat
def rowOk (p : List Int) (i : Nat) : Bool := decide (0 ≤ p.getD i 0) && decide (p.getD i 0 ≤ 2 ^ i - 1) && allFrom (fun j => !(L p i).testBit j || decide (Go.bits .andNot .i64 (p.getD j 0) (p.getD i 0) = 0)) i 0
def isPo (p : List Int) : Bool := decide (1 ≤ p.length) && decide (p.length ≤ 10) && allFrom (rowOk p) p.length 0
structure PO (p : List Int) : Prop where
  pos : 1 ≤ p.length
  small : p.length ≤ 10
  val : ∀ i, i < p.length → p.getD i 0 = (L p i : Int)
  lt : ∀ i, i < p.length → L p i < 2 ^ i
  tr : ∀ i j, i < p.length → (L p i).testBit j = true → ndiff (L p j) (L p i) = 0
theorem L_big {p : List Int} {i : Nat} (h : p.length ≤ i) : L p i = 0 := by
  unfold L; rw [List.getD_eq_getElem?_getD, List.getElem?_eq_none h]; rfl
theorem isPo_iff (p : List Int) : isPo p = true ↔ PO p := by
  unfold isPo
  rw [Bool.and_eq_true, Bool.and_eq_true, decide_eq_true_eq, decide_eq_true_eq, allFrom_iff]
  constructor
  · rintro ⟨⟨h1, h2⟩, h3⟩
    have hv : ∀ i, i < p.length → p.getD i 0 = (L p i : Int) ∧ L p i < 2 ^ i := by
      intro i hi
      have := h3 i (Nat.zero_le _) hi
      simp only [rowOk, Bool.and_eq_true, decide_eq_true_eq] at this
      obtain ⟨⟨a, b⟩, _⟩ := this
      rw [pow_int] at b
      have hp : 0 < 2 ^ i := Nat.two_pow_pos i
      unfold L
      generalize 2 ^ i = z at *
      omega
    refine ⟨h1, h2, fun i hi => (hv i hi).1, fun i hi => (hv i hi).2, fun i j hi hj => ?_⟩
    have hji : j < i := lt_of_bit (hv i hi).2 hj
    have := h3 i (Nat.zero_le _) hi
    simp only [rowOk, Bool.and_eq_true] at this
    have h4 := (allFrom_iff _ _ _).1 this.2 j (Nat.zero_le _) hji
    rw [hj] at h4
    simp only [Bool.not_true, Bool.false_or, decide_eq_true_eq] at h4
    rw [(hv i hi).1, (hv j (by omega)).1, bits_andNotN (lt_pow (hv j (by omega)).2 (by omega)) (lt_pow (hv i hi).2 (by omega))] at h4
    exact_mod_cast h4
  · intro h
    refine ⟨⟨h.pos, h.small⟩, fun i _ hi => ?_⟩
    have hs := h.small
    have hl := h.lt i hi
    simp only [rowOk, Bool.and_eq_true, decide_eq_true_eq]
    refine ⟨⟨by rw [h.val i hi]; omega, by rw [h.val i hi, pow_int]; generalize 2 ^ i = z at *; omega⟩, ?_⟩
    rw [allFrom_iff]
    intro j _ hj
    cases hb : (L p i).testBit j with
    | false => rfl
    | true =>
      simp only [Bool.not_true, Bool.false_or, decide_eq_true_eq]
      rw [h.val i hi, h.val j (by omega), bits_andNotN (lt_pow (h.lt j (by omega)) (by omega)) (lt_pow hl (by omega)), h.tr i j hi hb]
      rfl
theorem isPo_false {p : List Int} (h : ¬ PO p) : isPo p = false := by
  cases e : isPo p with
  | false => rfl
  | true => exact absurd ((isPo_iff p).1 e) h

/-- The elements of a set, in order. -/
def itemsN (m : Nat) : List Nat := (List.range 10).filter m.testBit
def ints (l : List Nat) : List Int := l.map Int.ofNat
theorem ints_len (l : List Nat) : (ints l).length = l.length := by simp [ints]
theorem ints_app (a b : List Nat) : ints (a ++ b) = ints a ++ ints b := by simp [ints]
theorem ints_get (l : List Nat) (i : Nat) : (ints l).getD i 0 = ((l.getD i 0 : Nat) : Int) := by
  simp only [ints, List.getD_eq_getElem?_getD, List.getElem?_map]
  cases l[i]? <;> rfl
theorem rd_ints (l : List Nat) (i : Nat) : rd (ints l) (i : Int) = ((l.getD i 0 : Nat) : Int) := by rw [rdN, ints_get]
theorem mem_itemsN {m j : Nat} : j ∈ itemsN m ↔ j < 10 ∧ m.testBit j = true := by
  unfold itemsN; rw [List.mem_filter, List.mem_range]
theorem itemsN_len (m : Nat) : (itemsN m).length ≤ 10 := by
  unfold itemsN; have := List.length_filter_le m.testBit (List.range 10); simpa using this
theorem rowOk_false {p : List Int} {i : Nat} (h : ¬ (0 ≤ p.getD i 0 ∧ p.getD i 0 ≤ 2 ^ i - 1)) : rowOk p i = false := by
  unfold rowOk; rw [range_false h]; rfl
theorem rowOk_true {p : List Int} {i : Nat} (h : 0 ≤ p.getD i 0 ∧ p.getD i 0 ≤ 2 ^ i - 1) :
    rowOk p i = allFrom (fun j => !(L p i).testBit j || decide (Go.bits .andNot .i64 (p.getD j 0) (p.getD i 0) = 0)) i 0 := by
  unfold rowOk; rw [range_true h]; rfl
theorem all_drop_step {α : Type} (f : α → Bool) (l : List α) (d : α) {i : Nat} (h : i < l.length) : (l.drop i).all f = (f (l.getD i d) && (l.drop (i + 1)).all f) := by
  rw [List.drop_eq_getElem_cons h, List.all_cons, List.getD_eq_getElem?_getD, List.getElem?_eq_getElem h]; rfl
theorem items_lt {m i : Nat} {j : Nat} (hm : m < 2 ^ i) (hj : j < (itemsN m).length) : (itemsN m).getD j 0 < i := by
  rw [List.getD_eq_getElem?_getD, List.getElem?_eq_getElem hj]
  have := List.getElem_mem hj
  exact lt_of_bit hm (mem_itemsN.1 this).2
theorem items_all {m i : Nat} (hm : m < 2 ^ i) (hi : i ≤ 10) (f : Nat → Bool) : (itemsN m).all f = allFrom (fun j => !m.testBit j || f j) i 0 := by
  rw [Bool.eq_iff_iff, List.all_eq_true, allFrom_iff]
  constructor
  · intro h j _ hj
    cases hb : m.testBit j with
    | false => rfl
    | true => rw [h j (mem_itemsN.2 ⟨by omega, hb⟩)]; rfl
  · intro h j hj
    obtain ⟨h1, h2⟩ := mem_itemsN.1 hj
    have := h j (Nat.zero_le _) (lt_of_bit hm h2)
    rw [h2] at this
    simpa using this
end Go.Proofs.Ytfahkoimleiknaa.Q
end

section
namespace Go.Proofs.Ytfahkoimleiknaa.Q
open Go.RowKit Go.Proofs.YtfahkoimleiknaaW.PrintWords Go.Proofs.Ytfahkoimleiknaa.F
set_option linter.unusedVariables false
theorem items_ev (m : Nat) (hm : m < 2 ^ 62) : Ev (fun k => impl_items.f k (m : Int)) (ints (itemsN m)) := by
  show Ev (fun k => impl_items.l0 k (m : Int) [] 0) _
  have key : ∀ i, i ≤ 10 → ∀ acc : List Int, acc.length ≤ i → Ev (fun k => impl_items.l0 k (m : Int) acc (i : Int)) (acc ++ ints ((List.range' i (10 - i)).filter m.testBit)) := by
    refine downTo 10 ?_ ?_
    · intro acc _
      refine Ev.step (by intro k; simp only [impl_items.l0]; rfl) ?_
      refine Ev.no (by omega) (Ev.ret (by simp [ints]))
    · intro i hi ih acc ha
      refine Ev.step (by intro k; simp only [impl_items.l0]; rfl) ?_
      refine Ev.yes (by omega) (Ev.call (has_eq hm (by omega)) ?_)
      have hr : List.range' i (10 - i) = i :: List.range' (i + 1) (10 - (i + 1)) := by
        rw [show 10 - i = (10 - (i + 1)) + 1 by omega, List.range'_succ]
      rw [hr, wid1 hi (by omega)]
      cases hb : m.testBit i with
      | true =>
        refine Ev.yes rfl (Ev.yes (by omega) (evc (ih (acc ++ [(i : Int)]) (by simp; omega)) ?_))
        rw [List.filter_cons_of_pos hb]
        simp [ints]
      | false =>
        refine Ev.no (by simp) (evc (ih acc (by omega)) ?_)
        rw [List.filter_cons_of_neg (by simp [hb])]
  have := key 0 (by omega) [] (by simp)
  exact evc this (by simp [itemsN, List.range_eq_range'])

end Go.Proofs.Ytfahkoimleiknaa.Q
end

section
namespace Go.Proofs.Ytfahkoimleiknaa.Q
open Go.RowKit Go.Proofs.YtfahkoimleiknaaW.PrintWords
set_option linter.unusedVariables false
/-- The set of the e below n with c e. -/
def maskOf : Nat → (Nat → Bool) → Nat
  | 0, _ => 0
  | n + 1, c => if c n then maskOf n c ||| 2 ^ n else maskOf n c
theorem maskOf_bit (n : Nat) (c : Nat → Bool) (i : Nat) : (maskOf n c).testBit i = (decide (i < n) && c i) := by
  induction n with
  | zero => simp [maskOf]
  | succ n ih =>
    unfold maskOf
    by_cases hc : c n = true
    · rw [if_pos hc, Nat.testBit_or, ih, pow_bit]
      by_cases h : n = i
      · subst h; simp [hc]
      · have : decide (i < n + 1) = decide (i < n) := by rw [decide_eq_decide]; omega
        rw [this]; simp [h]
    · rw [if_neg hc, ih]
      by_cases h : n = i
      · subst h; simp at hc; simp [hc]
      · have : decide (i < n + 1) = decide (i < n) := by rw [decide_eq_decide]; omega
        rw [this]
theorem maskOf_lt (n : Nat) (c : Nat → Bool) : maskOf n c < 2 ^ n := by
  apply Nat.lt_pow_two_of_testBit
  intro i hi
  rw [maskOf_bit, decide_eq_false (by omega)]; rfl
def subB (a b : Nat) : Bool := ndiff a b == 0
theorem ndiff_zero {a b : Nat} : ndiff a b = 0 ↔ ∀ i, a.testBit i = true → b.testBit i = true := by
  constructor
  · intro h i hi
    have := ndiff_bit a b i
    rw [h, hi, Nat.zero_testBit] at this
    cases hb : b.testBit i with
    | true => rfl
    | false => rw [hb] at this; simp at this
  · intro h
    apply Nat.eq_of_testBit_eq
    intro i
    rw [ndiff_bit, Nat.zero_testBit]
    cases ha : a.testBit i with
    | false => rfl
    | true => rw [h i ha]; rfl
theorem subB_iff {a b : Nat} : subB a b = true ↔ ∀ i, a.testBit i = true → b.testBit i = true := by unfold subB; rw [beq_iff_eq]; exact ndiff_zero
/-- The set of all elements of a poset. -/
def allN (p : List Int) : Nat := 2 ^ p.length - 1
theorem allN_bit (p : List Int) (i : Nat) : (allN p).testBit i = decide (i < p.length) := by unfold allN; rw [Nat.testBit_two_pow_sub_one]
theorem allN_lt (p : List Int) : allN p < 2 ^ p.length := by unfold allN; have := Nat.two_pow_pos p.length; omega
/-- A number that is a set of elements of p. -/
def setB (p : List Int) (x : Int) : Bool := decide (0 ≤ x) && decide (x ≤ ((allN p : Nat) : Int))
theorem setB_iff {p : List Int} {x : Int} : setB p x = true ↔ ∃ s : Nat, x = (s : Int) ∧ s < 2 ^ p.length := by
  unfold setB
  rw [Bool.and_eq_true, decide_eq_true_eq, decide_eq_true_eq]
  have := Nat.two_pow_pos p.length
  unfold allN
  constructor
  · rintro ⟨h1, h2⟩; exact ⟨x.toNat, by omega, by omega⟩
  · rintro ⟨s, rfl, h⟩; omega
/-- A set that has with each element all that are less. -/
def idealB (p : List Int) (s : Nat) : Bool := allFrom (fun i => !s.testBit i || subB (L p i) s) p.length 0
theorem idealB_iff {p : List Int} {s : Nat} : idealB p s = true ↔ ∀ i, i < p.length → s.testBit i = true → ∀ j, (L p i).testBit j = true → s.testBit j = true := by
  unfold idealB
  rw [allFrom_iff]
  constructor
  · intro h i hi hs
    have := h i (Nat.zero_le _) hi
    rw [hs] at this
    exact subB_iff.1 (by simpa using this)
  · intro h i _ hi
    cases hs : s.testBit i with
    | false => rfl
    | true => rw [subB_iff.2 (h i hi hs)]; rfl
def closeN (p : List Int) (s : Nat) : Nat := (itemsN s).foldl (fun a e => a ||| L p e) s
theorem foldl_or_bit (g : Nat → Nat) (l : List Nat) (a i : Nat) : (l.foldl (fun a e => a ||| g e) a).testBit i = (a.testBit i || l.any fun e => (g e).testBit i) := by
  induction l generalizing a with
  | nil => simp
  | cons x l ih => rw [List.foldl_cons, ih, Nat.testBit_or, List.any_cons, Bool.or_assoc]
theorem closeN_bit {p : List Int} {s i : Nat} : (closeN p s).testBit i = (s.testBit i || (itemsN s).any fun e => (L p e).testBit i) := foldl_or_bit _ _ _ _
theorem closeN_eq {p : List Int} (hp : PO p) {s : Nat} (hs : s < 2 ^ p.length) : (closeN p s == s) = idealB p s := by
  have hn := hp.small
  rw [Bool.eq_iff_iff, beq_iff_eq, idealB_iff]
  constructor
  · intro h i hi hb j hj
    have := closeN_bit (p := p) (s := s) (i := j)
    rw [h] at this
    rw [this]
    have : (itemsN s).any (fun e => (L p e).testBit j) = true := List.any_eq_true.2 ⟨i, mem_itemsN.2 ⟨by omega, hb⟩, hj⟩
    rw [this]; simp
  · intro h
    apply Nat.eq_of_testBit_eq
    intro i
    rw [closeN_bit]
    cases hb : s.testBit i with
    | true => rfl
    | false =>
      rw [Bool.false_or, ← Bool.not_eq_true, List.any_eq_true]
      rintro ⟨e, he, hj⟩
      obtain ⟨_, h2⟩ := mem_itemsN.1 he
      have := h e (lt_of_bit hs h2) h2 i hj
      rw [this] at hb; cases hb
theorem L_lt {p : List Int} (hp : PO p) {i : Nat} (hi : i < p.length) : L p i < 2 ^ p.length := lt_pow (hp.lt i hi) (by omega)
theorem foldl_or_lt (g : Nat → Nat) (l : List Nat) (a n : Nat) (ha : a < 2 ^ n) (hg : ∀ e, e ∈ l → g e < 2 ^ n) : l.foldl (fun a e => a ||| g e) a < 2 ^ n := by
  induction l generalizing a with
  | nil => exact ha
  | cons x l ih => exact ih _ (or_lt ha (hg x List.mem_cons_self)) (fun e he => hg e (List.mem_cons_of_mem _ he))
theorem closeN_lt {p : List Int} (hp : PO p) {s : Nat} (hs : s < 2 ^ p.length) : closeN p s < 2 ^ p.length :=
  foldl_or_lt _ _ _ _ hs (fun e he => L_lt hp (lt_of_bit hs (mem_itemsN.1 he).2))
theorem foldl_drop_step {α β : Type} (f : β → α → β) (l : List α) (d : α) (b : β) {i : Nat} (h : i < l.length) : (l.drop i).foldl f b = (l.drop (i + 1)).foldl f (f b (l.getD i d)) := by
  rw [List.drop_eq_getElem_cons h, List.foldl_cons, List.getD_eq_getElem?_getD, List.getElem?_eq_getElem h]; rfl
end Go.Proofs.Ytfahkoimleiknaa.Q
end

section
namespace Go.Proofs.Ytfahkoimleiknaa.Q
open Go.RowKit Go.Proofs.YtfahkoimleiknaaW.PrintWords Go.Proofs.Ytfahkoimleiknaa.F
set_option linter.unusedVariables false
theorem all_eq {p : List Int} (h : p.length ≤ 61) : impl_Poset_all.f p = some ((allN p : Nat) : Int) := by
  unfold impl_Poset_all.f
  rw [show impl_Poset_n.f p = some (p.length : Int) from rfl]
  simp only [Option.bind_some]
  rw [if_pos (by omega), mask_eq h, pow_int]
  unfold allN
  have := Nat.two_pow_pos p.length
  congr 1
  omega
end Go.Proofs.Ytfahkoimleiknaa.Q
end

section
namespace Go.Proofs.Ytfahkoimleiknaa.Q
open Go.RowKit Go.Proofs.YtfahkoimleiknaaW.PrintWords
set_option linter.unusedVariables false
/-- The elements of l are put behind the set s one by one, each behind all that are less. -/
def ordRun (p : List Int) : Nat → List Int → Option Nat
  | s, [] => some s
  | s, e :: l => if (0 ≤ e ∧ e < (p.length : Int)) ∧ s.testBit e.toNat = false ∧ subB (L p e.toNat) s = true then ordRun p (s ||| 2 ^ e.toNat) l else none
def ordB (p w : List Int) : Bool := ordRun p 0 w == some (allN p)
theorem ordB_iff {p w : List Int} : ordB p w = true ↔ ordRun p 0 w = some (allN p) := by unfold ordB; rw [beq_iff_eq]
theorem ordRun_app (p x y : List Int) : ∀ s, ordRun p s (x ++ y) = (ordRun p s x).bind fun t => ordRun p t y := by
  induction x with
  | nil => intro s; rfl
  | cons e x ih =>
    intro s
    simp only [List.cons_append, ordRun]
    split
    · exact ih _
    · rfl
theorem ordRun_range {p l : List Int} : ∀ {s t : Nat}, ordRun p s l = some t → ∀ e ∈ l, 0 ≤ e ∧ e < (p.length : Int) := by
  induction l with
  | nil => intro s t h e he; cases he
  | cons x l ih =>
    intro s t h e he
    simp only [ordRun] at h
    split at h
    · rename_i hc
      rcases List.mem_cons.1 he with rfl | he
      · exact hc.1
      · exact ih h e he
    · cases h
def pcard (n s : Nat) : Nat := (List.range n).countP s.testBit
theorem pcard_succ (n s : Nat) : pcard (n + 1) s = pcard n s + if s.testBit n then 1 else 0 := by
  unfold pcard; rw [List.range_succ, List.countP_append, List.countP_singleton]
theorem pcard_above {n e : Nat} (s : Nat) (h : n ≤ e) : pcard n (s ||| 2 ^ e) = pcard n s := by
  unfold pcard
  apply List.countP_congr
  intro x hx
  rw [List.mem_range] at hx
  rw [Nat.testBit_or, pow_bit, decide_eq_false (by omega), Bool.or_false]
theorem pcard_add {n s e : Nat} (he : e < n) (hb : s.testBit e = false) : pcard n (s ||| 2 ^ e) = pcard n s + 1 := by
  induction n with
  | zero => omega
  | succ n ih =>
    rw [pcard_succ, pcard_succ, Nat.testBit_or, pow_bit]
    rcases Nat.lt_succ_iff_lt_or_eq.1 he with h | h
    · rw [ih h, decide_eq_false (by omega), Bool.or_false]; omega
    · subst h; rw [pcard_above s (Nat.le_refl _), hb]; simp
theorem pcard_zero (n : Nat) : pcard n 0 = 0 := by unfold pcard; rw [List.countP_eq_zero]; intro x _; simp
theorem pcard_le (n s : Nat) : pcard n s ≤ n := by unfold pcard; have := List.countP_le_length (p := s.testBit) (l := List.range n); simpa using this
theorem pcard_all (p : List Int) : pcard p.length (allN p) = p.length := by
  unfold pcard
  have : (List.range p.length).countP (allN p).testBit = (List.range p.length).length := by
    rw [List.countP_eq_length]; intro x hx; rw [List.mem_range] at hx; rw [allN_bit, decide_eq_true hx]
  rw [this, List.length_range]
theorem all_of_pcard {p : List Int} {s : Nat} (hs : s < 2 ^ p.length) (h : pcard p.length s = p.length) : s = allN p := by
  refine ext_bits hs (allN_lt p) (fun i hi => ?_)
  rw [allN_bit, decide_eq_true hi]
  have h2 : (List.range p.length).countP s.testBit = (List.range p.length).length := by rw [List.length_range]; exact h
  rw [List.countP_eq_length] at h2
  exact h2 i (List.mem_range.2 hi)
theorem ordRun_card {p l : List Int} : ∀ {s t : Nat}, s < 2 ^ p.length → ordRun p s l = some t → t < 2 ^ p.length ∧ pcard p.length t = pcard p.length s + l.length := by
  induction l with
  | nil => intro s t hs h; simp only [ordRun, Option.some.injEq] at h; subst h; exact ⟨hs, rfl⟩
  | cons x l ih =>
    intro s t hs h
    simp only [ordRun] at h
    split at h
    · rename_i hc
      obtain ⟨⟨h0, h1⟩, h2, h3⟩ := hc
      have hx : x.toNat < p.length := by omega
      obtain ⟨g1, g2⟩ := ih (or_lt hs (pow_lt_pow hx)) h
      refine ⟨g1, ?_⟩
      rw [g2, pcard_add hx h2, List.length_cons]; omega
    · cases h
theorem ordB_len {p w : List Int} (h : ordB p w = true) : w.length = p.length := by
  have := (ordRun_card (Nat.two_pow_pos _) (ordB_iff.1 h)).2
  rw [pcard_all, pcard_zero] at this; omega
theorem ordB_eq (p w : List Int) : (decide (w.length = p.length) && (ordRun p 0 w).isSome) = ordB p w := by
  rw [Bool.eq_iff_iff, Bool.and_eq_true, decide_eq_true_eq]
  constructor
  · rintro ⟨hl, hs⟩
    obtain ⟨t, ht⟩ := Option.isSome_iff_exists.1 hs
    obtain ⟨g1, g2⟩ := ordRun_card (Nat.two_pow_pos _) ht
    rw [pcard_zero, hl, Nat.zero_add] at g2
    rw [ordB_iff, ht, all_of_pcard g1 g2]
  · intro h
    exact ⟨ordB_len h, by rw [ordB_iff.1 h]; rfl⟩
theorem ordB_range {p w : List Int} (h : ordB p w = true) : ∀ e ∈ w, 0 ≤ e ∧ e < (p.length : Int) := ordRun_range (ordB_iff.1 h)
theorem drop_getD (w : List Int) {i : Nat} (h : i < w.length) : w.drop i = w.getD i 0 :: w.drop (i + 1) := by
  rw [List.drop_eq_getElem_cons h, List.getD_eq_getElem?_getD, List.getElem?_eq_getElem h]; rfl
end Go.Proofs.Ytfahkoimleiknaa.Q
end

section
namespace Go.Proofs.Ytfahkoimleiknaa.Q
open Go.RowKit Go.Proofs.YtfahkoimleiknaaW.PrintWords Go.Proofs.Ytfahkoimleiknaa.F
set_option linter.unusedVariables false
theorem liIs_ev {p : List Int} (hp : PO p) (w : List Int) : Ev (fun k => spec_liIs.f k p w) (ordB p w) := by
  have hn := hp.small
  have hn1 := hp.pos
  rw [← ordB_eq]
  unfold spec_liIs.f
  by_cases hl : w.length = p.length
  rotate_left
  · refine Ev.no (by omega) (Ev.step (by intro k; simp only [spec_liIs.j0]; rfl) (Ev.yes (show true = true from rfl) (Ev.ret ?_)))
    rw [decide_eq_false hl]; rfl
  refine Ev.yes (by omega) ?_
  rw [decide_eq_true hl, Bool.true_and, show wrap64 ((w.length : Int) - 1) = (w.length : Int) - 1 from wid (by omega) (by omega)]
  refine Ev.bind (l1All_ev w 0 _ (by omega)) ?_
  cases hall : allFrom (fun i => inR 0 ((w.length : Int) - 1) (w.getD i 0)) w.length 0 with
  | false =>
    refine Ev.step (by intro k; simp only [spec_liIs.j0]; rfl) (Ev.ret ?_)
    cases ho : ordRun p 0 w with
    | none => rfl
    | some t =>
      have hr := ordRun_range ho
      have : allFrom (fun i => inR 0 ((w.length : Int) - 1) (w.getD i 0)) w.length 0 = true := by
        rw [allFrom_iff]
        intro j _ hj
        rw [inR_iff, List.getD_eq_getElem?_getD, List.getElem?_eq_getElem hj]
        have := hr _ (List.getElem_mem hj)
        show 0 ≤ w[j] ∧ w[j] ≤ _
        omega
      rw [this] at hall; cases hall
  | true =>
  refine Ev.step (by intro k; simp only [spec_liIs.j0]; rfl) (Ev.no (by simp) ?_)
  have hin : ∀ i, i < w.length → 0 ≤ w.getD i 0 ∧ w.getD i 0 ≤ (w.length : Int) - 1 := fun i hi => inR_iff.1 ((allFrom_iff _ _ _).1 hall i (Nat.zero_le _) hi)
  have key : ∀ i, i ≤ w.length → ∀ s : Nat, s < 2 ^ p.length → Ev (fun k => spec_liIs.l0 k (s : Int) w (w.length : Int) (i : Int) p) (ordRun p s (w.drop i)).isSome := by
    refine downTo _ ?_ ?_
    · intro s hs
      refine Ev.step (by intro k; simp only [spec_liIs.l0]; rfl) (Ev.no (by omega) (Ev.ret ?_))
      rw [List.drop_length]; rfl
    · intro i hi ih s hs
      refine Ev.step (by intro k; simp only [spec_liIs.l0]; rfl) (Ev.yes (by omega) (Ev.yes (by omega) (Ev.yes (by omega) ?_)))
      have h1 := hin i hi
      rw [rdN, drop_getD w hi, wid1 hi (by omega)]
      generalize w.getD i 0 = e at h1
      simp only [ordRun]
      obtain ⟨x, rfl⟩ := Int.eq_ofNat_of_zero_le h1.1
      have hx : x < p.length := by omega
      refine Ev.call (poIn_eq (by omega)) ?_
      rw [Int.toNat_natCast]
      by_cases h2 : s.testBit x = true
      · exact Ev.yes h2 (Ev.ret (by rw [if_neg (fun h => by rw [h.2.1] at h2; cases h2)]; rfl))
      refine Ev.no h2 (Ev.yes (by omega) (Ev.yes (by omega) ?_))
      rw [rdN, hp.val x hx, bits_andNotN (lt_pow (L_lt hp hx) (by omega)) (lt_pow hs (by omega))]
      by_cases h3 : subB (L p x) s = true
      · have h4 : ndiff (L p x) s = 0 := by unfold subB at h3; exact beq_iff_eq.1 h3
        refine Ev.yes (by rw [h4]; rfl) ?_
        rw [shlN (by omega), bits_orN (lt_pow hs (by omega)) (Nat.pow_lt_pow_right (by decide) (by omega)), if_pos ⟨by omega, by simpa using h2, h3⟩]
        exact ih _ (or_lt hs (pow_lt_pow hx))
      · have h4 : ¬ (((ndiff (L p x) s : Nat) : Int) = 0) := fun h => h3 (by unfold subB; rw [beq_iff_eq]; exact_mod_cast h)
        exact Ev.no h4 (Ev.ret (by rw [if_neg (fun h => h3 h.2.2)]; rfl))
  have := key 0 (by omega) 0 (Nat.two_pow_pos _)
  rw [List.drop_zero] at this
  exact this
end Go.Proofs.Ytfahkoimleiknaa.Q
end

section
namespace Go.Proofs.Ytfahkoimleiknaa.Q
open Go.RowKit Go.Proofs.YtfahkoimleiknaaW.PrintWords
set_option linter.unusedVariables false
theorem sizes_eq (n : Nat) : (decide ((1 : Int) ≤ (n : Int)) && decide ((n : Int) ≤ 10)) = (decide (1 ≤ n) && decide (n ≤ 10)) := by
  rw [Bool.eq_iff_iff]; simp only [Bool.and_eq_true, decide_eq_true_eq]; omega
end Go.Proofs.Ytfahkoimleiknaa.Q
end

section
namespace Go.Proofs.Ytfahkoimleiknaa.Q
open Go.RowKit Go.Proofs.YtfahkoimleiknaaW.PrintWords Go.Proofs.Ytfahkoimleiknaa.F
set_option linter.unusedVariables false
theorem poGood_ev (p : List Int) : Ev (fun k => spec_poGood.f k p) (isPo p) := by
  unfold spec_poGood.f
  refine Ev.call (l1In_eq _ _ _) ?_
  unfold isPo
  rw [sizes_eq]
  cases hs : (decide (1 ≤ p.length) && decide (p.length ≤ 10)) with
  | false => exact Ev.no (by simp) (Ev.ret rfl)
  | true =>
  refine Ev.yes rfl ?_
  rw [Bool.and_eq_true, decide_eq_true_eq, decide_eq_true_eq] at hs
  obtain ⟨h1, h2⟩ := hs
  have key : ∀ i, i ≤ p.length → Ev (fun k => spec_poGood.l0 k p (p.length : Int) (i : Int) p) (allFrom (rowOk p) p.length i) := by
    refine downTo p.length ?_ ?_
    · refine Ev.step (by intro k; simp only [spec_poGood.l0]; rfl) ?_
      exact Ev.no (by omega) (Ev.ret (allFrom_end _ _).symm)
    · intro i hi ih
      refine Ev.step (by intro k; simp only [spec_poGood.l0]; rfl) ?_
      refine Ev.yes (by omega) (Ev.yes (by omega) (Ev.yes (by omega) ?_))
      rw [rdN, mask_eq (by omega)]
      refine Ev.call (l1In_eq _ _ _) ?_
      rw [allFrom_step _ hi]
      by_cases hb : 0 ≤ p.getD i 0 ∧ p.getD i 0 ≤ 2 ^ i - 1
      rotate_left
      · exact Ev.no (by rw [range_false hb]; simp) (Ev.ret (by rw [rowOk_false hb]; rfl))
      refine Ev.yes (range_true hb) ?_
      have hv : p.getD i 0 = (L p i : Int) := by unfold L; omega
      rw [rowOk_true hb]
      generalize hx : p.getD i 0 = x at *
      have inner : ∀ j, j ≤ i → Ev (fun k => spec_poGood.l1 k (i : Int) x (j : Int) p (p.length : Int) (i : Int) p)
          (allFrom (fun j => !(L p i).testBit j || decide (Go.bits .andNot .i64 (p.getD j 0) x = 0)) i j && allFrom (rowOk p) p.length (i + 1)) := by
        refine downTo i ?_ ?_
        · refine Ev.step (by intro k; simp only [spec_poGood.l1]; rfl) ?_
          refine Ev.no (by omega) ?_
          rw [wid1 hi (by omega), allFrom_end, Bool.true_and]
          exact ih
        · intro j hj ihj
          refine Ev.step (by intro k; simp only [spec_poGood.l1]; rfl) ?_
          refine Ev.yes (by omega) (Ev.yes (by omega) ?_)
          rw [allFrom_step _ hj, wid1 hj (by omega), rdN]
          cases hbit : (L p i).testBit j with
          | false => exact Ev.no (by rw [hv, bit_test (by omega), hbit]; simp) (evc ihj (by simp))
          | true =>
            refine Ev.yes (by rw [hv, bit_test (by omega), hbit]) (Ev.yes (by omega) ?_)
            refine Ev.ite (fun h => evc ihj ?_) (fun h => Ev.ret ?_)
            · rw [decide_eq_true h]; simp
            · rw [decide_eq_false h]; simp
      exact inner 0 (by omega)
  exact key 0 (by omega)
end Go.Proofs.Ytfahkoimleiknaa.Q
end

section
namespace Go.Proofs.Ytfahkoimleiknaa.Q
open Go.RowKit Go.Proofs.YtfahkoimleiknaaW.PrintWords Go.Proofs.Ytfahkoimleiknaa.F
set_option linter.unusedVariables false
theorem within_eq (a b c : Int) : impl_within.f a b c = some (decide (b ≤ a) && decide (a ≤ c)) := by
  unfold impl_within.f
  by_cases h : b ≤ a
  · rw [if_pos h]; simp [h]
  · rw [if_neg h]; simp [h]
end Go.Proofs.Ytfahkoimleiknaa.Q
end

section
namespace Go.Proofs.Ytfahkoimleiknaa.Q
open Go.RowKit Go.Proofs.YtfahkoimleiknaaW.PrintWords Go.Proofs.Ytfahkoimleiknaa.F
set_option linter.unusedVariables false
theorem isOrder_ev {p : List Int} (hp : PO p) (w : List Int) (hw : w.length ≤ 9223372036854775807) : Ev (fun k => impl_isOrder.f k p w) (ordB p w) := by
  have hn := hp.small
  have hn1 := hp.pos
  unfold impl_isOrder.f ordB
  have key : ∀ i, i ≤ w.length → ∀ s : Nat, s < 2 ^ p.length → Ev (fun k => impl_isOrder.l0 k (s : Int) w (w.length : Int) (i : Int) p) (ordRun p s (w.drop i) == some (allN p)) := by
    refine downTo _ ?_ ?_
    · intro s hs
      refine Ev.step (by intro k; simp only [impl_isOrder.l0]; rfl) (Ev.no (by omega) (Ev.call (all_eq (by omega)) (Ev.ret ?_)))
      rw [List.drop_length]
      simp only [ordRun]
      rw [Bool.eq_iff_iff, beq_iff_eq, beq_iff_eq, Option.some.injEq]
      omega
    · intro i hi ih s hs
      refine Ev.step (by intro k; simp only [impl_isOrder.l0]; rfl) (Ev.yes (by omega) (Ev.yes (by omega) (Ev.yes (by omega) ?_)))
      rw [rdN, drop_getD w hi, wid1 hi (by omega)]
      generalize w.getD i 0 = e
      refine Ev.call (show impl_Poset_n.f p = some (p.length : Int) from rfl) (Ev.call (within_eq _ _ _) ?_)
      rw [show wrap64 ((p.length : Int) - 1) = (p.length : Int) - 1 from wid (by omega) (by omega)]
      simp only [ordRun]
      by_cases h1 : 0 ≤ e ∧ e < (p.length : Int)
      rotate_left
      · exact Ev.no (by rw [range_false (by omega)]; simp) (Ev.ret (by rw [if_neg (fun h => h1 h.1)]; rfl))
      refine Ev.yes (range_true (by omega)) ?_
      obtain ⟨x, rfl⟩ := Int.eq_ofNat_of_zero_le h1.1
      have hx : x < p.length := by omega
      refine Ev.call (has_eq (lt_pow hs (by omega)) (by omega)) ?_
      rw [Int.toNat_natCast]
      by_cases h2 : s.testBit x = true
      · exact Ev.yes h2 (Ev.ret (by rw [if_neg (fun h => by rw [h.2.1] at h2; cases h2)]; rfl))
      refine Ev.no h2 (Ev.yes (by omega) (Ev.yes (by omega) ?_))
      rw [rdN, hp.val x hx, bits_andNotN (lt_pow (L_lt hp hx) (by omega)) (lt_pow hs (by omega))]
      by_cases h3 : subB (L p x) s = true
      · have h4 : ndiff (L p x) s = 0 := by unfold subB at h3; exact beq_iff_eq.1 h3
        refine Ev.yes (by rw [h4]; rfl) ?_
        rw [shlN (by omega), bits_orN (lt_pow hs (by omega)) (Nat.pow_lt_pow_right (by decide) (by omega)), if_pos ⟨h1, by simpa using h2, h3⟩]
        exact ih _ (or_lt hs (pow_lt_pow hx))
      · have h4 : ¬ (((ndiff (L p x) s : Nat) : Int) = 0) := fun h => h3 (by unfold subB; rw [beq_iff_eq]; exact_mod_cast h)
        exact Ev.no h4 (Ev.ret (by rw [if_neg (fun h => h3 h.2.2)]; rfl))
  have := key 0 (by omega) 0 (Nat.two_pow_pos _)
  rw [List.drop_zero] at this
  exact this
end Go.Proofs.Ytfahkoimleiknaa.Q
end

section
namespace Go.Proofs.Ytfahkoimleiknaa.Q
open Go.RowKit Go.Proofs.YtfahkoimleiknaaW.PrintWords Go.Proofs.Ytfahkoimleiknaa.F
set_option linter.unusedVariables false
theorem IsPoset_ev (p : List Int) : Ev (fun k => impl_IsPoset.f k p) (isPo p) := by
  unfold impl_IsPoset.f
  refine Ev.call (show impl_Poset_n.f p = some (p.length : Int) from rfl) (Ev.call (within_eq _ _ _) ?_)
  unfold isPo
  rw [sizes_eq]
  cases hs : (decide (1 ≤ p.length) && decide (p.length ≤ 10)) with
  | false => exact Ev.no (by simp) (Ev.ret rfl)
  | true =>
  refine Ev.yes rfl ?_
  rw [Bool.and_eq_true, decide_eq_true_eq, decide_eq_true_eq] at hs
  obtain ⟨h1, h2⟩ := hs
  have key : ∀ i, i ≤ p.length → Ev (fun k => impl_IsPoset.l0 k p (p.length : Int) (i : Int) p) (allFrom (rowOk p) p.length i) := by
    refine downTo p.length ?_ ?_
    · refine Ev.step (by intro k; simp only [impl_IsPoset.l0]; rfl) ?_
      exact Ev.no (by omega) (Ev.ret (allFrom_end _ _).symm)
    · intro i hi ih
      refine Ev.step (by intro k; simp only [impl_IsPoset.l0]; rfl) ?_
      refine Ev.yes (by omega) (Ev.yes (by omega) (Ev.yes (by omega) ?_))
      rw [rdN, mask_eq (by omega)]
      refine Ev.call (within_eq _ _ _) ?_
      rw [allFrom_step _ hi]
      by_cases hb : 0 ≤ p.getD i 0 ∧ p.getD i 0 ≤ 2 ^ i - 1
      rotate_left
      · exact Ev.no (by rw [range_false hb]; simp) (Ev.ret (by rw [rowOk_false hb]; rfl))
      refine Ev.yes (range_true hb) ?_
      have hv : p.getD i 0 = (L p i : Int) := by unfold L; omega
      have hm : L p i < 2 ^ i := by
        have := hb.2
        rw [hv, pow_int] at this
        have hp : 0 < 2 ^ i := Nat.two_pow_pos i
        generalize 2 ^ i = z at *
        omega
      rw [rowOk_true hb, ← items_all hm (by omega) (fun j => decide (Go.bits .andNot .i64 (p.getD j 0) (p.getD i 0) = 0)), hv]
      refine Ev.bind (items_ev _ (lt_pow hm (by omega))) ?_
      have inner : ∀ j, j ≤ (itemsN (L p i)).length → Ev (fun k => impl_IsPoset.l1 k (L p i : Int) p (p.length : Int) (i : Int) (ints (itemsN (L p i))) ((ints (itemsN (L p i))).length : Int) (j : Int) p)
          (((itemsN (L p i)).drop j).all (fun j => decide (Go.bits .andNot .i64 (p.getD j 0) (L p i : Int) = 0)) && allFrom (rowOk p) p.length (i + 1)) := by
        rw [ints_len]
        refine downTo _ ?_ ?_
        · refine Ev.step (by intro k; simp only [impl_IsPoset.l1]; rfl) ?_
          refine Ev.no (by omega) ?_
          rw [wid1 hi (by omega), List.drop_length, List.all_nil, Bool.true_and]
          exact ih
        · intro j hj ihj
          have hlt := items_lt hm hj
          have hl := itemsN_len (L p i)
          refine Ev.step (by intro k; simp only [impl_IsPoset.l1]; rfl) ?_
          refine Ev.yes (by omega) (Ev.yes (by omega) (Ev.yes (by rw [ints_len]; omega) ?_))
          rw [rd_ints, all_drop_step _ _ 0 hj, wid1 hj (by omega), rdN]
          refine Ev.yes (by omega) (Ev.yes (by omega) ?_)
          refine Ev.ite (fun h => evc ihj ?_) (fun h => Ev.ret ?_)
          · rw [decide_eq_true h]; simp
          · rw [decide_eq_false h]; simp
      exact inner 0 (by omega)
  exact key 0 (by omega)
end Go.Proofs.Ytfahkoimleiknaa.Q
end

section
namespace Go.Proofs.Ytfahkoimleiknaa.Q
end Go.Proofs.Ytfahkoimleiknaa.Q
end

section
namespace Go.Proofs.Ytfahkoimleiknaa.F
open Go.RowKit Go.Proofs.YtfahkoimleiknaaW.PrintWords Go.Proofs.YtfahkoimleiknaaW.PrintLast Go.Proofs.YtfahkoimleiknaaW.PrintMore
set_option linter.unusedVariables false
set_option linter.unusedSimpArgs false
def laws_markIntSS.l0 : Nat → List (List Int) → Int → Int → Option (Int × List (List Int))
  | 0, _, _, _ => none
  | k + 1, x0, x1, x5 => if x5 < (x0.length : Int) then (if 0 ≤ x5 then ((laws_markIntS.f k (rd_L1 x0 x5) x1).bind fun bt => (laws_markIntSS.l0 k (x0.set x5.toNat bt.2) bt.1 (wrap64 (x5 + 1)))) else none) else some (x1, x0)
def laws_markIntSS.f (k : Nat) (l0 : List (List Int)) (a1 : Int) : Option (Int × List (List Int)) := laws_markIntSS.l0 k l0 a1 0
theorem laws_markIntSS.mono_l : ∀ k, (∀ y0 y1 y2, LeO (laws_markIntSS.l0 k y0 y1 y2) (laws_markIntSS.l0 (k + 1) y0 y1 y2))
  | 0 => fun _ _ _ r h => by simp [laws_markIntSS.l0] at h
  | k + 1 => by
    have ih0 := laws_markIntSS.mono_l k
    intro y0 y1 y2
    unfold laws_markIntSS.l0
    refine LeO.ite (LeO.ite (LeO.bind (laws_markIntS.mono _ _ _) (fun _ => ih0 _ _ _)) (LeO.refl _)) (LeO.refl _)
theorem laws_markIntSS.mono : ∀ a0 a1 k, LeO (laws_markIntSS.f k a0 a1) (laws_markIntSS.f (k + 1) a0 a1) := fun a0 a1 k => laws_markIntSS.mono_l k _ _ _
set_option maxHeartbeats 8000000 in
set_option maxRecDepth 100000 in
theorem laws_markIntSS.calls (k : Nat) (P0_ : Nat → Prop) (u9000_ : Value) (l0 : List (List Int)) (a1 : Int) (r1 : Int) (r2 : List (List Int)) (w0 w : World) (hB : Below w0.heap.size w0 w) (ho0 : Kd.S (Kd.slice 3 (Kd.int .i64)) 22 w w0.heap.size P0_ u9000_ l0) (h : laws_markIntSS.f k l0 a1 = some (r1, r2)) :
    Calls Try.prog 32 #[u9000_, .int .i64 a1] w fun e w' => e = .returned (.int .i64 r1) ∧ Kd.S (Kd.slice 3 (Kd.int .i64)) 22 w' w0.heap.size P0_ u9000_ r2 ∧ Below w0.heap.size w0 w' ∧ Kept w w' (fun k_ => P0_ k_) := by
  have HO0 := Aside0.mk ho0
  have HK := Aside0.mk (Kept.refl w (fun k_ => P0_ k_))
  have HW0 := Aside0.mk hB.size
  have HB := Aside0.mk hB
  clear hB ho0
  have H : (laws_markIntSS.l0 k l0 a1 0) = some (r1, r2) := h
  clear h
  have H' := Aside0.mk H
  clear H
  go_enter Try.func32, Try.ntmps32
  go_wp2
  go_loopg [1, 5] k (fun kq v1 v5 w' => ∃ (x0_1 : List (List Int)) (x1_1 : Int) (x5_1 : Int), v1 = .int .i64 x1_1 ∧ v5 = .int .i64 x5_1 ∧ Aside0 (laws_markIntSS.l0 kq x0_1 x1_1 x5_1 = some (r1, r2)) ∧ Aside0 (kq ≤ k) ∧ Aside0 (Kd.S (Kd.slice 3 (Kd.int .i64)) 22 w' w0.heap.size P0_ u9000_ x0_1) ∧ Aside0 (Kept w w' (fun k_ => P0_ k_)) ∧ Aside0 (Below w0.heap.size w0 w'))
  case atStart => exact ⟨(l0), (a1), (0), (by first | rfl | (simp; done) | (simp [*]; done)), (by first | rfl | (simp; done) | (simp [*]; done)), H', ⟨Nat.le_refl _⟩, ⟨by (with_reducible repeat (first | apply Kd.S_alloc | apply Kd.S_drewN | apply Kd.S_drew)); exact HO0.out⟩, ⟨by repeat (first | (with_reducible first | exact HK.out | apply Kept.alloc | apply Kept.drewN | apply Kept.drew) | exact HK.out)⟩, ⟨by repeat (first | (with_reducible first | exact HB.out | apply below_alloc | apply pw_below_drewN | apply below_drew1) | exact HB.out)⟩⟩
  case round =>
    clear H'
    try clear c2
    try clear p2
    obtain ⟨x0_1, x1_1, x5_1, rfl, rfl, HA, HK1, HO_0, HK, HB⟩ := hrel
    cases gk with
    | zero => exact absurd HA.out (by simp [laws_markIntSS.l0])
    | succ k1 =>
      have H := HA.out
      clear HA
      simp only [laws_markIntSS.l0] at H
      by_cases c3 : x5_1 < (x0_1.length : Int)
      · rw [if_pos c3] at H
        have c3b0 : decide (x5_1 < (x0_1.length : Int)) = true := decide_eq_true c3
        by_cases c4 : 0 ≤ x5_1
        · rw [if_pos c4] at H
          have c4b0 : decide (0 ≤ x5_1) = true := decide_eq_true c4
          replace H := Option.bind_eq_some_iff.mp H
          obtain ⟨⟨t1, t2⟩, A50, H⟩ := H
          replace H : (laws_markIntSS.l0 k1 (x0_1.set x5_1.toNat t2) t1 (wrap64 (x5_1 + 1))) = some (r1, r2) := H
          have A5 := Aside0.mk A50
          clear A50
          have H' := Aside0.mk H
          clear H
          obtain ⟨Ao6, co6, eo6⟩ := Kd.S_slice HO_0.out
          subst eo6
          obtain ⟨go5, co5, eo5, gb5, gl5, cl5, HG5⟩ := Kd.S_form HO_0.out (by omega)
          (first | cases eo5 | (injection eo5 with ea_ en_ ec_; (first | subst ea_ | (injection ea_ with ea_; subst ea_)); subst ec_; clear en_))
          obtain ⟨oki, c, hcl, hM, hcc, hoki, hH⟩ := Kd.S_lend HO_0.out [] x5_1 c4 c3
          obtain ⟨v, rfl, hR0⟩ := hM
          have hR : Kd.R (Kd.int .i64) 3 wr w0.heap.size oki v (rd_L1 x0_1 x5_1) := hR0
          clear hR0
          obtain ⟨Ae, ce, rfl⟩ := Kd.R_slice hR
          have hx5_0 : wr.cell? ⟨go5, x5_1.toNat, none⟩ = some (.slice Ae (rd_L1 x0_1 x5_1).length ce) := by
            have := hcc 0 _ rfl
            rw [show (Kd.slice 3 (Kd.int .i64)).sz = 1 from rfl, Nat.mul_one, Nat.add_zero] at this
            exact this
          have HR := Aside0.mk hR
          have HH := Aside0.mk hH
          have HI := Aside0.mk hoki
          clear hR hH hoki hcc hcl gb5 gl5 HG5
          have p5 : 0 ≤ (x5_1 : Int) := c4
          have q5 : (x5_1 : Int) < ((x0_1.length : Int) : Int) := c3
          clear c3 c4
          replace p5 := eq_true p5
          replace q5 := eq_true q5
          go_wp2_with fail
          refine (laws_markIntS.calls k1 (fun k_ => some k_ = (.slice Ae (rd_L1 x0_1 x5_1).length ce : Value).ownBlock) (.slice Ae (rd_L1 x0_1 x5_1).length ce) (rd_L1 x0_1 x5_1) x1_1 t1 t2 w0 _ ?side1 ?side2 A5.out).mono ?_
          case side1 => repeat (first | (with_reducible first | exact HB.out | apply below_alloc | apply pw_below_drewN | apply below_drew1) | exact HB.out)
          case side2 => (with_reducible repeat (first | apply Kd.R_alloc | apply Kd.R_drewN | apply Kd.R_drew)); exact Kd.R_tight rfl HR.out
          rintro e w7 ⟨rfl, hy0, hb, hkp⟩
          have hown := HR.out.1
          have hm2 : Kd.R (Kd.int .i64) 3 w7 w0.heap.size oki (.slice Ae (rd_L1 x0_1 x5_1).length ce) t2 := Kd.R_reok rfl hy0 (fun k_ e_ => hown k_ e_)
          have hh2 := Kd.H_step (w1 := w7) HH.out (fun k_ _ hn_ hl_ => hkp.2 k_ hl_ (fun e_ => hn_ (hown k_ e_.symm)))
          have n0_ := Aside0.mk (Kd.H_back hh2 ⟨_, rfl, hm2⟩ (fun _ hk_ => hk_))
          have n2_ := Aside0.mk (Kept.then_ (S := (fun k_ => P0_ k_)) HK.out hkp (fun k_ hs_ => .inl (HI.out k_ (hown k_ hs_.symm)).1))
          have n3_ := Aside0.mk hb
          clear HO_0 HR HH HI HK HB hm2 hh2 hown
          have HO_0 := n0_
          have HK := n2_
          have HB := n3_
          clear n0_ n2_ n3_ hb hkp hy0
          go_wp2
          go_roundg k1
          case measure => have := HK1.out; omega
          case rel => exact ⟨(x0_1.set x5_1.toNat t2), t1, (wrap64 (x5_1 + 1)), (by first | rfl | (simp; done) | (simp [*]; done)), (by first | rfl | (simp; done) | (simp [*]; done)), H', ⟨by have := HK1.out; omega⟩, ⟨by (with_reducible repeat (first | apply Kd.S_alloc | apply Kd.S_drewN | apply Kd.S_drew)); exact HO_0.out⟩, ⟨by repeat (first | (with_reducible first | exact HK.out | apply Kept.alloc | apply Kept.drewN | apply Kept.drew) | exact HK.out)⟩, ⟨by repeat (first | (with_reducible first | exact HB.out | apply below_alloc | apply pw_below_drewN | apply below_drew1) | exact HB.out)⟩⟩
        · rw [if_neg c4] at H
          exact absurd H (by simp)
      · rw [if_neg c3] at H
        have c3b0 : decide (x5_1 < (x0_1.length : Int)) = false := decide_eq_false c3
        clear c3
        simp only [Option.some.injEq, Prod.mk.injEq] at H
        obtain ⟨rfl, rfl⟩ := H
        obtain ⟨Ao9, co9, eo9⟩ := Kd.S_slice HO_0.out
        subst eo9
        go_wp2
        go_ret
        exact ⟨by first | rfl | (simp [errW_none, errW_some] <;> rfl) | (simp [*, errW_none, errW_some] <;> rfl), by (with_reducible repeat (first | apply Kd.S_alloc | apply Kd.S_drewN | apply Kd.S_drew)); exact HO_0.out, by repeat (first | (with_reducible first | exact HB.out | apply below_alloc | apply pw_below_drewN | apply below_drew1) | exact HB.out), by repeat (first | (with_reducible first | exact HK.out | apply Kept.alloc | apply Kept.drewN | apply Kept.drew) | exact HK.out)⟩
end Go.Proofs.Ytfahkoimleiknaa.F
end

section
namespace Go.Proofs.Ytfahkoimleiknaa.Q
open Go.RowKit Go.Proofs.YtfahkoimleiknaaW.PrintWords Go.Proofs.Ytfahkoimleiknaa.F
set_option linter.unusedVariables false
/-- Rows of running numbers, of the lengths of these. -/
def upRows : Nat → List (List Int) → List (List Int)
  | _, [] => []
  | a, q :: l => upFrom a q.length :: upRows (a + q.length) l
def totLen : List (List Int) → Nat
  | [] => 0
  | q :: l => q.length + totLen l
theorem upRows_len (a : Nat) (l : List (List Int)) : (upRows a l).length = l.length := by
  induction l generalizing a with
  | nil => rfl
  | cons q l ih => simp [upRows, ih]
theorem rdRows_app (p : List (List Int)) (q : List Int) (l : List (List Int)) : rd_L1 (p ++ q :: l) ((p.length : Nat) : Int) = q := by
  unfold rd_L1; rw [Int.toNat_natCast, List.getD_eq_getElem?_getD, List.getElem?_append_right (Nat.le_refl _), Nat.sub_self]; rfl
theorem set_app (p : List (List Int)) (q x : List Int) (l : List (List Int)) : (p ++ q :: l).set p.length x = (p ++ [x]) ++ l := by
  rw [List.set_append_right _ _ (Nat.le_refl _), Nat.sub_self]; simp
theorem markIntSS_go (l : List (List Int)) : ∀ (p : List (List Int)) (a : Nat), a + totLen l ≤ 4611686018427387904 → p.length + l.length ≤ 9223372036854775807 →
    Ev (fun k => laws_markIntSS.l0 k (p ++ l) (a : Int) ((p.length : Nat) : Int)) (((a + totLen l : Nat) : Int), p ++ upRows a l) := by
  induction l with
  | nil =>
    intro p a h hp
    refine Ev.step (by intro k; simp only [laws_markIntSS.l0]; rfl) (Ev.no (by simp) (Ev.ret ?_))
    simp [totLen, upRows]
  | cons q l ih =>
    intro p a h hp
    simp only [totLen, List.length_cons] at h hp
    refine Ev.step (by intro k; simp only [laws_markIntSS.l0]; rfl) (Ev.yes (by rw [List.length_append, List.length_cons]; omega) (Ev.yes (by omega) ?_))
    rw [rdRows_app]
    refine Ev.bind (markIntS_ev q a (by omega)) ?_
    rw [Int.toNat_natCast, set_app, wid1 (i := p.length) (n := p.length + (l.length + 1)) (by omega) (by omega)]
    have := ih (p ++ [upFrom a q.length]) (a + q.length) (by omega) (by rw [List.length_append, List.length_singleton]; omega)
    rw [List.length_append, List.length_singleton] at this
    refine evc this ?_
    simp only [totLen, upRows, List.append_assoc, List.singleton_append, Nat.add_assoc]
theorem markIntSS_ev1 (l : List (List Int)) (h : totLen l ≤ 4611686018427387000) (hl : l.length ≤ 9223372036854775807) : Ev (fun k => laws_markIntSS.f k l 1) (((1 + totLen l : Nat) : Int), upRows 1 l) := by
  exact markIntSS_go l [] 1 (by omega) (by simpa using hl)
theorem heldIntSS_go (l : List (List Int)) : ∀ (p : List (List Int)) (a : Nat), a + totLen l ≤ 4611686018427387904 → p.length + l.length ≤ 9223372036854775807 →
    Ev (fun k => laws_heldIntSS.l0 k (p ++ upRows a l) (a : Int) ((p.length : Nat) : Int)) ((a + totLen l : Nat) : Int) := by
  induction l with
  | nil =>
    intro p a h hp
    refine Ev.step (by intro k; simp only [laws_heldIntSS.l0]; rfl) (Ev.no (by simp [upRows]) (Ev.ret ?_))
    simp [totLen]
  | cons q l ih =>
    intro p a h hp
    simp only [totLen, List.length_cons] at h hp
    simp only [upRows]
    refine Ev.step (by intro k; simp only [laws_heldIntSS.l0]; rfl) (Ev.yes (by rw [List.length_append, List.length_cons]; omega) (Ev.yes (by omega) ?_))
    rw [rdRows_app]
    refine Ev.bind (heldIntS_ev a q.length (by omega)) (Ev.no (by omega) ?_)
    rw [wid1 (i := p.length) (n := p.length + (l.length + 1)) (by omega) (by omega)]
    have := ih (p ++ [upFrom a q.length]) (a + q.length) (by omega) (by rw [List.length_append, List.length_singleton]; omega)
    rw [List.length_append, List.length_singleton, List.append_assoc, List.singleton_append] at this
    refine evc this ?_
    simp only [totLen, Nat.add_assoc]
theorem heldIntSS_ev1 (l : List (List Int)) (h : totLen l ≤ 4611686018427387000) (hl : l.length ≤ 9223372036854775807) : Ev (fun k => laws_heldIntSS.f k (upRows 1 l) 1) ((1 + totLen l : Nat) : Int) := by
  exact heldIntSS_go l [] 1 (by omega) (by simpa using hl)
theorem totLen_le (m : Nat) (l : List (List Int)) (h : ∀ q ∈ l, q.length ≤ m) : totLen l ≤ l.length * m := by
  induction l with
  | nil => exact Nat.zero_le _
  | cons q l ih =>
    have h1 := h q List.mem_cons_self
    have h2 := ih (fun x hx => h x (List.mem_cons_of_mem _ hx))
    simp only [totLen, List.length_cons, Nat.add_mul]
    omega
theorem totLen_small {l : List (List Int)} (h : l.length ≤ 1048576) (h2 : ∀ q ∈ l, q.length ≤ 1048576) : totLen l ≤ 4611686018427387000 := by
  have h3 := totLen_le 1048576 l h2
  have h4 := Nat.mul_le_mul_right 1048576 h
  omega
theorem totLen_few {l : List (List Int)} (h : l.length ≤ 1000) (h2 : ∀ q ∈ l, q.length ≤ 1000) : totLen l ≤ 1000000 := by
  have h3 := totLen_le 1000 l h2
  have h4 := Nat.mul_le_mul_right 1000 h
  omega
end Go.Proofs.Ytfahkoimleiknaa.Q
end

section
namespace Go.Proofs.Ytfahkoimleiknaa.F
open Go.RowKit Go.Proofs.YtfahkoimleiknaaW.PrintWords Go.Proofs.YtfahkoimleiknaaW.PrintLast Go.Proofs.YtfahkoimleiknaaW.PrintMore
set_option linter.unusedVariables false
set_option linter.unusedSimpArgs false
def impl_rectangle.f (k : Nat) (a0 a1 : Int) : Option (List Int) := made_rectangle.f (fun j i => lit_rectangle.f j i a1) k (wrap64 (a0 * a1))
theorem impl_rectangle.mono : ∀ a0 a1 k, LeO (impl_rectangle.f k a0 a1) (impl_rectangle.f (k + 1) a0 a1) := fun a0 a1 k => made_rectangle.mono _ _ k
set_option maxHeartbeats 8000000 in
set_option maxRecDepth 100000 in
theorem impl_rectangle.calls (k : Nat) (a0 : Int) (a1 : Int) (r : List Int) (w : World) (h : impl_rectangle.f k a0 a1 = some r) :
    Calls Try.prog 95 #[.int .i64 a0, .int .i64 a1] w fun e w' => ∃ v0_ : Value, e = .returned (.agg #[v0_]) ∧ Kd.R (Kd.int .i64) 3 w' w.heap.size (fun _ => True) v0_ r ∧ Below w.heap.size w w' := by
  unfold impl_rectangle.f at h
  have hmf : ∀ (fn : Fn) (first cap : Array Value) (w : World), (Instr.makeFunc fn first cap).run Try.prog w = .ok (.func fn first cap) w := fun _ _ _ _ => rfl
  have hu39 := Try.underlying28
  obtain ⟨W, hW⟩ : ∃ W, W = (w.alloc (.cells #[.int .i64 a1] 3 (0, 0))).alloc (.cells #[.slice none 0 0] 28 (0, 0)) := ⟨_, rfl⟩
  have hsz : W.heap.size = w.heap.size + 2 := by rw [hW]; simp
  have hcB : W.cell? ⟨w.heap.size, 0, none⟩ = some (.int .i64 a1) := by rw [hW, World.cell?_alloc_past _ _ _ (by simp), World.cell?_alloc_at _ _ _ _ rfl]; rfl
  have hP : W.heap[w.heap.size + 1]? = some (.cells #[.slice none 0 0] 28 (0, 0)) := by rw [hW]; simpa using heap_alloc_new (w.alloc (.cells #[.int .i64 a1] 3 (0, 0))) (.cells #[.slice none 0 0] 28 (0, 0))
  have hbW : Below w.heap.size w W := by rw [hW]; exact ((Below.refl _ _).alloc (Nat.le_refl _) _).alloc (by simp) _
  have HF : Aside0 (∀ (x0_ : Int) (x1_ : Int) (r_ : Bool) (W' : World), lit_rectangle.f x0_ x1_ a1 = some r_ → Below W.heap.size W W' → Calls Try.prog 104 #[.int .i64 x0_, .int .i64 x1_, .pointer (some ⟨w.heap.size, 0, none⟩)] W' fun e w' => e = .returned (.bool r_) ∧ Drawn0 W' w') :=
    ⟨fun x0_ x1_ r_ W' hF hb => lit_rectangle.calls w.heap.size x0_ x1_ a1 r_ W' ((hb.cell (p := ⟨w.heap.size, 0, none⟩) (by rw [hsz]; show w.heap.size < w.heap.size + 2; omega)).trans hcB) hF⟩
  have hcall := made_rectangle.calls (fun j i => lit_rectangle.f j i a1) w.heap.size k _ r W HF h
  have hcall' : Aside0 (Calls Try.prog 103 #[.int .i64 (wrap64 (a0 * a1)), .func (.func 104) #[] #[.pointer (some ⟨w.heap.size, 0, none⟩)]] ((w.alloc (.cells #[.int .i64 a1] 3 (0, 0))).alloc (.cells #[.slice none 0 0] 28 (0, 0))) fun e w' => ∃ v0_ : Value, e = .returned (.agg #[v0_]) ∧ (Kd.R (Kd.int .i64) 3 w' W.heap.size (fun _ => True) v0_ r ∧ Below W.heap.size W w')) := ⟨by rw [← hW]; exact hcall⟩
  have HW := Lib.hid hW
  clear hcall HF h hW
  have HP := Aside0.mk hP
  have HsW := Aside0.mk hsz
  have HbW := Aside0.mk hbW
  clear hcB hP hsz hbW
  go_enter Try.func95, Try.ntmps95
  go_wp2_with fail
  refine hcall'.out.mono ?_
  rintro e w1 ⟨v, rfl, ho, hb⟩
  have hlt : w.heap.size + 1 < W.heap.size := by have := HsW.out; omega
  have hP1 := Aside0.mk ((hb.block (w.heap.size + 1) hlt).trans HP.out)
  have hc1 : w1.cell? ⟨w.heap.size + 1, 0, none⟩ = some (.slice none 0 0) := (blk_cell hP1.out 0).trans rfl
  have hf1 := blk_frozen hP1.out 0
  obtain ⟨Ao, co, eo⟩ := Kd.R_slice ho
  subst eo
  have Ho := Aside0.mk ho
  have Hb := Aside0.mk hb
  have Hlt := Aside0.mk hlt
  clear ho hb hlt hmf
  go_wp2
  refine bodyPost_ret (results_cell_row rfl _ _ (w.heap.size + 1) 28 #[.slice Ao r.length co] (0, 0) _ rfl (blk_put (cs := #[.slice none 0 0]) hP1.out 0 _ rfl) Try.underlying28 rfl (by kernel_rfl)) rfl ⟨_, rfl, ?_, ?_⟩
  · refine Kd.R_lower (base := W.heap.size) ?_ (by have := HsW.out; omega)
    exact Kd.R_mono (Kd.R_far (p := ⟨w.heap.size + 1, 0, none⟩) (Kd.R_bound Ho.out) (fun k hk => by have := hk.2.1; have := Hlt.out; show k ≠ w.heap.size + 1; omega) _) (fun _ _ => trivial)
  · exact (HbW.out.trans (Hb.out.mono (by have := HsW.out; omega))).setCell (by show w.heap.size ≤ w.heap.size + 1; omega) _
end Go.Proofs.Ytfahkoimleiknaa.F
end

section
namespace Go.Proofs.Ytfahkoimleiknaa.F
open Go.RowKit Go.Proofs.YtfahkoimleiknaaW.PrintWords Go.Proofs.YtfahkoimleiknaaW.PrintLast Go.Proofs.YtfahkoimleiknaaW.PrintMore
attribute [local go_sem] max2_int min2_int max_two min_two max_three min_three max_four min_four
set_option linter.unusedVariables false
set_option linter.unusedSimpArgs false

/-! ### impl_Rectangle: function 73 -/
def impl_Rectangle.f (k : Nat) (a0 : Int) (a1 : Int) : Option (List Int × Bool) := (impl_areSides.f a0 a1 10).bind fun t464 => (if t464 = true then ((impl_rectangle.f k a0 a1).bind fun t465 => (some (t465, true))) else (some (([] : List Int), false)))
theorem impl_Rectangle.mono : ∀ a0 a1 k, LeO (impl_Rectangle.f k a0 a1) (impl_Rectangle.f (k + 1) a0 a1) := by
  intro a0 a1 k
  unfold impl_Rectangle.f
  repeat' first
      | (with_reducible exact impl_rectangle.mono _ _ _)
      | (with_reducible exact LeO.refl _)
      | (with_reducible exact LeO.none _)
      | (with_reducible refine LeO.ite ?_ ?_)
      | (with_reducible refine LeO.bind ?_ (fun _ => ?_))
      | exact impl_rectangle.mono _ _ _
      | exact LeO.none _
      | refine LeO.ite ?_ ?_
      | refine LeO.bind ?_ (fun _ => ?_)
set_option maxHeartbeats 8000000 in
set_option maxRecDepth 100000 in
theorem impl_Rectangle.calls (k : Nat) (a0 : Int) (a1 : Int) (r1 : List Int) (r2 : Bool) (w : World) (h : impl_Rectangle.f k a0 a1 = some (r1, r2)) :
    Calls Try.prog 73 #[.int .i64 a0, .int .i64 a1] w fun e w' => ∃ v0_ : Value, e = .returned (.tuple #[.agg #[v0_], .bool r2]) ∧ Kd.R (Kd.int .i64) 3 w' w.heap.size (fun _ => True) v0_ r1 ∧ Below w.heap.size w w' := by
  have hu28 := Try.underlying28
  have HB := Aside0.mk (Below.refl w.heap.size w)
  have H : ((impl_areSides.f a0 a1 10).bind fun t464 => (if t464 = true then ((impl_rectangle.f k a0 a1).bind fun t465 => (some (t465, true))) else (some (([] : List Int), false)))) = some (r1, r2) := h
  clear h
  replace H := Option.bind_eq_some_iff.mp H
  obtain ⟨t464, A30, H⟩ := H
  replace H : (if t464 = true then ((impl_rectangle.f k a0 a1).bind fun t465 => (some (t465, true))) else (some (([] : List Int), false))) = some (r1, r2) := H
  have A3 := Aside0.mk A30
  clear A30
  by_cases c4 : t464 = true
  · subst c4
    have H1 : ((impl_rectangle.f k a0 a1).bind fun t465 => (some (t465, true))) = some (r1, r2) := by rw [if_pos rfl] at H; exact H
    clear H
    have H := H1
    clear H1
    replace H := Option.bind_eq_some_iff.mp H
    obtain ⟨t465, A50, H⟩ := H
    replace H : (some (t465, true)) = some (r1, r2) := H
    have A5 := Aside0.mk A50
    clear A50
    simp only [Option.some.injEq, Prod.mk.injEq] at H
    obtain ⟨rfl, rfl⟩ := H
    go_enter Try.func73, Try.ntmps73
    go_wp2_with (first | ((with_reducible refine gate_dst (N := 4) rfl ?_); refine box_event ?hg (N := 4) ?hd (cs := #[.slice none 0 0]) (t := 28) ?hr ?_; (case hd => rfl); (case hg => rfl); (case hr => first | (go_simp; done) | (go_simp; rfl)); intro gb463 hg w6 hbox hb; have n0_ := Aside0.mk (below_step (by repeat (first | (with_reducible first | exact HB.out | apply below_alloc | apply pw_below_drewN | apply below_drew1) | exact HB.out)) hb); have n1_ := Aside0.mk (hbox); have n2_ := Aside0.mk ((by rw [hg]; exact (below_size (by repeat (first | (with_reducible first | exact HB.out | apply below_alloc | apply pw_below_drewN | apply below_drew1) | exact HB.out))) : w.heap.size ≤ gb463)); have n3_ := Aside0.mk ((by rw [hg]; exact (below_size (by repeat (first | (with_reducible first | exact HB.out | apply below_alloc | apply pw_below_drewN | apply below_drew1) | exact HB.out))) : w.heap.size ≤ gb463)); clear HB; have HB := n0_; have BK463 := n1_; have GW463 := n2_; have GE463 := n3_; clear n0_ n1_ n2_ n3_; clear hb hbox hg) | ((with_reducible refine gate_callee (f := 94) rfl ?_); refine goesL_ (some 8) rfl rfl Try.func94 (by kernel_rfl) rfl #[.int .i64 a0, .int .i64 a1, .int .i64 10] rfl (by (try simp only [List.map_toArray, List.map_cons, List.map_nil]); first | done | rfl | (simp only [List.length_drop, List.length_take]; rfl)) ?_; (with_reducible refine (impl_areSides.calls a0 a1 10 true _ A3.out).mono ?_); rintro e w' ⟨rfl, ⟨nd, rfl⟩⟩; refine ⟨_, rfl, ?_⟩; (try (rw [drewN_self w6]; generalize hq_ : World.drewN w6 _ = w6; have n0_ : Aside0 (w6.heap[gb463]? = some (.cells #[.slice none 0 0] 28 (0, 0))) := ⟨by rw [← hq_]; exact (by (with_reducible repeat (first | refine blk_drewN ?_ _ | refine blk_drew ?_ | refine blk_alloc ?_ _)); exact BK463.out)⟩; have n1_ : Aside0 (Below w.heap.size w w6) := ⟨by rw [← hq_]; exact (by repeat (first | (with_reducible first | exact HB.out | apply below_alloc | apply pw_below_drewN | apply below_drew1 | refine below_set ?_ GE463.out) | exact HB.out))⟩; clear BK463 HB hq_; have BK463 := n0_; have HB := n1_; clear n0_ n1_))) | ((with_reducible refine gate_callee (f := 95) rfl ?_); refine goesL_ (some 13) rfl rfl Try.func95 (by kernel_rfl) rfl #[.int .i64 a0, .int .i64 a1] rfl (by (try simp only [List.map_toArray, List.map_cons, List.map_nil]); first | done | rfl | (simp only [List.length_drop, List.length_take]; rfl)) ?_; (with_reducible refine (impl_rectangle.calls k a0 a1 t465 _ A5.out).mono ?_); rintro e w7 ⟨v466, rfl, ho0, hb⟩; refine ⟨_, rfl, ?_⟩; have n0_ := Aside0.mk (Kd.R_lower ho0 (below_size (by repeat (first | (with_reducible first | exact HB.out | apply below_alloc | apply pw_below_drewN | apply below_drew1 | refine below_set ?_ GE463.out) | exact HB.out)))); have n1_ := Aside0.mk (blk_below (g := gb463) (o := .cells #[.slice none 0 0] 28 (0, 0)) (by (with_reducible repeat (first | refine blk_drewN ?_ _ | refine blk_drew ?_ | refine blk_alloc ?_ _)); exact BK463.out) hb); have n2_ := Aside0.mk (below_step (by repeat (first | (with_reducible first | exact HB.out | apply below_alloc | apply pw_below_drewN | apply below_drew1 | refine below_set ?_ GE463.out) | exact HB.out)) hb); clear BK463; clear HB; have HO467 := n0_; have BK463 := n1_; have HB := n2_; clear n0_ n1_ n2_; (try clear hb); (try clear hb2); (try clear hk); (try clear hi); (try clear ho0); obtain ⟨Ao8, co8, eo8⟩ := Kd.R_slice HO467.out; subst eo8; have hcz9_0 : w7.cell? ⟨gb463, 0, none⟩ = some (.slice none 0 0) := (blk_cell BK463.out 0).trans rfl; have hfz9_0 := blk_frozen BK463.out 0))
    refine bodyPost_ret (results_ct rfl _ _ gb463 28 #[.slice Ao8 t465.length co8] (0, 0) _ rfl (by (with_reducible repeat (first | refine blk_drewN ?_ _ | refine blk_drew ?_ | refine blk_alloc ?_ _)); refine blk_put (cs := #[.slice none 0 0]) ?_ 0 _ rfl; (with_reducible repeat (first | refine blk_drewN ?_ _ | refine blk_drew ?_ | refine blk_alloc ?_ _)); exact BK463.out) Try.underlying28 rfl (by kernel_rfl)) rfl ?_
    exact ⟨_, by first | rfl | (simp [errW_none, errW_some] <;> rfl) | (simp [*, errW_none, errW_some] <;> rfl), by (with_reducible repeat (first | apply Kd.R_alloc | apply Kd.R_drewN | apply Kd.R_drew)); exact Kd.R_mono (Kd.R_far (p := ⟨gb463, 0, none⟩) (Kd.R_types HO467.out BK463.out (by decide)) (fun _ hk => hk.2) (.slice Ao8 t465.length co8)) (fun _ hk => trivial), by repeat (first | (with_reducible first | exact HB.out | apply below_alloc | apply pw_below_drewN | apply below_drew1 | refine below_set ?_ GE463.out) | exact HB.out)⟩
  · replace c4 := Bool.eq_false_iff.mpr c4
    subst c4
    have H1 : (some (([] : List Int), false)) = some (r1, r2) := by rw [if_neg (show ¬ (false = true) by decide)] at H; exact H
    clear H
    have H := H1
    clear H1
    simp only [Option.some.injEq, Prod.mk.injEq] at H
    obtain ⟨rfl, rfl⟩ := H
    go_enter Try.func73, Try.ntmps73
    go_wp2_with (first | ((with_reducible refine gate_dst (N := 4) rfl ?_); refine box_event ?hg (N := 4) ?hd (cs := #[.slice none 0 0]) (t := 28) ?hr ?_; (case hd => rfl); (case hg => rfl); (case hr => first | (go_simp; done) | (go_simp; rfl)); intro gb463 hg w10 hbox hb; have n0_ := Aside0.mk (below_step (by repeat (first | (with_reducible first | exact HB.out | apply below_alloc | apply pw_below_drewN | apply below_drew1) | exact HB.out)) hb); have n1_ := Aside0.mk (hbox); have n2_ := Aside0.mk ((by rw [hg]; exact (below_size (by repeat (first | (with_reducible first | exact HB.out | apply below_alloc | apply pw_below_drewN | apply below_drew1) | exact HB.out))) : w.heap.size ≤ gb463)); have n3_ := Aside0.mk ((by rw [hg]; exact (below_size (by repeat (first | (with_reducible first | exact HB.out | apply below_alloc | apply pw_below_drewN | apply below_drew1) | exact HB.out))) : w.heap.size ≤ gb463)); clear HB; have HB := n0_; have BK463 := n1_; have GW463 := n2_; have GE463 := n3_; clear n0_ n1_ n2_ n3_; clear hb hbox hg) | ((with_reducible refine gate_callee (f := 94) rfl ?_); refine goesL_ (some 8) rfl rfl Try.func94 (by kernel_rfl) rfl #[.int .i64 a0, .int .i64 a1, .int .i64 10] rfl (by (try simp only [List.map_toArray, List.map_cons, List.map_nil]); first | done | rfl | (simp only [List.length_drop, List.length_take]; rfl)) ?_; (with_reducible refine (impl_areSides.calls a0 a1 10 false _ A3.out).mono ?_); rintro e w' ⟨rfl, ⟨nd, rfl⟩⟩; refine ⟨_, rfl, ?_⟩; (try (rw [drewN_self w10]; generalize hq_ : World.drewN w10 _ = w10; have n0_ : Aside0 (w10.heap[gb463]? = some (.cells #[.slice none 0 0] 28 (0, 0))) := ⟨by rw [← hq_]; exact (by (with_reducible repeat (first | refine blk_drewN ?_ _ | refine blk_drew ?_ | refine blk_alloc ?_ _)); exact BK463.out)⟩; have n1_ : Aside0 (Below w.heap.size w w10) := ⟨by rw [← hq_]; exact (by repeat (first | (with_reducible first | exact HB.out | apply below_alloc | apply pw_below_drewN | apply below_drew1 | refine below_set ?_ GE463.out) | exact HB.out))⟩; clear BK463 HB hq_; have BK463 := n0_; have HB := n1_; clear n0_ n1_)); have hcz11_0 : w10.cell? ⟨gb463, 0, none⟩ = some (.slice none 0 0) := (blk_cell BK463.out 0).trans rfl; have hfz11_0 := blk_frozen BK463.out 0))
    refine bodyPost_ret (results_ct rfl _ _ gb463 28 #[.slice none 0 0] (0, 0) _ rfl (by (with_reducible repeat (first | refine blk_drewN ?_ _ | refine blk_drew ?_ | refine blk_alloc ?_ _)); refine blk_put (cs := #[.slice none 0 0]) ?_ 0 _ rfl; (with_reducible repeat (first | refine blk_drewN ?_ _ | refine blk_drew ?_ | refine blk_alloc ?_ _)); exact BK463.out) Try.underlying28 rfl (by kernel_rfl)) rfl ?_
    exact ⟨_, by first | rfl | (simp [errW_none, errW_some] <;> rfl) | (simp [*, errW_none, errW_some] <;> rfl), by first | exact Kd.R_nil _ _ _ _ _ | exact Kd.N_nil _ _ _ _ _ | exact Kd.V_nil _ _ _ _ _ | exact Kd.Q_nil _ _ _ _ _ | exact Kd.S_nil _ _ _ _ _, by repeat (first | (with_reducible first | exact HB.out | apply below_alloc | apply pw_below_drewN | apply below_drew1 | refine below_set ?_ GE463.out) | exact HB.out)⟩

end Go.Proofs.Ytfahkoimleiknaa.F
end

section
namespace Go.Proofs.Ytfahkoimleiknaa.F
open Go.RowKit Go.Proofs.YtfahkoimleiknaaW.PrintWords Go.Proofs.YtfahkoimleiknaaW.PrintLast Go.Proofs.YtfahkoimleiknaaW.PrintMore
attribute [local go_sem] max2_int min2_int max_two min_two max_three min_three max_four min_four
set_option linter.unusedVariables false
set_option linter.unusedSimpArgs false

/-! ### impl_TableauOf: function 35 -/
def impl_TableauOf.f (k : Nat) (a0 : Int) (a1 : Int) (l2 : List Int) : Option ((List (List Int)) × Bool) := (impl_Rectangle.f k a0 a1).bind fun bt489 => (if bt489.2 = true then ((impl_isOrder.f k bt489.1 l2).bind fun t494 => (if t494 = true then ((impl_tableau.f k a0 a1 l2).bind fun t495 => (some (t495, true))) else (some (([] : List (List Int)), false)))) else (some (([] : List (List Int)), false)))
theorem impl_TableauOf.mono : ∀ a0 a1 a2 k, LeO (impl_TableauOf.f k a0 a1 a2) (impl_TableauOf.f (k + 1) a0 a1 a2) := by
  intro a0 a1 a2 k
  unfold impl_TableauOf.f
  repeat' first
      | (with_reducible exact impl_Rectangle.mono _ _ _)
      | (with_reducible exact impl_isOrder.mono _ _ _)
      | (with_reducible exact impl_tableau.mono _ _ _ _)
      | (with_reducible exact LeO.refl _)
      | (with_reducible exact LeO.none _)
      | (with_reducible refine LeO.ite ?_ ?_)
      | (with_reducible refine LeO.bind ?_ (fun _ => ?_))
      | exact impl_Rectangle.mono _ _ _
      | exact impl_isOrder.mono _ _ _
      | exact impl_tableau.mono _ _ _ _
      | exact LeO.none _
      | refine LeO.ite ?_ ?_
      | refine LeO.bind ?_ (fun _ => ?_)
set_option maxHeartbeats 8000000 in
set_option maxRecDepth 100000 in
theorem impl_TableauOf.calls (k : Nat) (a0 : Int) (a1 : Int) (A2 : Option Addr) (c2 : Nat) (l2 : List Int) (r1 : List (List Int)) (r2 : Bool) (w : World) (hr2 : Kd.C (Kd.int .i64) w A2 l2.length l2) (hc2 : l2.length ≤ c2) (h : impl_TableauOf.f k a0 a1 l2 = some (r1, r2)) :
    Calls Try.prog 35 #[.int .i64 a0, .int .i64 a1, .slice A2 l2.length c2] w fun e w' => ∃ v0_ : Value, e = .returned (.tuple #[v0_, .bool r2]) ∧ Kd.S (Kd.slice 3 (Kd.int .i64)) 22 w' w.heap.size (fun _ => True) v0_ r1 ∧ Below w.heap.size w w' := by
  have hu28 := Try.underlying28
  have HR2 := Aside0.mk hr2
  have HC2 := Aside0.mk hc2
  clear hr2 hc2
  have HB := Aside0.mk (Below.refl w.heap.size w)
  have H : ((impl_Rectangle.f k a0 a1).bind fun bt489 => (if bt489.2 = true then ((impl_isOrder.f k bt489.1 l2).bind fun t494 => (if t494 = true then ((impl_tableau.f k a0 a1 l2).bind fun t495 => (some (t495, true))) else (some (([] : List (List Int)), false)))) else (some (([] : List (List Int)), false)))) = some (r1, r2) := h
  clear h
  replace H := Option.bind_eq_some_iff.mp H
  obtain ⟨⟨t489, t492⟩, A40, H⟩ := H
  replace H : (if t492 = true then ((impl_isOrder.f k t489 l2).bind fun t494 => (if t494 = true then ((impl_tableau.f k a0 a1 l2).bind fun t495 => (some (t495, true))) else (some (([] : List (List Int)), false)))) else (some (([] : List (List Int)), false))) = some (r1, r2) := H
  have A4 := Aside0.mk A40
  clear A40
  by_cases c5 : t492 = true
  · subst c5
    have H1 : ((impl_isOrder.f k t489 l2).bind fun t494 => (if t494 = true then ((impl_tableau.f k a0 a1 l2).bind fun t495 => (some (t495, true))) else (some (([] : List (List Int)), false)))) = some (r1, r2) := by rw [if_pos rfl] at H; exact H
    clear H
    have H := H1
    clear H1
    replace H := Option.bind_eq_some_iff.mp H
    obtain ⟨t494, A60, H⟩ := H
    replace H : (if t494 = true then ((impl_tableau.f k a0 a1 l2).bind fun t495 => (some (t495, true))) else (some (([] : List (List Int)), false))) = some (r1, r2) := H
    have A6 := Aside0.mk A60
    clear A60
    by_cases c7 : t494 = true
    · subst c7
      have H1 : ((impl_tableau.f k a0 a1 l2).bind fun t495 => (some (t495, true))) = some (r1, r2) := by rw [if_pos rfl] at H; exact H
      clear H
      have H := H1
      clear H1
      replace H := Option.bind_eq_some_iff.mp H
      obtain ⟨t495, A80, H⟩ := H
      replace H : (some (t495, true)) = some (r1, r2) := H
      have A8 := Aside0.mk A80
      clear A80
      simp only [Option.some.injEq, Prod.mk.injEq] at H
      obtain ⟨rfl, rfl⟩ := H
      go_enter Try.func35, Try.ntmps35
      go_wp2_with (first | ((with_reducible refine gate_callee (f := 73) rfl ?_); refine goesL_ (some 13) rfl rfl Try.func73 (by kernel_rfl) rfl #[.int .i64 a0, .int .i64 a1] rfl (by (try simp only [List.map_toArray, List.map_cons, List.map_nil]); first | done | rfl | (simp only [List.length_drop, List.length_take]; rfl)) ?_; (with_reducible refine (impl_Rectangle.calls k a0 a1 t489 true _ A4.out).mono ?_); rintro e w9 ⟨v490, rfl, ho0, hb⟩; refine ⟨_, rfl, ?_⟩; have n0_ := Aside0.mk (Kd.R_lower ho0 (below_size (by repeat (first | (with_reducible first | exact HB.out | apply below_alloc | apply pw_below_drewN | apply below_drew1) | exact HB.out)))); have n1_ := Aside0.mk (below_step (by repeat (first | (with_reducible first | exact HB.out | apply below_alloc | apply pw_below_drewN | apply below_drew1) | exact HB.out)) hb); clear HB; have HO491 := n0_; have HB := n1_; clear n0_ n1_; (try clear hb); (try clear hb2); (try clear hk); (try clear hi); (try clear ho0)) | ((with_reducible refine gate_dst (N := 8) rfl ?_); refine box_event ?hg (N := 8) ?hd (cs := #[.slice none 0 0]) (t := 28) ?hr ?_; (case hd => rfl); (case hg => rfl); (case hr => first | (go_simp; done) | (go_simp; rfl)); intro gb493 hg w10 hbox hb; have n0_ := Aside0.mk (Kd.R_below (by (with_reducible repeat (first | apply Kd.R_alloc | apply Kd.R_drewN | apply Kd.R_drew)); exact HO491.out) hb); have n1_ := Aside0.mk (below_step (by repeat (first | (with_reducible first | exact HB.out | apply below_alloc | apply pw_below_drewN | apply below_drew1) | exact HB.out)) hb); have n2_ := Aside0.mk (hbox); have n3_ := Aside0.mk ((by rw [hg]; exact (below_size (by repeat (first | (with_reducible first | exact HB.out | apply below_alloc | apply pw_below_drewN | apply below_drew1) | exact HB.out))) : w.heap.size ≤ gb493)); have n4_ := Aside0.mk ((by rw [hg]; exact (below_size (by repeat (first | (with_reducible first | exact HB.out | apply below_alloc | apply pw_below_drewN | apply below_drew1) | exact HB.out))) : w.heap.size ≤ gb493)); clear HO491; clear HB; have HO491 := n0_; have HB := n1_; have BK493 := n2_; have GW493 := n3_; have GE493 := n4_; clear n0_ n1_ n2_ n3_ n4_; clear hb hbox hg; obtain ⟨Ao11, co11, eo11⟩ := Kd.R_slice HO491.out; subst eo11; have hcz12_0 : w10.cell? ⟨gb493, 0, none⟩ = some (.slice none 0 0) := (blk_cell BK493.out 0).trans rfl; have hfz12_0 := blk_frozen BK493.out 0) | (go_at_call 74; (with_reducible refine (impl_isOrder.calls k _ _ t489 _ _ l2 true _ ?side1 ?side2 ?side3 ?side4 A6.out).mono ?_); (case side1 => refine (Kd.R_reads' (e := 3) (base := w.heap.size) (ok := fun k_ => True) (n := t489.length) (c := co11) ?_).2.2; exact (by (with_reducible repeat (first | apply Kd.R_alloc | apply Kd.R_drewN | apply Kd.R_drew)); exact (Kd.R_mono (Kd.R_far (p := ⟨gb493, 0, none⟩) (Kd.R_types HO491.out BK493.out (by decide)) (fun _ hk => hk.2) (.slice Ao11 t489.length co11)) (fun _ h_ => h_.1)))); (case side2 => exact (Kd.R_reads' HO491.out).2.1); (case side3 => exact Kd.C_below HR2.out (by repeat (first | (with_reducible first | exact HB.out | apply below_alloc | apply pw_below_drewN | apply below_drew1 | refine below_set ?_ GE493.out) | exact HB.out))); (case side4 => exact HC2.out); rintro e w13 ⟨rfl, hb⟩; have n0_ := Aside0.mk (Kd.R_below (by (with_reducible repeat (first | apply Kd.R_alloc | apply Kd.R_drewN | apply Kd.R_drew)); exact (Kd.R_mono (Kd.R_far (p := ⟨gb493, 0, none⟩) (Kd.R_types HO491.out BK493.out (by decide)) (fun _ hk => hk.2) (.slice Ao11 t489.length co11)) (fun _ h_ => h_.1))) hb); have n1_ := Aside0.mk (blk_below (g := gb493) (o := .cells #[.slice Ao11 t489.length co11] 28 (0, 0)) (by (with_reducible repeat (first | refine blk_drewN ?_ _ | refine blk_drew ?_ | refine blk_alloc ?_ _)); refine blk_put (cs := #[.slice none 0 0]) ?_ 0 _ rfl; (with_reducible repeat (first | refine blk_drewN ?_ _ | refine blk_drew ?_ | refine blk_alloc ?_ _)); exact BK493.out) hb); have n2_ := Aside0.mk (below_step (by repeat (first | (with_reducible first | exact HB.out | apply below_alloc | apply pw_below_drewN | apply below_drew1 | refine below_set ?_ GE493.out) | exact HB.out)) hb); clear HO491; clear BK493; clear HB; have HO491 := n0_; have BK493 := n1_; have HB := n2_; clear n0_ n1_ n2_; (try clear hb); (try clear hb2); (try clear hk); (try clear hi)) | ((with_reducible refine gate_callee (f := 75) rfl ?_); refine goesL_ (some 27) rfl rfl Try.func75 (by kernel_rfl) rfl #[.int .i64 a0, .int .i64 a1, .slice A2 l2.length c2] rfl (by (try simp only [List.map_toArray, List.map_cons, List.map_nil]); first | done | rfl | (simp only [List.length_drop, List.length_take]; rfl)) ?_; (with_reducible refine (impl_tableau.calls k a0 a1 _ _ l2 t495 _ ?side1 ?side2 A8.out).mono ?_); (case side1 => repeat (first | exact (Kd.C_below HR2.out HB.out) | (with_reducible refine Kd.C_alloc ?_ _) | (with_reducible refine Kd.C_drewN ?_ _) | (with_reducible refine Kd.C_drew ?_))); (case side2 => exact HC2.out); rintro e w14 ⟨v496, rfl, ho0, hb⟩; refine ⟨_, rfl, ?_⟩; have n0_ := Aside0.mk (Kd.R_below (by (with_reducible repeat (first | apply Kd.R_alloc | apply Kd.R_drewN | apply Kd.R_drew)); exact HO491.out) hb); have n1_ := Aside0.mk (Kd.S_lower (Kd.S_new' ho0 (Kd.R_lt (by (with_reducible repeat (first | apply Kd.R_alloc | apply Kd.R_drewN | apply Kd.R_drew)); exact HO491.out))) (below_size (by repeat (first | (with_reducible first | exact HB.out | apply below_alloc | apply pw_below_drewN | apply below_drew1 | refine below_set ?_ GE493.out) | exact HB.out)))); have n2_ := Aside0.mk (blk_below (g := gb493) (o := .cells #[.slice Ao11 t489.length co11] 28 (0, 0)) (by (with_reducible repeat (first | refine blk_drewN ?_ _ | refine blk_drew ?_ | refine blk_alloc ?_ _)); exact BK493.out) hb); have n3_ := Aside0.mk (below_step (by repeat (first | (with_reducible first | exact HB.out | apply below_alloc | apply pw_below_drewN | apply below_drew1 | refine below_set ?_ GE493.out) | exact HB.out)) hb); clear HO491; clear BK493; clear HB; have HO491 := n0_; have HO497 := n1_; have BK493 := n2_; have HB := n3_; clear n0_ n1_ n2_ n3_; (try clear hb); (try clear hb2); (try clear hk); (try clear hi); (try clear ho0)))
      go_ret2
      exact ⟨_, by first | rfl | (simp [errW_none, errW_some] <;> rfl) | (simp [*, errW_none, errW_some] <;> rfl), by (with_reducible repeat (first | apply Kd.S_alloc | apply Kd.S_drewN | apply Kd.S_drew)); exact Kd.S_mono HO497.out (fun _ hk => trivial), by repeat (first | (with_reducible first | exact HB.out | apply below_alloc | apply pw_below_drewN | apply below_drew1 | refine below_set ?_ GE493.out) | exact HB.out)⟩
    · replace c7 := Bool.eq_false_iff.mpr c7
      subst c7
      have H1 : (some (([] : List (List Int)), false)) = some (r1, r2) := by rw [if_neg (show ¬ (false = true) by decide)] at H; exact H
      clear H
      have H := H1
      clear H1
      simp only [Option.some.injEq, Prod.mk.injEq] at H
      obtain ⟨rfl, rfl⟩ := H
      go_enter Try.func35, Try.ntmps35
      go_wp2_with (first | ((with_reducible refine gate_callee (f := 73) rfl ?_); refine goesL_ (some 13) rfl rfl Try.func73 (by kernel_rfl) rfl #[.int .i64 a0, .int .i64 a1] rfl (by (try simp only [List.map_toArray, List.map_cons, List.map_nil]); first | done | rfl | (simp only [List.length_drop, List.length_take]; rfl)) ?_; (with_reducible refine (impl_Rectangle.calls k a0 a1 t489 true _ A4.out).mono ?_); rintro e w15 ⟨v490, rfl, ho0, hb⟩; refine ⟨_, rfl, ?_⟩; have n0_ := Aside0.mk (Kd.R_lower ho0 (below_size (by repeat (first | (with_reducible first | exact HB.out | apply below_alloc | apply pw_below_drewN | apply below_drew1) | exact HB.out)))); have n1_ := Aside0.mk (below_step (by repeat (first | (with_reducible first | exact HB.out | apply below_alloc | apply pw_below_drewN | apply below_drew1) | exact HB.out)) hb); clear HB; have HO491 := n0_; have HB := n1_; clear n0_ n1_; (try clear hb); (try clear hb2); (try clear hk); (try clear hi); (try clear ho0)) | ((with_reducible refine gate_dst (N := 8) rfl ?_); refine box_event ?hg (N := 8) ?hd (cs := #[.slice none 0 0]) (t := 28) ?hr ?_; (case hd => rfl); (case hg => rfl); (case hr => first | (go_simp; done) | (go_simp; rfl)); intro gb493 hg w16 hbox hb; have n0_ := Aside0.mk (Kd.R_below (by (with_reducible repeat (first | apply Kd.R_alloc | apply Kd.R_drewN | apply Kd.R_drew)); exact HO491.out) hb); have n1_ := Aside0.mk (below_step (by repeat (first | (with_reducible first | exact HB.out | apply below_alloc | apply pw_below_drewN | apply below_drew1) | exact HB.out)) hb); have n2_ := Aside0.mk (hbox); have n3_ := Aside0.mk ((by rw [hg]; exact (below_size (by repeat (first | (with_reducible first | exact HB.out | apply below_alloc | apply pw_below_drewN | apply below_drew1) | exact HB.out))) : w.heap.size ≤ gb493)); have n4_ := Aside0.mk ((by rw [hg]; exact (below_size (by repeat (first | (with_reducible first | exact HB.out | apply below_alloc | apply pw_below_drewN | apply below_drew1) | exact HB.out))) : w.heap.size ≤ gb493)); clear HO491; clear HB; have HO491 := n0_; have HB := n1_; have BK493 := n2_; have GW493 := n3_; have GE493 := n4_; clear n0_ n1_ n2_ n3_ n4_; clear hb hbox hg; obtain ⟨Ao17, co17, eo17⟩ := Kd.R_slice HO491.out; subst eo17; have hcz18_0 : w16.cell? ⟨gb493, 0, none⟩ = some (.slice none 0 0) := (blk_cell BK493.out 0).trans rfl; have hfz18_0 := blk_frozen BK493.out 0) | (go_at_call 74; (with_reducible refine (impl_isOrder.calls k _ _ t489 _ _ l2 false _ ?side1 ?side2 ?side3 ?side4 A6.out).mono ?_); (case side1 => refine (Kd.R_reads' (e := 3) (base := w.heap.size) (ok := fun k_ => True) (n := t489.length) (c := co17) ?_).2.2; exact (by (with_reducible repeat (first | apply Kd.R_alloc | apply Kd.R_drewN | apply Kd.R_drew)); exact (Kd.R_mono (Kd.R_far (p := ⟨gb493, 0, none⟩) (Kd.R_types HO491.out BK493.out (by decide)) (fun _ hk => hk.2) (.slice Ao17 t489.length co17)) (fun _ h_ => h_.1)))); (case side2 => exact (Kd.R_reads' HO491.out).2.1); (case side3 => exact Kd.C_below HR2.out (by repeat (first | (with_reducible first | exact HB.out | apply below_alloc | apply pw_below_drewN | apply below_drew1 | refine below_set ?_ GE493.out) | exact HB.out))); (case side4 => exact HC2.out); rintro e w19 ⟨rfl, hb⟩; have n0_ := Aside0.mk (Kd.R_below (by (with_reducible repeat (first | apply Kd.R_alloc | apply Kd.R_drewN | apply Kd.R_drew)); exact (Kd.R_mono (Kd.R_far (p := ⟨gb493, 0, none⟩) (Kd.R_types HO491.out BK493.out (by decide)) (fun _ hk => hk.2) (.slice Ao17 t489.length co17)) (fun _ h_ => h_.1))) hb); have n1_ := Aside0.mk (blk_below (g := gb493) (o := .cells #[.slice Ao17 t489.length co17] 28 (0, 0)) (by (with_reducible repeat (first | refine blk_drewN ?_ _ | refine blk_drew ?_ | refine blk_alloc ?_ _)); refine blk_put (cs := #[.slice none 0 0]) ?_ 0 _ rfl; (with_reducible repeat (first | refine blk_drewN ?_ _ | refine blk_drew ?_ | refine blk_alloc ?_ _)); exact BK493.out) hb); have n2_ := Aside0.mk (below_step (by repeat (first | (with_reducible first | exact HB.out | apply below_alloc | apply pw_below_drewN | apply below_drew1 | refine below_set ?_ GE493.out) | exact HB.out)) hb); clear HO491; clear BK493; clear HB; have HO491 := n0_; have BK493 := n1_; have HB := n2_; clear n0_ n1_ n2_; (try clear hb); (try clear hb2); (try clear hk); (try clear hi)))
      go_ret2
      exact ⟨_, by first | rfl | (simp [errW_none, errW_some] <;> rfl) | (simp [*, errW_none, errW_some] <;> rfl), by first | exact Kd.S_nil _ _ _ _ _ | exact Kd.N_nil _ _ _ _ _ | exact Kd.V_nil _ _ _ _ _ | exact Kd.Q_nil _ _ _ _ _ | exact Kd.R_nil _ _ _ _ _, by repeat (first | (with_reducible first | exact HB.out | apply below_alloc | apply pw_below_drewN | apply below_drew1 | refine below_set ?_ GE493.out) | exact HB.out)⟩
  · replace c5 := Bool.eq_false_iff.mpr c5
    subst c5
    have H1 : (some (([] : List (List Int)), false)) = some (r1, r2) := by rw [if_neg (show ¬ (false = true) by decide)] at H; exact H
    clear H
    have H := H1
    clear H1
    simp only [Option.some.injEq, Prod.mk.injEq] at H
    obtain ⟨rfl, rfl⟩ := H
    go_enter Try.func35, Try.ntmps35
    go_wp2_with (first | ((with_reducible refine gate_callee (f := 73) rfl ?_); refine goesL_ (some 13) rfl rfl Try.func73 (by kernel_rfl) rfl #[.int .i64 a0, .int .i64 a1] rfl (by (try simp only [List.map_toArray, List.map_cons, List.map_nil]); first | done | rfl | (simp only [List.length_drop, List.length_take]; rfl)) ?_; (with_reducible refine (impl_Rectangle.calls k a0 a1 t489 false _ A4.out).mono ?_); rintro e w20 ⟨v490, rfl, ho0, hb⟩; refine ⟨_, rfl, ?_⟩; have n0_ := Aside0.mk (Kd.R_lower ho0 (below_size (by repeat (first | (with_reducible first | exact HB.out | apply below_alloc | apply pw_below_drewN | apply below_drew1) | exact HB.out)))); have n1_ := Aside0.mk (below_step (by repeat (first | (with_reducible first | exact HB.out | apply below_alloc | apply pw_below_drewN | apply below_drew1) | exact HB.out)) hb); clear HB; have HO491 := n0_; have HB := n1_; clear n0_ n1_; (try clear hb); (try clear hb2); (try clear hk); (try clear hi); (try clear ho0)) | ((with_reducible refine gate_dst (N := 8) rfl ?_); refine box_event ?hg (N := 8) ?hd (cs := #[.slice none 0 0]) (t := 28) ?hr ?_; (case hd => rfl); (case hg => rfl); (case hr => first | (go_simp; done) | (go_simp; rfl)); intro gb493 hg w21 hbox hb; have n0_ := Aside0.mk (Kd.R_below (by (with_reducible repeat (first | apply Kd.R_alloc | apply Kd.R_drewN | apply Kd.R_drew)); exact HO491.out) hb); have n1_ := Aside0.mk (below_step (by repeat (first | (with_reducible first | exact HB.out | apply below_alloc | apply pw_below_drewN | apply below_drew1) | exact HB.out)) hb); have n2_ := Aside0.mk (hbox); have n3_ := Aside0.mk ((by rw [hg]; exact (below_size (by repeat (first | (with_reducible first | exact HB.out | apply below_alloc | apply pw_below_drewN | apply below_drew1) | exact HB.out))) : w.heap.size ≤ gb493)); have n4_ := Aside0.mk ((by rw [hg]; exact (below_size (by repeat (first | (with_reducible first | exact HB.out | apply below_alloc | apply pw_below_drewN | apply below_drew1) | exact HB.out))) : w.heap.size ≤ gb493)); clear HO491; clear HB; have HO491 := n0_; have HB := n1_; have BK493 := n2_; have GW493 := n3_; have GE493 := n4_; clear n0_ n1_ n2_ n3_ n4_; clear hb hbox hg; obtain ⟨Ao22, co22, eo22⟩ := Kd.R_slice HO491.out; subst eo22; have hcz23_0 : w21.cell? ⟨gb493, 0, none⟩ = some (.slice none 0 0) := (blk_cell BK493.out 0).trans rfl; have hfz23_0 := blk_frozen BK493.out 0))
    go_ret2
    exact ⟨_, by first | rfl | (simp [errW_none, errW_some] <;> rfl) | (simp [*, errW_none, errW_some] <;> rfl), by first | exact Kd.S_nil _ _ _ _ _ | exact Kd.N_nil _ _ _ _ _ | exact Kd.V_nil _ _ _ _ _ | exact Kd.Q_nil _ _ _ _ _ | exact Kd.R_nil _ _ _ _ _, by repeat (first | (with_reducible first | exact HB.out | apply below_alloc | apply pw_below_drewN | apply below_drew1 | refine below_set ?_ GE493.out) | exact HB.out)⟩

end Go.Proofs.Ytfahkoimleiknaa.F
end

section
namespace Go.Proofs.Ytfahkoimleiknaa.Q
open Go.RowKit Go.Proofs.YtfahkoimleiknaaW.PrintWords Go.Proofs.Ytfahkoimleiknaa.F
set_option linter.unusedVariables false
def sidesOk (a b : Int) : Prop := (1 ≤ a ∧ a ≤ 10) ∧ (1 ≤ b ∧ b ≤ 10) ∧ a * b ≤ 10
instance (a b : Int) : Decidable (sidesOk a b) := by unfold sidesOk; exact inferInstance
theorem areSides_iff (a b : Int) : impl_areSides.f a b 10 = some (decide (sidesOk a b)) := by
  have e : decide (sidesOk a b) = decide ((1 ≤ a ∧ a ≤ 10) ∧ (1 ≤ b ∧ b ≤ 10) ∧ a * b ≤ 10) := by rw [decide_eq_decide]; exact Iff.rfl
  rw [e]
  unfold impl_areSides.f
  simp only [within_eq, Option.bind_some]
  by_cases ha : 1 ≤ a ∧ a ≤ 10
  · by_cases hb : 1 ≤ b ∧ b ≤ 10
    · have h1 : 0 ≤ a * b := Int.mul_nonneg (by omega) (by omega)
      have h2 : a * b ≤ 10 * 10 := Int.mul_le_mul ha.2 hb.2 (by omega) (by omega)
      rw [wid (by omega) (by omega), range_true ha, range_true hb]
      simp [ha, hb]
    · rw [range_true ha, range_false hb]
      rw [if_pos rfl, if_neg (by simp), decide_eq_false (by intro h; exact hb h.2.1)]
  · rw [range_false ha, if_neg (by simp), decide_eq_false (by intro h; exact ha h.1)]
def rectO : Option (List Int) → Option (List Int) → Nat → Bool
  | some p, some q, n => decide (p = q) && (isPo p && decide (p.length = n))
  | _, _, _ => false
theorem rectO_parts {o1 o2 : Option (List Int)} {n : Nat} (h : rectO o1 o2 n = true) : ∃ p, o1 = some p ∧ o2 = some p ∧ PO p ∧ p.length = n := by
  cases o1 with
  | none => simp [rectO] at h
  | some p =>
    cases o2 with
    | none => simp [rectO] at h
    | some q =>
      simp only [rectO] at h
      rw [Bool.and_eq_true, Bool.and_eq_true, decide_eq_true_eq, decide_eq_true_eq, isPo_iff] at h
      obtain ⟨rfl, h2, h3⟩ := h
      exact ⟨p, rfl, rfl, h2, h3⟩
def okRect (a b : Nat) : Bool := rectO (impl_rectangle.f 200 (a : Int) (b : Int)) (spec_poRectangle.f 200 (a : Int) (b : Int)) (a * b)
theorem allRect : (List.range 11).all (fun a => (List.range 11).all fun b => a == 0 || b == 0 || decide (10 < a * b) || okRect a b) = true := by decide +kernel
theorem rect_both {a b : Int} (h : sidesOk a b) : ∃ (n m : Nat) (p : List Int), a = (n : Int) ∧ b = (m : Int) ∧ 1 ≤ n ∧ 1 ≤ m ∧ n ≤ 10 ∧ m ≤ 10 ∧ n * m ≤ 10 ∧ Ev (fun k => impl_rectangle.f k a b) p ∧ Ev (fun k => spec_poRectangle.f k a b) p ∧ PO p ∧ p.length = n * m := by
  have h0 := h
  unfold sidesOk at h0
  obtain ⟨n, rfl⟩ := Int.eq_ofNat_of_zero_le (show 0 ≤ a by omega)
  obtain ⟨m, rfl⟩ := Int.eq_ofNat_of_zero_le (show 0 ≤ b by omega)
  have hab : n * m ≤ 10 := by have := h0.2.2; exact Int.ofNat_le.1 (by rw [Int.natCast_mul]; exact this)
  have hk := List.all_eq_true.1 (List.all_eq_true.1 allRect n (List.mem_range.2 (by omega))) m (List.mem_range.2 (by omega))
  rw [Bool.or_eq_true, Bool.or_eq_true, Bool.or_eq_true, beq_iff_eq, beq_iff_eq, decide_eq_true_eq] at hk
  rcases hk with ((hk | hk) | hk) | hk
  · omega
  · omega
  · omega
  · unfold okRect at hk
    obtain ⟨p, h1, h2, h3, h4⟩ := rectO_parts hk
    exact ⟨n, m, p, rfl, rfl, by omega, by omega, by omega, by omega, hab, Ev.of (impl_rectangle.mono _ _) h1, Ev.of (spec_poRectangle.mono _ _) h2, h3, h4⟩
theorem Rectangle_yes {a b : Int} {p : List Int} (h : sidesOk a b) (hp : Ev (fun k => impl_rectangle.f k a b) p) : Ev (fun k => impl_Rectangle.f k a b) (p, true) := by
  unfold impl_Rectangle.f
  rw [areSides_iff, decide_eq_true h]
  exact Ev.call rfl (Ev.yes rfl (Ev.bind hp (Ev.ret rfl)))
theorem Rectangle_no {a b : Int} (h : ¬ sidesOk a b) : Ev (fun k => impl_Rectangle.f k a b) ([], false) := by
  unfold impl_Rectangle.f
  rw [areSides_iff, decide_eq_false h]
  exact Ev.call rfl (Ev.no (by simp) (Ev.now _))
end Go.Proofs.Ytfahkoimleiknaa.Q
end

section
namespace Go.Proofs.Ytfahkoimleiknaa.F
open Go.RowKit Go.Proofs.YtfahkoimleiknaaW.PrintWords Go.Proofs.YtfahkoimleiknaaW.PrintLast Go.Proofs.YtfahkoimleiknaaW.PrintMore
set_option linter.unusedVariables false
set_option linter.unusedSimpArgs false
theorem laws_FnExactTableauOf.belowD {w w' : World} (h : Drawn0 w w') : Below w.heap.size w w' := by
  obtain ⟨m, rfl⟩ := h
  exact pw_below_drewN (Below.refl _ _) m
set_option maxHeartbeats 8000000 in
set_option maxRecDepth 100000 in
theorem laws_FnExactTableauOf.calls0 (k k1 : Nat) (a0 : Int) (a1 : Int) (A2 : Option Addr) (c2 : Nat) (l2 : List Int)  (w : World) (hr2 : Kd.C (Kd.int .i64) w A2 l2.length l2) (hc2 : l2.length ≤ c2) (hx : decide ((l2.length : Int) > 1048576) = true) :
    Calls Try.prog 7 #[.int .i64 a0, .int .i64 a1, .slice A2 l2.length c2] w fun e w' => e = .returned (.bool true) ∧ Below w.heap.size w w' := by
  have HR2 := Aside0.mk hr2
  have HC2 := Aside0.mk hc2
  clear hr2 hc2
  have HT0 := Aside0.mk (Below.refl w.heap.size w)
  go_enter Try.func7, Try.ntmps7
  go_wp2
  go_ret
  exact ⟨by first | rfl | (simp; done) | (simp [*]; done), by repeat (first | (with_reducible first | exact HT0.out | apply below_alloc | apply pw_below_drewN | apply below_drew1) | exact HT0.out)⟩
set_option maxHeartbeats 8000000 in
set_option maxRecDepth 100000 in
theorem laws_FnExactTableauOf.calls1 (k k1 : Nat) (a0 : Int) (a1 : Int) (A2 : Option Addr) (c2 : Nat) (l2 : List Int) (v1 : List (List Int)) (v2 : Bool) (m3 : Int) (u4 : List Int) (m5 : Int) (u6 : List (List Int)) (w : World) (hr2 : Kd.C (Kd.int .i64) w A2 l2.length l2) (hc2 : l2.length ≤ c2) (hy0 : decide ((l2.length : Int) > 1048576) = false) (hy1_ : laws_toIntS.f k1 l2 = some l2) (hy2_ : spec_TableauOf.f k a0 a1 l2 = some (v1, v2)) (hy3_ : impl_TableauOf.f k a0 a1 l2 = some (v1, v2)) (hy4_ : laws_eqIntSS.f k1 v1 v1 = some true) (hy5_ : laws_eqIntS.f k1 l2 l2 = some true) (hy6_ : laws_markIntS.f k1 l2 1 = some (m3, u4)) (hy7 : decide (m3 < 0) = false) (hy8_ : laws_markIntSS.f k1 v1 1 = some (m5, u6)) (hy9_ : laws_heldIntSS.f k1 u6 1 = some m5) (hy10 : decide (m5 < 0) = false) :
    Calls Try.prog 7 #[.int .i64 a0, .int .i64 a1, .slice A2 l2.length c2] w fun e w' => e = .returned (.bool true) ∧ Below w.heap.size w w' := by
  have HR2 := Aside0.mk hr2
  have HC2 := Aside0.mk hc2
  clear hr2 hc2
  have hy1 := Aside0.mk hy1_
  clear hy1_
  have hy2 := Aside0.mk hy2_
  clear hy2_
  have hy3 := Aside0.mk hy3_
  clear hy3_
  have hy4 := Aside0.mk hy4_
  clear hy4_
  have hy5 := Aside0.mk hy5_
  clear hy5_
  have hy6 := Aside0.mk hy6_
  clear hy6_
  have hy8 := Aside0.mk hy8_
  clear hy8_
  have hy9 := Aside0.mk hy9_
  clear hy9_
  have HT0 := Aside0.mk (Below.refl w.heap.size w)
  go_enter Try.func7, Try.ntmps7
  go_wp2_with fail
  have hcall_ := laws_toIntS.calls k1 _ _ l2 l2 _ (Kd.C_below HR2.out HT0.out) HC2.out hy1.out
  refine hcall_.mono ?_
  clear hcall_ 
  rintro e w1 ⟨v1x, rfl, hx1_, hb_⟩
  have HB1 := Aside0.mk hb_
  have HZ1 : Aside0 (w.heap.size ≤ w1.heap.size) := ⟨hb_.size⟩
  have HT1 := Aside0.mk (HT0.out.trans (Below.mono hb_ HT0.out.size))
  clear hb_
  have HX1 := Aside0.mk (Kd.R_lower (Kd.R_mono (ok' := fun k_ => w.heap.size ≤ k_ ∧ k_ < w1.heap.size) (Kd.R_bound hx1_) (fun k_ h_ => ⟨h_.2.1, h_.2.2.1⟩)) HT0.out.size)
  clear hx1_
  go_wp2_with fail
  obtain ⟨A1_, c1_, e1_, hl1_, hC1_⟩ := Kd.R_reads HX1.out
  have hcall_ := spec_TableauOf.calls k a0 a1 _ _ l2 v1 v2 _ hC1_ hl1_ hy2.out
  rw [← e1_] at hcall_
  refine hcall_.mono ?_
  clear hcall_ hC1_ hl1_ e1_ c1_ A1_
  rintro e w2 ⟨v2x, rfl, hx2_, hb_⟩
  have HB2 := Aside0.mk hb_
  have HZ2 : Aside0 (w1.heap.size ≤ w2.heap.size) := ⟨hb_.size⟩
  have HT2 := Aside0.mk (HT1.out.trans (Below.mono hb_ HT1.out.size))
  clear hb_
  have n_ := Aside0.mk (Kd.R_below HX1.out HB2.out)
  clear HX1
  have HX1 := n_
  clear n_
  have HX2 := Aside0.mk (Kd.S_lower (Kd.S_mono (ok' := fun k_ => w1.heap.size ≤ k_ ∧ k_ < w2.heap.size) (Kd.S_bound hx2_) (fun k_ h_ => ⟨h_.2.1, h_.2.2.1⟩)) HT1.out.size)
  clear hx2_
  go_wp2_with fail
  have hcall_ := laws_toIntS.calls k1 _ _ l2 l2 _ (Kd.C_below HR2.out HT2.out) HC2.out hy1.out
  refine hcall_.mono ?_
  clear hcall_ 
  rintro e w3 ⟨v3x, rfl, hx3_, hb_⟩
  have HB3 := Aside0.mk hb_
  have HZ3 : Aside0 (w2.heap.size ≤ w3.heap.size) := ⟨hb_.size⟩
  have HT3 := Aside0.mk (HT2.out.trans (Below.mono hb_ HT2.out.size))
  clear hb_
  have n_ := Aside0.mk (Kd.R_below HX1.out HB3.out)
  clear HX1
  have HX1 := n_
  clear n_
  have n_ := Aside0.mk (Kd.S_below HX2.out HB3.out)
  clear HX2
  have HX2 := n_
  clear n_
  have HX3 := Aside0.mk (Kd.R_lower (Kd.R_mono (ok' := fun k_ => w2.heap.size ≤ k_ ∧ k_ < w3.heap.size) (Kd.R_bound hx3_) (fun k_ h_ => ⟨h_.2.1, h_.2.2.1⟩)) HT2.out.size)
  clear hx3_
  go_wp2_with fail
  obtain ⟨A3_, c3_, e3_, hl3_, hC3_⟩ := Kd.R_reads HX3.out
  have hcall_ := impl_TableauOf.calls k a0 a1 _ _ l2 v1 v2 _ hC3_ hl3_ hy3.out
  rw [← e3_] at hcall_
  refine hcall_.mono ?_
  clear hcall_ hC3_ hl3_ e3_ c3_ A3_
  rintro e w4 ⟨v4x, rfl, hx4_, hb_⟩
  have HB4 := Aside0.mk hb_
  have HZ4 : Aside0 (w3.heap.size ≤ w4.heap.size) := ⟨hb_.size⟩
  have HT4 := Aside0.mk (HT3.out.trans (Below.mono hb_ HT3.out.size))
  clear hb_
  have n_ := Aside0.mk (Kd.R_below HX1.out HB4.out)
  clear HX1
  have HX1 := n_
  clear n_
  have n_ := Aside0.mk (Kd.S_below HX2.out HB4.out)
  clear HX2
  have HX2 := n_
  clear n_
  have n_ := Aside0.mk (Kd.R_below HX3.out HB4.out)
  clear HX3
  have HX3 := n_
  clear n_
  have HX4 := Aside0.mk (Kd.S_lower (Kd.S_mono (ok' := fun k_ => w3.heap.size ≤ k_ ∧ k_ < w4.heap.size) (Kd.S_bound hx4_) (fun k_ h_ => ⟨h_.2.1, h_.2.2.1⟩)) HT3.out.size)
  clear hx4_
  go_wp2_with fail
  obtain ⟨A4_, c4_, e4_, hl4_, hC4_⟩ := Kd.S_reads HX4.out
  obtain ⟨A2_, c2_, e2_, hl2_, hC2_⟩ := Kd.S_reads HX2.out
  have hcall_ := laws_eqIntSS.calls k1 _ _ v1 _ _ v1 true _ hC4_ hl4_ hC2_ hl2_ hy4.out
  rw [← e4_] at hcall_
  rw [← e2_] at hcall_
  refine hcall_.mono ?_
  clear hcall_ hC4_ hl4_ e4_ c4_ A4_ hC2_ hl2_ e2_ c2_ A2_
  rintro e w5 ⟨rfl, hb0_⟩
  have hb_ := laws_FnExactTableauOf.belowD hb0_
  clear hb0_
  have HB5 := Aside0.mk hb_
  have HZ5 : Aside0 (w4.heap.size ≤ w5.heap.size) := ⟨hb_.size⟩
  have HT5 := Aside0.mk (HT4.out.trans (Below.mono hb_ HT4.out.size))
  clear hb_
  have n_ := Aside0.mk (Kd.R_below HX1.out HB5.out)
  clear HX1
  have HX1 := n_
  clear n_
  have n_ := Aside0.mk (Kd.S_below HX2.out HB5.out)
  clear HX2
  have HX2 := n_
  clear n_
  have n_ := Aside0.mk (Kd.R_below HX3.out HB5.out)
  clear HX3
  have HX3 := n_
  clear n_
  have n_ := Aside0.mk (Kd.S_below HX4.out HB5.out)
  clear HX4
  have HX4 := n_
  clear n_
  go_wp2_with fail
  have hcall_ := laws_toIntS.calls k1 _ _ l2 l2 _ (Kd.C_below HR2.out HT5.out) HC2.out hy1.out
  refine hcall_.mono ?_
  clear hcall_ 
  rintro e w6 ⟨v5x, rfl, hx5_, hb_⟩
  have HB6 := Aside0.mk hb_
  have HZ6 : Aside0 (w5.heap.size ≤ w6.heap.size) := ⟨hb_.size⟩
  have HT6 := Aside0.mk (HT5.out.trans (Below.mono hb_ HT5.out.size))
  clear hb_
  have n_ := Aside0.mk (Kd.R_below HX1.out HB6.out)
  clear HX1
  have HX1 := n_
  clear n_
  have n_ := Aside0.mk (Kd.S_below HX2.out HB6.out)
  clear HX2
  have HX2 := n_
  clear n_
  have n_ := Aside0.mk (Kd.R_below HX3.out HB6.out)
  clear HX3
  have HX3 := n_
  clear n_
  have n_ := Aside0.mk (Kd.S_below HX4.out HB6.out)
  clear HX4
  have HX4 := n_
  clear n_
  have HX5 := Aside0.mk (Kd.R_lower (Kd.R_mono (ok' := fun k_ => w5.heap.size ≤ k_ ∧ k_ < w6.heap.size) (Kd.R_bound hx5_) (fun k_ h_ => ⟨h_.2.1, h_.2.2.1⟩)) HT5.out.size)
  clear hx5_
  go_wp2_with fail
  obtain ⟨A3_, c3_, e3_, hl3_, hC3_⟩ := Kd.R_reads HX3.out
  obtain ⟨A5_, c5_, e5_, hl5_, hC5_⟩ := Kd.R_reads HX5.out
  have hcall_ := laws_eqIntS.calls k1 _ _ l2 _ _ l2 true _ hC3_ hl3_ hC5_ hl5_ hy5.out
  rw [← e3_] at hcall_
  rw [← e5_] at hcall_
  refine hcall_.mono ?_
  clear hcall_ hC3_ hl3_ e3_ c3_ A3_ hC5_ hl5_ e5_ c5_ A5_
  rintro e w7 ⟨rfl, hb0_⟩
  have hb_ := laws_FnExactTableauOf.belowD hb0_
  clear hb0_
  have HB7 := Aside0.mk hb_
  have HZ7 : Aside0 (w6.heap.size ≤ w7.heap.size) := ⟨hb_.size⟩
  have HT7 := Aside0.mk (HT6.out.trans (Below.mono hb_ HT6.out.size))
  clear hb_
  have n_ := Aside0.mk (Kd.R_below HX1.out HB7.out)
  clear HX1
  have HX1 := n_
  clear n_
  have n_ := Aside0.mk (Kd.S_below HX2.out HB7.out)
  clear HX2
  have HX2 := n_
  clear n_
  have n_ := Aside0.mk (Kd.R_below HX3.out HB7.out)
  clear HX3
  have HX3 := n_
  clear n_
  have n_ := Aside0.mk (Kd.S_below HX4.out HB7.out)
  clear HX4
  have HX4 := n_
  clear n_
  have n_ := Aside0.mk (Kd.R_below HX5.out HB7.out)
  clear HX5
  have HX5 := n_
  clear n_
  go_wp2_with fail
  refine (laws_markIntS.calls k1 (fun k_ => some k_ = (v3x : Value).ownBlock) v3x l2 1 m3 u4 w _ HT7.out (Kd.R_tight rfl HX3.out) hy6.out).mono ?_
  rintro e w8 ⟨rfl, hy_, hb_, hk_⟩
  have HT8 := Aside0.mk hb_
  have HK8 := Aside0.mk hk_
  have HZ8 : Aside0 (w7.heap.size ≤ w8.heap.size) := ⟨hk_.1⟩
  have HO := HX3
  have HY := Aside0.mk (Kd.R_reok rfl hy_ (fun k_ e_ => HO.out.1 k_ e_))
  clear hy_ hb_ hk_
  have n_ := Aside0.mk (Kd.R_kept HX1.out HK8.out (fun k_ h_ h2_ => by have z1 := HZ1.out; have z2 := HZ2.out; have z3 := HZ3.out; have z4 := HZ4.out; have z5 := HZ5.out; have z6 := HZ6.out; have z7 := HZ7.out; have z8 := HZ8.out; have h3_ := HO.out.1 k_ h2_.symm; omega))
  clear HX1
  have HX1 := n_
  clear n_
  have n_ := Aside0.mk (Kd.S_kept HX2.out HK8.out (fun k_ h_ h2_ => by have z1 := HZ1.out; have z2 := HZ2.out; have z3 := HZ3.out; have z4 := HZ4.out; have z5 := HZ5.out; have z6 := HZ6.out; have z7 := HZ7.out; have z8 := HZ8.out; have h3_ := HO.out.1 k_ h2_.symm; omega))
  clear HX2
  have HX2 := n_
  clear n_
  have n_ := Aside0.mk (Kd.S_kept HX4.out HK8.out (fun k_ h_ h2_ => by have z1 := HZ1.out; have z2 := HZ2.out; have z3 := HZ3.out; have z4 := HZ4.out; have z5 := HZ5.out; have z6 := HZ6.out; have z7 := HZ7.out; have z8 := HZ8.out; have h3_ := HO.out.1 k_ h2_.symm; omega))
  clear HX4
  have HX4 := n_
  clear n_
  have n_ := Aside0.mk (Kd.R_kept HX5.out HK8.out (fun k_ h_ h2_ => by have z1 := HZ1.out; have z2 := HZ2.out; have z3 := HZ3.out; have z4 := HZ4.out; have z5 := HZ5.out; have z6 := HZ6.out; have z7 := HZ7.out; have z8 := HZ8.out; have h3_ := HO.out.1 k_ h2_.symm; omega))
  clear HX5
  have HX5 := n_
  clear n_
  clear HX3 HO
  have HX3 := HY
  clear HY
  go_wp2_with fail
  obtain ⟨A4_, c4_, e4_, hl4_, hC4_⟩ := Kd.S_reads HX4.out
  obtain ⟨A2_, c2_, e2_, hl2_, hC2_⟩ := Kd.S_reads HX2.out
  have hcall_ := laws_eqIntSS.calls k1 _ _ v1 _ _ v1 true _ hC4_ hl4_ hC2_ hl2_ hy4.out
  rw [← e4_] at hcall_
  rw [← e2_] at hcall_
  refine hcall_.mono ?_
  clear hcall_ hC4_ hl4_ e4_ c4_ A4_ hC2_ hl2_ e2_ c2_ A2_
  rintro e w9 ⟨rfl, hb0_⟩
  have hb_ := laws_FnExactTableauOf.belowD hb0_
  clear hb0_
  have HB9 := Aside0.mk hb_
  have HZ9 : Aside0 (w8.heap.size ≤ w9.heap.size) := ⟨hb_.size⟩
  have HT9 := Aside0.mk (HT8.out.trans (Below.mono hb_ HT8.out.size))
  clear hb_
  have n_ := Aside0.mk (Kd.R_below HX1.out HB9.out)
  clear HX1
  have HX1 := n_
  clear n_
  have n_ := Aside0.mk (Kd.S_below HX2.out HB9.out)
  clear HX2
  have HX2 := n_
  clear n_
  have n_ := Aside0.mk (Kd.R_below HX3.out HB9.out)
  clear HX3
  have HX3 := n_
  clear n_
  have n_ := Aside0.mk (Kd.S_below HX4.out HB9.out)
  clear HX4
  have HX4 := n_
  clear n_
  have n_ := Aside0.mk (Kd.R_below HX5.out HB9.out)
  clear HX5
  have HX5 := n_
  clear n_
  go_wp2_with fail
  refine (laws_markIntSS.calls k1 (fun k_ => w3.heap.size ≤ k_ ∧ k_ < w4.heap.size) v4x v1 1 m5 u6 w _ HT9.out HX4.out hy8.out).mono ?_
  rintro e w10 ⟨rfl, hy_, hb_, hk_⟩
  have HT10 := Aside0.mk hb_
  have HK10 := Aside0.mk hk_
  have HZ10 : Aside0 (w9.heap.size ≤ w10.heap.size) := ⟨hk_.1⟩
  have HO := HX4
  have HY := Aside0.mk hy_
  clear hy_ hb_ hk_
  have n_ := Aside0.mk (Kd.R_kept HX1.out HK10.out (fun k_ h_ h2_ => by have z1 := HZ1.out; have z2 := HZ2.out; have z3 := HZ3.out; have z4 := HZ4.out; have z5 := HZ5.out; have z6 := HZ6.out; have z7 := HZ7.out; have z8 := HZ8.out; have z9 := HZ9.out; have z10 := HZ10.out; omega))
  clear HX1
  have HX1 := n_
  clear n_
  have n_ := Aside0.mk (Kd.S_kept HX2.out HK10.out (fun k_ h_ h2_ => by have z1 := HZ1.out; have z2 := HZ2.out; have z3 := HZ3.out; have z4 := HZ4.out; have z5 := HZ5.out; have z6 := HZ6.out; have z7 := HZ7.out; have z8 := HZ8.out; have z9 := HZ9.out; have z10 := HZ10.out; omega))
  clear HX2
  have HX2 := n_
  clear n_
  have n_ := Aside0.mk (Kd.R_kept HX3.out HK10.out (fun k_ h_ h2_ => by have z1 := HZ1.out; have z2 := HZ2.out; have z3 := HZ3.out; have z4 := HZ4.out; have z5 := HZ5.out; have z6 := HZ6.out; have z7 := HZ7.out; have z8 := HZ8.out; have z9 := HZ9.out; have z10 := HZ10.out; omega))
  clear HX3
  have HX3 := n_
  clear n_
  have n_ := Aside0.mk (Kd.R_kept HX5.out HK10.out (fun k_ h_ h2_ => by have z1 := HZ1.out; have z2 := HZ2.out; have z3 := HZ3.out; have z4 := HZ4.out; have z5 := HZ5.out; have z6 := HZ6.out; have z7 := HZ7.out; have z8 := HZ8.out; have z9 := HZ9.out; have z10 := HZ10.out; omega))
  clear HX5
  have HX5 := n_
  clear n_
  clear HX4 HO
  have HX4 := HY
  clear HY
  go_wp2_with fail
  obtain ⟨A4_, c4_, e4_, hl4_, hC4_⟩ := Kd.S_reads HX4.out
  have hcall_ := laws_heldIntSS.calls k1 _ _ u6 1 m5 _ hC4_ hl4_ hy9.out
  rw [← e4_] at hcall_
  refine hcall_.mono ?_
  clear hcall_ hC4_ hl4_ e4_ c4_ A4_
  rintro e w11 ⟨rfl, hb0_⟩
  have hb_ := laws_FnExactTableauOf.belowD hb0_
  clear hb0_
  have HB11 := Aside0.mk hb_
  have HZ11 : Aside0 (w10.heap.size ≤ w11.heap.size) := ⟨hb_.size⟩
  have HT11 := Aside0.mk (HT10.out.trans (Below.mono hb_ HT10.out.size))
  clear hb_
  have n_ := Aside0.mk (Kd.R_below HX1.out HB11.out)
  clear HX1
  have HX1 := n_
  clear n_
  have n_ := Aside0.mk (Kd.S_below HX2.out HB11.out)
  clear HX2
  have HX2 := n_
  clear n_
  have n_ := Aside0.mk (Kd.R_below HX3.out HB11.out)
  clear HX3
  have HX3 := n_
  clear n_
  have n_ := Aside0.mk (Kd.S_below HX4.out HB11.out)
  clear HX4
  have HX4 := n_
  clear n_
  have n_ := Aside0.mk (Kd.R_below HX5.out HB11.out)
  clear HX5
  have HX5 := n_
  clear n_
  go_wp2_with fail
  have hcall_ := laws_toIntS.calls k1 _ _ l2 l2 _ (Kd.C_below HR2.out HT11.out) HC2.out hy1.out
  refine hcall_.mono ?_
  clear hcall_ 
  rintro e w12 ⟨v6x, rfl, hx6_, hb_⟩
  have HB12 := Aside0.mk hb_
  have HZ12 : Aside0 (w11.heap.size ≤ w12.heap.size) := ⟨hb_.size⟩
  have HT12 := Aside0.mk (HT11.out.trans (Below.mono hb_ HT11.out.size))
  clear hb_
  have n_ := Aside0.mk (Kd.R_below HX1.out HB12.out)
  clear HX1
  have HX1 := n_
  clear n_
  have n_ := Aside0.mk (Kd.S_below HX2.out HB12.out)
  clear HX2
  have HX2 := n_
  clear n_
  have n_ := Aside0.mk (Kd.R_below HX3.out HB12.out)
  clear HX3
  have HX3 := n_
  clear n_
  have n_ := Aside0.mk (Kd.S_below HX4.out HB12.out)
  clear HX4
  have HX4 := n_
  clear n_
  have n_ := Aside0.mk (Kd.R_below HX5.out HB12.out)
  clear HX5
  have HX5 := n_
  clear n_
  have HX6 := Aside0.mk (Kd.R_lower (Kd.R_mono (ok' := fun k_ => w11.heap.size ≤ k_ ∧ k_ < w12.heap.size) (Kd.R_bound hx6_) (fun k_ h_ => ⟨h_.2.1, h_.2.2.1⟩)) HT11.out.size)
  clear hx6_
  go_wp2_with fail
  obtain ⟨A6_, c6_, e6_, hl6_, hC6_⟩ := Kd.R_reads HX6.out
  have hcall_ := impl_TableauOf.calls k a0 a1 _ _ l2 v1 v2 _ hC6_ hl6_ hy3.out
  rw [← e6_] at hcall_
  refine hcall_.mono ?_
  clear hcall_ hC6_ hl6_ e6_ c6_ A6_
  rintro e w13 ⟨v7x, rfl, hx7_, hb_⟩
  have HB13 := Aside0.mk hb_
  have HZ13 : Aside0 (w12.heap.size ≤ w13.heap.size) := ⟨hb_.size⟩
  have HT13 := Aside0.mk (HT12.out.trans (Below.mono hb_ HT12.out.size))
  clear hb_
  have n_ := Aside0.mk (Kd.R_below HX1.out HB13.out)
  clear HX1
  have HX1 := n_
  clear n_
  have n_ := Aside0.mk (Kd.S_below HX2.out HB13.out)
  clear HX2
  have HX2 := n_
  clear n_
  have n_ := Aside0.mk (Kd.R_below HX3.out HB13.out)
  clear HX3
  have HX3 := n_
  clear n_
  have n_ := Aside0.mk (Kd.S_below HX4.out HB13.out)
  clear HX4
  have HX4 := n_
  clear n_
  have n_ := Aside0.mk (Kd.R_below HX5.out HB13.out)
  clear HX5
  have HX5 := n_
  clear n_
  have n_ := Aside0.mk (Kd.R_below HX6.out HB13.out)
  clear HX6
  have HX6 := n_
  clear n_
  have HX7 := Aside0.mk (Kd.S_lower (Kd.S_mono (ok' := fun k_ => w12.heap.size ≤ k_ ∧ k_ < w13.heap.size) (Kd.S_bound hx7_) (fun k_ h_ => ⟨h_.2.1, h_.2.2.1⟩)) HT12.out.size)
  clear hx7_
  go_wp2_with fail
  obtain ⟨A7_, c7_, e7_, hl7_, hC7_⟩ := Kd.S_reads HX7.out
  obtain ⟨A2_, c2_, e2_, hl2_, hC2_⟩ := Kd.S_reads HX2.out
  have hcall_ := laws_eqIntSS.calls k1 _ _ v1 _ _ v1 true _ hC7_ hl7_ hC2_ hl2_ hy4.out
  rw [← e7_] at hcall_
  rw [← e2_] at hcall_
  refine hcall_.mono ?_
  clear hcall_ hC7_ hl7_ e7_ c7_ A7_ hC2_ hl2_ e2_ c2_ A2_
  rintro e w14 ⟨rfl, hb0_⟩
  have hb_ := laws_FnExactTableauOf.belowD hb0_
  clear hb0_
  have HB14 := Aside0.mk hb_
  have HZ14 : Aside0 (w13.heap.size ≤ w14.heap.size) := ⟨hb_.size⟩
  have HT14 := Aside0.mk (HT13.out.trans (Below.mono hb_ HT13.out.size))
  clear hb_
  have n_ := Aside0.mk (Kd.R_below HX1.out HB14.out)
  clear HX1
  have HX1 := n_
  clear n_
  have n_ := Aside0.mk (Kd.S_below HX2.out HB14.out)
  clear HX2
  have HX2 := n_
  clear n_
  have n_ := Aside0.mk (Kd.R_below HX3.out HB14.out)
  clear HX3
  have HX3 := n_
  clear n_
  have n_ := Aside0.mk (Kd.S_below HX4.out HB14.out)
  clear HX4
  have HX4 := n_
  clear n_
  have n_ := Aside0.mk (Kd.R_below HX5.out HB14.out)
  clear HX5
  have HX5 := n_
  clear n_
  have n_ := Aside0.mk (Kd.R_below HX6.out HB14.out)
  clear HX6
  have HX6 := n_
  clear n_
  have n_ := Aside0.mk (Kd.S_below HX7.out HB14.out)
  clear HX7
  have HX7 := n_
  clear n_
  go_wp2_with fail
  obtain ⟨A4_, c4_, e4_, hl4_, hC4_⟩ := Kd.S_reads HX4.out
  have hcall_ := laws_heldIntSS.calls k1 _ _ u6 1 m5 _ hC4_ hl4_ hy9.out
  rw [← e4_] at hcall_
  refine hcall_.mono ?_
  clear hcall_ hC4_ hl4_ e4_ c4_ A4_
  rintro e w15 ⟨rfl, hb0_⟩
  have hb_ := laws_FnExactTableauOf.belowD hb0_
  clear hb0_
  have HB15 := Aside0.mk hb_
  have HZ15 : Aside0 (w14.heap.size ≤ w15.heap.size) := ⟨hb_.size⟩
  have HT15 := Aside0.mk (HT14.out.trans (Below.mono hb_ HT14.out.size))
  clear hb_
  have n_ := Aside0.mk (Kd.R_below HX1.out HB15.out)
  clear HX1
  have HX1 := n_
  clear n_
  have n_ := Aside0.mk (Kd.S_below HX2.out HB15.out)
  clear HX2
  have HX2 := n_
  clear n_
  have n_ := Aside0.mk (Kd.R_below HX3.out HB15.out)
  clear HX3
  have HX3 := n_
  clear n_
  have n_ := Aside0.mk (Kd.S_below HX4.out HB15.out)
  clear HX4
  have HX4 := n_
  clear n_
  have n_ := Aside0.mk (Kd.R_below HX5.out HB15.out)
  clear HX5
  have HX5 := n_
  clear n_
  have n_ := Aside0.mk (Kd.R_below HX6.out HB15.out)
  clear HX6
  have HX6 := n_
  clear n_
  have n_ := Aside0.mk (Kd.S_below HX7.out HB15.out)
  clear HX7
  have HX7 := n_
  clear n_
  go_wp2
  go_ret
  exact ⟨by first | rfl | (simp; done) | (simp [*]; done), by repeat (first | (with_reducible first | exact HT15.out | apply below_alloc | apply pw_below_drewN | apply below_drew1) | exact HT15.out)⟩
open Classical in
noncomputable def laws_FnExactTableauOf.f (k : Nat) (a0 : Int) (a1 : Int) (l2 : List Int) : Option Bool := if ∃ k1 : Nat, (∃ (_ : Unit), (decide ((l2.length : Int) > 1048576) = true)) ∨ (∃ (v1 : List (List Int)) (v2 : Bool) (m3 : Int) (u4 : List Int) (m5 : Int) (u6 : List (List Int)), (decide ((l2.length : Int) > 1048576) = false) ∧ (laws_toIntS.f k1 l2 = some l2) ∧ (spec_TableauOf.f k a0 a1 l2 = some (v1, v2)) ∧ (impl_TableauOf.f k a0 a1 l2 = some (v1, v2)) ∧ (laws_eqIntSS.f k1 v1 v1 = some true) ∧ (laws_eqIntS.f k1 l2 l2 = some true) ∧ (laws_markIntS.f k1 l2 1 = some (m3, u4)) ∧ (decide (m3 < 0) = false) ∧ (laws_markIntSS.f k1 v1 1 = some (m5, u6)) ∧ (laws_heldIntSS.f k1 u6 1 = some m5) ∧ (decide (m5 < 0) = false)) then some true else none
theorem laws_FnExactTableauOf.calls (k : Nat) (a0 : Int) (a1 : Int) (A2 : Option Addr) (c2 : Nat) (l2 : List Int) (r : Bool) (w : World) (hr2 : Kd.C (Kd.int .i64) w A2 l2.length l2) (hc2 : l2.length ≤ c2) (h : laws_FnExactTableauOf.f k a0 a1 l2 = some r) :
    Calls Try.prog 7 #[.int .i64 a0, .int .i64 a1, .slice A2 l2.length c2] w fun e w' => e = .returned (.bool r) ∧ Below w.heap.size w w' := by
  unfold laws_FnExactTableauOf.f at h
  split at h
  · rename_i hh
    obtain rfl := Option.some.inj h
    obtain ⟨k1, hh⟩ := hh
    rcases hh with ⟨_, hx⟩ | ⟨v1, v2, m3, u4, m5, u6, hy0, hy1, hy2, hy3, hy4, hy5, hy6, hy7, hy8, hy9, hy10⟩
    · exact laws_FnExactTableauOf.calls0 k k1 a0 a1 _ _ l2  w hr2 hc2 hx
    · exact laws_FnExactTableauOf.calls1 k k1 a0 a1 _ _ l2 v1 v2 m3 u4 m5 u6 w hr2 hc2 hy0 hy1 hy2 hy3 hy4 hy5 hy6 hy7 hy8 hy9 hy10
  · cases h
end Go.Proofs.Ytfahkoimleiknaa.F
end

section
namespace Go.Proofs.Ytfahkoimleiknaa.F
open Go.RowKit Go.Proofs.YtfahkoimleiknaaW.PrintWords Go.Proofs.YtfahkoimleiknaaW.PrintLast Go.Proofs.YtfahkoimleiknaaW.PrintMore
set_option linter.unusedVariables false
set_option linter.unusedSimpArgs false
theorem IndexFunc_sidesOf.tells (P : List Int → Bool) (l : List (List Int)) (h : l.length ≤ 1000) :
    ∃ i : Int, (0 ≤ i ↔ l.any P = true) ∧ Ev (fun k => IndexFunc_sidesOf.f (fun x => some (P x)) k l) i := by
  unfold IndexFunc_sidesOf.f
  have key : ∀ j, j ≤ l.length → ∃ i : Int, (0 ≤ i ↔ (l.drop j).any P = true) ∧ Ev (fun k => IndexFunc_sidesOf.l0 (fun x => some (P x)) k l (l.length : Int) (j : Int)) i := by
    refine Q.downTo _ ?_ ?_
    · refine ⟨-1, by rw [List.drop_length]; simp, Ev.step (by intro k; simp only [IndexFunc_sidesOf.l0]; rfl) (Q.Ev.no (by omega) (Ev.now _))⟩
    · rintro j hj ⟨i, hi, he⟩
      have hd : (l.drop j).any P = (P l[j] || (l.drop (j + 1)).any P) := by rw [List.drop_eq_getElem_cons hj, List.any_cons]
      have hr : rd_L1 l (j : Int) = l[j] := by unfold rd_L1; simp [hj]
      cases hP : P l[j] with
      | true =>
        refine ⟨(j : Int), by rw [hd, hP]; simp, Ev.step (by intro k; simp only [IndexFunc_sidesOf.l0]; rfl) (Q.Ev.yes (by omega) (Q.Ev.yes (by omega) (Q.Ev.yes (by omega) ?_)))⟩
        rw [hr, hP]
        exact Q.Ev.call rfl (Q.Ev.yes rfl (Ev.now _))
      | false =>
        refine ⟨i, by rw [hd, hP, Bool.false_or]; exact hi, Ev.step (by intro k; simp only [IndexFunc_sidesOf.l0]; rfl) (Q.Ev.yes (by omega) (Q.Ev.yes (by omega) (Q.Ev.yes (by omega) ?_)))⟩
        rw [hr, hP, Q.wid1 hj (by omega)]
        exact Q.Ev.call rfl (Q.Ev.no (by simp) he)
  exact key 0 (by omega)
set_option maxHeartbeats 8000000 in
set_option maxRecDepth 100000 in
theorem ContainsFunc_sidesOf.calls (g0_ : Nat) (b : Int) (A0 : Option Addr) (c0 : Nat) (l0 : List (List Int)) (w : World) (hg : w.heap[g0_]? = some (.cells #[.int .i64 b] 3 (0, 0))) (hr0 : Kd.C (Kd.slice 3 (Kd.int .i64)) w A0 l0.length l0) (hc0 : l0.length ≤ c0) (h : l0.length ≤ 1000) :
    Calls Try.prog 101 #[.slice A0 l0.length c0, .func (.func 102) #[] #[.pointer (some ⟨g0_, 0, none⟩)]] w fun e w' => e = .returned (.bool (l0.any fun x => ((x.length : Int) != b))) ∧ Drawn0 w w' := by
  obtain ⟨i, hi, k, he⟩ := IndexFunc_sidesOf.tells (fun x => ((x.length : Int) != b)) l0 h
  have hlt := blk_lt hg
  have hI := IndexFunc_sidesOf.calls (fun x => some ((x.length : Int) != b)) g0_ k A0 c0 l0 i w ⟨fun A c x r W hC hl hF hb => lit_sidesOf.calls g0_ A c x b r W ((hb.cell (p := ⟨g0_, 0, none⟩) hlt).trans ((blk_cell hg 0).trans rfl)) hC hl hF⟩ hr0 hc0 (he k (Nat.le_refl _))
  have HI := Aside0.mk hI
  have hb : decide (0 ≤ i) = (l0.any fun x => ((x.length : Int) != b)) := by rw [Bool.eq_iff_iff, decide_eq_true_eq]; exact hi
  have HB := Aside0.mk hb
  clear hI hi he hg hr0 hc0 h hlt hb
  go_enter Try.func101, Try.ntmps101
  go_wp2_with (go_at_call 107; (with_reducible refine HI.out.mono ?_); rintro e w' ⟨rfl, ⟨nd, rfl⟩⟩)
  go_ret
  exact ⟨by rw [← HB.out]; try simp, ⟨_, rfl⟩⟩
/-- The rows' sides. -/
def impl_sidesOf.b (l : List (List Int)) : Int := ((l.headD []).length : Int)
def impl_sidesOf.f (l : List (List Int)) : Option (Int × Int × Bool) :=
  if l.length = 0 ∨ 10 < l.length then some (0, 0, false) else
  some ((l.length : Int), impl_sidesOf.b l, (impl_areSides.f (l.length : Int) (impl_sidesOf.b l) 10 == some true) && !(l.any fun x => ((x.length : Int) != impl_sidesOf.b l)))
set_option maxHeartbeats 8000000 in
set_option maxRecDepth 100000 in
theorem impl_sidesOf.calls (A0 : Option Addr) (c0 : Nat) (l0 : List (List Int)) (r1 : Int) (r2 : Int) (r3 : Bool) (w : World) (hr0 : Kd.C (Kd.slice 3 (Kd.int .i64)) w A0 l0.length l0) (hc0 : l0.length ≤ c0) (h : impl_sidesOf.f l0 = some (r1, r2, r3)) :
    Calls Try.prog 91 #[.slice A0 l0.length c0] w fun e w' => e = .returned (.tuple #[.int .i64 r1, .int .i64 r2, .bool r3]) ∧ Below w.heap.size w w' := by
  have hmf : ∀ (fn : Fn) (first cap : Array Value) (w : World), (Instr.makeFunc fn first cap).run Try.prog w = .ok (.func fn first cap) w := fun _ _ _ _ => rfl
  unfold impl_sidesOf.f at h
  by_cases c0_ : l0.length = 0
  · rw [if_pos (.inl c0_)] at h
    simp only [Option.some.injEq, Prod.mk.injEq] at h
    obtain ⟨rfl, rfl, rfl⟩ := h
    have c1 : ((l0.length : Int) == 0) = true := beq_iff_eq.mpr (by omega)
    clear c0_ hr0 hc0
    go_enter Try.func91, Try.ntmps91
    go_wp2
    go_ret3
    exact ⟨rfl, Below.refl _ _⟩
  have c1 : ((l0.length : Int) == 0) = false := beq_eq_false_iff_ne.mpr (by omega)
  by_cases c10 : 10 < l0.length
  · rw [if_pos (.inr c10)] at h
    simp only [Option.some.injEq, Prod.mk.injEq] at h
    obtain ⟨rfl, rfl, rfl⟩ := h
    have c2 : decide ((10 : Int) < (l0.length : Int)) = true := decide_eq_true (by omega)
    have c3 : decide (10 < l0.length) = true := decide_eq_true (by omega)
    clear c10 c0_ hr0 hc0
    go_enter Try.func91, Try.ntmps91
    go_wp2
    go_ret3
    exact ⟨rfl, Below.refl _ _⟩
  rw [if_neg (by omega)] at h
  simp only [Option.some.injEq, Prod.mk.injEq] at h
  obtain ⟨rfl, rfl, rfl⟩ := h
  have c2 : decide ((10 : Int) < (l0.length : Int)) = false := decide_eq_false (by omega)
  have c3 : decide (10 < l0.length) = false := decide_eq_false (by omega)
  have p813 : 0 ≤ (0 : Int) := by omega
  have q813 : 0 < (l0.length : Int) := by omega
  obtain ⟨ad813, A813_0, c813_0, e813, hx813_0, hl813_0, hi813_0⟩ := at_L1 hr0 0 p813 q813
  cases e813
  have qi813 : (0 < l0.length) = True := eq_true (by omega)
  rw [show ((0 : Int)).toNat = 0 from rfl, Addr.add_zero'] at hx813_0
  have eb : impl_sidesOf.b l0 = ((rd_L1 l0 0).length : Int) := by
    cases l0 with
    | nil => exact absurd rfl c0_
    | cons x l => rfl
  rw [eb]
  have hC : Aside0 (∀ W : World, Aside0 (W.heap[w.heap.size]? = some (.cells #[.int .i64 ((rd_L1 l0 0).length : Int)] 3 (0, 0))) → Aside0 (Below w.heap.size w W) →
      Calls Try.prog 101 #[.slice (some ad813) l0.length c0, .func (.func 102) #[] #[.pointer (some ⟨w.heap.size, 0, none⟩)]] W fun e w' => e = .returned (.bool (l0.any fun x => ((x.length : Int) != ((rd_L1 l0 0).length : Int)))) ∧ Drawn0 W w') :=
    ⟨fun W h1 h2 => ContainsFunc_sidesOf.calls w.heap.size _ (some ad813) c0 l0 W h1.out (Kd.C_below hr0 h2.out) hc0 (by omega)⟩
  have HL := Aside0.mk hl813_0
  have HI := Aside0.mk hi813_0
  obtain ⟨t, ht⟩ : ∃ t, impl_areSides.f (l0.length : Int) ((rd_L1 l0 0).length : Int) 10 = some t := by
    unfold impl_areSides.f impl_within.f
    split <;> simp only [Option.bind_some] <;> split <;> (try (split <;> simp only [Option.bind_some] <;> split)) <;> exact ⟨_, rfl⟩
  have HT := Aside0.mk ht
  rw [ht]
  generalize hany : (l0.any fun x => ((x.length : Int) != ((rd_L1 l0 0).length : Int))) = an at hC ⊢
  clear hany ht hl813_0 hi813_0 hr0 hc0 c0_ c10 q813 eb p813
  cases t with
  | true =>
    go_enter Try.func91, Try.ntmps91
    go_wp2_with (fail)
    repeat (go_quiet (first | (go_at_call 94; (with_reducible refine (impl_areSides.calls (l0.length : Int) ((rd_L1 l0 0).length : Int) 10 true _ HT.out).mono ?_); rintro e w' ⟨rfl, ⟨nd, rfl⟩⟩; (try first | exact ⟨rfl, _, World.drewN_drewN _ _ _⟩ | exact ⟨rfl, _, Eq.trans (World.drewN_drewN _ _ _) (congrArg (World.drewN _) (Nat.add_assoc _ _ _))⟩)) | (go_at_call 101; (with_reducible refine (hC.out _ ?s1 ?s2).mono ?_); (case s1 => exact ⟨by (with_reducible repeat (first | refine blk_drewN ?_ _ | refine blk_drew ?_)); exact blk_new _ _⟩); (case s2 => exact ⟨by repeat (first | exact Below.refl _ _ | apply below_alloc | apply pw_below_drewN | apply below_drew1)⟩); rintro e w' ⟨rfl, ⟨nd, rfl⟩⟩; (try first | exact ⟨rfl, _, World.drewN_drewN _ _ _⟩ | exact ⟨rfl, _, Eq.trans (World.drewN_drewN _ _ _) (congrArg (World.drewN _) (Nat.add_assoc _ _ _))⟩))); try go_wp2_with (fail))
    go_ret3
    exact ⟨by first | rfl | (simp; done), by repeat (first | exact Below.refl _ _ | apply below_alloc | apply pw_below_drewN | apply below_drew1)⟩
  | false =>
    go_enter Try.func91, Try.ntmps91
    go_wp2_with (fail)
    repeat (go_quiet (first | (go_at_call 94; (with_reducible refine (impl_areSides.calls (l0.length : Int) ((rd_L1 l0 0).length : Int) 10 false _ HT.out).mono ?_); rintro e w' ⟨rfl, ⟨nd, rfl⟩⟩; (try first | exact ⟨rfl, _, World.drewN_drewN _ _ _⟩ | exact ⟨rfl, _, Eq.trans (World.drewN_drewN _ _ _) (congrArg (World.drewN _) (Nat.add_assoc _ _ _))⟩))); try go_wp2_with (fail))
    go_ret3
    exact ⟨by first | rfl | (simp; done), by repeat (first | exact Below.refl _ _ | apply below_alloc | apply pw_below_drewN | apply below_drew1)⟩
end Go.Proofs.Ytfahkoimleiknaa.F
end
