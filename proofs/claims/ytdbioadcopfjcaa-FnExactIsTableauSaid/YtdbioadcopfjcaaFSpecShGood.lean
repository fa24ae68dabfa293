-- px.py: written by this session's program over the kit's printer
import Derived.Test.YtdbioadcopfjcaaFkinds
import Derived.Test.YtdbioadcopfjcaaFSpecL1All
import Derived.Test.YtdbioadcopfjcaaFSpecPoIn
import Derived.Test.YtdbioadcopfjcaaFSpecShSides
namespace Go.Proofs.Ytdbioadcopfjcaa.F
open Go.RowKit Go.Proofs.YtdbioadcopfjcaaW.PrintWords Go.Proofs.YtdbioadcopfjcaaW.PrintLast Go.Proofs.YtdbioadcopfjcaaW.PrintMore
attribute [local go_sem] max2_int min2_int max_two min_two max_three min_three max_four min_four
set_option linter.unusedVariables false
set_option linter.unusedSimpArgs false

/-! ### spec_shGood: function 39 -/
mutual
def spec_shGood.j0 : Nat → List (List Int) → Bool → Option (Bool)
  | 0, _, _ => none
  | k + 1, x0, x25 => if x25 = true then (some false) else (spec_shGood.l0 k x0 0 x0 (x0.length : Int) 0)
def spec_shGood.l0 : Nat → List (List Int) → Int → List (List Int) → Int → Int → Option (Bool)
  | 0, _, _, _, _, _ => none
  | k + 1, x0, x3, x26, x27, x28 => if x28 < x27 then (if 0 ≤ x28 then (if x28 < (x26.length : Int) then (if 0 < (x0.length : Int) then (if ((rd_L1 x26 x28).length : Int) = ((rd_L1 x0 0).length : Int) then ((spec_l1All.f k (rd_L1 x26 x28) 0 (wrap64 ((wrap64 ((x0.length : Int) * ((rd_L1 x26 x28).length : Int))) - 1))).bind fun t212 => (spec_shGood.j2 k x0 x3 x28 (rd_L1 x26 x28) x26 x27 x28 (!t212))) else (spec_shGood.j2 k x0 x3 x28 (rd_L1 x26 x28) x26 x27 x28 true)) else (none)) else (none)) else (none)) else (some true)
def spec_shGood.j2 : Nat → List (List Int) → Int → Int → List Int → List (List Int) → Int → Int → Bool → Option (Bool)
  | 0, _, _, _, _, _, _, _, _ => none
  | k + 1, x0, x3, x4, x5, x26, x27, x28, x50 => if x50 = true then (some false) else (spec_shGood.l1 k x0 x3 x4 x5 x26 x27 x28 x5 (x5.length : Int) 0)
def spec_shGood.l1 : Nat → List (List Int) → Int → Int → List Int → List (List Int) → Int → Int → List Int → Int → Int → Option (Bool)
  | 0, _, _, _, _, _, _, _, _, _, _ => none
  | k + 1, x0, x3, x4, x5, x26, x27, x28, x51, x52, x53 => if x53 < x52 then (if 0 ≤ x53 then (if x53 < (x51.length : Int) then ((spec_poIn.f x3 (rd x51 x53)).bind fun t214 => (if t214 = true then (some false) else (if x53 > 0 then (if 0 ≤ (wrap64 (x53 - 1)) then (if (wrap64 (x53 - 1)) < (x5.length : Int) then (if (rd x5 (wrap64 (x53 - 1))) > (rd x51 x53) then (some false) else (if x4 > 0 then (if 0 ≤ (wrap64 (x4 - 1)) then (if (wrap64 (x4 - 1)) < (x0.length : Int) then (if x53 < ((rd_L1 x0 (wrap64 (x4 - 1))).length : Int) then (if (rd (rd_L1 x0 (wrap64 (x4 - 1))) x53) > (rd x51 x53) then (some false) else (if 0 ≤ (rd x51 x53) then (spec_shGood.l1 k x0 (Go.bits .or .i64 x3 (shl .i64 1 (rd x51 x53))) x4 x5 x26 x27 x28 x51 x52 (wrap64 (x53 + 1))) else (none))) else (none)) else (none)) else (none)) else (if 0 ≤ (rd x51 x53) then (spec_shGood.l1 k x0 (Go.bits .or .i64 x3 (shl .i64 1 (rd x51 x53))) x4 x5 x26 x27 x28 x51 x52 (wrap64 (x53 + 1))) else (none)))) else (none)) else (none)) else (if x4 > 0 then (if 0 ≤ (wrap64 (x4 - 1)) then (if (wrap64 (x4 - 1)) < (x0.length : Int) then (if x53 < ((rd_L1 x0 (wrap64 (x4 - 1))).length : Int) then (if (rd (rd_L1 x0 (wrap64 (x4 - 1))) x53) > (rd x51 x53) then (some false) else (if 0 ≤ (rd x51 x53) then (spec_shGood.l1 k x0 (Go.bits .or .i64 x3 (shl .i64 1 (rd x51 x53))) x4 x5 x26 x27 x28 x51 x52 (wrap64 (x53 + 1))) else (none))) else (none)) else (none)) else (none)) else (if 0 ≤ (rd x51 x53) then (spec_shGood.l1 k x0 (Go.bits .or .i64 x3 (shl .i64 1 (rd x51 x53))) x4 x5 x26 x27 x28 x51 x52 (wrap64 (x53 + 1))) else (none)))))) else (none)) else (none)) else (spec_shGood.l0 k x0 x3 x26 x27 (wrap64 (x28 + 1)))
end
def spec_shGood.f (k : Nat) (l0 : List (List Int)) : Option (Bool) := if (l0.length : Int) = 0 then (spec_shGood.j0 k l0 true) else (if (l0.length : Int) > 10 then (spec_shGood.j0 k l0 true) else (if 0 < (l0.length : Int) then ((spec_shSides.f (l0.length : Int) ((rd_L1 l0 0).length : Int)).bind fun t209 => (spec_shGood.j0 k l0 (!t209))) else (none)))
theorem spec_shGood.mono_l : ∀ k, (∀ y0 y1, LeO (spec_shGood.j0 k y0 y1) (spec_shGood.j0 (k + 1) y0 y1)) ∧ (∀ y0 y1 y2 y3 y4, LeO (spec_shGood.l0 k y0 y1 y2 y3 y4) (spec_shGood.l0 (k + 1) y0 y1 y2 y3 y4)) ∧ (∀ y0 y1 y2 y3 y4 y5 y6 y7, LeO (spec_shGood.j2 k y0 y1 y2 y3 y4 y5 y6 y7) (spec_shGood.j2 (k + 1) y0 y1 y2 y3 y4 y5 y6 y7)) ∧ (∀ y0 y1 y2 y3 y4 y5 y6 y7 y8 y9, LeO (spec_shGood.l1 k y0 y1 y2 y3 y4 y5 y6 y7 y8 y9) (spec_shGood.l1 (k + 1) y0 y1 y2 y3 y4 y5 y6 y7 y8 y9))
  | 0 => ⟨fun _ _ r h => by simp [spec_shGood.j0] at h, fun _ _ _ _ _ r h => by simp [spec_shGood.l0] at h, fun _ _ _ _ _ _ _ _ r h => by simp [spec_shGood.j2] at h, fun _ _ _ _ _ _ _ _ _ _ r h => by simp [spec_shGood.l1] at h⟩
  | k + 1 => by
    obtain ⟨ih0, ih1, ih2, ih3⟩ := spec_shGood.mono_l k
    refine ⟨?_, ?_, ?_, ?_⟩
    · intro y0 y1
      unfold spec_shGood.j0
      repeat' first
      | (with_reducible exact ih0 _ _)
      | (with_reducible exact ih1 _ _ _ _ _)
      | (with_reducible exact ih2 _ _ _ _ _ _ _ _)
      | (with_reducible exact ih3 _ _ _ _ _ _ _ _ _ _)
      | (with_reducible exact spec_l1All.mono _ _ _ _)
      | (with_reducible exact LeO.refl _)
      | (with_reducible exact LeO.none _)
      | (with_reducible refine LeO.ite ?_ ?_)
      | (with_reducible refine LeO.bind ?_ (fun _ => ?_))
      | exact ih0 _ _
      | exact ih1 _ _ _ _ _
      | exact ih2 _ _ _ _ _ _ _ _
      | exact ih3 _ _ _ _ _ _ _ _ _ _
      | exact spec_l1All.mono _ _ _ _
      | exact LeO.none _
      | refine LeO.ite ?_ ?_
      | refine LeO.bind ?_ (fun _ => ?_)
    · intro y0 y1 y2 y3 y4
      unfold spec_shGood.l0
      repeat' first
      | (with_reducible exact ih0 _ _)
      | (with_reducible exact ih1 _ _ _ _ _)
      | (with_reducible exact ih2 _ _ _ _ _ _ _ _)
      | (with_reducible exact ih3 _ _ _ _ _ _ _ _ _ _)
      | (with_reducible exact spec_l1All.mono _ _ _ _)
      | (with_reducible exact LeO.refl _)
      | (with_reducible exact LeO.none _)
      | (with_reducible refine LeO.ite ?_ ?_)
      | (with_reducible refine LeO.bind ?_ (fun _ => ?_))
      | exact ih0 _ _
      | exact ih1 _ _ _ _ _
      | exact ih2 _ _ _ _ _ _ _ _
      | exact ih3 _ _ _ _ _ _ _ _ _ _
      | exact spec_l1All.mono _ _ _ _
      | exact LeO.none _
      | refine LeO.ite ?_ ?_
      | refine LeO.bind ?_ (fun _ => ?_)
    · intro y0 y1 y2 y3 y4 y5 y6 y7
      unfold spec_shGood.j2
      repeat' first
      | (with_reducible exact ih0 _ _)
      | (with_reducible exact ih1 _ _ _ _ _)
      | (with_reducible exact ih2 _ _ _ _ _ _ _ _)
      | (with_reducible exact ih3 _ _ _ _ _ _ _ _ _ _)
      | (with_reducible exact spec_l1All.mono _ _ _ _)
      | (with_reducible exact LeO.refl _)
      | (with_reducible exact LeO.none _)
      | (with_reducible refine LeO.ite ?_ ?_)
      | (with_reducible refine LeO.bind ?_ (fun _ => ?_))
      | exact ih0 _ _
      | exact ih1 _ _ _ _ _
      | exact ih2 _ _ _ _ _ _ _ _
      | exact ih3 _ _ _ _ _ _ _ _ _ _
      | exact spec_l1All.mono _ _ _ _
      | exact LeO.none _
      | refine LeO.ite ?_ ?_
      | refine LeO.bind ?_ (fun _ => ?_)
    · intro y0 y1 y2 y3 y4 y5 y6 y7 y8 y9
      unfold spec_shGood.l1
      repeat' first
      | (with_reducible exact ih0 _ _)
      | (with_reducible exact ih1 _ _ _ _ _)
      | (with_reducible exact ih2 _ _ _ _ _ _ _ _)
      | (with_reducible exact ih3 _ _ _ _ _ _ _ _ _ _)
      | (with_reducible exact spec_l1All.mono _ _ _ _)
      | (with_reducible exact LeO.refl _)
      | (with_reducible exact LeO.none _)
      | (with_reducible refine LeO.ite ?_ ?_)
      | (with_reducible refine LeO.bind ?_ (fun _ => ?_))
      | exact ih0 _ _
      | exact ih1 _ _ _ _ _
      | exact ih2 _ _ _ _ _ _ _ _
      | exact ih3 _ _ _ _ _ _ _ _ _ _
      | exact spec_l1All.mono _ _ _ _
      | exact LeO.none _
      | refine LeO.ite ?_ ?_
      | refine LeO.bind ?_ (fun _ => ?_)
theorem spec_shGood.mono : ∀ a0 k, LeO (spec_shGood.f k a0) (spec_shGood.f (k + 1) a0) := by
  intro a0 k
  obtain ⟨ih0, ih1, ih2, ih3⟩ := spec_shGood.mono_l k
  unfold spec_shGood.f
  repeat' first
      | (with_reducible exact ih0 _ _)
      | (with_reducible exact ih1 _ _ _ _ _)
      | (with_reducible exact ih2 _ _ _ _ _ _ _ _)
      | (with_reducible exact ih3 _ _ _ _ _ _ _ _ _ _)
      | (with_reducible exact spec_l1All.mono _ _ _ _)
      | (with_reducible exact LeO.refl _)
      | (with_reducible exact LeO.none _)
      | (with_reducible refine LeO.ite ?_ ?_)
      | (with_reducible refine LeO.bind ?_ (fun _ => ?_))
      | exact ih0 _ _
      | exact ih1 _ _ _ _ _
      | exact ih2 _ _ _ _ _ _ _ _
      | exact ih3 _ _ _ _ _ _ _ _ _ _
      | exact spec_l1All.mono _ _ _ _
      | exact LeO.none _
      | refine LeO.ite ?_ ?_
      | refine LeO.bind ?_ (fun _ => ?_)
set_option maxHeartbeats 8000000 in
set_option maxRecDepth 100000 in
theorem spec_shGood.calls (k : Nat) (A0 : Option Addr) (c0 : Nat) (l0 : List (List Int)) (r : Bool) (w : World) (hr0 : Kd.C (Kd.slice 3 (Kd.int .i64)) w A0 l0.length l0) (hc0 : l0.length ≤ c0) (h : spec_shGood.f k l0 = some r) :
    Calls Try.prog 39 #[.slice A0 l0.length c0] w fun e w' => e = .returned (.bool r) ∧ Drawn0 w w' := by
  have HR0 := Aside0.mk hr0
  have HC0 := Aside0.mk hc0
  clear hr0 hc0
  have H : (if (l0.length : Int) = 0 then (spec_shGood.j0 k l0 true) else (if (l0.length : Int) > 10 then (spec_shGood.j0 k l0 true) else (if 0 < (l0.length : Int) then ((spec_shSides.f (l0.length : Int) ((rd_L1 l0 0).length : Int)).bind fun t209 => (spec_shGood.j0 k l0 (!t209))) else (none)))) = some r := h
  clear h
  have HC2 := Aside0.mk H
  clear H
  go_enter Try.func39, Try.ntmps39
  go_upto_region 1 with (fail)
  go_cut [25] (fun v25 wc => ∃ (kq : Nat) (x25_1 : Bool), v25 = .bool x25_1 ∧ Aside0 (spec_shGood.j0 kq l0 x25_1 = some r) ∧ Aside0 (kq ≤ k) ∧ Drawn0 w wc)
  case first =>
    have H := HC2.out
    clear HC2
    by_cases c3 : (l0.length : Int) = 0
    · rw [if_pos c3] at H
      have c3b0 : ((l0.length : Int) == 0) = true := beq_iff_eq.mpr c3
      have c3b1 : ((l0.length : Int) != 0) = false := bne_eq_false_iff_eq.mpr c3
      clear c3
      (first | rw [c3b0] | (simp only [i64_w, i32_w]; rw [c3b0]) | skip)
      have H' := Aside0.mk H
      clear H
      go_wp2
      go_meet
      case rel => exact ⟨_, (true), (by first | rfl | (simp; done) | (simp [*]; done)), H', ⟨by first | omega | exact Nat.le_refl _⟩, by repeat (first | exact Drawn0.refl _ | apply Drawn0.step)⟩
    · rw [if_neg c3] at H
      have c3b0 : ((l0.length : Int) == 0) = false := beq_eq_false_iff_ne.mpr c3
      have c3b1 : ((l0.length : Int) != 0) = true := bne_iff_ne.mpr c3
      have c3b2 : ¬ (l0 = []) := fun h_ => c3 (by rw [h_]; rfl)
      (first | rw [c3b0] | (simp only [i64_w, i32_w]; rw [c3b0]) | skip)
      by_cases c4 : (l0.length : Int) > 10
      · rw [if_pos c4] at H
        have c4b0 : decide (10 < (l0.length : Int)) = true := decide_eq_true c4
        have c4b1 : decide (10 < l0.length) = true := decide_eq_true (by omega)
        clear c4
        have H' := Aside0.mk H
        clear H
        go_wp2
        go_meet
        case rel => exact ⟨_, (true), (by first | rfl | (simp; done) | (simp [*]; done)), H', ⟨by first | omega | exact Nat.le_refl _⟩, by repeat (first | exact Drawn0.refl _ | apply Drawn0.step)⟩
      · rw [if_neg c4] at H
        have c4b0 : decide (10 < (l0.length : Int)) = false := decide_eq_false c4
        have c4b1 : decide (10 < l0.length) = false := decide_eq_false (by omega)
        clear c4
        by_cases c5 : 0 < (l0.length : Int)
        · rw [if_pos c5] at H
          have c5b0 : decide (0 < (l0.length : Int)) = true := decide_eq_true c5
          have c5b1 : decide (0 < l0.length) = true := decide_eq_true (by omega)
          clear c5
          replace H := Option.bind_eq_some_iff.mp H
          obtain ⟨t209, A60, H⟩ := H
          replace H : (spec_shGood.j0 k l0 (!t209)) = some r := H
          have A6 := Aside0.mk A60
          clear A60
          have H' := Aside0.mk H
          clear H
          have p208 : 0 ≤ (0 : Int) := (by omega)
          have q208 : 0 < (l0.length : Int) := of_decide_eq_true (by first | (with_reducible assumption) | assumption)
          obtain ⟨ad208, A208_0, c208_0, e208, hx208_0, hl208_0, hi208_0⟩ := at_L1 HR0.out 0 p208 q208
          cases e208
          have qi208 : (0 < l0.length) = True := eq_true (by omega)
          (try rw [show ((0 : Int)).toNat = 0 from rfl] at hx208_0)
          (try rw [Addr.add_zero'] at hx208_0)
          have HR208_0 := Aside0.mk hi208_0
          have HC208_0 := Aside0.mk hl208_0
          clear hi208_0 hl208_0
          replace p208 := eq_true p208
          replace q208 := eq_true q208
          go_wp2_with (first | (go_at_call 24; (with_reducible refine (spec_shSides.calls (l0.length : Int) ((rd_L1 l0 0).length : Int) t209 _ A6.out).mono ?_); rintro e w' ⟨rfl, ⟨nd, rfl⟩⟩))
          go_meet
          case rel => exact ⟨_, (!t209), (by first | rfl | (simp; done) | (simp [*]; done)), H', ⟨by first | omega | exact Nat.le_refl _⟩, by repeat (first | exact Drawn0.refl _ | apply Drawn0.step)⟩
        · rw [if_neg c5] at H
          exact absurd H (by simp)
  case rest =>
    clear HC2
    try clear c2
    try clear p2
    try clear q2
    try clear hx2
    try clear qi2
    try clear c3
    try clear c3b0
    try clear c3b1
    try clear c3b2
    try clear c4
    try clear c4b0
    try clear c4b1
    try clear c5
    try clear c5b0
    try clear c5b1
    try clear hx208_0
    try clear p208
    try clear q208
    obtain ⟨kq, x25_1, rfl, HA, HJ1, ⟨mc1, rfl⟩⟩ := hcut
    cases kq with
    | zero => exact absurd HA.out (by simp [spec_shGood.j0])
    | succ kj1 =>
      have H := HA.out
      clear HA
      simp only [spec_shGood.j0] at H
      by_cases c7 : x25_1 = true
      · subst c7
        have H1 : (some false) = some r := by rw [if_pos rfl] at H; exact H
        clear H
        have H := H1
        clear H1
        obtain rfl := Option.some.inj H
        go_wp2
        go_ret
        exact ⟨by first | rfl | (simp; done) | (simp [*]; done), by repeat (first | exact Drawn0.refl _ | apply Drawn0.step)⟩
      · replace c7 := Bool.eq_false_iff.mpr c7
        subst c7
        have H1 : (spec_shGood.l0 kj1 l0 0 l0 (l0.length : Int) 0) = some r := by rw [if_neg (show ¬ (false = true) by decide)] at H; exact H
        clear H
        have H := H1
        clear H1
        have H' := Aside0.mk H
        clear H
        go_wp2
        go_loopg [3, 28] kj1 (fun kq v3 v28 w' => ∃ (x3_2 : Int) (x28_2 : Int), v3 = .int .i64 x3_2 ∧ v28 = .int .i64 x28_2 ∧ Aside0 (spec_shGood.l0 kq l0 x3_2 l0 (l0.length : Int) x28_2 = some r) ∧ Aside0 (kq ≤ kj1) ∧ Drawn0 w w')
        case atStart => exact ⟨(0), (0), (by first | rfl | (simp; done) | (simp [*]; done)), (by first | rfl | (simp; done) | (simp [*]; done)), H', ⟨Nat.le_refl _⟩, by repeat (first | exact Drawn0.refl _ | apply Drawn0.step)⟩
        case round =>
          clear H'
          try clear c1
          try clear c2
          try clear p2
          try clear q2
          try clear hx2
          try clear qi2
          try clear c3
          try clear c3b0
          try clear c3b1
          try clear c3b2
          try clear c4
          try clear c4b0
          try clear c4b1
          try clear c5
          try clear c5b0
          try clear c5b1
          try clear c7
          try clear hx208_0
          try clear p2
          try clear p208
          try clear q2
          try clear q208
          obtain ⟨x3_2, x28_2, rfl, rfl, HA, HK2, ⟨m2, rfl⟩⟩ := hrel
          cases gk with
          | zero => exact absurd HA.out (by simp [spec_shGood.l0])
          | succ k2 =>
            have H := HA.out
            clear HA
            simp only [spec_shGood.l0] at H
            by_cases c8 : x28_2 < (l0.length : Int)
            · rw [if_pos c8] at H
              have c8b0 : decide (x28_2 < (l0.length : Int)) = true := decide_eq_true c8
              clear c8
              by_cases c9 : 0 ≤ x28_2
              · rw [if_pos c9] at H
                have c9b0 : decide (0 ≤ x28_2) = true := decide_eq_true c9
                clear c9
                by_cases c10 : x28_2 < (l0.length : Int)
                · rw [if_pos c10] at H
                  have c10b0 : decide (x28_2 < (l0.length : Int)) = true := decide_eq_true c10
                  clear c10
                  have HC11 := Aside0.mk H
                  clear H
                  have p210 : 0 ≤ (x28_2 : Int) := of_decide_eq_true (by first | (with_reducible assumption) | assumption)
                  have q210 : x28_2 < (l0.length : Int) := of_decide_eq_true (by first | (with_reducible assumption) | assumption)
                  obtain ⟨ad210, A210_0, c210_0, e210, hx210_0, hl210_0, hi210_0⟩ := at_L1 HR0.out x28_2 p210 q210
                  cases e210
                  have HR210_0 := Aside0.mk hi210_0
                  have HC210_0 := Aside0.mk hl210_0
                  clear hi210_0 hl210_0
                  replace p210 := eq_true p210
                  replace q210 := eq_true q210
                  go_upto_region 7 with (fail)
                  go_cut [50] (fun v50 wc => ∃ (kq : Nat) (x50_10 : Bool), v50 = .bool x50_10 ∧ Aside0 (spec_shGood.j2 kq l0 x3_2 x28_2 (rd_L1 l0 x28_2) l0 (l0.length : Int) x28_2 x50_10 = some r) ∧ Aside0 (kq ≤ k2) ∧ Drawn0 w wc)
                  case first =>
                    have H := HC11.out
                    clear HC11
                    by_cases c12 : 0 < (l0.length : Int)
                    · rw [if_pos c12] at H
                      have c12b0 : decide (0 < (l0.length : Int)) = true := decide_eq_true c12
                      have c12b1 : decide (0 < l0.length) = true := decide_eq_true (by omega)
                      clear c12
                      (first | rw [c12b0] | (simp only [i64_w, i32_w]; rw [c12b0]) | skip)
                      by_cases c13 : ((rd_L1 l0 x28_2).length : Int) = ((rd_L1 l0 0).length : Int)
                      · rw [if_pos c13] at H
                        have c13b0 : (((rd_L1 l0 x28_2).length : Int) == ((rd_L1 l0 0).length : Int)) = true := beq_iff_eq.mpr c13
                        have c13b1 : (((rd_L1 l0 x28_2).length : Int) != ((rd_L1 l0 0).length : Int)) = false := bne_eq_false_iff_eq.mpr c13
                        have c13b2 : ((rd_L1 l0 x28_2).length == (rd_L1 l0 0).length) = true := by first | simpa using c13 | (simp at c13 ⊢; omega)
                        clear c13
                        replace H := Option.bind_eq_some_iff.mp H
                        obtain ⟨t212, A140, H⟩ := H
                        replace H : (spec_shGood.j2 k2 l0 x3_2 x28_2 (rd_L1 l0 x28_2) l0 (l0.length : Int) x28_2 (!t212)) = some r := H
                        have A14 := Aside0.mk A140
                        clear A140
                        have H' := Aside0.mk H
                        clear H
                        have p211 : 0 ≤ (0 : Int) := (by omega)
                        have q211 : 0 < (l0.length : Int) := of_decide_eq_true (by first | (with_reducible assumption) | assumption)
                        obtain ⟨ad211, A211_0, c211_0, e211, hx211_0, hl211_0, hi211_0⟩ := at_L1 HR0.out 0 p211 q211
                        obtain rfl : ad210 = ad211 := (by injection e211)
                        have qi211 : (0 < l0.length) = True := eq_true (by omega)
                        (try rw [show ((0 : Int)).toNat = 0 from rfl] at hx211_0)
                        (try rw [Addr.add_zero'] at hx211_0)
                        have HR211_0 := Aside0.mk hi211_0
                        have HC211_0 := Aside0.mk hl211_0
                        clear hi211_0 hl211_0
                        replace p211 := eq_true p211
                        replace q211 := eq_true q211
                        go_wp2_with (first | (go_at_call 57; (with_reducible refine (spec_l1All.calls k2 _ _ (rd_L1 l0 x28_2) 0 (wrap64 ((wrap64 ((l0.length : Int) * ((rd_L1 l0 x28_2).length : Int))) - 1)) t212 _ ?side1 ?side2 A14.out).mono ?_); (case side1 => repeat (first | exact HR210_0.out | (with_reducible refine Kd.C_alloc ?_ _) | (with_reducible refine Kd.C_drewN ?_ _) | (with_reducible refine Kd.C_drew ?_))); (case side2 => exact HC210_0.out); rintro e w' ⟨rfl, ⟨nd, rfl⟩⟩))
                        go_meet
                        case rel => exact ⟨_, (!t212), (by first | rfl | (simp; done) | (simp [*]; done)), H', ⟨by have := HJ1.out; have := HK2.out; first | omega | exact Nat.le_refl _⟩, by repeat (first | exact Drawn0.refl _ | apply Drawn0.step)⟩
                      · rw [if_neg c13] at H
                        have c13b0 : (((rd_L1 l0 x28_2).length : Int) == ((rd_L1 l0 0).length : Int)) = false := beq_eq_false_iff_ne.mpr c13
                        have c13b1 : (((rd_L1 l0 x28_2).length : Int) != ((rd_L1 l0 0).length : Int)) = true := bne_iff_ne.mpr c13
                        have c13b2 : ((rd_L1 l0 x28_2).length == (rd_L1 l0 0).length) = false := by first | simpa using c13 | (simp at c13 ⊢; omega)
                        have H' := Aside0.mk H
                        clear H
                        have p211 : 0 ≤ (0 : Int) := (by omega)
                        have q211 : 0 < (l0.length : Int) := of_decide_eq_true (by first | (with_reducible assumption) | assumption)
                        obtain ⟨ad211, A211_0, c211_0, e211, hx211_0, hl211_0, hi211_0⟩ := at_L1 HR0.out 0 p211 q211
                        obtain rfl : ad210 = ad211 := (by injection e211)
                        have qi211 : (0 < l0.length) = True := eq_true (by omega)
                        (try rw [show ((0 : Int)).toNat = 0 from rfl] at hx211_0)
                        (try rw [Addr.add_zero'] at hx211_0)
                        have HR211_0 := Aside0.mk hi211_0
                        have HC211_0 := Aside0.mk hl211_0
                        clear hi211_0 hl211_0
                        replace p211 := eq_true p211
                        replace q211 := eq_true q211
                        go_wp2
                        go_meet
                        case rel => exact ⟨_, (true), (by first | rfl | (simp; done) | (simp [*]; done)), H', ⟨by have := HJ1.out; have := HK2.out; first | omega | exact Nat.le_refl _⟩, by repeat (first | exact Drawn0.refl _ | apply Drawn0.step)⟩
                    · rw [if_neg c12] at H
                      exact absurd H (by simp)
                  case rest =>
                    clear HC11
                    try clear c1
                    try clear c2
                    try clear p2
                    try clear q2
                    try clear hx2
                    try clear qi2
                    try clear c3
                    try clear c3b0
                    try clear c3b1
                    try clear c3b2
                    try clear c4
                    try clear c4b0
                    try clear c4b1
                    try clear c5
                    try clear c5b0
                    try clear c5b1
                    try clear p6
                    try clear c7
                    try clear c8
                    try clear c8b0
                    try clear c9
                    try clear c9b0
                    try clear c10
                    try clear c10b0
                    try clear c12
                    try clear c12b0
                    try clear c12b1
                    try clear c13
                    try clear c13b0
                    try clear c13b1
                    try clear c13b2
                    try clear hx208_0
                    try clear hx210_0
                    try clear hx211_0
                    try clear p2
                    try clear p208
                    try clear p210
                    try clear p211
                    try clear q2
                    try clear q208
                    try clear q210
                    try clear q211
                    obtain ⟨kq, x50_10, rfl, HA, HJ10, ⟨mc10, rfl⟩⟩ := hcut
                    cases kq with
                    | zero => exact absurd HA.out (by simp [spec_shGood.j2])
                    | succ kj10 =>
                      have H := HA.out
                      clear HA
                      simp only [spec_shGood.j2] at H
                      by_cases c15 : x50_10 = true
                      · subst c15
                        have H1 : (some false) = some r := by rw [if_pos rfl] at H; exact H
                        clear H
                        have H := H1
                        clear H1
                        obtain rfl := Option.some.inj H
                        go_wp2
                        go_ret
                        exact ⟨by first | rfl | (simp; done) | (simp [*]; done), by repeat (first | exact Drawn0.refl _ | apply Drawn0.step)⟩
                      · replace c15 := Bool.eq_false_iff.mpr c15
                        subst c15
                        have H1 : (spec_shGood.l1 kj10 l0 x3_2 x28_2 (rd_L1 l0 x28_2) l0 (l0.length : Int) x28_2 (rd_L1 l0 x28_2) ((rd_L1 l0 x28_2).length : Int) 0) = some r := by rw [if_neg (show ¬ (false = true) by decide)] at H; exact H
                        clear H
                        have H := H1
                        clear H1
                        have H' := Aside0.mk H
                        clear H
                        go_wp2
                        go_loopg [3, 53] kj10 (fun kq v3 v53 w' => ∃ (x3_4 : Int) (x53_4 : Int), v3 = .int .i64 x3_4 ∧ v53 = .int .i64 x53_4 ∧ Aside0 (spec_shGood.l1 kq l0 x3_4 x28_2 (rd_L1 l0 x28_2) l0 (l0.length : Int) x28_2 (rd_L1 l0 x28_2) ((rd_L1 l0 x28_2).length : Int) x53_4 = some r) ∧ Aside0 (kq ≤ kj10) ∧ Drawn0 w w')
                        case atStart => exact ⟨(x3_2), (0), (by first | rfl | (simp; done) | (simp [*]; done)), (by first | rfl | (simp; done) | (simp [*]; done)), H', ⟨Nat.le_refl _⟩, by repeat (first | exact Drawn0.refl _ | apply Drawn0.step)⟩
                        case round =>
                          clear H'
                          try clear c1
                          try clear c2
                          try clear p2
                          try clear q2
                          try clear hx2
                          try clear qi2
                          try clear c3
                          try clear c3b0
                          try clear c3b1
                          try clear c3b2
                          try clear c4
                          try clear c4b0
                          try clear c4b1
                          try clear c5
                          try clear c5b0
                          try clear c5b1
                          try clear p6
                          try clear c7
                          try clear c8
                          try clear c8b0
                          try clear c9
                          try clear c9b0
                          try clear c10
                          try clear c10b0
                          try clear c12
                          try clear c12b0
                          try clear c12b1
                          try clear c13
                          try clear c13b0
                          try clear c13b1
                          try clear c13b2
                          try clear c15
                          try clear hx208_0
                          try clear hx210_0
                          try clear hx211_0
                          try clear p2
                          try clear p208
                          try clear p210
                          try clear p211
                          try clear p6
                          try clear q2
                          try clear q208
                          try clear q210
                          try clear q211
                          obtain ⟨x3_4, x53_4, rfl, rfl, HA, HK4, ⟨m4, rfl⟩⟩ := hrel
                          cases gk with
                          | zero => exact absurd HA.out (by simp [spec_shGood.l1])
                          | succ k4 =>
                            have H := HA.out
                            clear HA
                            simp only [spec_shGood.l1] at H
                            by_cases c16 : x53_4 < ((rd_L1 l0 x28_2).length : Int)
                            · rw [if_pos c16] at H
                              have c16b0 : decide (x53_4 < ((rd_L1 l0 x28_2).length : Int)) = true := decide_eq_true c16
                              clear c16
                              by_cases c17 : 0 ≤ x53_4
                              · rw [if_pos c17] at H
                                have c17b0 : decide (0 ≤ x53_4) = true := decide_eq_true c17
                                clear c17
                                by_cases c18 : x53_4 < ((rd_L1 l0 x28_2).length : Int)
                                · rw [if_pos c18] at H
                                  have c18b0 : decide (x53_4 < ((rd_L1 l0 x28_2).length : Int)) = true := decide_eq_true c18
                                  clear c18
                                  replace H := Option.bind_eq_some_iff.mp H
                                  obtain ⟨t214, A190, H⟩ := H
                                  replace H : (if t214 = true then (some false) else (if x53_4 > 0 then (if 0 ≤ (wrap64 (x53_4 - 1)) then (if (wrap64 (x53_4 - 1)) < ((rd_L1 l0 x28_2).length : Int) then (if (rd (rd_L1 l0 x28_2) (wrap64 (x53_4 - 1))) > (rd (rd_L1 l0 x28_2) x53_4) then (some false) else (if x28_2 > 0 then (if 0 ≤ (wrap64 (x28_2 - 1)) then (if (wrap64 (x28_2 - 1)) < (l0.length : Int) then (if x53_4 < ((rd_L1 l0 (wrap64 (x28_2 - 1))).length : Int) then (if (rd (rd_L1 l0 (wrap64 (x28_2 - 1))) x53_4) > (rd (rd_L1 l0 x28_2) x53_4) then (some false) else (if 0 ≤ (rd (rd_L1 l0 x28_2) x53_4) then (spec_shGood.l1 k4 l0 (Go.bits .or .i64 x3_4 (shl .i64 1 (rd (rd_L1 l0 x28_2) x53_4))) x28_2 (rd_L1 l0 x28_2) l0 (l0.length : Int) x28_2 (rd_L1 l0 x28_2) ((rd_L1 l0 x28_2).length : Int) (wrap64 (x53_4 + 1))) else (none))) else (none)) else (none)) else (none)) else (if 0 ≤ (rd (rd_L1 l0 x28_2) x53_4) then (spec_shGood.l1 k4 l0 (Go.bits .or .i64 x3_4 (shl .i64 1 (rd (rd_L1 l0 x28_2) x53_4))) x28_2 (rd_L1 l0 x28_2) l0 (l0.length : Int) x28_2 (rd_L1 l0 x28_2) ((rd_L1 l0 x28_2).length : Int) (wrap64 (x53_4 + 1))) else (none)))) else (none)) else (none)) else (if x28_2 > 0 then (if 0 ≤ (wrap64 (x28_2 - 1)) then (if (wrap64 (x28_2 - 1)) < (l0.length : Int) then (if x53_4 < ((rd_L1 l0 (wrap64 (x28_2 - 1))).length : Int) then (if (rd (rd_L1 l0 (wrap64 (x28_2 - 1))) x53_4) > (rd (rd_L1 l0 x28_2) x53_4) then (some false) else (if 0 ≤ (rd (rd_L1 l0 x28_2) x53_4) then (spec_shGood.l1 k4 l0 (Go.bits .or .i64 x3_4 (shl .i64 1 (rd (rd_L1 l0 x28_2) x53_4))) x28_2 (rd_L1 l0 x28_2) l0 (l0.length : Int) x28_2 (rd_L1 l0 x28_2) ((rd_L1 l0 x28_2).length : Int) (wrap64 (x53_4 + 1))) else (none))) else (none)) else (none)) else (none)) else (if 0 ≤ (rd (rd_L1 l0 x28_2) x53_4) then (spec_shGood.l1 k4 l0 (Go.bits .or .i64 x3_4 (shl .i64 1 (rd (rd_L1 l0 x28_2) x53_4))) x28_2 (rd_L1 l0 x28_2) l0 (l0.length : Int) x28_2 (rd_L1 l0 x28_2) ((rd_L1 l0 x28_2).length : Int) (wrap64 (x53_4 + 1))) else (none))))) = some r := H
                                  have A19 := Aside0.mk A190
                                  clear A190
                                  by_cases c20 : t214 = true
                                  · subst c20
                                    have H1 : (some false) = some r := by rw [if_pos rfl] at H; exact H
                                    clear H
                                    have H := H1
                                    clear H1
                                    obtain rfl := Option.some.inj H
                                    have p213 : 0 ≤ (x53_4 : Int) := of_decide_eq_true (by first | (with_reducible assumption) | assumption)
                                    have q213 : x53_4 < ((rd_L1 l0 x28_2).length : Int) := of_decide_eq_true (by first | (with_reducible assumption) | assumption)
                                    obtain ⟨ad213, e213, hx213_0⟩ := Kd.at_int HR210_0.out x53_4 p213 q213
                                    cases e213
                                    replace p213 := eq_true p213
                                    replace q213 := eq_true q213
                                    go_wp2_with (first | ((with_reducible refine gate_callee (f := 58) rfl ?_); refine goesL_ (some 60) rfl rfl Try.func58 (by kernel_rfl) rfl #[.int .i64 x3_4, .int .i64 (rd (rd_L1 l0 x28_2) x53_4)] rfl (by (try simp only [List.map_toArray, List.map_cons, List.map_nil]); first | done | rfl | (simp only [List.length_drop, List.length_take]; rfl)) ?_; (with_reducible refine (spec_poIn.calls x3_4 (rd (rd_L1 l0 x28_2) x53_4) true _ A19.out).mono ?_); rintro e w' ⟨rfl, ⟨nd, rfl⟩⟩; refine ⟨_, rfl, ?_⟩))
                                    go_ret
                                    exact ⟨by first | rfl | (simp; done) | (simp [*]; done), by repeat (first | exact Drawn0.refl _ | apply Drawn0.step)⟩
                                  · replace c20 := Bool.eq_false_iff.mpr c20
                                    subst c20
                                    have H1 : (if x53_4 > 0 then (if 0 ≤ (wrap64 (x53_4 - 1)) then (if (wrap64 (x53_4 - 1)) < ((rd_L1 l0 x28_2).length : Int) then (if (rd (rd_L1 l0 x28_2) (wrap64 (x53_4 - 1))) > (rd (rd_L1 l0 x28_2) x53_4) then (some false) else (if x28_2 > 0 then (if 0 ≤ (wrap64 (x28_2 - 1)) then (if (wrap64 (x28_2 - 1)) < (l0.length : Int) then (if x53_4 < ((rd_L1 l0 (wrap64 (x28_2 - 1))).length : Int) then (if (rd (rd_L1 l0 (wrap64 (x28_2 - 1))) x53_4) > (rd (rd_L1 l0 x28_2) x53_4) then (some false) else (if 0 ≤ (rd (rd_L1 l0 x28_2) x53_4) then (spec_shGood.l1 k4 l0 (Go.bits .or .i64 x3_4 (shl .i64 1 (rd (rd_L1 l0 x28_2) x53_4))) x28_2 (rd_L1 l0 x28_2) l0 (l0.length : Int) x28_2 (rd_L1 l0 x28_2) ((rd_L1 l0 x28_2).length : Int) (wrap64 (x53_4 + 1))) else (none))) else (none)) else (none)) else (none)) else (if 0 ≤ (rd (rd_L1 l0 x28_2) x53_4) then (spec_shGood.l1 k4 l0 (Go.bits .or .i64 x3_4 (shl .i64 1 (rd (rd_L1 l0 x28_2) x53_4))) x28_2 (rd_L1 l0 x28_2) l0 (l0.length : Int) x28_2 (rd_L1 l0 x28_2) ((rd_L1 l0 x28_2).length : Int) (wrap64 (x53_4 + 1))) else (none)))) else (none)) else (none)) else (if x28_2 > 0 then (if 0 ≤ (wrap64 (x28_2 - 1)) then (if (wrap64 (x28_2 - 1)) < (l0.length : Int) then (if x53_4 < ((rd_L1 l0 (wrap64 (x28_2 - 1))).length : Int) then (if (rd (rd_L1 l0 (wrap64 (x28_2 - 1))) x53_4) > (rd (rd_L1 l0 x28_2) x53_4) then (some false) else (if 0 ≤ (rd (rd_L1 l0 x28_2) x53_4) then (spec_shGood.l1 k4 l0 (Go.bits .or .i64 x3_4 (shl .i64 1 (rd (rd_L1 l0 x28_2) x53_4))) x28_2 (rd_L1 l0 x28_2) l0 (l0.length : Int) x28_2 (rd_L1 l0 x28_2) ((rd_L1 l0 x28_2).length : Int) (wrap64 (x53_4 + 1))) else (none))) else (none)) else (none)) else (none)) else (if 0 ≤ (rd (rd_L1 l0 x28_2) x53_4) then (spec_shGood.l1 k4 l0 (Go.bits .or .i64 x3_4 (shl .i64 1 (rd (rd_L1 l0 x28_2) x53_4))) x28_2 (rd_L1 l0 x28_2) l0 (l0.length : Int) x28_2 (rd_L1 l0 x28_2) ((rd_L1 l0 x28_2).length : Int) (wrap64 (x53_4 + 1))) else (none)))) = some r := by rw [if_neg (show ¬ (false = true) by decide)] at H; exact H
                                    clear H
                                    have H := H1
                                    clear H1
                                    by_cases c21 : x53_4 > 0
                                    · rw [if_pos c21] at H
                                      have c21b0 : decide (0 < x53_4) = true := decide_eq_true c21
                                      clear c21
                                      obtain ⟨ji22, hji22⟩ : ∃ j_ : Int, (wrap64 (x53_4 - 1)) = j_ := ⟨_, rfl⟩
                                      replace H : (if 0 ≤ (ji22) then (if (ji22) < ((rd_L1 l0 x28_2).length : Int) then (if (rd (rd_L1 l0 x28_2) (ji22)) > (rd (rd_L1 l0 x28_2) x53_4) then (some false) else (if x28_2 > 0 then (if 0 ≤ (wrap64 (x28_2 - 1)) then (if (wrap64 (x28_2 - 1)) < (l0.length : Int) then (if x53_4 < ((rd_L1 l0 (wrap64 (x28_2 - 1))).length : Int) then (if (rd (rd_L1 l0 (wrap64 (x28_2 - 1))) x53_4) > (rd (rd_L1 l0 x28_2) x53_4) then (some false) else (if 0 ≤ (rd (rd_L1 l0 x28_2) x53_4) then (spec_shGood.l1 k4 l0 (Go.bits .or .i64 x3_4 (shl .i64 1 (rd (rd_L1 l0 x28_2) x53_4))) x28_2 (rd_L1 l0 x28_2) l0 (l0.length : Int) x28_2 (rd_L1 l0 x28_2) ((rd_L1 l0 x28_2).length : Int) (wrap64 (x53_4 + 1))) else (none))) else (none)) else (none)) else (none)) else (if 0 ≤ (rd (rd_L1 l0 x28_2) x53_4) then (spec_shGood.l1 k4 l0 (Go.bits .or .i64 x3_4 (shl .i64 1 (rd (rd_L1 l0 x28_2) x53_4))) x28_2 (rd_L1 l0 x28_2) l0 (l0.length : Int) x28_2 (rd_L1 l0 x28_2) ((rd_L1 l0 x28_2).length : Int) (wrap64 (x53_4 + 1))) else (none)))) else (none)) else (none)) = some r := by first | (rw [hji22] at H; exact H) | (simp only [hji22] at H ⊢; exact H)
                                      (try rw [hji22] at A19)
                                      have hji22w : (IntKind.i64.wrap (x53_4 - 1)) = ji22 := (i64_w _).trans hji22
                                      by_cases c23 : 0 ≤ (ji22)
                                      · rw [if_pos c23] at H
                                        have c23b0 : decide (0 ≤ (ji22)) = true := decide_eq_true c23
                                        clear c23
                                        by_cases c24 : (ji22) < ((rd_L1 l0 x28_2).length : Int)
                                        · rw [if_pos c24] at H
                                          have c24b0 : decide ((ji22) < ((rd_L1 l0 x28_2).length : Int)) = true := decide_eq_true c24
                                          clear c24
                                          by_cases c25 : (rd (rd_L1 l0 x28_2) (ji22)) > (rd (rd_L1 l0 x28_2) x53_4)
                                          · rw [if_pos c25] at H
                                            have c25b0 : decide ((rd (rd_L1 l0 x28_2) x53_4) < (rd (rd_L1 l0 x28_2) (ji22))) = true := decide_eq_true c25
                                            clear c25
                                            obtain rfl := Option.some.inj H
                                            have p213 : 0 ≤ (x53_4 : Int) := of_decide_eq_true (by first | (with_reducible assumption) | assumption)
                                            have q213 : x53_4 < ((rd_L1 l0 x28_2).length : Int) := of_decide_eq_true (by first | (with_reducible assumption) | assumption)
                                            obtain ⟨ad213, e213, hx213_0⟩ := Kd.at_int HR210_0.out x53_4 p213 q213
                                            cases e213
                                            replace p213 := eq_true p213
                                            replace q213 := eq_true q213
                                            go_wp2_with (first | ((with_reducible refine gate_callee (f := 58) rfl ?_); refine goesL_ (some 60) rfl rfl Try.func58 (by kernel_rfl) rfl #[.int .i64 x3_4, .int .i64 (rd (rd_L1 l0 x28_2) x53_4)] rfl (by (try simp only [List.map_toArray, List.map_cons, List.map_nil]); first | done | rfl | (simp only [List.length_drop, List.length_take]; rfl)) ?_; (with_reducible refine (spec_poIn.calls x3_4 (rd (rd_L1 l0 x28_2) x53_4) false _ A19.out).mono ?_); rintro e w' ⟨rfl, ⟨nd, rfl⟩⟩; refine ⟨_, rfl, ?_⟩; have p215 : 0 ≤ ((ji22) : Int) := of_decide_eq_true (by first | (with_reducible assumption) | assumption); have q215 : (ji22) < ((rd_L1 l0 x28_2).length : Int) := of_decide_eq_true (by first | (with_reducible assumption) | assumption); obtain ⟨ad215, e215, hx215_0⟩ := Kd.at_int HR210_0.out (ji22) p215 q215; obtain rfl : ad213 = ad215 := (by injection e215); replace p215 := eq_true p215; replace q215 := eq_true q215))
                                            go_ret
                                            exact ⟨by first | rfl | (simp; done) | (simp only [← hji22] <;> (first | rfl | simp)) | (simp [*]; done), by repeat (first | exact Drawn0.refl _ | apply Drawn0.step)⟩
                                          · rw [if_neg c25] at H
                                            have c25b0 : decide ((rd (rd_L1 l0 x28_2) x53_4) < (rd (rd_L1 l0 x28_2) (ji22))) = false := decide_eq_false c25
                                            clear c25
                                            by_cases c26 : x28_2 > 0
                                            · rw [if_pos c26] at H
                                              have c26b0 : decide (0 < x28_2) = true := decide_eq_true c26
                                              clear c26
                                              obtain ⟨ji27, hji27⟩ : ∃ j_ : Int, (wrap64 (x28_2 - 1)) = j_ := ⟨_, rfl⟩
                                              replace H : (if 0 ≤ (ji27) then (if (ji27) < (l0.length : Int) then (if x53_4 < ((rd_L1 l0 (ji27)).length : Int) then (if (rd (rd_L1 l0 (ji27)) x53_4) > (rd (rd_L1 l0 x28_2) x53_4) then (some false) else (if 0 ≤ (rd (rd_L1 l0 x28_2) x53_4) then (spec_shGood.l1 k4 l0 (Go.bits .or .i64 x3_4 (shl .i64 1 (rd (rd_L1 l0 x28_2) x53_4))) x28_2 (rd_L1 l0 x28_2) l0 (l0.length : Int) x28_2 (rd_L1 l0 x28_2) ((rd_L1 l0 x28_2).length : Int) (wrap64 (x53_4 + 1))) else (none))) else (none)) else (none)) else (none)) = some r := by first | (rw [hji27] at H; exact H) | (simp only [hji27] at H ⊢; exact H)
                                              (try rw [hji27] at A19)
                                              have hji27w : (IntKind.i64.wrap (x28_2 - 1)) = ji27 := (i64_w _).trans hji27
                                              by_cases c28 : 0 ≤ (ji27)
                                              · rw [if_pos c28] at H
                                                have c28b0 : decide (0 ≤ (ji27)) = true := decide_eq_true c28
                                                clear c28
                                                by_cases c29 : (ji27) < (l0.length : Int)
                                                · rw [if_pos c29] at H
                                                  have c29b0 : decide ((ji27) < (l0.length : Int)) = true := decide_eq_true c29
                                                  clear c29
                                                  by_cases c30 : x53_4 < ((rd_L1 l0 (ji27)).length : Int)
                                                  · rw [if_pos c30] at H
                                                    have c30b0 : decide (x53_4 < ((rd_L1 l0 (ji27)).length : Int)) = true := decide_eq_true c30
                                                    clear c30
                                                    by_cases c31 : (rd (rd_L1 l0 (ji27)) x53_4) > (rd (rd_L1 l0 x28_2) x53_4)
                                                    · rw [if_pos c31] at H
                                                      have c31b0 : decide ((rd (rd_L1 l0 x28_2) x53_4) < (rd (rd_L1 l0 (ji27)) x53_4)) = true := decide_eq_true c31
                                                      clear c31
                                                      obtain rfl := Option.some.inj H
                                                      have p213 : 0 ≤ (x53_4 : Int) := of_decide_eq_true (by first | (with_reducible assumption) | assumption)
                                                      have q213 : x53_4 < ((rd_L1 l0 x28_2).length : Int) := of_decide_eq_true (by first | (with_reducible assumption) | assumption)
                                                      obtain ⟨ad213, e213, hx213_0⟩ := Kd.at_int HR210_0.out x53_4 p213 q213
                                                      cases e213
                                                      replace p213 := eq_true p213
                                                      replace q213 := eq_true q213
                                                      go_wp2_with (first | ((with_reducible refine gate_callee (f := 58) rfl ?_); refine goesL_ (some 60) rfl rfl Try.func58 (by kernel_rfl) rfl #[.int .i64 x3_4, .int .i64 (rd (rd_L1 l0 x28_2) x53_4)] rfl (by (try simp only [List.map_toArray, List.map_cons, List.map_nil]); first | done | rfl | (simp only [List.length_drop, List.length_take]; rfl)) ?_; (with_reducible refine (spec_poIn.calls x3_4 (rd (rd_L1 l0 x28_2) x53_4) false _ A19.out).mono ?_); rintro e w' ⟨rfl, ⟨nd, rfl⟩⟩; refine ⟨_, rfl, ?_⟩; have p215 : 0 ≤ ((ji22) : Int) := of_decide_eq_true (by first | (with_reducible assumption) | assumption); have q215 : (ji22) < ((rd_L1 l0 x28_2).length : Int) := of_decide_eq_true (by first | (with_reducible assumption) | assumption); obtain ⟨ad215, e215, hx215_0⟩ := Kd.at_int HR210_0.out (ji22) p215 q215; obtain rfl : ad213 = ad215 := (by injection e215); replace p215 := eq_true p215; replace q215 := eq_true q215; have p216 : 0 ≤ ((ji27) : Int) := of_decide_eq_true (by first | (with_reducible assumption) | assumption); have q216 : (ji27) < (l0.length : Int) := of_decide_eq_true (by first | (with_reducible assumption) | assumption); obtain ⟨ad216, A216_0, c216_0, e216, hx216_0, hl216_0, hi216_0⟩ := at_L1 HR0.out (ji27) p216 q216; obtain rfl : ad210 = ad216 := (by injection e216); have HR216_0 := Aside0.mk hi216_0; have HC216_0 := Aside0.mk hl216_0; clear hi216_0 hl216_0; replace p216 := eq_true p216; replace q216 := eq_true q216; have p217 : 0 ≤ (x53_4 : Int) := of_decide_eq_true (by first | (with_reducible assumption) | assumption); have q217 : x53_4 < ((rd_L1 l0 (ji27)).length : Int) := of_decide_eq_true (by first | (with_reducible assumption) | assumption); obtain ⟨ad217, e217, hx217_0⟩ := Kd.at_int HR216_0.out x53_4 p217 q217; cases e217; replace p217 := eq_true p217; replace q217 := eq_true q217))
                                                      go_ret
                                                      exact ⟨by first | rfl | (simp; done) | (simp only [← hji22, ← hji27] <;> (first | rfl | simp)) | (simp [*]; done), by repeat (first | exact Drawn0.refl _ | apply Drawn0.step)⟩
                                                    · rw [if_neg c31] at H
                                                      have c31b0 : decide ((rd (rd_L1 l0 x28_2) x53_4) < (rd (rd_L1 l0 (ji27)) x53_4)) = false := decide_eq_false c31
                                                      clear c31
                                                      by_cases c32 : 0 ≤ (rd (rd_L1 l0 x28_2) x53_4)
                                                      · rw [if_pos c32] at H
                                                        have c32b0 := eq_true c32
                                                        have c32b1 : decide (0 ≤ (rd (rd_L1 l0 x28_2) x53_4)) = true := decide_eq_true c32
                                                        clear c32
                                                        obtain ⟨ji33, hji33⟩ : ∃ j_ : Int, (shl .i64 1 (rd (rd_L1 l0 x28_2) x53_4)) = j_ := ⟨_, rfl⟩
                                                        replace H : (spec_shGood.l1 k4 l0 (Go.bits .or .i64 x3_4 (ji33)) x28_2 (rd_L1 l0 x28_2) l0 (l0.length : Int) x28_2 (rd_L1 l0 x28_2) ((rd_L1 l0 x28_2).length : Int) (wrap64 (x53_4 + 1))) = some r := by first | (rw [hji33] at H; exact H) | (simp only [hji33] at H ⊢; exact H)
                                                        (try rw [hji33] at A19)
                                                        have hji33_ : (IntKind.i64.wrap (1 * 2 ^ min (rd (rd_L1 l0 x28_2) x53_4).toNat 64)) = ji33 := hji33
                                                        have hji33z : (rd (rd_L1 l0 x28_2) x53_4) ≤ 64 → (IntKind.i64.wrap (1 * 2 ^ (rd (rd_L1 l0 x28_2) x53_4).toNat)) = ji33 := shl_small hji33
                                                        have hji33u : (IntKind.i64.wrap (2 ^ min (rd (rd_L1 l0 x28_2) x53_4).toNat 64)) = ji33 := by have h_ := hji33_; rw [Int.one_mul] at h_; exact h_
                                                        have hji33v : (rd (rd_L1 l0 x28_2) x53_4) ≤ 64 → (IntKind.i64.wrap (2 ^ (rd (rd_L1 l0 x28_2) x53_4).toNat)) = ji33 := fun hle_ => by have h_ := hji33z hle_; rw [Int.one_mul] at h_; exact h_
                                                        have hji33y : (wrap64 (1 * 2 ^ min (rd (rd_L1 l0 x28_2) x53_4).toNat 64)) = ji33 := (i64_w _).symm.trans hji33_
                                                        have hji33x : (rd (rd_L1 l0 x28_2) x53_4) ≤ 64 → (wrap64 (1 * 2 ^ (rd (rd_L1 l0 x28_2) x53_4).toNat)) = ji33 := fun h_ => (i64_w _).symm.trans (hji33z h_)
                                                        have H' := Aside0.mk H
                                                        clear H
                                                        have p213 : 0 ≤ (x53_4 : Int) := of_decide_eq_true (by first | (with_reducible assumption) | assumption)
                                                        have q213 : x53_4 < ((rd_L1 l0 x28_2).length : Int) := of_decide_eq_true (by first | (with_reducible assumption) | assumption)
                                                        obtain ⟨ad213, e213, hx213_0⟩ := Kd.at_int HR210_0.out x53_4 p213 q213
                                                        cases e213
                                                        replace p213 := eq_true p213
                                                        replace q213 := eq_true q213
                                                        go_wp2_with (first | ((with_reducible refine gate_callee (f := 58) rfl ?_); refine goesL_ (some 60) rfl rfl Try.func58 (by kernel_rfl) rfl #[.int .i64 x3_4, .int .i64 (rd (rd_L1 l0 x28_2) x53_4)] rfl (by (try simp only [List.map_toArray, List.map_cons, List.map_nil]); first | done | rfl | (simp only [List.length_drop, List.length_take]; rfl)) ?_; (with_reducible refine (spec_poIn.calls x3_4 (rd (rd_L1 l0 x28_2) x53_4) false _ A19.out).mono ?_); rintro e w' ⟨rfl, ⟨nd, rfl⟩⟩; refine ⟨_, rfl, ?_⟩; have p215 : 0 ≤ ((ji22) : Int) := of_decide_eq_true (by first | (with_reducible assumption) | assumption); have q215 : (ji22) < ((rd_L1 l0 x28_2).length : Int) := of_decide_eq_true (by first | (with_reducible assumption) | assumption); obtain ⟨ad215, e215, hx215_0⟩ := Kd.at_int HR210_0.out (ji22) p215 q215; obtain rfl : ad213 = ad215 := (by injection e215); replace p215 := eq_true p215; replace q215 := eq_true q215; have p216 : 0 ≤ ((ji27) : Int) := of_decide_eq_true (by first | (with_reducible assumption) | assumption); have q216 : (ji27) < (l0.length : Int) := of_decide_eq_true (by first | (with_reducible assumption) | assumption); obtain ⟨ad216, A216_0, c216_0, e216, hx216_0, hl216_0, hi216_0⟩ := at_L1 HR0.out (ji27) p216 q216; obtain rfl : ad210 = ad216 := (by injection e216); have HR216_0 := Aside0.mk hi216_0; have HC216_0 := Aside0.mk hl216_0; clear hi216_0 hl216_0; replace p216 := eq_true p216; replace q216 := eq_true q216; have p217 : 0 ≤ (x53_4 : Int) := of_decide_eq_true (by first | (with_reducible assumption) | assumption); have q217 : x53_4 < ((rd_L1 l0 (ji27)).length : Int) := of_decide_eq_true (by first | (with_reducible assumption) | assumption); obtain ⟨ad217, e217, hx217_0⟩ := Kd.at_int HR216_0.out x53_4 p217 q217; cases e217; replace p217 := eq_true p217; replace q217 := eq_true q217))
                                                        go_roundg k4
                                                        case measure => have := HJ1.out; have := HK2.out; have := HJ10.out; have := HK4.out; omega
                                                        case rel => exact ⟨(Go.bits .or .i64 x3_4 (ji33)), (wrap64 (x53_4 + 1)), (by first | rfl | (simp; done) | (simp only [← hji33] <;> (first | rfl | simp)) | (simp [*]; done)), (by first | rfl | (simp; done) | (simp [*]; done)), H', ⟨by have := HJ1.out; have := HK2.out; have := HJ10.out; have := HK4.out; omega⟩, by repeat (first | exact Drawn0.refl _ | apply Drawn0.step)⟩
                                                      · rw [if_neg c32] at H
                                                        exact absurd H (by simp)
                                                  · rw [if_neg c30] at H
                                                    exact absurd H (by simp)
                                                · rw [if_neg c29] at H
                                                  exact absurd H (by simp)
                                              · rw [if_neg c28] at H
                                                exact absurd H (by simp)
                                            · rw [if_neg c26] at H
                                              have c26b0 : decide (0 < x28_2) = false := decide_eq_false c26
                                              clear c26
                                              by_cases c34 : 0 ≤ (rd (rd_L1 l0 x28_2) x53_4)
                                              · rw [if_pos c34] at H
                                                have c34b0 := eq_true c34
                                                have c34b1 : decide (0 ≤ (rd (rd_L1 l0 x28_2) x53_4)) = true := decide_eq_true c34
                                                clear c34
                                                obtain ⟨ji35, hji35⟩ : ∃ j_ : Int, (shl .i64 1 (rd (rd_L1 l0 x28_2) x53_4)) = j_ := ⟨_, rfl⟩
                                                replace H : (spec_shGood.l1 k4 l0 (Go.bits .or .i64 x3_4 (ji35)) x28_2 (rd_L1 l0 x28_2) l0 (l0.length : Int) x28_2 (rd_L1 l0 x28_2) ((rd_L1 l0 x28_2).length : Int) (wrap64 (x53_4 + 1))) = some r := by first | (rw [hji35] at H; exact H) | (simp only [hji35] at H ⊢; exact H)
                                                (try rw [hji35] at A19)
                                                have hji35_ : (IntKind.i64.wrap (1 * 2 ^ min (rd (rd_L1 l0 x28_2) x53_4).toNat 64)) = ji35 := hji35
                                                have hji35z : (rd (rd_L1 l0 x28_2) x53_4) ≤ 64 → (IntKind.i64.wrap (1 * 2 ^ (rd (rd_L1 l0 x28_2) x53_4).toNat)) = ji35 := shl_small hji35
                                                have hji35u : (IntKind.i64.wrap (2 ^ min (rd (rd_L1 l0 x28_2) x53_4).toNat 64)) = ji35 := by have h_ := hji35_; rw [Int.one_mul] at h_; exact h_
                                                have hji35v : (rd (rd_L1 l0 x28_2) x53_4) ≤ 64 → (IntKind.i64.wrap (2 ^ (rd (rd_L1 l0 x28_2) x53_4).toNat)) = ji35 := fun hle_ => by have h_ := hji35z hle_; rw [Int.one_mul] at h_; exact h_
                                                have hji35y : (wrap64 (1 * 2 ^ min (rd (rd_L1 l0 x28_2) x53_4).toNat 64)) = ji35 := (i64_w _).symm.trans hji35_
                                                have hji35x : (rd (rd_L1 l0 x28_2) x53_4) ≤ 64 → (wrap64 (1 * 2 ^ (rd (rd_L1 l0 x28_2) x53_4).toNat)) = ji35 := fun h_ => (i64_w _).symm.trans (hji35z h_)
                                                have H' := Aside0.mk H
                                                clear H
                                                have p213 : 0 ≤ (x53_4 : Int) := of_decide_eq_true (by first | (with_reducible assumption) | assumption)
                                                have q213 : x53_4 < ((rd_L1 l0 x28_2).length : Int) := of_decide_eq_true (by first | (with_reducible assumption) | assumption)
                                                obtain ⟨ad213, e213, hx213_0⟩ := Kd.at_int HR210_0.out x53_4 p213 q213
                                                cases e213
                                                replace p213 := eq_true p213
                                                replace q213 := eq_true q213
                                                go_wp2_with (first | ((with_reducible refine gate_callee (f := 58) rfl ?_); refine goesL_ (some 60) rfl rfl Try.func58 (by kernel_rfl) rfl #[.int .i64 x3_4, .int .i64 (rd (rd_L1 l0 x28_2) x53_4)] rfl (by (try simp only [List.map_toArray, List.map_cons, List.map_nil]); first | done | rfl | (simp only [List.length_drop, List.length_take]; rfl)) ?_; (with_reducible refine (spec_poIn.calls x3_4 (rd (rd_L1 l0 x28_2) x53_4) false _ A19.out).mono ?_); rintro e w' ⟨rfl, ⟨nd, rfl⟩⟩; refine ⟨_, rfl, ?_⟩; have p215 : 0 ≤ ((ji22) : Int) := of_decide_eq_true (by first | (with_reducible assumption) | assumption); have q215 : (ji22) < ((rd_L1 l0 x28_2).length : Int) := of_decide_eq_true (by first | (with_reducible assumption) | assumption); obtain ⟨ad215, e215, hx215_0⟩ := Kd.at_int HR210_0.out (ji22) p215 q215; obtain rfl : ad213 = ad215 := (by injection e215); replace p215 := eq_true p215; replace q215 := eq_true q215))
                                                go_roundg k4
                                                case measure => have := HJ1.out; have := HK2.out; have := HJ10.out; have := HK4.out; omega
                                                case rel => exact ⟨(Go.bits .or .i64 x3_4 (ji35)), (wrap64 (x53_4 + 1)), (by first | rfl | (simp; done) | (simp only [← hji35] <;> (first | rfl | simp)) | (simp [*]; done)), (by first | rfl | (simp; done) | (simp [*]; done)), H', ⟨by have := HJ1.out; have := HK2.out; have := HJ10.out; have := HK4.out; omega⟩, by repeat (first | exact Drawn0.refl _ | apply Drawn0.step)⟩
                                              · rw [if_neg c34] at H
                                                exact absurd H (by simp)
                                        · rw [if_neg c24] at H
                                          exact absurd H (by simp)
                                      · rw [if_neg c23] at H
                                        exact absurd H (by simp)
                                    · rw [if_neg c21] at H
                                      have c21b0 : decide (0 < x53_4) = false := decide_eq_false c21
                                      clear c21
                                      by_cases c36 : x28_2 > 0
                                      · rw [if_pos c36] at H
                                        have c36b0 : decide (0 < x28_2) = true := decide_eq_true c36
                                        clear c36
                                        obtain ⟨ji37, hji37⟩ : ∃ j_ : Int, (wrap64 (x28_2 - 1)) = j_ := ⟨_, rfl⟩
                                        replace H : (if 0 ≤ (ji37) then (if (ji37) < (l0.length : Int) then (if x53_4 < ((rd_L1 l0 (ji37)).length : Int) then (if (rd (rd_L1 l0 (ji37)) x53_4) > (rd (rd_L1 l0 x28_2) x53_4) then (some false) else (if 0 ≤ (rd (rd_L1 l0 x28_2) x53_4) then (spec_shGood.l1 k4 l0 (Go.bits .or .i64 x3_4 (shl .i64 1 (rd (rd_L1 l0 x28_2) x53_4))) x28_2 (rd_L1 l0 x28_2) l0 (l0.length : Int) x28_2 (rd_L1 l0 x28_2) ((rd_L1 l0 x28_2).length : Int) (wrap64 (x53_4 + 1))) else (none))) else (none)) else (none)) else (none)) = some r := by first | (rw [hji37] at H; exact H) | (simp only [hji37] at H ⊢; exact H)
                                        (try rw [hji37] at A19)
                                        have hji37w : (IntKind.i64.wrap (x28_2 - 1)) = ji37 := (i64_w _).trans hji37
                                        by_cases c38 : 0 ≤ (ji37)
                                        · rw [if_pos c38] at H
                                          have c38b0 : decide (0 ≤ (ji37)) = true := decide_eq_true c38
                                          clear c38
                                          by_cases c39 : (ji37) < (l0.length : Int)
                                          · rw [if_pos c39] at H
                                            have c39b0 : decide ((ji37) < (l0.length : Int)) = true := decide_eq_true c39
                                            clear c39
                                            by_cases c40 : x53_4 < ((rd_L1 l0 (ji37)).length : Int)
                                            · rw [if_pos c40] at H
                                              have c40b0 : decide (x53_4 < ((rd_L1 l0 (ji37)).length : Int)) = true := decide_eq_true c40
                                              clear c40
                                              by_cases c41 : (rd (rd_L1 l0 (ji37)) x53_4) > (rd (rd_L1 l0 x28_2) x53_4)
                                              · rw [if_pos c41] at H
                                                have c41b0 : decide ((rd (rd_L1 l0 x28_2) x53_4) < (rd (rd_L1 l0 (ji37)) x53_4)) = true := decide_eq_true c41
                                                clear c41
                                                obtain rfl := Option.some.inj H
                                                have p213 : 0 ≤ (x53_4 : Int) := of_decide_eq_true (by first | (with_reducible assumption) | assumption)
                                                have q213 : x53_4 < ((rd_L1 l0 x28_2).length : Int) := of_decide_eq_true (by first | (with_reducible assumption) | assumption)
                                                obtain ⟨ad213, e213, hx213_0⟩ := Kd.at_int HR210_0.out x53_4 p213 q213
                                                cases e213
                                                replace p213 := eq_true p213
                                                replace q213 := eq_true q213
                                                go_wp2_with (first | ((with_reducible refine gate_callee (f := 58) rfl ?_); refine goesL_ (some 60) rfl rfl Try.func58 (by kernel_rfl) rfl #[.int .i64 x3_4, .int .i64 (rd (rd_L1 l0 x28_2) x53_4)] rfl (by (try simp only [List.map_toArray, List.map_cons, List.map_nil]); first | done | rfl | (simp only [List.length_drop, List.length_take]; rfl)) ?_; (with_reducible refine (spec_poIn.calls x3_4 (rd (rd_L1 l0 x28_2) x53_4) false _ A19.out).mono ?_); rintro e w' ⟨rfl, ⟨nd, rfl⟩⟩; refine ⟨_, rfl, ?_⟩; have p218 : 0 ≤ ((ji37) : Int) := of_decide_eq_true (by first | (with_reducible assumption) | assumption); have q218 : (ji37) < (l0.length : Int) := of_decide_eq_true (by first | (with_reducible assumption) | assumption); obtain ⟨ad218, A218_0, c218_0, e218, hx218_0, hl218_0, hi218_0⟩ := at_L1 HR0.out (ji37) p218 q218; obtain rfl : ad210 = ad218 := (by injection e218); have HR218_0 := Aside0.mk hi218_0; have HC218_0 := Aside0.mk hl218_0; clear hi218_0 hl218_0; replace p218 := eq_true p218; replace q218 := eq_true q218; have p219 : 0 ≤ (x53_4 : Int) := of_decide_eq_true (by first | (with_reducible assumption) | assumption); have q219 : x53_4 < ((rd_L1 l0 (ji37)).length : Int) := of_decide_eq_true (by first | (with_reducible assumption) | assumption); obtain ⟨ad219, e219, hx219_0⟩ := Kd.at_int HR218_0.out x53_4 p219 q219; cases e219; replace p219 := eq_true p219; replace q219 := eq_true q219))
                                                go_ret
                                                exact ⟨by first | rfl | (simp; done) | (simp only [← hji37] <;> (first | rfl | simp)) | (simp [*]; done), by repeat (first | exact Drawn0.refl _ | apply Drawn0.step)⟩
                                              · rw [if_neg c41] at H
                                                have c41b0 : decide ((rd (rd_L1 l0 x28_2) x53_4) < (rd (rd_L1 l0 (ji37)) x53_4)) = false := decide_eq_false c41
                                                clear c41
                                                by_cases c42 : 0 ≤ (rd (rd_L1 l0 x28_2) x53_4)
                                                · rw [if_pos c42] at H
                                                  have c42b0 := eq_true c42
                                                  have c42b1 : decide (0 ≤ (rd (rd_L1 l0 x28_2) x53_4)) = true := decide_eq_true c42
                                                  clear c42
                                                  obtain ⟨ji43, hji43⟩ : ∃ j_ : Int, (shl .i64 1 (rd (rd_L1 l0 x28_2) x53_4)) = j_ := ⟨_, rfl⟩
                                                  replace H : (spec_shGood.l1 k4 l0 (Go.bits .or .i64 x3_4 (ji43)) x28_2 (rd_L1 l0 x28_2) l0 (l0.length : Int) x28_2 (rd_L1 l0 x28_2) ((rd_L1 l0 x28_2).length : Int) (wrap64 (x53_4 + 1))) = some r := by first | (rw [hji43] at H; exact H) | (simp only [hji43] at H ⊢; exact H)
                                                  (try rw [hji43] at A19)
                                                  have hji43_ : (IntKind.i64.wrap (1 * 2 ^ min (rd (rd_L1 l0 x28_2) x53_4).toNat 64)) = ji43 := hji43
                                                  have hji43z : (rd (rd_L1 l0 x28_2) x53_4) ≤ 64 → (IntKind.i64.wrap (1 * 2 ^ (rd (rd_L1 l0 x28_2) x53_4).toNat)) = ji43 := shl_small hji43
                                                  have hji43u : (IntKind.i64.wrap (2 ^ min (rd (rd_L1 l0 x28_2) x53_4).toNat 64)) = ji43 := by have h_ := hji43_; rw [Int.one_mul] at h_; exact h_
                                                  have hji43v : (rd (rd_L1 l0 x28_2) x53_4) ≤ 64 → (IntKind.i64.wrap (2 ^ (rd (rd_L1 l0 x28_2) x53_4).toNat)) = ji43 := fun hle_ => by have h_ := hji43z hle_; rw [Int.one_mul] at h_; exact h_
                                                  have hji43y : (wrap64 (1 * 2 ^ min (rd (rd_L1 l0 x28_2) x53_4).toNat 64)) = ji43 := (i64_w _).symm.trans hji43_
                                                  have hji43x : (rd (rd_L1 l0 x28_2) x53_4) ≤ 64 → (wrap64 (1 * 2 ^ (rd (rd_L1 l0 x28_2) x53_4).toNat)) = ji43 := fun h_ => (i64_w _).symm.trans (hji43z h_)
                                                  have H' := Aside0.mk H
                                                  clear H
                                                  have p213 : 0 ≤ (x53_4 : Int) := of_decide_eq_true (by first | (with_reducible assumption) | assumption)
                                                  have q213 : x53_4 < ((rd_L1 l0 x28_2).length : Int) := of_decide_eq_true (by first | (with_reducible assumption) | assumption)
                                                  obtain ⟨ad213, e213, hx213_0⟩ := Kd.at_int HR210_0.out x53_4 p213 q213
                                                  cases e213
                                                  replace p213 := eq_true p213
                                                  replace q213 := eq_true q213
                                                  go_wp2_with (first | ((with_reducible refine gate_callee (f := 58) rfl ?_); refine goesL_ (some 60) rfl rfl Try.func58 (by kernel_rfl) rfl #[.int .i64 x3_4, .int .i64 (rd (rd_L1 l0 x28_2) x53_4)] rfl (by (try simp only [List.map_toArray, List.map_cons, List.map_nil]); first | done | rfl | (simp only [List.length_drop, List.length_take]; rfl)) ?_; (with_reducible refine (spec_poIn.calls x3_4 (rd (rd_L1 l0 x28_2) x53_4) false _ A19.out).mono ?_); rintro e w' ⟨rfl, ⟨nd, rfl⟩⟩; refine ⟨_, rfl, ?_⟩; have p218 : 0 ≤ ((ji37) : Int) := of_decide_eq_true (by first | (with_reducible assumption) | assumption); have q218 : (ji37) < (l0.length : Int) := of_decide_eq_true (by first | (with_reducible assumption) | assumption); obtain ⟨ad218, A218_0, c218_0, e218, hx218_0, hl218_0, hi218_0⟩ := at_L1 HR0.out (ji37) p218 q218; obtain rfl : ad210 = ad218 := (by injection e218); have HR218_0 := Aside0.mk hi218_0; have HC218_0 := Aside0.mk hl218_0; clear hi218_0 hl218_0; replace p218 := eq_true p218; replace q218 := eq_true q218; have p219 : 0 ≤ (x53_4 : Int) := of_decide_eq_true (by first | (with_reducible assumption) | assumption); have q219 : x53_4 < ((rd_L1 l0 (ji37)).length : Int) := of_decide_eq_true (by first | (with_reducible assumption) | assumption); obtain ⟨ad219, e219, hx219_0⟩ := Kd.at_int HR218_0.out x53_4 p219 q219; cases e219; replace p219 := eq_true p219; replace q219 := eq_true q219))
                                                  go_roundg k4
                                                  case measure => have := HJ1.out; have := HK2.out; have := HJ10.out; have := HK4.out; omega
                                                  case rel => exact ⟨(Go.bits .or .i64 x3_4 (ji43)), (wrap64 (x53_4 + 1)), (by first | rfl | (simp; done) | (simp only [← hji43] <;> (first | rfl | simp)) | (simp [*]; done)), (by first | rfl | (simp; done) | (simp [*]; done)), H', ⟨by have := HJ1.out; have := HK2.out; have := HJ10.out; have := HK4.out; omega⟩, by repeat (first | exact Drawn0.refl _ | apply Drawn0.step)⟩
                                                · rw [if_neg c42] at H
                                                  exact absurd H (by simp)
                                            · rw [if_neg c40] at H
                                              exact absurd H (by simp)
                                          · rw [if_neg c39] at H
                                            exact absurd H (by simp)
                                        · rw [if_neg c38] at H
                                          exact absurd H (by simp)
                                      · rw [if_neg c36] at H
                                        have c36b0 : decide (0 < x28_2) = false := decide_eq_false c36
                                        clear c36
                                        by_cases c44 : 0 ≤ (rd (rd_L1 l0 x28_2) x53_4)
                                        · rw [if_pos c44] at H
                                          have c44b0 := eq_true c44
                                          have c44b1 : decide (0 ≤ (rd (rd_L1 l0 x28_2) x53_4)) = true := decide_eq_true c44
                                          clear c44
                                          obtain ⟨ji45, hji45⟩ : ∃ j_ : Int, (shl .i64 1 (rd (rd_L1 l0 x28_2) x53_4)) = j_ := ⟨_, rfl⟩
                                          replace H : (spec_shGood.l1 k4 l0 (Go.bits .or .i64 x3_4 (ji45)) x28_2 (rd_L1 l0 x28_2) l0 (l0.length : Int) x28_2 (rd_L1 l0 x28_2) ((rd_L1 l0 x28_2).length : Int) (wrap64 (x53_4 + 1))) = some r := by first | (rw [hji45] at H; exact H) | (simp only [hji45] at H ⊢; exact H)
                                          (try rw [hji45] at A19)
                                          have hji45_ : (IntKind.i64.wrap (1 * 2 ^ min (rd (rd_L1 l0 x28_2) x53_4).toNat 64)) = ji45 := hji45
                                          have hji45z : (rd (rd_L1 l0 x28_2) x53_4) ≤ 64 → (IntKind.i64.wrap (1 * 2 ^ (rd (rd_L1 l0 x28_2) x53_4).toNat)) = ji45 := shl_small hji45
                                          have hji45u : (IntKind.i64.wrap (2 ^ min (rd (rd_L1 l0 x28_2) x53_4).toNat 64)) = ji45 := by have h_ := hji45_; rw [Int.one_mul] at h_; exact h_
                                          have hji45v : (rd (rd_L1 l0 x28_2) x53_4) ≤ 64 → (IntKind.i64.wrap (2 ^ (rd (rd_L1 l0 x28_2) x53_4).toNat)) = ji45 := fun hle_ => by have h_ := hji45z hle_; rw [Int.one_mul] at h_; exact h_
                                          have hji45y : (wrap64 (1 * 2 ^ min (rd (rd_L1 l0 x28_2) x53_4).toNat 64)) = ji45 := (i64_w _).symm.trans hji45_
                                          have hji45x : (rd (rd_L1 l0 x28_2) x53_4) ≤ 64 → (wrap64 (1 * 2 ^ (rd (rd_L1 l0 x28_2) x53_4).toNat)) = ji45 := fun h_ => (i64_w _).symm.trans (hji45z h_)
                                          have H' := Aside0.mk H
                                          clear H
                                          have p213 : 0 ≤ (x53_4 : Int) := of_decide_eq_true (by first | (with_reducible assumption) | assumption)
                                          have q213 : x53_4 < ((rd_L1 l0 x28_2).length : Int) := of_decide_eq_true (by first | (with_reducible assumption) | assumption)
                                          obtain ⟨ad213, e213, hx213_0⟩ := Kd.at_int HR210_0.out x53_4 p213 q213
                                          cases e213
                                          replace p213 := eq_true p213
                                          replace q213 := eq_true q213
                                          go_wp2_with (first | ((with_reducible refine gate_callee (f := 58) rfl ?_); refine goesL_ (some 60) rfl rfl Try.func58 (by kernel_rfl) rfl #[.int .i64 x3_4, .int .i64 (rd (rd_L1 l0 x28_2) x53_4)] rfl (by (try simp only [List.map_toArray, List.map_cons, List.map_nil]); first | done | rfl | (simp only [List.length_drop, List.length_take]; rfl)) ?_; (with_reducible refine (spec_poIn.calls x3_4 (rd (rd_L1 l0 x28_2) x53_4) false _ A19.out).mono ?_); rintro e w' ⟨rfl, ⟨nd, rfl⟩⟩; refine ⟨_, rfl, ?_⟩))
                                          go_roundg k4
                                          case measure => have := HJ1.out; have := HK2.out; have := HJ10.out; have := HK4.out; omega
                                          case rel => exact ⟨(Go.bits .or .i64 x3_4 (ji45)), (wrap64 (x53_4 + 1)), (by first | rfl | (simp; done) | (simp only [← hji45] <;> (first | rfl | simp)) | (simp [*]; done)), (by first | rfl | (simp; done) | (simp [*]; done)), H', ⟨by have := HJ1.out; have := HK2.out; have := HJ10.out; have := HK4.out; omega⟩, by repeat (first | exact Drawn0.refl _ | apply Drawn0.step)⟩
                                        · rw [if_neg c44] at H
                                          exact absurd H (by simp)
                                · rw [if_neg c18] at H
                                  exact absurd H (by simp)
                              · rw [if_neg c17] at H
                                exact absurd H (by simp)
                            · rw [if_neg c16] at H
                              have c16b0 : decide (x53_4 < ((rd_L1 l0 x28_2).length : Int)) = false := decide_eq_false c16
                              clear c16
                              have H' := Aside0.mk H
                              clear H
                              go_wp2
                              go_roundg k4
                              case measure => have := HJ1.out; have := HK2.out; have := HJ10.out; have := HK4.out; omega
                              case rel => exact ⟨(x3_4), (wrap64 (x28_2 + 1)), (by first | rfl | (simp; done) | (simp [*]; done)), (by first | rfl | (simp; done) | (simp [*]; done)), H', ⟨by have := HJ1.out; have := HK2.out; have := HJ10.out; have := HK4.out; omega⟩, by repeat (first | exact Drawn0.refl _ | apply Drawn0.step)⟩
                · rw [if_neg c10] at H
                  exact absurd H (by simp)
              · rw [if_neg c9] at H
                exact absurd H (by simp)
            · rw [if_neg c8] at H
              have c8b0 : decide (x28_2 < (l0.length : Int)) = false := decide_eq_false c8
              clear c8
              obtain rfl := Option.some.inj H
              go_wp2
              go_ret
              exact ⟨by first | rfl | (simp; done) | (simp [*]; done), by repeat (first | exact Drawn0.refl _ | apply Drawn0.step)⟩

end Go.Proofs.Ytdbioadcopfjcaa.F
