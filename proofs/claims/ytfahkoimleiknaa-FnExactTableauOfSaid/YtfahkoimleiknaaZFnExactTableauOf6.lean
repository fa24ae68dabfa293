/- Part 6 of the texts below the row of FnExactTableauOf: printed functions with their contracts, and plain lemmas. No condition. -/
import Derived.Test.YtfahkoimleiknaaZFnExactTableauOf5
section
namespace Go.Proofs.Ytfahkoimleiknaa.F
open Go.RowKit Go.Proofs.YtfahkoimleiknaaW.PrintWords Go.Proofs.YtfahkoimleiknaaW.PrintLast Go.Proofs.YtfahkoimleiknaaW.PrintMore
attribute [local go_sem] max2_int min2_int max_two min_two max_three min_three max_four min_four
set_option linter.unusedVariables false
set_option linter.unusedSimpArgs false

/-! ### impl_IsTableau: function 68 -/
mutual
def impl_IsTableau.l0 : Nat → List (List Int) → Int → Int → Int → Int → Int → Option (Bool)
  | 0, _, _, _, _, _, _ => none
  | k + 1, x0, x3, x4, x6, x18, x19 => if x19 < x18 then (impl_IsTableau.l1 k x0 x3 x4 x6 x19 x18 x19 x4 0) else (some true)
def impl_IsTableau.l1 : Nat → List (List Int) → Int → Int → Int → Int → Int → Int → Int → Int → Option (Bool)
  | 0, _, _, _, _, _, _, _, _, _ => none
  | k + 1, x0, x3, x4, x6, x7, x18, x19, x22, x23 => if x23 < x22 then (if 0 ≤ x7 then (if x7 < (x0.length : Int) then (if 0 ≤ x23 then (if x23 < ((rd_L1 x0 x7).length : Int) then ((impl_within.f (rd (rd_L1 x0 x7) x23) 0 (wrap64 ((wrap64 (x3 * x4)) - 1))).bind fun t377 => (if t377 = true then ((impl_has.f x6 (rd (rd_L1 x0 x7) x23)).bind fun t378 => (if t378 = true then (some false) else (if x7 > 0 then (if 0 ≤ (wrap64 (x7 - 1)) then (if (wrap64 (x7 - 1)) < (x0.length : Int) then (if x23 < ((rd_L1 x0 (wrap64 (x7 - 1))).length : Int) then (if (rd (rd_L1 x0 x7) x23) ≤ (rd (rd_L1 x0 (wrap64 (x7 - 1))) x23) then (some false) else (if x23 > 0 then (if 0 ≤ (wrap64 (x23 - 1)) then (if (wrap64 (x23 - 1)) < ((rd_L1 x0 x7).length : Int) then (if (rd (rd_L1 x0 x7) x23) ≤ (rd (rd_L1 x0 x7) (wrap64 (x23 - 1))) then (some false) else (if 0 ≤ (rd (rd_L1 x0 x7) x23) then (impl_IsTableau.l1 k x0 x3 x4 (Go.bits .or .i64 x6 (shl .i64 1 (rd (rd_L1 x0 x7) x23))) x7 x18 x19 x22 (wrap64 (x23 + 1))) else (none))) else (none)) else (none)) else (if 0 ≤ (rd (rd_L1 x0 x7) x23) then (impl_IsTableau.l1 k x0 x3 x4 (Go.bits .or .i64 x6 (shl .i64 1 (rd (rd_L1 x0 x7) x23))) x7 x18 x19 x22 (wrap64 (x23 + 1))) else (none)))) else (none)) else (none)) else (none)) else (if x23 > 0 then (if 0 ≤ (wrap64 (x23 - 1)) then (if (wrap64 (x23 - 1)) < ((rd_L1 x0 x7).length : Int) then (if (rd (rd_L1 x0 x7) x23) ≤ (rd (rd_L1 x0 x7) (wrap64 (x23 - 1))) then (some false) else (if 0 ≤ (rd (rd_L1 x0 x7) x23) then (impl_IsTableau.l1 k x0 x3 x4 (Go.bits .or .i64 x6 (shl .i64 1 (rd (rd_L1 x0 x7) x23))) x7 x18 x19 x22 (wrap64 (x23 + 1))) else (none))) else (none)) else (none)) else (if 0 ≤ (rd (rd_L1 x0 x7) x23) then (impl_IsTableau.l1 k x0 x3 x4 (Go.bits .or .i64 x6 (shl .i64 1 (rd (rd_L1 x0 x7) x23))) x7 x18 x19 x22 (wrap64 (x23 + 1))) else (none)))))) else (some false))) else (none)) else (none)) else (none)) else (none)) else (impl_IsTableau.l0 k x0 x3 x4 x6 x18 (wrap64 (x19 + 1)))
end
def impl_IsTableau.f (k : Nat) (l0 : List (List Int)) : Option (Bool) := (impl_sidesOf.f l0).bind fun bt372 => (if bt372.2.2 = true then (impl_IsTableau.l0 k l0 bt372.1 bt372.2.1 0 bt372.1 0) else (some false))
theorem impl_IsTableau.mono_l : ∀ k, (∀ y0 y1 y2 y3 y4 y5, LeO (impl_IsTableau.l0 k y0 y1 y2 y3 y4 y5) (impl_IsTableau.l0 (k + 1) y0 y1 y2 y3 y4 y5)) ∧ (∀ y0 y1 y2 y3 y4 y5 y6 y7 y8, LeO (impl_IsTableau.l1 k y0 y1 y2 y3 y4 y5 y6 y7 y8) (impl_IsTableau.l1 (k + 1) y0 y1 y2 y3 y4 y5 y6 y7 y8))
  | 0 => ⟨fun _ _ _ _ _ _ r h => by simp [impl_IsTableau.l0] at h, fun _ _ _ _ _ _ _ _ _ r h => by simp [impl_IsTableau.l1] at h⟩
  | k + 1 => by
    obtain ⟨ih0, ih1⟩ := impl_IsTableau.mono_l k
    refine ⟨?_, ?_⟩
    · intro y0 y1 y2 y3 y4 y5
      unfold impl_IsTableau.l0
      repeat' first
      | (with_reducible exact ih0 _ _ _ _ _ _)
      | (with_reducible exact ih1 _ _ _ _ _ _ _ _ _)
      | (with_reducible exact LeO.refl _)
      | (with_reducible exact LeO.none _)
      | (with_reducible refine LeO.ite ?_ ?_)
      | (with_reducible refine LeO.bind ?_ (fun _ => ?_))
      | exact ih0 _ _ _ _ _ _
      | exact ih1 _ _ _ _ _ _ _ _ _
      | exact LeO.none _
      | refine LeO.ite ?_ ?_
      | refine LeO.bind ?_ (fun _ => ?_)
    · intro y0 y1 y2 y3 y4 y5 y6 y7 y8
      unfold impl_IsTableau.l1
      repeat' first
      | (with_reducible exact ih0 _ _ _ _ _ _)
      | (with_reducible exact ih1 _ _ _ _ _ _ _ _ _)
      | (with_reducible exact LeO.refl _)
      | (with_reducible exact LeO.none _)
      | (with_reducible refine LeO.ite ?_ ?_)
      | (with_reducible refine LeO.bind ?_ (fun _ => ?_))
      | exact ih0 _ _ _ _ _ _
      | exact ih1 _ _ _ _ _ _ _ _ _
      | exact LeO.none _
      | refine LeO.ite ?_ ?_
      | refine LeO.bind ?_ (fun _ => ?_)
theorem impl_IsTableau.mono : ∀ a0 k, LeO (impl_IsTableau.f k a0) (impl_IsTableau.f (k + 1) a0) := by
  intro a0 k
  obtain ⟨ih0, ih1⟩ := impl_IsTableau.mono_l k
  unfold impl_IsTableau.f
  repeat' first
      | (with_reducible exact ih0 _ _ _ _ _ _)
      | (with_reducible exact ih1 _ _ _ _ _ _ _ _ _)
      | (with_reducible exact LeO.refl _)
      | (with_reducible exact LeO.none _)
      | (with_reducible refine LeO.ite ?_ ?_)
      | (with_reducible refine LeO.bind ?_ (fun _ => ?_))
      | exact ih0 _ _ _ _ _ _
      | exact ih1 _ _ _ _ _ _ _ _ _
      | exact LeO.none _
      | refine LeO.ite ?_ ?_
      | refine LeO.bind ?_ (fun _ => ?_)
set_option maxHeartbeats 8000000 in
set_option maxRecDepth 100000 in
theorem impl_IsTableau.calls (k : Nat) (A0 : Option Addr) (c0 : Nat) (l0 : List (List Int)) (r : Bool) (w : World) (hr0 : Kd.C (Kd.slice 3 (Kd.int .i64)) w A0 l0.length l0) (hc0 : l0.length ≤ c0) (h : impl_IsTableau.f k l0 = some r) :
    Calls Try.prog 68 #[.slice A0 l0.length c0] w fun e w' => e = .returned (.bool r) ∧ Below w.heap.size w w' := by
  have HR0 := Aside0.mk hr0
  have HC0 := Aside0.mk hc0
  clear hr0 hc0
  have HB := Aside0.mk (Below.refl w.heap.size w)
  have H : ((impl_sidesOf.f l0).bind fun bt372 => (if bt372.2.2 = true then (impl_IsTableau.l0 k l0 bt372.1 bt372.2.1 0 bt372.1 0) else (some false))) = some r := h
  clear h
  replace H := Option.bind_eq_some_iff.mp H
  obtain ⟨⟨t372, t373, t374⟩, A20, H⟩ := H
  replace H : (if t374 = true then (impl_IsTableau.l0 k l0 t372 t373 0 t372 0) else (some false)) = some r := H
  have A2 := Aside0.mk A20
  clear A20
  by_cases c3 : t374 = true
  · subst c3
    have H1 : (impl_IsTableau.l0 k l0 t372 t373 0 t372 0) = some r := by rw [if_pos rfl] at H; exact H
    clear H
    have H := H1
    clear H1
    have H' := Aside0.mk H
    clear H
    go_enter Try.func68, Try.ntmps68
    go_wp2_with (first | ((with_reducible refine gate_callee (f := 91) rfl ?_); refine goesL_ (some 12) rfl rfl Try.func91 (by kernel_rfl) rfl #[.slice A0 l0.length c0] rfl (by (try simp only [List.map_toArray, List.map_cons, List.map_nil]); first | done | rfl | (simp only [List.length_drop, List.length_take]; rfl)) ?_; (with_reducible refine (impl_sidesOf.calls _ _ l0 t372 t373 true _ ?side1 ?side2 A2.out).mono ?_); (case side1 => repeat (first | exact HR0.out | (with_reducible refine Kd.C_alloc ?_ _) | (with_reducible refine Kd.C_drewN ?_ _) | (with_reducible refine Kd.C_drew ?_))); (case side2 => exact HC0.out); rintro e w4 ⟨rfl, hb⟩; refine ⟨_, rfl, ?_⟩; have n0_ := Aside0.mk (below_step (by repeat (first | (with_reducible first | exact HB.out | apply below_alloc | apply pw_below_drewN | apply below_drew1) | exact HB.out)) hb); clear HB; have HB := n0_; clear n0_; (try clear hb); (try clear hb2); (try clear hk); (try clear hi)))
    go_loopg [6, 19] k (fun kq v6 v19 w' => ∃ (x6_1 : Int) (x19_1 : Int), v6 = .int .i64 x6_1 ∧ v19 = .int .i64 x19_1 ∧ Aside0 (impl_IsTableau.l0 kq l0 t372 t373 x6_1 t372 x19_1 = some r) ∧ Aside0 (kq ≤ k) ∧ Aside0 (Below w.heap.size w w'))
    case atStart => exact ⟨(0), (0), (by first | rfl | (simp; done) | (simp [*]; done)), (by first | rfl | (simp; done) | (simp [*]; done)), H', ⟨Nat.le_refl _⟩, ⟨by repeat (first | (with_reducible first | exact HB.out | apply below_alloc | apply pw_below_drewN | apply below_drew1) | exact HB.out)⟩⟩
    case round =>
      clear H'
      try clear p2
      try clear c3
      obtain ⟨x6_1, x19_1, rfl, rfl, HA, HK1, HB⟩ := hrel
      cases gk with
      | zero => exact absurd HA.out (by simp [impl_IsTableau.l0])
      | succ k1 =>
        have H := HA.out
        clear HA
        simp only [impl_IsTableau.l0] at H
        by_cases c5 : x19_1 < t372
        · rw [if_pos c5] at H
          have c5b0 : decide (x19_1 < t372) = true := decide_eq_true c5
          clear c5
          have H' := Aside0.mk H
          clear H
          go_wp2
          go_loopg [6, 23] k1 (fun kq v6 v23 w' => ∃ (x6_2 : Int) (x23_2 : Int), v6 = .int .i64 x6_2 ∧ v23 = .int .i64 x23_2 ∧ Aside0 (impl_IsTableau.l1 kq l0 t372 t373 x6_2 x19_1 t372 x19_1 t373 x23_2 = some r) ∧ Aside0 (kq ≤ k1) ∧ Aside0 (Below w.heap.size w w'))
          case atStart => exact ⟨(x6_1), (0), (by first | rfl | (simp; done) | (simp [*]; done)), (by first | rfl | (simp; done) | (simp [*]; done)), H', ⟨Nat.le_refl _⟩, ⟨by repeat (first | (with_reducible first | exact HB.out | apply below_alloc | apply pw_below_drewN | apply below_drew1) | exact HB.out)⟩⟩
          case round =>
            clear H'
            try clear p2
            try clear c3
            try clear c5
            try clear c5b0
            try clear p2
            obtain ⟨x6_2, x23_2, rfl, rfl, HA, HK2, HB⟩ := hrel
            cases gk with
            | zero => exact absurd HA.out (by simp [impl_IsTableau.l1])
            | succ k2 =>
              have H := HA.out
              clear HA
              simp only [impl_IsTableau.l1] at H
              by_cases c6 : x23_2 < t373
              · rw [if_pos c6] at H
                have c6b0 : decide (x23_2 < t373) = true := decide_eq_true c6
                clear c6
                by_cases c7 : 0 ≤ x19_1
                · rw [if_pos c7] at H
                  have c7b0 : decide (0 ≤ x19_1) = true := decide_eq_true c7
                  clear c7
                  by_cases c8 : x19_1 < (l0.length : Int)
                  · rw [if_pos c8] at H
                    have c8b0 : decide (x19_1 < (l0.length : Int)) = true := decide_eq_true c8
                    clear c8
                    by_cases c9 : 0 ≤ x23_2
                    · rw [if_pos c9] at H
                      have c9b0 : decide (0 ≤ x23_2) = true := decide_eq_true c9
                      clear c9
                      by_cases c10 : x23_2 < ((rd_L1 l0 x19_1).length : Int)
                      · rw [if_pos c10] at H
                        have c10b0 : decide (x23_2 < ((rd_L1 l0 x19_1).length : Int)) = true := decide_eq_true c10
                        clear c10
                        replace H := Option.bind_eq_some_iff.mp H
                        obtain ⟨t377, A110, H⟩ := H
                        replace H : (if t377 = true then ((impl_has.f x6_2 (rd (rd_L1 l0 x19_1) x23_2)).bind fun t378 => (if t378 = true then (some false) else (if x19_1 > 0 then (if 0 ≤ (wrap64 (x19_1 - 1)) then (if (wrap64 (x19_1 - 1)) < (l0.length : Int) then (if x23_2 < ((rd_L1 l0 (wrap64 (x19_1 - 1))).length : Int) then (if (rd (rd_L1 l0 x19_1) x23_2) ≤ (rd (rd_L1 l0 (wrap64 (x19_1 - 1))) x23_2) then (some false) else (if x23_2 > 0 then (if 0 ≤ (wrap64 (x23_2 - 1)) then (if (wrap64 (x23_2 - 1)) < ((rd_L1 l0 x19_1).length : Int) then (if (rd (rd_L1 l0 x19_1) x23_2) ≤ (rd (rd_L1 l0 x19_1) (wrap64 (x23_2 - 1))) then (some false) else (if 0 ≤ (rd (rd_L1 l0 x19_1) x23_2) then (impl_IsTableau.l1 k2 l0 t372 t373 (Go.bits .or .i64 x6_2 (shl .i64 1 (rd (rd_L1 l0 x19_1) x23_2))) x19_1 t372 x19_1 t373 (wrap64 (x23_2 + 1))) else (none))) else (none)) else (none)) else (if 0 ≤ (rd (rd_L1 l0 x19_1) x23_2) then (impl_IsTableau.l1 k2 l0 t372 t373 (Go.bits .or .i64 x6_2 (shl .i64 1 (rd (rd_L1 l0 x19_1) x23_2))) x19_1 t372 x19_1 t373 (wrap64 (x23_2 + 1))) else (none)))) else (none)) else (none)) else (none)) else (if x23_2 > 0 then (if 0 ≤ (wrap64 (x23_2 - 1)) then (if (wrap64 (x23_2 - 1)) < ((rd_L1 l0 x19_1).length : Int) then (if (rd (rd_L1 l0 x19_1) x23_2) ≤ (rd (rd_L1 l0 x19_1) (wrap64 (x23_2 - 1))) then (some false) else (if 0 ≤ (rd (rd_L1 l0 x19_1) x23_2) then (impl_IsTableau.l1 k2 l0 t372 t373 (Go.bits .or .i64 x6_2 (shl .i64 1 (rd (rd_L1 l0 x19_1) x23_2))) x19_1 t372 x19_1 t373 (wrap64 (x23_2 + 1))) else (none))) else (none)) else (none)) else (if 0 ≤ (rd (rd_L1 l0 x19_1) x23_2) then (impl_IsTableau.l1 k2 l0 t372 t373 (Go.bits .or .i64 x6_2 (shl .i64 1 (rd (rd_L1 l0 x19_1) x23_2))) x19_1 t372 x19_1 t373 (wrap64 (x23_2 + 1))) else (none)))))) else (some false)) = some r := H
                        have A11 := Aside0.mk A110
                        clear A110
                        by_cases c12 : t377 = true
                        · subst c12
                          have H1 : ((impl_has.f x6_2 (rd (rd_L1 l0 x19_1) x23_2)).bind fun t378 => (if t378 = true then (some false) else (if x19_1 > 0 then (if 0 ≤ (wrap64 (x19_1 - 1)) then (if (wrap64 (x19_1 - 1)) < (l0.length : Int) then (if x23_2 < ((rd_L1 l0 (wrap64 (x19_1 - 1))).length : Int) then (if (rd (rd_L1 l0 x19_1) x23_2) ≤ (rd (rd_L1 l0 (wrap64 (x19_1 - 1))) x23_2) then (some false) else (if x23_2 > 0 then (if 0 ≤ (wrap64 (x23_2 - 1)) then (if (wrap64 (x23_2 - 1)) < ((rd_L1 l0 x19_1).length : Int) then (if (rd (rd_L1 l0 x19_1) x23_2) ≤ (rd (rd_L1 l0 x19_1) (wrap64 (x23_2 - 1))) then (some false) else (if 0 ≤ (rd (rd_L1 l0 x19_1) x23_2) then (impl_IsTableau.l1 k2 l0 t372 t373 (Go.bits .or .i64 x6_2 (shl .i64 1 (rd (rd_L1 l0 x19_1) x23_2))) x19_1 t372 x19_1 t373 (wrap64 (x23_2 + 1))) else (none))) else (none)) else (none)) else (if 0 ≤ (rd (rd_L1 l0 x19_1) x23_2) then (impl_IsTableau.l1 k2 l0 t372 t373 (Go.bits .or .i64 x6_2 (shl .i64 1 (rd (rd_L1 l0 x19_1) x23_2))) x19_1 t372 x19_1 t373 (wrap64 (x23_2 + 1))) else (none)))) else (none)) else (none)) else (none)) else (if x23_2 > 0 then (if 0 ≤ (wrap64 (x23_2 - 1)) then (if (wrap64 (x23_2 - 1)) < ((rd_L1 l0 x19_1).length : Int) then (if (rd (rd_L1 l0 x19_1) x23_2) ≤ (rd (rd_L1 l0 x19_1) (wrap64 (x23_2 - 1))) then (some false) else (if 0 ≤ (rd (rd_L1 l0 x19_1) x23_2) then (impl_IsTableau.l1 k2 l0 t372 t373 (Go.bits .or .i64 x6_2 (shl .i64 1 (rd (rd_L1 l0 x19_1) x23_2))) x19_1 t372 x19_1 t373 (wrap64 (x23_2 + 1))) else (none))) else (none)) else (none)) else (if 0 ≤ (rd (rd_L1 l0 x19_1) x23_2) then (impl_IsTableau.l1 k2 l0 t372 t373 (Go.bits .or .i64 x6_2 (shl .i64 1 (rd (rd_L1 l0 x19_1) x23_2))) x19_1 t372 x19_1 t373 (wrap64 (x23_2 + 1))) else (none)))))) = some r := by rw [if_pos rfl] at H; exact H
                          clear H
                          have H := H1
                          clear H1
                          replace H := Option.bind_eq_some_iff.mp H
                          obtain ⟨t378, A130, H⟩ := H
                          replace H : (if t378 = true then (some false) else (if x19_1 > 0 then (if 0 ≤ (wrap64 (x19_1 - 1)) then (if (wrap64 (x19_1 - 1)) < (l0.length : Int) then (if x23_2 < ((rd_L1 l0 (wrap64 (x19_1 - 1))).length : Int) then (if (rd (rd_L1 l0 x19_1) x23_2) ≤ (rd (rd_L1 l0 (wrap64 (x19_1 - 1))) x23_2) then (some false) else (if x23_2 > 0 then (if 0 ≤ (wrap64 (x23_2 - 1)) then (if (wrap64 (x23_2 - 1)) < ((rd_L1 l0 x19_1).length : Int) then (if (rd (rd_L1 l0 x19_1) x23_2) ≤ (rd (rd_L1 l0 x19_1) (wrap64 (x23_2 - 1))) then (some false) else (if 0 ≤ (rd (rd_L1 l0 x19_1) x23_2) then (impl_IsTableau.l1 k2 l0 t372 t373 (Go.bits .or .i64 x6_2 (shl .i64 1 (rd (rd_L1 l0 x19_1) x23_2))) x19_1 t372 x19_1 t373 (wrap64 (x23_2 + 1))) else (none))) else (none)) else (none)) else (if 0 ≤ (rd (rd_L1 l0 x19_1) x23_2) then (impl_IsTableau.l1 k2 l0 t372 t373 (Go.bits .or .i64 x6_2 (shl .i64 1 (rd (rd_L1 l0 x19_1) x23_2))) x19_1 t372 x19_1 t373 (wrap64 (x23_2 + 1))) else (none)))) else (none)) else (none)) else (none)) else (if x23_2 > 0 then (if 0 ≤ (wrap64 (x23_2 - 1)) then (if (wrap64 (x23_2 - 1)) < ((rd_L1 l0 x19_1).length : Int) then (if (rd (rd_L1 l0 x19_1) x23_2) ≤ (rd (rd_L1 l0 x19_1) (wrap64 (x23_2 - 1))) then (some false) else (if 0 ≤ (rd (rd_L1 l0 x19_1) x23_2) then (impl_IsTableau.l1 k2 l0 t372 t373 (Go.bits .or .i64 x6_2 (shl .i64 1 (rd (rd_L1 l0 x19_1) x23_2))) x19_1 t372 x19_1 t373 (wrap64 (x23_2 + 1))) else (none))) else (none)) else (none)) else (if 0 ≤ (rd (rd_L1 l0 x19_1) x23_2) then (impl_IsTableau.l1 k2 l0 t372 t373 (Go.bits .or .i64 x6_2 (shl .i64 1 (rd (rd_L1 l0 x19_1) x23_2))) x19_1 t372 x19_1 t373 (wrap64 (x23_2 + 1))) else (none))))) = some r := H
                          have A13 := Aside0.mk A130
                          clear A130
                          by_cases c14 : t378 = true
                          · subst c14
                            have H1 : (some false) = some r := by rw [if_pos rfl] at H; exact H
                            clear H
                            have H := H1
                            clear H1
                            obtain rfl := Option.some.inj H
                            have p375 : 0 ≤ (x19_1 : Int) := of_decide_eq_true (by first | (with_reducible assumption) | assumption)
                            have q375 : x19_1 < (l0.length : Int) := of_decide_eq_true (by first | (with_reducible assumption) | assumption)
                            obtain ⟨ad375, A375_0, c375_0, e375, hx375_0, hl375_0, hi375_0⟩ := at_L1 HR0.out x19_1 p375 q375
                            cases e375
                            replace hx375_0 := (HB.out.cell (World.block_lt_of_cell? w _ hx375_0)).trans hx375_0
                            have HR375_0 := Aside0.mk hi375_0
                            have HC375_0 := Aside0.mk hl375_0
                            clear hi375_0 hl375_0
                            replace p375 := eq_true p375
                            replace q375 := eq_true q375
                            have p376 : 0 ≤ (x23_2 : Int) := of_decide_eq_true (by first | (with_reducible assumption) | assumption)
                            have q376 : x23_2 < ((rd_L1 l0 x19_1).length : Int) := of_decide_eq_true (by first | (with_reducible assumption) | assumption)
                            obtain ⟨ad376, e376, hx376_0⟩ := Kd.at_int HR375_0.out x23_2 p376 q376
                            cases e376
                            replace hx376_0 := (HB.out.cell (World.block_lt_of_cell? w _ hx376_0)).trans hx376_0
                            replace p376 := eq_true p376
                            replace q376 := eq_true q376
                            go_wp2_with (first | ((with_reducible refine gate_callee (f := 67) rfl ?_); refine goesL_ (some 38) rfl rfl Try.func67 (by kernel_rfl) rfl #[.int .i64 (rd (rd_L1 l0 x19_1) x23_2), .int .i64 0, .int .i64 (wrap64 ((wrap64 (t372 * t373)) - 1))] rfl (by (try simp only [List.map_toArray, List.map_cons, List.map_nil]); first | done | rfl | (simp only [List.length_drop, List.length_take]; rfl)) ?_; (with_reducible refine (impl_within.calls (rd (rd_L1 l0 x19_1) x23_2) 0 (wrap64 ((wrap64 (t372 * t373)) - 1)) true _ A11.out).mono ?_); rintro e w' ⟨rfl, ⟨nd, rfl⟩⟩; refine ⟨_, rfl, ?_⟩) | (go_at_call 92; (with_reducible refine (impl_has.calls x6_2 (rd (rd_L1 l0 x19_1) x23_2) true _ A13.out).mono ?_); rintro e w' ⟨rfl, ⟨nd, rfl⟩⟩))
                            go_ret
                            exact ⟨by first | rfl | (simp [errW_none, errW_some] <;> rfl) | (simp [*, errW_none, errW_some] <;> rfl), by repeat (first | (with_reducible first | exact HB.out | apply below_alloc | apply pw_below_drewN | apply below_drew1) | exact HB.out)⟩
                          · replace c14 := Bool.eq_false_iff.mpr c14
                            subst c14
                            have H1 : (if x19_1 > 0 then (if 0 ≤ (wrap64 (x19_1 - 1)) then (if (wrap64 (x19_1 - 1)) < (l0.length : Int) then (if x23_2 < ((rd_L1 l0 (wrap64 (x19_1 - 1))).length : Int) then (if (rd (rd_L1 l0 x19_1) x23_2) ≤ (rd (rd_L1 l0 (wrap64 (x19_1 - 1))) x23_2) then (some false) else (if x23_2 > 0 then (if 0 ≤ (wrap64 (x23_2 - 1)) then (if (wrap64 (x23_2 - 1)) < ((rd_L1 l0 x19_1).length : Int) then (if (rd (rd_L1 l0 x19_1) x23_2) ≤ (rd (rd_L1 l0 x19_1) (wrap64 (x23_2 - 1))) then (some false) else (if 0 ≤ (rd (rd_L1 l0 x19_1) x23_2) then (impl_IsTableau.l1 k2 l0 t372 t373 (Go.bits .or .i64 x6_2 (shl .i64 1 (rd (rd_L1 l0 x19_1) x23_2))) x19_1 t372 x19_1 t373 (wrap64 (x23_2 + 1))) else (none))) else (none)) else (none)) else (if 0 ≤ (rd (rd_L1 l0 x19_1) x23_2) then (impl_IsTableau.l1 k2 l0 t372 t373 (Go.bits .or .i64 x6_2 (shl .i64 1 (rd (rd_L1 l0 x19_1) x23_2))) x19_1 t372 x19_1 t373 (wrap64 (x23_2 + 1))) else (none)))) else (none)) else (none)) else (none)) else (if x23_2 > 0 then (if 0 ≤ (wrap64 (x23_2 - 1)) then (if (wrap64 (x23_2 - 1)) < ((rd_L1 l0 x19_1).length : Int) then (if (rd (rd_L1 l0 x19_1) x23_2) ≤ (rd (rd_L1 l0 x19_1) (wrap64 (x23_2 - 1))) then (some false) else (if 0 ≤ (rd (rd_L1 l0 x19_1) x23_2) then (impl_IsTableau.l1 k2 l0 t372 t373 (Go.bits .or .i64 x6_2 (shl .i64 1 (rd (rd_L1 l0 x19_1) x23_2))) x19_1 t372 x19_1 t373 (wrap64 (x23_2 + 1))) else (none))) else (none)) else (none)) else (if 0 ≤ (rd (rd_L1 l0 x19_1) x23_2) then (impl_IsTableau.l1 k2 l0 t372 t373 (Go.bits .or .i64 x6_2 (shl .i64 1 (rd (rd_L1 l0 x19_1) x23_2))) x19_1 t372 x19_1 t373 (wrap64 (x23_2 + 1))) else (none)))) = some r := by rw [if_neg (show ¬ (false = true) by decide)] at H; exact H
                            clear H
                            have H := H1
                            clear H1
                            by_cases c15 : x19_1 > 0
                            · rw [if_pos c15] at H
                              have c15b0 : decide (0 < x19_1) = true := decide_eq_true c15
                              clear c15
                              obtain ⟨ji16, hji16⟩ : ∃ j_ : Int, (wrap64 (x19_1 - 1)) = j_ := ⟨_, rfl⟩
                              replace H : (if 0 ≤ (ji16) then (if (ji16) < (l0.length : Int) then (if x23_2 < ((rd_L1 l0 (ji16)).length : Int) then (if (rd (rd_L1 l0 x19_1) x23_2) ≤ (rd (rd_L1 l0 (ji16)) x23_2) then (some false) else (if x23_2 > 0 then (if 0 ≤ (wrap64 (x23_2 - 1)) then (if (wrap64 (x23_2 - 1)) < ((rd_L1 l0 x19_1).length : Int) then (if (rd (rd_L1 l0 x19_1) x23_2) ≤ (rd (rd_L1 l0 x19_1) (wrap64 (x23_2 - 1))) then (some false) else (if 0 ≤ (rd (rd_L1 l0 x19_1) x23_2) then (impl_IsTableau.l1 k2 l0 t372 t373 (Go.bits .or .i64 x6_2 (shl .i64 1 (rd (rd_L1 l0 x19_1) x23_2))) x19_1 t372 x19_1 t373 (wrap64 (x23_2 + 1))) else (none))) else (none)) else (none)) else (if 0 ≤ (rd (rd_L1 l0 x19_1) x23_2) then (impl_IsTableau.l1 k2 l0 t372 t373 (Go.bits .or .i64 x6_2 (shl .i64 1 (rd (rd_L1 l0 x19_1) x23_2))) x19_1 t372 x19_1 t373 (wrap64 (x23_2 + 1))) else (none)))) else (none)) else (none)) else (none)) = some r := by first | (rw [hji16] at H; exact H) | (simp only [hji16] at H ⊢; exact H)
                              (try rw [hji16] at A11)
                              (try rw [hji16] at A13)
                              have hji16w : (IntKind.i64.wrap (x19_1 - 1)) = ji16 := (i64_w _).trans hji16
                              by_cases c17 : 0 ≤ (ji16)
                              · rw [if_pos c17] at H
                                have c17b0 : decide (0 ≤ (ji16)) = true := decide_eq_true c17
                                clear c17
                                by_cases c18 : (ji16) < (l0.length : Int)
                                · rw [if_pos c18] at H
                                  have c18b0 : decide ((ji16) < (l0.length : Int)) = true := decide_eq_true c18
                                  clear c18
                                  by_cases c19 : x23_2 < ((rd_L1 l0 (ji16)).length : Int)
                                  · rw [if_pos c19] at H
                                    have c19b0 : decide (x23_2 < ((rd_L1 l0 (ji16)).length : Int)) = true := decide_eq_true c19
                                    clear c19
                                    by_cases c20 : (rd (rd_L1 l0 x19_1) x23_2) ≤ (rd (rd_L1 l0 (ji16)) x23_2)
                                    · rw [if_pos c20] at H
                                      have c20b0 : decide ((rd (rd_L1 l0 x19_1) x23_2) ≤ (rd (rd_L1 l0 (ji16)) x23_2)) = true := decide_eq_true c20
                                      clear c20
                                      obtain rfl := Option.some.inj H
                                      have p375 : 0 ≤ (x19_1 : Int) := of_decide_eq_true (by first | (with_reducible assumption) | assumption)
                                      have q375 : x19_1 < (l0.length : Int) := of_decide_eq_true (by first | (with_reducible assumption) | assumption)
                                      obtain ⟨ad375, A375_0, c375_0, e375, hx375_0, hl375_0, hi375_0⟩ := at_L1 HR0.out x19_1 p375 q375
                                      cases e375
                                      replace hx375_0 := (HB.out.cell (World.block_lt_of_cell? w _ hx375_0)).trans hx375_0
                                      have HR375_0 := Aside0.mk hi375_0
                                      have HC375_0 := Aside0.mk hl375_0
                                      clear hi375_0 hl375_0
                                      replace p375 := eq_true p375
                                      replace q375 := eq_true q375
                                      have p376 : 0 ≤ (x23_2 : Int) := of_decide_eq_true (by first | (with_reducible assumption) | assumption)
                                      have q376 : x23_2 < ((rd_L1 l0 x19_1).length : Int) := of_decide_eq_true (by first | (with_reducible assumption) | assumption)
                                      obtain ⟨ad376, e376, hx376_0⟩ := Kd.at_int HR375_0.out x23_2 p376 q376
                                      cases e376
                                      replace hx376_0 := (HB.out.cell (World.block_lt_of_cell? w _ hx376_0)).trans hx376_0
                                      replace p376 := eq_true p376
                                      replace q376 := eq_true q376
                                      go_wp2_with (first | ((with_reducible refine gate_callee (f := 67) rfl ?_); refine goesL_ (some 38) rfl rfl Try.func67 (by kernel_rfl) rfl #[.int .i64 (rd (rd_L1 l0 x19_1) x23_2), .int .i64 0, .int .i64 (wrap64 ((wrap64 (t372 * t373)) - 1))] rfl (by (try simp only [List.map_toArray, List.map_cons, List.map_nil]); first | done | rfl | (simp only [List.length_drop, List.length_take]; rfl)) ?_; (with_reducible refine (impl_within.calls (rd (rd_L1 l0 x19_1) x23_2) 0 (wrap64 ((wrap64 (t372 * t373)) - 1)) true _ A11.out).mono ?_); rintro e w' ⟨rfl, ⟨nd, rfl⟩⟩; refine ⟨_, rfl, ?_⟩) | (go_at_call 92; (with_reducible refine (impl_has.calls x6_2 (rd (rd_L1 l0 x19_1) x23_2) false _ A13.out).mono ?_); rintro e w' ⟨rfl, ⟨nd, rfl⟩⟩; have p379 : 0 ≤ ((ji16) : Int) := of_decide_eq_true (by first | (with_reducible assumption) | assumption); have q379 : (ji16) < (l0.length : Int) := of_decide_eq_true (by first | (with_reducible assumption) | assumption); obtain ⟨ad379, A379_0, c379_0, e379, hx379_0, hl379_0, hi379_0⟩ := at_L1 HR0.out (ji16) p379 q379; obtain rfl : ad375 = ad379 := (by injection e379); replace hx379_0 := (HB.out.cell (World.block_lt_of_cell? w _ hx379_0)).trans hx379_0; have HR379_0 := Aside0.mk hi379_0; have HC379_0 := Aside0.mk hl379_0; clear hi379_0 hl379_0; replace p379 := eq_true p379; replace q379 := eq_true q379; have p380 : 0 ≤ (x23_2 : Int) := of_decide_eq_true (by first | (with_reducible assumption) | assumption); have q380 : x23_2 < ((rd_L1 l0 (ji16)).length : Int) := of_decide_eq_true (by first | (with_reducible assumption) | assumption); obtain ⟨ad380, e380, hx380_0⟩ := Kd.at_int HR379_0.out x23_2 p380 q380; cases e380; replace hx380_0 := (HB.out.cell (World.block_lt_of_cell? w _ hx380_0)).trans hx380_0; replace p380 := eq_true p380; replace q380 := eq_true q380))
                                      go_ret
                                      exact ⟨by first | rfl | (simp [errW_none, errW_some] <;> rfl) | (simp only [← hji16]; first | rfl | (simp [errW_none, errW_some] <;> rfl)) | (simp [*, errW_none, errW_some] <;> rfl), by repeat (first | (with_reducible first | exact HB.out | apply below_alloc | apply pw_below_drewN | apply below_drew1) | exact HB.out)⟩
                                    · rw [if_neg c20] at H
                                      have c20b0 : decide ((rd (rd_L1 l0 x19_1) x23_2) ≤ (rd (rd_L1 l0 (ji16)) x23_2)) = false := decide_eq_false c20
                                      clear c20
                                      by_cases c21 : x23_2 > 0
                                      · rw [if_pos c21] at H
                                        have c21b0 : decide (0 < x23_2) = true := decide_eq_true c21
                                        clear c21
                                        obtain ⟨ji22, hji22⟩ : ∃ j_ : Int, (wrap64 (x23_2 - 1)) = j_ := ⟨_, rfl⟩
                                        replace H : (if 0 ≤ (ji22) then (if (ji22) < ((rd_L1 l0 x19_1).length : Int) then (if (rd (rd_L1 l0 x19_1) x23_2) ≤ (rd (rd_L1 l0 x19_1) (ji22)) then (some false) else (if 0 ≤ (rd (rd_L1 l0 x19_1) x23_2) then (impl_IsTableau.l1 k2 l0 t372 t373 (Go.bits .or .i64 x6_2 (shl .i64 1 (rd (rd_L1 l0 x19_1) x23_2))) x19_1 t372 x19_1 t373 (wrap64 (x23_2 + 1))) else (none))) else (none)) else (none)) = some r := by first | (rw [hji22] at H; exact H) | (simp only [hji22] at H ⊢; exact H)
                                        (try rw [hji22] at A11)
                                        (try rw [hji22] at A13)
                                        have hji22w : (IntKind.i64.wrap (x23_2 - 1)) = ji22 := (i64_w _).trans hji22
                                        by_cases c23 : 0 ≤ (ji22)
                                        · rw [if_pos c23] at H
                                          have c23b0 : decide (0 ≤ (ji22)) = true := decide_eq_true c23
                                          clear c23
                                          by_cases c24 : (ji22) < ((rd_L1 l0 x19_1).length : Int)
                                          · rw [if_pos c24] at H
                                            have c24b0 : decide ((ji22) < ((rd_L1 l0 x19_1).length : Int)) = true := decide_eq_true c24
                                            clear c24
                                            by_cases c25 : (rd (rd_L1 l0 x19_1) x23_2) ≤ (rd (rd_L1 l0 x19_1) (ji22))
                                            · rw [if_pos c25] at H
                                              have c25b0 : decide ((rd (rd_L1 l0 x19_1) x23_2) ≤ (rd (rd_L1 l0 x19_1) (ji22))) = true := decide_eq_true c25
                                              clear c25
                                              obtain rfl := Option.some.inj H
                                              have p375 : 0 ≤ (x19_1 : Int) := of_decide_eq_true (by first | (with_reducible assumption) | assumption)
                                              have q375 : x19_1 < (l0.length : Int) := of_decide_eq_true (by first | (with_reducible assumption) | assumption)
                                              obtain ⟨ad375, A375_0, c375_0, e375, hx375_0, hl375_0, hi375_0⟩ := at_L1 HR0.out x19_1 p375 q375
                                              cases e375
                                              replace hx375_0 := (HB.out.cell (World.block_lt_of_cell? w _ hx375_0)).trans hx375_0
                                              have HR375_0 := Aside0.mk hi375_0
                                              have HC375_0 := Aside0.mk hl375_0
                                              clear hi375_0 hl375_0
                                              replace p375 := eq_true p375
                                              replace q375 := eq_true q375
                                              have p376 : 0 ≤ (x23_2 : Int) := of_decide_eq_true (by first | (with_reducible assumption) | assumption)
                                              have q376 : x23_2 < ((rd_L1 l0 x19_1).length : Int) := of_decide_eq_true (by first | (with_reducible assumption) | assumption)
                                              obtain ⟨ad376, e376, hx376_0⟩ := Kd.at_int HR375_0.out x23_2 p376 q376
                                              cases e376
                                              replace hx376_0 := (HB.out.cell (World.block_lt_of_cell? w _ hx376_0)).trans hx376_0
                                              replace p376 := eq_true p376
                                              replace q376 := eq_true q376
                                              go_wp2_with (first | ((with_reducible refine gate_callee (f := 67) rfl ?_); refine goesL_ (some 38) rfl rfl Try.func67 (by kernel_rfl) rfl #[.int .i64 (rd (rd_L1 l0 x19_1) x23_2), .int .i64 0, .int .i64 (wrap64 ((wrap64 (t372 * t373)) - 1))] rfl (by (try simp only [List.map_toArray, List.map_cons, List.map_nil]); first | done | rfl | (simp only [List.length_drop, List.length_take]; rfl)) ?_; (with_reducible refine (impl_within.calls (rd (rd_L1 l0 x19_1) x23_2) 0 (wrap64 ((wrap64 (t372 * t373)) - 1)) true _ A11.out).mono ?_); rintro e w' ⟨rfl, ⟨nd, rfl⟩⟩; refine ⟨_, rfl, ?_⟩) | (go_at_call 92; (with_reducible refine (impl_has.calls x6_2 (rd (rd_L1 l0 x19_1) x23_2) false _ A13.out).mono ?_); rintro e w' ⟨rfl, ⟨nd, rfl⟩⟩; have p379 : 0 ≤ ((ji16) : Int) := of_decide_eq_true (by first | (with_reducible assumption) | assumption); have q379 : (ji16) < (l0.length : Int) := of_decide_eq_true (by first | (with_reducible assumption) | assumption); obtain ⟨ad379, A379_0, c379_0, e379, hx379_0, hl379_0, hi379_0⟩ := at_L1 HR0.out (ji16) p379 q379; obtain rfl : ad375 = ad379 := (by injection e379); replace hx379_0 := (HB.out.cell (World.block_lt_of_cell? w _ hx379_0)).trans hx379_0; have HR379_0 := Aside0.mk hi379_0; have HC379_0 := Aside0.mk hl379_0; clear hi379_0 hl379_0; replace p379 := eq_true p379; replace q379 := eq_true q379; have p380 : 0 ≤ (x23_2 : Int) := of_decide_eq_true (by first | (with_reducible assumption) | assumption); have q380 : x23_2 < ((rd_L1 l0 (ji16)).length : Int) := of_decide_eq_true (by first | (with_reducible assumption) | assumption); obtain ⟨ad380, e380, hx380_0⟩ := Kd.at_int HR379_0.out x23_2 p380 q380; cases e380; replace hx380_0 := (HB.out.cell (World.block_lt_of_cell? w _ hx380_0)).trans hx380_0; replace p380 := eq_true p380; replace q380 := eq_true q380; have p381 : 0 ≤ (x19_1 : Int) := of_decide_eq_true (by first | (with_reducible assumption) | assumption); have q381 : x19_1 < (l0.length : Int) := of_decide_eq_true (by first | (with_reducible assumption) | assumption); obtain ⟨ad381, A381_0, c381_0, e381, hx381_0, hl381_0, hi381_0⟩ := at_L1 HR0.out x19_1 p381 q381; obtain rfl : ad375 = ad381 := (by injection e381); replace hx381_0 := (HB.out.cell (World.block_lt_of_cell? w _ hx381_0)).trans hx381_0; have HR381_0 := Aside0.mk hi381_0; have HC381_0 := Aside0.mk hl381_0; clear hi381_0 hl381_0; replace p381 := eq_true p381; replace q381 := eq_true q381; have ea_ := Option.some.inj (hx375_0.symm.trans hx381_0); injection ea_ with ea_ en_ ec_; subst ea_; subst ec_; clear en_; have p382 : 0 ≤ ((ji22) : Int) := of_decide_eq_true (by first | (with_reducible assumption) | assumption); have q382 : (ji22) < ((rd_L1 l0 x19_1).length : Int) := of_decide_eq_true (by first | (with_reducible assumption) | assumption); obtain ⟨ad382, e382, hx382_0⟩ := Kd.at_int HR381_0.out (ji22) p382 q382; cases e382; replace hx382_0 := (HB.out.cell (World.block_lt_of_cell? w _ hx382_0)).trans hx382_0; replace p382 := eq_true p382; replace q382 := eq_true q382))
                                              go_ret
                                              exact ⟨by first | rfl | (simp [errW_none, errW_some] <;> rfl) | (simp only [← hji16, ← hji22]; first | rfl | (simp [errW_none, errW_some] <;> rfl)) | (simp [*, errW_none, errW_some] <;> rfl), by repeat (first | (with_reducible first | exact HB.out | apply below_alloc | apply pw_below_drewN | apply below_drew1) | exact HB.out)⟩
                                            · rw [if_neg c25] at H
                                              have c25b0 : decide ((rd (rd_L1 l0 x19_1) x23_2) ≤ (rd (rd_L1 l0 x19_1) (ji22))) = false := decide_eq_false c25
                                              clear c25
                                              by_cases c26 : 0 ≤ (rd (rd_L1 l0 x19_1) x23_2)
                                              · rw [if_pos c26] at H
                                                have c26b0 := eq_true c26
                                                have c26b1 : decide (0 ≤ (rd (rd_L1 l0 x19_1) x23_2)) = true := decide_eq_true c26
                                                clear c26
                                                obtain ⟨ji27, hji27⟩ : ∃ j_ : Int, (shl .i64 1 (rd (rd_L1 l0 x19_1) x23_2)) = j_ := ⟨_, rfl⟩
                                                replace H : (impl_IsTableau.l1 k2 l0 t372 t373 (Go.bits .or .i64 x6_2 (ji27)) x19_1 t372 x19_1 t373 (wrap64 (x23_2 + 1))) = some r := by first | (rw [hji27] at H; exact H) | (simp only [hji27] at H ⊢; exact H)
                                                (try rw [hji27] at A11)
                                                (try rw [hji27] at A13)
                                                have hji27_ : (IntKind.i64.wrap (1 * 2 ^ min (rd (rd_L1 l0 x19_1) x23_2).toNat 64)) = ji27 := hji27
                                                have hji27z : (rd (rd_L1 l0 x19_1) x23_2) ≤ 64 → (IntKind.i64.wrap (1 * 2 ^ (rd (rd_L1 l0 x19_1) x23_2).toNat)) = ji27 := shl_small hji27
                                                have hji27u : (IntKind.i64.wrap (2 ^ min (rd (rd_L1 l0 x19_1) x23_2).toNat 64)) = ji27 := by have h_ := hji27_; rw [Int.one_mul] at h_; exact h_
                                                have hji27v : (rd (rd_L1 l0 x19_1) x23_2) ≤ 64 → (IntKind.i64.wrap (2 ^ (rd (rd_L1 l0 x19_1) x23_2).toNat)) = ji27 := fun hle_ => by have h_ := hji27z hle_; rw [Int.one_mul] at h_; exact h_
                                                have hji27y : (wrap64 (1 * 2 ^ min (rd (rd_L1 l0 x19_1) x23_2).toNat 64)) = ji27 := (i64_w _).symm.trans hji27_
                                                have hji27x : (rd (rd_L1 l0 x19_1) x23_2) ≤ 64 → (wrap64 (1 * 2 ^ (rd (rd_L1 l0 x19_1) x23_2).toNat)) = ji27 := fun h_ => (i64_w _).symm.trans (hji27z h_)
                                                have H' := Aside0.mk H
                                                clear H
                                                have p375 : 0 ≤ (x19_1 : Int) := of_decide_eq_true (by first | (with_reducible assumption) | assumption)
                                                have q375 : x19_1 < (l0.length : Int) := of_decide_eq_true (by first | (with_reducible assumption) | assumption)
                                                obtain ⟨ad375, A375_0, c375_0, e375, hx375_0, hl375_0, hi375_0⟩ := at_L1 HR0.out x19_1 p375 q375
                                                cases e375
                                                replace hx375_0 := (HB.out.cell (World.block_lt_of_cell? w _ hx375_0)).trans hx375_0
                                                have HR375_0 := Aside0.mk hi375_0
                                                have HC375_0 := Aside0.mk hl375_0
                                                clear hi375_0 hl375_0
                                                replace p375 := eq_true p375
                                                replace q375 := eq_true q375
                                                have p376 : 0 ≤ (x23_2 : Int) := of_decide_eq_true (by first | (with_reducible assumption) | assumption)
                                                have q376 : x23_2 < ((rd_L1 l0 x19_1).length : Int) := of_decide_eq_true (by first | (with_reducible assumption) | assumption)
                                                obtain ⟨ad376, e376, hx376_0⟩ := Kd.at_int HR375_0.out x23_2 p376 q376
                                                cases e376
                                                replace hx376_0 := (HB.out.cell (World.block_lt_of_cell? w _ hx376_0)).trans hx376_0
                                                replace p376 := eq_true p376
                                                replace q376 := eq_true q376
                                                go_wp2_with (first | ((with_reducible refine gate_callee (f := 67) rfl ?_); refine goesL_ (some 38) rfl rfl Try.func67 (by kernel_rfl) rfl #[.int .i64 (rd (rd_L1 l0 x19_1) x23_2), .int .i64 0, .int .i64 (wrap64 ((wrap64 (t372 * t373)) - 1))] rfl (by (try simp only [List.map_toArray, List.map_cons, List.map_nil]); first | done | rfl | (simp only [List.length_drop, List.length_take]; rfl)) ?_; (with_reducible refine (impl_within.calls (rd (rd_L1 l0 x19_1) x23_2) 0 (wrap64 ((wrap64 (t372 * t373)) - 1)) true _ A11.out).mono ?_); rintro e w' ⟨rfl, ⟨nd, rfl⟩⟩; refine ⟨_, rfl, ?_⟩) | (go_at_call 92; (with_reducible refine (impl_has.calls x6_2 (rd (rd_L1 l0 x19_1) x23_2) false _ A13.out).mono ?_); rintro e w' ⟨rfl, ⟨nd, rfl⟩⟩; have p379 : 0 ≤ ((ji16) : Int) := of_decide_eq_true (by first | (with_reducible assumption) | assumption); have q379 : (ji16) < (l0.length : Int) := of_decide_eq_true (by first | (with_reducible assumption) | assumption); obtain ⟨ad379, A379_0, c379_0, e379, hx379_0, hl379_0, hi379_0⟩ := at_L1 HR0.out (ji16) p379 q379; obtain rfl : ad375 = ad379 := (by injection e379); replace hx379_0 := (HB.out.cell (World.block_lt_of_cell? w _ hx379_0)).trans hx379_0; have HR379_0 := Aside0.mk hi379_0; have HC379_0 := Aside0.mk hl379_0; clear hi379_0 hl379_0; replace p379 := eq_true p379; replace q379 := eq_true q379; have p380 : 0 ≤ (x23_2 : Int) := of_decide_eq_true (by first | (with_reducible assumption) | assumption); have q380 : x23_2 < ((rd_L1 l0 (ji16)).length : Int) := of_decide_eq_true (by first | (with_reducible assumption) | assumption); obtain ⟨ad380, e380, hx380_0⟩ := Kd.at_int HR379_0.out x23_2 p380 q380; cases e380; replace hx380_0 := (HB.out.cell (World.block_lt_of_cell? w _ hx380_0)).trans hx380_0; replace p380 := eq_true p380; replace q380 := eq_true q380; have p381 : 0 ≤ (x19_1 : Int) := of_decide_eq_true (by first | (with_reducible assumption) | assumption); have q381 : x19_1 < (l0.length : Int) := of_decide_eq_true (by first | (with_reducible assumption) | assumption); obtain ⟨ad381, A381_0, c381_0, e381, hx381_0, hl381_0, hi381_0⟩ := at_L1 HR0.out x19_1 p381 q381; obtain rfl : ad375 = ad381 := (by injection e381); replace hx381_0 := (HB.out.cell (World.block_lt_of_cell? w _ hx381_0)).trans hx381_0; have HR381_0 := Aside0.mk hi381_0; have HC381_0 := Aside0.mk hl381_0; clear hi381_0 hl381_0; replace p381 := eq_true p381; replace q381 := eq_true q381; have ea_ := Option.some.inj (hx375_0.symm.trans hx381_0); injection ea_ with ea_ en_ ec_; subst ea_; subst ec_; clear en_; have p382 : 0 ≤ ((ji22) : Int) := of_decide_eq_true (by first | (with_reducible assumption) | assumption); have q382 : (ji22) < ((rd_L1 l0 x19_1).length : Int) := of_decide_eq_true (by first | (with_reducible assumption) | assumption); obtain ⟨ad382, e382, hx382_0⟩ := Kd.at_int HR381_0.out (ji22) p382 q382; cases e382; replace hx382_0 := (HB.out.cell (World.block_lt_of_cell? w _ hx382_0)).trans hx382_0; replace p382 := eq_true p382; replace q382 := eq_true q382))
                                                go_roundg k2
                                                case measure => have := HK1.out; have := HK2.out; omega
                                                case rel => exact ⟨(Go.bits .or .i64 x6_2 (ji27)), (wrap64 (x23_2 + 1)), (by first | rfl | (simp; done) | (simp only [← hji27] <;> (first | rfl | simp)) | (simp [*]; done)), (by first | rfl | (simp; done) | (simp [*]; done)), H', ⟨by have := HK1.out; have := HK2.out; omega⟩, ⟨by repeat (first | (with_reducible first | exact HB.out | apply below_alloc | apply pw_below_drewN | apply below_drew1) | exact HB.out)⟩⟩
                                              · rw [if_neg c26] at H
                                                exact absurd H (by simp)
                                          · rw [if_neg c24] at H
                                            exact absurd H (by simp)
                                        · rw [if_neg c23] at H
                                          exact absurd H (by simp)
                                      · rw [if_neg c21] at H
                                        have c21b0 : decide (0 < x23_2) = false := decide_eq_false c21
                                        clear c21
                                        by_cases c28 : 0 ≤ (rd (rd_L1 l0 x19_1) x23_2)
                                        · rw [if_pos c28] at H
                                          have c28b0 := eq_true c28
                                          have c28b1 : decide (0 ≤ (rd (rd_L1 l0 x19_1) x23_2)) = true := decide_eq_true c28
                                          clear c28
                                          obtain ⟨ji29, hji29⟩ : ∃ j_ : Int, (shl .i64 1 (rd (rd_L1 l0 x19_1) x23_2)) = j_ := ⟨_, rfl⟩
                                          replace H : (impl_IsTableau.l1 k2 l0 t372 t373 (Go.bits .or .i64 x6_2 (ji29)) x19_1 t372 x19_1 t373 (wrap64 (x23_2 + 1))) = some r := by first | (rw [hji29] at H; exact H) | (simp only [hji29] at H ⊢; exact H)
                                          (try rw [hji29] at A11)
                                          (try rw [hji29] at A13)
                                          have hji29_ : (IntKind.i64.wrap (1 * 2 ^ min (rd (rd_L1 l0 x19_1) x23_2).toNat 64)) = ji29 := hji29
                                          have hji29z : (rd (rd_L1 l0 x19_1) x23_2) ≤ 64 → (IntKind.i64.wrap (1 * 2 ^ (rd (rd_L1 l0 x19_1) x23_2).toNat)) = ji29 := shl_small hji29
                                          have hji29u : (IntKind.i64.wrap (2 ^ min (rd (rd_L1 l0 x19_1) x23_2).toNat 64)) = ji29 := by have h_ := hji29_; rw [Int.one_mul] at h_; exact h_
                                          have hji29v : (rd (rd_L1 l0 x19_1) x23_2) ≤ 64 → (IntKind.i64.wrap (2 ^ (rd (rd_L1 l0 x19_1) x23_2).toNat)) = ji29 := fun hle_ => by have h_ := hji29z hle_; rw [Int.one_mul] at h_; exact h_
                                          have hji29y : (wrap64 (1 * 2 ^ min (rd (rd_L1 l0 x19_1) x23_2).toNat 64)) = ji29 := (i64_w _).symm.trans hji29_
                                          have hji29x : (rd (rd_L1 l0 x19_1) x23_2) ≤ 64 → (wrap64 (1 * 2 ^ (rd (rd_L1 l0 x19_1) x23_2).toNat)) = ji29 := fun h_ => (i64_w _).symm.trans (hji29z h_)
                                          have H' := Aside0.mk H
                                          clear H
                                          have p375 : 0 ≤ (x19_1 : Int) := of_decide_eq_true (by first | (with_reducible assumption) | assumption)
                                          have q375 : x19_1 < (l0.length : Int) := of_decide_eq_true (by first | (with_reducible assumption) | assumption)
                                          obtain ⟨ad375, A375_0, c375_0, e375, hx375_0, hl375_0, hi375_0⟩ := at_L1 HR0.out x19_1 p375 q375
                                          cases e375
                                          replace hx375_0 := (HB.out.cell (World.block_lt_of_cell? w _ hx375_0)).trans hx375_0
                                          have HR375_0 := Aside0.mk hi375_0
                                          have HC375_0 := Aside0.mk hl375_0
                                          clear hi375_0 hl375_0
                                          replace p375 := eq_true p375
                                          replace q375 := eq_true q375
                                          have p376 : 0 ≤ (x23_2 : Int) := of_decide_eq_true (by first | (with_reducible assumption) | assumption)
                                          have q376 : x23_2 < ((rd_L1 l0 x19_1).length : Int) := of_decide_eq_true (by first | (with_reducible assumption) | assumption)
                                          obtain ⟨ad376, e376, hx376_0⟩ := Kd.at_int HR375_0.out x23_2 p376 q376
                                          cases e376
                                          replace hx376_0 := (HB.out.cell (World.block_lt_of_cell? w _ hx376_0)).trans hx376_0
                                          replace p376 := eq_true p376
                                          replace q376 := eq_true q376
                                          go_wp2_with (first | ((with_reducible refine gate_callee (f := 67) rfl ?_); refine goesL_ (some 38) rfl rfl Try.func67 (by kernel_rfl) rfl #[.int .i64 (rd (rd_L1 l0 x19_1) x23_2), .int .i64 0, .int .i64 (wrap64 ((wrap64 (t372 * t373)) - 1))] rfl (by (try simp only [List.map_toArray, List.map_cons, List.map_nil]); first | done | rfl | (simp only [List.length_drop, List.length_take]; rfl)) ?_; (with_reducible refine (impl_within.calls (rd (rd_L1 l0 x19_1) x23_2) 0 (wrap64 ((wrap64 (t372 * t373)) - 1)) true _ A11.out).mono ?_); rintro e w' ⟨rfl, ⟨nd, rfl⟩⟩; refine ⟨_, rfl, ?_⟩) | (go_at_call 92; (with_reducible refine (impl_has.calls x6_2 (rd (rd_L1 l0 x19_1) x23_2) false _ A13.out).mono ?_); rintro e w' ⟨rfl, ⟨nd, rfl⟩⟩; have p379 : 0 ≤ ((ji16) : Int) := of_decide_eq_true (by first | (with_reducible assumption) | assumption); have q379 : (ji16) < (l0.length : Int) := of_decide_eq_true (by first | (with_reducible assumption) | assumption); obtain ⟨ad379, A379_0, c379_0, e379, hx379_0, hl379_0, hi379_0⟩ := at_L1 HR0.out (ji16) p379 q379; obtain rfl : ad375 = ad379 := (by injection e379); replace hx379_0 := (HB.out.cell (World.block_lt_of_cell? w _ hx379_0)).trans hx379_0; have HR379_0 := Aside0.mk hi379_0; have HC379_0 := Aside0.mk hl379_0; clear hi379_0 hl379_0; replace p379 := eq_true p379; replace q379 := eq_true q379; have p380 : 0 ≤ (x23_2 : Int) := of_decide_eq_true (by first | (with_reducible assumption) | assumption); have q380 : x23_2 < ((rd_L1 l0 (ji16)).length : Int) := of_decide_eq_true (by first | (with_reducible assumption) | assumption); obtain ⟨ad380, e380, hx380_0⟩ := Kd.at_int HR379_0.out x23_2 p380 q380; cases e380; replace hx380_0 := (HB.out.cell (World.block_lt_of_cell? w _ hx380_0)).trans hx380_0; replace p380 := eq_true p380; replace q380 := eq_true q380))
                                          go_roundg k2
                                          case measure => have := HK1.out; have := HK2.out; omega
                                          case rel => exact ⟨(Go.bits .or .i64 x6_2 (ji29)), (wrap64 (x23_2 + 1)), (by first | rfl | (simp; done) | (simp only [← hji29] <;> (first | rfl | simp)) | (simp [*]; done)), (by first | rfl | (simp; done) | (simp [*]; done)), H', ⟨by have := HK1.out; have := HK2.out; omega⟩, ⟨by repeat (first | (with_reducible first | exact HB.out | apply below_alloc | apply pw_below_drewN | apply below_drew1) | exact HB.out)⟩⟩
                                        · rw [if_neg c28] at H
                                          exact absurd H (by simp)
                                  · rw [if_neg c19] at H
                                    exact absurd H (by simp)
                                · rw [if_neg c18] at H
                                  exact absurd H (by simp)
                              · rw [if_neg c17] at H
                                exact absurd H (by simp)
                            · rw [if_neg c15] at H
                              have c15b0 : decide (0 < x19_1) = false := decide_eq_false c15
                              clear c15
                              by_cases c30 : x23_2 > 0
                              · rw [if_pos c30] at H
                                have c30b0 : decide (0 < x23_2) = true := decide_eq_true c30
                                clear c30
                                obtain ⟨ji31, hji31⟩ : ∃ j_ : Int, (wrap64 (x23_2 - 1)) = j_ := ⟨_, rfl⟩
                                replace H : (if 0 ≤ (ji31) then (if (ji31) < ((rd_L1 l0 x19_1).length : Int) then (if (rd (rd_L1 l0 x19_1) x23_2) ≤ (rd (rd_L1 l0 x19_1) (ji31)) then (some false) else (if 0 ≤ (rd (rd_L1 l0 x19_1) x23_2) then (impl_IsTableau.l1 k2 l0 t372 t373 (Go.bits .or .i64 x6_2 (shl .i64 1 (rd (rd_L1 l0 x19_1) x23_2))) x19_1 t372 x19_1 t373 (wrap64 (x23_2 + 1))) else (none))) else (none)) else (none)) = some r := by first | (rw [hji31] at H; exact H) | (simp only [hji31] at H ⊢; exact H)
                                (try rw [hji31] at A11)
                                (try rw [hji31] at A13)
                                have hji31w : (IntKind.i64.wrap (x23_2 - 1)) = ji31 := (i64_w _).trans hji31
                                by_cases c32 : 0 ≤ (ji31)
                                · rw [if_pos c32] at H
                                  have c32b0 : decide (0 ≤ (ji31)) = true := decide_eq_true c32
                                  clear c32
                                  by_cases c33 : (ji31) < ((rd_L1 l0 x19_1).length : Int)
                                  · rw [if_pos c33] at H
                                    have c33b0 : decide ((ji31) < ((rd_L1 l0 x19_1).length : Int)) = true := decide_eq_true c33
                                    clear c33
                                    by_cases c34 : (rd (rd_L1 l0 x19_1) x23_2) ≤ (rd (rd_L1 l0 x19_1) (ji31))
                                    · rw [if_pos c34] at H
                                      have c34b0 : decide ((rd (rd_L1 l0 x19_1) x23_2) ≤ (rd (rd_L1 l0 x19_1) (ji31))) = true := decide_eq_true c34
                                      clear c34
                                      obtain rfl := Option.some.inj H
                                      have p375 : 0 ≤ (x19_1 : Int) := of_decide_eq_true (by first | (with_reducible assumption) | assumption)
                                      have q375 : x19_1 < (l0.length : Int) := of_decide_eq_true (by first | (with_reducible assumption) | assumption)
                                      obtain ⟨ad375, A375_0, c375_0, e375, hx375_0, hl375_0, hi375_0⟩ := at_L1 HR0.out x19_1 p375 q375
                                      cases e375
                                      replace hx375_0 := (HB.out.cell (World.block_lt_of_cell? w _ hx375_0)).trans hx375_0
                                      have HR375_0 := Aside0.mk hi375_0
                                      have HC375_0 := Aside0.mk hl375_0
                                      clear hi375_0 hl375_0
                                      replace p375 := eq_true p375
                                      replace q375 := eq_true q375
                                      have p376 : 0 ≤ (x23_2 : Int) := of_decide_eq_true (by first | (with_reducible assumption) | assumption)
                                      have q376 : x23_2 < ((rd_L1 l0 x19_1).length : Int) := of_decide_eq_true (by first | (with_reducible assumption) | assumption)
                                      obtain ⟨ad376, e376, hx376_0⟩ := Kd.at_int HR375_0.out x23_2 p376 q376
                                      cases e376
                                      replace hx376_0 := (HB.out.cell (World.block_lt_of_cell? w _ hx376_0)).trans hx376_0
                                      replace p376 := eq_true p376
                                      replace q376 := eq_true q376
                                      go_wp2_with (first | ((with_reducible refine gate_callee (f := 67) rfl ?_); refine goesL_ (some 38) rfl rfl Try.func67 (by kernel_rfl) rfl #[.int .i64 (rd (rd_L1 l0 x19_1) x23_2), .int .i64 0, .int .i64 (wrap64 ((wrap64 (t372 * t373)) - 1))] rfl (by (try simp only [List.map_toArray, List.map_cons, List.map_nil]); first | done | rfl | (simp only [List.length_drop, List.length_take]; rfl)) ?_; (with_reducible refine (impl_within.calls (rd (rd_L1 l0 x19_1) x23_2) 0 (wrap64 ((wrap64 (t372 * t373)) - 1)) true _ A11.out).mono ?_); rintro e w' ⟨rfl, ⟨nd, rfl⟩⟩; refine ⟨_, rfl, ?_⟩) | (go_at_call 92; (with_reducible refine (impl_has.calls x6_2 (rd (rd_L1 l0 x19_1) x23_2) false _ A13.out).mono ?_); rintro e w' ⟨rfl, ⟨nd, rfl⟩⟩; have p383 : 0 ≤ (x19_1 : Int) := of_decide_eq_true (by first | (with_reducible assumption) | assumption); have q383 : x19_1 < (l0.length : Int) := of_decide_eq_true (by first | (with_reducible assumption) | assumption); obtain ⟨ad383, A383_0, c383_0, e383, hx383_0, hl383_0, hi383_0⟩ := at_L1 HR0.out x19_1 p383 q383; obtain rfl : ad375 = ad383 := (by injection e383); replace hx383_0 := (HB.out.cell (World.block_lt_of_cell? w _ hx383_0)).trans hx383_0; have HR383_0 := Aside0.mk hi383_0; have HC383_0 := Aside0.mk hl383_0; clear hi383_0 hl383_0; replace p383 := eq_true p383; replace q383 := eq_true q383; have ea_ := Option.some.inj (hx375_0.symm.trans hx383_0); injection ea_ with ea_ en_ ec_; subst ea_; subst ec_; clear en_; have p384 : 0 ≤ ((ji31) : Int) := of_decide_eq_true (by first | (with_reducible assumption) | assumption); have q384 : (ji31) < ((rd_L1 l0 x19_1).length : Int) := of_decide_eq_true (by first | (with_reducible assumption) | assumption); obtain ⟨ad384, e384, hx384_0⟩ := Kd.at_int HR383_0.out (ji31) p384 q384; cases e384; replace hx384_0 := (HB.out.cell (World.block_lt_of_cell? w _ hx384_0)).trans hx384_0; replace p384 := eq_true p384; replace q384 := eq_true q384))
                                      go_ret
                                      exact ⟨by first | rfl | (simp [errW_none, errW_some] <;> rfl) | (simp only [← hji31]; first | rfl | (simp [errW_none, errW_some] <;> rfl)) | (simp [*, errW_none, errW_some] <;> rfl), by repeat (first | (with_reducible first | exact HB.out | apply below_alloc | apply pw_below_drewN | apply below_drew1) | exact HB.out)⟩
                                    · rw [if_neg c34] at H
                                      have c34b0 : decide ((rd (rd_L1 l0 x19_1) x23_2) ≤ (rd (rd_L1 l0 x19_1) (ji31))) = false := decide_eq_false c34
                                      clear c34
                                      by_cases c35 : 0 ≤ (rd (rd_L1 l0 x19_1) x23_2)
                                      · rw [if_pos c35] at H
                                        have c35b0 := eq_true c35
                                        have c35b1 : decide (0 ≤ (rd (rd_L1 l0 x19_1) x23_2)) = true := decide_eq_true c35
                                        clear c35
                                        obtain ⟨ji36, hji36⟩ : ∃ j_ : Int, (shl .i64 1 (rd (rd_L1 l0 x19_1) x23_2)) = j_ := ⟨_, rfl⟩
                                        replace H : (impl_IsTableau.l1 k2 l0 t372 t373 (Go.bits .or .i64 x6_2 (ji36)) x19_1 t372 x19_1 t373 (wrap64 (x23_2 + 1))) = some r := by first | (rw [hji36] at H; exact H) | (simp only [hji36] at H ⊢; exact H)
                                        (try rw [hji36] at A11)
                                        (try rw [hji36] at A13)
                                        have hji36_ : (IntKind.i64.wrap (1 * 2 ^ min (rd (rd_L1 l0 x19_1) x23_2).toNat 64)) = ji36 := hji36
                                        have hji36z : (rd (rd_L1 l0 x19_1) x23_2) ≤ 64 → (IntKind.i64.wrap (1 * 2 ^ (rd (rd_L1 l0 x19_1) x23_2).toNat)) = ji36 := shl_small hji36
                                        have hji36u : (IntKind.i64.wrap (2 ^ min (rd (rd_L1 l0 x19_1) x23_2).toNat 64)) = ji36 := by have h_ := hji36_; rw [Int.one_mul] at h_; exact h_
                                        have hji36v : (rd (rd_L1 l0 x19_1) x23_2) ≤ 64 → (IntKind.i64.wrap (2 ^ (rd (rd_L1 l0 x19_1) x23_2).toNat)) = ji36 := fun hle_ => by have h_ := hji36z hle_; rw [Int.one_mul] at h_; exact h_
                                        have hji36y : (wrap64 (1 * 2 ^ min (rd (rd_L1 l0 x19_1) x23_2).toNat 64)) = ji36 := (i64_w _).symm.trans hji36_
                                        have hji36x : (rd (rd_L1 l0 x19_1) x23_2) ≤ 64 → (wrap64 (1 * 2 ^ (rd (rd_L1 l0 x19_1) x23_2).toNat)) = ji36 := fun h_ => (i64_w _).symm.trans (hji36z h_)
                                        have H' := Aside0.mk H
                                        clear H
                                        have p375 : 0 ≤ (x19_1 : Int) := of_decide_eq_true (by first | (with_reducible assumption) | assumption)
                                        have q375 : x19_1 < (l0.length : Int) := of_decide_eq_true (by first | (with_reducible assumption) | assumption)
                                        obtain ⟨ad375, A375_0, c375_0, e375, hx375_0, hl375_0, hi375_0⟩ := at_L1 HR0.out x19_1 p375 q375
                                        cases e375
                                        replace hx375_0 := (HB.out.cell (World.block_lt_of_cell? w _ hx375_0)).trans hx375_0
                                        have HR375_0 := Aside0.mk hi375_0
                                        have HC375_0 := Aside0.mk hl375_0
                                        clear hi375_0 hl375_0
                                        replace p375 := eq_true p375
                                        replace q375 := eq_true q375
                                        have p376 : 0 ≤ (x23_2 : Int) := of_decide_eq_true (by first | (with_reducible assumption) | assumption)
                                        have q376 : x23_2 < ((rd_L1 l0 x19_1).length : Int) := of_decide_eq_true (by first | (with_reducible assumption) | assumption)
                                        obtain ⟨ad376, e376, hx376_0⟩ := Kd.at_int HR375_0.out x23_2 p376 q376
                                        cases e376
                                        replace hx376_0 := (HB.out.cell (World.block_lt_of_cell? w _ hx376_0)).trans hx376_0
                                        replace p376 := eq_true p376
                                        replace q376 := eq_true q376
                                        go_wp2_with (first | ((with_reducible refine gate_callee (f := 67) rfl ?_); refine goesL_ (some 38) rfl rfl Try.func67 (by kernel_rfl) rfl #[.int .i64 (rd (rd_L1 l0 x19_1) x23_2), .int .i64 0, .int .i64 (wrap64 ((wrap64 (t372 * t373)) - 1))] rfl (by (try simp only [List.map_toArray, List.map_cons, List.map_nil]); first | done | rfl | (simp only [List.length_drop, List.length_take]; rfl)) ?_; (with_reducible refine (impl_within.calls (rd (rd_L1 l0 x19_1) x23_2) 0 (wrap64 ((wrap64 (t372 * t373)) - 1)) true _ A11.out).mono ?_); rintro e w' ⟨rfl, ⟨nd, rfl⟩⟩; refine ⟨_, rfl, ?_⟩) | (go_at_call 92; (with_reducible refine (impl_has.calls x6_2 (rd (rd_L1 l0 x19_1) x23_2) false _ A13.out).mono ?_); rintro e w' ⟨rfl, ⟨nd, rfl⟩⟩; have p383 : 0 ≤ (x19_1 : Int) := of_decide_eq_true (by first | (with_reducible assumption) | assumption); have q383 : x19_1 < (l0.length : Int) := of_decide_eq_true (by first | (with_reducible assumption) | assumption); obtain ⟨ad383, A383_0, c383_0, e383, hx383_0, hl383_0, hi383_0⟩ := at_L1 HR0.out x19_1 p383 q383; obtain rfl : ad375 = ad383 := (by injection e383); replace hx383_0 := (HB.out.cell (World.block_lt_of_cell? w _ hx383_0)).trans hx383_0; have HR383_0 := Aside0.mk hi383_0; have HC383_0 := Aside0.mk hl383_0; clear hi383_0 hl383_0; replace p383 := eq_true p383; replace q383 := eq_true q383; have ea_ := Option.some.inj (hx375_0.symm.trans hx383_0); injection ea_ with ea_ en_ ec_; subst ea_; subst ec_; clear en_; have p384 : 0 ≤ ((ji31) : Int) := of_decide_eq_true (by first | (with_reducible assumption) | assumption); have q384 : (ji31) < ((rd_L1 l0 x19_1).length : Int) := of_decide_eq_true (by first | (with_reducible assumption) | assumption); obtain ⟨ad384, e384, hx384_0⟩ := Kd.at_int HR383_0.out (ji31) p384 q384; cases e384; replace hx384_0 := (HB.out.cell (World.block_lt_of_cell? w _ hx384_0)).trans hx384_0; replace p384 := eq_true p384; replace q384 := eq_true q384))
                                        go_roundg k2
                                        case measure => have := HK1.out; have := HK2.out; omega
                                        case rel => exact ⟨(Go.bits .or .i64 x6_2 (ji36)), (wrap64 (x23_2 + 1)), (by first | rfl | (simp; done) | (simp only [← hji36] <;> (first | rfl | simp)) | (simp [*]; done)), (by first | rfl | (simp; done) | (simp [*]; done)), H', ⟨by have := HK1.out; have := HK2.out; omega⟩, ⟨by repeat (first | (with_reducible first | exact HB.out | apply below_alloc | apply pw_below_drewN | apply below_drew1) | exact HB.out)⟩⟩
                                      · rw [if_neg c35] at H
                                        exact absurd H (by simp)
                                  · rw [if_neg c33] at H
                                    exact absurd H (by simp)
                                · rw [if_neg c32] at H
                                  exact absurd H (by simp)
                              · rw [if_neg c30] at H
                                have c30b0 : decide (0 < x23_2) = false := decide_eq_false c30
                                clear c30
                                by_cases c37 : 0 ≤ (rd (rd_L1 l0 x19_1) x23_2)
                                · rw [if_pos c37] at H
                                  have c37b0 := eq_true c37
                                  have c37b1 : decide (0 ≤ (rd (rd_L1 l0 x19_1) x23_2)) = true := decide_eq_true c37
                                  clear c37
                                  obtain ⟨ji38, hji38⟩ : ∃ j_ : Int, (shl .i64 1 (rd (rd_L1 l0 x19_1) x23_2)) = j_ := ⟨_, rfl⟩
                                  replace H : (impl_IsTableau.l1 k2 l0 t372 t373 (Go.bits .or .i64 x6_2 (ji38)) x19_1 t372 x19_1 t373 (wrap64 (x23_2 + 1))) = some r := by first | (rw [hji38] at H; exact H) | (simp only [hji38] at H ⊢; exact H)
                                  (try rw [hji38] at A11)
                                  (try rw [hji38] at A13)
                                  have hji38_ : (IntKind.i64.wrap (1 * 2 ^ min (rd (rd_L1 l0 x19_1) x23_2).toNat 64)) = ji38 := hji38
                                  have hji38z : (rd (rd_L1 l0 x19_1) x23_2) ≤ 64 → (IntKind.i64.wrap (1 * 2 ^ (rd (rd_L1 l0 x19_1) x23_2).toNat)) = ji38 := shl_small hji38
                                  have hji38u : (IntKind.i64.wrap (2 ^ min (rd (rd_L1 l0 x19_1) x23_2).toNat 64)) = ji38 := by have h_ := hji38_; rw [Int.one_mul] at h_; exact h_
                                  have hji38v : (rd (rd_L1 l0 x19_1) x23_2) ≤ 64 → (IntKind.i64.wrap (2 ^ (rd (rd_L1 l0 x19_1) x23_2).toNat)) = ji38 := fun hle_ => by have h_ := hji38z hle_; rw [Int.one_mul] at h_; exact h_
                                  have hji38y : (wrap64 (1 * 2 ^ min (rd (rd_L1 l0 x19_1) x23_2).toNat 64)) = ji38 := (i64_w _).symm.trans hji38_
                                  have hji38x : (rd (rd_L1 l0 x19_1) x23_2) ≤ 64 → (wrap64 (1 * 2 ^ (rd (rd_L1 l0 x19_1) x23_2).toNat)) = ji38 := fun h_ => (i64_w _).symm.trans (hji38z h_)
                                  have H' := Aside0.mk H
                                  clear H
                                  have p375 : 0 ≤ (x19_1 : Int) := of_decide_eq_true (by first | (with_reducible assumption) | assumption)
                                  have q375 : x19_1 < (l0.length : Int) := of_decide_eq_true (by first | (with_reducible assumption) | assumption)
                                  obtain ⟨ad375, A375_0, c375_0, e375, hx375_0, hl375_0, hi375_0⟩ := at_L1 HR0.out x19_1 p375 q375
                                  cases e375
                                  replace hx375_0 := (HB.out.cell (World.block_lt_of_cell? w _ hx375_0)).trans hx375_0
                                  have HR375_0 := Aside0.mk hi375_0
                                  have HC375_0 := Aside0.mk hl375_0
                                  clear hi375_0 hl375_0
                                  replace p375 := eq_true p375
                                  replace q375 := eq_true q375
                                  have p376 : 0 ≤ (x23_2 : Int) := of_decide_eq_true (by first | (with_reducible assumption) | assumption)
                                  have q376 : x23_2 < ((rd_L1 l0 x19_1).length : Int) := of_decide_eq_true (by first | (with_reducible assumption) | assumption)
                                  obtain ⟨ad376, e376, hx376_0⟩ := Kd.at_int HR375_0.out x23_2 p376 q376
                                  cases e376
                                  replace hx376_0 := (HB.out.cell (World.block_lt_of_cell? w _ hx376_0)).trans hx376_0
                                  replace p376 := eq_true p376
                                  replace q376 := eq_true q376
                                  go_wp2_with (first | ((with_reducible refine gate_callee (f := 67) rfl ?_); refine goesL_ (some 38) rfl rfl Try.func67 (by kernel_rfl) rfl #[.int .i64 (rd (rd_L1 l0 x19_1) x23_2), .int .i64 0, .int .i64 (wrap64 ((wrap64 (t372 * t373)) - 1))] rfl (by (try simp only [List.map_toArray, List.map_cons, List.map_nil]); first | done | rfl | (simp only [List.length_drop, List.length_take]; rfl)) ?_; (with_reducible refine (impl_within.calls (rd (rd_L1 l0 x19_1) x23_2) 0 (wrap64 ((wrap64 (t372 * t373)) - 1)) true _ A11.out).mono ?_); rintro e w' ⟨rfl, ⟨nd, rfl⟩⟩; refine ⟨_, rfl, ?_⟩) | (go_at_call 92; (with_reducible refine (impl_has.calls x6_2 (rd (rd_L1 l0 x19_1) x23_2) false _ A13.out).mono ?_); rintro e w' ⟨rfl, ⟨nd, rfl⟩⟩))
                                  go_roundg k2
                                  case measure => have := HK1.out; have := HK2.out; omega
                                  case rel => exact ⟨(Go.bits .or .i64 x6_2 (ji38)), (wrap64 (x23_2 + 1)), (by first | rfl | (simp; done) | (simp only [← hji38] <;> (first | rfl | simp)) | (simp [*]; done)), (by first | rfl | (simp; done) | (simp [*]; done)), H', ⟨by have := HK1.out; have := HK2.out; omega⟩, ⟨by repeat (first | (with_reducible first | exact HB.out | apply below_alloc | apply pw_below_drewN | apply below_drew1) | exact HB.out)⟩⟩
                                · rw [if_neg c37] at H
                                  exact absurd H (by simp)
                        · replace c12 := Bool.eq_false_iff.mpr c12
                          subst c12
                          have H1 : (some false) = some r := by rw [if_neg (show ¬ (false = true) by decide)] at H; exact H
                          clear H
                          have H := H1
                          clear H1
                          obtain rfl := Option.some.inj H
                          have p375 : 0 ≤ (x19_1 : Int) := of_decide_eq_true (by first | (with_reducible assumption) | assumption)
                          have q375 : x19_1 < (l0.length : Int) := of_decide_eq_true (by first | (with_reducible assumption) | assumption)
                          obtain ⟨ad375, A375_0, c375_0, e375, hx375_0, hl375_0, hi375_0⟩ := at_L1 HR0.out x19_1 p375 q375
                          cases e375
                          replace hx375_0 := (HB.out.cell (World.block_lt_of_cell? w _ hx375_0)).trans hx375_0
                          have HR375_0 := Aside0.mk hi375_0
                          have HC375_0 := Aside0.mk hl375_0
                          clear hi375_0 hl375_0
                          replace p375 := eq_true p375
                          replace q375 := eq_true q375
                          have p376 : 0 ≤ (x23_2 : Int) := of_decide_eq_true (by first | (with_reducible assumption) | assumption)
                          have q376 : x23_2 < ((rd_L1 l0 x19_1).length : Int) := of_decide_eq_true (by first | (with_reducible assumption) | assumption)
                          obtain ⟨ad376, e376, hx376_0⟩ := Kd.at_int HR375_0.out x23_2 p376 q376
                          cases e376
                          replace hx376_0 := (HB.out.cell (World.block_lt_of_cell? w _ hx376_0)).trans hx376_0
                          replace p376 := eq_true p376
                          replace q376 := eq_true q376
                          go_wp2_with (first | ((with_reducible refine gate_callee (f := 67) rfl ?_); refine goesL_ (some 38) rfl rfl Try.func67 (by kernel_rfl) rfl #[.int .i64 (rd (rd_L1 l0 x19_1) x23_2), .int .i64 0, .int .i64 (wrap64 ((wrap64 (t372 * t373)) - 1))] rfl (by (try simp only [List.map_toArray, List.map_cons, List.map_nil]); first | done | rfl | (simp only [List.length_drop, List.length_take]; rfl)) ?_; (with_reducible refine (impl_within.calls (rd (rd_L1 l0 x19_1) x23_2) 0 (wrap64 ((wrap64 (t372 * t373)) - 1)) false _ A11.out).mono ?_); rintro e w' ⟨rfl, ⟨nd, rfl⟩⟩; refine ⟨_, rfl, ?_⟩))
                          go_ret
                          exact ⟨by first | rfl | (simp [errW_none, errW_some] <;> rfl) | (simp [*, errW_none, errW_some] <;> rfl), by repeat (first | (with_reducible first | exact HB.out | apply below_alloc | apply pw_below_drewN | apply below_drew1) | exact HB.out)⟩
                      · rw [if_neg c10] at H
                        exact absurd H (by simp)
                    · rw [if_neg c9] at H
                      exact absurd H (by simp)
                  · rw [if_neg c8] at H
                    exact absurd H (by simp)
                · rw [if_neg c7] at H
                  exact absurd H (by simp)
              · rw [if_neg c6] at H
                have c6b0 : decide (x23_2 < t373) = false := decide_eq_false c6
                clear c6
                have H' := Aside0.mk H
                clear H
                go_wp2
                go_roundg k2
                case measure => have := HK1.out; have := HK2.out; omega
                case rel => exact ⟨(x6_2), (wrap64 (x19_1 + 1)), (by first | rfl | (simp; done) | (simp [*]; done)), (by first | rfl | (simp; done) | (simp [*]; done)), H', ⟨by have := HK1.out; have := HK2.out; omega⟩, ⟨by repeat (first | (with_reducible first | exact HB.out | apply below_alloc | apply pw_below_drewN | apply below_drew1) | exact HB.out)⟩⟩
        · rw [if_neg c5] at H
          have c5b0 : decide (x19_1 < t372) = false := decide_eq_false c5
          clear c5
          obtain rfl := Option.some.inj H
          go_wp2
          go_ret
          exact ⟨by first | rfl | (simp [errW_none, errW_some] <;> rfl) | (simp [*, errW_none, errW_some] <;> rfl), by repeat (first | (with_reducible first | exact HB.out | apply below_alloc | apply pw_below_drewN | apply below_drew1) | exact HB.out)⟩
  · replace c3 := Bool.eq_false_iff.mpr c3
    subst c3
    have H1 : (some false) = some r := by rw [if_neg (show ¬ (false = true) by decide)] at H; exact H
    clear H
    have H := H1
    clear H1
    obtain rfl := Option.some.inj H
    go_enter Try.func68, Try.ntmps68
    go_wp2_with (first | ((with_reducible refine gate_callee (f := 91) rfl ?_); refine goesL_ (some 12) rfl rfl Try.func91 (by kernel_rfl) rfl #[.slice A0 l0.length c0] rfl (by (try simp only [List.map_toArray, List.map_cons, List.map_nil]); first | done | rfl | (simp only [List.length_drop, List.length_take]; rfl)) ?_; (with_reducible refine (impl_sidesOf.calls _ _ l0 t372 t373 false _ ?side1 ?side2 A2.out).mono ?_); (case side1 => repeat (first | exact HR0.out | (with_reducible refine Kd.C_alloc ?_ _) | (with_reducible refine Kd.C_drewN ?_ _) | (with_reducible refine Kd.C_drew ?_))); (case side2 => exact HC0.out); rintro e w39 ⟨rfl, hb⟩; refine ⟨_, rfl, ?_⟩; have n0_ := Aside0.mk (below_step (by repeat (first | (with_reducible first | exact HB.out | apply below_alloc | apply pw_below_drewN | apply below_drew1) | exact HB.out)) hb); clear HB; have HB := n0_; clear n0_; (try clear hb); (try clear hb2); (try clear hk); (try clear hi)))
    go_ret
    exact ⟨by first | rfl | (simp [errW_none, errW_some] <;> rfl) | (simp [*, errW_none, errW_some] <;> rfl), by repeat (first | (with_reducible first | exact HB.out | apply below_alloc | apply pw_below_drewN | apply below_drew1) | exact HB.out)⟩

end Go.Proofs.Ytfahkoimleiknaa.F
end

section
namespace Go.Proofs.Ytfahkoimleiknaa.Q
open Go.RowKit Go.Proofs.YtfahkoimleiknaaW.PrintWords Go.Proofs.Ytfahkoimleiknaa.F
set_option linter.unusedVariables false
def row (rows : List (List Int)) (r : Nat) : List Int := rows.getD r []
theorem rdRow (rows : List (List Int)) (r : Nat) : rd_L1 rows (r : Int) = row rows r := by unfold rd_L1 row; rw [Int.toNat_natCast]
/-- The cells in the order of reading. -/
def Y (rows : List (List Int)) (b t : Nat) : Int := (row rows (t / b)).getD (t % b) 0
def CellOK (rows : List (List Int)) (b n s : Nat) : Prop :=
  (0 ≤ Y rows b s ∧ Y rows b s < (n : Int)) ∧ (0 < s % b → Y rows b (s - 1) < Y rows b s) ∧ (b ≤ s → Y rows b (s - b) < Y rows b s) ∧ ∀ u, u < s → Y rows b u ≠ Y rows b s
instance (rows : List (List Int)) (b n s : Nat) : Decidable (CellOK rows b n s) := by unfold CellOK; exact inferInstance
def cellB (rows : List (List Int)) (b n s : Nat) : Bool := decide (CellOK rows b n s)
/-- The numbers of the cells before t, as a set. -/
def seen (rows : List (List Int)) (b : Nat) : Nat → Nat
  | 0 => 0
  | t + 1 => seen rows b t ||| 2 ^ (Y rows b t).toNat
theorem seen_bit (rows : List (List Int)) (b t k : Nat) : (seen rows b t).testBit k = true ↔ ∃ s, s < t ∧ (Y rows b s).toNat = k := by
  induction t with
  | zero => simp [seen]
  | succ t ih =>
    unfold seen
    rw [Nat.testBit_or, Bool.or_eq_true, ih, pow_bit, decide_eq_true_eq]
    constructor
    · rintro (⟨s, hs, e⟩ | e)
      · exact ⟨s, by omega, e⟩
      · exact ⟨t, by omega, e⟩
    · rintro ⟨s, hs, e⟩
      rcases Nat.lt_succ_iff_lt_or_eq.1 hs with h | h
      · exact .inl ⟨s, h, e⟩
      · subst h; exact .inr e
theorem seen_lt {rows : List (List Int)} {b n t : Nat} (h : ∀ s, s < t → CellOK rows b n s) (hn : n ≤ 10) : seen rows b t < 2 ^ 10 := by
  apply Nat.lt_pow_two_of_testBit
  intro i hi
  rw [← Bool.not_eq_true, seen_bit]
  rintro ⟨s, hs, e⟩
  have := (h s hs).1
  omega
theorem seen_new {rows : List (List Int)} {b n t : Nat} (h : ∀ s, s < t → CellOK rows b n s) {x : Int} (hx : 0 ≤ x) : (seen rows b t).testBit x.toNat = true ↔ ∃ u, u < t ∧ Y rows b u = x := by
  rw [seen_bit]
  constructor
  · rintro ⟨s, hs, e⟩; exact ⟨s, hs, by have := (h s hs).1; omega⟩
  · rintro ⟨s, hs, e⟩; exact ⟨s, hs, by rw [e]⟩
theorem seen_step {rows : List (List Int)} {b n t : Nat} (h : ∀ s, s < t → CellOK rows b n s) (hn : n ≤ 10) (hv : 0 ≤ Y rows b t ∧ Y rows b t < (n : Int)) :
    Go.bits .or .i64 ((seen rows b t : Nat) : Int) (shl .i64 1 (Y rows b t)) = ((seen rows b (t + 1) : Nat) : Int) := by
  obtain ⟨x, hx⟩ := Int.eq_ofNat_of_zero_le hv.1
  rw [hx, shlN (by omega), bits_orN (lt_pow (seen_lt h hn) (by omega)) (Nat.pow_lt_pow_right (by decide) (by omega))]
  simp only [seen, hx, Int.toNat_natCast]
def cols (rows : List (List Int)) : Nat := (rows.headD []).length
def shapeOk (rows : List (List Int)) : Bool := decide (1 ≤ rows.length ∧ rows.length ≤ 10 ∧ 1 ≤ cols rows ∧ cols rows ≤ 10 ∧ rows.length * cols rows ≤ 10)
def lensOk (rows : List (List Int)) : Bool := allFrom (fun r => decide ((row rows r).length = cols rows)) rows.length 0
def isTab (rows : List (List Int)) : Bool := shapeOk rows && (lensOk rows && allFrom (cellB rows (cols rows) (rows.length * cols rows)) (rows.length * cols rows) 0)
theorem Y_at (rows : List (List Int)) {b r c : Nat} (hc : c < b) : Y rows b (r * b + c) = (row rows r).getD c 0 := by
  have hb : 0 < b := by omega
  have e1 : (r * b + c) / b = r := by rw [Nat.add_comm, Nat.add_mul_div_right _ _ hb, Nat.div_eq_of_lt hc, Nat.zero_add]
  have e2 : (r * b + c) % b = c := by rw [Nat.add_comm, Nat.add_mul_mod_self_right, Nat.mod_eq_of_lt hc]
  unfold Y; rw [e1, e2]
theorem mod_at {b r c : Nat} (hc : c < b) : (r * b + c) % b = c := by rw [Nat.add_comm, Nat.add_mul_mod_self_right, Nat.mod_eq_of_lt hc]
theorem cell_iff (rows : List (List Int)) {b n r c : Nat} (hc : c < b) : CellOK rows b n (r * b + c) ↔
    ((0 ≤ (row rows r).getD c 0 ∧ (row rows r).getD c 0 < (n : Int)) ∧ (0 < c → (row rows r).getD (c - 1) 0 < (row rows r).getD c 0) ∧ (0 < r → (row rows (r - 1)).getD c 0 < (row rows r).getD c 0) ∧ ∀ u, u < r * b + c → Y rows b u ≠ (row rows r).getD c 0) := by
  unfold CellOK
  rw [mod_at hc, Y_at rows hc]
  have h1 : 0 < c → Y rows b (r * b + c - 1) = (row rows r).getD (c - 1) 0 := fun h => by
    rw [show r * b + c - 1 = r * b + (c - 1) by omega, Y_at rows (by omega)]
  have h2 : 0 < r → Y rows b (r * b + c - b) = (row rows (r - 1)).getD c 0 := fun h => by
    obtain ⟨q, rfl⟩ : ∃ q, r = q + 1 := ⟨r - 1, by omega⟩
    rw [show (q + 1) * b + c - b = q * b + c by rw [Nat.add_mul]; omega, Y_at rows hc]; rfl
  have h3 : b ≤ r * b + c ↔ 0 < r := by
    constructor
    · intro h
      rcases Nat.eq_zero_or_pos r with h0 | h0
      · subst h0; omega
      · exact h0
    · intro h
      have := Nat.mul_le_mul_right b (show 1 ≤ r from h)
      omega
  constructor
  · rintro ⟨a, b', c', d⟩
    exact ⟨a, fun h => by rw [← h1 h]; exact b' h, fun h => by rw [← h2 h]; exact c' (h3.2 h), d⟩
  · rintro ⟨a, b', c', d⟩
    exact ⟨a, fun h => by rw [h1 h]; exact b' h, fun h => by rw [h2 (h3.1 h)]; exact c' (h3.1 h), d⟩
theorem prod_wrap {a b : Nat} (h : a * b ≤ 10) : wrap64 ((a : Int) * (b : Int)) = ((a * b : Nat) : Int) := by
  have : (a : Int) * (b : Int) = ((a * b : Nat) : Int) := by push_cast; rfl
  rw [this]; exact wid (by omega) (by omega)
theorem idx_lt {a b r c : Nat} (hr : r < a) (hc : c < b) : r * b + c < a * b := by
  have := Nat.mul_le_mul_right b (show r + 1 ≤ a from hr)
  rw [Nat.add_mul] at this; omega
theorem IsTableau_ev (rows : List (List Int)) : Ev (fun k => impl_IsTableau.f k rows) (isTab rows) := by
  unfold impl_IsTableau.f
  have hb0 : impl_sidesOf.b rows = ((cols rows : Nat) : Int) := rfl
  by_cases h0 : rows.length = 0 ∨ 10 < rows.length
  · refine Ev.call (show impl_sidesOf.f rows = some (0, 0, false) by unfold impl_sidesOf.f; rw [if_pos h0]) (Ev.no (by simp) (Ev.ret ?_))
    unfold isTab
    rw [show shapeOk rows = false by unfold shapeOk; exact decide_eq_false (by omega)]; rfl
  have hs : (impl_areSides.f (rows.length : Int) (impl_sidesOf.b rows) 10 == some true) = shapeOk rows := by
    rw [hb0]
    unfold impl_areSides.f
    simp only [within_eq, Option.bind_some]
    rw [range_true (show (1 : Int) ≤ (rows.length : Int) ∧ (rows.length : Int) ≤ 10 by omega), if_pos rfl]
    by_cases hc : 1 ≤ cols rows ∧ cols rows ≤ 10
    · rw [range_true (show (1 : Int) ≤ ((cols rows : Nat) : Int) ∧ ((cols rows : Nat) : Int) ≤ 10 by omega), if_pos rfl]
      have hm : rows.length * cols rows ≤ 100 := Nat.mul_le_mul (show rows.length ≤ 10 by omega) hc.2
      have ew : wrap64 ((rows.length : Int) * ((cols rows : Nat) : Int)) = ((rows.length * cols rows : Nat) : Int) := by
        have : (rows.length : Int) * ((cols rows : Nat) : Int) = ((rows.length * cols rows : Nat) : Int) := by push_cast; rfl
        rw [this]; exact wid (by omega) (by omega)
      rw [ew]
      unfold shapeOk
      by_cases h : rows.length * cols rows ≤ 10
      · rw [decide_eq_true (show ((rows.length * cols rows : Nat) : Int) ≤ 10 by omega), decide_eq_true (by omega)]; rfl
      · rw [decide_eq_false (show ¬ ((rows.length * cols rows : Nat) : Int) ≤ 10 by omega), decide_eq_false (by omega)]; rfl
    · rw [range_false (show ¬ ((1 : Int) ≤ ((cols rows : Nat) : Int) ∧ ((cols rows : Nat) : Int) ≤ 10) by omega), if_neg (by simp)]
      unfold shapeOk
      rw [decide_eq_false (by omega)]; rfl
  have hl : (!(rows.any fun x => ((x.length : Int) != impl_sidesOf.b rows))) = lensOk rows := by
    rw [hb0, Bool.eq_iff_iff, Bool.not_eq_true', ← Bool.not_eq_true, List.any_eq_true]
    unfold lensOk
    rw [allFrom_iff]
    constructor
    · intro h r _ hr
      rw [decide_eq_true_eq]
      rcases Nat.decEq (row rows r).length (cols rows) with hne | he
      · refine absurd ⟨rows[r], List.getElem_mem hr, ?_⟩ h
        have : row rows r = rows[r] := by unfold row; rw [List.getD_eq_getElem?_getD, List.getElem?_eq_getElem hr]; rfl
        rw [this] at hne
        rw [bne_iff_ne]; omega
      · exact he
    · rintro h ⟨x, hx, hne⟩
      obtain ⟨r, hr, rfl⟩ := List.getElem_of_mem hx
      have := h r (Nat.zero_le _) hr
      rw [decide_eq_true_eq] at this
      have e : row rows r = rows[r] := by unfold row; rw [List.getD_eq_getElem?_getD, List.getElem?_eq_getElem hr]; rfl
      rw [e] at this
      rw [bne_iff_ne] at hne
      omega
  refine Ev.call (show impl_sidesOf.f rows = some ((rows.length : Int), ((cols rows : Nat) : Int), shapeOk rows && lensOk rows) by unfold impl_sidesOf.f; rw [if_neg h0, hs, hl]; rfl) ?_
  unfold isTab
  rw [← Bool.and_assoc]
  cases hsl : (shapeOk rows && lensOk rows) with
  | false => exact Ev.no (by simp) (Ev.ret rfl)
  | true =>
  rw [Bool.and_eq_true] at hsl
  obtain ⟨hsh, hle⟩ := hsl
  have hsh' := of_decide_eq_true hsh
  obtain ⟨ha1, ha2, hb1, hb2, hab⟩ := hsh'
  have hlen : ∀ r, r < rows.length → (row rows r).length = cols rows := fun r hr => of_decide_eq_true ((allFrom_iff _ _ _).1 hle r (Nat.zero_le _) hr)
  refine Ev.yes rfl ?_
  rw [Bool.true_and]
  generalize hbb : cols rows = b at *
  generalize haa : rows.length = a at *
  have key : ∀ r, r ≤ a → (∀ s, s < r * b → CellOK rows b (a * b) s) → Ev (fun k => impl_IsTableau.l0 k rows (a : Int) (b : Int) ((seen rows b (r * b) : Nat) : Int) (a : Int) (r : Int)) (allFrom (cellB rows b (a * b)) (a * b) (r * b)) := by
    refine downTo a ?_ ?_
    · intro _
      exact Ev.step (by intro k; simp only [impl_IsTableau.l0]; rfl) (Ev.no (by omega) (Ev.ret (allFrom_end _ _).symm))
    · intro r hr ih hok0
      refine Ev.step (by intro k; simp only [impl_IsTableau.l0]; rfl) (Ev.yes (by omega) ?_)
      have hlr := hlen r hr
      have inner : ∀ c, c ≤ b → (∀ s, s < r * b + c → CellOK rows b (a * b) s) → Ev (fun k => impl_IsTableau.l1 k rows (a : Int) (b : Int) ((seen rows b (r * b + c) : Nat) : Int) (r : Int) (a : Int) (r : Int) (b : Int) (c : Int)) (allFrom (cellB rows b (a * b)) (a * b) (r * b + c)) := by
        refine downTo b ?_ ?_
        · intro hok
          refine Ev.step (by intro k; simp only [impl_IsTableau.l1]; rfl) (Ev.no (by omega) ?_)
          rw [wid1 hr (by omega)]
          have e : r * b + b = (r + 1) * b := by rw [Nat.add_mul]; omega
          rw [e] at hok ⊢
          exact ih hok
        · intro c hc ihc hok
          have hidx := idx_lt hr hc
          refine Ev.step (by intro k; simp only [impl_IsTableau.l1]; rfl) (Ev.yes (by omega) (Ev.yes (by omega) (Ev.yes (by omega) (Ev.yes (by omega) ?_))))
          rw [rdRow, rdN, allFrom_step _ hidx]
          refine Ev.yes (by omega) ?_
          rw [prod_wrap hab, show wrap64 (((a * b : Nat) : Int) - 1) = ((a * b : Nat) : Int) - 1 from wid (by omega) (by omega)]
          refine Ev.call (within_eq _ _ _) ?_
          have hci := cell_iff rows (n := a * b) (r := r) hc
          generalize hx : (row rows r).getD c 0 = x at *
          have fail : ¬ CellOK rows b (a * b) (r * b + c) → false = (cellB rows b (a * b) (r * b + c) && allFrom (cellB rows b (a * b)) (a * b) (r * b + c + 1)) := fun h => by
            unfold cellB; rw [decide_eq_false h]; rfl
          by_cases hv : 0 ≤ x ∧ x ≤ ((a * b : Nat) : Int) - 1
          rotate_left
          · exact Ev.no (by rw [range_false hv]; simp) (Ev.ret (fail (fun h => by have := (hci.1 h).1; omega)))
          refine Ev.yes (range_true hv) ?_
          obtain ⟨y, hy⟩ := Int.eq_ofNat_of_zero_le hv.1
          have hsl := seen_lt hok hab
          have hnew := seen_new hok (x := x) hv.1
          have hhas : impl_has.f ((seen rows b (r * b + c) : Nat) : Int) x = some ((seen rows b (r * b + c)).testBit x.toNat) := by
            rw [hy, Int.toNat_natCast]; exact has_eq (lt_pow hsl (by omega)) (by omega)
          refine Ev.call hhas ?_
          by_cases hmet : (seen rows b (r * b + c)).testBit x.toNat = true
          · exact Ev.yes hmet (Ev.ret (fail (fun h => by obtain ⟨u, hu, e⟩ := hnew.1 hmet; exact (hci.1 h).2.2.2 u hu e)))
          refine Ev.no hmet ?_
          have hne : ∀ u, u < r * b + c → Y rows b u ≠ x := fun u hu e => hmet (hnew.2 ⟨u, hu, e⟩)
          have hYx : Y rows b (r * b + c) = x := by rw [Y_at rows hc, hx]
          -- the left neighbour, and on
          have left : (0 < r → (row rows (r - 1)).getD c 0 < x) → Ev (fun k => if (c : Int) > 0 then (if 0 ≤ (wrap64 ((c : Int) - 1)) then (if (wrap64 ((c : Int) - 1)) < ((row rows r).length : Int) then (if x ≤ (rd (row rows r) (wrap64 ((c : Int) - 1))) then (some false) else (if 0 ≤ x then (impl_IsTableau.l1 k rows (a : Int) (b : Int) (Go.bits .or .i64 ((seen rows b (r * b + c) : Nat) : Int) (shl .i64 1 x)) (r : Int) (a : Int) (r : Int) (b : Int) (wrap64 ((c : Int) + 1))) else (none))) else (none)) else (none)) else (if 0 ≤ x then (impl_IsTableau.l1 k rows (a : Int) (b : Int) (Go.bits .or .i64 ((seen rows b (r * b + c) : Nat) : Int) (shl .i64 1 x)) (r : Int) (a : Int) (r : Int) (b : Int) (wrap64 ((c : Int) + 1))) else (none)))
              (cellB rows b (a * b) (r * b + c) && allFrom (cellB rows b (a * b)) (a * b) (r * b + c + 1)) := by
            intro hup
            have goOn : (0 < c → (row rows r).getD (c - 1) 0 < x) → Ev (fun k => if 0 ≤ x then (impl_IsTableau.l1 k rows (a : Int) (b : Int) (Go.bits .or .i64 ((seen rows b (r * b + c) : Nat) : Int) (shl .i64 1 x)) (r : Int) (a : Int) (r : Int) (b : Int) (wrap64 ((c : Int) + 1))) else (none)) (cellB rows b (a * b) (r * b + c) && allFrom (cellB rows b (a * b)) (a * b) (r * b + c + 1)) := by
              intro hleft
              have hcell : CellOK rows b (a * b) (r * b + c) := hci.2 ⟨⟨hv.1, by omega⟩, hleft, hup, hne⟩
              refine Ev.yes hv.1 ?_
              have hst := seen_step hok hab (by rw [hYx]; omega : 0 ≤ Y rows b (r * b + c) ∧ Y rows b (r * b + c) < ((a * b : Nat) : Int))
              rw [hYx] at hst
              rw [hst, wid1 hc (by omega)]
              refine evc (ihc ?_) ?_
              · intro s hs
                rcases Nat.lt_succ_iff_lt_or_eq.1 (show s < r * b + c + 1 by omega) with h | h
                · exact hok s h
                · rw [h]; exact hcell
              · unfold cellB; rw [decide_eq_true hcell, Bool.true_and]; rfl
            by_cases h0c : c = 0
            · exact Ev.no (by omega) (goOn (fun h => by omega))
            · have ew : wrap64 ((c : Int) - 1) = ((c - 1 : Nat) : Int) := by rw [wid (by omega) (by omega)]; omega
              rw [ew]
              refine Ev.yes (by omega) (Ev.yes (by omega) (Ev.yes (by omega) ?_))
              rw [rdN]
              refine Ev.ite (fun h => Ev.ret (fail (fun hc' => ?_))) (fun h => goOn (fun _ => by omega))
              have := (hci.1 hc').2.1 (by omega)
              omega
          by_cases h0r : r = 0
          · exact Ev.no (by omega) (left (fun h => by omega))
          · have ew : wrap64 ((r : Int) - 1) = ((r - 1 : Nat) : Int) := by rw [wid (by omega) (by omega)]; omega
            rw [ew, rdRow]
            have hlu := hlen (r - 1) (by omega)
            refine Ev.yes (by omega) (Ev.yes (by omega) (Ev.yes (by omega) (Ev.yes (by omega) ?_)))
            rw [rdN]
            refine Ev.ite (fun h => Ev.ret (fail (fun hc' => ?_))) (fun h => left (fun _ => by omega))
            have := (hci.1 hc').2.2.1 (by omega)
            omega
      exact inner 0 (by omega) hok0
  have fin := key 0 (Nat.zero_le _) (fun s hs => by rw [Nat.zero_mul] at hs; omega)
  rw [Nat.zero_mul] at fin
  exact fin
theorem shSides_eq (a b : Int) : spec_shSides.f a b = impl_areSides.f a b 10 := rfl
theorem areSides_nat (a b : Nat) (ha : a ≤ 10) : impl_areSides.f (a : Int) (b : Int) 10 = some (decide (1 ≤ a ∧ 1 ≤ b ∧ b ≤ 10 ∧ a * b ≤ 10)) := by
  unfold impl_areSides.f
  simp only [within_eq, Option.bind_some]
  by_cases h1 : 1 ≤ a
  · rw [range_true (show (1 : Int) ≤ (a : Int) ∧ (a : Int) ≤ 10 by omega), if_pos rfl]
    by_cases hc : 1 ≤ b ∧ b ≤ 10
    · rw [range_true (show (1 : Int) ≤ (b : Int) ∧ (b : Int) ≤ 10 by omega), if_pos rfl]
      have hm : a * b ≤ 100 := Nat.mul_le_mul ha hc.2
      have ew : wrap64 ((a : Int) * (b : Int)) = ((a * b : Nat) : Int) := by
        have : (a : Int) * (b : Int) = ((a * b : Nat) : Int) := by push_cast; rfl
        rw [this]; exact wid (by omega) (by omega)
      rw [ew]
      by_cases h : a * b ≤ 10
      · rw [decide_eq_true (show ((a * b : Nat) : Int) ≤ 10 by omega), decide_eq_true (by omega)]
      · rw [decide_eq_false (show ¬ ((a * b : Nat) : Int) ≤ 10 by omega), decide_eq_false (by omega)]
    · rw [range_false (show ¬ ((1 : Int) ≤ (b : Int) ∧ (b : Int) ≤ 10) by omega), if_neg (by simp), decide_eq_false (by omega)]
  · rw [range_false (show ¬ ((1 : Int) ≤ (a : Int) ∧ (a : Int) ≤ 10) by omega), if_neg (by simp), decide_eq_false (by omega)]
theorem shGood_ev (rows : List (List Int)) : Ev (fun k => spec_shGood.f k rows) (isTab rows) := by
  have stop : ∀ b : Bool, b = true → Ev (fun k => spec_shGood.j0 k rows b) false := fun b hb => Ev.step (by intro k; simp only [spec_shGood.j0]; rfl) (Ev.yes hb (Ev.ret rfl))
  have shf : shapeOk rows = false → false = isTab rows := fun h => by unfold isTab; rw [h]; rfl
  unfold spec_shGood.f
  by_cases h0 : rows.length = 0
  · exact Ev.yes (by omega) (evc (stop true rfl) (shf (by unfold shapeOk; exact decide_eq_false (by omega))))
  refine Ev.no (by omega) ?_
  by_cases h10 : 10 < rows.length
  · exact Ev.yes (by omega) (evc (stop true rfl) (shf (by unfold shapeOk; exact decide_eq_false (by omega))))
  refine Ev.no (by omega) (Ev.yes (by omega) ?_)
  have hrow0 : rd_L1 rows 0 = row rows 0 := rdRow rows 0
  have hcols : (row rows 0).length = cols rows := by
    unfold row cols
    cases rows with
    | nil => rfl
    | cons x l => rfl
  rw [hrow0, hcols, shSides_eq]
  refine Ev.call (areSides_nat rows.length (cols rows) (by omega)) ?_
  cases hsh : shapeOk rows with
  | false =>
    have : decide (1 ≤ rows.length ∧ 1 ≤ cols rows ∧ cols rows ≤ 10 ∧ rows.length * cols rows ≤ 10) = false := decide_eq_false (fun h => by
      unfold shapeOk at hsh; rw [decide_eq_true (by omega)] at hsh; cases hsh)
    rw [this]
    exact evc (stop true rfl) (shf hsh)
  | true =>
  have hsh' := of_decide_eq_true hsh
  obtain ⟨ha1, ha2, hb1, hb2, hab⟩ := hsh'
  rw [decide_eq_true (show (1 ≤ rows.length ∧ 1 ≤ cols rows ∧ cols rows ≤ 10 ∧ rows.length * cols rows ≤ 10) by omega)]
  refine Ev.step (by intro k; simp only [spec_shGood.j0]; rfl) (Ev.no (by simp) ?_)
  have hit : isTab rows = (lensOk rows && allFrom (cellB rows (cols rows) (rows.length * cols rows)) (rows.length * cols rows) 0) := by unfold isTab; rw [hsh]; rfl
  have hbase : (row rows 0).length = cols rows := hcols
  rw [hit]
  unfold lensOk
  generalize hbb : cols rows = b at *
  generalize haa : rows.length = a at *
  have key : ∀ r, r ≤ a → (∀ s, s < r * b → CellOK rows b (a * b) s) → (∀ q, q < r → (row rows q).length = b) → Ev (fun k => spec_shGood.l0 k rows ((seen rows b (r * b) : Nat) : Int) rows (a : Int) (r : Int))
      (allFrom (fun r => decide ((row rows r).length = b)) a r && allFrom (cellB rows b (a * b)) (a * b) (r * b)) := by
    refine downTo a ?_ ?_
    · intro _ _
      exact Ev.step (by intro k; simp only [spec_shGood.l0]; rfl) (Ev.no (by omega) (Ev.ret (by rw [allFrom_end, allFrom_end]; rfl)))
    · intro r hr ih hok0 hlens
      refine Ev.step (by intro k; simp only [spec_shGood.l0]; rfl) (Ev.yes (by omega) (Ev.yes (by omega) (Ev.yes (by omega) (Ev.yes (by omega) ?_))))
      rw [rdRow, hrow0, hbase, haa]
      have stop2 : ∀ bo : Bool, bo = true → (allFrom (fun r => decide ((row rows r).length = b)) a r && allFrom (cellB rows b (a * b)) (a * b) (r * b)) = false →
          Ev (fun k => spec_shGood.j2 k rows ((seen rows b (r * b) : Nat) : Int) (r : Int) (row rows r) rows (a : Int) (r : Int) bo) (allFrom (fun r => decide ((row rows r).length = b)) a r && allFrom (cellB rows b (a * b)) (a * b) (r * b)) :=
        fun bo hb hf => Ev.step (by intro k; simp only [spec_shGood.j2]; rfl) (Ev.yes hb (Ev.ret hf.symm))
      by_cases hlr : (row rows r).length = b
      rotate_left
      · refine Ev.no (by omega) (stop2 true rfl ?_)
        rw [allFrom_step _ hr, decide_eq_false hlr]; rfl
      refine Ev.yes (by omega) ?_
      rw [hlr, prod_wrap hab, show wrap64 (((a * b : Nat) : Int) - 1) = ((a * b : Nat) : Int) - 1 from wid (by omega) (by omega)]
      refine Ev.bind (l1All_ev (row rows r) 0 _ (by omega)) ?_
      rw [hlr]
      cases hin : allFrom (fun i => inR 0 (((a * b : Nat) : Int) - 1) ((row rows r).getD i 0)) b 0 with
      | false =>
        refine stop2 true rfl ?_
        rw [Bool.and_eq_false_iff]
        right
        rw [← Bool.not_eq_true, allFrom_iff]
        intro h
        rw [← Bool.not_eq_true, allFrom_iff] at hin
        refine hin (fun c _ hc => ?_)
        have := of_decide_eq_true (h (r * b + c) (by omega) (idx_lt hr hc))
        have := ((cell_iff rows hc).1 this).1
        rw [inR_iff]; omega
      | true =>
      have hin' : ∀ c, c < b → 0 ≤ (row rows r).getD c 0 ∧ (row rows r).getD c 0 ≤ ((a * b : Nat) : Int) - 1 := fun c hc => inR_iff.1 ((allFrom_iff _ _ _).1 hin c (Nat.zero_le _) hc)
      refine Ev.step (by intro k; simp only [spec_shGood.j2]; rfl) (Ev.no (by simp) ?_)
      rw [allFrom_step (fun r => decide ((row rows r).length = b)) hr, decide_eq_true hlr, Bool.true_and, hlr]
      have inner : ∀ c, c ≤ b → (∀ s, s < r * b + c → CellOK rows b (a * b) s) → Ev (fun k => spec_shGood.l1 k rows ((seen rows b (r * b + c) : Nat) : Int) (r : Int) (row rows r) rows (a : Int) (r : Int) (row rows r) (b : Int) (c : Int))
          (allFrom (fun r => decide ((row rows r).length = b)) a (r + 1) && allFrom (cellB rows b (a * b)) (a * b) (r * b + c)) := by
        refine downTo b ?_ ?_
        · intro hok
          refine Ev.step (by intro k; simp only [spec_shGood.l1]; rfl) (Ev.no (by omega) ?_)
          rw [wid1 hr (by omega)]
          have e : r * b + b = (r + 1) * b := by rw [Nat.add_mul]; omega
          rw [e] at hok ⊢
          exact ih hok (fun q hq => by
            rcases Nat.lt_succ_iff_lt_or_eq.1 hq with h | h
            · exact hlens q h
            · rw [h]; exact hlr)
        · intro c hc ihc hok
          have hidx := idx_lt hr hc
          refine Ev.step (by intro k; simp only [spec_shGood.l1]; rfl) (Ev.yes (by omega) (Ev.yes (by omega) (Ev.yes (by omega) ?_)))
          rw [rdN, allFrom_step _ hidx]
          have hci := cell_iff rows (n := a * b) (r := r) hc
          have hv := hin' c hc
          have hleftv := fun h : 0 < c => hin' (c - 1) (by omega)
          generalize hx : (row rows r).getD c 0 = x at *
          have fail : ¬ CellOK rows b (a * b) (r * b + c) → false = (allFrom (fun r => decide ((row rows r).length = b)) a (r + 1) && (cellB rows b (a * b) (r * b + c) && allFrom (cellB rows b (a * b)) (a * b) (r * b + c + 1))) := fun h => by
            unfold cellB; rw [decide_eq_false h]; simp
          obtain ⟨y, hy⟩ := Int.eq_ofNat_of_zero_le hv.1
          have hsl := seen_lt hok hab
          have hnew := seen_new hok (x := x) hv.1
          have hhas : spec_poIn.f ((seen rows b (r * b + c) : Nat) : Int) x = some ((seen rows b (r * b + c)).testBit x.toNat) := by
            rw [hy, Int.toNat_natCast]; exact poIn_eq (by omega)
          refine Ev.call hhas ?_
          by_cases hmet : (seen rows b (r * b + c)).testBit x.toNat = true
          · exact Ev.yes hmet (Ev.ret (fail (fun h => by obtain ⟨u, hu, e⟩ := hnew.1 hmet; exact (hci.1 h).2.2.2 u hu e)))
          refine Ev.no hmet ?_
          have hne : ∀ u, u < r * b + c → Y rows b u ≠ x := fun u hu e => hmet (hnew.2 ⟨u, hu, e⟩)
          have hYx : Y rows b (r * b + c) = x := by rw [Y_at rows hc, hx]
          have hnl : 0 < c → (row rows r).getD (c - 1) 0 ≠ x := fun h e => hne (r * b + (c - 1)) (by omega) (by rw [Y_at rows (by omega)]; exact e)
          have hnu : 0 < r → (row rows (r - 1)).getD c 0 ≠ x := fun h e => hne ((r - 1) * b + c) (by
            have : (r - 1) * b + b = r * b := by rw [← Nat.succ_mul]; congr 1; omega
            omega) (by rw [Y_at rows hc]; exact e)
          have up : (0 < c → (row rows r).getD (c - 1) 0 < x) → Ev (fun k => if (r : Int) > 0 then (if 0 ≤ (wrap64 ((r : Int) - 1)) then (if (wrap64 ((r : Int) - 1)) < (rows.length : Int) then (if (c : Int) < ((rd_L1 rows (wrap64 ((r : Int) - 1))).length : Int) then (if (rd (rd_L1 rows (wrap64 ((r : Int) - 1))) (c : Int)) > x then (some false) else (if 0 ≤ x then (spec_shGood.l1 k rows (Go.bits .or .i64 ((seen rows b (r * b + c) : Nat) : Int) (shl .i64 1 x)) (r : Int) (row rows r) rows (a : Int) (r : Int) (row rows r) (b : Int) (wrap64 ((c : Int) + 1))) else (none))) else (none)) else (none)) else (none)) else (if 0 ≤ x then (spec_shGood.l1 k rows (Go.bits .or .i64 ((seen rows b (r * b + c) : Nat) : Int) (shl .i64 1 x)) (r : Int) (row rows r) rows (a : Int) (r : Int) (row rows r) (b : Int) (wrap64 ((c : Int) + 1))) else (none)))
              (allFrom (fun r => decide ((row rows r).length = b)) a (r + 1) && (cellB rows b (a * b) (r * b + c) && allFrom (cellB rows b (a * b)) (a * b) (r * b + c + 1))) := by
            intro hleft
            have goOn : (0 < r → (row rows (r - 1)).getD c 0 < x) → Ev (fun k => if 0 ≤ x then (spec_shGood.l1 k rows (Go.bits .or .i64 ((seen rows b (r * b + c) : Nat) : Int) (shl .i64 1 x)) (r : Int) (row rows r) rows (a : Int) (r : Int) (row rows r) (b : Int) (wrap64 ((c : Int) + 1))) else (none))
                (allFrom (fun r => decide ((row rows r).length = b)) a (r + 1) && (cellB rows b (a * b) (r * b + c) && allFrom (cellB rows b (a * b)) (a * b) (r * b + c + 1))) := by
              intro hup
              have hcell : CellOK rows b (a * b) (r * b + c) := hci.2 ⟨⟨hv.1, by omega⟩, hleft, hup, hne⟩
              refine Ev.yes hv.1 ?_
              have hst := seen_step hok hab (by rw [hYx]; omega : 0 ≤ Y rows b (r * b + c) ∧ Y rows b (r * b + c) < ((a * b : Nat) : Int))
              rw [hYx] at hst
              rw [hst, wid1 hc (by omega)]
              refine evc (ihc ?_) ?_
              · intro s hs
                rcases Nat.lt_succ_iff_lt_or_eq.1 (show s < r * b + c + 1 by omega) with h | h
                · exact hok s h
                · rw [h]; exact hcell
              · rw [show cellB rows b (a * b) (r * b + c) = true from decide_eq_true hcell, Bool.true_and]; rfl
            by_cases h0r : r = 0
            · exact Ev.no (by omega) (goOn (fun h => by omega))
            · have ew : wrap64 ((r : Int) - 1) = ((r - 1 : Nat) : Int) := by rw [wid (by omega) (by omega)]; omega
              rw [ew, rdRow]
              have hlu := hlens (r - 1) (by omega)
              have hnu' := hnu (by omega)
              refine Ev.yes (by omega) (Ev.yes (by omega) (Ev.yes (by omega) (Ev.yes (by omega) ?_)))
              rw [rdN]
              refine Ev.ite (fun h => Ev.ret (fail (fun hc' => ?_))) (fun h => goOn (fun _ => by omega))
              have := (hci.1 hc').2.2.1 (by omega)
              omega
          by_cases h0c : c = 0
          · exact Ev.no (by omega) (up (fun h => by omega))
          · have ew : wrap64 ((c : Int) - 1) = ((c - 1 : Nat) : Int) := by rw [wid (by omega) (by omega)]; omega
            rw [ew]
            have hnl' := hnl (by omega)
            refine Ev.yes (by omega) (Ev.yes (by omega) (Ev.yes (by omega) ?_))
            rw [rdN]
            refine Ev.ite (fun h => Ev.ret (fail (fun hc' => ?_))) (fun h => up (fun _ => by omega))
            have := (hci.1 hc').2.1 (by omega)
            omega
      exact inner 0 (by omega) hok0
  have fin := key 0 (Nat.zero_le _) (fun s hs => by rw [Nat.zero_mul] at hs; omega) (fun q hq => by omega)
  rw [Nat.zero_mul] at fin
  exact fin
end Go.Proofs.Ytfahkoimleiknaa.Q
end

section
namespace Go.Proofs.Ytfahkoimleiknaa.Q
open Go.RowKit Go.Proofs.YtfahkoimleiknaaW.PrintWords Go.Proofs.Ytfahkoimleiknaa.F
set_option linter.unusedVariables false
theorem tabof_l1 (k : Nat) : ∀ y0 y1 y2 y3 y4, spec_shRows.l1 k y0 y1 y2 y3 y4 = impl_tableau.l1 k y0 y1 y2 y3 y4 := by
  induction k with
  | zero => exact fun _ _ _ _ _ => by simp only [spec_shRows.l1, impl_tableau.l1]
  | succ k ih => exact fun _ _ _ _ _ => by simp only [spec_shRows.l1, impl_tableau.l1, ih]
theorem tabof_l0 (k : Nat) : ∀ x0 x1 x2 x7 x8, spec_shRows.l0 k x0 x1 x2 x7 x8 = impl_tableau.l0 k x1 x2 x7 x0 x8 := by
  induction k with
  | zero => exact fun _ _ _ _ _ => by simp only [spec_shRows.l0, impl_tableau.l0]
  | succ k ih => exact fun _ _ _ _ _ => by simp only [spec_shRows.l0, impl_tableau.l0, ih, tabof_l1]
theorem tabof_same (k : Nat) (a b : Int) (w : List Int) : spec_shRows.f k a b w = impl_tableau.f k a b w := by
  unfold spec_shRows.f impl_tableau.f
  exact tabof_l0 k _ _ _ _ _
theorem cell_div {a b e : Nat} (hb : 1 ≤ b) (hb10 : b ≤ 10) (he : e < a * b) (hab : a * b ≤ 10) :
    wrap64 (Int.tdiv (e : Int) (b : Int)) = ((e / b : Nat) : Int) ∧ Int.tmod (e : Int) (b : Int) = ((e % b : Nat) : Int) ∧ e / b < a ∧ e % b < b := by
  have h1 : e / b < a := Nat.div_lt_of_lt_mul (by rw [Nat.mul_comm]; exact he)
  have h2 : e / b ≤ e := Nat.div_le_self _ _
  refine ⟨?_, ?_, h1, Nat.mod_lt _ (by omega)⟩
  · rw [Int.tdiv_eq_ediv_of_nonneg (by omega), ← Int.natCast_ediv]
    generalize e / b = q at h1 h2 ⊢
    exact wid (by omega) (by omega)
  · rw [Int.tmod_eq_emod_of_nonneg (by omega), ← Int.natCast_emod]
theorem tabof_ends {a b : Nat} (ha : 1 ≤ a) (hb : 1 ≤ b) (ha10 : a ≤ 10) (hb10 : b ≤ 10) (hab : a * b ≤ 10) (w : List Int) (hw : w.length ≤ 10) (hin : ∀ e ∈ w, 0 ≤ e ∧ e < ((a * b : Nat) : Int)) :
    ∃ T : List (List Int), Ev (fun k => impl_tableau.f k (a : Int) (b : Int) w) T ∧ T.length = a ∧ ∀ q ∈ T, q.length = b := by
  have l1 : ∀ i, i ≤ w.length → ∀ acc : List (List Int), acc.length = a → (∀ q ∈ acc, q.length = b) → ∃ T : List (List Int), Ev (fun k => impl_tableau.l1 k (b : Int) acc w (w.length : Int) (i : Int)) T ∧ T.length = a ∧ ∀ q ∈ T, q.length = b := by
    refine downTo _ ?_ ?_
    · intro acc h1 h2
      exact ⟨acc, Ev.step (by intro k; simp only [impl_tableau.l1]; rfl) (Ev.no (by omega) (Ev.now _)), h1, h2⟩
    · intro i hi ih acc h1 h2
      have hm := hin w[i] (List.getElem_mem hi)
      have hg : w.getD i 0 = w[i] := by rw [List.getD_eq_getElem?_getD, List.getElem?_eq_getElem hi]; rfl
      obtain ⟨e, he⟩ := Int.eq_ofNat_of_zero_le hm.1
      rw [he] at hm hg
      obtain ⟨d1, d2, d3, d4⟩ := cell_div (a := a) (b := b) (e := e) hb hb10 (by omega) hab
      generalize e / b = e1 at d1 d3
      generalize e % b = e2 at d2 d4
      have hrow : (row acc e1).length = b := by
        have : row acc e1 = acc[e1]'(by omega) := by unfold row; rw [List.getD_eq_getElem?_getD, List.getElem?_eq_getElem (by omega)]; rfl
        rw [this]; exact h2 _ (List.getElem_mem _)
      obtain ⟨T, g1, g2, g3⟩ := ih (acc.set e1 ((row acc e1).set e2 (i : Int))) (by rw [List.length_set]; exact h1) (by
        intro q hq
        rcases List.mem_or_eq_of_mem_set hq with h | h
        · exact h2 q h
        · subst h; rw [List.length_set]; exact hrow)
      refine ⟨T, Ev.step (by intro k; simp only [impl_tableau.l1]; rfl) (Ev.yes (by omega) (Ev.yes (by omega) (Ev.yes (by omega) (Ev.no (by omega) ?_)))), g2, g3⟩
      rw [rdN, hg, d1, d2, rdRow]
      refine Ev.yes (by omega) (Ev.yes (by omega) (Ev.yes (by omega) (Ev.yes (by omega) ?_)))
      rw [Int.toNat_natCast, Int.toNat_natCast, wid1 hi (by omega)]
      exact g1
  have l0 : ∀ i, i ≤ a → ∀ acc : List (List Int), acc.length = i → (∀ q ∈ acc, q.length = b) → ∃ T : List (List Int), Ev (fun k => impl_tableau.l0 k (b : Int) w acc (a : Int) (i : Int)) T ∧ T.length = a ∧ ∀ q ∈ T, q.length = b := by
    refine downTo _ ?_ ?_
    · intro acc h1 h2
      obtain ⟨T, g1, g2, g3⟩ := l1 0 (by omega) acc h1 h2
      exact ⟨T, Ev.step (by intro k; simp only [impl_tableau.l0]; rfl) (Ev.no (by omega) g1), g2, g3⟩
    · intro i hi ih acc h1 h2
      obtain ⟨T, g1, g2, g3⟩ := ih (acc ++ [List.replicate b 0]) (by rw [List.length_append, List.length_singleton, h1]) (by
        intro q hq
        rcases List.mem_append.1 hq with h | h
        · exact h2 q h
        · rw [List.mem_singleton] at h; subst h; rw [List.length_replicate])
      refine ⟨T, Ev.step (by intro k; simp only [impl_tableau.l0]; rfl) (Ev.yes (by omega) (Ev.yes (by omega) (Ev.yes (by omega) (Ev.yes (by omega) ?_)))), g2, g3⟩
      rw [Int.toNat_natCast, wid1 hi (by omega)]
      exact g1
  exact l0 0 (by omega) [] rfl (by simp)
end Go.Proofs.Ytfahkoimleiknaa.Q
end
