-- px.py: written by this session's program over the kit's printer
import Derived.Test.YtdbioadcopfjcaaFkinds
import Derived.Test.YtdbioadcopfjcaaFImplHas
import Derived.Test.YtdbioadcopfjcaaFImplWithin
import Derived.Test.YtdbioadcopfjcaaXSidesof
namespace Go.Proofs.Ytdbioadcopfjcaa.F
open Go.RowKit Go.Proofs.YtdbioadcopfjcaaW.PrintWords Go.Proofs.YtdbioadcopfjcaaW.PrintLast Go.Proofs.YtdbioadcopfjcaaW.PrintMore
attribute [local go_sem] max2_int min2_int max_two min_two max_three min_three max_four min_four
set_option linter.unusedVariables false
set_option linter.unusedSimpArgs false

/-! ### impl_IsTableau: function 22 -/
mutual
def impl_IsTableau.l0 : Nat → List (List Int) → Int → Int → Int → Int → Int → Option (Bool)
  | 0, _, _, _, _, _, _ => none
  | k + 1, x0, x3, x4, x6, x18, x19 => if x19 < x18 then (impl_IsTableau.l1 k x0 x3 x4 x6 x19 x18 x19 x4 0) else (some true)
def impl_IsTableau.l1 : Nat → List (List Int) → Int → Int → Int → Int → Int → Int → Int → Int → Option (Bool)
  | 0, _, _, _, _, _, _, _, _, _ => none
  | k + 1, x0, x3, x4, x6, x7, x18, x19, x22, x23 => if x23 < x22 then (if 0 ≤ x7 then (if x7 < (x0.length : Int) then (if 0 ≤ x23 then (if x23 < ((rd_L1 x0 x7).length : Int) then ((impl_within.f (rd (rd_L1 x0 x7) x23) 0 (wrap64 ((wrap64 (x3 * x4)) - 1))).bind fun t239 => (if t239 = true then ((impl_has.f x6 (rd (rd_L1 x0 x7) x23)).bind fun t240 => (if t240 = true then (some false) else (if x7 > 0 then (if 0 ≤ (wrap64 (x7 - 1)) then (if (wrap64 (x7 - 1)) < (x0.length : Int) then (if x23 < ((rd_L1 x0 (wrap64 (x7 - 1))).length : Int) then (if (rd (rd_L1 x0 x7) x23) ≤ (rd (rd_L1 x0 (wrap64 (x7 - 1))) x23) then (some false) else (if x23 > 0 then (if 0 ≤ (wrap64 (x23 - 1)) then (if (wrap64 (x23 - 1)) < ((rd_L1 x0 x7).length : Int) then (if (rd (rd_L1 x0 x7) x23) ≤ (rd (rd_L1 x0 x7) (wrap64 (x23 - 1))) then (some false) else (if 0 ≤ (rd (rd_L1 x0 x7) x23) then (impl_IsTableau.l1 k x0 x3 x4 (Go.bits .or .i64 x6 (shl .i64 1 (rd (rd_L1 x0 x7) x23))) x7 x18 x19 x22 (wrap64 (x23 + 1))) else (none))) else (none)) else (none)) else (if 0 ≤ (rd (rd_L1 x0 x7) x23) then (impl_IsTableau.l1 k x0 x3 x4 (Go.bits .or .i64 x6 (shl .i64 1 (rd (rd_L1 x0 x7) x23))) x7 x18 x19 x22 (wrap64 (x23 + 1))) else (none)))) else (none)) else (none)) else (none)) else (if x23 > 0 then (if 0 ≤ (wrap64 (x23 - 1)) then (if (wrap64 (x23 - 1)) < ((rd_L1 x0 x7).length : Int) then (if (rd (rd_L1 x0 x7) x23) ≤ (rd (rd_L1 x0 x7) (wrap64 (x23 - 1))) then (some false) else (if 0 ≤ (rd (rd_L1 x0 x7) x23) then (impl_IsTableau.l1 k x0 x3 x4 (Go.bits .or .i64 x6 (shl .i64 1 (rd (rd_L1 x0 x7) x23))) x7 x18 x19 x22 (wrap64 (x23 + 1))) else (none))) else (none)) else (none)) else (if 0 ≤ (rd (rd_L1 x0 x7) x23) then (impl_IsTableau.l1 k x0 x3 x4 (Go.bits .or .i64 x6 (shl .i64 1 (rd (rd_L1 x0 x7) x23))) x7 x18 x19 x22 (wrap64 (x23 + 1))) else (none)))))) else (some false))) else (none)) else (none)) else (none)) else (none)) else (impl_IsTableau.l0 k x0 x3 x4 x6 x18 (wrap64 (x19 + 1)))
end
def impl_IsTableau.f (k : Nat) (l0 : List (List Int)) : Option (Bool) := (impl_sidesOf.f l0).bind fun bt234 => (if bt234.2.2 = true then (impl_IsTableau.l0 k l0 bt234.1 bt234.2.1 0 bt234.1 0) else (some false))
theorem impl_IsTableau.mono_l : ∀ k, (∀ y0 y1 y2 y3 y4 y5, LeO (impl_IsTableau.l0 k y0 y1 y2 y3 y4 y5) (impl_IsTableau.l0 (k + 1) y0 y1 y2 y3 y4 y5)) ∧ (∀ y0 y1 y2 y3 y4 y5 y6 y7 y8, LeO (impl_IsTableau.l1 k y0 y1 y2 y3 y4 y5 y6 y7 y8) (impl_IsTableau.l1 (k + 1) y0 y1 y2 y3 y4 y5 y6 y7 y8))
  | 0 => ⟨fun _ _ _ _ _ _ r h => by simp [impl_IsTableau.l0] at h, fun _ _ _ _ _ _ _ _ _ r h => by simp [impl_IsTableau.l1] at h⟩
  | k + 1 => by
    obtain ⟨ih0, ih1⟩ := impl_IsTableau.mono_l k
    refine ⟨?_, ?_⟩
    · intro y0 y1 y2 y3 y4 y5
      unfold impl_IsTableau.l0
      repeat' first
      | (with_reducible exact ih0 _ _ _ _ _ _)
      | (with_reducible exact ih1 _ _ _ _ _ _ _ _ _)
      | (with_reducible exact LeO.refl _)
      | (with_reducible exact LeO.none _)
      | (with_reducible refine LeO.ite ?_ ?_)
      | (with_reducible refine LeO.bind ?_ (fun _ => ?_))
      | exact ih0 _ _ _ _ _ _
      | exact ih1 _ _ _ _ _ _ _ _ _
      | exact LeO.none _
      | refine LeO.ite ?_ ?_
      | refine LeO.bind ?_ (fun _ => ?_)
    · intro y0 y1 y2 y3 y4 y5 y6 y7 y8
      unfold impl_IsTableau.l1
      repeat' first
      | (with_reducible exact ih0 _ _ _ _ _ _)
      | (with_reducible exact ih1 _ _ _ _ _ _ _ _ _)
      | (with_reducible exact LeO.refl _)
      | (with_reducible exact LeO.none _)
      | (with_reducible refine LeO.ite ?_ ?_)
      | (with_reducible refine LeO.bind ?_ (fun _ => ?_))
      | exact ih0 _ _ _ _ _ _
      | exact ih1 _ _ _ _ _ _ _ _ _
      | exact LeO.none _
      | refine LeO.ite ?_ ?_
      | refine LeO.bind ?_ (fun _ => ?_)
theorem impl_IsTableau.mono : ∀ a0 k, LeO (impl_IsTableau.f k a0) (impl_IsTableau.f (k + 1) a0) := by
  intro a0 k
  obtain ⟨ih0, ih1⟩ := impl_IsTableau.mono_l k
  unfold impl_IsTableau.f
  repeat' first
      | (with_reducible exact ih0 _ _ _ _ _ _)
      | (with_reducible exact ih1 _ _ _ _ _ _ _ _ _)
      | (with_reducible exact LeO.refl _)
      | (with_reducible exact LeO.none _)
      | (with_reducible refine LeO.ite ?_ ?_)
      | (with_reducible refine LeO.bind ?_ (fun _ => ?_))
      | exact ih0 _ _ _ _ _ _
      | exact ih1 _ _ _ _ _ _ _ _ _
      | exact LeO.none _
      | refine LeO.ite ?_ ?_
      | refine LeO.bind ?_ (fun _ => ?_)
set_option maxHeartbeats 8000000 in
set_option maxRecDepth 100000 in
theorem impl_IsTableau.calls (k : Nat) (A0 : Option Addr) (c0 : Nat) (l0 : List (List Int)) (r : Bool) (w : World) (hr0 : Kd.C (Kd.slice 3 (Kd.int .i64)) w A0 l0.length l0) (hc0 : l0.length ≤ c0) (h : impl_IsTableau.f k l0 = some r) :
    Calls Try.prog 22 #[.slice A0 l0.length c0] w fun e w' => e = .returned (.bool r) ∧ Below w.heap.size w w' := by
  have HR0 := Aside0.mk hr0
  have HC0 := Aside0.mk hc0
  clear hr0 hc0
  have HB := Aside0.mk (Below.refl w.heap.size w)
  have H : ((impl_sidesOf.f l0).bind fun bt234 => (if bt234.2.2 = true then (impl_IsTableau.l0 k l0 bt234.1 bt234.2.1 0 bt234.1 0) else (some false))) = some r := h
  clear h
  replace H := Option.bind_eq_some_iff.mp H
  obtain ⟨⟨t234, t235, t236⟩, A20, H⟩ := H
  replace H : (if t236 = true then (impl_IsTableau.l0 k l0 t234 t235 0 t234 0) else (some false)) = some r := H
  have A2 := Aside0.mk A20
  clear A20
  by_cases c3 : t236 = true
  · subst c3
    have H1 : (impl_IsTableau.l0 k l0 t234 t235 0 t234 0) = some r := by rw [if_pos rfl] at H; exact H
    clear H
    have H := H1
    clear H1
    have H' := Aside0.mk H
    clear H
    go_enter Try.func22, Try.ntmps22
    go_wp2_with (first | ((with_reducible refine gate_callee (f := 41) rfl ?_); refine goesL_ (some 12) rfl rfl Try.func41 (by kernel_rfl) rfl #[.slice A0 l0.length c0] rfl (by (try simp only [List.map_toArray, List.map_cons, List.map_nil]); first | done | rfl | (simp only [List.length_drop, List.length_take]; rfl)) ?_; (with_reducible refine (impl_sidesOf.calls _ _ l0 t234 t235 true _ ?side1 ?side2 A2.out).mono ?_); (case side1 => repeat (first | exact HR0.out | (with_reducible refine Kd.C_alloc ?_ _) | (with_reducible refine Kd.C_drewN ?_ _) | (with_reducible refine Kd.C_drew ?_))); (case side2 => exact HC0.out); rintro e w4 ⟨rfl, hb⟩; refine ⟨_, rfl, ?_⟩; have n0_ := Aside0.mk (below_step (by repeat (first | (with_reducible first | exact HB.out | apply below_alloc | apply pw_below_drewN | apply below_drew1) | exact HB.out)) hb); clear HB; have HB := n0_; clear n0_; (try clear hb); (try clear hb2); (try clear hk); (try clear hi)))
    go_loopg [6, 19] k (fun kq v6 v19 w' => ∃ (x6_1 : Int) (x19_1 : Int), v6 = .int .i64 x6_1 ∧ v19 = .int .i64 x19_1 ∧ Aside0 (impl_IsTableau.l0 kq l0 t234 t235 x6_1 t234 x19_1 = some r) ∧ Aside0 (kq ≤ k) ∧ Aside0 (Below w.heap.size w w'))
    case atStart => exact ⟨(0), (0), (by first | rfl | (simp; done) | (simp [*]; done)), (by first | rfl | (simp; done) | (simp [*]; done)), H', ⟨Nat.le_refl _⟩, ⟨by repeat (first | (with_reducible first | exact HB.out | apply below_alloc | apply pw_below_drewN | apply below_drew1) | exact HB.out)⟩⟩
    case round =>
      clear H'
      try clear c2
      try clear p2
      try clear c3
      try clear c4
      obtain ⟨x6_1, x19_1, rfl, rfl, HA, HK1, HB⟩ := hrel
      cases gk with
      | zero => exact absurd HA.out (by simp [impl_IsTableau.l0])
      | succ k1 =>
        have H := HA.out
        clear HA
        simp only [impl_IsTableau.l0] at H
        by_cases c5 : x19_1 < t234
        · rw [if_pos c5] at H
          have c5b0 : decide (x19_1 < t234) = true := decide_eq_true c5
          clear c5
          have H' := Aside0.mk H
          clear H
          go_wp2
          go_loopg [6, 23] k1 (fun kq v6 v23 w' => ∃ (x6_2 : Int) (x23_2 : Int), v6 = .int .i64 x6_2 ∧ v23 = .int .i64 x23_2 ∧ Aside0 (impl_IsTableau.l1 kq l0 t234 t235 x6_2 x19_1 t234 x19_1 t235 x23_2 = some r) ∧ Aside0 (kq ≤ k1) ∧ Aside0 (Below w.heap.size w w'))
          case atStart => exact ⟨(x6_1), (0), (by first | rfl | (simp; done) | (simp [*]; done)), (by first | rfl | (simp; done) | (simp [*]; done)), H', ⟨Nat.le_refl _⟩, ⟨by repeat (first | (with_reducible first | exact HB.out | apply below_alloc | apply pw_below_drewN | apply below_drew1) | exact HB.out)⟩⟩
          case round =>
            clear H'
            try clear c2
            try clear p2
            try clear c3
            try clear c4
            try clear c5
            try clear c5b0
            try clear p2
            obtain ⟨x6_2, x23_2, rfl, rfl, HA, HK2, HB⟩ := hrel
            cases gk with
            | zero => exact absurd HA.out (by simp [impl_IsTableau.l1])
            | succ k2 =>
              have H := HA.out
              clear HA
              simp only [impl_IsTableau.l1] at H
              by_cases c6 : x23_2 < t235
              · rw [if_pos c6] at H
                have c6b0 : decide (x23_2 < t235) = true := decide_eq_true c6
                clear c6
                by_cases c7 : 0 ≤ x19_1
                · rw [if_pos c7] at H
                  have c7b0 : decide (0 ≤ x19_1) = true := decide_eq_true c7
                  clear c7
                  by_cases c8 : x19_1 < (l0.length : Int)
                  · rw [if_pos c8] at H
                    have c8b0 : decide (x19_1 < (l0.length : Int)) = true := decide_eq_true c8
                    clear c8
                    by_cases c9 : 0 ≤ x23_2
                    · rw [if_pos c9] at H
                      have c9b0 : decide (0 ≤ x23_2) = true := decide_eq_true c9
                      clear c9
                      by_cases c10 : x23_2 < ((rd_L1 l0 x19_1).length : Int)
                      · rw [if_pos c10] at H
                        have c10b0 : decide (x23_2 < ((rd_L1 l0 x19_1).length : Int)) = true := decide_eq_true c10
                        clear c10
                        replace H := Option.bind_eq_some_iff.mp H
                        obtain ⟨t239, A110, H⟩ := H
                        replace H : (if t239 = true then ((impl_has.f x6_2 (rd (rd_L1 l0 x19_1) x23_2)).bind fun t240 => (if t240 = true then (some false) else (if x19_1 > 0 then (if 0 ≤ (wrap64 (x19_1 - 1)) then (if (wrap64 (x19_1 - 1)) < (l0.length : Int) then (if x23_2 < ((rd_L1 l0 (wrap64 (x19_1 - 1))).length : Int) then (if (rd (rd_L1 l0 x19_1) x23_2) ≤ (rd (rd_L1 l0 (wrap64 (x19_1 - 1))) x23_2) then (some false) else (if x23_2 > 0 then (if 0 ≤ (wrap64 (x23_2 - 1)) then (if (wrap64 (x23_2 - 1)) < ((rd_L1 l0 x19_1).length : Int) then (if (rd (rd_L1 l0 x19_1) x23_2) ≤ (rd (rd_L1 l0 x19_1) (wrap64 (x23_2 - 1))) then (some false) else (if 0 ≤ (rd (rd_L1 l0 x19_1) x23_2) then (impl_IsTableau.l1 k2 l0 t234 t235 (Go.bits .or .i64 x6_2 (shl .i64 1 (rd (rd_L1 l0 x19_1) x23_2))) x19_1 t234 x19_1 t235 (wrap64 (x23_2 + 1))) else (none))) else (none)) else (none)) else (if 0 ≤ (rd (rd_L1 l0 x19_1) x23_2) then (impl_IsTableau.l1 k2 l0 t234 t235 (Go.bits .or .i64 x6_2 (shl .i64 1 (rd (rd_L1 l0 x19_1) x23_2))) x19_1 t234 x19_1 t235 (wrap64 (x23_2 + 1))) else (none)))) else (none)) else (none)) else (none)) else (if x23_2 > 0 then (if 0 ≤ (wrap64 (x23_2 - 1)) then (if (wrap64 (x23_2 - 1)) < ((rd_L1 l0 x19_1).length : Int) then (if (rd (rd_L1 l0 x19_1) x23_2) ≤ (rd (rd_L1 l0 x19_1) (wrap64 (x23_2 - 1))) then (some false) else (if 0 ≤ (rd (rd_L1 l0 x19_1) x23_2) then (impl_IsTableau.l1 k2 l0 t234 t235 (Go.bits .or .i64 x6_2 (shl .i64 1 (rd (rd_L1 l0 x19_1) x23_2))) x19_1 t234 x19_1 t235 (wrap64 (x23_2 + 1))) else (none))) else (none)) else (none)) else (if 0 ≤ (rd (rd_L1 l0 x19_1) x23_2) then (impl_IsTableau.l1 k2 l0 t234 t235 (Go.bits .or .i64 x6_2 (shl .i64 1 (rd (rd_L1 l0 x19_1) x23_2))) x19_1 t234 x19_1 t235 (wrap64 (x23_2 + 1))) else (none)))))) else (some false)) = some r := H
                        have A11 := Aside0.mk A110
                        clear A110
                        by_cases c12 : t239 = true
                        · subst c12
                          have H1 : ((impl_has.f x6_2 (rd (rd_L1 l0 x19_1) x23_2)).bind fun t240 => (if t240 = true then (some false) else (if x19_1 > 0 then (if 0 ≤ (wrap64 (x19_1 - 1)) then (if (wrap64 (x19_1 - 1)) < (l0.length : Int) then (if x23_2 < ((rd_L1 l0 (wrap64 (x19_1 - 1))).length : Int) then (if (rd (rd_L1 l0 x19_1) x23_2) ≤ (rd (rd_L1 l0 (wrap64 (x19_1 - 1))) x23_2) then (some false) else (if x23_2 > 0 then (if 0 ≤ (wrap64 (x23_2 - 1)) then (if (wrap64 (x23_2 - 1)) < ((rd_L1 l0 x19_1).length : Int) then (if (rd (rd_L1 l0 x19_1) x23_2) ≤ (rd (rd_L1 l0 x19_1) (wrap64 (x23_2 - 1))) then (some false) else (if 0 ≤ (rd (rd_L1 l0 x19_1) x23_2) then (impl_IsTableau.l1 k2 l0 t234 t235 (Go.bits .or .i64 x6_2 (shl .i64 1 (rd (rd_L1 l0 x19_1) x23_2))) x19_1 t234 x19_1 t235 (wrap64 (x23_2 + 1))) else (none))) else (none)) else (none)) else (if 0 ≤ (rd (rd_L1 l0 x19_1) x23_2) then (impl_IsTableau.l1 k2 l0 t234 t235 (Go.bits .or .i64 x6_2 (shl .i64 1 (rd (rd_L1 l0 x19_1) x23_2))) x19_1 t234 x19_1 t235 (wrap64 (x23_2 + 1))) else (none)))) else (none)) else (none)) else (none)) else (if x23_2 > 0 then (if 0 ≤ (wrap64 (x23_2 - 1)) then (if (wrap64 (x23_2 - 1)) < ((rd_L1 l0 x19_1).length : Int) then (if (rd (rd_L1 l0 x19_1) x23_2) ≤ (rd (rd_L1 l0 x19_1) (wrap64 (x23_2 - 1))) then (some false) else (if 0 ≤ (rd (rd_L1 l0 x19_1) x23_2) then (impl_IsTableau.l1 k2 l0 t234 t235 (Go.bits .or .i64 x6_2 (shl .i64 1 (rd (rd_L1 l0 x19_1) x23_2))) x19_1 t234 x19_1 t235 (wrap64 (x23_2 + 1))) else (none))) else (none)) else (none)) else (if 0 ≤ (rd (rd_L1 l0 x19_1) x23_2) then (impl_IsTableau.l1 k2 l0 t234 t235 (Go.bits .or .i64 x6_2 (shl .i64 1 (rd (rd_L1 l0 x19_1) x23_2))) x19_1 t234 x19_1 t235 (wrap64 (x23_2 + 1))) else (none)))))) = some r := by rw [if_pos rfl] at H; exact H
                          clear H
                          have H := H1
                          clear H1
                          replace H := Option.bind_eq_some_iff.mp H
                          obtain ⟨t240, A130, H⟩ := H
                          replace H : (if t240 = true then (some false) else (if x19_1 > 0 then (if 0 ≤ (wrap64 (x19_1 - 1)) then (if (wrap64 (x19_1 - 1)) < (l0.length : Int) then (if x23_2 < ((rd_L1 l0 (wrap64 (x19_1 - 1))).length : Int) then (if (rd (rd_L1 l0 x19_1) x23_2) ≤ (rd (rd_L1 l0 (wrap64 (x19_1 - 1))) x23_2) then (some false) else (if x23_2 > 0 then (if 0 ≤ (wrap64 (x23_2 - 1)) then (if (wrap64 (x23_2 - 1)) < ((rd_L1 l0 x19_1).length : Int) then (if (rd (rd_L1 l0 x19_1) x23_2) ≤ (rd (rd_L1 l0 x19_1) (wrap64 (x23_2 - 1))) then (some false) else (if 0 ≤ (rd (rd_L1 l0 x19_1) x23_2) then (impl_IsTableau.l1 k2 l0 t234 t235 (Go.bits .or .i64 x6_2 (shl .i64 1 (rd (rd_L1 l0 x19_1) x23_2))) x19_1 t234 x19_1 t235 (wrap64 (x23_2 + 1))) else (none))) else (none)) else (none)) else (if 0 ≤ (rd (rd_L1 l0 x19_1) x23_2) then (impl_IsTableau.l1 k2 l0 t234 t235 (Go.bits .or .i64 x6_2 (shl .i64 1 (rd (rd_L1 l0 x19_1) x23_2))) x19_1 t234 x19_1 t235 (wrap64 (x23_2 + 1))) else (none)))) else (none)) else (none)) else (none)) else (if x23_2 > 0 then (if 0 ≤ (wrap64 (x23_2 - 1)) then (if (wrap64 (x23_2 - 1)) < ((rd_L1 l0 x19_1).length : Int) then (if (rd (rd_L1 l0 x19_1) x23_2) ≤ (rd (rd_L1 l0 x19_1) (wrap64 (x23_2 - 1))) then (some false) else (if 0 ≤ (rd (rd_L1 l0 x19_1) x23_2) then (impl_IsTableau.l1 k2 l0 t234 t235 (Go.bits .or .i64 x6_2 (shl .i64 1 (rd (rd_L1 l0 x19_1) x23_2))) x19_1 t234 x19_1 t235 (wrap64 (x23_2 + 1))) else (none))) else (none)) else (none)) else (if 0 ≤ (rd (rd_L1 l0 x19_1) x23_2) then (impl_IsTableau.l1 k2 l0 t234 t235 (Go.bits .or .i64 x6_2 (shl .i64 1 (rd (rd_L1 l0 x19_1) x23_2))) x19_1 t234 x19_1 t235 (wrap64 (x23_2 + 1))) else (none))))) = some r := H
                          have A13 := Aside0.mk A130
                          clear A130
                          by_cases c14 : t240 = true
                          · subst c14
                            have H1 : (some false) = some r := by rw [if_pos rfl] at H; exact H
                            clear H
                            have H := H1
                            clear H1
                            obtain rfl := Option.some.inj H
                            have p237 : 0 ≤ (x19_1 : Int) := of_decide_eq_true (by first | (with_reducible assumption) | assumption)
                            have q237 : x19_1 < (l0.length : Int) := of_decide_eq_true (by first | (with_reducible assumption) | assumption)
                            obtain ⟨ad237, A237_0, c237_0, e237, hx237_0, hl237_0, hi237_0⟩ := at_L1 HR0.out x19_1 p237 q237
                            cases e237
                            replace hx237_0 := (HB.out.cell (World.block_lt_of_cell? w _ hx237_0)).trans hx237_0
                            have HR237_0 := Aside0.mk hi237_0
                            have HC237_0 := Aside0.mk hl237_0
                            clear hi237_0 hl237_0
                            replace p237 := eq_true p237
                            replace q237 := eq_true q237
                            have p238 : 0 ≤ (x23_2 : Int) := of_decide_eq_true (by first | (with_reducible assumption) | assumption)
                            have q238 : x23_2 < ((rd_L1 l0 x19_1).length : Int) := of_decide_eq_true (by first | (with_reducible assumption) | assumption)
                            obtain ⟨ad238, e238, hx238_0⟩ := Kd.at_int HR237_0.out x23_2 p238 q238
                            cases e238
                            replace hx238_0 := (HB.out.cell (World.block_lt_of_cell? w _ hx238_0)).trans hx238_0
                            replace p238 := eq_true p238
                            replace q238 := eq_true q238
                            go_wp2_with (first | ((with_reducible refine gate_callee (f := 27) rfl ?_); refine goesL_ (some 38) rfl rfl Try.func27 (by kernel_rfl) rfl #[.int .i64 (rd (rd_L1 l0 x19_1) x23_2), .int .i64 0, .int .i64 (wrap64 ((wrap64 (t234 * t235)) - 1))] rfl (by (try simp only [List.map_toArray, List.map_cons, List.map_nil]); first | done | rfl | (simp only [List.length_drop, List.length_take]; rfl)) ?_; (with_reducible refine (impl_within.calls (rd (rd_L1 l0 x19_1) x23_2) 0 (wrap64 ((wrap64 (t234 * t235)) - 1)) true _ A11.out).mono ?_); rintro e w' ⟨rfl, ⟨nd, rfl⟩⟩; refine ⟨_, rfl, ?_⟩) | (go_at_call 42; (with_reducible refine (impl_has.calls x6_2 (rd (rd_L1 l0 x19_1) x23_2) true _ A13.out).mono ?_); rintro e w' ⟨rfl, ⟨nd, rfl⟩⟩))
                            go_ret
                            exact ⟨by first | rfl | (simp [errW_none, errW_some] <;> rfl) | (simp [*, errW_none, errW_some] <;> rfl), by repeat (first | (with_reducible first | exact HB.out | apply below_alloc | apply pw_below_drewN | apply below_drew1) | exact HB.out)⟩
                          · replace c14 := Bool.eq_false_iff.mpr c14
                            subst c14
                            have H1 : (if x19_1 > 0 then (if 0 ≤ (wrap64 (x19_1 - 1)) then (if (wrap64 (x19_1 - 1)) < (l0.length : Int) then (if x23_2 < ((rd_L1 l0 (wrap64 (x19_1 - 1))).length : Int) then (if (rd (rd_L1 l0 x19_1) x23_2) ≤ (rd (rd_L1 l0 (wrap64 (x19_1 - 1))) x23_2) then (some false) else (if x23_2 > 0 then (if 0 ≤ (wrap64 (x23_2 - 1)) then (if (wrap64 (x23_2 - 1)) < ((rd_L1 l0 x19_1).length : Int) then (if (rd (rd_L1 l0 x19_1) x23_2) ≤ (rd (rd_L1 l0 x19_1) (wrap64 (x23_2 - 1))) then (some false) else (if 0 ≤ (rd (rd_L1 l0 x19_1) x23_2) then (impl_IsTableau.l1 k2 l0 t234 t235 (Go.bits .or .i64 x6_2 (shl .i64 1 (rd (rd_L1 l0 x19_1) x23_2))) x19_1 t234 x19_1 t235 (wrap64 (x23_2 + 1))) else (none))) else (none)) else (none)) else (if 0 ≤ (rd (rd_L1 l0 x19_1) x23_2) then (impl_IsTableau.l1 k2 l0 t234 t235 (Go.bits .or .i64 x6_2 (shl .i64 1 (rd (rd_L1 l0 x19_1) x23_2))) x19_1 t234 x19_1 t235 (wrap64 (x23_2 + 1))) else (none)))) else (none)) else (none)) else (none)) else (if x23_2 > 0 then (if 0 ≤ (wrap64 (x23_2 - 1)) then (if (wrap64 (x23_2 - 1)) < ((rd_L1 l0 x19_1).length : Int) then (if (rd (rd_L1 l0 x19_1) x23_2) ≤ (rd (rd_L1 l0 x19_1) (wrap64 (x23_2 - 1))) then (some false) else (if 0 ≤ (rd (rd_L1 l0 x19_1) x23_2) then (impl_IsTableau.l1 k2 l0 t234 t235 (Go.bits .or .i64 x6_2 (shl .i64 1 (rd (rd_L1 l0 x19_1) x23_2))) x19_1 t234 x19_1 t235 (wrap64 (x23_2 + 1))) else (none))) else (none)) else (none)) else (if 0 ≤ (rd (rd_L1 l0 x19_1) x23_2) then (impl_IsTableau.l1 k2 l0 t234 t235 (Go.bits .or .i64 x6_2 (shl .i64 1 (rd (rd_L1 l0 x19_1) x23_2))) x19_1 t234 x19_1 t235 (wrap64 (x23_2 + 1))) else (none)))) = some r := by rw [if_neg (show ¬ (false = true) by decide)] at H; exact H
                            clear H
                            have H := H1
                            clear H1
                            by_cases c15 : x19_1 > 0
                            · rw [if_pos c15] at H
                              have c15b0 : decide (0 < x19_1) = true := decide_eq_true c15
                              clear c15
                              obtain ⟨ji16, hji16⟩ : ∃ j_ : Int, (wrap64 (x19_1 - 1)) = j_ := ⟨_, rfl⟩
                              replace H : (if 0 ≤ (ji16) then (if (ji16) < (l0.length : Int) then (if x23_2 < ((rd_L1 l0 (ji16)).length : Int) then (if (rd (rd_L1 l0 x19_1) x23_2) ≤ (rd (rd_L1 l0 (ji16)) x23_2) then (some false) else (if x23_2 > 0 then (if 0 ≤ (wrap64 (x23_2 - 1)) then (if (wrap64 (x23_2 - 1)) < ((rd_L1 l0 x19_1).length : Int) then (if (rd (rd_L1 l0 x19_1) x23_2) ≤ (rd (rd_L1 l0 x19_1) (wrap64 (x23_2 - 1))) then (some false) else (if 0 ≤ (rd (rd_L1 l0 x19_1) x23_2) then (impl_IsTableau.l1 k2 l0 t234 t235 (Go.bits .or .i64 x6_2 (shl .i64 1 (rd (rd_L1 l0 x19_1) x23_2))) x19_1 t234 x19_1 t235 (wrap64 (x23_2 + 1))) else (none))) else (none)) else (none)) else (if 0 ≤ (rd (rd_L1 l0 x19_1) x23_2) then (impl_IsTableau.l1 k2 l0 t234 t235 (Go.bits .or .i64 x6_2 (shl .i64 1 (rd (rd_L1 l0 x19_1) x23_2))) x19_1 t234 x19_1 t235 (wrap64 (x23_2 + 1))) else (none)))) else (none)) else (none)) else (none)) = some r := by first | (rw [hji16] at H; exact H) | (simp only [hji16] at H ⊢; exact H)
                              (try rw [hji16] at A11)
                              (try rw [hji16] at A13)
                              have hji16w : (IntKind.i64.wrap (x19_1 - 1)) = ji16 := (i64_w _).trans hji16
                              by_cases c17 : 0 ≤ (ji16)
                              · rw [if_pos c17] at H
                                have c17b0 : decide (0 ≤ (ji16)) = true := decide_eq_true c17
                                clear c17
                                by_cases c18 : (ji16) < (l0.length : Int)
                                · rw [if_pos c18] at H
                                  have c18b0 : decide ((ji16) < (l0.length : Int)) = true := decide_eq_true c18
                                  clear c18
                                  by_cases c19 : x23_2 < ((rd_L1 l0 (ji16)).length : Int)
                                  · rw [if_pos c19] at H
                                    have c19b0 : decide (x23_2 < ((rd_L1 l0 (ji16)).length : Int)) = true := decide_eq_true c19
                                    clear c19
                                    by_cases c20 : (rd (rd_L1 l0 x19_1) x23_2) ≤ (rd (rd_L1 l0 (ji16)) x23_2)
                                    · rw [if_pos c20] at H
                                      have c20b0 : decide ((rd (rd_L1 l0 x19_1) x23_2) ≤ (rd (rd_L1 l0 (ji16)) x23_2)) = true := decide_eq_true c20
                                      clear c20
                                      obtain rfl := Option.some.inj H
                                      have p237 : 0 ≤ (x19_1 : Int) := of_decide_eq_true (by first | (with_reducible assumption) | assumption)
                                      have q237 : x19_1 < (l0.length : Int) := of_decide_eq_true (by first | (with_reducible assumption) | assumption)
                                      obtain ⟨ad237, A237_0, c237_0, e237, hx237_0, hl237_0, hi237_0⟩ := at_L1 HR0.out x19_1 p237 q237
                                      cases e237
                                      replace hx237_0 := (HB.out.cell (World.block_lt_of_cell? w _ hx237_0)).trans hx237_0
                                      have HR237_0 := Aside0.mk hi237_0
                                      have HC237_0 := Aside0.mk hl237_0
                                      clear hi237_0 hl237_0
                                      replace p237 := eq_true p237
                                      replace q237 := eq_true q237
                                      have p238 : 0 ≤ (x23_2 : Int) := of_decide_eq_true (by first | (with_reducible assumption) | assumption)
                                      have q238 : x23_2 < ((rd_L1 l0 x19_1).length : Int) := of_decide_eq_true (by first | (with_reducible assumption) | assumption)
                                      obtain ⟨ad238, e238, hx238_0⟩ := Kd.at_int HR237_0.out x23_2 p238 q238
                                      cases e238
                                      replace hx238_0 := (HB.out.cell (World.block_lt_of_cell? w _ hx238_0)).trans hx238_0
                                      replace p238 := eq_true p238
                                      replace q238 := eq_true q238
                                      go_wp2_with (first | ((with_reducible refine gate_callee (f := 27) rfl ?_); refine goesL_ (some 38) rfl rfl Try.func27 (by kernel_rfl) rfl #[.int .i64 (rd (rd_L1 l0 x19_1) x23_2), .int .i64 0, .int .i64 (wrap64 ((wrap64 (t234 * t235)) - 1))] rfl (by (try simp only [List.map_toArray, List.map_cons, List.map_nil]); first | done | rfl | (simp only [List.length_drop, List.length_take]; rfl)) ?_; (with_reducible refine (impl_within.calls (rd (rd_L1 l0 x19_1) x23_2) 0 (wrap64 ((wrap64 (t234 * t235)) - 1)) true _ A11.out).mono ?_); rintro e w' ⟨rfl, ⟨nd, rfl⟩⟩; refine ⟨_, rfl, ?_⟩) | (go_at_call 42; (with_reducible refine (impl_has.calls x6_2 (rd (rd_L1 l0 x19_1) x23_2) false _ A13.out).mono ?_); rintro e w' ⟨rfl, ⟨nd, rfl⟩⟩; have p241 : 0 ≤ ((ji16) : Int) := of_decide_eq_true (by first | (with_reducible assumption) | assumption); have q241 : (ji16) < (l0.length : Int) := of_decide_eq_true (by first | (with_reducible assumption) | assumption); obtain ⟨ad241, A241_0, c241_0, e241, hx241_0, hl241_0, hi241_0⟩ := at_L1 HR0.out (ji16) p241 q241; obtain rfl : ad237 = ad241 := (by injection e241); replace hx241_0 := (HB.out.cell (World.block_lt_of_cell? w _ hx241_0)).trans hx241_0; have HR241_0 := Aside0.mk hi241_0; have HC241_0 := Aside0.mk hl241_0; clear hi241_0 hl241_0; replace p241 := eq_true p241; replace q241 := eq_true q241; have p242 : 0 ≤ (x23_2 : Int) := of_decide_eq_true (by first | (with_reducible assumption) | assumption); have q242 : x23_2 < ((rd_L1 l0 (ji16)).length : Int) := of_decide_eq_true (by first | (with_reducible assumption) | assumption); obtain ⟨ad242, e242, hx242_0⟩ := Kd.at_int HR241_0.out x23_2 p242 q242; cases e242; replace hx242_0 := (HB.out.cell (World.block_lt_of_cell? w _ hx242_0)).trans hx242_0; replace p242 := eq_true p242; replace q242 := eq_true q242))
                                      go_ret
                                      exact ⟨by first | rfl | (simp [errW_none, errW_some] <;> rfl) | (simp only [← hji16]; first | rfl | (simp [errW_none, errW_some] <;> rfl)) | (simp [*, errW_none, errW_some] <;> rfl), by repeat (first | (with_reducible first | exact HB.out | apply below_alloc | apply pw_below_drewN | apply below_drew1) | exact HB.out)⟩
                                    · rw [if_neg c20] at H
                                      have c20b0 : decide ((rd (rd_L1 l0 x19_1) x23_2) ≤ (rd (rd_L1 l0 (ji16)) x23_2)) = false := decide_eq_false c20
                                      clear c20
                                      by_cases c21 : x23_2 > 0
                                      · rw [if_pos c21] at H
                                        have c21b0 : decide (0 < x23_2) = true := decide_eq_true c21
                                        clear c21
                                        obtain ⟨ji22, hji22⟩ : ∃ j_ : Int, (wrap64 (x23_2 - 1)) = j_ := ⟨_, rfl⟩
                                        replace H : (if 0 ≤ (ji22) then (if (ji22) < ((rd_L1 l0 x19_1).length : Int) then (if (rd (rd_L1 l0 x19_1) x23_2) ≤ (rd (rd_L1 l0 x19_1) (ji22)) then (some false) else (if 0 ≤ (rd (rd_L1 l0 x19_1) x23_2) then (impl_IsTableau.l1 k2 l0 t234 t235 (Go.bits .or .i64 x6_2 (shl .i64 1 (rd (rd_L1 l0 x19_1) x23_2))) x19_1 t234 x19_1 t235 (wrap64 (x23_2 + 1))) else (none))) else (none)) else (none)) = some r := by first | (rw [hji22] at H; exact H) | (simp only [hji22] at H ⊢; exact H)
                                        (try rw [hji22] at A11)
                                        (try rw [hji22] at A13)
                                        have hji22w : (IntKind.i64.wrap (x23_2 - 1)) = ji22 := (i64_w _).trans hji22
                                        by_cases c23 : 0 ≤ (ji22)
                                        · rw [if_pos c23] at H
                                          have c23b0 : decide (0 ≤ (ji22)) = true := decide_eq_true c23
                                          clear c23
                                          by_cases c24 : (ji22) < ((rd_L1 l0 x19_1).length : Int)
                                          · rw [if_pos c24] at H
                                            have c24b0 : decide ((ji22) < ((rd_L1 l0 x19_1).length : Int)) = true := decide_eq_true c24
                                            clear c24
                                            by_cases c25 : (rd (rd_L1 l0 x19_1) x23_2) ≤ (rd (rd_L1 l0 x19_1) (ji22))
                                            · rw [if_pos c25] at H
                                              have c25b0 : decide ((rd (rd_L1 l0 x19_1) x23_2) ≤ (rd (rd_L1 l0 x19_1) (ji22))) = true := decide_eq_true c25
                                              clear c25
                                              obtain rfl := Option.some.inj H
                                              have p237 : 0 ≤ (x19_1 : Int) := of_decide_eq_true (by first | (with_reducible assumption) | assumption)
                                              have q237 : x19_1 < (l0.length : Int) := of_decide_eq_true (by first | (with_reducible assumption) | assumption)
                                              obtain ⟨ad237, A237_0, c237_0, e237, hx237_0, hl237_0, hi237_0⟩ := at_L1 HR0.out x19_1 p237 q237
                                              cases e237
                                              replace hx237_0 := (HB.out.cell (World.block_lt_of_cell? w _ hx237_0)).trans hx237_0
                                              have HR237_0 := Aside0.mk hi237_0
                                              have HC237_0 := Aside0.mk hl237_0
                                              clear hi237_0 hl237_0
                                              replace p237 := eq_true p237
                                              replace q237 := eq_true q237
                                              have p238 : 0 ≤ (x23_2 : Int) := of_decide_eq_true (by first | (with_reducible assumption) | assumption)
                                              have q238 : x23_2 < ((rd_L1 l0 x19_1).length : Int) := of_decide_eq_true (by first | (with_reducible assumption) | assumption)
                                              obtain ⟨ad238, e238, hx238_0⟩ := Kd.at_int HR237_0.out x23_2 p238 q238
                                              cases e238
                                              replace hx238_0 := (HB.out.cell (World.block_lt_of_cell? w _ hx238_0)).trans hx238_0
                                              replace p238 := eq_true p238
                                              replace q238 := eq_true q238
                                              go_wp2_with (first | ((with_reducible refine gate_callee (f := 27) rfl ?_); refine goesL_ (some 38) rfl rfl Try.func27 (by kernel_rfl) rfl #[.int .i64 (rd (rd_L1 l0 x19_1) x23_2), .int .i64 0, .int .i64 (wrap64 ((wrap64 (t234 * t235)) - 1))] rfl (by (try simp only [List.map_toArray, List.map_cons, List.map_nil]); first | done | rfl | (simp only [List.length_drop, List.length_take]; rfl)) ?_; (with_reducible refine (impl_within.calls (rd (rd_L1 l0 x19_1) x23_2) 0 (wrap64 ((wrap64 (t234 * t235)) - 1)) true _ A11.out).mono ?_); rintro e w' ⟨rfl, ⟨nd, rfl⟩⟩; refine ⟨_, rfl, ?_⟩) | (go_at_call 42; (with_reducible refine (impl_has.calls x6_2 (rd (rd_L1 l0 x19_1) x23_2) false _ A13.out).mono ?_); rintro e w' ⟨rfl, ⟨nd, rfl⟩⟩; have p241 : 0 ≤ ((ji16) : Int) := of_decide_eq_true (by first | (with_reducible assumption) | assumption); have q241 : (ji16) < (l0.length : Int) := of_decide_eq_true (by first | (with_reducible assumption) | assumption); obtain ⟨ad241, A241_0, c241_0, e241, hx241_0, hl241_0, hi241_0⟩ := at_L1 HR0.out (ji16) p241 q241; obtain rfl : ad237 = ad241 := (by injection e241); replace hx241_0 := (HB.out.cell (World.block_lt_of_cell? w _ hx241_0)).trans hx241_0; have HR241_0 := Aside0.mk hi241_0; have HC241_0 := Aside0.mk hl241_0; clear hi241_0 hl241_0; replace p241 := eq_true p241; replace q241 := eq_true q241; have p242 : 0 ≤ (x23_2 : Int) := of_decide_eq_true (by first | (with_reducible assumption) | assumption); have q242 : x23_2 < ((rd_L1 l0 (ji16)).length : Int) := of_decide_eq_true (by first | (with_reducible assumption) | assumption); obtain ⟨ad242, e242, hx242_0⟩ := Kd.at_int HR241_0.out x23_2 p242 q242; cases e242; replace hx242_0 := (HB.out.cell (World.block_lt_of_cell? w _ hx242_0)).trans hx242_0; replace p242 := eq_true p242; replace q242 := eq_true q242; have p243 : 0 ≤ (x19_1 : Int) := of_decide_eq_true (by first | (with_reducible assumption) | assumption); have q243 : x19_1 < (l0.length : Int) := of_decide_eq_true (by first | (with_reducible assumption) | assumption); obtain ⟨ad243, A243_0, c243_0, e243, hx243_0, hl243_0, hi243_0⟩ := at_L1 HR0.out x19_1 p243 q243; obtain rfl : ad237 = ad243 := (by injection e243); replace hx243_0 := (HB.out.cell (World.block_lt_of_cell? w _ hx243_0)).trans hx243_0; have HR243_0 := Aside0.mk hi243_0; have HC243_0 := Aside0.mk hl243_0; clear hi243_0 hl243_0; replace p243 := eq_true p243; replace q243 := eq_true q243; have ea_ := Option.some.inj (hx237_0.symm.trans hx243_0); injection ea_ with ea_ en_ ec_; subst ea_; subst ec_; clear en_; have p244 : 0 ≤ ((ji22) : Int) := of_decide_eq_true (by first | (with_reducible assumption) | assumption); have q244 : (ji22) < ((rd_L1 l0 x19_1).length : Int) := of_decide_eq_true (by first | (with_reducible assumption) | assumption); obtain ⟨ad244, e244, hx244_0⟩ := Kd.at_int HR243_0.out (ji22) p244 q244; cases e244; replace hx244_0 := (HB.out.cell (World.block_lt_of_cell? w _ hx244_0)).trans hx244_0; replace p244 := eq_true p244; replace q244 := eq_true q244))
                                              go_ret
                                              exact ⟨by first | rfl | (simp [errW_none, errW_some] <;> rfl) | (simp only [← hji16, ← hji22]; first | rfl | (simp [errW_none, errW_some] <;> rfl)) | (simp [*, errW_none, errW_some] <;> rfl), by repeat (first | (with_reducible first | exact HB.out | apply below_alloc | apply pw_below_drewN | apply below_drew1) | exact HB.out)⟩
                                            · rw [if_neg c25] at H
                                              have c25b0 : decide ((rd (rd_L1 l0 x19_1) x23_2) ≤ (rd (rd_L1 l0 x19_1) (ji22))) = false := decide_eq_false c25
                                              clear c25
                                              by_cases c26 : 0 ≤ (rd (rd_L1 l0 x19_1) x23_2)
                                              · rw [if_pos c26] at H
                                                have c26b0 := eq_true c26
                                                have c26b1 : decide (0 ≤ (rd (rd_L1 l0 x19_1) x23_2)) = true := decide_eq_true c26
                                                clear c26
                                                obtain ⟨ji27, hji27⟩ : ∃ j_ : Int, (shl .i64 1 (rd (rd_L1 l0 x19_1) x23_2)) = j_ := ⟨_, rfl⟩
                                                replace H : (impl_IsTableau.l1 k2 l0 t234 t235 (Go.bits .or .i64 x6_2 (ji27)) x19_1 t234 x19_1 t235 (wrap64 (x23_2 + 1))) = some r := by first | (rw [hji27] at H; exact H) | (simp only [hji27] at H ⊢; exact H)
                                                (try rw [hji27] at A11)
                                                (try rw [hji27] at A13)
                                                have hji27_ : (IntKind.i64.wrap (1 * 2 ^ min (rd (rd_L1 l0 x19_1) x23_2).toNat 64)) = ji27 := hji27
                                                have hji27z : (rd (rd_L1 l0 x19_1) x23_2) ≤ 64 → (IntKind.i64.wrap (1 * 2 ^ (rd (rd_L1 l0 x19_1) x23_2).toNat)) = ji27 := shl_small hji27
                                                have hji27u : (IntKind.i64.wrap (2 ^ min (rd (rd_L1 l0 x19_1) x23_2).toNat 64)) = ji27 := by have h_ := hji27_; rw [Int.one_mul] at h_; exact h_
                                                have hji27v : (rd (rd_L1 l0 x19_1) x23_2) ≤ 64 → (IntKind.i64.wrap (2 ^ (rd (rd_L1 l0 x19_1) x23_2).toNat)) = ji27 := fun hle_ => by have h_ := hji27z hle_; rw [Int.one_mul] at h_; exact h_
                                                have hji27y : (wrap64 (1 * 2 ^ min (rd (rd_L1 l0 x19_1) x23_2).toNat 64)) = ji27 := (i64_w _).symm.trans hji27_
                                                have hji27x : (rd (rd_L1 l0 x19_1) x23_2) ≤ 64 → (wrap64 (1 * 2 ^ (rd (rd_L1 l0 x19_1) x23_2).toNat)) = ji27 := fun h_ => (i64_w _).symm.trans (hji27z h_)
                                                have H' := Aside0.mk H
                                                clear H
                                                have p237 : 0 ≤ (x19_1 : Int) := of_decide_eq_true (by first | (with_reducible assumption) | assumption)
                                                have q237 : x19_1 < (l0.length : Int) := of_decide_eq_true (by first | (with_reducible assumption) | assumption)
                                                obtain ⟨ad237, A237_0, c237_0, e237, hx237_0, hl237_0, hi237_0⟩ := at_L1 HR0.out x19_1 p237 q237
                                                cases e237
                                                replace hx237_0 := (HB.out.cell (World.block_lt_of_cell? w _ hx237_0)).trans hx237_0
                                                have HR237_0 := Aside0.mk hi237_0
                                                have HC237_0 := Aside0.mk hl237_0
                                                clear hi237_0 hl237_0
                                                replace p237 := eq_true p237
                                                replace q237 := eq_true q237
                                                have p238 : 0 ≤ (x23_2 : Int) := of_decide_eq_true (by first | (with_reducible assumption) | assumption)
                                                have q238 : x23_2 < ((rd_L1 l0 x19_1).length : Int) := of_decide_eq_true (by first | (with_reducible assumption) | assumption)
                                                obtain ⟨ad238, e238, hx238_0⟩ := Kd.at_int HR237_0.out x23_2 p238 q238
                                                cases e238
                                                replace hx238_0 := (HB.out.cell (World.block_lt_of_cell? w _ hx238_0)).trans hx238_0
                                                replace p238 := eq_true p238
                                                replace q238 := eq_true q238
                                                go_wp2_with (first | ((with_reducible refine gate_callee (f := 27) rfl ?_); refine goesL_ (some 38) rfl rfl Try.func27 (by kernel_rfl) rfl #[.int .i64 (rd (rd_L1 l0 x19_1) x23_2), .int .i64 0, .int .i64 (wrap64 ((wrap64 (t234 * t235)) - 1))] rfl (by (try simp only [List.map_toArray, List.map_cons, List.map_nil]); first | done | rfl | (simp only [List.length_drop, List.length_take]; rfl)) ?_; (with_reducible refine (impl_within.calls (rd (rd_L1 l0 x19_1) x23_2) 0 (wrap64 ((wrap64 (t234 * t235)) - 1)) true _ A11.out).mono ?_); rintro e w' ⟨rfl, ⟨nd, rfl⟩⟩; refine ⟨_, rfl, ?_⟩) | (go_at_call 42; (with_reducible refine (impl_has.calls x6_2 (rd (rd_L1 l0 x19_1) x23_2) false _ A13.out).mono ?_); rintro e w' ⟨rfl, ⟨nd, rfl⟩⟩; have p241 : 0 ≤ ((ji16) : Int) := of_decide_eq_true (by first | (with_reducible assumption) | assumption); have q241 : (ji16) < (l0.length : Int) := of_decide_eq_true (by first | (with_reducible assumption) | assumption); obtain ⟨ad241, A241_0, c241_0, e241, hx241_0, hl241_0, hi241_0⟩ := at_L1 HR0.out (ji16) p241 q241; obtain rfl : ad237 = ad241 := (by injection e241); replace hx241_0 := (HB.out.cell (World.block_lt_of_cell? w _ hx241_0)).trans hx241_0; have HR241_0 := Aside0.mk hi241_0; have HC241_0 := Aside0.mk hl241_0; clear hi241_0 hl241_0; replace p241 := eq_true p241; replace q241 := eq_true q241; have p242 : 0 ≤ (x23_2 : Int) := of_decide_eq_true (by first | (with_reducible assumption) | assumption); have q242 : x23_2 < ((rd_L1 l0 (ji16)).length : Int) := of_decide_eq_true (by first | (with_reducible assumption) | assumption); obtain ⟨ad242, e242, hx242_0⟩ := Kd.at_int HR241_0.out x23_2 p242 q242; cases e242; replace hx242_0 := (HB.out.cell (World.block_lt_of_cell? w _ hx242_0)).trans hx242_0; replace p242 := eq_true p242; replace q242 := eq_true q242; have p243 : 0 ≤ (x19_1 : Int) := of_decide_eq_true (by first | (with_reducible assumption) | assumption); have q243 : x19_1 < (l0.length : Int) := of_decide_eq_true (by first | (with_reducible assumption) | assumption); obtain ⟨ad243, A243_0, c243_0, e243, hx243_0, hl243_0, hi243_0⟩ := at_L1 HR0.out x19_1 p243 q243; obtain rfl : ad237 = ad243 := (by injection e243); replace hx243_0 := (HB.out.cell (World.block_lt_of_cell? w _ hx243_0)).trans hx243_0; have HR243_0 := Aside0.mk hi243_0; have HC243_0 := Aside0.mk hl243_0; clear hi243_0 hl243_0; replace p243 := eq_true p243; replace q243 := eq_true q243; have ea_ := Option.some.inj (hx237_0.symm.trans hx243_0); injection ea_ with ea_ en_ ec_; subst ea_; subst ec_; clear en_; have p244 : 0 ≤ ((ji22) : Int) := of_decide_eq_true (by first | (with_reducible assumption) | assumption); have q244 : (ji22) < ((rd_L1 l0 x19_1).length : Int) := of_decide_eq_true (by first | (with_reducible assumption) | assumption); obtain ⟨ad244, e244, hx244_0⟩ := Kd.at_int HR243_0.out (ji22) p244 q244; cases e244; replace hx244_0 := (HB.out.cell (World.block_lt_of_cell? w _ hx244_0)).trans hx244_0; replace p244 := eq_true p244; replace q244 := eq_true q244))
                                                go_roundg k2
                                                case measure => have := HK1.out; have := HK2.out; omega
                                                case rel => exact ⟨(Go.bits .or .i64 x6_2 (ji27)), (wrap64 (x23_2 + 1)), (by first | rfl | (simp; done) | (simp only [← hji27] <;> (first | rfl | simp)) | (simp [*]; done)), (by first | rfl | (simp; done) | (simp [*]; done)), H', ⟨by have := HK1.out; have := HK2.out; omega⟩, ⟨by repeat (first | (with_reducible first | exact HB.out | apply below_alloc | apply pw_below_drewN | apply below_drew1) | exact HB.out)⟩⟩
                                              · rw [if_neg c26] at H
                                                exact absurd H (by simp)
                                          · rw [if_neg c24] at H
                                            exact absurd H (by simp)
                                        · rw [if_neg c23] at H
                                          exact absurd H (by simp)
                                      · rw [if_neg c21] at H
                                        have c21b0 : decide (0 < x23_2) = false := decide_eq_false c21
                                        clear c21
                                        by_cases c28 : 0 ≤ (rd (rd_L1 l0 x19_1) x23_2)
                                        · rw [if_pos c28] at H
                                          have c28b0 := eq_true c28
                                          have c28b1 : decide (0 ≤ (rd (rd_L1 l0 x19_1) x23_2)) = true := decide_eq_true c28
                                          clear c28
                                          obtain ⟨ji29, hji29⟩ : ∃ j_ : Int, (shl .i64 1 (rd (rd_L1 l0 x19_1) x23_2)) = j_ := ⟨_, rfl⟩
                                          replace H : (impl_IsTableau.l1 k2 l0 t234 t235 (Go.bits .or .i64 x6_2 (ji29)) x19_1 t234 x19_1 t235 (wrap64 (x23_2 + 1))) = some r := by first | (rw [hji29] at H; exact H) | (simp only [hji29] at H ⊢; exact H)
                                          (try rw [hji29] at A11)
                                          (try rw [hji29] at A13)
                                          have hji29_ : (IntKind.i64.wrap (1 * 2 ^ min (rd (rd_L1 l0 x19_1) x23_2).toNat 64)) = ji29 := hji29
                                          have hji29z : (rd (rd_L1 l0 x19_1) x23_2) ≤ 64 → (IntKind.i64.wrap (1 * 2 ^ (rd (rd_L1 l0 x19_1) x23_2).toNat)) = ji29 := shl_small hji29
                                          have hji29u : (IntKind.i64.wrap (2 ^ min (rd (rd_L1 l0 x19_1) x23_2).toNat 64)) = ji29 := by have h_ := hji29_; rw [Int.one_mul] at h_; exact h_
                                          have hji29v : (rd (rd_L1 l0 x19_1) x23_2) ≤ 64 → (IntKind.i64.wrap (2 ^ (rd (rd_L1 l0 x19_1) x23_2).toNat)) = ji29 := fun hle_ => by have h_ := hji29z hle_; rw [Int.one_mul] at h_; exact h_
                                          have hji29y : (wrap64 (1 * 2 ^ min (rd (rd_L1 l0 x19_1) x23_2).toNat 64)) = ji29 := (i64_w _).symm.trans hji29_
                                          have hji29x : (rd (rd_L1 l0 x19_1) x23_2) ≤ 64 → (wrap64 (1 * 2 ^ (rd (rd_L1 l0 x19_1) x23_2).toNat)) = ji29 := fun h_ => (i64_w _).symm.trans (hji29z h_)
                                          have H' := Aside0.mk H
                                          clear H
                                          have p237 : 0 ≤ (x19_1 : Int) := of_decide_eq_true (by first | (with_reducible assumption) | assumption)
                                          have q237 : x19_1 < (l0.length : Int) := of_decide_eq_true (by first | (with_reducible assumption) | assumption)
                                          obtain ⟨ad237, A237_0, c237_0, e237, hx237_0, hl237_0, hi237_0⟩ := at_L1 HR0.out x19_1 p237 q237
                                          cases e237
                                          replace hx237_0 := (HB.out.cell (World.block_lt_of_cell? w _ hx237_0)).trans hx237_0
                                          have HR237_0 := Aside0.mk hi237_0
                                          have HC237_0 := Aside0.mk hl237_0
                                          clear hi237_0 hl237_0
                                          replace p237 := eq_true p237
                                          replace q237 := eq_true q237
                                          have p238 : 0 ≤ (x23_2 : Int) := of_decide_eq_true (by first | (with_reducible assumption) | assumption)
                                          have q238 : x23_2 < ((rd_L1 l0 x19_1).length : Int) := of_decide_eq_true (by first | (with_reducible assumption) | assumption)
                                          obtain ⟨ad238, e238, hx238_0⟩ := Kd.at_int HR237_0.out x23_2 p238 q238
                                          cases e238
                                          replace hx238_0 := (HB.out.cell (World.block_lt_of_cell? w _ hx238_0)).trans hx238_0
                                          replace p238 := eq_true p238
                                          replace q238 := eq_true q238
                                          go_wp2_with (first | ((with_reducible refine gate_callee (f := 27) rfl ?_); refine goesL_ (some 38) rfl rfl Try.func27 (by kernel_rfl) rfl #[.int .i64 (rd (rd_L1 l0 x19_1) x23_2), .int .i64 0, .int .i64 (wrap64 ((wrap64 (t234 * t235)) - 1))] rfl (by (try simp only [List.map_toArray, List.map_cons, List.map_nil]); first | done | rfl | (simp only [List.length_drop, List.length_take]; rfl)) ?_; (with_reducible refine (impl_within.calls (rd (rd_L1 l0 x19_1) x23_2) 0 (wrap64 ((wrap64 (t234 * t235)) - 1)) true _ A11.out).mono ?_); rintro e w' ⟨rfl, ⟨nd, rfl⟩⟩; refine ⟨_, rfl, ?_⟩) | (go_at_call 42; (with_reducible refine (impl_has.calls x6_2 (rd (rd_L1 l0 x19_1) x23_2) false _ A13.out).mono ?_); rintro e w' ⟨rfl, ⟨nd, rfl⟩⟩; have p241 : 0 ≤ ((ji16) : Int) := of_decide_eq_true (by first | (with_reducible assumption) | assumption); have q241 : (ji16) < (l0.length : Int) := of_decide_eq_true (by first | (with_reducible assumption) | assumption); obtain ⟨ad241, A241_0, c241_0, e241, hx241_0, hl241_0, hi241_0⟩ := at_L1 HR0.out (ji16) p241 q241; obtain rfl : ad237 = ad241 := (by injection e241); replace hx241_0 := (HB.out.cell (World.block_lt_of_cell? w _ hx241_0)).trans hx241_0; have HR241_0 := Aside0.mk hi241_0; have HC241_0 := Aside0.mk hl241_0; clear hi241_0 hl241_0; replace p241 := eq_true p241; replace q241 := eq_true q241; have p242 : 0 ≤ (x23_2 : Int) := of_decide_eq_true (by first | (with_reducible assumption) | assumption); have q242 : x23_2 < ((rd_L1 l0 (ji16)).length : Int) := of_decide_eq_true (by first | (with_reducible assumption) | assumption); obtain ⟨ad242, e242, hx242_0⟩ := Kd.at_int HR241_0.out x23_2 p242 q242; cases e242; replace hx242_0 := (HB.out.cell (World.block_lt_of_cell? w _ hx242_0)).trans hx242_0; replace p242 := eq_true p242; replace q242 := eq_true q242))
                                          go_roundg k2
                                          case measure => have := HK1.out; have := HK2.out; omega
                                          case rel => exact ⟨(Go.bits .or .i64 x6_2 (ji29)), (wrap64 (x23_2 + 1)), (by first | rfl | (simp; done) | (simp only [← hji29] <;> (first | rfl | simp)) | (simp [*]; done)), (by first | rfl | (simp; done) | (simp [*]; done)), H', ⟨by have := HK1.out; have := HK2.out; omega⟩, ⟨by repeat (first | (with_reducible first | exact HB.out | apply below_alloc | apply pw_below_drewN | apply below_drew1) | exact HB.out)⟩⟩
                                        · rw [if_neg c28] at H
                                          exact absurd H (by simp)
                                  · rw [if_neg c19] at H
                                    exact absurd H (by simp)
                                · rw [if_neg c18] at H
                                  exact absurd H (by simp)
                              · rw [if_neg c17] at H
                                exact absurd H (by simp)
                            · rw [if_neg c15] at H
                              have c15b0 : decide (0 < x19_1) = false := decide_eq_false c15
                              clear c15
                              by_cases c30 : x23_2 > 0
                              · rw [if_pos c30] at H
                                have c30b0 : decide (0 < x23_2) = true := decide_eq_true c30
                                clear c30
                                obtain ⟨ji31, hji31⟩ : ∃ j_ : Int, (wrap64 (x23_2 - 1)) = j_ := ⟨_, rfl⟩
                                replace H : (if 0 ≤ (ji31) then (if (ji31) < ((rd_L1 l0 x19_1).length : Int) then (if (rd (rd_L1 l0 x19_1) x23_2) ≤ (rd (rd_L1 l0 x19_1) (ji31)) then (some false) else (if 0 ≤ (rd (rd_L1 l0 x19_1) x23_2) then (impl_IsTableau.l1 k2 l0 t234 t235 (Go.bits .or .i64 x6_2 (shl .i64 1 (rd (rd_L1 l0 x19_1) x23_2))) x19_1 t234 x19_1 t235 (wrap64 (x23_2 + 1))) else (none))) else (none)) else (none)) = some r := by first | (rw [hji31] at H; exact H) | (simp only [hji31] at H ⊢; exact H)
                                (try rw [hji31] at A11)
                                (try rw [hji31] at A13)
                                have hji31w : (IntKind.i64.wrap (x23_2 - 1)) = ji31 := (i64_w _).trans hji31
                                by_cases c32 : 0 ≤ (ji31)
                                · rw [if_pos c32] at H
                                  have c32b0 : decide (0 ≤ (ji31)) = true := decide_eq_true c32
                                  clear c32
                                  by_cases c33 : (ji31) < ((rd_L1 l0 x19_1).length : Int)
                                  · rw [if_pos c33] at H
                                    have c33b0 : decide ((ji31) < ((rd_L1 l0 x19_1).length : Int)) = true := decide_eq_true c33
                                    clear c33
                                    by_cases c34 : (rd (rd_L1 l0 x19_1) x23_2) ≤ (rd (rd_L1 l0 x19_1) (ji31))
                                    · rw [if_pos c34] at H
                                      have c34b0 : decide ((rd (rd_L1 l0 x19_1) x23_2) ≤ (rd (rd_L1 l0 x19_1) (ji31))) = true := decide_eq_true c34
                                      clear c34
                                      obtain rfl := Option.some.inj H
                                      have p237 : 0 ≤ (x19_1 : Int) := of_decide_eq_true (by first | (with_reducible assumption) | assumption)
                                      have q237 : x19_1 < (l0.length : Int) := of_decide_eq_true (by first | (with_reducible assumption) | assumption)
                                      obtain ⟨ad237, A237_0, c237_0, e237, hx237_0, hl237_0, hi237_0⟩ := at_L1 HR0.out x19_1 p237 q237
                                      cases e237
                                      replace hx237_0 := (HB.out.cell (World.block_lt_of_cell? w _ hx237_0)).trans hx237_0
                                      have HR237_0 := Aside0.mk hi237_0
                                      have HC237_0 := Aside0.mk hl237_0
                                      clear hi237_0 hl237_0
                                      replace p237 := eq_true p237
                                      replace q237 := eq_true q237
                                      have p238 : 0 ≤ (x23_2 : Int) := of_decide_eq_true (by first | (with_reducible assumption) | assumption)
                                      have q238 : x23_2 < ((rd_L1 l0 x19_1).length : Int) := of_decide_eq_true (by first | (with_reducible assumption) | assumption)
                                      obtain ⟨ad238, e238, hx238_0⟩ := Kd.at_int HR237_0.out x23_2 p238 q238
                                      cases e238
                                      replace hx238_0 := (HB.out.cell (World.block_lt_of_cell? w _ hx238_0)).trans hx238_0
                                      replace p238 := eq_true p238
                                      replace q238 := eq_true q238
                                      go_wp2_with (first | ((with_reducible refine gate_callee (f := 27) rfl ?_); refine goesL_ (some 38) rfl rfl Try.func27 (by kernel_rfl) rfl #[.int .i64 (rd (rd_L1 l0 x19_1) x23_2), .int .i64 0, .int .i64 (wrap64 ((wrap64 (t234 * t235)) - 1))] rfl (by (try simp only [List.map_toArray, List.map_cons, List.map_nil]); first | done | rfl | (simp only [List.length_drop, List.length_take]; rfl)) ?_; (with_reducible refine (impl_within.calls (rd (rd_L1 l0 x19_1) x23_2) 0 (wrap64 ((wrap64 (t234 * t235)) - 1)) true _ A11.out).mono ?_); rintro e w' ⟨rfl, ⟨nd, rfl⟩⟩; refine ⟨_, rfl, ?_⟩) | (go_at_call 42; (with_reducible refine (impl_has.calls x6_2 (rd (rd_L1 l0 x19_1) x23_2) false _ A13.out).mono ?_); rintro e w' ⟨rfl, ⟨nd, rfl⟩⟩; have p245 : 0 ≤ (x19_1 : Int) := of_decide_eq_true (by first | (with_reducible assumption) | assumption); have q245 : x19_1 < (l0.length : Int) := of_decide_eq_true (by first | (with_reducible assumption) | assumption); obtain ⟨ad245, A245_0, c245_0, e245, hx245_0, hl245_0, hi245_0⟩ := at_L1 HR0.out x19_1 p245 q245; obtain rfl : ad237 = ad245 := (by injection e245); replace hx245_0 := (HB.out.cell (World.block_lt_of_cell? w _ hx245_0)).trans hx245_0; have HR245_0 := Aside0.mk hi245_0; have HC245_0 := Aside0.mk hl245_0; clear hi245_0 hl245_0; replace p245 := eq_true p245; replace q245 := eq_true q245; have ea_ := Option.some.inj (hx237_0.symm.trans hx245_0); injection ea_ with ea_ en_ ec_; subst ea_; subst ec_; clear en_; have p246 : 0 ≤ ((ji31) : Int) := of_decide_eq_true (by first | (with_reducible assumption) | assumption); have q246 : (ji31) < ((rd_L1 l0 x19_1).length : Int) := of_decide_eq_true (by first | (with_reducible assumption) | assumption); obtain ⟨ad246, e246, hx246_0⟩ := Kd.at_int HR245_0.out (ji31) p246 q246; cases e246; replace hx246_0 := (HB.out.cell (World.block_lt_of_cell? w _ hx246_0)).trans hx246_0; replace p246 := eq_true p246; replace q246 := eq_true q246))
                                      go_ret
                                      exact ⟨by first | rfl | (simp [errW_none, errW_some] <;> rfl) | (simp only [← hji31]; first | rfl | (simp [errW_none, errW_some] <;> rfl)) | (simp [*, errW_none, errW_some] <;> rfl), by repeat (first | (with_reducible first | exact HB.out | apply below_alloc | apply pw_below_drewN | apply below_drew1) | exact HB.out)⟩
                                    · rw [if_neg c34] at H
                                      have c34b0 : decide ((rd (rd_L1 l0 x19_1) x23_2) ≤ (rd (rd_L1 l0 x19_1) (ji31))) = false := decide_eq_false c34
                                      clear c34
                                      by_cases c35 : 0 ≤ (rd (rd_L1 l0 x19_1) x23_2)
                                      · rw [if_pos c35] at H
                                        have c35b0 := eq_true c35
                                        have c35b1 : decide (0 ≤ (rd (rd_L1 l0 x19_1) x23_2)) = true := decide_eq_true c35
                                        clear c35
                                        obtain ⟨ji36, hji36⟩ : ∃ j_ : Int, (shl .i64 1 (rd (rd_L1 l0 x19_1) x23_2)) = j_ := ⟨_, rfl⟩
                                        replace H : (impl_IsTableau.l1 k2 l0 t234 t235 (Go.bits .or .i64 x6_2 (ji36)) x19_1 t234 x19_1 t235 (wrap64 (x23_2 + 1))) = some r := by first | (rw [hji36] at H; exact H) | (simp only [hji36] at H ⊢; exact H)
                                        (try rw [hji36] at A11)
                                        (try rw [hji36] at A13)
                                        have hji36_ : (IntKind.i64.wrap (1 * 2 ^ min (rd (rd_L1 l0 x19_1) x23_2).toNat 64)) = ji36 := hji36
                                        have hji36z : (rd (rd_L1 l0 x19_1) x23_2) ≤ 64 → (IntKind.i64.wrap (1 * 2 ^ (rd (rd_L1 l0 x19_1) x23_2).toNat)) = ji36 := shl_small hji36
                                        have hji36u : (IntKind.i64.wrap (2 ^ min (rd (rd_L1 l0 x19_1) x23_2).toNat 64)) = ji36 := by have h_ := hji36_; rw [Int.one_mul] at h_; exact h_
                                        have hji36v : (rd (rd_L1 l0 x19_1) x23_2) ≤ 64 → (IntKind.i64.wrap (2 ^ (rd (rd_L1 l0 x19_1) x23_2).toNat)) = ji36 := fun hle_ => by have h_ := hji36z hle_; rw [Int.one_mul] at h_; exact h_
                                        have hji36y : (wrap64 (1 * 2 ^ min (rd (rd_L1 l0 x19_1) x23_2).toNat 64)) = ji36 := (i64_w _).symm.trans hji36_
                                        have hji36x : (rd (rd_L1 l0 x19_1) x23_2) ≤ 64 → (wrap64 (1 * 2 ^ (rd (rd_L1 l0 x19_1) x23_2).toNat)) = ji36 := fun h_ => (i64_w _).symm.trans (hji36z h_)
                                        have H' := Aside0.mk H
                                        clear H
                                        have p237 : 0 ≤ (x19_1 : Int) := of_decide_eq_true (by first | (with_reducible assumption) | assumption)
                                        have q237 : x19_1 < (l0.length : Int) := of_decide_eq_true (by first | (with_reducible assumption) | assumption)
                                        obtain ⟨ad237, A237_0, c237_0, e237, hx237_0, hl237_0, hi237_0⟩ := at_L1 HR0.out x19_1 p237 q237
                                        cases e237
                                        replace hx237_0 := (HB.out.cell (World.block_lt_of_cell? w _ hx237_0)).trans hx237_0
                                        have HR237_0 := Aside0.mk hi237_0
                                        have HC237_0 := Aside0.mk hl237_0
                                        clear hi237_0 hl237_0
                                        replace p237 := eq_true p237
                                        replace q237 := eq_true q237
                                        have p238 : 0 ≤ (x23_2 : Int) := of_decide_eq_true (by first | (with_reducible assumption) | assumption)
                                        have q238 : x23_2 < ((rd_L1 l0 x19_1).length : Int) := of_decide_eq_true (by first | (with_reducible assumption) | assumption)
                                        obtain ⟨ad238, e238, hx238_0⟩ := Kd.at_int HR237_0.out x23_2 p238 q238
                                        cases e238
                                        replace hx238_0 := (HB.out.cell (World.block_lt_of_cell? w _ hx238_0)).trans hx238_0
                                        replace p238 := eq_true p238
                                        replace q238 := eq_true q238
                                        go_wp2_with (first | ((with_reducible refine gate_callee (f := 27) rfl ?_); refine goesL_ (some 38) rfl rfl Try.func27 (by kernel_rfl) rfl #[.int .i64 (rd (rd_L1 l0 x19_1) x23_2), .int .i64 0, .int .i64 (wrap64 ((wrap64 (t234 * t235)) - 1))] rfl (by (try simp only [List.map_toArray, List.map_cons, List.map_nil]); first | done | rfl | (simp only [List.length_drop, List.length_take]; rfl)) ?_; (with_reducible refine (impl_within.calls (rd (rd_L1 l0 x19_1) x23_2) 0 (wrap64 ((wrap64 (t234 * t235)) - 1)) true _ A11.out).mono ?_); rintro e w' ⟨rfl, ⟨nd, rfl⟩⟩; refine ⟨_, rfl, ?_⟩) | (go_at_call 42; (with_reducible refine (impl_has.calls x6_2 (rd (rd_L1 l0 x19_1) x23_2) false _ A13.out).mono ?_); rintro e w' ⟨rfl, ⟨nd, rfl⟩⟩; have p245 : 0 ≤ (x19_1 : Int) := of_decide_eq_true (by first | (with_reducible assumption) | assumption); have q245 : x19_1 < (l0.length : Int) := of_decide_eq_true (by first | (with_reducible assumption) | assumption); obtain ⟨ad245, A245_0, c245_0, e245, hx245_0, hl245_0, hi245_0⟩ := at_L1 HR0.out x19_1 p245 q245; obtain rfl : ad237 = ad245 := (by injection e245); replace hx245_0 := (HB.out.cell (World.block_lt_of_cell? w _ hx245_0)).trans hx245_0; have HR245_0 := Aside0.mk hi245_0; have HC245_0 := Aside0.mk hl245_0; clear hi245_0 hl245_0; replace p245 := eq_true p245; replace q245 := eq_true q245; have ea_ := Option.some.inj (hx237_0.symm.trans hx245_0); injection ea_ with ea_ en_ ec_; subst ea_; subst ec_; clear en_; have p246 : 0 ≤ ((ji31) : Int) := of_decide_eq_true (by first | (with_reducible assumption) | assumption); have q246 : (ji31) < ((rd_L1 l0 x19_1).length : Int) := of_decide_eq_true (by first | (with_reducible assumption) | assumption); obtain ⟨ad246, e246, hx246_0⟩ := Kd.at_int HR245_0.out (ji31) p246 q246; cases e246; replace hx246_0 := (HB.out.cell (World.block_lt_of_cell? w _ hx246_0)).trans hx246_0; replace p246 := eq_true p246; replace q246 := eq_true q246))
                                        go_roundg k2
                                        case measure => have := HK1.out; have := HK2.out; omega
                                        case rel => exact ⟨(Go.bits .or .i64 x6_2 (ji36)), (wrap64 (x23_2 + 1)), (by first | rfl | (simp; done) | (simp only [← hji36] <;> (first | rfl | simp)) | (simp [*]; done)), (by first | rfl | (simp; done) | (simp [*]; done)), H', ⟨by have := HK1.out; have := HK2.out; omega⟩, ⟨by repeat (first | (with_reducible first | exact HB.out | apply below_alloc | apply pw_below_drewN | apply below_drew1) | exact HB.out)⟩⟩
                                      · rw [if_neg c35] at H
                                        exact absurd H (by simp)
                                  · rw [if_neg c33] at H
                                    exact absurd H (by simp)
                                · rw [if_neg c32] at H
                                  exact absurd H (by simp)
                              · rw [if_neg c30] at H
                                have c30b0 : decide (0 < x23_2) = false := decide_eq_false c30
                                clear c30
                                by_cases c37 : 0 ≤ (rd (rd_L1 l0 x19_1) x23_2)
                                · rw [if_pos c37] at H
                                  have c37b0 := eq_true c37
                                  have c37b1 : decide (0 ≤ (rd (rd_L1 l0 x19_1) x23_2)) = true := decide_eq_true c37
                                  clear c37
                                  obtain ⟨ji38, hji38⟩ : ∃ j_ : Int, (shl .i64 1 (rd (rd_L1 l0 x19_1) x23_2)) = j_ := ⟨_, rfl⟩
                                  replace H : (impl_IsTableau.l1 k2 l0 t234 t235 (Go.bits .or .i64 x6_2 (ji38)) x19_1 t234 x19_1 t235 (wrap64 (x23_2 + 1))) = some r := by first | (rw [hji38] at H; exact H) | (simp only [hji38] at H ⊢; exact H)
                                  (try rw [hji38] at A11)
                                  (try rw [hji38] at A13)
                                  have hji38_ : (IntKind.i64.wrap (1 * 2 ^ min (rd (rd_L1 l0 x19_1) x23_2).toNat 64)) = ji38 := hji38
                                  have hji38z : (rd (rd_L1 l0 x19_1) x23_2) ≤ 64 → (IntKind.i64.wrap (1 * 2 ^ (rd (rd_L1 l0 x19_1) x23_2).toNat)) = ji38 := shl_small hji38
                                  have hji38u : (IntKind.i64.wrap (2 ^ min (rd (rd_L1 l0 x19_1) x23_2).toNat 64)) = ji38 := by have h_ := hji38_; rw [Int.one_mul] at h_; exact h_
                                  have hji38v : (rd (rd_L1 l0 x19_1) x23_2) ≤ 64 → (IntKind.i64.wrap (2 ^ (rd (rd_L1 l0 x19_1) x23_2).toNat)) = ji38 := fun hle_ => by have h_ := hji38z hle_; rw [Int.one_mul] at h_; exact h_
                                  have hji38y : (wrap64 (1 * 2 ^ min (rd (rd_L1 l0 x19_1) x23_2).toNat 64)) = ji38 := (i64_w _).symm.trans hji38_
                                  have hji38x : (rd (rd_L1 l0 x19_1) x23_2) ≤ 64 → (wrap64 (1 * 2 ^ (rd (rd_L1 l0 x19_1) x23_2).toNat)) = ji38 := fun h_ => (i64_w _).symm.trans (hji38z h_)
                                  have H' := Aside0.mk H
                                  clear H
                                  have p237 : 0 ≤ (x19_1 : Int) := of_decide_eq_true (by first | (with_reducible assumption) | assumption)
                                  have q237 : x19_1 < (l0.length : Int) := of_decide_eq_true (by first | (with_reducible assumption) | assumption)
                                  obtain ⟨ad237, A237_0, c237_0, e237, hx237_0, hl237_0, hi237_0⟩ := at_L1 HR0.out x19_1 p237 q237
                                  cases e237
                                  replace hx237_0 := (HB.out.cell (World.block_lt_of_cell? w _ hx237_0)).trans hx237_0
                                  have HR237_0 := Aside0.mk hi237_0
                                  have HC237_0 := Aside0.mk hl237_0
                                  clear hi237_0 hl237_0
                                  replace p237 := eq_true p237
                                  replace q237 := eq_true q237
                                  have p238 : 0 ≤ (x23_2 : Int) := of_decide_eq_true (by first | (with_reducible assumption) | assumption)
                                  have q238 : x23_2 < ((rd_L1 l0 x19_1).length : Int) := of_decide_eq_true (by first | (with_reducible assumption) | assumption)
                                  obtain ⟨ad238, e238, hx238_0⟩ := Kd.at_int HR237_0.out x23_2 p238 q238
                                  cases e238
                                  replace hx238_0 := (HB.out.cell (World.block_lt_of_cell? w _ hx238_0)).trans hx238_0
                                  replace p238 := eq_true p238
                                  replace q238 := eq_true q238
                                  go_wp2_with (first | ((with_reducible refine gate_callee (f := 27) rfl ?_); refine goesL_ (some 38) rfl rfl Try.func27 (by kernel_rfl) rfl #[.int .i64 (rd (rd_L1 l0 x19_1) x23_2), .int .i64 0, .int .i64 (wrap64 ((wrap64 (t234 * t235)) - 1))] rfl (by (try simp only [List.map_toArray, List.map_cons, List.map_nil]); first | done | rfl | (simp only [List.length_drop, List.length_take]; rfl)) ?_; (with_reducible refine (impl_within.calls (rd (rd_L1 l0 x19_1) x23_2) 0 (wrap64 ((wrap64 (t234 * t235)) - 1)) true _ A11.out).mono ?_); rintro e w' ⟨rfl, ⟨nd, rfl⟩⟩; refine ⟨_, rfl, ?_⟩) | (go_at_call 42; (with_reducible refine (impl_has.calls x6_2 (rd (rd_L1 l0 x19_1) x23_2) false _ A13.out).mono ?_); rintro e w' ⟨rfl, ⟨nd, rfl⟩⟩))
                                  go_roundg k2
                                  case measure => have := HK1.out; have := HK2.out; omega
                                  case rel => exact ⟨(Go.bits .or .i64 x6_2 (ji38)), (wrap64 (x23_2 + 1)), (by first | rfl | (simp; done) | (simp only [← hji38] <;> (first | rfl | simp)) | (simp [*]; done)), (by first | rfl | (simp; done) | (simp [*]; done)), H', ⟨by have := HK1.out; have := HK2.out; omega⟩, ⟨by repeat (first | (with_reducible first | exact HB.out | apply below_alloc | apply pw_below_drewN | apply below_drew1) | exact HB.out)⟩⟩
                                · rw [if_neg c37] at H
                                  exact absurd H (by simp)
                        · replace c12 := Bool.eq_false_iff.mpr c12
                          subst c12
                          have H1 : (some false) = some r := by rw [if_neg (show ¬ (false = true) by decide)] at H; exact H
                          clear H
                          have H := H1
                          clear H1
                          obtain rfl := Option.some.inj H
                          have p237 : 0 ≤ (x19_1 : Int) := of_decide_eq_true (by first | (with_reducible assumption) | assumption)
                          have q237 : x19_1 < (l0.length : Int) := of_decide_eq_true (by first | (with_reducible assumption) | assumption)
                          obtain ⟨ad237, A237_0, c237_0, e237, hx237_0, hl237_0, hi237_0⟩ := at_L1 HR0.out x19_1 p237 q237
                          cases e237
                          replace hx237_0 := (HB.out.cell (World.block_lt_of_cell? w _ hx237_0)).trans hx237_0
                          have HR237_0 := Aside0.mk hi237_0
                          have HC237_0 := Aside0.mk hl237_0
                          clear hi237_0 hl237_0
                          replace p237 := eq_true p237
                          replace q237 := eq_true q237
                          have p238 : 0 ≤ (x23_2 : Int) := of_decide_eq_true (by first | (with_reducible assumption) | assumption)
                          have q238 : x23_2 < ((rd_L1 l0 x19_1).length : Int) := of_decide_eq_true (by first | (with_reducible assumption) | assumption)
                          obtain ⟨ad238, e238, hx238_0⟩ := Kd.at_int HR237_0.out x23_2 p238 q238
                          cases e238
                          replace hx238_0 := (HB.out.cell (World.block_lt_of_cell? w _ hx238_0)).trans hx238_0
                          replace p238 := eq_true p238
                          replace q238 := eq_true q238
                          go_wp2_with (first | ((with_reducible refine gate_callee (f := 27) rfl ?_); refine goesL_ (some 38) rfl rfl Try.func27 (by kernel_rfl) rfl #[.int .i64 (rd (rd_L1 l0 x19_1) x23_2), .int .i64 0, .int .i64 (wrap64 ((wrap64 (t234 * t235)) - 1))] rfl (by (try simp only [List.map_toArray, List.map_cons, List.map_nil]); first | done | rfl | (simp only [List.length_drop, List.length_take]; rfl)) ?_; (with_reducible refine (impl_within.calls (rd (rd_L1 l0 x19_1) x23_2) 0 (wrap64 ((wrap64 (t234 * t235)) - 1)) false _ A11.out).mono ?_); rintro e w' ⟨rfl, ⟨nd, rfl⟩⟩; refine ⟨_, rfl, ?_⟩))
                          go_ret
                          exact ⟨by first | rfl | (simp [errW_none, errW_some] <;> rfl) | (simp [*, errW_none, errW_some] <;> rfl), by repeat (first | (with_reducible first | exact HB.out | apply below_alloc | apply pw_below_drewN | apply below_drew1) | exact HB.out)⟩
                      · rw [if_neg c10] at H
                        exact absurd H (by simp)
                    · rw [if_neg c9] at H
                      exact absurd H (by simp)
                  · rw [if_neg c8] at H
                    exact absurd H (by simp)
                · rw [if_neg c7] at H
                  exact absurd H (by simp)
              · rw [if_neg c6] at H
                have c6b0 : decide (x23_2 < t235) = false := decide_eq_false c6
                clear c6
                have H' := Aside0.mk H
                clear H
                go_wp2
                go_roundg k2
                case measure => have := HK1.out; have := HK2.out; omega
                case rel => exact ⟨(x6_2), (wrap64 (x19_1 + 1)), (by first | rfl | (simp; done) | (simp [*]; done)), (by first | rfl | (simp; done) | (simp [*]; done)), H', ⟨by have := HK1.out; have := HK2.out; omega⟩, ⟨by repeat (first | (with_reducible first | exact HB.out | apply below_alloc | apply pw_below_drewN | apply below_drew1) | exact HB.out)⟩⟩
        · rw [if_neg c5] at H
          have c5b0 : decide (x19_1 < t234) = false := decide_eq_false c5
          clear c5
          obtain rfl := Option.some.inj H
          go_wp2
          go_ret
          exact ⟨by first | rfl | (simp [errW_none, errW_some] <;> rfl) | (simp [*, errW_none, errW_some] <;> rfl), by repeat (first | (with_reducible first | exact HB.out | apply below_alloc | apply pw_below_drewN | apply below_drew1) | exact HB.out)⟩
  · replace c3 := Bool.eq_false_iff.mpr c3
    subst c3
    have H1 : (some false) = some r := by rw [if_neg (show ¬ (false = true) by decide)] at H; exact H
    clear H
    have H := H1
    clear H1
    obtain rfl := Option.some.inj H
    go_enter Try.func22, Try.ntmps22
    go_wp2_with (first | ((with_reducible refine gate_callee (f := 41) rfl ?_); refine goesL_ (some 12) rfl rfl Try.func41 (by kernel_rfl) rfl #[.slice A0 l0.length c0] rfl (by (try simp only [List.map_toArray, List.map_cons, List.map_nil]); first | done | rfl | (simp only [List.length_drop, List.length_take]; rfl)) ?_; (with_reducible refine (impl_sidesOf.calls _ _ l0 t234 t235 false _ ?side1 ?side2 A2.out).mono ?_); (case side1 => repeat (first | exact HR0.out | (with_reducible refine Kd.C_alloc ?_ _) | (with_reducible refine Kd.C_drewN ?_ _) | (with_reducible refine Kd.C_drew ?_))); (case side2 => exact HC0.out); rintro e w39 ⟨rfl, hb⟩; refine ⟨_, rfl, ?_⟩; have n0_ := Aside0.mk (below_step (by repeat (first | (with_reducible first | exact HB.out | apply below_alloc | apply pw_below_drewN | apply below_drew1) | exact HB.out)) hb); clear HB; have HB := n0_; clear n0_; (try clear hb); (try clear hb2); (try clear hk); (try clear hi)))
    go_ret
    exact ⟨by first | rfl | (simp [errW_none, errW_some] <;> rfl) | (simp [*, errW_none, errW_some] <;> rfl), by repeat (first | (with_reducible first | exact HB.out | apply below_alloc | apply pw_below_drewN | apply below_drew1) | exact HB.out)⟩

end Go.Proofs.Ytdbioadcopfjcaa.F
