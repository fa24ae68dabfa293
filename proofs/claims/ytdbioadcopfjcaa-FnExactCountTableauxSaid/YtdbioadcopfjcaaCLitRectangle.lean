-- px.py: written by this session's program over the kit's printer
import Derived.Test.YtdbioadcopfjcaaFkinds
namespace Go.Proofs.Ytdbioadcopfjcaa.F
open Go.RowKit Go.Proofs.YtdbioadcopfjcaaW.PrintWords Go.Proofs.YtdbioadcopfjcaaW.PrintLast Go.Proofs.YtdbioadcopfjcaaW.PrintMore
attribute [local go_sem] max2_int min2_int max_two min_two max_three min_three max_four min_four
set_option linter.unusedVariables false
set_option linter.unusedSimpArgs false

/-! ### lit_rectangle: function 62 -/
def lit_rectangle.f (a0 : Int) (a1 : Int) (a2 : Int) : Option (Bool) := if a2 = 0 then (none) else (if (wrap64 (Int.tdiv a0 a2)) ≤ (wrap64 (Int.tdiv a1 a2)) then (some (decide ((Int.tmod a0 a2) ≤ (Int.tmod a1 a2)))) else (some false))
set_option maxHeartbeats 8000000 in
set_option maxRecDepth 100000 in
theorem lit_rectangle.calls (g0_ : Nat) (a0 : Int) (a1 : Int) (a2 : Int) (r : Bool) (w : World) (hcap0 : w.cell? ⟨g0_, 0, none⟩ = some (.int .i64 a2)) (h : lit_rectangle.f a0 a1 a2 = some r) :
    Calls Try.prog 62 #[.int .i64 a0, .int .i64 a1, .pointer (some ⟨g0_, 0, none⟩)] w fun e w' => e = .returned (.bool r) ∧ Drawn0 w w' := by
  have H : (if a2 = 0 then (none) else (if (wrap64 (Int.tdiv a0 a2)) ≤ (wrap64 (Int.tdiv a1 a2)) then (some (decide ((Int.tmod a0 a2) ≤ (Int.tmod a1 a2)))) else (some false))) = some r := h
  clear h
  by_cases c4 : a2 = 0
  · rw [if_pos c4] at H
    exact absurd H (by simp)
  · rw [if_neg c4] at H
    have c4b0 : (a2 == 0) = false := beq_eq_false_iff_ne.mpr c4
    have c4b1 : (a2 != 0) = true := bne_iff_ne.mpr c4
    by_cases c5 : (wrap64 (Int.tdiv a0 a2)) ≤ (wrap64 (Int.tdiv a1 a2))
    · rw [if_pos c5] at H
      have c5b0 : decide ((wrap64 (Int.tdiv a0 a2)) ≤ (wrap64 (Int.tdiv a1 a2))) = true := decide_eq_true c5
      clear c5
      obtain rfl := Option.some.inj H
      go_enter Try.func62, Try.ntmps62
      go_wp2
      repeat (go_quiet (fail); try go_wp2)
      go_ret
      exact ⟨by first | rfl | (simp; done) | (simp [*]; done), by repeat (first | exact Drawn0.refl _ | apply Drawn0.step)⟩
    · rw [if_neg c5] at H
      have c5b0 : decide ((wrap64 (Int.tdiv a0 a2)) ≤ (wrap64 (Int.tdiv a1 a2))) = false := decide_eq_false c5
      clear c5
      obtain rfl := Option.some.inj H
      go_enter Try.func62, Try.ntmps62
      go_wp2
      repeat (go_quiet (fail); try go_wp2)
      go_ret
      exact ⟨by first | rfl | (simp; done) | (simp [*]; done), by repeat (first | exact Drawn0.refl _ | apply Drawn0.step)⟩

end Go.Proofs.Ytdbioadcopfjcaa.F
