/- Part 4 of the texts below the row of FnExactPromotionOrbit: printed functions with their contracts, and plain lemmas. No condition. -/
import Derived.Test.YtjahclncpgllmaaZFnExactPromotionOrbit3
import Derived.Lib.Hide
import Derived.Laws.CopyOwn
import Derived.LoopTactic
import Derived.Deep.LoopGhost
section
namespace Go.Proofs.Ytjahclncpgllmaa.F
open Go.RowKit Go.Proofs.YtjahclncpgllmaaW.PrintWords Go.Proofs.YtjahclncpgllmaaW.PrintLast Go.Proofs.YtjahclncpgllmaaW.PrintMore
set_option linter.unusedVariables false
set_option linter.unusedSimpArgs false
theorem exch_keep {W : World} {x : Addr} {v : Value} (h : W.cell? x = some v) (o1 o2 o3 : Obj) : (((W.alloc o1).alloc o2).alloc o3).cell? x = some v := by
  have f1 : ∀ (W : World) (o : Obj), W.cell? x = some v → (W.alloc o).cell? x = some v := fun W o h => ((below_alloc (Below.refl W.heap.size W) o).cell (p := x) (World.block_lt_of_cell? _ _ h)).trans h
  exact f1 _ _ (f1 _ _ (f1 _ _ h))
set_option maxHeartbeats 8000000 in
set_option maxRecDepth 100000 in
theorem exch0_t (A0 : Option Addr) (c0 : Nat) (p : List Int) (a1_0 a1_1 a1_2 a1_3 a1_4 a1_5 a1_6 a1_7 a1_8 a1_9 : Int) (w : World) (hr : Kd.C (Kd.int .i64) w A0 p.length p) (h0 : 0 ≤ a1_0) (h1 : a1_0 < (p.length : Int)) (hA : impl_has.f (rd p a1_0) a1_1 = some true) :
    Calls Try.prog 59 #[.agg #[.slice A0 p.length c0], .agg #[.int .i64 a1_0, .int .i64 a1_1, .int .i64 a1_2, .int .i64 a1_3, .int .i64 a1_4, .int .i64 a1_5, .int .i64 a1_6, .int .i64 a1_7, .int .i64 a1_8, .int .i64 a1_9], .int .i64 0] w fun e w' => e = .returned (.agg #[.int .i64 a1_0, .int .i64 a1_1, .int .i64 a1_2, .int .i64 a1_3, .int .i64 a1_4, .int .i64 a1_5, .int .i64 a1_6, .int .i64 a1_7, .int .i64 a1_8, .int .i64 a1_9]) ∧ Below w.heap.size w w' := by
  have hu28 := Try.underlying28
  have hu58 := Try.underlying58
  have hwI : IntKind.i64.wrap (0 + 1) = 1 := by decide
  have hwJ : IntKind.i64.wrap 1 = 1 := by decide
  obtain ⟨ad, rfl, hc⟩ := Kd.at_int hr a1_0 h0 h1
  have hc3 := exch_keep hc
  have HA := Aside0.mk hA
  clear hA hr hc
  go_enter Try.func59, Try.ntmps59
  go_wp2_with (fail)
  go_quiet (fail)
  go_wp2_with (go_at_call 79; ((with_reducible refine (impl_has.calls (rd p a1_0) a1_1 _ _ HA.out).mono ?_); rintro e w' ⟨rfl, ⟨nd, rfl⟩⟩))
  refine bodyPost_ret (v := .agg #[.int .i64 a1_0, .int .i64 a1_1, .int .i64 a1_2, .int .i64 a1_3, .int .i64 a1_4, .int .i64 a1_5, .int .i64 a1_6, .int .i64 a1_7, .int .i64 a1_8, .int .i64 a1_9]) (by simp [results, Try.results59, go_sem]) rfl ⟨rfl, ?_⟩
  repeat (with_reducible first | exact Below.refl _ _ | refine below_set ?_ (by omega) | apply pw_below_drewN | apply below_drew1 | apply below_alloc)
set_option maxHeartbeats 8000000 in
set_option maxRecDepth 100000 in
theorem exch0_ft (A0 : Option Addr) (c0 : Nat) (p : List Int) (a1_0 a1_1 a1_2 a1_3 a1_4 a1_5 a1_6 a1_7 a1_8 a1_9 : Int) (w : World) (hr : Kd.C (Kd.int .i64) w A0 p.length p) (h0 : 0 ≤ a1_0) (h1 : a1_0 < (p.length : Int)) (hA : impl_has.f (rd p a1_0) a1_1 = some false) (h2 : 0 ≤ a1_1) (h3 : a1_1 < (p.length : Int)) (hB : impl_has.f (rd p a1_1) a1_0 = some true) :
    Calls Try.prog 59 #[.agg #[.slice A0 p.length c0], .agg #[.int .i64 a1_0, .int .i64 a1_1, .int .i64 a1_2, .int .i64 a1_3, .int .i64 a1_4, .int .i64 a1_5, .int .i64 a1_6, .int .i64 a1_7, .int .i64 a1_8, .int .i64 a1_9], .int .i64 0] w fun e w' => e = .returned (.agg #[.int .i64 a1_0, .int .i64 a1_1, .int .i64 a1_2, .int .i64 a1_3, .int .i64 a1_4, .int .i64 a1_5, .int .i64 a1_6, .int .i64 a1_7, .int .i64 a1_8, .int .i64 a1_9]) ∧ Below w.heap.size w w' := by
  have hu28 := Try.underlying28
  have hu58 := Try.underlying58
  have hwI : IntKind.i64.wrap (0 + 1) = 1 := by decide
  have hwJ : IntKind.i64.wrap 1 = 1 := by decide
  obtain ⟨ad, rfl, hc⟩ := Kd.at_int hr a1_0 h0 h1
  have hc3 := exch_keep hc
  have HA := Aside0.mk hA
  obtain ⟨ad', e', hc'⟩ := Kd.at_int hr a1_1 h2 h3
  cases e'
  have hc3' := exch_keep hc'
  have HB := Aside0.mk hB
  clear hA hB hr hc hc'
  go_enter Try.func59, Try.ntmps59
  go_wp2_with (fail)
  go_quiet (fail)
  go_wp2_with (go_at_call 79; first | ((with_reducible refine (impl_has.calls (rd p a1_0) a1_1 _ _ HA.out).mono ?_); rintro e w' ⟨rfl, ⟨nd, rfl⟩⟩) | ((with_reducible refine (impl_has.calls (rd p a1_1) a1_0 _ _ HB.out).mono ?_); rintro e w' ⟨rfl, ⟨nd, rfl⟩⟩))
  refine bodyPost_ret (v := .agg #[.int .i64 a1_0, .int .i64 a1_1, .int .i64 a1_2, .int .i64 a1_3, .int .i64 a1_4, .int .i64 a1_5, .int .i64 a1_6, .int .i64 a1_7, .int .i64 a1_8, .int .i64 a1_9]) (by simp [results, Try.results59, go_sem]) rfl ⟨rfl, ?_⟩
  repeat (with_reducible first | exact Below.refl _ _ | refine below_set ?_ (by omega) | apply pw_below_drewN | apply below_drew1 | apply below_alloc)
set_option maxHeartbeats 8000000 in
set_option maxRecDepth 100000 in
theorem exch0_ff (A0 : Option Addr) (c0 : Nat) (p : List Int) (a1_0 a1_1 a1_2 a1_3 a1_4 a1_5 a1_6 a1_7 a1_8 a1_9 : Int) (w : World) (hr : Kd.C (Kd.int .i64) w A0 p.length p) (h0 : 0 ≤ a1_0) (h1 : a1_0 < (p.length : Int)) (hA : impl_has.f (rd p a1_0) a1_1 = some false) (h2 : 0 ≤ a1_1) (h3 : a1_1 < (p.length : Int)) (hB : impl_has.f (rd p a1_1) a1_0 = some false) :
    Calls Try.prog 59 #[.agg #[.slice A0 p.length c0], .agg #[.int .i64 a1_0, .int .i64 a1_1, .int .i64 a1_2, .int .i64 a1_3, .int .i64 a1_4, .int .i64 a1_5, .int .i64 a1_6, .int .i64 a1_7, .int .i64 a1_8, .int .i64 a1_9], .int .i64 0] w fun e w' => e = .returned (.agg #[.int .i64 a1_1, .int .i64 a1_0, .int .i64 a1_2, .int .i64 a1_3, .int .i64 a1_4, .int .i64 a1_5, .int .i64 a1_6, .int .i64 a1_7, .int .i64 a1_8, .int .i64 a1_9]) ∧ Below w.heap.size w w' := by
  have hu28 := Try.underlying28
  have hu58 := Try.underlying58
  have hwI : IntKind.i64.wrap (0 + 1) = 1 := by decide
  have hwJ : IntKind.i64.wrap 1 = 1 := by decide
  obtain ⟨ad, rfl, hc⟩ := Kd.at_int hr a1_0 h0 h1
  have hc3 := exch_keep hc
  have HA := Aside0.mk hA
  obtain ⟨ad', e', hc'⟩ := Kd.at_int hr a1_1 h2 h3
  cases e'
  have hc3' := exch_keep hc'
  have HB := Aside0.mk hB
  clear hA hB hr hc hc'
  go_enter Try.func59, Try.ntmps59
  go_wp2_with (fail)
  go_quiet (fail)
  go_wp2_with (go_at_call 79; first | ((with_reducible refine (impl_has.calls (rd p a1_0) a1_1 _ _ HA.out).mono ?_); rintro e w' ⟨rfl, ⟨nd, rfl⟩⟩) | ((with_reducible refine (impl_has.calls (rd p a1_1) a1_0 _ _ HB.out).mono ?_); rintro e w' ⟨rfl, ⟨nd, rfl⟩⟩))
  refine bodyPost_ret (v := .agg #[.int .i64 a1_1, .int .i64 a1_0, .int .i64 a1_2, .int .i64 a1_3, .int .i64 a1_4, .int .i64 a1_5, .int .i64 a1_6, .int .i64 a1_7, .int .i64 a1_8, .int .i64 a1_9]) (by simp [results, Try.results59, go_sem]) rfl ⟨rfl, ?_⟩
  repeat (with_reducible first | exact Below.refl _ _ | refine below_set ?_ (by omega) | apply pw_below_drewN | apply below_drew1 | apply below_alloc)
def exchange0.f (l0_0 : List Int) (a1_0 a1_1 a1_2 a1_3 a1_4 a1_5 a1_6 a1_7 a1_8 a1_9 : Int) (a2 : Int) : Option (Int × Int × Int × Int × Int × Int × Int × Int × Int × Int) := if 0 ≤ a1_0 then (if a1_0 < (l0_0.length : Int) then ((impl_has.f (rd l0_0 a1_0) a1_1).bind fun t1 => (if t1 = true then (some (a1_0, a1_1, a1_2, a1_3, a1_4, a1_5, a1_6, a1_7, a1_8, a1_9)) else (if 0 ≤ a1_1 then (if a1_1 < (l0_0.length : Int) then ((impl_has.f (rd l0_0 a1_1) a1_0).bind fun t2 => (if t2 = true then (some (a1_0, a1_1, a1_2, a1_3, a1_4, a1_5, a1_6, a1_7, a1_8, a1_9)) else (some (a1_1, a1_0, a1_2, a1_3, a1_4, a1_5, a1_6, a1_7, a1_8, a1_9)))) else (none)) else (none)))) else (none)) else (none)
theorem exchange0.calls (A0_0 : Option Addr) (c0_0 : Nat) (l0_0 : List Int) (a1_0 a1_1 a1_2 a1_3 a1_4 a1_5 a1_6 a1_7 a1_8 a1_9 : Int) (a2 : Int) (r1 r2 r3 r4 r5 r6 r7 r8 r9 r10 : Int) (w : World) (hr0_0 : Kd.C (Kd.int .i64) w A0_0 l0_0.length l0_0) (h : exchange0.f l0_0 a1_0 a1_1 a1_2 a1_3 a1_4 a1_5 a1_6 a1_7 a1_8 a1_9 a2 = some (r1, r2, r3, r4, r5, r6, r7, r8, r9, r10)) :
    Calls Try.prog 59 #[.agg #[.slice A0_0 l0_0.length c0_0], .agg #[.int .i64 a1_0, .int .i64 a1_1, .int .i64 a1_2, .int .i64 a1_3, .int .i64 a1_4, .int .i64 a1_5, .int .i64 a1_6, .int .i64 a1_7, .int .i64 a1_8, .int .i64 a1_9], .int .i64 0] w fun e w' => e = .returned (.agg #[.int .i64 r1, .int .i64 r2, .int .i64 r3, .int .i64 r4, .int .i64 r5, .int .i64 r6, .int .i64 r7, .int .i64 r8, .int .i64 r9, .int .i64 r10]) ∧ Below w.heap.size w w' := by
  unfold exchange0.f at h
  by_cases h0 : 0 ≤ a1_0
  rotate_left
  · rw [if_neg h0] at h; cases h
  by_cases h1 : a1_0 < (l0_0.length : Int)
  rotate_left
  · rw [if_pos h0, if_neg h1] at h; cases h
  rw [if_pos h0, if_pos h1] at h
  obtain ⟨t1, hA, h⟩ := Option.bind_eq_some_iff.1 h
  cases t1 with
  | true =>
    rw [if_pos rfl] at h
    simp only [Option.some.injEq, Prod.mk.injEq] at h
    obtain ⟨rfl, rfl, rfl, rfl, rfl, rfl, rfl, rfl, rfl, rfl⟩ := h
    exact exch0_t A0_0 c0_0 l0_0 a1_0 a1_1 a1_2 a1_3 a1_4 a1_5 a1_6 a1_7 a1_8 a1_9 w hr0_0 h0 h1 hA
  | false =>
    rw [if_neg (by simp)] at h
    by_cases h2 : 0 ≤ a1_1
    rotate_left
    · rw [if_neg h2] at h; cases h
    by_cases h3 : a1_1 < (l0_0.length : Int)
    rotate_left
    · rw [if_pos h2, if_neg h3] at h; cases h
    rw [if_pos h2, if_pos h3] at h
    obtain ⟨t2, hB, h⟩ := Option.bind_eq_some_iff.1 h
    cases t2 with
    | true =>
      rw [if_pos rfl] at h
      simp only [Option.some.injEq, Prod.mk.injEq] at h
      obtain ⟨rfl, rfl, rfl, rfl, rfl, rfl, rfl, rfl, rfl, rfl⟩ := h
      exact exch0_ft A0_0 c0_0 l0_0 a1_0 a1_1 a1_2 a1_3 a1_4 a1_5 a1_6 a1_7 a1_8 a1_9 w hr0_0 h0 h1 hA h2 h3 hB
    | false =>
      rw [if_neg (by simp)] at h
      simp only [Option.some.injEq, Prod.mk.injEq] at h
      obtain ⟨rfl, rfl, rfl, rfl, rfl, rfl, rfl, rfl, rfl, rfl⟩ := h
      exact exch0_ff A0_0 c0_0 l0_0 a1_0 a1_1 a1_2 a1_3 a1_4 a1_5 a1_6 a1_7 a1_8 a1_9 w hr0_0 h0 h1 hA h2 h3 hB
set_option maxHeartbeats 8000000 in
set_option maxRecDepth 100000 in
theorem exch1_t (A0 : Option Addr) (c0 : Nat) (p : List Int) (a1_0 a1_1 a1_2 a1_3 a1_4 a1_5 a1_6 a1_7 a1_8 a1_9 : Int) (w : World) (hr : Kd.C (Kd.int .i64) w A0 p.length p) (h0 : 0 ≤ a1_1) (h1 : a1_1 < (p.length : Int)) (hA : impl_has.f (rd p a1_1) a1_2 = some true) :
    Calls Try.prog 59 #[.agg #[.slice A0 p.length c0], .agg #[.int .i64 a1_0, .int .i64 a1_1, .int .i64 a1_2, .int .i64 a1_3, .int .i64 a1_4, .int .i64 a1_5, .int .i64 a1_6, .int .i64 a1_7, .int .i64 a1_8, .int .i64 a1_9], .int .i64 1] w fun e w' => e = .returned (.agg #[.int .i64 a1_0, .int .i64 a1_1, .int .i64 a1_2, .int .i64 a1_3, .int .i64 a1_4, .int .i64 a1_5, .int .i64 a1_6, .int .i64 a1_7, .int .i64 a1_8, .int .i64 a1_9]) ∧ Below w.heap.size w w' := by
  have hu28 := Try.underlying28
  have hu58 := Try.underlying58
  have hwI : IntKind.i64.wrap (1 + 1) = 2 := by decide
  have hwJ : IntKind.i64.wrap 2 = 2 := by decide
  obtain ⟨ad, rfl, hc⟩ := Kd.at_int hr a1_1 h0 h1
  have hc3 := exch_keep hc
  have HA := Aside0.mk hA
  clear hA hr hc
  go_enter Try.func59, Try.ntmps59
  go_wp2_with (fail)
  go_quiet (fail)
  go_wp2_with (go_at_call 79; ((with_reducible refine (impl_has.calls (rd p a1_1) a1_2 _ _ HA.out).mono ?_); rintro e w' ⟨rfl, ⟨nd, rfl⟩⟩))
  refine bodyPost_ret (v := .agg #[.int .i64 a1_0, .int .i64 a1_1, .int .i64 a1_2, .int .i64 a1_3, .int .i64 a1_4, .int .i64 a1_5, .int .i64 a1_6, .int .i64 a1_7, .int .i64 a1_8, .int .i64 a1_9]) (by simp [results, Try.results59, go_sem]) rfl ⟨rfl, ?_⟩
  repeat (with_reducible first | exact Below.refl _ _ | refine below_set ?_ (by omega) | apply pw_below_drewN | apply below_drew1 | apply below_alloc)
set_option maxHeartbeats 8000000 in
set_option maxRecDepth 100000 in
theorem exch1_ft (A0 : Option Addr) (c0 : Nat) (p : List Int) (a1_0 a1_1 a1_2 a1_3 a1_4 a1_5 a1_6 a1_7 a1_8 a1_9 : Int) (w : World) (hr : Kd.C (Kd.int .i64) w A0 p.length p) (h0 : 0 ≤ a1_1) (h1 : a1_1 < (p.length : Int)) (hA : impl_has.f (rd p a1_1) a1_2 = some false) (h2 : 0 ≤ a1_2) (h3 : a1_2 < (p.length : Int)) (hB : impl_has.f (rd p a1_2) a1_1 = some true) :
    Calls Try.prog 59 #[.agg #[.slice A0 p.length c0], .agg #[.int .i64 a1_0, .int .i64 a1_1, .int .i64 a1_2, .int .i64 a1_3, .int .i64 a1_4, .int .i64 a1_5, .int .i64 a1_6, .int .i64 a1_7, .int .i64 a1_8, .int .i64 a1_9], .int .i64 1] w fun e w' => e = .returned (.agg #[.int .i64 a1_0, .int .i64 a1_1, .int .i64 a1_2, .int .i64 a1_3, .int .i64 a1_4, .int .i64 a1_5, .int .i64 a1_6, .int .i64 a1_7, .int .i64 a1_8, .int .i64 a1_9]) ∧ Below w.heap.size w w' := by
  have hu28 := Try.underlying28
  have hu58 := Try.underlying58
  have hwI : IntKind.i64.wrap (1 + 1) = 2 := by decide
  have hwJ : IntKind.i64.wrap 2 = 2 := by decide
  obtain ⟨ad, rfl, hc⟩ := Kd.at_int hr a1_1 h0 h1
  have hc3 := exch_keep hc
  have HA := Aside0.mk hA
  obtain ⟨ad', e', hc'⟩ := Kd.at_int hr a1_2 h2 h3
  cases e'
  have hc3' := exch_keep hc'
  have HB := Aside0.mk hB
  clear hA hB hr hc hc'
  go_enter Try.func59, Try.ntmps59
  go_wp2_with (fail)
  go_quiet (fail)
  go_wp2_with (go_at_call 79; first | ((with_reducible refine (impl_has.calls (rd p a1_1) a1_2 _ _ HA.out).mono ?_); rintro e w' ⟨rfl, ⟨nd, rfl⟩⟩) | ((with_reducible refine (impl_has.calls (rd p a1_2) a1_1 _ _ HB.out).mono ?_); rintro e w' ⟨rfl, ⟨nd, rfl⟩⟩))
  refine bodyPost_ret (v := .agg #[.int .i64 a1_0, .int .i64 a1_1, .int .i64 a1_2, .int .i64 a1_3, .int .i64 a1_4, .int .i64 a1_5, .int .i64 a1_6, .int .i64 a1_7, .int .i64 a1_8, .int .i64 a1_9]) (by simp [results, Try.results59, go_sem]) rfl ⟨rfl, ?_⟩
  repeat (with_reducible first | exact Below.refl _ _ | refine below_set ?_ (by omega) | apply pw_below_drewN | apply below_drew1 | apply below_alloc)
set_option maxHeartbeats 8000000 in
set_option maxRecDepth 100000 in
theorem exch1_ff (A0 : Option Addr) (c0 : Nat) (p : List Int) (a1_0 a1_1 a1_2 a1_3 a1_4 a1_5 a1_6 a1_7 a1_8 a1_9 : Int) (w : World) (hr : Kd.C (Kd.int .i64) w A0 p.length p) (h0 : 0 ≤ a1_1) (h1 : a1_1 < (p.length : Int)) (hA : impl_has.f (rd p a1_1) a1_2 = some false) (h2 : 0 ≤ a1_2) (h3 : a1_2 < (p.length : Int)) (hB : impl_has.f (rd p a1_2) a1_1 = some false) :
    Calls Try.prog 59 #[.agg #[.slice A0 p.length c0], .agg #[.int .i64 a1_0, .int .i64 a1_1, .int .i64 a1_2, .int .i64 a1_3, .int .i64 a1_4, .int .i64 a1_5, .int .i64 a1_6, .int .i64 a1_7, .int .i64 a1_8, .int .i64 a1_9], .int .i64 1] w fun e w' => e = .returned (.agg #[.int .i64 a1_0, .int .i64 a1_2, .int .i64 a1_1, .int .i64 a1_3, .int .i64 a1_4, .int .i64 a1_5, .int .i64 a1_6, .int .i64 a1_7, .int .i64 a1_8, .int .i64 a1_9]) ∧ Below w.heap.size w w' := by
  have hu28 := Try.underlying28
  have hu58 := Try.underlying58
  have hwI : IntKind.i64.wrap (1 + 1) = 2 := by decide
  have hwJ : IntKind.i64.wrap 2 = 2 := by decide
  obtain ⟨ad, rfl, hc⟩ := Kd.at_int hr a1_1 h0 h1
  have hc3 := exch_keep hc
  have HA := Aside0.mk hA
  obtain ⟨ad', e', hc'⟩ := Kd.at_int hr a1_2 h2 h3
  cases e'
  have hc3' := exch_keep hc'
  have HB := Aside0.mk hB
  clear hA hB hr hc hc'
  go_enter Try.func59, Try.ntmps59
  go_wp2_with (fail)
  go_quiet (fail)
  go_wp2_with (go_at_call 79; first | ((with_reducible refine (impl_has.calls (rd p a1_1) a1_2 _ _ HA.out).mono ?_); rintro e w' ⟨rfl, ⟨nd, rfl⟩⟩) | ((with_reducible refine (impl_has.calls (rd p a1_2) a1_1 _ _ HB.out).mono ?_); rintro e w' ⟨rfl, ⟨nd, rfl⟩⟩))
  refine bodyPost_ret (v := .agg #[.int .i64 a1_0, .int .i64 a1_2, .int .i64 a1_1, .int .i64 a1_3, .int .i64 a1_4, .int .i64 a1_5, .int .i64 a1_6, .int .i64 a1_7, .int .i64 a1_8, .int .i64 a1_9]) (by simp [results, Try.results59, go_sem]) rfl ⟨rfl, ?_⟩
  repeat (with_reducible first | exact Below.refl _ _ | refine below_set ?_ (by omega) | apply pw_below_drewN | apply below_drew1 | apply below_alloc)
def exchange1.f (l0_0 : List Int) (a1_0 a1_1 a1_2 a1_3 a1_4 a1_5 a1_6 a1_7 a1_8 a1_9 : Int) (a2 : Int) : Option (Int × Int × Int × Int × Int × Int × Int × Int × Int × Int) := if 0 ≤ a1_1 then (if a1_1 < (l0_0.length : Int) then ((impl_has.f (rd l0_0 a1_1) a1_2).bind fun t1 => (if t1 = true then (some (a1_0, a1_1, a1_2, a1_3, a1_4, a1_5, a1_6, a1_7, a1_8, a1_9)) else (if 0 ≤ a1_2 then (if a1_2 < (l0_0.length : Int) then ((impl_has.f (rd l0_0 a1_2) a1_1).bind fun t2 => (if t2 = true then (some (a1_0, a1_1, a1_2, a1_3, a1_4, a1_5, a1_6, a1_7, a1_8, a1_9)) else (some (a1_0, a1_2, a1_1, a1_3, a1_4, a1_5, a1_6, a1_7, a1_8, a1_9)))) else (none)) else (none)))) else (none)) else (none)
theorem exchange1.calls (A0_0 : Option Addr) (c0_0 : Nat) (l0_0 : List Int) (a1_0 a1_1 a1_2 a1_3 a1_4 a1_5 a1_6 a1_7 a1_8 a1_9 : Int) (a2 : Int) (r1 r2 r3 r4 r5 r6 r7 r8 r9 r10 : Int) (w : World) (hr0_0 : Kd.C (Kd.int .i64) w A0_0 l0_0.length l0_0) (h : exchange1.f l0_0 a1_0 a1_1 a1_2 a1_3 a1_4 a1_5 a1_6 a1_7 a1_8 a1_9 a2 = some (r1, r2, r3, r4, r5, r6, r7, r8, r9, r10)) :
    Calls Try.prog 59 #[.agg #[.slice A0_0 l0_0.length c0_0], .agg #[.int .i64 a1_0, .int .i64 a1_1, .int .i64 a1_2, .int .i64 a1_3, .int .i64 a1_4, .int .i64 a1_5, .int .i64 a1_6, .int .i64 a1_7, .int .i64 a1_8, .int .i64 a1_9], .int .i64 1] w fun e w' => e = .returned (.agg #[.int .i64 r1, .int .i64 r2, .int .i64 r3, .int .i64 r4, .int .i64 r5, .int .i64 r6, .int .i64 r7, .int .i64 r8, .int .i64 r9, .int .i64 r10]) ∧ Below w.heap.size w w' := by
  unfold exchange1.f at h
  by_cases h0 : 0 ≤ a1_1
  rotate_left
  · rw [if_neg h0] at h; cases h
  by_cases h1 : a1_1 < (l0_0.length : Int)
  rotate_left
  · rw [if_pos h0, if_neg h1] at h; cases h
  rw [if_pos h0, if_pos h1] at h
  obtain ⟨t1, hA, h⟩ := Option.bind_eq_some_iff.1 h
  cases t1 with
  | true =>
    rw [if_pos rfl] at h
    simp only [Option.some.injEq, Prod.mk.injEq] at h
    obtain ⟨rfl, rfl, rfl, rfl, rfl, rfl, rfl, rfl, rfl, rfl⟩ := h
    exact exch1_t A0_0 c0_0 l0_0 a1_0 a1_1 a1_2 a1_3 a1_4 a1_5 a1_6 a1_7 a1_8 a1_9 w hr0_0 h0 h1 hA
  | false =>
    rw [if_neg (by simp)] at h
    by_cases h2 : 0 ≤ a1_2
    rotate_left
    · rw [if_neg h2] at h; cases h
    by_cases h3 : a1_2 < (l0_0.length : Int)
    rotate_left
    · rw [if_pos h2, if_neg h3] at h; cases h
    rw [if_pos h2, if_pos h3] at h
    obtain ⟨t2, hB, h⟩ := Option.bind_eq_some_iff.1 h
    cases t2 with
    | true =>
      rw [if_pos rfl] at h
      simp only [Option.some.injEq, Prod.mk.injEq] at h
      obtain ⟨rfl, rfl, rfl, rfl, rfl, rfl, rfl, rfl, rfl, rfl⟩ := h
      exact exch1_ft A0_0 c0_0 l0_0 a1_0 a1_1 a1_2 a1_3 a1_4 a1_5 a1_6 a1_7 a1_8 a1_9 w hr0_0 h0 h1 hA h2 h3 hB
    | false =>
      rw [if_neg (by simp)] at h
      simp only [Option.some.injEq, Prod.mk.injEq] at h
      obtain ⟨rfl, rfl, rfl, rfl, rfl, rfl, rfl, rfl, rfl, rfl⟩ := h
      exact exch1_ff A0_0 c0_0 l0_0 a1_0 a1_1 a1_2 a1_3 a1_4 a1_5 a1_6 a1_7 a1_8 a1_9 w hr0_0 h0 h1 hA h2 h3 hB
set_option maxHeartbeats 8000000 in
set_option maxRecDepth 100000 in
theorem exch2_t (A0 : Option Addr) (c0 : Nat) (p : List Int) (a1_0 a1_1 a1_2 a1_3 a1_4 a1_5 a1_6 a1_7 a1_8 a1_9 : Int) (w : World) (hr : Kd.C (Kd.int .i64) w A0 p.length p) (h0 : 0 ≤ a1_2) (h1 : a1_2 < (p.length : Int)) (hA : impl_has.f (rd p a1_2) a1_3 = some true) :
    Calls Try.prog 59 #[.agg #[.slice A0 p.length c0], .agg #[.int .i64 a1_0, .int .i64 a1_1, .int .i64 a1_2, .int .i64 a1_3, .int .i64 a1_4, .int .i64 a1_5, .int .i64 a1_6, .int .i64 a1_7, .int .i64 a1_8, .int .i64 a1_9], .int .i64 2] w fun e w' => e = .returned (.agg #[.int .i64 a1_0, .int .i64 a1_1, .int .i64 a1_2, .int .i64 a1_3, .int .i64 a1_4, .int .i64 a1_5, .int .i64 a1_6, .int .i64 a1_7, .int .i64 a1_8, .int .i64 a1_9]) ∧ Below w.heap.size w w' := by
  have hu28 := Try.underlying28
  have hu58 := Try.underlying58
  have hwI : IntKind.i64.wrap (2 + 1) = 3 := by decide
  have hwJ : IntKind.i64.wrap 3 = 3 := by decide
  obtain ⟨ad, rfl, hc⟩ := Kd.at_int hr a1_2 h0 h1
  have hc3 := exch_keep hc
  have HA := Aside0.mk hA
  clear hA hr hc
  go_enter Try.func59, Try.ntmps59
  go_wp2_with (fail)
  go_quiet (fail)
  go_wp2_with (go_at_call 79; ((with_reducible refine (impl_has.calls (rd p a1_2) a1_3 _ _ HA.out).mono ?_); rintro e w' ⟨rfl, ⟨nd, rfl⟩⟩))
  refine bodyPost_ret (v := .agg #[.int .i64 a1_0, .int .i64 a1_1, .int .i64 a1_2, .int .i64 a1_3, .int .i64 a1_4, .int .i64 a1_5, .int .i64 a1_6, .int .i64 a1_7, .int .i64 a1_8, .int .i64 a1_9]) (by simp [results, Try.results59, go_sem]) rfl ⟨rfl, ?_⟩
  repeat (with_reducible first | exact Below.refl _ _ | refine below_set ?_ (by omega) | apply pw_below_drewN | apply below_drew1 | apply below_alloc)
set_option maxHeartbeats 8000000 in
set_option maxRecDepth 100000 in
theorem exch2_ft (A0 : Option Addr) (c0 : Nat) (p : List Int) (a1_0 a1_1 a1_2 a1_3 a1_4 a1_5 a1_6 a1_7 a1_8 a1_9 : Int) (w : World) (hr : Kd.C (Kd.int .i64) w A0 p.length p) (h0 : 0 ≤ a1_2) (h1 : a1_2 < (p.length : Int)) (hA : impl_has.f (rd p a1_2) a1_3 = some false) (h2 : 0 ≤ a1_3) (h3 : a1_3 < (p.length : Int)) (hB : impl_has.f (rd p a1_3) a1_2 = some true) :
    Calls Try.prog 59 #[.agg #[.slice A0 p.length c0], .agg #[.int .i64 a1_0, .int .i64 a1_1, .int .i64 a1_2, .int .i64 a1_3, .int .i64 a1_4, .int .i64 a1_5, .int .i64 a1_6, .int .i64 a1_7, .int .i64 a1_8, .int .i64 a1_9], .int .i64 2] w fun e w' => e = .returned (.agg #[.int .i64 a1_0, .int .i64 a1_1, .int .i64 a1_2, .int .i64 a1_3, .int .i64 a1_4, .int .i64 a1_5, .int .i64 a1_6, .int .i64 a1_7, .int .i64 a1_8, .int .i64 a1_9]) ∧ Below w.heap.size w w' := by
  have hu28 := Try.underlying28
  have hu58 := Try.underlying58
  have hwI : IntKind.i64.wrap (2 + 1) = 3 := by decide
  have hwJ : IntKind.i64.wrap 3 = 3 := by decide
  obtain ⟨ad, rfl, hc⟩ := Kd.at_int hr a1_2 h0 h1
  have hc3 := exch_keep hc
  have HA := Aside0.mk hA
  obtain ⟨ad', e', hc'⟩ := Kd.at_int hr a1_3 h2 h3
  cases e'
  have hc3' := exch_keep hc'
  have HB := Aside0.mk hB
  clear hA hB hr hc hc'
  go_enter Try.func59, Try.ntmps59
  go_wp2_with (fail)
  go_quiet (fail)
  go_wp2_with (go_at_call 79; first | ((with_reducible refine (impl_has.calls (rd p a1_2) a1_3 _ _ HA.out).mono ?_); rintro e w' ⟨rfl, ⟨nd, rfl⟩⟩) | ((with_reducible refine (impl_has.calls (rd p a1_3) a1_2 _ _ HB.out).mono ?_); rintro e w' ⟨rfl, ⟨nd, rfl⟩⟩))
  refine bodyPost_ret (v := .agg #[.int .i64 a1_0, .int .i64 a1_1, .int .i64 a1_2, .int .i64 a1_3, .int .i64 a1_4, .int .i64 a1_5, .int .i64 a1_6, .int .i64 a1_7, .int .i64 a1_8, .int .i64 a1_9]) (by simp [results, Try.results59, go_sem]) rfl ⟨rfl, ?_⟩
  repeat (with_reducible first | exact Below.refl _ _ | refine below_set ?_ (by omega) | apply pw_below_drewN | apply below_drew1 | apply below_alloc)
set_option maxHeartbeats 8000000 in
set_option maxRecDepth 100000 in
theorem exch2_ff (A0 : Option Addr) (c0 : Nat) (p : List Int) (a1_0 a1_1 a1_2 a1_3 a1_4 a1_5 a1_6 a1_7 a1_8 a1_9 : Int) (w : World) (hr : Kd.C (Kd.int .i64) w A0 p.length p) (h0 : 0 ≤ a1_2) (h1 : a1_2 < (p.length : Int)) (hA : impl_has.f (rd p a1_2) a1_3 = some false) (h2 : 0 ≤ a1_3) (h3 : a1_3 < (p.length : Int)) (hB : impl_has.f (rd p a1_3) a1_2 = some false) :
    Calls Try.prog 59 #[.agg #[.slice A0 p.length c0], .agg #[.int .i64 a1_0, .int .i64 a1_1, .int .i64 a1_2, .int .i64 a1_3, .int .i64 a1_4, .int .i64 a1_5, .int .i64 a1_6, .int .i64 a1_7, .int .i64 a1_8, .int .i64 a1_9], .int .i64 2] w fun e w' => e = .returned (.agg #[.int .i64 a1_0, .int .i64 a1_1, .int .i64 a1_3, .int .i64 a1_2, .int .i64 a1_4, .int .i64 a1_5, .int .i64 a1_6, .int .i64 a1_7, .int .i64 a1_8, .int .i64 a1_9]) ∧ Below w.heap.size w w' := by
  have hu28 := Try.underlying28
  have hu58 := Try.underlying58
  have hwI : IntKind.i64.wrap (2 + 1) = 3 := by decide
  have hwJ : IntKind.i64.wrap 3 = 3 := by decide
  obtain ⟨ad, rfl, hc⟩ := Kd.at_int hr a1_2 h0 h1
  have hc3 := exch_keep hc
  have HA := Aside0.mk hA
  obtain ⟨ad', e', hc'⟩ := Kd.at_int hr a1_3 h2 h3
  cases e'
  have hc3' := exch_keep hc'
  have HB := Aside0.mk hB
  clear hA hB hr hc hc'
  go_enter Try.func59, Try.ntmps59
  go_wp2_with (fail)
  go_quiet (fail)
  go_wp2_with (go_at_call 79; first | ((with_reducible refine (impl_has.calls (rd p a1_2) a1_3 _ _ HA.out).mono ?_); rintro e w' ⟨rfl, ⟨nd, rfl⟩⟩) | ((with_reducible refine (impl_has.calls (rd p a1_3) a1_2 _ _ HB.out).mono ?_); rintro e w' ⟨rfl, ⟨nd, rfl⟩⟩))
  refine bodyPost_ret (v := .agg #[.int .i64 a1_0, .int .i64 a1_1, .int .i64 a1_3, .int .i64 a1_2, .int .i64 a1_4, .int .i64 a1_5, .int .i64 a1_6, .int .i64 a1_7, .int .i64 a1_8, .int .i64 a1_9]) (by simp [results, Try.results59, go_sem]) rfl ⟨rfl, ?_⟩
  repeat (with_reducible first | exact Below.refl _ _ | refine below_set ?_ (by omega) | apply pw_below_drewN | apply below_drew1 | apply below_alloc)
def exchange2.f (l0_0 : List Int) (a1_0 a1_1 a1_2 a1_3 a1_4 a1_5 a1_6 a1_7 a1_8 a1_9 : Int) (a2 : Int) : Option (Int × Int × Int × Int × Int × Int × Int × Int × Int × Int) := if 0 ≤ a1_2 then (if a1_2 < (l0_0.length : Int) then ((impl_has.f (rd l0_0 a1_2) a1_3).bind fun t1 => (if t1 = true then (some (a1_0, a1_1, a1_2, a1_3, a1_4, a1_5, a1_6, a1_7, a1_8, a1_9)) else (if 0 ≤ a1_3 then (if a1_3 < (l0_0.length : Int) then ((impl_has.f (rd l0_0 a1_3) a1_2).bind fun t2 => (if t2 = true then (some (a1_0, a1_1, a1_2, a1_3, a1_4, a1_5, a1_6, a1_7, a1_8, a1_9)) else (some (a1_0, a1_1, a1_3, a1_2, a1_4, a1_5, a1_6, a1_7, a1_8, a1_9)))) else (none)) else (none)))) else (none)) else (none)
theorem exchange2.calls (A0_0 : Option Addr) (c0_0 : Nat) (l0_0 : List Int) (a1_0 a1_1 a1_2 a1_3 a1_4 a1_5 a1_6 a1_7 a1_8 a1_9 : Int) (a2 : Int) (r1 r2 r3 r4 r5 r6 r7 r8 r9 r10 : Int) (w : World) (hr0_0 : Kd.C (Kd.int .i64) w A0_0 l0_0.length l0_0) (h : exchange2.f l0_0 a1_0 a1_1 a1_2 a1_3 a1_4 a1_5 a1_6 a1_7 a1_8 a1_9 a2 = some (r1, r2, r3, r4, r5, r6, r7, r8, r9, r10)) :
    Calls Try.prog 59 #[.agg #[.slice A0_0 l0_0.length c0_0], .agg #[.int .i64 a1_0, .int .i64 a1_1, .int .i64 a1_2, .int .i64 a1_3, .int .i64 a1_4, .int .i64 a1_5, .int .i64 a1_6, .int .i64 a1_7, .int .i64 a1_8, .int .i64 a1_9], .int .i64 2] w fun e w' => e = .returned (.agg #[.int .i64 r1, .int .i64 r2, .int .i64 r3, .int .i64 r4, .int .i64 r5, .int .i64 r6, .int .i64 r7, .int .i64 r8, .int .i64 r9, .int .i64 r10]) ∧ Below w.heap.size w w' := by
  unfold exchange2.f at h
  by_cases h0 : 0 ≤ a1_2
  rotate_left
  · rw [if_neg h0] at h; cases h
  by_cases h1 : a1_2 < (l0_0.length : Int)
  rotate_left
  · rw [if_pos h0, if_neg h1] at h; cases h
  rw [if_pos h0, if_pos h1] at h
  obtain ⟨t1, hA, h⟩ := Option.bind_eq_some_iff.1 h
  cases t1 with
  | true =>
    rw [if_pos rfl] at h
    simp only [Option.some.injEq, Prod.mk.injEq] at h
    obtain ⟨rfl, rfl, rfl, rfl, rfl, rfl, rfl, rfl, rfl, rfl⟩ := h
    exact exch2_t A0_0 c0_0 l0_0 a1_0 a1_1 a1_2 a1_3 a1_4 a1_5 a1_6 a1_7 a1_8 a1_9 w hr0_0 h0 h1 hA
  | false =>
    rw [if_neg (by simp)] at h
    by_cases h2 : 0 ≤ a1_3
    rotate_left
    · rw [if_neg h2] at h; cases h
    by_cases h3 : a1_3 < (l0_0.length : Int)
    rotate_left
    · rw [if_pos h2, if_neg h3] at h; cases h
    rw [if_pos h2, if_pos h3] at h
    obtain ⟨t2, hB, h⟩ := Option.bind_eq_some_iff.1 h
    cases t2 with
    | true =>
      rw [if_pos rfl] at h
      simp only [Option.some.injEq, Prod.mk.injEq] at h
      obtain ⟨rfl, rfl, rfl, rfl, rfl, rfl, rfl, rfl, rfl, rfl⟩ := h
      exact exch2_ft A0_0 c0_0 l0_0 a1_0 a1_1 a1_2 a1_3 a1_4 a1_5 a1_6 a1_7 a1_8 a1_9 w hr0_0 h0 h1 hA h2 h3 hB
    | false =>
      rw [if_neg (by simp)] at h
      simp only [Option.some.injEq, Prod.mk.injEq] at h
      obtain ⟨rfl, rfl, rfl, rfl, rfl, rfl, rfl, rfl, rfl, rfl⟩ := h
      exact exch2_ff A0_0 c0_0 l0_0 a1_0 a1_1 a1_2 a1_3 a1_4 a1_5 a1_6 a1_7 a1_8 a1_9 w hr0_0 h0 h1 hA h2 h3 hB
set_option maxHeartbeats 8000000 in
set_option maxRecDepth 100000 in
theorem exch3_t (A0 : Option Addr) (c0 : Nat) (p : List Int) (a1_0 a1_1 a1_2 a1_3 a1_4 a1_5 a1_6 a1_7 a1_8 a1_9 : Int) (w : World) (hr : Kd.C (Kd.int .i64) w A0 p.length p) (h0 : 0 ≤ a1_3) (h1 : a1_3 < (p.length : Int)) (hA : impl_has.f (rd p a1_3) a1_4 = some true) :
    Calls Try.prog 59 #[.agg #[.slice A0 p.length c0], .agg #[.int .i64 a1_0, .int .i64 a1_1, .int .i64 a1_2, .int .i64 a1_3, .int .i64 a1_4, .int .i64 a1_5, .int .i64 a1_6, .int .i64 a1_7, .int .i64 a1_8, .int .i64 a1_9], .int .i64 3] w fun e w' => e = .returned (.agg #[.int .i64 a1_0, .int .i64 a1_1, .int .i64 a1_2, .int .i64 a1_3, .int .i64 a1_4, .int .i64 a1_5, .int .i64 a1_6, .int .i64 a1_7, .int .i64 a1_8, .int .i64 a1_9]) ∧ Below w.heap.size w w' := by
  have hu28 := Try.underlying28
  have hu58 := Try.underlying58
  have hwI : IntKind.i64.wrap (3 + 1) = 4 := by decide
  have hwJ : IntKind.i64.wrap 4 = 4 := by decide
  obtain ⟨ad, rfl, hc⟩ := Kd.at_int hr a1_3 h0 h1
  have hc3 := exch_keep hc
  have HA := Aside0.mk hA
  clear hA hr hc
  go_enter Try.func59, Try.ntmps59
  go_wp2_with (fail)
  go_quiet (fail)
  go_wp2_with (go_at_call 79; ((with_reducible refine (impl_has.calls (rd p a1_3) a1_4 _ _ HA.out).mono ?_); rintro e w' ⟨rfl, ⟨nd, rfl⟩⟩))
  refine bodyPost_ret (v := .agg #[.int .i64 a1_0, .int .i64 a1_1, .int .i64 a1_2, .int .i64 a1_3, .int .i64 a1_4, .int .i64 a1_5, .int .i64 a1_6, .int .i64 a1_7, .int .i64 a1_8, .int .i64 a1_9]) (by simp [results, Try.results59, go_sem]) rfl ⟨rfl, ?_⟩
  repeat (with_reducible first | exact Below.refl _ _ | refine below_set ?_ (by omega) | apply pw_below_drewN | apply below_drew1 | apply below_alloc)
set_option maxHeartbeats 8000000 in
set_option maxRecDepth 100000 in
theorem exch3_ft (A0 : Option Addr) (c0 : Nat) (p : List Int) (a1_0 a1_1 a1_2 a1_3 a1_4 a1_5 a1_6 a1_7 a1_8 a1_9 : Int) (w : World) (hr : Kd.C (Kd.int .i64) w A0 p.length p) (h0 : 0 ≤ a1_3) (h1 : a1_3 < (p.length : Int)) (hA : impl_has.f (rd p a1_3) a1_4 = some false) (h2 : 0 ≤ a1_4) (h3 : a1_4 < (p.length : Int)) (hB : impl_has.f (rd p a1_4) a1_3 = some true) :
    Calls Try.prog 59 #[.agg #[.slice A0 p.length c0], .agg #[.int .i64 a1_0, .int .i64 a1_1, .int .i64 a1_2, .int .i64 a1_3, .int .i64 a1_4, .int .i64 a1_5, .int .i64 a1_6, .int .i64 a1_7, .int .i64 a1_8, .int .i64 a1_9], .int .i64 3] w fun e w' => e = .returned (.agg #[.int .i64 a1_0, .int .i64 a1_1, .int .i64 a1_2, .int .i64 a1_3, .int .i64 a1_4, .int .i64 a1_5, .int .i64 a1_6, .int .i64 a1_7, .int .i64 a1_8, .int .i64 a1_9]) ∧ Below w.heap.size w w' := by
  have hu28 := Try.underlying28
  have hu58 := Try.underlying58
  have hwI : IntKind.i64.wrap (3 + 1) = 4 := by decide
  have hwJ : IntKind.i64.wrap 4 = 4 := by decide
  obtain ⟨ad, rfl, hc⟩ := Kd.at_int hr a1_3 h0 h1
  have hc3 := exch_keep hc
  have HA := Aside0.mk hA
  obtain ⟨ad', e', hc'⟩ := Kd.at_int hr a1_4 h2 h3
  cases e'
  have hc3' := exch_keep hc'
  have HB := Aside0.mk hB
  clear hA hB hr hc hc'
  go_enter Try.func59, Try.ntmps59
  go_wp2_with (fail)
  go_quiet (fail)
  go_wp2_with (go_at_call 79; first | ((with_reducible refine (impl_has.calls (rd p a1_3) a1_4 _ _ HA.out).mono ?_); rintro e w' ⟨rfl, ⟨nd, rfl⟩⟩) | ((with_reducible refine (impl_has.calls (rd p a1_4) a1_3 _ _ HB.out).mono ?_); rintro e w' ⟨rfl, ⟨nd, rfl⟩⟩))
  refine bodyPost_ret (v := .agg #[.int .i64 a1_0, .int .i64 a1_1, .int .i64 a1_2, .int .i64 a1_3, .int .i64 a1_4, .int .i64 a1_5, .int .i64 a1_6, .int .i64 a1_7, .int .i64 a1_8, .int .i64 a1_9]) (by simp [results, Try.results59, go_sem]) rfl ⟨rfl, ?_⟩
  repeat (with_reducible first | exact Below.refl _ _ | refine below_set ?_ (by omega) | apply pw_below_drewN | apply below_drew1 | apply below_alloc)
set_option maxHeartbeats 8000000 in
set_option maxRecDepth 100000 in
theorem exch3_ff (A0 : Option Addr) (c0 : Nat) (p : List Int) (a1_0 a1_1 a1_2 a1_3 a1_4 a1_5 a1_6 a1_7 a1_8 a1_9 : Int) (w : World) (hr : Kd.C (Kd.int .i64) w A0 p.length p) (h0 : 0 ≤ a1_3) (h1 : a1_3 < (p.length : Int)) (hA : impl_has.f (rd p a1_3) a1_4 = some false) (h2 : 0 ≤ a1_4) (h3 : a1_4 < (p.length : Int)) (hB : impl_has.f (rd p a1_4) a1_3 = some false) :
    Calls Try.prog 59 #[.agg #[.slice A0 p.length c0], .agg #[.int .i64 a1_0, .int .i64 a1_1, .int .i64 a1_2, .int .i64 a1_3, .int .i64 a1_4, .int .i64 a1_5, .int .i64 a1_6, .int .i64 a1_7, .int .i64 a1_8, .int .i64 a1_9], .int .i64 3] w fun e w' => e = .returned (.agg #[.int .i64 a1_0, .int .i64 a1_1, .int .i64 a1_2, .int .i64 a1_4, .int .i64 a1_3, .int .i64 a1_5, .int .i64 a1_6, .int .i64 a1_7, .int .i64 a1_8, .int .i64 a1_9]) ∧ Below w.heap.size w w' := by
  have hu28 := Try.underlying28
  have hu58 := Try.underlying58
  have hwI : IntKind.i64.wrap (3 + 1) = 4 := by decide
  have hwJ : IntKind.i64.wrap 4 = 4 := by decide
  obtain ⟨ad, rfl, hc⟩ := Kd.at_int hr a1_3 h0 h1
  have hc3 := exch_keep hc
  have HA := Aside0.mk hA
  obtain ⟨ad', e', hc'⟩ := Kd.at_int hr a1_4 h2 h3
  cases e'
  have hc3' := exch_keep hc'
  have HB := Aside0.mk hB
  clear hA hB hr hc hc'
  go_enter Try.func59, Try.ntmps59
  go_wp2_with (fail)
  go_quiet (fail)
  go_wp2_with (go_at_call 79; first | ((with_reducible refine (impl_has.calls (rd p a1_3) a1_4 _ _ HA.out).mono ?_); rintro e w' ⟨rfl, ⟨nd, rfl⟩⟩) | ((with_reducible refine (impl_has.calls (rd p a1_4) a1_3 _ _ HB.out).mono ?_); rintro e w' ⟨rfl, ⟨nd, rfl⟩⟩))
  refine bodyPost_ret (v := .agg #[.int .i64 a1_0, .int .i64 a1_1, .int .i64 a1_2, .int .i64 a1_4, .int .i64 a1_3, .int .i64 a1_5, .int .i64 a1_6, .int .i64 a1_7, .int .i64 a1_8, .int .i64 a1_9]) (by simp [results, Try.results59, go_sem]) rfl ⟨rfl, ?_⟩
  repeat (with_reducible first | exact Below.refl _ _ | refine below_set ?_ (by omega) | apply pw_below_drewN | apply below_drew1 | apply below_alloc)
def exchange3.f (l0_0 : List Int) (a1_0 a1_1 a1_2 a1_3 a1_4 a1_5 a1_6 a1_7 a1_8 a1_9 : Int) (a2 : Int) : Option (Int × Int × Int × Int × Int × Int × Int × Int × Int × Int) := if 0 ≤ a1_3 then (if a1_3 < (l0_0.length : Int) then ((impl_has.f (rd l0_0 a1_3) a1_4).bind fun t1 => (if t1 = true then (some (a1_0, a1_1, a1_2, a1_3, a1_4, a1_5, a1_6, a1_7, a1_8, a1_9)) else (if 0 ≤ a1_4 then (if a1_4 < (l0_0.length : Int) then ((impl_has.f (rd l0_0 a1_4) a1_3).bind fun t2 => (if t2 = true then (some (a1_0, a1_1, a1_2, a1_3, a1_4, a1_5, a1_6, a1_7, a1_8, a1_9)) else (some (a1_0, a1_1, a1_2, a1_4, a1_3, a1_5, a1_6, a1_7, a1_8, a1_9)))) else (none)) else (none)))) else (none)) else (none)
theorem exchange3.calls (A0_0 : Option Addr) (c0_0 : Nat) (l0_0 : List Int) (a1_0 a1_1 a1_2 a1_3 a1_4 a1_5 a1_6 a1_7 a1_8 a1_9 : Int) (a2 : Int) (r1 r2 r3 r4 r5 r6 r7 r8 r9 r10 : Int) (w : World) (hr0_0 : Kd.C (Kd.int .i64) w A0_0 l0_0.length l0_0) (h : exchange3.f l0_0 a1_0 a1_1 a1_2 a1_3 a1_4 a1_5 a1_6 a1_7 a1_8 a1_9 a2 = some (r1, r2, r3, r4, r5, r6, r7, r8, r9, r10)) :
    Calls Try.prog 59 #[.agg #[.slice A0_0 l0_0.length c0_0], .agg #[.int .i64 a1_0, .int .i64 a1_1, .int .i64 a1_2, .int .i64 a1_3, .int .i64 a1_4, .int .i64 a1_5, .int .i64 a1_6, .int .i64 a1_7, .int .i64 a1_8, .int .i64 a1_9], .int .i64 3] w fun e w' => e = .returned (.agg #[.int .i64 r1, .int .i64 r2, .int .i64 r3, .int .i64 r4, .int .i64 r5, .int .i64 r6, .int .i64 r7, .int .i64 r8, .int .i64 r9, .int .i64 r10]) ∧ Below w.heap.size w w' := by
  unfold exchange3.f at h
  by_cases h0 : 0 ≤ a1_3
  rotate_left
  · rw [if_neg h0] at h; cases h
  by_cases h1 : a1_3 < (l0_0.length : Int)
  rotate_left
  · rw [if_pos h0, if_neg h1] at h; cases h
  rw [if_pos h0, if_pos h1] at h
  obtain ⟨t1, hA, h⟩ := Option.bind_eq_some_iff.1 h
  cases t1 with
  | true =>
    rw [if_pos rfl] at h
    simp only [Option.some.injEq, Prod.mk.injEq] at h
    obtain ⟨rfl, rfl, rfl, rfl, rfl, rfl, rfl, rfl, rfl, rfl⟩ := h
    exact exch3_t A0_0 c0_0 l0_0 a1_0 a1_1 a1_2 a1_3 a1_4 a1_5 a1_6 a1_7 a1_8 a1_9 w hr0_0 h0 h1 hA
  | false =>
    rw [if_neg (by simp)] at h
    by_cases h2 : 0 ≤ a1_4
    rotate_left
    · rw [if_neg h2] at h; cases h
    by_cases h3 : a1_4 < (l0_0.length : Int)
    rotate_left
    · rw [if_pos h2, if_neg h3] at h; cases h
    rw [if_pos h2, if_pos h3] at h
    obtain ⟨t2, hB, h⟩ := Option.bind_eq_some_iff.1 h
    cases t2 with
    | true =>
      rw [if_pos rfl] at h
      simp only [Option.some.injEq, Prod.mk.injEq] at h
      obtain ⟨rfl, rfl, rfl, rfl, rfl, rfl, rfl, rfl, rfl, rfl⟩ := h
      exact exch3_ft A0_0 c0_0 l0_0 a1_0 a1_1 a1_2 a1_3 a1_4 a1_5 a1_6 a1_7 a1_8 a1_9 w hr0_0 h0 h1 hA h2 h3 hB
    | false =>
      rw [if_neg (by simp)] at h
      simp only [Option.some.injEq, Prod.mk.injEq] at h
      obtain ⟨rfl, rfl, rfl, rfl, rfl, rfl, rfl, rfl, rfl, rfl⟩ := h
      exact exch3_ff A0_0 c0_0 l0_0 a1_0 a1_1 a1_2 a1_3 a1_4 a1_5 a1_6 a1_7 a1_8 a1_9 w hr0_0 h0 h1 hA h2 h3 hB
set_option maxHeartbeats 8000000 in
set_option maxRecDepth 100000 in
theorem exch4_t (A0 : Option Addr) (c0 : Nat) (p : List Int) (a1_0 a1_1 a1_2 a1_3 a1_4 a1_5 a1_6 a1_7 a1_8 a1_9 : Int) (w : World) (hr : Kd.C (Kd.int .i64) w A0 p.length p) (h0 : 0 ≤ a1_4) (h1 : a1_4 < (p.length : Int)) (hA : impl_has.f (rd p a1_4) a1_5 = some true) :
    Calls Try.prog 59 #[.agg #[.slice A0 p.length c0], .agg #[.int .i64 a1_0, .int .i64 a1_1, .int .i64 a1_2, .int .i64 a1_3, .int .i64 a1_4, .int .i64 a1_5, .int .i64 a1_6, .int .i64 a1_7, .int .i64 a1_8, .int .i64 a1_9], .int .i64 4] w fun e w' => e = .returned (.agg #[.int .i64 a1_0, .int .i64 a1_1, .int .i64 a1_2, .int .i64 a1_3, .int .i64 a1_4, .int .i64 a1_5, .int .i64 a1_6, .int .i64 a1_7, .int .i64 a1_8, .int .i64 a1_9]) ∧ Below w.heap.size w w' := by
  have hu28 := Try.underlying28
  have hu58 := Try.underlying58
  have hwI : IntKind.i64.wrap (4 + 1) = 5 := by decide
  have hwJ : IntKind.i64.wrap 5 = 5 := by decide
  obtain ⟨ad, rfl, hc⟩ := Kd.at_int hr a1_4 h0 h1
  have hc3 := exch_keep hc
  have HA := Aside0.mk hA
  clear hA hr hc
  go_enter Try.func59, Try.ntmps59
  go_wp2_with (fail)
  go_quiet (fail)
  go_wp2_with (go_at_call 79; ((with_reducible refine (impl_has.calls (rd p a1_4) a1_5 _ _ HA.out).mono ?_); rintro e w' ⟨rfl, ⟨nd, rfl⟩⟩))
  refine bodyPost_ret (v := .agg #[.int .i64 a1_0, .int .i64 a1_1, .int .i64 a1_2, .int .i64 a1_3, .int .i64 a1_4, .int .i64 a1_5, .int .i64 a1_6, .int .i64 a1_7, .int .i64 a1_8, .int .i64 a1_9]) (by simp [results, Try.results59, go_sem]) rfl ⟨rfl, ?_⟩
  repeat (with_reducible first | exact Below.refl _ _ | refine below_set ?_ (by omega) | apply pw_below_drewN | apply below_drew1 | apply below_alloc)
set_option maxHeartbeats 8000000 in
set_option maxRecDepth 100000 in
theorem exch4_ft (A0 : Option Addr) (c0 : Nat) (p : List Int) (a1_0 a1_1 a1_2 a1_3 a1_4 a1_5 a1_6 a1_7 a1_8 a1_9 : Int) (w : World) (hr : Kd.C (Kd.int .i64) w A0 p.length p) (h0 : 0 ≤ a1_4) (h1 : a1_4 < (p.length : Int)) (hA : impl_has.f (rd p a1_4) a1_5 = some false) (h2 : 0 ≤ a1_5) (h3 : a1_5 < (p.length : Int)) (hB : impl_has.f (rd p a1_5) a1_4 = some true) :
    Calls Try.prog 59 #[.agg #[.slice A0 p.length c0], .agg #[.int .i64 a1_0, .int .i64 a1_1, .int .i64 a1_2, .int .i64 a1_3, .int .i64 a1_4, .int .i64 a1_5, .int .i64 a1_6, .int .i64 a1_7, .int .i64 a1_8, .int .i64 a1_9], .int .i64 4] w fun e w' => e = .returned (.agg #[.int .i64 a1_0, .int .i64 a1_1, .int .i64 a1_2, .int .i64 a1_3, .int .i64 a1_4, .int .i64 a1_5, .int .i64 a1_6, .int .i64 a1_7, .int .i64 a1_8, .int .i64 a1_9]) ∧ Below w.heap.size w w' := by
  have hu28 := Try.underlying28
  have hu58 := Try.underlying58
  have hwI : IntKind.i64.wrap (4 + 1) = 5 := by decide
  have hwJ : IntKind.i64.wrap 5 = 5 := by decide
  obtain ⟨ad, rfl, hc⟩ := Kd.at_int hr a1_4 h0 h1
  have hc3 := exch_keep hc
  have HA := Aside0.mk hA
  obtain ⟨ad', e', hc'⟩ := Kd.at_int hr a1_5 h2 h3
  cases e'
  have hc3' := exch_keep hc'
  have HB := Aside0.mk hB
  clear hA hB hr hc hc'
  go_enter Try.func59, Try.ntmps59
  go_wp2_with (fail)
  go_quiet (fail)
  go_wp2_with (go_at_call 79; first | ((with_reducible refine (impl_has.calls (rd p a1_4) a1_5 _ _ HA.out).mono ?_); rintro e w' ⟨rfl, ⟨nd, rfl⟩⟩) | ((with_reducible refine (impl_has.calls (rd p a1_5) a1_4 _ _ HB.out).mono ?_); rintro e w' ⟨rfl, ⟨nd, rfl⟩⟩))
  refine bodyPost_ret (v := .agg #[.int .i64 a1_0, .int .i64 a1_1, .int .i64 a1_2, .int .i64 a1_3, .int .i64 a1_4, .int .i64 a1_5, .int .i64 a1_6, .int .i64 a1_7, .int .i64 a1_8, .int .i64 a1_9]) (by simp [results, Try.results59, go_sem]) rfl ⟨rfl, ?_⟩
  repeat (with_reducible first | exact Below.refl _ _ | refine below_set ?_ (by omega) | apply pw_below_drewN | apply below_drew1 | apply below_alloc)
set_option maxHeartbeats 8000000 in
set_option maxRecDepth 100000 in
theorem exch4_ff (A0 : Option Addr) (c0 : Nat) (p : List Int) (a1_0 a1_1 a1_2 a1_3 a1_4 a1_5 a1_6 a1_7 a1_8 a1_9 : Int) (w : World) (hr : Kd.C (Kd.int .i64) w A0 p.length p) (h0 : 0 ≤ a1_4) (h1 : a1_4 < (p.length : Int)) (hA : impl_has.f (rd p a1_4) a1_5 = some false) (h2 : 0 ≤ a1_5) (h3 : a1_5 < (p.length : Int)) (hB : impl_has.f (rd p a1_5) a1_4 = some false) :
    Calls Try.prog 59 #[.agg #[.slice A0 p.length c0], .agg #[.int .i64 a1_0, .int .i64 a1_1, .int .i64 a1_2, .int .i64 a1_3, .int .i64 a1_4, .int .i64 a1_5, .int .i64 a1_6, .int .i64 a1_7, .int .i64 a1_8, .int .i64 a1_9], .int .i64 4] w fun e w' => e = .returned (.agg #[.int .i64 a1_0, .int .i64 a1_1, .int .i64 a1_2, .int .i64 a1_3, .int .i64 a1_5, .int .i64 a1_4, .int .i64 a1_6, .int .i64 a1_7, .int .i64 a1_8, .int .i64 a1_9]) ∧ Below w.heap.size w w' := by
  have hu28 := Try.underlying28
  have hu58 := Try.underlying58
  have hwI : IntKind.i64.wrap (4 + 1) = 5 := by decide
  have hwJ : IntKind.i64.wrap 5 = 5 := by decide
  obtain ⟨ad, rfl, hc⟩ := Kd.at_int hr a1_4 h0 h1
  have hc3 := exch_keep hc
  have HA := Aside0.mk hA
  obtain ⟨ad', e', hc'⟩ := Kd.at_int hr a1_5 h2 h3
  cases e'
  have hc3' := exch_keep hc'
  have HB := Aside0.mk hB
  clear hA hB hr hc hc'
  go_enter Try.func59, Try.ntmps59
  go_wp2_with (fail)
  go_quiet (fail)
  go_wp2_with (go_at_call 79; first | ((with_reducible refine (impl_has.calls (rd p a1_4) a1_5 _ _ HA.out).mono ?_); rintro e w' ⟨rfl, ⟨nd, rfl⟩⟩) | ((with_reducible refine (impl_has.calls (rd p a1_5) a1_4 _ _ HB.out).mono ?_); rintro e w' ⟨rfl, ⟨nd, rfl⟩⟩))
  refine bodyPost_ret (v := .agg #[.int .i64 a1_0, .int .i64 a1_1, .int .i64 a1_2, .int .i64 a1_3, .int .i64 a1_5, .int .i64 a1_4, .int .i64 a1_6, .int .i64 a1_7, .int .i64 a1_8, .int .i64 a1_9]) (by simp [results, Try.results59, go_sem]) rfl ⟨rfl, ?_⟩
  repeat (with_reducible first | exact Below.refl _ _ | refine below_set ?_ (by omega) | apply pw_below_drewN | apply below_drew1 | apply below_alloc)
def exchange4.f (l0_0 : List Int) (a1_0 a1_1 a1_2 a1_3 a1_4 a1_5 a1_6 a1_7 a1_8 a1_9 : Int) (a2 : Int) : Option (Int × Int × Int × Int × Int × Int × Int × Int × Int × Int) := if 0 ≤ a1_4 then (if a1_4 < (l0_0.length : Int) then ((impl_has.f (rd l0_0 a1_4) a1_5).bind fun t1 => (if t1 = true then (some (a1_0, a1_1, a1_2, a1_3, a1_4, a1_5, a1_6, a1_7, a1_8, a1_9)) else (if 0 ≤ a1_5 then (if a1_5 < (l0_0.length : Int) then ((impl_has.f (rd l0_0 a1_5) a1_4).bind fun t2 => (if t2 = true then (some (a1_0, a1_1, a1_2, a1_3, a1_4, a1_5, a1_6, a1_7, a1_8, a1_9)) else (some (a1_0, a1_1, a1_2, a1_3, a1_5, a1_4, a1_6, a1_7, a1_8, a1_9)))) else (none)) else (none)))) else (none)) else (none)
theorem exchange4.calls (A0_0 : Option Addr) (c0_0 : Nat) (l0_0 : List Int) (a1_0 a1_1 a1_2 a1_3 a1_4 a1_5 a1_6 a1_7 a1_8 a1_9 : Int) (a2 : Int) (r1 r2 r3 r4 r5 r6 r7 r8 r9 r10 : Int) (w : World) (hr0_0 : Kd.C (Kd.int .i64) w A0_0 l0_0.length l0_0) (h : exchange4.f l0_0 a1_0 a1_1 a1_2 a1_3 a1_4 a1_5 a1_6 a1_7 a1_8 a1_9 a2 = some (r1, r2, r3, r4, r5, r6, r7, r8, r9, r10)) :
    Calls Try.prog 59 #[.agg #[.slice A0_0 l0_0.length c0_0], .agg #[.int .i64 a1_0, .int .i64 a1_1, .int .i64 a1_2, .int .i64 a1_3, .int .i64 a1_4, .int .i64 a1_5, .int .i64 a1_6, .int .i64 a1_7, .int .i64 a1_8, .int .i64 a1_9], .int .i64 4] w fun e w' => e = .returned (.agg #[.int .i64 r1, .int .i64 r2, .int .i64 r3, .int .i64 r4, .int .i64 r5, .int .i64 r6, .int .i64 r7, .int .i64 r8, .int .i64 r9, .int .i64 r10]) ∧ Below w.heap.size w w' := by
  unfold exchange4.f at h
  by_cases h0 : 0 ≤ a1_4
  rotate_left
  · rw [if_neg h0] at h; cases h
  by_cases h1 : a1_4 < (l0_0.length : Int)
  rotate_left
  · rw [if_pos h0, if_neg h1] at h; cases h
  rw [if_pos h0, if_pos h1] at h
  obtain ⟨t1, hA, h⟩ := Option.bind_eq_some_iff.1 h
  cases t1 with
  | true =>
    rw [if_pos rfl] at h
    simp only [Option.some.injEq, Prod.mk.injEq] at h
    obtain ⟨rfl, rfl, rfl, rfl, rfl, rfl, rfl, rfl, rfl, rfl⟩ := h
    exact exch4_t A0_0 c0_0 l0_0 a1_0 a1_1 a1_2 a1_3 a1_4 a1_5 a1_6 a1_7 a1_8 a1_9 w hr0_0 h0 h1 hA
  | false =>
    rw [if_neg (by simp)] at h
    by_cases h2 : 0 ≤ a1_5
    rotate_left
    · rw [if_neg h2] at h; cases h
    by_cases h3 : a1_5 < (l0_0.length : Int)
    rotate_left
    · rw [if_pos h2, if_neg h3] at h; cases h
    rw [if_pos h2, if_pos h3] at h
    obtain ⟨t2, hB, h⟩ := Option.bind_eq_some_iff.1 h
    cases t2 with
    | true =>
      rw [if_pos rfl] at h
      simp only [Option.some.injEq, Prod.mk.injEq] at h
      obtain ⟨rfl, rfl, rfl, rfl, rfl, rfl, rfl, rfl, rfl, rfl⟩ := h
      exact exch4_ft A0_0 c0_0 l0_0 a1_0 a1_1 a1_2 a1_3 a1_4 a1_5 a1_6 a1_7 a1_8 a1_9 w hr0_0 h0 h1 hA h2 h3 hB
    | false =>
      rw [if_neg (by simp)] at h
      simp only [Option.some.injEq, Prod.mk.injEq] at h
      obtain ⟨rfl, rfl, rfl, rfl, rfl, rfl, rfl, rfl, rfl, rfl⟩ := h
      exact exch4_ff A0_0 c0_0 l0_0 a1_0 a1_1 a1_2 a1_3 a1_4 a1_5 a1_6 a1_7 a1_8 a1_9 w hr0_0 h0 h1 hA h2 h3 hB
set_option maxHeartbeats 8000000 in
set_option maxRecDepth 100000 in
theorem exch5_t (A0 : Option Addr) (c0 : Nat) (p : List Int) (a1_0 a1_1 a1_2 a1_3 a1_4 a1_5 a1_6 a1_7 a1_8 a1_9 : Int) (w : World) (hr : Kd.C (Kd.int .i64) w A0 p.length p) (h0 : 0 ≤ a1_5) (h1 : a1_5 < (p.length : Int)) (hA : impl_has.f (rd p a1_5) a1_6 = some true) :
    Calls Try.prog 59 #[.agg #[.slice A0 p.length c0], .agg #[.int .i64 a1_0, .int .i64 a1_1, .int .i64 a1_2, .int .i64 a1_3, .int .i64 a1_4, .int .i64 a1_5, .int .i64 a1_6, .int .i64 a1_7, .int .i64 a1_8, .int .i64 a1_9], .int .i64 5] w fun e w' => e = .returned (.agg #[.int .i64 a1_0, .int .i64 a1_1, .int .i64 a1_2, .int .i64 a1_3, .int .i64 a1_4, .int .i64 a1_5, .int .i64 a1_6, .int .i64 a1_7, .int .i64 a1_8, .int .i64 a1_9]) ∧ Below w.heap.size w w' := by
  have hu28 := Try.underlying28
  have hu58 := Try.underlying58
  have hwI : IntKind.i64.wrap (5 + 1) = 6 := by decide
  have hwJ : IntKind.i64.wrap 6 = 6 := by decide
  obtain ⟨ad, rfl, hc⟩ := Kd.at_int hr a1_5 h0 h1
  have hc3 := exch_keep hc
  have HA := Aside0.mk hA
  clear hA hr hc
  go_enter Try.func59, Try.ntmps59
  go_wp2_with (fail)
  go_quiet (fail)
  go_wp2_with (go_at_call 79; ((with_reducible refine (impl_has.calls (rd p a1_5) a1_6 _ _ HA.out).mono ?_); rintro e w' ⟨rfl, ⟨nd, rfl⟩⟩))
  refine bodyPost_ret (v := .agg #[.int .i64 a1_0, .int .i64 a1_1, .int .i64 a1_2, .int .i64 a1_3, .int .i64 a1_4, .int .i64 a1_5, .int .i64 a1_6, .int .i64 a1_7, .int .i64 a1_8, .int .i64 a1_9]) (by simp [results, Try.results59, go_sem]) rfl ⟨rfl, ?_⟩
  repeat (with_reducible first | exact Below.refl _ _ | refine below_set ?_ (by omega) | apply pw_below_drewN | apply below_drew1 | apply below_alloc)
set_option maxHeartbeats 8000000 in
set_option maxRecDepth 100000 in
theorem exch5_ft (A0 : Option Addr) (c0 : Nat) (p : List Int) (a1_0 a1_1 a1_2 a1_3 a1_4 a1_5 a1_6 a1_7 a1_8 a1_9 : Int) (w : World) (hr : Kd.C (Kd.int .i64) w A0 p.length p) (h0 : 0 ≤ a1_5) (h1 : a1_5 < (p.length : Int)) (hA : impl_has.f (rd p a1_5) a1_6 = some false) (h2 : 0 ≤ a1_6) (h3 : a1_6 < (p.length : Int)) (hB : impl_has.f (rd p a1_6) a1_5 = some true) :
    Calls Try.prog 59 #[.agg #[.slice A0 p.length c0], .agg #[.int .i64 a1_0, .int .i64 a1_1, .int .i64 a1_2, .int .i64 a1_3, .int .i64 a1_4, .int .i64 a1_5, .int .i64 a1_6, .int .i64 a1_7, .int .i64 a1_8, .int .i64 a1_9], .int .i64 5] w fun e w' => e = .returned (.agg #[.int .i64 a1_0, .int .i64 a1_1, .int .i64 a1_2, .int .i64 a1_3, .int .i64 a1_4, .int .i64 a1_5, .int .i64 a1_6, .int .i64 a1_7, .int .i64 a1_8, .int .i64 a1_9]) ∧ Below w.heap.size w w' := by
  have hu28 := Try.underlying28
  have hu58 := Try.underlying58
  have hwI : IntKind.i64.wrap (5 + 1) = 6 := by decide
  have hwJ : IntKind.i64.wrap 6 = 6 := by decide
  obtain ⟨ad, rfl, hc⟩ := Kd.at_int hr a1_5 h0 h1
  have hc3 := exch_keep hc
  have HA := Aside0.mk hA
  obtain ⟨ad', e', hc'⟩ := Kd.at_int hr a1_6 h2 h3
  cases e'
  have hc3' := exch_keep hc'
  have HB := Aside0.mk hB
  clear hA hB hr hc hc'
  go_enter Try.func59, Try.ntmps59
  go_wp2_with (fail)
  go_quiet (fail)
  go_wp2_with (go_at_call 79; first | ((with_reducible refine (impl_has.calls (rd p a1_5) a1_6 _ _ HA.out).mono ?_); rintro e w' ⟨rfl, ⟨nd, rfl⟩⟩) | ((with_reducible refine (impl_has.calls (rd p a1_6) a1_5 _ _ HB.out).mono ?_); rintro e w' ⟨rfl, ⟨nd, rfl⟩⟩))
  refine bodyPost_ret (v := .agg #[.int .i64 a1_0, .int .i64 a1_1, .int .i64 a1_2, .int .i64 a1_3, .int .i64 a1_4, .int .i64 a1_5, .int .i64 a1_6, .int .i64 a1_7, .int .i64 a1_8, .int .i64 a1_9]) (by simp [results, Try.results59, go_sem]) rfl ⟨rfl, ?_⟩
  repeat (with_reducible first | exact Below.refl _ _ | refine below_set ?_ (by omega) | apply pw_below_drewN | apply below_drew1 | apply below_alloc)
set_option maxHeartbeats 8000000 in
set_option maxRecDepth 100000 in
theorem exch5_ff (A0 : Option Addr) (c0 : Nat) (p : List Int) (a1_0 a1_1 a1_2 a1_3 a1_4 a1_5 a1_6 a1_7 a1_8 a1_9 : Int) (w : World) (hr : Kd.C (Kd.int .i64) w A0 p.length p) (h0 : 0 ≤ a1_5) (h1 : a1_5 < (p.length : Int)) (hA : impl_has.f (rd p a1_5) a1_6 = some false) (h2 : 0 ≤ a1_6) (h3 : a1_6 < (p.length : Int)) (hB : impl_has.f (rd p a1_6) a1_5 = some false) :
    Calls Try.prog 59 #[.agg #[.slice A0 p.length c0], .agg #[.int .i64 a1_0, .int .i64 a1_1, .int .i64 a1_2, .int .i64 a1_3, .int .i64 a1_4, .int .i64 a1_5, .int .i64 a1_6, .int .i64 a1_7, .int .i64 a1_8, .int .i64 a1_9], .int .i64 5] w fun e w' => e = .returned (.agg #[.int .i64 a1_0, .int .i64 a1_1, .int .i64 a1_2, .int .i64 a1_3, .int .i64 a1_4, .int .i64 a1_6, .int .i64 a1_5, .int .i64 a1_7, .int .i64 a1_8, .int .i64 a1_9]) ∧ Below w.heap.size w w' := by
  have hu28 := Try.underlying28
  have hu58 := Try.underlying58
  have hwI : IntKind.i64.wrap (5 + 1) = 6 := by decide
  have hwJ : IntKind.i64.wrap 6 = 6 := by decide
  obtain ⟨ad, rfl, hc⟩ := Kd.at_int hr a1_5 h0 h1
  have hc3 := exch_keep hc
  have HA := Aside0.mk hA
  obtain ⟨ad', e', hc'⟩ := Kd.at_int hr a1_6 h2 h3
  cases e'
  have hc3' := exch_keep hc'
  have HB := Aside0.mk hB
  clear hA hB hr hc hc'
  go_enter Try.func59, Try.ntmps59
  go_wp2_with (fail)
  go_quiet (fail)
  go_wp2_with (go_at_call 79; first | ((with_reducible refine (impl_has.calls (rd p a1_5) a1_6 _ _ HA.out).mono ?_); rintro e w' ⟨rfl, ⟨nd, rfl⟩⟩) | ((with_reducible refine (impl_has.calls (rd p a1_6) a1_5 _ _ HB.out).mono ?_); rintro e w' ⟨rfl, ⟨nd, rfl⟩⟩))
  refine bodyPost_ret (v := .agg #[.int .i64 a1_0, .int .i64 a1_1, .int .i64 a1_2, .int .i64 a1_3, .int .i64 a1_4, .int .i64 a1_6, .int .i64 a1_5, .int .i64 a1_7, .int .i64 a1_8, .int .i64 a1_9]) (by simp [results, Try.results59, go_sem]) rfl ⟨rfl, ?_⟩
  repeat (with_reducible first | exact Below.refl _ _ | refine below_set ?_ (by omega) | apply pw_below_drewN | apply below_drew1 | apply below_alloc)
def exchange5.f (l0_0 : List Int) (a1_0 a1_1 a1_2 a1_3 a1_4 a1_5 a1_6 a1_7 a1_8 a1_9 : Int) (a2 : Int) : Option (Int × Int × Int × Int × Int × Int × Int × Int × Int × Int) := if 0 ≤ a1_5 then (if a1_5 < (l0_0.length : Int) then ((impl_has.f (rd l0_0 a1_5) a1_6).bind fun t1 => (if t1 = true then (some (a1_0, a1_1, a1_2, a1_3, a1_4, a1_5, a1_6, a1_7, a1_8, a1_9)) else (if 0 ≤ a1_6 then (if a1_6 < (l0_0.length : Int) then ((impl_has.f (rd l0_0 a1_6) a1_5).bind fun t2 => (if t2 = true then (some (a1_0, a1_1, a1_2, a1_3, a1_4, a1_5, a1_6, a1_7, a1_8, a1_9)) else (some (a1_0, a1_1, a1_2, a1_3, a1_4, a1_6, a1_5, a1_7, a1_8, a1_9)))) else (none)) else (none)))) else (none)) else (none)
theorem exchange5.calls (A0_0 : Option Addr) (c0_0 : Nat) (l0_0 : List Int) (a1_0 a1_1 a1_2 a1_3 a1_4 a1_5 a1_6 a1_7 a1_8 a1_9 : Int) (a2 : Int) (r1 r2 r3 r4 r5 r6 r7 r8 r9 r10 : Int) (w : World) (hr0_0 : Kd.C (Kd.int .i64) w A0_0 l0_0.length l0_0) (h : exchange5.f l0_0 a1_0 a1_1 a1_2 a1_3 a1_4 a1_5 a1_6 a1_7 a1_8 a1_9 a2 = some (r1, r2, r3, r4, r5, r6, r7, r8, r9, r10)) :
    Calls Try.prog 59 #[.agg #[.slice A0_0 l0_0.length c0_0], .agg #[.int .i64 a1_0, .int .i64 a1_1, .int .i64 a1_2, .int .i64 a1_3, .int .i64 a1_4, .int .i64 a1_5, .int .i64 a1_6, .int .i64 a1_7, .int .i64 a1_8, .int .i64 a1_9], .int .i64 5] w fun e w' => e = .returned (.agg #[.int .i64 r1, .int .i64 r2, .int .i64 r3, .int .i64 r4, .int .i64 r5, .int .i64 r6, .int .i64 r7, .int .i64 r8, .int .i64 r9, .int .i64 r10]) ∧ Below w.heap.size w w' := by
  unfold exchange5.f at h
  by_cases h0 : 0 ≤ a1_5
  rotate_left
  · rw [if_neg h0] at h; cases h
  by_cases h1 : a1_5 < (l0_0.length : Int)
  rotate_left
  · rw [if_pos h0, if_neg h1] at h; cases h
  rw [if_pos h0, if_pos h1] at h
  obtain ⟨t1, hA, h⟩ := Option.bind_eq_some_iff.1 h
  cases t1 with
  | true =>
    rw [if_pos rfl] at h
    simp only [Option.some.injEq, Prod.mk.injEq] at h
    obtain ⟨rfl, rfl, rfl, rfl, rfl, rfl, rfl, rfl, rfl, rfl⟩ := h
    exact exch5_t A0_0 c0_0 l0_0 a1_0 a1_1 a1_2 a1_3 a1_4 a1_5 a1_6 a1_7 a1_8 a1_9 w hr0_0 h0 h1 hA
  | false =>
    rw [if_neg (by simp)] at h
    by_cases h2 : 0 ≤ a1_6
    rotate_left
    · rw [if_neg h2] at h; cases h
    by_cases h3 : a1_6 < (l0_0.length : Int)
    rotate_left
    · rw [if_pos h2, if_neg h3] at h; cases h
    rw [if_pos h2, if_pos h3] at h
    obtain ⟨t2, hB, h⟩ := Option.bind_eq_some_iff.1 h
    cases t2 with
    | true =>
      rw [if_pos rfl] at h
      simp only [Option.some.injEq, Prod.mk.injEq] at h
      obtain ⟨rfl, rfl, rfl, rfl, rfl, rfl, rfl, rfl, rfl, rfl⟩ := h
      exact exch5_ft A0_0 c0_0 l0_0 a1_0 a1_1 a1_2 a1_3 a1_4 a1_5 a1_6 a1_7 a1_8 a1_9 w hr0_0 h0 h1 hA h2 h3 hB
    | false =>
      rw [if_neg (by simp)] at h
      simp only [Option.some.injEq, Prod.mk.injEq] at h
      obtain ⟨rfl, rfl, rfl, rfl, rfl, rfl, rfl, rfl, rfl, rfl⟩ := h
      exact exch5_ff A0_0 c0_0 l0_0 a1_0 a1_1 a1_2 a1_3 a1_4 a1_5 a1_6 a1_7 a1_8 a1_9 w hr0_0 h0 h1 hA h2 h3 hB
set_option maxHeartbeats 8000000 in
set_option maxRecDepth 100000 in
theorem exch6_t (A0 : Option Addr) (c0 : Nat) (p : List Int) (a1_0 a1_1 a1_2 a1_3 a1_4 a1_5 a1_6 a1_7 a1_8 a1_9 : Int) (w : World) (hr : Kd.C (Kd.int .i64) w A0 p.length p) (h0 : 0 ≤ a1_6) (h1 : a1_6 < (p.length : Int)) (hA : impl_has.f (rd p a1_6) a1_7 = some true) :
    Calls Try.prog 59 #[.agg #[.slice A0 p.length c0], .agg #[.int .i64 a1_0, .int .i64 a1_1, .int .i64 a1_2, .int .i64 a1_3, .int .i64 a1_4, .int .i64 a1_5, .int .i64 a1_6, .int .i64 a1_7, .int .i64 a1_8, .int .i64 a1_9], .int .i64 6] w fun e w' => e = .returned (.agg #[.int .i64 a1_0, .int .i64 a1_1, .int .i64 a1_2, .int .i64 a1_3, .int .i64 a1_4, .int .i64 a1_5, .int .i64 a1_6, .int .i64 a1_7, .int .i64 a1_8, .int .i64 a1_9]) ∧ Below w.heap.size w w' := by
  have hu28 := Try.underlying28
  have hu58 := Try.underlying58
  have hwI : IntKind.i64.wrap (6 + 1) = 7 := by decide
  have hwJ : IntKind.i64.wrap 7 = 7 := by decide
  obtain ⟨ad, rfl, hc⟩ := Kd.at_int hr a1_6 h0 h1
  have hc3 := exch_keep hc
  have HA := Aside0.mk hA
  clear hA hr hc
  go_enter Try.func59, Try.ntmps59
  go_wp2_with (fail)
  go_quiet (fail)
  go_wp2_with (go_at_call 79; ((with_reducible refine (impl_has.calls (rd p a1_6) a1_7 _ _ HA.out).mono ?_); rintro e w' ⟨rfl, ⟨nd, rfl⟩⟩))
  refine bodyPost_ret (v := .agg #[.int .i64 a1_0, .int .i64 a1_1, .int .i64 a1_2, .int .i64 a1_3, .int .i64 a1_4, .int .i64 a1_5, .int .i64 a1_6, .int .i64 a1_7, .int .i64 a1_8, .int .i64 a1_9]) (by simp [results, Try.results59, go_sem]) rfl ⟨rfl, ?_⟩
  repeat (with_reducible first | exact Below.refl _ _ | refine below_set ?_ (by omega) | apply pw_below_drewN | apply below_drew1 | apply below_alloc)
set_option maxHeartbeats 8000000 in
set_option maxRecDepth 100000 in
theorem exch6_ft (A0 : Option Addr) (c0 : Nat) (p : List Int) (a1_0 a1_1 a1_2 a1_3 a1_4 a1_5 a1_6 a1_7 a1_8 a1_9 : Int) (w : World) (hr : Kd.C (Kd.int .i64) w A0 p.length p) (h0 : 0 ≤ a1_6) (h1 : a1_6 < (p.length : Int)) (hA : impl_has.f (rd p a1_6) a1_7 = some false) (h2 : 0 ≤ a1_7) (h3 : a1_7 < (p.length : Int)) (hB : impl_has.f (rd p a1_7) a1_6 = some true) :
    Calls Try.prog 59 #[.agg #[.slice A0 p.length c0], .agg #[.int .i64 a1_0, .int .i64 a1_1, .int .i64 a1_2, .int .i64 a1_3, .int .i64 a1_4, .int .i64 a1_5, .int .i64 a1_6, .int .i64 a1_7, .int .i64 a1_8, .int .i64 a1_9], .int .i64 6] w fun e w' => e = .returned (.agg #[.int .i64 a1_0, .int .i64 a1_1, .int .i64 a1_2, .int .i64 a1_3, .int .i64 a1_4, .int .i64 a1_5, .int .i64 a1_6, .int .i64 a1_7, .int .i64 a1_8, .int .i64 a1_9]) ∧ Below w.heap.size w w' := by
  have hu28 := Try.underlying28
  have hu58 := Try.underlying58
  have hwI : IntKind.i64.wrap (6 + 1) = 7 := by decide
  have hwJ : IntKind.i64.wrap 7 = 7 := by decide
  obtain ⟨ad, rfl, hc⟩ := Kd.at_int hr a1_6 h0 h1
  have hc3 := exch_keep hc
  have HA := Aside0.mk hA
  obtain ⟨ad', e', hc'⟩ := Kd.at_int hr a1_7 h2 h3
  cases e'
  have hc3' := exch_keep hc'
  have HB := Aside0.mk hB
  clear hA hB hr hc hc'
  go_enter Try.func59, Try.ntmps59
  go_wp2_with (fail)
  go_quiet (fail)
  go_wp2_with (go_at_call 79; first | ((with_reducible refine (impl_has.calls (rd p a1_6) a1_7 _ _ HA.out).mono ?_); rintro e w' ⟨rfl, ⟨nd, rfl⟩⟩) | ((with_reducible refine (impl_has.calls (rd p a1_7) a1_6 _ _ HB.out).mono ?_); rintro e w' ⟨rfl, ⟨nd, rfl⟩⟩))
  refine bodyPost_ret (v := .agg #[.int .i64 a1_0, .int .i64 a1_1, .int .i64 a1_2, .int .i64 a1_3, .int .i64 a1_4, .int .i64 a1_5, .int .i64 a1_6, .int .i64 a1_7, .int .i64 a1_8, .int .i64 a1_9]) (by simp [results, Try.results59, go_sem]) rfl ⟨rfl, ?_⟩
  repeat (with_reducible first | exact Below.refl _ _ | refine below_set ?_ (by omega) | apply pw_below_drewN | apply below_drew1 | apply below_alloc)
set_option maxHeartbeats 8000000 in
set_option maxRecDepth 100000 in
theorem exch6_ff (A0 : Option Addr) (c0 : Nat) (p : List Int) (a1_0 a1_1 a1_2 a1_3 a1_4 a1_5 a1_6 a1_7 a1_8 a1_9 : Int) (w : World) (hr : Kd.C (Kd.int .i64) w A0 p.length p) (h0 : 0 ≤ a1_6) (h1 : a1_6 < (p.length : Int)) (hA : impl_has.f (rd p a1_6) a1_7 = some false) (h2 : 0 ≤ a1_7) (h3 : a1_7 < (p.length : Int)) (hB : impl_has.f (rd p a1_7) a1_6 = some false) :
    Calls Try.prog 59 #[.agg #[.slice A0 p.length c0], .agg #[.int .i64 a1_0, .int .i64 a1_1, .int .i64 a1_2, .int .i64 a1_3, .int .i64 a1_4, .int .i64 a1_5, .int .i64 a1_6, .int .i64 a1_7, .int .i64 a1_8, .int .i64 a1_9], .int .i64 6] w fun e w' => e = .returned (.agg #[.int .i64 a1_0, .int .i64 a1_1, .int .i64 a1_2, .int .i64 a1_3, .int .i64 a1_4, .int .i64 a1_5, .int .i64 a1_7, .int .i64 a1_6, .int .i64 a1_8, .int .i64 a1_9]) ∧ Below w.heap.size w w' := by
  have hu28 := Try.underlying28
  have hu58 := Try.underlying58
  have hwI : IntKind.i64.wrap (6 + 1) = 7 := by decide
  have hwJ : IntKind.i64.wrap 7 = 7 := by decide
  obtain ⟨ad, rfl, hc⟩ := Kd.at_int hr a1_6 h0 h1
  have hc3 := exch_keep hc
  have HA := Aside0.mk hA
  obtain ⟨ad', e', hc'⟩ := Kd.at_int hr a1_7 h2 h3
  cases e'
  have hc3' := exch_keep hc'
  have HB := Aside0.mk hB
  clear hA hB hr hc hc'
  go_enter Try.func59, Try.ntmps59
  go_wp2_with (fail)
  go_quiet (fail)
  go_wp2_with (go_at_call 79; first | ((with_reducible refine (impl_has.calls (rd p a1_6) a1_7 _ _ HA.out).mono ?_); rintro e w' ⟨rfl, ⟨nd, rfl⟩⟩) | ((with_reducible refine (impl_has.calls (rd p a1_7) a1_6 _ _ HB.out).mono ?_); rintro e w' ⟨rfl, ⟨nd, rfl⟩⟩))
  refine bodyPost_ret (v := .agg #[.int .i64 a1_0, .int .i64 a1_1, .int .i64 a1_2, .int .i64 a1_3, .int .i64 a1_4, .int .i64 a1_5, .int .i64 a1_7, .int .i64 a1_6, .int .i64 a1_8, .int .i64 a1_9]) (by simp [results, Try.results59, go_sem]) rfl ⟨rfl, ?_⟩
  repeat (with_reducible first | exact Below.refl _ _ | refine below_set ?_ (by omega) | apply pw_below_drewN | apply below_drew1 | apply below_alloc)
def exchange6.f (l0_0 : List Int) (a1_0 a1_1 a1_2 a1_3 a1_4 a1_5 a1_6 a1_7 a1_8 a1_9 : Int) (a2 : Int) : Option (Int × Int × Int × Int × Int × Int × Int × Int × Int × Int) := if 0 ≤ a1_6 then (if a1_6 < (l0_0.length : Int) then ((impl_has.f (rd l0_0 a1_6) a1_7).bind fun t1 => (if t1 = true then (some (a1_0, a1_1, a1_2, a1_3, a1_4, a1_5, a1_6, a1_7, a1_8, a1_9)) else (if 0 ≤ a1_7 then (if a1_7 < (l0_0.length : Int) then ((impl_has.f (rd l0_0 a1_7) a1_6).bind fun t2 => (if t2 = true then (some (a1_0, a1_1, a1_2, a1_3, a1_4, a1_5, a1_6, a1_7, a1_8, a1_9)) else (some (a1_0, a1_1, a1_2, a1_3, a1_4, a1_5, a1_7, a1_6, a1_8, a1_9)))) else (none)) else (none)))) else (none)) else (none)
theorem exchange6.calls (A0_0 : Option Addr) (c0_0 : Nat) (l0_0 : List Int) (a1_0 a1_1 a1_2 a1_3 a1_4 a1_5 a1_6 a1_7 a1_8 a1_9 : Int) (a2 : Int) (r1 r2 r3 r4 r5 r6 r7 r8 r9 r10 : Int) (w : World) (hr0_0 : Kd.C (Kd.int .i64) w A0_0 l0_0.length l0_0) (h : exchange6.f l0_0 a1_0 a1_1 a1_2 a1_3 a1_4 a1_5 a1_6 a1_7 a1_8 a1_9 a2 = some (r1, r2, r3, r4, r5, r6, r7, r8, r9, r10)) :
    Calls Try.prog 59 #[.agg #[.slice A0_0 l0_0.length c0_0], .agg #[.int .i64 a1_0, .int .i64 a1_1, .int .i64 a1_2, .int .i64 a1_3, .int .i64 a1_4, .int .i64 a1_5, .int .i64 a1_6, .int .i64 a1_7, .int .i64 a1_8, .int .i64 a1_9], .int .i64 6] w fun e w' => e = .returned (.agg #[.int .i64 r1, .int .i64 r2, .int .i64 r3, .int .i64 r4, .int .i64 r5, .int .i64 r6, .int .i64 r7, .int .i64 r8, .int .i64 r9, .int .i64 r10]) ∧ Below w.heap.size w w' := by
  unfold exchange6.f at h
  by_cases h0 : 0 ≤ a1_6
  rotate_left
  · rw [if_neg h0] at h; cases h
  by_cases h1 : a1_6 < (l0_0.length : Int)
  rotate_left
  · rw [if_pos h0, if_neg h1] at h; cases h
  rw [if_pos h0, if_pos h1] at h
  obtain ⟨t1, hA, h⟩ := Option.bind_eq_some_iff.1 h
  cases t1 with
  | true =>
    rw [if_pos rfl] at h
    simp only [Option.some.injEq, Prod.mk.injEq] at h
    obtain ⟨rfl, rfl, rfl, rfl, rfl, rfl, rfl, rfl, rfl, rfl⟩ := h
    exact exch6_t A0_0 c0_0 l0_0 a1_0 a1_1 a1_2 a1_3 a1_4 a1_5 a1_6 a1_7 a1_8 a1_9 w hr0_0 h0 h1 hA
  | false =>
    rw [if_neg (by simp)] at h
    by_cases h2 : 0 ≤ a1_7
    rotate_left
    · rw [if_neg h2] at h; cases h
    by_cases h3 : a1_7 < (l0_0.length : Int)
    rotate_left
    · rw [if_pos h2, if_neg h3] at h; cases h
    rw [if_pos h2, if_pos h3] at h
    obtain ⟨t2, hB, h⟩ := Option.bind_eq_some_iff.1 h
    cases t2 with
    | true =>
      rw [if_pos rfl] at h
      simp only [Option.some.injEq, Prod.mk.injEq] at h
      obtain ⟨rfl, rfl, rfl, rfl, rfl, rfl, rfl, rfl, rfl, rfl⟩ := h
      exact exch6_ft A0_0 c0_0 l0_0 a1_0 a1_1 a1_2 a1_3 a1_4 a1_5 a1_6 a1_7 a1_8 a1_9 w hr0_0 h0 h1 hA h2 h3 hB
    | false =>
      rw [if_neg (by simp)] at h
      simp only [Option.some.injEq, Prod.mk.injEq] at h
      obtain ⟨rfl, rfl, rfl, rfl, rfl, rfl, rfl, rfl, rfl, rfl⟩ := h
      exact exch6_ff A0_0 c0_0 l0_0 a1_0 a1_1 a1_2 a1_3 a1_4 a1_5 a1_6 a1_7 a1_8 a1_9 w hr0_0 h0 h1 hA h2 h3 hB
set_option maxHeartbeats 8000000 in
set_option maxRecDepth 100000 in
theorem exch7_t (A0 : Option Addr) (c0 : Nat) (p : List Int) (a1_0 a1_1 a1_2 a1_3 a1_4 a1_5 a1_6 a1_7 a1_8 a1_9 : Int) (w : World) (hr : Kd.C (Kd.int .i64) w A0 p.length p) (h0 : 0 ≤ a1_7) (h1 : a1_7 < (p.length : Int)) (hA : impl_has.f (rd p a1_7) a1_8 = some true) :
    Calls Try.prog 59 #[.agg #[.slice A0 p.length c0], .agg #[.int .i64 a1_0, .int .i64 a1_1, .int .i64 a1_2, .int .i64 a1_3, .int .i64 a1_4, .int .i64 a1_5, .int .i64 a1_6, .int .i64 a1_7, .int .i64 a1_8, .int .i64 a1_9], .int .i64 7] w fun e w' => e = .returned (.agg #[.int .i64 a1_0, .int .i64 a1_1, .int .i64 a1_2, .int .i64 a1_3, .int .i64 a1_4, .int .i64 a1_5, .int .i64 a1_6, .int .i64 a1_7, .int .i64 a1_8, .int .i64 a1_9]) ∧ Below w.heap.size w w' := by
  have hu28 := Try.underlying28
  have hu58 := Try.underlying58
  have hwI : IntKind.i64.wrap (7 + 1) = 8 := by decide
  have hwJ : IntKind.i64.wrap 8 = 8 := by decide
  obtain ⟨ad, rfl, hc⟩ := Kd.at_int hr a1_7 h0 h1
  have hc3 := exch_keep hc
  have HA := Aside0.mk hA
  clear hA hr hc
  go_enter Try.func59, Try.ntmps59
  go_wp2_with (fail)
  go_quiet (fail)
  go_wp2_with (go_at_call 79; ((with_reducible refine (impl_has.calls (rd p a1_7) a1_8 _ _ HA.out).mono ?_); rintro e w' ⟨rfl, ⟨nd, rfl⟩⟩))
  refine bodyPost_ret (v := .agg #[.int .i64 a1_0, .int .i64 a1_1, .int .i64 a1_2, .int .i64 a1_3, .int .i64 a1_4, .int .i64 a1_5, .int .i64 a1_6, .int .i64 a1_7, .int .i64 a1_8, .int .i64 a1_9]) (by simp [results, Try.results59, go_sem]) rfl ⟨rfl, ?_⟩
  repeat (with_reducible first | exact Below.refl _ _ | refine below_set ?_ (by omega) | apply pw_below_drewN | apply below_drew1 | apply below_alloc)
set_option maxHeartbeats 8000000 in
set_option maxRecDepth 100000 in
theorem exch7_ft (A0 : Option Addr) (c0 : Nat) (p : List Int) (a1_0 a1_1 a1_2 a1_3 a1_4 a1_5 a1_6 a1_7 a1_8 a1_9 : Int) (w : World) (hr : Kd.C (Kd.int .i64) w A0 p.length p) (h0 : 0 ≤ a1_7) (h1 : a1_7 < (p.length : Int)) (hA : impl_has.f (rd p a1_7) a1_8 = some false) (h2 : 0 ≤ a1_8) (h3 : a1_8 < (p.length : Int)) (hB : impl_has.f (rd p a1_8) a1_7 = some true) :
    Calls Try.prog 59 #[.agg #[.slice A0 p.length c0], .agg #[.int .i64 a1_0, .int .i64 a1_1, .int .i64 a1_2, .int .i64 a1_3, .int .i64 a1_4, .int .i64 a1_5, .int .i64 a1_6, .int .i64 a1_7, .int .i64 a1_8, .int .i64 a1_9], .int .i64 7] w fun e w' => e = .returned (.agg #[.int .i64 a1_0, .int .i64 a1_1, .int .i64 a1_2, .int .i64 a1_3, .int .i64 a1_4, .int .i64 a1_5, .int .i64 a1_6, .int .i64 a1_7, .int .i64 a1_8, .int .i64 a1_9]) ∧ Below w.heap.size w w' := by
  have hu28 := Try.underlying28
  have hu58 := Try.underlying58
  have hwI : IntKind.i64.wrap (7 + 1) = 8 := by decide
  have hwJ : IntKind.i64.wrap 8 = 8 := by decide
  obtain ⟨ad, rfl, hc⟩ := Kd.at_int hr a1_7 h0 h1
  have hc3 := exch_keep hc
  have HA := Aside0.mk hA
  obtain ⟨ad', e', hc'⟩ := Kd.at_int hr a1_8 h2 h3
  cases e'
  have hc3' := exch_keep hc'
  have HB := Aside0.mk hB
  clear hA hB hr hc hc'
  go_enter Try.func59, Try.ntmps59
  go_wp2_with (fail)
  go_quiet (fail)
  go_wp2_with (go_at_call 79; first | ((with_reducible refine (impl_has.calls (rd p a1_7) a1_8 _ _ HA.out).mono ?_); rintro e w' ⟨rfl, ⟨nd, rfl⟩⟩) | ((with_reducible refine (impl_has.calls (rd p a1_8) a1_7 _ _ HB.out).mono ?_); rintro e w' ⟨rfl, ⟨nd, rfl⟩⟩))
  refine bodyPost_ret (v := .agg #[.int .i64 a1_0, .int .i64 a1_1, .int .i64 a1_2, .int .i64 a1_3, .int .i64 a1_4, .int .i64 a1_5, .int .i64 a1_6, .int .i64 a1_7, .int .i64 a1_8, .int .i64 a1_9]) (by simp [results, Try.results59, go_sem]) rfl ⟨rfl, ?_⟩
  repeat (with_reducible first | exact Below.refl _ _ | refine below_set ?_ (by omega) | apply pw_below_drewN | apply below_drew1 | apply below_alloc)
set_option maxHeartbeats 8000000 in
set_option maxRecDepth 100000 in
theorem exch7_ff (A0 : Option Addr) (c0 : Nat) (p : List Int) (a1_0 a1_1 a1_2 a1_3 a1_4 a1_5 a1_6 a1_7 a1_8 a1_9 : Int) (w : World) (hr : Kd.C (Kd.int .i64) w A0 p.length p) (h0 : 0 ≤ a1_7) (h1 : a1_7 < (p.length : Int)) (hA : impl_has.f (rd p a1_7) a1_8 = some false) (h2 : 0 ≤ a1_8) (h3 : a1_8 < (p.length : Int)) (hB : impl_has.f (rd p a1_8) a1_7 = some false) :
    Calls Try.prog 59 #[.agg #[.slice A0 p.length c0], .agg #[.int .i64 a1_0, .int .i64 a1_1, .int .i64 a1_2, .int .i64 a1_3, .int .i64 a1_4, .int .i64 a1_5, .int .i64 a1_6, .int .i64 a1_7, .int .i64 a1_8, .int .i64 a1_9], .int .i64 7] w fun e w' => e = .returned (.agg #[.int .i64 a1_0, .int .i64 a1_1, .int .i64 a1_2, .int .i64 a1_3, .int .i64 a1_4, .int .i64 a1_5, .int .i64 a1_6, .int .i64 a1_8, .int .i64 a1_7, .int .i64 a1_9]) ∧ Below w.heap.size w w' := by
  have hu28 := Try.underlying28
  have hu58 := Try.underlying58
  have hwI : IntKind.i64.wrap (7 + 1) = 8 := by decide
  have hwJ : IntKind.i64.wrap 8 = 8 := by decide
  obtain ⟨ad, rfl, hc⟩ := Kd.at_int hr a1_7 h0 h1
  have hc3 := exch_keep hc
  have HA := Aside0.mk hA
  obtain ⟨ad', e', hc'⟩ := Kd.at_int hr a1_8 h2 h3
  cases e'
  have hc3' := exch_keep hc'
  have HB := Aside0.mk hB
  clear hA hB hr hc hc'
  go_enter Try.func59, Try.ntmps59
  go_wp2_with (fail)
  go_quiet (fail)
  go_wp2_with (go_at_call 79; first | ((with_reducible refine (impl_has.calls (rd p a1_7) a1_8 _ _ HA.out).mono ?_); rintro e w' ⟨rfl, ⟨nd, rfl⟩⟩) | ((with_reducible refine (impl_has.calls (rd p a1_8) a1_7 _ _ HB.out).mono ?_); rintro e w' ⟨rfl, ⟨nd, rfl⟩⟩))
  refine bodyPost_ret (v := .agg #[.int .i64 a1_0, .int .i64 a1_1, .int .i64 a1_2, .int .i64 a1_3, .int .i64 a1_4, .int .i64 a1_5, .int .i64 a1_6, .int .i64 a1_8, .int .i64 a1_7, .int .i64 a1_9]) (by simp [results, Try.results59, go_sem]) rfl ⟨rfl, ?_⟩
  repeat (with_reducible first | exact Below.refl _ _ | refine below_set ?_ (by omega) | apply pw_below_drewN | apply below_drew1 | apply below_alloc)
def exchange7.f (l0_0 : List Int) (a1_0 a1_1 a1_2 a1_3 a1_4 a1_5 a1_6 a1_7 a1_8 a1_9 : Int) (a2 : Int) : Option (Int × Int × Int × Int × Int × Int × Int × Int × Int × Int) := if 0 ≤ a1_7 then (if a1_7 < (l0_0.length : Int) then ((impl_has.f (rd l0_0 a1_7) a1_8).bind fun t1 => (if t1 = true then (some (a1_0, a1_1, a1_2, a1_3, a1_4, a1_5, a1_6, a1_7, a1_8, a1_9)) else (if 0 ≤ a1_8 then (if a1_8 < (l0_0.length : Int) then ((impl_has.f (rd l0_0 a1_8) a1_7).bind fun t2 => (if t2 = true then (some (a1_0, a1_1, a1_2, a1_3, a1_4, a1_5, a1_6, a1_7, a1_8, a1_9)) else (some (a1_0, a1_1, a1_2, a1_3, a1_4, a1_5, a1_6, a1_8, a1_7, a1_9)))) else (none)) else (none)))) else (none)) else (none)
theorem exchange7.calls (A0_0 : Option Addr) (c0_0 : Nat) (l0_0 : List Int) (a1_0 a1_1 a1_2 a1_3 a1_4 a1_5 a1_6 a1_7 a1_8 a1_9 : Int) (a2 : Int) (r1 r2 r3 r4 r5 r6 r7 r8 r9 r10 : Int) (w : World) (hr0_0 : Kd.C (Kd.int .i64) w A0_0 l0_0.length l0_0) (h : exchange7.f l0_0 a1_0 a1_1 a1_2 a1_3 a1_4 a1_5 a1_6 a1_7 a1_8 a1_9 a2 = some (r1, r2, r3, r4, r5, r6, r7, r8, r9, r10)) :
    Calls Try.prog 59 #[.agg #[.slice A0_0 l0_0.length c0_0], .agg #[.int .i64 a1_0, .int .i64 a1_1, .int .i64 a1_2, .int .i64 a1_3, .int .i64 a1_4, .int .i64 a1_5, .int .i64 a1_6, .int .i64 a1_7, .int .i64 a1_8, .int .i64 a1_9], .int .i64 7] w fun e w' => e = .returned (.agg #[.int .i64 r1, .int .i64 r2, .int .i64 r3, .int .i64 r4, .int .i64 r5, .int .i64 r6, .int .i64 r7, .int .i64 r8, .int .i64 r9, .int .i64 r10]) ∧ Below w.heap.size w w' := by
  unfold exchange7.f at h
  by_cases h0 : 0 ≤ a1_7
  rotate_left
  · rw [if_neg h0] at h; cases h
  by_cases h1 : a1_7 < (l0_0.length : Int)
  rotate_left
  · rw [if_pos h0, if_neg h1] at h; cases h
  rw [if_pos h0, if_pos h1] at h
  obtain ⟨t1, hA, h⟩ := Option.bind_eq_some_iff.1 h
  cases t1 with
  | true =>
    rw [if_pos rfl] at h
    simp only [Option.some.injEq, Prod.mk.injEq] at h
    obtain ⟨rfl, rfl, rfl, rfl, rfl, rfl, rfl, rfl, rfl, rfl⟩ := h
    exact exch7_t A0_0 c0_0 l0_0 a1_0 a1_1 a1_2 a1_3 a1_4 a1_5 a1_6 a1_7 a1_8 a1_9 w hr0_0 h0 h1 hA
  | false =>
    rw [if_neg (by simp)] at h
    by_cases h2 : 0 ≤ a1_8
    rotate_left
    · rw [if_neg h2] at h; cases h
    by_cases h3 : a1_8 < (l0_0.length : Int)
    rotate_left
    · rw [if_pos h2, if_neg h3] at h; cases h
    rw [if_pos h2, if_pos h3] at h
    obtain ⟨t2, hB, h⟩ := Option.bind_eq_some_iff.1 h
    cases t2 with
    | true =>
      rw [if_pos rfl] at h
      simp only [Option.some.injEq, Prod.mk.injEq] at h
      obtain ⟨rfl, rfl, rfl, rfl, rfl, rfl, rfl, rfl, rfl, rfl⟩ := h
      exact exch7_ft A0_0 c0_0 l0_0 a1_0 a1_1 a1_2 a1_3 a1_4 a1_5 a1_6 a1_7 a1_8 a1_9 w hr0_0 h0 h1 hA h2 h3 hB
    | false =>
      rw [if_neg (by simp)] at h
      simp only [Option.some.injEq, Prod.mk.injEq] at h
      obtain ⟨rfl, rfl, rfl, rfl, rfl, rfl, rfl, rfl, rfl, rfl⟩ := h
      exact exch7_ff A0_0 c0_0 l0_0 a1_0 a1_1 a1_2 a1_3 a1_4 a1_5 a1_6 a1_7 a1_8 a1_9 w hr0_0 h0 h1 hA h2 h3 hB
set_option maxHeartbeats 8000000 in
set_option maxRecDepth 100000 in
theorem exch8_t (A0 : Option Addr) (c0 : Nat) (p : List Int) (a1_0 a1_1 a1_2 a1_3 a1_4 a1_5 a1_6 a1_7 a1_8 a1_9 : Int) (w : World) (hr : Kd.C (Kd.int .i64) w A0 p.length p) (h0 : 0 ≤ a1_8) (h1 : a1_8 < (p.length : Int)) (hA : impl_has.f (rd p a1_8) a1_9 = some true) :
    Calls Try.prog 59 #[.agg #[.slice A0 p.length c0], .agg #[.int .i64 a1_0, .int .i64 a1_1, .int .i64 a1_2, .int .i64 a1_3, .int .i64 a1_4, .int .i64 a1_5, .int .i64 a1_6, .int .i64 a1_7, .int .i64 a1_8, .int .i64 a1_9], .int .i64 8] w fun e w' => e = .returned (.agg #[.int .i64 a1_0, .int .i64 a1_1, .int .i64 a1_2, .int .i64 a1_3, .int .i64 a1_4, .int .i64 a1_5, .int .i64 a1_6, .int .i64 a1_7, .int .i64 a1_8, .int .i64 a1_9]) ∧ Below w.heap.size w w' := by
  have hu28 := Try.underlying28
  have hu58 := Try.underlying58
  have hwI : IntKind.i64.wrap (8 + 1) = 9 := by decide
  have hwJ : IntKind.i64.wrap 9 = 9 := by decide
  obtain ⟨ad, rfl, hc⟩ := Kd.at_int hr a1_8 h0 h1
  have hc3 := exch_keep hc
  have HA := Aside0.mk hA
  clear hA hr hc
  go_enter Try.func59, Try.ntmps59
  go_wp2_with (fail)
  go_quiet (fail)
  go_wp2_with (go_at_call 79; ((with_reducible refine (impl_has.calls (rd p a1_8) a1_9 _ _ HA.out).mono ?_); rintro e w' ⟨rfl, ⟨nd, rfl⟩⟩))
  refine bodyPost_ret (v := .agg #[.int .i64 a1_0, .int .i64 a1_1, .int .i64 a1_2, .int .i64 a1_3, .int .i64 a1_4, .int .i64 a1_5, .int .i64 a1_6, .int .i64 a1_7, .int .i64 a1_8, .int .i64 a1_9]) (by simp [results, Try.results59, go_sem]) rfl ⟨rfl, ?_⟩
  repeat (with_reducible first | exact Below.refl _ _ | refine below_set ?_ (by omega) | apply pw_below_drewN | apply below_drew1 | apply below_alloc)
set_option maxHeartbeats 8000000 in
set_option maxRecDepth 100000 in
theorem exch8_ft (A0 : Option Addr) (c0 : Nat) (p : List Int) (a1_0 a1_1 a1_2 a1_3 a1_4 a1_5 a1_6 a1_7 a1_8 a1_9 : Int) (w : World) (hr : Kd.C (Kd.int .i64) w A0 p.length p) (h0 : 0 ≤ a1_8) (h1 : a1_8 < (p.length : Int)) (hA : impl_has.f (rd p a1_8) a1_9 = some false) (h2 : 0 ≤ a1_9) (h3 : a1_9 < (p.length : Int)) (hB : impl_has.f (rd p a1_9) a1_8 = some true) :
    Calls Try.prog 59 #[.agg #[.slice A0 p.length c0], .agg #[.int .i64 a1_0, .int .i64 a1_1, .int .i64 a1_2, .int .i64 a1_3, .int .i64 a1_4, .int .i64 a1_5, .int .i64 a1_6, .int .i64 a1_7, .int .i64 a1_8, .int .i64 a1_9], .int .i64 8] w fun e w' => e = .returned (.agg #[.int .i64 a1_0, .int .i64 a1_1, .int .i64 a1_2, .int .i64 a1_3, .int .i64 a1_4, .int .i64 a1_5, .int .i64 a1_6, .int .i64 a1_7, .int .i64 a1_8, .int .i64 a1_9]) ∧ Below w.heap.size w w' := by
  have hu28 := Try.underlying28
  have hu58 := Try.underlying58
  have hwI : IntKind.i64.wrap (8 + 1) = 9 := by decide
  have hwJ : IntKind.i64.wrap 9 = 9 := by decide
  obtain ⟨ad, rfl, hc⟩ := Kd.at_int hr a1_8 h0 h1
  have hc3 := exch_keep hc
  have HA := Aside0.mk hA
  obtain ⟨ad', e', hc'⟩ := Kd.at_int hr a1_9 h2 h3
  cases e'
  have hc3' := exch_keep hc'
  have HB := Aside0.mk hB
  clear hA hB hr hc hc'
  go_enter Try.func59, Try.ntmps59
  go_wp2_with (fail)
  go_quiet (fail)
  go_wp2_with (go_at_call 79; first | ((with_reducible refine (impl_has.calls (rd p a1_8) a1_9 _ _ HA.out).mono ?_); rintro e w' ⟨rfl, ⟨nd, rfl⟩⟩) | ((with_reducible refine (impl_has.calls (rd p a1_9) a1_8 _ _ HB.out).mono ?_); rintro e w' ⟨rfl, ⟨nd, rfl⟩⟩))
  refine bodyPost_ret (v := .agg #[.int .i64 a1_0, .int .i64 a1_1, .int .i64 a1_2, .int .i64 a1_3, .int .i64 a1_4, .int .i64 a1_5, .int .i64 a1_6, .int .i64 a1_7, .int .i64 a1_8, .int .i64 a1_9]) (by simp [results, Try.results59, go_sem]) rfl ⟨rfl, ?_⟩
  repeat (with_reducible first | exact Below.refl _ _ | refine below_set ?_ (by omega) | apply pw_below_drewN | apply below_drew1 | apply below_alloc)
set_option maxHeartbeats 8000000 in
set_option maxRecDepth 100000 in
theorem exch8_ff (A0 : Option Addr) (c0 : Nat) (p : List Int) (a1_0 a1_1 a1_2 a1_3 a1_4 a1_5 a1_6 a1_7 a1_8 a1_9 : Int) (w : World) (hr : Kd.C (Kd.int .i64) w A0 p.length p) (h0 : 0 ≤ a1_8) (h1 : a1_8 < (p.length : Int)) (hA : impl_has.f (rd p a1_8) a1_9 = some false) (h2 : 0 ≤ a1_9) (h3 : a1_9 < (p.length : Int)) (hB : impl_has.f (rd p a1_9) a1_8 = some false) :
    Calls Try.prog 59 #[.agg #[.slice A0 p.length c0], .agg #[.int .i64 a1_0, .int .i64 a1_1, .int .i64 a1_2, .int .i64 a1_3, .int .i64 a1_4, .int .i64 a1_5, .int .i64 a1_6, .int .i64 a1_7, .int .i64 a1_8, .int .i64 a1_9], .int .i64 8] w fun e w' => e = .returned (.agg #[.int .i64 a1_0, .int .i64 a1_1, .int .i64 a1_2, .int .i64 a1_3, .int .i64 a1_4, .int .i64 a1_5, .int .i64 a1_6, .int .i64 a1_7, .int .i64 a1_9, .int .i64 a1_8]) ∧ Below w.heap.size w w' := by
  have hu28 := Try.underlying28
  have hu58 := Try.underlying58
  have hwI : IntKind.i64.wrap (8 + 1) = 9 := by decide
  have hwJ : IntKind.i64.wrap 9 = 9 := by decide
  obtain ⟨ad, rfl, hc⟩ := Kd.at_int hr a1_8 h0 h1
  have hc3 := exch_keep hc
  have HA := Aside0.mk hA
  obtain ⟨ad', e', hc'⟩ := Kd.at_int hr a1_9 h2 h3
  cases e'
  have hc3' := exch_keep hc'
  have HB := Aside0.mk hB
  clear hA hB hr hc hc'
  go_enter Try.func59, Try.ntmps59
  go_wp2_with (fail)
  go_quiet (fail)
  go_wp2_with (go_at_call 79; first | ((with_reducible refine (impl_has.calls (rd p a1_8) a1_9 _ _ HA.out).mono ?_); rintro e w' ⟨rfl, ⟨nd, rfl⟩⟩) | ((with_reducible refine (impl_has.calls (rd p a1_9) a1_8 _ _ HB.out).mono ?_); rintro e w' ⟨rfl, ⟨nd, rfl⟩⟩))
  refine bodyPost_ret (v := .agg #[.int .i64 a1_0, .int .i64 a1_1, .int .i64 a1_2, .int .i64 a1_3, .int .i64 a1_4, .int .i64 a1_5, .int .i64 a1_6, .int .i64 a1_7, .int .i64 a1_9, .int .i64 a1_8]) (by simp [results, Try.results59, go_sem]) rfl ⟨rfl, ?_⟩
  repeat (with_reducible first | exact Below.refl _ _ | refine below_set ?_ (by omega) | apply pw_below_drewN | apply below_drew1 | apply below_alloc)
def exchange8.f (l0_0 : List Int) (a1_0 a1_1 a1_2 a1_3 a1_4 a1_5 a1_6 a1_7 a1_8 a1_9 : Int) (a2 : Int) : Option (Int × Int × Int × Int × Int × Int × Int × Int × Int × Int) := if 0 ≤ a1_8 then (if a1_8 < (l0_0.length : Int) then ((impl_has.f (rd l0_0 a1_8) a1_9).bind fun t1 => (if t1 = true then (some (a1_0, a1_1, a1_2, a1_3, a1_4, a1_5, a1_6, a1_7, a1_8, a1_9)) else (if 0 ≤ a1_9 then (if a1_9 < (l0_0.length : Int) then ((impl_has.f (rd l0_0 a1_9) a1_8).bind fun t2 => (if t2 = true then (some (a1_0, a1_1, a1_2, a1_3, a1_4, a1_5, a1_6, a1_7, a1_8, a1_9)) else (some (a1_0, a1_1, a1_2, a1_3, a1_4, a1_5, a1_6, a1_7, a1_9, a1_8)))) else (none)) else (none)))) else (none)) else (none)
theorem exchange8.calls (A0_0 : Option Addr) (c0_0 : Nat) (l0_0 : List Int) (a1_0 a1_1 a1_2 a1_3 a1_4 a1_5 a1_6 a1_7 a1_8 a1_9 : Int) (a2 : Int) (r1 r2 r3 r4 r5 r6 r7 r8 r9 r10 : Int) (w : World) (hr0_0 : Kd.C (Kd.int .i64) w A0_0 l0_0.length l0_0) (h : exchange8.f l0_0 a1_0 a1_1 a1_2 a1_3 a1_4 a1_5 a1_6 a1_7 a1_8 a1_9 a2 = some (r1, r2, r3, r4, r5, r6, r7, r8, r9, r10)) :
    Calls Try.prog 59 #[.agg #[.slice A0_0 l0_0.length c0_0], .agg #[.int .i64 a1_0, .int .i64 a1_1, .int .i64 a1_2, .int .i64 a1_3, .int .i64 a1_4, .int .i64 a1_5, .int .i64 a1_6, .int .i64 a1_7, .int .i64 a1_8, .int .i64 a1_9], .int .i64 8] w fun e w' => e = .returned (.agg #[.int .i64 r1, .int .i64 r2, .int .i64 r3, .int .i64 r4, .int .i64 r5, .int .i64 r6, .int .i64 r7, .int .i64 r8, .int .i64 r9, .int .i64 r10]) ∧ Below w.heap.size w w' := by
  unfold exchange8.f at h
  by_cases h0 : 0 ≤ a1_8
  rotate_left
  · rw [if_neg h0] at h; cases h
  by_cases h1 : a1_8 < (l0_0.length : Int)
  rotate_left
  · rw [if_pos h0, if_neg h1] at h; cases h
  rw [if_pos h0, if_pos h1] at h
  obtain ⟨t1, hA, h⟩ := Option.bind_eq_some_iff.1 h
  cases t1 with
  | true =>
    rw [if_pos rfl] at h
    simp only [Option.some.injEq, Prod.mk.injEq] at h
    obtain ⟨rfl, rfl, rfl, rfl, rfl, rfl, rfl, rfl, rfl, rfl⟩ := h
    exact exch8_t A0_0 c0_0 l0_0 a1_0 a1_1 a1_2 a1_3 a1_4 a1_5 a1_6 a1_7 a1_8 a1_9 w hr0_0 h0 h1 hA
  | false =>
    rw [if_neg (by simp)] at h
    by_cases h2 : 0 ≤ a1_9
    rotate_left
    · rw [if_neg h2] at h; cases h
    by_cases h3 : a1_9 < (l0_0.length : Int)
    rotate_left
    · rw [if_pos h2, if_neg h3] at h; cases h
    rw [if_pos h2, if_pos h3] at h
    obtain ⟨t2, hB, h⟩ := Option.bind_eq_some_iff.1 h
    cases t2 with
    | true =>
      rw [if_pos rfl] at h
      simp only [Option.some.injEq, Prod.mk.injEq] at h
      obtain ⟨rfl, rfl, rfl, rfl, rfl, rfl, rfl, rfl, rfl, rfl⟩ := h
      exact exch8_ft A0_0 c0_0 l0_0 a1_0 a1_1 a1_2 a1_3 a1_4 a1_5 a1_6 a1_7 a1_8 a1_9 w hr0_0 h0 h1 hA h2 h3 hB
    | false =>
      rw [if_neg (by simp)] at h
      simp only [Option.some.injEq, Prod.mk.injEq] at h
      obtain ⟨rfl, rfl, rfl, rfl, rfl, rfl, rfl, rfl, rfl, rfl⟩ := h
      exact exch8_ff A0_0 c0_0 l0_0 a1_0 a1_1 a1_2 a1_3 a1_4 a1_5 a1_6 a1_7 a1_8 a1_9 w hr0_0 h0 h1 hA h2 h3 hB
def impl_Poset_exchange.f (l0_0 : List Int) (a1_0 a1_1 a1_2 a1_3 a1_4 a1_5 a1_6 a1_7 a1_8 a1_9 : Int) (a2 : Int) : Option (Int × Int × Int × Int × Int × Int × Int × Int × Int × Int) := if a2 = 0 then exchange0.f l0_0 a1_0 a1_1 a1_2 a1_3 a1_4 a1_5 a1_6 a1_7 a1_8 a1_9 a2 else if a2 = 1 then exchange1.f l0_0 a1_0 a1_1 a1_2 a1_3 a1_4 a1_5 a1_6 a1_7 a1_8 a1_9 a2 else if a2 = 2 then exchange2.f l0_0 a1_0 a1_1 a1_2 a1_3 a1_4 a1_5 a1_6 a1_7 a1_8 a1_9 a2 else if a2 = 3 then exchange3.f l0_0 a1_0 a1_1 a1_2 a1_3 a1_4 a1_5 a1_6 a1_7 a1_8 a1_9 a2 else if a2 = 4 then exchange4.f l0_0 a1_0 a1_1 a1_2 a1_3 a1_4 a1_5 a1_6 a1_7 a1_8 a1_9 a2 else if a2 = 5 then exchange5.f l0_0 a1_0 a1_1 a1_2 a1_3 a1_4 a1_5 a1_6 a1_7 a1_8 a1_9 a2 else if a2 = 6 then exchange6.f l0_0 a1_0 a1_1 a1_2 a1_3 a1_4 a1_5 a1_6 a1_7 a1_8 a1_9 a2 else if a2 = 7 then exchange7.f l0_0 a1_0 a1_1 a1_2 a1_3 a1_4 a1_5 a1_6 a1_7 a1_8 a1_9 a2 else if a2 = 8 then exchange8.f l0_0 a1_0 a1_1 a1_2 a1_3 a1_4 a1_5 a1_6 a1_7 a1_8 a1_9 a2 else none
theorem impl_Poset_exchange.calls (A0_0 : Option Addr) (c0_0 : Nat) (l0_0 : List Int) (a1_0 a1_1 a1_2 a1_3 a1_4 a1_5 a1_6 a1_7 a1_8 a1_9 : Int) (a2 : Int) (r1 r2 r3 r4 r5 r6 r7 r8 r9 r10 : Int) (w : World) (hr0_0 : Kd.C (Kd.int .i64) w A0_0 l0_0.length l0_0) (hc0_0 : l0_0.length ≤ c0_0) (h : impl_Poset_exchange.f l0_0 a1_0 a1_1 a1_2 a1_3 a1_4 a1_5 a1_6 a1_7 a1_8 a1_9 a2 = some (r1, r2, r3, r4, r5, r6, r7, r8, r9, r10)) :
    Calls Try.prog 59 #[.agg #[.slice A0_0 l0_0.length c0_0], .agg #[.int .i64 a1_0, .int .i64 a1_1, .int .i64 a1_2, .int .i64 a1_3, .int .i64 a1_4, .int .i64 a1_5, .int .i64 a1_6, .int .i64 a1_7, .int .i64 a1_8, .int .i64 a1_9], .int .i64 a2] w fun e w' => e = .returned (.agg #[.int .i64 r1, .int .i64 r2, .int .i64 r3, .int .i64 r4, .int .i64 r5, .int .i64 r6, .int .i64 r7, .int .i64 r8, .int .i64 r9, .int .i64 r10]) ∧ Below w.heap.size w w' := by
  unfold impl_Poset_exchange.f at h
  by_cases h0 : a2 = 0
  · rw [if_pos h0] at h
    subst h0
    exact exchange0.calls A0_0 c0_0 l0_0 a1_0 a1_1 a1_2 a1_3 a1_4 a1_5 a1_6 a1_7 a1_8 a1_9 0 r1 r2 r3 r4 r5 r6 r7 r8 r9 r10 w hr0_0 h
  rw [if_neg h0] at h
  by_cases h1 : a2 = 1
  · rw [if_pos h1] at h
    subst h1
    exact exchange1.calls A0_0 c0_0 l0_0 a1_0 a1_1 a1_2 a1_3 a1_4 a1_5 a1_6 a1_7 a1_8 a1_9 1 r1 r2 r3 r4 r5 r6 r7 r8 r9 r10 w hr0_0 h
  rw [if_neg h1] at h
  by_cases h2 : a2 = 2
  · rw [if_pos h2] at h
    subst h2
    exact exchange2.calls A0_0 c0_0 l0_0 a1_0 a1_1 a1_2 a1_3 a1_4 a1_5 a1_6 a1_7 a1_8 a1_9 2 r1 r2 r3 r4 r5 r6 r7 r8 r9 r10 w hr0_0 h
  rw [if_neg h2] at h
  by_cases h3 : a2 = 3
  · rw [if_pos h3] at h
    subst h3
    exact exchange3.calls A0_0 c0_0 l0_0 a1_0 a1_1 a1_2 a1_3 a1_4 a1_5 a1_6 a1_7 a1_8 a1_9 3 r1 r2 r3 r4 r5 r6 r7 r8 r9 r10 w hr0_0 h
  rw [if_neg h3] at h
  by_cases h4 : a2 = 4
  · rw [if_pos h4] at h
    subst h4
    exact exchange4.calls A0_0 c0_0 l0_0 a1_0 a1_1 a1_2 a1_3 a1_4 a1_5 a1_6 a1_7 a1_8 a1_9 4 r1 r2 r3 r4 r5 r6 r7 r8 r9 r10 w hr0_0 h
  rw [if_neg h4] at h
  by_cases h5 : a2 = 5
  · rw [if_pos h5] at h
    subst h5
    exact exchange5.calls A0_0 c0_0 l0_0 a1_0 a1_1 a1_2 a1_3 a1_4 a1_5 a1_6 a1_7 a1_8 a1_9 5 r1 r2 r3 r4 r5 r6 r7 r8 r9 r10 w hr0_0 h
  rw [if_neg h5] at h
  by_cases h6 : a2 = 6
  · rw [if_pos h6] at h
    subst h6
    exact exchange6.calls A0_0 c0_0 l0_0 a1_0 a1_1 a1_2 a1_3 a1_4 a1_5 a1_6 a1_7 a1_8 a1_9 6 r1 r2 r3 r4 r5 r6 r7 r8 r9 r10 w hr0_0 h
  rw [if_neg h6] at h
  by_cases h7 : a2 = 7
  · rw [if_pos h7] at h
    subst h7
    exact exchange7.calls A0_0 c0_0 l0_0 a1_0 a1_1 a1_2 a1_3 a1_4 a1_5 a1_6 a1_7 a1_8 a1_9 7 r1 r2 r3 r4 r5 r6 r7 r8 r9 r10 w hr0_0 h
  rw [if_neg h7] at h
  by_cases h8 : a2 = 8
  · rw [if_pos h8] at h
    subst h8
    exact exchange8.calls A0_0 c0_0 l0_0 a1_0 a1_1 a1_2 a1_3 a1_4 a1_5 a1_6 a1_7 a1_8 a1_9 8 r1 r2 r3 r4 r5 r6 r7 r8 r9 r10 w hr0_0 h
  rw [if_neg h8] at h
  cases h
end Go.Proofs.Ytjahclncpgllmaa.F
end

section
namespace Go.Proofs.Ytjahclncpgllmaa.F
open Go.RowKit Go.Proofs.YtjahclncpgllmaaW.PrintWords Go.Proofs.YtjahclncpgllmaaW.PrintLast Go.Proofs.YtjahclncpgllmaaW.PrintMore
attribute [local go_sem] max2_int min2_int max_two min_two max_three min_three max_four min_four
set_option linter.unusedVariables false
set_option linter.unusedSimpArgs false

/-! ### impl_Poset_evacuated: function 64 -/
mutual
def impl_Poset_evacuated.l0 : Nat → Int → List Int → Int → Int → Int → Int → Int → Int → Int → Int → Int → Int → Option (Int × Int × Int × Int × Int × Int × Int × Int × Int × Int)
  | 0, _, _, _, _, _, _, _, _, _, _, _, _ => none
  | k + 1, x5, x389000, x390000, x390001, x390002, x390003, x390004, x390005, x390006, x390007, x390008, x390009 => if x5 > 0 then (impl_Poset_evacuated.l1 k x5 x5 0 x389000 x390000 x390001 x390002 x390003 x390004 x390005 x390006 x390007 x390008 x390009) else (some (x390000, x390001, x390002, x390003, x390004, x390005, x390006, x390007, x390008, x390009))
def impl_Poset_evacuated.l1 : Nat → Int → Int → Int → List Int → Int → Int → Int → Int → Int → Int → Int → Int → Int → Int → Option (Int × Int × Int × Int × Int × Int × Int × Int × Int × Int)
  | 0, _, _, _, _, _, _, _, _, _, _, _, _, _, _ => none
  | k + 1, x5, x14, x15, x389000, x390000, x390001, x390002, x390003, x390004, x390005, x390006, x390007, x390008, x390009 => if x15 < x14 then ((impl_Poset_exchange.f x389000 x390000 x390001 x390002 x390003 x390004 x390005 x390006 x390007 x390008 x390009 x15).bind fun bt392 => (impl_Poset_evacuated.l1 k x5 x14 (wrap64 (x15 + 1)) x389000 bt392.1 bt392.2.1 bt392.2.2.1 bt392.2.2.2.1 bt392.2.2.2.2.1 bt392.2.2.2.2.2.1 bt392.2.2.2.2.2.2.1 bt392.2.2.2.2.2.2.2.1 bt392.2.2.2.2.2.2.2.2.1 bt392.2.2.2.2.2.2.2.2.2)) else (impl_Poset_evacuated.l0 k (wrap64 (x5 - 1)) x389000 x390000 x390001 x390002 x390003 x390004 x390005 x390006 x390007 x390008 x390009)
end
def impl_Poset_evacuated.f (k : Nat) (l0_0 : List Int) (a1_0 : Int) (a1_1 : Int) (a1_2 : Int) (a1_3 : Int) (a1_4 : Int) (a1_5 : Int) (a1_6 : Int) (a1_7 : Int) (a1_8 : Int) (a1_9 : Int) : Option (Int × Int × Int × Int × Int × Int × Int × Int × Int × Int) := (impl_Poset_n.f l0_0).bind fun t391 => (impl_Poset_evacuated.l0 k (wrap64 (t391 - 1)) l0_0 a1_0 a1_1 a1_2 a1_3 a1_4 a1_5 a1_6 a1_7 a1_8 a1_9)
theorem impl_Poset_evacuated.mono_l : ∀ k, (∀ y0 y1 y2 y3 y4 y5 y6 y7 y8 y9 y10 y11, LeO (impl_Poset_evacuated.l0 k y0 y1 y2 y3 y4 y5 y6 y7 y8 y9 y10 y11) (impl_Poset_evacuated.l0 (k + 1) y0 y1 y2 y3 y4 y5 y6 y7 y8 y9 y10 y11)) ∧ (∀ y0 y1 y2 y3 y4 y5 y6 y7 y8 y9 y10 y11 y12 y13, LeO (impl_Poset_evacuated.l1 k y0 y1 y2 y3 y4 y5 y6 y7 y8 y9 y10 y11 y12 y13) (impl_Poset_evacuated.l1 (k + 1) y0 y1 y2 y3 y4 y5 y6 y7 y8 y9 y10 y11 y12 y13))
  | 0 => ⟨fun _ _ _ _ _ _ _ _ _ _ _ _ r h => by simp [impl_Poset_evacuated.l0] at h, fun _ _ _ _ _ _ _ _ _ _ _ _ _ _ r h => by simp [impl_Poset_evacuated.l1] at h⟩
  | k + 1 => by
    obtain ⟨ih0, ih1⟩ := impl_Poset_evacuated.mono_l k
    refine ⟨?_, ?_⟩
    · intro y0 y1 y2 y3 y4 y5 y6 y7 y8 y9 y10 y11
      unfold impl_Poset_evacuated.l0
      repeat' first
      | (with_reducible exact ih0 _ _ _ _ _ _ _ _ _ _ _ _)
      | (with_reducible exact ih1 _ _ _ _ _ _ _ _ _ _ _ _ _ _)
      | (with_reducible exact LeO.refl _)
      | (with_reducible exact LeO.none _)
      | (with_reducible refine LeO.ite ?_ ?_)
      | (with_reducible refine LeO.bind ?_ (fun _ => ?_))
      | exact ih0 _ _ _ _ _ _ _ _ _ _ _ _
      | exact ih1 _ _ _ _ _ _ _ _ _ _ _ _ _ _
      | exact LeO.none _
      | refine LeO.ite ?_ ?_
      | refine LeO.bind ?_ (fun _ => ?_)
    · intro y0 y1 y2 y3 y4 y5 y6 y7 y8 y9 y10 y11 y12 y13
      unfold impl_Poset_evacuated.l1
      repeat' first
      | (with_reducible exact ih0 _ _ _ _ _ _ _ _ _ _ _ _)
      | (with_reducible exact ih1 _ _ _ _ _ _ _ _ _ _ _ _ _ _)
      | (with_reducible exact LeO.refl _)
      | (with_reducible exact LeO.none _)
      | (with_reducible refine LeO.ite ?_ ?_)
      | (with_reducible refine LeO.bind ?_ (fun _ => ?_))
      | exact ih0 _ _ _ _ _ _ _ _ _ _ _ _
      | exact ih1 _ _ _ _ _ _ _ _ _ _ _ _ _ _
      | exact LeO.none _
      | refine LeO.ite ?_ ?_
      | refine LeO.bind ?_ (fun _ => ?_)
theorem impl_Poset_evacuated.mono : ∀ a0 a1 a2 a3 a4 a5 a6 a7 a8 a9 a10 k, LeO (impl_Poset_evacuated.f k a0 a1 a2 a3 a4 a5 a6 a7 a8 a9 a10) (impl_Poset_evacuated.f (k + 1) a0 a1 a2 a3 a4 a5 a6 a7 a8 a9 a10) := by
  intro a0 a1 a2 a3 a4 a5 a6 a7 a8 a9 a10 k
  obtain ⟨ih0, ih1⟩ := impl_Poset_evacuated.mono_l k
  unfold impl_Poset_evacuated.f
  repeat' first
      | (with_reducible exact ih0 _ _ _ _ _ _ _ _ _ _ _ _)
      | (with_reducible exact ih1 _ _ _ _ _ _ _ _ _ _ _ _ _ _)
      | (with_reducible exact LeO.refl _)
      | (with_reducible exact LeO.none _)
      | (with_reducible refine LeO.ite ?_ ?_)
      | (with_reducible refine LeO.bind ?_ (fun _ => ?_))
      | exact ih0 _ _ _ _ _ _ _ _ _ _ _ _
      | exact ih1 _ _ _ _ _ _ _ _ _ _ _ _ _ _
      | exact LeO.none _
      | refine LeO.ite ?_ ?_
      | refine LeO.bind ?_ (fun _ => ?_)
set_option maxHeartbeats 8000000 in
set_option maxRecDepth 100000 in
theorem impl_Poset_evacuated.calls (k : Nat) (A0_0 : Option Addr) (c0_0 : Nat) (l0_0 : List Int) (a1_0 : Int) (a1_1 : Int) (a1_2 : Int) (a1_3 : Int) (a1_4 : Int) (a1_5 : Int) (a1_6 : Int) (a1_7 : Int) (a1_8 : Int) (a1_9 : Int) (r1 : Int) (r2 : Int) (r3 : Int) (r4 : Int) (r5 : Int) (r6 : Int) (r7 : Int) (r8 : Int) (r9 : Int) (r10 : Int) (w : World) (hr0_0 : Kd.C (Kd.int .i64) w A0_0 l0_0.length l0_0) (hc0_0 : l0_0.length ≤ c0_0) (h : impl_Poset_evacuated.f k l0_0 a1_0 a1_1 a1_2 a1_3 a1_4 a1_5 a1_6 a1_7 a1_8 a1_9 = some (r1, r2, r3, r4, r5, r6, r7, r8, r9, r10)) :
    Calls Try.prog 64 #[.agg #[.slice A0_0 l0_0.length c0_0], .agg #[.int .i64 a1_0, .int .i64 a1_1, .int .i64 a1_2, .int .i64 a1_3, .int .i64 a1_4, .int .i64 a1_5, .int .i64 a1_6, .int .i64 a1_7, .int .i64 a1_8, .int .i64 a1_9]] w fun e w' => e = .returned (.agg #[.int .i64 r1, .int .i64 r2, .int .i64 r3, .int .i64 r4, .int .i64 r5, .int .i64 r6, .int .i64 r7, .int .i64 r8, .int .i64 r9, .int .i64 r10]) ∧ Below w.heap.size w w' := by
  have hu28 := Try.underlying28
  have hu58 := Try.underlying58
  have HR0_0 := Aside0.mk hr0_0
  have HC0_0 := Aside0.mk hc0_0
  clear hr0_0 hc0_0
  have HB := Aside0.mk (Below.refl w.heap.size w)
  have H : ((impl_Poset_n.f l0_0).bind fun t391 => (impl_Poset_evacuated.l0 k (wrap64 (t391 - 1)) l0_0 a1_0 a1_1 a1_2 a1_3 a1_4 a1_5 a1_6 a1_7 a1_8 a1_9)) = some (r1, r2, r3, r4, r5, r6, r7, r8, r9, r10) := h
  clear h
  replace H := Option.bind_eq_some_iff.mp H
  obtain ⟨t391, A30, H⟩ := H
  replace H : (impl_Poset_evacuated.l0 k (wrap64 (t391 - 1)) l0_0 a1_0 a1_1 a1_2 a1_3 a1_4 a1_5 a1_6 a1_7 a1_8 a1_9) = some (r1, r2, r3, r4, r5, r6, r7, r8, r9, r10) := H
  have A3 := Aside0.mk A30
  clear A30
  have H' := Aside0.mk H
  clear H
  go_enter Try.func64, Try.ntmps64
  go_wp2_with (first | ((with_reducible refine gate_dst (N := 2) rfl ?_); refine box_event ?hg (N := 2) ?hd (cs := #[.slice A0_0 l0_0.length c0_0]) (t := 28) ?hr ?_; (case hd => rfl); (case hg => rfl); (case hr => first | (go_simp; done) | (go_simp; rfl)); intro gb388 hg w4 hbox hb; have n0_ := Aside0.mk (below_step (by repeat (first | (with_reducible first | exact HB.out | apply below_alloc | apply pw_below_drewN | apply below_drew1) | exact HB.out)) hb); have n1_ := Aside0.mk (hbox); have n2_ := Aside0.mk ((by rw [hg]; exact (below_size (by repeat (first | (with_reducible first | exact HB.out | apply below_alloc | apply pw_below_drewN | apply below_drew1) | exact HB.out))) : w.heap.size ≤ gb388)); have n3_ := Aside0.mk ((by rw [hg]; exact (below_size (by repeat (first | (with_reducible first | exact HB.out | apply below_alloc | apply pw_below_drewN | apply below_drew1) | exact HB.out))) : w.heap.size ≤ gb388)); clear HB; have HB := n0_; have BK388 := n1_; have GW388 := n2_; have GE388 := n3_; clear n0_ n1_ n2_ n3_; clear hb hbox hg) | ((with_reducible refine gate_dst (N := 3) rfl ?_); refine box_event ?hg (N := 3) ?hd (cs := #[.int .i64 a1_0, .int .i64 a1_1, .int .i64 a1_2, .int .i64 a1_3, .int .i64 a1_4, .int .i64 a1_5, .int .i64 a1_6, .int .i64 a1_7, .int .i64 a1_8, .int .i64 a1_9]) (t := 58) ?hr ?_; (case hd => rfl); (case hg => rfl); (case hr => first | (go_simp; done) | (go_simp; rfl)); intro gb389 hg w5 hbox hb; have n0_ := Aside0.mk (blk_below (g := gb388) (o := .cells #[.slice A0_0 l0_0.length c0_0] 28 (0, 0)) (by (with_reducible repeat (first | refine blk_drewN ?_ _ | refine blk_drew ?_ | refine blk_alloc ?_ _)); exact BK388.out) hb); have n1_ := Aside0.mk (below_step (by repeat (first | (with_reducible first | exact HB.out | apply below_alloc | apply pw_below_drewN | apply below_drew1 | refine below_set ?_ GE388.out) | exact HB.out)) hb); have n2_ := Aside0.mk (hbox); have n3_ := Aside0.mk ((by rw [hg]; exact (below_size (by repeat (first | (with_reducible first | exact HB.out | apply below_alloc | apply pw_below_drewN | apply below_drew1 | refine below_set ?_ GE388.out) | exact HB.out))) : w.heap.size ≤ gb389)); have n4_ := Aside0.mk ((by rw [hg]; exact (below_size (by repeat (first | (with_reducible first | exact HB.out | apply below_alloc | apply pw_below_drewN | apply below_drew1 | refine below_set ?_ GE388.out) | exact HB.out))) : w.heap.size ≤ gb389)); have n5_ := Aside0.mk ((by rw [hg]; exact Nat.ne_of_lt (blk_lt (g := gb388) (o := .cells #[.slice A0_0 l0_0.length c0_0] 28 (0, 0)) (by (with_reducible repeat (first | refine blk_drewN ?_ _ | refine blk_drew ?_ | refine blk_alloc ?_ _)); exact BK388.out)) : gb388 ≠ gb389)); have n6_ := Aside0.mk ((by rw [hg]; exact Nat.ne_of_gt (blk_lt (g := gb388) (o := .cells #[.slice A0_0 l0_0.length c0_0] 28 (0, 0)) (by (with_reducible repeat (first | refine blk_drewN ?_ _ | refine blk_drew ?_ | refine blk_alloc ?_ _)); exact BK388.out)) : gb389 ≠ gb388)); clear BK388; clear HB; have BK388 := n0_; have HB := n1_; have BK389 := n2_; have GW389 := n3_; have GE389 := n4_; have NB388_389 := n5_; have NB389_388 := n6_; clear n0_ n1_ n2_ n3_ n4_ n5_ n6_; clear hb hbox hg) | ((with_reducible refine gate_dst (N := 4) rfl ?_); refine box_event ?hg (N := 4) ?hd (cs := #[.int .i64 0, .int .i64 0, .int .i64 0, .int .i64 0, .int .i64 0, .int .i64 0, .int .i64 0, .int .i64 0, .int .i64 0, .int .i64 0]) (t := 58) ?hr ?_; (case hd => rfl); (case hg => rfl); (case hr => first | (go_simp; done) | (go_simp; rfl)); intro gb390 hg w6 hbox hb; have n0_ := Aside0.mk (blk_below (g := gb388) (o := .cells #[.slice A0_0 l0_0.length c0_0] 28 (0, 0)) (by (with_reducible repeat (first | refine blk_drewN ?_ _ | refine blk_drew ?_ | refine blk_alloc ?_ _)); exact BK388.out) hb); have n1_ := Aside0.mk (blk_below (g := gb389) (o := .cells #[.int .i64 a1_0, .int .i64 a1_1, .int .i64 a1_2, .int .i64 a1_3, .int .i64 a1_4, .int .i64 a1_5, .int .i64 a1_6, .int .i64 a1_7, .int .i64 a1_8, .int .i64 a1_9] 58 (0, 0)) (by (with_reducible repeat (first | refine blk_drewN ?_ _ | refine blk_drew ?_ | refine blk_alloc ?_ _)); exact BK389.out) hb); have n2_ := Aside0.mk (below_step (by repeat (first | (with_reducible first | exact HB.out | apply below_alloc | apply pw_below_drewN | apply below_drew1 | refine below_set ?_ GE388.out | refine below_set ?_ GE389.out) | exact HB.out)) hb); have n3_ := Aside0.mk (hbox); have n4_ := Aside0.mk ((by rw [hg]; exact (below_size (by repeat (first | (with_reducible first | exact HB.out | apply below_alloc | apply pw_below_drewN | apply below_drew1 | refine below_set ?_ GE388.out | refine below_set ?_ GE389.out) | exact HB.out))) : w.heap.size ≤ gb390)); have n5_ := Aside0.mk ((by rw [hg]; exact (below_size (by repeat (first | (with_reducible first | exact HB.out | apply below_alloc | apply pw_below_drewN | apply below_drew1 | refine below_set ?_ GE388.out | refine below_set ?_ GE389.out) | exact HB.out))) : w.heap.size ≤ gb390)); have n6_ := Aside0.mk ((by rw [hg]; exact Nat.ne_of_lt (blk_lt (g := gb388) (o := .cells #[.slice A0_0 l0_0.length c0_0] 28 (0, 0)) (by (with_reducible repeat (first | refine blk_drewN ?_ _ | refine blk_drew ?_ | refine blk_alloc ?_ _)); exact BK388.out)) : gb388 ≠ gb390)); have n7_ := Aside0.mk ((by rw [hg]; exact Nat.ne_of_gt (blk_lt (g := gb388) (o := .cells #[.slice A0_0 l0_0.length c0_0] 28 (0, 0)) (by (with_reducible repeat (first | refine blk_drewN ?_ _ | refine blk_drew ?_ | refine blk_alloc ?_ _)); exact BK388.out)) : gb390 ≠ gb388)); have n8_ := Aside0.mk ((by rw [hg]; exact Nat.ne_of_lt (blk_lt (g := gb389) (o := .cells #[.int .i64 a1_0, .int .i64 a1_1, .int .i64 a1_2, .int .i64 a1_3, .int .i64 a1_4, .int .i64 a1_5, .int .i64 a1_6, .int .i64 a1_7, .int .i64 a1_8, .int .i64 a1_9] 58 (0, 0)) (by (with_reducible repeat (first | refine blk_drewN ?_ _ | refine blk_drew ?_ | refine blk_alloc ?_ _)); exact BK389.out)) : gb389 ≠ gb390)); have n9_ := Aside0.mk ((by rw [hg]; exact Nat.ne_of_gt (blk_lt (g := gb389) (o := .cells #[.int .i64 a1_0, .int .i64 a1_1, .int .i64 a1_2, .int .i64 a1_3, .int .i64 a1_4, .int .i64 a1_5, .int .i64 a1_6, .int .i64 a1_7, .int .i64 a1_8, .int .i64 a1_9] 58 (0, 0)) (by (with_reducible repeat (first | refine blk_drewN ?_ _ | refine blk_drew ?_ | refine blk_alloc ?_ _)); exact BK389.out)) : gb390 ≠ gb389)); clear BK388; clear BK389; clear HB; have BK388 := n0_; have BK389 := n1_; have HB := n2_; have BK390 := n3_; have GW390 := n4_; have GE390 := n5_; have NB388_390 := n6_; have NB390_388 := n7_; have NB389_390 := n8_; have NB390_389 := n9_; clear n0_ n1_ n2_ n3_ n4_ n5_ n6_ n7_ n8_ n9_; clear hb hbox hg; have hnb7 := NB388_389.out; have hnc7 := NB389_388.out; have hnb8 := NB388_390.out; have hnc8 := NB390_388.out; have hcz9_0 : w6.cell? ⟨gb388, 0, none⟩ = some (.slice A0_0 l0_0.length c0_0) := (blk_cell BK388.out 0).trans rfl; have hfz9_0 := blk_frozen BK388.out 0) | ((with_reducible refine gate_callee (f := 58) rfl ?_); refine goesL_ (some 8) rfl rfl Try.func58 (by kernel_rfl) rfl #[.agg #[.slice A0_0 l0_0.length c0_0]] rfl (by (try simp only [List.map_toArray, List.map_cons, List.map_nil]); first | done | rfl | (simp only [List.length_drop, List.length_take]; rfl)) ?_; (with_reducible refine (impl_Poset_n.calls _ _ l0_0 t391 _ ?side1 ?side2 A3.out).mono ?_); (case side1 => repeat (first | exact (Kd.C_below HR0_0.out HB.out) | (with_reducible refine Kd.C_alloc ?_ _) | (with_reducible refine Kd.C_drewN ?_ _) | (with_reducible refine Kd.C_drew ?_))); (case side2 => exact HC0_0.out); rintro e w10 ⟨rfl, hb⟩; refine ⟨_, rfl, ?_⟩; have n0_ := Aside0.mk (blk_below (g := gb388) (o := .cells #[.slice A0_0 l0_0.length c0_0] 28 (0, 0)) (by (with_reducible repeat (first | refine blk_drewN ?_ _ | refine blk_drew ?_ | refine blk_alloc ?_ _)); exact BK388.out) hb); have n1_ := Aside0.mk (blk_below (g := gb389) (o := .cells #[.int .i64 a1_0, .int .i64 a1_1, .int .i64 a1_2, .int .i64 a1_3, .int .i64 a1_4, .int .i64 a1_5, .int .i64 a1_6, .int .i64 a1_7, .int .i64 a1_8, .int .i64 a1_9] 58 (0, 0)) (by (with_reducible repeat (first | refine blk_drewN ?_ _ | refine blk_drew ?_ | refine blk_alloc ?_ _)); exact BK389.out) hb); have n2_ := Aside0.mk (blk_below (g := gb390) (o := .cells #[.int .i64 0, .int .i64 0, .int .i64 0, .int .i64 0, .int .i64 0, .int .i64 0, .int .i64 0, .int .i64 0, .int .i64 0, .int .i64 0] 58 (0, 0)) (by (with_reducible repeat (first | refine blk_drewN ?_ _ | refine blk_drew ?_ | refine blk_alloc ?_ _)); exact BK390.out) hb); have n3_ := Aside0.mk (below_step (by repeat (first | (with_reducible first | exact HB.out | apply below_alloc | apply pw_below_drewN | apply below_drew1 | refine below_set ?_ GE388.out | refine below_set ?_ GE389.out | refine below_set ?_ GE390.out) | exact HB.out)) hb); clear BK388; clear BK389; clear BK390; clear HB; have BK388 := n0_; have BK389 := n1_; have BK390 := n2_; have HB := n3_; clear n0_ n1_ n2_ n3_; (try clear hb); (try clear hb2); (try clear hk); (try clear hi)))
  go_loopg [5] k (fun kq v5 w' => ∃ (x5_1 : Int) (x390000_1 : Int) (x390001_1 : Int) (x390002_1 : Int) (x390003_1 : Int) (x390004_1 : Int) (x390005_1 : Int) (x390006_1 : Int) (x390007_1 : Int) (x390008_1 : Int) (x390009_1 : Int), v5 = .int .i64 x5_1 ∧ Aside0 (impl_Poset_evacuated.l0 kq x5_1 l0_0 x390000_1 x390001_1 x390002_1 x390003_1 x390004_1 x390005_1 x390006_1 x390007_1 x390008_1 x390009_1 = some (r1, r2, r3, r4, r5, r6, r7, r8, r9, r10)) ∧ Aside0 (kq ≤ k) ∧ Aside0 (w'.heap[gb388]? = some (.cells #[(.slice A0_0 l0_0.length c0_0)] 28 (0, 0))) ∧ Aside0 (w'.heap[gb389]? = some (.cells #[.int .i64 x390000_1, .int .i64 x390001_1, .int .i64 x390002_1, .int .i64 x390003_1, .int .i64 x390004_1, .int .i64 x390005_1, .int .i64 x390006_1, .int .i64 x390007_1, .int .i64 x390008_1, .int .i64 x390009_1] 58 (0, 0))) ∧ Aside0 (w'.heap[gb390]? = some (.cells #[.int .i64 0, .int .i64 0, .int .i64 0, .int .i64 0, .int .i64 0, .int .i64 0, .int .i64 0, .int .i64 0, .int .i64 0, .int .i64 0] 58 (0, 0))) ∧ Aside0 (Below w.heap.size w w'))
  case atStart => exact ⟨(wrap64 (t391 - 1)), (a1_0), (a1_1), (a1_2), (a1_3), (a1_4), (a1_5), (a1_6), (a1_7), (a1_8), (a1_9), (by first | rfl | (simp; done) | (simp [*]; done)), H', ⟨Nat.le_refl _⟩, ⟨by (with_reducible repeat (first | refine blk_drewN ?_ _ | refine blk_drew ?_ | refine blk_alloc ?_ _)); exact BK388.out⟩, ⟨by (with_reducible repeat (first | refine blk_drewN ?_ _ | refine blk_drew ?_ | refine blk_alloc ?_ _)); exact BK389.out⟩, ⟨by (with_reducible repeat (first | refine blk_drewN ?_ _ | refine blk_drew ?_ | refine blk_alloc ?_ _)); exact BK390.out⟩, ⟨by repeat (first | (with_reducible first | exact HB.out | apply below_alloc | apply pw_below_drewN | apply below_drew1 | refine below_set ?_ GE388.out | refine below_set ?_ GE389.out | refine below_set ?_ GE390.out) | exact HB.out)⟩⟩
  case round =>
    clear H'
    try clear p2
    try clear c5
    try clear c6
    try clear p6
    try clear c7
    try clear c8
    try clear hcz9_0
    try clear hfz9_0
    obtain ⟨x5_1, x390000_1, x390001_1, x390002_1, x390003_1, x390004_1, x390005_1, x390006_1, x390007_1, x390008_1, x390009_1, rfl, HA, HK1, BK388, BK389, BK390, HB⟩ := hrel
    cases gk with
    | zero => exact absurd HA.out (by simp [impl_Poset_evacuated.l0])
    | succ k1 =>
      have H := HA.out
      clear HA
      simp only [impl_Poset_evacuated.l0] at H
      by_cases c11 : x5_1 > 0
      · rw [if_pos c11] at H
        have c11b0 : decide (0 < x5_1) = true := decide_eq_true c11
        clear c11
        have H' := Aside0.mk H
        clear H
        go_wp2
        go_loopg [15] k1 (fun kq v15 w' => ∃ (x15_2 : Int) (x390000_2 : Int) (x390001_2 : Int) (x390002_2 : Int) (x390003_2 : Int) (x390004_2 : Int) (x390005_2 : Int) (x390006_2 : Int) (x390007_2 : Int) (x390008_2 : Int) (x390009_2 : Int), v15 = .int .i64 x15_2 ∧ Aside0 (impl_Poset_evacuated.l1 kq x5_1 x5_1 x15_2 l0_0 x390000_2 x390001_2 x390002_2 x390003_2 x390004_2 x390005_2 x390006_2 x390007_2 x390008_2 x390009_2 = some (r1, r2, r3, r4, r5, r6, r7, r8, r9, r10)) ∧ Aside0 (kq ≤ k1) ∧ Aside0 (w'.heap[gb388]? = some (.cells #[(.slice A0_0 l0_0.length c0_0)] 28 (0, 0))) ∧ Aside0 (w'.heap[gb389]? = some (.cells #[.int .i64 x390000_2, .int .i64 x390001_2, .int .i64 x390002_2, .int .i64 x390003_2, .int .i64 x390004_2, .int .i64 x390005_2, .int .i64 x390006_2, .int .i64 x390007_2, .int .i64 x390008_2, .int .i64 x390009_2] 58 (0, 0))) ∧ Aside0 (w'.heap[gb390]? = some (.cells #[.int .i64 0, .int .i64 0, .int .i64 0, .int .i64 0, .int .i64 0, .int .i64 0, .int .i64 0, .int .i64 0, .int .i64 0, .int .i64 0] 58 (0, 0))) ∧ Aside0 (Below w.heap.size w w'))
        case atStart => exact ⟨(0), (x390000_1), (x390001_1), (x390002_1), (x390003_1), (x390004_1), (x390005_1), (x390006_1), (x390007_1), (x390008_1), (x390009_1), (by first | rfl | (simp; done) | (simp [*]; done)), H', ⟨Nat.le_refl _⟩, ⟨by (with_reducible repeat (first | refine blk_drewN ?_ _ | refine blk_drew ?_ | refine blk_alloc ?_ _)); exact BK388.out⟩, ⟨by (with_reducible repeat (first | refine blk_drewN ?_ _ | refine blk_drew ?_ | refine blk_alloc ?_ _)); exact BK389.out⟩, ⟨by (with_reducible repeat (first | refine blk_drewN ?_ _ | refine blk_drew ?_ | refine blk_alloc ?_ _)); exact BK390.out⟩, ⟨by repeat (first | (with_reducible first | exact HB.out | apply below_alloc | apply pw_below_drewN | apply below_drew1 | refine below_set ?_ GE388.out | refine below_set ?_ GE389.out | refine below_set ?_ GE390.out) | exact HB.out)⟩⟩
        case round =>
          clear H'
          try clear c1
          try clear p2
          try clear c5
          try clear c6
          try clear p6
          try clear c7
          try clear c8
          try clear c11
          try clear c11b0
          try clear hcz9_0
          try clear hfz9_0
          try clear p2
          try clear p6
          obtain ⟨x15_2, x390000_2, x390001_2, x390002_2, x390003_2, x390004_2, x390005_2, x390006_2, x390007_2, x390008_2, x390009_2, rfl, HA, HK2, BK388, BK389, BK390, HB⟩ := hrel
          cases gk with
          | zero => exact absurd HA.out (by simp [impl_Poset_evacuated.l1])
          | succ k2 =>
            have H := HA.out
            clear HA
            simp only [impl_Poset_evacuated.l1] at H
            by_cases c12 : x15_2 < x5_1
            · rw [if_pos c12] at H
              have c12b0 : decide (x15_2 < x5_1) = true := decide_eq_true c12
              clear c12
              replace H := Option.bind_eq_some_iff.mp H
              obtain ⟨⟨t392, t393, t394, t395, t396, t397, t398, t399, t400, t401⟩, A130, H⟩ := H
              replace H : (impl_Poset_evacuated.l1 k2 x5_1 x5_1 (wrap64 (x15_2 + 1)) l0_0 t392 t393 t394 t395 t396 t397 t398 t399 t400 t401) = some (r1, r2, r3, r4, r5, r6, r7, r8, r9, r10) := H
              have A13 := Aside0.mk A130
              clear A130
              have H' := Aside0.mk H
              clear H
              have hnb14 := NB388_389.out
              have hnc14 := NB389_388.out
              have hnb15 := NB388_390.out
              have hnc15 := NB390_388.out
              have hcz16_0 : wr.cell? ⟨gb388, 0, none⟩ = some (.slice A0_0 l0_0.length c0_0) := (blk_cell BK388.out 0).trans rfl
              have hfz16_0 := blk_frozen BK388.out 0
              have hnb17 := NB389_390.out
              have hnc17 := NB390_389.out
              have hcz18_0 : wr.cell? ⟨gb389, 0, none⟩ = some (.int .i64 x390000_2) := (blk_cell BK389.out 0).trans rfl
              have hcz18_1 : wr.cell? ⟨gb389, 1, none⟩ = some (.int .i64 x390001_2) := (blk_cell BK389.out 1).trans rfl
              have hcz18_2 : wr.cell? ⟨gb389, 2, none⟩ = some (.int .i64 x390002_2) := (blk_cell BK389.out 2).trans rfl
              have hcz18_3 : wr.cell? ⟨gb389, 3, none⟩ = some (.int .i64 x390003_2) := (blk_cell BK389.out 3).trans rfl
              have hcz18_4 : wr.cell? ⟨gb389, 4, none⟩ = some (.int .i64 x390004_2) := (blk_cell BK389.out 4).trans rfl
              have hcz18_5 : wr.cell? ⟨gb389, 5, none⟩ = some (.int .i64 x390005_2) := (blk_cell BK389.out 5).trans rfl
              have hcz18_6 : wr.cell? ⟨gb389, 6, none⟩ = some (.int .i64 x390006_2) := (blk_cell BK389.out 6).trans rfl
              have hcz18_7 : wr.cell? ⟨gb389, 7, none⟩ = some (.int .i64 x390007_2) := (blk_cell BK389.out 7).trans rfl
              have hcz18_8 : wr.cell? ⟨gb389, 8, none⟩ = some (.int .i64 x390008_2) := (blk_cell BK389.out 8).trans rfl
              have hcz18_9 : wr.cell? ⟨gb389, 9, none⟩ = some (.int .i64 x390009_2) := (blk_cell BK389.out 9).trans rfl
              have hfz18_0 := blk_frozen BK389.out 0
              have hfz18_1 := blk_frozen BK389.out 1
              have hfz18_2 := blk_frozen BK389.out 2
              have hfz18_3 := blk_frozen BK389.out 3
              have hfz18_4 := blk_frozen BK389.out 4
              have hfz18_5 := blk_frozen BK389.out 5
              have hfz18_6 := blk_frozen BK389.out 6
              have hfz18_7 := blk_frozen BK389.out 7
              have hfz18_8 := blk_frozen BK389.out 8
              have hfz18_9 := blk_frozen BK389.out 9
              go_wp2_with (first | ((with_reducible refine gate_callee (f := 59) rfl ?_); refine goesL_ (some 21) rfl rfl Try.func59 (by kernel_rfl) rfl #[.agg #[.slice A0_0 l0_0.length c0_0], .agg #[.int .i64 x390000_2, .int .i64 x390001_2, .int .i64 x390002_2, .int .i64 x390003_2, .int .i64 x390004_2, .int .i64 x390005_2, .int .i64 x390006_2, .int .i64 x390007_2, .int .i64 x390008_2, .int .i64 x390009_2], .int .i64 x15_2] rfl (by (try simp only [List.map_toArray, List.map_cons, List.map_nil]); first | done | rfl | (simp only [List.length_drop, List.length_take]; rfl)) ?_; (with_reducible refine (impl_Poset_exchange.calls _ _ l0_0 x390000_2 x390001_2 x390002_2 x390003_2 x390004_2 x390005_2 x390006_2 x390007_2 x390008_2 x390009_2 x15_2 t392 t393 t394 t395 t396 t397 t398 t399 t400 t401 _ ?side1 ?side2 A13.out).mono ?_); (case side1 => repeat (first | exact (Kd.C_below HR0_0.out HB.out) | (with_reducible refine Kd.C_alloc ?_ _) | (with_reducible refine Kd.C_drewN ?_ _) | (with_reducible refine Kd.C_drew ?_))); (case side2 => exact HC0_0.out); rintro e w19 ⟨rfl, hb⟩; refine ⟨_, rfl, ?_⟩; have n0_ := Aside0.mk (blk_below (g := gb388) (o := .cells #[.slice A0_0 l0_0.length c0_0] 28 (0, 0)) (by (with_reducible repeat (first | refine blk_drewN ?_ _ | refine blk_drew ?_ | refine blk_alloc ?_ _)); exact BK388.out) hb); have n1_ := Aside0.mk (blk_below (g := gb389) (o := .cells #[.int .i64 x390000_2, .int .i64 x390001_2, .int .i64 x390002_2, .int .i64 x390003_2, .int .i64 x390004_2, .int .i64 x390005_2, .int .i64 x390006_2, .int .i64 x390007_2, .int .i64 x390008_2, .int .i64 x390009_2] 58 (0, 0)) (by (with_reducible repeat (first | refine blk_drewN ?_ _ | refine blk_drew ?_ | refine blk_alloc ?_ _)); exact BK389.out) hb); have n2_ := Aside0.mk (blk_below (g := gb390) (o := .cells #[.int .i64 0, .int .i64 0, .int .i64 0, .int .i64 0, .int .i64 0, .int .i64 0, .int .i64 0, .int .i64 0, .int .i64 0, .int .i64 0] 58 (0, 0)) (by (with_reducible repeat (first | refine blk_drewN ?_ _ | refine blk_drew ?_ | refine blk_alloc ?_ _)); exact BK390.out) hb); have n3_ := Aside0.mk (below_step (by repeat (first | (with_reducible first | exact HB.out | apply below_alloc | apply pw_below_drewN | apply below_drew1 | refine below_set ?_ GE388.out | refine below_set ?_ GE389.out | refine below_set ?_ GE390.out) | exact HB.out)) hb); clear BK388; clear BK389; clear BK390; clear HB; have BK388 := n0_; have BK389 := n1_; have BK390 := n2_; have HB := n3_; clear n0_ n1_ n2_ n3_; (try clear hb); (try clear hb2); (try clear hk); (try clear hi); have hcz20_0 : w19.cell? ⟨gb389, 0, none⟩ = some (.int .i64 x390000_2) := (blk_cell BK389.out 0).trans rfl; have hcz20_1 : w19.cell? ⟨gb389, 1, none⟩ = some (.int .i64 x390001_2) := (blk_cell BK389.out 1).trans rfl; have hcz20_2 : w19.cell? ⟨gb389, 2, none⟩ = some (.int .i64 x390002_2) := (blk_cell BK389.out 2).trans rfl; have hcz20_3 : w19.cell? ⟨gb389, 3, none⟩ = some (.int .i64 x390003_2) := (blk_cell BK389.out 3).trans rfl; have hcz20_4 : w19.cell? ⟨gb389, 4, none⟩ = some (.int .i64 x390004_2) := (blk_cell BK389.out 4).trans rfl; have hcz20_5 : w19.cell? ⟨gb389, 5, none⟩ = some (.int .i64 x390005_2) := (blk_cell BK389.out 5).trans rfl; have hcz20_6 : w19.cell? ⟨gb389, 6, none⟩ = some (.int .i64 x390006_2) := (blk_cell BK389.out 6).trans rfl; have hcz20_7 : w19.cell? ⟨gb389, 7, none⟩ = some (.int .i64 x390007_2) := (blk_cell BK389.out 7).trans rfl; have hcz20_8 : w19.cell? ⟨gb389, 8, none⟩ = some (.int .i64 x390008_2) := (blk_cell BK389.out 8).trans rfl; have hcz20_9 : w19.cell? ⟨gb389, 9, none⟩ = some (.int .i64 x390009_2) := (blk_cell BK389.out 9).trans rfl; have hfz20_0 := blk_frozen BK389.out 0; have hfz20_1 := blk_frozen BK389.out 1; have hfz20_2 := blk_frozen BK389.out 2; have hfz20_3 := blk_frozen BK389.out 3; have hfz20_4 := blk_frozen BK389.out 4; have hfz20_5 := blk_frozen BK389.out 5; have hfz20_6 := blk_frozen BK389.out 6; have hfz20_7 := blk_frozen BK389.out 7; have hfz20_8 := blk_frozen BK389.out 8; have hfz20_9 := blk_frozen BK389.out 9))
              go_roundg k2
              case measure => have := HK1.out; have := HK2.out; omega
              case rel => exact ⟨(wrap64 (x15_2 + 1)), (t392), (t393), (t394), (t395), (t396), (t397), (t398), (t399), (t400), (t401), (by first | rfl | (simp; done) | (simp [*]; done)), H', ⟨by have := HK1.out; have := HK2.out; omega⟩, ⟨by (with_reducible repeat (first | refine blk_drewN ?_ _ | refine blk_drew ?_ | refine blk_alloc ?_ _)); refine blk_far ?_ NB388_389.out _; (with_reducible repeat (first | refine blk_drewN ?_ _ | refine blk_drew ?_ | refine blk_alloc ?_ _)); refine blk_far ?_ NB388_389.out _; (with_reducible repeat (first | refine blk_drewN ?_ _ | refine blk_drew ?_ | refine blk_alloc ?_ _)); refine blk_far ?_ NB388_389.out _; (with_reducible repeat (first | refine blk_drewN ?_ _ | refine blk_drew ?_ | refine blk_alloc ?_ _)); refine blk_far ?_ NB388_389.out _; (with_reducible repeat (first | refine blk_drewN ?_ _ | refine blk_drew ?_ | refine blk_alloc ?_ _)); refine blk_far ?_ NB388_389.out _; (with_reducible repeat (first | refine blk_drewN ?_ _ | refine blk_drew ?_ | refine blk_alloc ?_ _)); refine blk_far ?_ NB388_389.out _; (with_reducible repeat (first | refine blk_drewN ?_ _ | refine blk_drew ?_ | refine blk_alloc ?_ _)); refine blk_far ?_ NB388_389.out _; (with_reducible repeat (first | refine blk_drewN ?_ _ | refine blk_drew ?_ | refine blk_alloc ?_ _)); refine blk_far ?_ NB388_389.out _; (with_reducible repeat (first | refine blk_drewN ?_ _ | refine blk_drew ?_ | refine blk_alloc ?_ _)); refine blk_far ?_ NB388_389.out _; (with_reducible repeat (first | refine blk_drewN ?_ _ | refine blk_drew ?_ | refine blk_alloc ?_ _)); refine blk_far ?_ NB388_389.out _; (with_reducible repeat (first | refine blk_drewN ?_ _ | refine blk_drew ?_ | refine blk_alloc ?_ _)); exact BK388.out⟩, ⟨by (with_reducible repeat (first | refine blk_drewN ?_ _ | refine blk_drew ?_ | refine blk_alloc ?_ _)); refine blk_put (cs := #[.int .i64 t392, .int .i64 t393, .int .i64 t394, .int .i64 t395, .int .i64 t396, .int .i64 t397, .int .i64 t398, .int .i64 t399, .int .i64 t400, .int .i64 x390009_2]) ?_ 9 _ rfl; (with_reducible repeat (first | refine blk_drewN ?_ _ | refine blk_drew ?_ | refine blk_alloc ?_ _)); refine blk_put (cs := #[.int .i64 t392, .int .i64 t393, .int .i64 t394, .int .i64 t395, .int .i64 t396, .int .i64 t397, .int .i64 t398, .int .i64 t399, .int .i64 x390008_2, .int .i64 x390009_2]) ?_ 8 _ rfl; (with_reducible repeat (first | refine blk_drewN ?_ _ | refine blk_drew ?_ | refine blk_alloc ?_ _)); refine blk_put (cs := #[.int .i64 t392, .int .i64 t393, .int .i64 t394, .int .i64 t395, .int .i64 t396, .int .i64 t397, .int .i64 t398, .int .i64 x390007_2, .int .i64 x390008_2, .int .i64 x390009_2]) ?_ 7 _ rfl; (with_reducible repeat (first | refine blk_drewN ?_ _ | refine blk_drew ?_ | refine blk_alloc ?_ _)); refine blk_put (cs := #[.int .i64 t392, .int .i64 t393, .int .i64 t394, .int .i64 t395, .int .i64 t396, .int .i64 t397, .int .i64 x390006_2, .int .i64 x390007_2, .int .i64 x390008_2, .int .i64 x390009_2]) ?_ 6 _ rfl; (with_reducible repeat (first | refine blk_drewN ?_ _ | refine blk_drew ?_ | refine blk_alloc ?_ _)); refine blk_put (cs := #[.int .i64 t392, .int .i64 t393, .int .i64 t394, .int .i64 t395, .int .i64 t396, .int .i64 x390005_2, .int .i64 x390006_2, .int .i64 x390007_2, .int .i64 x390008_2, .int .i64 x390009_2]) ?_ 5 _ rfl; (with_reducible repeat (first | refine blk_drewN ?_ _ | refine blk_drew ?_ | refine blk_alloc ?_ _)); refine blk_put (cs := #[.int .i64 t392, .int .i64 t393, .int .i64 t394, .int .i64 t395, .int .i64 x390004_2, .int .i64 x390005_2, .int .i64 x390006_2, .int .i64 x390007_2, .int .i64 x390008_2, .int .i64 x390009_2]) ?_ 4 _ rfl; (with_reducible repeat (first | refine blk_drewN ?_ _ | refine blk_drew ?_ | refine blk_alloc ?_ _)); refine blk_put (cs := #[.int .i64 t392, .int .i64 t393, .int .i64 t394, .int .i64 x390003_2, .int .i64 x390004_2, .int .i64 x390005_2, .int .i64 x390006_2, .int .i64 x390007_2, .int .i64 x390008_2, .int .i64 x390009_2]) ?_ 3 _ rfl; (with_reducible repeat (first | refine blk_drewN ?_ _ | refine blk_drew ?_ | refine blk_alloc ?_ _)); refine blk_put (cs := #[.int .i64 t392, .int .i64 t393, .int .i64 x390002_2, .int .i64 x390003_2, .int .i64 x390004_2, .int .i64 x390005_2, .int .i64 x390006_2, .int .i64 x390007_2, .int .i64 x390008_2, .int .i64 x390009_2]) ?_ 2 _ rfl; (with_reducible repeat (first | refine blk_drewN ?_ _ | refine blk_drew ?_ | refine blk_alloc ?_ _)); refine blk_put (cs := #[.int .i64 t392, .int .i64 x390001_2, .int .i64 x390002_2, .int .i64 x390003_2, .int .i64 x390004_2, .int .i64 x390005_2, .int .i64 x390006_2, .int .i64 x390007_2, .int .i64 x390008_2, .int .i64 x390009_2]) ?_ 1 _ rfl; (with_reducible repeat (first | refine blk_drewN ?_ _ | refine blk_drew ?_ | refine blk_alloc ?_ _)); refine blk_put (cs := #[.int .i64 x390000_2, .int .i64 x390001_2, .int .i64 x390002_2, .int .i64 x390003_2, .int .i64 x390004_2, .int .i64 x390005_2, .int .i64 x390006_2, .int .i64 x390007_2, .int .i64 x390008_2, .int .i64 x390009_2]) ?_ 0 _ rfl; (with_reducible repeat (first | refine blk_drewN ?_ _ | refine blk_drew ?_ | refine blk_alloc ?_ _)); exact BK389.out⟩, ⟨by (with_reducible repeat (first | refine blk_drewN ?_ _ | refine blk_drew ?_ | refine blk_alloc ?_ _)); refine blk_far ?_ NB390_389.out _; (with_reducible repeat (first | refine blk_drewN ?_ _ | refine blk_drew ?_ | refine blk_alloc ?_ _)); refine blk_far ?_ NB390_389.out _; (with_reducible repeat (first | refine blk_drewN ?_ _ | refine blk_drew ?_ | refine blk_alloc ?_ _)); refine blk_far ?_ NB390_389.out _; (with_reducible repeat (first | refine blk_drewN ?_ _ | refine blk_drew ?_ | refine blk_alloc ?_ _)); refine blk_far ?_ NB390_389.out _; (with_reducible repeat (first | refine blk_drewN ?_ _ | refine blk_drew ?_ | refine blk_alloc ?_ _)); refine blk_far ?_ NB390_389.out _; (with_reducible repeat (first | refine blk_drewN ?_ _ | refine blk_drew ?_ | refine blk_alloc ?_ _)); refine blk_far ?_ NB390_389.out _; (with_reducible repeat (first | refine blk_drewN ?_ _ | refine blk_drew ?_ | refine blk_alloc ?_ _)); refine blk_far ?_ NB390_389.out _; (with_reducible repeat (first | refine blk_drewN ?_ _ | refine blk_drew ?_ | refine blk_alloc ?_ _)); refine blk_far ?_ NB390_389.out _; (with_reducible repeat (first | refine blk_drewN ?_ _ | refine blk_drew ?_ | refine blk_alloc ?_ _)); refine blk_far ?_ NB390_389.out _; (with_reducible repeat (first | refine blk_drewN ?_ _ | refine blk_drew ?_ | refine blk_alloc ?_ _)); refine blk_far ?_ NB390_389.out _; (with_reducible repeat (first | refine blk_drewN ?_ _ | refine blk_drew ?_ | refine blk_alloc ?_ _)); exact BK390.out⟩, ⟨by repeat (first | (with_reducible first | exact HB.out | apply below_alloc | apply pw_below_drewN | apply below_drew1 | refine below_set ?_ GE388.out | refine below_set ?_ GE389.out | refine below_set ?_ GE390.out) | exact HB.out)⟩⟩
            · rw [if_neg c12] at H
              have c12b0 : decide (x15_2 < x5_1) = false := decide_eq_false c12
              clear c12
              have H' := Aside0.mk H
              clear H
              go_wp2
              go_roundg k2
              case measure => have := HK1.out; have := HK2.out; omega
              case rel => exact ⟨(wrap64 (x5_1 - 1)), (x390000_2), (x390001_2), (x390002_2), (x390003_2), (x390004_2), (x390005_2), (x390006_2), (x390007_2), (x390008_2), (x390009_2), (by first | rfl | (simp; done) | (simp [*]; done)), H', ⟨by have := HK1.out; have := HK2.out; omega⟩, ⟨by (with_reducible repeat (first | refine blk_drewN ?_ _ | refine blk_drew ?_ | refine blk_alloc ?_ _)); exact BK388.out⟩, ⟨by (with_reducible repeat (first | refine blk_drewN ?_ _ | refine blk_drew ?_ | refine blk_alloc ?_ _)); exact BK389.out⟩, ⟨by (with_reducible repeat (first | refine blk_drewN ?_ _ | refine blk_drew ?_ | refine blk_alloc ?_ _)); exact BK390.out⟩, ⟨by repeat (first | (with_reducible first | exact HB.out | apply below_alloc | apply pw_below_drewN | apply below_drew1 | refine below_set ?_ GE388.out | refine below_set ?_ GE389.out | refine below_set ?_ GE390.out) | exact HB.out)⟩⟩
      · rw [if_neg c11] at H
        have c11b0 : decide (0 < x5_1) = false := decide_eq_false c11
        clear c11
        simp only [Option.some.injEq, Prod.mk.injEq] at H
        obtain ⟨rfl, rfl, rfl, rfl, rfl, rfl, rfl, rfl, rfl, rfl⟩ := H
        have hnb21 := NB389_388.out
        have hnc21 := NB388_389.out
        have hnb22 := NB389_390.out
        have hnc22 := NB390_389.out
        have hcz23_0 : wr.cell? ⟨gb389, 0, none⟩ = some (.int .i64 x390000_1) := (blk_cell BK389.out 0).trans rfl
        have hcz23_1 : wr.cell? ⟨gb389, 1, none⟩ = some (.int .i64 x390001_1) := (blk_cell BK389.out 1).trans rfl
        have hcz23_2 : wr.cell? ⟨gb389, 2, none⟩ = some (.int .i64 x390002_1) := (blk_cell BK389.out 2).trans rfl
        have hcz23_3 : wr.cell? ⟨gb389, 3, none⟩ = some (.int .i64 x390003_1) := (blk_cell BK389.out 3).trans rfl
        have hcz23_4 : wr.cell? ⟨gb389, 4, none⟩ = some (.int .i64 x390004_1) := (blk_cell BK389.out 4).trans rfl
        have hcz23_5 : wr.cell? ⟨gb389, 5, none⟩ = some (.int .i64 x390005_1) := (blk_cell BK389.out 5).trans rfl
        have hcz23_6 : wr.cell? ⟨gb389, 6, none⟩ = some (.int .i64 x390006_1) := (blk_cell BK389.out 6).trans rfl
        have hcz23_7 : wr.cell? ⟨gb389, 7, none⟩ = some (.int .i64 x390007_1) := (blk_cell BK389.out 7).trans rfl
        have hcz23_8 : wr.cell? ⟨gb389, 8, none⟩ = some (.int .i64 x390008_1) := (blk_cell BK389.out 8).trans rfl
        have hcz23_9 : wr.cell? ⟨gb389, 9, none⟩ = some (.int .i64 x390009_1) := (blk_cell BK389.out 9).trans rfl
        have hfz23_0 := blk_frozen BK389.out 0
        have hfz23_1 := blk_frozen BK389.out 1
        have hfz23_2 := blk_frozen BK389.out 2
        have hfz23_3 := blk_frozen BK389.out 3
        have hfz23_4 := blk_frozen BK389.out 4
        have hfz23_5 := blk_frozen BK389.out 5
        have hfz23_6 := blk_frozen BK389.out 6
        have hfz23_7 := blk_frozen BK389.out 7
        have hfz23_8 := blk_frozen BK389.out 8
        have hfz23_9 := blk_frozen BK389.out 9
        have hnb24 := NB390_388.out
        have hnc24 := NB388_390.out
        have hcz25_0 : wr.cell? ⟨gb390, 0, none⟩ = some (.int .i64 0) := (blk_cell BK390.out 0).trans rfl
        have hcz25_1 : wr.cell? ⟨gb390, 1, none⟩ = some (.int .i64 0) := (blk_cell BK390.out 1).trans rfl
        have hcz25_2 : wr.cell? ⟨gb390, 2, none⟩ = some (.int .i64 0) := (blk_cell BK390.out 2).trans rfl
        have hcz25_3 : wr.cell? ⟨gb390, 3, none⟩ = some (.int .i64 0) := (blk_cell BK390.out 3).trans rfl
        have hcz25_4 : wr.cell? ⟨gb390, 4, none⟩ = some (.int .i64 0) := (blk_cell BK390.out 4).trans rfl
        have hcz25_5 : wr.cell? ⟨gb390, 5, none⟩ = some (.int .i64 0) := (blk_cell BK390.out 5).trans rfl
        have hcz25_6 : wr.cell? ⟨gb390, 6, none⟩ = some (.int .i64 0) := (blk_cell BK390.out 6).trans rfl
        have hcz25_7 : wr.cell? ⟨gb390, 7, none⟩ = some (.int .i64 0) := (blk_cell BK390.out 7).trans rfl
        have hcz25_8 : wr.cell? ⟨gb390, 8, none⟩ = some (.int .i64 0) := (blk_cell BK390.out 8).trans rfl
        have hcz25_9 : wr.cell? ⟨gb390, 9, none⟩ = some (.int .i64 0) := (blk_cell BK390.out 9).trans rfl
        have hfz25_0 := blk_frozen BK390.out 0
        have hfz25_1 := blk_frozen BK390.out 1
        have hfz25_2 := blk_frozen BK390.out 2
        have hfz25_3 := blk_frozen BK390.out 3
        have hfz25_4 := blk_frozen BK390.out 4
        have hfz25_5 := blk_frozen BK390.out 5
        have hfz25_6 := blk_frozen BK390.out 6
        have hfz25_7 := blk_frozen BK390.out 7
        have hfz25_8 := blk_frozen BK390.out 8
        have hfz25_9 := blk_frozen BK390.out 9
        go_wp2
        refine bodyPost_ret (results_cell_row rfl _ _ gb390 58 #[.int .i64 x390000_1, .int .i64 x390001_1, .int .i64 x390002_1, .int .i64 x390003_1, .int .i64 x390004_1, .int .i64 x390005_1, .int .i64 x390006_1, .int .i64 x390007_1, .int .i64 x390008_1, .int .i64 x390009_1] (0, 0) _ rfl (by (with_reducible repeat (first | refine blk_drewN ?_ _ | refine blk_drew ?_ | refine blk_alloc ?_ _)); refine blk_put (cs := #[.int .i64 x390000_1, .int .i64 x390001_1, .int .i64 x390002_1, .int .i64 x390003_1, .int .i64 x390004_1, .int .i64 x390005_1, .int .i64 x390006_1, .int .i64 x390007_1, .int .i64 x390008_1, .int .i64 0]) ?_ 9 _ rfl; (with_reducible repeat (first | refine blk_drewN ?_ _ | refine blk_drew ?_ | refine blk_alloc ?_ _)); refine blk_put (cs := #[.int .i64 x390000_1, .int .i64 x390001_1, .int .i64 x390002_1, .int .i64 x390003_1, .int .i64 x390004_1, .int .i64 x390005_1, .int .i64 x390006_1, .int .i64 x390007_1, .int .i64 0, .int .i64 0]) ?_ 8 _ rfl; (with_reducible repeat (first | refine blk_drewN ?_ _ | refine blk_drew ?_ | refine blk_alloc ?_ _)); refine blk_put (cs := #[.int .i64 x390000_1, .int .i64 x390001_1, .int .i64 x390002_1, .int .i64 x390003_1, .int .i64 x390004_1, .int .i64 x390005_1, .int .i64 x390006_1, .int .i64 0, .int .i64 0, .int .i64 0]) ?_ 7 _ rfl; (with_reducible repeat (first | refine blk_drewN ?_ _ | refine blk_drew ?_ | refine blk_alloc ?_ _)); refine blk_put (cs := #[.int .i64 x390000_1, .int .i64 x390001_1, .int .i64 x390002_1, .int .i64 x390003_1, .int .i64 x390004_1, .int .i64 x390005_1, .int .i64 0, .int .i64 0, .int .i64 0, .int .i64 0]) ?_ 6 _ rfl; (with_reducible repeat (first | refine blk_drewN ?_ _ | refine blk_drew ?_ | refine blk_alloc ?_ _)); refine blk_put (cs := #[.int .i64 x390000_1, .int .i64 x390001_1, .int .i64 x390002_1, .int .i64 x390003_1, .int .i64 x390004_1, .int .i64 0, .int .i64 0, .int .i64 0, .int .i64 0, .int .i64 0]) ?_ 5 _ rfl; (with_reducible repeat (first | refine blk_drewN ?_ _ | refine blk_drew ?_ | refine blk_alloc ?_ _)); refine blk_put (cs := #[.int .i64 x390000_1, .int .i64 x390001_1, .int .i64 x390002_1, .int .i64 x390003_1, .int .i64 0, .int .i64 0, .int .i64 0, .int .i64 0, .int .i64 0, .int .i64 0]) ?_ 4 _ rfl; (with_reducible repeat (first | refine blk_drewN ?_ _ | refine blk_drew ?_ | refine blk_alloc ?_ _)); refine blk_put (cs := #[.int .i64 x390000_1, .int .i64 x390001_1, .int .i64 x390002_1, .int .i64 0, .int .i64 0, .int .i64 0, .int .i64 0, .int .i64 0, .int .i64 0, .int .i64 0]) ?_ 3 _ rfl; (with_reducible repeat (first | refine blk_drewN ?_ _ | refine blk_drew ?_ | refine blk_alloc ?_ _)); refine blk_put (cs := #[.int .i64 x390000_1, .int .i64 x390001_1, .int .i64 0, .int .i64 0, .int .i64 0, .int .i64 0, .int .i64 0, .int .i64 0, .int .i64 0, .int .i64 0]) ?_ 2 _ rfl; (with_reducible repeat (first | refine blk_drewN ?_ _ | refine blk_drew ?_ | refine blk_alloc ?_ _)); refine blk_put (cs := #[.int .i64 x390000_1, .int .i64 0, .int .i64 0, .int .i64 0, .int .i64 0, .int .i64 0, .int .i64 0, .int .i64 0, .int .i64 0, .int .i64 0]) ?_ 1 _ rfl; (with_reducible repeat (first | refine blk_drewN ?_ _ | refine blk_drew ?_ | refine blk_alloc ?_ _)); refine blk_put (cs := #[.int .i64 0, .int .i64 0, .int .i64 0, .int .i64 0, .int .i64 0, .int .i64 0, .int .i64 0, .int .i64 0, .int .i64 0, .int .i64 0]) ?_ 0 _ rfl; (with_reducible repeat (first | refine blk_drewN ?_ _ | refine blk_drew ?_ | refine blk_alloc ?_ _)); exact BK390.out) Try.underlying58 rfl (by kernel_rfl)) rfl ?_
        exact ⟨by first | rfl | (simp [errW_none, errW_some] <;> rfl) | (simp [*, errW_none, errW_some] <;> rfl), by repeat (first | (with_reducible first | exact HB.out | apply below_alloc | apply pw_below_drewN | apply below_drew1 | refine below_set ?_ GE388.out | refine below_set ?_ GE389.out | refine below_set ?_ GE390.out) | exact HB.out)⟩

end Go.Proofs.Ytjahclncpgllmaa.F
end

section
namespace Go.Proofs.Ytjahclncpgllmaa.F
open Go.RowKit Go.Proofs.YtjahclncpgllmaaW.PrintWords Go.Proofs.YtjahclncpgllmaaW.PrintLast Go.Proofs.YtjahclncpgllmaaW.PrintMore
attribute [local go_sem] max2_int min2_int max_two min_two max_three min_three max_four min_four
set_option linter.unusedVariables false
set_option linter.unusedSimpArgs false

/-! ### impl_Poset_promoted: function 85 -/
def impl_Poset_promoted.l0 : Nat → Int → Int → List Int → Int → Int → Int → Int → Int → Int → Int → Int → Int → Int → Option (Int × Int × Int × Int × Int × Int × Int × Int × Int × Int)
  | 0, _, _, _, _, _, _, _, _, _, _, _, _, _ => none
  | k + 1, x8, x9, x708000, x709000, x709001, x709002, x709003, x709004, x709005, x709006, x709007, x709008, x709009 => if x9 < x8 then ((impl_Poset_exchange.f x708000 x709000 x709001 x709002 x709003 x709004 x709005 x709006 x709007 x709008 x709009 x9).bind fun bt711 => (impl_Poset_promoted.l0 k x8 (wrap64 (x9 + 1)) x708000 bt711.1 bt711.2.1 bt711.2.2.1 bt711.2.2.2.1 bt711.2.2.2.2.1 bt711.2.2.2.2.2.1 bt711.2.2.2.2.2.2.1 bt711.2.2.2.2.2.2.2.1 bt711.2.2.2.2.2.2.2.2.1 bt711.2.2.2.2.2.2.2.2.2)) else (some (x709000, x709001, x709002, x709003, x709004, x709005, x709006, x709007, x709008, x709009))
def impl_Poset_promoted.f (k : Nat) (l0_0 : List Int) (a1_0 : Int) (a1_1 : Int) (a1_2 : Int) (a1_3 : Int) (a1_4 : Int) (a1_5 : Int) (a1_6 : Int) (a1_7 : Int) (a1_8 : Int) (a1_9 : Int) : Option (Int × Int × Int × Int × Int × Int × Int × Int × Int × Int) := (impl_Poset_n.f l0_0).bind fun t710 => (impl_Poset_promoted.l0 k (wrap64 (t710 - 1)) 0 l0_0 a1_0 a1_1 a1_2 a1_3 a1_4 a1_5 a1_6 a1_7 a1_8 a1_9)
theorem impl_Poset_promoted.mono_l : ∀ k, (∀ y0 y1 y2 y3 y4 y5 y6 y7 y8 y9 y10 y11 y12, LeO (impl_Poset_promoted.l0 k y0 y1 y2 y3 y4 y5 y6 y7 y8 y9 y10 y11 y12) (impl_Poset_promoted.l0 (k + 1) y0 y1 y2 y3 y4 y5 y6 y7 y8 y9 y10 y11 y12))
  | 0 => fun _ _ _ _ _ _ _ _ _ _ _ _ _ r h => by simp [impl_Poset_promoted.l0] at h
  | k + 1 => by
    have ih0 := impl_Poset_promoted.mono_l k
    · intro y0 y1 y2 y3 y4 y5 y6 y7 y8 y9 y10 y11 y12
      unfold impl_Poset_promoted.l0
      repeat' first
      | (with_reducible exact ih0 _ _ _ _ _ _ _ _ _ _ _ _ _)
      | (with_reducible exact LeO.refl _)
      | (with_reducible exact LeO.none _)
      | (with_reducible refine LeO.ite ?_ ?_)
      | (with_reducible refine LeO.bind ?_ (fun _ => ?_))
      | exact ih0 _ _ _ _ _ _ _ _ _ _ _ _ _
      | exact LeO.none _
      | refine LeO.ite ?_ ?_
      | refine LeO.bind ?_ (fun _ => ?_)
theorem impl_Poset_promoted.mono : ∀ a0 a1 a2 a3 a4 a5 a6 a7 a8 a9 a10 k, LeO (impl_Poset_promoted.f k a0 a1 a2 a3 a4 a5 a6 a7 a8 a9 a10) (impl_Poset_promoted.f (k + 1) a0 a1 a2 a3 a4 a5 a6 a7 a8 a9 a10) := by
  intro a0 a1 a2 a3 a4 a5 a6 a7 a8 a9 a10 k
  have ih0 := impl_Poset_promoted.mono_l k
  unfold impl_Poset_promoted.f
  repeat' first
      | (with_reducible exact ih0 _ _ _ _ _ _ _ _ _ _ _ _ _)
      | (with_reducible exact LeO.refl _)
      | (with_reducible exact LeO.none _)
      | (with_reducible refine LeO.ite ?_ ?_)
      | (with_reducible refine LeO.bind ?_ (fun _ => ?_))
      | exact ih0 _ _ _ _ _ _ _ _ _ _ _ _ _
      | exact LeO.none _
      | refine LeO.ite ?_ ?_
      | refine LeO.bind ?_ (fun _ => ?_)
set_option maxHeartbeats 8000000 in
set_option maxRecDepth 100000 in
theorem impl_Poset_promoted.calls (k : Nat) (A0_0 : Option Addr) (c0_0 : Nat) (l0_0 : List Int) (a1_0 : Int) (a1_1 : Int) (a1_2 : Int) (a1_3 : Int) (a1_4 : Int) (a1_5 : Int) (a1_6 : Int) (a1_7 : Int) (a1_8 : Int) (a1_9 : Int) (r1 : Int) (r2 : Int) (r3 : Int) (r4 : Int) (r5 : Int) (r6 : Int) (r7 : Int) (r8 : Int) (r9 : Int) (r10 : Int) (w : World) (hr0_0 : Kd.C (Kd.int .i64) w A0_0 l0_0.length l0_0) (hc0_0 : l0_0.length ≤ c0_0) (h : impl_Poset_promoted.f k l0_0 a1_0 a1_1 a1_2 a1_3 a1_4 a1_5 a1_6 a1_7 a1_8 a1_9 = some (r1, r2, r3, r4, r5, r6, r7, r8, r9, r10)) :
    Calls Try.prog 85 #[.agg #[.slice A0_0 l0_0.length c0_0], .agg #[.int .i64 a1_0, .int .i64 a1_1, .int .i64 a1_2, .int .i64 a1_3, .int .i64 a1_4, .int .i64 a1_5, .int .i64 a1_6, .int .i64 a1_7, .int .i64 a1_8, .int .i64 a1_9]] w fun e w' => e = .returned (.agg #[.int .i64 r1, .int .i64 r2, .int .i64 r3, .int .i64 r4, .int .i64 r5, .int .i64 r6, .int .i64 r7, .int .i64 r8, .int .i64 r9, .int .i64 r10]) ∧ Below w.heap.size w w' := by
  have hu28 := Try.underlying28
  have hu58 := Try.underlying58
  have HR0_0 := Aside0.mk hr0_0
  have HC0_0 := Aside0.mk hc0_0
  clear hr0_0 hc0_0
  have HB := Aside0.mk (Below.refl w.heap.size w)
  have H : ((impl_Poset_n.f l0_0).bind fun t710 => (impl_Poset_promoted.l0 k (wrap64 (t710 - 1)) 0 l0_0 a1_0 a1_1 a1_2 a1_3 a1_4 a1_5 a1_6 a1_7 a1_8 a1_9)) = some (r1, r2, r3, r4, r5, r6, r7, r8, r9, r10) := h
  clear h
  replace H := Option.bind_eq_some_iff.mp H
  obtain ⟨t710, A30, H⟩ := H
  replace H : (impl_Poset_promoted.l0 k (wrap64 (t710 - 1)) 0 l0_0 a1_0 a1_1 a1_2 a1_3 a1_4 a1_5 a1_6 a1_7 a1_8 a1_9) = some (r1, r2, r3, r4, r5, r6, r7, r8, r9, r10) := H
  have A3 := Aside0.mk A30
  clear A30
  have H' := Aside0.mk H
  clear H
  go_enter Try.func85, Try.ntmps85
  go_wp2_with (first | ((with_reducible refine gate_dst (N := 2) rfl ?_); refine box_event ?hg (N := 2) ?hd (cs := #[.slice A0_0 l0_0.length c0_0]) (t := 28) ?hr ?_; (case hd => rfl); (case hg => rfl); (case hr => first | (go_simp; done) | (go_simp; rfl)); intro gb707 hg w4 hbox hb; have n0_ := Aside0.mk (below_step (by repeat (first | (with_reducible first | exact HB.out | apply below_alloc | apply pw_below_drewN | apply below_drew1) | exact HB.out)) hb); have n1_ := Aside0.mk (hbox); have n2_ := Aside0.mk ((by rw [hg]; exact (below_size (by repeat (first | (with_reducible first | exact HB.out | apply below_alloc | apply pw_below_drewN | apply below_drew1) | exact HB.out))) : w.heap.size ≤ gb707)); have n3_ := Aside0.mk ((by rw [hg]; exact (below_size (by repeat (first | (with_reducible first | exact HB.out | apply below_alloc | apply pw_below_drewN | apply below_drew1) | exact HB.out))) : w.heap.size ≤ gb707)); clear HB; have HB := n0_; have BK707 := n1_; have GW707 := n2_; have GE707 := n3_; clear n0_ n1_ n2_ n3_; clear hb hbox hg) | ((with_reducible refine gate_dst (N := 3) rfl ?_); refine box_event ?hg (N := 3) ?hd (cs := #[.int .i64 a1_0, .int .i64 a1_1, .int .i64 a1_2, .int .i64 a1_3, .int .i64 a1_4, .int .i64 a1_5, .int .i64 a1_6, .int .i64 a1_7, .int .i64 a1_8, .int .i64 a1_9]) (t := 58) ?hr ?_; (case hd => rfl); (case hg => rfl); (case hr => first | (go_simp; done) | (go_simp; rfl)); intro gb708 hg w5 hbox hb; have n0_ := Aside0.mk (blk_below (g := gb707) (o := .cells #[.slice A0_0 l0_0.length c0_0] 28 (0, 0)) (by (with_reducible repeat (first | refine blk_drewN ?_ _ | refine blk_drew ?_ | refine blk_alloc ?_ _)); exact BK707.out) hb); have n1_ := Aside0.mk (below_step (by repeat (first | (with_reducible first | exact HB.out | apply below_alloc | apply pw_below_drewN | apply below_drew1 | refine below_set ?_ GE707.out) | exact HB.out)) hb); have n2_ := Aside0.mk (hbox); have n3_ := Aside0.mk ((by rw [hg]; exact (below_size (by repeat (first | (with_reducible first | exact HB.out | apply below_alloc | apply pw_below_drewN | apply below_drew1 | refine below_set ?_ GE707.out) | exact HB.out))) : w.heap.size ≤ gb708)); have n4_ := Aside0.mk ((by rw [hg]; exact (below_size (by repeat (first | (with_reducible first | exact HB.out | apply below_alloc | apply pw_below_drewN | apply below_drew1 | refine below_set ?_ GE707.out) | exact HB.out))) : w.heap.size ≤ gb708)); have n5_ := Aside0.mk ((by rw [hg]; exact Nat.ne_of_lt (blk_lt (g := gb707) (o := .cells #[.slice A0_0 l0_0.length c0_0] 28 (0, 0)) (by (with_reducible repeat (first | refine blk_drewN ?_ _ | refine blk_drew ?_ | refine blk_alloc ?_ _)); exact BK707.out)) : gb707 ≠ gb708)); have n6_ := Aside0.mk ((by rw [hg]; exact Nat.ne_of_gt (blk_lt (g := gb707) (o := .cells #[.slice A0_0 l0_0.length c0_0] 28 (0, 0)) (by (with_reducible repeat (first | refine blk_drewN ?_ _ | refine blk_drew ?_ | refine blk_alloc ?_ _)); exact BK707.out)) : gb708 ≠ gb707)); clear BK707; clear HB; have BK707 := n0_; have HB := n1_; have BK708 := n2_; have GW708 := n3_; have GE708 := n4_; have NB707_708 := n5_; have NB708_707 := n6_; clear n0_ n1_ n2_ n3_ n4_ n5_ n6_; clear hb hbox hg) | ((with_reducible refine gate_dst (N := 4) rfl ?_); refine box_event ?hg (N := 4) ?hd (cs := #[.int .i64 0, .int .i64 0, .int .i64 0, .int .i64 0, .int .i64 0, .int .i64 0, .int .i64 0, .int .i64 0, .int .i64 0, .int .i64 0]) (t := 58) ?hr ?_; (case hd => rfl); (case hg => rfl); (case hr => first | (go_simp; done) | (go_simp; rfl)); intro gb709 hg w6 hbox hb; have n0_ := Aside0.mk (blk_below (g := gb707) (o := .cells #[.slice A0_0 l0_0.length c0_0] 28 (0, 0)) (by (with_reducible repeat (first | refine blk_drewN ?_ _ | refine blk_drew ?_ | refine blk_alloc ?_ _)); exact BK707.out) hb); have n1_ := Aside0.mk (blk_below (g := gb708) (o := .cells #[.int .i64 a1_0, .int .i64 a1_1, .int .i64 a1_2, .int .i64 a1_3, .int .i64 a1_4, .int .i64 a1_5, .int .i64 a1_6, .int .i64 a1_7, .int .i64 a1_8, .int .i64 a1_9] 58 (0, 0)) (by (with_reducible repeat (first | refine blk_drewN ?_ _ | refine blk_drew ?_ | refine blk_alloc ?_ _)); exact BK708.out) hb); have n2_ := Aside0.mk (below_step (by repeat (first | (with_reducible first | exact HB.out | apply below_alloc | apply pw_below_drewN | apply below_drew1 | refine below_set ?_ GE707.out | refine below_set ?_ GE708.out) | exact HB.out)) hb); have n3_ := Aside0.mk (hbox); have n4_ := Aside0.mk ((by rw [hg]; exact (below_size (by repeat (first | (with_reducible first | exact HB.out | apply below_alloc | apply pw_below_drewN | apply below_drew1 | refine below_set ?_ GE707.out | refine below_set ?_ GE708.out) | exact HB.out))) : w.heap.size ≤ gb709)); have n5_ := Aside0.mk ((by rw [hg]; exact (below_size (by repeat (first | (with_reducible first | exact HB.out | apply below_alloc | apply pw_below_drewN | apply below_drew1 | refine below_set ?_ GE707.out | refine below_set ?_ GE708.out) | exact HB.out))) : w.heap.size ≤ gb709)); have n6_ := Aside0.mk ((by rw [hg]; exact Nat.ne_of_lt (blk_lt (g := gb707) (o := .cells #[.slice A0_0 l0_0.length c0_0] 28 (0, 0)) (by (with_reducible repeat (first | refine blk_drewN ?_ _ | refine blk_drew ?_ | refine blk_alloc ?_ _)); exact BK707.out)) : gb707 ≠ gb709)); have n7_ := Aside0.mk ((by rw [hg]; exact Nat.ne_of_gt (blk_lt (g := gb707) (o := .cells #[.slice A0_0 l0_0.length c0_0] 28 (0, 0)) (by (with_reducible repeat (first | refine blk_drewN ?_ _ | refine blk_drew ?_ | refine blk_alloc ?_ _)); exact BK707.out)) : gb709 ≠ gb707)); have n8_ := Aside0.mk ((by rw [hg]; exact Nat.ne_of_lt (blk_lt (g := gb708) (o := .cells #[.int .i64 a1_0, .int .i64 a1_1, .int .i64 a1_2, .int .i64 a1_3, .int .i64 a1_4, .int .i64 a1_5, .int .i64 a1_6, .int .i64 a1_7, .int .i64 a1_8, .int .i64 a1_9] 58 (0, 0)) (by (with_reducible repeat (first | refine blk_drewN ?_ _ | refine blk_drew ?_ | refine blk_alloc ?_ _)); exact BK708.out)) : gb708 ≠ gb709)); have n9_ := Aside0.mk ((by rw [hg]; exact Nat.ne_of_gt (blk_lt (g := gb708) (o := .cells #[.int .i64 a1_0, .int .i64 a1_1, .int .i64 a1_2, .int .i64 a1_3, .int .i64 a1_4, .int .i64 a1_5, .int .i64 a1_6, .int .i64 a1_7, .int .i64 a1_8, .int .i64 a1_9] 58 (0, 0)) (by (with_reducible repeat (first | refine blk_drewN ?_ _ | refine blk_drew ?_ | refine blk_alloc ?_ _)); exact BK708.out)) : gb709 ≠ gb708)); clear BK707; clear BK708; clear HB; have BK707 := n0_; have BK708 := n1_; have HB := n2_; have BK709 := n3_; have GW709 := n4_; have GE709 := n5_; have NB707_709 := n6_; have NB709_707 := n7_; have NB708_709 := n8_; have NB709_708 := n9_; clear n0_ n1_ n2_ n3_ n4_ n5_ n6_ n7_ n8_ n9_; clear hb hbox hg; have hnb7 := NB707_708.out; have hnc7 := NB708_707.out; have hnb8 := NB707_709.out; have hnc8 := NB709_707.out; have hcz9_0 : w6.cell? ⟨gb707, 0, none⟩ = some (.slice A0_0 l0_0.length c0_0) := (blk_cell BK707.out 0).trans rfl; have hfz9_0 := blk_frozen BK707.out 0) | ((with_reducible refine gate_callee (f := 58) rfl ?_); refine goesL_ (some 7) rfl rfl Try.func58 (by kernel_rfl) rfl #[.agg #[.slice A0_0 l0_0.length c0_0]] rfl (by (try simp only [List.map_toArray, List.map_cons, List.map_nil]); first | done | rfl | (simp only [List.length_drop, List.length_take]; rfl)) ?_; (with_reducible refine (impl_Poset_n.calls _ _ l0_0 t710 _ ?side1 ?side2 A3.out).mono ?_); (case side1 => repeat (first | exact (Kd.C_below HR0_0.out HB.out) | (with_reducible refine Kd.C_alloc ?_ _) | (with_reducible refine Kd.C_drewN ?_ _) | (with_reducible refine Kd.C_drew ?_))); (case side2 => exact HC0_0.out); rintro e w10 ⟨rfl, hb⟩; refine ⟨_, rfl, ?_⟩; have n0_ := Aside0.mk (blk_below (g := gb707) (o := .cells #[.slice A0_0 l0_0.length c0_0] 28 (0, 0)) (by (with_reducible repeat (first | refine blk_drewN ?_ _ | refine blk_drew ?_ | refine blk_alloc ?_ _)); exact BK707.out) hb); have n1_ := Aside0.mk (blk_below (g := gb708) (o := .cells #[.int .i64 a1_0, .int .i64 a1_1, .int .i64 a1_2, .int .i64 a1_3, .int .i64 a1_4, .int .i64 a1_5, .int .i64 a1_6, .int .i64 a1_7, .int .i64 a1_8, .int .i64 a1_9] 58 (0, 0)) (by (with_reducible repeat (first | refine blk_drewN ?_ _ | refine blk_drew ?_ | refine blk_alloc ?_ _)); exact BK708.out) hb); have n2_ := Aside0.mk (blk_below (g := gb709) (o := .cells #[.int .i64 0, .int .i64 0, .int .i64 0, .int .i64 0, .int .i64 0, .int .i64 0, .int .i64 0, .int .i64 0, .int .i64 0, .int .i64 0] 58 (0, 0)) (by (with_reducible repeat (first | refine blk_drewN ?_ _ | refine blk_drew ?_ | refine blk_alloc ?_ _)); exact BK709.out) hb); have n3_ := Aside0.mk (below_step (by repeat (first | (with_reducible first | exact HB.out | apply below_alloc | apply pw_below_drewN | apply below_drew1 | refine below_set ?_ GE707.out | refine below_set ?_ GE708.out | refine below_set ?_ GE709.out) | exact HB.out)) hb); clear BK707; clear BK708; clear BK709; clear HB; have BK707 := n0_; have BK708 := n1_; have BK709 := n2_; have HB := n3_; clear n0_ n1_ n2_ n3_; (try clear hb); (try clear hb2); (try clear hk); (try clear hi)))
  go_loopg [9] k (fun kq v9 w' => ∃ (x9_1 : Int) (x709000_1 : Int) (x709001_1 : Int) (x709002_1 : Int) (x709003_1 : Int) (x709004_1 : Int) (x709005_1 : Int) (x709006_1 : Int) (x709007_1 : Int) (x709008_1 : Int) (x709009_1 : Int), v9 = .int .i64 x9_1 ∧ Aside0 (impl_Poset_promoted.l0 kq (wrap64 (t710 - 1)) x9_1 l0_0 x709000_1 x709001_1 x709002_1 x709003_1 x709004_1 x709005_1 x709006_1 x709007_1 x709008_1 x709009_1 = some (r1, r2, r3, r4, r5, r6, r7, r8, r9, r10)) ∧ Aside0 (kq ≤ k) ∧ Aside0 (w'.heap[gb707]? = some (.cells #[(.slice A0_0 l0_0.length c0_0)] 28 (0, 0))) ∧ Aside0 (w'.heap[gb708]? = some (.cells #[.int .i64 x709000_1, .int .i64 x709001_1, .int .i64 x709002_1, .int .i64 x709003_1, .int .i64 x709004_1, .int .i64 x709005_1, .int .i64 x709006_1, .int .i64 x709007_1, .int .i64 x709008_1, .int .i64 x709009_1] 58 (0, 0))) ∧ Aside0 (w'.heap[gb709]? = some (.cells #[.int .i64 0, .int .i64 0, .int .i64 0, .int .i64 0, .int .i64 0, .int .i64 0, .int .i64 0, .int .i64 0, .int .i64 0, .int .i64 0] 58 (0, 0))) ∧ Aside0 (Below w.heap.size w w'))
  case atStart => exact ⟨(0), (a1_0), (a1_1), (a1_2), (a1_3), (a1_4), (a1_5), (a1_6), (a1_7), (a1_8), (a1_9), (by first | rfl | (simp; done) | (simp [*]; done)), H', ⟨Nat.le_refl _⟩, ⟨by (with_reducible repeat (first | refine blk_drewN ?_ _ | refine blk_drew ?_ | refine blk_alloc ?_ _)); exact BK707.out⟩, ⟨by (with_reducible repeat (first | refine blk_drewN ?_ _ | refine blk_drew ?_ | refine blk_alloc ?_ _)); exact BK708.out⟩, ⟨by (with_reducible repeat (first | refine blk_drewN ?_ _ | refine blk_drew ?_ | refine blk_alloc ?_ _)); exact BK709.out⟩, ⟨by repeat (first | (with_reducible first | exact HB.out | apply below_alloc | apply pw_below_drewN | apply below_drew1 | refine below_set ?_ GE707.out | refine below_set ?_ GE708.out | refine below_set ?_ GE709.out) | exact HB.out)⟩⟩
  case round =>
    clear H'
    try clear p2
    try clear c5
    try clear p6
    try clear c7
    try clear c8
    try clear hcz9_0
    try clear hfz9_0
    obtain ⟨x9_1, x709000_1, x709001_1, x709002_1, x709003_1, x709004_1, x709005_1, x709006_1, x709007_1, x709008_1, x709009_1, rfl, HA, HK1, BK707, BK708, BK709, HB⟩ := hrel
    cases gk with
    | zero => exact absurd HA.out (by simp [impl_Poset_promoted.l0])
    | succ k1 =>
      have H := HA.out
      clear HA
      simp only [impl_Poset_promoted.l0] at H
      by_cases c11 : x9_1 < (wrap64 (t710 - 1))
      · rw [if_pos c11] at H
        have c11b0 : decide (x9_1 < (wrap64 (t710 - 1))) = true := decide_eq_true c11
        clear c11
        replace H := Option.bind_eq_some_iff.mp H
        obtain ⟨⟨t711, t712, t713, t714, t715, t716, t717, t718, t719, t720⟩, A120, H⟩ := H
        replace H : (impl_Poset_promoted.l0 k1 (wrap64 (t710 - 1)) (wrap64 (x9_1 + 1)) l0_0 t711 t712 t713 t714 t715 t716 t717 t718 t719 t720) = some (r1, r2, r3, r4, r5, r6, r7, r8, r9, r10) := H
        have A12 := Aside0.mk A120
        clear A120
        have H' := Aside0.mk H
        clear H
        have hnb13 := NB707_708.out
        have hnc13 := NB708_707.out
        have hnb14 := NB707_709.out
        have hnc14 := NB709_707.out
        have hcz15_0 : wr.cell? ⟨gb707, 0, none⟩ = some (.slice A0_0 l0_0.length c0_0) := (blk_cell BK707.out 0).trans rfl
        have hfz15_0 := blk_frozen BK707.out 0
        have hnb16 := NB708_709.out
        have hnc16 := NB709_708.out
        have hcz17_0 : wr.cell? ⟨gb708, 0, none⟩ = some (.int .i64 x709000_1) := (blk_cell BK708.out 0).trans rfl
        have hcz17_1 : wr.cell? ⟨gb708, 1, none⟩ = some (.int .i64 x709001_1) := (blk_cell BK708.out 1).trans rfl
        have hcz17_2 : wr.cell? ⟨gb708, 2, none⟩ = some (.int .i64 x709002_1) := (blk_cell BK708.out 2).trans rfl
        have hcz17_3 : wr.cell? ⟨gb708, 3, none⟩ = some (.int .i64 x709003_1) := (blk_cell BK708.out 3).trans rfl
        have hcz17_4 : wr.cell? ⟨gb708, 4, none⟩ = some (.int .i64 x709004_1) := (blk_cell BK708.out 4).trans rfl
        have hcz17_5 : wr.cell? ⟨gb708, 5, none⟩ = some (.int .i64 x709005_1) := (blk_cell BK708.out 5).trans rfl
        have hcz17_6 : wr.cell? ⟨gb708, 6, none⟩ = some (.int .i64 x709006_1) := (blk_cell BK708.out 6).trans rfl
        have hcz17_7 : wr.cell? ⟨gb708, 7, none⟩ = some (.int .i64 x709007_1) := (blk_cell BK708.out 7).trans rfl
        have hcz17_8 : wr.cell? ⟨gb708, 8, none⟩ = some (.int .i64 x709008_1) := (blk_cell BK708.out 8).trans rfl
        have hcz17_9 : wr.cell? ⟨gb708, 9, none⟩ = some (.int .i64 x709009_1) := (blk_cell BK708.out 9).trans rfl
        have hfz17_0 := blk_frozen BK708.out 0
        have hfz17_1 := blk_frozen BK708.out 1
        have hfz17_2 := blk_frozen BK708.out 2
        have hfz17_3 := blk_frozen BK708.out 3
        have hfz17_4 := blk_frozen BK708.out 4
        have hfz17_5 := blk_frozen BK708.out 5
        have hfz17_6 := blk_frozen BK708.out 6
        have hfz17_7 := blk_frozen BK708.out 7
        have hfz17_8 := blk_frozen BK708.out 8
        have hfz17_9 := blk_frozen BK708.out 9
        go_wp2_with (first | ((with_reducible refine gate_callee (f := 59) rfl ?_); refine goesL_ (some 15) rfl rfl Try.func59 (by kernel_rfl) rfl #[.agg #[.slice A0_0 l0_0.length c0_0], .agg #[.int .i64 x709000_1, .int .i64 x709001_1, .int .i64 x709002_1, .int .i64 x709003_1, .int .i64 x709004_1, .int .i64 x709005_1, .int .i64 x709006_1, .int .i64 x709007_1, .int .i64 x709008_1, .int .i64 x709009_1], .int .i64 x9_1] rfl (by (try simp only [List.map_toArray, List.map_cons, List.map_nil]); first | done | rfl | (simp only [List.length_drop, List.length_take]; rfl)) ?_; (with_reducible refine (impl_Poset_exchange.calls _ _ l0_0 x709000_1 x709001_1 x709002_1 x709003_1 x709004_1 x709005_1 x709006_1 x709007_1 x709008_1 x709009_1 x9_1 t711 t712 t713 t714 t715 t716 t717 t718 t719 t720 _ ?side1 ?side2 A12.out).mono ?_); (case side1 => repeat (first | exact (Kd.C_below HR0_0.out HB.out) | (with_reducible refine Kd.C_alloc ?_ _) | (with_reducible refine Kd.C_drewN ?_ _) | (with_reducible refine Kd.C_drew ?_))); (case side2 => exact HC0_0.out); rintro e w18 ⟨rfl, hb⟩; refine ⟨_, rfl, ?_⟩; have n0_ := Aside0.mk (blk_below (g := gb707) (o := .cells #[.slice A0_0 l0_0.length c0_0] 28 (0, 0)) (by (with_reducible repeat (first | refine blk_drewN ?_ _ | refine blk_drew ?_ | refine blk_alloc ?_ _)); exact BK707.out) hb); have n1_ := Aside0.mk (blk_below (g := gb708) (o := .cells #[.int .i64 x709000_1, .int .i64 x709001_1, .int .i64 x709002_1, .int .i64 x709003_1, .int .i64 x709004_1, .int .i64 x709005_1, .int .i64 x709006_1, .int .i64 x709007_1, .int .i64 x709008_1, .int .i64 x709009_1] 58 (0, 0)) (by (with_reducible repeat (first | refine blk_drewN ?_ _ | refine blk_drew ?_ | refine blk_alloc ?_ _)); exact BK708.out) hb); have n2_ := Aside0.mk (blk_below (g := gb709) (o := .cells #[.int .i64 0, .int .i64 0, .int .i64 0, .int .i64 0, .int .i64 0, .int .i64 0, .int .i64 0, .int .i64 0, .int .i64 0, .int .i64 0] 58 (0, 0)) (by (with_reducible repeat (first | refine blk_drewN ?_ _ | refine blk_drew ?_ | refine blk_alloc ?_ _)); exact BK709.out) hb); have n3_ := Aside0.mk (below_step (by repeat (first | (with_reducible first | exact HB.out | apply below_alloc | apply pw_below_drewN | apply below_drew1 | refine below_set ?_ GE707.out | refine below_set ?_ GE708.out | refine below_set ?_ GE709.out) | exact HB.out)) hb); clear BK707; clear BK708; clear BK709; clear HB; have BK707 := n0_; have BK708 := n1_; have BK709 := n2_; have HB := n3_; clear n0_ n1_ n2_ n3_; (try clear hb); (try clear hb2); (try clear hk); (try clear hi); have hcz19_0 : w18.cell? ⟨gb708, 0, none⟩ = some (.int .i64 x709000_1) := (blk_cell BK708.out 0).trans rfl; have hcz19_1 : w18.cell? ⟨gb708, 1, none⟩ = some (.int .i64 x709001_1) := (blk_cell BK708.out 1).trans rfl; have hcz19_2 : w18.cell? ⟨gb708, 2, none⟩ = some (.int .i64 x709002_1) := (blk_cell BK708.out 2).trans rfl; have hcz19_3 : w18.cell? ⟨gb708, 3, none⟩ = some (.int .i64 x709003_1) := (blk_cell BK708.out 3).trans rfl; have hcz19_4 : w18.cell? ⟨gb708, 4, none⟩ = some (.int .i64 x709004_1) := (blk_cell BK708.out 4).trans rfl; have hcz19_5 : w18.cell? ⟨gb708, 5, none⟩ = some (.int .i64 x709005_1) := (blk_cell BK708.out 5).trans rfl; have hcz19_6 : w18.cell? ⟨gb708, 6, none⟩ = some (.int .i64 x709006_1) := (blk_cell BK708.out 6).trans rfl; have hcz19_7 : w18.cell? ⟨gb708, 7, none⟩ = some (.int .i64 x709007_1) := (blk_cell BK708.out 7).trans rfl; have hcz19_8 : w18.cell? ⟨gb708, 8, none⟩ = some (.int .i64 x709008_1) := (blk_cell BK708.out 8).trans rfl; have hcz19_9 : w18.cell? ⟨gb708, 9, none⟩ = some (.int .i64 x709009_1) := (blk_cell BK708.out 9).trans rfl; have hfz19_0 := blk_frozen BK708.out 0; have hfz19_1 := blk_frozen BK708.out 1; have hfz19_2 := blk_frozen BK708.out 2; have hfz19_3 := blk_frozen BK708.out 3; have hfz19_4 := blk_frozen BK708.out 4; have hfz19_5 := blk_frozen BK708.out 5; have hfz19_6 := blk_frozen BK708.out 6; have hfz19_7 := blk_frozen BK708.out 7; have hfz19_8 := blk_frozen BK708.out 8; have hfz19_9 := blk_frozen BK708.out 9))
        go_roundg k1
        case measure => have := HK1.out; omega
        case rel => exact ⟨(wrap64 (x9_1 + 1)), (t711), (t712), (t713), (t714), (t715), (t716), (t717), (t718), (t719), (t720), (by first | rfl | (simp; done) | (simp [*]; done)), H', ⟨by have := HK1.out; omega⟩, ⟨by (with_reducible repeat (first | refine blk_drewN ?_ _ | refine blk_drew ?_ | refine blk_alloc ?_ _)); refine blk_far ?_ NB707_708.out _; (with_reducible repeat (first | refine blk_drewN ?_ _ | refine blk_drew ?_ | refine blk_alloc ?_ _)); refine blk_far ?_ NB707_708.out _; (with_reducible repeat (first | refine blk_drewN ?_ _ | refine blk_drew ?_ | refine blk_alloc ?_ _)); refine blk_far ?_ NB707_708.out _; (with_reducible repeat (first | refine blk_drewN ?_ _ | refine blk_drew ?_ | refine blk_alloc ?_ _)); refine blk_far ?_ NB707_708.out _; (with_reducible repeat (first | refine blk_drewN ?_ _ | refine blk_drew ?_ | refine blk_alloc ?_ _)); refine blk_far ?_ NB707_708.out _; (with_reducible repeat (first | refine blk_drewN ?_ _ | refine blk_drew ?_ | refine blk_alloc ?_ _)); refine blk_far ?_ NB707_708.out _; (with_reducible repeat (first | refine blk_drewN ?_ _ | refine blk_drew ?_ | refine blk_alloc ?_ _)); refine blk_far ?_ NB707_708.out _; (with_reducible repeat (first | refine blk_drewN ?_ _ | refine blk_drew ?_ | refine blk_alloc ?_ _)); refine blk_far ?_ NB707_708.out _; (with_reducible repeat (first | refine blk_drewN ?_ _ | refine blk_drew ?_ | refine blk_alloc ?_ _)); refine blk_far ?_ NB707_708.out _; (with_reducible repeat (first | refine blk_drewN ?_ _ | refine blk_drew ?_ | refine blk_alloc ?_ _)); refine blk_far ?_ NB707_708.out _; (with_reducible repeat (first | refine blk_drewN ?_ _ | refine blk_drew ?_ | refine blk_alloc ?_ _)); exact BK707.out⟩, ⟨by (with_reducible repeat (first | refine blk_drewN ?_ _ | refine blk_drew ?_ | refine blk_alloc ?_ _)); refine blk_put (cs := #[.int .i64 t711, .int .i64 t712, .int .i64 t713, .int .i64 t714, .int .i64 t715, .int .i64 t716, .int .i64 t717, .int .i64 t718, .int .i64 t719, .int .i64 x709009_1]) ?_ 9 _ rfl; (with_reducible repeat (first | refine blk_drewN ?_ _ | refine blk_drew ?_ | refine blk_alloc ?_ _)); refine blk_put (cs := #[.int .i64 t711, .int .i64 t712, .int .i64 t713, .int .i64 t714, .int .i64 t715, .int .i64 t716, .int .i64 t717, .int .i64 t718, .int .i64 x709008_1, .int .i64 x709009_1]) ?_ 8 _ rfl; (with_reducible repeat (first | refine blk_drewN ?_ _ | refine blk_drew ?_ | refine blk_alloc ?_ _)); refine blk_put (cs := #[.int .i64 t711, .int .i64 t712, .int .i64 t713, .int .i64 t714, .int .i64 t715, .int .i64 t716, .int .i64 t717, .int .i64 x709007_1, .int .i64 x709008_1, .int .i64 x709009_1]) ?_ 7 _ rfl; (with_reducible repeat (first | refine blk_drewN ?_ _ | refine blk_drew ?_ | refine blk_alloc ?_ _)); refine blk_put (cs := #[.int .i64 t711, .int .i64 t712, .int .i64 t713, .int .i64 t714, .int .i64 t715, .int .i64 t716, .int .i64 x709006_1, .int .i64 x709007_1, .int .i64 x709008_1, .int .i64 x709009_1]) ?_ 6 _ rfl; (with_reducible repeat (first | refine blk_drewN ?_ _ | refine blk_drew ?_ | refine blk_alloc ?_ _)); refine blk_put (cs := #[.int .i64 t711, .int .i64 t712, .int .i64 t713, .int .i64 t714, .int .i64 t715, .int .i64 x709005_1, .int .i64 x709006_1, .int .i64 x709007_1, .int .i64 x709008_1, .int .i64 x709009_1]) ?_ 5 _ rfl; (with_reducible repeat (first | refine blk_drewN ?_ _ | refine blk_drew ?_ | refine blk_alloc ?_ _)); refine blk_put (cs := #[.int .i64 t711, .int .i64 t712, .int .i64 t713, .int .i64 t714, .int .i64 x709004_1, .int .i64 x709005_1, .int .i64 x709006_1, .int .i64 x709007_1, .int .i64 x709008_1, .int .i64 x709009_1]) ?_ 4 _ rfl; (with_reducible repeat (first | refine blk_drewN ?_ _ | refine blk_drew ?_ | refine blk_alloc ?_ _)); refine blk_put (cs := #[.int .i64 t711, .int .i64 t712, .int .i64 t713, .int .i64 x709003_1, .int .i64 x709004_1, .int .i64 x709005_1, .int .i64 x709006_1, .int .i64 x709007_1, .int .i64 x709008_1, .int .i64 x709009_1]) ?_ 3 _ rfl; (with_reducible repeat (first | refine blk_drewN ?_ _ | refine blk_drew ?_ | refine blk_alloc ?_ _)); refine blk_put (cs := #[.int .i64 t711, .int .i64 t712, .int .i64 x709002_1, .int .i64 x709003_1, .int .i64 x709004_1, .int .i64 x709005_1, .int .i64 x709006_1, .int .i64 x709007_1, .int .i64 x709008_1, .int .i64 x709009_1]) ?_ 2 _ rfl; (with_reducible repeat (first | refine blk_drewN ?_ _ | refine blk_drew ?_ | refine blk_alloc ?_ _)); refine blk_put (cs := #[.int .i64 t711, .int .i64 x709001_1, .int .i64 x709002_1, .int .i64 x709003_1, .int .i64 x709004_1, .int .i64 x709005_1, .int .i64 x709006_1, .int .i64 x709007_1, .int .i64 x709008_1, .int .i64 x709009_1]) ?_ 1 _ rfl; (with_reducible repeat (first | refine blk_drewN ?_ _ | refine blk_drew ?_ | refine blk_alloc ?_ _)); refine blk_put (cs := #[.int .i64 x709000_1, .int .i64 x709001_1, .int .i64 x709002_1, .int .i64 x709003_1, .int .i64 x709004_1, .int .i64 x709005_1, .int .i64 x709006_1, .int .i64 x709007_1, .int .i64 x709008_1, .int .i64 x709009_1]) ?_ 0 _ rfl; (with_reducible repeat (first | refine blk_drewN ?_ _ | refine blk_drew ?_ | refine blk_alloc ?_ _)); exact BK708.out⟩, ⟨by (with_reducible repeat (first | refine blk_drewN ?_ _ | refine blk_drew ?_ | refine blk_alloc ?_ _)); refine blk_far ?_ NB709_708.out _; (with_reducible repeat (first | refine blk_drewN ?_ _ | refine blk_drew ?_ | refine blk_alloc ?_ _)); refine blk_far ?_ NB709_708.out _; (with_reducible repeat (first | refine blk_drewN ?_ _ | refine blk_drew ?_ | refine blk_alloc ?_ _)); refine blk_far ?_ NB709_708.out _; (with_reducible repeat (first | refine blk_drewN ?_ _ | refine blk_drew ?_ | refine blk_alloc ?_ _)); refine blk_far ?_ NB709_708.out _; (with_reducible repeat (first | refine blk_drewN ?_ _ | refine blk_drew ?_ | refine blk_alloc ?_ _)); refine blk_far ?_ NB709_708.out _; (with_reducible repeat (first | refine blk_drewN ?_ _ | refine blk_drew ?_ | refine blk_alloc ?_ _)); refine blk_far ?_ NB709_708.out _; (with_reducible repeat (first | refine blk_drewN ?_ _ | refine blk_drew ?_ | refine blk_alloc ?_ _)); refine blk_far ?_ NB709_708.out _; (with_reducible repeat (first | refine blk_drewN ?_ _ | refine blk_drew ?_ | refine blk_alloc ?_ _)); refine blk_far ?_ NB709_708.out _; (with_reducible repeat (first | refine blk_drewN ?_ _ | refine blk_drew ?_ | refine blk_alloc ?_ _)); refine blk_far ?_ NB709_708.out _; (with_reducible repeat (first | refine blk_drewN ?_ _ | refine blk_drew ?_ | refine blk_alloc ?_ _)); refine blk_far ?_ NB709_708.out _; (with_reducible repeat (first | refine blk_drewN ?_ _ | refine blk_drew ?_ | refine blk_alloc ?_ _)); exact BK709.out⟩, ⟨by repeat (first | (with_reducible first | exact HB.out | apply below_alloc | apply pw_below_drewN | apply below_drew1 | refine below_set ?_ GE707.out | refine below_set ?_ GE708.out | refine below_set ?_ GE709.out) | exact HB.out)⟩⟩
      · rw [if_neg c11] at H
        have c11b0 : decide (x9_1 < (wrap64 (t710 - 1))) = false := decide_eq_false c11
        clear c11
        simp only [Option.some.injEq, Prod.mk.injEq] at H
        obtain ⟨rfl, rfl, rfl, rfl, rfl, rfl, rfl, rfl, rfl, rfl⟩ := H
        have hnb20 := NB708_707.out
        have hnc20 := NB707_708.out
        have hnb21 := NB708_709.out
        have hnc21 := NB709_708.out
        have hcz22_0 : wr.cell? ⟨gb708, 0, none⟩ = some (.int .i64 x709000_1) := (blk_cell BK708.out 0).trans rfl
        have hcz22_1 : wr.cell? ⟨gb708, 1, none⟩ = some (.int .i64 x709001_1) := (blk_cell BK708.out 1).trans rfl
        have hcz22_2 : wr.cell? ⟨gb708, 2, none⟩ = some (.int .i64 x709002_1) := (blk_cell BK708.out 2).trans rfl
        have hcz22_3 : wr.cell? ⟨gb708, 3, none⟩ = some (.int .i64 x709003_1) := (blk_cell BK708.out 3).trans rfl
        have hcz22_4 : wr.cell? ⟨gb708, 4, none⟩ = some (.int .i64 x709004_1) := (blk_cell BK708.out 4).trans rfl
        have hcz22_5 : wr.cell? ⟨gb708, 5, none⟩ = some (.int .i64 x709005_1) := (blk_cell BK708.out 5).trans rfl
        have hcz22_6 : wr.cell? ⟨gb708, 6, none⟩ = some (.int .i64 x709006_1) := (blk_cell BK708.out 6).trans rfl
        have hcz22_7 : wr.cell? ⟨gb708, 7, none⟩ = some (.int .i64 x709007_1) := (blk_cell BK708.out 7).trans rfl
        have hcz22_8 : wr.cell? ⟨gb708, 8, none⟩ = some (.int .i64 x709008_1) := (blk_cell BK708.out 8).trans rfl
        have hcz22_9 : wr.cell? ⟨gb708, 9, none⟩ = some (.int .i64 x709009_1) := (blk_cell BK708.out 9).trans rfl
        have hfz22_0 := blk_frozen BK708.out 0
        have hfz22_1 := blk_frozen BK708.out 1
        have hfz22_2 := blk_frozen BK708.out 2
        have hfz22_3 := blk_frozen BK708.out 3
        have hfz22_4 := blk_frozen BK708.out 4
        have hfz22_5 := blk_frozen BK708.out 5
        have hfz22_6 := blk_frozen BK708.out 6
        have hfz22_7 := blk_frozen BK708.out 7
        have hfz22_8 := blk_frozen BK708.out 8
        have hfz22_9 := blk_frozen BK708.out 9
        have hnb23 := NB709_707.out
        have hnc23 := NB707_709.out
        have hcz24_0 : wr.cell? ⟨gb709, 0, none⟩ = some (.int .i64 0) := (blk_cell BK709.out 0).trans rfl
        have hcz24_1 : wr.cell? ⟨gb709, 1, none⟩ = some (.int .i64 0) := (blk_cell BK709.out 1).trans rfl
        have hcz24_2 : wr.cell? ⟨gb709, 2, none⟩ = some (.int .i64 0) := (blk_cell BK709.out 2).trans rfl
        have hcz24_3 : wr.cell? ⟨gb709, 3, none⟩ = some (.int .i64 0) := (blk_cell BK709.out 3).trans rfl
        have hcz24_4 : wr.cell? ⟨gb709, 4, none⟩ = some (.int .i64 0) := (blk_cell BK709.out 4).trans rfl
        have hcz24_5 : wr.cell? ⟨gb709, 5, none⟩ = some (.int .i64 0) := (blk_cell BK709.out 5).trans rfl
        have hcz24_6 : wr.cell? ⟨gb709, 6, none⟩ = some (.int .i64 0) := (blk_cell BK709.out 6).trans rfl
        have hcz24_7 : wr.cell? ⟨gb709, 7, none⟩ = some (.int .i64 0) := (blk_cell BK709.out 7).trans rfl
        have hcz24_8 : wr.cell? ⟨gb709, 8, none⟩ = some (.int .i64 0) := (blk_cell BK709.out 8).trans rfl
        have hcz24_9 : wr.cell? ⟨gb709, 9, none⟩ = some (.int .i64 0) := (blk_cell BK709.out 9).trans rfl
        have hfz24_0 := blk_frozen BK709.out 0
        have hfz24_1 := blk_frozen BK709.out 1
        have hfz24_2 := blk_frozen BK709.out 2
        have hfz24_3 := blk_frozen BK709.out 3
        have hfz24_4 := blk_frozen BK709.out 4
        have hfz24_5 := blk_frozen BK709.out 5
        have hfz24_6 := blk_frozen BK709.out 6
        have hfz24_7 := blk_frozen BK709.out 7
        have hfz24_8 := blk_frozen BK709.out 8
        have hfz24_9 := blk_frozen BK709.out 9
        go_wp2
        refine bodyPost_ret (results_cell_row rfl _ _ gb709 58 #[.int .i64 x709000_1, .int .i64 x709001_1, .int .i64 x709002_1, .int .i64 x709003_1, .int .i64 x709004_1, .int .i64 x709005_1, .int .i64 x709006_1, .int .i64 x709007_1, .int .i64 x709008_1, .int .i64 x709009_1] (0, 0) _ rfl (by (with_reducible repeat (first | refine blk_drewN ?_ _ | refine blk_drew ?_ | refine blk_alloc ?_ _)); refine blk_put (cs := #[.int .i64 x709000_1, .int .i64 x709001_1, .int .i64 x709002_1, .int .i64 x709003_1, .int .i64 x709004_1, .int .i64 x709005_1, .int .i64 x709006_1, .int .i64 x709007_1, .int .i64 x709008_1, .int .i64 0]) ?_ 9 _ rfl; (with_reducible repeat (first | refine blk_drewN ?_ _ | refine blk_drew ?_ | refine blk_alloc ?_ _)); refine blk_put (cs := #[.int .i64 x709000_1, .int .i64 x709001_1, .int .i64 x709002_1, .int .i64 x709003_1, .int .i64 x709004_1, .int .i64 x709005_1, .int .i64 x709006_1, .int .i64 x709007_1, .int .i64 0, .int .i64 0]) ?_ 8 _ rfl; (with_reducible repeat (first | refine blk_drewN ?_ _ | refine blk_drew ?_ | refine blk_alloc ?_ _)); refine blk_put (cs := #[.int .i64 x709000_1, .int .i64 x709001_1, .int .i64 x709002_1, .int .i64 x709003_1, .int .i64 x709004_1, .int .i64 x709005_1, .int .i64 x709006_1, .int .i64 0, .int .i64 0, .int .i64 0]) ?_ 7 _ rfl; (with_reducible repeat (first | refine blk_drewN ?_ _ | refine blk_drew ?_ | refine blk_alloc ?_ _)); refine blk_put (cs := #[.int .i64 x709000_1, .int .i64 x709001_1, .int .i64 x709002_1, .int .i64 x709003_1, .int .i64 x709004_1, .int .i64 x709005_1, .int .i64 0, .int .i64 0, .int .i64 0, .int .i64 0]) ?_ 6 _ rfl; (with_reducible repeat (first | refine blk_drewN ?_ _ | refine blk_drew ?_ | refine blk_alloc ?_ _)); refine blk_put (cs := #[.int .i64 x709000_1, .int .i64 x709001_1, .int .i64 x709002_1, .int .i64 x709003_1, .int .i64 x709004_1, .int .i64 0, .int .i64 0, .int .i64 0, .int .i64 0, .int .i64 0]) ?_ 5 _ rfl; (with_reducible repeat (first | refine blk_drewN ?_ _ | refine blk_drew ?_ | refine blk_alloc ?_ _)); refine blk_put (cs := #[.int .i64 x709000_1, .int .i64 x709001_1, .int .i64 x709002_1, .int .i64 x709003_1, .int .i64 0, .int .i64 0, .int .i64 0, .int .i64 0, .int .i64 0, .int .i64 0]) ?_ 4 _ rfl; (with_reducible repeat (first | refine blk_drewN ?_ _ | refine blk_drew ?_ | refine blk_alloc ?_ _)); refine blk_put (cs := #[.int .i64 x709000_1, .int .i64 x709001_1, .int .i64 x709002_1, .int .i64 0, .int .i64 0, .int .i64 0, .int .i64 0, .int .i64 0, .int .i64 0, .int .i64 0]) ?_ 3 _ rfl; (with_reducible repeat (first | refine blk_drewN ?_ _ | refine blk_drew ?_ | refine blk_alloc ?_ _)); refine blk_put (cs := #[.int .i64 x709000_1, .int .i64 x709001_1, .int .i64 0, .int .i64 0, .int .i64 0, .int .i64 0, .int .i64 0, .int .i64 0, .int .i64 0, .int .i64 0]) ?_ 2 _ rfl; (with_reducible repeat (first | refine blk_drewN ?_ _ | refine blk_drew ?_ | refine blk_alloc ?_ _)); refine blk_put (cs := #[.int .i64 x709000_1, .int .i64 0, .int .i64 0, .int .i64 0, .int .i64 0, .int .i64 0, .int .i64 0, .int .i64 0, .int .i64 0, .int .i64 0]) ?_ 1 _ rfl; (with_reducible repeat (first | refine blk_drewN ?_ _ | refine blk_drew ?_ | refine blk_alloc ?_ _)); refine blk_put (cs := #[.int .i64 0, .int .i64 0, .int .i64 0, .int .i64 0, .int .i64 0, .int .i64 0, .int .i64 0, .int .i64 0, .int .i64 0, .int .i64 0]) ?_ 0 _ rfl; (with_reducible repeat (first | refine blk_drewN ?_ _ | refine blk_drew ?_ | refine blk_alloc ?_ _)); exact BK709.out) Try.underlying58 rfl (by kernel_rfl)) rfl ?_
        exact ⟨by first | rfl | (simp [errW_none, errW_some] <;> rfl) | (simp [*, errW_none, errW_some] <;> rfl), by repeat (first | (with_reducible first | exact HB.out | apply below_alloc | apply pw_below_drewN | apply below_drew1 | refine below_set ?_ GE707.out | refine below_set ?_ GE708.out | refine below_set ?_ GE709.out) | exact HB.out)⟩

end Go.Proofs.Ytjahclncpgllmaa.F
end

section
namespace Go.Proofs.Ytjahclncpgllmaa.F
open Go.RowKit Go.Proofs.YtjahclncpgllmaaW.PrintWords Go.Proofs.YtjahclncpgllmaaW.PrintLast Go.Proofs.YtjahclncpgllmaaW.PrintMore
attribute [local go_sem] max2_int min2_int max_two min_two max_three min_three max_four min_four
set_option linter.unusedVariables false
set_option linter.unusedSimpArgs false

/-! ### impl_Poset_unpromoted: function 86 -/
def impl_Poset_unpromoted.l0 : Nat → Int → List Int → Int → Int → Int → Int → Int → Int → Int → Int → Int → Int → Option (Int × Int × Int × Int × Int × Int × Int × Int × Int × Int)
  | 0, _, _, _, _, _, _, _, _, _, _, _, _ => none
  | k + 1, x5, x722000, x723000, x723001, x723002, x723003, x723004, x723005, x723006, x723007, x723008, x723009 => if x5 ≥ 0 then ((impl_Poset_exchange.f x722000 x723000 x723001 x723002 x723003 x723004 x723005 x723006 x723007 x723008 x723009 x5).bind fun bt725 => (impl_Poset_unpromoted.l0 k (wrap64 (x5 - 1)) x722000 bt725.1 bt725.2.1 bt725.2.2.1 bt725.2.2.2.1 bt725.2.2.2.2.1 bt725.2.2.2.2.2.1 bt725.2.2.2.2.2.2.1 bt725.2.2.2.2.2.2.2.1 bt725.2.2.2.2.2.2.2.2.1 bt725.2.2.2.2.2.2.2.2.2)) else (some (x723000, x723001, x723002, x723003, x723004, x723005, x723006, x723007, x723008, x723009))
def impl_Poset_unpromoted.f (k : Nat) (l0_0 : List Int) (a1_0 : Int) (a1_1 : Int) (a1_2 : Int) (a1_3 : Int) (a1_4 : Int) (a1_5 : Int) (a1_6 : Int) (a1_7 : Int) (a1_8 : Int) (a1_9 : Int) : Option (Int × Int × Int × Int × Int × Int × Int × Int × Int × Int) := (impl_Poset_n.f l0_0).bind fun t724 => (impl_Poset_unpromoted.l0 k (wrap64 (t724 - 2)) l0_0 a1_0 a1_1 a1_2 a1_3 a1_4 a1_5 a1_6 a1_7 a1_8 a1_9)
theorem impl_Poset_unpromoted.mono_l : ∀ k, (∀ y0 y1 y2 y3 y4 y5 y6 y7 y8 y9 y10 y11, LeO (impl_Poset_unpromoted.l0 k y0 y1 y2 y3 y4 y5 y6 y7 y8 y9 y10 y11) (impl_Poset_unpromoted.l0 (k + 1) y0 y1 y2 y3 y4 y5 y6 y7 y8 y9 y10 y11))
  | 0 => fun _ _ _ _ _ _ _ _ _ _ _ _ r h => by simp [impl_Poset_unpromoted.l0] at h
  | k + 1 => by
    have ih0 := impl_Poset_unpromoted.mono_l k
    · intro y0 y1 y2 y3 y4 y5 y6 y7 y8 y9 y10 y11
      unfold impl_Poset_unpromoted.l0
      repeat' first
      | (with_reducible exact ih0 _ _ _ _ _ _ _ _ _ _ _ _)
      | (with_reducible exact LeO.refl _)
      | (with_reducible exact LeO.none _)
      | (with_reducible refine LeO.ite ?_ ?_)
      | (with_reducible refine LeO.bind ?_ (fun _ => ?_))
      | exact ih0 _ _ _ _ _ _ _ _ _ _ _ _
      | exact LeO.none _
      | refine LeO.ite ?_ ?_
      | refine LeO.bind ?_ (fun _ => ?_)
theorem impl_Poset_unpromoted.mono : ∀ a0 a1 a2 a3 a4 a5 a6 a7 a8 a9 a10 k, LeO (impl_Poset_unpromoted.f k a0 a1 a2 a3 a4 a5 a6 a7 a8 a9 a10) (impl_Poset_unpromoted.f (k + 1) a0 a1 a2 a3 a4 a5 a6 a7 a8 a9 a10) := by
  intro a0 a1 a2 a3 a4 a5 a6 a7 a8 a9 a10 k
  have ih0 := impl_Poset_unpromoted.mono_l k
  unfold impl_Poset_unpromoted.f
  repeat' first
      | (with_reducible exact ih0 _ _ _ _ _ _ _ _ _ _ _ _)
      | (with_reducible exact LeO.refl _)
      | (with_reducible exact LeO.none _)
      | (with_reducible refine LeO.ite ?_ ?_)
      | (with_reducible refine LeO.bind ?_ (fun _ => ?_))
      | exact ih0 _ _ _ _ _ _ _ _ _ _ _ _
      | exact LeO.none _
      | refine LeO.ite ?_ ?_
      | refine LeO.bind ?_ (fun _ => ?_)
set_option maxHeartbeats 8000000 in
set_option maxRecDepth 100000 in
theorem impl_Poset_unpromoted.calls (k : Nat) (A0_0 : Option Addr) (c0_0 : Nat) (l0_0 : List Int) (a1_0 : Int) (a1_1 : Int) (a1_2 : Int) (a1_3 : Int) (a1_4 : Int) (a1_5 : Int) (a1_6 : Int) (a1_7 : Int) (a1_8 : Int) (a1_9 : Int) (r1 : Int) (r2 : Int) (r3 : Int) (r4 : Int) (r5 : Int) (r6 : Int) (r7 : Int) (r8 : Int) (r9 : Int) (r10 : Int) (w : World) (hr0_0 : Kd.C (Kd.int .i64) w A0_0 l0_0.length l0_0) (hc0_0 : l0_0.length ≤ c0_0) (h : impl_Poset_unpromoted.f k l0_0 a1_0 a1_1 a1_2 a1_3 a1_4 a1_5 a1_6 a1_7 a1_8 a1_9 = some (r1, r2, r3, r4, r5, r6, r7, r8, r9, r10)) :
    Calls Try.prog 86 #[.agg #[.slice A0_0 l0_0.length c0_0], .agg #[.int .i64 a1_0, .int .i64 a1_1, .int .i64 a1_2, .int .i64 a1_3, .int .i64 a1_4, .int .i64 a1_5, .int .i64 a1_6, .int .i64 a1_7, .int .i64 a1_8, .int .i64 a1_9]] w fun e w' => e = .returned (.agg #[.int .i64 r1, .int .i64 r2, .int .i64 r3, .int .i64 r4, .int .i64 r5, .int .i64 r6, .int .i64 r7, .int .i64 r8, .int .i64 r9, .int .i64 r10]) ∧ Below w.heap.size w w' := by
  have hu28 := Try.underlying28
  have hu58 := Try.underlying58
  have HR0_0 := Aside0.mk hr0_0
  have HC0_0 := Aside0.mk hc0_0
  clear hr0_0 hc0_0
  have HB := Aside0.mk (Below.refl w.heap.size w)
  have H : ((impl_Poset_n.f l0_0).bind fun t724 => (impl_Poset_unpromoted.l0 k (wrap64 (t724 - 2)) l0_0 a1_0 a1_1 a1_2 a1_3 a1_4 a1_5 a1_6 a1_7 a1_8 a1_9)) = some (r1, r2, r3, r4, r5, r6, r7, r8, r9, r10) := h
  clear h
  replace H := Option.bind_eq_some_iff.mp H
  obtain ⟨t724, A30, H⟩ := H
  replace H : (impl_Poset_unpromoted.l0 k (wrap64 (t724 - 2)) l0_0 a1_0 a1_1 a1_2 a1_3 a1_4 a1_5 a1_6 a1_7 a1_8 a1_9) = some (r1, r2, r3, r4, r5, r6, r7, r8, r9, r10) := H
  have A3 := Aside0.mk A30
  clear A30
  have H' := Aside0.mk H
  clear H
  go_enter Try.func86, Try.ntmps86
  go_wp2_with (first | ((with_reducible refine gate_dst (N := 2) rfl ?_); refine box_event ?hg (N := 2) ?hd (cs := #[.slice A0_0 l0_0.length c0_0]) (t := 28) ?hr ?_; (case hd => rfl); (case hg => rfl); (case hr => first | (go_simp; done) | (go_simp; rfl)); intro gb721 hg w4 hbox hb; have n0_ := Aside0.mk (below_step (by repeat (first | (with_reducible first | exact HB.out | apply below_alloc | apply pw_below_drewN | apply below_drew1) | exact HB.out)) hb); have n1_ := Aside0.mk (hbox); have n2_ := Aside0.mk ((by rw [hg]; exact (below_size (by repeat (first | (with_reducible first | exact HB.out | apply below_alloc | apply pw_below_drewN | apply below_drew1) | exact HB.out))) : w.heap.size ≤ gb721)); have n3_ := Aside0.mk ((by rw [hg]; exact (below_size (by repeat (first | (with_reducible first | exact HB.out | apply below_alloc | apply pw_below_drewN | apply below_drew1) | exact HB.out))) : w.heap.size ≤ gb721)); clear HB; have HB := n0_; have BK721 := n1_; have GW721 := n2_; have GE721 := n3_; clear n0_ n1_ n2_ n3_; clear hb hbox hg) | ((with_reducible refine gate_dst (N := 3) rfl ?_); refine box_event ?hg (N := 3) ?hd (cs := #[.int .i64 a1_0, .int .i64 a1_1, .int .i64 a1_2, .int .i64 a1_3, .int .i64 a1_4, .int .i64 a1_5, .int .i64 a1_6, .int .i64 a1_7, .int .i64 a1_8, .int .i64 a1_9]) (t := 58) ?hr ?_; (case hd => rfl); (case hg => rfl); (case hr => first | (go_simp; done) | (go_simp; rfl)); intro gb722 hg w5 hbox hb; have n0_ := Aside0.mk (blk_below (g := gb721) (o := .cells #[.slice A0_0 l0_0.length c0_0] 28 (0, 0)) (by (with_reducible repeat (first | refine blk_drewN ?_ _ | refine blk_drew ?_ | refine blk_alloc ?_ _)); exact BK721.out) hb); have n1_ := Aside0.mk (below_step (by repeat (first | (with_reducible first | exact HB.out | apply below_alloc | apply pw_below_drewN | apply below_drew1 | refine below_set ?_ GE721.out) | exact HB.out)) hb); have n2_ := Aside0.mk (hbox); have n3_ := Aside0.mk ((by rw [hg]; exact (below_size (by repeat (first | (with_reducible first | exact HB.out | apply below_alloc | apply pw_below_drewN | apply below_drew1 | refine below_set ?_ GE721.out) | exact HB.out))) : w.heap.size ≤ gb722)); have n4_ := Aside0.mk ((by rw [hg]; exact (below_size (by repeat (first | (with_reducible first | exact HB.out | apply below_alloc | apply pw_below_drewN | apply below_drew1 | refine below_set ?_ GE721.out) | exact HB.out))) : w.heap.size ≤ gb722)); have n5_ := Aside0.mk ((by rw [hg]; exact Nat.ne_of_lt (blk_lt (g := gb721) (o := .cells #[.slice A0_0 l0_0.length c0_0] 28 (0, 0)) (by (with_reducible repeat (first | refine blk_drewN ?_ _ | refine blk_drew ?_ | refine blk_alloc ?_ _)); exact BK721.out)) : gb721 ≠ gb722)); have n6_ := Aside0.mk ((by rw [hg]; exact Nat.ne_of_gt (blk_lt (g := gb721) (o := .cells #[.slice A0_0 l0_0.length c0_0] 28 (0, 0)) (by (with_reducible repeat (first | refine blk_drewN ?_ _ | refine blk_drew ?_ | refine blk_alloc ?_ _)); exact BK721.out)) : gb722 ≠ gb721)); clear BK721; clear HB; have BK721 := n0_; have HB := n1_; have BK722 := n2_; have GW722 := n3_; have GE722 := n4_; have NB721_722 := n5_; have NB722_721 := n6_; clear n0_ n1_ n2_ n3_ n4_ n5_ n6_; clear hb hbox hg) | ((with_reducible refine gate_dst (N := 4) rfl ?_); refine box_event ?hg (N := 4) ?hd (cs := #[.int .i64 0, .int .i64 0, .int .i64 0, .int .i64 0, .int .i64 0, .int .i64 0, .int .i64 0, .int .i64 0, .int .i64 0, .int .i64 0]) (t := 58) ?hr ?_; (case hd => rfl); (case hg => rfl); (case hr => first | (go_simp; done) | (go_simp; rfl)); intro gb723 hg w6 hbox hb; have n0_ := Aside0.mk (blk_below (g := gb721) (o := .cells #[.slice A0_0 l0_0.length c0_0] 28 (0, 0)) (by (with_reducible repeat (first | refine blk_drewN ?_ _ | refine blk_drew ?_ | refine blk_alloc ?_ _)); exact BK721.out) hb); have n1_ := Aside0.mk (blk_below (g := gb722) (o := .cells #[.int .i64 a1_0, .int .i64 a1_1, .int .i64 a1_2, .int .i64 a1_3, .int .i64 a1_4, .int .i64 a1_5, .int .i64 a1_6, .int .i64 a1_7, .int .i64 a1_8, .int .i64 a1_9] 58 (0, 0)) (by (with_reducible repeat (first | refine blk_drewN ?_ _ | refine blk_drew ?_ | refine blk_alloc ?_ _)); exact BK722.out) hb); have n2_ := Aside0.mk (below_step (by repeat (first | (with_reducible first | exact HB.out | apply below_alloc | apply pw_below_drewN | apply below_drew1 | refine below_set ?_ GE721.out | refine below_set ?_ GE722.out) | exact HB.out)) hb); have n3_ := Aside0.mk (hbox); have n4_ := Aside0.mk ((by rw [hg]; exact (below_size (by repeat (first | (with_reducible first | exact HB.out | apply below_alloc | apply pw_below_drewN | apply below_drew1 | refine below_set ?_ GE721.out | refine below_set ?_ GE722.out) | exact HB.out))) : w.heap.size ≤ gb723)); have n5_ := Aside0.mk ((by rw [hg]; exact (below_size (by repeat (first | (with_reducible first | exact HB.out | apply below_alloc | apply pw_below_drewN | apply below_drew1 | refine below_set ?_ GE721.out | refine below_set ?_ GE722.out) | exact HB.out))) : w.heap.size ≤ gb723)); have n6_ := Aside0.mk ((by rw [hg]; exact Nat.ne_of_lt (blk_lt (g := gb721) (o := .cells #[.slice A0_0 l0_0.length c0_0] 28 (0, 0)) (by (with_reducible repeat (first | refine blk_drewN ?_ _ | refine blk_drew ?_ | refine blk_alloc ?_ _)); exact BK721.out)) : gb721 ≠ gb723)); have n7_ := Aside0.mk ((by rw [hg]; exact Nat.ne_of_gt (blk_lt (g := gb721) (o := .cells #[.slice A0_0 l0_0.length c0_0] 28 (0, 0)) (by (with_reducible repeat (first | refine blk_drewN ?_ _ | refine blk_drew ?_ | refine blk_alloc ?_ _)); exact BK721.out)) : gb723 ≠ gb721)); have n8_ := Aside0.mk ((by rw [hg]; exact Nat.ne_of_lt (blk_lt (g := gb722) (o := .cells #[.int .i64 a1_0, .int .i64 a1_1, .int .i64 a1_2, .int .i64 a1_3, .int .i64 a1_4, .int .i64 a1_5, .int .i64 a1_6, .int .i64 a1_7, .int .i64 a1_8, .int .i64 a1_9] 58 (0, 0)) (by (with_reducible repeat (first | refine blk_drewN ?_ _ | refine blk_drew ?_ | refine blk_alloc ?_ _)); exact BK722.out)) : gb722 ≠ gb723)); have n9_ := Aside0.mk ((by rw [hg]; exact Nat.ne_of_gt (blk_lt (g := gb722) (o := .cells #[.int .i64 a1_0, .int .i64 a1_1, .int .i64 a1_2, .int .i64 a1_3, .int .i64 a1_4, .int .i64 a1_5, .int .i64 a1_6, .int .i64 a1_7, .int .i64 a1_8, .int .i64 a1_9] 58 (0, 0)) (by (with_reducible repeat (first | refine blk_drewN ?_ _ | refine blk_drew ?_ | refine blk_alloc ?_ _)); exact BK722.out)) : gb723 ≠ gb722)); clear BK721; clear BK722; clear HB; have BK721 := n0_; have BK722 := n1_; have HB := n2_; have BK723 := n3_; have GW723 := n4_; have GE723 := n5_; have NB721_723 := n6_; have NB723_721 := n7_; have NB722_723 := n8_; have NB723_722 := n9_; clear n0_ n1_ n2_ n3_ n4_ n5_ n6_ n7_ n8_ n9_; clear hb hbox hg; have hnb7 := NB721_722.out; have hnc7 := NB722_721.out; have hnb8 := NB721_723.out; have hnc8 := NB723_721.out; have hcz9_0 : w6.cell? ⟨gb721, 0, none⟩ = some (.slice A0_0 l0_0.length c0_0) := (blk_cell BK721.out 0).trans rfl; have hfz9_0 := blk_frozen BK721.out 0) | ((with_reducible refine gate_callee (f := 58) rfl ?_); refine goesL_ (some 7) rfl rfl Try.func58 (by kernel_rfl) rfl #[.agg #[.slice A0_0 l0_0.length c0_0]] rfl (by (try simp only [List.map_toArray, List.map_cons, List.map_nil]); first | done | rfl | (simp only [List.length_drop, List.length_take]; rfl)) ?_; (with_reducible refine (impl_Poset_n.calls _ _ l0_0 t724 _ ?side1 ?side2 A3.out).mono ?_); (case side1 => repeat (first | exact (Kd.C_below HR0_0.out HB.out) | (with_reducible refine Kd.C_alloc ?_ _) | (with_reducible refine Kd.C_drewN ?_ _) | (with_reducible refine Kd.C_drew ?_))); (case side2 => exact HC0_0.out); rintro e w10 ⟨rfl, hb⟩; refine ⟨_, rfl, ?_⟩; have n0_ := Aside0.mk (blk_below (g := gb721) (o := .cells #[.slice A0_0 l0_0.length c0_0] 28 (0, 0)) (by (with_reducible repeat (first | refine blk_drewN ?_ _ | refine blk_drew ?_ | refine blk_alloc ?_ _)); exact BK721.out) hb); have n1_ := Aside0.mk (blk_below (g := gb722) (o := .cells #[.int .i64 a1_0, .int .i64 a1_1, .int .i64 a1_2, .int .i64 a1_3, .int .i64 a1_4, .int .i64 a1_5, .int .i64 a1_6, .int .i64 a1_7, .int .i64 a1_8, .int .i64 a1_9] 58 (0, 0)) (by (with_reducible repeat (first | refine blk_drewN ?_ _ | refine blk_drew ?_ | refine blk_alloc ?_ _)); exact BK722.out) hb); have n2_ := Aside0.mk (blk_below (g := gb723) (o := .cells #[.int .i64 0, .int .i64 0, .int .i64 0, .int .i64 0, .int .i64 0, .int .i64 0, .int .i64 0, .int .i64 0, .int .i64 0, .int .i64 0] 58 (0, 0)) (by (with_reducible repeat (first | refine blk_drewN ?_ _ | refine blk_drew ?_ | refine blk_alloc ?_ _)); exact BK723.out) hb); have n3_ := Aside0.mk (below_step (by repeat (first | (with_reducible first | exact HB.out | apply below_alloc | apply pw_below_drewN | apply below_drew1 | refine below_set ?_ GE721.out | refine below_set ?_ GE722.out | refine below_set ?_ GE723.out) | exact HB.out)) hb); clear BK721; clear BK722; clear BK723; clear HB; have BK721 := n0_; have BK722 := n1_; have BK723 := n2_; have HB := n3_; clear n0_ n1_ n2_ n3_; (try clear hb); (try clear hb2); (try clear hk); (try clear hi)))
  go_loopg [5] k (fun kq v5 w' => ∃ (x5_1 : Int) (x723000_1 : Int) (x723001_1 : Int) (x723002_1 : Int) (x723003_1 : Int) (x723004_1 : Int) (x723005_1 : Int) (x723006_1 : Int) (x723007_1 : Int) (x723008_1 : Int) (x723009_1 : Int), v5 = .int .i64 x5_1 ∧ Aside0 (impl_Poset_unpromoted.l0 kq x5_1 l0_0 x723000_1 x723001_1 x723002_1 x723003_1 x723004_1 x723005_1 x723006_1 x723007_1 x723008_1 x723009_1 = some (r1, r2, r3, r4, r5, r6, r7, r8, r9, r10)) ∧ Aside0 (kq ≤ k) ∧ Aside0 (w'.heap[gb721]? = some (.cells #[(.slice A0_0 l0_0.length c0_0)] 28 (0, 0))) ∧ Aside0 (w'.heap[gb722]? = some (.cells #[.int .i64 x723000_1, .int .i64 x723001_1, .int .i64 x723002_1, .int .i64 x723003_1, .int .i64 x723004_1, .int .i64 x723005_1, .int .i64 x723006_1, .int .i64 x723007_1, .int .i64 x723008_1, .int .i64 x723009_1] 58 (0, 0))) ∧ Aside0 (w'.heap[gb723]? = some (.cells #[.int .i64 0, .int .i64 0, .int .i64 0, .int .i64 0, .int .i64 0, .int .i64 0, .int .i64 0, .int .i64 0, .int .i64 0, .int .i64 0] 58 (0, 0))) ∧ Aside0 (Below w.heap.size w w'))
  case atStart => exact ⟨(wrap64 (t724 - 2)), (a1_0), (a1_1), (a1_2), (a1_3), (a1_4), (a1_5), (a1_6), (a1_7), (a1_8), (a1_9), (by first | rfl | (simp; done) | (simp [*]; done)), H', ⟨Nat.le_refl _⟩, ⟨by (with_reducible repeat (first | refine blk_drewN ?_ _ | refine blk_drew ?_ | refine blk_alloc ?_ _)); exact BK721.out⟩, ⟨by (with_reducible repeat (first | refine blk_drewN ?_ _ | refine blk_drew ?_ | refine blk_alloc ?_ _)); exact BK722.out⟩, ⟨by (with_reducible repeat (first | refine blk_drewN ?_ _ | refine blk_drew ?_ | refine blk_alloc ?_ _)); exact BK723.out⟩, ⟨by repeat (first | (with_reducible first | exact HB.out | apply below_alloc | apply pw_below_drewN | apply below_drew1 | refine below_set ?_ GE721.out | refine below_set ?_ GE722.out | refine below_set ?_ GE723.out) | exact HB.out)⟩⟩
  case round =>
    clear H'
    try clear p2
    try clear c5
    try clear p6
    try clear c7
    try clear c8
    try clear hcz9_0
    try clear hfz9_0
    obtain ⟨x5_1, x723000_1, x723001_1, x723002_1, x723003_1, x723004_1, x723005_1, x723006_1, x723007_1, x723008_1, x723009_1, rfl, HA, HK1, BK721, BK722, BK723, HB⟩ := hrel
    cases gk with
    | zero => exact absurd HA.out (by simp [impl_Poset_unpromoted.l0])
    | succ k1 =>
      have H := HA.out
      clear HA
      simp only [impl_Poset_unpromoted.l0] at H
      by_cases c11 : x5_1 ≥ 0
      · rw [if_pos c11] at H
        have c11b0 : decide (0 ≤ x5_1) = true := decide_eq_true c11
        clear c11
        replace H := Option.bind_eq_some_iff.mp H
        obtain ⟨⟨t725, t726, t727, t728, t729, t730, t731, t732, t733, t734⟩, A120, H⟩ := H
        replace H : (impl_Poset_unpromoted.l0 k1 (wrap64 (x5_1 - 1)) l0_0 t725 t726 t727 t728 t729 t730 t731 t732 t733 t734) = some (r1, r2, r3, r4, r5, r6, r7, r8, r9, r10) := H
        have A12 := Aside0.mk A120
        clear A120
        have H' := Aside0.mk H
        clear H
        have hnb13 := NB721_722.out
        have hnc13 := NB722_721.out
        have hnb14 := NB721_723.out
        have hnc14 := NB723_721.out
        have hcz15_0 : wr.cell? ⟨gb721, 0, none⟩ = some (.slice A0_0 l0_0.length c0_0) := (blk_cell BK721.out 0).trans rfl
        have hfz15_0 := blk_frozen BK721.out 0
        have hnb16 := NB722_723.out
        have hnc16 := NB723_722.out
        have hcz17_0 : wr.cell? ⟨gb722, 0, none⟩ = some (.int .i64 x723000_1) := (blk_cell BK722.out 0).trans rfl
        have hcz17_1 : wr.cell? ⟨gb722, 1, none⟩ = some (.int .i64 x723001_1) := (blk_cell BK722.out 1).trans rfl
        have hcz17_2 : wr.cell? ⟨gb722, 2, none⟩ = some (.int .i64 x723002_1) := (blk_cell BK722.out 2).trans rfl
        have hcz17_3 : wr.cell? ⟨gb722, 3, none⟩ = some (.int .i64 x723003_1) := (blk_cell BK722.out 3).trans rfl
        have hcz17_4 : wr.cell? ⟨gb722, 4, none⟩ = some (.int .i64 x723004_1) := (blk_cell BK722.out 4).trans rfl
        have hcz17_5 : wr.cell? ⟨gb722, 5, none⟩ = some (.int .i64 x723005_1) := (blk_cell BK722.out 5).trans rfl
        have hcz17_6 : wr.cell? ⟨gb722, 6, none⟩ = some (.int .i64 x723006_1) := (blk_cell BK722.out 6).trans rfl
        have hcz17_7 : wr.cell? ⟨gb722, 7, none⟩ = some (.int .i64 x723007_1) := (blk_cell BK722.out 7).trans rfl
        have hcz17_8 : wr.cell? ⟨gb722, 8, none⟩ = some (.int .i64 x723008_1) := (blk_cell BK722.out 8).trans rfl
        have hcz17_9 : wr.cell? ⟨gb722, 9, none⟩ = some (.int .i64 x723009_1) := (blk_cell BK722.out 9).trans rfl
        have hfz17_0 := blk_frozen BK722.out 0
        have hfz17_1 := blk_frozen BK722.out 1
        have hfz17_2 := blk_frozen BK722.out 2
        have hfz17_3 := blk_frozen BK722.out 3
        have hfz17_4 := blk_frozen BK722.out 4
        have hfz17_5 := blk_frozen BK722.out 5
        have hfz17_6 := blk_frozen BK722.out 6
        have hfz17_7 := blk_frozen BK722.out 7
        have hfz17_8 := blk_frozen BK722.out 8
        have hfz17_9 := blk_frozen BK722.out 9
        go_wp2_with (first | ((with_reducible refine gate_callee (f := 59) rfl ?_); refine goesL_ (some 16) rfl rfl Try.func59 (by kernel_rfl) rfl #[.agg #[.slice A0_0 l0_0.length c0_0], .agg #[.int .i64 x723000_1, .int .i64 x723001_1, .int .i64 x723002_1, .int .i64 x723003_1, .int .i64 x723004_1, .int .i64 x723005_1, .int .i64 x723006_1, .int .i64 x723007_1, .int .i64 x723008_1, .int .i64 x723009_1], .int .i64 x5_1] rfl (by (try simp only [List.map_toArray, List.map_cons, List.map_nil]); first | done | rfl | (simp only [List.length_drop, List.length_take]; rfl)) ?_; (with_reducible refine (impl_Poset_exchange.calls _ _ l0_0 x723000_1 x723001_1 x723002_1 x723003_1 x723004_1 x723005_1 x723006_1 x723007_1 x723008_1 x723009_1 x5_1 t725 t726 t727 t728 t729 t730 t731 t732 t733 t734 _ ?side1 ?side2 A12.out).mono ?_); (case side1 => repeat (first | exact (Kd.C_below HR0_0.out HB.out) | (with_reducible refine Kd.C_alloc ?_ _) | (with_reducible refine Kd.C_drewN ?_ _) | (with_reducible refine Kd.C_drew ?_))); (case side2 => exact HC0_0.out); rintro e w18 ⟨rfl, hb⟩; refine ⟨_, rfl, ?_⟩; have n0_ := Aside0.mk (blk_below (g := gb721) (o := .cells #[.slice A0_0 l0_0.length c0_0] 28 (0, 0)) (by (with_reducible repeat (first | refine blk_drewN ?_ _ | refine blk_drew ?_ | refine blk_alloc ?_ _)); exact BK721.out) hb); have n1_ := Aside0.mk (blk_below (g := gb722) (o := .cells #[.int .i64 x723000_1, .int .i64 x723001_1, .int .i64 x723002_1, .int .i64 x723003_1, .int .i64 x723004_1, .int .i64 x723005_1, .int .i64 x723006_1, .int .i64 x723007_1, .int .i64 x723008_1, .int .i64 x723009_1] 58 (0, 0)) (by (with_reducible repeat (first | refine blk_drewN ?_ _ | refine blk_drew ?_ | refine blk_alloc ?_ _)); exact BK722.out) hb); have n2_ := Aside0.mk (blk_below (g := gb723) (o := .cells #[.int .i64 0, .int .i64 0, .int .i64 0, .int .i64 0, .int .i64 0, .int .i64 0, .int .i64 0, .int .i64 0, .int .i64 0, .int .i64 0] 58 (0, 0)) (by (with_reducible repeat (first | refine blk_drewN ?_ _ | refine blk_drew ?_ | refine blk_alloc ?_ _)); exact BK723.out) hb); have n3_ := Aside0.mk (below_step (by repeat (first | (with_reducible first | exact HB.out | apply below_alloc | apply pw_below_drewN | apply below_drew1 | refine below_set ?_ GE721.out | refine below_set ?_ GE722.out | refine below_set ?_ GE723.out) | exact HB.out)) hb); clear BK721; clear BK722; clear BK723; clear HB; have BK721 := n0_; have BK722 := n1_; have BK723 := n2_; have HB := n3_; clear n0_ n1_ n2_ n3_; (try clear hb); (try clear hb2); (try clear hk); (try clear hi); have hcz19_0 : w18.cell? ⟨gb722, 0, none⟩ = some (.int .i64 x723000_1) := (blk_cell BK722.out 0).trans rfl; have hcz19_1 : w18.cell? ⟨gb722, 1, none⟩ = some (.int .i64 x723001_1) := (blk_cell BK722.out 1).trans rfl; have hcz19_2 : w18.cell? ⟨gb722, 2, none⟩ = some (.int .i64 x723002_1) := (blk_cell BK722.out 2).trans rfl; have hcz19_3 : w18.cell? ⟨gb722, 3, none⟩ = some (.int .i64 x723003_1) := (blk_cell BK722.out 3).trans rfl; have hcz19_4 : w18.cell? ⟨gb722, 4, none⟩ = some (.int .i64 x723004_1) := (blk_cell BK722.out 4).trans rfl; have hcz19_5 : w18.cell? ⟨gb722, 5, none⟩ = some (.int .i64 x723005_1) := (blk_cell BK722.out 5).trans rfl; have hcz19_6 : w18.cell? ⟨gb722, 6, none⟩ = some (.int .i64 x723006_1) := (blk_cell BK722.out 6).trans rfl; have hcz19_7 : w18.cell? ⟨gb722, 7, none⟩ = some (.int .i64 x723007_1) := (blk_cell BK722.out 7).trans rfl; have hcz19_8 : w18.cell? ⟨gb722, 8, none⟩ = some (.int .i64 x723008_1) := (blk_cell BK722.out 8).trans rfl; have hcz19_9 : w18.cell? ⟨gb722, 9, none⟩ = some (.int .i64 x723009_1) := (blk_cell BK722.out 9).trans rfl; have hfz19_0 := blk_frozen BK722.out 0; have hfz19_1 := blk_frozen BK722.out 1; have hfz19_2 := blk_frozen BK722.out 2; have hfz19_3 := blk_frozen BK722.out 3; have hfz19_4 := blk_frozen BK722.out 4; have hfz19_5 := blk_frozen BK722.out 5; have hfz19_6 := blk_frozen BK722.out 6; have hfz19_7 := blk_frozen BK722.out 7; have hfz19_8 := blk_frozen BK722.out 8; have hfz19_9 := blk_frozen BK722.out 9))
        go_roundg k1
        case measure => have := HK1.out; omega
        case rel => exact ⟨(wrap64 (x5_1 - 1)), (t725), (t726), (t727), (t728), (t729), (t730), (t731), (t732), (t733), (t734), (by first | rfl | (simp; done) | (simp [*]; done)), H', ⟨by have := HK1.out; omega⟩, ⟨by (with_reducible repeat (first | refine blk_drewN ?_ _ | refine blk_drew ?_ | refine blk_alloc ?_ _)); refine blk_far ?_ NB721_722.out _; (with_reducible repeat (first | refine blk_drewN ?_ _ | refine blk_drew ?_ | refine blk_alloc ?_ _)); refine blk_far ?_ NB721_722.out _; (with_reducible repeat (first | refine blk_drewN ?_ _ | refine blk_drew ?_ | refine blk_alloc ?_ _)); refine blk_far ?_ NB721_722.out _; (with_reducible repeat (first | refine blk_drewN ?_ _ | refine blk_drew ?_ | refine blk_alloc ?_ _)); refine blk_far ?_ NB721_722.out _; (with_reducible repeat (first | refine blk_drewN ?_ _ | refine blk_drew ?_ | refine blk_alloc ?_ _)); refine blk_far ?_ NB721_722.out _; (with_reducible repeat (first | refine blk_drewN ?_ _ | refine blk_drew ?_ | refine blk_alloc ?_ _)); refine blk_far ?_ NB721_722.out _; (with_reducible repeat (first | refine blk_drewN ?_ _ | refine blk_drew ?_ | refine blk_alloc ?_ _)); refine blk_far ?_ NB721_722.out _; (with_reducible repeat (first | refine blk_drewN ?_ _ | refine blk_drew ?_ | refine blk_alloc ?_ _)); refine blk_far ?_ NB721_722.out _; (with_reducible repeat (first | refine blk_drewN ?_ _ | refine blk_drew ?_ | refine blk_alloc ?_ _)); refine blk_far ?_ NB721_722.out _; (with_reducible repeat (first | refine blk_drewN ?_ _ | refine blk_drew ?_ | refine blk_alloc ?_ _)); refine blk_far ?_ NB721_722.out _; (with_reducible repeat (first | refine blk_drewN ?_ _ | refine blk_drew ?_ | refine blk_alloc ?_ _)); exact BK721.out⟩, ⟨by (with_reducible repeat (first | refine blk_drewN ?_ _ | refine blk_drew ?_ | refine blk_alloc ?_ _)); refine blk_put (cs := #[.int .i64 t725, .int .i64 t726, .int .i64 t727, .int .i64 t728, .int .i64 t729, .int .i64 t730, .int .i64 t731, .int .i64 t732, .int .i64 t733, .int .i64 x723009_1]) ?_ 9 _ rfl; (with_reducible repeat (first | refine blk_drewN ?_ _ | refine blk_drew ?_ | refine blk_alloc ?_ _)); refine blk_put (cs := #[.int .i64 t725, .int .i64 t726, .int .i64 t727, .int .i64 t728, .int .i64 t729, .int .i64 t730, .int .i64 t731, .int .i64 t732, .int .i64 x723008_1, .int .i64 x723009_1]) ?_ 8 _ rfl; (with_reducible repeat (first | refine blk_drewN ?_ _ | refine blk_drew ?_ | refine blk_alloc ?_ _)); refine blk_put (cs := #[.int .i64 t725, .int .i64 t726, .int .i64 t727, .int .i64 t728, .int .i64 t729, .int .i64 t730, .int .i64 t731, .int .i64 x723007_1, .int .i64 x723008_1, .int .i64 x723009_1]) ?_ 7 _ rfl; (with_reducible repeat (first | refine blk_drewN ?_ _ | refine blk_drew ?_ | refine blk_alloc ?_ _)); refine blk_put (cs := #[.int .i64 t725, .int .i64 t726, .int .i64 t727, .int .i64 t728, .int .i64 t729, .int .i64 t730, .int .i64 x723006_1, .int .i64 x723007_1, .int .i64 x723008_1, .int .i64 x723009_1]) ?_ 6 _ rfl; (with_reducible repeat (first | refine blk_drewN ?_ _ | refine blk_drew ?_ | refine blk_alloc ?_ _)); refine blk_put (cs := #[.int .i64 t725, .int .i64 t726, .int .i64 t727, .int .i64 t728, .int .i64 t729, .int .i64 x723005_1, .int .i64 x723006_1, .int .i64 x723007_1, .int .i64 x723008_1, .int .i64 x723009_1]) ?_ 5 _ rfl; (with_reducible repeat (first | refine blk_drewN ?_ _ | refine blk_drew ?_ | refine blk_alloc ?_ _)); refine blk_put (cs := #[.int .i64 t725, .int .i64 t726, .int .i64 t727, .int .i64 t728, .int .i64 x723004_1, .int .i64 x723005_1, .int .i64 x723006_1, .int .i64 x723007_1, .int .i64 x723008_1, .int .i64 x723009_1]) ?_ 4 _ rfl; (with_reducible repeat (first | refine blk_drewN ?_ _ | refine blk_drew ?_ | refine blk_alloc ?_ _)); refine blk_put (cs := #[.int .i64 t725, .int .i64 t726, .int .i64 t727, .int .i64 x723003_1, .int .i64 x723004_1, .int .i64 x723005_1, .int .i64 x723006_1, .int .i64 x723007_1, .int .i64 x723008_1, .int .i64 x723009_1]) ?_ 3 _ rfl; (with_reducible repeat (first | refine blk_drewN ?_ _ | refine blk_drew ?_ | refine blk_alloc ?_ _)); refine blk_put (cs := #[.int .i64 t725, .int .i64 t726, .int .i64 x723002_1, .int .i64 x723003_1, .int .i64 x723004_1, .int .i64 x723005_1, .int .i64 x723006_1, .int .i64 x723007_1, .int .i64 x723008_1, .int .i64 x723009_1]) ?_ 2 _ rfl; (with_reducible repeat (first | refine blk_drewN ?_ _ | refine blk_drew ?_ | refine blk_alloc ?_ _)); refine blk_put (cs := #[.int .i64 t725, .int .i64 x723001_1, .int .i64 x723002_1, .int .i64 x723003_1, .int .i64 x723004_1, .int .i64 x723005_1, .int .i64 x723006_1, .int .i64 x723007_1, .int .i64 x723008_1, .int .i64 x723009_1]) ?_ 1 _ rfl; (with_reducible repeat (first | refine blk_drewN ?_ _ | refine blk_drew ?_ | refine blk_alloc ?_ _)); refine blk_put (cs := #[.int .i64 x723000_1, .int .i64 x723001_1, .int .i64 x723002_1, .int .i64 x723003_1, .int .i64 x723004_1, .int .i64 x723005_1, .int .i64 x723006_1, .int .i64 x723007_1, .int .i64 x723008_1, .int .i64 x723009_1]) ?_ 0 _ rfl; (with_reducible repeat (first | refine blk_drewN ?_ _ | refine blk_drew ?_ | refine blk_alloc ?_ _)); exact BK722.out⟩, ⟨by (with_reducible repeat (first | refine blk_drewN ?_ _ | refine blk_drew ?_ | refine blk_alloc ?_ _)); refine blk_far ?_ NB723_722.out _; (with_reducible repeat (first | refine blk_drewN ?_ _ | refine blk_drew ?_ | refine blk_alloc ?_ _)); refine blk_far ?_ NB723_722.out _; (with_reducible repeat (first | refine blk_drewN ?_ _ | refine blk_drew ?_ | refine blk_alloc ?_ _)); refine blk_far ?_ NB723_722.out _; (with_reducible repeat (first | refine blk_drewN ?_ _ | refine blk_drew ?_ | refine blk_alloc ?_ _)); refine blk_far ?_ NB723_722.out _; (with_reducible repeat (first | refine blk_drewN ?_ _ | refine blk_drew ?_ | refine blk_alloc ?_ _)); refine blk_far ?_ NB723_722.out _; (with_reducible repeat (first | refine blk_drewN ?_ _ | refine blk_drew ?_ | refine blk_alloc ?_ _)); refine blk_far ?_ NB723_722.out _; (with_reducible repeat (first | refine blk_drewN ?_ _ | refine blk_drew ?_ | refine blk_alloc ?_ _)); refine blk_far ?_ NB723_722.out _; (with_reducible repeat (first | refine blk_drewN ?_ _ | refine blk_drew ?_ | refine blk_alloc ?_ _)); refine blk_far ?_ NB723_722.out _; (with_reducible repeat (first | refine blk_drewN ?_ _ | refine blk_drew ?_ | refine blk_alloc ?_ _)); refine blk_far ?_ NB723_722.out _; (with_reducible repeat (first | refine blk_drewN ?_ _ | refine blk_drew ?_ | refine blk_alloc ?_ _)); refine blk_far ?_ NB723_722.out _; (with_reducible repeat (first | refine blk_drewN ?_ _ | refine blk_drew ?_ | refine blk_alloc ?_ _)); exact BK723.out⟩, ⟨by repeat (first | (with_reducible first | exact HB.out | apply below_alloc | apply pw_below_drewN | apply below_drew1 | refine below_set ?_ GE721.out | refine below_set ?_ GE722.out | refine below_set ?_ GE723.out) | exact HB.out)⟩⟩
      · rw [if_neg c11] at H
        have c11b0 : decide (0 ≤ x5_1) = false := decide_eq_false c11
        clear c11
        simp only [Option.some.injEq, Prod.mk.injEq] at H
        obtain ⟨rfl, rfl, rfl, rfl, rfl, rfl, rfl, rfl, rfl, rfl⟩ := H
        have hnb20 := NB722_721.out
        have hnc20 := NB721_722.out
        have hnb21 := NB722_723.out
        have hnc21 := NB723_722.out
        have hcz22_0 : wr.cell? ⟨gb722, 0, none⟩ = some (.int .i64 x723000_1) := (blk_cell BK722.out 0).trans rfl
        have hcz22_1 : wr.cell? ⟨gb722, 1, none⟩ = some (.int .i64 x723001_1) := (blk_cell BK722.out 1).trans rfl
        have hcz22_2 : wr.cell? ⟨gb722, 2, none⟩ = some (.int .i64 x723002_1) := (blk_cell BK722.out 2).trans rfl
        have hcz22_3 : wr.cell? ⟨gb722, 3, none⟩ = some (.int .i64 x723003_1) := (blk_cell BK722.out 3).trans rfl
        have hcz22_4 : wr.cell? ⟨gb722, 4, none⟩ = some (.int .i64 x723004_1) := (blk_cell BK722.out 4).trans rfl
        have hcz22_5 : wr.cell? ⟨gb722, 5, none⟩ = some (.int .i64 x723005_1) := (blk_cell BK722.out 5).trans rfl
        have hcz22_6 : wr.cell? ⟨gb722, 6, none⟩ = some (.int .i64 x723006_1) := (blk_cell BK722.out 6).trans rfl
        have hcz22_7 : wr.cell? ⟨gb722, 7, none⟩ = some (.int .i64 x723007_1) := (blk_cell BK722.out 7).trans rfl
        have hcz22_8 : wr.cell? ⟨gb722, 8, none⟩ = some (.int .i64 x723008_1) := (blk_cell BK722.out 8).trans rfl
        have hcz22_9 : wr.cell? ⟨gb722, 9, none⟩ = some (.int .i64 x723009_1) := (blk_cell BK722.out 9).trans rfl
        have hfz22_0 := blk_frozen BK722.out 0
        have hfz22_1 := blk_frozen BK722.out 1
        have hfz22_2 := blk_frozen BK722.out 2
        have hfz22_3 := blk_frozen BK722.out 3
        have hfz22_4 := blk_frozen BK722.out 4
        have hfz22_5 := blk_frozen BK722.out 5
        have hfz22_6 := blk_frozen BK722.out 6
        have hfz22_7 := blk_frozen BK722.out 7
        have hfz22_8 := blk_frozen BK722.out 8
        have hfz22_9 := blk_frozen BK722.out 9
        have hnb23 := NB723_721.out
        have hnc23 := NB721_723.out
        have hcz24_0 : wr.cell? ⟨gb723, 0, none⟩ = some (.int .i64 0) := (blk_cell BK723.out 0).trans rfl
        have hcz24_1 : wr.cell? ⟨gb723, 1, none⟩ = some (.int .i64 0) := (blk_cell BK723.out 1).trans rfl
        have hcz24_2 : wr.cell? ⟨gb723, 2, none⟩ = some (.int .i64 0) := (blk_cell BK723.out 2).trans rfl
        have hcz24_3 : wr.cell? ⟨gb723, 3, none⟩ = some (.int .i64 0) := (blk_cell BK723.out 3).trans rfl
        have hcz24_4 : wr.cell? ⟨gb723, 4, none⟩ = some (.int .i64 0) := (blk_cell BK723.out 4).trans rfl
        have hcz24_5 : wr.cell? ⟨gb723, 5, none⟩ = some (.int .i64 0) := (blk_cell BK723.out 5).trans rfl
        have hcz24_6 : wr.cell? ⟨gb723, 6, none⟩ = some (.int .i64 0) := (blk_cell BK723.out 6).trans rfl
        have hcz24_7 : wr.cell? ⟨gb723, 7, none⟩ = some (.int .i64 0) := (blk_cell BK723.out 7).trans rfl
        have hcz24_8 : wr.cell? ⟨gb723, 8, none⟩ = some (.int .i64 0) := (blk_cell BK723.out 8).trans rfl
        have hcz24_9 : wr.cell? ⟨gb723, 9, none⟩ = some (.int .i64 0) := (blk_cell BK723.out 9).trans rfl
        have hfz24_0 := blk_frozen BK723.out 0
        have hfz24_1 := blk_frozen BK723.out 1
        have hfz24_2 := blk_frozen BK723.out 2
        have hfz24_3 := blk_frozen BK723.out 3
        have hfz24_4 := blk_frozen BK723.out 4
        have hfz24_5 := blk_frozen BK723.out 5
        have hfz24_6 := blk_frozen BK723.out 6
        have hfz24_7 := blk_frozen BK723.out 7
        have hfz24_8 := blk_frozen BK723.out 8
        have hfz24_9 := blk_frozen BK723.out 9
        go_wp2
        refine bodyPost_ret (results_cell_row rfl _ _ gb723 58 #[.int .i64 x723000_1, .int .i64 x723001_1, .int .i64 x723002_1, .int .i64 x723003_1, .int .i64 x723004_1, .int .i64 x723005_1, .int .i64 x723006_1, .int .i64 x723007_1, .int .i64 x723008_1, .int .i64 x723009_1] (0, 0) _ rfl (by (with_reducible repeat (first | refine blk_drewN ?_ _ | refine blk_drew ?_ | refine blk_alloc ?_ _)); refine blk_put (cs := #[.int .i64 x723000_1, .int .i64 x723001_1, .int .i64 x723002_1, .int .i64 x723003_1, .int .i64 x723004_1, .int .i64 x723005_1, .int .i64 x723006_1, .int .i64 x723007_1, .int .i64 x723008_1, .int .i64 0]) ?_ 9 _ rfl; (with_reducible repeat (first | refine blk_drewN ?_ _ | refine blk_drew ?_ | refine blk_alloc ?_ _)); refine blk_put (cs := #[.int .i64 x723000_1, .int .i64 x723001_1, .int .i64 x723002_1, .int .i64 x723003_1, .int .i64 x723004_1, .int .i64 x723005_1, .int .i64 x723006_1, .int .i64 x723007_1, .int .i64 0, .int .i64 0]) ?_ 8 _ rfl; (with_reducible repeat (first | refine blk_drewN ?_ _ | refine blk_drew ?_ | refine blk_alloc ?_ _)); refine blk_put (cs := #[.int .i64 x723000_1, .int .i64 x723001_1, .int .i64 x723002_1, .int .i64 x723003_1, .int .i64 x723004_1, .int .i64 x723005_1, .int .i64 x723006_1, .int .i64 0, .int .i64 0, .int .i64 0]) ?_ 7 _ rfl; (with_reducible repeat (first | refine blk_drewN ?_ _ | refine blk_drew ?_ | refine blk_alloc ?_ _)); refine blk_put (cs := #[.int .i64 x723000_1, .int .i64 x723001_1, .int .i64 x723002_1, .int .i64 x723003_1, .int .i64 x723004_1, .int .i64 x723005_1, .int .i64 0, .int .i64 0, .int .i64 0, .int .i64 0]) ?_ 6 _ rfl; (with_reducible repeat (first | refine blk_drewN ?_ _ | refine blk_drew ?_ | refine blk_alloc ?_ _)); refine blk_put (cs := #[.int .i64 x723000_1, .int .i64 x723001_1, .int .i64 x723002_1, .int .i64 x723003_1, .int .i64 x723004_1, .int .i64 0, .int .i64 0, .int .i64 0, .int .i64 0, .int .i64 0]) ?_ 5 _ rfl; (with_reducible repeat (first | refine blk_drewN ?_ _ | refine blk_drew ?_ | refine blk_alloc ?_ _)); refine blk_put (cs := #[.int .i64 x723000_1, .int .i64 x723001_1, .int .i64 x723002_1, .int .i64 x723003_1, .int .i64 0, .int .i64 0, .int .i64 0, .int .i64 0, .int .i64 0, .int .i64 0]) ?_ 4 _ rfl; (with_reducible repeat (first | refine blk_drewN ?_ _ | refine blk_drew ?_ | refine blk_alloc ?_ _)); refine blk_put (cs := #[.int .i64 x723000_1, .int .i64 x723001_1, .int .i64 x723002_1, .int .i64 0, .int .i64 0, .int .i64 0, .int .i64 0, .int .i64 0, .int .i64 0, .int .i64 0]) ?_ 3 _ rfl; (with_reducible repeat (first | refine blk_drewN ?_ _ | refine blk_drew ?_ | refine blk_alloc ?_ _)); refine blk_put (cs := #[.int .i64 x723000_1, .int .i64 x723001_1, .int .i64 0, .int .i64 0, .int .i64 0, .int .i64 0, .int .i64 0, .int .i64 0, .int .i64 0, .int .i64 0]) ?_ 2 _ rfl; (with_reducible repeat (first | refine blk_drewN ?_ _ | refine blk_drew ?_ | refine blk_alloc ?_ _)); refine blk_put (cs := #[.int .i64 x723000_1, .int .i64 0, .int .i64 0, .int .i64 0, .int .i64 0, .int .i64 0, .int .i64 0, .int .i64 0, .int .i64 0, .int .i64 0]) ?_ 1 _ rfl; (with_reducible repeat (first | refine blk_drewN ?_ _ | refine blk_drew ?_ | refine blk_alloc ?_ _)); refine blk_put (cs := #[.int .i64 0, .int .i64 0, .int .i64 0, .int .i64 0, .int .i64 0, .int .i64 0, .int .i64 0, .int .i64 0, .int .i64 0, .int .i64 0]) ?_ 0 _ rfl; (with_reducible repeat (first | refine blk_drewN ?_ _ | refine blk_drew ?_ | refine blk_alloc ?_ _)); exact BK723.out) Try.underlying58 rfl (by kernel_rfl)) rfl ?_
        exact ⟨by first | rfl | (simp [errW_none, errW_some] <;> rfl) | (simp [*, errW_none, errW_some] <;> rfl), by repeat (first | (with_reducible first | exact HB.out | apply below_alloc | apply pw_below_drewN | apply below_drew1 | refine below_set ?_ GE721.out | refine below_set ?_ GE722.out | refine below_set ?_ GE723.out) | exact HB.out)⟩

end Go.Proofs.Ytjahclncpgllmaa.F
end

section
namespace Go.Proofs.Ytjahclncpgllmaa.F
open Go.RowKit Go.Proofs.YtjahclncpgllmaaW.PrintWords Go.Proofs.YtjahclncpgllmaaW.PrintLast Go.Proofs.YtjahclncpgllmaaW.PrintMore
set_option linter.unusedVariables false
set_option linter.unusedSimpArgs false
def impl_line_list.f (a0_0 a0_1 a0_2 a0_3 a0_4 a0_5 a0_6 a0_7 a0_8 a0_9 : Int) (a1 : Int) : Option (List Int) := if 0 ≤ a1 ∧ a1 ≤ 10 then some ([a0_0, a0_1, a0_2, a0_3, a0_4, a0_5, a0_6, a0_7, a0_8, a0_9].take a1.toNat) else none
theorem impl_line_list.sz : (Try.prog.info? 3).map (·.size) = some 1 := by kernel_rfl
theorem impl_line_list.reads {w : World} {g : Nat} {t : TypeId} {a0_0 a0_1 a0_2 a0_3 a0_4 a0_5 a0_6 a0_7 a0_8 a0_9 : Int} (h : w.heap[g]? = some (.cells #[.int .i64 a0_0, .int .i64 a0_1, .int .i64 a0_2, .int .i64 a0_3, .int .i64 a0_4, .int .i64 a0_5, .int .i64 a0_6, .int .i64 a0_7, .int .i64 a0_8, .int .i64 a0_9] t (0, 0))) (n : Nat) (hn : n ≤ 10) :
    Kd.C (Kd.int .i64) w (some ⟨g, 0, none⟩) ([a0_0, a0_1, a0_2, a0_3, a0_4, a0_5, a0_6, a0_7, a0_8, a0_9].take n).length ([a0_0, a0_1, a0_2, a0_3, a0_4, a0_5, a0_6, a0_7, a0_8, a0_9].take n) := by
  refine Kd.C_of_reads (d := (0 : Int)) ⟨rfl, by rw [List.length_take]; simp only [List.length_cons, List.length_nil]; omega, fun _ => ⟨_, rfl, fun j hj => ?_⟩⟩
  rw [List.length_take] at hj
  have hj2 : j < 10 := by simp only [List.length_cons, List.length_nil] at hj; omega
  have hj3 : j < n := by omega
  have e : (Addr.mk g 0 none).add j = ⟨g, j, none⟩ := by unfold Addr.add; split <;> simp_all
  rw [e, blk_cell h j]
  have e2 : ([a0_0, a0_1, a0_2, a0_3, a0_4, a0_5, a0_6, a0_7, a0_8, a0_9].take n).getD j 0 = [a0_0, a0_1, a0_2, a0_3, a0_4, a0_5, a0_6, a0_7, a0_8, a0_9].getD j 0 := by rw [List.getD_eq_getElem?_getD, List.getElem?_take, if_pos hj3, List.getD_eq_getElem?_getD]
  rw [e2]
  match j, hj2 with
  | 0, _ => rfl
  | 1, _ => rfl
  | 2, _ => rfl
  | 3, _ => rfl
  | 4, _ => rfl
  | 5, _ => rfl
  | 6, _ => rfl
  | 7, _ => rfl
  | 8, _ => rfl
  | 9, _ => rfl
  | _ + 10, h => exact absurd h (by omega)
set_option maxHeartbeats 8000000 in
set_option maxRecDepth 100000 in
theorem impl_line_list.calls (a0_0 a0_1 a0_2 a0_3 a0_4 a0_5 a0_6 a0_7 a0_8 a0_9 : Int) (a1 : Int) (r : List Int) (w : World) (h : impl_line_list.f a0_0 a0_1 a0_2 a0_3 a0_4 a0_5 a0_6 a0_7 a0_8 a0_9 a1 = some r) :
    Calls Try.prog 61 #[.agg #[.int .i64 a0_0, .int .i64 a0_1, .int .i64 a0_2, .int .i64 a0_3, .int .i64 a0_4, .int .i64 a0_5, .int .i64 a0_6, .int .i64 a0_7, .int .i64 a0_8, .int .i64 a0_9], .int .i64 a1] w fun e w' => ∃ v0_ : Value, e = .returned (v0_) ∧ Kd.R (Kd.int .i64) 3 w' w.heap.size (fun _ => True) v0_ r ∧ Below w.heap.size w w' := by
  have hu58 := Try.underlying58
  have HB := Aside0.mk (Below.refl w.heap.size w)
  unfold impl_line_list.f at h
  by_cases hl : 0 ≤ a1 ∧ a1 ≤ 10
  rotate_left
  · rw [if_neg hl] at h; cases h
  rw [if_pos hl] at h
  obtain ⟨n, rfl⟩ := Int.eq_ofNat_of_zero_le hl.1
  have hn : n ≤ 10 := by omega
  rw [Int.toNat_natCast] at h
  have HR := Aside0.mk (Option.some.inj h)
  have hlen : ([a0_0, a0_1, a0_2, a0_3, a0_4, a0_5, a0_6, a0_7, a0_8, a0_9].take n).length = n := by rw [List.length_take]; simp only [List.length_cons, List.length_nil]; omega
  have HL := Aside0.mk hlen
  clear h hl hlen
  have hal : Try.prog.arrayLen 58 = 10 := by simp [Program.arrayLen, Try.underlying58]
  have hsl : ∀ (g_ : Nat) (W : World), (Instr.sliceAt 58 (.pointer (some ⟨g_, 0, none⟩)) none (some (.int .i64 (n : Int))) none).run Try.prog W = .ok (.slice (some ⟨g_, 0, none⟩) n 10) W := fun g_ W => by
    rw [run_sliceAt_array_h W 58 ⟨g_, 0, none⟩ (by simp [Program.arrayLen, Program.elem, Try.underlying58]) .i64 (n : Int) (by omega) (by rw [hal]; omega)]
    have hel : Try.prog.elem 58 = 3 := by simp [Program.elem, Try.underlying58]
    have hso : (sizeOf 3).run Try.prog W = .ok 1 W := by
      have hz := impl_line_list.sz
      cases hq : Try.prog.info? 3 with
      | none => rw [hq] at hz; cases hz
      | some i =>
        have hi : i.size = 1 := by rw [hq] at hz; exact Option.some.inj hz
        simp [sizeOf, typeInfo, hq, hi]
    rw [hal, hel, hso]
    show Result.ok (slicedAt ⟨g_, 0, none⟩ 0 n 10 1) W = _
    simp [slicedAt, Addr.add]
  clear hal
  go_enter Try.func61, Try.ntmps61
  go_wp2_with (first | ((with_reducible refine gate_dst (N := 2) rfl ?_); refine box_event ?hg (N := 2) ?hd (cs := #[.int .i64 a0_0, .int .i64 a0_1, .int .i64 a0_2, .int .i64 a0_3, .int .i64 a0_4, .int .i64 a0_5, .int .i64 a0_6, .int .i64 a0_7, .int .i64 a0_8, .int .i64 a0_9]) (t := 58) ?hr ?_; (case hd => rfl); (case hg => rfl); (case hr => first | (go_simp; done) | (go_simp; rfl)); intro g2 hg w2 hbox hb; have BK2 := Aside0.mk hbox; have GE2 := Aside0.mk (show w.heap.size ≤ g2 by omega); have HB2 := Aside0.mk (HB.out.trans hb); clear HB hbox hb hg) | (go_at_call 94; (refine calls_of_args (args' := #[.slice (some ⟨g2, 0, none⟩) ([a0_0, a0_1, a0_2, a0_3, a0_4, a0_5, a0_6, a0_7, a0_8, a0_9].take n).length 10]) (by rw [HL.out]) ?_); (with_reducible refine (slices_Clone_int_int.calls (some ⟨g2, 0, none⟩) 10 ([a0_0, a0_1, a0_2, a0_3, a0_4, a0_5, a0_6, a0_7, a0_8, a0_9].take n) r _ ?s1 ?s2 ?s3).mono ?_); (case s1 => exact impl_line_list.reads BK2.out n hn); (case s2 => rw [HL.out]; exact hn); (case s3 => unfold slices_Clone_int_int.f; rw [if_pos (by rw [HL.out]; omega), HR.out]); rintro e w3 ⟨v, rfl, ho, hb⟩; have HO := Aside0.mk ho; have HB3 := Aside0.mk (HB2.out.trans (Below.mono hb HB2.out.size)); have SZ := Aside0.mk HB2.out.size; clear ho hb HB2))
  go_ret
  exact ⟨_, rfl, Kd.R_lower HO.out SZ.out, HB3.out⟩
end Go.Proofs.Ytjahclncpgllmaa.F
end

section
namespace Go.Proofs.Ytjahclncpgllmaa.F
open Go.RowKit Go.Proofs.YtjahclncpgllmaaW.PrintWords Go.Proofs.YtjahclncpgllmaaW.PrintLast Go.Proofs.YtjahclncpgllmaaW.PrintMore
set_option linter.unusedVariables false
set_option linter.unusedSimpArgs false
def impl_lineOf.f (l0 : List Int) : Option (Int × Int × Int × Int × Int × Int × Int × Int × Int × Int) := if l0.length ≤ 10 then some (l0.getD 0 0, l0.getD 1 0, l0.getD 2 0, l0.getD 3 0, l0.getD 4 0, l0.getD 5 0, l0.getD 6 0, l0.getD 7 0, l0.getD 8 0, l0.getD 9 0) else none
theorem impl_lineOf.sz : (Try.prog.info? 3).map (·.size) = some 1 := by kernel_rfl
theorem impl_lineOf.src {w : World} {A : Option Addr} {l : List Int} (h : Kd.C (Kd.int .i64) w A l.length l) (hp : 0 < l.length) : ∃ ad, A = some ad ∧ ∀ j v, (l.map (Value.int .i64))[j]? = some v → w.cell? (ad.add j) = some v := by
  obtain ⟨ad, e, hc⟩ := (Kd.reads_of_C (d := (0 : Int)) h).2.2 hp
  refine ⟨ad, e, fun j v hv => ?_⟩
  rw [List.getElem?_map] at hv
  rcases Nat.lt_or_ge j l.length with hj | hj
  · rw [hc j hj, List.getD_eq_getElem?_getD, List.getElem?_eq_getElem hj]
    rw [List.getElem?_eq_getElem hj] at hv
    exact hv
  · rw [List.getElem?_eq_none hj] at hv; cases hv
theorem impl_lineOf.one (l : List Int) : ∀ v ∈ l.map (Value.int .i64), v.oneCell' = true := by
  intro v hv
  obtain ⟨x, _, rfl⟩ := List.mem_map.1 hv
  rfl
def impl_lineOf.Is (l : List Int) (r1 r2 r3 r4 r5 r6 r7 r8 r9 r10 : Int) : Prop := (l.getD 0 0, l.getD 1 0, l.getD 2 0, l.getD 3 0, l.getD 4 0, l.getD 5 0, l.getD 6 0, l.getD 7 0, l.getD 8 0, l.getD 9 0) = (r1, r2, r3, r4, r5, r6, r7, r8, r9, r10)
theorem impl_lineOf.put (l : List Int) (h : l.length ≤ 10) : (splice [Value.int .i64 0, Value.int .i64 0, Value.int .i64 0, Value.int .i64 0, Value.int .i64 0, Value.int .i64 0, Value.int .i64 0, Value.int .i64 0, Value.int .i64 0, Value.int .i64 0] 0 (l.map (Value.int .i64))).toArray = #[.int .i64 (l.getD 0 0), .int .i64 (l.getD 1 0), .int .i64 (l.getD 2 0), .int .i64 (l.getD 3 0), .int .i64 (l.getD 4 0), .int .i64 (l.getD 5 0), .int .i64 (l.getD 6 0), .int .i64 (l.getD 7 0), .int .i64 (l.getD 8 0), .int .i64 (l.getD 9 0)] := by
  match l, h with
  | [], _ => rfl
  | x0 :: [], _ => rfl
  | x0 :: x1 :: [], _ => rfl
  | x0 :: x1 :: x2 :: [], _ => rfl
  | x0 :: x1 :: x2 :: x3 :: [], _ => rfl
  | x0 :: x1 :: x2 :: x3 :: x4 :: [], _ => rfl
  | x0 :: x1 :: x2 :: x3 :: x4 :: x5 :: [], _ => rfl
  | x0 :: x1 :: x2 :: x3 :: x4 :: x5 :: x6 :: [], _ => rfl
  | x0 :: x1 :: x2 :: x3 :: x4 :: x5 :: x6 :: x7 :: [], _ => rfl
  | x0 :: x1 :: x2 :: x3 :: x4 :: x5 :: x6 :: x7 :: x8 :: [], _ => rfl
  | x0 :: x1 :: x2 :: x3 :: x4 :: x5 :: x6 :: x7 :: x8 :: x9 :: [], _ => rfl
  | x0 :: x1 :: x2 :: x3 :: x4 :: x5 :: x6 :: x7 :: x8 :: x9 :: _ :: _, h => exact absurd h (by simp)
theorem impl_lineOf.sp {w : World} {g : Nat} {t : TypeId} {l : List Int} {r1 r2 r3 r4 r5 r6 r7 r8 r9 r10 : Int} (h : w.heap[g]? = some (.cells (splice [Value.int .i64 0, Value.int .i64 0, Value.int .i64 0, Value.int .i64 0, Value.int .i64 0, Value.int .i64 0, Value.int .i64 0, Value.int .i64 0, Value.int .i64 0, Value.int .i64 0] 0 (l.map (Value.int .i64))).toArray t (0, 0))) (hl : l.length ≤ 10) (hv : impl_lineOf.Is l r1 r2 r3 r4 r5 r6 r7 r8 r9 r10) :
    w.heap[g]? = some (.cells #[.int .i64 r1, .int .i64 r2, .int .i64 r3, .int .i64 r4, .int .i64 r5, .int .i64 r6, .int .i64 r7, .int .i64 r8, .int .i64 r9, .int .i64 r10] t (0, 0)) := by
  rw [impl_lineOf.put l hl] at h
  unfold impl_lineOf.Is at hv
  simp only [Prod.mk.injEq] at hv
  obtain ⟨rfl, rfl, rfl, rfl, rfl, rfl, rfl, rfl, rfl, rfl⟩ := hv
  exact h
theorem below_then_ {n m : Nat} {w W w2 : World} (h : Below n w W) (hm : n ≤ m) (k : Below m W w2) : Below n w w2 := h.trans (Below.mono k hm)
set_option maxHeartbeats 8000000 in
set_option maxRecDepth 100000 in
theorem impl_lineOf.calls (A0 : Option Addr) (c0 : Nat) (l0 : List Int) (r1 r2 r3 r4 r5 r6 r7 r8 r9 r10 : Int) (w : World) (hr0 : Kd.C (Kd.int .i64) w A0 l0.length l0) (hc0 : l0.length ≤ c0) (h : impl_lineOf.f l0 = some (r1, r2, r3, r4, r5, r6, r7, r8, r9, r10)) :
    Calls Try.prog 60 #[.slice A0 l0.length c0] w fun e w' => e = .returned (.agg #[.int .i64 r1, .int .i64 r2, .int .i64 r3, .int .i64 r4, .int .i64 r5, .int .i64 r6, .int .i64 r7, .int .i64 r8, .int .i64 r9, .int .i64 r10]) ∧ Below w.heap.size w w' := by
  have hu58 := Try.underlying58
  have HR0 := Aside0.mk hr0
  have HC0 := Aside0.mk hc0
  clear hr0 hc0
  have HB := Aside0.mk (Below.refl w.heap.size w)
  unfold impl_lineOf.f at h
  by_cases hl : l0.length ≤ 10
  rotate_left
  · rw [if_neg hl] at h; cases h
  rw [if_pos hl] at h
  have HL := Aside0.mk hl
  have HV : Aside0 (impl_lineOf.Is l0 r1 r2 r3 r4 r5 r6 r7 r8 r9 r10) := ⟨Option.some.inj h⟩
  clear h hl
  go_enter Try.func60, Try.ntmps60
  go_wp2_with (first | ((with_reducible refine gate_dst (N := 2) rfl ?_); refine box_event ?hg (N := 2) ?hd (cs := #[.int .i64 0, .int .i64 0, .int .i64 0, .int .i64 0, .int .i64 0, .int .i64 0, .int .i64 0, .int .i64 0, .int .i64 0, .int .i64 0]) (t := 58) ?hr ?_; (case hd => rfl); (case hg => rfl); (case hr => first | (go_simp; done) | (go_simp; rfl)); intro g2 hg w2 hbox hb; have BK2 := Aside0.mk hbox; have LT2 := Aside0.mk (blk_lt hbox); have GE2 := Aside0.mk (show w.heap.size ≤ g2 by omega); have HB2 := Aside0.mk (HB.out.trans hb); clear HB hbox hb hg) | ((with_reducible refine gate_dst (N := 3) rfl ?_); refine box_event ?hg (N := 3) ?hd (cs := #[.int .i64 0, .int .i64 0, .int .i64 0, .int .i64 0, .int .i64 0, .int .i64 0, .int .i64 0, .int .i64 0, .int .i64 0, .int .i64 0]) (t := 58) ?hr ?_; (case hd => rfl); (case hg => rfl); (case hr => first | (go_simp; done) | (go_simp; rfl)); intro g3 hg w3 hbox hb; have BK3 := Aside0.mk hbox; have hne : g2 ≠ g3 := (by have := LT2.out; omega); have hne2 : g3 ≠ g2 := fun e => hne e.symm; have LT3 := Aside0.mk (show g2 < g3 by have := LT2.out; omega); have GE3 := Aside0.mk (show w.heap.size ≤ g3 by have := GE2.out; have := LT2.out; omega); have BK2' := Aside0.mk (blk_below BK2.out hb); clear BK2; have HB3 := Aside0.mk (HB2.out.trans (Below.mono hb HB2.out.size)); clear HB2 hbox hb hg; have zc0 : w3.cell? ⟨g3, 0, none⟩ = some (.int .i64 0) := (blk_cell BK3.out 0).trans rfl; have zf0 := blk_frozen BK3.out 0; have zc1 : w3.cell? ⟨g3, 1, none⟩ = some (.int .i64 0) := (blk_cell BK3.out 1).trans rfl; have zf1 := blk_frozen BK3.out 1; have zc2 : w3.cell? ⟨g3, 2, none⟩ = some (.int .i64 0) := (blk_cell BK3.out 2).trans rfl; have zf2 := blk_frozen BK3.out 2; have zc3 : w3.cell? ⟨g3, 3, none⟩ = some (.int .i64 0) := (blk_cell BK3.out 3).trans rfl; have zf3 := blk_frozen BK3.out 3; have zc4 : w3.cell? ⟨g3, 4, none⟩ = some (.int .i64 0) := (blk_cell BK3.out 4).trans rfl; have zf4 := blk_frozen BK3.out 4; have zc5 : w3.cell? ⟨g3, 5, none⟩ = some (.int .i64 0) := (blk_cell BK3.out 5).trans rfl; have zf5 := blk_frozen BK3.out 5; have zc6 : w3.cell? ⟨g3, 6, none⟩ = some (.int .i64 0) := (blk_cell BK3.out 6).trans rfl; have zf6 := blk_frozen BK3.out 6; have zc7 : w3.cell? ⟨g3, 7, none⟩ = some (.int .i64 0) := (blk_cell BK3.out 7).trans rfl; have zf7 := blk_frozen BK3.out 7; have zc8 : w3.cell? ⟨g3, 8, none⟩ = some (.int .i64 0) := (blk_cell BK3.out 8).trans rfl; have zf8 := blk_frozen BK3.out 8; have zc9 : w3.cell? ⟨g3, 9, none⟩ = some (.int .i64 0) := (blk_cell BK3.out 9).trans rfl; have zf9 := blk_frozen BK3.out 9) | ((with_reducible refine wpList_copy_splice rfl (.tmp 5) (.tmp 6) 22 22 rfl 3 Try.underlying22 impl_lineOf.sz (some ⟨g3, 0, none⟩) A0 10 10 l0.length c0 rfl rfl g3 0 [Value.int .i64 0, Value.int .i64 0, Value.int .i64 0, Value.int .i64 0, Value.int .i64 0, Value.int .i64 0, Value.int .i64 0, Value.int .i64 0, Value.int .i64 0, Value.int .i64 0] 58 ?cg (l0.map (Value.int .i64)) ?cn ?cp ?cf ?c1 g3 _ (Below.refl _ _) (Nat.le_refl _) ?_); (case cg => ((with_reducible repeat (refine blk_put (cs := #[Value.int .i64 0, Value.int .i64 0, Value.int .i64 0, Value.int .i64 0, Value.int .i64 0, Value.int .i64 0, Value.int .i64 0, Value.int .i64 0, Value.int .i64 0, Value.int .i64 0]) ?_ _ _ rfl)); exact BK3.out)); (case cn => (have := HL.out; rw [List.length_map]; exact (Nat.min_eq_left this).symm)); (case cp => exact fun h_ => ⟨rfl, impl_lineOf.src (Kd.C_below HR0.out (by repeat (with_reducible first | exact HB3.out | refine below_set ?_ GE3.out))) (by rw [List.length_map] at h_; exact h_)⟩); (case cf => (have := HL.out; rw [List.length_map]; simpa using this)); (case c1 => exact impl_lineOf.one l0); intro w4 hk hb4; have BK4 := Aside0.mk (impl_lineOf.sp hk.out HL.out HV.out); have BK5 : Aside0 (w4.heap[g2]? = some (.cells #[.int .i64 0, .int .i64 0, .int .i64 0, .int .i64 0, .int .i64 0, .int .i64 0, .int .i64 0, .int .i64 0, .int .i64 0, .int .i64 0] 58 (0, 0))) := ⟨(hb4.block g2 LT3.out).trans (by (with_reducible repeat (refine blk_far ?_ (show g2 ≠ (Addr.mk g3 _ none).block from hne) _)); exact BK2'.out)⟩; have HB4 : Aside0 (Below w.heap.size w w4) := ⟨below_then_ (by repeat (with_reducible first | exact HB3.out | refine below_set ?_ GE3.out)) GE3.out hb4⟩; clear hk hb4 BK3 BK2' HB3; clear zc0 zf0 zc1 zf1 zc2 zf2 zc3 zf3 zc4 zf4 zc5 zf5 zc6 zf6 zc7 zf7 zc8 zf8 zc9 zf9; have zc0 : w4.cell? ⟨g3, 0, none⟩ = some (.int .i64 r1) := (blk_cell BK4.out 0).trans rfl; have zf0 := blk_frozen BK4.out 0; have zc1 : w4.cell? ⟨g3, 1, none⟩ = some (.int .i64 r2) := (blk_cell BK4.out 1).trans rfl; have zf1 := blk_frozen BK4.out 1; have zc2 : w4.cell? ⟨g3, 2, none⟩ = some (.int .i64 r3) := (blk_cell BK4.out 2).trans rfl; have zf2 := blk_frozen BK4.out 2; have zc3 : w4.cell? ⟨g3, 3, none⟩ = some (.int .i64 r4) := (blk_cell BK4.out 3).trans rfl; have zf3 := blk_frozen BK4.out 3; have zc4 : w4.cell? ⟨g3, 4, none⟩ = some (.int .i64 r5) := (blk_cell BK4.out 4).trans rfl; have zf4 := blk_frozen BK4.out 4; have zc5 : w4.cell? ⟨g3, 5, none⟩ = some (.int .i64 r6) := (blk_cell BK4.out 5).trans rfl; have zf5 := blk_frozen BK4.out 5; have zc6 : w4.cell? ⟨g3, 6, none⟩ = some (.int .i64 r7) := (blk_cell BK4.out 6).trans rfl; have zf6 := blk_frozen BK4.out 6; have zc7 : w4.cell? ⟨g3, 7, none⟩ = some (.int .i64 r8) := (blk_cell BK4.out 7).trans rfl; have zf7 := blk_frozen BK4.out 7; have zc8 : w4.cell? ⟨g3, 8, none⟩ = some (.int .i64 r9) := (blk_cell BK4.out 8).trans rfl; have zf8 := blk_frozen BK4.out 8; have zc9 : w4.cell? ⟨g3, 9, none⟩ = some (.int .i64 r10) := (blk_cell BK4.out 9).trans rfl; have zf9 := blk_frozen BK4.out 9; have yc0 : w4.cell? ⟨g2, 0, none⟩ = some (.int .i64 0) := (blk_cell BK5.out 0).trans rfl; have yf0 := blk_frozen BK5.out 0; have yc1 : w4.cell? ⟨g2, 1, none⟩ = some (.int .i64 0) := (blk_cell BK5.out 1).trans rfl; have yf1 := blk_frozen BK5.out 1; have yc2 : w4.cell? ⟨g2, 2, none⟩ = some (.int .i64 0) := (blk_cell BK5.out 2).trans rfl; have yf2 := blk_frozen BK5.out 2; have yc3 : w4.cell? ⟨g2, 3, none⟩ = some (.int .i64 0) := (blk_cell BK5.out 3).trans rfl; have yf3 := blk_frozen BK5.out 3; have yc4 : w4.cell? ⟨g2, 4, none⟩ = some (.int .i64 0) := (blk_cell BK5.out 4).trans rfl; have yf4 := blk_frozen BK5.out 4; have yc5 : w4.cell? ⟨g2, 5, none⟩ = some (.int .i64 0) := (blk_cell BK5.out 5).trans rfl; have yf5 := blk_frozen BK5.out 5; have yc6 : w4.cell? ⟨g2, 6, none⟩ = some (.int .i64 0) := (blk_cell BK5.out 6).trans rfl; have yf6 := blk_frozen BK5.out 6; have yc7 : w4.cell? ⟨g2, 7, none⟩ = some (.int .i64 0) := (blk_cell BK5.out 7).trans rfl; have yf7 := blk_frozen BK5.out 7; have yc8 : w4.cell? ⟨g2, 8, none⟩ = some (.int .i64 0) := (blk_cell BK5.out 8).trans rfl; have yf8 := blk_frozen BK5.out 8; have yc9 : w4.cell? ⟨g2, 9, none⟩ = some (.int .i64 0) := (blk_cell BK5.out 9).trans rfl; have yf9 := blk_frozen BK5.out 9))
  refine bodyPost_ret (results_cell_row rfl _ _ g2 58 #[.int .i64 r1, .int .i64 r2, .int .i64 r3, .int .i64 r4, .int .i64 r5, .int .i64 r6, .int .i64 r7, .int .i64 r8, .int .i64 r9, .int .i64 r10] (0, 0) _ rfl ?_ Try.underlying58 rfl (by kernel_rfl)) rfl ⟨rfl, ?_⟩
  · refine blk_put (cs := #[.int .i64 r1, .int .i64 r2, .int .i64 r3, .int .i64 r4, .int .i64 r5, .int .i64 r6, .int .i64 r7, .int .i64 r8, .int .i64 r9, .int .i64 0]) ?_ 9 _ rfl
    refine blk_put (cs := #[.int .i64 r1, .int .i64 r2, .int .i64 r3, .int .i64 r4, .int .i64 r5, .int .i64 r6, .int .i64 r7, .int .i64 r8, .int .i64 0, .int .i64 0]) ?_ 8 _ rfl
    refine blk_put (cs := #[.int .i64 r1, .int .i64 r2, .int .i64 r3, .int .i64 r4, .int .i64 r5, .int .i64 r6, .int .i64 r7, .int .i64 0, .int .i64 0, .int .i64 0]) ?_ 7 _ rfl
    refine blk_put (cs := #[.int .i64 r1, .int .i64 r2, .int .i64 r3, .int .i64 r4, .int .i64 r5, .int .i64 r6, .int .i64 0, .int .i64 0, .int .i64 0, .int .i64 0]) ?_ 6 _ rfl
    refine blk_put (cs := #[.int .i64 r1, .int .i64 r2, .int .i64 r3, .int .i64 r4, .int .i64 r5, .int .i64 0, .int .i64 0, .int .i64 0, .int .i64 0, .int .i64 0]) ?_ 5 _ rfl
    refine blk_put (cs := #[.int .i64 r1, .int .i64 r2, .int .i64 r3, .int .i64 r4, .int .i64 0, .int .i64 0, .int .i64 0, .int .i64 0, .int .i64 0, .int .i64 0]) ?_ 4 _ rfl
    refine blk_put (cs := #[.int .i64 r1, .int .i64 r2, .int .i64 r3, .int .i64 0, .int .i64 0, .int .i64 0, .int .i64 0, .int .i64 0, .int .i64 0, .int .i64 0]) ?_ 3 _ rfl
    refine blk_put (cs := #[.int .i64 r1, .int .i64 r2, .int .i64 0, .int .i64 0, .int .i64 0, .int .i64 0, .int .i64 0, .int .i64 0, .int .i64 0, .int .i64 0]) ?_ 2 _ rfl
    refine blk_put (cs := #[.int .i64 r1, .int .i64 0, .int .i64 0, .int .i64 0, .int .i64 0, .int .i64 0, .int .i64 0, .int .i64 0, .int .i64 0, .int .i64 0]) ?_ 1 _ rfl
    refine blk_put (cs := #[.int .i64 0, .int .i64 0, .int .i64 0, .int .i64 0, .int .i64 0, .int .i64 0, .int .i64 0, .int .i64 0, .int .i64 0, .int .i64 0]) ?_ 0 _ rfl
    exact BK5.out
  · repeat (with_reducible first | exact HB4.out | refine below_set ?_ GE2.out)
end Go.Proofs.Ytjahclncpgllmaa.F
end

section
namespace Go.Proofs.Ytjahclncpgllmaa.Q
open Go.RowKit Go.Proofs.YtjahclncpgllmaaW.PrintWords Go.Proofs.Ytjahclncpgllmaa.F
set_option linter.unusedVariables false
abbrev I10 := Int × Int × Int × Int × Int × Int × Int × Int × Int × Int
def T10 (w : List Int) : I10 := (w.getD 0 0, w.getD 1 0, w.getD 2 0, w.getD 3 0, w.getD 4 0, w.getD 5 0, w.getD 6 0, w.getD 7 0, w.getD 8 0, w.getD 9 0)
theorem lineOf_eq {w : List Int} (h : w.length ≤ 10) : impl_lineOf.f w = some (T10 w) := by unfold impl_lineOf.f; rw [if_pos h]; rfl
def list10 (w : List Int) (n : Int) : Option (List Int) := impl_line_list.f (w.getD 0 0) (w.getD 1 0) (w.getD 2 0) (w.getD 3 0) (w.getD 4 0) (w.getD 5 0) (w.getD 6 0) (w.getD 7 0) (w.getD 8 0) (w.getD 9 0) n
theorem list10_eq {w : List Int} {n : Nat} (hn : w.length = n) (h : n ≤ 10) : list10 w (n : Int) = some w := by
  unfold list10 impl_line_list.f
  rw [if_pos (by omega), Int.toNat_natCast]
  subst hn
  congr 1
  refine ext_getD (by rw [List.length_take]; simp only [List.length_cons, List.length_nil]; omega) (fun i hi => ?_)
  rw [List.length_take] at hi
  have h1 : i < w.length := by omega
  have h2 : i < 10 := by omega
  rw [List.getD_eq_getElem?_getD, List.getElem?_take, if_pos h1]
  match i, h2 with
  | 0, _ => rfl
  | 1, _ => rfl
  | 2, _ => rfl
  | 3, _ => rfl
  | 4, _ => rfl
  | 5, _ => rfl
  | 6, _ => rfl
  | 7, _ => rfl
  | 8, _ => rfl
  | 9, _ => rfl
  | _ + 10, h => exact absurd h (by omega)
/-- What each of the program's exchanges does. -/
def exG (p : List Int) (a b : Int) (t t' : I10) : Option I10 :=
  if 0 ≤ a then (if a < (p.length : Int) then ((impl_has.f (rd p a) b).bind fun q => (if q = true then (some t) else (if 0 ≤ b then (if b < (p.length : Int) then ((impl_has.f (rd p b) a).bind fun q2 => (if q2 = true then (some t) else (some t'))) else (none)) else (none)))) else (none)) else (none)
theorem exG_eq {p : List Int} (hp : PO p) {a b : Nat} (ha : a < p.length) (hb : b < p.length) (h : (L p a).testBit b = false) (t t' : I10) :
    exG p (a : Int) (b : Int) t t' = some (if (L p b).testBit a then t else t') := by
  have hn := hp.small
  unfold exG
  rw [if_pos (by omega), if_pos (by omega), rdN, hp.val a ha, has_eq (lt_pow (L_lt hp ha) (by omega)) (by omega), h]
  simp only [Option.bind_some]
  rw [if_neg (by simp), if_pos (by omega), if_pos (by omega), rdN, hp.val b hb, has_eq (lt_pow (L_lt hp hb) (by omega)) (by omega)]
  simp only [Option.bind_some]
  cases (L p b).testBit a <;> rfl
def ex10 (p w : List Int) (i : Int) : Option I10 := impl_Poset_exchange.f p (w.getD 0 0) (w.getD 1 0) (w.getD 2 0) (w.getD 3 0) (w.getD 4 0) (w.getD 5 0) (w.getD 6 0) (w.getD 7 0) (w.getD 8 0) (w.getD 9 0) i
theorem ex10_eq {p : List Int} (hp : PO p) {w : List Int} (h : ordB p w = true) {i : Nat} (hi : i + 1 < w.length) : ex10 p w (i : Int) = some (T10 (togL p w i)) := by
  obtain ⟨a, b, s, x, y, H⟩ := ord_at h hi
  have hn := hp.small
  have hl := ordB_len h
  obtain ⟨ga, gb⟩ := H.get
  have key : ∀ t', t' = T10 (swp w i) → exG p (w.getD i 0) (w.getD (i + 1) 0) (T10 w) t' = some (T10 (togL p w i)) := by
    rintro t' rfl
    rw [ga, gb, exG_eq hp H.ha H.hb H.ba, H.tog]
    cases (L p b).testBit a <;> rfl
  have sg := swp_getD hi
  clear ga gb H
  unfold ex10 impl_Poset_exchange.f
  match i, hi with
  | 0, _ => rw [if_pos (by decide)]; exact key _ (by unfold T10; simp only [sg] <;> rfl)
  | 1, _ => rw [if_neg (by decide), if_pos (by decide)]; exact key _ (by unfold T10; simp only [sg] <;> rfl)
  | 2, _ => rw [if_neg (by decide), if_neg (by decide), if_pos (by decide)]; exact key _ (by unfold T10; simp only [sg] <;> rfl)
  | 3, _ => rw [if_neg (by decide), if_neg (by decide), if_neg (by decide), if_pos (by decide)]; exact key _ (by unfold T10; simp only [sg] <;> rfl)
  | 4, _ => rw [if_neg (by decide), if_neg (by decide), if_neg (by decide), if_neg (by decide), if_pos (by decide)]; exact key _ (by unfold T10; simp only [sg] <;> rfl)
  | 5, _ => rw [if_neg (by decide), if_neg (by decide), if_neg (by decide), if_neg (by decide), if_neg (by decide), if_pos (by decide)]; exact key _ (by unfold T10; simp only [sg] <;> rfl)
  | 6, _ => rw [if_neg (by decide), if_neg (by decide), if_neg (by decide), if_neg (by decide), if_neg (by decide), if_neg (by decide), if_pos (by decide)]; exact key _ (by unfold T10; simp only [sg] <;> rfl)
  | 7, _ => rw [if_neg (by decide), if_neg (by decide), if_neg (by decide), if_neg (by decide), if_neg (by decide), if_neg (by decide), if_neg (by decide), if_pos (by decide)]; exact key _ (by unfold T10; simp only [sg] <;> rfl)
  | 8, _ => rw [if_neg (by decide), if_neg (by decide), if_neg (by decide), if_neg (by decide), if_neg (by decide), if_neg (by decide), if_neg (by decide), if_neg (by decide), if_pos (by decide)]; exact key _ (by unfold T10; simp only [sg] <;> rfl)
  | _ + 9, hj => exact absurd hj (by omega)
theorem l1Own_eq {w : List Int} (h : w.length ≤ 1000) : spec_l1Own.f w = some w := by
  unfold spec_l1Own.f
  simp only [Option.bind_some]
  rw [if_pos (by simp; omega)]; rfl
theorem liToggle_eq {p : List Int} (hp : PO p) {w : List Int} (h : ordB p w = true) {i : Nat} (hi : i + 1 < w.length) : spec_liToggle.f p w (i : Int) = some (togL p w i) := by
  obtain ⟨a, b, s, x, y, H⟩ := ord_at h hi
  have hn := hp.small
  have hl := ordB_len h
  have ha := H.ha
  have hb := H.hb
  unfold spec_liToggle.f
  rw [l1Own_eq (by omega)]
  simp only [Option.bind_some]
  rw [wid1 (i := i) (n := w.length) (by omega) (by omega), if_pos (by omega), if_pos (by omega), if_pos (by omega), if_pos (by omega), rdN, rdN, H.get.1, H.get.2]
  have e : spec_liLess.f p (a : Int) (b : Int) = some ((L p b).testBit a) := by
    unfold spec_liLess.f
    rw [if_pos (by omega), if_pos (by omega), rdN, hp.val b hb, poIn_eq (by omega)]; rfl
  rw [e, H.tog]
  simp only [Option.bind_some]
  cases hc : (L p b).testBit a with
  | true => rw [if_pos rfl, if_pos rfl]
  | false =>
    rw [if_neg (by simp), if_pos (by omega), if_pos (by omega), if_neg (by simp), Int.toNat_natCast, Int.toNat_natCast]
    unfold swp
    rw [H.get.1, H.get.2]
end Go.Proofs.Ytjahclncpgllmaa.Q
end

section
namespace Go.Proofs.Ytjahclncpgllmaa.Q
open Go.RowKit Go.Proofs.YtjahclncpgllmaaW.PrintWords Go.Proofs.Ytjahclncpgllmaa.F
set_option linter.unusedVariables false
theorem l1Same_run {a b : List Int} (hl : a.length = b.length) (h : a.length ≤ 1000) : ∀ i, i ≤ a.length → ∀ v : Bool, (v = true ↔ ∀ j, i ≤ j → j < a.length → a.getD j 0 = b.getD j 0) → Ev (fun k => spec_l1Same.l0 k a b (a.length : Int) (i : Int)) v := by
  refine downTo _ ?_ ?_
  · intro v hv
    refine Ev.step (by intro k; simp only [spec_l1Same.l0]; rfl) (Ev.no (by omega) (Ev.ret ?_))
    symm; rw [hv]; intro j h1 h2; omega
  · intro i hi ih v hv
    refine Ev.step (by intro k; simp only [spec_l1Same.l0]; rfl) (Ev.yes (by omega) (Ev.yes (by omega) (Ev.yes (by omega) (Ev.yes (by omega) ?_))))
    rw [rdN, rdN, wid (by omega) (by omega)]
    refine Ev.ite (fun he => ?_) (fun he => ?_)
    · refine ih v (hv.trans ?_)
      constructor
      · intro g j h1 h2
        exact g j (by omega) h2
      · intro g j h1 h2
        rcases Nat.lt_or_ge i j with h3 | h3
        · exact g j h3 h2
        · have : j = i := by omega
          rw [this]; exact he
    · refine Ev.ret ?_
      cases v with
      | false => rfl
      | true => exact absurd (hv.1 rfl i (Nat.le_refl _) hi) he
theorem l1Same_ev {a b : List Int} (hl : a.length = b.length) (h : a.length ≤ 1000) : Ev (fun k => spec_l1Same.f k a b) (decide (a = b)) := by
  unfold spec_l1Same.f
  refine Ev.yes (by omega) (l1Same_run hl h 0 (Nat.zero_le _) _ ?_)
  rw [decide_eq_true_eq]
  exact ⟨fun g j _ _ => by rw [g], fun g => ext_getD hl (fun i hi => g i (Nat.zero_le _) hi)⟩
theorem T10_same {a b : List Int} (hl : a.length = b.length) (h : a.length ≤ 10) : ((T10 a).1 == (T10 b).1 && ((T10 a).2.1 == (T10 b).2.1 && ((T10 a).2.2.1 == (T10 b).2.2.1 && ((T10 a).2.2.2.1 == (T10 b).2.2.2.1 && ((T10 a).2.2.2.2.1 == (T10 b).2.2.2.2.1 && ((T10 a).2.2.2.2.2.1 == (T10 b).2.2.2.2.2.1 && ((T10 a).2.2.2.2.2.2.1 == (T10 b).2.2.2.2.2.2.1 && ((T10 a).2.2.2.2.2.2.2.1 == (T10 b).2.2.2.2.2.2.2.1 && ((T10 a).2.2.2.2.2.2.2.2.1 == (T10 b).2.2.2.2.2.2.2.2.1 && ((T10 a).2.2.2.2.2.2.2.2.2 == (T10 b).2.2.2.2.2.2.2.2.2)))))))))) = decide (a = b) := by
  rw [Bool.eq_iff_iff]
  simp only [T10, Bool.and_eq_true, beq_iff_eq, decide_eq_true_eq]
  constructor
  · rintro ⟨h0, h1, h2, h3, h4, h5, h6, h7, h8, h9⟩
    refine ext_getD hl (fun i hi => ?_)
    have hi10 : i < 10 := by omega
    match i, hi10 with
    | 0, _ => exact h0
    | 1, _ => exact h1
    | 2, _ => exact h2
    | 3, _ => exact h3
    | 4, _ => exact h4
    | 5, _ => exact h5
    | 6, _ => exact h6
    | 7, _ => exact h7
    | 8, _ => exact h8
    | 9, _ => exact h9
    | _ + 10, h => exact absurd h (by omega)
  · rintro rfl
    exact ⟨rfl, rfl, rfl, rfl, rfl, rfl, rfl, rfl, rfl, rfl⟩
theorem T10_conj {a b : List Int} (hl : a.length = b.length) (h : a.length ≤ 10) : (a.getD 0 0 = b.getD 0 0 ∧ a.getD 1 0 = b.getD 1 0 ∧ a.getD 2 0 = b.getD 2 0 ∧ a.getD 3 0 = b.getD 3 0 ∧ a.getD 4 0 = b.getD 4 0 ∧ a.getD 5 0 = b.getD 5 0 ∧ a.getD 6 0 = b.getD 6 0 ∧ a.getD 7 0 = b.getD 7 0 ∧ a.getD 8 0 = b.getD 8 0 ∧ a.getD 9 0 = b.getD 9 0) ↔ a = b := by
  have := T10_same hl h
  rw [Bool.eq_iff_iff] at this
  simp only [T10, Bool.and_eq_true, beq_iff_eq, decide_eq_true_eq] at this
  exact this
end Go.Proofs.Ytjahclncpgllmaa.Q
end

section
namespace Go.Proofs.Ytjahclncpgllmaa.Q
open Go.RowKit Go.Proofs.YtjahclncpgllmaaW.PrintWords Go.Proofs.Ytjahclncpgllmaa.F
set_option linter.unusedVariables false
theorem upL_len (p w : List Int) : ∀ d, (upL p w d).length = w.length := by
  intro d
  induction d with
  | zero => rfl
  | succ d ih => unfold upL; rw [togL_len, ih]
theorem liUp_ev {p : List Int} (hp : PO p) {w : List Int} (hw : ordB p w = true) (d : Nat) (hd : d + 1 ≤ w.length) : Ev (fun k => spec_liUp.f k p w (d : Int)) (upL p w d) := by
  have hn := hp.small
  have hl := ordB_len hw
  unfold spec_liUp.f
  have key : ∀ i, i ≤ d → Ev (fun k => spec_liUp.l0 k (upL p w i) (d : Int) (i : Int) p) (upL p w d) := by
    refine downTo _ ?_ ?_
    · exact Ev.step (by intro k; simp only [spec_liUp.l0]; rfl) (Ev.no (by omega) (Ev.now _))
    · intro i hi ih
      have := upL_ok hw i (by omega)
      refine Ev.step (by intro k; simp only [spec_liUp.l0]; rfl) (Ev.yes (by omega) (Ev.call (liToggle_eq hp this.1 (by omega)) ?_))
      rw [wid1 hi (by omega)]
      exact ih
  exact key 0 (by omega)
def proL (p w : List Int) : List Int := upL p w (p.length - 1)
def pro10 (k : Nat) (p w : List Int) : Option I10 := impl_Poset_promoted.f k p (w.getD 0 0) (w.getD 1 0) (w.getD 2 0) (w.getD 3 0) (w.getD 4 0) (w.getD 5 0) (w.getD 6 0) (w.getD 7 0) (w.getD 8 0) (w.getD 9 0)
theorem pro10_ev {p : List Int} (hp : PO p) {w : List Int} (hw : ordB p w = true) : Ev (fun k => pro10 k p w) (T10 (proL p w)) := by
  have h1 := hp.pos
  have h2 := hp.small
  have hl := ordB_len hw
  unfold pro10 impl_Poset_promoted.f
  refine Ev.call (show impl_Poset_n.f p = some (p.length : Int) from rfl) ?_
  have ew : wrap64 ((p.length : Int) - 1) = ((p.length - 1 : Nat) : Int) := by rw [wid (by omega) (by omega)]; omega
  rw [ew]
  have key : ∀ i, i ≤ p.length - 1 → ∀ v, v = upL p w i → Ev (fun k => impl_Poset_promoted.l0 k ((p.length - 1 : Nat) : Int) (i : Int) p (v.getD 0 0) (v.getD 1 0) (v.getD 2 0) (v.getD 3 0) (v.getD 4 0) (v.getD 5 0) (v.getD 6 0) (v.getD 7 0) (v.getD 8 0) (v.getD 9 0)) (T10 (proL p w)) := by
    refine downTo _ ?_ ?_
    · rintro v rfl
      exact Ev.step (by intro k; simp only [impl_Poset_promoted.l0]; rfl) (Ev.no (by omega) (Ev.now _))
    · rintro i hi ih v rfl
      have := upL_ok hw i (by omega)
      refine Ev.step (by intro k; simp only [impl_Poset_promoted.l0]; rfl) (Ev.yes (by omega) (Ev.call (ex10_eq hp this.1 (by omega)) ?_))
      rw [wid1 (i := i) (n := p.length) (by omega) (by omega)]
      exact ih _ rfl
  exact key 0 (by omega) w rfl
def unL (p w : List Int) : List Int := dnL p 0 w (p.length - 1)
def un10 (k : Nat) (p w : List Int) : Option I10 := impl_Poset_unpromoted.f k p (w.getD 0 0) (w.getD 1 0) (w.getD 2 0) (w.getD 3 0) (w.getD 4 0) (w.getD 5 0) (w.getD 6 0) (w.getD 7 0) (w.getD 8 0) (w.getD 9 0)
theorem un10_ev {p : List Int} (hp : PO p) {w : List Int} (hw : ordB p w = true) : Ev (fun k => un10 k p w) (T10 (unL p w)) := by
  have h1 := hp.pos
  have h2 := hp.small
  have hl := ordB_len hw
  unfold un10 impl_Poset_unpromoted.f
  refine Ev.call (show impl_Poset_n.f p = some (p.length : Int) from rfl) ?_
  have ew : wrap64 ((p.length : Int) - 2) = ((p.length - 1 : Nat) : Int) - 1 := by rw [wid (by omega) (by omega)]; omega
  rw [ew]
  have key : ∀ d, d + 1 ≤ p.length → ∀ v, ordB p v = true → Ev (fun k => impl_Poset_unpromoted.l0 k ((d : Int) - 1) p (v.getD 0 0) (v.getD 1 0) (v.getD 2 0) (v.getD 3 0) (v.getD 4 0) (v.getD 5 0) (v.getD 6 0) (v.getD 7 0) (v.getD 8 0) (v.getD 9 0)) (T10 (dnL p 0 v d)) := by
    intro d
    induction d with
    | zero => intro _ v _; exact Ev.step (by intro k; simp only [impl_Poset_unpromoted.l0]; rfl) (Ev.no (by omega) (Ev.now _))
    | succ d ih =>
      intro hd v hv
      have hlv := ordB_len hv
      have hi : d + 1 < v.length := by omega
      have ei : ((d + 1 : Nat) : Int) - 1 = (d : Int) := by omega
      rw [ei]
      refine Ev.step (by intro k; simp only [impl_Poset_unpromoted.l0]; rfl) (Ev.yes (by omega) (Ev.call (ex10_eq hp hv hi) ?_))
      rw [show wrap64 ((d : Int) - 1) = (d : Int) - 1 from wid (by omega) (by omega)]
      have := ih (by omega) (togL p v d) (togL_ord hv hi)
      unfold dnL
      rw [Nat.zero_add]
      exact this
  exact key (p.length - 1) (by omega) w hw
/-- Evacuation: toggles below d, below d - 1, and so on. -/
def evL (p : List Int) : List Int → Nat → List Int
  | w, 0 => w
  | w, d + 1 => evL p (upL p w (d + 1)) d
theorem evL_ok {p : List Int} : ∀ (d : Nat) (w : List Int), ordB p w = true → d + 1 ≤ w.length → ordB p (evL p w d) = true ∧ (evL p w d).length = w.length := by
  intro d
  induction d with
  | zero => intro w h _; exact ⟨h, rfl⟩
  | succ d ih =>
    intro w h hd
    have h1 := upL_ok h (d + 1) hd
    obtain ⟨g1, g2⟩ := ih (upL p w (d + 1)) h1.1 (by omega)
    exact ⟨g1, by rw [show evL p w (d + 1) = evL p (upL p w (d + 1)) d from rfl, g2, h1.2]⟩
theorem liEvacuate_ev {p : List Int} (hp : PO p) {w : List Int} (hw : ordB p w = true) : Ev (fun k => spec_liEvacuate.f k p w) (evL p w (p.length - 1)) := by
  have h1 := hp.pos
  have h2 := hp.small
  have hl := ordB_len hw
  unfold spec_liEvacuate.f
  rw [show wrap64 ((w.length : Int) - 1) = ((p.length - 1 : Nat) : Int) by rw [wid (by omega) (by omega)]; omega]
  have key : ∀ d, d + 1 ≤ p.length → ∀ v, ordB p v = true → Ev (fun k => spec_liEvacuate.l0 k v (d : Int) p) (evL p v d) := by
    intro d
    induction d with
    | zero =>
      intro _ v hv
      have := ordB_len hv
      exact Ev.step (by intro k; simp only [spec_liEvacuate.l0]; rfl) (Ev.no (by omega) (Ev.call (l1Own_eq (w := v) (by omega)) (Ev.now _)))
    | succ d ih =>
      intro hd v hv
      have hlv := ordB_len hv
      refine Ev.step (by intro k; simp only [spec_liEvacuate.l0]; rfl) (Ev.yes (by omega) (Ev.bind (liUp_ev hp hv (d + 1) (by omega)) ?_))
      rw [show wrap64 (((d + 1 : Nat) : Int) - 1) = (d : Int) by rw [wid (by omega) (by omega)]; omega]
      exact ih (by omega) _ (upL_ok hv (d + 1) (by omega)).1
  exact key (p.length - 1) (by omega) w hw
def ev10 (k : Nat) (p w : List Int) : Option I10 := impl_Poset_evacuated.f k p (w.getD 0 0) (w.getD 1 0) (w.getD 2 0) (w.getD 3 0) (w.getD 4 0) (w.getD 5 0) (w.getD 6 0) (w.getD 7 0) (w.getD 8 0) (w.getD 9 0)
theorem ev10_ev {p : List Int} (hp : PO p) {w : List Int} (hw : ordB p w = true) : Ev (fun k => ev10 k p w) (T10 (evL p w (p.length - 1))) := by
  have h1 := hp.pos
  have h2 := hp.small
  have hl := ordB_len hw
  unfold ev10 impl_Poset_evacuated.f
  refine Ev.call (show impl_Poset_n.f p = some (p.length : Int) from rfl) ?_
  rw [show wrap64 ((p.length : Int) - 1) = ((p.length - 1 : Nat) : Int) by rw [wid (by omega) (by omega)]; omega]
  have key : ∀ d, d + 1 ≤ p.length → ∀ v, ordB p v = true → Ev (fun k => impl_Poset_evacuated.l0 k (d : Int) p (v.getD 0 0) (v.getD 1 0) (v.getD 2 0) (v.getD 3 0) (v.getD 4 0) (v.getD 5 0) (v.getD 6 0) (v.getD 7 0) (v.getD 8 0) (v.getD 9 0)) (T10 (evL p v d)) := by
    intro d
    induction d with
    | zero => intro _ v hv; exact Ev.step (by intro k; simp only [impl_Poset_evacuated.l0]; rfl) (Ev.no (by omega) (Ev.now _))
    | succ d ih =>
      intro hd v hv
      have hlv := ordB_len hv
      refine Ev.step (by intro k; simp only [impl_Poset_evacuated.l0]; rfl) (Ev.yes (by omega) ?_)
      have inner : ∀ i, i ≤ d + 1 → ∀ u, u = upL p v i → Ev (fun k => impl_Poset_evacuated.l1 k ((d + 1 : Nat) : Int) ((d + 1 : Nat) : Int) (i : Int) p (u.getD 0 0) (u.getD 1 0) (u.getD 2 0) (u.getD 3 0) (u.getD 4 0) (u.getD 5 0) (u.getD 6 0) (u.getD 7 0) (u.getD 8 0) (u.getD 9 0)) (T10 (evL p v (d + 1))) := by
        refine downTo _ ?_ ?_
        · rintro u rfl
          refine Ev.step (by intro k; simp only [impl_Poset_evacuated.l1]; rfl) (Ev.no (by omega) ?_)
          rw [show wrap64 (((d + 1 : Nat) : Int) - 1) = (d : Int) by rw [wid (by omega) (by omega)]; omega]
          exact ih (by omega) _ (upL_ok hv (d + 1) (by omega)).1
        · rintro i hi ihi u rfl
          have := upL_ok hv i (by omega)
          refine Ev.step (by intro k; simp only [impl_Poset_evacuated.l1]; rfl) (Ev.yes (by omega) (Ev.call (ex10_eq hp this.1 (by omega)) ?_))
          rw [wid1 (i := i) (n := p.length) (by omega) (by omega)]
          exact ihi _ rfl
      exact inner 0 (by omega) v rfl
  exact key (p.length - 1) (by omega) w hw
end Go.Proofs.Ytjahclncpgllmaa.Q
end

section
namespace Go.Proofs.Ytjahclncpgllmaa.Q
open Go.RowKit Go.Proofs.YtjahclncpgllmaaW.PrintWords Go.Proofs.Ytjahclncpgllmaa.F
set_option linter.unusedVariables false
def itL (f : List Int → List Int) (w : List Int) : Nat → List Int
  | 0 => w
  | t + 1 => itL f (f w) t
theorem itL_ok {p : List Int} {f : List Int → List Int} (hf : ∀ w, ordB p w = true → ordB p (f w) = true) : ∀ (t : Nat) (w : List Int), ordB p w = true → ordB p (itL f w t) = true := by
  intro t
  induction t with
  | zero => intro w h; exact h
  | succ t ih => intro w h; exact ih (f w) (hf w h)
theorem proL_ok {p : List Int} (hp : PO p) {w : List Int} (h : ordB p w = true) : ordB p (proL p w) = true := by
  have := hp.pos
  have := ordB_len h
  exact (upL_ok h (p.length - 1) (by omega)).1
theorem unL_ok {p : List Int} (hp : PO p) {w : List Int} (h : ordB p w = true) : ordB p (unL p w) = true := by
  have := hp.pos
  have := ordB_len h
  exact (dnL_ok 0 (p.length - 1) w h (by omega)).1
/-- A list behind so many promotions. -/
def promL (p w : List Int) (t : Int) : List Int := if 0 ≤ t then itL (proL p) w t.toNat else itL (unL p) w (-t).toNat
theorem promL_ok {p : List Int} (hp : PO p) {w : List Int} (h : ordB p w = true) (t : Int) : ordB p (promL p w t) = true := by
  unfold promL
  split
  · exact itL_ok (fun w => proL_ok hp) _ w h
  · exact itL_ok (fun w => unL_ok hp) _ w h
theorem liPromote_down {p : List Int} (hp : PO p) : ∀ (t : Nat) (w : List Int), t ≤ 1000 → ordB p w = true → Ev (fun k => spec_liPromote.l1 k w (-(t : Int)) p) (itL (unL p) w t) := by
  have h1 := hp.pos
  have h2 := hp.small
  intro t
  induction t with
  | zero =>
    intro w _ hw
    have := ordB_len hw
    exact Ev.step (by intro k; simp only [spec_liPromote.l1]; rfl) (Ev.no (by omega) (Ev.call (l1Own_eq (w := w) (by omega)) (Ev.now _)))
  | succ t ih =>
    intro w ht hw
    have hl := ordB_len hw
    refine Ev.step (by intro k; simp only [spec_liPromote.l1]; rfl) (Ev.yes (by omega) ?_)
    rw [show wrap64 ((w.length : Int) - 2) = ((p.length - 1 : Nat) : Int) - 1 by rw [wid (by omega) (by omega)]; omega]
    have key : ∀ d, d + 1 ≤ p.length → ∀ v, ordB p v = true → dnL p 0 v d = unL p w → Ev (fun k => spec_liPromote.l2 k v (-((t + 1 : Nat) : Int)) ((d : Int) - 1) p) (itL (unL p) w (t + 1)) := by
      intro d
      induction d with
      | zero =>
        intro _ v hv he
        refine Ev.step (by intro k; simp only [spec_liPromote.l2]; rfl) (Ev.no (by omega) ?_)
        rw [show wrap64 (-((t + 1 : Nat) : Int) + 1) = -(t : Int) by rw [wid (by omega) (by omega)]; omega]
        have hv2 : v = unL p w := he
        rw [hv2] at hv ⊢
        exact ih _ (by omega) hv
      | succ d ihd =>
        intro hd v hv he
        have hlv := ordB_len hv
        have ei : ((d + 1 : Nat) : Int) - 1 = (d : Int) := by omega
        rw [ei]
        refine Ev.step (by intro k; simp only [spec_liPromote.l2]; rfl) (Ev.yes (by omega) (Ev.call (liToggle_eq hp hv (by omega)) ?_))
        rw [show wrap64 ((d : Int) - 1) = (d : Int) - 1 from wid (by omega) (by omega)]
        refine ihd (by omega) _ (togL_ord hv (by omega)) ?_
        rw [← he]
        show dnL p 0 (togL p v d) d = dnL p 0 (togL p v (0 + d)) d
        rw [Nat.zero_add]
    exact key (p.length - 1) (by omega) w hw rfl
theorem liPromote_up {p : List Int} (hp : PO p) : ∀ (t : Nat) (w : List Int), t ≤ 1000 → ordB p w = true → Ev (fun k => spec_liPromote.l0 k w (t : Int) p) (itL (proL p) w t) := by
  have h1 := hp.pos
  have h2 := hp.small
  intro t
  induction t with
  | zero =>
    intro w _ hw
    refine Ev.step (by intro k; simp only [spec_liPromote.l0]; rfl) (Ev.no (by omega) ?_)
    exact liPromote_down hp 0 w (by omega) hw
  | succ t ih =>
    intro w ht hw
    have hl := ordB_len hw
    refine Ev.step (by intro k; simp only [spec_liPromote.l0]; rfl) (Ev.yes (by omega) ?_)
    rw [show wrap64 ((w.length : Int) - 1) = ((p.length - 1 : Nat) : Int) by rw [wid (by omega) (by omega)]; omega]
    refine Ev.bind (liUp_ev hp hw (p.length - 1) (by omega)) ?_
    rw [show wrap64 (((t + 1 : Nat) : Int) - 1) = (t : Int) by rw [wid (by omega) (by omega)]; omega]
    exact ih _ (by omega) (proL_ok hp hw)
theorem liPromote_ev {p : List Int} (hp : PO p) {w : List Int} (hw : ordB p w = true) (t : Int) (h0 : -1000 ≤ t) (h1 : t ≤ 1000) : Ev (fun k => spec_liPromote.f k p w t) (promL p w t) := by
  unfold spec_liPromote.f promL
  split
  · obtain ⟨n, rfl⟩ := Int.eq_ofNat_of_zero_le (show 0 ≤ t by assumption)
    exact liPromote_up hp n w (by omega) hw
  · obtain ⟨n, hn⟩ := Int.eq_ofNat_of_zero_le (show 0 ≤ -t by omega)
    obtain rfl : t = -(n : Int) := by omega
    refine Ev.step (by intro k; simp only [spec_liPromote.l0]; rfl) (Ev.no (by omega) ?_)
    rw [show (-(-(n : Int))).toNat = n by omega]
    exact liPromote_down hp n w (by omega) hw
end Go.Proofs.Ytjahclncpgllmaa.Q
end

section
namespace Go.Proofs.Ytjahclncpgllmaa.F
open Go.RowKit Go.Proofs.YtjahclncpgllmaaW.PrintWords Go.Proofs.YtjahclncpgllmaaW.PrintLast Go.Proofs.YtjahclncpgllmaaW.PrintMore
set_option linter.unusedVariables false
set_option linter.unusedSimpArgs false
def laws_markIntSS.l0 : Nat → List (List Int) → Int → Int → Option (Int × List (List Int))
  | 0, _, _, _ => none
  | k + 1, x0, x1, x5 => if x5 < (x0.length : Int) then (if 0 ≤ x5 then ((laws_markIntS.f k (rd_L1 x0 x5) x1).bind fun bt => (laws_markIntSS.l0 k (x0.set x5.toNat bt.2) bt.1 (wrap64 (x5 + 1)))) else none) else some (x1, x0)
def laws_markIntSS.f (k : Nat) (l0 : List (List Int)) (a1 : Int) : Option (Int × List (List Int)) := laws_markIntSS.l0 k l0 a1 0
theorem laws_markIntSS.mono_l : ∀ k, (∀ y0 y1 y2, LeO (laws_markIntSS.l0 k y0 y1 y2) (laws_markIntSS.l0 (k + 1) y0 y1 y2))
  | 0 => fun _ _ _ r h => by simp [laws_markIntSS.l0] at h
  | k + 1 => by
    have ih0 := laws_markIntSS.mono_l k
    intro y0 y1 y2
    unfold laws_markIntSS.l0
    refine LeO.ite (LeO.ite (LeO.bind (laws_markIntS.mono _ _ _) (fun _ => ih0 _ _ _)) (LeO.refl _)) (LeO.refl _)
theorem laws_markIntSS.mono : ∀ a0 a1 k, LeO (laws_markIntSS.f k a0 a1) (laws_markIntSS.f (k + 1) a0 a1) := fun a0 a1 k => laws_markIntSS.mono_l k _ _ _
set_option maxHeartbeats 8000000 in
set_option maxRecDepth 100000 in
theorem laws_markIntSS.calls (k : Nat) (P0_ : Nat → Prop) (u9000_ : Value) (l0 : List (List Int)) (a1 : Int) (r1 : Int) (r2 : List (List Int)) (w0 w : World) (hB : Below w0.heap.size w0 w) (ho0 : Kd.S (Kd.slice 3 (Kd.int .i64)) 22 w w0.heap.size P0_ u9000_ l0) (h : laws_markIntSS.f k l0 a1 = some (r1, r2)) :
    Calls Try.prog 34 #[u9000_, .int .i64 a1] w fun e w' => e = .returned (.int .i64 r1) ∧ Kd.S (Kd.slice 3 (Kd.int .i64)) 22 w' w0.heap.size P0_ u9000_ r2 ∧ Below w0.heap.size w0 w' ∧ Kept w w' (fun k_ => P0_ k_) := by
  have HO0 := Aside0.mk ho0
  have HK := Aside0.mk (Kept.refl w (fun k_ => P0_ k_))
  have HW0 := Aside0.mk hB.size
  have HB := Aside0.mk hB
  clear hB ho0
  have H : (laws_markIntSS.l0 k l0 a1 0) = some (r1, r2) := h
  clear h
  have H' := Aside0.mk H
  clear H
  go_enter Try.func34, Try.ntmps34
  go_wp2
  go_loopg [1, 5] k (fun kq v1 v5 w' => ∃ (x0_1 : List (List Int)) (x1_1 : Int) (x5_1 : Int), v1 = .int .i64 x1_1 ∧ v5 = .int .i64 x5_1 ∧ Aside0 (laws_markIntSS.l0 kq x0_1 x1_1 x5_1 = some (r1, r2)) ∧ Aside0 (kq ≤ k) ∧ Aside0 (Kd.S (Kd.slice 3 (Kd.int .i64)) 22 w' w0.heap.size P0_ u9000_ x0_1) ∧ Aside0 (Kept w w' (fun k_ => P0_ k_)) ∧ Aside0 (Below w0.heap.size w0 w'))
  case atStart => exact ⟨(l0), (a1), (0), (by first | rfl | (simp; done) | (simp [*]; done)), (by first | rfl | (simp; done) | (simp [*]; done)), H', ⟨Nat.le_refl _⟩, ⟨by (with_reducible repeat (first | apply Kd.S_alloc | apply Kd.S_drewN | apply Kd.S_drew)); exact HO0.out⟩, ⟨by repeat (first | (with_reducible first | exact HK.out | apply Kept.alloc | apply Kept.drewN | apply Kept.drew) | exact HK.out)⟩, ⟨by repeat (first | (with_reducible first | exact HB.out | apply below_alloc | apply pw_below_drewN | apply below_drew1) | exact HB.out)⟩⟩
  case round =>
    clear H'
    try clear c2
    try clear p2
    obtain ⟨x0_1, x1_1, x5_1, rfl, rfl, HA, HK1, HO_0, HK, HB⟩ := hrel
    cases gk with
    | zero => exact absurd HA.out (by simp [laws_markIntSS.l0])
    | succ k1 =>
      have H := HA.out
      clear HA
      simp only [laws_markIntSS.l0] at H
      by_cases c3 : x5_1 < (x0_1.length : Int)
      · rw [if_pos c3] at H
        have c3b0 : decide (x5_1 < (x0_1.length : Int)) = true := decide_eq_true c3
        by_cases c4 : 0 ≤ x5_1
        · rw [if_pos c4] at H
          have c4b0 : decide (0 ≤ x5_1) = true := decide_eq_true c4
          replace H := Option.bind_eq_some_iff.mp H
          obtain ⟨⟨t1, t2⟩, A50, H⟩ := H
          replace H : (laws_markIntSS.l0 k1 (x0_1.set x5_1.toNat t2) t1 (wrap64 (x5_1 + 1))) = some (r1, r2) := H
          have A5 := Aside0.mk A50
          clear A50
          have H' := Aside0.mk H
          clear H
          obtain ⟨Ao6, co6, eo6⟩ := Kd.S_slice HO_0.out
          subst eo6
          obtain ⟨go5, co5, eo5, gb5, gl5, cl5, HG5⟩ := Kd.S_form HO_0.out (by omega)
          (first | cases eo5 | (injection eo5 with ea_ en_ ec_; (first | subst ea_ | (injection ea_ with ea_; subst ea_)); subst ec_; clear en_))
          obtain ⟨oki, c, hcl, hM, hcc, hoki, hH⟩ := Kd.S_lend HO_0.out [] x5_1 c4 c3
          obtain ⟨v, rfl, hR0⟩ := hM
          have hR : Kd.R (Kd.int .i64) 3 wr w0.heap.size oki v (rd_L1 x0_1 x5_1) := hR0
          clear hR0
          obtain ⟨Ae, ce, rfl⟩ := Kd.R_slice hR
          have hx5_0 : wr.cell? ⟨go5, x5_1.toNat, none⟩ = some (.slice Ae (rd_L1 x0_1 x5_1).length ce) := by
            have := hcc 0 _ rfl
            rw [show (Kd.slice 3 (Kd.int .i64)).sz = 1 from rfl, Nat.mul_one, Nat.add_zero] at this
            exact this
          have HR := Aside0.mk hR
          have HH := Aside0.mk hH
          have HI := Aside0.mk hoki
          clear hR hH hoki hcc hcl gb5 gl5 HG5
          have p5 : 0 ≤ (x5_1 : Int) := c4
          have q5 : (x5_1 : Int) < ((x0_1.length : Int) : Int) := c3
          clear c3 c4
          replace p5 := eq_true p5
          replace q5 := eq_true q5
          go_wp2_with fail
          refine (laws_markIntS.calls k1 (fun k_ => some k_ = (.slice Ae (rd_L1 x0_1 x5_1).length ce : Value).ownBlock) (.slice Ae (rd_L1 x0_1 x5_1).length ce) (rd_L1 x0_1 x5_1) x1_1 t1 t2 w0 _ ?side1 ?side2 A5.out).mono ?_
          case side1 => repeat (first | (with_reducible first | exact HB.out | apply below_alloc | apply pw_below_drewN | apply below_drew1) | exact HB.out)
          case side2 => (with_reducible repeat (first | apply Kd.R_alloc | apply Kd.R_drewN | apply Kd.R_drew)); exact Kd.R_tight rfl HR.out
          rintro e w7 ⟨rfl, hy0, hb, hkp⟩
          have hown := HR.out.1
          have hm2 : Kd.R (Kd.int .i64) 3 w7 w0.heap.size oki (.slice Ae (rd_L1 x0_1 x5_1).length ce) t2 := Kd.R_reok rfl hy0 (fun k_ e_ => hown k_ e_)
          have hh2 := Kd.H_step (w1 := w7) HH.out (fun k_ _ hn_ hl_ => hkp.2 k_ hl_ (fun e_ => hn_ (hown k_ e_.symm)))
          have n0_ := Aside0.mk (Kd.H_back hh2 ⟨_, rfl, hm2⟩ (fun _ hk_ => hk_))
          have n2_ := Aside0.mk (Kept.then_ (S := (fun k_ => P0_ k_)) HK.out hkp (fun k_ hs_ => .inl (HI.out k_ (hown k_ hs_.symm)).1))
          have n3_ := Aside0.mk hb
          clear HO_0 HR HH HI HK HB hm2 hh2 hown
          have HO_0 := n0_
          have HK := n2_
          have HB := n3_
          clear n0_ n2_ n3_ hb hkp hy0
          go_wp2
          go_roundg k1
          case measure => have := HK1.out; omega
          case rel => exact ⟨(x0_1.set x5_1.toNat t2), t1, (wrap64 (x5_1 + 1)), (by first | rfl | (simp; done) | (simp [*]; done)), (by first | rfl | (simp; done) | (simp [*]; done)), H', ⟨by have := HK1.out; omega⟩, ⟨by (with_reducible repeat (first | apply Kd.S_alloc | apply Kd.S_drewN | apply Kd.S_drew)); exact HO_0.out⟩, ⟨by repeat (first | (with_reducible first | exact HK.out | apply Kept.alloc | apply Kept.drewN | apply Kept.drew) | exact HK.out)⟩, ⟨by repeat (first | (with_reducible first | exact HB.out | apply below_alloc | apply pw_below_drewN | apply below_drew1) | exact HB.out)⟩⟩
        · rw [if_neg c4] at H
          exact absurd H (by simp)
      · rw [if_neg c3] at H
        have c3b0 : decide (x5_1 < (x0_1.length : Int)) = false := decide_eq_false c3
        clear c3
        simp only [Option.some.injEq, Prod.mk.injEq] at H
        obtain ⟨rfl, rfl⟩ := H
        obtain ⟨Ao9, co9, eo9⟩ := Kd.S_slice HO_0.out
        subst eo9
        go_wp2
        go_ret
        exact ⟨by first | rfl | (simp [errW_none, errW_some] <;> rfl) | (simp [*, errW_none, errW_some] <;> rfl), by (with_reducible repeat (first | apply Kd.S_alloc | apply Kd.S_drewN | apply Kd.S_drew)); exact HO_0.out, by repeat (first | (with_reducible first | exact HB.out | apply below_alloc | apply pw_below_drewN | apply below_drew1) | exact HB.out), by repeat (first | (with_reducible first | exact HK.out | apply Kept.alloc | apply Kept.drewN | apply Kept.drew) | exact HK.out)⟩
end Go.Proofs.Ytjahclncpgllmaa.F
end

section
namespace Go.Proofs.Ytjahclncpgllmaa.Q
open Go.RowKit Go.Proofs.YtjahclncpgllmaaW.PrintWords Go.Proofs.Ytjahclncpgllmaa.F
set_option linter.unusedVariables false
/-- Rows of running numbers, of the lengths of these. -/
def upRows : Nat → List (List Int) → List (List Int)
  | _, [] => []
  | a, q :: l => upFrom a q.length :: upRows (a + q.length) l
def totLen : List (List Int) → Nat
  | [] => 0
  | q :: l => q.length + totLen l
theorem upRows_len (a : Nat) (l : List (List Int)) : (upRows a l).length = l.length := by
  induction l generalizing a with
  | nil => rfl
  | cons q l ih => simp [upRows, ih]
theorem rdRows_app (p : List (List Int)) (q : List Int) (l : List (List Int)) : rd_L1 (p ++ q :: l) ((p.length : Nat) : Int) = q := by
  unfold rd_L1; rw [Int.toNat_natCast, List.getD_eq_getElem?_getD, List.getElem?_append_right (Nat.le_refl _), Nat.sub_self]; rfl
theorem set_app (p : List (List Int)) (q x : List Int) (l : List (List Int)) : (p ++ q :: l).set p.length x = (p ++ [x]) ++ l := by
  rw [List.set_append_right _ _ (Nat.le_refl _), Nat.sub_self]; simp
theorem markIntSS_go (l : List (List Int)) : ∀ (p : List (List Int)) (a : Nat), a + totLen l ≤ 4611686018427387904 → p.length + l.length ≤ 9223372036854775807 →
    Ev (fun k => laws_markIntSS.l0 k (p ++ l) (a : Int) ((p.length : Nat) : Int)) (((a + totLen l : Nat) : Int), p ++ upRows a l) := by
  induction l with
  | nil =>
    intro p a h hp
    refine Ev.step (by intro k; simp only [laws_markIntSS.l0]; rfl) (Ev.no (by simp) (Ev.ret ?_))
    simp [totLen, upRows]
  | cons q l ih =>
    intro p a h hp
    simp only [totLen, List.length_cons] at h hp
    refine Ev.step (by intro k; simp only [laws_markIntSS.l0]; rfl) (Ev.yes (by rw [List.length_append, List.length_cons]; omega) (Ev.yes (by omega) ?_))
    rw [rdRows_app]
    refine Ev.bind (markIntS_ev q a (by omega)) ?_
    rw [Int.toNat_natCast, set_app, wid1 (i := p.length) (n := p.length + (l.length + 1)) (by omega) (by omega)]
    have := ih (p ++ [upFrom a q.length]) (a + q.length) (by omega) (by rw [List.length_append, List.length_singleton]; omega)
    rw [List.length_append, List.length_singleton] at this
    refine evc this ?_
    simp only [totLen, upRows, List.append_assoc, List.singleton_append, Nat.add_assoc]
theorem markIntSS_ev1 (l : List (List Int)) (h : totLen l ≤ 4611686018427387000) (hl : l.length ≤ 9223372036854775807) : Ev (fun k => laws_markIntSS.f k l 1) (((1 + totLen l : Nat) : Int), upRows 1 l) := by
  exact markIntSS_go l [] 1 (by omega) (by simpa using hl)
theorem heldIntSS_go (l : List (List Int)) : ∀ (p : List (List Int)) (a : Nat), a + totLen l ≤ 4611686018427387904 → p.length + l.length ≤ 9223372036854775807 →
    Ev (fun k => laws_heldIntSS.l0 k (p ++ upRows a l) (a : Int) ((p.length : Nat) : Int)) ((a + totLen l : Nat) : Int) := by
  induction l with
  | nil =>
    intro p a h hp
    refine Ev.step (by intro k; simp only [laws_heldIntSS.l0]; rfl) (Ev.no (by simp [upRows]) (Ev.ret ?_))
    simp [totLen]
  | cons q l ih =>
    intro p a h hp
    simp only [totLen, List.length_cons] at h hp
    simp only [upRows]
    refine Ev.step (by intro k; simp only [laws_heldIntSS.l0]; rfl) (Ev.yes (by rw [List.length_append, List.length_cons]; omega) (Ev.yes (by omega) ?_))
    rw [rdRows_app]
    refine Ev.bind (heldIntS_ev a q.length (by omega)) (Ev.no (by omega) ?_)
    rw [wid1 (i := p.length) (n := p.length + (l.length + 1)) (by omega) (by omega)]
    have := ih (p ++ [upFrom a q.length]) (a + q.length) (by omega) (by rw [List.length_append, List.length_singleton]; omega)
    rw [List.length_append, List.length_singleton, List.append_assoc, List.singleton_append] at this
    refine evc this ?_
    simp only [totLen, Nat.add_assoc]
theorem heldIntSS_ev1 (l : List (List Int)) (h : totLen l ≤ 4611686018427387000) (hl : l.length ≤ 9223372036854775807) : Ev (fun k => laws_heldIntSS.f k (upRows 1 l) 1) ((1 + totLen l : Nat) : Int) := by
  exact heldIntSS_go l [] 1 (by omega) (by simpa using hl)
theorem totLen_le (m : Nat) (l : List (List Int)) (h : ∀ q ∈ l, q.length ≤ m) : totLen l ≤ l.length * m := by
  induction l with
  | nil => exact Nat.zero_le _
  | cons q l ih =>
    have h1 := h q List.mem_cons_self
    have h2 := ih (fun x hx => h x (List.mem_cons_of_mem _ hx))
    simp only [totLen, List.length_cons, Nat.add_mul]
    omega
theorem totLen_small {l : List (List Int)} (h : l.length ≤ 1048576) (h2 : ∀ q ∈ l, q.length ≤ 1048576) : totLen l ≤ 4611686018427387000 := by
  have h3 := totLen_le 1048576 l h2
  have h4 := Nat.mul_le_mul_right 1048576 h
  omega
theorem totLen_few {l : List (List Int)} (h : l.length ≤ 1000) (h2 : ∀ q ∈ l, q.length ≤ 1000) : totLen l ≤ 1000000 := by
  have h3 := totLen_le 1000 l h2
  have h4 := Nat.mul_le_mul_right 1000 h
  omega
end Go.Proofs.Ytjahclncpgllmaa.Q
end

section
namespace Go.Proofs.Ytjahclncpgllmaa.F
open Go.RowKit Go.Proofs.YtjahclncpgllmaaW.PrintWords Go.Proofs.YtjahclncpgllmaaW.PrintLast Go.Proofs.YtjahclncpgllmaaW.PrintMore
set_option linter.unusedVariables false
set_option linter.unusedSimpArgs false
def orRun (k : Nat) (p w : List Int) : Nat → List (List Int) → List Int → Option (List (List Int) × Bool)
  | 0, _, _ => none
  | d + 1, rows, now => (spec_l1Same.f k now w).bind fun b => if b = true then some (rows, true) else if (rows.length : Int) = 500 then some ([], false) else if rows.length ≤ 500 then (spec_liPromote.f k p now 1).bind fun nw => orRun k p w d (rows ++ [now]) nw else none
def spec_PromotionOrbit.f (k : Nat) (l0_0 : List Int) (l1 : List Int) : Option (List (List Int) × Bool) :=
  (spec_liGiven.f k l0_0 l1).bind fun b => if b = true then (spec_l1Own.f l1).bind fun o => (spec_liPromote.f k l0_0 l1 1).bind fun nw => orRun k l0_0 l1 k [o] nw else some ([], false)
theorem orRun_mono (p w : List Int) (k : Nat) : ∀ d rows now, LeO (orRun k p w d rows now) (orRun (k + 1) p w (d + 1) rows now)
  | 0, _, _ => fun r h => by cases h
  | d + 1, rows, now => by
    unfold orRun
    exact LeO.bind (spec_l1Same.mono _ _ _) (fun b => LeO.ite (LeO.refl _) (LeO.ite (LeO.refl _) (LeO.ite (LeO.bind (spec_liPromote.mono _ _ _ _) (fun nw => orRun_mono p w k d _ _)) (LeO.refl _))))
theorem spec_PromotionOrbit.mono : ∀ a0 a1 k, LeO (spec_PromotionOrbit.f k a0 a1) (spec_PromotionOrbit.f (k + 1) a0 a1) := fun a0 a1 k => by
  unfold spec_PromotionOrbit.f
  exact LeO.bind (spec_liGiven.mono _ _ _) (fun b => LeO.ite (LeO.bind (LeO.refl _) (fun _ => LeO.bind (spec_liPromote.mono _ _ _ _) (fun _ => orRun_mono _ _ _ _ _ _))) (LeO.refl _))
set_option maxHeartbeats 8000000 in
set_option maxRecDepth 100000 in
theorem spec_PromotionOrbit.calls (k : Nat) (A0_0 : Option Addr) (c0_0 : Nat) (l0_0 : List Int) (A1 : Option Addr) (c1 : Nat) (l1 : List Int) (r1 : List (List Int)) (r2 : Bool) (w : World) (hr0_0 : Kd.C (Kd.int .i64) w A0_0 l0_0.length l0_0) (hc0_0 : l0_0.length ≤ c0_0) (hr1 : Kd.C (Kd.int .i64) w A1 l1.length l1) (hc1 : l1.length ≤ c1) (h : spec_PromotionOrbit.f k l0_0 l1 = some (r1, r2)) :
    Calls Try.prog 46 #[.agg #[.slice A0_0 l0_0.length c0_0], .slice A1 l1.length c1] w fun e w' => ∃ v0_ : Value, e = .returned (.tuple #[v0_, .bool r2]) ∧ Kd.S (Kd.slice 3 (Kd.int .i64)) 22 w' w.heap.size (fun _ => True) v0_ r1 ∧ Below w.heap.size w w' := by
  have hu30 := Try.underlying28
  unfold spec_PromotionOrbit.f at h
  obtain ⟨b, hb, h⟩ := Option.bind_eq_some_iff.1 h
  have HR0 := Aside0.mk hr0_0
  have HC0 := Aside0.mk hc0_0
  have HR1 := Aside0.mk hr1
  have HC1 := Aside0.mk hc1
  have HLI := Aside0.mk hb
  have HP0 : Aside0 ((w.alloc (.cells #[.slice A0_0 l0_0.length c0_0] 28 (0, 0))).heap[w.heap.size]? = some (.cells #[.slice A0_0 l0_0.length c0_0] 28 (0, 0))) := ⟨blk_new w _⟩
  have HB0 : Aside0 (Below w.heap.size w (w.alloc (.cells #[.slice A0_0 l0_0.length c0_0] 28 (0, 0)))) := ⟨below_alloc (Below.refl w.heap.size w) _⟩
  clear hr0_0 hc0_0 hr1 hc1 hb
  cases b with
  | false =>
    obtain ⟨rfl, rfl⟩ : [] = r1 ∧ false = r2 := by simpa using h
    clear h
    go_enter Try.func46, Try.ntmps46
    go_wp2_with (go_at_call 53; (with_reducible refine (spec_liGiven.calls k A0_0 c0_0 l0_0 A1 c1 l1 false _ (Kd.C_below HR0.out HB0.out) HC0.out (Kd.C_below HR1.out HB0.out) HC1.out HLI.out).mono ?_); rintro e w1 ⟨rfl, hb1⟩; have HB1 := Aside0.mk (HB0.out.trans (hb1.mono HB0.out.size)); clear hb1)
    refine bodyPost_ret (results_tmp2 rfl _ _ _) rfl ?_
    exact ⟨_, rfl, Kd.S_nil _ _ _ _ _, HB1.out⟩
  | true =>
    have h := (if_pos rfl).symm.trans h
    obtain ⟨o, hown, h⟩ := Option.bind_eq_some_iff.1 h
    obtain ⟨nw, hpro, hrun⟩ := Option.bind_eq_some_iff.1 h
    have HOWN := Aside0.mk hown
    have HPRO := Aside0.mk hpro
    have HRUN := Aside0.mk hrun
    clear h hown hpro hrun
    go_enter Try.func46, Try.ntmps46
    go_wp2_with (first
      | (go_at_call 53; (with_reducible refine (spec_liGiven.calls k A0_0 c0_0 l0_0 A1 c1 l1 true _ (Kd.C_below HR0.out HB0.out) HC0.out (Kd.C_below HR1.out HB0.out) HC1.out HLI.out).mono ?_); rintro e WA ⟨rfl, hb1⟩; have HB1 := Aside0.mk (HB0.out.trans (hb1.mono HB0.out.size)); have HP1 := Aside0.mk (blk_below HP0.out hb1); clear hb1 h)
      | (go_at_call 62; (with_reducible refine (spec_l1Own.calls A1 c1 l1 o _ (Kd.C_below HR1.out HB1.out) HC1.out HOWN.out).mono ?_); rintro e w2 ⟨v2, rfl, ho2, hb2⟩; obtain ⟨A2, c2, rfl⟩ := Kd.R_slice ho2; have HO2 := Aside0.mk ho2; have HB2 := Aside0.mk hb2; clear ho2 hb2)
      | ((with_reducible refine gate_dst (N := 14) rfl ?_); refine Kd.S_lits (Kd.slice 3 (Kd.int .i64)) (w0 := WA) WA.heap.size 22 ?hg (N := 14) ?hd (xs := [o]) (inner := [.slice A2 o.length c2]) (ok := fun _ => True) (fun j k => j = 0 ∧ some k = (Value.slice A2 o.length c2).ownBlock) ?hr ?hl ?hp ?ha (fun _ _ _ => trivial) trivial HB2.out HB2.out.size (by simp) ?_; (case hd => rfl); (case hg => rfl); (case hr => first | (go_simp; done) | (go_simp; rfl)); (case hl => rfl); (case hp => intro j x hj; cases j with | zero => (obtain rfl := Option.some.inj hj; exact ⟨.slice A2 o.length c2, rfl, Kd.R_mono (Kd.R_tight rfl HO2.out) (fun k hk => ⟨rfl, hk⟩)⟩) | succ j => cases hj); (case ha => rintro i j k ⟨rfl, _⟩ ⟨rfl, _⟩; rfl); intro v3 w3 hs3 hb3 hg3 hn3; have HS3 := Aside0.mk hs3; have HB3 := Aside0.mk hb3; have hcp3 : w3.cell? ⟨w.heap.size, 0, none⟩ = some (.slice A0_0 l0_0.length c0_0) := (blk_cell (blk_below HP1.out hb3) 0).trans rfl; clear hs3 hb3 hg3 hn3)
      | (go_at_call 84; (with_reducible refine (spec_liPromote.calls k A0_0 c0_0 l0_0 (fun k_ => k_ < w.heap.size) A1 c1 l1 1 nw _ ?side1 HC0.out ?side3 HPRO.out).mono ?_); (case side1 => exact Kd.C_below HR0.out (HB1.out.trans (HB3.out.mono HB1.out.size))); (case side3 => exact Kd.V_mk HC1.out (Kd.F_below (Kd.C_F (Kd.heap_int .i64) HR1.out) (HB1.out.trans (HB3.out.mono HB1.out.size)))); rintro e w4 ⟨v4, rfl, ho4, hb4⟩; have HO4 := Aside0.mk ho4; have HB4 := Aside0.mk (below_step HB3.out hb4); have HS4 := Aside0.mk (Kd.S_elder' HS3.out (v := v4) (fun k_ hk_ => ho4.1 k_ hk_) hb4); have HN4 : Aside0 (Kd.R (Kd.int .i64) 3 w4 WA.heap.size (fun k => some k ≠ v3.ownBlock) v4 nw) := ⟨Kd.R_lower (Kd.R_mono ho4 (fun k hk e => by have := ((Kd.R_bound (Kd.S_R HS3.out)).1 k e.symm).2.2.1; omega)) HB3.out.size⟩; clear ho4 hb4))
    clear hcp3
    go_loopg [6, 7] k (fun kq v6 v7 w' => ∃ (rows : List (List Int)) (now : List Int), Aside0 (orRun k l0_0 l1 kq rows now = some (r1, r2)) ∧ Aside0 (Kd.S (Kd.slice 3 (Kd.int .i64)) 22 w' WA.heap.size (fun k_ => True ∧ some k_ ≠ v7.ownBlock) v6 rows) ∧ Aside0 (Kd.R (Kd.int .i64) 3 w' WA.heap.size (fun k_ => some k_ ≠ v6.ownBlock) v7 now) ∧ Aside0 (Below WA.heap.size WA w'))
    case atStart => exact ⟨[o], nw, HRUN, HS4, HN4, HB4⟩
    case round =>
      clear HRUN HS4 HN4 HB4 HO4 HS3 HB3 HO2 HB2
      obtain ⟨rows, now, HR, HS, HN, HBW⟩ := hrel
      obtain ⟨Ao, co, e6⟩ := Kd.R_slice (Kd.S_R HS.out)
      obtain ⟨A, c, e7⟩ := Kd.R_slice HN.out
      subst e6 e7
      cases gk with
      | zero => exact absurd HR.out (by simp [orRun])
      | succ k1 =>
        have hR := HR.out
        unfold orRun at hR
        obtain ⟨b, hb, hR⟩ := Option.bind_eq_some_iff.1 hR
        have HSA := Aside0.mk hb
        have HV := Aside0.mk (Kd.V_reads' (Kd.R_V (base' := 0) HN.out))
        have HBW1 := Aside0.mk (HB1.out.trans (HBW.out.mono HB1.out.size))
        clear HR hb
        cases b with
        | true =>
          have hR := (if_pos rfl).symm.trans hR
          obtain ⟨rfl, rfl⟩ : rows = r1 ∧ true = r2 := by simpa using hR
          go_wp2_with (go_at_call 89; (with_reducible refine (spec_l1Same.calls k A c now A1 c1 l1 true _ HV.out.2.2 HV.out.2.1 (Kd.C_below HR1.out HBW1.out) HC1.out HSA.out).mono ?_); rintro e w5 ⟨rfl, nd, rfl⟩)
          refine bodyPost_ret (results_tmp2 rfl _ _ _) rfl ?_
          exact ⟨_, rfl, Kd.S_drewN (Kd.S_lower (Kd.S_mono HS.out (fun _ _ => trivial)) HB1.out.size) nd, pw_below_drewN HBW1.out nd⟩
        | false =>
          have hR := (if_neg (by simp)).symm.trans hR
          by_cases h500 : (rows.length : Int) = 500
          · rw [if_pos h500] at hR
            obtain ⟨rfl, rfl⟩ : [] = r1 ∧ false = r2 := by simpa using hR
            have d1 : ((rows.length : Int) == 500) = true := by simpa using h500
            have d2 : decide ((rows.length : Int) = 500) = true := decide_eq_true h500
            have d3 : (rows.length == 500) = true := by simp; omega
            clear hR
            go_wp2_with (go_at_call 89; (with_reducible refine (spec_l1Same.calls k A c now A1 c1 l1 false _ HV.out.2.2 HV.out.2.1 (Kd.C_below HR1.out HBW1.out) HC1.out HSA.out).mono ?_); rintro e w5 ⟨rfl, nd, rfl⟩)
            refine bodyPost_ret (results_tmp2 rfl _ _ _) rfl ?_
            exact ⟨_, rfl, Kd.S_nil _ _ _ _ _, pw_below_drewN HBW1.out nd⟩
          · rw [if_neg h500] at hR
            split at hR
            rotate_left
            · cases hR
            rename_i hle
            obtain ⟨nw2, hpro, hR⟩ := Option.bind_eq_some_iff.1 hR
            have HPRO2 := Aside0.mk hpro
            have HLE := Aside0.mk hle
            have HRUN := Aside0.mk hR
            have d1 : ((rows.length : Int) == 500) = false := by simpa using h500
            have d2 : decide ((rows.length : Int) = 500) = false := decide_eq_false h500
            have d3 : (rows.length == 500) = false := by simp; omega
            clear hR hpro hle h500
            go_wp2_with (first
              | (go_at_call 89; (with_reducible refine (spec_l1Same.calls k A c now A1 c1 l1 false _ HV.out.2.2 HV.out.2.1 (Kd.C_below HR1.out HBW1.out) HC1.out HSA.out).mono ?_); rintro e w5 ⟨rfl, nd, rfl⟩)
              | ((with_reducible refine gate_builtin (b := .append) (xs := #[.tmp 28, .tmp 30]) rfl ?_); at_builtin; refine Kd.S_append (Kd.slice 3 (Kd.int .i64)) (w0 := WA) WA.heap.size rfl (.tmp 28) (.tmp 30) 38 22 (.slice none 0 0) 24 rfl Try.underlying38 info22 rfl (by decide) (by omega) (.slice Ao rows.length co) rows now [.slice A now.length c] (fun _ => True) (fun k_ => some k_ = (Value.slice A now.length c).ownBlock) rfl rfl ?aP (fun k_ hk_ => ⟨trivial, HN.out.1 k_ hk_.symm⟩) (fun _ _ => trivial) ?aO ?aB ?aS ?aL ?_; (case aP => exact ⟨_, rfl, Kd.R_drewN (Kd.R_tight rfl HN.out) nd⟩); (case aO => exact Kd.S_drewN (Kd.S_mono HS.out (fun k_ hk_ => ⟨trivial, fun e_ => hk_.2 e_⟩)) nd); (case aB => exact pw_below_drewN HBW.out nd); (case aS => exact HBW.out.size); (case aL => have := HLE.out; omega); intro v8 w8 hs8 hb8 hg8 hat8; have HS8 := Aside0.mk hs8; have HB8 := Aside0.mk hb8; have HV8 := Aside0.mk (Kd.V_grown (Kd.V_drewN (Kd.R_V (base' := 0) (Kd.R_tight rfl HN.out)) nd) hg8 (fun k_ hk_ => HN.out.1 k_ hk_.symm)); have hcp8 : w8.cell? ⟨w.heap.size, 0, none⟩ = some (.slice A0_0 l0_0.length c0_0) := (blk_cell (blk_below HP1.out hb8) 0).trans rfl; clear hs8 hb8 hg8 hat8)
              | (go_at_call 84; (with_reducible refine (spec_liPromote.calls k A0_0 c0_0 l0_0 (fun k_ => some k_ = (Value.slice A now.length c).ownBlock) A c now 1 nw2 _ ?side1 HC0.out ?side3 HPRO2.out).mono ?_); (case side1 => exact Kd.C_below HR0.out (HB1.out.trans (HB8.out.mono HB1.out.size))); (case side3 => exact HV8.out); rintro e w9 ⟨v9, rfl, ho9, hb9⟩; have HB9 := Aside0.mk (below_step HB8.out hb9); have HS9 := Aside0.mk (Kd.S_elder' HS8.out (v := v9) (fun k_ hk_ => ho9.1 k_ hk_) hb9); have HN9 : Aside0 (Kd.R (Kd.int .i64) 3 w9 WA.heap.size (fun k => some k ≠ v8.ownBlock) v9 nw2) := ⟨Kd.R_lower (Kd.R_mono ho9 (fun k hk e => by have := ((Kd.R_bound (Kd.S_R HS8.out)).1 k e.symm).2.2.1; omega)) HB8.out.size⟩; clear ho9 hb9))
            go_roundg k1
            case measure => omega
            case rel => exact ⟨rows ++ [now], nw2, HRUN, HS9, HN9, HB9⟩
end Go.Proofs.Ytjahclncpgllmaa.F
end
