/- Part 4 of the texts below the row of FnExactCountStrict: printed functions with their contracts, and plain lemmas. No condition. -/
import Derived.Test.YtemkddgfneohhaaZFnExactCountStrict3
import Derived.Deep.RegionHeld3
import Derived.OneCell
section
namespace Go.Proofs.Ytemkddgfneohhaa.F
open Go.RowKit Go.Proofs.YtemkddgfneohhaaW.PrintWords Go.Proofs.YtemkddgfneohhaaW.PrintLast Go.Proofs.YtemkddgfneohhaaW.PrintMore
attribute [local go_sem] max2_int min2_int max_two min_two max_three min_three max_four min_four
set_option linter.unusedVariables false
set_option linter.unusedSimpArgs false

/-! ### impl_Poset_polynomial: function 49 -/
def impl_Poset_polynomial.l0 : Nat → Int → Int → Int → List Int → Int → Int → Option (Int)
  | 0, _, _, _, _, _, _ => none
  | k + 1, x1, x5, x6, x10, x11, x12 => if x12 < x11 then (if 0 ≤ x12 then (if x12 < (x10.length : Int) then (if (wrap64 (x12 + 1)) = 0 then (none) else (impl_Poset_polynomial.l0 k x1 (wrap64 (x5 + (wrap64 ((rd x10 x12) * (wrap64 (Int.tdiv (wrap64 (x6 * (wrap64 (x1 - x12)))) (wrap64 (x12 + 1)))))))) (wrap64 (Int.tdiv (wrap64 (x6 * (wrap64 (x1 - x12)))) (wrap64 (x12 + 1)))) x10 x11 (wrap64 (x12 + 1)))) else (none)) else (none)) else (some x5)
def impl_Poset_polynomial.f (k : Nat) (l0_0 : List Int) (a1 : Int) : Option (Int) := (impl_Poset_steps.f k l0_0).bind fun t257 => (impl_Poset_polynomial.l0 k a1 0 1 t257 (t257.length : Int) 0)
theorem impl_Poset_polynomial.mono_l : ∀ k, (∀ y0 y1 y2 y3 y4 y5, LeO (impl_Poset_polynomial.l0 k y0 y1 y2 y3 y4 y5) (impl_Poset_polynomial.l0 (k + 1) y0 y1 y2 y3 y4 y5))
  | 0 => fun _ _ _ _ _ _ r h => by simp [impl_Poset_polynomial.l0] at h
  | k + 1 => by
    have ih0 := impl_Poset_polynomial.mono_l k
    · intro y0 y1 y2 y3 y4 y5
      unfold impl_Poset_polynomial.l0
      repeat' first
      | (with_reducible exact ih0 _ _ _ _ _ _)
      | (with_reducible exact impl_Poset_steps.mono _ _)
      | (with_reducible exact LeO.refl _)
      | (with_reducible exact LeO.none _)
      | (with_reducible refine LeO.ite ?_ ?_)
      | (with_reducible refine LeO.bind ?_ (fun _ => ?_))
      | exact ih0 _ _ _ _ _ _
      | exact impl_Poset_steps.mono _ _
      | exact LeO.none _
      | refine LeO.ite ?_ ?_
      | refine LeO.bind ?_ (fun _ => ?_)
theorem impl_Poset_polynomial.mono : ∀ a0 a1 k, LeO (impl_Poset_polynomial.f k a0 a1) (impl_Poset_polynomial.f (k + 1) a0 a1) := by
  intro a0 a1 k
  have ih0 := impl_Poset_polynomial.mono_l k
  unfold impl_Poset_polynomial.f
  repeat' first
      | (with_reducible exact ih0 _ _ _ _ _ _)
      | (with_reducible exact impl_Poset_steps.mono _ _)
      | (with_reducible exact LeO.refl _)
      | (with_reducible exact LeO.none _)
      | (with_reducible refine LeO.ite ?_ ?_)
      | (with_reducible refine LeO.bind ?_ (fun _ => ?_))
      | exact ih0 _ _ _ _ _ _
      | exact impl_Poset_steps.mono _ _
      | exact LeO.none _
      | refine LeO.ite ?_ ?_
      | refine LeO.bind ?_ (fun _ => ?_)
set_option maxHeartbeats 8000000 in
set_option maxRecDepth 100000 in
theorem impl_Poset_polynomial.calls (k : Nat) (A0_0 : Option Addr) (c0_0 : Nat) (l0_0 : List Int) (a1 : Int) (r : Int) (w : World) (hr0_0 : Kd.C (Kd.int .i64) w A0_0 l0_0.length l0_0) (hc0_0 : l0_0.length ≤ c0_0) (h : impl_Poset_polynomial.f k l0_0 a1 = some r) :
    Calls Try.prog 49 #[.agg #[.slice A0_0 l0_0.length c0_0], .int .i64 a1] w fun e w' => e = .returned (.int .i64 r) ∧ Below w.heap.size w w' := by
  have hu30 := Try.underlying30
  have HR0_0 := Aside0.mk hr0_0
  have HC0_0 := Aside0.mk hc0_0
  clear hr0_0 hc0_0
  have HB := Aside0.mk (Below.refl w.heap.size w)
  have H : ((impl_Poset_steps.f k l0_0).bind fun t257 => (impl_Poset_polynomial.l0 k a1 0 1 t257 (t257.length : Int) 0)) = some r := h
  clear h
  replace H := Option.bind_eq_some_iff.mp H
  obtain ⟨t257, A30, H⟩ := H
  replace H : (impl_Poset_polynomial.l0 k a1 0 1 t257 (t257.length : Int) 0) = some r := H
  have A3 := Aside0.mk A30
  clear A30
  have H' := Aside0.mk H
  clear H
  go_enter Try.func49, Try.ntmps49
  go_wp2_with (first | ((with_reducible refine gate_dst (N := 2) rfl ?_); refine box_event ?hg (N := 2) ?hd (cs := #[.slice A0_0 l0_0.length c0_0]) (t := 30) ?hr ?_; (case hd => rfl); (case hg => rfl); (case hr => first | (go_simp; done) | (go_simp; rfl)); intro gb256 hg w4 hbox hb; have n0_ := Aside0.mk (below_step (by repeat (first | (with_reducible first | exact HB.out | apply below_alloc | apply pw_below_drewN | apply below_drew1) | exact HB.out)) hb); have n1_ := Aside0.mk (hbox); have n2_ := Aside0.mk ((by rw [hg]; exact (below_size (by repeat (first | (with_reducible first | exact HB.out | apply below_alloc | apply pw_below_drewN | apply below_drew1) | exact HB.out))) : w.heap.size ≤ gb256)); have n3_ := Aside0.mk ((by rw [hg]; exact (below_size (by repeat (first | (with_reducible first | exact HB.out | apply below_alloc | apply pw_below_drewN | apply below_drew1) | exact HB.out))) : w.heap.size ≤ gb256)); clear HB; have HB := n0_; have BK256 := n1_; have GW256 := n2_; have GE256 := n3_; clear n0_ n1_ n2_ n3_; clear hb hbox hg; have hcz5_0 : w4.cell? ⟨gb256, 0, none⟩ = some (.slice A0_0 l0_0.length c0_0) := (blk_cell BK256.out 0).trans rfl; have hfz5_0 := blk_frozen BK256.out 0) | ((with_reducible refine gate_callee (f := 54) rfl ?_); refine goesL_ (some 10) rfl rfl Try.func54 (by kernel_rfl) rfl #[.agg #[.slice A0_0 l0_0.length c0_0]] rfl (by (try simp only [List.map_toArray, List.map_cons, List.map_nil]); first | done | rfl | (simp only [List.length_drop, List.length_take]; rfl)) ?_; (with_reducible refine (impl_Poset_steps.calls k _ _ l0_0 t257 _ ?side1 ?side2 A3.out).mono ?_); (case side1 => repeat (first | exact (Kd.C_below HR0_0.out HB.out) | (with_reducible refine Kd.C_alloc ?_ _) | (with_reducible refine Kd.C_drewN ?_ _) | (with_reducible refine Kd.C_drew ?_))); (case side2 => exact HC0_0.out); rintro e w6 ⟨v258, rfl, ho0, hb⟩; refine ⟨_, rfl, ?_⟩; have n0_ := Aside0.mk (Kd.R_lower ho0 (below_size (by repeat (first | (with_reducible first | exact HB.out | apply below_alloc | apply pw_below_drewN | apply below_drew1 | refine below_set ?_ GE256.out) | exact HB.out)))); have n1_ := Aside0.mk (blk_below (g := gb256) (o := .cells #[.slice A0_0 l0_0.length c0_0] 30 (0, 0)) (by (with_reducible repeat (first | refine blk_drewN ?_ _ | refine blk_drew ?_ | refine blk_alloc ?_ _)); exact BK256.out) hb); have n2_ := Aside0.mk (below_step (by repeat (first | (with_reducible first | exact HB.out | apply below_alloc | apply pw_below_drewN | apply below_drew1 | refine below_set ?_ GE256.out) | exact HB.out)) hb); clear BK256; clear HB; have HO259 := n0_; have BK256 := n1_; have HB := n2_; clear n0_ n1_ n2_; (try clear hb); (try clear hb2); (try clear hk); (try clear hi); (try clear ho0); obtain ⟨Ao7, co7, eo7⟩ := Kd.R_slice HO259.out; subst eo7))
  go_loopg [5, 6, 12] k (fun kq v5 v6 v12 w' => ∃ (x5_1 : Int) (x6_1 : Int) (x12_1 : Int), v5 = .int .i64 x5_1 ∧ v6 = .int .i64 x6_1 ∧ v12 = .int .i64 x12_1 ∧ Aside0 (impl_Poset_polynomial.l0 kq a1 x5_1 x6_1 t257 (t257.length : Int) x12_1 = some r) ∧ Aside0 (kq ≤ k) ∧ Aside0 (Kd.R (Kd.int .i64) 3 w' w.heap.size (fun _ => True) (.slice Ao7 t257.length co7) t257) ∧ Aside0 (w'.heap[gb256]? = some (.cells #[(.slice A0_0 l0_0.length c0_0)] 30 (0, 0))) ∧ Aside0 (Below w.heap.size w w'))
  case atStart => exact ⟨(0), (1), (0), (by first | rfl | (simp; done) | (simp [*]; done)), (by first | rfl | (simp; done) | (simp [*]; done)), (by first | rfl | (simp; done) | (simp [*]; done)), H', ⟨Nat.le_refl _⟩, ⟨by (with_reducible repeat (first | apply Kd.R_alloc | apply Kd.R_drewN | apply Kd.R_drew)); exact HO259.out⟩, ⟨by (with_reducible repeat (first | refine blk_drewN ?_ _ | refine blk_drew ?_ | refine blk_alloc ?_ _)); exact BK256.out⟩, ⟨by repeat (first | (with_reducible first | exact HB.out | apply below_alloc | apply pw_below_drewN | apply below_drew1 | refine below_set ?_ GE256.out) | exact HB.out)⟩⟩
  case round =>
    clear H'
    try clear p2
    try clear c4
    try clear c5
    try clear hcz5_0
    try clear hfz5_0
    obtain ⟨x5_1, x6_1, x12_1, rfl, rfl, rfl, HA, HK1, HO_10, BK256, HB⟩ := hrel
    cases gk with
    | zero => exact absurd HA.out (by simp [impl_Poset_polynomial.l0])
    | succ k1 =>
      have H := HA.out
      clear HA
      simp only [impl_Poset_polynomial.l0] at H
      by_cases c8 : x12_1 < (t257.length : Int)
      · rw [if_pos c8] at H
        have c8b0 : decide (x12_1 < (t257.length : Int)) = true := decide_eq_true c8
        clear c8
        by_cases c9 : 0 ≤ x12_1
        · rw [if_pos c9] at H
          have c9b0 : decide (0 ≤ x12_1) = true := decide_eq_true c9
          clear c9
          by_cases c10 : x12_1 < (t257.length : Int)
          · rw [if_pos c10] at H
            have c10b0 : decide (x12_1 < (t257.length : Int)) = true := decide_eq_true c10
            clear c10
            by_cases c11 : (wrap64 (x12_1 + 1)) = 0
            · rw [if_pos c11] at H
              exact absurd H (by simp)
            · rw [if_neg c11] at H
              have c11b0 : ((wrap64 (x12_1 + 1)) == 0) = false := beq_eq_false_iff_ne.mpr c11
              have c11b1 : ((wrap64 (x12_1 + 1)) != 0) = true := bne_iff_ne.mpr c11
              have H' := Aside0.mk H
              clear H
              have p260 : 0 ≤ (x12_1 : Int) := of_decide_eq_true (by first | (with_reducible assumption) | assumption)
              have q260 : x12_1 < (t257.length : Int) := of_decide_eq_true (by first | (with_reducible assumption) | assumption)
              obtain ⟨ad260, e260, hx260_0⟩ := Kd.at_int (Kd.R_reads' HO_10.out).2.2 x12_1 p260 q260
              cases e260
              replace p260 := eq_true p260
              replace q260 := eq_true q260
              go_wp2
              go_roundg k1
              case measure => have := HK1.out; omega
              case rel => exact ⟨(wrap64 (x5_1 + (wrap64 ((rd t257 x12_1) * (wrap64 (Int.tdiv (wrap64 (x6_1 * (wrap64 (a1 - x12_1)))) (wrap64 (x12_1 + 1)))))))), (wrap64 (Int.tdiv (wrap64 (x6_1 * (wrap64 (a1 - x12_1)))) (wrap64 (x12_1 + 1)))), (wrap64 (x12_1 + 1)), (by first | rfl | (simp; done) | (simp [*]; done)), (by first | rfl | (simp; done) | (simp [*]; done)), (by first | rfl | (simp; done) | (simp [*]; done)), H', ⟨by have := HK1.out; omega⟩, ⟨by (with_reducible repeat (first | apply Kd.R_alloc | apply Kd.R_drewN | apply Kd.R_drew)); exact HO_10.out⟩, ⟨by (with_reducible repeat (first | refine blk_drewN ?_ _ | refine blk_drew ?_ | refine blk_alloc ?_ _)); exact BK256.out⟩, ⟨by repeat (first | (with_reducible first | exact HB.out | apply below_alloc | apply pw_below_drewN | apply below_drew1 | refine below_set ?_ GE256.out) | exact HB.out)⟩⟩
          · rw [if_neg c10] at H
            exact absurd H (by simp)
        · rw [if_neg c9] at H
          exact absurd H (by simp)
      · rw [if_neg c8] at H
        have c8b0 : decide (x12_1 < (t257.length : Int)) = false := decide_eq_false c8
        clear c8
        obtain rfl := Option.some.inj H
        go_wp2
        go_ret
        exact ⟨by first | rfl | (simp [errW_none, errW_some] <;> rfl) | (simp [*, errW_none, errW_some] <;> rfl), by repeat (first | (with_reducible first | exact HB.out | apply below_alloc | apply pw_below_drewN | apply below_drew1 | refine below_set ?_ GE256.out) | exact HB.out)⟩

end Go.Proofs.Ytemkddgfneohhaa.F
end

section
namespace Go.Proofs.Ytemkddgfneohhaa.F
open Go.RowKit Go.Proofs.YtemkddgfneohhaaW.PrintWords Go.Proofs.YtemkddgfneohhaaW.PrintLast Go.Proofs.YtemkddgfneohhaaW.PrintMore
attribute [local go_sem] max2_int min2_int max_two min_two max_three min_three max_four min_four
set_option linter.unusedVariables false
set_option linter.unusedSimpArgs false

/-! ### impl_CountStrict: function 25 -/
def impl_CountStrict.f (k : Nat) (l0_0 : List Int) (a1 : Int) : Option (Int × Bool) := (impl_IsPoset.f k l0_0).bind fun t262 => (if t262 = true then ((impl_isBound.f a1).bind fun t263 => (if t263 = true then ((impl_Poset_polynomial.f k l0_0 (wrap64 (a1 + 1))).bind fun t264 => (some (t264, true))) else (some (0, false)))) else (some (0, false)))
theorem impl_CountStrict.mono : ∀ a0 a1 k, LeO (impl_CountStrict.f k a0 a1) (impl_CountStrict.f (k + 1) a0 a1) := by
  intro a0 a1 k
  unfold impl_CountStrict.f
  repeat' first
      | (with_reducible exact impl_IsPoset.mono _ _)
      | (with_reducible exact impl_Poset_polynomial.mono _ _ _)
      | (with_reducible exact LeO.refl _)
      | (with_reducible exact LeO.none _)
      | (with_reducible refine LeO.ite ?_ ?_)
      | (with_reducible refine LeO.bind ?_ (fun _ => ?_))
      | exact impl_IsPoset.mono _ _
      | exact impl_Poset_polynomial.mono _ _ _
      | exact LeO.none _
      | refine LeO.ite ?_ ?_
      | refine LeO.bind ?_ (fun _ => ?_)
set_option maxHeartbeats 8000000 in
set_option maxRecDepth 100000 in
theorem impl_CountStrict.calls (k : Nat) (A0_0 : Option Addr) (c0_0 : Nat) (l0_0 : List Int) (a1 : Int) (r1 : Int) (r2 : Bool) (w : World) (hr0_0 : Kd.C (Kd.int .i64) w A0_0 l0_0.length l0_0) (hc0_0 : l0_0.length ≤ c0_0) (h : impl_CountStrict.f k l0_0 a1 = some (r1, r2)) :
    Calls Try.prog 25 #[.agg #[.slice A0_0 l0_0.length c0_0], .int .i64 a1] w fun e w' => e = .returned (.tuple #[.int .i64 r1, .bool r2]) ∧ Below w.heap.size w w' := by
  have hu30 := Try.underlying30
  have HR0_0 := Aside0.mk hr0_0
  have HC0_0 := Aside0.mk hc0_0
  clear hr0_0 hc0_0
  have HB := Aside0.mk (Below.refl w.heap.size w)
  have H : ((impl_IsPoset.f k l0_0).bind fun t262 => (if t262 = true then ((impl_isBound.f a1).bind fun t263 => (if t263 = true then ((impl_Poset_polynomial.f k l0_0 (wrap64 (a1 + 1))).bind fun t264 => (some (t264, true))) else (some (0, false)))) else (some (0, false)))) = some (r1, r2) := h
  clear h
  replace H := Option.bind_eq_some_iff.mp H
  obtain ⟨t262, A30, H⟩ := H
  replace H : (if t262 = true then ((impl_isBound.f a1).bind fun t263 => (if t263 = true then ((impl_Poset_polynomial.f k l0_0 (wrap64 (a1 + 1))).bind fun t264 => (some (t264, true))) else (some (0, false)))) else (some (0, false))) = some (r1, r2) := H
  have A3 := Aside0.mk A30
  clear A30
  by_cases c4 : t262 = true
  · subst c4
    have H1 : ((impl_isBound.f a1).bind fun t263 => (if t263 = true then ((impl_Poset_polynomial.f k l0_0 (wrap64 (a1 + 1))).bind fun t264 => (some (t264, true))) else (some (0, false)))) = some (r1, r2) := by rw [if_pos rfl] at H; exact H
    clear H
    have H := H1
    clear H1
    replace H := Option.bind_eq_some_iff.mp H
    obtain ⟨t263, A50, H⟩ := H
    replace H : (if t263 = true then ((impl_Poset_polynomial.f k l0_0 (wrap64 (a1 + 1))).bind fun t264 => (some (t264, true))) else (some (0, false))) = some (r1, r2) := H
    have A5 := Aside0.mk A50
    clear A50
    by_cases c6 : t263 = true
    · subst c6
      have H1 : ((impl_Poset_polynomial.f k l0_0 (wrap64 (a1 + 1))).bind fun t264 => (some (t264, true))) = some (r1, r2) := by rw [if_pos rfl] at H; exact H
      clear H
      have H := H1
      clear H1
      replace H := Option.bind_eq_some_iff.mp H
      obtain ⟨t264, A70, H⟩ := H
      replace H : (some (t264, true)) = some (r1, r2) := H
      have A7 := Aside0.mk A70
      clear A70
      simp only [Option.some.injEq, Prod.mk.injEq] at H
      obtain ⟨rfl, rfl⟩ := H
      go_enter Try.func25, Try.ntmps25
      go_wp2_with (first | ((with_reducible refine gate_dst (N := 2) rfl ?_); refine box_event ?hg (N := 2) ?hd (cs := #[.slice A0_0 l0_0.length c0_0]) (t := 30) ?hr ?_; (case hd => rfl); (case hg => rfl); (case hr => first | (go_simp; done) | (go_simp; rfl)); intro gb261 hg w8 hbox hb; have n0_ := Aside0.mk (below_step (by repeat (first | (with_reducible first | exact HB.out | apply below_alloc | apply pw_below_drewN | apply below_drew1) | exact HB.out)) hb); have n1_ := Aside0.mk (hbox); have n2_ := Aside0.mk ((by rw [hg]; exact (below_size (by repeat (first | (with_reducible first | exact HB.out | apply below_alloc | apply pw_below_drewN | apply below_drew1) | exact HB.out))) : w.heap.size ≤ gb261)); have n3_ := Aside0.mk ((by rw [hg]; exact (below_size (by repeat (first | (with_reducible first | exact HB.out | apply below_alloc | apply pw_below_drewN | apply below_drew1) | exact HB.out))) : w.heap.size ≤ gb261)); clear HB; have HB := n0_; have BK261 := n1_; have GW261 := n2_; have GE261 := n3_; clear n0_ n1_ n2_ n3_; clear hb hbox hg; have hcz9_0 : w8.cell? ⟨gb261, 0, none⟩ = some (.slice A0_0 l0_0.length c0_0) := (blk_cell BK261.out 0).trans rfl; have hfz9_0 := blk_frozen BK261.out 0) | ((with_reducible refine gate_callee (f := 47) rfl ?_); refine goesL_ (some 7) rfl rfl Try.func47 (by kernel_rfl) rfl #[.agg #[.slice A0_0 l0_0.length c0_0]] rfl (by (try simp only [List.map_toArray, List.map_cons, List.map_nil]); first | done | rfl | (simp only [List.length_drop, List.length_take]; rfl)) ?_; (with_reducible refine (impl_IsPoset.calls k _ _ l0_0 true _ ?side1 ?side2 A3.out).mono ?_); (case side1 => repeat (first | exact (Kd.C_below HR0_0.out HB.out) | (with_reducible refine Kd.C_alloc ?_ _) | (with_reducible refine Kd.C_drewN ?_ _) | (with_reducible refine Kd.C_drew ?_))); (case side2 => exact HC0_0.out); rintro e w10 ⟨rfl, hb⟩; refine ⟨_, rfl, ?_⟩; have n0_ := Aside0.mk (blk_below (g := gb261) (o := .cells #[.slice A0_0 l0_0.length c0_0] 30 (0, 0)) (by (with_reducible repeat (first | refine blk_drewN ?_ _ | refine blk_drew ?_ | refine blk_alloc ?_ _)); exact BK261.out) hb); have n1_ := Aside0.mk (below_step (by repeat (first | (with_reducible first | exact HB.out | apply below_alloc | apply pw_below_drewN | apply below_drew1 | refine below_set ?_ GE261.out) | exact HB.out)) hb); clear BK261; clear HB; have BK261 := n0_; have HB := n1_; clear n0_ n1_; (try clear hb); (try clear hb2); (try clear hk); (try clear hi)) | (go_at_call 41; (with_reducible refine (impl_isBound.calls a1 true _ A5.out).mono ?_); rintro e w' ⟨rfl, ⟨nd, rfl⟩⟩; have hcz11_0 : w10.cell? ⟨gb261, 0, none⟩ = some (.slice A0_0 l0_0.length c0_0) := (blk_cell BK261.out 0).trans rfl; have hfz11_0 := blk_frozen BK261.out 0) | ((with_reducible refine gate_callee (f := 49) rfl ?_); refine goesL_ (some 17) rfl rfl Try.func49 (by kernel_rfl) rfl #[.agg #[.slice A0_0 l0_0.length c0_0], .int .i64 (wrap64 (a1 + 1))] rfl (by (try simp only [List.map_toArray, List.map_cons, List.map_nil]); first | done | rfl | (simp only [List.length_drop, List.length_take]; rfl)) ?_; (with_reducible refine (impl_Poset_polynomial.calls k _ _ l0_0 (wrap64 (a1 + 1)) t264 _ ?side1 ?side2 A7.out).mono ?_); (case side1 => repeat (first | exact (Kd.C_below HR0_0.out (by repeat (first | (with_reducible first | exact HB.out | apply below_alloc | apply pw_below_drewN | apply below_drew1 | refine below_set ?_ GE261.out) | exact HB.out))) | (with_reducible refine Kd.C_alloc ?_ _) | (with_reducible refine Kd.C_drewN ?_ _) | (with_reducible refine Kd.C_drew ?_))); (case side2 => exact HC0_0.out); rintro e w12 ⟨rfl, hb⟩; refine ⟨_, rfl, ?_⟩; have n0_ := Aside0.mk (blk_below (g := gb261) (o := .cells #[.slice A0_0 l0_0.length c0_0] 30 (0, 0)) (by (with_reducible repeat (first | refine blk_drewN ?_ _ | refine blk_drew ?_ | refine blk_alloc ?_ _)); exact BK261.out) hb); have n1_ := Aside0.mk (below_step (by repeat (first | (with_reducible first | exact HB.out | apply below_alloc | apply pw_below_drewN | apply below_drew1 | refine below_set ?_ GE261.out) | exact HB.out)) hb); clear BK261; clear HB; have BK261 := n0_; have HB := n1_; clear n0_ n1_; (try clear hb); (try clear hb2); (try clear hk); (try clear hi)))
      go_ret2
      exact ⟨by first | rfl | (simp [errW_none, errW_some] <;> rfl) | (simp [*, errW_none, errW_some] <;> rfl), by repeat (first | (with_reducible first | exact HB.out | apply below_alloc | apply pw_below_drewN | apply below_drew1 | refine below_set ?_ GE261.out) | exact HB.out)⟩
    · replace c6 := Bool.eq_false_iff.mpr c6
      subst c6
      have H1 : (some (0, false)) = some (r1, r2) := by rw [if_neg (show ¬ (false = true) by decide)] at H; exact H
      clear H
      have H := H1
      clear H1
      simp only [Option.some.injEq, Prod.mk.injEq] at H
      obtain ⟨rfl, rfl⟩ := H
      go_enter Try.func25, Try.ntmps25
      go_wp2_with (first | ((with_reducible refine gate_dst (N := 2) rfl ?_); refine box_event ?hg (N := 2) ?hd (cs := #[.slice A0_0 l0_0.length c0_0]) (t := 30) ?hr ?_; (case hd => rfl); (case hg => rfl); (case hr => first | (go_simp; done) | (go_simp; rfl)); intro gb261 hg w13 hbox hb; have n0_ := Aside0.mk (below_step (by repeat (first | (with_reducible first | exact HB.out | apply below_alloc | apply pw_below_drewN | apply below_drew1) | exact HB.out)) hb); have n1_ := Aside0.mk (hbox); have n2_ := Aside0.mk ((by rw [hg]; exact (below_size (by repeat (first | (with_reducible first | exact HB.out | apply below_alloc | apply pw_below_drewN | apply below_drew1) | exact HB.out))) : w.heap.size ≤ gb261)); have n3_ := Aside0.mk ((by rw [hg]; exact (below_size (by repeat (first | (with_reducible first | exact HB.out | apply below_alloc | apply pw_below_drewN | apply below_drew1) | exact HB.out))) : w.heap.size ≤ gb261)); clear HB; have HB := n0_; have BK261 := n1_; have GW261 := n2_; have GE261 := n3_; clear n0_ n1_ n2_ n3_; clear hb hbox hg; have hcz14_0 : w13.cell? ⟨gb261, 0, none⟩ = some (.slice A0_0 l0_0.length c0_0) := (blk_cell BK261.out 0).trans rfl; have hfz14_0 := blk_frozen BK261.out 0) | ((with_reducible refine gate_callee (f := 47) rfl ?_); refine goesL_ (some 7) rfl rfl Try.func47 (by kernel_rfl) rfl #[.agg #[.slice A0_0 l0_0.length c0_0]] rfl (by (try simp only [List.map_toArray, List.map_cons, List.map_nil]); first | done | rfl | (simp only [List.length_drop, List.length_take]; rfl)) ?_; (with_reducible refine (impl_IsPoset.calls k _ _ l0_0 true _ ?side1 ?side2 A3.out).mono ?_); (case side1 => repeat (first | exact (Kd.C_below HR0_0.out HB.out) | (with_reducible refine Kd.C_alloc ?_ _) | (with_reducible refine Kd.C_drewN ?_ _) | (with_reducible refine Kd.C_drew ?_))); (case side2 => exact HC0_0.out); rintro e w15 ⟨rfl, hb⟩; refine ⟨_, rfl, ?_⟩; have n0_ := Aside0.mk (blk_below (g := gb261) (o := .cells #[.slice A0_0 l0_0.length c0_0] 30 (0, 0)) (by (with_reducible repeat (first | refine blk_drewN ?_ _ | refine blk_drew ?_ | refine blk_alloc ?_ _)); exact BK261.out) hb); have n1_ := Aside0.mk (below_step (by repeat (first | (with_reducible first | exact HB.out | apply below_alloc | apply pw_below_drewN | apply below_drew1 | refine below_set ?_ GE261.out) | exact HB.out)) hb); clear BK261; clear HB; have BK261 := n0_; have HB := n1_; clear n0_ n1_; (try clear hb); (try clear hb2); (try clear hk); (try clear hi)) | (go_at_call 41; (with_reducible refine (impl_isBound.calls a1 false _ A5.out).mono ?_); rintro e w' ⟨rfl, ⟨nd, rfl⟩⟩))
      go_ret2
      exact ⟨by first | rfl | (simp [errW_none, errW_some] <;> rfl) | (simp [*, errW_none, errW_some] <;> rfl), by repeat (first | (with_reducible first | exact HB.out | apply below_alloc | apply pw_below_drewN | apply below_drew1 | refine below_set ?_ GE261.out) | exact HB.out)⟩
  · replace c4 := Bool.eq_false_iff.mpr c4
    subst c4
    have H1 : (some (0, false)) = some (r1, r2) := by rw [if_neg (show ¬ (false = true) by decide)] at H; exact H
    clear H
    have H := H1
    clear H1
    simp only [Option.some.injEq, Prod.mk.injEq] at H
    obtain ⟨rfl, rfl⟩ := H
    go_enter Try.func25, Try.ntmps25
    go_wp2_with (first | ((with_reducible refine gate_dst (N := 2) rfl ?_); refine box_event ?hg (N := 2) ?hd (cs := #[.slice A0_0 l0_0.length c0_0]) (t := 30) ?hr ?_; (case hd => rfl); (case hg => rfl); (case hr => first | (go_simp; done) | (go_simp; rfl)); intro gb261 hg w16 hbox hb; have n0_ := Aside0.mk (below_step (by repeat (first | (with_reducible first | exact HB.out | apply below_alloc | apply pw_below_drewN | apply below_drew1) | exact HB.out)) hb); have n1_ := Aside0.mk (hbox); have n2_ := Aside0.mk ((by rw [hg]; exact (below_size (by repeat (first | (with_reducible first | exact HB.out | apply below_alloc | apply pw_below_drewN | apply below_drew1) | exact HB.out))) : w.heap.size ≤ gb261)); have n3_ := Aside0.mk ((by rw [hg]; exact (below_size (by repeat (first | (with_reducible first | exact HB.out | apply below_alloc | apply pw_below_drewN | apply below_drew1) | exact HB.out))) : w.heap.size ≤ gb261)); clear HB; have HB := n0_; have BK261 := n1_; have GW261 := n2_; have GE261 := n3_; clear n0_ n1_ n2_ n3_; clear hb hbox hg; have hcz17_0 : w16.cell? ⟨gb261, 0, none⟩ = some (.slice A0_0 l0_0.length c0_0) := (blk_cell BK261.out 0).trans rfl; have hfz17_0 := blk_frozen BK261.out 0) | ((with_reducible refine gate_callee (f := 47) rfl ?_); refine goesL_ (some 7) rfl rfl Try.func47 (by kernel_rfl) rfl #[.agg #[.slice A0_0 l0_0.length c0_0]] rfl (by (try simp only [List.map_toArray, List.map_cons, List.map_nil]); first | done | rfl | (simp only [List.length_drop, List.length_take]; rfl)) ?_; (with_reducible refine (impl_IsPoset.calls k _ _ l0_0 false _ ?side1 ?side2 A3.out).mono ?_); (case side1 => repeat (first | exact (Kd.C_below HR0_0.out HB.out) | (with_reducible refine Kd.C_alloc ?_ _) | (with_reducible refine Kd.C_drewN ?_ _) | (with_reducible refine Kd.C_drew ?_))); (case side2 => exact HC0_0.out); rintro e w18 ⟨rfl, hb⟩; refine ⟨_, rfl, ?_⟩; have n0_ := Aside0.mk (blk_below (g := gb261) (o := .cells #[.slice A0_0 l0_0.length c0_0] 30 (0, 0)) (by (with_reducible repeat (first | refine blk_drewN ?_ _ | refine blk_drew ?_ | refine blk_alloc ?_ _)); exact BK261.out) hb); have n1_ := Aside0.mk (below_step (by repeat (first | (with_reducible first | exact HB.out | apply below_alloc | apply pw_below_drewN | apply below_drew1 | refine below_set ?_ GE261.out) | exact HB.out)) hb); clear BK261; clear HB; have BK261 := n0_; have HB := n1_; clear n0_ n1_; (try clear hb); (try clear hb2); (try clear hk); (try clear hi)))
    go_ret2
    exact ⟨by first | rfl | (simp [errW_none, errW_some] <;> rfl) | (simp [*, errW_none, errW_some] <;> rfl), by repeat (first | (with_reducible first | exact HB.out | apply below_alloc | apply pw_below_drewN | apply below_drew1 | refine below_set ?_ GE261.out) | exact HB.out)⟩

end Go.Proofs.Ytemkddgfneohhaa.F
end

section
namespace Go.Proofs.Ytemkddgfneohhaa.Q
open Go.RowKit Go.Proofs.YtemkddgfneohhaaW.PrintWords Go.Proofs.Ytemkddgfneohhaa.F
set_option linter.unusedVariables false
def topN (p : List Int) (s : Nat) : Nat := (itemsN s).foldl (fun a e => ndiff a (L p e)) s
theorem foldl_ndiff_lt (g : Nat → Nat) (l : List Nat) (a n : Nat) (ha : a < n) : l.foldl (fun a e => ndiff a (g e)) a < n := by
  induction l generalizing a with
  | nil => exact ha
  | cons x l ih => exact ih _ (ndiff_lt ha)
theorem foldl_ndiff_bit (g : Nat → Nat) (l : List Nat) (a i : Nat) : (l.foldl (fun a e => ndiff a (g e)) a).testBit i = (a.testBit i && !l.any fun e => (g e).testBit i) := by
  induction l generalizing a with
  | nil => simp
  | cons x l ih =>
    rw [List.foldl_cons, ih, ndiff_bit, List.any_cons]
    cases a.testBit i <;> cases (g x).testBit i <;> simp
theorem top_ev {p : List Int} (hp : PO p) {s : Nat} (hs : s < 2 ^ p.length) : Ev (fun k => impl_Poset_top.f k p (s : Int)) ((topN p s : Nat) : Int) := by
  have hn := hp.small
  unfold impl_Poset_top.f
  refine Ev.bind (items_ev s (lt_pow hs (by omega))) ?_
  have hil := itemsN_len s
  have key : ∀ i, i ≤ (itemsN s).length → ∀ a : Nat, a < 2 ^ p.length → Ev (fun k => impl_Poset_top.l0 k (a : Int) (ints (itemsN s)) ((ints (itemsN s)).length : Int) (i : Int) p) ((((itemsN s).drop i).foldl (fun a e => ndiff a (L p e)) a : Nat) : Int) := by
    refine downTo _ ?_ ?_
    · intro a ha
      rw [List.drop_length]
      exact Ev.step (by intro k; simp only [impl_Poset_top.l0]; rfl) (Ev.no (by rw [ints_len]; omega) (Ev.now _))
    · intro i hi ih a ha
      have he : (itemsN s).getD i 0 < p.length := items_lt hs hi
      have hrd : rd (ints (itemsN s)) (i : Int) = (((itemsN s).getD i 0 : Nat) : Int) := rd_ints _ _
      refine Ev.step (by intro k; simp only [impl_Poset_top.l0]; rfl) (Ev.yes (by rw [ints_len]; omega) (Ev.yes (by omega) (Ev.yes (by rw [ints_len]; omega) ?_)))
      rw [hrd]
      refine Ev.yes (by omega) (Ev.yes (by omega) ?_)
      rw [rdN, hp.val _ he, bits_andNotN (lt_pow ha (by omega)) (lt_pow (L_lt hp he) (by omega)), wid1 hi (by omega), foldl_drop_step _ _ 0 a hi]
      exact ih _ (ndiff_lt ha)
  exact key 0 (Nat.zero_le _) s hs
theorem topN_eq {p : List Int} (hp : PO p) {u : Nat} (hu : u < 2 ^ p.length) : (topN p u == u) = frB p u := by
  have hn := hp.small
  rw [Bool.eq_iff_iff, beq_iff_eq]
  unfold frB
  rw [allFrom_iff]
  constructor
  · intro h i _ hi
    cases hb : u.testBit i with
    | false => rfl
    | true =>
      rw [Bool.not_true, Bool.false_or, decide_eq_true_eq]
      apply Nat.eq_of_testBit_eq
      intro j
      rw [Nat.testBit_and, Nat.zero_testBit]
      cases hj : u.testBit j with
      | false => simp
      | true =>
        have h1 : (topN p u).testBit j = true := by rw [h]; exact hj
        unfold topN at h1
        rw [foldl_ndiff_bit, hj, Bool.true_and] at h1
        have h2 : ¬ (L p i).testBit j = true := fun hl => by
          rw [List.any_eq_true.2 ⟨i, mem_itemsN.2 ⟨by omega, hb⟩, hl⟩] at h1; cases h1
        simp [h2]
  · intro h
    apply Nat.eq_of_testBit_eq
    intro j
    unfold topN
    rw [foldl_ndiff_bit]
    cases hj : u.testBit j with
    | false => rfl
    | true =>
      rw [Bool.true_and, Bool.not_eq_true', List.any_eq_false]
      intro e he hl
      have hb := (mem_itemsN.1 he).2
      have h1 := h e (Nat.zero_le _) (lt_of_bit hu hb)
      rw [hb, Bool.not_true, Bool.false_or, decide_eq_true_eq] at h1
      have h2 : (L p e &&& u).testBit j = true := by rw [Nat.testBit_and, hl, hj]; rfl
      rw [h1, Nat.zero_testBit] at h2
      cases h2
theorem steps_ev {p : List Int} (hp : PO p) : Ev (fun k => impl_Poset_steps.f k p) (ints (stepsN p)) := by
  have hn := hp.small
  have hall : allN p ∈ idealsN p := mem_idealsN.2 ⟨allN_lt p, idealB_all p hp⟩
  obtain ⟨K1, hK1⟩ := ideals_ev hp
  obtain ⟨K2, hK2⟩ := Ev.all (g := fun s k => impl_Poset_top.f k p (s : Int)) (r := fun s => ((topN p s : Nat) : Int)) (2 ^ p.length) (fun s hs => top_ev hp hs)
  refine ⟨K1 + K2, fun k hk => ?_⟩
  show impl_Poset_steps.f k p = _
  unfold impl_Poset_steps.f
  have htop : ∀ s ∈ idealsN p, ∀ t ∈ idealsN p, impl_Poset_top.f k p (Go.bits .andNot .i64 (t : Int) (s : Int)) = some ((topN p (ndiff t s) : Nat) : Int) := fun s hs t ht => by
    rw [bits_andNotN (lt_pow (mem_idealsN.1 ht).1 (by omega)) (lt_pow (mem_idealsN.1 hs).1 (by omega))]
    exact hK2 k (by omega) _ (ndiff_lt (mem_idealsN.1 ht).1)
  have hok : stpOk k p (ints (idealsN p)) = true := List.all_eq_true.2 fun x hx => List.all_eq_true.2 fun y hy => by
    obtain ⟨t, ht, rfl⟩ := List.mem_map.1 hx
    obtain ⟨s, hs, rfl⟩ := List.mem_map.1 hy
    show (impl_Poset_top.f k p (Go.bits .andNot .i64 (t : Int) (s : Int))).isSome = true
    rw [htop s hs t ht]; rfl
  have h1 : impl_Poset_ideals.f k p = some (ints (idealsN p)) := hK1 k (by omega)
  rw [h1, Option.bind_some, all_eq (by omega), Option.bind_some, if_pos ⟨cntOk_ids hn, ⟨List.mem_map.2 ⟨allN p, hall, rfl⟩, by omega⟩, hok⟩]
  congr 1
  unfold stpOuts stepsN ints
  rw [List.map_map]
  refine List.map_congr_left fun j hj => ?_
  have hj := List.mem_range.1 hj
  refine cntAt_eq hn (B := opB p) (fun s hs t ht => ?_) (fun s t h => opB_sub h) (j + 1) (by omega) (allN p) hall
  unfold stpB opB
  rw [htop s hs t ht, Option.getD_some, bits_andNotN (lt_pow (mem_idealsN.1 hs).1 (by omega)) (lt_pow (mem_idealsN.1 ht).1 (by omega)), bits_andNotN (lt_pow (mem_idealsN.1 ht).1 (by omega)) (lt_pow (mem_idealsN.1 hs).1 (by omega)), ← topN_eq hp (ndiff_lt (mem_idealsN.1 ht).1)]
  have e1 : (((ndiff s t : Nat) : Int) == 0) = subB s t := by unfold subB; rw [Bool.eq_iff_iff, beq_iff_eq, beq_iff_eq]; omega
  have e2 : (((ndiff t s : Nat) : Int) != 0) = !(ndiff t s == 0) := by unfold bne; congr 1; rw [Bool.eq_iff_iff, beq_iff_eq, beq_iff_eq]; omega
  have e3 : (((topN p (ndiff t s) : Nat) : Int) == ((ndiff t s : Nat) : Int)) = (topN p (ndiff t s) == ndiff t s) := by rw [Bool.eq_iff_iff, beq_iff_eq, beq_iff_eq]; omega
  rw [e1, e2, e3]
end Go.Proofs.Ytemkddgfneohhaa.Q
end

section
namespace Go.Proofs.Ytemkddgfneohhaa.Q
open Go.RowKit Go.Proofs.YtemkddgfneohhaaW.PrintWords Go.Proofs.Ytemkddgfneohhaa.F
set_option linter.unusedVariables false
theorem polynomial_ev {p : List Int} (hp : PO p) (x : Int) : Ev (fun k => impl_Poset_polynomial.f k p x) (polyL x (ints (stepsN p)) 0 0) := by
  have hn := hp.small
  unfold impl_Poset_polynomial.f
  refine Ev.bind (steps_ev hp) ?_
  have hl : (ints (stepsN p)).length = p.length := by rw [ints_len, stepsN_len]
  generalize ints (stepsN p) = S at hl ⊢
  have key : ∀ i, i ≤ S.length → ∀ acc : Int, Ev (fun k => impl_Poset_polynomial.l0 k x acc (ch x i) S (S.length : Int) (i : Int)) (polyL x (S.drop i) i acc) := by
    refine downTo _ ?_ ?_
    · intro acc
      rw [List.drop_length]
      exact Ev.step (by intro k; simp only [impl_Poset_polynomial.l0]; rfl) (Ev.no (by omega) (Ev.now _))
    · intro i hi ih acc
      refine Ev.step (by intro k; simp only [impl_Poset_polynomial.l0]; rfl) (Ev.yes (by omega) (Ev.yes (by omega) (Ev.yes (by omega) ?_)))
      rw [wid1 hi (by omega), List.drop_eq_getElem_cons hi]
      refine Ev.no (by omega) ?_
      rw [rdN' hi]
      exact ih _
  exact key 0 (Nat.zero_le _) 0
end Go.Proofs.Ytemkddgfneohhaa.Q
end

section
namespace Go.Proofs.Ytemkddgfneohhaa.F
open Go.RowKit Go.Proofs.YtemkddgfneohhaaW.PrintWords Go.Proofs.YtemkddgfneohhaaW.PrintLast Go.Proofs.YtemkddgfneohhaaW.PrintMore
set_option linter.unusedVariables false
set_option linter.unusedSimpArgs false
theorem laws_FnExactCountStrict.belowD {w w' : World} (h : Drawn0 w w') : Below w.heap.size w w' := by
  obtain ⟨m, rfl⟩ := h
  exact pw_below_drewN (Below.refl _ _) m
set_option maxHeartbeats 8000000 in
set_option maxRecDepth 100000 in
theorem laws_FnExactCountStrict.calls0 (k k1 : Nat) (A0 : Option Addr) (c0 : Nat) (l0 : List Int) (a1 : Int) (z1 : Int) (w : World) (hr0 : Kd.C (Kd.int .i64) w A0 l0.length l0) (hc0 : l0.length ≤ c0) (hy0_ : laws_szPoset.f l0 1048576 = some z1) (hx : decide (z1 < 0) = true) :
    Calls Try.prog 6 #[.agg #[.slice A0 l0.length c0], .int .i64 a1] w fun e w' => e = .returned (.bool true) ∧ Below w.heap.size w w' := by
  have HR0 := Aside0.mk hr0
  have HC0 := Aside0.mk hc0
  clear hr0 hc0
  have hy0 := Aside0.mk hy0_
  clear hy0_
  have HT0 := Aside0.mk (Below.refl w.heap.size w)
  go_enter Try.func6, Try.ntmps6
  go_wp2_with (first | ((with_reducible refine gate_dst (N := 2) rfl ?_); refine box_event ?hg (N := 2) ?hd (cs := #[.slice A0 l0.length c0]) (t := 27) ?hr ?_; (case hd => rfl); (case hg => rfl); (case hr => first | (go_simp; done) | (go_simp; rfl)); intro g2 hg_ w1 hbox_ hb_; have HB1 := Aside0.mk hb_; have HZ1 : Aside0 (w.heap.size ≤ w1.heap.size) := ⟨hb_.size⟩; have HT1 := Aside0.mk (HT0.out.trans (Below.mono hb_ HT0.out.size)); have HG2 : Aside0 (w.heap.size ≤ g2 ∧ g2 < w1.heap.size) := ⟨Nat.le_of_eq hg_.symm, blk_lt hbox_⟩; have HBK_ := Aside0.mk hbox_; clear hb_ hbox_ hg_; have HBK2 := HBK_; clear HBK_; have hcz2 : w1.cell? ⟨g2, 0, none⟩ = some (.slice A0 l0.length c0) := (blk_cell HBK2.out 0).trans rfl; have hfz2 := blk_frozen HBK2.out 0))
  have hcall_ := laws_szPoset.calls _ _ l0 1048576 z1 _ (Kd.C_below HR0.out HT1.out) HC0.out hy0.out
  refine hcall_.mono ?_
  clear hcall_ 
  rintro e w2 ⟨rfl, hb_⟩
  have HB2 := Aside0.mk hb_
  have HZ2 : Aside0 (w1.heap.size ≤ w2.heap.size) := ⟨hb_.size⟩
  have HT2 := Aside0.mk (HT1.out.trans (Below.mono hb_ HT1.out.size))
  clear hb_
  have n_ := Aside0.mk (blk_below HBK2.out HB2.out)
  clear HBK2 hcz2
  have HBK2 := n_
  clear n_
  have hcz2 : w2.cell? ⟨g2, 0, none⟩ = some (.slice A0 l0.length c0) := (blk_cell HBK2.out 0).trans rfl
  go_wp2
  go_ret
  exact ⟨by first | rfl | (simp; done) | (simp [*]; done), by repeat (first | (with_reducible first | exact HT2.out | apply below_alloc | apply pw_below_drewN | apply below_drew1) | exact HT2.out)⟩
set_option maxHeartbeats 8000000 in
set_option maxRecDepth 100000 in
theorem laws_FnExactCountStrict.calls1 (k k1 : Nat) (A0 : Option Addr) (c0 : Nat) (l0 : List Int) (a1 : Int) (z1 : Int) (v2 : Int) (v3 : Bool) (w : World) (hr0 : Kd.C (Kd.int .i64) w A0 l0.length l0) (hc0 : l0.length ≤ c0) (hy0_ : laws_szPoset.f l0 1048576 = some z1) (hy1 : decide (z1 < 0) = false) (hy2_ : laws_toPoset.f k1 l0 = some l0) (hy3_ : spec_CountStrict.f k l0 a1 = some (v2, v3)) (hy4_ : impl_CountStrict.f k l0 a1 = some (v2, v3)) (hy5_ : laws_eqPoset.f k1 l0 l0 = some true) :
    Calls Try.prog 6 #[.agg #[.slice A0 l0.length c0], .int .i64 a1] w fun e w' => e = .returned (.bool true) ∧ Below w.heap.size w w' := by
  have HR0 := Aside0.mk hr0
  have HC0 := Aside0.mk hc0
  clear hr0 hc0
  have hy0 := Aside0.mk hy0_
  clear hy0_
  have hy2 := Aside0.mk hy2_
  clear hy2_
  have hy3 := Aside0.mk hy3_
  clear hy3_
  have hy4 := Aside0.mk hy4_
  clear hy4_
  have hy5 := Aside0.mk hy5_
  clear hy5_
  have HT0 := Aside0.mk (Below.refl w.heap.size w)
  go_enter Try.func6, Try.ntmps6
  go_wp2_with (first | ((with_reducible refine gate_dst (N := 2) rfl ?_); refine box_event ?hg (N := 2) ?hd (cs := #[.slice A0 l0.length c0]) (t := 27) ?hr ?_; (case hd => rfl); (case hg => rfl); (case hr => first | (go_simp; done) | (go_simp; rfl)); intro g2 hg_ w1 hbox_ hb_; have HB1 := Aside0.mk hb_; have HZ1 : Aside0 (w.heap.size ≤ w1.heap.size) := ⟨hb_.size⟩; have HT1 := Aside0.mk (HT0.out.trans (Below.mono hb_ HT0.out.size)); have HG2 : Aside0 (w.heap.size ≤ g2 ∧ g2 < w1.heap.size) := ⟨Nat.le_of_eq hg_.symm, blk_lt hbox_⟩; have HBK_ := Aside0.mk hbox_; clear hb_ hbox_ hg_; have HBK2 := HBK_; clear HBK_; have hcz2 : w1.cell? ⟨g2, 0, none⟩ = some (.slice A0 l0.length c0) := (blk_cell HBK2.out 0).trans rfl; have hfz2 := blk_frozen HBK2.out 0))
  have hcall_ := laws_szPoset.calls _ _ l0 1048576 z1 _ (Kd.C_below HR0.out HT1.out) HC0.out hy0.out
  refine hcall_.mono ?_
  clear hcall_ 
  rintro e w2 ⟨rfl, hb_⟩
  have HB2 := Aside0.mk hb_
  have HZ2 : Aside0 (w1.heap.size ≤ w2.heap.size) := ⟨hb_.size⟩
  have HT2 := Aside0.mk (HT1.out.trans (Below.mono hb_ HT1.out.size))
  clear hb_
  have n_ := Aside0.mk (blk_below HBK2.out HB2.out)
  clear HBK2 hcz2
  have HBK2 := n_
  clear n_
  have hcz2 : w2.cell? ⟨g2, 0, none⟩ = some (.slice A0 l0.length c0) := (blk_cell HBK2.out 0).trans rfl
  go_wp2_with fail
  have hcall_ := laws_toPoset.calls k1 _ _ l0 l0 _ (Kd.C_below HR0.out HT2.out) HC0.out hy2.out
  refine hcall_.mono ?_
  clear hcall_ 
  rintro e w3 ⟨v1x, rfl, hx1_, hb_⟩
  have HB3 := Aside0.mk hb_
  have HZ3 : Aside0 (w2.heap.size ≤ w3.heap.size) := ⟨hb_.size⟩
  have HT3 := Aside0.mk (HT2.out.trans (Below.mono hb_ HT2.out.size))
  clear hb_
  have n_ := Aside0.mk (blk_below HBK2.out HB3.out)
  clear HBK2 hcz2
  have HBK2 := n_
  clear n_
  have hcz2 : w3.cell? ⟨g2, 0, none⟩ = some (.slice A0 l0.length c0) := (blk_cell HBK2.out 0).trans rfl
  have HX1 := Aside0.mk (Kd.R_lower (Kd.R_mono (ok' := fun k_ => w2.heap.size ≤ k_ ∧ k_ < w3.heap.size) (Kd.R_bound hx1_) (fun k_ h_ => ⟨h_.2.1, h_.2.2.1⟩)) HT2.out.size)
  clear hx1_
  go_wp2_with fail
  obtain ⟨A1_, c1_, e1_, hl1_, hC1_⟩ := Kd.R_reads HX1.out
  have hcall_ := spec_CountStrict.calls k _ _ l0 a1 v2 v3 _ hC1_ hl1_ hy3.out
  rw [← e1_] at hcall_
  refine hcall_.mono ?_
  clear hcall_ hC1_ hl1_ e1_ c1_ A1_
  rintro e w4 ⟨rfl, hb_⟩
  have HB4 := Aside0.mk hb_
  have HZ4 : Aside0 (w3.heap.size ≤ w4.heap.size) := ⟨hb_.size⟩
  have HT4 := Aside0.mk (HT3.out.trans (Below.mono hb_ HT3.out.size))
  clear hb_
  have n_ := Aside0.mk (Kd.R_below HX1.out HB4.out)
  clear HX1
  have HX1 := n_
  clear n_
  have n_ := Aside0.mk (blk_below HBK2.out HB4.out)
  clear HBK2 hcz2
  have HBK2 := n_
  clear n_
  have hcz2 : w4.cell? ⟨g2, 0, none⟩ = some (.slice A0 l0.length c0) := (blk_cell HBK2.out 0).trans rfl
  go_wp2_with fail
  have hcall_ := laws_toPoset.calls k1 _ _ l0 l0 _ (Kd.C_below HR0.out HT4.out) HC0.out hy2.out
  refine hcall_.mono ?_
  clear hcall_ 
  rintro e w5 ⟨v2x, rfl, hx2_, hb_⟩
  have HB5 := Aside0.mk hb_
  have HZ5 : Aside0 (w4.heap.size ≤ w5.heap.size) := ⟨hb_.size⟩
  have HT5 := Aside0.mk (HT4.out.trans (Below.mono hb_ HT4.out.size))
  clear hb_
  have n_ := Aside0.mk (Kd.R_below HX1.out HB5.out)
  clear HX1
  have HX1 := n_
  clear n_
  have n_ := Aside0.mk (blk_below HBK2.out HB5.out)
  clear HBK2 hcz2
  have HBK2 := n_
  clear n_
  have hcz2 : w5.cell? ⟨g2, 0, none⟩ = some (.slice A0 l0.length c0) := (blk_cell HBK2.out 0).trans rfl
  have HX2 := Aside0.mk (Kd.R_lower (Kd.R_mono (ok' := fun k_ => w4.heap.size ≤ k_ ∧ k_ < w5.heap.size) (Kd.R_bound hx2_) (fun k_ h_ => ⟨h_.2.1, h_.2.2.1⟩)) HT4.out.size)
  clear hx2_
  obtain ⟨Aq2, cq2, eq_⟩ := Kd.R_slice HX2.out
  subst eq_
  go_wp2_with (first | ((with_reducible refine gate_dst (N := 8) rfl ?_); refine box_event ?hg (N := 8) ?hd (cs := #[.slice none 0 0]) (t := 30) ?hr ?_; (case hd => rfl); (case hg => rfl); (case hr => first | (go_simp; done) | (go_simp; rfl)); intro g8 hg_ w6 hbox_ hb_; have HB6 := Aside0.mk hb_; have HZ6 : Aside0 (w5.heap.size ≤ w6.heap.size) := ⟨hb_.size⟩; have HT6 := Aside0.mk (HT5.out.trans (Below.mono hb_ HT5.out.size)); have HG8 : Aside0 (w5.heap.size ≤ g8 ∧ g8 < w6.heap.size) := ⟨Nat.le_of_eq hg_.symm, blk_lt hbox_⟩; have HBK_ := Aside0.mk hbox_; clear hb_ hbox_ hg_; have n_ := Aside0.mk (Kd.R_below HX1.out HB6.out); clear HX1; have HX1 := n_; clear n_; have n_ := Aside0.mk (Kd.R_below HX2.out HB6.out); clear HX2; have HX2 := n_; clear n_; have n_ := Aside0.mk (blk_below HBK2.out HB6.out); clear HBK2 hcz2; have HBK2 := n_; clear n_; have hcz2 : w6.cell? ⟨g2, 0, none⟩ = some (.slice A0 l0.length c0) := (blk_cell HBK2.out 0).trans rfl; have HBK8 := HBK_; clear HBK_; have hcz8 : w6.cell? ⟨g8, 0, none⟩ = some (.slice none 0 0) := (blk_cell HBK8.out 0).trans rfl; have hfz8 := blk_frozen HBK8.out 0) | ((with_reducible refine gate_store (t := 30) (p := 8) rfl ?_); refine store_event (t := 30) (p := 8) (v := ?vo_) (w1 := (w6.setCell ⟨g8, 0, none⟩ (.slice Aq2 l0.length cq2))) ?hg ?ho ?hn ?hr ?_; (case ho => rfl); (case hg => rfl); (case hn => rfl); (case hr => first | (go_simp; done) | (go_simp; rfl)); intro w7 hw_; have hlt_ : w.heap.size ≤ g8 := (by have z1 := HZ1.out; have z2 := HZ2.out; have z3 := HZ3.out; have z4 := HZ4.out; have z5 := HZ5.out; have z6 := HZ6.out; have hg_ := HG8.out; have h0_ := HT0.out.size; omega); have HT7 : Aside0 (Below w.heap.size w w7) := ⟨by rw [hw_]; exact below_set HT6.out hlt_⟩; have HZ7 : Aside0 (w6.heap.size ≤ w7.heap.size) := ⟨by rw [hw_]; simp [World.setCell]⟩; have n_ : Aside0 (Kd.R (Kd.int .i64) 3 w7 w.heap.size (fun k_ => w2.heap.size ≤ k_ ∧ k_ < w3.heap.size) v1x l0) := ⟨by rw [hw_]; exact Kd.R_far HX1.out (p := ⟨g8, 0, none⟩) (fun k_ h_ => by have z1 := HZ1.out; have z2 := HZ2.out; have z3 := HZ3.out; have z4 := HZ4.out; have z5 := HZ5.out; have z6 := HZ6.out; have hg_ := HG8.out; show k_ ≠ g8; omega) _⟩; clear HX1; have HX1 := n_; clear n_; have n_ : Aside0 (Kd.R (Kd.int .i64) 3 w7 w.heap.size (fun k_ => w4.heap.size ≤ k_ ∧ k_ < w5.heap.size) (.slice Aq2 l0.length cq2) l0) := ⟨by rw [hw_]; exact Kd.R_far HX2.out (p := ⟨g8, 0, none⟩) (fun k_ h_ => by have z1 := HZ1.out; have z2 := HZ2.out; have z3 := HZ3.out; have z4 := HZ4.out; have z5 := HZ5.out; have z6 := HZ6.out; have hg_ := HG8.out; show k_ ≠ g8; omega) _⟩; clear HX2; have HX2 := n_; clear n_; have nb2_ : Aside0 (w7.heap[g2]? = some (.cells #[.slice A0 l0.length c0] 27 (0, 0))) := ⟨by rw [hw_]; exact (Below.heap_setCell _ _ _ _ (by have z1 := HZ1.out; have z2 := HZ2.out; have z3 := HZ3.out; have z4 := HZ4.out; have z5 := HZ5.out; have z6 := HZ6.out; have h1_ := HG2.out; have h2_ := HG8.out; show g2 ≠ g8; omega)).trans HBK2.out⟩; have nb8_ : Aside0 (w7.heap[g8]? = some (.cells #[.slice Aq2 l0.length cq2] 30 (0, 0))) := ⟨by rw [hw_]; exact one_setCell HBK8.out⟩; clear hcz2; clear hcz8; clear hw_; clear HBK2; have HBK2 := nb2_; clear nb2_; have hcz2 : w7.cell? ⟨g2, 0, none⟩ = some (.slice A0 l0.length c0) := (blk_cell HBK2.out 0).trans rfl; clear HBK8; have HBK8 := nb8_; clear nb8_; have hcz8 : w7.cell? ⟨g8, 0, none⟩ = some (.slice Aq2 l0.length cq2) := (blk_cell HBK8.out 0).trans rfl))
  obtain ⟨A2_, c2_, e2_, hl2_, hC2_⟩ := Kd.R_reads HX2.out
  have hcall_ := impl_CountStrict.calls k _ _ l0 a1 v2 v3 _ hC2_ hl2_ hy4.out
  rw [← e2_] at hcall_
  refine hcall_.mono ?_
  clear hcall_ hC2_ hl2_ e2_ c2_ A2_
  rintro e w8 ⟨rfl, hb_⟩
  have HB8 := Aside0.mk hb_
  have HZ8 : Aside0 (w7.heap.size ≤ w8.heap.size) := ⟨hb_.size⟩
  have HT8 := Aside0.mk (HT7.out.trans (Below.mono hb_ HT7.out.size))
  clear hb_
  have n_ := Aside0.mk (Kd.R_below HX1.out HB8.out)
  clear HX1
  have HX1 := n_
  clear n_
  have n_ := Aside0.mk (Kd.R_below HX2.out HB8.out)
  clear HX2
  have HX2 := n_
  clear n_
  have n_ := Aside0.mk (blk_below HBK2.out HB8.out)
  clear HBK2 hcz2
  have HBK2 := n_
  clear n_
  have hcz2 : w8.cell? ⟨g2, 0, none⟩ = some (.slice A0 l0.length c0) := (blk_cell HBK2.out 0).trans rfl
  have n_ := Aside0.mk (blk_below HBK8.out HB8.out)
  clear HBK8 hcz8
  have HBK8 := n_
  clear n_
  have hcz8 : w8.cell? ⟨g8, 0, none⟩ = some (.slice Aq2 l0.length cq2) := (blk_cell HBK8.out 0).trans rfl
  go_wp2_with fail
  have HB9 := Aside0.mk (below_drew (Below.refl w8.heap.size w8))
  have HZ9 : Aside0 (w8.heap.size ≤ w8.drew.heap.size) := ⟨Nat.le_refl _⟩
  have HT9 := Aside0.mk (HT8.out.trans (Below.mono HB9.out HT8.out.size))
  have n_ := Aside0.mk (Kd.R_below HX1.out HB9.out)
  clear HX1
  have HX1 := n_
  clear n_
  have n_ := Aside0.mk (Kd.R_below HX2.out HB9.out)
  clear HX2
  have HX2 := n_
  clear n_
  have n_ := Aside0.mk (blk_below HBK2.out HB9.out)
  clear HBK2 hcz2
  have HBK2 := n_
  clear n_
  have hcz2 : w8.drew.cell? ⟨g2, 0, none⟩ = some (.slice A0 l0.length c0) := (blk_cell HBK2.out 0).trans rfl
  have n_ := Aside0.mk (blk_below HBK8.out HB9.out)
  clear HBK8 hcz8
  have HBK8 := n_
  clear n_
  have hcz8 : w8.drew.cell? ⟨g8, 0, none⟩ = some (.slice Aq2 l0.length cq2) := (blk_cell HBK8.out 0).trans rfl
  go_region_held3 (fun w_ => w_.cell? ⟨g2, 0, none⟩ = some (.slice A0 l0.length c0) ∧ w_.cell? ⟨g8, 0, none⟩ = some (.slice Aq2 l0.length cq2)) (exact ⟨hcz2, hcz8⟩) (first | (go_at_call 16; have hcall_ := laws_toPoset.calls k1 _ _ l0 l0 _ (Kd.C_below HR0.out HT9.out) HC0.out hy2.out; refine hcall_.mono ?_; clear hcall_; rintro e w10 ⟨v3x, rfl, hx3_, hb_⟩; have HB10 := Aside0.mk hb_; have HZ10 : Aside0 (w8.drew.heap.size ≤ w10.heap.size) := ⟨hb_.size⟩; have HT10 := Aside0.mk (HT9.out.trans (Below.mono hb_ HT9.out.size)); clear hb_; have n_ := Aside0.mk (Kd.R_below HX1.out HB10.out); clear HX1; have HX1 := n_; clear n_; have n_ := Aside0.mk (Kd.R_below HX2.out HB10.out); clear HX2; have HX2 := n_; clear n_; have n_ := Aside0.mk (blk_below HBK2.out HB10.out); clear HBK2 hcz2; have HBK2 := n_; clear n_; have hcz2 : w10.cell? ⟨g2, 0, none⟩ = some (.slice A0 l0.length c0) := (blk_cell HBK2.out 0).trans rfl; have n_ := Aside0.mk (blk_below HBK8.out HB10.out); clear HBK8 hcz8; have HBK8 := n_; clear n_; have hcz8 : w10.cell? ⟨g8, 0, none⟩ = some (.slice Aq2 l0.length cq2) := (blk_cell HBK8.out 0).trans rfl; have HX3 := Aside0.mk (Kd.R_lower (Kd.R_mono (ok' := fun k_ => w8.drew.heap.size ≤ k_ ∧ k_ < w10.heap.size) (Kd.R_bound hx3_) (fun k_ h_ => ⟨h_.2.1, h_.2.2.1⟩)) HT9.out.size); clear hx3_) | (go_at_call 18; obtain ⟨A2_, c2_, e2_, hl2_, hC2_⟩ := Kd.R_reads HX2.out; obtain ⟨A3_, c3_, e3_, hl3_, hC3_⟩ := Kd.R_reads HX3.out; have hcall_ := laws_eqPoset.calls k1 _ _ l0 _ _ l0 true _ hC2_ hl2_ hC3_ hl3_ hy5.out; rw [← e2_] at hcall_; rw [← e3_] at hcall_; refine hcall_.mono ?_; clear hcall_ hC2_ hl2_ e2_ c2_ A2_ hC3_ hl3_ e3_ c3_ A3_; rintro e w11 ⟨rfl, hb_⟩; have HB11 := Aside0.mk hb_; have HZ11 : Aside0 (w10.heap.size ≤ w11.heap.size) := ⟨hb_.size⟩; have HT11 := Aside0.mk (HT10.out.trans (Below.mono hb_ HT10.out.size)); clear hb_; have n_ := Aside0.mk (Kd.R_below HX1.out HB11.out); clear HX1; have HX1 := n_; clear n_; have n_ := Aside0.mk (Kd.R_below HX2.out HB11.out); clear HX2; have HX2 := n_; clear n_; have n_ := Aside0.mk (Kd.R_below HX3.out HB11.out); clear HX3; have HX3 := n_; clear n_; have n_ := Aside0.mk (blk_below HBK2.out HB11.out); clear HBK2 hcz2; have HBK2 := n_; clear n_; have hcz2 : w11.cell? ⟨g2, 0, none⟩ = some (.slice A0 l0.length c0) := (blk_cell HBK2.out 0).trans rfl; have n_ := Aside0.mk (blk_below HBK8.out HB11.out); clear HBK8 hcz8; have HBK8 := n_; clear n_; have hcz8 : w11.cell? ⟨g8, 0, none⟩ = some (.slice Aq2 l0.length cq2) := (blk_cell HBK8.out 0).trans rfl))
  go_wp2
  go_ret
  exact ⟨by first | rfl | (simp; done) | (simp [*]; done), by repeat (first | (with_reducible first | exact HT11.out | apply below_alloc | apply pw_below_drewN | apply below_drew1) | exact HT11.out)⟩
open Classical in
noncomputable def laws_FnExactCountStrict.f (k : Nat) (l0 : List Int) (a1 : Int) : Option Bool := if ∃ k1 : Nat, (∃ (z1 : Int), (laws_szPoset.f l0 1048576 = some z1) ∧ (decide (z1 < 0) = true)) ∨ (∃ (z1 : Int) (v2 : Int) (v3 : Bool), (laws_szPoset.f l0 1048576 = some z1) ∧ (decide (z1 < 0) = false) ∧ (laws_toPoset.f k1 l0 = some l0) ∧ (spec_CountStrict.f k l0 a1 = some (v2, v3)) ∧ (impl_CountStrict.f k l0 a1 = some (v2, v3)) ∧ (laws_eqPoset.f k1 l0 l0 = some true)) then some true else none
theorem laws_FnExactCountStrict.calls (k : Nat) (A0 : Option Addr) (c0 : Nat) (l0 : List Int) (a1 : Int) (r : Bool) (w : World) (hr0 : Kd.C (Kd.int .i64) w A0 l0.length l0) (hc0 : l0.length ≤ c0) (h : laws_FnExactCountStrict.f k l0 a1 = some r) :
    Calls Try.prog 6 #[.agg #[.slice A0 l0.length c0], .int .i64 a1] w fun e w' => e = .returned (.bool r) ∧ Below w.heap.size w w' := by
  unfold laws_FnExactCountStrict.f at h
  split at h
  · rename_i hh
    obtain rfl := Option.some.inj h
    obtain ⟨k1, hh⟩ := hh
    rcases hh with ⟨z1, hy0, hx⟩ | ⟨z1, v2, v3, hy0, hy1, hy2, hy3, hy4, hy5⟩
    · exact laws_FnExactCountStrict.calls0 k k1 _ _ l0 a1 z1 w hr0 hc0 hy0 hx
    · exact laws_FnExactCountStrict.calls1 k k1 _ _ l0 a1 z1 v2 v3 w hr0 hc0 hy0 hy1 hy2 hy3 hy4 hy5
  · cases h
end Go.Proofs.Ytemkddgfneohhaa.F
end
