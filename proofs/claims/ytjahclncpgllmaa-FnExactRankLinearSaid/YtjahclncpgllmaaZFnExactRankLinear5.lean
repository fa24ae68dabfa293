/- Part 5 of the texts below the row of FnExactRankLinear: printed functions with their contracts, and plain lemmas. No condition. -/
import Derived.Test.YtjahclncpgllmaaZFnExactRankLinear4
import Derived.Deep.RegionHeld3
import Derived.OneCell
section
namespace Go.Proofs.Ytjahclncpgllmaa.F
open Go.RowKit Go.Proofs.YtjahclncpgllmaaW.PrintWords Go.Proofs.YtjahclncpgllmaaW.PrintLast Go.Proofs.YtjahclncpgllmaaW.PrintMore
attribute [local go_sem] max2_int min2_int max_two min_two max_three min_three max_four min_four
set_option linter.unusedVariables false
set_option linter.unusedSimpArgs false

/-! ### impl_RankLinear: function 37 -/
mutual
def impl_RankLinear.l0 : Nat → List Int → Int → Int → List Int → Int → Int → List Int → Option (Int × Bool)
  | 0, _, _, _, _, _, _, _ => none
  | k + 1, x6, x7, x8, x19, x20, x21, x601000 => if x21 < x20 then (if 0 ≤ x21 then (if x21 < (x19.length : Int) then ((impl_Poset_next.f k x601000 x8).bind fun t606 => (impl_RankLinear.l1 k x6 x7 x8 (rd x19 x21) x19 x20 x21 t606 (t606.length : Int) 0 x601000)) else (none)) else (none)) else (some (x7, true))
def impl_RankLinear.l1 : Nat → List Int → Int → Int → Int → List Int → Int → Int → List Int → Int → Int → List Int → Option (Int × Bool)
  | 0, _, _, _, _, _, _, _, _, _, _, _ => none
  | k + 1, x6, x7, x8, x10, x19, x20, x21, x27, x28, x29, x601000 => if x29 < x28 then (if 0 ≤ x29 then (if x29 < (x27.length : Int) then (if (rd x27 x29) < x10 then (if 0 ≤ (rd x27 x29) then (if 0 ≤ (Go.bits .or .i64 x8 (shl .i64 1 (rd x27 x29))) then (if (Go.bits .or .i64 x8 (shl .i64 1 (rd x27 x29))) < (x6.length : Int) then (impl_RankLinear.l1 k x6 (wrap64 (x7 + (rd x6 (Go.bits .or .i64 x8 (shl .i64 1 (rd x27 x29)))))) x8 x10 x19 x20 x21 x27 x28 (wrap64 (x29 + 1)) x601000) else (none)) else (none)) else (none)) else (impl_RankLinear.l1 k x6 x7 x8 x10 x19 x20 x21 x27 x28 (wrap64 (x29 + 1)) x601000)) else (none)) else (none)) else (if 0 ≤ x10 then (impl_RankLinear.l0 k x6 x7 (Go.bits .or .i64 x8 (shl .i64 1 x10)) x19 x20 (wrap64 (x21 + 1)) x601000) else (none))
end
def impl_RankLinear.f (k : Nat) (l0_0 : List Int) (l1 : List Int) : Option (Int × Bool) := (impl_isLinear.f k l0_0 l1).bind fun t601 => (if t601 = true then ((impl_Poset_ways.f k l0_0).bind fun t602 => (impl_RankLinear.l0 k t602 0 0 l1 (l1.length : Int) 0 l0_0)) else (some (0, false)))
theorem impl_RankLinear.mono_l : ∀ k, (∀ y0 y1 y2 y3 y4 y5 y6, LeO (impl_RankLinear.l0 k y0 y1 y2 y3 y4 y5 y6) (impl_RankLinear.l0 (k + 1) y0 y1 y2 y3 y4 y5 y6)) ∧ (∀ y0 y1 y2 y3 y4 y5 y6 y7 y8 y9 y10, LeO (impl_RankLinear.l1 k y0 y1 y2 y3 y4 y5 y6 y7 y8 y9 y10) (impl_RankLinear.l1 (k + 1) y0 y1 y2 y3 y4 y5 y6 y7 y8 y9 y10))
  | 0 => ⟨fun _ _ _ _ _ _ _ r h => by simp [impl_RankLinear.l0] at h, fun _ _ _ _ _ _ _ _ _ _ _ r h => by simp [impl_RankLinear.l1] at h⟩
  | k + 1 => by
    obtain ⟨ih0, ih1⟩ := impl_RankLinear.mono_l k
    refine ⟨?_, ?_⟩
    · intro y0 y1 y2 y3 y4 y5 y6
      unfold impl_RankLinear.l0
      repeat' first
      | (with_reducible exact ih0 _ _ _ _ _ _ _)
      | (with_reducible exact ih1 _ _ _ _ _ _ _ _ _ _ _)
      | (with_reducible exact impl_Poset_next.mono _ _ _)
      | (with_reducible exact impl_Poset_ways.mono _ _)
      | (with_reducible exact impl_isLinear.mono _ _ _)
      | (with_reducible exact LeO.refl _)
      | (with_reducible exact LeO.none _)
      | (with_reducible refine LeO.ite ?_ ?_)
      | (with_reducible refine LeO.bind ?_ (fun _ => ?_))
      | exact ih0 _ _ _ _ _ _ _
      | exact ih1 _ _ _ _ _ _ _ _ _ _ _
      | exact impl_Poset_next.mono _ _ _
      | exact impl_Poset_ways.mono _ _
      | exact impl_isLinear.mono _ _ _
      | exact LeO.none _
      | refine LeO.ite ?_ ?_
      | refine LeO.bind ?_ (fun _ => ?_)
    · intro y0 y1 y2 y3 y4 y5 y6 y7 y8 y9 y10
      unfold impl_RankLinear.l1
      repeat' first
      | (with_reducible exact ih0 _ _ _ _ _ _ _)
      | (with_reducible exact ih1 _ _ _ _ _ _ _ _ _ _ _)
      | (with_reducible exact impl_Poset_next.mono _ _ _)
      | (with_reducible exact impl_Poset_ways.mono _ _)
      | (with_reducible exact impl_isLinear.mono _ _ _)
      | (with_reducible exact LeO.refl _)
      | (with_reducible exact LeO.none _)
      | (with_reducible refine LeO.ite ?_ ?_)
      | (with_reducible refine LeO.bind ?_ (fun _ => ?_))
      | exact ih0 _ _ _ _ _ _ _
      | exact ih1 _ _ _ _ _ _ _ _ _ _ _
      | exact impl_Poset_next.mono _ _ _
      | exact impl_Poset_ways.mono _ _
      | exact impl_isLinear.mono _ _ _
      | exact LeO.none _
      | refine LeO.ite ?_ ?_
      | refine LeO.bind ?_ (fun _ => ?_)
theorem impl_RankLinear.mono : ∀ a0 a1 k, LeO (impl_RankLinear.f k a0 a1) (impl_RankLinear.f (k + 1) a0 a1) := by
  intro a0 a1 k
  obtain ⟨ih0, ih1⟩ := impl_RankLinear.mono_l k
  unfold impl_RankLinear.f
  repeat' first
      | (with_reducible exact ih0 _ _ _ _ _ _ _)
      | (with_reducible exact ih1 _ _ _ _ _ _ _ _ _ _ _)
      | (with_reducible exact impl_Poset_next.mono _ _ _)
      | (with_reducible exact impl_Poset_ways.mono _ _)
      | (with_reducible exact impl_isLinear.mono _ _ _)
      | (with_reducible exact LeO.refl _)
      | (with_reducible exact LeO.none _)
      | (with_reducible refine LeO.ite ?_ ?_)
      | (with_reducible refine LeO.bind ?_ (fun _ => ?_))
      | exact ih0 _ _ _ _ _ _ _
      | exact ih1 _ _ _ _ _ _ _ _ _ _ _
      | exact impl_Poset_next.mono _ _ _
      | exact impl_Poset_ways.mono _ _
      | exact impl_isLinear.mono _ _ _
      | exact LeO.none _
      | refine LeO.ite ?_ ?_
      | refine LeO.bind ?_ (fun _ => ?_)
set_option maxHeartbeats 8000000 in
set_option maxRecDepth 100000 in
theorem impl_RankLinear.calls (k : Nat) (A0_0 : Option Addr) (c0_0 : Nat) (l0_0 : List Int) (A1 : Option Addr) (c1 : Nat) (l1 : List Int) (r1 : Int) (r2 : Bool) (w : World) (hr0_0 : Kd.C (Kd.int .i64) w A0_0 l0_0.length l0_0) (hc0_0 : l0_0.length ≤ c0_0) (hr1 : Kd.C (Kd.int .i64) w A1 l1.length l1) (hc1 : l1.length ≤ c1) (h : impl_RankLinear.f k l0_0 l1 = some (r1, r2)) :
    Calls Try.prog 37 #[.agg #[.slice A0_0 l0_0.length c0_0], .slice A1 l1.length c1] w fun e w' => e = .returned (.tuple #[.int .i64 r1, .bool r2]) ∧ Below w.heap.size w w' := by
  have hu28 := Try.underlying28
  have HR0_0 := Aside0.mk hr0_0
  have HC0_0 := Aside0.mk hc0_0
  clear hr0_0 hc0_0
  have HR1 := Aside0.mk hr1
  have HC1 := Aside0.mk hc1
  clear hr1 hc1
  have HB := Aside0.mk (Below.refl w.heap.size w)
  have H : ((impl_isLinear.f k l0_0 l1).bind fun t601 => (if t601 = true then ((impl_Poset_ways.f k l0_0).bind fun t602 => (impl_RankLinear.l0 k t602 0 0 l1 (l1.length : Int) 0 l0_0)) else (some (0, false)))) = some (r1, r2) := h
  clear h
  replace H := Option.bind_eq_some_iff.mp H
  obtain ⟨t601, A30, H⟩ := H
  replace H : (if t601 = true then ((impl_Poset_ways.f k l0_0).bind fun t602 => (impl_RankLinear.l0 k t602 0 0 l1 (l1.length : Int) 0 l0_0)) else (some (0, false))) = some (r1, r2) := H
  have A3 := Aside0.mk A30
  clear A30
  by_cases c4 : t601 = true
  · subst c4
    have H1 : ((impl_Poset_ways.f k l0_0).bind fun t602 => (impl_RankLinear.l0 k t602 0 0 l1 (l1.length : Int) 0 l0_0)) = some (r1, r2) := by rw [if_pos rfl] at H; exact H
    clear H
    have H := H1
    clear H1
    replace H := Option.bind_eq_some_iff.mp H
    obtain ⟨t602, A50, H⟩ := H
    replace H : (impl_RankLinear.l0 k t602 0 0 l1 (l1.length : Int) 0 l0_0) = some (r1, r2) := H
    have A5 := Aside0.mk A50
    clear A50
    have H' := Aside0.mk H
    clear H
    go_enter Try.func37, Try.ntmps37
    go_wp2_with (first | ((with_reducible refine gate_dst (N := 2) rfl ?_); refine box_event ?hg (N := 2) ?hd (cs := #[.slice A0_0 l0_0.length c0_0]) (t := 28) ?hr ?_; (case hd => rfl); (case hg => rfl); (case hr => first | (go_simp; done) | (go_simp; rfl)); intro gb600 hg w6 hbox hb; have n0_ := Aside0.mk (below_step (by repeat (first | (with_reducible first | exact HB.out | apply below_alloc | apply pw_below_drewN | apply below_drew1) | exact HB.out)) hb); have n1_ := Aside0.mk (hbox); have n2_ := Aside0.mk ((by rw [hg]; exact (below_size (by repeat (first | (with_reducible first | exact HB.out | apply below_alloc | apply pw_below_drewN | apply below_drew1) | exact HB.out))) : w.heap.size ≤ gb600)); have n3_ := Aside0.mk ((by rw [hg]; exact (below_size (by repeat (first | (with_reducible first | exact HB.out | apply below_alloc | apply pw_below_drewN | apply below_drew1) | exact HB.out))) : w.heap.size ≤ gb600)); clear HB; have HB := n0_; have BK600 := n1_; have GW600 := n2_; have GE600 := n3_; clear n0_ n1_ n2_ n3_; clear hb hbox hg; have hcz7_0 : w6.cell? ⟨gb600, 0, none⟩ = some (.slice A0_0 l0_0.length c0_0) := (blk_cell BK600.out 0).trans rfl; have hfz7_0 := blk_frozen BK600.out 0) | ((with_reducible refine gate_callee (f := 56) rfl ?_); refine goesL_ (some 15) rfl rfl Try.func56 (by kernel_rfl) rfl #[.agg #[.slice A0_0 l0_0.length c0_0], .slice A1 l1.length c1] rfl (by (try simp only [List.map_toArray, List.map_cons, List.map_nil]); first | done | rfl | (simp only [List.length_drop, List.length_take]; rfl)) ?_; (with_reducible refine (impl_isLinear.calls k _ _ l0_0 _ _ l1 true _ ?side1 ?side2 ?side3 ?side4 A3.out).mono ?_); (case side1 => repeat (first | exact (Kd.C_below HR0_0.out HB.out) | (with_reducible refine Kd.C_alloc ?_ _) | (with_reducible refine Kd.C_drewN ?_ _) | (with_reducible refine Kd.C_drew ?_))); (case side2 => exact HC0_0.out); (case side3 => repeat (first | exact (Kd.C_below HR1.out HB.out) | (with_reducible refine Kd.C_alloc ?_ _) | (with_reducible refine Kd.C_drewN ?_ _) | (with_reducible refine Kd.C_drew ?_))); (case side4 => exact HC1.out); rintro e w8 ⟨rfl, hb⟩; refine ⟨_, rfl, ?_⟩; have n0_ := Aside0.mk (blk_below (g := gb600) (o := .cells #[.slice A0_0 l0_0.length c0_0] 28 (0, 0)) (by (with_reducible repeat (first | refine blk_drewN ?_ _ | refine blk_drew ?_ | refine blk_alloc ?_ _)); exact BK600.out) hb); have n1_ := Aside0.mk (below_step (by repeat (first | (with_reducible first | exact HB.out | apply below_alloc | apply pw_below_drewN | apply below_drew1 | refine below_set ?_ GE600.out) | exact HB.out)) hb); clear BK600; clear HB; have BK600 := n0_; have HB := n1_; clear n0_ n1_; (try clear hb); (try clear hb2); (try clear hk); (try clear hi); have hcz9_0 : w8.cell? ⟨gb600, 0, none⟩ = some (.slice A0_0 l0_0.length c0_0) := (blk_cell BK600.out 0).trans rfl; have hfz9_0 := blk_frozen BK600.out 0) | ((with_reducible refine gate_callee (f := 73) rfl ?_); refine goesL_ (some 18) rfl rfl Try.func73 (by kernel_rfl) rfl #[.agg #[.slice A0_0 l0_0.length c0_0]] rfl (by (try simp only [List.map_toArray, List.map_cons, List.map_nil]); first | done | rfl | (simp only [List.length_drop, List.length_take]; rfl)) ?_; (with_reducible refine (impl_Poset_ways.calls k _ _ l0_0 t602 _ ?side1 ?side2 A5.out).mono ?_); (case side1 => repeat (first | exact (Kd.C_below HR0_0.out HB.out) | (with_reducible refine Kd.C_alloc ?_ _) | (with_reducible refine Kd.C_drewN ?_ _) | (with_reducible refine Kd.C_drew ?_))); (case side2 => exact HC0_0.out); rintro e w10 ⟨v603, rfl, ho0, hb⟩; refine ⟨_, rfl, ?_⟩; have n0_ := Aside0.mk (Kd.R_lower ho0 (below_size (by repeat (first | (with_reducible first | exact HB.out | apply below_alloc | apply pw_below_drewN | apply below_drew1 | refine below_set ?_ GE600.out) | exact HB.out)))); have n1_ := Aside0.mk (blk_below (g := gb600) (o := .cells #[.slice A0_0 l0_0.length c0_0] 28 (0, 0)) (by (with_reducible repeat (first | refine blk_drewN ?_ _ | refine blk_drew ?_ | refine blk_alloc ?_ _)); exact BK600.out) hb); have n2_ := Aside0.mk (below_step (by repeat (first | (with_reducible first | exact HB.out | apply below_alloc | apply pw_below_drewN | apply below_drew1 | refine below_set ?_ GE600.out) | exact HB.out)) hb); clear BK600; clear HB; have HO604 := n0_; have BK600 := n1_; have HB := n2_; clear n0_ n1_ n2_; (try clear hb); (try clear hb2); (try clear hk); (try clear hi); (try clear ho0)))
    go_loopg [7, 8, 21] k (fun kq v7 v8 v21 w' => ∃ (x7_1 : Int) (x8_1 : Int) (x21_1 : Int), v7 = .int .i64 x7_1 ∧ v8 = .int .i64 x8_1 ∧ v21 = .int .i64 x21_1 ∧ Aside0 (impl_RankLinear.l0 kq t602 x7_1 x8_1 l1 (l1.length : Int) x21_1 l0_0 = some (r1, r2)) ∧ Aside0 (kq ≤ k) ∧ Aside0 (Kd.R (Kd.int .i64) 3 w' w.heap.size (fun _ => True) v603 t602) ∧ Aside0 (w'.heap[gb600]? = some (.cells #[(.slice A0_0 l0_0.length c0_0)] 28 (0, 0))) ∧ Aside0 (Below w.heap.size w w'))
    case atStart => exact ⟨(0), (0), (0), (by first | rfl | (simp; done) | (simp [*]; done)), (by first | rfl | (simp; done) | (simp [*]; done)), (by first | rfl | (simp; done) | (simp [*]; done)), H', ⟨Nat.le_refl _⟩, ⟨by (with_reducible repeat (first | apply Kd.R_alloc | apply Kd.R_drewN | apply Kd.R_drew)); exact HO604.out⟩, ⟨by (with_reducible repeat (first | refine blk_drewN ?_ _ | refine blk_drew ?_ | refine blk_alloc ?_ _)); exact BK600.out⟩, ⟨by repeat (first | (with_reducible first | exact HB.out | apply below_alloc | apply pw_below_drewN | apply below_drew1 | refine below_set ?_ GE600.out) | exact HB.out)⟩⟩
    case round =>
      clear H'
      try clear c1
      try clear p2
      try clear c3
      try clear c4
      try clear c5
      try clear c7
      try clear hcz7_0
      try clear hcz9_0
      try clear hfz7_0
      try clear hfz9_0
      obtain ⟨x7_1, x8_1, x21_1, rfl, rfl, rfl, HA, HK1, HO_6, BK600, HB⟩ := hrel
      cases gk with
      | zero => exact absurd HA.out (by simp [impl_RankLinear.l0])
      | succ k1 =>
        have H := HA.out
        clear HA
        simp only [impl_RankLinear.l0] at H
        by_cases c11 : x21_1 < (l1.length : Int)
        · rw [if_pos c11] at H
          have c11b0 : decide (x21_1 < (l1.length : Int)) = true := decide_eq_true c11
          clear c11
          by_cases c12 : 0 ≤ x21_1
          · rw [if_pos c12] at H
            have c12b0 : decide (0 ≤ x21_1) = true := decide_eq_true c12
            clear c12
            by_cases c13 : x21_1 < (l1.length : Int)
            · rw [if_pos c13] at H
              have c13b0 : decide (x21_1 < (l1.length : Int)) = true := decide_eq_true c13
              clear c13
              replace H := Option.bind_eq_some_iff.mp H
              obtain ⟨t606, A140, H⟩ := H
              replace H : (impl_RankLinear.l1 k1 t602 x7_1 x8_1 (rd l1 x21_1) l1 (l1.length : Int) x21_1 t606 (t606.length : Int) 0 l0_0) = some (r1, r2) := H
              have A14 := Aside0.mk A140
              clear A140
              have H' := Aside0.mk H
              clear H
              have p605 : 0 ≤ (x21_1 : Int) := of_decide_eq_true (by first | (with_reducible assumption) | assumption)
              have q605 : x21_1 < (l1.length : Int) := of_decide_eq_true (by first | (with_reducible assumption) | assumption)
              obtain ⟨ad605, e605, hx605_0⟩ := Kd.at_int HR1.out x21_1 p605 q605
              cases e605
              replace hx605_0 := (HB.out.cell (World.block_lt_of_cell? w _ hx605_0)).trans hx605_0
              replace p605 := eq_true p605
              replace q605 := eq_true q605
              have hcz15_0 : wr.cell? ⟨gb600, 0, none⟩ = some (.slice A0_0 l0_0.length c0_0) := (blk_cell BK600.out 0).trans rfl
              have hfz15_0 := blk_frozen BK600.out 0
              go_wp2_with (first | ((with_reducible refine gate_callee (f := 74) rfl ?_); refine goesL_ (some 27) rfl rfl Try.func74 (by kernel_rfl) rfl #[.agg #[.slice A0_0 l0_0.length c0_0], .int .i64 x8_1] rfl (by (try simp only [List.map_toArray, List.map_cons, List.map_nil]); first | done | rfl | (simp only [List.length_drop, List.length_take]; rfl)) ?_; (with_reducible refine (impl_Poset_next.calls k1 _ _ l0_0 x8_1 t606 _ ?side1 ?side2 A14.out).mono ?_); (case side1 => repeat (first | exact (Kd.C_below HR0_0.out HB.out) | (with_reducible refine Kd.C_alloc ?_ _) | (with_reducible refine Kd.C_drewN ?_ _) | (with_reducible refine Kd.C_drew ?_))); (case side2 => exact HC0_0.out); rintro e w16 ⟨v607, rfl, ho0, hb⟩; refine ⟨_, rfl, ?_⟩; have n0_ := Aside0.mk (Kd.R_elder' (by (with_reducible repeat (first | apply Kd.R_alloc | apply Kd.R_drewN | apply Kd.R_drew)); exact HO_6.out) (Kd.R_base ho0) hb); have n1_ := Aside0.mk (Kd.R_lower (Kd.R_new' ho0 (Kd.R_lt (by (with_reducible repeat (first | apply Kd.R_alloc | apply Kd.R_drewN | apply Kd.R_drew)); exact HO_6.out))) (below_size (by repeat (first | (with_reducible first | exact HB.out | apply below_alloc | apply pw_below_drewN | apply below_drew1 | refine below_set ?_ GE600.out) | exact HB.out)))); have n2_ := Aside0.mk (blk_below (g := gb600) (o := .cells #[.slice A0_0 l0_0.length c0_0] 28 (0, 0)) (by (with_reducible repeat (first | refine blk_drewN ?_ _ | refine blk_drew ?_ | refine blk_alloc ?_ _)); exact BK600.out) hb); have n3_ := Aside0.mk (below_step (by repeat (first | (with_reducible first | exact HB.out | apply below_alloc | apply pw_below_drewN | apply below_drew1 | refine below_set ?_ GE600.out) | exact HB.out)) hb); clear HO_6; clear BK600; clear HB; have HO_6 := n0_; have HO608 := n1_; have BK600 := n2_; have HB := n3_; clear n0_ n1_ n2_ n3_; (try clear hb); (try clear hb2); (try clear hk); (try clear hi); (try clear ho0); obtain ⟨Ao17, co17, eo17⟩ := Kd.R_slice HO608.out; subst eo17))
              go_loopg [7, 29] k1 (fun kq v7 v29 w' => ∃ (x7_2 : Int) (x29_2 : Int), v7 = .int .i64 x7_2 ∧ v29 = .int .i64 x29_2 ∧ Aside0 (impl_RankLinear.l1 kq t602 x7_2 x8_1 (rd l1 x21_1) l1 (l1.length : Int) x21_1 t606 (t606.length : Int) x29_2 l0_0 = some (r1, r2)) ∧ Aside0 (kq ≤ k1) ∧ Aside0 (Kd.R (Kd.int .i64) 3 w' w.heap.size (fun k_ => some k_ ≠ ((.slice Ao17 t606.length co17) : Value).ownBlock) v603 t602) ∧ Aside0 (Kd.R (Kd.int .i64) 3 w' w.heap.size (fun k_ => some k_ ≠ (v603 : Value).ownBlock) (.slice Ao17 t606.length co17) t606) ∧ Aside0 (w'.heap[gb600]? = some (.cells #[(.slice A0_0 l0_0.length c0_0)] 28 (0, 0))) ∧ Aside0 (Below w.heap.size w w'))
              case atStart => exact ⟨(x7_1), (0), (by first | rfl | (simp; done) | (simp [*]; done)), (by first | rfl | (simp; done) | (simp [*]; done)), H', ⟨Nat.le_refl _⟩, ⟨by (with_reducible repeat (first | apply Kd.R_alloc | apply Kd.R_drewN | apply Kd.R_drew)); exact Kd.R_mono HO_6.out (fun _ hk => hk.2)⟩, ⟨by (with_reducible repeat (first | apply Kd.R_alloc | apply Kd.R_drewN | apply Kd.R_drew)); exact Kd.R_mono HO608.out (fun _ hk => hk.2)⟩, ⟨by (with_reducible repeat (first | refine blk_drewN ?_ _ | refine blk_drew ?_ | refine blk_alloc ?_ _)); exact BK600.out⟩, ⟨by repeat (first | (with_reducible first | exact HB.out | apply below_alloc | apply pw_below_drewN | apply below_drew1 | refine below_set ?_ GE600.out) | exact HB.out)⟩⟩
              case round =>
                clear H'
                try clear c1
                try clear p2
                try clear c3
                try clear c4
                try clear c5
                try clear p6
                try clear q6
                try clear hx6
                try clear c7
                try clear c11
                try clear c11b0
                try clear c12
                try clear c12b0
                try clear c13
                try clear c13b0
                try clear hcz15_0
                try clear hcz7_0
                try clear hcz9_0
                try clear hfz15_0
                try clear hfz7_0
                try clear hfz9_0
                try clear hx605_0
                try clear p2
                try clear p605
                try clear q605
                obtain ⟨x7_2, x29_2, rfl, rfl, HA, HK2, HO_6, HO_27, BK600, HB⟩ := hrel
                cases gk with
                | zero => exact absurd HA.out (by simp [impl_RankLinear.l1])
                | succ k2 =>
                  have H := HA.out
                  clear HA
                  simp only [impl_RankLinear.l1] at H
                  by_cases c18 : x29_2 < (t606.length : Int)
                  · rw [if_pos c18] at H
                    have c18b0 : decide (x29_2 < (t606.length : Int)) = true := decide_eq_true c18
                    clear c18
                    by_cases c19 : 0 ≤ x29_2
                    · rw [if_pos c19] at H
                      have c19b0 : decide (0 ≤ x29_2) = true := decide_eq_true c19
                      clear c19
                      by_cases c20 : x29_2 < (t606.length : Int)
                      · rw [if_pos c20] at H
                        have c20b0 : decide (x29_2 < (t606.length : Int)) = true := decide_eq_true c20
                        clear c20
                        by_cases c21 : (rd t606 x29_2) < (rd l1 x21_1)
                        · rw [if_pos c21] at H
                          have c21b0 : decide ((rd t606 x29_2) < (rd l1 x21_1)) = true := decide_eq_true c21
                          clear c21
                          by_cases c22 : 0 ≤ (rd t606 x29_2)
                          · rw [if_pos c22] at H
                            have c22b0 := eq_true c22
                            have c22b1 : decide (0 ≤ (rd t606 x29_2)) = true := decide_eq_true c22
                            clear c22
                            obtain ⟨ji23, hji23⟩ : ∃ j_ : Int, (shl .i64 1 (rd t606 x29_2)) = j_ := ⟨_, rfl⟩
                            replace H : (if 0 ≤ (Go.bits .or .i64 x8_1 (ji23)) then (if (Go.bits .or .i64 x8_1 (ji23)) < (t602.length : Int) then (impl_RankLinear.l1 k2 t602 (wrap64 (x7_2 + (rd t602 (Go.bits .or .i64 x8_1 (ji23))))) x8_1 (rd l1 x21_1) l1 (l1.length : Int) x21_1 t606 (t606.length : Int) (wrap64 (x29_2 + 1)) l0_0) else (none)) else (none)) = some (r1, r2) := by first | (rw [hji23] at H; exact H) | (simp only [hji23] at H ⊢; exact H)
                            have hji23_ : (IntKind.i64.wrap (1 * 2 ^ min (rd t606 x29_2).toNat 64)) = ji23 := hji23
                            have hji23z : (rd t606 x29_2) ≤ 64 → (IntKind.i64.wrap (1 * 2 ^ (rd t606 x29_2).toNat)) = ji23 := shl_small hji23
                            have hji23u : (IntKind.i64.wrap (2 ^ min (rd t606 x29_2).toNat 64)) = ji23 := by have h_ := hji23_; rw [Int.one_mul] at h_; exact h_
                            have hji23v : (rd t606 x29_2) ≤ 64 → (IntKind.i64.wrap (2 ^ (rd t606 x29_2).toNat)) = ji23 := fun hle_ => by have h_ := hji23z hle_; rw [Int.one_mul] at h_; exact h_
                            have hji23y : (wrap64 (1 * 2 ^ min (rd t606 x29_2).toNat 64)) = ji23 := (i64_w _).symm.trans hji23_
                            have hji23x : (rd t606 x29_2) ≤ 64 → (wrap64 (1 * 2 ^ (rd t606 x29_2).toNat)) = ji23 := fun h_ => (i64_w _).symm.trans (hji23z h_)
                            by_cases c24 : 0 ≤ (Go.bits .or .i64 x8_1 (ji23))
                            · rw [if_pos c24] at H
                              have c24b0 : decide (0 ≤ (Go.bits .or .i64 x8_1 (ji23))) = true := decide_eq_true c24
                              clear c24
                              by_cases c25 : (Go.bits .or .i64 x8_1 (ji23)) < (t602.length : Int)
                              · rw [if_pos c25] at H
                                have c25b0 : decide ((Go.bits .or .i64 x8_1 (ji23)) < (t602.length : Int)) = true := decide_eq_true c25
                                clear c25
                                have H' := Aside0.mk H
                                clear H
                                have p609 : 0 ≤ (x29_2 : Int) := of_decide_eq_true (by first | (with_reducible assumption) | assumption)
                                have q609 : x29_2 < (t606.length : Int) := of_decide_eq_true (by first | (with_reducible assumption) | assumption)
                                obtain ⟨ad609, e609, hx609_0⟩ := Kd.at_int (Kd.R_reads' HO_27.out).2.2 x29_2 p609 q609
                                cases e609
                                replace p609 := eq_true p609
                                replace q609 := eq_true q609
                                obtain ⟨Ao26, co26, eo26⟩ := Kd.R_slice HO_6.out
                                subst eo26
                                have p610 : 0 ≤ ((Go.bits .or .i64 x8_1 (ji23)) : Int) := of_decide_eq_true (by first | (with_reducible assumption) | assumption)
                                have q610 : (Go.bits .or .i64 x8_1 (ji23)) < (t602.length : Int) := of_decide_eq_true (by first | (with_reducible assumption) | assumption)
                                obtain ⟨ad610, e610, hx610_0⟩ := Kd.at_int (Kd.R_reads' HO_6.out).2.2 (Go.bits .or .i64 x8_1 (ji23)) p610 q610
                                cases e610
                                replace p610 := eq_true p610
                                replace q610 := eq_true q610
                                go_wp2
                                go_roundg k2
                                case measure => have := HK1.out; have := HK2.out; omega
                                case rel => exact ⟨(wrap64 (x7_2 + (rd t602 (Go.bits .or .i64 x8_1 (ji23))))), (wrap64 (x29_2 + 1)), (by first | rfl | (simp; done) | (simp only [← hji23] <;> (first | rfl | simp)) | (simp [*]; done)), (by first | rfl | (simp; done) | (simp [*]; done)), H', ⟨by have := HK1.out; have := HK2.out; omega⟩, ⟨by (with_reducible repeat (first | apply Kd.R_alloc | apply Kd.R_drewN | apply Kd.R_drew)); exact HO_6.out⟩, ⟨by (with_reducible repeat (first | apply Kd.R_alloc | apply Kd.R_drewN | apply Kd.R_drew)); exact HO_27.out⟩, ⟨by (with_reducible repeat (first | refine blk_drewN ?_ _ | refine blk_drew ?_ | refine blk_alloc ?_ _)); exact BK600.out⟩, ⟨by repeat (first | (with_reducible first | exact HB.out | apply below_alloc | apply pw_below_drewN | apply below_drew1 | refine below_set ?_ GE600.out) | exact HB.out)⟩⟩
                              · rw [if_neg c25] at H
                                exact absurd H (by simp)
                            · rw [if_neg c24] at H
                              exact absurd H (by simp)
                          · rw [if_neg c22] at H
                            exact absurd H (by simp)
                        · rw [if_neg c21] at H
                          have c21b0 : decide ((rd t606 x29_2) < (rd l1 x21_1)) = false := decide_eq_false c21
                          clear c21
                          have H' := Aside0.mk H
                          clear H
                          have p609 : 0 ≤ (x29_2 : Int) := of_decide_eq_true (by first | (with_reducible assumption) | assumption)
                          have q609 : x29_2 < (t606.length : Int) := of_decide_eq_true (by first | (with_reducible assumption) | assumption)
                          obtain ⟨ad609, e609, hx609_0⟩ := Kd.at_int (Kd.R_reads' HO_27.out).2.2 x29_2 p609 q609
                          cases e609
                          replace p609 := eq_true p609
                          replace q609 := eq_true q609
                          go_wp2
                          go_roundg k2
                          case measure => have := HK1.out; have := HK2.out; omega
                          case rel => exact ⟨(x7_2), (wrap64 (x29_2 + 1)), (by first | rfl | (simp; done) | (simp [*]; done)), (by first | rfl | (simp; done) | (simp [*]; done)), H', ⟨by have := HK1.out; have := HK2.out; omega⟩, ⟨by (with_reducible repeat (first | apply Kd.R_alloc | apply Kd.R_drewN | apply Kd.R_drew)); exact HO_6.out⟩, ⟨by (with_reducible repeat (first | apply Kd.R_alloc | apply Kd.R_drewN | apply Kd.R_drew)); exact HO_27.out⟩, ⟨by (with_reducible repeat (first | refine blk_drewN ?_ _ | refine blk_drew ?_ | refine blk_alloc ?_ _)); exact BK600.out⟩, ⟨by repeat (first | (with_reducible first | exact HB.out | apply below_alloc | apply pw_below_drewN | apply below_drew1 | refine below_set ?_ GE600.out) | exact HB.out)⟩⟩
                      · rw [if_neg c20] at H
                        exact absurd H (by simp)
                    · rw [if_neg c19] at H
                      exact absurd H (by simp)
                  · rw [if_neg c18] at H
                    have c18b0 : decide (x29_2 < (t606.length : Int)) = false := decide_eq_false c18
                    clear c18
                    by_cases c27 : 0 ≤ (rd l1 x21_1)
                    · rw [if_pos c27] at H
                      have c27b0 := eq_true c27
                      have c27b1 : decide (0 ≤ (rd l1 x21_1)) = true := decide_eq_true c27
                      clear c27
                      obtain ⟨ji28, hji28⟩ : ∃ j_ : Int, (shl .i64 1 (rd l1 x21_1)) = j_ := ⟨_, rfl⟩
                      replace H : (impl_RankLinear.l0 k2 t602 x7_2 (Go.bits .or .i64 x8_1 (ji28)) l1 (l1.length : Int) (wrap64 (x21_1 + 1)) l0_0) = some (r1, r2) := by first | (rw [hji28] at H; exact H) | (simp only [hji28] at H ⊢; exact H)
                      have hji28_ : (IntKind.i64.wrap (1 * 2 ^ min (rd l1 x21_1).toNat 64)) = ji28 := hji28
                      have hji28z : (rd l1 x21_1) ≤ 64 → (IntKind.i64.wrap (1 * 2 ^ (rd l1 x21_1).toNat)) = ji28 := shl_small hji28
                      have hji28u : (IntKind.i64.wrap (2 ^ min (rd l1 x21_1).toNat 64)) = ji28 := by have h_ := hji28_; rw [Int.one_mul] at h_; exact h_
                      have hji28v : (rd l1 x21_1) ≤ 64 → (IntKind.i64.wrap (2 ^ (rd l1 x21_1).toNat)) = ji28 := fun hle_ => by have h_ := hji28z hle_; rw [Int.one_mul] at h_; exact h_
                      have hji28y : (wrap64 (1 * 2 ^ min (rd l1 x21_1).toNat 64)) = ji28 := (i64_w _).symm.trans hji28_
                      have hji28x : (rd l1 x21_1) ≤ 64 → (wrap64 (1 * 2 ^ (rd l1 x21_1).toNat)) = ji28 := fun h_ => (i64_w _).symm.trans (hji28z h_)
                      have H' := Aside0.mk H
                      clear H
                      go_wp2
                      go_roundg k2
                      case measure => have := HK1.out; have := HK2.out; omega
                      case rel => exact ⟨(x7_2), (Go.bits .or .i64 x8_1 (ji28)), (wrap64 (x21_1 + 1)), (by first | rfl | (simp; done) | (simp [*]; done)), (by first | rfl | (simp; done) | (simp only [← hji28] <;> (first | rfl | simp)) | (simp [*]; done)), (by first | rfl | (simp; done) | (simp [*]; done)), H', ⟨by have := HK1.out; have := HK2.out; omega⟩, ⟨by (with_reducible repeat (first | apply Kd.R_alloc | apply Kd.R_drewN | apply Kd.R_drew)); exact Kd.R_mono HO_6.out (fun _ hk => trivial)⟩, ⟨by (with_reducible repeat (first | refine blk_drewN ?_ _ | refine blk_drew ?_ | refine blk_alloc ?_ _)); exact BK600.out⟩, ⟨by repeat (first | (with_reducible first | exact HB.out | apply below_alloc | apply pw_below_drewN | apply below_drew1 | refine below_set ?_ GE600.out) | exact HB.out)⟩⟩
                    · rw [if_neg c27] at H
                      exact absurd H (by simp)
            · rw [if_neg c13] at H
              exact absurd H (by simp)
          · rw [if_neg c12] at H
            exact absurd H (by simp)
        · rw [if_neg c11] at H
          have c11b0 : decide (x21_1 < (l1.length : Int)) = false := decide_eq_false c11
          clear c11
          simp only [Option.some.injEq, Prod.mk.injEq] at H
          obtain ⟨rfl, rfl⟩ := H
          go_wp2
          go_ret2
          exact ⟨by first | rfl | (simp [errW_none, errW_some] <;> rfl) | (simp [*, errW_none, errW_some] <;> rfl), by repeat (first | (with_reducible first | exact HB.out | apply below_alloc | apply pw_below_drewN | apply below_drew1 | refine below_set ?_ GE600.out) | exact HB.out)⟩
  · replace c4 := Bool.eq_false_iff.mpr c4
    subst c4
    have H1 : (some (0, false)) = some (r1, r2) := by rw [if_neg (show ¬ (false = true) by decide)] at H; exact H
    clear H
    have H := H1
    clear H1
    simp only [Option.some.injEq, Prod.mk.injEq] at H
    obtain ⟨rfl, rfl⟩ := H
    go_enter Try.func37, Try.ntmps37
    go_wp2_with (first | ((with_reducible refine gate_dst (N := 2) rfl ?_); refine box_event ?hg (N := 2) ?hd (cs := #[.slice A0_0 l0_0.length c0_0]) (t := 28) ?hr ?_; (case hd => rfl); (case hg => rfl); (case hr => first | (go_simp; done) | (go_simp; rfl)); intro gb600 hg w29 hbox hb; have n0_ := Aside0.mk (below_step (by repeat (first | (with_reducible first | exact HB.out | apply below_alloc | apply pw_below_drewN | apply below_drew1) | exact HB.out)) hb); have n1_ := Aside0.mk (hbox); have n2_ := Aside0.mk ((by rw [hg]; exact (below_size (by repeat (first | (with_reducible first | exact HB.out | apply below_alloc | apply pw_below_drewN | apply below_drew1) | exact HB.out))) : w.heap.size ≤ gb600)); have n3_ := Aside0.mk ((by rw [hg]; exact (below_size (by repeat (first | (with_reducible first | exact HB.out | apply below_alloc | apply pw_below_drewN | apply below_drew1) | exact HB.out))) : w.heap.size ≤ gb600)); clear HB; have HB := n0_; have BK600 := n1_; have GW600 := n2_; have GE600 := n3_; clear n0_ n1_ n2_ n3_; clear hb hbox hg; have hcz30_0 : w29.cell? ⟨gb600, 0, none⟩ = some (.slice A0_0 l0_0.length c0_0) := (blk_cell BK600.out 0).trans rfl; have hfz30_0 := blk_frozen BK600.out 0) | ((with_reducible refine gate_callee (f := 56) rfl ?_); refine goesL_ (some 15) rfl rfl Try.func56 (by kernel_rfl) rfl #[.agg #[.slice A0_0 l0_0.length c0_0], .slice A1 l1.length c1] rfl (by (try simp only [List.map_toArray, List.map_cons, List.map_nil]); first | done | rfl | (simp only [List.length_drop, List.length_take]; rfl)) ?_; (with_reducible refine (impl_isLinear.calls k _ _ l0_0 _ _ l1 false _ ?side1 ?side2 ?side3 ?side4 A3.out).mono ?_); (case side1 => repeat (first | exact (Kd.C_below HR0_0.out HB.out) | (with_reducible refine Kd.C_alloc ?_ _) | (with_reducible refine Kd.C_drewN ?_ _) | (with_reducible refine Kd.C_drew ?_))); (case side2 => exact HC0_0.out); (case side3 => repeat (first | exact (Kd.C_below HR1.out HB.out) | (with_reducible refine Kd.C_alloc ?_ _) | (with_reducible refine Kd.C_drewN ?_ _) | (with_reducible refine Kd.C_drew ?_))); (case side4 => exact HC1.out); rintro e w31 ⟨rfl, hb⟩; refine ⟨_, rfl, ?_⟩; have n0_ := Aside0.mk (blk_below (g := gb600) (o := .cells #[.slice A0_0 l0_0.length c0_0] 28 (0, 0)) (by (with_reducible repeat (first | refine blk_drewN ?_ _ | refine blk_drew ?_ | refine blk_alloc ?_ _)); exact BK600.out) hb); have n1_ := Aside0.mk (below_step (by repeat (first | (with_reducible first | exact HB.out | apply below_alloc | apply pw_below_drewN | apply below_drew1 | refine below_set ?_ GE600.out) | exact HB.out)) hb); clear BK600; clear HB; have BK600 := n0_; have HB := n1_; clear n0_ n1_; (try clear hb); (try clear hb2); (try clear hk); (try clear hi)))
    go_ret2
    exact ⟨by first | rfl | (simp [errW_none, errW_some] <;> rfl) | (simp [*, errW_none, errW_some] <;> rfl), by repeat (first | (with_reducible first | exact HB.out | apply below_alloc | apply pw_below_drewN | apply below_drew1 | refine below_set ?_ GE600.out) | exact HB.out)⟩

end Go.Proofs.Ytjahclncpgllmaa.F
end

section
namespace Go.Proofs.Ytjahclncpgllmaa.Q
open Go.RowKit Go.Proofs.YtjahclncpgllmaaW.PrintWords Go.Proofs.Ytjahclncpgllmaa.F
set_option linter.unusedVariables false
theorem nextDel_eq {p : List Int} (hp : PO p) {s e : Nat} (hs : s < 2 ^ p.length) (he : e < p.length) : nextDel p (s : Int) (e : Int) = !subB (L p e) s := by
  have hn := hp.small
  unfold nextDel subB
  rw [rdN, hp.val e he, bits_andNotN (lt_pow (L_lt hp he) (by omega)) (lt_pow hs (by omega))]
  rw [Bool.eq_iff_iff, bne_iff_ne, Bool.not_eq_true', beq_eq_false_iff_ne]
  constructor
  · intro h h2; exact h (by rw [h2]; rfl)
  · intro h h2; exact h (by exact_mod_cast h2)
theorem filter_ints (l : List Nat) (f : Int → Bool) (g : Nat → Bool) (h : ∀ e ∈ l, f (e : Int) = g e) : (ints l).filter f = ints (l.filter g) := by
  induction l with
  | nil => rfl
  | cons x l ih =>
    have h1 := h x List.mem_cons_self
    have h2 := ih (fun e he => h e (List.mem_cons_of_mem _ he))
    have e1 : ints (x :: l) = (x : Int) :: ints l := rfl
    rw [e1, List.filter_cons, List.filter_cons, h1, h2]
    split <;> rfl
theorem next_ev {p : List Int} (hp : PO p) {s : Nat} (hs : s < 2 ^ p.length) : Ev (fun k => impl_Poset_next.f k p (s : Int)) (ints (nextN p s)) := by
  have hn := hp.small
  have hal := allN_lt p
  unfold impl_Poset_next.f
  refine Ev.call (all_eq (by omega)) ?_
  rw [bits_andNotN (lt_pow hal (by omega)) (lt_pow hs (by omega))]
  have hit : ndiff (allN p) s < 2 ^ p.length := ndiff_lt hal
  refine Ev.bind (items_ev _ (lt_pow hit (by omega))) ?_
  have hlt : ∀ e ∈ itemsN (ndiff (allN p) s), e < p.length := fun e he => lt_of_bit hit (mem_itemsN.1 he).2
  refine Ev.yes ⟨fun x hx => ?_, hp.pos, ?_⟩ (Ev.ret ?_)
  · obtain ⟨e, he, rfl⟩ := List.mem_map.1 hx
    have := hlt e he
    show 0 ≤ ((e : Nat) : Int) ∧ ((e : Nat) : Int) < _
    omega
  · rw [ints_len]; have := itemsN_len (ndiff (allN p) s); omega
  · rw [nextN_items p hp s]
    refine filter_ints _ _ _ (fun e he => ?_)
    rw [nextDel_eq hp hs (hlt e he), Bool.not_not]
theorem nextN_get {p : List Int} {s i : Nat} (h : i < (nextN p s).length) : (nextN p s).getD i 0 ∈ nextN p s := by
  rw [List.getD_eq_getElem?_getD, List.getElem?_eq_getElem h]; exact List.getElem_mem h
end Go.Proofs.Ytjahclncpgllmaa.Q
end

section
namespace Go.Proofs.Ytjahclncpgllmaa.Q
open Go.RowKit Go.Proofs.YtjahclncpgllmaaW.PrintWords Go.Proofs.Ytjahclncpgllmaa.F
set_option linter.unusedVariables false
theorem idealB_zero (p : List Int) : idealB p 0 = true := by
  rw [idealB_iff]
  intro i _ h
  rw [Nat.zero_testBit] at h; cases h
theorem Wl_next {p : List Int} (hp : PO p) {s e : Nat} (hs : s < 2 ^ p.length) (hid : idealB p s = true) (he : e ∈ nextN p s) :
    s ||| 2 ^ e < 2 ^ p.length ∧ (Wl p 0).getD (s ||| 2 ^ e) 0 = ((ways p (s ||| 2 ^ e) : Nat) : Int) := by
  obtain ⟨_, h1, _, _⟩ := mem_nextN.1 he
  have h2 : s ||| 2 ^ e < 2 ^ p.length := or_lt hs (pow_lt_pow h1)
  refine ⟨h2, ?_⟩
  rw [Wl_get p 0 h2]
  unfold wayAt
  rw [if_pos (Nat.zero_le _), if_pos (idealB_add hp hid he)]
theorem Cl_at {p : List Int} {t : Nat} (h : t < 2 ^ p.length) : (Cl p 0).getD t 0 = ((ways p t : Nat) : Int) := by
  rw [Cl_get p 0 h]; unfold cntAt; rw [if_pos (Nat.zero_le _)]
/-- Ways are added up, in the machine's numbers. -/
def rkF (p : List Int) (s : Nat) (acc : Int) (l : List Nat) : Int := l.foldl (fun a e => wrap64 (a + ((ways p (s ||| 2 ^ e) : Nat) : Int))) acc
/-- What can come next among the elements from i on, below own. -/
def nextTo (p : List Int) (s own i : Nat) : List Nat := (List.range' i (own - i)).filter fun e => !s.testBit e && subB (L p e) s
theorem nextTo_step {p : List Int} {s own i : Nat} (h : i < own) : nextTo p s own i = if !s.testBit i && subB (L p i) s then i :: nextTo p s own (i + 1) else nextTo p s own (i + 1) := by
  unfold nextTo
  rw [show own - i = (own - (i + 1)) + 1 by omega, List.range'_succ, List.filter_cons]
theorem nextTo_end (p : List Int) (s own : Nat) : nextTo p s own own = [] := by unfold nextTo; simp
theorem nextTo_eq {p : List Int} (hn : p.length ≤ 10) {s own : Nat} (h : own ≤ p.length) : (nextN p s).filter (fun e => decide (e < own)) = nextTo p s own 0 := by
  rw [← nextFrom_zero hn]
  unfold nextFrom nextTo
  rw [Nat.sub_zero, Nat.sub_zero, ← List.range_eq_range', ← List.range_eq_range', List.filter_filter]
  have e0 : own + (p.length - own) = p.length := by omega
  have e : List.range p.length = List.range own ++ (List.range (p.length - own)).map (own + ·) := by rw [← List.range_add, e0]
  rw [e, List.filter_append]
  have e2 : ((List.range (p.length - own)).map (own + ·)).filter (fun e => decide (e < own) && (!s.testBit e && subB (L p e) s)) = [] := by
    rw [List.filter_eq_nil_iff]
    intro x hx
    obtain ⟨y, _, rfl⟩ := List.mem_map.1 hx
    rw [decide_eq_false (by omega)]; simp
  rw [e2, List.append_nil]
  apply List.filter_congr
  intro x hx
  rw [List.mem_range] at hx
  rw [decide_eq_true hx]; rfl
/-- The first of some elements at which so many orders are reached, and what is left of the number. -/
def pick (p : List Int) (s : Nat) : List Nat → Nat → Nat × Nat
  | [], r => (0, r)
  | e :: l, r => if r < ways p (s ||| 2 ^ e) then (e, r) else pick p s l (r - ways p (s ||| 2 ^ e))
theorem pick_ok {p : List Int} {s : Nat} : ∀ (l : List Nat) (r : Nat), r < sumL (l.map fun e => ways p (s ||| 2 ^ e)) → (pick p s l r).1 ∈ l ∧ (pick p s l r).2 < ways p (s ||| 2 ^ (pick p s l r).1) := by
  intro l
  induction l with
  | nil => intro r h; simp [sumL] at h
  | cons e l ih =>
    intro r h
    simp only [List.map_cons, sumL] at h
    unfold pick
    split
    · rename_i h1; exact ⟨List.mem_cons_self, h1⟩
    · obtain ⟨h1, h2⟩ := ih (r - ways p (s ||| 2 ^ e)) (by omega)
      exact ⟨List.mem_cons_of_mem _ h1, h2⟩
/-- The order with a rank, from a set on. -/
def linW (p : List Int) : Nat → Nat → Nat → List Nat
  | 0, _, _ => []
  | d + 1, s, r => (pick p s (nextN p s) r).1 :: linW p d (s ||| 2 ^ (pick p s (nextN p s) r).1) (pick p s (nextN p s) r).2
theorem linW_len (p : List Int) : ∀ d s r, (linW p d s r).length = d := by
  intro d
  induction d with
  | zero => intro s r; rfl
  | succ d ih => intro s r; simp only [linW, List.length_cons, ih]
end Go.Proofs.Ytjahclncpgllmaa.Q
end

section
namespace Go.Proofs.Ytjahclncpgllmaa.F
open Go.RowKit Go.Proofs.YtjahclncpgllmaaW.PrintWords Go.Proofs.YtjahclncpgllmaaW.PrintLast Go.Proofs.YtjahclncpgllmaaW.PrintMore
set_option linter.unusedVariables false
set_option linter.unusedSimpArgs false
theorem laws_FnExactRankLinear.belowD {w w' : World} (h : Drawn0 w w') : Below w.heap.size w w' := by
  obtain ⟨m, rfl⟩ := h
  exact pw_below_drewN (Below.refl _ _) m
set_option maxHeartbeats 8000000 in
set_option maxRecDepth 100000 in
theorem laws_FnExactRankLinear.calls0 (k k1 : Nat) (A0 : Option Addr) (c0 : Nat) (l0 : List Int) (A1 : Option Addr) (c1 : Nat) (l1 : List Int)  (w : World) (hr0 : Kd.C (Kd.int .i64) w A0 l0.length l0) (hc0 : l0.length ≤ c0) (hr1 : Kd.C (Kd.int .i64) w A1 l1.length l1) (hc1 : l1.length ≤ c1) (hx : decide ((l1.length : Int) > 1048576) = true) :
    Calls Try.prog 7 #[.agg #[.slice A0 l0.length c0], .slice A1 l1.length c1] w fun e w' => e = .returned (.bool true) ∧ Below w.heap.size w w' := by
  have HR0 := Aside0.mk hr0
  have HC0 := Aside0.mk hc0
  clear hr0 hc0
  have HR1 := Aside0.mk hr1
  have HC1 := Aside0.mk hc1
  clear hr1 hc1
  have HT0 := Aside0.mk (Below.refl w.heap.size w)
  go_enter Try.func7, Try.ntmps7
  go_wp2_with (first | ((with_reducible refine gate_dst (N := 2) rfl ?_); refine box_event ?hg (N := 2) ?hd (cs := #[.slice A0 l0.length c0]) (t := 24) ?hr ?_; (case hd => rfl); (case hg => rfl); (case hr => first | (go_simp; done) | (go_simp; rfl)); intro g2 hg_ w1 hbox_ hb_; have HB1 := Aside0.mk hb_; have HZ1 : Aside0 (w.heap.size ≤ w1.heap.size) := ⟨hb_.size⟩; have HT1 := Aside0.mk (HT0.out.trans (Below.mono hb_ HT0.out.size)); have HG2 : Aside0 (w.heap.size ≤ g2 ∧ g2 < w1.heap.size) := ⟨Nat.le_of_eq hg_.symm, blk_lt hbox_⟩; have HBK_ := Aside0.mk hbox_; clear hb_ hbox_ hg_; have HBK2 := HBK_; clear HBK_; have hcz2 : w1.cell? ⟨g2, 0, none⟩ = some (.slice A0 l0.length c0) := (blk_cell HBK2.out 0).trans rfl; have hfz2 := blk_frozen HBK2.out 0))
  go_ret
  exact ⟨by first | rfl | (simp; done) | (simp [*]; done), by repeat (first | (with_reducible first | exact HT1.out | apply below_alloc | apply pw_below_drewN | apply below_drew1) | exact HT1.out)⟩
set_option maxHeartbeats 8000000 in
set_option maxRecDepth 100000 in
theorem laws_FnExactRankLinear.calls1 (k k1 : Nat) (A0 : Option Addr) (c0 : Nat) (l0 : List Int) (A1 : Option Addr) (c1 : Nat) (l1 : List Int) (z1 : Int) (w : World) (hr0 : Kd.C (Kd.int .i64) w A0 l0.length l0) (hc0 : l0.length ≤ c0) (hr1 : Kd.C (Kd.int .i64) w A1 l1.length l1) (hc1 : l1.length ≤ c1) (hy0 : decide ((l1.length : Int) > 1048576) = false) (hy1_ : laws_szPoset.f l0 1048576 = some z1) (hx : decide (z1 < 0) = true) :
    Calls Try.prog 7 #[.agg #[.slice A0 l0.length c0], .slice A1 l1.length c1] w fun e w' => e = .returned (.bool true) ∧ Below w.heap.size w w' := by
  have HR0 := Aside0.mk hr0
  have HC0 := Aside0.mk hc0
  clear hr0 hc0
  have HR1 := Aside0.mk hr1
  have HC1 := Aside0.mk hc1
  clear hr1 hc1
  have hy1 := Aside0.mk hy1_
  clear hy1_
  have HT0 := Aside0.mk (Below.refl w.heap.size w)
  go_enter Try.func7, Try.ntmps7
  go_wp2_with (first | ((with_reducible refine gate_dst (N := 2) rfl ?_); refine box_event ?hg (N := 2) ?hd (cs := #[.slice A0 l0.length c0]) (t := 24) ?hr ?_; (case hd => rfl); (case hg => rfl); (case hr => first | (go_simp; done) | (go_simp; rfl)); intro g2 hg_ w1 hbox_ hb_; have HB1 := Aside0.mk hb_; have HZ1 : Aside0 (w.heap.size ≤ w1.heap.size) := ⟨hb_.size⟩; have HT1 := Aside0.mk (HT0.out.trans (Below.mono hb_ HT0.out.size)); have HG2 : Aside0 (w.heap.size ≤ g2 ∧ g2 < w1.heap.size) := ⟨Nat.le_of_eq hg_.symm, blk_lt hbox_⟩; have HBK_ := Aside0.mk hbox_; clear hb_ hbox_ hg_; have HBK2 := HBK_; clear HBK_; have hcz2 : w1.cell? ⟨g2, 0, none⟩ = some (.slice A0 l0.length c0) := (blk_cell HBK2.out 0).trans rfl; have hfz2 := blk_frozen HBK2.out 0))
  have hcall_ := laws_szPoset.calls _ _ l0 1048576 z1 _ (Kd.C_below HR0.out HT1.out) HC0.out hy1.out
  refine hcall_.mono ?_
  clear hcall_ 
  rintro e w2 ⟨rfl, hb_⟩
  have HB2 := Aside0.mk hb_
  have HZ2 : Aside0 (w1.heap.size ≤ w2.heap.size) := ⟨hb_.size⟩
  have HT2 := Aside0.mk (HT1.out.trans (Below.mono hb_ HT1.out.size))
  clear hb_
  have n_ := Aside0.mk (blk_below HBK2.out HB2.out)
  clear HBK2 hcz2
  have HBK2 := n_
  clear n_
  have hcz2 : w2.cell? ⟨g2, 0, none⟩ = some (.slice A0 l0.length c0) := (blk_cell HBK2.out 0).trans rfl
  go_wp2
  go_ret
  exact ⟨by first | rfl | (simp; done) | (simp [*]; done), by repeat (first | (with_reducible first | exact HT2.out | apply below_alloc | apply pw_below_drewN | apply below_drew1) | exact HT2.out)⟩
set_option maxHeartbeats 8000000 in
set_option maxRecDepth 100000 in
theorem laws_FnExactRankLinear.calls2 (k k1 : Nat) (A0 : Option Addr) (c0 : Nat) (l0 : List Int) (A1 : Option Addr) (c1 : Nat) (l1 : List Int) (z1 : Int) (v2 : Int) (v3 : Bool) (w : World) (hr0 : Kd.C (Kd.int .i64) w A0 l0.length l0) (hc0 : l0.length ≤ c0) (hr1 : Kd.C (Kd.int .i64) w A1 l1.length l1) (hc1 : l1.length ≤ c1) (hy0 : decide ((l1.length : Int) > 1048576) = false) (hy1_ : laws_szPoset.f l0 1048576 = some z1) (hy2 : decide (z1 < 0) = false) (hy3_ : laws_toPoset.f k1 l0 = some l0) (hy4_ : laws_toIntS.f k1 l1 = some l1) (hy5_ : spec_RankLinear.f k l0 l1 = some (v2, v3)) (hy6_ : impl_RankLinear.f k l0 l1 = some (v2, v3)) (hy7_ : laws_eqPoset.f k1 l0 l0 = some true) (hy8_ : laws_eqIntS.f k1 l1 l1 = some true) :
    Calls Try.prog 7 #[.agg #[.slice A0 l0.length c0], .slice A1 l1.length c1] w fun e w' => e = .returned (.bool true) ∧ Below w.heap.size w w' := by
  have HR0 := Aside0.mk hr0
  have HC0 := Aside0.mk hc0
  clear hr0 hc0
  have HR1 := Aside0.mk hr1
  have HC1 := Aside0.mk hc1
  clear hr1 hc1
  have hy1 := Aside0.mk hy1_
  clear hy1_
  have hy3 := Aside0.mk hy3_
  clear hy3_
  have hy4 := Aside0.mk hy4_
  clear hy4_
  have hy5 := Aside0.mk hy5_
  clear hy5_
  have hy6 := Aside0.mk hy6_
  clear hy6_
  have hy7 := Aside0.mk hy7_
  clear hy7_
  have hy8 := Aside0.mk hy8_
  clear hy8_
  have HT0 := Aside0.mk (Below.refl w.heap.size w)
  go_enter Try.func7, Try.ntmps7
  go_wp2_with (first | ((with_reducible refine gate_dst (N := 2) rfl ?_); refine box_event ?hg (N := 2) ?hd (cs := #[.slice A0 l0.length c0]) (t := 24) ?hr ?_; (case hd => rfl); (case hg => rfl); (case hr => first | (go_simp; done) | (go_simp; rfl)); intro g2 hg_ w1 hbox_ hb_; have HB1 := Aside0.mk hb_; have HZ1 : Aside0 (w.heap.size ≤ w1.heap.size) := ⟨hb_.size⟩; have HT1 := Aside0.mk (HT0.out.trans (Below.mono hb_ HT0.out.size)); have HG2 : Aside0 (w.heap.size ≤ g2 ∧ g2 < w1.heap.size) := ⟨Nat.le_of_eq hg_.symm, blk_lt hbox_⟩; have HBK_ := Aside0.mk hbox_; clear hb_ hbox_ hg_; have HBK2 := HBK_; clear HBK_; have hcz2 : w1.cell? ⟨g2, 0, none⟩ = some (.slice A0 l0.length c0) := (blk_cell HBK2.out 0).trans rfl; have hfz2 := blk_frozen HBK2.out 0))
  have hcall_ := laws_szPoset.calls _ _ l0 1048576 z1 _ (Kd.C_below HR0.out HT1.out) HC0.out hy1.out
  refine hcall_.mono ?_
  clear hcall_ 
  rintro e w2 ⟨rfl, hb_⟩
  have HB2 := Aside0.mk hb_
  have HZ2 : Aside0 (w1.heap.size ≤ w2.heap.size) := ⟨hb_.size⟩
  have HT2 := Aside0.mk (HT1.out.trans (Below.mono hb_ HT1.out.size))
  clear hb_
  have n_ := Aside0.mk (blk_below HBK2.out HB2.out)
  clear HBK2 hcz2
  have HBK2 := n_
  clear n_
  have hcz2 : w2.cell? ⟨g2, 0, none⟩ = some (.slice A0 l0.length c0) := (blk_cell HBK2.out 0).trans rfl
  go_wp2_with fail
  have hcall_ := laws_toPoset.calls k1 _ _ l0 l0 _ (Kd.C_below HR0.out HT2.out) HC0.out hy3.out
  refine hcall_.mono ?_
  clear hcall_ 
  rintro e w3 ⟨v1x, rfl, hx1_, hb_⟩
  have HB3 := Aside0.mk hb_
  have HZ3 : Aside0 (w2.heap.size ≤ w3.heap.size) := ⟨hb_.size⟩
  have HT3 := Aside0.mk (HT2.out.trans (Below.mono hb_ HT2.out.size))
  clear hb_
  have n_ := Aside0.mk (blk_below HBK2.out HB3.out)
  clear HBK2 hcz2
  have HBK2 := n_
  clear n_
  have hcz2 : w3.cell? ⟨g2, 0, none⟩ = some (.slice A0 l0.length c0) := (blk_cell HBK2.out 0).trans rfl
  have HX1 := Aside0.mk (Kd.R_lower (Kd.R_mono (ok' := fun k_ => w2.heap.size ≤ k_ ∧ k_ < w3.heap.size) (Kd.R_bound hx1_) (fun k_ h_ => ⟨h_.2.1, h_.2.2.1⟩)) HT2.out.size)
  clear hx1_
  go_wp2_with fail
  have hcall_ := laws_toIntS.calls k1 _ _ l1 l1 _ (Kd.C_below HR1.out HT3.out) HC1.out hy4.out
  refine hcall_.mono ?_
  clear hcall_ 
  rintro e w4 ⟨v2x, rfl, hx2_, hb_⟩
  have HB4 := Aside0.mk hb_
  have HZ4 : Aside0 (w3.heap.size ≤ w4.heap.size) := ⟨hb_.size⟩
  have HT4 := Aside0.mk (HT3.out.trans (Below.mono hb_ HT3.out.size))
  clear hb_
  have n_ := Aside0.mk (Kd.R_below HX1.out HB4.out)
  clear HX1
  have HX1 := n_
  clear n_
  have n_ := Aside0.mk (blk_below HBK2.out HB4.out)
  clear HBK2 hcz2
  have HBK2 := n_
  clear n_
  have hcz2 : w4.cell? ⟨g2, 0, none⟩ = some (.slice A0 l0.length c0) := (blk_cell HBK2.out 0).trans rfl
  have HX2 := Aside0.mk (Kd.R_lower (Kd.R_mono (ok' := fun k_ => w3.heap.size ≤ k_ ∧ k_ < w4.heap.size) (Kd.R_bound hx2_) (fun k_ h_ => ⟨h_.2.1, h_.2.2.1⟩)) HT3.out.size)
  clear hx2_
  go_wp2_with fail
  obtain ⟨A1_, c1_, e1_, hl1_, hC1_⟩ := Kd.R_reads HX1.out
  obtain ⟨A2_, c2_, e2_, hl2_, hC2_⟩ := Kd.R_reads HX2.out
  have hcall_ := spec_RankLinear.calls k _ _ l0 _ _ l1 v2 v3 _ hC1_ hl1_ hC2_ hl2_ hy5.out
  rw [← e1_] at hcall_
  rw [← e2_] at hcall_
  refine hcall_.mono ?_
  clear hcall_ hC1_ hl1_ e1_ c1_ A1_ hC2_ hl2_ e2_ c2_ A2_
  rintro e w5 ⟨rfl, hb_⟩
  have HB5 := Aside0.mk hb_
  have HZ5 : Aside0 (w4.heap.size ≤ w5.heap.size) := ⟨hb_.size⟩
  have HT5 := Aside0.mk (HT4.out.trans (Below.mono hb_ HT4.out.size))
  clear hb_
  have n_ := Aside0.mk (Kd.R_below HX1.out HB5.out)
  clear HX1
  have HX1 := n_
  clear n_
  have n_ := Aside0.mk (Kd.R_below HX2.out HB5.out)
  clear HX2
  have HX2 := n_
  clear n_
  have n_ := Aside0.mk (blk_below HBK2.out HB5.out)
  clear HBK2 hcz2
  have HBK2 := n_
  clear n_
  have hcz2 : w5.cell? ⟨g2, 0, none⟩ = some (.slice A0 l0.length c0) := (blk_cell HBK2.out 0).trans rfl
  go_wp2_with fail
  have hcall_ := laws_toPoset.calls k1 _ _ l0 l0 _ (Kd.C_below HR0.out HT5.out) HC0.out hy3.out
  refine hcall_.mono ?_
  clear hcall_ 
  rintro e w6 ⟨v3x, rfl, hx3_, hb_⟩
  have HB6 := Aside0.mk hb_
  have HZ6 : Aside0 (w5.heap.size ≤ w6.heap.size) := ⟨hb_.size⟩
  have HT6 := Aside0.mk (HT5.out.trans (Below.mono hb_ HT5.out.size))
  clear hb_
  have n_ := Aside0.mk (Kd.R_below HX1.out HB6.out)
  clear HX1
  have HX1 := n_
  clear n_
  have n_ := Aside0.mk (Kd.R_below HX2.out HB6.out)
  clear HX2
  have HX2 := n_
  clear n_
  have n_ := Aside0.mk (blk_below HBK2.out HB6.out)
  clear HBK2 hcz2
  have HBK2 := n_
  clear n_
  have hcz2 : w6.cell? ⟨g2, 0, none⟩ = some (.slice A0 l0.length c0) := (blk_cell HBK2.out 0).trans rfl
  have HX3 := Aside0.mk (Kd.R_lower (Kd.R_mono (ok' := fun k_ => w5.heap.size ≤ k_ ∧ k_ < w6.heap.size) (Kd.R_bound hx3_) (fun k_ h_ => ⟨h_.2.1, h_.2.2.1⟩)) HT5.out.size)
  clear hx3_
  obtain ⟨Aq3, cq3, eq_⟩ := Kd.R_slice HX3.out
  subst eq_
  go_wp2_with (first | ((with_reducible refine gate_dst (N := 8) rfl ?_); refine box_event ?hg (N := 8) ?hd (cs := #[.slice none 0 0]) (t := 28) ?hr ?_; (case hd => rfl); (case hg => rfl); (case hr => first | (go_simp; done) | (go_simp; rfl)); intro g8 hg_ w7 hbox_ hb_; have HB7 := Aside0.mk hb_; have HZ7 : Aside0 (w6.heap.size ≤ w7.heap.size) := ⟨hb_.size⟩; have HT7 := Aside0.mk (HT6.out.trans (Below.mono hb_ HT6.out.size)); have HG8 : Aside0 (w6.heap.size ≤ g8 ∧ g8 < w7.heap.size) := ⟨Nat.le_of_eq hg_.symm, blk_lt hbox_⟩; have HBK_ := Aside0.mk hbox_; clear hb_ hbox_ hg_; have n_ := Aside0.mk (Kd.R_below HX1.out HB7.out); clear HX1; have HX1 := n_; clear n_; have n_ := Aside0.mk (Kd.R_below HX2.out HB7.out); clear HX2; have HX2 := n_; clear n_; have n_ := Aside0.mk (Kd.R_below HX3.out HB7.out); clear HX3; have HX3 := n_; clear n_; have n_ := Aside0.mk (blk_below HBK2.out HB7.out); clear HBK2 hcz2; have HBK2 := n_; clear n_; have hcz2 : w7.cell? ⟨g2, 0, none⟩ = some (.slice A0 l0.length c0) := (blk_cell HBK2.out 0).trans rfl; have HBK8 := HBK_; clear HBK_; have hcz8 : w7.cell? ⟨g8, 0, none⟩ = some (.slice none 0 0) := (blk_cell HBK8.out 0).trans rfl; have hfz8 := blk_frozen HBK8.out 0) | ((with_reducible refine gate_store (t := 28) (p := 8) rfl ?_); refine store_event (t := 28) (p := 8) (v := ?vo_) (w1 := (w7.setCell ⟨g8, 0, none⟩ (.slice Aq3 l0.length cq3))) ?hg ?ho ?hn ?hr ?_; (case ho => rfl); (case hg => rfl); (case hn => rfl); (case hr => first | (go_simp; done) | (go_simp; rfl)); intro w8 hw_; have hlt_ : w.heap.size ≤ g8 := (by have z1 := HZ1.out; have z2 := HZ2.out; have z3 := HZ3.out; have z4 := HZ4.out; have z5 := HZ5.out; have z6 := HZ6.out; have z7 := HZ7.out; have hg_ := HG8.out; have h0_ := HT0.out.size; omega); have HT8 : Aside0 (Below w.heap.size w w8) := ⟨by rw [hw_]; exact below_set HT7.out hlt_⟩; have HZ8 : Aside0 (w7.heap.size ≤ w8.heap.size) := ⟨by rw [hw_]; simp [World.setCell]⟩; have n_ : Aside0 (Kd.R (Kd.int .i64) 3 w8 w.heap.size (fun k_ => w2.heap.size ≤ k_ ∧ k_ < w3.heap.size) v1x l0) := ⟨by rw [hw_]; exact Kd.R_far HX1.out (p := ⟨g8, 0, none⟩) (fun k_ h_ => by have z1 := HZ1.out; have z2 := HZ2.out; have z3 := HZ3.out; have z4 := HZ4.out; have z5 := HZ5.out; have z6 := HZ6.out; have z7 := HZ7.out; have hg_ := HG8.out; show k_ ≠ g8; omega) _⟩; clear HX1; have HX1 := n_; clear n_; have n_ : Aside0 (Kd.R (Kd.int .i64) 3 w8 w.heap.size (fun k_ => w3.heap.size ≤ k_ ∧ k_ < w4.heap.size) v2x l1) := ⟨by rw [hw_]; exact Kd.R_far HX2.out (p := ⟨g8, 0, none⟩) (fun k_ h_ => by have z1 := HZ1.out; have z2 := HZ2.out; have z3 := HZ3.out; have z4 := HZ4.out; have z5 := HZ5.out; have z6 := HZ6.out; have z7 := HZ7.out; have hg_ := HG8.out; show k_ ≠ g8; omega) _⟩; clear HX2; have HX2 := n_; clear n_; have n_ : Aside0 (Kd.R (Kd.int .i64) 3 w8 w.heap.size (fun k_ => w5.heap.size ≤ k_ ∧ k_ < w6.heap.size) (.slice Aq3 l0.length cq3) l0) := ⟨by rw [hw_]; exact Kd.R_far HX3.out (p := ⟨g8, 0, none⟩) (fun k_ h_ => by have z1 := HZ1.out; have z2 := HZ2.out; have z3 := HZ3.out; have z4 := HZ4.out; have z5 := HZ5.out; have z6 := HZ6.out; have z7 := HZ7.out; have hg_ := HG8.out; show k_ ≠ g8; omega) _⟩; clear HX3; have HX3 := n_; clear n_; have nb2_ : Aside0 (w8.heap[g2]? = some (.cells #[.slice A0 l0.length c0] 24 (0, 0))) := ⟨by rw [hw_]; exact (Below.heap_setCell _ _ _ _ (by have z1 := HZ1.out; have z2 := HZ2.out; have z3 := HZ3.out; have z4 := HZ4.out; have z5 := HZ5.out; have z6 := HZ6.out; have z7 := HZ7.out; have h1_ := HG2.out; have h2_ := HG8.out; show g2 ≠ g8; omega)).trans HBK2.out⟩; have nb8_ : Aside0 (w8.heap[g8]? = some (.cells #[.slice Aq3 l0.length cq3] 28 (0, 0))) := ⟨by rw [hw_]; exact one_setCell HBK8.out⟩; clear hcz2; clear hcz8; clear hw_; clear HBK2; have HBK2 := nb2_; clear nb2_; have hcz2 : w8.cell? ⟨g2, 0, none⟩ = some (.slice A0 l0.length c0) := (blk_cell HBK2.out 0).trans rfl; clear HBK8; have HBK8 := nb8_; clear nb8_; have hcz8 : w8.cell? ⟨g8, 0, none⟩ = some (.slice Aq3 l0.length cq3) := (blk_cell HBK8.out 0).trans rfl))
  have hcall_ := laws_toIntS.calls k1 _ _ l1 l1 _ (Kd.C_below HR1.out HT8.out) HC1.out hy4.out
  refine hcall_.mono ?_
  clear hcall_ 
  rintro e w9 ⟨v4x, rfl, hx4_, hb_⟩
  have HB9 := Aside0.mk hb_
  have HZ9 : Aside0 (w8.heap.size ≤ w9.heap.size) := ⟨hb_.size⟩
  have HT9 := Aside0.mk (HT8.out.trans (Below.mono hb_ HT8.out.size))
  clear hb_
  have n_ := Aside0.mk (Kd.R_below HX1.out HB9.out)
  clear HX1
  have HX1 := n_
  clear n_
  have n_ := Aside0.mk (Kd.R_below HX2.out HB9.out)
  clear HX2
  have HX2 := n_
  clear n_
  have n_ := Aside0.mk (Kd.R_below HX3.out HB9.out)
  clear HX3
  have HX3 := n_
  clear n_
  have n_ := Aside0.mk (blk_below HBK2.out HB9.out)
  clear HBK2 hcz2
  have HBK2 := n_
  clear n_
  have hcz2 : w9.cell? ⟨g2, 0, none⟩ = some (.slice A0 l0.length c0) := (blk_cell HBK2.out 0).trans rfl
  have n_ := Aside0.mk (blk_below HBK8.out HB9.out)
  clear HBK8 hcz8
  have HBK8 := n_
  clear n_
  have hcz8 : w9.cell? ⟨g8, 0, none⟩ = some (.slice Aq3 l0.length cq3) := (blk_cell HBK8.out 0).trans rfl
  have HX4 := Aside0.mk (Kd.R_lower (Kd.R_mono (ok' := fun k_ => w8.heap.size ≤ k_ ∧ k_ < w9.heap.size) (Kd.R_bound hx4_) (fun k_ h_ => ⟨h_.2.1, h_.2.2.1⟩)) HT8.out.size)
  clear hx4_
  go_wp2_with fail
  obtain ⟨A3_, c3_, e3_, hl3_, hC3_⟩ := Kd.R_reads HX3.out
  obtain ⟨A4_, c4_, e4_, hl4_, hC4_⟩ := Kd.R_reads HX4.out
  have hcall_ := impl_RankLinear.calls k _ _ l0 _ _ l1 v2 v3 _ hC3_ hl3_ hC4_ hl4_ hy6.out
  rw [← e3_] at hcall_
  rw [← e4_] at hcall_
  refine hcall_.mono ?_
  clear hcall_ hC3_ hl3_ e3_ c3_ A3_ hC4_ hl4_ e4_ c4_ A4_
  rintro e w10 ⟨rfl, hb_⟩
  have HB10 := Aside0.mk hb_
  have HZ10 : Aside0 (w9.heap.size ≤ w10.heap.size) := ⟨hb_.size⟩
  have HT10 := Aside0.mk (HT9.out.trans (Below.mono hb_ HT9.out.size))
  clear hb_
  have n_ := Aside0.mk (Kd.R_below HX1.out HB10.out)
  clear HX1
  have HX1 := n_
  clear n_
  have n_ := Aside0.mk (Kd.R_below HX2.out HB10.out)
  clear HX2
  have HX2 := n_
  clear n_
  have n_ := Aside0.mk (Kd.R_below HX3.out HB10.out)
  clear HX3
  have HX3 := n_
  clear n_
  have n_ := Aside0.mk (Kd.R_below HX4.out HB10.out)
  clear HX4
  have HX4 := n_
  clear n_
  have n_ := Aside0.mk (blk_below HBK2.out HB10.out)
  clear HBK2 hcz2
  have HBK2 := n_
  clear n_
  have hcz2 : w10.cell? ⟨g2, 0, none⟩ = some (.slice A0 l0.length c0) := (blk_cell HBK2.out 0).trans rfl
  have n_ := Aside0.mk (blk_below HBK8.out HB10.out)
  clear HBK8 hcz8
  have HBK8 := n_
  clear n_
  have hcz8 : w10.cell? ⟨g8, 0, none⟩ = some (.slice Aq3 l0.length cq3) := (blk_cell HBK8.out 0).trans rfl
  go_wp2_with fail
  have HB11 := Aside0.mk (below_drew (Below.refl w10.heap.size w10))
  have HZ11 : Aside0 (w10.heap.size ≤ w10.drew.heap.size) := ⟨Nat.le_refl _⟩
  have HT11 := Aside0.mk (HT10.out.trans (Below.mono HB11.out HT10.out.size))
  have n_ := Aside0.mk (Kd.R_below HX1.out HB11.out)
  clear HX1
  have HX1 := n_
  clear n_
  have n_ := Aside0.mk (Kd.R_below HX2.out HB11.out)
  clear HX2
  have HX2 := n_
  clear n_
  have n_ := Aside0.mk (Kd.R_below HX3.out HB11.out)
  clear HX3
  have HX3 := n_
  clear n_
  have n_ := Aside0.mk (Kd.R_below HX4.out HB11.out)
  clear HX4
  have HX4 := n_
  clear n_
  have n_ := Aside0.mk (blk_below HBK2.out HB11.out)
  clear HBK2 hcz2
  have HBK2 := n_
  clear n_
  have hcz2 : w10.drew.cell? ⟨g2, 0, none⟩ = some (.slice A0 l0.length c0) := (blk_cell HBK2.out 0).trans rfl
  have n_ := Aside0.mk (blk_below HBK8.out HB11.out)
  clear HBK8 hcz8
  have HBK8 := n_
  clear n_
  have hcz8 : w10.drew.cell? ⟨g8, 0, none⟩ = some (.slice Aq3 l0.length cq3) := (blk_cell HBK8.out 0).trans rfl
  go_region_held3 (fun w_ => w_.cell? ⟨g2, 0, none⟩ = some (.slice A0 l0.length c0) ∧ w_.cell? ⟨g8, 0, none⟩ = some (.slice Aq3 l0.length cq3)) (exact ⟨hcz2, hcz8⟩) (first | (go_at_call 17; have hcall_ := laws_toPoset.calls k1 _ _ l0 l0 _ (Kd.C_below HR0.out HT11.out) HC0.out hy3.out; refine hcall_.mono ?_; clear hcall_; rintro e w12 ⟨v5x, rfl, hx5_, hb_⟩; have HB12 := Aside0.mk hb_; have HZ12 : Aside0 (w10.drew.heap.size ≤ w12.heap.size) := ⟨hb_.size⟩; have HT12 := Aside0.mk (HT11.out.trans (Below.mono hb_ HT11.out.size)); clear hb_; have n_ := Aside0.mk (Kd.R_below HX1.out HB12.out); clear HX1; have HX1 := n_; clear n_; have n_ := Aside0.mk (Kd.R_below HX2.out HB12.out); clear HX2; have HX2 := n_; clear n_; have n_ := Aside0.mk (Kd.R_below HX3.out HB12.out); clear HX3; have HX3 := n_; clear n_; have n_ := Aside0.mk (Kd.R_below HX4.out HB12.out); clear HX4; have HX4 := n_; clear n_; have n_ := Aside0.mk (blk_below HBK2.out HB12.out); clear HBK2 hcz2; have HBK2 := n_; clear n_; have hcz2 : w12.cell? ⟨g2, 0, none⟩ = some (.slice A0 l0.length c0) := (blk_cell HBK2.out 0).trans rfl; have n_ := Aside0.mk (blk_below HBK8.out HB12.out); clear HBK8 hcz8; have HBK8 := n_; clear n_; have hcz8 : w12.cell? ⟨g8, 0, none⟩ = some (.slice Aq3 l0.length cq3) := (blk_cell HBK8.out 0).trans rfl; have HX5 := Aside0.mk (Kd.R_lower (Kd.R_mono (ok' := fun k_ => w10.drew.heap.size ≤ k_ ∧ k_ < w12.heap.size) (Kd.R_bound hx5_) (fun k_ h_ => ⟨h_.2.1, h_.2.2.1⟩)) HT11.out.size); clear hx5_) | (go_at_call 21; obtain ⟨A3_, c3_, e3_, hl3_, hC3_⟩ := Kd.R_reads HX3.out; obtain ⟨A5_, c5_, e5_, hl5_, hC5_⟩ := Kd.R_reads HX5.out; have hcall_ := laws_eqPoset.calls k1 _ _ l0 _ _ l0 true _ hC3_ hl3_ hC5_ hl5_ hy7.out; rw [← e3_] at hcall_; rw [← e5_] at hcall_; refine hcall_.mono ?_; clear hcall_ hC3_ hl3_ e3_ c3_ A3_ hC5_ hl5_ e5_ c5_ A5_; rintro e w13 ⟨rfl, hb_⟩; have HB13 := Aside0.mk hb_; have HZ13 : Aside0 (w12.heap.size ≤ w13.heap.size) := ⟨hb_.size⟩; have HT13 := Aside0.mk (HT12.out.trans (Below.mono hb_ HT12.out.size)); clear hb_; have n_ := Aside0.mk (Kd.R_below HX1.out HB13.out); clear HX1; have HX1 := n_; clear n_; have n_ := Aside0.mk (Kd.R_below HX2.out HB13.out); clear HX2; have HX2 := n_; clear n_; have n_ := Aside0.mk (Kd.R_below HX3.out HB13.out); clear HX3; have HX3 := n_; clear n_; have n_ := Aside0.mk (Kd.R_below HX4.out HB13.out); clear HX4; have HX4 := n_; clear n_; have n_ := Aside0.mk (Kd.R_below HX5.out HB13.out); clear HX5; have HX5 := n_; clear n_; have n_ := Aside0.mk (blk_below HBK2.out HB13.out); clear HBK2 hcz2; have HBK2 := n_; clear n_; have hcz2 : w13.cell? ⟨g2, 0, none⟩ = some (.slice A0 l0.length c0) := (blk_cell HBK2.out 0).trans rfl; have n_ := Aside0.mk (blk_below HBK8.out HB13.out); clear HBK8 hcz8; have HBK8 := n_; clear n_; have hcz8 : w13.cell? ⟨g8, 0, none⟩ = some (.slice Aq3 l0.length cq3) := (blk_cell HBK8.out 0).trans rfl))
  go_wp2_with fail
  have hcall_ := laws_toIntS.calls k1 _ _ l1 l1 _ (Kd.C_below HR1.out HT13.out) HC1.out hy4.out
  refine hcall_.mono ?_
  clear hcall_ 
  rintro e w14 ⟨v6x, rfl, hx6_, hb_⟩
  have HB14 := Aside0.mk hb_
  have HZ14 : Aside0 (w13.heap.size ≤ w14.heap.size) := ⟨hb_.size⟩
  have HT14 := Aside0.mk (HT13.out.trans (Below.mono hb_ HT13.out.size))
  clear hb_
  have n_ := Aside0.mk (Kd.R_below HX1.out HB14.out)
  clear HX1
  have HX1 := n_
  clear n_
  have n_ := Aside0.mk (Kd.R_below HX2.out HB14.out)
  clear HX2
  have HX2 := n_
  clear n_
  have n_ := Aside0.mk (Kd.R_below HX3.out HB14.out)
  clear HX3
  have HX3 := n_
  clear n_
  have n_ := Aside0.mk (Kd.R_below HX4.out HB14.out)
  clear HX4
  have HX4 := n_
  clear n_
  have n_ := Aside0.mk (Kd.R_below HX5.out HB14.out)
  clear HX5
  have HX5 := n_
  clear n_
  have n_ := Aside0.mk (blk_below HBK2.out HB14.out)
  clear HBK2 hcz2
  have HBK2 := n_
  clear n_
  have hcz2 : w14.cell? ⟨g2, 0, none⟩ = some (.slice A0 l0.length c0) := (blk_cell HBK2.out 0).trans rfl
  have n_ := Aside0.mk (blk_below HBK8.out HB14.out)
  clear HBK8 hcz8
  have HBK8 := n_
  clear n_
  have hcz8 : w14.cell? ⟨g8, 0, none⟩ = some (.slice Aq3 l0.length cq3) := (blk_cell HBK8.out 0).trans rfl
  have HX6 := Aside0.mk (Kd.R_lower (Kd.R_mono (ok' := fun k_ => w13.heap.size ≤ k_ ∧ k_ < w14.heap.size) (Kd.R_bound hx6_) (fun k_ h_ => ⟨h_.2.1, h_.2.2.1⟩)) HT13.out.size)
  clear hx6_
  go_wp2_with fail
  obtain ⟨A4_, c4_, e4_, hl4_, hC4_⟩ := Kd.R_reads HX4.out
  obtain ⟨A6_, c6_, e6_, hl6_, hC6_⟩ := Kd.R_reads HX6.out
  have hcall_ := laws_eqIntS.calls k1 _ _ l1 _ _ l1 true _ hC4_ hl4_ hC6_ hl6_ hy8.out
  rw [← e4_] at hcall_
  rw [← e6_] at hcall_
  refine hcall_.mono ?_
  clear hcall_ hC4_ hl4_ e4_ c4_ A4_ hC6_ hl6_ e6_ c6_ A6_
  rintro e w15 ⟨rfl, hb0_⟩
  have hb_ := laws_FnExactRankLinear.belowD hb0_
  clear hb0_
  have HB15 := Aside0.mk hb_
  have HZ15 : Aside0 (w14.heap.size ≤ w15.heap.size) := ⟨hb_.size⟩
  have HT15 := Aside0.mk (HT14.out.trans (Below.mono hb_ HT14.out.size))
  clear hb_
  have n_ := Aside0.mk (Kd.R_below HX1.out HB15.out)
  clear HX1
  have HX1 := n_
  clear n_
  have n_ := Aside0.mk (Kd.R_below HX2.out HB15.out)
  clear HX2
  have HX2 := n_
  clear n_
  have n_ := Aside0.mk (Kd.R_below HX3.out HB15.out)
  clear HX3
  have HX3 := n_
  clear n_
  have n_ := Aside0.mk (Kd.R_below HX4.out HB15.out)
  clear HX4
  have HX4 := n_
  clear n_
  have n_ := Aside0.mk (Kd.R_below HX5.out HB15.out)
  clear HX5
  have HX5 := n_
  clear n_
  have n_ := Aside0.mk (Kd.R_below HX6.out HB15.out)
  clear HX6
  have HX6 := n_
  clear n_
  have n_ := Aside0.mk (blk_below HBK2.out HB15.out)
  clear HBK2 hcz2
  have HBK2 := n_
  clear n_
  have hcz2 : w15.cell? ⟨g2, 0, none⟩ = some (.slice A0 l0.length c0) := (blk_cell HBK2.out 0).trans rfl
  have n_ := Aside0.mk (blk_below HBK8.out HB15.out)
  clear HBK8 hcz8
  have HBK8 := n_
  clear n_
  have hcz8 : w15.cell? ⟨g8, 0, none⟩ = some (.slice Aq3 l0.length cq3) := (blk_cell HBK8.out 0).trans rfl
  go_wp2
  go_ret
  exact ⟨by first | rfl | (simp; done) | (simp [*]; done), by repeat (first | (with_reducible first | exact HT15.out | apply below_alloc | apply pw_below_drewN | apply below_drew1) | exact HT15.out)⟩
open Classical in
noncomputable def laws_FnExactRankLinear.f (k : Nat) (l0 : List Int) (l1 : List Int) : Option Bool := if ∃ k1 : Nat, (∃ (_ : Unit), (decide ((l1.length : Int) > 1048576) = true)) ∨ (∃ (z1 : Int), (decide ((l1.length : Int) > 1048576) = false) ∧ (laws_szPoset.f l0 1048576 = some z1) ∧ (decide (z1 < 0) = true)) ∨ (∃ (z1 : Int) (v2 : Int) (v3 : Bool), (decide ((l1.length : Int) > 1048576) = false) ∧ (laws_szPoset.f l0 1048576 = some z1) ∧ (decide (z1 < 0) = false) ∧ (laws_toPoset.f k1 l0 = some l0) ∧ (laws_toIntS.f k1 l1 = some l1) ∧ (spec_RankLinear.f k l0 l1 = some (v2, v3)) ∧ (impl_RankLinear.f k l0 l1 = some (v2, v3)) ∧ (laws_eqPoset.f k1 l0 l0 = some true) ∧ (laws_eqIntS.f k1 l1 l1 = some true)) then some true else none
theorem laws_FnExactRankLinear.calls (k : Nat) (A0 : Option Addr) (c0 : Nat) (l0 : List Int) (A1 : Option Addr) (c1 : Nat) (l1 : List Int) (r : Bool) (w : World) (hr0 : Kd.C (Kd.int .i64) w A0 l0.length l0) (hc0 : l0.length ≤ c0) (hr1 : Kd.C (Kd.int .i64) w A1 l1.length l1) (hc1 : l1.length ≤ c1) (h : laws_FnExactRankLinear.f k l0 l1 = some r) :
    Calls Try.prog 7 #[.agg #[.slice A0 l0.length c0], .slice A1 l1.length c1] w fun e w' => e = .returned (.bool r) ∧ Below w.heap.size w w' := by
  unfold laws_FnExactRankLinear.f at h
  split at h
  · rename_i hh
    obtain rfl := Option.some.inj h
    obtain ⟨k1, hh⟩ := hh
    rcases hh with ⟨_, hx⟩ | ⟨z1, hy0, hy1, hx⟩ | ⟨z1, v2, v3, hy0, hy1, hy2, hy3, hy4, hy5, hy6, hy7, hy8⟩
    · exact laws_FnExactRankLinear.calls0 k k1 _ _ l0 _ _ l1  w hr0 hc0 hr1 hc1 hx
    · exact laws_FnExactRankLinear.calls1 k k1 _ _ l0 _ _ l1 z1 w hr0 hc0 hr1 hc1 hy0 hy1 hx
    · exact laws_FnExactRankLinear.calls2 k k1 _ _ l0 _ _ l1 z1 v2 v3 w hr0 hc0 hr1 hc1 hy0 hy1 hy2 hy3 hy4 hy5 hy6 hy7 hy8
  · cases h
end Go.Proofs.Ytjahclncpgllmaa.F
end
