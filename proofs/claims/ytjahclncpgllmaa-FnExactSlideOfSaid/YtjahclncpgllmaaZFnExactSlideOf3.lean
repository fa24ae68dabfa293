/- Part 3 of the texts below the row of FnExactSlideOf: printed functions with their contracts, and plain lemmas. No condition. -/
import Derived.Test.YtjahclncpgllmaaZFnExactSlideOf2
import Derived.LoopTactic
import Derived.Deep.LoopGhost
import Derived.Deep.RegionHeld3
import Derived.OneCell
section
namespace Go.Proofs.Ytjahclncpgllmaa.F
open Go.RowKit Go.Proofs.YtjahclncpgllmaaW.PrintWords Go.Proofs.YtjahclncpgllmaaW.PrintLast Go.Proofs.YtjahclncpgllmaaW.PrintMore
attribute [local go_sem] max2_int min2_int max_two min_two max_three min_three max_four min_four
set_option linter.unusedVariables false
set_option linter.unusedSimpArgs false

/-! ### spec_liGiven: function 53 -/
def spec_liGiven.f (k : Nat) (l0_0 : List Int) (l1 : List Int) : Option (Bool) := (spec_poGood.f k l0_0).bind fun t131 => (if t131 = true then ((spec_liIs.f k l0_0 l1).bind fun t132 => (some t132)) else (some false))
theorem spec_liGiven.mono : ∀ a0 a1 k, LeO (spec_liGiven.f k a0 a1) (spec_liGiven.f (k + 1) a0 a1) := by
  intro a0 a1 k
  unfold spec_liGiven.f
  repeat' first
      | (with_reducible exact spec_liIs.mono _ _ _)
      | (with_reducible exact spec_poGood.mono _ _)
      | (with_reducible exact LeO.refl _)
      | (with_reducible exact LeO.none _)
      | (with_reducible refine LeO.ite ?_ ?_)
      | (with_reducible refine LeO.bind ?_ (fun _ => ?_))
      | exact spec_liIs.mono _ _ _
      | exact spec_poGood.mono _ _
      | exact LeO.none _
      | refine LeO.ite ?_ ?_
      | refine LeO.bind ?_ (fun _ => ?_)
set_option maxHeartbeats 8000000 in
set_option maxRecDepth 100000 in
theorem spec_liGiven.calls (k : Nat) (A0_0 : Option Addr) (c0_0 : Nat) (l0_0 : List Int) (A1 : Option Addr) (c1 : Nat) (l1 : List Int) (r : Bool) (w : World) (hr0_0 : Kd.C (Kd.int .i64) w A0_0 l0_0.length l0_0) (hc0_0 : l0_0.length ≤ c0_0) (hr1 : Kd.C (Kd.int .i64) w A1 l1.length l1) (hc1 : l1.length ≤ c1) (h : spec_liGiven.f k l0_0 l1 = some r) :
    Calls Try.prog 53 #[.agg #[.slice A0_0 l0_0.length c0_0], .slice A1 l1.length c1] w fun e w' => e = .returned (.bool r) ∧ Below w.heap.size w w' := by
  have hu28 := Try.underlying28
  have HR0_0 := Aside0.mk hr0_0
  have HC0_0 := Aside0.mk hc0_0
  clear hr0_0 hc0_0
  have HR1 := Aside0.mk hr1
  have HC1 := Aside0.mk hc1
  clear hr1 hc1
  have HB := Aside0.mk (Below.refl w.heap.size w)
  have H : ((spec_poGood.f k l0_0).bind fun t131 => (if t131 = true then ((spec_liIs.f k l0_0 l1).bind fun t132 => (some t132)) else (some false))) = some r := h
  clear h
  replace H := Option.bind_eq_some_iff.mp H
  obtain ⟨t131, A30, H⟩ := H
  replace H : (if t131 = true then ((spec_liIs.f k l0_0 l1).bind fun t132 => (some t132)) else (some false)) = some r := H
  have A3 := Aside0.mk A30
  clear A30
  by_cases c4 : t131 = true
  · subst c4
    have H1 : ((spec_liIs.f k l0_0 l1).bind fun t132 => (some t132)) = some r := by rw [if_pos rfl] at H; exact H
    clear H
    have H := H1
    clear H1
    replace H := Option.bind_eq_some_iff.mp H
    obtain ⟨t132, A50, H⟩ := H
    replace H : (some t132) = some r := H
    have A5 := Aside0.mk A50
    clear A50
    obtain rfl := Option.some.inj H
    go_enter Try.func53, Try.ntmps53
    go_wp2_with (first | ((with_reducible refine gate_dst (N := 2) rfl ?_); refine box_event ?hg (N := 2) ?hd (cs := #[.slice A0_0 l0_0.length c0_0]) (t := 28) ?hr ?_; (case hd => rfl); (case hg => rfl); (case hr => first | (go_simp; done) | (go_simp; rfl)); intro gb130 hg w6 hbox hb; have n0_ := Aside0.mk (below_step (by repeat (first | (with_reducible first | exact HB.out | apply below_alloc | apply pw_below_drewN | apply below_drew1) | exact HB.out)) hb); have n1_ := Aside0.mk (hbox); have n2_ := Aside0.mk ((by rw [hg]; exact (below_size (by repeat (first | (with_reducible first | exact HB.out | apply below_alloc | apply pw_below_drewN | apply below_drew1) | exact HB.out))) : w.heap.size ≤ gb130)); have n3_ := Aside0.mk ((by rw [hg]; exact (below_size (by repeat (first | (with_reducible first | exact HB.out | apply below_alloc | apply pw_below_drewN | apply below_drew1) | exact HB.out))) : w.heap.size ≤ gb130)); clear HB; have HB := n0_; have BK130 := n1_; have GW130 := n2_; have GE130 := n3_; clear n0_ n1_ n2_ n3_; clear hb hbox hg; have hcz7_0 : w6.cell? ⟨gb130, 0, none⟩ = some (.slice A0_0 l0_0.length c0_0) := (blk_cell BK130.out 0).trans rfl; have hfz7_0 := blk_frozen BK130.out 0) | ((with_reducible refine gate_callee (f := 69) rfl ?_); refine goesL_ (some 6) rfl rfl Try.func69 (by kernel_rfl) rfl #[.agg #[.slice A0_0 l0_0.length c0_0]] rfl (by (try simp only [List.map_toArray, List.map_cons, List.map_nil]); first | done | rfl | (simp only [List.length_drop, List.length_take]; rfl)) ?_; (with_reducible refine (spec_poGood.calls k _ _ l0_0 true _ ?side1 ?side2 A3.out).mono ?_); (case side1 => repeat (first | exact (Kd.C_below HR0_0.out HB.out) | (with_reducible refine Kd.C_alloc ?_ _) | (with_reducible refine Kd.C_drewN ?_ _) | (with_reducible refine Kd.C_drew ?_))); (case side2 => exact HC0_0.out); rintro e w8 ⟨rfl, hb⟩; refine ⟨_, rfl, ?_⟩; have n0_ := Aside0.mk (blk_below (g := gb130) (o := .cells #[.slice A0_0 l0_0.length c0_0] 28 (0, 0)) (by (with_reducible repeat (first | refine blk_drewN ?_ _ | refine blk_drew ?_ | refine blk_alloc ?_ _)); exact BK130.out) hb); have n1_ := Aside0.mk (below_step (by repeat (first | (with_reducible first | exact HB.out | apply below_alloc | apply pw_below_drewN | apply below_drew1 | refine below_set ?_ GE130.out) | exact HB.out)) hb); clear BK130; clear HB; have BK130 := n0_; have HB := n1_; clear n0_ n1_; (try clear hb); (try clear hb2); (try clear hk); (try clear hi); have hcz9_0 : w8.cell? ⟨gb130, 0, none⟩ = some (.slice A0_0 l0_0.length c0_0) := (blk_cell BK130.out 0).trans rfl; have hfz9_0 := blk_frozen BK130.out 0) | (go_at_call 70; (with_reducible refine (spec_liIs.calls k _ _ l0_0 _ _ l1 t132 _ ?side1 ?side2 ?side3 ?side4 A5.out).mono ?_); (case side1 => repeat (first | exact (Kd.C_below HR0_0.out HB.out) | (with_reducible refine Kd.C_alloc ?_ _) | (with_reducible refine Kd.C_drewN ?_ _) | (with_reducible refine Kd.C_drew ?_))); (case side2 => exact HC0_0.out); (case side3 => repeat (first | exact (Kd.C_below HR1.out HB.out) | (with_reducible refine Kd.C_alloc ?_ _) | (with_reducible refine Kd.C_drewN ?_ _) | (with_reducible refine Kd.C_drew ?_))); (case side4 => exact HC1.out); rintro e w10 ⟨rfl, hb⟩; have n0_ := Aside0.mk (blk_below (g := gb130) (o := .cells #[.slice A0_0 l0_0.length c0_0] 28 (0, 0)) (by (with_reducible repeat (first | refine blk_drewN ?_ _ | refine blk_drew ?_ | refine blk_alloc ?_ _)); exact BK130.out) hb); have n1_ := Aside0.mk (below_step (by repeat (first | (with_reducible first | exact HB.out | apply below_alloc | apply pw_below_drewN | apply below_drew1 | refine below_set ?_ GE130.out) | exact HB.out)) hb); clear BK130; clear HB; have BK130 := n0_; have HB := n1_; clear n0_ n1_; (try clear hb); (try clear hb2); (try clear hk); (try clear hi)))
    go_ret
    exact ⟨by first | rfl | (simp [errW_none, errW_some] <;> rfl) | (simp [*, errW_none, errW_some] <;> rfl), by repeat (first | (with_reducible first | exact HB.out | apply below_alloc | apply pw_below_drewN | apply below_drew1 | refine below_set ?_ GE130.out) | exact HB.out)⟩
  · replace c4 := Bool.eq_false_iff.mpr c4
    subst c4
    have H1 : (some false) = some r := by rw [if_neg (show ¬ (false = true) by decide)] at H; exact H
    clear H
    have H := H1
    clear H1
    obtain rfl := Option.some.inj H
    go_enter Try.func53, Try.ntmps53
    go_wp2_with (first | ((with_reducible refine gate_dst (N := 2) rfl ?_); refine box_event ?hg (N := 2) ?hd (cs := #[.slice A0_0 l0_0.length c0_0]) (t := 28) ?hr ?_; (case hd => rfl); (case hg => rfl); (case hr => first | (go_simp; done) | (go_simp; rfl)); intro gb130 hg w11 hbox hb; have n0_ := Aside0.mk (below_step (by repeat (first | (with_reducible first | exact HB.out | apply below_alloc | apply pw_below_drewN | apply below_drew1) | exact HB.out)) hb); have n1_ := Aside0.mk (hbox); have n2_ := Aside0.mk ((by rw [hg]; exact (below_size (by repeat (first | (with_reducible first | exact HB.out | apply below_alloc | apply pw_below_drewN | apply below_drew1) | exact HB.out))) : w.heap.size ≤ gb130)); have n3_ := Aside0.mk ((by rw [hg]; exact (below_size (by repeat (first | (with_reducible first | exact HB.out | apply below_alloc | apply pw_below_drewN | apply below_drew1) | exact HB.out))) : w.heap.size ≤ gb130)); clear HB; have HB := n0_; have BK130 := n1_; have GW130 := n2_; have GE130 := n3_; clear n0_ n1_ n2_ n3_; clear hb hbox hg; have hcz12_0 : w11.cell? ⟨gb130, 0, none⟩ = some (.slice A0_0 l0_0.length c0_0) := (blk_cell BK130.out 0).trans rfl; have hfz12_0 := blk_frozen BK130.out 0) | ((with_reducible refine gate_callee (f := 69) rfl ?_); refine goesL_ (some 6) rfl rfl Try.func69 (by kernel_rfl) rfl #[.agg #[.slice A0_0 l0_0.length c0_0]] rfl (by (try simp only [List.map_toArray, List.map_cons, List.map_nil]); first | done | rfl | (simp only [List.length_drop, List.length_take]; rfl)) ?_; (with_reducible refine (spec_poGood.calls k _ _ l0_0 false _ ?side1 ?side2 A3.out).mono ?_); (case side1 => repeat (first | exact (Kd.C_below HR0_0.out HB.out) | (with_reducible refine Kd.C_alloc ?_ _) | (with_reducible refine Kd.C_drewN ?_ _) | (with_reducible refine Kd.C_drew ?_))); (case side2 => exact HC0_0.out); rintro e w13 ⟨rfl, hb⟩; refine ⟨_, rfl, ?_⟩; have n0_ := Aside0.mk (blk_below (g := gb130) (o := .cells #[.slice A0_0 l0_0.length c0_0] 28 (0, 0)) (by (with_reducible repeat (first | refine blk_drewN ?_ _ | refine blk_drew ?_ | refine blk_alloc ?_ _)); exact BK130.out) hb); have n1_ := Aside0.mk (below_step (by repeat (first | (with_reducible first | exact HB.out | apply below_alloc | apply pw_below_drewN | apply below_drew1 | refine below_set ?_ GE130.out) | exact HB.out)) hb); clear BK130; clear HB; have BK130 := n0_; have HB := n1_; clear n0_ n1_; (try clear hb); (try clear hb2); (try clear hk); (try clear hi)))
    go_ret
    exact ⟨by first | rfl | (simp [errW_none, errW_some] <;> rfl) | (simp [*, errW_none, errW_some] <;> rfl), by repeat (first | (with_reducible first | exact HB.out | apply below_alloc | apply pw_below_drewN | apply below_drew1 | refine below_set ?_ GE130.out) | exact HB.out)⟩

end Go.Proofs.Ytjahclncpgllmaa.F
end

section
namespace Go.Proofs.Ytjahclncpgllmaa.F
open Go.RowKit Go.Proofs.YtjahclncpgllmaaW.PrintWords Go.Proofs.YtjahclncpgllmaaW.PrintLast Go.Proofs.YtjahclncpgllmaaW.PrintMore
attribute [local go_sem] max2_int min2_int max_two min_two max_three min_three max_four min_four
set_option linter.unusedVariables false
set_option linter.unusedSimpArgs false

/-! ### spec_poCovers: function 104 -/
def spec_poCovers.l0 : Nat → Int → Int → Int → List Int → Option (Bool)
  | 0, _, _, _, _ => none
  | k + 1, x1, x2, x7, x620000 => if x7 < x2 then (if 0 ≤ x2 then (if x2 < (x620000.length : Int) then ((spec_poIn.f (rd x620000 x2) x7).bind fun t623 => (if t623 = true then (if 0 ≤ x7 then (if x7 < (x620000.length : Int) then ((spec_poIn.f (rd x620000 x7) x1).bind fun t625 => (if t625 = true then (some false) else (spec_poCovers.l0 k x1 x2 (wrap64 (x7 + 1)) x620000))) else (none)) else (none)) else (spec_poCovers.l0 k x1 x2 (wrap64 (x7 + 1)) x620000))) else (none)) else (none)) else (some true)
def spec_poCovers.f (k : Nat) (l0_0 : List Int) (a1 : Int) (a2 : Int) : Option (Bool) := if 0 ≤ a2 then (if a2 < (l0_0.length : Int) then ((spec_poIn.f (rd l0_0 a2) a1).bind fun t621 => (if t621 = true then (spec_poCovers.l0 k a1 a2 (wrap64 (a1 + 1)) l0_0) else (some false))) else (none)) else (none)
theorem spec_poCovers.mono_l : ∀ k, (∀ y0 y1 y2 y3, LeO (spec_poCovers.l0 k y0 y1 y2 y3) (spec_poCovers.l0 (k + 1) y0 y1 y2 y3))
  | 0 => fun _ _ _ _ r h => by simp [spec_poCovers.l0] at h
  | k + 1 => by
    have ih0 := spec_poCovers.mono_l k
    · intro y0 y1 y2 y3
      unfold spec_poCovers.l0
      repeat' first
      | (with_reducible exact ih0 _ _ _ _)
      | (with_reducible exact LeO.refl _)
      | (with_reducible exact LeO.none _)
      | (with_reducible refine LeO.ite ?_ ?_)
      | (with_reducible refine LeO.bind ?_ (fun _ => ?_))
      | exact ih0 _ _ _ _
      | exact LeO.none _
      | refine LeO.ite ?_ ?_
      | refine LeO.bind ?_ (fun _ => ?_)
theorem spec_poCovers.mono : ∀ a0 a1 a2 k, LeO (spec_poCovers.f k a0 a1 a2) (spec_poCovers.f (k + 1) a0 a1 a2) := by
  intro a0 a1 a2 k
  have ih0 := spec_poCovers.mono_l k
  unfold spec_poCovers.f
  repeat' first
      | (with_reducible exact ih0 _ _ _ _)
      | (with_reducible exact LeO.refl _)
      | (with_reducible exact LeO.none _)
      | (with_reducible refine LeO.ite ?_ ?_)
      | (with_reducible refine LeO.bind ?_ (fun _ => ?_))
      | exact ih0 _ _ _ _
      | exact LeO.none _
      | refine LeO.ite ?_ ?_
      | refine LeO.bind ?_ (fun _ => ?_)
set_option maxHeartbeats 8000000 in
set_option maxRecDepth 100000 in
theorem spec_poCovers.calls (k : Nat) (A0_0 : Option Addr) (c0_0 : Nat) (l0_0 : List Int) (a1 : Int) (a2 : Int) (r : Bool) (w : World) (hr0_0 : Kd.C (Kd.int .i64) w A0_0 l0_0.length l0_0) (hc0_0 : l0_0.length ≤ c0_0) (h : spec_poCovers.f k l0_0 a1 a2 = some r) :
    Calls Try.prog 104 #[.agg #[.slice A0_0 l0_0.length c0_0], .int .i64 a1, .int .i64 a2] w fun e w' => e = .returned (.bool r) ∧ Below w.heap.size w w' := by
  have hu28 := Try.underlying28
  have HR0_0 := Aside0.mk hr0_0
  have HC0_0 := Aside0.mk hc0_0
  clear hr0_0 hc0_0
  have HB := Aside0.mk (Below.refl w.heap.size w)
  have H : (if 0 ≤ a2 then (if a2 < (l0_0.length : Int) then ((spec_poIn.f (rd l0_0 a2) a1).bind fun t621 => (if t621 = true then (spec_poCovers.l0 k a1 a2 (wrap64 (a1 + 1)) l0_0) else (some false))) else (none)) else (none)) = some r := h
  clear h
  by_cases c4 : 0 ≤ a2
  · rw [if_pos c4] at H
    have c4b0 : decide (0 ≤ a2) = true := decide_eq_true c4
    clear c4
    by_cases c5 : a2 < (l0_0.length : Int)
    · rw [if_pos c5] at H
      have c5b0 : decide (a2 < (l0_0.length : Int)) = true := decide_eq_true c5
      clear c5
      replace H := Option.bind_eq_some_iff.mp H
      obtain ⟨t621, A60, H⟩ := H
      replace H : (if t621 = true then (spec_poCovers.l0 k a1 a2 (wrap64 (a1 + 1)) l0_0) else (some false)) = some r := H
      have A6 := Aside0.mk A60
      clear A60
      by_cases c7 : t621 = true
      · subst c7
        have H1 : (spec_poCovers.l0 k a1 a2 (wrap64 (a1 + 1)) l0_0) = some r := by rw [if_pos rfl] at H; exact H
        clear H
        have H := H1
        clear H1
        have H' := Aside0.mk H
        clear H
        go_enter Try.func104, Try.ntmps104
        go_wp2_with (first | ((with_reducible refine gate_dst (N := 3) rfl ?_); refine box_event ?hg (N := 3) ?hd (cs := #[.slice A0_0 l0_0.length c0_0]) (t := 28) ?hr ?_; (case hd => rfl); (case hg => rfl); (case hr => first | (go_simp; done) | (go_simp; rfl)); intro gb619 hg w8 hbox hb; have n0_ := Aside0.mk (below_step (by repeat (first | (with_reducible first | exact HB.out | apply below_alloc | apply pw_below_drewN | apply below_drew1) | exact HB.out)) hb); have n1_ := Aside0.mk (hbox); have n2_ := Aside0.mk ((by rw [hg]; exact (below_size (by repeat (first | (with_reducible first | exact HB.out | apply below_alloc | apply pw_below_drewN | apply below_drew1) | exact HB.out))) : w.heap.size ≤ gb619)); have n3_ := Aside0.mk ((by rw [hg]; exact (below_size (by repeat (first | (with_reducible first | exact HB.out | apply below_alloc | apply pw_below_drewN | apply below_drew1) | exact HB.out))) : w.heap.size ≤ gb619)); clear HB; have HB := n0_; have BK619 := n1_; have GW619 := n2_; have GE619 := n3_; clear n0_ n1_ n2_ n3_; clear hb hbox hg; have hcz9_0 : w8.cell? ⟨gb619, 0, none⟩ = some (.slice A0_0 l0_0.length c0_0) := (blk_cell BK619.out 0).trans rfl; have hfz9_0 := blk_frozen BK619.out 0; have p620 : 0 ≤ (a2 : Int) := of_decide_eq_true (by first | (with_reducible assumption) | assumption); have q620 : a2 < (l0_0.length : Int) := of_decide_eq_true (by first | (with_reducible assumption) | assumption); obtain ⟨ad620, e620, hx620_0⟩ := Kd.at_int HR0_0.out a2 p620 q620; cases e620; replace hx620_0 := (HB.out.cell (World.block_lt_of_cell? w _ hx620_0)).trans hx620_0; replace p620 := eq_true p620; replace q620 := eq_true q620) | ((with_reducible refine gate_callee (f := 72) rfl ?_); refine goesL_ (some 14) rfl rfl Try.func72 (by kernel_rfl) rfl #[.int .i64 (rd l0_0 a2), .int .i64 a1] rfl (by (try simp only [List.map_toArray, List.map_cons, List.map_nil]); first | done | rfl | (simp only [List.length_drop, List.length_take]; rfl)) ?_; (with_reducible refine (spec_poIn.calls (rd l0_0 a2) a1 true _ A6.out).mono ?_); rintro e w' ⟨rfl, ⟨nd, rfl⟩⟩; refine ⟨_, rfl, ?_⟩))
        go_loopg [7] k (fun kq v7 w' => ∃ (x7_1 : Int), v7 = .int .i64 x7_1 ∧ Aside0 (spec_poCovers.l0 kq a1 a2 x7_1 l0_0 = some r) ∧ Aside0 (kq ≤ k) ∧ Aside0 (w'.heap[gb619]? = some (.cells #[(.slice (some ad620) l0_0.length c0_0)] 28 (0, 0))) ∧ Aside0 (Below w.heap.size w w'))
        case atStart => exact ⟨(wrap64 (a1 + 1)), (by first | rfl | (simp; done) | (simp [*]; done)), H', ⟨Nat.le_refl _⟩, ⟨by (with_reducible repeat (first | refine blk_drewN ?_ _ | refine blk_drew ?_ | refine blk_alloc ?_ _)); exact BK619.out⟩, ⟨by repeat (first | (with_reducible first | exact HB.out | apply below_alloc | apply pw_below_drewN | apply below_drew1 | refine below_set ?_ GE619.out) | exact HB.out)⟩⟩
        case round =>
          clear H'
          try clear c1
          try clear p2
          try clear c4
          try clear c4b0
          try clear c5
          try clear c5b0
          try clear p6
          try clear q6
          try clear hx6
          try clear c7
          try clear hcz9_0
          try clear hfz9_0
          try clear hx620_0
          try clear p620
          try clear q620
          obtain ⟨x7_1, rfl, HA, HK1, BK619, HB⟩ := hrel
          cases gk with
          | zero => exact absurd HA.out (by simp [spec_poCovers.l0])
          | succ k1 =>
            have H := HA.out
            clear HA
            simp only [spec_poCovers.l0] at H
            by_cases c10 : x7_1 < a2
            · rw [if_pos c10] at H
              have c10b0 : decide (x7_1 < a2) = true := decide_eq_true c10
              clear c10
              by_cases c11 : 0 ≤ a2
              · rw [if_pos c11] at H
                have c11b0 : decide (0 ≤ a2) = true := decide_eq_true c11
                clear c11
                by_cases c12 : a2 < (l0_0.length : Int)
                · rw [if_pos c12] at H
                  have c12b0 : decide (a2 < (l0_0.length : Int)) = true := decide_eq_true c12
                  clear c12
                  replace H := Option.bind_eq_some_iff.mp H
                  obtain ⟨t623, A130, H⟩ := H
                  replace H : (if t623 = true then (if 0 ≤ x7_1 then (if x7_1 < (l0_0.length : Int) then ((spec_poIn.f (rd l0_0 x7_1) a1).bind fun t625 => (if t625 = true then (some false) else (spec_poCovers.l0 k1 a1 a2 (wrap64 (x7_1 + 1)) l0_0))) else (none)) else (none)) else (spec_poCovers.l0 k1 a1 a2 (wrap64 (x7_1 + 1)) l0_0)) = some r := H
                  have A13 := Aside0.mk A130
                  clear A130
                  by_cases c14 : t623 = true
                  · subst c14
                    have H1 : (if 0 ≤ x7_1 then (if x7_1 < (l0_0.length : Int) then ((spec_poIn.f (rd l0_0 x7_1) a1).bind fun t625 => (if t625 = true then (some false) else (spec_poCovers.l0 k1 a1 a2 (wrap64 (x7_1 + 1)) l0_0))) else (none)) else (none)) = some r := by rw [if_pos rfl] at H; exact H
                    clear H
                    have H := H1
                    clear H1
                    by_cases c15 : 0 ≤ x7_1
                    · rw [if_pos c15] at H
                      have c15b0 : decide (0 ≤ x7_1) = true := decide_eq_true c15
                      clear c15
                      by_cases c16 : x7_1 < (l0_0.length : Int)
                      · rw [if_pos c16] at H
                        have c16b0 : decide (x7_1 < (l0_0.length : Int)) = true := decide_eq_true c16
                        clear c16
                        replace H := Option.bind_eq_some_iff.mp H
                        obtain ⟨t625, A170, H⟩ := H
                        replace H : (if t625 = true then (some false) else (spec_poCovers.l0 k1 a1 a2 (wrap64 (x7_1 + 1)) l0_0)) = some r := H
                        have A17 := Aside0.mk A170
                        clear A170
                        by_cases c18 : t625 = true
                        · subst c18
                          have H1 : (some false) = some r := by rw [if_pos rfl] at H; exact H
                          clear H
                          have H := H1
                          clear H1
                          obtain rfl := Option.some.inj H
                          have hcz19_0 : wr.cell? ⟨gb619, 0, none⟩ = some (.slice (some ad620) l0_0.length c0_0) := (blk_cell BK619.out 0).trans rfl
                          have hfz19_0 := blk_frozen BK619.out 0
                          have p622 : 0 ≤ (a2 : Int) := of_decide_eq_true (by first | (with_reducible assumption) | assumption)
                          have q622 : a2 < (l0_0.length : Int) := of_decide_eq_true (by first | (with_reducible assumption) | assumption)
                          obtain ⟨ad622, e622, hx622_0⟩ := Kd.at_int HR0_0.out a2 p622 q622
                          obtain rfl : ad620 = ad622 := (by injection e622)
                          replace hx622_0 := (HB.out.cell (World.block_lt_of_cell? w _ hx622_0)).trans hx622_0
                          replace p622 := eq_true p622
                          replace q622 := eq_true q622
                          go_wp2_with (first | ((with_reducible refine gate_callee (f := 72) rfl ?_); refine goesL_ (some 29) rfl rfl Try.func72 (by kernel_rfl) rfl #[.int .i64 (rd l0_0 a2), .int .i64 x7_1] rfl (by (try simp only [List.map_toArray, List.map_cons, List.map_nil]); first | done | rfl | (simp only [List.length_drop, List.length_take]; rfl)) ?_; (with_reducible refine (spec_poIn.calls (rd l0_0 a2) x7_1 true _ A13.out).mono ?_); rintro e w' ⟨rfl, ⟨nd, rfl⟩⟩; refine ⟨_, rfl, ?_⟩; have p624 : 0 ≤ (x7_1 : Int) := of_decide_eq_true (by first | (with_reducible assumption) | assumption); have q624 : x7_1 < (l0_0.length : Int) := of_decide_eq_true (by first | (with_reducible assumption) | assumption); obtain ⟨ad624, e624, hx624_0⟩ := Kd.at_int HR0_0.out x7_1 p624 q624; obtain rfl : ad620 = ad624 := (by injection e624); replace hx624_0 := (HB.out.cell (World.block_lt_of_cell? w _ hx624_0)).trans hx624_0; replace p624 := eq_true p624; replace q624 := eq_true q624) | (go_at_call 72; (with_reducible refine (spec_poIn.calls (rd l0_0 x7_1) a1 true _ A17.out).mono ?_); rintro e w' ⟨rfl, ⟨nd, rfl⟩⟩))
                          go_ret
                          exact ⟨by first | rfl | (simp [errW_none, errW_some] <;> rfl) | (simp [*, errW_none, errW_some] <;> rfl), by repeat (first | (with_reducible first | exact HB.out | apply below_alloc | apply pw_below_drewN | apply below_drew1 | refine below_set ?_ GE619.out) | exact HB.out)⟩
                        · replace c18 := Bool.eq_false_iff.mpr c18
                          subst c18
                          have H1 : (spec_poCovers.l0 k1 a1 a2 (wrap64 (x7_1 + 1)) l0_0) = some r := by rw [if_neg (show ¬ (false = true) by decide)] at H; exact H
                          clear H
                          have H := H1
                          clear H1
                          have H' := Aside0.mk H
                          clear H
                          have hcz20_0 : wr.cell? ⟨gb619, 0, none⟩ = some (.slice (some ad620) l0_0.length c0_0) := (blk_cell BK619.out 0).trans rfl
                          have hfz20_0 := blk_frozen BK619.out 0
                          have p622 : 0 ≤ (a2 : Int) := of_decide_eq_true (by first | (with_reducible assumption) | assumption)
                          have q622 : a2 < (l0_0.length : Int) := of_decide_eq_true (by first | (with_reducible assumption) | assumption)
                          obtain ⟨ad622, e622, hx622_0⟩ := Kd.at_int HR0_0.out a2 p622 q622
                          obtain rfl : ad620 = ad622 := (by injection e622)
                          replace hx622_0 := (HB.out.cell (World.block_lt_of_cell? w _ hx622_0)).trans hx622_0
                          replace p622 := eq_true p622
                          replace q622 := eq_true q622
                          go_wp2_with (first | ((with_reducible refine gate_callee (f := 72) rfl ?_); refine goesL_ (some 29) rfl rfl Try.func72 (by kernel_rfl) rfl #[.int .i64 (rd l0_0 a2), .int .i64 x7_1] rfl (by (try simp only [List.map_toArray, List.map_cons, List.map_nil]); first | done | rfl | (simp only [List.length_drop, List.length_take]; rfl)) ?_; (with_reducible refine (spec_poIn.calls (rd l0_0 a2) x7_1 true _ A13.out).mono ?_); rintro e w' ⟨rfl, ⟨nd, rfl⟩⟩; refine ⟨_, rfl, ?_⟩; have p624 : 0 ≤ (x7_1 : Int) := of_decide_eq_true (by first | (with_reducible assumption) | assumption); have q624 : x7_1 < (l0_0.length : Int) := of_decide_eq_true (by first | (with_reducible assumption) | assumption); obtain ⟨ad624, e624, hx624_0⟩ := Kd.at_int HR0_0.out x7_1 p624 q624; obtain rfl : ad620 = ad624 := (by injection e624); replace hx624_0 := (HB.out.cell (World.block_lt_of_cell? w _ hx624_0)).trans hx624_0; replace p624 := eq_true p624; replace q624 := eq_true q624) | (go_at_call 72; (with_reducible refine (spec_poIn.calls (rd l0_0 x7_1) a1 false _ A17.out).mono ?_); rintro e w' ⟨rfl, ⟨nd, rfl⟩⟩))
                          go_roundg k1
                          case measure => have := HK1.out; omega
                          case rel => exact ⟨(wrap64 (x7_1 + 1)), (by first | rfl | (simp; done) | (simp [*]; done)), H', ⟨by have := HK1.out; omega⟩, ⟨by (with_reducible repeat (first | refine blk_drewN ?_ _ | refine blk_drew ?_ | refine blk_alloc ?_ _)); exact BK619.out⟩, ⟨by repeat (first | (with_reducible first | exact HB.out | apply below_alloc | apply pw_below_drewN | apply below_drew1 | refine below_set ?_ GE619.out) | exact HB.out)⟩⟩
                      · rw [if_neg c16] at H
                        exact absurd H (by simp)
                    · rw [if_neg c15] at H
                      exact absurd H (by simp)
                  · replace c14 := Bool.eq_false_iff.mpr c14
                    subst c14
                    have H1 : (spec_poCovers.l0 k1 a1 a2 (wrap64 (x7_1 + 1)) l0_0) = some r := by rw [if_neg (show ¬ (false = true) by decide)] at H; exact H
                    clear H
                    have H := H1
                    clear H1
                    have H' := Aside0.mk H
                    clear H
                    have hcz21_0 : wr.cell? ⟨gb619, 0, none⟩ = some (.slice (some ad620) l0_0.length c0_0) := (blk_cell BK619.out 0).trans rfl
                    have hfz21_0 := blk_frozen BK619.out 0
                    have p622 : 0 ≤ (a2 : Int) := of_decide_eq_true (by first | (with_reducible assumption) | assumption)
                    have q622 : a2 < (l0_0.length : Int) := of_decide_eq_true (by first | (with_reducible assumption) | assumption)
                    obtain ⟨ad622, e622, hx622_0⟩ := Kd.at_int HR0_0.out a2 p622 q622
                    obtain rfl : ad620 = ad622 := (by injection e622)
                    replace hx622_0 := (HB.out.cell (World.block_lt_of_cell? w _ hx622_0)).trans hx622_0
                    replace p622 := eq_true p622
                    replace q622 := eq_true q622
                    go_wp2_with (first | ((with_reducible refine gate_callee (f := 72) rfl ?_); refine goesL_ (some 29) rfl rfl Try.func72 (by kernel_rfl) rfl #[.int .i64 (rd l0_0 a2), .int .i64 x7_1] rfl (by (try simp only [List.map_toArray, List.map_cons, List.map_nil]); first | done | rfl | (simp only [List.length_drop, List.length_take]; rfl)) ?_; (with_reducible refine (spec_poIn.calls (rd l0_0 a2) x7_1 false _ A13.out).mono ?_); rintro e w' ⟨rfl, ⟨nd, rfl⟩⟩; refine ⟨_, rfl, ?_⟩))
                    go_roundg k1
                    case measure => have := HK1.out; omega
                    case rel => exact ⟨(wrap64 (x7_1 + 1)), (by first | rfl | (simp; done) | (simp [*]; done)), H', ⟨by have := HK1.out; omega⟩, ⟨by (with_reducible repeat (first | refine blk_drewN ?_ _ | refine blk_drew ?_ | refine blk_alloc ?_ _)); exact BK619.out⟩, ⟨by repeat (first | (with_reducible first | exact HB.out | apply below_alloc | apply pw_below_drewN | apply below_drew1 | refine below_set ?_ GE619.out) | exact HB.out)⟩⟩
                · rw [if_neg c12] at H
                  exact absurd H (by simp)
              · rw [if_neg c11] at H
                exact absurd H (by simp)
            · rw [if_neg c10] at H
              have c10b0 : decide (x7_1 < a2) = false := decide_eq_false c10
              clear c10
              obtain rfl := Option.some.inj H
              go_wp2
              go_ret
              exact ⟨by first | rfl | (simp [errW_none, errW_some] <;> rfl) | (simp [*, errW_none, errW_some] <;> rfl), by repeat (first | (with_reducible first | exact HB.out | apply below_alloc | apply pw_below_drewN | apply below_drew1 | refine below_set ?_ GE619.out) | exact HB.out)⟩
      · replace c7 := Bool.eq_false_iff.mpr c7
        subst c7
        have H1 : (some false) = some r := by rw [if_neg (show ¬ (false = true) by decide)] at H; exact H
        clear H
        have H := H1
        clear H1
        obtain rfl := Option.some.inj H
        go_enter Try.func104, Try.ntmps104
        go_wp2_with (first | ((with_reducible refine gate_dst (N := 3) rfl ?_); refine box_event ?hg (N := 3) ?hd (cs := #[.slice A0_0 l0_0.length c0_0]) (t := 28) ?hr ?_; (case hd => rfl); (case hg => rfl); (case hr => first | (go_simp; done) | (go_simp; rfl)); intro gb619 hg w22 hbox hb; have n0_ := Aside0.mk (below_step (by repeat (first | (with_reducible first | exact HB.out | apply below_alloc | apply pw_below_drewN | apply below_drew1) | exact HB.out)) hb); have n1_ := Aside0.mk (hbox); have n2_ := Aside0.mk ((by rw [hg]; exact (below_size (by repeat (first | (with_reducible first | exact HB.out | apply below_alloc | apply pw_below_drewN | apply below_drew1) | exact HB.out))) : w.heap.size ≤ gb619)); have n3_ := Aside0.mk ((by rw [hg]; exact (below_size (by repeat (first | (with_reducible first | exact HB.out | apply below_alloc | apply pw_below_drewN | apply below_drew1) | exact HB.out))) : w.heap.size ≤ gb619)); clear HB; have HB := n0_; have BK619 := n1_; have GW619 := n2_; have GE619 := n3_; clear n0_ n1_ n2_ n3_; clear hb hbox hg; have hcz23_0 : w22.cell? ⟨gb619, 0, none⟩ = some (.slice A0_0 l0_0.length c0_0) := (blk_cell BK619.out 0).trans rfl; have hfz23_0 := blk_frozen BK619.out 0; have p620 : 0 ≤ (a2 : Int) := of_decide_eq_true (by first | (with_reducible assumption) | assumption); have q620 : a2 < (l0_0.length : Int) := of_decide_eq_true (by first | (with_reducible assumption) | assumption); obtain ⟨ad620, e620, hx620_0⟩ := Kd.at_int HR0_0.out a2 p620 q620; cases e620; replace hx620_0 := (HB.out.cell (World.block_lt_of_cell? w _ hx620_0)).trans hx620_0; replace p620 := eq_true p620; replace q620 := eq_true q620) | ((with_reducible refine gate_callee (f := 72) rfl ?_); refine goesL_ (some 14) rfl rfl Try.func72 (by kernel_rfl) rfl #[.int .i64 (rd l0_0 a2), .int .i64 a1] rfl (by (try simp only [List.map_toArray, List.map_cons, List.map_nil]); first | done | rfl | (simp only [List.length_drop, List.length_take]; rfl)) ?_; (with_reducible refine (spec_poIn.calls (rd l0_0 a2) a1 false _ A6.out).mono ?_); rintro e w' ⟨rfl, ⟨nd, rfl⟩⟩; refine ⟨_, rfl, ?_⟩))
        go_ret
        exact ⟨by first | rfl | (simp [errW_none, errW_some] <;> rfl) | (simp [*, errW_none, errW_some] <;> rfl), by repeat (first | (with_reducible first | exact HB.out | apply below_alloc | apply pw_below_drewN | apply below_drew1 | refine below_set ?_ GE619.out) | exact HB.out)⟩
    · rw [if_neg c5] at H
      exact absurd H (by simp)
  · rw [if_neg c4] at H
    exact absurd H (by simp)

end Go.Proofs.Ytjahclncpgllmaa.F
end

section
namespace Go.Proofs.Ytjahclncpgllmaa.F
open Go.RowKit Go.Proofs.YtjahclncpgllmaaW.PrintWords Go.Proofs.YtjahclncpgllmaaW.PrintLast Go.Proofs.YtjahclncpgllmaaW.PrintMore
attribute [local go_sem] max2_int min2_int max_two min_two max_three min_three max_four min_four
set_option linter.unusedVariables false
set_option linter.unusedSimpArgs false

/-! ### spec_liCovers: function 75 -/
def spec_liCovers.l0 : Nat → Int → List Int → Int → Int → List Int → Option (List Int)
  | 0, _, _, _, _, _ => none
  | k + 1, x1, x5, x9, x10, x627000 => if x10 < x9 then ((spec_poCovers.f k x627000 x1 x10).bind fun t627 => (if t627 = true then (if x5.length < 17592186044416 then (spec_liCovers.l0 k x1 (x5 ++ [x10]) x9 (wrap64 (x10 + 1)) x627000) else (none)) else (spec_liCovers.l0 k x1 x5 x9 (wrap64 (x10 + 1)) x627000))) else (some x5)
def spec_liCovers.f (k : Nat) (l0_0 : List Int) (a1 : Int) : Option (List Int) := spec_liCovers.l0 k a1 ([] : List Int) (l0_0.length : Int) 0 l0_0
theorem spec_liCovers.mono_l : ∀ k, (∀ y0 y1 y2 y3 y4, LeO (spec_liCovers.l0 k y0 y1 y2 y3 y4) (spec_liCovers.l0 (k + 1) y0 y1 y2 y3 y4))
  | 0 => fun _ _ _ _ _ r h => by simp [spec_liCovers.l0] at h
  | k + 1 => by
    have ih0 := spec_liCovers.mono_l k
    · intro y0 y1 y2 y3 y4
      unfold spec_liCovers.l0
      repeat' first
      | (with_reducible exact ih0 _ _ _ _ _)
      | (with_reducible exact spec_poCovers.mono _ _ _ _)
      | (with_reducible exact LeO.refl _)
      | (with_reducible exact LeO.none _)
      | (with_reducible refine LeO.ite ?_ ?_)
      | (with_reducible refine LeO.bind ?_ (fun _ => ?_))
      | exact ih0 _ _ _ _ _
      | exact spec_poCovers.mono _ _ _ _
      | exact LeO.none _
      | refine LeO.ite ?_ ?_
      | refine LeO.bind ?_ (fun _ => ?_)
theorem spec_liCovers.mono : ∀ a0 a1 k, LeO (spec_liCovers.f k a0 a1) (spec_liCovers.f (k + 1) a0 a1) := by
  intro a0 a1 k
  have ih0 := spec_liCovers.mono_l k
  unfold spec_liCovers.f
  repeat' first
      | (with_reducible exact ih0 _ _ _ _ _)
      | (with_reducible exact spec_poCovers.mono _ _ _ _)
      | (with_reducible exact LeO.refl _)
      | (with_reducible exact LeO.none _)
      | (with_reducible refine LeO.ite ?_ ?_)
      | (with_reducible refine LeO.bind ?_ (fun _ => ?_))
      | exact ih0 _ _ _ _ _
      | exact spec_poCovers.mono _ _ _ _
      | exact LeO.none _
      | refine LeO.ite ?_ ?_
      | refine LeO.bind ?_ (fun _ => ?_)
set_option maxHeartbeats 8000000 in
set_option maxRecDepth 100000 in
theorem spec_liCovers.calls (k : Nat) (A0_0 : Option Addr) (c0_0 : Nat) (l0_0 : List Int) (a1 : Int) (r : List Int) (w : World) (hr0_0 : Kd.C (Kd.int .i64) w A0_0 l0_0.length l0_0) (hc0_0 : l0_0.length ≤ c0_0) (h : spec_liCovers.f k l0_0 a1 = some r) :
    Calls Try.prog 75 #[.agg #[.slice A0_0 l0_0.length c0_0], .int .i64 a1] w fun e w' => ∃ v0_ : Value, e = .returned (v0_) ∧ Kd.R (Kd.int .i64) 3 w' w.heap.size (fun _ => True) v0_ r ∧ Below w.heap.size w w' := by
  have hu28 := Try.underlying28
  have HR0_0 := Aside0.mk hr0_0
  have HC0_0 := Aside0.mk hc0_0
  clear hr0_0 hc0_0
  have HB := Aside0.mk (Below.refl w.heap.size w)
  have H : (spec_liCovers.l0 k a1 ([] : List Int) (l0_0.length : Int) 0 l0_0) = some r := h
  clear h
  have H' := Aside0.mk H
  clear H
  go_enter Try.func75, Try.ntmps75
  go_wp2_with (first | ((with_reducible refine gate_dst (N := 2) rfl ?_); refine box_event ?hg (N := 2) ?hd (cs := #[.slice A0_0 l0_0.length c0_0]) (t := 28) ?hr ?_; (case hd => rfl); (case hg => rfl); (case hr => first | (go_simp; done) | (go_simp; rfl)); intro gb626 hg w3 hbox hb; have n0_ := Aside0.mk (below_step (by repeat (first | (with_reducible first | exact HB.out | apply below_alloc | apply pw_below_drewN | apply below_drew1) | exact HB.out)) hb); have n1_ := Aside0.mk (hbox); have n2_ := Aside0.mk ((by rw [hg]; exact (below_size (by repeat (first | (with_reducible first | exact HB.out | apply below_alloc | apply pw_below_drewN | apply below_drew1) | exact HB.out))) : w.heap.size ≤ gb626)); have n3_ := Aside0.mk ((by rw [hg]; exact (below_size (by repeat (first | (with_reducible first | exact HB.out | apply below_alloc | apply pw_below_drewN | apply below_drew1) | exact HB.out))) : w.heap.size ≤ gb626)); clear HB; have HB := n0_; have BK626 := n1_; have GW626 := n2_; have GE626 := n3_; clear n0_ n1_ n2_ n3_; clear hb hbox hg; have hcz4_0 : w3.cell? ⟨gb626, 0, none⟩ = some (.slice A0_0 l0_0.length c0_0) := (blk_cell BK626.out 0).trans rfl; have hfz4_0 := blk_frozen BK626.out 0))
  go_loopg [5, 10] k (fun kq v5 v10 w' => ∃ (x5_1 : List Int) (x10_1 : Int), v10 = .int .i64 x10_1 ∧ Aside0 (spec_liCovers.l0 kq a1 x5_1 (l0_0.length : Int) x10_1 l0_0 = some r) ∧ Aside0 (kq ≤ k) ∧ Aside0 (Kd.R (Kd.int .i64) 3 w' w.heap.size (fun _ => True) v5 x5_1) ∧ Aside0 (w'.heap[gb626]? = some (.cells #[(.slice A0_0 l0_0.length c0_0)] 28 (0, 0))) ∧ Aside0 (Below w.heap.size w w'))
  case atStart => exact ⟨(([] : List Int)), (0), (by first | rfl | (simp; done) | (simp [*]; done)), H', ⟨Nat.le_refl _⟩, ⟨by first | exact Kd.R_nil _ _ _ _ _ | exact Kd.N_nil _ _ _ _ _ | exact Kd.V_nil _ _ _ _ _ | exact Kd.Q_nil _ _ _ _ _ | exact Kd.S_nil _ _ _ _ _⟩, ⟨by (with_reducible repeat (first | refine blk_drewN ?_ _ | refine blk_drew ?_ | refine blk_alloc ?_ _)); exact BK626.out⟩, ⟨by repeat (first | (with_reducible first | exact HB.out | apply below_alloc | apply pw_below_drewN | apply below_drew1 | refine below_set ?_ GE626.out) | exact HB.out)⟩⟩
  case round =>
    clear H'
    try clear p2
    try clear hcz4_0
    try clear hfz4_0
    obtain ⟨x5_1, x10_1, rfl, HA, HK1, HO_5, BK626, HB⟩ := hrel
    cases gk with
    | zero => exact absurd HA.out (by simp [spec_liCovers.l0])
    | succ k1 =>
      have H := HA.out
      clear HA
      simp only [spec_liCovers.l0] at H
      by_cases c5 : x10_1 < (l0_0.length : Int)
      · rw [if_pos c5] at H
        have c5b0 : decide (x10_1 < (l0_0.length : Int)) = true := decide_eq_true c5
        clear c5
        replace H := Option.bind_eq_some_iff.mp H
        obtain ⟨t627, A60, H⟩ := H
        replace H : (if t627 = true then (if x5_1.length < 17592186044416 then (spec_liCovers.l0 k1 a1 (x5_1 ++ [x10_1]) (l0_0.length : Int) (wrap64 (x10_1 + 1)) l0_0) else (none)) else (spec_liCovers.l0 k1 a1 x5_1 (l0_0.length : Int) (wrap64 (x10_1 + 1)) l0_0)) = some r := H
        have A6 := Aside0.mk A60
        clear A60
        by_cases c7 : t627 = true
        · subst c7
          have H1 : (if x5_1.length < 17592186044416 then (spec_liCovers.l0 k1 a1 (x5_1 ++ [x10_1]) (l0_0.length : Int) (wrap64 (x10_1 + 1)) l0_0) else (none)) = some r := by rw [if_pos rfl] at H; exact H
          clear H
          have H := H1
          clear H1
          by_cases c8 : x5_1.length < 17592186044416
          · rw [if_pos c8] at H
            have LMc8 := Aside0.mk c8
            clear c8
            obtain ⟨y628, hy628⟩ : ∃ y_ : List Int, y_ = (x5_1 ++ [x10_1]) := ⟨_, rfl⟩
            replace H : (spec_liCovers.l0 k1 a1 y628 (l0_0.length : Int) (wrap64 (x10_1 + 1)) l0_0) = some r := by first | (rw [hy628]; with_reducible exact H) | (have H2_ := (Option.bind_some _ _).symm.trans H; rw [hy628]; with_reducible exact H2_) | (have H2_ := (Option.bind_some _ _).symm.trans H; with_reducible exact H2_) | with_reducible exact H | (rw [hy628]; exact H) | exact H
            have Ny628 := Aside0.mk hy628
            clear hy628
            have H' := Aside0.mk H
            clear H
            have hcz9_0 : wr.cell? ⟨gb626, 0, none⟩ = some (.slice A0_0 l0_0.length c0_0) := (blk_cell BK626.out 0).trans rfl
            have hfz9_0 := blk_frozen BK626.out 0
            go_wp2_with (first | ((with_reducible refine gate_callee (f := 104) rfl ?_); refine goesL_ (some 16) rfl rfl Try.func104 (by kernel_rfl) rfl #[.agg #[.slice A0_0 l0_0.length c0_0], .int .i64 a1, .int .i64 x10_1] rfl (by (try simp only [List.map_toArray, List.map_cons, List.map_nil]); first | done | rfl | (simp only [List.length_drop, List.length_take]; rfl)) ?_; (with_reducible refine (spec_poCovers.calls k1 _ _ l0_0 a1 x10_1 true _ ?side1 ?side2 A6.out).mono ?_); (case side1 => repeat (first | exact (Kd.C_below HR0_0.out HB.out) | (with_reducible refine Kd.C_alloc ?_ _) | (with_reducible refine Kd.C_drewN ?_ _) | (with_reducible refine Kd.C_drew ?_))); (case side2 => exact HC0_0.out); rintro e w10 ⟨rfl, hb⟩; refine ⟨_, rfl, ?_⟩; have n0_ := Aside0.mk (Kd.R_below (by (with_reducible repeat (first | apply Kd.R_alloc | apply Kd.R_drewN | apply Kd.R_drew)); exact HO_5.out) hb); have n1_ := Aside0.mk (blk_below (g := gb626) (o := .cells #[.slice A0_0 l0_0.length c0_0] 28 (0, 0)) (by (with_reducible repeat (first | refine blk_drewN ?_ _ | refine blk_drew ?_ | refine blk_alloc ?_ _)); exact BK626.out) hb); have n2_ := Aside0.mk (below_step (by repeat (first | (with_reducible first | exact HB.out | apply below_alloc | apply pw_below_drewN | apply below_drew1 | refine below_set ?_ GE626.out) | exact HB.out)) hb); clear HO_5; clear BK626; clear HB; have HO_5 := n0_; have BK626 := n1_; have HB := n2_; clear n0_ n1_ n2_; (try clear hb); (try clear hb2); (try clear hk); (try clear hi)) | ((with_reducible refine gate_builtin (b := .append) (xs := #[.tmp 17, .tmp 19]) rfl ?_); at_builtin; refine Kd.R_append (Kd.int .i64) (w0 := w) w.heap.size rfl (.tmp 17) (.tmp 19) 22 3 (.int .i64 0) 8 rfl Try.underlying22 info3 rfl (by decide) (by omega) u5 x5_1 x10_1 [.int .i64 x10_1] (fun _ => True) (fun _ => False) rfl rfl ?aP (fun _ hk => hk.elim) ?aF ?aO ?aB ?aS ?aL ?_; (case aP => exact rfl); (case aB => exact (by repeat (first | (with_reducible first | exact HB.out | apply below_alloc | apply pw_below_drewN | apply below_drew1 | refine below_set ?_ GE626.out) | exact HB.out))); (case aF => exact (fun _ _ => trivial)); (case aO => exact (by (with_reducible repeat (first | apply Kd.R_alloc | apply Kd.R_drewN | apply Kd.R_drew)); exact HO_5.out)); (case aS => exact (below_size (by repeat (first | (with_reducible first | exact HB.out | apply below_alloc | apply pw_below_drewN | apply below_drew1 | refine below_set ?_ GE626.out) | exact HB.out)))); (case aL => have := LMc8.out; omega); intro v629 w11 ho hb hg hat; rw [← Ny628.out] at ho; have n0_ := Aside0.mk (blk_grown (g := gb626) (o := .cells #[.slice A0_0 l0_0.length c0_0] 28 (0, 0)) (by (with_reducible repeat (first | refine blk_drewN ?_ _ | refine blk_drew ?_ | refine blk_alloc ?_ _)); exact BK626.out) hg (Kd.R_ne HO_5.out BK626.out (by decide))); have n1_ := Aside0.mk (hb); have n2_ := Aside0.mk (ho); clear BK626; clear HB; clear HO_5; have BK626 := n0_; have HB := n1_; have HO630 := n2_; clear n0_ n1_ n2_; clear ho hb hg hat))
            go_roundg k1
            case measure => have := HK1.out; omega
            case rel => exact ⟨(y628), (wrap64 (x10_1 + 1)), (by first | rfl | (simp; done) | (simp [*]; done)), H', ⟨by have := HK1.out; omega⟩, ⟨by (with_reducible repeat (first | apply Kd.R_alloc | apply Kd.R_drewN | apply Kd.R_drew)); exact HO630.out⟩, ⟨by (with_reducible repeat (first | refine blk_drewN ?_ _ | refine blk_drew ?_ | refine blk_alloc ?_ _)); exact BK626.out⟩, ⟨by repeat (first | (with_reducible first | exact HB.out | apply below_alloc | apply pw_below_drewN | apply below_drew1 | refine below_set ?_ GE626.out) | exact HB.out)⟩⟩
          · rw [if_neg c8] at H
            exact absurd H (by simp)
        · replace c7 := Bool.eq_false_iff.mpr c7
          subst c7
          have H1 : (spec_liCovers.l0 k1 a1 x5_1 (l0_0.length : Int) (wrap64 (x10_1 + 1)) l0_0) = some r := by rw [if_neg (show ¬ (false = true) by decide)] at H; exact H
          clear H
          have H := H1
          clear H1
          have H' := Aside0.mk H
          clear H
          have hcz12_0 : wr.cell? ⟨gb626, 0, none⟩ = some (.slice A0_0 l0_0.length c0_0) := (blk_cell BK626.out 0).trans rfl
          have hfz12_0 := blk_frozen BK626.out 0
          go_wp2_with (first | ((with_reducible refine gate_callee (f := 104) rfl ?_); refine goesL_ (some 16) rfl rfl Try.func104 (by kernel_rfl) rfl #[.agg #[.slice A0_0 l0_0.length c0_0], .int .i64 a1, .int .i64 x10_1] rfl (by (try simp only [List.map_toArray, List.map_cons, List.map_nil]); first | done | rfl | (simp only [List.length_drop, List.length_take]; rfl)) ?_; (with_reducible refine (spec_poCovers.calls k1 _ _ l0_0 a1 x10_1 false _ ?side1 ?side2 A6.out).mono ?_); (case side1 => repeat (first | exact (Kd.C_below HR0_0.out HB.out) | (with_reducible refine Kd.C_alloc ?_ _) | (with_reducible refine Kd.C_drewN ?_ _) | (with_reducible refine Kd.C_drew ?_))); (case side2 => exact HC0_0.out); rintro e w13 ⟨rfl, hb⟩; refine ⟨_, rfl, ?_⟩; have n0_ := Aside0.mk (Kd.R_below (by (with_reducible repeat (first | apply Kd.R_alloc | apply Kd.R_drewN | apply Kd.R_drew)); exact HO_5.out) hb); have n1_ := Aside0.mk (blk_below (g := gb626) (o := .cells #[.slice A0_0 l0_0.length c0_0] 28 (0, 0)) (by (with_reducible repeat (first | refine blk_drewN ?_ _ | refine blk_drew ?_ | refine blk_alloc ?_ _)); exact BK626.out) hb); have n2_ := Aside0.mk (below_step (by repeat (first | (with_reducible first | exact HB.out | apply below_alloc | apply pw_below_drewN | apply below_drew1 | refine below_set ?_ GE626.out) | exact HB.out)) hb); clear HO_5; clear BK626; clear HB; have HO_5 := n0_; have BK626 := n1_; have HB := n2_; clear n0_ n1_ n2_; (try clear hb); (try clear hb2); (try clear hk); (try clear hi)))
          go_roundg k1
          case measure => have := HK1.out; omega
          case rel => exact ⟨(x5_1), (wrap64 (x10_1 + 1)), (by first | rfl | (simp; done) | (simp [*]; done)), H', ⟨by have := HK1.out; omega⟩, ⟨by (with_reducible repeat (first | apply Kd.R_alloc | apply Kd.R_drewN | apply Kd.R_drew)); exact HO_5.out⟩, ⟨by (with_reducible repeat (first | refine blk_drewN ?_ _ | refine blk_drew ?_ | refine blk_alloc ?_ _)); exact BK626.out⟩, ⟨by repeat (first | (with_reducible first | exact HB.out | apply below_alloc | apply pw_below_drewN | apply below_drew1 | refine below_set ?_ GE626.out) | exact HB.out)⟩⟩
      · rw [if_neg c5] at H
        have c5b0 : decide (x10_1 < (l0_0.length : Int)) = false := decide_eq_false c5
        clear c5
        obtain rfl := Option.some.inj H
        go_wp2
        go_ret
        exact ⟨_, by first | rfl | (simp [errW_none, errW_some] <;> rfl) | (simp [*, errW_none, errW_some] <;> rfl), by (with_reducible repeat (first | apply Kd.R_alloc | apply Kd.R_drewN | apply Kd.R_drew)); exact HO_5.out, by repeat (first | (with_reducible first | exact HB.out | apply below_alloc | apply pw_below_drewN | apply below_drew1 | refine below_set ?_ GE626.out) | exact HB.out)⟩

end Go.Proofs.Ytjahclncpgllmaa.F
end

section
namespace Go.Proofs.Ytjahclncpgllmaa.F
open Go.RowKit Go.Proofs.YtjahclncpgllmaaW.PrintWords Go.Proofs.YtjahclncpgllmaaW.PrintLast Go.Proofs.YtjahclncpgllmaaW.PrintMore
attribute [local go_sem] max2_int min2_int max_two min_two max_three min_three max_four min_four
set_option linter.unusedVariables false
set_option linter.unusedSimpArgs false

/-! ### spec_SlideOf: function 38 -/
mutual
def spec_SlideOf.l0 : Nat → List Int → List Int → List Int → List Int → Option (List Int × Bool)
  | 0, _, _, _, _ => none
  | k + 1, x1, x6, x7, x633000 => if (x7.length : Int) > 0 then (spec_SlideOf.l1 k x1 x6 x7 x1 (x1.length : Int) 0 x633000) else (some (x6, true))
def spec_SlideOf.l1 : Nat → List Int → List Int → List Int → List Int → Int → Int → List Int → Option (List Int × Bool)
  | 0, _, _, _, _, _, _, _ => none
  | k + 1, x1, x6, x7, x34, x35, x36, x633000 => if x36 < x35 then (if 0 ≤ x36 then (if x36 < (x34.length : Int) then ((spec_l1Has.f k x7 (rd x34 x36)).bind fun t643 => (if t643 = true then (if x6.length < 17592186044416 then ((some (x6 ++ [rd x34 x36] : List Int)).bind fun y644 => (if 0 ≤ (wrap64 ((y644.length : Int) - 1)) then (if (wrap64 ((y644.length : Int) - 1)) < (y644.length : Int) then ((spec_liCovers.f k x633000 (rd y644 (wrap64 ((y644.length : Int) - 1)))).bind fun t648 => (spec_SlideOf.l0 k x1 y644 t648 x633000)) else (none)) else (none))) else (none)) else (spec_SlideOf.l1 k x1 x6 x7 x34 x35 (wrap64 (x36 + 1)) x633000))) else (none)) else (none)) else (if 0 ≤ (wrap64 ((x6.length : Int) - 1)) then (if (wrap64 ((x6.length : Int) - 1)) < (x6.length : Int) then ((spec_liCovers.f k x633000 (rd x6 (wrap64 ((x6.length : Int) - 1)))).bind fun t652 => (spec_SlideOf.l0 k x1 x6 t652 x633000)) else (none)) else (none))
end
def spec_SlideOf.f (k : Nat) (l0_0 : List Int) (l1 : List Int) : Option (List Int × Bool) := (spec_liGiven.f k l0_0 l1).bind fun t633 => (if t633 = true then (if 0 < (l1.length : Int) then ((spec_liCovers.f k l0_0 (rd l1 0)).bind fun t639 => (spec_SlideOf.l0 k l1 (([rd l1 0] : List Int)) t639 l0_0)) else (none)) else (some (([] : List Int), false)))
theorem spec_SlideOf.mono_l : ∀ k, (∀ y0 y1 y2 y3, LeO (spec_SlideOf.l0 k y0 y1 y2 y3) (spec_SlideOf.l0 (k + 1) y0 y1 y2 y3)) ∧ (∀ y0 y1 y2 y3 y4 y5 y6, LeO (spec_SlideOf.l1 k y0 y1 y2 y3 y4 y5 y6) (spec_SlideOf.l1 (k + 1) y0 y1 y2 y3 y4 y5 y6))
  | 0 => ⟨fun _ _ _ _ r h => by simp [spec_SlideOf.l0] at h, fun _ _ _ _ _ _ _ r h => by simp [spec_SlideOf.l1] at h⟩
  | k + 1 => by
    obtain ⟨ih0, ih1⟩ := spec_SlideOf.mono_l k
    refine ⟨?_, ?_⟩
    · intro y0 y1 y2 y3
      unfold spec_SlideOf.l0
      repeat' first
      | (with_reducible exact ih0 _ _ _ _)
      | (with_reducible exact ih1 _ _ _ _ _ _ _)
      | (with_reducible exact spec_l1Has.mono _ _ _)
      | (with_reducible exact spec_liCovers.mono _ _ _)
      | (with_reducible exact spec_liGiven.mono _ _ _)
      | (with_reducible exact LeO.refl _)
      | (with_reducible exact LeO.none _)
      | (with_reducible refine LeO.ite ?_ ?_)
      | (with_reducible refine LeO.bind ?_ (fun _ => ?_))
      | exact ih0 _ _ _ _
      | exact ih1 _ _ _ _ _ _ _
      | exact spec_l1Has.mono _ _ _
      | exact spec_liCovers.mono _ _ _
      | exact spec_liGiven.mono _ _ _
      | exact LeO.none _
      | refine LeO.ite ?_ ?_
      | refine LeO.bind ?_ (fun _ => ?_)
    · intro y0 y1 y2 y3 y4 y5 y6
      unfold spec_SlideOf.l1
      repeat' first
      | (with_reducible exact ih0 _ _ _ _)
      | (with_reducible exact ih1 _ _ _ _ _ _ _)
      | (with_reducible exact spec_l1Has.mono _ _ _)
      | (with_reducible exact spec_liCovers.mono _ _ _)
      | (with_reducible exact spec_liGiven.mono _ _ _)
      | (with_reducible exact LeO.refl _)
      | (with_reducible exact LeO.none _)
      | (with_reducible refine LeO.ite ?_ ?_)
      | (with_reducible refine LeO.bind ?_ (fun _ => ?_))
      | exact ih0 _ _ _ _
      | exact ih1 _ _ _ _ _ _ _
      | exact spec_l1Has.mono _ _ _
      | exact spec_liCovers.mono _ _ _
      | exact spec_liGiven.mono _ _ _
      | exact LeO.none _
      | refine LeO.ite ?_ ?_
      | refine LeO.bind ?_ (fun _ => ?_)
theorem spec_SlideOf.mono : ∀ a0 a1 k, LeO (spec_SlideOf.f k a0 a1) (spec_SlideOf.f (k + 1) a0 a1) := by
  intro a0 a1 k
  obtain ⟨ih0, ih1⟩ := spec_SlideOf.mono_l k
  unfold spec_SlideOf.f
  repeat' first
      | (with_reducible exact ih0 _ _ _ _)
      | (with_reducible exact ih1 _ _ _ _ _ _ _)
      | (with_reducible exact spec_l1Has.mono _ _ _)
      | (with_reducible exact spec_liCovers.mono _ _ _)
      | (with_reducible exact spec_liGiven.mono _ _ _)
      | (with_reducible exact LeO.refl _)
      | (with_reducible exact LeO.none _)
      | (with_reducible refine LeO.ite ?_ ?_)
      | (with_reducible refine LeO.bind ?_ (fun _ => ?_))
      | exact ih0 _ _ _ _
      | exact ih1 _ _ _ _ _ _ _
      | exact spec_l1Has.mono _ _ _
      | exact spec_liCovers.mono _ _ _
      | exact spec_liGiven.mono _ _ _
      | exact LeO.none _
      | refine LeO.ite ?_ ?_
      | refine LeO.bind ?_ (fun _ => ?_)
def spec_SlideOf.T6 : Bool × List (List Nat × List Nat) := (true, [([], []), ([], []), ([], []), ([2], [2]), ([3], [3]), ([1, 4], [1, 4]), ([5], [5]), ([0, 6], [0, 6]), ([7, 7, 0, 1, 2, 3, 4, 5, 6, 7], [7])])
def spec_SlideOf.B6 : List Nat := [0, 0, 0, 4, 12, 30, 62, 127, 255]
theorem spec_SlideOf.tab6 : rtab .any (opsOf Try.f38 6) = spec_SlideOf.T6 := by kernel_rfl
theorem spec_SlideOf.bits6 : waitsOk spec_SlideOf.T6.2 spec_SlideOf.B6 = true := by kernel_rfl
set_option maxHeartbeats 8000000 in
set_option maxRecDepth 100000 in
theorem spec_SlideOf.calls (k : Nat) (A0_0 : Option Addr) (c0_0 : Nat) (l0_0 : List Int) (A1 : Option Addr) (c1 : Nat) (l1 : List Int) (r1 : List Int) (r2 : Bool) (w : World) (hr0_0 : Kd.C (Kd.int .i64) w A0_0 l0_0.length l0_0) (hc0_0 : l0_0.length ≤ c0_0) (hr1 : Kd.C (Kd.int .i64) w A1 l1.length l1) (hc1 : l1.length ≤ c1) (h : spec_SlideOf.f k l0_0 l1 = some (r1, r2)) :
    Calls Try.prog 38 #[.agg #[.slice A0_0 l0_0.length c0_0], .slice A1 l1.length c1] w fun e w' => ∃ v0_ : Value, e = .returned (.tuple #[v0_, .bool r2]) ∧ Kd.R (Kd.int .i64) 3 w' w.heap.size (fun _ => True) v0_ r1 ∧ Below w.heap.size w w' := by
  have hu28 := Try.underlying28
  have HR0_0 := Aside0.mk hr0_0
  have HC0_0 := Aside0.mk hc0_0
  clear hr0_0 hc0_0
  have HR1 := Aside0.mk hr1
  have HC1 := Aside0.mk hc1
  clear hr1 hc1
  have HB := Aside0.mk (Below.refl w.heap.size w)
  have H : ((spec_liGiven.f k l0_0 l1).bind fun t633 => (if t633 = true then (if 0 < (l1.length : Int) then ((spec_liCovers.f k l0_0 (rd l1 0)).bind fun t639 => (spec_SlideOf.l0 k l1 (([rd l1 0] : List Int)) t639 l0_0)) else (none)) else (some (([] : List Int), false)))) = some (r1, r2) := h
  clear h
  replace H := Option.bind_eq_some_iff.mp H
  obtain ⟨t633, A30, H⟩ := H
  replace H : (if t633 = true then (if 0 < (l1.length : Int) then ((spec_liCovers.f k l0_0 (rd l1 0)).bind fun t639 => (spec_SlideOf.l0 k l1 (([rd l1 0] : List Int)) t639 l0_0)) else (none)) else (some (([] : List Int), false))) = some (r1, r2) := H
  have A3 := Aside0.mk A30
  clear A30
  by_cases c4 : t633 = true
  · subst c4
    have H1 : (if 0 < (l1.length : Int) then ((spec_liCovers.f k l0_0 (rd l1 0)).bind fun t639 => (spec_SlideOf.l0 k l1 (([rd l1 0] : List Int)) t639 l0_0)) else (none)) = some (r1, r2) := by rw [if_pos rfl] at H; exact H
    clear H
    have H := H1
    clear H1
    by_cases c5 : 0 < (l1.length : Int)
    · rw [if_pos c5] at H
      have c5b0 : decide (0 < (l1.length : Int)) = true := decide_eq_true c5
      have c5b1 : decide (0 < l1.length) = true := decide_eq_true (by omega)
      clear c5
      obtain ⟨y635, hy635⟩ : ∃ y_ : List Int, y_ = (([rd l1 0] : List Int)) := ⟨_, rfl⟩
      replace H : ((spec_liCovers.f k l0_0 (rd l1 0)).bind fun t639 => (spec_SlideOf.l0 k l1 y635 t639 l0_0)) = some (r1, r2) := by first | (rw [hy635]; with_reducible exact H) | (have H2_ := (Option.bind_some _ _).symm.trans H; rw [hy635]; with_reducible exact H2_) | (have H2_ := (Option.bind_some _ _).symm.trans H; with_reducible exact H2_) | with_reducible exact H | (rw [hy635]; exact H) | exact H
      have Ny635 := Aside0.mk hy635
      clear hy635
      replace H := Option.bind_eq_some_iff.mp H
      obtain ⟨t639, A60, H⟩ := H
      replace H : (spec_SlideOf.l0 k l1 y635 t639 l0_0) = some (r1, r2) := H
      have A6 := Aside0.mk A60
      clear A60
      have H' := Aside0.mk H
      clear H
      go_enter Try.func38, Try.ntmps38
      try go_wp2_with (first | ((with_reducible refine gate_dst (N := 2) rfl ?_); refine box_event ?hg (N := 2) ?hd (cs := #[.slice A0_0 l0_0.length c0_0]) (t := 28) ?hr ?_; (case hd => rfl); (case hg => rfl); (case hr => first | (go_simp; done) | (go_simp; rfl)); intro gb632 hg w7 hbox hb; have n0_ := Aside0.mk (below_step (by repeat (first | (with_reducible first | exact HB.out | apply below_alloc | apply pw_below_drewN | apply below_drew1) | exact HB.out)) hb); have n1_ := Aside0.mk (hbox); have n2_ := Aside0.mk ((by rw [hg]; exact (below_size (by repeat (first | (with_reducible first | exact HB.out | apply below_alloc | apply pw_below_drewN | apply below_drew1) | exact HB.out))) : w.heap.size ≤ gb632)); have n3_ := Aside0.mk ((by rw [hg]; exact (below_size (by repeat (first | (with_reducible first | exact HB.out | apply below_alloc | apply pw_below_drewN | apply below_drew1) | exact HB.out))) : w.heap.size ≤ gb632)); clear HB; have HB := n0_; have BK632 := n1_; have GW632 := n2_; have GE632 := n3_; clear n0_ n1_ n2_ n3_; clear hb hbox hg; have hcz8_0 : w7.cell? ⟨gb632, 0, none⟩ = some (.slice A0_0 l0_0.length c0_0) := (blk_cell BK632.out 0).trans rfl; have hfz8_0 := blk_frozen BK632.out 0) | ((with_reducible refine gate_callee (f := 53) rfl ?_); refine goesL_ (some 12) rfl rfl Try.func53 (by kernel_rfl) rfl #[.agg #[.slice A0_0 l0_0.length c0_0], .slice A1 l1.length c1] rfl (by (try simp only [List.map_toArray, List.map_cons, List.map_nil]); first | done | rfl | (simp only [List.length_drop, List.length_take]; rfl)) ?_; (with_reducible refine (spec_liGiven.calls k _ _ l0_0 _ _ l1 true _ ?side1 ?side2 ?side3 ?side4 A3.out).mono ?_); (case side1 => repeat (first | exact (Kd.C_below HR0_0.out HB.out) | (with_reducible refine Kd.C_alloc ?_ _) | (with_reducible refine Kd.C_drewN ?_ _) | (with_reducible refine Kd.C_drew ?_))); (case side2 => exact HC0_0.out); (case side3 => repeat (first | exact (Kd.C_below HR1.out HB.out) | (with_reducible refine Kd.C_alloc ?_ _) | (with_reducible refine Kd.C_drewN ?_ _) | (with_reducible refine Kd.C_drew ?_))); (case side4 => exact HC1.out); rintro e w9 ⟨rfl, hb⟩; refine ⟨_, rfl, ?_⟩; have n0_ := Aside0.mk (blk_below (g := gb632) (o := .cells #[.slice A0_0 l0_0.length c0_0] 28 (0, 0)) (by (with_reducible repeat (first | refine blk_drewN ?_ _ | refine blk_drew ?_ | refine blk_alloc ?_ _)); exact BK632.out) hb); have n1_ := Aside0.mk (below_step (by repeat (first | (with_reducible first | exact HB.out | apply below_alloc | apply pw_below_drewN | apply below_drew1 | refine below_set ?_ GE632.out) | exact HB.out)) hb); clear BK632; clear HB; have BK632 := n0_; have HB := n1_; clear n0_ n1_; (try clear hb); (try clear hb2); (try clear hk); (try clear hi); have p634 : 0 ≤ (0 : Int) := (by omega); have q634 : 0 < (l1.length : Int) := of_decide_eq_true (by first | (with_reducible assumption) | assumption); obtain ⟨ad634, e634, hx634_0⟩ := Kd.at_int HR1.out 0 p634 q634; cases e634; have qi634 : (0 < l1.length) = True := eq_true (by omega); (try rw [show ((0 : Int)).toNat = 0 from rfl] at hx634_0); (try rw [Addr.add_zero'] at hx634_0); replace hx634_0 := (HB.out.cell (World.block_lt_of_cell? w _ hx634_0)).trans hx634_0; replace p634 := eq_true p634; replace q634 := eq_true q634) | ((with_reducible refine gate_dst (N := 17) rfl ?_); refine Kd.R_lit (Kd.int .i64) _ 3 ?hg (N := 17) ?hd (xs := ([rd l1 0] : List Int)) (inner := [.int .i64 (rd l1 0)]) (ok := fun _ => True) (okp := fun _ => True) ?hr ?hp (fun _ hk => hk) trivial (Below.refl _ _) (Nat.le_refl _) (by simp) ?_; (case hd => rfl); (case hg => rfl); (case hr => first | (go_simp; done) | (go_simp; rfl)); (case hp => exact (Reps.one (show Kd.M (Kd.int .i64) _ _ _ (rd l1 0) [.int .i64 (rd l1 0)] from rfl) (Reps.none _ _))); intro v636 w10 ho11 hb hg_ hnew_; clear hg_ hnew_; (first | rw [← Ny635.out] at ho11 | (simp only [Int.reduceToNat] at ho11; rw [← Ny635.out] at ho11)); have n0_ := Aside0.mk (Kd.R_lower ho11 (below_size (by repeat (first | (with_reducible first | exact HB.out | apply below_alloc | apply pw_below_drewN | apply below_drew1 | refine below_set ?_ GE632.out) | exact HB.out)))); have n1_ := Aside0.mk (blk_below (g := gb632) (o := .cells #[.slice A0_0 l0_0.length c0_0] 28 (0, 0)) (by (with_reducible repeat (first | refine blk_drewN ?_ _ | refine blk_drew ?_ | refine blk_alloc ?_ _)); exact BK632.out) hb); have n2_ := Aside0.mk (below_step (by repeat (first | (with_reducible first | exact HB.out | apply below_alloc | apply pw_below_drewN | apply below_drew1 | refine below_set ?_ GE632.out) | exact HB.out)) hb); clear BK632; clear HB; have HO637 := n0_; have BK632 := n1_; have HB := n2_; clear n0_ n1_ n2_; clear hb ho11))
      have n0_ := Aside0.mk (Kd.R_drew HO637.out)
      have n1_ := Aside0.mk (blk_drew BK632.out)
      have n2_ := Aside0.mk (below_drew1 HB.out)
      clear HO637
      clear BK632
      clear HB
      have HO637 := n0_
      have BK632 := n1_
      have HB := n2_
      clear n0_ n1_ n2_
      have p638 : 0 ≤ (0 : Int) := (by omega)
      have q638 : 0 < (l1.length : Int) := of_decide_eq_true (by first | (with_reducible assumption) | assumption)
      obtain ⟨ad638, e638, hx638_0⟩ := Kd.at_int HR1.out 0 p638 q638
      have hw638_0 := hx638_0
      (try rw [show ((0 : Int)).toNat = 0 from rfl] at hw638_0)
      (try rw [show 0 * 1 = 0 from rfl] at hw638_0)
      (try rw [Addr.add_zero'] at hw638_0)
      obtain rfl : ad634 = ad638 := (by injection e638)
      have qi638 : (0 < l1.length) = True := eq_true (by omega)
      (try rw [show ((0 : Int)).toNat = 0 from rfl] at hx638_0)
      (try rw [Addr.add_zero'] at hx638_0)
      replace hx638_0 := (HB.out.cell (World.block_lt_of_cell? w _ hx638_0)).trans hx638_0
      replace p638 := eq_true p638
      replace q638 := eq_true q638
      refine start_ (n := 6) (S := fun w' => w'.cell? ⟨gb632, 0, none⟩ = some (.slice A0_0 l0_0.length c0_0) ∧ w'.cell? ad634 = some (.int .i64 (rd l1 0))) (ds := []) #[false, false, false, false, false, false] (by kernel_rfl) rfl rfl ⟨(blk_cell BK632.out 0).trans rfl, ((HB.out.cell (World.block_lt_of_cell? w _ hw638_0)).trans hw638_0)⟩ (fun hHeld => ?_)
      generalize w10.drew = w12 at HO637 BK632 HB hx638_0 hHeld ⊢
      refine pure_ (i := 1) (N := some 19) (v := ?_) (a' := ?_) #[false, true, false, false, false, false] rfl rfl (by kernel_rfl) (fun _ _ _ h => h) (Or.inl ⟨by rfl, ?_⟩) ?_ ?_
      rotate_left
      · intro w'
        go_simp
        with_reducible rfl
      rotate_left
      · simp only [Act.put, List.setIfInBounds_toArray, List.set_cons_zero, List.set_cons_succ, i64_w, i32_w]
        rfl
      refine pure_ (i := 2) (N := some 20) (v := ?_) (a' := ?_) #[false, true, true, false, false, false] rfl rfl (by kernel_rfl) (fun _ _ _ h => h) (Or.inl ⟨by rfl, ?_⟩) ?_ ?_
      rotate_left
      · intro w'
        go_simp
        with_reducible rfl
      rotate_left
      · simp only [Act.put, List.setIfInBounds_toArray, List.set_cons_zero, List.set_cons_succ, i64_w, i32_w]
        rfl
      refine take_ (i := 0) (N := some 18) (v := ?_) (a' := ?_) #[true, true, true, false, false, false] rfl rfl (by kernel_rfl) (fun _ _ _ h => h) (Or.inl ⟨by rfl, ?_⟩) hHeld ?_ ?_
      rotate_left
      · rintro w' ⟨s0, s1⟩
        go_simp
        with_reducible rfl
      rotate_left
      · simp only [Act.put, List.setIfInBounds_toArray, List.set_cons_zero, List.set_cons_succ, i64_w, i32_w]
        rfl
      refine take_ (i := 3) (N := some 21) (v := ?_) (a' := ?_) #[true, true, true, true, false, false] rfl rfl (by kernel_rfl) (fun _ _ _ h => h) (Or.inl ⟨by rfl, ?_⟩) hHeld ?_ ?_
      rotate_left
      · rintro w' ⟨s0, s1⟩
        go_simp
        with_reducible rfl
      rotate_left
      · simp only [Act.put, List.setIfInBounds_toArray, List.set_cons_zero, List.set_cons_succ, i64_w, i32_w]
        rfl
      refine one_ (i := 4) (N := some 22) #[true, true, true, true, true, false] rfl rfl (by kernel_rfl) (by decide) (fun K hK => ?_)
      refine goes_ Try.func75 (by kernel_rfl) rfl #[.agg #[.slice A0_0 l0_0.length c0_0], .int .i64 (rd l1 0)] (by rfl) rfl rfl (by (try simp only [List.map_toArray, List.map_cons, List.map_nil]); first | done | rfl | (simp only [List.length_drop, List.length_take]; rfl)) ?_
      with_reducible refine (spec_liCovers.calls k _ _ l0_0 (rd l1 0) t639 _ ?side1 ?side2 A6.out).mono ?_
      (case side1 => repeat (first | exact (Kd.C_below HR0_0.out HB.out) | (with_reducible refine Kd.C_alloc ?_ _) | (with_reducible refine Kd.C_drewN ?_ _) | (with_reducible refine Kd.C_drew ?_)))
      (case side2 => exact HC0_0.out)
      rintro e w13 ⟨v640, rfl, ho0, hb⟩
      refine ⟨_, rfl, ?_⟩
      have n0_ := Aside0.mk (Kd.R_elder' (by (with_reducible repeat (first | apply Kd.R_alloc | apply Kd.R_drewN | apply Kd.R_drew)); exact HO637.out) (Kd.R_base ho0) hb)
      have n1_ := Aside0.mk (Kd.R_lower (Kd.R_new' ho0 (Kd.R_lt (by (with_reducible repeat (first | apply Kd.R_alloc | apply Kd.R_drewN | apply Kd.R_drew)); exact HO637.out))) (below_size (by repeat (first | (with_reducible first | exact HB.out | apply below_alloc | apply pw_below_drewN | apply below_drew1 | refine below_set ?_ GE632.out) | exact HB.out))))
      have n2_ := Aside0.mk (blk_below (g := gb632) (o := .cells #[.slice A0_0 l0_0.length c0_0] 28 (0, 0)) (by (with_reducible repeat (first | refine blk_drewN ?_ _ | refine blk_drew ?_ | refine blk_alloc ?_ _)); exact BK632.out) hb)
      have n3_ := Aside0.mk (below_step (by repeat (first | (with_reducible first | exact HB.out | apply below_alloc | apply pw_below_drewN | apply below_drew1 | refine below_set ?_ GE632.out) | exact HB.out)) hb)
      clear HO637
      clear BK632
      clear HB
      have HO637 := n0_
      have HO641 := n1_
      have BK632 := n2_
      have HB := n3_
      clear n0_ n1_ n2_ n3_
      (try clear hb)
      (try clear hb2)
      (try clear hk)
      (try clear hi)
      (try clear ho0)
      refine hK.out _ _ ⟨(blk_cell BK632.out 0).trans rfl, ((HB.out.cell (World.block_lt_of_cell? w _ hw638_0)).trans hw638_0)⟩ (fun hHeld => ?_)
      clear hK K
      refine norm_ (a' := ?_) ?_ ?_
      rotate_left
      · show Act.put _ (some 22) _ = _
        simp only [Act.put, List.setIfInBounds_toArray, List.set_cons_zero, List.set_cons_succ, i64_w, i32_w]
        rfl
      refine pure_ (i := 5) (N := some 7) (v := ?_) (a' := ?_) #[true, true, true, true, true, true] rfl rfl (by kernel_rfl) (fun _ _ _ h => h) (Or.inl ⟨by rfl, ?_⟩) ?_ ?_
      rotate_left
      · intro w'
        go_simp
        with_reducible rfl
      rotate_left
      · simp only [Act.put, List.setIfInBounds_toArray, List.set_cons_zero, List.set_cons_succ, i64_w, i32_w]
        rfl
      refine done_ (by kernel_rfl) ?_
      try go_wp2
      go_loopg [6, 7] k (fun kq v6 v7 w' => ∃ (x6_1 : List Int) (x7_1 : List Int), Aside0 (spec_SlideOf.l0 kq l1 x6_1 x7_1 l0_0 = some (r1, r2)) ∧ Aside0 (kq ≤ k) ∧ Aside0 (Kd.R (Kd.int .i64) 3 w' w.heap.size (fun k_ => some k_ ≠ (v7 : Value).ownBlock) v6 x6_1) ∧ Aside0 (Kd.R (Kd.int .i64) 3 w' w.heap.size (fun k_ => some k_ ≠ (v6 : Value).ownBlock) v7 x7_1) ∧ Aside0 (w'.heap[gb632]? = some (.cells #[(.slice A0_0 l0_0.length c0_0)] 28 (0, 0))) ∧ Aside0 (Below w.heap.size w w'))
      case atStart => exact ⟨(y635), (t639), H', ⟨Nat.le_refl _⟩, ⟨by (with_reducible repeat (first | apply Kd.R_alloc | apply Kd.R_drewN | apply Kd.R_drew)); exact Kd.R_mono HO637.out (fun _ hk => hk.2)⟩, ⟨by (with_reducible repeat (first | apply Kd.R_alloc | apply Kd.R_drewN | apply Kd.R_drew)); exact Kd.R_mono HO641.out (fun _ hk => hk.2)⟩, ⟨by (with_reducible repeat (first | refine blk_drewN ?_ _ | refine blk_drew ?_ | refine blk_alloc ?_ _)); exact BK632.out⟩, ⟨by repeat (first | (with_reducible first | exact HB.out | apply below_alloc | apply pw_below_drewN | apply below_drew1 | refine below_set ?_ GE632.out) | exact HB.out)⟩⟩
      case round =>
        clear H'
        try clear c1
        try clear p2
        try clear c3
        try clear c4
        try clear c5
        try clear c5b0
        try clear c5b1
        try clear p6
        try clear q6
        try clear hx6
        try clear qi6
        try clear c7
        try clear hcz8_0
        try clear hfz8_0
        try clear hx634_0
        try clear hx638_0
        try clear p634
        try clear p638
        try clear q634
        try clear q638
        obtain ⟨x6_1, x7_1, HA, HK1, HO_6, HO_7, BK632, HB⟩ := hrel
        cases gk with
        | zero => exact absurd HA.out (by simp [spec_SlideOf.l0])
        | succ k1 =>
          have H := HA.out
          clear HA
          simp only [spec_SlideOf.l0] at H
          by_cases c14 : (x7_1.length : Int) > 0
          · rw [if_pos c14] at H
            have c14b0 : decide (0 < (x7_1.length : Int)) = true := decide_eq_true c14
            have c14b1 : decide (0 < x7_1.length) = true := decide_eq_true (by omega)
            clear c14
            have H' := Aside0.mk H
            clear H
            obtain ⟨Ao15, co15, eo15⟩ := Kd.R_slice HO_7.out
            subst eo15
            go_wp2
            go_loopg [6, 36] k1 (fun kq v6 v36 w' => ∃ (x6_2 : List Int) (x36_2 : Int), v36 = .int .i64 x36_2 ∧ Aside0 (spec_SlideOf.l1 kq l1 x6_2 x7_1 l1 (l1.length : Int) x36_2 l0_0 = some (r1, r2)) ∧ Aside0 (kq ≤ k1) ∧ Aside0 (Kd.R (Kd.int .i64) 3 w' w.heap.size (fun k_ => some k_ ≠ ((.slice Ao15 x7_1.length co15) : Value).ownBlock) v6 x6_2) ∧ Aside0 (Kd.R (Kd.int .i64) 3 w' w.heap.size (fun k_ => some k_ ≠ (v6 : Value).ownBlock) (.slice Ao15 x7_1.length co15) x7_1) ∧ Aside0 (w'.heap[gb632]? = some (.cells #[(.slice A0_0 l0_0.length c0_0)] 28 (0, 0))) ∧ Aside0 (Below w.heap.size w w'))
            case atStart => exact ⟨(x6_1), (0), (by first | rfl | (simp; done) | (simp [*]; done)), H', ⟨Nat.le_refl _⟩, ⟨by (with_reducible repeat (first | apply Kd.R_alloc | apply Kd.R_drewN | apply Kd.R_drew)); exact HO_6.out⟩, ⟨by (with_reducible repeat (first | apply Kd.R_alloc | apply Kd.R_drewN | apply Kd.R_drew)); exact HO_7.out⟩, ⟨by (with_reducible repeat (first | refine blk_drewN ?_ _ | refine blk_drew ?_ | refine blk_alloc ?_ _)); exact BK632.out⟩, ⟨by repeat (first | (with_reducible first | exact HB.out | apply below_alloc | apply pw_below_drewN | apply below_drew1 | refine below_set ?_ GE632.out) | exact HB.out)⟩⟩
            case round =>
              clear H'
              try clear c1
              try clear p2
              try clear c3
              try clear c4
              try clear c5
              try clear c5b0
              try clear c5b1
              try clear p6
              try clear q6
              try clear hx6
              try clear qi6
              try clear c7
              try clear c14
              try clear c14b0
              try clear c14b1
              try clear hcz8_0
              try clear hfz8_0
              try clear hx634_0
              try clear hx638_0
              try clear p2
              try clear p6
              try clear p634
              try clear p638
              try clear q6
              try clear q634
              try clear q638
              obtain ⟨x6_2, x36_2, rfl, HA, HK2, HO_6, HO_7, BK632, HB⟩ := hrel
              cases gk with
              | zero => exact absurd HA.out (by simp [spec_SlideOf.l1])
              | succ k2 =>
                have H := HA.out
                clear HA
                simp only [spec_SlideOf.l1] at H
                by_cases c16 : x36_2 < (l1.length : Int)
                · rw [if_pos c16] at H
                  have c16b0 : decide (x36_2 < (l1.length : Int)) = true := decide_eq_true c16
                  clear c16
                  by_cases c17 : 0 ≤ x36_2
                  · rw [if_pos c17] at H
                    have c17b0 : decide (0 ≤ x36_2) = true := decide_eq_true c17
                    clear c17
                    by_cases c18 : x36_2 < (l1.length : Int)
                    · rw [if_pos c18] at H
                      have c18b0 : decide (x36_2 < (l1.length : Int)) = true := decide_eq_true c18
                      clear c18
                      replace H := Option.bind_eq_some_iff.mp H
                      obtain ⟨t643, A190, H⟩ := H
                      replace H : (if t643 = true then (if x6_2.length < 17592186044416 then ((some (x6_2 ++ [rd l1 x36_2] : List Int)).bind fun y644 => (if 0 ≤ (wrap64 ((y644.length : Int) - 1)) then (if (wrap64 ((y644.length : Int) - 1)) < (y644.length : Int) then ((spec_liCovers.f k2 l0_0 (rd y644 (wrap64 ((y644.length : Int) - 1)))).bind fun t648 => (spec_SlideOf.l0 k2 l1 y644 t648 l0_0)) else (none)) else (none))) else (none)) else (spec_SlideOf.l1 k2 l1 x6_2 x7_1 l1 (l1.length : Int) (wrap64 (x36_2 + 1)) l0_0)) = some (r1, r2) := H
                      have A19 := Aside0.mk A190
                      clear A190
                      by_cases c20 : t643 = true
                      · subst c20
                        have H1 : (if x6_2.length < 17592186044416 then ((some (x6_2 ++ [rd l1 x36_2] : List Int)).bind fun y644 => (if 0 ≤ (wrap64 ((y644.length : Int) - 1)) then (if (wrap64 ((y644.length : Int) - 1)) < (y644.length : Int) then ((spec_liCovers.f k2 l0_0 (rd y644 (wrap64 ((y644.length : Int) - 1)))).bind fun t648 => (spec_SlideOf.l0 k2 l1 y644 t648 l0_0)) else (none)) else (none))) else (none)) = some (r1, r2) := by rw [if_pos rfl] at H; exact H
                        clear H
                        have H := H1
                        clear H1
                        by_cases c21 : x6_2.length < 17592186044416
                        · rw [if_pos c21] at H
                          have LMc21 := Aside0.mk c21
                          clear c21
                          obtain ⟨y644, hy644⟩ : ∃ y_ : List Int, y_ = (x6_2 ++ [rd l1 x36_2]) := ⟨_, rfl⟩
                          replace H : (if 0 ≤ (wrap64 ((y644.length : Int) - 1)) then (if (wrap64 ((y644.length : Int) - 1)) < (y644.length : Int) then ((spec_liCovers.f k2 l0_0 (rd y644 (wrap64 ((y644.length : Int) - 1)))).bind fun t648 => (spec_SlideOf.l0 k2 l1 y644 t648 l0_0)) else (none)) else (none)) = some (r1, r2) := by first | (rw [hy644]; with_reducible exact H) | (have H2_ := (Option.bind_some _ _).symm.trans H; rw [hy644]; with_reducible exact H2_) | (have H2_ := (Option.bind_some _ _).symm.trans H; with_reducible exact H2_) | with_reducible exact H | (rw [hy644]; exact H) | exact H
                          have Ny644 := Aside0.mk hy644
                          clear hy644
                          obtain ⟨ji22, hji22⟩ : ∃ j_ : Int, (wrap64 ((y644.length : Int) - 1)) = j_ := ⟨_, rfl⟩
                          replace H : (if 0 ≤ (ji22) then (if (ji22) < (y644.length : Int) then ((spec_liCovers.f k2 l0_0 (rd y644 (ji22))).bind fun t648 => (spec_SlideOf.l0 k2 l1 y644 t648 l0_0)) else (none)) else (none)) = some (r1, r2) := by first | (rw [hji22] at H; exact H) | (simp only [hji22] at H ⊢; exact H)
                          (try rw [hji22] at A19)
                          have hji22w : (IntKind.i64.wrap ((y644.length : Int) - 1)) = ji22 := (i64_w _).trans hji22
                          by_cases c23 : 0 ≤ (ji22)
                          · rw [if_pos c23] at H
                            have c23b0 : decide (0 ≤ (ji22)) = true := decide_eq_true c23
                            clear c23
                            by_cases c24 : (ji22) < (y644.length : Int)
                            · rw [if_pos c24] at H
                              have c24b0 : decide ((ji22) < (y644.length : Int)) = true := decide_eq_true c24
                              clear c24
                              replace H := Option.bind_eq_some_iff.mp H
                              obtain ⟨t648, A250, H⟩ := H
                              replace H : (spec_SlideOf.l0 k2 l1 y644 t648 l0_0) = some (r1, r2) := H
                              have A25 := Aside0.mk A250
                              clear A250
                              have H' := Aside0.mk H
                              clear H
                              have p642 : 0 ≤ (x36_2 : Int) := of_decide_eq_true (by first | (with_reducible assumption) | assumption)
                              have q642 : x36_2 < (l1.length : Int) := of_decide_eq_true (by first | (with_reducible assumption) | assumption)
                              obtain ⟨ad642, e642, hx642_0⟩ := Kd.at_int HR1.out x36_2 p642 q642
                              obtain rfl : ad634 = ad642 := (by injection e642)
                              replace hx642_0 := (HB.out.cell (World.block_lt_of_cell? w _ hx642_0)).trans hx642_0
                              replace p642 := eq_true p642
                              replace q642 := eq_true q642
                              try go_wp2_with (first | ((with_reducible refine gate_callee (f := 76) rfl ?_); refine goesL_ (some 42) rfl rfl Try.func76 (by kernel_rfl) rfl #[.slice Ao15 x7_1.length co15, .int .i64 (rd l1 x36_2)] rfl (by (try simp only [List.map_toArray, List.map_cons, List.map_nil]); first | done | rfl | (simp only [List.length_drop, List.length_take]; rfl)) ?_; (with_reducible refine (spec_l1Has.calls k2 _ _ x7_1 (rd l1 x36_2) true _ ?side1 ?side2 A19.out).mono ?_); (case side1 => repeat (first | exact (Kd.R_reads' HO_7.out).2.2 | (with_reducible refine Kd.C_alloc ?_ _) | (with_reducible refine Kd.C_drewN ?_ _) | (with_reducible refine Kd.C_drew ?_))); (case side2 => exact (Kd.R_reads' HO_7.out).2.1); rintro e w' ⟨rfl, ⟨nd, rfl⟩⟩; refine ⟨_, rfl, ?_⟩) | ((with_reducible refine gate_builtin (b := .append) (xs := #[.tmp 43, .tmp 45]) rfl ?_); at_builtin; refine Kd.R_append (Kd.int .i64) (w0 := w) w.heap.size rfl (.tmp 43) (.tmp 45) 22 3 (.int .i64 0) 8 rfl Try.underlying22 info3 rfl (by decide) (by omega) u6 x6_2 (rd l1 x36_2) [.int .i64 (rd l1 x36_2)] (fun k_ => some k_ ≠ (.slice Ao15 x7_1.length co15 : Value).ownBlock) (fun _ => False) rfl rfl ?aP (fun _ hk => hk.elim) ?aF ?aO ?aB ?aS ?aL ?_; (case aP => exact rfl); (case aB => exact (by repeat (first | (with_reducible first | exact HB.out | apply below_alloc | apply pw_below_drewN | apply below_drew1 | refine below_set ?_ GE632.out) | exact HB.out))); (case aF => exact (fun k_ hk => Kd.fresh' (Kd.R_lt (by (with_reducible repeat (first | apply Kd.R_alloc | apply Kd.R_drewN | apply Kd.R_drew)); exact HO_7.out)) k_ hk)); (case aO => exact (by (with_reducible repeat (first | apply Kd.R_alloc | apply Kd.R_drewN | apply Kd.R_drew)); exact HO_6.out)); (case aS => exact (below_size (by repeat (first | (with_reducible first | exact HB.out | apply below_alloc | apply pw_below_drewN | apply below_drew1 | refine below_set ?_ GE632.out) | exact HB.out)))); (case aL => have := LMc21.out; omega); intro v645 w26 ho hb hg hat; rw [← Ny644.out] at ho; have n0_ := Aside0.mk (Kd.R_after (ok := (fun _ => True)) (by (with_reducible repeat (first | apply Kd.R_alloc | apply Kd.R_drewN | apply Kd.R_drew)); exact Kd.R_mono HO_7.out (fun _ hk => ⟨trivial, hk⟩)) hg hat); have n1_ := Aside0.mk (blk_grown (g := gb632) (o := .cells #[.slice A0_0 l0_0.length c0_0] 28 (0, 0)) (by (with_reducible repeat (first | refine blk_drewN ?_ _ | refine blk_drew ?_ | refine blk_alloc ?_ _)); exact BK632.out) hg (Kd.R_ne HO_6.out BK632.out (by decide))); have n2_ := Aside0.mk (hb); have n3_ := Aside0.mk (ho); clear HO_7; clear BK632; clear HB; clear HO_6; have HO_7 := n0_; have BK632 := n1_; have HB := n2_; have HO646 := n3_; clear n0_ n1_ n2_ n3_; clear ho hb hg hat))
                              have n0_ := Aside0.mk (Kd.R_drew HO_7.out)
                              have n1_ := Aside0.mk (Kd.R_drew HO646.out)
                              have n2_ := Aside0.mk (blk_drew BK632.out)
                              have n3_ := Aside0.mk (below_drew1 HB.out)
                              clear HO_7
                              clear HO646
                              clear BK632
                              clear HB
                              have HO_7 := n0_
                              have HO646 := n1_
                              have BK632 := n2_
                              have HB := n3_
                              clear n0_ n1_ n2_ n3_
                              obtain ⟨Ao28, co28, eo28⟩ := Kd.R_slice HO646.out
                              (first | subst eo28 | (injection eo28 with f1_ f2_ f3_; have f4_ := f1_.symm; have f5_ := f3_.symm; clear f1_ f2_ f3_; subst f4_; subst f5_))
                              have p647 : 0 ≤ ((ji22) : Int) := of_decide_eq_true (by first | (with_reducible assumption) | assumption)
                              have q647 : (ji22) < (y644.length : Int) := of_decide_eq_true (by first | (with_reducible assumption) | assumption)
                              obtain ⟨ad647, e647, hx647_0⟩ := Kd.at_int (Kd.R_reads' HO646.out).2.2 (ji22) p647 q647
                              cases e647
                              replace p647 := eq_true p647
                              replace q647 := eq_true q647
                              refine start_ (n := 9) (S := fun w' => w'.cell? ⟨gb632, 0, none⟩ = some (.slice A0_0 l0_0.length c0_0) ∧ w'.cell? _ = some _) (ds := []) #[false, false, false, false, false, false, false, false, false] (by kernel_rfl) rfl rfl ⟨(blk_cell BK632.out 0).trans rfl, hx647_0⟩ (fun hHeld => ?_); refine with_tabW spec_SlideOf.tab6 spec_SlideOf.bits6 (fun HT_ HW_ => ?_)
                              generalize w26.drew = w27 at HO_7 HO646 BK632 HB hx647_0 hHeld ⊢
                              refine pure_ (i := 1) (N := some 27) (v := ?_) (a' := ?_) #[false, true, false, false, false, false, false, false, false] rfl rfl (any_of HT_.out (by kernel_rfl)) (fun _ _ _ h => h) (Or.inl ⟨by rfl, ?_⟩) ?_ ?_
                              rotate_left
                              · intro w'
                                go_simp
                                with_reducible rfl
                              rotate_left
                              · simp only [Act.put, List.setIfInBounds_toArray, List.set_cons_zero, List.set_cons_succ, i64_w, i32_w]
                                rfl
                              refine pure_ (i := 2) (N := some 28) (v := ?_) (a' := ?_) #[false, true, true, false, false, false, false, false, false] rfl rfl (any_of HT_.out (by kernel_rfl)) (fun _ _ _ h => h) (Or.inl ⟨by rfl, ?_⟩) ?_ ?_
                              rotate_left
                              · intro w'
                                go_simp
                                with_reducible rfl
                              rotate_left
                              · simp only [Act.put, List.setIfInBounds_toArray, List.set_cons_zero, List.set_cons_succ, i64_w, i32_w]
                                rfl
                              refine pure_ (i := 3) (N := some 29) (v := ?_) (a' := ?_) #[false, true, true, true, false, false, false, false, false] rfl rfl (any_of HT_.out (by kernel_rfl)) (fun _ _ _ h => h) (Or.inl ⟨by rfl, ?_⟩) ?_ ?_
                              rotate_left
                              · intro w'
                                go_simp
                                with_reducible rfl
                              rotate_left
                              · simp only [Act.put, List.setIfInBounds_toArray, List.set_cons_zero, List.set_cons_succ, i64_w, i32_w]
                                rfl
                              refine pure_ (i := 4) (N := some 30) (v := ?_) (a' := ?_) #[false, true, true, true, true, false, false, false, false] rfl rfl (any_of HT_.out (by kernel_rfl)) (fun _ _ _ h => h) (Or.inl ⟨by rfl, ?_⟩) ?_ ?_
                              rotate_left
                              · intro w'
                                go_simp
                                with_reducible rfl
                              rotate_left
                              · simp only [Act.put, List.setIfInBounds_toArray, List.set_cons_zero, List.set_cons_succ, i64_w, i32_w]
                                rfl
                              refine pure_ (i := 5) (N := some 31) (v := ?_) (a' := ?_) #[false, true, true, true, true, true, false, false, false] rfl rfl (any_of HT_.out (by kernel_rfl)) (fun _ _ _ h => h) (Or.inl ⟨by rfl, ?_⟩) ?_ ?_
                              rotate_left
                              · intro w'
                                go_simp
                                with_reducible rfl
                              rotate_left
                              · simp only [Act.put, List.setIfInBounds_toArray, List.set_cons_zero, List.set_cons_succ, i64_w, i32_w]
                                rfl
                              refine take_ (i := 0) (N := some 26) (v := ?_) (a' := ?_) #[true, true, true, true, true, true, false, false, false] rfl rfl (take_ofW HT_.out HW_.out (by kernel_rfl)) (fun _ _ _ h => h) (Or.inl ⟨by rfl, ?_⟩) hHeld ?_ ?_
                              rotate_left
                              · rintro w' ⟨s0, s1⟩
                                go_simp
                                with_reducible rfl
                              rotate_left
                              · simp only [Act.put, List.setIfInBounds_toArray, List.set_cons_zero, List.set_cons_succ, i64_w, i32_w]
                                rfl
                              refine take_ (i := 6) (N := some 32) (v := ?_) (a' := ?_) #[true, true, true, true, true, true, true, false, false] rfl rfl (take_ofW HT_.out HW_.out (by kernel_rfl)) (fun _ _ _ h => h) (Or.inl ⟨by rfl, ?_⟩) hHeld ?_ ?_
                              rotate_left
                              · rintro w' ⟨s0, s1⟩
                                go_simp
                                with_reducible rfl
                              rotate_left
                              · simp only [Act.put, List.setIfInBounds_toArray, List.set_cons_zero, List.set_cons_succ, i64_w, i32_w]
                                rfl
                              refine one_ (i := 7) (N := some 33) #[true, true, true, true, true, true, true, true, false] rfl rfl (one_of HT_.out (by kernel_rfl)) (by decide) (fun K hK => ?_)
                              refine goes_ Try.func75 (by kernel_rfl) rfl #[.agg #[.slice A0_0 l0_0.length c0_0], .int .i64 (rd y644 (ji22))] (by rfl) rfl rfl (by (try simp only [List.map_toArray, List.map_cons, List.map_nil]); first | done | (simp only [hji22]; rfl) | rfl | (simp only [List.length_drop, List.length_take]; rfl)) ?_
                              with_reducible refine (spec_liCovers.calls k2 _ _ l0_0 (rd y644 (ji22)) t648 _ ?side1 ?side2 A25.out).mono ?_
                              (case side1 => repeat (first | exact (Kd.C_below HR0_0.out HB.out) | (with_reducible refine Kd.C_alloc ?_ _) | (with_reducible refine Kd.C_drewN ?_ _) | (with_reducible refine Kd.C_drew ?_)))
                              (case side2 => exact HC0_0.out)
                              rintro e w29 ⟨v649, rfl, ho0, hb⟩
                              have HS1_ := (hb.cell (World.block_lt_of_cell? _ _ (hHeld.2))).trans (hHeld.2)
                              refine ⟨_, rfl, ?_⟩
                              have n0_ := Aside0.mk (Kd.R_elder' (by (with_reducible repeat (first | apply Kd.R_alloc | apply Kd.R_drewN | apply Kd.R_drew)); exact HO_7.out) (Kd.R_base ho0) hb)
                              have n1_ := Aside0.mk (Kd.R_elder' (by (with_reducible repeat (first | apply Kd.R_alloc | apply Kd.R_drewN | apply Kd.R_drew)); exact HO646.out) (Kd.R_base ho0) hb)
                              have n2_ := Aside0.mk (Kd.R_lower (Kd.R_new' (Kd.R_new' ho0 (Kd.R_lt (by (with_reducible repeat (first | apply Kd.R_alloc | apply Kd.R_drewN | apply Kd.R_drew)); exact HO_7.out))) (Kd.R_lt (by (with_reducible repeat (first | apply Kd.R_alloc | apply Kd.R_drewN | apply Kd.R_drew)); exact HO646.out))) (below_size (by repeat (first | (with_reducible first | exact HB.out | apply below_alloc | apply pw_below_drewN | apply below_drew1 | refine below_set ?_ GE632.out) | exact HB.out))))
                              have n3_ := Aside0.mk (blk_below (g := gb632) (o := .cells #[.slice A0_0 l0_0.length c0_0] 28 (0, 0)) (by (with_reducible repeat (first | refine blk_drewN ?_ _ | refine blk_drew ?_ | refine blk_alloc ?_ _)); exact BK632.out) hb)
                              have n4_ := Aside0.mk (below_step (by repeat (first | (with_reducible first | exact HB.out | apply below_alloc | apply pw_below_drewN | apply below_drew1 | refine below_set ?_ GE632.out) | exact HB.out)) hb)
                              clear HO_7
                              clear HO646
                              clear BK632
                              clear HB
                              have HO_7 := n0_
                              have HO646 := n1_
                              have HO650 := n2_
                              have BK632 := n3_
                              have HB := n4_
                              clear n0_ n1_ n2_ n3_ n4_
                              (try clear hb)
                              (try clear hb2)
                              (try clear hk)
                              (try clear hi)
                              (try clear ho0)
                              refine hK.out _ _ ⟨(blk_cell BK632.out 0).trans rfl, HS1_⟩ (fun hHeld => ?_)
                              clear hK K
                              refine norm_ (a' := ?_) ?_ ?_
                              rotate_left
                              · show Act.put _ (some 33) _ = _
                                simp only [Act.put, List.setIfInBounds_toArray, List.set_cons_zero, List.set_cons_succ, i64_w, i32_w]
                                rfl
                              refine pure_ (i := 8) (N := some 7) (v := ?_) (a' := ?_) #[true, true, true, true, true, true, true, true, true] rfl rfl (any_of HT_.out (by kernel_rfl)) (fun _ _ _ h => h) (Or.inl ⟨by rfl, ?_⟩) ?_ ?_
                              rotate_left
                              · intro w'
                                go_simp
                                with_reducible rfl
                              rotate_left
                              · simp only [Act.put, List.setIfInBounds_toArray, List.set_cons_zero, List.set_cons_succ, i64_w, i32_w]
                                rfl
                              refine done_ (done_of HT_.out (by kernel_rfl)) ?_
                              try go_wp2
                              go_roundg k2
                              case measure => have := HK1.out; have := HK2.out; omega
                              case rel => exact ⟨(y644), (t648), H', ⟨by have := HK1.out; have := HK2.out; omega⟩, ⟨by (with_reducible repeat (first | apply Kd.R_alloc | apply Kd.R_drewN | apply Kd.R_drew)); exact Kd.R_mono HO646.out (fun _ hk => hk.2)⟩, ⟨by (with_reducible repeat (first | apply Kd.R_alloc | apply Kd.R_drewN | apply Kd.R_drew)); exact Kd.R_mono HO650.out (fun _ hk => hk.2)⟩, ⟨by (with_reducible repeat (first | refine blk_drewN ?_ _ | refine blk_drew ?_ | refine blk_alloc ?_ _)); exact BK632.out⟩, ⟨by repeat (first | (with_reducible first | exact HB.out | apply below_alloc | apply pw_below_drewN | apply below_drew1 | refine below_set ?_ GE632.out) | exact HB.out)⟩⟩
                            · rw [if_neg c24] at H
                              exact absurd H (by simp)
                          · rw [if_neg c23] at H
                            exact absurd H (by simp)
                        · rw [if_neg c21] at H
                          exact absurd H (by simp)
                      · replace c20 := Bool.eq_false_iff.mpr c20
                        subst c20
                        have H1 : (spec_SlideOf.l1 k2 l1 x6_2 x7_1 l1 (l1.length : Int) (wrap64 (x36_2 + 1)) l0_0) = some (r1, r2) := by rw [if_neg (show ¬ (false = true) by decide)] at H; exact H
                        clear H
                        have H := H1
                        clear H1
                        have H' := Aside0.mk H
                        clear H
                        have p642 : 0 ≤ (x36_2 : Int) := of_decide_eq_true (by first | (with_reducible assumption) | assumption)
                        have q642 : x36_2 < (l1.length : Int) := of_decide_eq_true (by first | (with_reducible assumption) | assumption)
                        obtain ⟨ad642, e642, hx642_0⟩ := Kd.at_int HR1.out x36_2 p642 q642
                        obtain rfl : ad634 = ad642 := (by injection e642)
                        replace hx642_0 := (HB.out.cell (World.block_lt_of_cell? w _ hx642_0)).trans hx642_0
                        replace p642 := eq_true p642
                        replace q642 := eq_true q642
                        go_wp2_with (first | ((with_reducible refine gate_callee (f := 76) rfl ?_); refine goesL_ (some 42) rfl rfl Try.func76 (by kernel_rfl) rfl #[.slice Ao15 x7_1.length co15, .int .i64 (rd l1 x36_2)] rfl (by (try simp only [List.map_toArray, List.map_cons, List.map_nil]); first | done | rfl | (simp only [List.length_drop, List.length_take]; rfl)) ?_; (with_reducible refine (spec_l1Has.calls k2 _ _ x7_1 (rd l1 x36_2) false _ ?side1 ?side2 A19.out).mono ?_); (case side1 => repeat (first | exact (Kd.R_reads' HO_7.out).2.2 | (with_reducible refine Kd.C_alloc ?_ _) | (with_reducible refine Kd.C_drewN ?_ _) | (with_reducible refine Kd.C_drew ?_))); (case side2 => exact (Kd.R_reads' HO_7.out).2.1); rintro e w' ⟨rfl, ⟨nd, rfl⟩⟩; refine ⟨_, rfl, ?_⟩))
                        go_roundg k2
                        case measure => have := HK1.out; have := HK2.out; omega
                        case rel => exact ⟨(x6_2), (wrap64 (x36_2 + 1)), (by first | rfl | (simp; done) | (simp [*]; done)), H', ⟨by have := HK1.out; have := HK2.out; omega⟩, ⟨by (with_reducible repeat (first | apply Kd.R_alloc | apply Kd.R_drewN | apply Kd.R_drew)); exact HO_6.out⟩, ⟨by (with_reducible repeat (first | apply Kd.R_alloc | apply Kd.R_drewN | apply Kd.R_drew)); exact HO_7.out⟩, ⟨by (with_reducible repeat (first | refine blk_drewN ?_ _ | refine blk_drew ?_ | refine blk_alloc ?_ _)); exact BK632.out⟩, ⟨by repeat (first | (with_reducible first | exact HB.out | apply below_alloc | apply pw_below_drewN | apply below_drew1 | refine below_set ?_ GE632.out) | exact HB.out)⟩⟩
                    · rw [if_neg c18] at H
                      exact absurd H (by simp)
                  · rw [if_neg c17] at H
                    exact absurd H (by simp)
                · rw [if_neg c16] at H
                  have c16b0 : decide (x36_2 < (l1.length : Int)) = false := decide_eq_false c16
                  clear c16
                  obtain ⟨ji30, hji30⟩ : ∃ j_ : Int, (wrap64 ((x6_2.length : Int) - 1)) = j_ := ⟨_, rfl⟩
                  replace H : (if 0 ≤ (ji30) then (if (ji30) < (x6_2.length : Int) then ((spec_liCovers.f k2 l0_0 (rd x6_2 (ji30))).bind fun t652 => (spec_SlideOf.l0 k2 l1 x6_2 t652 l0_0)) else (none)) else (none)) = some (r1, r2) := by first | (rw [hji30] at H; exact H) | (simp only [hji30] at H ⊢; exact H)
                  have hji30w : (IntKind.i64.wrap ((x6_2.length : Int) - 1)) = ji30 := (i64_w _).trans hji30
                  by_cases c31 : 0 ≤ (ji30)
                  · rw [if_pos c31] at H
                    have c31b0 : decide (0 ≤ (ji30)) = true := decide_eq_true c31
                    clear c31
                    by_cases c32 : (ji30) < (x6_2.length : Int)
                    · rw [if_pos c32] at H
                      have c32b0 : decide ((ji30) < (x6_2.length : Int)) = true := decide_eq_true c32
                      clear c32
                      replace H := Option.bind_eq_some_iff.mp H
                      obtain ⟨t652, A330, H⟩ := H
                      replace H : (spec_SlideOf.l0 k2 l1 x6_2 t652 l0_0) = some (r1, r2) := H
                      have A33 := Aside0.mk A330
                      clear A330
                      have H' := Aside0.mk H
                      clear H
                      try go_wp2
                      have n0_ := Aside0.mk (Kd.R_drew HO_6.out)
                      have n1_ := Aside0.mk (Kd.R_drew HO_7.out)
                      have n2_ := Aside0.mk (blk_drew BK632.out)
                      have n3_ := Aside0.mk (below_drew1 HB.out)
                      clear HO_6
                      clear HO_7
                      clear BK632
                      clear HB
                      have HO_6 := n0_
                      have HO_7 := n1_
                      have BK632 := n2_
                      have HB := n3_
                      clear n0_ n1_ n2_ n3_
                      obtain ⟨Ao35, co35, eo35⟩ := Kd.R_slice HO_6.out
                      (first | subst eo35 | (injection eo35 with f1_ f2_ f3_; have f4_ := f1_.symm; have f5_ := f3_.symm; clear f1_ f2_ f3_; subst f4_; subst f5_))
                      have p651 : 0 ≤ ((ji30) : Int) := of_decide_eq_true (by first | (with_reducible assumption) | assumption)
                      have q651 : (ji30) < (x6_2.length : Int) := of_decide_eq_true (by first | (with_reducible assumption) | assumption)
                      obtain ⟨ad651, e651, hx651_0⟩ := Kd.at_int (Kd.R_reads' HO_6.out).2.2 (ji30) p651 q651
                      cases e651
                      replace p651 := eq_true p651
                      replace q651 := eq_true q651
                      refine start_ (n := 9) (S := fun w' => w'.cell? ⟨gb632, 0, none⟩ = some (.slice A0_0 l0_0.length c0_0) ∧ w'.cell? _ = some _) (ds := []) #[false, false, false, false, false, false, false, false, false] (by kernel_rfl) rfl rfl ⟨(blk_cell BK632.out 0).trans rfl, hx651_0⟩ (fun hHeld => ?_); refine with_tabW spec_SlideOf.tab6 spec_SlideOf.bits6 (fun HT_ HW_ => ?_)
                      generalize wr.drew = w34 at HO_6 HO_7 BK632 HB hx651_0 hHeld ⊢
                      refine pure_ (i := 1) (N := some 27) (v := ?_) (a' := ?_) #[false, true, false, false, false, false, false, false, false] rfl rfl (any_of HT_.out (by kernel_rfl)) (fun _ _ _ h => h) (Or.inl ⟨by rfl, ?_⟩) ?_ ?_
                      rotate_left
                      · intro w'
                        go_simp
                        with_reducible rfl
                      rotate_left
                      · simp only [Act.put, List.setIfInBounds_toArray, List.set_cons_zero, List.set_cons_succ, i64_w, i32_w]
                        rfl
                      refine pure_ (i := 2) (N := some 28) (v := ?_) (a' := ?_) #[false, true, true, false, false, false, false, false, false] rfl rfl (any_of HT_.out (by kernel_rfl)) (fun _ _ _ h => h) (Or.inl ⟨by rfl, ?_⟩) ?_ ?_
                      rotate_left
                      · intro w'
                        go_simp
                        with_reducible rfl
                      rotate_left
                      · simp only [Act.put, List.setIfInBounds_toArray, List.set_cons_zero, List.set_cons_succ, i64_w, i32_w]
                        rfl
                      refine pure_ (i := 3) (N := some 29) (v := ?_) (a' := ?_) #[false, true, true, true, false, false, false, false, false] rfl rfl (any_of HT_.out (by kernel_rfl)) (fun _ _ _ h => h) (Or.inl ⟨by rfl, ?_⟩) ?_ ?_
                      rotate_left
                      · intro w'
                        go_simp
                        with_reducible rfl
                      rotate_left
                      · simp only [Act.put, List.setIfInBounds_toArray, List.set_cons_zero, List.set_cons_succ, i64_w, i32_w]
                        rfl
                      refine pure_ (i := 4) (N := some 30) (v := ?_) (a' := ?_) #[false, true, true, true, true, false, false, false, false] rfl rfl (any_of HT_.out (by kernel_rfl)) (fun _ _ _ h => h) (Or.inl ⟨by rfl, ?_⟩) ?_ ?_
                      rotate_left
                      · intro w'
                        go_simp
                        with_reducible rfl
                      rotate_left
                      · simp only [Act.put, List.setIfInBounds_toArray, List.set_cons_zero, List.set_cons_succ, i64_w, i32_w]
                        rfl
                      refine pure_ (i := 5) (N := some 31) (v := ?_) (a' := ?_) #[false, true, true, true, true, true, false, false, false] rfl rfl (any_of HT_.out (by kernel_rfl)) (fun _ _ _ h => h) (Or.inl ⟨by rfl, ?_⟩) ?_ ?_
                      rotate_left
                      · intro w'
                        go_simp
                        with_reducible rfl
                      rotate_left
                      · simp only [Act.put, List.setIfInBounds_toArray, List.set_cons_zero, List.set_cons_succ, i64_w, i32_w]
                        rfl
                      refine take_ (i := 0) (N := some 26) (v := ?_) (a' := ?_) #[true, true, true, true, true, true, false, false, false] rfl rfl (take_ofW HT_.out HW_.out (by kernel_rfl)) (fun _ _ _ h => h) (Or.inl ⟨by rfl, ?_⟩) hHeld ?_ ?_
                      rotate_left
                      · rintro w' ⟨s0, s1⟩
                        go_simp
                        with_reducible rfl
                      rotate_left
                      · simp only [Act.put, List.setIfInBounds_toArray, List.set_cons_zero, List.set_cons_succ, i64_w, i32_w]
                        rfl
                      refine take_ (i := 6) (N := some 32) (v := ?_) (a' := ?_) #[true, true, true, true, true, true, true, false, false] rfl rfl (take_ofW HT_.out HW_.out (by kernel_rfl)) (fun _ _ _ h => h) (Or.inl ⟨by rfl, ?_⟩) hHeld ?_ ?_
                      rotate_left
                      · rintro w' ⟨s0, s1⟩
                        go_simp
                        with_reducible rfl
                      rotate_left
                      · simp only [Act.put, List.setIfInBounds_toArray, List.set_cons_zero, List.set_cons_succ, i64_w, i32_w]
                        rfl
                      refine one_ (i := 7) (N := some 33) #[true, true, true, true, true, true, true, true, false] rfl rfl (one_of HT_.out (by kernel_rfl)) (by decide) (fun K hK => ?_)
                      refine goes_ Try.func75 (by kernel_rfl) rfl #[.agg #[.slice A0_0 l0_0.length c0_0], .int .i64 (rd x6_2 (ji30))] (by rfl) rfl rfl (by (try simp only [List.map_toArray, List.map_cons, List.map_nil]); first | done | (simp only [hji30]; rfl) | rfl | (simp only [List.length_drop, List.length_take]; rfl)) ?_
                      with_reducible refine (spec_liCovers.calls k2 _ _ l0_0 (rd x6_2 (ji30)) t652 _ ?side1 ?side2 A33.out).mono ?_
                      (case side1 => repeat (first | exact (Kd.C_below HR0_0.out HB.out) | (with_reducible refine Kd.C_alloc ?_ _) | (with_reducible refine Kd.C_drewN ?_ _) | (with_reducible refine Kd.C_drew ?_)))
                      (case side2 => exact HC0_0.out)
                      rintro e w36 ⟨v653, rfl, ho0, hb⟩
                      have HS1_ := (hb.cell (World.block_lt_of_cell? _ _ (hHeld.2))).trans (hHeld.2)
                      refine ⟨_, rfl, ?_⟩
                      have n0_ := Aside0.mk (Kd.R_elder' (by (with_reducible repeat (first | apply Kd.R_alloc | apply Kd.R_drewN | apply Kd.R_drew)); exact HO_6.out) (Kd.R_base ho0) hb)
                      have n1_ := Aside0.mk (Kd.R_elder' (by (with_reducible repeat (first | apply Kd.R_alloc | apply Kd.R_drewN | apply Kd.R_drew)); exact HO_7.out) (Kd.R_base ho0) hb)
                      have n2_ := Aside0.mk (Kd.R_lower (Kd.R_new' (Kd.R_new' ho0 (Kd.R_lt (by (with_reducible repeat (first | apply Kd.R_alloc | apply Kd.R_drewN | apply Kd.R_drew)); exact HO_6.out))) (Kd.R_lt (by (with_reducible repeat (first | apply Kd.R_alloc | apply Kd.R_drewN | apply Kd.R_drew)); exact HO_7.out))) (below_size (by repeat (first | (with_reducible first | exact HB.out | apply below_alloc | apply pw_below_drewN | apply below_drew1 | refine below_set ?_ GE632.out) | exact HB.out))))
                      have n3_ := Aside0.mk (blk_below (g := gb632) (o := .cells #[.slice A0_0 l0_0.length c0_0] 28 (0, 0)) (by (with_reducible repeat (first | refine blk_drewN ?_ _ | refine blk_drew ?_ | refine blk_alloc ?_ _)); exact BK632.out) hb)
                      have n4_ := Aside0.mk (below_step (by repeat (first | (with_reducible first | exact HB.out | apply below_alloc | apply pw_below_drewN | apply below_drew1 | refine below_set ?_ GE632.out) | exact HB.out)) hb)
                      clear HO_6
                      clear HO_7
                      clear BK632
                      clear HB
                      have HO_6 := n0_
                      have HO_7 := n1_
                      have HO654 := n2_
                      have BK632 := n3_
                      have HB := n4_
                      clear n0_ n1_ n2_ n3_ n4_
                      (try clear hb)
                      (try clear hb2)
                      (try clear hk)
                      (try clear hi)
                      (try clear ho0)
                      refine hK.out _ _ ⟨(blk_cell BK632.out 0).trans rfl, HS1_⟩ (fun hHeld => ?_)
                      clear hK K
                      refine norm_ (a' := ?_) ?_ ?_
                      rotate_left
                      · show Act.put _ (some 33) _ = _
                        simp only [Act.put, List.setIfInBounds_toArray, List.set_cons_zero, List.set_cons_succ, i64_w, i32_w]
                        rfl
                      refine pure_ (i := 8) (N := some 7) (v := ?_) (a' := ?_) #[true, true, true, true, true, true, true, true, true] rfl rfl (any_of HT_.out (by kernel_rfl)) (fun _ _ _ h => h) (Or.inl ⟨by rfl, ?_⟩) ?_ ?_
                      rotate_left
                      · intro w'
                        go_simp
                        with_reducible rfl
                      rotate_left
                      · simp only [Act.put, List.setIfInBounds_toArray, List.set_cons_zero, List.set_cons_succ, i64_w, i32_w]
                        rfl
                      refine done_ (done_of HT_.out (by kernel_rfl)) ?_
                      try go_wp2
                      go_roundg k2
                      case measure => have := HK1.out; have := HK2.out; omega
                      case rel => exact ⟨(x6_2), (t652), H', ⟨by have := HK1.out; have := HK2.out; omega⟩, ⟨by (with_reducible repeat (first | apply Kd.R_alloc | apply Kd.R_drewN | apply Kd.R_drew)); exact Kd.R_mono HO_6.out (fun _ hk => hk.2)⟩, ⟨by (with_reducible repeat (first | apply Kd.R_alloc | apply Kd.R_drewN | apply Kd.R_drew)); exact Kd.R_mono HO654.out (fun _ hk => hk.1.2)⟩, ⟨by (with_reducible repeat (first | refine blk_drewN ?_ _ | refine blk_drew ?_ | refine blk_alloc ?_ _)); exact BK632.out⟩, ⟨by repeat (first | (with_reducible first | exact HB.out | apply below_alloc | apply pw_below_drewN | apply below_drew1 | refine below_set ?_ GE632.out) | exact HB.out)⟩⟩
                    · rw [if_neg c32] at H
                      exact absurd H (by simp)
                  · rw [if_neg c31] at H
                    exact absurd H (by simp)
          · rw [if_neg c14] at H
            have c14b0 : decide (0 < (x7_1.length : Int)) = false := decide_eq_false c14
            have c14b1 : decide (0 < x7_1.length) = false := decide_eq_false (by omega)
            clear c14
            simp only [Option.some.injEq, Prod.mk.injEq] at H
            obtain ⟨rfl, rfl⟩ := H
            obtain ⟨Ao37, co37, eo37⟩ := Kd.R_slice HO_7.out
            subst eo37
            go_wp2
            go_ret2
            exact ⟨_, by first | rfl | (simp [errW_none, errW_some] <;> rfl) | (simp [*, errW_none, errW_some] <;> rfl), by (with_reducible repeat (first | apply Kd.R_alloc | apply Kd.R_drewN | apply Kd.R_drew)); exact Kd.R_mono HO_6.out (fun _ hk => trivial), by repeat (first | (with_reducible first | exact HB.out | apply below_alloc | apply pw_below_drewN | apply below_drew1 | refine below_set ?_ GE632.out) | exact HB.out)⟩
    · rw [if_neg c5] at H
      exact absurd H (by simp)
  · replace c4 := Bool.eq_false_iff.mpr c4
    subst c4
    have H1 : (some (([] : List Int), false)) = some (r1, r2) := by rw [if_neg (show ¬ (false = true) by decide)] at H; exact H
    clear H
    have H := H1
    clear H1
    simp only [Option.some.injEq, Prod.mk.injEq] at H
    obtain ⟨rfl, rfl⟩ := H
    go_enter Try.func38, Try.ntmps38
    go_wp2_with (first | ((with_reducible refine gate_dst (N := 2) rfl ?_); refine box_event ?hg (N := 2) ?hd (cs := #[.slice A0_0 l0_0.length c0_0]) (t := 28) ?hr ?_; (case hd => rfl); (case hg => rfl); (case hr => first | (go_simp; done) | (go_simp; rfl)); intro gb632 hg w38 hbox hb; have n0_ := Aside0.mk (below_step (by repeat (first | (with_reducible first | exact HB.out | apply below_alloc | apply pw_below_drewN | apply below_drew1) | exact HB.out)) hb); have n1_ := Aside0.mk (hbox); have n2_ := Aside0.mk ((by rw [hg]; exact (below_size (by repeat (first | (with_reducible first | exact HB.out | apply below_alloc | apply pw_below_drewN | apply below_drew1) | exact HB.out))) : w.heap.size ≤ gb632)); have n3_ := Aside0.mk ((by rw [hg]; exact (below_size (by repeat (first | (with_reducible first | exact HB.out | apply below_alloc | apply pw_below_drewN | apply below_drew1) | exact HB.out))) : w.heap.size ≤ gb632)); clear HB; have HB := n0_; have BK632 := n1_; have GW632 := n2_; have GE632 := n3_; clear n0_ n1_ n2_ n3_; clear hb hbox hg; have hcz39_0 : w38.cell? ⟨gb632, 0, none⟩ = some (.slice A0_0 l0_0.length c0_0) := (blk_cell BK632.out 0).trans rfl; have hfz39_0 := blk_frozen BK632.out 0) | ((with_reducible refine gate_callee (f := 53) rfl ?_); refine goesL_ (some 12) rfl rfl Try.func53 (by kernel_rfl) rfl #[.agg #[.slice A0_0 l0_0.length c0_0], .slice A1 l1.length c1] rfl (by (try simp only [List.map_toArray, List.map_cons, List.map_nil]); first | done | rfl | (simp only [List.length_drop, List.length_take]; rfl)) ?_; (with_reducible refine (spec_liGiven.calls k _ _ l0_0 _ _ l1 false _ ?side1 ?side2 ?side3 ?side4 A3.out).mono ?_); (case side1 => repeat (first | exact (Kd.C_below HR0_0.out HB.out) | (with_reducible refine Kd.C_alloc ?_ _) | (with_reducible refine Kd.C_drewN ?_ _) | (with_reducible refine Kd.C_drew ?_))); (case side2 => exact HC0_0.out); (case side3 => repeat (first | exact (Kd.C_below HR1.out HB.out) | (with_reducible refine Kd.C_alloc ?_ _) | (with_reducible refine Kd.C_drewN ?_ _) | (with_reducible refine Kd.C_drew ?_))); (case side4 => exact HC1.out); rintro e w40 ⟨rfl, hb⟩; refine ⟨_, rfl, ?_⟩; have n0_ := Aside0.mk (blk_below (g := gb632) (o := .cells #[.slice A0_0 l0_0.length c0_0] 28 (0, 0)) (by (with_reducible repeat (first | refine blk_drewN ?_ _ | refine blk_drew ?_ | refine blk_alloc ?_ _)); exact BK632.out) hb); have n1_ := Aside0.mk (below_step (by repeat (first | (with_reducible first | exact HB.out | apply below_alloc | apply pw_below_drewN | apply below_drew1 | refine below_set ?_ GE632.out) | exact HB.out)) hb); clear BK632; clear HB; have BK632 := n0_; have HB := n1_; clear n0_ n1_; (try clear hb); (try clear hb2); (try clear hk); (try clear hi)))
    go_ret2
    exact ⟨_, by first | rfl | (simp [errW_none, errW_some] <;> rfl) | (simp [*, errW_none, errW_some] <;> rfl), by first | exact Kd.R_nil _ _ _ _ _ | exact Kd.N_nil _ _ _ _ _ | exact Kd.V_nil _ _ _ _ _ | exact Kd.Q_nil _ _ _ _ _ | exact Kd.S_nil _ _ _ _ _, by repeat (first | (with_reducible first | exact HB.out | apply below_alloc | apply pw_below_drewN | apply below_drew1 | refine below_set ?_ GE632.out) | exact HB.out)⟩

end Go.Proofs.Ytjahclncpgllmaa.F
end

section
namespace Go.Proofs.Ytjahclncpgllmaa.Q
open Go.RowKit Go.Proofs.YtjahclncpgllmaaW.PrintWords
set_option linter.unusedVariables false
theorem wid {n : Int} (h0 : -9223372036854775808 ≤ n) (h1 : n ≤ 9223372036854775807) : wrap64 n = n := by unfold wrap64; omega
theorem wid1 {i n : Nat} (h : i < n) (hn : n ≤ 9223372036854775807) : wrap64 ((i : Int) + 1) = ((i + 1 : Nat) : Int) := by unfold wrap64; omega
theorem rdN (l : List Int) (i : Nat) : rd l (i : Int) = l.getD i 0 := by unfold rd; simp
theorem rdN' {l : List Int} {i : Nat} (h : i < l.length) : rd l (i : Int) = l[i] := by rw [rdN, List.getD_eq_getElem?_getD, List.getElem?_eq_getElem h]; rfl
theorem downTo {P : Nat → Prop} (n : Nat) (h0 : P n) (hs : ∀ i, i < n → P (i + 1) → P i) : ∀ i, i ≤ n → P i := by
  intro i hi
  obtain ⟨d, hd⟩ : ∃ d, n - i = d := ⟨_, rfl⟩
  induction d generalizing i with
  | zero => have : i = n := by omega
            subst this; exact h0
  | succ d ih => exact hs i (by omega) (ih (i + 1) (by omega) (by omega))
theorem evc {α : Type} {g : Nat → Option α} {r r' : α} (h : Ev g r) (e : r = r') : Ev g r' := e ▸ h
theorem Ev.ret {α : Type} {r r' : α} (e : r = r') : Ev (fun _ => some r) r' := e ▸ Ev.now r
/-- A call that needs no rounds. -/
theorem Ev.call {α β : Type} {o : Option α} {a : α} {f : Nat → α → Option β} {r : β} (h : o = some a) (k : Ev (fun n => f n a) r) : Ev (fun n => o.bind (f n)) r := by
  subst h; exact k
theorem Ev.yes {α : Type} {c : Prop} [Decidable c] {f g : Nat → Option α} {r : α} (h : c) (k : Ev f r) : Ev (fun n => if c then f n else g n) r := by
  obtain ⟨K, k⟩ := k
  exact ⟨K, fun n hn => by show (if c then f n else g n) = _; rw [if_pos h]; exact k n hn⟩
theorem Ev.no {α : Type} {c : Prop} [Decidable c] {f g : Nat → Option α} {r : α} (h : ¬ c) (k : Ev g r) : Ev (fun n => if c then f n else g n) r := by
  obtain ⟨K, k⟩ := k
  exact ⟨K, fun n hn => by show (if c then f n else g n) = _; rw [if_neg h]; exact k n hn⟩
theorem Ev.ite {α : Type} {c : Prop} [Decidable c] {f g : Nat → Option α} {r : α} (h1 : c → Ev f r) (h2 : ¬ c → Ev g r) : Ev (fun n => if c then f n else g n) r := by
  by_cases h : c
  · exact Ev.yes h (h1 h)
  · exact Ev.no h (h2 h)
theorem Ev.uniq {α : Type} {g : Nat → Option α} {r r' : α} (h : Ev g r) (h' : Ev g r') : r = r' := by
  obtain ⟨K, h⟩ := h
  obtain ⟨K', h'⟩ := h'
  have a := h (max K K') (by omega)
  have b := h' (max K K') (by omega)
  rw [a] at b
  exact Option.some.inj b
theorem Ev.const {α : Type} {o : Option α} {r : α} (h : o = some r) : Ev (fun _ => o) r := ⟨0, fun _ _ => h⟩

/-! ### bits -/
/-- The elements of a that are not in b. -/
def ndiff (a b : Nat) : Nat := a ^^^ (a &&& b)
theorem ndiff_bit (a b i : Nat) : (ndiff a b).testBit i = (a.testBit i && !b.testBit i) := by
  unfold ndiff; rw [Nat.testBit_xor, Nat.testBit_and]; cases a.testBit i <;> cases b.testBit i <;> rfl
theorem wrap_i64_id {n : Int} (h0 : -9223372036854775808 ≤ n) (h1 : n ≤ 9223372036854775807) : IntKind.i64.wrap n = n := by rw [IntKind.wrap_i64]; omega
theorem wraps62 (n : Int) (h0 : 0 ≤ n) (h1 : n < 2 ^ 62) : IntKind.i64.wrap n = n := wrap_i64_id (by omega) (by omega)
theorem bits_andN {a b : Nat} (ha : a < 2 ^ 62) (hb : b < 2 ^ 62) : Go.bits .and .i64 (a : Int) (b : Int) = ((a &&& b : Nat) : Int) :=
  (Go.bits_nat .i64 62 (by decide) wraps62 a b ha hb).1
theorem bits_orN {a b : Nat} (ha : a < 2 ^ 62) (hb : b < 2 ^ 62) : Go.bits .or .i64 (a : Int) (b : Int) = ((a ||| b : Nat) : Int) :=
  (Go.bits_nat .i64 62 (by decide) wraps62 a b ha hb).2
theorem lt_pow {a n m : Nat} (h : a < 2 ^ n) (hnm : n ≤ m) : a < 2 ^ m := Nat.lt_of_lt_of_le h (Nat.pow_le_pow_right (by decide) hnm)
theorem ndiff_le (a b : Nat) : ndiff a b ≤ a := by
  have h := Nat.and_le_left (n := a) (m := b)
  have hx : ndiff a b &&& (a &&& b) = 0 := by
    apply Nat.eq_of_testBit_eq
    intro i
    rw [Nat.testBit_and, ndiff_bit, Nat.testBit_and, Nat.zero_testBit]
    cases a.testBit i <;> cases b.testBit i <;> rfl
  apply Nat.le_of_testBit
  intro i hi
  rw [ndiff_bit] at hi
  simp at hi
  exact hi.1
theorem ndiff_lt {a b m : Nat} (h : a < m) : ndiff a b < m := Nat.lt_of_le_of_lt (ndiff_le a b) h
theorem bits_andNotN {a b : Nat} (ha : a < 2 ^ 62) (hb : b < 2 ^ 62) : Go.bits .andNot .i64 (a : Int) (b : Int) = ((ndiff a b : Nat) : Int) := by
  have e : Go.bits .andNot .i64 (a : Int) (b : Int) = IntKind.i64.wrap ((((BitVec.ofInt 64 a) &&& ~~~(BitVec.ofInt 64 b)).toNat : Nat) : Int) := rfl
  have e2 : ((BitVec.ofInt 64 (a : Int)) &&& ~~~(BitVec.ofInt 64 (b : Int))).toNat = ndiff a b := by
    apply Nat.eq_of_testBit_eq
    intro i
    rw [ndiff_bit, BitVec.ofInt_natCast, BitVec.ofInt_natCast]
    rw [BitVec.testBit_toNat, BitVec.getLsbD_and, BitVec.getLsbD_not, BitVec.getLsbD_ofNat, BitVec.getLsbD_ofNat]
    by_cases hi : i < 64
    · simp [hi]
    · have : a.testBit i = false := Nat.testBit_lt_two_pow (lt_pow ha (by omega))
      simp [hi, this]
  rw [e, e2]
  have h2 := ndiff_lt (b := b) ha
  exact wrap_i64_id (by omega) (by omega)
theorem shlN {i : Nat} (hi : i ≤ 61) : shl .i64 1 (i : Int) = ((2 ^ i : Nat) : Int) := by
  unfold shl
  have h1 : min (i : Int).toNat (IntKind.bits .i64) = i := by simp [IntKind.bits]; omega
  rw [h1]
  have h2 : (2 : Nat) ^ i < 2 ^ 62 := Nat.pow_lt_pow_right (by decide) (by omega)
  have e : (1 : Int) * 2 ^ i = ((2 ^ i : Nat) : Int) := by rw [Int.one_mul]; exact (Int.natCast_pow 2 i).symm
  rw [e]
  exact wraps62 _ (Int.natCast_nonneg _) (by
    have : ((2 ^ i : Nat) : Int) < ((4611686018427387904 : Nat) : Int) := by exact_mod_cast h2
    exact this)
theorem shrN (a i : Nat) (hi : i ≤ 64) : shr .i64 (a : Int) (i : Int) = ((a / 2 ^ i : Nat) : Int) := by
  unfold shr
  have h1 : min (i : Int).toNat (IntKind.bits .i64) = i := by simp [IntKind.bits]; omega
  rw [h1, Int.natCast_ediv, Int.natCast_pow]; rfl
theorem odd_bit (a i : Nat) : ((a / 2 ^ i) % 2 == 1) = a.testBit i := by
  rw [Nat.testBit_eq_decide_div_mod_eq]; rfl
theorem or_lt {a b n : Nat} (ha : a < 2 ^ n) (hb : b < 2 ^ n) : a ||| b < 2 ^ n := Nat.or_lt_two_pow ha hb
theorem bit_lt {a n i : Nat} (h : a < 2 ^ n) (hi : n ≤ i) : a.testBit i = false := Nat.testBit_lt_two_pow (lt_pow h hi)
theorem lt_of_bit {a n i : Nat} (h : a < 2 ^ n) (hi : a.testBit i = true) : i < n := by
  rcases Nat.lt_or_ge i n with h1 | h1
  · exact h1
  · rw [bit_lt h h1] at hi; cases hi
theorem pow_bit (i j : Nat) : (2 ^ i).testBit j = decide (i = j) := by
  rw [Nat.testBit_two_pow]
theorem pow_lt_pow {i n : Nat} (h : i < n) : 2 ^ i < 2 ^ n := Nat.pow_lt_pow_right (by decide) h
theorem ext_bits {a b n : Nat} (ha : a < 2 ^ n) (hb : b < 2 ^ n) (h : ∀ i, i < n → a.testBit i = b.testBit i) : a = b := by
  apply Nat.eq_of_testBit_eq
  intro i
  rcases Nat.lt_or_ge i n with h1 | h1
  · exact h i h1
  · rw [bit_lt ha h1, bit_lt hb h1]
end Go.Proofs.Ytjahclncpgllmaa.Q
end

section
namespace Go.Proofs.Ytjahclncpgllmaa.Q
open Go.RowKit Go.Proofs.YtjahclncpgllmaaW.PrintWords
set_option linter.unusedVariables false
/-- f holds at i, i + 1, .., n - 1. -/
def allFrom (f : Nat → Bool) (n i : Nat) : Bool := (List.range' i (n - i)).all f
theorem allFrom_end (f : Nat → Bool) (n : Nat) : allFrom f n n = true := by simp [allFrom]
theorem allFrom_step (f : Nat → Bool) {n i : Nat} (h : i < n) : allFrom f n i = (f i && allFrom f n (i + 1)) := by
  unfold allFrom
  obtain ⟨d, hd⟩ : ∃ d, n - i = d + 1 := ⟨n - i - 1, by omega⟩
  rw [hd, List.range'_succ, List.all_cons, show n - (i + 1) = d by omega]
theorem allFrom_iff (f : Nat → Bool) (n i : Nat) : allFrom f n i = true ↔ ∀ j, i ≤ j → j < n → f j = true := by
  unfold allFrom
  rw [List.all_eq_true]
  constructor
  · intro h j h1 h2
    exact h j (List.mem_range'_1.2 ⟨h1, by omega⟩)
  · intro h j hj
    obtain ⟨h1, h2⟩ := List.mem_range'_1.1 hj
    exact h j h1 (by omega)
theorem allFrom_congr {f g : Nat → Bool} {n i : Nat} (h : ∀ j, i ≤ j → j < n → f j = g j) : allFrom f n i = allFrom g n i := by
  rw [Bool.eq_iff_iff, allFrom_iff, allFrom_iff]
  exact ⟨fun H j a b => by rw [← h j a b]; exact H j a b, fun H j a b => by rw [h j a b]; exact H j a b⟩
theorem pow_int (i : Nat) : ((2 : Int) ^ i) = ((2 ^ i : Nat) : Int) := (Int.natCast_pow 2 i).symm
theorem mask_eq {i : Nat} (hi : i ≤ 61) : wrap64 ((shl .i64 1 (i : Int)) - 1) = (2 : Int) ^ i - 1 := by
  rw [shlN hi, pow_int]
  have h2 : (2 : Nat) ^ i ≤ 2 ^ 61 := Nat.pow_le_pow_right (by decide) hi
  have hp : 0 < 2 ^ i := Nat.two_pow_pos i
  apply wid <;> generalize 2 ^ i = z at * <;> omega
theorem bit_test {a : Nat} {j : Nat} (hj : j ≤ 64) : (Int.tmod (shr .i64 (a : Int) (j : Int)) 2 = 1) ↔ a.testBit j = true := by
  rw [shrN a j hj, Int.tmod_eq_emod_of_nonneg (Int.natCast_nonneg _), ← odd_bit, beq_iff_eq]
  omega
theorem range_false {a b : Int} {x : Int} (h : ¬ (a ≤ x ∧ x ≤ b)) : (decide (a ≤ x) && decide (x ≤ b)) = false := by
  rw [← Bool.not_eq_true, Bool.and_eq_true, decide_eq_true_eq, decide_eq_true_eq]; exact h
theorem range_true {a b : Int} {x : Int} (h : a ≤ x ∧ x ≤ b) : (decide (a ≤ x) && decide (x ≤ b)) = true := by
  rw [Bool.and_eq_true, decide_eq_true_eq, decide_eq_true_eq]; exact h
end Go.Proofs.Ytjahclncpgllmaa.Q
end

section
namespace Go.Proofs.Ytjahclncpgllmaa.Q
open Go.RowKit Go.Proofs.YtjahclncpgllmaaW.PrintWords Go.Proofs.Ytjahclncpgllmaa.F
set_option linter.unusedVariables false
theorem l1In_eq (a b c : Int) : spec_l1In.f a b c = some (decide (b ≤ a) && decide (a ≤ c)) := by
  unfold spec_l1In.f
  by_cases h : b ≤ a
  · rw [if_pos h]; simp [h]
  · rw [if_neg h]; simp [h]
end Go.Proofs.Ytjahclncpgllmaa.Q
end

section
namespace Go.Proofs.Ytjahclncpgllmaa.Q
open Go.RowKit Go.Proofs.YtjahclncpgllmaaW.PrintWords
set_option linter.unusedVariables false
theorem Ev.all {α : Type} {g : Nat → Nat → Option α} {r : Nat → α} : ∀ N : Nat, (∀ s, s < N → Ev (g s) (r s)) → ∃ K, ∀ k, K ≤ k → ∀ s, s < N → g s k = some (r s)
  | 0, _ => ⟨0, fun k _ s hs => absurd hs (Nat.not_lt_zero _)⟩
  | N + 1, h => by
    obtain ⟨K, hK⟩ := Ev.all N (fun s hs => h s (by omega))
    obtain ⟨K', hK'⟩ := h N (Nat.lt_succ_self _)
    refine ⟨K + K', fun k hk s hs => ?_⟩
    rcases Nat.lt_or_ge s N with h1 | h1
    · exact hK k (by omega) s h1
    · rw [show s = N by omega]; exact hK' k (by omega)
end Go.Proofs.Ytjahclncpgllmaa.Q
end

section
namespace Go.Proofs.Ytjahclncpgllmaa.Q
open Go.RowKit Go.Proofs.YtjahclncpgllmaaW.PrintWords Go.Proofs.Ytjahclncpgllmaa.F
set_option linter.unusedVariables false
theorem has_eq {a j : Nat} (ha : a < 2 ^ 62) (hj : j ≤ 64) : impl_has.f (a : Int) (j : Int) = some (a.testBit j) := by
  unfold impl_has.f
  rw [if_pos (Int.natCast_nonneg _), shrN a j hj]
  congr 1
  have h1 : a / 2 ^ j < 2 ^ 62 := Nat.lt_of_le_of_lt (Nat.div_le_self _ _) ha
  have := bits_andN (a := a / 2 ^ j) (b := 1) h1 (by decide)
  rw [show ((1 : Nat) : Int) = 1 from rfl] at this
  rw [this, ← odd_bit, Nat.and_one_is_mod]
  rw [Bool.eq_iff_iff, beq_iff_eq, beq_iff_eq]
  omega

end Go.Proofs.Ytjahclncpgllmaa.Q
end

section
namespace Go.Proofs.Ytjahclncpgllmaa.Q
open Go.RowKit Go.Proofs.YtjahclncpgllmaaW.PrintWords Go.Proofs.Ytjahclncpgllmaa.F
set_option linter.unusedVariables false
def inR (a b x : Int) : Bool := decide (a ≤ x) && decide (x ≤ b)
theorem inR_iff {a b x : Int} : inR a b x = true ↔ a ≤ x ∧ x ≤ b := by unfold inR; rw [Bool.and_eq_true, decide_eq_true_eq, decide_eq_true_eq]
theorem l1All_ev (l : List Int) (a b : Int) (h : l.length ≤ 9223372036854775807) : Ev (fun k => spec_l1All.f k l a b) (allFrom (fun i => inR a b (l.getD i 0)) l.length 0) := by
  unfold spec_l1All.f
  have key : ∀ i, i ≤ l.length → Ev (fun k => spec_l1All.l0 k a b l (l.length : Int) (i : Int)) (allFrom (fun i => inR a b (l.getD i 0)) l.length i) := by
    refine downTo _ ?_ ?_
    · refine Ev.step (by intro k; simp only [spec_l1All.l0]; rfl) (Ev.no (by omega) (Ev.ret (allFrom_end _ _).symm))
    · intro i hi ih
      refine Ev.step (by intro k; simp only [spec_l1All.l0]; rfl) (Ev.yes (by omega) (Ev.yes (by omega) (Ev.yes (by omega) ?_)))
      rw [wid1 hi (by omega), rdN, allFrom_step _ hi]
      refine Ev.call (l1In_eq _ _ _) ?_
      show Ev (fun k => if inR a b (l.getD i 0) = true then _ else _) (inR a b (l.getD i 0) && _)
      cases inR a b (l.getD i 0) with
      | true => exact Ev.yes rfl (evc ih (by simp))
      | false => exact Ev.no (by simp) (Ev.ret rfl)
  exact key 0 (by omega)
end Go.Proofs.Ytjahclncpgllmaa.Q
end

section
namespace Go.Proofs.Ytjahclncpgllmaa.Q
open Go.RowKit Go.Proofs.YtjahclncpgllmaaW.PrintWords Go.Proofs.Ytjahclncpgllmaa.F
set_option linter.unusedVariables false
theorem eqIntS_ev (a b : List Int) (h : a.length ≤ 9223372036854775807) : Ev (fun k => laws_eqIntS.f k a b) (decide (a = b)) := by
  unfold laws_eqIntS.f
  refine Ev.ite (fun hl => ?_) (fun hl => Ev.ret ?_)
  · have hl' : a.length = b.length := by omega
    have key : ∀ i, i ≤ a.length → a.take i = b.take i → Ev (fun k => laws_eqIntS.l0 k a b (i : Int)) (decide (a = b)) := by
      refine downTo _ ?_ ?_
      · intro hp
        refine Ev.step (by intro k; simp only [laws_eqIntS.l0]; rfl) (Ev.no (by omega) (Ev.ret ?_))
        rw [List.take_length, hl', List.take_length] at hp
        simp [hp]
      · intro i hi ih hp
        refine Ev.step (by intro k; simp only [laws_eqIntS.l0]; rfl) (Ev.yes (by omega) (Ev.yes (by omega) (Ev.yes (by omega) ?_)))
        rw [wid1 hi (by omega), rdN, rdN]
        have ga : a.getD i 0 = a[i] := by rw [List.getD_eq_getElem?_getD, List.getElem?_eq_getElem hi]; rfl
        have gb : b.getD i 0 = b[i]'(by omega) := by rw [List.getD_eq_getElem?_getD, List.getElem?_eq_getElem (by omega)]; rfl
        rw [ga, gb]
        refine Ev.ite (fun h => ih ?_) (fun h => Ev.ret ?_)
        · rw [List.take_add_one, List.take_add_one, hp, List.getElem?_eq_getElem hi, List.getElem?_eq_getElem (show i < b.length by omega), h]
        · rw [decide_eq_false]
          intro e
          subst e
          exact h rfl
    exact key 0 (by omega) rfl
  · rw [decide_eq_false]
    intro e
    subst e
    exact hl rfl
theorem eqIntS_refl (a : List Int) (h : a.length ≤ 9223372036854775807) : Ev (fun k => laws_eqIntS.f k a a) true := evc (eqIntS_ev a a h) (by simp)
end Go.Proofs.Ytjahclncpgllmaa.Q
end

section
namespace Go.Proofs.Ytjahclncpgllmaa.Q
open Go.RowKit Go.Proofs.YtjahclncpgllmaaW.PrintWords Go.Proofs.Ytjahclncpgllmaa.F
set_option linter.unusedVariables false
theorem eqPoset_refl (a : List Int) (h : a.length ≤ 9223372036854775807) : Ev (fun k => laws_eqPoset.f k a a) true := by
  unfold laws_eqPoset.f
  exact Ev.bind (eqIntS_refl a h) (Ev.yes rfl (Ev.ret rfl))
end Go.Proofs.Ytjahclncpgllmaa.Q
end

section
namespace Go.Proofs.Ytjahclncpgllmaa.Q
open Go.RowKit Go.Proofs.YtjahclncpgllmaaW.PrintWords Go.Proofs.Ytjahclncpgllmaa.F
set_option linter.unusedVariables false
theorem szIntS_eq (l : List Int) (a : Nat) (ha : a ≤ 1048576) (h : l.length ≤ maxLen) : laws_szIntS.f l (a : Int) = some (if l.length ≤ a then ((a - l.length : Nat) : Int) else -1) := by
  unfold laws_szIntS.f
  unfold maxLen at h
  have e : wrap64 ((a : Int) - (l.length : Int)) = (a : Int) - (l.length : Int) := wid (by omega) (by omega)
  rw [e]
  by_cases hc : l.length ≤ a
  · rw [if_neg (by omega), if_pos hc]; congr 1; omega
  · rw [if_pos (by omega), if_neg hc]
end Go.Proofs.Ytjahclncpgllmaa.Q
end

section
namespace Go.Proofs.Ytjahclncpgllmaa.Q
open Go.RowKit Go.Proofs.YtjahclncpgllmaaW.PrintWords Go.Proofs.Ytjahclncpgllmaa.F
set_option linter.unusedVariables false
theorem szPoset_eq (l : List Int) (a : Nat) (ha : a ≤ 1048576) (h : l.length ≤ maxLen) : laws_szPoset.f l (a : Int) = some (if l.length ≤ a then ((a - l.length : Nat) : Int) else -1) := by
  unfold laws_szPoset.f
  rw [szIntS_eq l a ha h]
  by_cases hc : l.length ≤ a
  · simp only [if_pos hc, Option.bind_some]; rw [if_neg (by omega)]
  · simp only [if_neg hc, Option.bind_some]; rw [if_pos (by omega)]
end Go.Proofs.Ytjahclncpgllmaa.Q
end

section
namespace Go.Proofs.Ytjahclncpgllmaa.Q
open Go.RowKit Go.Proofs.YtjahclncpgllmaaW.PrintWords Go.Proofs.Ytjahclncpgllmaa.F
set_option linter.unusedVariables false
theorem toIntS_ev (l : List Int) (h : l.length ≤ 1048576) : Ev (fun k => laws_toIntS.f k l) l := by
  unfold laws_toIntS.f
  refine Ev.yes (by omega) (Ev.yes (by omega) ?_)
  have key : ∀ i, i ≤ l.length → ∀ acc : List Int, acc.length = l.length → acc.take i = l.take i → Ev (fun k => laws_toIntS.l0 k l acc (i : Int)) l := by
    refine downTo _ ?_ ?_
    · intro acc ha hi
      refine Ev.step (by intro k; simp only [laws_toIntS.l0]; rfl) (Ev.no (by omega) (Ev.ret ?_))
      rw [List.take_length, ← ha, List.take_length] at hi
      exact hi
    · intro i hi ih acc ha hp
      refine Ev.step (by intro k; simp only [laws_toIntS.l0]; rfl) (Ev.yes (by omega) (Ev.yes (by omega) (Ev.yes (by omega) ?_)))
      rw [wid1 hi (by omega), rdN, Int.toNat_natCast]
      refine ih _ (by simp [ha]) ?_
      rw [List.take_add_one, List.take_add_one, List.take_set_of_le (Nat.le_refl _), hp, List.getElem?_set, List.getD_eq_getElem?_getD, List.getElem?_eq_getElem hi]
      simp [ha, hi]
  exact key 0 (by omega) _ (by simp) (by simp)
end Go.Proofs.Ytjahclncpgllmaa.Q
end

section
namespace Go.Proofs.Ytjahclncpgllmaa.Q
open Go.RowKit Go.Proofs.YtjahclncpgllmaaW.PrintWords Go.Proofs.Ytjahclncpgllmaa.F
set_option linter.unusedVariables false
theorem toPoset_ev (l : List Int) (h : l.length ≤ 1048576) : Ev (fun k => laws_toPoset.f k l) l := by
  unfold laws_toPoset.f
  exact Ev.bind (toIntS_ev l h) (Ev.ret rfl)
end Go.Proofs.Ytjahclncpgllmaa.Q
end

section
namespace Go.Proofs.Ytjahclncpgllmaa.Q
open Go.RowKit Go.Proofs.YtjahclncpgllmaaW.PrintWords
set_option linter.unusedVariables false
/-- a, a + 1, .., n of them. -/
def upFrom (a : Nat) (n : Nat) : List Int := (List.range' a n).map Int.ofNat
theorem upFrom_len (a n : Nat) : (upFrom a n).length = n := by simp [upFrom]
theorem upFrom_get {a n i : Nat} (h : i < n) : (upFrom a n).getD i 0 = ((a + i : Nat) : Int) := by
  rw [List.getD_eq_getElem?_getD]
  simp [upFrom, h]
end Go.Proofs.Ytjahclncpgllmaa.Q
end

section
namespace Go.Proofs.Ytjahclncpgllmaa.Q
open Go.RowKit Go.Proofs.YtjahclncpgllmaaW.PrintWords Go.Proofs.Ytjahclncpgllmaa.F
set_option linter.unusedVariables false
theorem heldIntS_ev (a n : Nat) (h : a + n ≤ 4611686018427387904) : Ev (fun k => laws_heldIntS.f k (upFrom a n) (a : Int)) ((a + n : Nat) : Int) := by
  unfold laws_heldIntS.f
  have key : ∀ i, i ≤ n → Ev (fun k => laws_heldIntS.l0 k (upFrom a n) ((a + i : Nat) : Int) (i : Int)) ((a + n : Nat) : Int) := by
    refine downTo _ ?_ ?_
    · refine Ev.step (by intro k; simp only [laws_heldIntS.l0]; rfl) (Ev.no (by rw [upFrom_len]; omega) (Ev.ret rfl))
    · intro i hi ih
      refine Ev.step (by intro k; simp only [laws_heldIntS.l0]; rfl) (Ev.yes (by rw [upFrom_len]; omega) (Ev.yes (by omega) (Ev.yes ?_ ?_)))
      · rw [rdN, upFrom_get hi]
      · rw [wid1 hi (by omega), wid1 (i := a + i) (n := a + n) (by omega) (by omega)]
        exact ih
  exact key 0 (by omega)
theorem heldIntS_ev1 (n : Nat) (h : n ≤ 4611686018427387000) : Ev (fun k => laws_heldIntS.f k (upFrom 1 n) 1) ((1 + n : Nat) : Int) := heldIntS_ev 1 n (by omega)
end Go.Proofs.Ytjahclncpgllmaa.Q
end

section
namespace Go.Proofs.Ytjahclncpgllmaa.Q
open Go.RowKit Go.Proofs.YtjahclncpgllmaaW.PrintWords Go.Proofs.Ytjahclncpgllmaa.F
set_option linter.unusedVariables false
theorem markIntS_ev (l : List Int) (a : Nat) (h : a + l.length ≤ 4611686018427387904) : Ev (fun k => laws_markIntS.f k l (a : Int)) (((a + l.length : Nat) : Int), upFrom a l.length) := by
  unfold laws_markIntS.f
  have key : ∀ i, i ≤ l.length → ∀ acc : List Int, acc.length = l.length → acc.take i = upFrom a i → Ev (fun k => laws_markIntS.l0 k acc ((a + i : Nat) : Int) (i : Int)) (((a + l.length : Nat) : Int), upFrom a l.length) := by
    refine downTo _ ?_ ?_
    · intro acc ha hp
      refine Ev.step (by intro k; simp only [laws_markIntS.l0]; rfl) (Ev.no (by omega) (Ev.ret ?_))
      rw [← ha, List.take_length] at hp
      rw [hp, ha]
    · intro i hi ih acc ha hp
      refine Ev.step (by intro k; simp only [laws_markIntS.l0]; rfl) (Ev.yes (by omega) (Ev.yes (by omega) ?_))
      rw [wid1 hi (by omega), wid1 (i := a + i) (n := a + l.length) (by omega) (by omega), Int.toNat_natCast]
      refine ih _ (by simp [ha]) ?_
      rw [List.take_add_one, List.take_set_of_le (Nat.le_refl _), hp, List.getElem?_set]
      simp [ha, hi, upFrom, List.range'_concat]
  exact key 0 (by omega) l rfl (by simp [upFrom])
theorem markIntS_ev1 (l : List Int) (h : l.length ≤ 4611686018427387000) : Ev (fun k => laws_markIntS.f k l 1) (((1 + l.length : Nat) : Int), upFrom 1 l.length) := markIntS_ev l 1 (by omega)
end Go.Proofs.Ytjahclncpgllmaa.Q
end

section
namespace Go.Proofs.Ytjahclncpgllmaa.Q
open Go.RowKit Go.Proofs.YtjahclncpgllmaaW.PrintWords Go.Proofs.Ytjahclncpgllmaa.F
set_option linter.unusedVariables false
theorem markPoset_ev (l : List Int) (a : Nat) (h : a + l.length ≤ 4611686018427387904) : Ev (fun k => laws_markPoset.f k l (a : Int)) (((a + l.length : Nat) : Int), upFrom a l.length) := by
  unfold laws_markPoset.f
  exact Ev.bind (markIntS_ev l a h) (Ev.ret rfl)
theorem markPoset_ev1 (l : List Int) (h : l.length ≤ 4611686018427387000) : Ev (fun k => laws_markPoset.f k l 1) (((1 + l.length : Nat) : Int), upFrom 1 l.length) := markPoset_ev l 1 (by omega)
end Go.Proofs.Ytjahclncpgllmaa.Q
end

section
namespace Go.Proofs.Ytjahclncpgllmaa.Q
end Go.Proofs.Ytjahclncpgllmaa.Q
end

section
namespace Go.Proofs.Ytjahclncpgllmaa.Q
open Go.RowKit Go.Proofs.YtjahclncpgllmaaW.PrintWords Go.Proofs.Ytjahclncpgllmaa.F
set_option linter.unusedVariables false
theorem poIn_eq {a j : Nat} (hj : j ≤ 64) : spec_poIn.f (a : Int) (j : Int) = some (a.testBit j) := by
  unfold spec_poIn.f
  rw [if_pos (Int.natCast_nonneg _)]
  congr 1
  rw [Bool.eq_iff_iff, beq_iff_eq]
  exact bit_test hj
end Go.Proofs.Ytjahclncpgllmaa.Q
end

section
namespace Go.Proofs.Ytjahclncpgllmaa.Q
open Go.RowKit Go.Proofs.YtjahclncpgllmaaW.PrintWords
set_option linter.unusedVariables false
/-- What is less than element i, as a set. -/
def L (p : List Int) (i : Nat) : Nat := (p.getD i 0).toNat
def rowOk (p : List Int) (i : Nat) : Bool := decide (0 ≤ p.getD i 0) && decide (p.getD i 0 ≤ 2 ^ i - 1) && allFrom (fun j => !(L p i).testBit j || decide (Go.bits .andNot .i64 (p.getD j 0) (p.getD i 0) = 0)) i 0
def isPo (p : List Int) : Bool := decide (1 ≤ p.length) && decide (p.length ≤ 10) && allFrom (rowOk p) p.length 0
structure PO (p : List Int) : Prop where
  pos : 1 ≤ p.length
  small : p.length ≤ 10
  val : ∀ i, i < p.length → p.getD i 0 = (L p i : Int)
  lt : ∀ i, i < p.length → L p i < 2 ^ i
  tr : ∀ i j, i < p.length → (L p i).testBit j = true → ndiff (L p j) (L p i) = 0
theorem L_big {p : List Int} {i : Nat} (h : p.length ≤ i) : L p i = 0 := by
  unfold L; rw [List.getD_eq_getElem?_getD, List.getElem?_eq_none h]; rfl
theorem isPo_iff (p : List Int) : isPo p = true ↔ PO p := by
  unfold isPo
  rw [Bool.and_eq_true, Bool.and_eq_true, decide_eq_true_eq, decide_eq_true_eq, allFrom_iff]
  constructor
  · rintro ⟨⟨h1, h2⟩, h3⟩
    have hv : ∀ i, i < p.length → p.getD i 0 = (L p i : Int) ∧ L p i < 2 ^ i := by
      intro i hi
      have := h3 i (Nat.zero_le _) hi
      simp only [rowOk, Bool.and_eq_true, decide_eq_true_eq] at this
      obtain ⟨⟨a, b⟩, _⟩ := this
      rw [pow_int] at b
      have hp : 0 < 2 ^ i := Nat.two_pow_pos i
      unfold L
      generalize 2 ^ i = z at *
      omega
    refine ⟨h1, h2, fun i hi => (hv i hi).1, fun i hi => (hv i hi).2, fun i j hi hj => ?_⟩
    have hji : j < i := lt_of_bit (hv i hi).2 hj
    have := h3 i (Nat.zero_le _) hi
    simp only [rowOk, Bool.and_eq_true] at this
    have h4 := (allFrom_iff _ _ _).1 this.2 j (Nat.zero_le _) hji
    rw [hj] at h4
    simp only [Bool.not_true, Bool.false_or, decide_eq_true_eq] at h4
    rw [(hv i hi).1, (hv j (by omega)).1, bits_andNotN (lt_pow (hv j (by omega)).2 (by omega)) (lt_pow (hv i hi).2 (by omega))] at h4
    exact_mod_cast h4
  · intro h
    refine ⟨⟨h.pos, h.small⟩, fun i _ hi => ?_⟩
    have hs := h.small
    have hl := h.lt i hi
    simp only [rowOk, Bool.and_eq_true, decide_eq_true_eq]
    refine ⟨⟨by rw [h.val i hi]; omega, by rw [h.val i hi, pow_int]; generalize 2 ^ i = z at *; omega⟩, ?_⟩
    rw [allFrom_iff]
    intro j _ hj
    cases hb : (L p i).testBit j with
    | false => rfl
    | true =>
      simp only [Bool.not_true, Bool.false_or, decide_eq_true_eq]
      rw [h.val i hi, h.val j (by omega), bits_andNotN (lt_pow (h.lt j (by omega)) (by omega)) (lt_pow hl (by omega)), h.tr i j hi hb]
      rfl
theorem isPo_false {p : List Int} (h : ¬ PO p) : isPo p = false := by
  cases e : isPo p with
  | false => rfl
  | true => exact absurd ((isPo_iff p).1 e) h

/-- The elements of a set, in order. -/
def itemsN (m : Nat) : List Nat := (List.range 10).filter m.testBit
def ints (l : List Nat) : List Int := l.map Int.ofNat
theorem ints_len (l : List Nat) : (ints l).length = l.length := by simp [ints]
theorem ints_app (a b : List Nat) : ints (a ++ b) = ints a ++ ints b := by simp [ints]
theorem ints_get (l : List Nat) (i : Nat) : (ints l).getD i 0 = ((l.getD i 0 : Nat) : Int) := by
  simp only [ints, List.getD_eq_getElem?_getD, List.getElem?_map]
  cases l[i]? <;> rfl
theorem rd_ints (l : List Nat) (i : Nat) : rd (ints l) (i : Int) = ((l.getD i 0 : Nat) : Int) := by rw [rdN, ints_get]
theorem mem_itemsN {m j : Nat} : j ∈ itemsN m ↔ j < 10 ∧ m.testBit j = true := by
  unfold itemsN; rw [List.mem_filter, List.mem_range]
theorem itemsN_len (m : Nat) : (itemsN m).length ≤ 10 := by
  unfold itemsN; have := List.length_filter_le m.testBit (List.range 10); simpa using this
theorem rowOk_false {p : List Int} {i : Nat} (h : ¬ (0 ≤ p.getD i 0 ∧ p.getD i 0 ≤ 2 ^ i - 1)) : rowOk p i = false := by
  unfold rowOk; rw [range_false h]; rfl
theorem rowOk_true {p : List Int} {i : Nat} (h : 0 ≤ p.getD i 0 ∧ p.getD i 0 ≤ 2 ^ i - 1) :
    rowOk p i = allFrom (fun j => !(L p i).testBit j || decide (Go.bits .andNot .i64 (p.getD j 0) (p.getD i 0) = 0)) i 0 := by
  unfold rowOk; rw [range_true h]; rfl
theorem all_drop_step {α : Type} (f : α → Bool) (l : List α) (d : α) {i : Nat} (h : i < l.length) : (l.drop i).all f = (f (l.getD i d) && (l.drop (i + 1)).all f) := by
  rw [List.drop_eq_getElem_cons h, List.all_cons, List.getD_eq_getElem?_getD, List.getElem?_eq_getElem h]; rfl
theorem items_lt {m i : Nat} {j : Nat} (hm : m < 2 ^ i) (hj : j < (itemsN m).length) : (itemsN m).getD j 0 < i := by
  rw [List.getD_eq_getElem?_getD, List.getElem?_eq_getElem hj]
  have := List.getElem_mem hj
  exact lt_of_bit hm (mem_itemsN.1 this).2
theorem items_all {m i : Nat} (hm : m < 2 ^ i) (hi : i ≤ 10) (f : Nat → Bool) : (itemsN m).all f = allFrom (fun j => !m.testBit j || f j) i 0 := by
  rw [Bool.eq_iff_iff, List.all_eq_true, allFrom_iff]
  constructor
  · intro h j _ hj
    cases hb : m.testBit j with
    | false => rfl
    | true => rw [h j (mem_itemsN.2 ⟨by omega, hb⟩)]; rfl
  · intro h j hj
    obtain ⟨h1, h2⟩ := mem_itemsN.1 hj
    have := h j (Nat.zero_le _) (lt_of_bit hm h2)
    rw [h2] at this
    simpa using this
end Go.Proofs.Ytjahclncpgllmaa.Q
end

section
namespace Go.Proofs.Ytjahclncpgllmaa.Q
open Go.RowKit Go.Proofs.YtjahclncpgllmaaW.PrintWords Go.Proofs.Ytjahclncpgllmaa.F
set_option linter.unusedVariables false
theorem items_ev (m : Nat) (hm : m < 2 ^ 62) : Ev (fun k => impl_items.f k (m : Int)) (ints (itemsN m)) := by
  show Ev (fun k => impl_items.l0 k (m : Int) [] 0) _
  have key : ∀ i, i ≤ 10 → ∀ acc : List Int, acc.length ≤ i → Ev (fun k => impl_items.l0 k (m : Int) acc (i : Int)) (acc ++ ints ((List.range' i (10 - i)).filter m.testBit)) := by
    refine downTo 10 ?_ ?_
    · intro acc _
      refine Ev.step (by intro k; simp only [impl_items.l0]; rfl) ?_
      refine Ev.no (by omega) (Ev.ret (by simp [ints]))
    · intro i hi ih acc ha
      refine Ev.step (by intro k; simp only [impl_items.l0]; rfl) ?_
      refine Ev.yes (by omega) (Ev.call (has_eq hm (by omega)) ?_)
      have hr : List.range' i (10 - i) = i :: List.range' (i + 1) (10 - (i + 1)) := by
        rw [show 10 - i = (10 - (i + 1)) + 1 by omega, List.range'_succ]
      rw [hr, wid1 hi (by omega)]
      cases hb : m.testBit i with
      | true =>
        refine Ev.yes rfl (Ev.yes (by omega) (evc (ih (acc ++ [(i : Int)]) (by simp; omega)) ?_))
        rw [List.filter_cons_of_pos hb]
        simp [ints]
      | false =>
        refine Ev.no (by simp) (evc (ih acc (by omega)) ?_)
        rw [List.filter_cons_of_neg (by simp [hb])]
  have := key 0 (by omega) [] (by simp)
  exact evc this (by simp [itemsN, List.range_eq_range'])

end Go.Proofs.Ytjahclncpgllmaa.Q
end

section
namespace Go.Proofs.Ytjahclncpgllmaa.Q
open Go.RowKit Go.Proofs.YtjahclncpgllmaaW.PrintWords
set_option linter.unusedVariables false
/-- The set of the e below n with c e. -/
def maskOf : Nat → (Nat → Bool) → Nat
  | 0, _ => 0
  | n + 1, c => if c n then maskOf n c ||| 2 ^ n else maskOf n c
theorem maskOf_bit (n : Nat) (c : Nat → Bool) (i : Nat) : (maskOf n c).testBit i = (decide (i < n) && c i) := by
  induction n with
  | zero => simp [maskOf]
  | succ n ih =>
    unfold maskOf
    by_cases hc : c n = true
    · rw [if_pos hc, Nat.testBit_or, ih, pow_bit]
      by_cases h : n = i
      · subst h; simp [hc]
      · have : decide (i < n + 1) = decide (i < n) := by rw [decide_eq_decide]; omega
        rw [this]; simp [h]
    · rw [if_neg hc, ih]
      by_cases h : n = i
      · subst h; simp at hc; simp [hc]
      · have : decide (i < n + 1) = decide (i < n) := by rw [decide_eq_decide]; omega
        rw [this]
theorem maskOf_lt (n : Nat) (c : Nat → Bool) : maskOf n c < 2 ^ n := by
  apply Nat.lt_pow_two_of_testBit
  intro i hi
  rw [maskOf_bit, decide_eq_false (by omega)]; rfl
def subB (a b : Nat) : Bool := ndiff a b == 0
theorem ndiff_zero {a b : Nat} : ndiff a b = 0 ↔ ∀ i, a.testBit i = true → b.testBit i = true := by
  constructor
  · intro h i hi
    have := ndiff_bit a b i
    rw [h, hi, Nat.zero_testBit] at this
    cases hb : b.testBit i with
    | true => rfl
    | false => rw [hb] at this; simp at this
  · intro h
    apply Nat.eq_of_testBit_eq
    intro i
    rw [ndiff_bit, Nat.zero_testBit]
    cases ha : a.testBit i with
    | false => rfl
    | true => rw [h i ha]; rfl
theorem subB_iff {a b : Nat} : subB a b = true ↔ ∀ i, a.testBit i = true → b.testBit i = true := by unfold subB; rw [beq_iff_eq]; exact ndiff_zero
/-- The set of all elements of a poset. -/
def allN (p : List Int) : Nat := 2 ^ p.length - 1
theorem allN_bit (p : List Int) (i : Nat) : (allN p).testBit i = decide (i < p.length) := by unfold allN; rw [Nat.testBit_two_pow_sub_one]
theorem allN_lt (p : List Int) : allN p < 2 ^ p.length := by unfold allN; have := Nat.two_pow_pos p.length; omega
/-- A number that is a set of elements of p. -/
def setB (p : List Int) (x : Int) : Bool := decide (0 ≤ x) && decide (x ≤ ((allN p : Nat) : Int))
theorem setB_iff {p : List Int} {x : Int} : setB p x = true ↔ ∃ s : Nat, x = (s : Int) ∧ s < 2 ^ p.length := by
  unfold setB
  rw [Bool.and_eq_true, decide_eq_true_eq, decide_eq_true_eq]
  have := Nat.two_pow_pos p.length
  unfold allN
  constructor
  · rintro ⟨h1, h2⟩; exact ⟨x.toNat, by omega, by omega⟩
  · rintro ⟨s, rfl, h⟩; omega
/-- A set that has with each element all that are less. -/
def idealB (p : List Int) (s : Nat) : Bool := allFrom (fun i => !s.testBit i || subB (L p i) s) p.length 0
theorem idealB_iff {p : List Int} {s : Nat} : idealB p s = true ↔ ∀ i, i < p.length → s.testBit i = true → ∀ j, (L p i).testBit j = true → s.testBit j = true := by
  unfold idealB
  rw [allFrom_iff]
  constructor
  · intro h i hi hs
    have := h i (Nat.zero_le _) hi
    rw [hs] at this
    exact subB_iff.1 (by simpa using this)
  · intro h i _ hi
    cases hs : s.testBit i with
    | false => rfl
    | true => rw [subB_iff.2 (h i hi hs)]; rfl
def closeN (p : List Int) (s : Nat) : Nat := (itemsN s).foldl (fun a e => a ||| L p e) s
theorem foldl_or_bit (g : Nat → Nat) (l : List Nat) (a i : Nat) : (l.foldl (fun a e => a ||| g e) a).testBit i = (a.testBit i || l.any fun e => (g e).testBit i) := by
  induction l generalizing a with
  | nil => simp
  | cons x l ih => rw [List.foldl_cons, ih, Nat.testBit_or, List.any_cons, Bool.or_assoc]
theorem closeN_bit {p : List Int} {s i : Nat} : (closeN p s).testBit i = (s.testBit i || (itemsN s).any fun e => (L p e).testBit i) := foldl_or_bit _ _ _ _
theorem closeN_eq {p : List Int} (hp : PO p) {s : Nat} (hs : s < 2 ^ p.length) : (closeN p s == s) = idealB p s := by
  have hn := hp.small
  rw [Bool.eq_iff_iff, beq_iff_eq, idealB_iff]
  constructor
  · intro h i hi hb j hj
    have := closeN_bit (p := p) (s := s) (i := j)
    rw [h] at this
    rw [this]
    have : (itemsN s).any (fun e => (L p e).testBit j) = true := List.any_eq_true.2 ⟨i, mem_itemsN.2 ⟨by omega, hb⟩, hj⟩
    rw [this]; simp
  · intro h
    apply Nat.eq_of_testBit_eq
    intro i
    rw [closeN_bit]
    cases hb : s.testBit i with
    | true => rfl
    | false =>
      rw [Bool.false_or, ← Bool.not_eq_true, List.any_eq_true]
      rintro ⟨e, he, hj⟩
      obtain ⟨_, h2⟩ := mem_itemsN.1 he
      have := h e (lt_of_bit hs h2) h2 i hj
      rw [this] at hb; cases hb
theorem L_lt {p : List Int} (hp : PO p) {i : Nat} (hi : i < p.length) : L p i < 2 ^ p.length := lt_pow (hp.lt i hi) (by omega)
theorem foldl_or_lt (g : Nat → Nat) (l : List Nat) (a n : Nat) (ha : a < 2 ^ n) (hg : ∀ e, e ∈ l → g e < 2 ^ n) : l.foldl (fun a e => a ||| g e) a < 2 ^ n := by
  induction l generalizing a with
  | nil => exact ha
  | cons x l ih => exact ih _ (or_lt ha (hg x List.mem_cons_self)) (fun e he => hg e (List.mem_cons_of_mem _ he))
theorem closeN_lt {p : List Int} (hp : PO p) {s : Nat} (hs : s < 2 ^ p.length) : closeN p s < 2 ^ p.length :=
  foldl_or_lt _ _ _ _ hs (fun e he => L_lt hp (lt_of_bit hs (mem_itemsN.1 he).2))
theorem foldl_drop_step {α β : Type} (f : β → α → β) (l : List α) (d : α) (b : β) {i : Nat} (h : i < l.length) : (l.drop i).foldl f b = (l.drop (i + 1)).foldl f (f b (l.getD i d)) := by
  rw [List.drop_eq_getElem_cons h, List.foldl_cons, List.getD_eq_getElem?_getD, List.getElem?_eq_getElem h]; rfl
end Go.Proofs.Ytjahclncpgllmaa.Q
end

section
namespace Go.Proofs.Ytjahclncpgllmaa.Q
open Go.RowKit Go.Proofs.YtjahclncpgllmaaW.PrintWords Go.Proofs.Ytjahclncpgllmaa.F
set_option linter.unusedVariables false
theorem all_eq {p : List Int} (h : p.length ≤ 61) : impl_Poset_all.f p = some ((allN p : Nat) : Int) := by
  unfold impl_Poset_all.f
  rw [show impl_Poset_n.f p = some (p.length : Int) from rfl]
  simp only [Option.bind_some]
  rw [if_pos (by omega), mask_eq h, pow_int]
  unfold allN
  have := Nat.two_pow_pos p.length
  congr 1
  omega
end Go.Proofs.Ytjahclncpgllmaa.Q
end

section
namespace Go.Proofs.Ytjahclncpgllmaa.Q
open Go.RowKit Go.Proofs.YtjahclncpgllmaaW.PrintWords
set_option linter.unusedVariables false
/-- The elements of l are put behind the set s one by one, each behind all that are less. -/
def ordRun (p : List Int) : Nat → List Int → Option Nat
  | s, [] => some s
  | s, e :: l => if (0 ≤ e ∧ e < (p.length : Int)) ∧ s.testBit e.toNat = false ∧ subB (L p e.toNat) s = true then ordRun p (s ||| 2 ^ e.toNat) l else none
def ordB (p w : List Int) : Bool := ordRun p 0 w == some (allN p)
theorem ordB_iff {p w : List Int} : ordB p w = true ↔ ordRun p 0 w = some (allN p) := by unfold ordB; rw [beq_iff_eq]
theorem ordRun_app (p x y : List Int) : ∀ s, ordRun p s (x ++ y) = (ordRun p s x).bind fun t => ordRun p t y := by
  induction x with
  | nil => intro s; rfl
  | cons e x ih =>
    intro s
    simp only [List.cons_append, ordRun]
    split
    · exact ih _
    · rfl
theorem ordRun_range {p l : List Int} : ∀ {s t : Nat}, ordRun p s l = some t → ∀ e ∈ l, 0 ≤ e ∧ e < (p.length : Int) := by
  induction l with
  | nil => intro s t h e he; cases he
  | cons x l ih =>
    intro s t h e he
    simp only [ordRun] at h
    split at h
    · rename_i hc
      rcases List.mem_cons.1 he with rfl | he
      · exact hc.1
      · exact ih h e he
    · cases h
def pcard (n s : Nat) : Nat := (List.range n).countP s.testBit
theorem pcard_succ (n s : Nat) : pcard (n + 1) s = pcard n s + if s.testBit n then 1 else 0 := by
  unfold pcard; rw [List.range_succ, List.countP_append, List.countP_singleton]
theorem pcard_above {n e : Nat} (s : Nat) (h : n ≤ e) : pcard n (s ||| 2 ^ e) = pcard n s := by
  unfold pcard
  apply List.countP_congr
  intro x hx
  rw [List.mem_range] at hx
  rw [Nat.testBit_or, pow_bit, decide_eq_false (by omega), Bool.or_false]
theorem pcard_add {n s e : Nat} (he : e < n) (hb : s.testBit e = false) : pcard n (s ||| 2 ^ e) = pcard n s + 1 := by
  induction n with
  | zero => omega
  | succ n ih =>
    rw [pcard_succ, pcard_succ, Nat.testBit_or, pow_bit]
    rcases Nat.lt_succ_iff_lt_or_eq.1 he with h | h
    · rw [ih h, decide_eq_false (by omega), Bool.or_false]; omega
    · subst h; rw [pcard_above s (Nat.le_refl _), hb]; simp
theorem pcard_zero (n : Nat) : pcard n 0 = 0 := by unfold pcard; rw [List.countP_eq_zero]; intro x _; simp
theorem pcard_le (n s : Nat) : pcard n s ≤ n := by unfold pcard; have := List.countP_le_length (p := s.testBit) (l := List.range n); simpa using this
theorem pcard_all (p : List Int) : pcard p.length (allN p) = p.length := by
  unfold pcard
  have : (List.range p.length).countP (allN p).testBit = (List.range p.length).length := by
    rw [List.countP_eq_length]; intro x hx; rw [List.mem_range] at hx; rw [allN_bit, decide_eq_true hx]
  rw [this, List.length_range]
theorem all_of_pcard {p : List Int} {s : Nat} (hs : s < 2 ^ p.length) (h : pcard p.length s = p.length) : s = allN p := by
  refine ext_bits hs (allN_lt p) (fun i hi => ?_)
  rw [allN_bit, decide_eq_true hi]
  have h2 : (List.range p.length).countP s.testBit = (List.range p.length).length := by rw [List.length_range]; exact h
  rw [List.countP_eq_length] at h2
  exact h2 i (List.mem_range.2 hi)
theorem ordRun_card {p l : List Int} : ∀ {s t : Nat}, s < 2 ^ p.length → ordRun p s l = some t → t < 2 ^ p.length ∧ pcard p.length t = pcard p.length s + l.length := by
  induction l with
  | nil => intro s t hs h; simp only [ordRun, Option.some.injEq] at h; subst h; exact ⟨hs, rfl⟩
  | cons x l ih =>
    intro s t hs h
    simp only [ordRun] at h
    split at h
    · rename_i hc
      obtain ⟨⟨h0, h1⟩, h2, h3⟩ := hc
      have hx : x.toNat < p.length := by omega
      obtain ⟨g1, g2⟩ := ih (or_lt hs (pow_lt_pow hx)) h
      refine ⟨g1, ?_⟩
      rw [g2, pcard_add hx h2, List.length_cons]; omega
    · cases h
theorem ordB_len {p w : List Int} (h : ordB p w = true) : w.length = p.length := by
  have := (ordRun_card (Nat.two_pow_pos _) (ordB_iff.1 h)).2
  rw [pcard_all, pcard_zero] at this; omega
theorem ordB_eq (p w : List Int) : (decide (w.length = p.length) && (ordRun p 0 w).isSome) = ordB p w := by
  rw [Bool.eq_iff_iff, Bool.and_eq_true, decide_eq_true_eq]
  constructor
  · rintro ⟨hl, hs⟩
    obtain ⟨t, ht⟩ := Option.isSome_iff_exists.1 hs
    obtain ⟨g1, g2⟩ := ordRun_card (Nat.two_pow_pos _) ht
    rw [pcard_zero, hl, Nat.zero_add] at g2
    rw [ordB_iff, ht, all_of_pcard g1 g2]
  · intro h
    exact ⟨ordB_len h, by rw [ordB_iff.1 h]; rfl⟩
theorem ordB_range {p w : List Int} (h : ordB p w = true) : ∀ e ∈ w, 0 ≤ e ∧ e < (p.length : Int) := ordRun_range (ordB_iff.1 h)
theorem drop_getD (w : List Int) {i : Nat} (h : i < w.length) : w.drop i = w.getD i 0 :: w.drop (i + 1) := by
  rw [List.drop_eq_getElem_cons h, List.getD_eq_getElem?_getD, List.getElem?_eq_getElem h]; rfl
end Go.Proofs.Ytjahclncpgllmaa.Q
end

section
namespace Go.Proofs.Ytjahclncpgllmaa.Q
open Go.RowKit Go.Proofs.YtjahclncpgllmaaW.PrintWords Go.Proofs.Ytjahclncpgllmaa.F
set_option linter.unusedVariables false
theorem liIs_ev {p : List Int} (hp : PO p) (w : List Int) : Ev (fun k => spec_liIs.f k p w) (ordB p w) := by
  have hn := hp.small
  have hn1 := hp.pos
  rw [← ordB_eq]
  unfold spec_liIs.f
  by_cases hl : w.length = p.length
  rotate_left
  · refine Ev.no (by omega) (Ev.step (by intro k; simp only [spec_liIs.j0]; rfl) (Ev.yes (show true = true from rfl) (Ev.ret ?_)))
    rw [decide_eq_false hl]; rfl
  refine Ev.yes (by omega) ?_
  rw [decide_eq_true hl, Bool.true_and, show wrap64 ((w.length : Int) - 1) = (w.length : Int) - 1 from wid (by omega) (by omega)]
  refine Ev.bind (l1All_ev w 0 _ (by omega)) ?_
  cases hall : allFrom (fun i => inR 0 ((w.length : Int) - 1) (w.getD i 0)) w.length 0 with
  | false =>
    refine Ev.step (by intro k; simp only [spec_liIs.j0]; rfl) (Ev.ret ?_)
    cases ho : ordRun p 0 w with
    | none => rfl
    | some t =>
      have hr := ordRun_range ho
      have : allFrom (fun i => inR 0 ((w.length : Int) - 1) (w.getD i 0)) w.length 0 = true := by
        rw [allFrom_iff]
        intro j _ hj
        rw [inR_iff, List.getD_eq_getElem?_getD, List.getElem?_eq_getElem hj]
        have := hr _ (List.getElem_mem hj)
        show 0 ≤ w[j] ∧ w[j] ≤ _
        omega
      rw [this] at hall; cases hall
  | true =>
  refine Ev.step (by intro k; simp only [spec_liIs.j0]; rfl) (Ev.no (by simp) ?_)
  have hin : ∀ i, i < w.length → 0 ≤ w.getD i 0 ∧ w.getD i 0 ≤ (w.length : Int) - 1 := fun i hi => inR_iff.1 ((allFrom_iff _ _ _).1 hall i (Nat.zero_le _) hi)
  have key : ∀ i, i ≤ w.length → ∀ s : Nat, s < 2 ^ p.length → Ev (fun k => spec_liIs.l0 k (s : Int) w (w.length : Int) (i : Int) p) (ordRun p s (w.drop i)).isSome := by
    refine downTo _ ?_ ?_
    · intro s hs
      refine Ev.step (by intro k; simp only [spec_liIs.l0]; rfl) (Ev.no (by omega) (Ev.ret ?_))
      rw [List.drop_length]; rfl
    · intro i hi ih s hs
      refine Ev.step (by intro k; simp only [spec_liIs.l0]; rfl) (Ev.yes (by omega) (Ev.yes (by omega) (Ev.yes (by omega) ?_)))
      have h1 := hin i hi
      rw [rdN, drop_getD w hi, wid1 hi (by omega)]
      generalize w.getD i 0 = e at h1
      simp only [ordRun]
      obtain ⟨x, rfl⟩ := Int.eq_ofNat_of_zero_le h1.1
      have hx : x < p.length := by omega
      refine Ev.call (poIn_eq (by omega)) ?_
      rw [Int.toNat_natCast]
      by_cases h2 : s.testBit x = true
      · exact Ev.yes h2 (Ev.ret (by rw [if_neg (fun h => by rw [h.2.1] at h2; cases h2)]; rfl))
      refine Ev.no h2 (Ev.yes (by omega) (Ev.yes (by omega) ?_))
      rw [rdN, hp.val x hx, bits_andNotN (lt_pow (L_lt hp hx) (by omega)) (lt_pow hs (by omega))]
      by_cases h3 : subB (L p x) s = true
      · have h4 : ndiff (L p x) s = 0 := by unfold subB at h3; exact beq_iff_eq.1 h3
        refine Ev.yes (by rw [h4]; rfl) ?_
        rw [shlN (by omega), bits_orN (lt_pow hs (by omega)) (Nat.pow_lt_pow_right (by decide) (by omega)), if_pos ⟨by omega, by simpa using h2, h3⟩]
        exact ih _ (or_lt hs (pow_lt_pow hx))
      · have h4 : ¬ (((ndiff (L p x) s : Nat) : Int) = 0) := fun h => h3 (by unfold subB; rw [beq_iff_eq]; exact_mod_cast h)
        exact Ev.no h4 (Ev.ret (by rw [if_neg (fun h => h3 h.2.2)]; rfl))
  have := key 0 (by omega) 0 (Nat.two_pow_pos _)
  rw [List.drop_zero] at this
  exact this
end Go.Proofs.Ytjahclncpgllmaa.Q
end

section
namespace Go.Proofs.Ytjahclncpgllmaa.Q
open Go.RowKit Go.Proofs.YtjahclncpgllmaaW.PrintWords
set_option linter.unusedVariables false
theorem sizes_eq (n : Nat) : (decide ((1 : Int) ≤ (n : Int)) && decide ((n : Int) ≤ 10)) = (decide (1 ≤ n) && decide (n ≤ 10)) := by
  rw [Bool.eq_iff_iff]; simp only [Bool.and_eq_true, decide_eq_true_eq]; omega
end Go.Proofs.Ytjahclncpgllmaa.Q
end

section
namespace Go.Proofs.Ytjahclncpgllmaa.Q
open Go.RowKit Go.Proofs.YtjahclncpgllmaaW.PrintWords Go.Proofs.Ytjahclncpgllmaa.F
set_option linter.unusedVariables false
theorem poGood_ev (p : List Int) : Ev (fun k => spec_poGood.f k p) (isPo p) := by
  unfold spec_poGood.f
  refine Ev.call (l1In_eq _ _ _) ?_
  unfold isPo
  rw [sizes_eq]
  cases hs : (decide (1 ≤ p.length) && decide (p.length ≤ 10)) with
  | false => exact Ev.no (by simp) (Ev.ret rfl)
  | true =>
  refine Ev.yes rfl ?_
  rw [Bool.and_eq_true, decide_eq_true_eq, decide_eq_true_eq] at hs
  obtain ⟨h1, h2⟩ := hs
  have key : ∀ i, i ≤ p.length → Ev (fun k => spec_poGood.l0 k p (p.length : Int) (i : Int) p) (allFrom (rowOk p) p.length i) := by
    refine downTo p.length ?_ ?_
    · refine Ev.step (by intro k; simp only [spec_poGood.l0]; rfl) ?_
      exact Ev.no (by omega) (Ev.ret (allFrom_end _ _).symm)
    · intro i hi ih
      refine Ev.step (by intro k; simp only [spec_poGood.l0]; rfl) ?_
      refine Ev.yes (by omega) (Ev.yes (by omega) (Ev.yes (by omega) ?_))
      rw [rdN, mask_eq (by omega)]
      refine Ev.call (l1In_eq _ _ _) ?_
      rw [allFrom_step _ hi]
      by_cases hb : 0 ≤ p.getD i 0 ∧ p.getD i 0 ≤ 2 ^ i - 1
      rotate_left
      · exact Ev.no (by rw [range_false hb]; simp) (Ev.ret (by rw [rowOk_false hb]; rfl))
      refine Ev.yes (range_true hb) ?_
      have hv : p.getD i 0 = (L p i : Int) := by unfold L; omega
      rw [rowOk_true hb]
      generalize hx : p.getD i 0 = x at *
      have inner : ∀ j, j ≤ i → Ev (fun k => spec_poGood.l1 k (i : Int) x (j : Int) p (p.length : Int) (i : Int) p)
          (allFrom (fun j => !(L p i).testBit j || decide (Go.bits .andNot .i64 (p.getD j 0) x = 0)) i j && allFrom (rowOk p) p.length (i + 1)) := by
        refine downTo i ?_ ?_
        · refine Ev.step (by intro k; simp only [spec_poGood.l1]; rfl) ?_
          refine Ev.no (by omega) ?_
          rw [wid1 hi (by omega), allFrom_end, Bool.true_and]
          exact ih
        · intro j hj ihj
          refine Ev.step (by intro k; simp only [spec_poGood.l1]; rfl) ?_
          refine Ev.yes (by omega) (Ev.yes (by omega) ?_)
          rw [allFrom_step _ hj, wid1 hj (by omega), rdN]
          cases hbit : (L p i).testBit j with
          | false => exact Ev.no (by rw [hv, bit_test (by omega), hbit]; simp) (evc ihj (by simp))
          | true =>
            refine Ev.yes (by rw [hv, bit_test (by omega), hbit]) (Ev.yes (by omega) ?_)
            refine Ev.ite (fun h => evc ihj ?_) (fun h => Ev.ret ?_)
            · rw [decide_eq_true h]; simp
            · rw [decide_eq_false h]; simp
      exact inner 0 (by omega)
  exact key 0 (by omega)
end Go.Proofs.Ytjahclncpgllmaa.Q
end

section
namespace Go.Proofs.Ytjahclncpgllmaa.Q
open Go.RowKit Go.Proofs.YtjahclncpgllmaaW.PrintWords Go.Proofs.Ytjahclncpgllmaa.F
set_option linter.unusedVariables false
theorem within_eq (a b c : Int) : impl_within.f a b c = some (decide (b ≤ a) && decide (a ≤ c)) := by
  unfold impl_within.f
  by_cases h : b ≤ a
  · rw [if_pos h]; simp [h]
  · rw [if_neg h]; simp [h]
end Go.Proofs.Ytjahclncpgllmaa.Q
end

section
namespace Go.Proofs.Ytjahclncpgllmaa.Q
open Go.RowKit Go.Proofs.YtjahclncpgllmaaW.PrintWords Go.Proofs.Ytjahclncpgllmaa.F
set_option linter.unusedVariables false
theorem isOrder_ev {p : List Int} (hp : PO p) (w : List Int) (hw : w.length ≤ 9223372036854775807) : Ev (fun k => impl_isOrder.f k p w) (ordB p w) := by
  have hn := hp.small
  have hn1 := hp.pos
  unfold impl_isOrder.f ordB
  have key : ∀ i, i ≤ w.length → ∀ s : Nat, s < 2 ^ p.length → Ev (fun k => impl_isOrder.l0 k (s : Int) w (w.length : Int) (i : Int) p) (ordRun p s (w.drop i) == some (allN p)) := by
    refine downTo _ ?_ ?_
    · intro s hs
      refine Ev.step (by intro k; simp only [impl_isOrder.l0]; rfl) (Ev.no (by omega) (Ev.call (all_eq (by omega)) (Ev.ret ?_)))
      rw [List.drop_length]
      simp only [ordRun]
      rw [Bool.eq_iff_iff, beq_iff_eq, beq_iff_eq, Option.some.injEq]
      omega
    · intro i hi ih s hs
      refine Ev.step (by intro k; simp only [impl_isOrder.l0]; rfl) (Ev.yes (by omega) (Ev.yes (by omega) (Ev.yes (by omega) ?_)))
      rw [rdN, drop_getD w hi, wid1 hi (by omega)]
      generalize w.getD i 0 = e
      refine Ev.call (show impl_Poset_n.f p = some (p.length : Int) from rfl) (Ev.call (within_eq _ _ _) ?_)
      rw [show wrap64 ((p.length : Int) - 1) = (p.length : Int) - 1 from wid (by omega) (by omega)]
      simp only [ordRun]
      by_cases h1 : 0 ≤ e ∧ e < (p.length : Int)
      rotate_left
      · exact Ev.no (by rw [range_false (by omega)]; simp) (Ev.ret (by rw [if_neg (fun h => h1 h.1)]; rfl))
      refine Ev.yes (range_true (by omega)) ?_
      obtain ⟨x, rfl⟩ := Int.eq_ofNat_of_zero_le h1.1
      have hx : x < p.length := by omega
      refine Ev.call (has_eq (lt_pow hs (by omega)) (by omega)) ?_
      rw [Int.toNat_natCast]
      by_cases h2 : s.testBit x = true
      · exact Ev.yes h2 (Ev.ret (by rw [if_neg (fun h => by rw [h.2.1] at h2; cases h2)]; rfl))
      refine Ev.no h2 (Ev.yes (by omega) (Ev.yes (by omega) ?_))
      rw [rdN, hp.val x hx, bits_andNotN (lt_pow (L_lt hp hx) (by omega)) (lt_pow hs (by omega))]
      by_cases h3 : subB (L p x) s = true
      · have h4 : ndiff (L p x) s = 0 := by unfold subB at h3; exact beq_iff_eq.1 h3
        refine Ev.yes (by rw [h4]; rfl) ?_
        rw [shlN (by omega), bits_orN (lt_pow hs (by omega)) (Nat.pow_lt_pow_right (by decide) (by omega)), if_pos ⟨h1, by simpa using h2, h3⟩]
        exact ih _ (or_lt hs (pow_lt_pow hx))
      · have h4 : ¬ (((ndiff (L p x) s : Nat) : Int) = 0) := fun h => h3 (by unfold subB; rw [beq_iff_eq]; exact_mod_cast h)
        exact Ev.no h4 (Ev.ret (by rw [if_neg (fun h => h3 h.2.2)]; rfl))
  have := key 0 (by omega) 0 (Nat.two_pow_pos _)
  rw [List.drop_zero] at this
  exact this
end Go.Proofs.Ytjahclncpgllmaa.Q
end

section
namespace Go.Proofs.Ytjahclncpgllmaa.Q
open Go.RowKit Go.Proofs.YtjahclncpgllmaaW.PrintWords Go.Proofs.Ytjahclncpgllmaa.F
set_option linter.unusedVariables false
theorem IsPoset_ev (p : List Int) : Ev (fun k => impl_IsPoset.f k p) (isPo p) := by
  unfold impl_IsPoset.f
  refine Ev.call (show impl_Poset_n.f p = some (p.length : Int) from rfl) (Ev.call (within_eq _ _ _) ?_)
  unfold isPo
  rw [sizes_eq]
  cases hs : (decide (1 ≤ p.length) && decide (p.length ≤ 10)) with
  | false => exact Ev.no (by simp) (Ev.ret rfl)
  | true =>
  refine Ev.yes rfl ?_
  rw [Bool.and_eq_true, decide_eq_true_eq, decide_eq_true_eq] at hs
  obtain ⟨h1, h2⟩ := hs
  have key : ∀ i, i ≤ p.length → Ev (fun k => impl_IsPoset.l0 k p (p.length : Int) (i : Int) p) (allFrom (rowOk p) p.length i) := by
    refine downTo p.length ?_ ?_
    · refine Ev.step (by intro k; simp only [impl_IsPoset.l0]; rfl) ?_
      exact Ev.no (by omega) (Ev.ret (allFrom_end _ _).symm)
    · intro i hi ih
      refine Ev.step (by intro k; simp only [impl_IsPoset.l0]; rfl) ?_
      refine Ev.yes (by omega) (Ev.yes (by omega) (Ev.yes (by omega) ?_))
      rw [rdN, mask_eq (by omega)]
      refine Ev.call (within_eq _ _ _) ?_
      rw [allFrom_step _ hi]
      by_cases hb : 0 ≤ p.getD i 0 ∧ p.getD i 0 ≤ 2 ^ i - 1
      rotate_left
      · exact Ev.no (by rw [range_false hb]; simp) (Ev.ret (by rw [rowOk_false hb]; rfl))
      refine Ev.yes (range_true hb) ?_
      have hv : p.getD i 0 = (L p i : Int) := by unfold L; omega
      have hm : L p i < 2 ^ i := by
        have := hb.2
        rw [hv, pow_int] at this
        have hp : 0 < 2 ^ i := Nat.two_pow_pos i
        generalize 2 ^ i = z at *
        omega
      rw [rowOk_true hb, ← items_all hm (by omega) (fun j => decide (Go.bits .andNot .i64 (p.getD j 0) (p.getD i 0) = 0)), hv]
      refine Ev.bind (items_ev _ (lt_pow hm (by omega))) ?_
      have inner : ∀ j, j ≤ (itemsN (L p i)).length → Ev (fun k => impl_IsPoset.l1 k (L p i : Int) p (p.length : Int) (i : Int) (ints (itemsN (L p i))) ((ints (itemsN (L p i))).length : Int) (j : Int) p)
          (((itemsN (L p i)).drop j).all (fun j => decide (Go.bits .andNot .i64 (p.getD j 0) (L p i : Int) = 0)) && allFrom (rowOk p) p.length (i + 1)) := by
        rw [ints_len]
        refine downTo _ ?_ ?_
        · refine Ev.step (by intro k; simp only [impl_IsPoset.l1]; rfl) ?_
          refine Ev.no (by omega) ?_
          rw [wid1 hi (by omega), List.drop_length, List.all_nil, Bool.true_and]
          exact ih
        · intro j hj ihj
          have hlt := items_lt hm hj
          have hl := itemsN_len (L p i)
          refine Ev.step (by intro k; simp only [impl_IsPoset.l1]; rfl) ?_
          refine Ev.yes (by omega) (Ev.yes (by omega) (Ev.yes (by rw [ints_len]; omega) ?_))
          rw [rd_ints, all_drop_step _ _ 0 hj, wid1 hj (by omega), rdN]
          refine Ev.yes (by omega) (Ev.yes (by omega) ?_)
          refine Ev.ite (fun h => evc ihj ?_) (fun h => Ev.ret ?_)
          · rw [decide_eq_true h]; simp
          · rw [decide_eq_false h]; simp
      exact inner 0 (by omega)
  exact key 0 (by omega)
end Go.Proofs.Ytjahclncpgllmaa.Q
end

section
namespace Go.Proofs.Ytjahclncpgllmaa.Q
end Go.Proofs.Ytjahclncpgllmaa.Q
end

section
namespace Go.Proofs.Ytjahclncpgllmaa.Q
open Go.RowKit Go.Proofs.YtjahclncpgllmaaW.PrintWords Go.Proofs.Ytjahclncpgllmaa.F
set_option linter.unusedVariables false
def linB (p w : List Int) : Bool := isPo p && ordB p w
theorem isLinear_ev (p w : List Int) (hw : w.length ≤ 9223372036854775807) : Ev (fun k => impl_isLinear.f k p w) (linB p w) := by
  unfold impl_isLinear.f linB
  refine Ev.bind (IsPoset_ev p) ?_
  cases hp : isPo p with
  | false => exact Ev.no (by simp) (Ev.ret rfl)
  | true => exact Ev.yes rfl (Ev.bind (isOrder_ev ((isPo_iff p).1 hp) w hw) (Ev.ret rfl))
theorem liGiven_ev (p w : List Int) : Ev (fun k => spec_liGiven.f k p w) (linB p w) := by
  unfold spec_liGiven.f linB
  refine Ev.bind (poGood_ev p) ?_
  cases hp : isPo p with
  | false => exact Ev.no (by simp) (Ev.ret rfl)
  | true => exact Ev.yes rfl (Ev.bind (liIs_ev ((isPo_iff p).1 hp) w) (Ev.ret rfl))
structure Lin (p w : List Int) : Prop where
  po : PO p
  ord : ordB p w = true
  len : w.length = p.length
  pos : 1 ≤ p.length
  small : p.length ≤ 10
theorem linB_lin {p w : List Int} (h : linB p w = true) : Lin p w := by
  unfold linB at h
  rw [Bool.and_eq_true] at h
  have hp := (isPo_iff p).1 h.1
  exact ⟨hp, h.2, ordB_len h.2, hp.pos, hp.small⟩
end Go.Proofs.Ytjahclncpgllmaa.Q
end

section
namespace Go.Proofs.Ytjahclncpgllmaa.F
open Go.RowKit Go.Proofs.YtjahclncpgllmaaW.PrintWords Go.Proofs.YtjahclncpgllmaaW.PrintLast Go.Proofs.YtjahclncpgllmaaW.PrintMore
set_option linter.unusedVariables false
set_option linter.unusedSimpArgs false
/-- The literal: whether e covers the last. -/
def lit_slideOf.f (k : Nat) (a0 : Int) (p : List Int) (a2 : Int) : Option Bool := (impl_Poset_covered.f k p a0).bind fun s => impl_has.f s a2
theorem lit_slideOf.mono : ∀ a0 a1 a2 k, LeO (lit_slideOf.f k a0 a1 a2) (lit_slideOf.f (k + 1) a0 a1 a2) := fun a0 a1 a2 k => LeO.bind (impl_Poset_covered.mono _ _ _) (fun _ => LeO.refl _)
theorem sl_held_call {w W w1 : World} {a b : Addr} {u v : Value} (h : W.cell? a = some u ∧ W.cell? b = some v ∧ Below w.heap.size w W) (hb : Below W.heap.size W w1) : w1.cell? a = some u ∧ w1.cell? b = some v ∧ Below w.heap.size w w1 :=
  ⟨(hb.cell (p := a) (World.block_lt_of_cell? _ _ h.1)).trans h.1, (hb.cell (p := b) (World.block_lt_of_cell? _ _ h.2.1)).trans h.2.1, below_step h.2.2 hb⟩
theorem sl_held_drew {w W : World} {a b : Addr} {u v : Value} (h : W.cell? a = some u ∧ W.cell? b = some v ∧ Below w.heap.size w W) : W.drew.cell? a = some u ∧ W.drew.cell? b = some v ∧ Below w.heap.size w W.drew := ⟨h.1, h.2.1, below_drew h.2.2⟩
theorem sl_held_drewN {w W : World} {a b : Addr} {u v : Value} (n : Nat) (h : W.cell? a = some u ∧ W.cell? b = some v ∧ Below w.heap.size w W) : (W.drewN n).cell? a = some u ∧ (W.drewN n).cell? b = some v ∧ Below w.heap.size w (W.drewN n) := ⟨h.1, h.2.1, pw_below_drewN h.2.2 n⟩
set_option maxHeartbeats 8000000 in
set_option maxRecDepth 100000 in
theorem lit_slideOf.calls (g0_ : Nat) (g1_ : Nat) (k : Nat) (a0 : Int) (A0 : Option Addr) (c0 : Nat) (p : List Int) (a2 : Int) (r : Bool) (w : World) (hcap0 : w.cell? ⟨g0_, 0, none⟩ = some (.slice A0 p.length c0)) (hcap1 : w.cell? ⟨g1_, 0, none⟩ = some (.int .i64 a2)) (hr0 : Kd.C (Kd.int .i64) w A0 p.length p) (hc0 : p.length ≤ c0) (h : lit_slideOf.f k a0 p a2 = some r) :
    Calls Try.prog 78 #[.int .i64 a0, .pointer (some ⟨g0_, 0, none⟩), .pointer (some ⟨g1_, 0, none⟩)] w fun e w' => e = .returned (.bool r) ∧ Below w.heap.size w w' := by
  unfold lit_slideOf.f at h
  obtain ⟨s, hs, hh⟩ := Option.bind_eq_some_iff.1 h
  have HR := Aside0.mk hr0
  have HC := Aside0.mk hc0
  have HS := Aside0.mk hs
  have HH := Aside0.mk hh
  have HI : w.cell? ⟨g0_, 0, none⟩ = some (.slice A0 p.length c0) ∧ w.cell? ⟨g1_, 0, none⟩ = some (.int .i64 a2) ∧ Below w.heap.size w w := ⟨hcap0, hcap1, Below.refl _ _⟩
  clear h hs hh hr0 hc0
  go_enter Try.func78, Try.ntmps78
  go_wp2_with (fail)
  go_region_held3 (fun w' => w'.cell? ⟨g0_, 0, none⟩ = some (.slice A0 p.length c0) ∧ w'.cell? ⟨g1_, 0, none⟩ = some (.int .i64 a2) ∧ Below w.heap.size w w')
    (first | exact HI | exact sl_held_drew HI | exact sl_held_call (by assumption) hb1 | exact sl_held_drew (by assumption) | exact sl_held_drewN _ (by assumption) | go_keep)
    (first | (go_at_call 80; (with_reducible refine (impl_Poset_covered.calls k _ _ p a0 s _ (Kd.C_below HR.out (by go_split_ands; assumption)) HC.out HS.out).mono ?_); rintro e w1 ⟨rfl, hb1⟩)
           | (go_at_call 79; (with_reducible refine (impl_has.calls s a2 r _ HH.out).mono ?_); rintro e w1 ⟨rfl, nd, rfl⟩))
  all_goals
    go_wp2
    go_ret
    exact ⟨rfl, by go_split_ands; assumption⟩
def slRun (k : Nat) (p w : List Int) : Nat → List Int → Option (List Int)
  | 0, _ => none
  | d + 1, outs => (IndexFunc_slideOf.f (fun e => lit_slideOf.f k e p (outs.getD (outs.length - 1) 0)) k w).bind fun i => if i < 0 then some outs else if i < (w.length : Int) ∧ outs.length ≤ 1000 then slRun k p w d (outs ++ [rd w i]) else none
def impl_SlideOf.f (k : Nat) (l0_0 : List Int) (l1 : List Int) : Option (List Int × Bool) := (impl_isLinear.f k l0_0 l1).bind fun b => if b = true then (if 0 < l1.length then (slRun k l0_0 l1 k [rd l1 0]).bind fun o => some (o, true) else none) else some ([], false)
theorem sl_mono_l {F F' : Int → Option Bool} (hF : ∀ x, LeO (F x) (F' x)) : ∀ k y0 y1 y2, LeO (IndexFunc_slideOf.l0 F k y0 y1 y2) (IndexFunc_slideOf.l0 F' k y0 y1 y2)
  | 0, _, _, _ => fun r h => by simp [IndexFunc_slideOf.l0] at h
  | k + 1, y0, y1, y2 => by
    unfold IndexFunc_slideOf.l0
    exact LeO.ite (LeO.ite (LeO.ite (LeO.bind (hF _) (fun _ => LeO.ite (LeO.refl _) (sl_mono_l hF k _ _ _))) (LeO.refl _)) (LeO.refl _)) (LeO.refl _)
theorem slRun_mono (p w : List Int) (k : Nat) : ∀ d outs, LeO (slRun k p w d outs) (slRun (k + 1) p w (d + 1) outs)
  | 0, _ => fun r h => by cases h
  | d + 1, outs => by
    unfold slRun
    refine LeO.bind (fun r h => ?_) (fun i => LeO.ite (LeO.refl _) (LeO.ite (slRun_mono p w k d _) (LeO.refl _)))
    refine IndexFunc_slideOf.mono _ _ _ r ?_
    exact sl_mono_l (fun x => lit_slideOf.mono _ _ _ k) k _ _ _ r h
theorem impl_SlideOf.mono : ∀ a0 a1 k, LeO (impl_SlideOf.f k a0 a1) (impl_SlideOf.f (k + 1) a0 a1) := fun a0 a1 k => by
  unfold impl_SlideOf.f
  exact LeO.bind (impl_isLinear.mono _ _ _) (fun b => LeO.ite (LeO.ite (LeO.bind (slRun_mono _ _ _ _ _) (fun _ => LeO.refl _)) (LeO.refl _)) (LeO.refl _))
theorem sl_one {X : World} {base n : Nat} {x : Int} (hn : base ≤ n) (hx : X.heap[n]? = some (.cells #[.int .i64 x] 3 (0, 0))) : Kd.R (Kd.int .i64) 3 X base (fun _ => True) (.slice (some ⟨n, 0, none⟩) 1 1) [x] := by
  have h : X.ownsRow base 3 1 (.slice (some ⟨n, 0, none⟩) 1 1) [x].length (encs (Value.int .i64) [x]) := ⟨by simp [encs], .inr ⟨n, 1, #[.int .i64 x], rfl, hn, hx, Nat.le_refl _, by first | simp | omega | decide, by first | simp | omega | decide, by first | rfl | (simp [encs]; done)⟩⟩
  exact Kd.R_of_own h (fun _ _ => trivial)
theorem sl_cell {ids : List Int} {W W1 : World} {b g c : Nat} {ok : Nat → Prop} (hr : Kd.R (Kd.int .i64) 3 W b ok (.slice (some ⟨g, 0, none⟩) ids.length c) ids) (hb : Below W.heap.size W W1) (i : Nat) (hi : i < ids.length) :
    W1.cell? ⟨g, i, none⟩ = some (.int .i64 (ids.getD i 0)) := by
  have h2 := (Kd.R_cell (0 : Int) (Kd.R_below hr hb) (i : Int) (by omega) (by omega)).1
  rw [Int.toNat_natCast] at h2
  rw [h2]
  congr 2
set_option maxHeartbeats 8000000 in
set_option maxRecDepth 100000 in
theorem impl_SlideOf.calls (k : Nat) (A0_0 : Option Addr) (c0_0 : Nat) (l0_0 : List Int) (A1 : Option Addr) (c1 : Nat) (l1 : List Int) (r1 : List Int) (r2 : Bool) (w : World) (hr0_0 : Kd.C (Kd.int .i64) w A0_0 l0_0.length l0_0) (hc0_0 : l0_0.length ≤ c0_0) (hr1 : Kd.C (Kd.int .i64) w A1 l1.length l1) (hc1 : l1.length ≤ c1) (h : impl_SlideOf.f k l0_0 l1 = some (r1, r2)) :
    Calls Try.prog 39 #[.agg #[.slice A0_0 l0_0.length c0_0], .slice A1 l1.length c1] w fun e w' => ∃ v0_ : Value, e = .returned (.tuple #[v0_, .bool r2]) ∧ Kd.R (Kd.int .i64) 3 w' w.heap.size (fun _ => True) v0_ r1 ∧ Below w.heap.size w w' := by
  have hu30 := Try.underlying28
  have hmf : ∀ (fn : Fn) (first cap : Array Value) (w : World), (Instr.makeFunc fn first cap).run Try.prog w = .ok (.func fn first cap) w := fun _ _ _ _ => rfl
  unfold impl_SlideOf.f at h
  obtain ⟨b, hb, h⟩ := Option.bind_eq_some_iff.1 h
  have HR0 := Aside0.mk hr0_0
  have HC0 := Aside0.mk hc0_0
  have HR1 := Aside0.mk hr1
  have HC1 := Aside0.mk hc1
  have HLI := Aside0.mk hb
  have HP0 : Aside0 ((w.alloc (.cells #[.slice A0_0 l0_0.length c0_0] 28 (0, 0))).heap[w.heap.size]? = some (.cells #[.slice A0_0 l0_0.length c0_0] 28 (0, 0))) := ⟨blk_new w _⟩
  have HB0 : Aside0 (Below w.heap.size w (w.alloc (.cells #[.slice A0_0 l0_0.length c0_0] 28 (0, 0)))) := ⟨below_alloc (Below.refl w.heap.size w) _⟩
  clear hr0_0 hc0_0 hr1 hc1 hb
  cases b with
  | false =>
    obtain ⟨rfl, rfl⟩ : [] = r1 ∧ false = r2 := by simpa using h
    clear h
    go_enter Try.func39, Try.ntmps39
    go_wp2_with (go_at_call 56; (with_reducible refine (impl_isLinear.calls k A0_0 c0_0 l0_0 A1 c1 l1 false _ (Kd.C_below HR0.out HB0.out) HC0.out (Kd.C_below HR1.out HB0.out) HC1.out HLI.out).mono ?_); rintro e w1 ⟨rfl, hb1⟩; have HB1 := Aside0.mk (HB0.out.trans (hb1.mono HB0.out.size)); clear hb1)
    refine bodyPost_ret (results_tmp2 rfl _ _ _) rfl ?_
    exact ⟨_, rfl, Kd.R_nil _ _ _ _ _, HB1.out⟩
  | true =>
    have h := (if_pos rfl).symm.trans h
    split at h
    rotate_left
    · cases h
    rename_i hlen
    obtain ⟨o, hrun, h⟩ := Option.bind_eq_some_iff.1 h
    obtain ⟨rfl, rfl⟩ : o = r1 ∧ true = r2 := by simpa using h
    have HRUN := Aside0.mk hrun
    have HLEN := Aside0.mk hlen
    obtain ⟨ad, rfl, _⟩ := Kd.at_int HR1.out 0 (Int.le_refl _) (by omega)
    have e1 : (0 : Int) < (l1.length : Int) := by omega
    have e2 : decide ((0 : Int) < (l1.length : Int)) = true := decide_eq_true e1
    have e3 : decide (0 < l1.length) = true := decide_eq_true hlen
    clear h hrun
    go_enter Try.func39, Try.ntmps39
    go_wp2_with (go_at_call 56; (with_reducible refine (impl_isLinear.calls k A0_0 c0_0 l0_0 (some ad) c1 l1 true _ (Kd.C_below HR0.out HB0.out) HC0.out (Kd.C_below HR1.out HB0.out) HC1.out HLI.out).mono ?_); rintro e w1 ⟨rfl, hb1⟩; have HB1 := Aside0.mk (HB0.out.trans (hb1.mono HB0.out.size)); have HP1 := Aside0.mk (blk_below HP0.out hb1); have hcw1 : w1.cell? (ad.add 0) = some (.int .i64 (rd l1 0)) := (by obtain ⟨ad', e', hc'⟩ := Kd.at_int (Kd.C_below HR1.out HB1.out) 0 (Int.le_refl _) e1; cases e'; exact hc'); have hcw2 : w1.cell? ad = some (.int .i64 (rd l1 0)) := hcw1; clear hb1 h)
    obtain ⟨WA, hWA⟩ : ∃ x, x = w1 := ⟨w1, rfl⟩
    subst hWA
    have hsz : w.heap.size < WA.heap.size := blk_lt HP1.out
    clear hcw1 hcw2
    go_loopg [6] k (fun kq v6 w' => ∃ (outs : List Int) (g c : Nat), v6 = .slice (some ⟨g, 0, none⟩) outs.length c ∧ Aside0 (slRun k l0_0 l1 kq outs = some o) ∧ Aside0 (1 ≤ outs.length ∧ outs.length ≤ 1001) ∧ Aside0 (Kd.R (Kd.int .i64) 3 w' WA.heap.size (fun _ => True) (.slice (some ⟨g, 0, none⟩) outs.length c) outs) ∧ Aside0 (Below WA.heap.size WA w'))
    case atStart =>
      exact ⟨[rd l1 0], WA.heap.size, 1, rfl, HRUN, ⟨by simp⟩, ⟨sl_one (Nat.le_refl _) (blk_new WA _)⟩, ⟨below_alloc (Below.refl _ _) _⟩⟩
    case round =>
      clear HRUN
      obtain ⟨outs, g, c, rfl, HS, HN, HO, HBW⟩ := hrel
      obtain ⟨WR, hWR⟩ : ∃ x, x = wr := ⟨wr, rfl⟩
      subst hWR
      cases gk with
      | zero => exact absurd HS.out (by simp [slRun])
      | succ k1 =>
        have hS := HS.out
        unfold slRun at hS
        obtain ⟨q, hq, hS⟩ := Option.bind_eq_some_iff.1 hS
        obtain ⟨m, hm⟩ : ∃ m, outs.length = m + 1 := ⟨outs.length - 1, by have := HN.out; omega⟩
        have hlast := sl_cell HO.out (Below.refl _ _) m (by omega)
        rw [show outs.length - 1 = m by omega] at hq
        obtain ⟨lst, hlst⟩ : ∃ x, x = outs.getD m 0 := ⟨_, rfl⟩
        rw [← hlst] at hlast hq
        have HI := Aside0.mk hq
        have HM := Aside0.mk hm
        have HBWR2 : Aside0 (Below w.heap.size w (WR.alloc (.cells #[.int .i64 lst] 3 (0, 0)))) := ⟨below_alloc (HB1.out.trans (HBW.out.mono (by omega))) _⟩
        have HF : Aside0 (∀ (x0_ : Int) (r_ : Bool) (W : World), lit_slideOf.f k x0_ l0_0 lst = some r_ → Below (WR.alloc (.cells #[.int .i64 lst] 3 (0, 0))).heap.size (WR.alloc (.cells #[.int .i64 lst] 3 (0, 0))) W → Calls Try.prog 78 #[.int .i64 x0_, .pointer (some ⟨w.heap.size, 0, none⟩), .pointer (some ⟨WR.heap.size, 0, none⟩)] W fun e w' => e = .returned (.bool r_) ∧ Below W.heap.size W w') := ⟨fun x r W hl hb => by
          have hbw : Below w.heap.size w W := below_step HBWR2.out hb
          have h0 : (WR.alloc (.cells #[.int .i64 lst] 3 (0, 0))).heap[w.heap.size]? = some (.cells #[.slice A0_0 l0_0.length c0_0] 28 (0, 0)) := blk_below (blk_below HP1.out HBW.out) (below_alloc (Below.refl _ _) _)
          exact lit_slideOf.calls _ _ k x A0_0 c0_0 l0_0 lst r W ((blk_cell (blk_below h0 hb) 0).trans rfl) ((blk_cell (blk_below (blk_new WR _) hb) 0).trans rfl) (Kd.C_below HR0.out hbw) HC0.out hl⟩
        have hw : wrap64 ((outs.length : Int) - 1) = (m : Int) := by unfold wrap64; have := HN.out; omega
        have e5 : (0 : Int) ≤ (m : Int) := by omega
        have e6 : (m : Int) < (outs.length : Int) := by omega
        have e7 : decide ((m : Int) < (outs.length : Int)) = true := decide_eq_true e6
        have e8 : decide (m < outs.length) = true := decide_eq_true (by omega)
        have e9 : (m < outs.length) = True := eq_true (by omega)
        clear hq hlst hm HS
        by_cases hneg : q < 0
        · rw [if_pos hneg] at hS
          obtain rfl : outs = o := Option.some.inj hS
          have d1 : decide (q < 0) = true := decide_eq_true hneg
          clear hS
          go_wp2_with (go_at_call 77; (with_reducible refine (IndexFunc_slideOf.calls (fun e => lit_slideOf.f k e l0_0 lst) w.heap.size WR.heap.size k (some ad) c1 l1 q _ ?hF ?hC HC1.out HI.out).mono ?_); (case hF => exact HF); (case hC => exact Kd.C_below HR1.out HBWR2.out); rintro e w3 ⟨rfl, hb3⟩; have HO3 := Aside0.mk (Kd.R_below (Kd.R_alloc HO.out _) hb3); have HB3 := Aside0.mk (below_step (below_alloc HBW.out _) hb3); clear hb3)
          refine bodyPost_ret (results_tmp2 rfl _ _ _) rfl ?_
          exact ⟨_, rfl, Kd.R_lower HO3.out (by omega), HB1.out.trans (HB3.out.mono (by omega))⟩
        · rw [if_neg hneg] at hS
          split at hS
          rotate_left
          · cases hS
          rename_i hin
          have HIN := Aside0.mk hin
          have HS1 := Aside0.mk hS
          have d1 : decide (q < 0) = false := decide_eq_false hneg
          have f1 : (0 : Int) ≤ q := by omega
          have f2 : q < (l1.length : Int) := hin.1
          have f3 : decide (q < (l1.length : Int)) = true := decide_eq_true f2
          clear hS hin hneg
          go_wp2_with (first
            | (go_at_call 77; (with_reducible refine (IndexFunc_slideOf.calls (fun e => lit_slideOf.f k e l0_0 lst) w.heap.size WR.heap.size k (some ad) c1 l1 q _ ?hF ?hC HC1.out HI.out).mono ?_); (case hF => exact HF); (case hC => exact Kd.C_below HR1.out HBWR2.out); rintro e w3 ⟨rfl, hb3⟩; have HO3 := Aside0.mk (Kd.R_below (Kd.R_alloc HO.out _) hb3); have HB3 := Aside0.mk (below_step (below_alloc HBW.out _) hb3); obtain ⟨ad', e', hc'⟩ := Kd.at_int (Kd.C_below HR1.out (below_step HBWR2.out hb3)) q f1 f2; cases e'; clear hb3)
            | ((with_reducible refine gate_builtin (b := .append) (xs := #[.tmp 29, .tmp 34]) rfl ?_); at_builtin; refine Kd.R_append (Kd.int .i64) (w0 := WA) WA.heap.size rfl (.tmp 29) (.tmp 34) 22 3 (.int .i64 0) 8 rfl Try.underlying22 info3 rfl (by decide) (by omega) (.slice (some ⟨g, 0, none⟩) outs.length c) outs (rd l1 q) [.int .i64 (rd l1 q)] (fun _ => True) (fun _ => False) rfl rfl ?aP (fun _ hk => hk.elim) (fun _ _ => trivial) ?aO ?aB ?aS ?aL ?_; (case aP => exact rfl); (case aO => exact HO3.out); (case aB => exact HB3.out); (case aS => exact HB3.out.size); (case aL => have := HIN.out.2; omega); intro v7 w7 hr7 hb7 hg7 hat7; have HVO7 := Aside0.mk hr7; have HB7 := Aside0.mk hb7; clear hr7 hb7 hg7 hat7))
          obtain ⟨g7, cap7, rfl, _⟩ := Kd.R_form HVO7.out (by simp)
          go_roundg k1
          case measure => omega
          case rel => exact ⟨outs ++ [rd l1 q], g7, cap7, rfl, HS1, ⟨by have := HIN.out.2; have := HN.out; rw [List.length_append, List.length_singleton]; omega⟩, HVO7, HB7⟩
end Go.Proofs.Ytjahclncpgllmaa.F
end

section
namespace Go.Proofs.Ytjahclncpgllmaa.F
open Go.RowKit Go.Proofs.YtjahclncpgllmaaW.PrintWords Go.Proofs.YtjahclncpgllmaaW.PrintLast Go.Proofs.YtjahclncpgllmaaW.PrintMore
set_option linter.unusedVariables false
set_option linter.unusedSimpArgs false
theorem laws_FnExactSlideOf.belowD {w w' : World} (h : Drawn0 w w') : Below w.heap.size w w' := by
  obtain ⟨m, rfl⟩ := h
  exact pw_below_drewN (Below.refl _ _) m
set_option maxHeartbeats 8000000 in
set_option maxRecDepth 100000 in
theorem laws_FnExactSlideOf.calls0 (k k1 : Nat) (A0 : Option Addr) (c0 : Nat) (l0 : List Int) (A1 : Option Addr) (c1 : Nat) (l1 : List Int)  (w : World) (hr0 : Kd.C (Kd.int .i64) w A0 l0.length l0) (hc0 : l0.length ≤ c0) (hr1 : Kd.C (Kd.int .i64) w A1 l1.length l1) (hc1 : l1.length ≤ c1) (hx : decide ((l1.length : Int) > 1048576) = true) :
    Calls Try.prog 8 #[.agg #[.slice A0 l0.length c0], .slice A1 l1.length c1] w fun e w' => e = .returned (.bool true) ∧ Below w.heap.size w w' := by
  have HR0 := Aside0.mk hr0
  have HC0 := Aside0.mk hc0
  clear hr0 hc0
  have HR1 := Aside0.mk hr1
  have HC1 := Aside0.mk hc1
  clear hr1 hc1
  have HT0 := Aside0.mk (Below.refl w.heap.size w)
  go_enter Try.func8, Try.ntmps8
  go_wp2_with (first | ((with_reducible refine gate_dst (N := 2) rfl ?_); refine box_event ?hg (N := 2) ?hd (cs := #[.slice A0 l0.length c0]) (t := 24) ?hr ?_; (case hd => rfl); (case hg => rfl); (case hr => first | (go_simp; done) | (go_simp; rfl)); intro g2 hg_ w1 hbox_ hb_; have HB1 := Aside0.mk hb_; have HZ1 : Aside0 (w.heap.size ≤ w1.heap.size) := ⟨hb_.size⟩; have HT1 := Aside0.mk (HT0.out.trans (Below.mono hb_ HT0.out.size)); have HG2 : Aside0 (w.heap.size ≤ g2 ∧ g2 < w1.heap.size) := ⟨Nat.le_of_eq hg_.symm, blk_lt hbox_⟩; have HBK_ := Aside0.mk hbox_; clear hb_ hbox_ hg_; have HBK2 := HBK_; clear HBK_; have hcz2 : w1.cell? ⟨g2, 0, none⟩ = some (.slice A0 l0.length c0) := (blk_cell HBK2.out 0).trans rfl; have hfz2 := blk_frozen HBK2.out 0))
  go_ret
  exact ⟨by first | rfl | (simp; done) | (simp [*]; done), by repeat (first | (with_reducible first | exact HT1.out | apply below_alloc | apply pw_below_drewN | apply below_drew1) | exact HT1.out)⟩
set_option maxHeartbeats 8000000 in
set_option maxRecDepth 100000 in
theorem laws_FnExactSlideOf.calls1 (k k1 : Nat) (A0 : Option Addr) (c0 : Nat) (l0 : List Int) (A1 : Option Addr) (c1 : Nat) (l1 : List Int) (z1 : Int) (w : World) (hr0 : Kd.C (Kd.int .i64) w A0 l0.length l0) (hc0 : l0.length ≤ c0) (hr1 : Kd.C (Kd.int .i64) w A1 l1.length l1) (hc1 : l1.length ≤ c1) (hy0 : decide ((l1.length : Int) > 1048576) = false) (hy1_ : laws_szPoset.f l0 1048576 = some z1) (hx : decide (z1 < 0) = true) :
    Calls Try.prog 8 #[.agg #[.slice A0 l0.length c0], .slice A1 l1.length c1] w fun e w' => e = .returned (.bool true) ∧ Below w.heap.size w w' := by
  have HR0 := Aside0.mk hr0
  have HC0 := Aside0.mk hc0
  clear hr0 hc0
  have HR1 := Aside0.mk hr1
  have HC1 := Aside0.mk hc1
  clear hr1 hc1
  have hy1 := Aside0.mk hy1_
  clear hy1_
  have HT0 := Aside0.mk (Below.refl w.heap.size w)
  go_enter Try.func8, Try.ntmps8
  go_wp2_with (first | ((with_reducible refine gate_dst (N := 2) rfl ?_); refine box_event ?hg (N := 2) ?hd (cs := #[.slice A0 l0.length c0]) (t := 24) ?hr ?_; (case hd => rfl); (case hg => rfl); (case hr => first | (go_simp; done) | (go_simp; rfl)); intro g2 hg_ w1 hbox_ hb_; have HB1 := Aside0.mk hb_; have HZ1 : Aside0 (w.heap.size ≤ w1.heap.size) := ⟨hb_.size⟩; have HT1 := Aside0.mk (HT0.out.trans (Below.mono hb_ HT0.out.size)); have HG2 : Aside0 (w.heap.size ≤ g2 ∧ g2 < w1.heap.size) := ⟨Nat.le_of_eq hg_.symm, blk_lt hbox_⟩; have HBK_ := Aside0.mk hbox_; clear hb_ hbox_ hg_; have HBK2 := HBK_; clear HBK_; have hcz2 : w1.cell? ⟨g2, 0, none⟩ = some (.slice A0 l0.length c0) := (blk_cell HBK2.out 0).trans rfl; have hfz2 := blk_frozen HBK2.out 0))
  have hcall_ := laws_szPoset.calls _ _ l0 1048576 z1 _ (Kd.C_below HR0.out HT1.out) HC0.out hy1.out
  refine hcall_.mono ?_
  clear hcall_ 
  rintro e w2 ⟨rfl, hb_⟩
  have HB2 := Aside0.mk hb_
  have HZ2 : Aside0 (w1.heap.size ≤ w2.heap.size) := ⟨hb_.size⟩
  have HT2 := Aside0.mk (HT1.out.trans (Below.mono hb_ HT1.out.size))
  clear hb_
  have n_ := Aside0.mk (blk_below HBK2.out HB2.out)
  clear HBK2 hcz2
  have HBK2 := n_
  clear n_
  have hcz2 : w2.cell? ⟨g2, 0, none⟩ = some (.slice A0 l0.length c0) := (blk_cell HBK2.out 0).trans rfl
  go_wp2
  go_ret
  exact ⟨by first | rfl | (simp; done) | (simp [*]; done), by repeat (first | (with_reducible first | exact HT2.out | apply below_alloc | apply pw_below_drewN | apply below_drew1) | exact HT2.out)⟩
set_option maxHeartbeats 8000000 in
set_option maxRecDepth 100000 in
theorem laws_FnExactSlideOf.calls2 (k k1 : Nat) (A0 : Option Addr) (c0 : Nat) (l0 : List Int) (A1 : Option Addr) (c1 : Nat) (l1 : List Int) (z1 : Int) (v2 : List Int) (v3 : Bool) (m4 : Int) (u5 : List Int) (m6 : Int) (u7 : List Int) (m8 : Int) (u9 : List Int) (w : World) (hr0 : Kd.C (Kd.int .i64) w A0 l0.length l0) (hc0 : l0.length ≤ c0) (hr1 : Kd.C (Kd.int .i64) w A1 l1.length l1) (hc1 : l1.length ≤ c1) (hy0 : decide ((l1.length : Int) > 1048576) = false) (hy1_ : laws_szPoset.f l0 1048576 = some z1) (hy2 : decide (z1 < 0) = false) (hy3_ : laws_toPoset.f k1 l0 = some l0) (hy4_ : laws_toIntS.f k1 l1 = some l1) (hy5_ : spec_SlideOf.f k l0 l1 = some (v2, v3)) (hy6_ : impl_SlideOf.f k l0 l1 = some (v2, v3)) (hy7_ : laws_eqIntS.f k1 v2 v2 = some true) (hy8_ : laws_eqPoset.f k1 l0 l0 = some true) (hy9_ : laws_eqIntS.f k1 l1 l1 = some true) (hy10_ : laws_markPoset.f k1 l0 1 = some (m4, u5)) (hy11_ : laws_markIntS.f k1 l1 m4 = some (m6, u7)) (hy12 : decide (m6 < 0) = false) (hy13_ : laws_markIntS.f k1 v2 1 = some (m8, u9)) (hy14_ : laws_heldIntS.f k1 u9 1 = some m8) (hy15 : decide (m8 < 0) = false) :
    Calls Try.prog 8 #[.agg #[.slice A0 l0.length c0], .slice A1 l1.length c1] w fun e w' => e = .returned (.bool true) ∧ Below w.heap.size w w' := by
  have HR0 := Aside0.mk hr0
  have HC0 := Aside0.mk hc0
  clear hr0 hc0
  have HR1 := Aside0.mk hr1
  have HC1 := Aside0.mk hc1
  clear hr1 hc1
  have hy1 := Aside0.mk hy1_
  clear hy1_
  have hy3 := Aside0.mk hy3_
  clear hy3_
  have hy4 := Aside0.mk hy4_
  clear hy4_
  have hy5 := Aside0.mk hy5_
  clear hy5_
  have hy6 := Aside0.mk hy6_
  clear hy6_
  have hy7 := Aside0.mk hy7_
  clear hy7_
  have hy8 := Aside0.mk hy8_
  clear hy8_
  have hy9 := Aside0.mk hy9_
  clear hy9_
  have hy10 := Aside0.mk hy10_
  clear hy10_
  have hy11 := Aside0.mk hy11_
  clear hy11_
  have hy13 := Aside0.mk hy13_
  clear hy13_
  have hy14 := Aside0.mk hy14_
  clear hy14_
  have HT0 := Aside0.mk (Below.refl w.heap.size w)
  go_enter Try.func8, Try.ntmps8
  go_wp2_with (first | ((with_reducible refine gate_dst (N := 2) rfl ?_); refine box_event ?hg (N := 2) ?hd (cs := #[.slice A0 l0.length c0]) (t := 24) ?hr ?_; (case hd => rfl); (case hg => rfl); (case hr => first | (go_simp; done) | (go_simp; rfl)); intro g2 hg_ w1 hbox_ hb_; have HB1 := Aside0.mk hb_; have HZ1 : Aside0 (w.heap.size ≤ w1.heap.size) := ⟨hb_.size⟩; have HT1 := Aside0.mk (HT0.out.trans (Below.mono hb_ HT0.out.size)); have HG2 : Aside0 (w.heap.size ≤ g2 ∧ g2 < w1.heap.size) := ⟨Nat.le_of_eq hg_.symm, blk_lt hbox_⟩; have HBK_ := Aside0.mk hbox_; clear hb_ hbox_ hg_; have HBK2 := HBK_; clear HBK_; have hcz2 : w1.cell? ⟨g2, 0, none⟩ = some (.slice A0 l0.length c0) := (blk_cell HBK2.out 0).trans rfl; have hfz2 := blk_frozen HBK2.out 0))
  have hcall_ := laws_szPoset.calls _ _ l0 1048576 z1 _ (Kd.C_below HR0.out HT1.out) HC0.out hy1.out
  refine hcall_.mono ?_
  clear hcall_ 
  rintro e w2 ⟨rfl, hb_⟩
  have HB2 := Aside0.mk hb_
  have HZ2 : Aside0 (w1.heap.size ≤ w2.heap.size) := ⟨hb_.size⟩
  have HT2 := Aside0.mk (HT1.out.trans (Below.mono hb_ HT1.out.size))
  clear hb_
  have n_ := Aside0.mk (blk_below HBK2.out HB2.out)
  clear HBK2 hcz2
  have HBK2 := n_
  clear n_
  have hcz2 : w2.cell? ⟨g2, 0, none⟩ = some (.slice A0 l0.length c0) := (blk_cell HBK2.out 0).trans rfl
  go_wp2_with fail
  have hcall_ := laws_toPoset.calls k1 _ _ l0 l0 _ (Kd.C_below HR0.out HT2.out) HC0.out hy3.out
  refine hcall_.mono ?_
  clear hcall_ 
  rintro e w3 ⟨v1x, rfl, hx1_, hb_⟩
  have HB3 := Aside0.mk hb_
  have HZ3 : Aside0 (w2.heap.size ≤ w3.heap.size) := ⟨hb_.size⟩
  have HT3 := Aside0.mk (HT2.out.trans (Below.mono hb_ HT2.out.size))
  clear hb_
  have n_ := Aside0.mk (blk_below HBK2.out HB3.out)
  clear HBK2 hcz2
  have HBK2 := n_
  clear n_
  have hcz2 : w3.cell? ⟨g2, 0, none⟩ = some (.slice A0 l0.length c0) := (blk_cell HBK2.out 0).trans rfl
  have HX1 := Aside0.mk (Kd.R_lower (Kd.R_mono (ok' := fun k_ => w2.heap.size ≤ k_ ∧ k_ < w3.heap.size) (Kd.R_bound hx1_) (fun k_ h_ => ⟨h_.2.1, h_.2.2.1⟩)) HT2.out.size)
  clear hx1_
  go_wp2_with fail
  have hcall_ := laws_toIntS.calls k1 _ _ l1 l1 _ (Kd.C_below HR1.out HT3.out) HC1.out hy4.out
  refine hcall_.mono ?_
  clear hcall_ 
  rintro e w4 ⟨v2x, rfl, hx2_, hb_⟩
  have HB4 := Aside0.mk hb_
  have HZ4 : Aside0 (w3.heap.size ≤ w4.heap.size) := ⟨hb_.size⟩
  have HT4 := Aside0.mk (HT3.out.trans (Below.mono hb_ HT3.out.size))
  clear hb_
  have n_ := Aside0.mk (Kd.R_below HX1.out HB4.out)
  clear HX1
  have HX1 := n_
  clear n_
  have n_ := Aside0.mk (blk_below HBK2.out HB4.out)
  clear HBK2 hcz2
  have HBK2 := n_
  clear n_
  have hcz2 : w4.cell? ⟨g2, 0, none⟩ = some (.slice A0 l0.length c0) := (blk_cell HBK2.out 0).trans rfl
  have HX2 := Aside0.mk (Kd.R_lower (Kd.R_mono (ok' := fun k_ => w3.heap.size ≤ k_ ∧ k_ < w4.heap.size) (Kd.R_bound hx2_) (fun k_ h_ => ⟨h_.2.1, h_.2.2.1⟩)) HT3.out.size)
  clear hx2_
  go_wp2_with fail
  obtain ⟨A1_, c1_, e1_, hl1_, hC1_⟩ := Kd.R_reads HX1.out
  obtain ⟨A2_, c2_, e2_, hl2_, hC2_⟩ := Kd.R_reads HX2.out
  have hcall_ := spec_SlideOf.calls k _ _ l0 _ _ l1 v2 v3 _ hC1_ hl1_ hC2_ hl2_ hy5.out
  rw [← e1_] at hcall_
  rw [← e2_] at hcall_
  refine hcall_.mono ?_
  clear hcall_ hC1_ hl1_ e1_ c1_ A1_ hC2_ hl2_ e2_ c2_ A2_
  rintro e w5 ⟨v3x, rfl, hx3_, hb_⟩
  have HB5 := Aside0.mk hb_
  have HZ5 : Aside0 (w4.heap.size ≤ w5.heap.size) := ⟨hb_.size⟩
  have HT5 := Aside0.mk (HT4.out.trans (Below.mono hb_ HT4.out.size))
  clear hb_
  have n_ := Aside0.mk (Kd.R_below HX1.out HB5.out)
  clear HX1
  have HX1 := n_
  clear n_
  have n_ := Aside0.mk (Kd.R_below HX2.out HB5.out)
  clear HX2
  have HX2 := n_
  clear n_
  have n_ := Aside0.mk (blk_below HBK2.out HB5.out)
  clear HBK2 hcz2
  have HBK2 := n_
  clear n_
  have hcz2 : w5.cell? ⟨g2, 0, none⟩ = some (.slice A0 l0.length c0) := (blk_cell HBK2.out 0).trans rfl
  have HX3 := Aside0.mk (Kd.R_lower (Kd.R_mono (ok' := fun k_ => w4.heap.size ≤ k_ ∧ k_ < w5.heap.size) (Kd.R_bound hx3_) (fun k_ h_ => ⟨h_.2.1, h_.2.2.1⟩)) HT4.out.size)
  clear hx3_
  go_wp2_with fail
  have hcall_ := laws_toPoset.calls k1 _ _ l0 l0 _ (Kd.C_below HR0.out HT5.out) HC0.out hy3.out
  refine hcall_.mono ?_
  clear hcall_ 
  rintro e w6 ⟨v4x, rfl, hx4_, hb_⟩
  have HB6 := Aside0.mk hb_
  have HZ6 : Aside0 (w5.heap.size ≤ w6.heap.size) := ⟨hb_.size⟩
  have HT6 := Aside0.mk (HT5.out.trans (Below.mono hb_ HT5.out.size))
  clear hb_
  have n_ := Aside0.mk (Kd.R_below HX1.out HB6.out)
  clear HX1
  have HX1 := n_
  clear n_
  have n_ := Aside0.mk (Kd.R_below HX2.out HB6.out)
  clear HX2
  have HX2 := n_
  clear n_
  have n_ := Aside0.mk (Kd.R_below HX3.out HB6.out)
  clear HX3
  have HX3 := n_
  clear n_
  have n_ := Aside0.mk (blk_below HBK2.out HB6.out)
  clear HBK2 hcz2
  have HBK2 := n_
  clear n_
  have hcz2 : w6.cell? ⟨g2, 0, none⟩ = some (.slice A0 l0.length c0) := (blk_cell HBK2.out 0).trans rfl
  have HX4 := Aside0.mk (Kd.R_lower (Kd.R_mono (ok' := fun k_ => w5.heap.size ≤ k_ ∧ k_ < w6.heap.size) (Kd.R_bound hx4_) (fun k_ h_ => ⟨h_.2.1, h_.2.2.1⟩)) HT5.out.size)
  clear hx4_
  obtain ⟨Aq4, cq4, eq_⟩ := Kd.R_slice HX4.out
  subst eq_
  go_wp2_with (first | ((with_reducible refine gate_dst (N := 8) rfl ?_); refine box_event ?hg (N := 8) ?hd (cs := #[.slice none 0 0]) (t := 28) ?hr ?_; (case hd => rfl); (case hg => rfl); (case hr => first | (go_simp; done) | (go_simp; rfl)); intro g8 hg_ w7 hbox_ hb_; have HB7 := Aside0.mk hb_; have HZ7 : Aside0 (w6.heap.size ≤ w7.heap.size) := ⟨hb_.size⟩; have HT7 := Aside0.mk (HT6.out.trans (Below.mono hb_ HT6.out.size)); have HG8 : Aside0 (w6.heap.size ≤ g8 ∧ g8 < w7.heap.size) := ⟨Nat.le_of_eq hg_.symm, blk_lt hbox_⟩; have HBK_ := Aside0.mk hbox_; clear hb_ hbox_ hg_; have n_ := Aside0.mk (Kd.R_below HX1.out HB7.out); clear HX1; have HX1 := n_; clear n_; have n_ := Aside0.mk (Kd.R_below HX2.out HB7.out); clear HX2; have HX2 := n_; clear n_; have n_ := Aside0.mk (Kd.R_below HX3.out HB7.out); clear HX3; have HX3 := n_; clear n_; have n_ := Aside0.mk (Kd.R_below HX4.out HB7.out); clear HX4; have HX4 := n_; clear n_; have n_ := Aside0.mk (blk_below HBK2.out HB7.out); clear HBK2 hcz2; have HBK2 := n_; clear n_; have hcz2 : w7.cell? ⟨g2, 0, none⟩ = some (.slice A0 l0.length c0) := (blk_cell HBK2.out 0).trans rfl; have HBK8 := HBK_; clear HBK_; have hcz8 : w7.cell? ⟨g8, 0, none⟩ = some (.slice none 0 0) := (blk_cell HBK8.out 0).trans rfl; have hfz8 := blk_frozen HBK8.out 0) | ((with_reducible refine gate_store (t := 28) (p := 8) rfl ?_); refine store_event (t := 28) (p := 8) (v := ?vo_) (w1 := (w7.setCell ⟨g8, 0, none⟩ (.slice Aq4 l0.length cq4))) ?hg ?ho ?hn ?hr ?_; (case ho => rfl); (case hg => rfl); (case hn => rfl); (case hr => first | (go_simp; done) | (go_simp; rfl)); intro w8 hw_; have hlt_ : w.heap.size ≤ g8 := (by have z1 := HZ1.out; have z2 := HZ2.out; have z3 := HZ3.out; have z4 := HZ4.out; have z5 := HZ5.out; have z6 := HZ6.out; have z7 := HZ7.out; have hg_ := HG8.out; have h0_ := HT0.out.size; omega); have HT8 : Aside0 (Below w.heap.size w w8) := ⟨by rw [hw_]; exact below_set HT7.out hlt_⟩; have HZ8 : Aside0 (w7.heap.size ≤ w8.heap.size) := ⟨by rw [hw_]; simp [World.setCell]⟩; have n_ : Aside0 (Kd.R (Kd.int .i64) 3 w8 w.heap.size (fun k_ => w2.heap.size ≤ k_ ∧ k_ < w3.heap.size) v1x l0) := ⟨by rw [hw_]; exact Kd.R_far HX1.out (p := ⟨g8, 0, none⟩) (fun k_ h_ => by have z1 := HZ1.out; have z2 := HZ2.out; have z3 := HZ3.out; have z4 := HZ4.out; have z5 := HZ5.out; have z6 := HZ6.out; have z7 := HZ7.out; have hg_ := HG8.out; show k_ ≠ g8; omega) _⟩; clear HX1; have HX1 := n_; clear n_; have n_ : Aside0 (Kd.R (Kd.int .i64) 3 w8 w.heap.size (fun k_ => w3.heap.size ≤ k_ ∧ k_ < w4.heap.size) v2x l1) := ⟨by rw [hw_]; exact Kd.R_far HX2.out (p := ⟨g8, 0, none⟩) (fun k_ h_ => by have z1 := HZ1.out; have z2 := HZ2.out; have z3 := HZ3.out; have z4 := HZ4.out; have z5 := HZ5.out; have z6 := HZ6.out; have z7 := HZ7.out; have hg_ := HG8.out; show k_ ≠ g8; omega) _⟩; clear HX2; have HX2 := n_; clear n_; have n_ : Aside0 (Kd.R (Kd.int .i64) 3 w8 w.heap.size (fun k_ => w4.heap.size ≤ k_ ∧ k_ < w5.heap.size) v3x v2) := ⟨by rw [hw_]; exact Kd.R_far HX3.out (p := ⟨g8, 0, none⟩) (fun k_ h_ => by have z1 := HZ1.out; have z2 := HZ2.out; have z3 := HZ3.out; have z4 := HZ4.out; have z5 := HZ5.out; have z6 := HZ6.out; have z7 := HZ7.out; have hg_ := HG8.out; show k_ ≠ g8; omega) _⟩; clear HX3; have HX3 := n_; clear n_; have n_ : Aside0 (Kd.R (Kd.int .i64) 3 w8 w.heap.size (fun k_ => w5.heap.size ≤ k_ ∧ k_ < w6.heap.size) (.slice Aq4 l0.length cq4) l0) := ⟨by rw [hw_]; exact Kd.R_far HX4.out (p := ⟨g8, 0, none⟩) (fun k_ h_ => by have z1 := HZ1.out; have z2 := HZ2.out; have z3 := HZ3.out; have z4 := HZ4.out; have z5 := HZ5.out; have z6 := HZ6.out; have z7 := HZ7.out; have hg_ := HG8.out; show k_ ≠ g8; omega) _⟩; clear HX4; have HX4 := n_; clear n_; have nb2_ : Aside0 (w8.heap[g2]? = some (.cells #[.slice A0 l0.length c0] 24 (0, 0))) := ⟨by rw [hw_]; exact (Below.heap_setCell _ _ _ _ (by have z1 := HZ1.out; have z2 := HZ2.out; have z3 := HZ3.out; have z4 := HZ4.out; have z5 := HZ5.out; have z6 := HZ6.out; have z7 := HZ7.out; have h1_ := HG2.out; have h2_ := HG8.out; show g2 ≠ g8; omega)).trans HBK2.out⟩; have nb8_ : Aside0 (w8.heap[g8]? = some (.cells #[.slice Aq4 l0.length cq4] 28 (0, 0))) := ⟨by rw [hw_]; exact one_setCell HBK8.out⟩; clear hcz2; clear hcz8; clear hw_; clear HBK2; have HBK2 := nb2_; clear nb2_; have hcz2 : w8.cell? ⟨g2, 0, none⟩ = some (.slice A0 l0.length c0) := (blk_cell HBK2.out 0).trans rfl; clear HBK8; have HBK8 := nb8_; clear nb8_; have hcz8 : w8.cell? ⟨g8, 0, none⟩ = some (.slice Aq4 l0.length cq4) := (blk_cell HBK8.out 0).trans rfl))
  have hcall_ := laws_toIntS.calls k1 _ _ l1 l1 _ (Kd.C_below HR1.out HT8.out) HC1.out hy4.out
  refine hcall_.mono ?_
  clear hcall_ 
  rintro e w9 ⟨v5x, rfl, hx5_, hb_⟩
  have HB9 := Aside0.mk hb_
  have HZ9 : Aside0 (w8.heap.size ≤ w9.heap.size) := ⟨hb_.size⟩
  have HT9 := Aside0.mk (HT8.out.trans (Below.mono hb_ HT8.out.size))
  clear hb_
  have n_ := Aside0.mk (Kd.R_below HX1.out HB9.out)
  clear HX1
  have HX1 := n_
  clear n_
  have n_ := Aside0.mk (Kd.R_below HX2.out HB9.out)
  clear HX2
  have HX2 := n_
  clear n_
  have n_ := Aside0.mk (Kd.R_below HX3.out HB9.out)
  clear HX3
  have HX3 := n_
  clear n_
  have n_ := Aside0.mk (Kd.R_below HX4.out HB9.out)
  clear HX4
  have HX4 := n_
  clear n_
  have n_ := Aside0.mk (blk_below HBK2.out HB9.out)
  clear HBK2 hcz2
  have HBK2 := n_
  clear n_
  have hcz2 : w9.cell? ⟨g2, 0, none⟩ = some (.slice A0 l0.length c0) := (blk_cell HBK2.out 0).trans rfl
  have n_ := Aside0.mk (blk_below HBK8.out HB9.out)
  clear HBK8 hcz8
  have HBK8 := n_
  clear n_
  have hcz8 : w9.cell? ⟨g8, 0, none⟩ = some (.slice Aq4 l0.length cq4) := (blk_cell HBK8.out 0).trans rfl
  have HX5 := Aside0.mk (Kd.R_lower (Kd.R_mono (ok' := fun k_ => w8.heap.size ≤ k_ ∧ k_ < w9.heap.size) (Kd.R_bound hx5_) (fun k_ h_ => ⟨h_.2.1, h_.2.2.1⟩)) HT8.out.size)
  clear hx5_
  go_wp2_with fail
  obtain ⟨A4_, c4_, e4_, hl4_, hC4_⟩ := Kd.R_reads HX4.out
  obtain ⟨A5_, c5_, e5_, hl5_, hC5_⟩ := Kd.R_reads HX5.out
  have hcall_ := impl_SlideOf.calls k _ _ l0 _ _ l1 v2 v3 _ hC4_ hl4_ hC5_ hl5_ hy6.out
  rw [← e4_] at hcall_
  rw [← e5_] at hcall_
  refine hcall_.mono ?_
  clear hcall_ hC4_ hl4_ e4_ c4_ A4_ hC5_ hl5_ e5_ c5_ A5_
  rintro e w10 ⟨v6x, rfl, hx6_, hb_⟩
  have HB10 := Aside0.mk hb_
  have HZ10 : Aside0 (w9.heap.size ≤ w10.heap.size) := ⟨hb_.size⟩
  have HT10 := Aside0.mk (HT9.out.trans (Below.mono hb_ HT9.out.size))
  clear hb_
  have n_ := Aside0.mk (Kd.R_below HX1.out HB10.out)
  clear HX1
  have HX1 := n_
  clear n_
  have n_ := Aside0.mk (Kd.R_below HX2.out HB10.out)
  clear HX2
  have HX2 := n_
  clear n_
  have n_ := Aside0.mk (Kd.R_below HX3.out HB10.out)
  clear HX3
  have HX3 := n_
  clear n_
  have n_ := Aside0.mk (Kd.R_below HX4.out HB10.out)
  clear HX4
  have HX4 := n_
  clear n_
  have n_ := Aside0.mk (Kd.R_below HX5.out HB10.out)
  clear HX5
  have HX5 := n_
  clear n_
  have n_ := Aside0.mk (blk_below HBK2.out HB10.out)
  clear HBK2 hcz2
  have HBK2 := n_
  clear n_
  have hcz2 : w10.cell? ⟨g2, 0, none⟩ = some (.slice A0 l0.length c0) := (blk_cell HBK2.out 0).trans rfl
  have n_ := Aside0.mk (blk_below HBK8.out HB10.out)
  clear HBK8 hcz8
  have HBK8 := n_
  clear n_
  have hcz8 : w10.cell? ⟨g8, 0, none⟩ = some (.slice Aq4 l0.length cq4) := (blk_cell HBK8.out 0).trans rfl
  have HX6 := Aside0.mk (Kd.R_lower (Kd.R_mono (ok' := fun k_ => w9.heap.size ≤ k_ ∧ k_ < w10.heap.size) (Kd.R_bound hx6_) (fun k_ h_ => ⟨h_.2.1, h_.2.2.1⟩)) HT9.out.size)
  clear hx6_
  go_wp2_with fail
  obtain ⟨A6_, c6_, e6_, hl6_, hC6_⟩ := Kd.R_reads HX6.out
  obtain ⟨A3_, c3_, e3_, hl3_, hC3_⟩ := Kd.R_reads HX3.out
  have hcall_ := laws_eqIntS.calls k1 _ _ v2 _ _ v2 true _ hC6_ hl6_ hC3_ hl3_ hy7.out
  rw [← e6_] at hcall_
  rw [← e3_] at hcall_
  refine hcall_.mono ?_
  clear hcall_ hC6_ hl6_ e6_ c6_ A6_ hC3_ hl3_ e3_ c3_ A3_
  rintro e w11 ⟨rfl, hb0_⟩
  have hb_ := laws_FnExactSlideOf.belowD hb0_
  clear hb0_
  have HB11 := Aside0.mk hb_
  have HZ11 : Aside0 (w10.heap.size ≤ w11.heap.size) := ⟨hb_.size⟩
  have HT11 := Aside0.mk (HT10.out.trans (Below.mono hb_ HT10.out.size))
  clear hb_
  have n_ := Aside0.mk (Kd.R_below HX1.out HB11.out)
  clear HX1
  have HX1 := n_
  clear n_
  have n_ := Aside0.mk (Kd.R_below HX2.out HB11.out)
  clear HX2
  have HX2 := n_
  clear n_
  have n_ := Aside0.mk (Kd.R_below HX3.out HB11.out)
  clear HX3
  have HX3 := n_
  clear n_
  have n_ := Aside0.mk (Kd.R_below HX4.out HB11.out)
  clear HX4
  have HX4 := n_
  clear n_
  have n_ := Aside0.mk (Kd.R_below HX5.out HB11.out)
  clear HX5
  have HX5 := n_
  clear n_
  have n_ := Aside0.mk (Kd.R_below HX6.out HB11.out)
  clear HX6
  have HX6 := n_
  clear n_
  have n_ := Aside0.mk (blk_below HBK2.out HB11.out)
  clear HBK2 hcz2
  have HBK2 := n_
  clear n_
  have hcz2 : w11.cell? ⟨g2, 0, none⟩ = some (.slice A0 l0.length c0) := (blk_cell HBK2.out 0).trans rfl
  have n_ := Aside0.mk (blk_below HBK8.out HB11.out)
  clear HBK8 hcz8
  have HBK8 := n_
  clear n_
  have hcz8 : w11.cell? ⟨g8, 0, none⟩ = some (.slice Aq4 l0.length cq4) := (blk_cell HBK8.out 0).trans rfl
  go_wp2_with fail
  have HB12 := Aside0.mk (below_drew (Below.refl w11.heap.size w11))
  have HZ12 : Aside0 (w11.heap.size ≤ w11.drew.heap.size) := ⟨Nat.le_refl _⟩
  have HT12 := Aside0.mk (HT11.out.trans (Below.mono HB12.out HT11.out.size))
  have n_ := Aside0.mk (Kd.R_below HX1.out HB12.out)
  clear HX1
  have HX1 := n_
  clear n_
  have n_ := Aside0.mk (Kd.R_below HX2.out HB12.out)
  clear HX2
  have HX2 := n_
  clear n_
  have n_ := Aside0.mk (Kd.R_below HX3.out HB12.out)
  clear HX3
  have HX3 := n_
  clear n_
  have n_ := Aside0.mk (Kd.R_below HX4.out HB12.out)
  clear HX4
  have HX4 := n_
  clear n_
  have n_ := Aside0.mk (Kd.R_below HX5.out HB12.out)
  clear HX5
  have HX5 := n_
  clear n_
  have n_ := Aside0.mk (Kd.R_below HX6.out HB12.out)
  clear HX6
  have HX6 := n_
  clear n_
  have n_ := Aside0.mk (blk_below HBK2.out HB12.out)
  clear HBK2 hcz2
  have HBK2 := n_
  clear n_
  have hcz2 : w11.drew.cell? ⟨g2, 0, none⟩ = some (.slice A0 l0.length c0) := (blk_cell HBK2.out 0).trans rfl
  have n_ := Aside0.mk (blk_below HBK8.out HB12.out)
  clear HBK8 hcz8
  have HBK8 := n_
  clear n_
  have hcz8 : w11.drew.cell? ⟨g8, 0, none⟩ = some (.slice Aq4 l0.length cq4) := (blk_cell HBK8.out 0).trans rfl
  go_region_held3 (fun w_ => w_.cell? ⟨g2, 0, none⟩ = some (.slice A0 l0.length c0) ∧ w_.cell? ⟨g8, 0, none⟩ = some (.slice Aq4 l0.length cq4)) (exact ⟨hcz2, hcz8⟩) (first | (go_at_call 17; have hcall_ := laws_toPoset.calls k1 _ _ l0 l0 _ (Kd.C_below HR0.out HT12.out) HC0.out hy3.out; refine hcall_.mono ?_; clear hcall_; rintro e w13 ⟨v7x, rfl, hx7_, hb_⟩; have HB13 := Aside0.mk hb_; have HZ13 : Aside0 (w11.drew.heap.size ≤ w13.heap.size) := ⟨hb_.size⟩; have HT13 := Aside0.mk (HT12.out.trans (Below.mono hb_ HT12.out.size)); clear hb_; have n_ := Aside0.mk (Kd.R_below HX1.out HB13.out); clear HX1; have HX1 := n_; clear n_; have n_ := Aside0.mk (Kd.R_below HX2.out HB13.out); clear HX2; have HX2 := n_; clear n_; have n_ := Aside0.mk (Kd.R_below HX3.out HB13.out); clear HX3; have HX3 := n_; clear n_; have n_ := Aside0.mk (Kd.R_below HX4.out HB13.out); clear HX4; have HX4 := n_; clear n_; have n_ := Aside0.mk (Kd.R_below HX5.out HB13.out); clear HX5; have HX5 := n_; clear n_; have n_ := Aside0.mk (Kd.R_below HX6.out HB13.out); clear HX6; have HX6 := n_; clear n_; have n_ := Aside0.mk (blk_below HBK2.out HB13.out); clear HBK2 hcz2; have HBK2 := n_; clear n_; have hcz2 : w13.cell? ⟨g2, 0, none⟩ = some (.slice A0 l0.length c0) := (blk_cell HBK2.out 0).trans rfl; have n_ := Aside0.mk (blk_below HBK8.out HB13.out); clear HBK8 hcz8; have HBK8 := n_; clear n_; have hcz8 : w13.cell? ⟨g8, 0, none⟩ = some (.slice Aq4 l0.length cq4) := (blk_cell HBK8.out 0).trans rfl; have HX7 := Aside0.mk (Kd.R_lower (Kd.R_mono (ok' := fun k_ => w11.drew.heap.size ≤ k_ ∧ k_ < w13.heap.size) (Kd.R_bound hx7_) (fun k_ h_ => ⟨h_.2.1, h_.2.2.1⟩)) HT12.out.size); clear hx7_) | (go_at_call 21; obtain ⟨A4_, c4_, e4_, hl4_, hC4_⟩ := Kd.R_reads HX4.out; obtain ⟨A7_, c7_, e7_, hl7_, hC7_⟩ := Kd.R_reads HX7.out; have hcall_ := laws_eqPoset.calls k1 _ _ l0 _ _ l0 true _ hC4_ hl4_ hC7_ hl7_ hy8.out; rw [← e4_] at hcall_; rw [← e7_] at hcall_; refine hcall_.mono ?_; clear hcall_ hC4_ hl4_ e4_ c4_ A4_ hC7_ hl7_ e7_ c7_ A7_; rintro e w14 ⟨rfl, hb_⟩; have HB14 := Aside0.mk hb_; have HZ14 : Aside0 (w13.heap.size ≤ w14.heap.size) := ⟨hb_.size⟩; have HT14 := Aside0.mk (HT13.out.trans (Below.mono hb_ HT13.out.size)); clear hb_; have n_ := Aside0.mk (Kd.R_below HX1.out HB14.out); clear HX1; have HX1 := n_; clear n_; have n_ := Aside0.mk (Kd.R_below HX2.out HB14.out); clear HX2; have HX2 := n_; clear n_; have n_ := Aside0.mk (Kd.R_below HX3.out HB14.out); clear HX3; have HX3 := n_; clear n_; have n_ := Aside0.mk (Kd.R_below HX4.out HB14.out); clear HX4; have HX4 := n_; clear n_; have n_ := Aside0.mk (Kd.R_below HX5.out HB14.out); clear HX5; have HX5 := n_; clear n_; have n_ := Aside0.mk (Kd.R_below HX6.out HB14.out); clear HX6; have HX6 := n_; clear n_; have n_ := Aside0.mk (Kd.R_below HX7.out HB14.out); clear HX7; have HX7 := n_; clear n_; have n_ := Aside0.mk (blk_below HBK2.out HB14.out); clear HBK2 hcz2; have HBK2 := n_; clear n_; have hcz2 : w14.cell? ⟨g2, 0, none⟩ = some (.slice A0 l0.length c0) := (blk_cell HBK2.out 0).trans rfl; have n_ := Aside0.mk (blk_below HBK8.out HB14.out); clear HBK8 hcz8; have HBK8 := n_; clear n_; have hcz8 : w14.cell? ⟨g8, 0, none⟩ = some (.slice Aq4 l0.length cq4) := (blk_cell HBK8.out 0).trans rfl))
  go_wp2_with fail
  have hcall_ := laws_toIntS.calls k1 _ _ l1 l1 _ (Kd.C_below HR1.out HT14.out) HC1.out hy4.out
  refine hcall_.mono ?_
  clear hcall_ 
  rintro e w15 ⟨v8x, rfl, hx8_, hb_⟩
  have HB15 := Aside0.mk hb_
  have HZ15 : Aside0 (w14.heap.size ≤ w15.heap.size) := ⟨hb_.size⟩
  have HT15 := Aside0.mk (HT14.out.trans (Below.mono hb_ HT14.out.size))
  clear hb_
  have n_ := Aside0.mk (Kd.R_below HX1.out HB15.out)
  clear HX1
  have HX1 := n_
  clear n_
  have n_ := Aside0.mk (Kd.R_below HX2.out HB15.out)
  clear HX2
  have HX2 := n_
  clear n_
  have n_ := Aside0.mk (Kd.R_below HX3.out HB15.out)
  clear HX3
  have HX3 := n_
  clear n_
  have n_ := Aside0.mk (Kd.R_below HX4.out HB15.out)
  clear HX4
  have HX4 := n_
  clear n_
  have n_ := Aside0.mk (Kd.R_below HX5.out HB15.out)
  clear HX5
  have HX5 := n_
  clear n_
  have n_ := Aside0.mk (Kd.R_below HX6.out HB15.out)
  clear HX6
  have HX6 := n_
  clear n_
  have n_ := Aside0.mk (Kd.R_below HX7.out HB15.out)
  clear HX7
  have HX7 := n_
  clear n_
  have n_ := Aside0.mk (blk_below HBK2.out HB15.out)
  clear HBK2 hcz2
  have HBK2 := n_
  clear n_
  have hcz2 : w15.cell? ⟨g2, 0, none⟩ = some (.slice A0 l0.length c0) := (blk_cell HBK2.out 0).trans rfl
  have n_ := Aside0.mk (blk_below HBK8.out HB15.out)
  clear HBK8 hcz8
  have HBK8 := n_
  clear n_
  have hcz8 : w15.cell? ⟨g8, 0, none⟩ = some (.slice Aq4 l0.length cq4) := (blk_cell HBK8.out 0).trans rfl
  have HX8 := Aside0.mk (Kd.R_lower (Kd.R_mono (ok' := fun k_ => w14.heap.size ≤ k_ ∧ k_ < w15.heap.size) (Kd.R_bound hx8_) (fun k_ h_ => ⟨h_.2.1, h_.2.2.1⟩)) HT14.out.size)
  clear hx8_
  go_wp2_with fail
  obtain ⟨A5_, c5_, e5_, hl5_, hC5_⟩ := Kd.R_reads HX5.out
  obtain ⟨A8_, c8_, e8_, hl8_, hC8_⟩ := Kd.R_reads HX8.out
  have hcall_ := laws_eqIntS.calls k1 _ _ l1 _ _ l1 true _ hC5_ hl5_ hC8_ hl8_ hy9.out
  rw [← e5_] at hcall_
  rw [← e8_] at hcall_
  refine hcall_.mono ?_
  clear hcall_ hC5_ hl5_ e5_ c5_ A5_ hC8_ hl8_ e8_ c8_ A8_
  rintro e w16 ⟨rfl, hb0_⟩
  have hb_ := laws_FnExactSlideOf.belowD hb0_
  clear hb0_
  have HB16 := Aside0.mk hb_
  have HZ16 : Aside0 (w15.heap.size ≤ w16.heap.size) := ⟨hb_.size⟩
  have HT16 := Aside0.mk (HT15.out.trans (Below.mono hb_ HT15.out.size))
  clear hb_
  have n_ := Aside0.mk (Kd.R_below HX1.out HB16.out)
  clear HX1
  have HX1 := n_
  clear n_
  have n_ := Aside0.mk (Kd.R_below HX2.out HB16.out)
  clear HX2
  have HX2 := n_
  clear n_
  have n_ := Aside0.mk (Kd.R_below HX3.out HB16.out)
  clear HX3
  have HX3 := n_
  clear n_
  have n_ := Aside0.mk (Kd.R_below HX4.out HB16.out)
  clear HX4
  have HX4 := n_
  clear n_
  have n_ := Aside0.mk (Kd.R_below HX5.out HB16.out)
  clear HX5
  have HX5 := n_
  clear n_
  have n_ := Aside0.mk (Kd.R_below HX6.out HB16.out)
  clear HX6
  have HX6 := n_
  clear n_
  have n_ := Aside0.mk (Kd.R_below HX7.out HB16.out)
  clear HX7
  have HX7 := n_
  clear n_
  have n_ := Aside0.mk (Kd.R_below HX8.out HB16.out)
  clear HX8
  have HX8 := n_
  clear n_
  have n_ := Aside0.mk (blk_below HBK2.out HB16.out)
  clear HBK2 hcz2
  have HBK2 := n_
  clear n_
  have hcz2 : w16.cell? ⟨g2, 0, none⟩ = some (.slice A0 l0.length c0) := (blk_cell HBK2.out 0).trans rfl
  have n_ := Aside0.mk (blk_below HBK8.out HB16.out)
  clear HBK8 hcz8
  have HBK8 := n_
  clear n_
  have hcz8 : w16.cell? ⟨g8, 0, none⟩ = some (.slice Aq4 l0.length cq4) := (blk_cell HBK8.out 0).trans rfl
  go_wp2_with fail
  refine (laws_markPoset.calls k1 (fun k_ => some k_ = ((.slice Aq4 l0.length cq4) : Value).ownBlock) (.slice Aq4 l0.length cq4) l0 1 m4 u5 w _ HT16.out (Kd.R_tight rfl HX4.out) hy10.out).mono ?_
  rintro e w17 ⟨rfl, hy_, hb_, hk_⟩
  have HT17 := Aside0.mk hb_
  have HK17 := Aside0.mk hk_
  have HZ17 : Aside0 (w16.heap.size ≤ w17.heap.size) := ⟨hk_.1⟩
  have HO := HX4
  have HY := Aside0.mk (Kd.R_reok rfl hy_ (fun k_ e_ => HO.out.1 k_ e_))
  clear hy_ hb_ hk_
  have n_ := Aside0.mk (Kd.R_kept HX1.out HK17.out (fun k_ h_ h2_ => by have z1 := HZ1.out; have z2 := HZ2.out; have z3 := HZ3.out; have z4 := HZ4.out; have z5 := HZ5.out; have z6 := HZ6.out; have z7 := HZ7.out; have z8 := HZ8.out; have z9 := HZ9.out; have z10 := HZ10.out; have z11 := HZ11.out; have z12 := HZ12.out; have z13 := HZ13.out; have z14 := HZ14.out; have z15 := HZ15.out; have z16 := HZ16.out; have z17 := HZ17.out; have h3_ := HO.out.1 k_ h2_.symm; omega))
  clear HX1
  have HX1 := n_
  clear n_
  have n_ := Aside0.mk (Kd.R_kept HX2.out HK17.out (fun k_ h_ h2_ => by have z1 := HZ1.out; have z2 := HZ2.out; have z3 := HZ3.out; have z4 := HZ4.out; have z5 := HZ5.out; have z6 := HZ6.out; have z7 := HZ7.out; have z8 := HZ8.out; have z9 := HZ9.out; have z10 := HZ10.out; have z11 := HZ11.out; have z12 := HZ12.out; have z13 := HZ13.out; have z14 := HZ14.out; have z15 := HZ15.out; have z16 := HZ16.out; have z17 := HZ17.out; have h3_ := HO.out.1 k_ h2_.symm; omega))
  clear HX2
  have HX2 := n_
  clear n_
  have n_ := Aside0.mk (Kd.R_kept HX3.out HK17.out (fun k_ h_ h2_ => by have z1 := HZ1.out; have z2 := HZ2.out; have z3 := HZ3.out; have z4 := HZ4.out; have z5 := HZ5.out; have z6 := HZ6.out; have z7 := HZ7.out; have z8 := HZ8.out; have z9 := HZ9.out; have z10 := HZ10.out; have z11 := HZ11.out; have z12 := HZ12.out; have z13 := HZ13.out; have z14 := HZ14.out; have z15 := HZ15.out; have z16 := HZ16.out; have z17 := HZ17.out; have h3_ := HO.out.1 k_ h2_.symm; omega))
  clear HX3
  have HX3 := n_
  clear n_
  have n_ := Aside0.mk (Kd.R_kept HX5.out HK17.out (fun k_ h_ h2_ => by have z1 := HZ1.out; have z2 := HZ2.out; have z3 := HZ3.out; have z4 := HZ4.out; have z5 := HZ5.out; have z6 := HZ6.out; have z7 := HZ7.out; have z8 := HZ8.out; have z9 := HZ9.out; have z10 := HZ10.out; have z11 := HZ11.out; have z12 := HZ12.out; have z13 := HZ13.out; have z14 := HZ14.out; have z15 := HZ15.out; have z16 := HZ16.out; have z17 := HZ17.out; have h3_ := HO.out.1 k_ h2_.symm; omega))
  clear HX5
  have HX5 := n_
  clear n_
  have n_ := Aside0.mk (Kd.R_kept HX6.out HK17.out (fun k_ h_ h2_ => by have z1 := HZ1.out; have z2 := HZ2.out; have z3 := HZ3.out; have z4 := HZ4.out; have z5 := HZ5.out; have z6 := HZ6.out; have z7 := HZ7.out; have z8 := HZ8.out; have z9 := HZ9.out; have z10 := HZ10.out; have z11 := HZ11.out; have z12 := HZ12.out; have z13 := HZ13.out; have z14 := HZ14.out; have z15 := HZ15.out; have z16 := HZ16.out; have z17 := HZ17.out; have h3_ := HO.out.1 k_ h2_.symm; omega))
  clear HX6
  have HX6 := n_
  clear n_
  have n_ := Aside0.mk (Kd.R_kept HX7.out HK17.out (fun k_ h_ h2_ => by have z1 := HZ1.out; have z2 := HZ2.out; have z3 := HZ3.out; have z4 := HZ4.out; have z5 := HZ5.out; have z6 := HZ6.out; have z7 := HZ7.out; have z8 := HZ8.out; have z9 := HZ9.out; have z10 := HZ10.out; have z11 := HZ11.out; have z12 := HZ12.out; have z13 := HZ13.out; have z14 := HZ14.out; have z15 := HZ15.out; have z16 := HZ16.out; have z17 := HZ17.out; have h3_ := HO.out.1 k_ h2_.symm; omega))
  clear HX7
  have HX7 := n_
  clear n_
  have n_ := Aside0.mk (Kd.R_kept HX8.out HK17.out (fun k_ h_ h2_ => by have z1 := HZ1.out; have z2 := HZ2.out; have z3 := HZ3.out; have z4 := HZ4.out; have z5 := HZ5.out; have z6 := HZ6.out; have z7 := HZ7.out; have z8 := HZ8.out; have z9 := HZ9.out; have z10 := HZ10.out; have z11 := HZ11.out; have z12 := HZ12.out; have z13 := HZ13.out; have z14 := HZ14.out; have z15 := HZ15.out; have z16 := HZ16.out; have z17 := HZ17.out; have h3_ := HO.out.1 k_ h2_.symm; omega))
  clear HX8
  have HX8 := n_
  clear n_
  have n_ := Aside0.mk ((HK17.out.2 g2 (blk_lt HBK2.out) (fun h2_ => by have z1 := HZ1.out; have z2 := HZ2.out; have z3 := HZ3.out; have z4 := HZ4.out; have z5 := HZ5.out; have z6 := HZ6.out; have z7 := HZ7.out; have z8 := HZ8.out; have z9 := HZ9.out; have z10 := HZ10.out; have z11 := HZ11.out; have z12 := HZ12.out; have z13 := HZ13.out; have z14 := HZ14.out; have z15 := HZ15.out; have z16 := HZ16.out; have z17 := HZ17.out; have hg_ := HG2.out; have h3_ := HO.out.1 g2 h2_.symm; omega)).trans HBK2.out)
  clear HBK2 hcz2
  have HBK2 := n_
  clear n_
  have hcz2 : w17.cell? ⟨g2, 0, none⟩ = some (.slice A0 l0.length c0) := (blk_cell HBK2.out 0).trans rfl
  have n_ := Aside0.mk ((HK17.out.2 g8 (blk_lt HBK8.out) (fun h2_ => by have z1 := HZ1.out; have z2 := HZ2.out; have z3 := HZ3.out; have z4 := HZ4.out; have z5 := HZ5.out; have z6 := HZ6.out; have z7 := HZ7.out; have z8 := HZ8.out; have z9 := HZ9.out; have z10 := HZ10.out; have z11 := HZ11.out; have z12 := HZ12.out; have z13 := HZ13.out; have z14 := HZ14.out; have z15 := HZ15.out; have z16 := HZ16.out; have z17 := HZ17.out; have hg_ := HG8.out; have h3_ := HO.out.1 g8 h2_.symm; omega)).trans HBK8.out)
  clear HBK8 hcz8
  have HBK8 := n_
  clear n_
  have hcz8 : w17.cell? ⟨g8, 0, none⟩ = some (.slice Aq4 l0.length cq4) := (blk_cell HBK8.out 0).trans rfl
  clear HX4 HO
  have HX4 := HY
  clear HY
  go_wp2_with fail
  refine (laws_markIntS.calls k1 (fun k_ => some k_ = (v5x : Value).ownBlock) v5x l1 m4 m6 u7 w _ HT17.out (Kd.R_tight rfl HX5.out) hy11.out).mono ?_
  rintro e w18 ⟨rfl, hy_, hb_, hk_⟩
  have HT18 := Aside0.mk hb_
  have HK18 := Aside0.mk hk_
  have HZ18 : Aside0 (w17.heap.size ≤ w18.heap.size) := ⟨hk_.1⟩
  have HO := HX5
  have HY := Aside0.mk (Kd.R_reok rfl hy_ (fun k_ e_ => HO.out.1 k_ e_))
  clear hy_ hb_ hk_
  have n_ := Aside0.mk (Kd.R_kept HX1.out HK18.out (fun k_ h_ h2_ => by have z1 := HZ1.out; have z2 := HZ2.out; have z3 := HZ3.out; have z4 := HZ4.out; have z5 := HZ5.out; have z6 := HZ6.out; have z7 := HZ7.out; have z8 := HZ8.out; have z9 := HZ9.out; have z10 := HZ10.out; have z11 := HZ11.out; have z12 := HZ12.out; have z13 := HZ13.out; have z14 := HZ14.out; have z15 := HZ15.out; have z16 := HZ16.out; have z17 := HZ17.out; have z18 := HZ18.out; have h3_ := HO.out.1 k_ h2_.symm; omega))
  clear HX1
  have HX1 := n_
  clear n_
  have n_ := Aside0.mk (Kd.R_kept HX2.out HK18.out (fun k_ h_ h2_ => by have z1 := HZ1.out; have z2 := HZ2.out; have z3 := HZ3.out; have z4 := HZ4.out; have z5 := HZ5.out; have z6 := HZ6.out; have z7 := HZ7.out; have z8 := HZ8.out; have z9 := HZ9.out; have z10 := HZ10.out; have z11 := HZ11.out; have z12 := HZ12.out; have z13 := HZ13.out; have z14 := HZ14.out; have z15 := HZ15.out; have z16 := HZ16.out; have z17 := HZ17.out; have z18 := HZ18.out; have h3_ := HO.out.1 k_ h2_.symm; omega))
  clear HX2
  have HX2 := n_
  clear n_
  have n_ := Aside0.mk (Kd.R_kept HX3.out HK18.out (fun k_ h_ h2_ => by have z1 := HZ1.out; have z2 := HZ2.out; have z3 := HZ3.out; have z4 := HZ4.out; have z5 := HZ5.out; have z6 := HZ6.out; have z7 := HZ7.out; have z8 := HZ8.out; have z9 := HZ9.out; have z10 := HZ10.out; have z11 := HZ11.out; have z12 := HZ12.out; have z13 := HZ13.out; have z14 := HZ14.out; have z15 := HZ15.out; have z16 := HZ16.out; have z17 := HZ17.out; have z18 := HZ18.out; have h3_ := HO.out.1 k_ h2_.symm; omega))
  clear HX3
  have HX3 := n_
  clear n_
  have n_ := Aside0.mk (Kd.R_kept HX4.out HK18.out (fun k_ h_ h2_ => by have z1 := HZ1.out; have z2 := HZ2.out; have z3 := HZ3.out; have z4 := HZ4.out; have z5 := HZ5.out; have z6 := HZ6.out; have z7 := HZ7.out; have z8 := HZ8.out; have z9 := HZ9.out; have z10 := HZ10.out; have z11 := HZ11.out; have z12 := HZ12.out; have z13 := HZ13.out; have z14 := HZ14.out; have z15 := HZ15.out; have z16 := HZ16.out; have z17 := HZ17.out; have z18 := HZ18.out; have h3_ := HO.out.1 k_ h2_.symm; omega))
  clear HX4
  have HX4 := n_
  clear n_
  have n_ := Aside0.mk (Kd.R_kept HX6.out HK18.out (fun k_ h_ h2_ => by have z1 := HZ1.out; have z2 := HZ2.out; have z3 := HZ3.out; have z4 := HZ4.out; have z5 := HZ5.out; have z6 := HZ6.out; have z7 := HZ7.out; have z8 := HZ8.out; have z9 := HZ9.out; have z10 := HZ10.out; have z11 := HZ11.out; have z12 := HZ12.out; have z13 := HZ13.out; have z14 := HZ14.out; have z15 := HZ15.out; have z16 := HZ16.out; have z17 := HZ17.out; have z18 := HZ18.out; have h3_ := HO.out.1 k_ h2_.symm; omega))
  clear HX6
  have HX6 := n_
  clear n_
  have n_ := Aside0.mk (Kd.R_kept HX7.out HK18.out (fun k_ h_ h2_ => by have z1 := HZ1.out; have z2 := HZ2.out; have z3 := HZ3.out; have z4 := HZ4.out; have z5 := HZ5.out; have z6 := HZ6.out; have z7 := HZ7.out; have z8 := HZ8.out; have z9 := HZ9.out; have z10 := HZ10.out; have z11 := HZ11.out; have z12 := HZ12.out; have z13 := HZ13.out; have z14 := HZ14.out; have z15 := HZ15.out; have z16 := HZ16.out; have z17 := HZ17.out; have z18 := HZ18.out; have h3_ := HO.out.1 k_ h2_.symm; omega))
  clear HX7
  have HX7 := n_
  clear n_
  have n_ := Aside0.mk (Kd.R_kept HX8.out HK18.out (fun k_ h_ h2_ => by have z1 := HZ1.out; have z2 := HZ2.out; have z3 := HZ3.out; have z4 := HZ4.out; have z5 := HZ5.out; have z6 := HZ6.out; have z7 := HZ7.out; have z8 := HZ8.out; have z9 := HZ9.out; have z10 := HZ10.out; have z11 := HZ11.out; have z12 := HZ12.out; have z13 := HZ13.out; have z14 := HZ14.out; have z15 := HZ15.out; have z16 := HZ16.out; have z17 := HZ17.out; have z18 := HZ18.out; have h3_ := HO.out.1 k_ h2_.symm; omega))
  clear HX8
  have HX8 := n_
  clear n_
  have n_ := Aside0.mk ((HK18.out.2 g2 (blk_lt HBK2.out) (fun h2_ => by have z1 := HZ1.out; have z2 := HZ2.out; have z3 := HZ3.out; have z4 := HZ4.out; have z5 := HZ5.out; have z6 := HZ6.out; have z7 := HZ7.out; have z8 := HZ8.out; have z9 := HZ9.out; have z10 := HZ10.out; have z11 := HZ11.out; have z12 := HZ12.out; have z13 := HZ13.out; have z14 := HZ14.out; have z15 := HZ15.out; have z16 := HZ16.out; have z17 := HZ17.out; have z18 := HZ18.out; have hg_ := HG2.out; have h3_ := HO.out.1 g2 h2_.symm; omega)).trans HBK2.out)
  clear HBK2 hcz2
  have HBK2 := n_
  clear n_
  have hcz2 : w18.cell? ⟨g2, 0, none⟩ = some (.slice A0 l0.length c0) := (blk_cell HBK2.out 0).trans rfl
  have n_ := Aside0.mk ((HK18.out.2 g8 (blk_lt HBK8.out) (fun h2_ => by have z1 := HZ1.out; have z2 := HZ2.out; have z3 := HZ3.out; have z4 := HZ4.out; have z5 := HZ5.out; have z6 := HZ6.out; have z7 := HZ7.out; have z8 := HZ8.out; have z9 := HZ9.out; have z10 := HZ10.out; have z11 := HZ11.out; have z12 := HZ12.out; have z13 := HZ13.out; have z14 := HZ14.out; have z15 := HZ15.out; have z16 := HZ16.out; have z17 := HZ17.out; have z18 := HZ18.out; have hg_ := HG8.out; have h3_ := HO.out.1 g8 h2_.symm; omega)).trans HBK8.out)
  clear HBK8 hcz8
  have HBK8 := n_
  clear n_
  have hcz8 : w18.cell? ⟨g8, 0, none⟩ = some (.slice Aq4 l0.length cq4) := (blk_cell HBK8.out 0).trans rfl
  clear HX5 HO
  have HX5 := HY
  clear HY
  go_wp2_with fail
  obtain ⟨A6_, c6_, e6_, hl6_, hC6_⟩ := Kd.R_reads HX6.out
  obtain ⟨A3_, c3_, e3_, hl3_, hC3_⟩ := Kd.R_reads HX3.out
  have hcall_ := laws_eqIntS.calls k1 _ _ v2 _ _ v2 true _ hC6_ hl6_ hC3_ hl3_ hy7.out
  rw [← e6_] at hcall_
  rw [← e3_] at hcall_
  refine hcall_.mono ?_
  clear hcall_ hC6_ hl6_ e6_ c6_ A6_ hC3_ hl3_ e3_ c3_ A3_
  rintro e w19 ⟨rfl, hb0_⟩
  have hb_ := laws_FnExactSlideOf.belowD hb0_
  clear hb0_
  have HB19 := Aside0.mk hb_
  have HZ19 : Aside0 (w18.heap.size ≤ w19.heap.size) := ⟨hb_.size⟩
  have HT19 := Aside0.mk (HT18.out.trans (Below.mono hb_ HT18.out.size))
  clear hb_
  have n_ := Aside0.mk (Kd.R_below HX1.out HB19.out)
  clear HX1
  have HX1 := n_
  clear n_
  have n_ := Aside0.mk (Kd.R_below HX2.out HB19.out)
  clear HX2
  have HX2 := n_
  clear n_
  have n_ := Aside0.mk (Kd.R_below HX3.out HB19.out)
  clear HX3
  have HX3 := n_
  clear n_
  have n_ := Aside0.mk (Kd.R_below HX4.out HB19.out)
  clear HX4
  have HX4 := n_
  clear n_
  have n_ := Aside0.mk (Kd.R_below HX5.out HB19.out)
  clear HX5
  have HX5 := n_
  clear n_
  have n_ := Aside0.mk (Kd.R_below HX6.out HB19.out)
  clear HX6
  have HX6 := n_
  clear n_
  have n_ := Aside0.mk (Kd.R_below HX7.out HB19.out)
  clear HX7
  have HX7 := n_
  clear n_
  have n_ := Aside0.mk (Kd.R_below HX8.out HB19.out)
  clear HX8
  have HX8 := n_
  clear n_
  have n_ := Aside0.mk (blk_below HBK2.out HB19.out)
  clear HBK2 hcz2
  have HBK2 := n_
  clear n_
  have hcz2 : w19.cell? ⟨g2, 0, none⟩ = some (.slice A0 l0.length c0) := (blk_cell HBK2.out 0).trans rfl
  have n_ := Aside0.mk (blk_below HBK8.out HB19.out)
  clear HBK8 hcz8
  have HBK8 := n_
  clear n_
  have hcz8 : w19.cell? ⟨g8, 0, none⟩ = some (.slice Aq4 l0.length cq4) := (blk_cell HBK8.out 0).trans rfl
  go_wp2_with fail
  refine (laws_markIntS.calls k1 (fun k_ => some k_ = (v6x : Value).ownBlock) v6x v2 1 m8 u9 w _ HT19.out (Kd.R_tight rfl HX6.out) hy13.out).mono ?_
  rintro e w20 ⟨rfl, hy_, hb_, hk_⟩
  have HT20 := Aside0.mk hb_
  have HK20 := Aside0.mk hk_
  have HZ20 : Aside0 (w19.heap.size ≤ w20.heap.size) := ⟨hk_.1⟩
  have HO := HX6
  have HY := Aside0.mk (Kd.R_reok rfl hy_ (fun k_ e_ => HO.out.1 k_ e_))
  clear hy_ hb_ hk_
  have n_ := Aside0.mk (Kd.R_kept HX1.out HK20.out (fun k_ h_ h2_ => by have z1 := HZ1.out; have z2 := HZ2.out; have z3 := HZ3.out; have z4 := HZ4.out; have z5 := HZ5.out; have z6 := HZ6.out; have z7 := HZ7.out; have z8 := HZ8.out; have z9 := HZ9.out; have z10 := HZ10.out; have z11 := HZ11.out; have z12 := HZ12.out; have z13 := HZ13.out; have z14 := HZ14.out; have z15 := HZ15.out; have z16 := HZ16.out; have z17 := HZ17.out; have z18 := HZ18.out; have z19 := HZ19.out; have z20 := HZ20.out; have h3_ := HO.out.1 k_ h2_.symm; omega))
  clear HX1
  have HX1 := n_
  clear n_
  have n_ := Aside0.mk (Kd.R_kept HX2.out HK20.out (fun k_ h_ h2_ => by have z1 := HZ1.out; have z2 := HZ2.out; have z3 := HZ3.out; have z4 := HZ4.out; have z5 := HZ5.out; have z6 := HZ6.out; have z7 := HZ7.out; have z8 := HZ8.out; have z9 := HZ9.out; have z10 := HZ10.out; have z11 := HZ11.out; have z12 := HZ12.out; have z13 := HZ13.out; have z14 := HZ14.out; have z15 := HZ15.out; have z16 := HZ16.out; have z17 := HZ17.out; have z18 := HZ18.out; have z19 := HZ19.out; have z20 := HZ20.out; have h3_ := HO.out.1 k_ h2_.symm; omega))
  clear HX2
  have HX2 := n_
  clear n_
  have n_ := Aside0.mk (Kd.R_kept HX3.out HK20.out (fun k_ h_ h2_ => by have z1 := HZ1.out; have z2 := HZ2.out; have z3 := HZ3.out; have z4 := HZ4.out; have z5 := HZ5.out; have z6 := HZ6.out; have z7 := HZ7.out; have z8 := HZ8.out; have z9 := HZ9.out; have z10 := HZ10.out; have z11 := HZ11.out; have z12 := HZ12.out; have z13 := HZ13.out; have z14 := HZ14.out; have z15 := HZ15.out; have z16 := HZ16.out; have z17 := HZ17.out; have z18 := HZ18.out; have z19 := HZ19.out; have z20 := HZ20.out; have h3_ := HO.out.1 k_ h2_.symm; omega))
  clear HX3
  have HX3 := n_
  clear n_
  have n_ := Aside0.mk (Kd.R_kept HX4.out HK20.out (fun k_ h_ h2_ => by have z1 := HZ1.out; have z2 := HZ2.out; have z3 := HZ3.out; have z4 := HZ4.out; have z5 := HZ5.out; have z6 := HZ6.out; have z7 := HZ7.out; have z8 := HZ8.out; have z9 := HZ9.out; have z10 := HZ10.out; have z11 := HZ11.out; have z12 := HZ12.out; have z13 := HZ13.out; have z14 := HZ14.out; have z15 := HZ15.out; have z16 := HZ16.out; have z17 := HZ17.out; have z18 := HZ18.out; have z19 := HZ19.out; have z20 := HZ20.out; have h3_ := HO.out.1 k_ h2_.symm; omega))
  clear HX4
  have HX4 := n_
  clear n_
  have n_ := Aside0.mk (Kd.R_kept HX5.out HK20.out (fun k_ h_ h2_ => by have z1 := HZ1.out; have z2 := HZ2.out; have z3 := HZ3.out; have z4 := HZ4.out; have z5 := HZ5.out; have z6 := HZ6.out; have z7 := HZ7.out; have z8 := HZ8.out; have z9 := HZ9.out; have z10 := HZ10.out; have z11 := HZ11.out; have z12 := HZ12.out; have z13 := HZ13.out; have z14 := HZ14.out; have z15 := HZ15.out; have z16 := HZ16.out; have z17 := HZ17.out; have z18 := HZ18.out; have z19 := HZ19.out; have z20 := HZ20.out; have h3_ := HO.out.1 k_ h2_.symm; omega))
  clear HX5
  have HX5 := n_
  clear n_
  have n_ := Aside0.mk (Kd.R_kept HX7.out HK20.out (fun k_ h_ h2_ => by have z1 := HZ1.out; have z2 := HZ2.out; have z3 := HZ3.out; have z4 := HZ4.out; have z5 := HZ5.out; have z6 := HZ6.out; have z7 := HZ7.out; have z8 := HZ8.out; have z9 := HZ9.out; have z10 := HZ10.out; have z11 := HZ11.out; have z12 := HZ12.out; have z13 := HZ13.out; have z14 := HZ14.out; have z15 := HZ15.out; have z16 := HZ16.out; have z17 := HZ17.out; have z18 := HZ18.out; have z19 := HZ19.out; have z20 := HZ20.out; have h3_ := HO.out.1 k_ h2_.symm; omega))
  clear HX7
  have HX7 := n_
  clear n_
  have n_ := Aside0.mk (Kd.R_kept HX8.out HK20.out (fun k_ h_ h2_ => by have z1 := HZ1.out; have z2 := HZ2.out; have z3 := HZ3.out; have z4 := HZ4.out; have z5 := HZ5.out; have z6 := HZ6.out; have z7 := HZ7.out; have z8 := HZ8.out; have z9 := HZ9.out; have z10 := HZ10.out; have z11 := HZ11.out; have z12 := HZ12.out; have z13 := HZ13.out; have z14 := HZ14.out; have z15 := HZ15.out; have z16 := HZ16.out; have z17 := HZ17.out; have z18 := HZ18.out; have z19 := HZ19.out; have z20 := HZ20.out; have h3_ := HO.out.1 k_ h2_.symm; omega))
  clear HX8
  have HX8 := n_
  clear n_
  have n_ := Aside0.mk ((HK20.out.2 g2 (blk_lt HBK2.out) (fun h2_ => by have z1 := HZ1.out; have z2 := HZ2.out; have z3 := HZ3.out; have z4 := HZ4.out; have z5 := HZ5.out; have z6 := HZ6.out; have z7 := HZ7.out; have z8 := HZ8.out; have z9 := HZ9.out; have z10 := HZ10.out; have z11 := HZ11.out; have z12 := HZ12.out; have z13 := HZ13.out; have z14 := HZ14.out; have z15 := HZ15.out; have z16 := HZ16.out; have z17 := HZ17.out; have z18 := HZ18.out; have z19 := HZ19.out; have z20 := HZ20.out; have hg_ := HG2.out; have h3_ := HO.out.1 g2 h2_.symm; omega)).trans HBK2.out)
  clear HBK2 hcz2
  have HBK2 := n_
  clear n_
  have hcz2 : w20.cell? ⟨g2, 0, none⟩ = some (.slice A0 l0.length c0) := (blk_cell HBK2.out 0).trans rfl
  have n_ := Aside0.mk ((HK20.out.2 g8 (blk_lt HBK8.out) (fun h2_ => by have z1 := HZ1.out; have z2 := HZ2.out; have z3 := HZ3.out; have z4 := HZ4.out; have z5 := HZ5.out; have z6 := HZ6.out; have z7 := HZ7.out; have z8 := HZ8.out; have z9 := HZ9.out; have z10 := HZ10.out; have z11 := HZ11.out; have z12 := HZ12.out; have z13 := HZ13.out; have z14 := HZ14.out; have z15 := HZ15.out; have z16 := HZ16.out; have z17 := HZ17.out; have z18 := HZ18.out; have z19 := HZ19.out; have z20 := HZ20.out; have hg_ := HG8.out; have h3_ := HO.out.1 g8 h2_.symm; omega)).trans HBK8.out)
  clear HBK8 hcz8
  have HBK8 := n_
  clear n_
  have hcz8 : w20.cell? ⟨g8, 0, none⟩ = some (.slice Aq4 l0.length cq4) := (blk_cell HBK8.out 0).trans rfl
  clear HX6 HO
  have HX6 := HY
  clear HY
  go_wp2_with fail
  obtain ⟨A6_, c6_, e6_, hl6_, hC6_⟩ := Kd.R_reads HX6.out
  have hcall_ := laws_heldIntS.calls k1 _ _ u9 1 m8 _ hC6_ hl6_ hy14.out
  rw [← e6_] at hcall_
  refine hcall_.mono ?_
  clear hcall_ hC6_ hl6_ e6_ c6_ A6_
  rintro e w21 ⟨rfl, hb0_⟩
  have hb_ := laws_FnExactSlideOf.belowD hb0_
  clear hb0_
  have HB21 := Aside0.mk hb_
  have HZ21 : Aside0 (w20.heap.size ≤ w21.heap.size) := ⟨hb_.size⟩
  have HT21 := Aside0.mk (HT20.out.trans (Below.mono hb_ HT20.out.size))
  clear hb_
  have n_ := Aside0.mk (Kd.R_below HX1.out HB21.out)
  clear HX1
  have HX1 := n_
  clear n_
  have n_ := Aside0.mk (Kd.R_below HX2.out HB21.out)
  clear HX2
  have HX2 := n_
  clear n_
  have n_ := Aside0.mk (Kd.R_below HX3.out HB21.out)
  clear HX3
  have HX3 := n_
  clear n_
  have n_ := Aside0.mk (Kd.R_below HX4.out HB21.out)
  clear HX4
  have HX4 := n_
  clear n_
  have n_ := Aside0.mk (Kd.R_below HX5.out HB21.out)
  clear HX5
  have HX5 := n_
  clear n_
  have n_ := Aside0.mk (Kd.R_below HX6.out HB21.out)
  clear HX6
  have HX6 := n_
  clear n_
  have n_ := Aside0.mk (Kd.R_below HX7.out HB21.out)
  clear HX7
  have HX7 := n_
  clear n_
  have n_ := Aside0.mk (Kd.R_below HX8.out HB21.out)
  clear HX8
  have HX8 := n_
  clear n_
  have n_ := Aside0.mk (blk_below HBK2.out HB21.out)
  clear HBK2 hcz2
  have HBK2 := n_
  clear n_
  have hcz2 : w21.cell? ⟨g2, 0, none⟩ = some (.slice A0 l0.length c0) := (blk_cell HBK2.out 0).trans rfl
  have n_ := Aside0.mk (blk_below HBK8.out HB21.out)
  clear HBK8 hcz8
  have HBK8 := n_
  clear n_
  have hcz8 : w21.cell? ⟨g8, 0, none⟩ = some (.slice Aq4 l0.length cq4) := (blk_cell HBK8.out 0).trans rfl
  go_wp2_with fail
  have hcall_ := laws_toPoset.calls k1 _ _ l0 l0 _ (Kd.C_below HR0.out HT21.out) HC0.out hy3.out
  refine hcall_.mono ?_
  clear hcall_ 
  rintro e w22 ⟨v9x, rfl, hx9_, hb_⟩
  have HB22 := Aside0.mk hb_
  have HZ22 : Aside0 (w21.heap.size ≤ w22.heap.size) := ⟨hb_.size⟩
  have HT22 := Aside0.mk (HT21.out.trans (Below.mono hb_ HT21.out.size))
  clear hb_
  have n_ := Aside0.mk (Kd.R_below HX1.out HB22.out)
  clear HX1
  have HX1 := n_
  clear n_
  have n_ := Aside0.mk (Kd.R_below HX2.out HB22.out)
  clear HX2
  have HX2 := n_
  clear n_
  have n_ := Aside0.mk (Kd.R_below HX3.out HB22.out)
  clear HX3
  have HX3 := n_
  clear n_
  have n_ := Aside0.mk (Kd.R_below HX4.out HB22.out)
  clear HX4
  have HX4 := n_
  clear n_
  have n_ := Aside0.mk (Kd.R_below HX5.out HB22.out)
  clear HX5
  have HX5 := n_
  clear n_
  have n_ := Aside0.mk (Kd.R_below HX6.out HB22.out)
  clear HX6
  have HX6 := n_
  clear n_
  have n_ := Aside0.mk (Kd.R_below HX7.out HB22.out)
  clear HX7
  have HX7 := n_
  clear n_
  have n_ := Aside0.mk (Kd.R_below HX8.out HB22.out)
  clear HX8
  have HX8 := n_
  clear n_
  have n_ := Aside0.mk (blk_below HBK2.out HB22.out)
  clear HBK2 hcz2
  have HBK2 := n_
  clear n_
  have hcz2 : w22.cell? ⟨g2, 0, none⟩ = some (.slice A0 l0.length c0) := (blk_cell HBK2.out 0).trans rfl
  have n_ := Aside0.mk (blk_below HBK8.out HB22.out)
  clear HBK8 hcz8
  have HBK8 := n_
  clear n_
  have hcz8 : w22.cell? ⟨g8, 0, none⟩ = some (.slice Aq4 l0.length cq4) := (blk_cell HBK8.out 0).trans rfl
  have HX9 := Aside0.mk (Kd.R_lower (Kd.R_mono (ok' := fun k_ => w21.heap.size ≤ k_ ∧ k_ < w22.heap.size) (Kd.R_bound hx9_) (fun k_ h_ => ⟨h_.2.1, h_.2.2.1⟩)) HT21.out.size)
  clear hx9_
  go_wp2_with fail
  have hcall_ := laws_toIntS.calls k1 _ _ l1 l1 _ (Kd.C_below HR1.out HT22.out) HC1.out hy4.out
  refine hcall_.mono ?_
  clear hcall_ 
  rintro e w23 ⟨v10x, rfl, hx10_, hb_⟩
  have HB23 := Aside0.mk hb_
  have HZ23 : Aside0 (w22.heap.size ≤ w23.heap.size) := ⟨hb_.size⟩
  have HT23 := Aside0.mk (HT22.out.trans (Below.mono hb_ HT22.out.size))
  clear hb_
  have n_ := Aside0.mk (Kd.R_below HX1.out HB23.out)
  clear HX1
  have HX1 := n_
  clear n_
  have n_ := Aside0.mk (Kd.R_below HX2.out HB23.out)
  clear HX2
  have HX2 := n_
  clear n_
  have n_ := Aside0.mk (Kd.R_below HX3.out HB23.out)
  clear HX3
  have HX3 := n_
  clear n_
  have n_ := Aside0.mk (Kd.R_below HX4.out HB23.out)
  clear HX4
  have HX4 := n_
  clear n_
  have n_ := Aside0.mk (Kd.R_below HX5.out HB23.out)
  clear HX5
  have HX5 := n_
  clear n_
  have n_ := Aside0.mk (Kd.R_below HX6.out HB23.out)
  clear HX6
  have HX6 := n_
  clear n_
  have n_ := Aside0.mk (Kd.R_below HX7.out HB23.out)
  clear HX7
  have HX7 := n_
  clear n_
  have n_ := Aside0.mk (Kd.R_below HX8.out HB23.out)
  clear HX8
  have HX8 := n_
  clear n_
  have n_ := Aside0.mk (Kd.R_below HX9.out HB23.out)
  clear HX9
  have HX9 := n_
  clear n_
  have n_ := Aside0.mk (blk_below HBK2.out HB23.out)
  clear HBK2 hcz2
  have HBK2 := n_
  clear n_
  have hcz2 : w23.cell? ⟨g2, 0, none⟩ = some (.slice A0 l0.length c0) := (blk_cell HBK2.out 0).trans rfl
  have n_ := Aside0.mk (blk_below HBK8.out HB23.out)
  clear HBK8 hcz8
  have HBK8 := n_
  clear n_
  have hcz8 : w23.cell? ⟨g8, 0, none⟩ = some (.slice Aq4 l0.length cq4) := (blk_cell HBK8.out 0).trans rfl
  have HX10 := Aside0.mk (Kd.R_lower (Kd.R_mono (ok' := fun k_ => w22.heap.size ≤ k_ ∧ k_ < w23.heap.size) (Kd.R_bound hx10_) (fun k_ h_ => ⟨h_.2.1, h_.2.2.1⟩)) HT22.out.size)
  clear hx10_
  go_wp2_with fail
  obtain ⟨A9_, c9_, e9_, hl9_, hC9_⟩ := Kd.R_reads HX9.out
  obtain ⟨A10_, c10_, e10_, hl10_, hC10_⟩ := Kd.R_reads HX10.out
  have hcall_ := impl_SlideOf.calls k _ _ l0 _ _ l1 v2 v3 _ hC9_ hl9_ hC10_ hl10_ hy6.out
  rw [← e9_] at hcall_
  rw [← e10_] at hcall_
  refine hcall_.mono ?_
  clear hcall_ hC9_ hl9_ e9_ c9_ A9_ hC10_ hl10_ e10_ c10_ A10_
  rintro e w24 ⟨v11x, rfl, hx11_, hb_⟩
  have HB24 := Aside0.mk hb_
  have HZ24 : Aside0 (w23.heap.size ≤ w24.heap.size) := ⟨hb_.size⟩
  have HT24 := Aside0.mk (HT23.out.trans (Below.mono hb_ HT23.out.size))
  clear hb_
  have n_ := Aside0.mk (Kd.R_below HX1.out HB24.out)
  clear HX1
  have HX1 := n_
  clear n_
  have n_ := Aside0.mk (Kd.R_below HX2.out HB24.out)
  clear HX2
  have HX2 := n_
  clear n_
  have n_ := Aside0.mk (Kd.R_below HX3.out HB24.out)
  clear HX3
  have HX3 := n_
  clear n_
  have n_ := Aside0.mk (Kd.R_below HX4.out HB24.out)
  clear HX4
  have HX4 := n_
  clear n_
  have n_ := Aside0.mk (Kd.R_below HX5.out HB24.out)
  clear HX5
  have HX5 := n_
  clear n_
  have n_ := Aside0.mk (Kd.R_below HX6.out HB24.out)
  clear HX6
  have HX6 := n_
  clear n_
  have n_ := Aside0.mk (Kd.R_below HX7.out HB24.out)
  clear HX7
  have HX7 := n_
  clear n_
  have n_ := Aside0.mk (Kd.R_below HX8.out HB24.out)
  clear HX8
  have HX8 := n_
  clear n_
  have n_ := Aside0.mk (Kd.R_below HX9.out HB24.out)
  clear HX9
  have HX9 := n_
  clear n_
  have n_ := Aside0.mk (Kd.R_below HX10.out HB24.out)
  clear HX10
  have HX10 := n_
  clear n_
  have n_ := Aside0.mk (blk_below HBK2.out HB24.out)
  clear HBK2 hcz2
  have HBK2 := n_
  clear n_
  have hcz2 : w24.cell? ⟨g2, 0, none⟩ = some (.slice A0 l0.length c0) := (blk_cell HBK2.out 0).trans rfl
  have n_ := Aside0.mk (blk_below HBK8.out HB24.out)
  clear HBK8 hcz8
  have HBK8 := n_
  clear n_
  have hcz8 : w24.cell? ⟨g8, 0, none⟩ = some (.slice Aq4 l0.length cq4) := (blk_cell HBK8.out 0).trans rfl
  have HX11 := Aside0.mk (Kd.R_lower (Kd.R_mono (ok' := fun k_ => w23.heap.size ≤ k_ ∧ k_ < w24.heap.size) (Kd.R_bound hx11_) (fun k_ h_ => ⟨h_.2.1, h_.2.2.1⟩)) HT23.out.size)
  clear hx11_
  go_wp2_with fail
  obtain ⟨A11_, c11_, e11_, hl11_, hC11_⟩ := Kd.R_reads HX11.out
  obtain ⟨A3_, c3_, e3_, hl3_, hC3_⟩ := Kd.R_reads HX3.out
  have hcall_ := laws_eqIntS.calls k1 _ _ v2 _ _ v2 true _ hC11_ hl11_ hC3_ hl3_ hy7.out
  rw [← e11_] at hcall_
  rw [← e3_] at hcall_
  refine hcall_.mono ?_
  clear hcall_ hC11_ hl11_ e11_ c11_ A11_ hC3_ hl3_ e3_ c3_ A3_
  rintro e w25 ⟨rfl, hb0_⟩
  have hb_ := laws_FnExactSlideOf.belowD hb0_
  clear hb0_
  have HB25 := Aside0.mk hb_
  have HZ25 : Aside0 (w24.heap.size ≤ w25.heap.size) := ⟨hb_.size⟩
  have HT25 := Aside0.mk (HT24.out.trans (Below.mono hb_ HT24.out.size))
  clear hb_
  have n_ := Aside0.mk (Kd.R_below HX1.out HB25.out)
  clear HX1
  have HX1 := n_
  clear n_
  have n_ := Aside0.mk (Kd.R_below HX2.out HB25.out)
  clear HX2
  have HX2 := n_
  clear n_
  have n_ := Aside0.mk (Kd.R_below HX3.out HB25.out)
  clear HX3
  have HX3 := n_
  clear n_
  have n_ := Aside0.mk (Kd.R_below HX4.out HB25.out)
  clear HX4
  have HX4 := n_
  clear n_
  have n_ := Aside0.mk (Kd.R_below HX5.out HB25.out)
  clear HX5
  have HX5 := n_
  clear n_
  have n_ := Aside0.mk (Kd.R_below HX6.out HB25.out)
  clear HX6
  have HX6 := n_
  clear n_
  have n_ := Aside0.mk (Kd.R_below HX7.out HB25.out)
  clear HX7
  have HX7 := n_
  clear n_
  have n_ := Aside0.mk (Kd.R_below HX8.out HB25.out)
  clear HX8
  have HX8 := n_
  clear n_
  have n_ := Aside0.mk (Kd.R_below HX9.out HB25.out)
  clear HX9
  have HX9 := n_
  clear n_
  have n_ := Aside0.mk (Kd.R_below HX10.out HB25.out)
  clear HX10
  have HX10 := n_
  clear n_
  have n_ := Aside0.mk (Kd.R_below HX11.out HB25.out)
  clear HX11
  have HX11 := n_
  clear n_
  have n_ := Aside0.mk (blk_below HBK2.out HB25.out)
  clear HBK2 hcz2
  have HBK2 := n_
  clear n_
  have hcz2 : w25.cell? ⟨g2, 0, none⟩ = some (.slice A0 l0.length c0) := (blk_cell HBK2.out 0).trans rfl
  have n_ := Aside0.mk (blk_below HBK8.out HB25.out)
  clear HBK8 hcz8
  have HBK8 := n_
  clear n_
  have hcz8 : w25.cell? ⟨g8, 0, none⟩ = some (.slice Aq4 l0.length cq4) := (blk_cell HBK8.out 0).trans rfl
  go_wp2_with fail
  obtain ⟨A6_, c6_, e6_, hl6_, hC6_⟩ := Kd.R_reads HX6.out
  have hcall_ := laws_heldIntS.calls k1 _ _ u9 1 m8 _ hC6_ hl6_ hy14.out
  rw [← e6_] at hcall_
  refine hcall_.mono ?_
  clear hcall_ hC6_ hl6_ e6_ c6_ A6_
  rintro e w26 ⟨rfl, hb0_⟩
  have hb_ := laws_FnExactSlideOf.belowD hb0_
  clear hb0_
  have HB26 := Aside0.mk hb_
  have HZ26 : Aside0 (w25.heap.size ≤ w26.heap.size) := ⟨hb_.size⟩
  have HT26 := Aside0.mk (HT25.out.trans (Below.mono hb_ HT25.out.size))
  clear hb_
  have n_ := Aside0.mk (Kd.R_below HX1.out HB26.out)
  clear HX1
  have HX1 := n_
  clear n_
  have n_ := Aside0.mk (Kd.R_below HX2.out HB26.out)
  clear HX2
  have HX2 := n_
  clear n_
  have n_ := Aside0.mk (Kd.R_below HX3.out HB26.out)
  clear HX3
  have HX3 := n_
  clear n_
  have n_ := Aside0.mk (Kd.R_below HX4.out HB26.out)
  clear HX4
  have HX4 := n_
  clear n_
  have n_ := Aside0.mk (Kd.R_below HX5.out HB26.out)
  clear HX5
  have HX5 := n_
  clear n_
  have n_ := Aside0.mk (Kd.R_below HX6.out HB26.out)
  clear HX6
  have HX6 := n_
  clear n_
  have n_ := Aside0.mk (Kd.R_below HX7.out HB26.out)
  clear HX7
  have HX7 := n_
  clear n_
  have n_ := Aside0.mk (Kd.R_below HX8.out HB26.out)
  clear HX8
  have HX8 := n_
  clear n_
  have n_ := Aside0.mk (Kd.R_below HX9.out HB26.out)
  clear HX9
  have HX9 := n_
  clear n_
  have n_ := Aside0.mk (Kd.R_below HX10.out HB26.out)
  clear HX10
  have HX10 := n_
  clear n_
  have n_ := Aside0.mk (Kd.R_below HX11.out HB26.out)
  clear HX11
  have HX11 := n_
  clear n_
  have n_ := Aside0.mk (blk_below HBK2.out HB26.out)
  clear HBK2 hcz2
  have HBK2 := n_
  clear n_
  have hcz2 : w26.cell? ⟨g2, 0, none⟩ = some (.slice A0 l0.length c0) := (blk_cell HBK2.out 0).trans rfl
  have n_ := Aside0.mk (blk_below HBK8.out HB26.out)
  clear HBK8 hcz8
  have HBK8 := n_
  clear n_
  have hcz8 : w26.cell? ⟨g8, 0, none⟩ = some (.slice Aq4 l0.length cq4) := (blk_cell HBK8.out 0).trans rfl
  go_wp2
  go_ret
  exact ⟨by first | rfl | (simp; done) | (simp [*]; done), by repeat (first | (with_reducible first | exact HT26.out | apply below_alloc | apply pw_below_drewN | apply below_drew1) | exact HT26.out)⟩
open Classical in
noncomputable def laws_FnExactSlideOf.f (k : Nat) (l0 : List Int) (l1 : List Int) : Option Bool := if ∃ k1 : Nat, (∃ (_ : Unit), (decide ((l1.length : Int) > 1048576) = true)) ∨ (∃ (z1 : Int), (decide ((l1.length : Int) > 1048576) = false) ∧ (laws_szPoset.f l0 1048576 = some z1) ∧ (decide (z1 < 0) = true)) ∨ (∃ (z1 : Int) (v2 : List Int) (v3 : Bool) (m4 : Int) (u5 : List Int) (m6 : Int) (u7 : List Int) (m8 : Int) (u9 : List Int), (decide ((l1.length : Int) > 1048576) = false) ∧ (laws_szPoset.f l0 1048576 = some z1) ∧ (decide (z1 < 0) = false) ∧ (laws_toPoset.f k1 l0 = some l0) ∧ (laws_toIntS.f k1 l1 = some l1) ∧ (spec_SlideOf.f k l0 l1 = some (v2, v3)) ∧ (impl_SlideOf.f k l0 l1 = some (v2, v3)) ∧ (laws_eqIntS.f k1 v2 v2 = some true) ∧ (laws_eqPoset.f k1 l0 l0 = some true) ∧ (laws_eqIntS.f k1 l1 l1 = some true) ∧ (laws_markPoset.f k1 l0 1 = some (m4, u5)) ∧ (laws_markIntS.f k1 l1 m4 = some (m6, u7)) ∧ (decide (m6 < 0) = false) ∧ (laws_markIntS.f k1 v2 1 = some (m8, u9)) ∧ (laws_heldIntS.f k1 u9 1 = some m8) ∧ (decide (m8 < 0) = false)) then some true else none
theorem laws_FnExactSlideOf.calls (k : Nat) (A0 : Option Addr) (c0 : Nat) (l0 : List Int) (A1 : Option Addr) (c1 : Nat) (l1 : List Int) (r : Bool) (w : World) (hr0 : Kd.C (Kd.int .i64) w A0 l0.length l0) (hc0 : l0.length ≤ c0) (hr1 : Kd.C (Kd.int .i64) w A1 l1.length l1) (hc1 : l1.length ≤ c1) (h : laws_FnExactSlideOf.f k l0 l1 = some r) :
    Calls Try.prog 8 #[.agg #[.slice A0 l0.length c0], .slice A1 l1.length c1] w fun e w' => e = .returned (.bool r) ∧ Below w.heap.size w w' := by
  unfold laws_FnExactSlideOf.f at h
  split at h
  · rename_i hh
    obtain rfl := Option.some.inj h
    obtain ⟨k1, hh⟩ := hh
    rcases hh with ⟨_, hx⟩ | ⟨z1, hy0, hy1, hx⟩ | ⟨z1, v2, v3, m4, u5, m6, u7, m8, u9, hy0, hy1, hy2, hy3, hy4, hy5, hy6, hy7, hy8, hy9, hy10, hy11, hy12, hy13, hy14, hy15⟩
    · exact laws_FnExactSlideOf.calls0 k k1 _ _ l0 _ _ l1  w hr0 hc0 hr1 hc1 hx
    · exact laws_FnExactSlideOf.calls1 k k1 _ _ l0 _ _ l1 z1 w hr0 hc0 hr1 hc1 hy0 hy1 hx
    · exact laws_FnExactSlideOf.calls2 k k1 _ _ l0 _ _ l1 z1 v2 v3 m4 u5 m6 u7 m8 u9 w hr0 hc0 hr1 hc1 hy0 hy1 hy2 hy3 hy4 hy5 hy6 hy7 hy8 hy9 hy10 hy11 hy12 hy13 hy14 hy15
  · cases h
end Go.Proofs.Ytjahclncpgllmaa.F
end
