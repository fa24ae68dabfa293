/- Part 5 of the texts below the row of FnExactPromoteLinear: printed functions with their contracts, and plain lemmas. No condition. -/
import Derived.Test.YtjahclncpgllmaaZFnExactPromoteLinear4
import Derived.Lib.Hide
import Derived.Laws.CopyOwn
section
namespace Go.Proofs.Ytjahclncpgllmaa.F
open Go.RowKit Go.Proofs.YtjahclncpgllmaaW.PrintWords Go.Proofs.YtjahclncpgllmaaW.PrintLast Go.Proofs.YtjahclncpgllmaaW.PrintMore
attribute [local go_sem] max2_int min2_int max_two min_two max_three min_three max_four min_four
set_option linter.unusedVariables false
set_option linter.unusedSimpArgs false

/-! ### impl_Poset_evacuated: function 64 -/
mutual
def impl_Poset_evacuated.l0 : Nat → Int → List Int → Int → Int → Int → Int → Int → Int → Int → Int → Int → Int → Option (Int × Int × Int × Int × Int × Int × Int × Int × Int × Int)
  | 0, _, _, _, _, _, _, _, _, _, _, _, _ => none
  | k + 1, x5, x381000, x382000, x382001, x382002, x382003, x382004, x382005, x382006, x382007, x382008, x382009 => if x5 > 0 then (impl_Poset_evacuated.l1 k x5 x5 0 x381000 x382000 x382001 x382002 x382003 x382004 x382005 x382006 x382007 x382008 x382009) else (some (x382000, x382001, x382002, x382003, x382004, x382005, x382006, x382007, x382008, x382009))
def impl_Poset_evacuated.l1 : Nat → Int → Int → Int → List Int → Int → Int → Int → Int → Int → Int → Int → Int → Int → Int → Option (Int × Int × Int × Int × Int × Int × Int × Int × Int × Int)
  | 0, _, _, _, _, _, _, _, _, _, _, _, _, _, _ => none
  | k + 1, x5, x14, x15, x381000, x382000, x382001, x382002, x382003, x382004, x382005, x382006, x382007, x382008, x382009 => if x15 < x14 then ((impl_Poset_exchange.f x381000 x382000 x382001 x382002 x382003 x382004 x382005 x382006 x382007 x382008 x382009 x15).bind fun bt384 => (impl_Poset_evacuated.l1 k x5 x14 (wrap64 (x15 + 1)) x381000 bt384.1 bt384.2.1 bt384.2.2.1 bt384.2.2.2.1 bt384.2.2.2.2.1 bt384.2.2.2.2.2.1 bt384.2.2.2.2.2.2.1 bt384.2.2.2.2.2.2.2.1 bt384.2.2.2.2.2.2.2.2.1 bt384.2.2.2.2.2.2.2.2.2)) else (impl_Poset_evacuated.l0 k (wrap64 (x5 - 1)) x381000 x382000 x382001 x382002 x382003 x382004 x382005 x382006 x382007 x382008 x382009)
end
def impl_Poset_evacuated.f (k : Nat) (l0_0 : List Int) (a1_0 : Int) (a1_1 : Int) (a1_2 : Int) (a1_3 : Int) (a1_4 : Int) (a1_5 : Int) (a1_6 : Int) (a1_7 : Int) (a1_8 : Int) (a1_9 : Int) : Option (Int × Int × Int × Int × Int × Int × Int × Int × Int × Int) := (impl_Poset_n.f l0_0).bind fun t383 => (impl_Poset_evacuated.l0 k (wrap64 (t383 - 1)) l0_0 a1_0 a1_1 a1_2 a1_3 a1_4 a1_5 a1_6 a1_7 a1_8 a1_9)
theorem impl_Poset_evacuated.mono_l : ∀ k, (∀ y0 y1 y2 y3 y4 y5 y6 y7 y8 y9 y10 y11, LeO (impl_Poset_evacuated.l0 k y0 y1 y2 y3 y4 y5 y6 y7 y8 y9 y10 y11) (impl_Poset_evacuated.l0 (k + 1) y0 y1 y2 y3 y4 y5 y6 y7 y8 y9 y10 y11)) ∧ (∀ y0 y1 y2 y3 y4 y5 y6 y7 y8 y9 y10 y11 y12 y13, LeO (impl_Poset_evacuated.l1 k y0 y1 y2 y3 y4 y5 y6 y7 y8 y9 y10 y11 y12 y13) (impl_Poset_evacuated.l1 (k + 1) y0 y1 y2 y3 y4 y5 y6 y7 y8 y9 y10 y11 y12 y13))
  | 0 => ⟨fun _ _ _ _ _ _ _ _ _ _ _ _ r h => by simp [impl_Poset_evacuated.l0] at h, fun _ _ _ _ _ _ _ _ _ _ _ _ _ _ r h => by simp [impl_Poset_evacuated.l1] at h⟩
  | k + 1 => by
    obtain ⟨ih0, ih1⟩ := impl_Poset_evacuated.mono_l k
    refine ⟨?_, ?_⟩
    · intro y0 y1 y2 y3 y4 y5 y6 y7 y8 y9 y10 y11
      unfold impl_Poset_evacuated.l0
      repeat' first
      | (with_reducible exact ih0 _ _ _ _ _ _ _ _ _ _ _ _)
      | (with_reducible exact ih1 _ _ _ _ _ _ _ _ _ _ _ _ _ _)
      | (with_reducible exact LeO.refl _)
      | (with_reducible exact LeO.none _)
      | (with_reducible refine LeO.ite ?_ ?_)
      | (with_reducible refine LeO.bind ?_ (fun _ => ?_))
      | exact ih0 _ _ _ _ _ _ _ _ _ _ _ _
      | exact ih1 _ _ _ _ _ _ _ _ _ _ _ _ _ _
      | exact LeO.none _
      | refine LeO.ite ?_ ?_
      | refine LeO.bind ?_ (fun _ => ?_)
    · intro y0 y1 y2 y3 y4 y5 y6 y7 y8 y9 y10 y11 y12 y13
      unfold impl_Poset_evacuated.l1
      repeat' first
      | (with_reducible exact ih0 _ _ _ _ _ _ _ _ _ _ _ _)
      | (with_reducible exact ih1 _ _ _ _ _ _ _ _ _ _ _ _ _ _)
      | (with_reducible exact LeO.refl _)
      | (with_reducible exact LeO.none _)
      | (with_reducible refine LeO.ite ?_ ?_)
      | (with_reducible refine LeO.bind ?_ (fun _ => ?_))
      | exact ih0 _ _ _ _ _ _ _ _ _ _ _ _
      | exact ih1 _ _ _ _ _ _ _ _ _ _ _ _ _ _
      | exact LeO.none _
      | refine LeO.ite ?_ ?_
      | refine LeO.bind ?_ (fun _ => ?_)
theorem impl_Poset_evacuated.mono : ∀ a0 a1 a2 a3 a4 a5 a6 a7 a8 a9 a10 k, LeO (impl_Poset_evacuated.f k a0 a1 a2 a3 a4 a5 a6 a7 a8 a9 a10) (impl_Poset_evacuated.f (k + 1) a0 a1 a2 a3 a4 a5 a6 a7 a8 a9 a10) := by
  intro a0 a1 a2 a3 a4 a5 a6 a7 a8 a9 a10 k
  obtain ⟨ih0, ih1⟩ := impl_Poset_evacuated.mono_l k
  unfold impl_Poset_evacuated.f
  repeat' first
      | (with_reducible exact ih0 _ _ _ _ _ _ _ _ _ _ _ _)
      | (with_reducible exact ih1 _ _ _ _ _ _ _ _ _ _ _ _ _ _)
      | (with_reducible exact LeO.refl _)
      | (with_reducible exact LeO.none _)
      | (with_reducible refine LeO.ite ?_ ?_)
      | (with_reducible refine LeO.bind ?_ (fun _ => ?_))
      | exact ih0 _ _ _ _ _ _ _ _ _ _ _ _
      | exact ih1 _ _ _ _ _ _ _ _ _ _ _ _ _ _
      | exact LeO.none _
      | refine LeO.ite ?_ ?_
      | refine LeO.bind ?_ (fun _ => ?_)
set_option maxHeartbeats 8000000 in
set_option maxRecDepth 100000 in
theorem impl_Poset_evacuated.calls (k : Nat) (A0_0 : Option Addr) (c0_0 : Nat) (l0_0 : List Int) (a1_0 : Int) (a1_1 : Int) (a1_2 : Int) (a1_3 : Int) (a1_4 : Int) (a1_5 : Int) (a1_6 : Int) (a1_7 : Int) (a1_8 : Int) (a1_9 : Int) (r1 : Int) (r2 : Int) (r3 : Int) (r4 : Int) (r5 : Int) (r6 : Int) (r7 : Int) (r8 : Int) (r9 : Int) (r10 : Int) (w : World) (hr0_0 : Kd.C (Kd.int .i64) w A0_0 l0_0.length l0_0) (hc0_0 : l0_0.length ≤ c0_0) (h : impl_Poset_evacuated.f k l0_0 a1_0 a1_1 a1_2 a1_3 a1_4 a1_5 a1_6 a1_7 a1_8 a1_9 = some (r1, r2, r3, r4, r5, r6, r7, r8, r9, r10)) :
    Calls Try.prog 64 #[.agg #[.slice A0_0 l0_0.length c0_0], .agg #[.int .i64 a1_0, .int .i64 a1_1, .int .i64 a1_2, .int .i64 a1_3, .int .i64 a1_4, .int .i64 a1_5, .int .i64 a1_6, .int .i64 a1_7, .int .i64 a1_8, .int .i64 a1_9]] w fun e w' => e = .returned (.agg #[.int .i64 r1, .int .i64 r2, .int .i64 r3, .int .i64 r4, .int .i64 r5, .int .i64 r6, .int .i64 r7, .int .i64 r8, .int .i64 r9, .int .i64 r10]) ∧ Below w.heap.size w w' := by
  have hu28 := Try.underlying28
  have hu58 := Try.underlying58
  have HR0_0 := Aside0.mk hr0_0
  have HC0_0 := Aside0.mk hc0_0
  clear hr0_0 hc0_0
  have HB := Aside0.mk (Below.refl w.heap.size w)
  have H : ((impl_Poset_n.f l0_0).bind fun t383 => (impl_Poset_evacuated.l0 k (wrap64 (t383 - 1)) l0_0 a1_0 a1_1 a1_2 a1_3 a1_4 a1_5 a1_6 a1_7 a1_8 a1_9)) = some (r1, r2, r3, r4, r5, r6, r7, r8, r9, r10) := h
  clear h
  replace H := Option.bind_eq_some_iff.mp H
  obtain ⟨t383, A30, H⟩ := H
  replace H : (impl_Poset_evacuated.l0 k (wrap64 (t383 - 1)) l0_0 a1_0 a1_1 a1_2 a1_3 a1_4 a1_5 a1_6 a1_7 a1_8 a1_9) = some (r1, r2, r3, r4, r5, r6, r7, r8, r9, r10) := H
  have A3 := Aside0.mk A30
  clear A30
  have H' := Aside0.mk H
  clear H
  go_enter Try.func64, Try.ntmps64
  go_wp2_with (first | ((with_reducible refine gate_dst (N := 2) rfl ?_); refine box_event ?hg (N := 2) ?hd (cs := #[.slice A0_0 l0_0.length c0_0]) (t := 28) ?hr ?_; (case hd => rfl); (case hg => rfl); (case hr => first | (go_simp; done) | (go_simp; rfl)); intro gb380 hg w4 hbox hb; have n0_ := Aside0.mk (below_step (by repeat (first | (with_reducible first | exact HB.out | apply below_alloc | apply pw_below_drewN | apply below_drew1) | exact HB.out)) hb); have n1_ := Aside0.mk (hbox); have n2_ := Aside0.mk ((by rw [hg]; exact (below_size (by repeat (first | (with_reducible first | exact HB.out | apply below_alloc | apply pw_below_drewN | apply below_drew1) | exact HB.out))) : w.heap.size ≤ gb380)); have n3_ := Aside0.mk ((by rw [hg]; exact (below_size (by repeat (first | (with_reducible first | exact HB.out | apply below_alloc | apply pw_below_drewN | apply below_drew1) | exact HB.out))) : w.heap.size ≤ gb380)); clear HB; have HB := n0_; have BK380 := n1_; have GW380 := n2_; have GE380 := n3_; clear n0_ n1_ n2_ n3_; clear hb hbox hg) | ((with_reducible refine gate_dst (N := 3) rfl ?_); refine box_event ?hg (N := 3) ?hd (cs := #[.int .i64 a1_0, .int .i64 a1_1, .int .i64 a1_2, .int .i64 a1_3, .int .i64 a1_4, .int .i64 a1_5, .int .i64 a1_6, .int .i64 a1_7, .int .i64 a1_8, .int .i64 a1_9]) (t := 58) ?hr ?_; (case hd => rfl); (case hg => rfl); (case hr => first | (go_simp; done) | (go_simp; rfl)); intro gb381 hg w5 hbox hb; have n0_ := Aside0.mk (blk_below (g := gb380) (o := .cells #[.slice A0_0 l0_0.length c0_0] 28 (0, 0)) (by (with_reducible repeat (first | refine blk_drewN ?_ _ | refine blk_drew ?_ | refine blk_alloc ?_ _)); exact BK380.out) hb); have n1_ := Aside0.mk (below_step (by repeat (first | (with_reducible first | exact HB.out | apply below_alloc | apply pw_below_drewN | apply below_drew1 | refine below_set ?_ GE380.out) | exact HB.out)) hb); have n2_ := Aside0.mk (hbox); have n3_ := Aside0.mk ((by rw [hg]; exact (below_size (by repeat (first | (with_reducible first | exact HB.out | apply below_alloc | apply pw_below_drewN | apply below_drew1 | refine below_set ?_ GE380.out) | exact HB.out))) : w.heap.size ≤ gb381)); have n4_ := Aside0.mk ((by rw [hg]; exact (below_size (by repeat (first | (with_reducible first | exact HB.out | apply below_alloc | apply pw_below_drewN | apply below_drew1 | refine below_set ?_ GE380.out) | exact HB.out))) : w.heap.size ≤ gb381)); have n5_ := Aside0.mk ((by rw [hg]; exact Nat.ne_of_lt (blk_lt (g := gb380) (o := .cells #[.slice A0_0 l0_0.length c0_0] 28 (0, 0)) (by (with_reducible repeat (first | refine blk_drewN ?_ _ | refine blk_drew ?_ | refine blk_alloc ?_ _)); exact BK380.out)) : gb380 ≠ gb381)); have n6_ := Aside0.mk ((by rw [hg]; exact Nat.ne_of_gt (blk_lt (g := gb380) (o := .cells #[.slice A0_0 l0_0.length c0_0] 28 (0, 0)) (by (with_reducible repeat (first | refine blk_drewN ?_ _ | refine blk_drew ?_ | refine blk_alloc ?_ _)); exact BK380.out)) : gb381 ≠ gb380)); clear BK380; clear HB; have BK380 := n0_; have HB := n1_; have BK381 := n2_; have GW381 := n3_; have GE381 := n4_; have NB380_381 := n5_; have NB381_380 := n6_; clear n0_ n1_ n2_ n3_ n4_ n5_ n6_; clear hb hbox hg) | ((with_reducible refine gate_dst (N := 4) rfl ?_); refine box_event ?hg (N := 4) ?hd (cs := #[.int .i64 0, .int .i64 0, .int .i64 0, .int .i64 0, .int .i64 0, .int .i64 0, .int .i64 0, .int .i64 0, .int .i64 0, .int .i64 0]) (t := 58) ?hr ?_; (case hd => rfl); (case hg => rfl); (case hr => first | (go_simp; done) | (go_simp; rfl)); intro gb382 hg w6 hbox hb; have n0_ := Aside0.mk (blk_below (g := gb380) (o := .cells #[.slice A0_0 l0_0.length c0_0] 28 (0, 0)) (by (with_reducible repeat (first | refine blk_drewN ?_ _ | refine blk_drew ?_ | refine blk_alloc ?_ _)); exact BK380.out) hb); have n1_ := Aside0.mk (blk_below (g := gb381) (o := .cells #[.int .i64 a1_0, .int .i64 a1_1, .int .i64 a1_2, .int .i64 a1_3, .int .i64 a1_4, .int .i64 a1_5, .int .i64 a1_6, .int .i64 a1_7, .int .i64 a1_8, .int .i64 a1_9] 58 (0, 0)) (by (with_reducible repeat (first | refine blk_drewN ?_ _ | refine blk_drew ?_ | refine blk_alloc ?_ _)); exact BK381.out) hb); have n2_ := Aside0.mk (below_step (by repeat (first | (with_reducible first | exact HB.out | apply below_alloc | apply pw_below_drewN | apply below_drew1 | refine below_set ?_ GE380.out | refine below_set ?_ GE381.out) | exact HB.out)) hb); have n3_ := Aside0.mk (hbox); have n4_ := Aside0.mk ((by rw [hg]; exact (below_size (by repeat (first | (with_reducible first | exact HB.out | apply below_alloc | apply pw_below_drewN | apply below_drew1 | refine below_set ?_ GE380.out | refine below_set ?_ GE381.out) | exact HB.out))) : w.heap.size ≤ gb382)); have n5_ := Aside0.mk ((by rw [hg]; exact (below_size (by repeat (first | (with_reducible first | exact HB.out | apply below_alloc | apply pw_below_drewN | apply below_drew1 | refine below_set ?_ GE380.out | refine below_set ?_ GE381.out) | exact HB.out))) : w.heap.size ≤ gb382)); have n6_ := Aside0.mk ((by rw [hg]; exact Nat.ne_of_lt (blk_lt (g := gb380) (o := .cells #[.slice A0_0 l0_0.length c0_0] 28 (0, 0)) (by (with_reducible repeat (first | refine blk_drewN ?_ _ | refine blk_drew ?_ | refine blk_alloc ?_ _)); exact BK380.out)) : gb380 ≠ gb382)); have n7_ := Aside0.mk ((by rw [hg]; exact Nat.ne_of_gt (blk_lt (g := gb380) (o := .cells #[.slice A0_0 l0_0.length c0_0] 28 (0, 0)) (by (with_reducible repeat (first | refine blk_drewN ?_ _ | refine blk_drew ?_ | refine blk_alloc ?_ _)); exact BK380.out)) : gb382 ≠ gb380)); have n8_ := Aside0.mk ((by rw [hg]; exact Nat.ne_of_lt (blk_lt (g := gb381) (o := .cells #[.int .i64 a1_0, .int .i64 a1_1, .int .i64 a1_2, .int .i64 a1_3, .int .i64 a1_4, .int .i64 a1_5, .int .i64 a1_6, .int .i64 a1_7, .int .i64 a1_8, .int .i64 a1_9] 58 (0, 0)) (by (with_reducible repeat (first | refine blk_drewN ?_ _ | refine blk_drew ?_ | refine blk_alloc ?_ _)); exact BK381.out)) : gb381 ≠ gb382)); have n9_ := Aside0.mk ((by rw [hg]; exact Nat.ne_of_gt (blk_lt (g := gb381) (o := .cells #[.int .i64 a1_0, .int .i64 a1_1, .int .i64 a1_2, .int .i64 a1_3, .int .i64 a1_4, .int .i64 a1_5, .int .i64 a1_6, .int .i64 a1_7, .int .i64 a1_8, .int .i64 a1_9] 58 (0, 0)) (by (with_reducible repeat (first | refine blk_drewN ?_ _ | refine blk_drew ?_ | refine blk_alloc ?_ _)); exact BK381.out)) : gb382 ≠ gb381)); clear BK380; clear BK381; clear HB; have BK380 := n0_; have BK381 := n1_; have HB := n2_; have BK382 := n3_; have GW382 := n4_; have GE382 := n5_; have NB380_382 := n6_; have NB382_380 := n7_; have NB381_382 := n8_; have NB382_381 := n9_; clear n0_ n1_ n2_ n3_ n4_ n5_ n6_ n7_ n8_ n9_; clear hb hbox hg; have hnb7 := NB380_381.out; have hnc7 := NB381_380.out; have hnb8 := NB380_382.out; have hnc8 := NB382_380.out; have hcz9_0 : w6.cell? ⟨gb380, 0, none⟩ = some (.slice A0_0 l0_0.length c0_0) := (blk_cell BK380.out 0).trans rfl; have hfz9_0 := blk_frozen BK380.out 0) | ((with_reducible refine gate_callee (f := 58) rfl ?_); refine goesL_ (some 8) rfl rfl Try.func58 (by kernel_rfl) rfl #[.agg #[.slice A0_0 l0_0.length c0_0]] rfl (by (try simp only [List.map_toArray, List.map_cons, List.map_nil]); first | done | rfl | (simp only [List.length_drop, List.length_take]; rfl)) ?_; (with_reducible refine (impl_Poset_n.calls _ _ l0_0 t383 _ ?side1 ?side2 A3.out).mono ?_); (case side1 => repeat (first | exact (Kd.C_below HR0_0.out HB.out) | (with_reducible refine Kd.C_alloc ?_ _) | (with_reducible refine Kd.C_drewN ?_ _) | (with_reducible refine Kd.C_drew ?_))); (case side2 => exact HC0_0.out); rintro e w10 ⟨rfl, hb⟩; refine ⟨_, rfl, ?_⟩; have n0_ := Aside0.mk (blk_below (g := gb380) (o := .cells #[.slice A0_0 l0_0.length c0_0] 28 (0, 0)) (by (with_reducible repeat (first | refine blk_drewN ?_ _ | refine blk_drew ?_ | refine blk_alloc ?_ _)); exact BK380.out) hb); have n1_ := Aside0.mk (blk_below (g := gb381) (o := .cells #[.int .i64 a1_0, .int .i64 a1_1, .int .i64 a1_2, .int .i64 a1_3, .int .i64 a1_4, .int .i64 a1_5, .int .i64 a1_6, .int .i64 a1_7, .int .i64 a1_8, .int .i64 a1_9] 58 (0, 0)) (by (with_reducible repeat (first | refine blk_drewN ?_ _ | refine blk_drew ?_ | refine blk_alloc ?_ _)); exact BK381.out) hb); have n2_ := Aside0.mk (blk_below (g := gb382) (o := .cells #[.int .i64 0, .int .i64 0, .int .i64 0, .int .i64 0, .int .i64 0, .int .i64 0, .int .i64 0, .int .i64 0, .int .i64 0, .int .i64 0] 58 (0, 0)) (by (with_reducible repeat (first | refine blk_drewN ?_ _ | refine blk_drew ?_ | refine blk_alloc ?_ _)); exact BK382.out) hb); have n3_ := Aside0.mk (below_step (by repeat (first | (with_reducible first | exact HB.out | apply below_alloc | apply pw_below_drewN | apply below_drew1 | refine below_set ?_ GE380.out | refine below_set ?_ GE381.out | refine below_set ?_ GE382.out) | exact HB.out)) hb); clear BK380; clear BK381; clear BK382; clear HB; have BK380 := n0_; have BK381 := n1_; have BK382 := n2_; have HB := n3_; clear n0_ n1_ n2_ n3_; (try clear hb); (try clear hb2); (try clear hk); (try clear hi)))
  go_loopg [5] k (fun kq v5 w' => ∃ (x5_1 : Int) (x382000_1 : Int) (x382001_1 : Int) (x382002_1 : Int) (x382003_1 : Int) (x382004_1 : Int) (x382005_1 : Int) (x382006_1 : Int) (x382007_1 : Int) (x382008_1 : Int) (x382009_1 : Int), v5 = .int .i64 x5_1 ∧ Aside0 (impl_Poset_evacuated.l0 kq x5_1 l0_0 x382000_1 x382001_1 x382002_1 x382003_1 x382004_1 x382005_1 x382006_1 x382007_1 x382008_1 x382009_1 = some (r1, r2, r3, r4, r5, r6, r7, r8, r9, r10)) ∧ Aside0 (kq ≤ k) ∧ Aside0 (w'.heap[gb380]? = some (.cells #[(.slice A0_0 l0_0.length c0_0)] 28 (0, 0))) ∧ Aside0 (w'.heap[gb381]? = some (.cells #[.int .i64 x382000_1, .int .i64 x382001_1, .int .i64 x382002_1, .int .i64 x382003_1, .int .i64 x382004_1, .int .i64 x382005_1, .int .i64 x382006_1, .int .i64 x382007_1, .int .i64 x382008_1, .int .i64 x382009_1] 58 (0, 0))) ∧ Aside0 (w'.heap[gb382]? = some (.cells #[.int .i64 0, .int .i64 0, .int .i64 0, .int .i64 0, .int .i64 0, .int .i64 0, .int .i64 0, .int .i64 0, .int .i64 0, .int .i64 0] 58 (0, 0))) ∧ Aside0 (Below w.heap.size w w'))
  case atStart => exact ⟨(wrap64 (t383 - 1)), (a1_0), (a1_1), (a1_2), (a1_3), (a1_4), (a1_5), (a1_6), (a1_7), (a1_8), (a1_9), (by first | rfl | (simp; done) | (simp [*]; done)), H', ⟨Nat.le_refl _⟩, ⟨by (with_reducible repeat (first | refine blk_drewN ?_ _ | refine blk_drew ?_ | refine blk_alloc ?_ _)); exact BK380.out⟩, ⟨by (with_reducible repeat (first | refine blk_drewN ?_ _ | refine blk_drew ?_ | refine blk_alloc ?_ _)); exact BK381.out⟩, ⟨by (with_reducible repeat (first | refine blk_drewN ?_ _ | refine blk_drew ?_ | refine blk_alloc ?_ _)); exact BK382.out⟩, ⟨by repeat (first | (with_reducible first | exact HB.out | apply below_alloc | apply pw_below_drewN | apply below_drew1 | refine below_set ?_ GE380.out | refine below_set ?_ GE381.out | refine below_set ?_ GE382.out) | exact HB.out)⟩⟩
  case round =>
    clear H'
    try clear p2
    try clear c5
    try clear c6
    try clear p6
    try clear c7
    try clear c8
    try clear hcz9_0
    try clear hfz9_0
    obtain ⟨x5_1, x382000_1, x382001_1, x382002_1, x382003_1, x382004_1, x382005_1, x382006_1, x382007_1, x382008_1, x382009_1, rfl, HA, HK1, BK380, BK381, BK382, HB⟩ := hrel
    cases gk with
    | zero => exact absurd HA.out (by simp [impl_Poset_evacuated.l0])
    | succ k1 =>
      have H := HA.out
      clear HA
      simp only [impl_Poset_evacuated.l0] at H
      by_cases c11 : x5_1 > 0
      · rw [if_pos c11] at H
        have c11b0 : decide (0 < x5_1) = true := decide_eq_true c11
        clear c11
        have H' := Aside0.mk H
        clear H
        go_wp2
        go_loopg [15] k1 (fun kq v15 w' => ∃ (x15_2 : Int) (x382000_2 : Int) (x382001_2 : Int) (x382002_2 : Int) (x382003_2 : Int) (x382004_2 : Int) (x382005_2 : Int) (x382006_2 : Int) (x382007_2 : Int) (x382008_2 : Int) (x382009_2 : Int), v15 = .int .i64 x15_2 ∧ Aside0 (impl_Poset_evacuated.l1 kq x5_1 x5_1 x15_2 l0_0 x382000_2 x382001_2 x382002_2 x382003_2 x382004_2 x382005_2 x382006_2 x382007_2 x382008_2 x382009_2 = some (r1, r2, r3, r4, r5, r6, r7, r8, r9, r10)) ∧ Aside0 (kq ≤ k1) ∧ Aside0 (w'.heap[gb380]? = some (.cells #[(.slice A0_0 l0_0.length c0_0)] 28 (0, 0))) ∧ Aside0 (w'.heap[gb381]? = some (.cells #[.int .i64 x382000_2, .int .i64 x382001_2, .int .i64 x382002_2, .int .i64 x382003_2, .int .i64 x382004_2, .int .i64 x382005_2, .int .i64 x382006_2, .int .i64 x382007_2, .int .i64 x382008_2, .int .i64 x382009_2] 58 (0, 0))) ∧ Aside0 (w'.heap[gb382]? = some (.cells #[.int .i64 0, .int .i64 0, .int .i64 0, .int .i64 0, .int .i64 0, .int .i64 0, .int .i64 0, .int .i64 0, .int .i64 0, .int .i64 0] 58 (0, 0))) ∧ Aside0 (Below w.heap.size w w'))
        case atStart => exact ⟨(0), (x382000_1), (x382001_1), (x382002_1), (x382003_1), (x382004_1), (x382005_1), (x382006_1), (x382007_1), (x382008_1), (x382009_1), (by first | rfl | (simp; done) | (simp [*]; done)), H', ⟨Nat.le_refl _⟩, ⟨by (with_reducible repeat (first | refine blk_drewN ?_ _ | refine blk_drew ?_ | refine blk_alloc ?_ _)); exact BK380.out⟩, ⟨by (with_reducible repeat (first | refine blk_drewN ?_ _ | refine blk_drew ?_ | refine blk_alloc ?_ _)); exact BK381.out⟩, ⟨by (with_reducible repeat (first | refine blk_drewN ?_ _ | refine blk_drew ?_ | refine blk_alloc ?_ _)); exact BK382.out⟩, ⟨by repeat (first | (with_reducible first | exact HB.out | apply below_alloc | apply pw_below_drewN | apply below_drew1 | refine below_set ?_ GE380.out | refine below_set ?_ GE381.out | refine below_set ?_ GE382.out) | exact HB.out)⟩⟩
        case round =>
          clear H'
          try clear c1
          try clear p2
          try clear c5
          try clear c6
          try clear p6
          try clear c7
          try clear c8
          try clear c11
          try clear c11b0
          try clear hcz9_0
          try clear hfz9_0
          try clear p2
          try clear p6
          obtain ⟨x15_2, x382000_2, x382001_2, x382002_2, x382003_2, x382004_2, x382005_2, x382006_2, x382007_2, x382008_2, x382009_2, rfl, HA, HK2, BK380, BK381, BK382, HB⟩ := hrel
          cases gk with
          | zero => exact absurd HA.out (by simp [impl_Poset_evacuated.l1])
          | succ k2 =>
            have H := HA.out
            clear HA
            simp only [impl_Poset_evacuated.l1] at H
            by_cases c12 : x15_2 < x5_1
            · rw [if_pos c12] at H
              have c12b0 : decide (x15_2 < x5_1) = true := decide_eq_true c12
              clear c12
              replace H := Option.bind_eq_some_iff.mp H
              obtain ⟨⟨t384, t385, t386, t387, t388, t389, t390, t391, t392, t393⟩, A130, H⟩ := H
              replace H : (impl_Poset_evacuated.l1 k2 x5_1 x5_1 (wrap64 (x15_2 + 1)) l0_0 t384 t385 t386 t387 t388 t389 t390 t391 t392 t393) = some (r1, r2, r3, r4, r5, r6, r7, r8, r9, r10) := H
              have A13 := Aside0.mk A130
              clear A130
              have H' := Aside0.mk H
              clear H
              have hnb14 := NB380_381.out
              have hnc14 := NB381_380.out
              have hnb15 := NB380_382.out
              have hnc15 := NB382_380.out
              have hcz16_0 : wr.cell? ⟨gb380, 0, none⟩ = some (.slice A0_0 l0_0.length c0_0) := (blk_cell BK380.out 0).trans rfl
              have hfz16_0 := blk_frozen BK380.out 0
              have hnb17 := NB381_382.out
              have hnc17 := NB382_381.out
              have hcz18_0 : wr.cell? ⟨gb381, 0, none⟩ = some (.int .i64 x382000_2) := (blk_cell BK381.out 0).trans rfl
              have hcz18_1 : wr.cell? ⟨gb381, 1, none⟩ = some (.int .i64 x382001_2) := (blk_cell BK381.out 1).trans rfl
              have hcz18_2 : wr.cell? ⟨gb381, 2, none⟩ = some (.int .i64 x382002_2) := (blk_cell BK381.out 2).trans rfl
              have hcz18_3 : wr.cell? ⟨gb381, 3, none⟩ = some (.int .i64 x382003_2) := (blk_cell BK381.out 3).trans rfl
              have hcz18_4 : wr.cell? ⟨gb381, 4, none⟩ = some (.int .i64 x382004_2) := (blk_cell BK381.out 4).trans rfl
              have hcz18_5 : wr.cell? ⟨gb381, 5, none⟩ = some (.int .i64 x382005_2) := (blk_cell BK381.out 5).trans rfl
              have hcz18_6 : wr.cell? ⟨gb381, 6, none⟩ = some (.int .i64 x382006_2) := (blk_cell BK381.out 6).trans rfl
              have hcz18_7 : wr.cell? ⟨gb381, 7, none⟩ = some (.int .i64 x382007_2) := (blk_cell BK381.out 7).trans rfl
              have hcz18_8 : wr.cell? ⟨gb381, 8, none⟩ = some (.int .i64 x382008_2) := (blk_cell BK381.out 8).trans rfl
              have hcz18_9 : wr.cell? ⟨gb381, 9, none⟩ = some (.int .i64 x382009_2) := (blk_cell BK381.out 9).trans rfl
              have hfz18_0 := blk_frozen BK381.out 0
              have hfz18_1 := blk_frozen BK381.out 1
              have hfz18_2 := blk_frozen BK381.out 2
              have hfz18_3 := blk_frozen BK381.out 3
              have hfz18_4 := blk_frozen BK381.out 4
              have hfz18_5 := blk_frozen BK381.out 5
              have hfz18_6 := blk_frozen BK381.out 6
              have hfz18_7 := blk_frozen BK381.out 7
              have hfz18_8 := blk_frozen BK381.out 8
              have hfz18_9 := blk_frozen BK381.out 9
              go_wp2_with (first | ((with_reducible refine gate_callee (f := 59) rfl ?_); refine goesL_ (some 21) rfl rfl Try.func59 (by kernel_rfl) rfl #[.agg #[.slice A0_0 l0_0.length c0_0], .agg #[.int .i64 x382000_2, .int .i64 x382001_2, .int .i64 x382002_2, .int .i64 x382003_2, .int .i64 x382004_2, .int .i64 x382005_2, .int .i64 x382006_2, .int .i64 x382007_2, .int .i64 x382008_2, .int .i64 x382009_2], .int .i64 x15_2] rfl (by (try simp only [List.map_toArray, List.map_cons, List.map_nil]); first | done | rfl | (simp only [List.length_drop, List.length_take]; rfl)) ?_; (with_reducible refine (impl_Poset_exchange.calls _ _ l0_0 x382000_2 x382001_2 x382002_2 x382003_2 x382004_2 x382005_2 x382006_2 x382007_2 x382008_2 x382009_2 x15_2 t384 t385 t386 t387 t388 t389 t390 t391 t392 t393 _ ?side1 ?side2 A13.out).mono ?_); (case side1 => repeat (first | exact (Kd.C_below HR0_0.out HB.out) | (with_reducible refine Kd.C_alloc ?_ _) | (with_reducible refine Kd.C_drewN ?_ _) | (with_reducible refine Kd.C_drew ?_))); (case side2 => exact HC0_0.out); rintro e w19 ⟨rfl, hb⟩; refine ⟨_, rfl, ?_⟩; have n0_ := Aside0.mk (blk_below (g := gb380) (o := .cells #[.slice A0_0 l0_0.length c0_0] 28 (0, 0)) (by (with_reducible repeat (first | refine blk_drewN ?_ _ | refine blk_drew ?_ | refine blk_alloc ?_ _)); exact BK380.out) hb); have n1_ := Aside0.mk (blk_below (g := gb381) (o := .cells #[.int .i64 x382000_2, .int .i64 x382001_2, .int .i64 x382002_2, .int .i64 x382003_2, .int .i64 x382004_2, .int .i64 x382005_2, .int .i64 x382006_2, .int .i64 x382007_2, .int .i64 x382008_2, .int .i64 x382009_2] 58 (0, 0)) (by (with_reducible repeat (first | refine blk_drewN ?_ _ | refine blk_drew ?_ | refine blk_alloc ?_ _)); exact BK381.out) hb); have n2_ := Aside0.mk (blk_below (g := gb382) (o := .cells #[.int .i64 0, .int .i64 0, .int .i64 0, .int .i64 0, .int .i64 0, .int .i64 0, .int .i64 0, .int .i64 0, .int .i64 0, .int .i64 0] 58 (0, 0)) (by (with_reducible repeat (first | refine blk_drewN ?_ _ | refine blk_drew ?_ | refine blk_alloc ?_ _)); exact BK382.out) hb); have n3_ := Aside0.mk (below_step (by repeat (first | (with_reducible first | exact HB.out | apply below_alloc | apply pw_below_drewN | apply below_drew1 | refine below_set ?_ GE380.out | refine below_set ?_ GE381.out | refine below_set ?_ GE382.out) | exact HB.out)) hb); clear BK380; clear BK381; clear BK382; clear HB; have BK380 := n0_; have BK381 := n1_; have BK382 := n2_; have HB := n3_; clear n0_ n1_ n2_ n3_; (try clear hb); (try clear hb2); (try clear hk); (try clear hi); have hcz20_0 : w19.cell? ⟨gb381, 0, none⟩ = some (.int .i64 x382000_2) := (blk_cell BK381.out 0).trans rfl; have hcz20_1 : w19.cell? ⟨gb381, 1, none⟩ = some (.int .i64 x382001_2) := (blk_cell BK381.out 1).trans rfl; have hcz20_2 : w19.cell? ⟨gb381, 2, none⟩ = some (.int .i64 x382002_2) := (blk_cell BK381.out 2).trans rfl; have hcz20_3 : w19.cell? ⟨gb381, 3, none⟩ = some (.int .i64 x382003_2) := (blk_cell BK381.out 3).trans rfl; have hcz20_4 : w19.cell? ⟨gb381, 4, none⟩ = some (.int .i64 x382004_2) := (blk_cell BK381.out 4).trans rfl; have hcz20_5 : w19.cell? ⟨gb381, 5, none⟩ = some (.int .i64 x382005_2) := (blk_cell BK381.out 5).trans rfl; have hcz20_6 : w19.cell? ⟨gb381, 6, none⟩ = some (.int .i64 x382006_2) := (blk_cell BK381.out 6).trans rfl; have hcz20_7 : w19.cell? ⟨gb381, 7, none⟩ = some (.int .i64 x382007_2) := (blk_cell BK381.out 7).trans rfl; have hcz20_8 : w19.cell? ⟨gb381, 8, none⟩ = some (.int .i64 x382008_2) := (blk_cell BK381.out 8).trans rfl; have hcz20_9 : w19.cell? ⟨gb381, 9, none⟩ = some (.int .i64 x382009_2) := (blk_cell BK381.out 9).trans rfl; have hfz20_0 := blk_frozen BK381.out 0; have hfz20_1 := blk_frozen BK381.out 1; have hfz20_2 := blk_frozen BK381.out 2; have hfz20_3 := blk_frozen BK381.out 3; have hfz20_4 := blk_frozen BK381.out 4; have hfz20_5 := blk_frozen BK381.out 5; have hfz20_6 := blk_frozen BK381.out 6; have hfz20_7 := blk_frozen BK381.out 7; have hfz20_8 := blk_frozen BK381.out 8; have hfz20_9 := blk_frozen BK381.out 9))
              go_roundg k2
              case measure => have := HK1.out; have := HK2.out; omega
              case rel => exact ⟨(wrap64 (x15_2 + 1)), (t384), (t385), (t386), (t387), (t388), (t389), (t390), (t391), (t392), (t393), (by first | rfl | (simp; done) | (simp [*]; done)), H', ⟨by have := HK1.out; have := HK2.out; omega⟩, ⟨by (with_reducible repeat (first | refine blk_drewN ?_ _ | refine blk_drew ?_ | refine blk_alloc ?_ _)); refine blk_far ?_ NB380_381.out _; (with_reducible repeat (first | refine blk_drewN ?_ _ | refine blk_drew ?_ | refine blk_alloc ?_ _)); refine blk_far ?_ NB380_381.out _; (with_reducible repeat (first | refine blk_drewN ?_ _ | refine blk_drew ?_ | refine blk_alloc ?_ _)); refine blk_far ?_ NB380_381.out _; (with_reducible repeat (first | refine blk_drewN ?_ _ | refine blk_drew ?_ | refine blk_alloc ?_ _)); refine blk_far ?_ NB380_381.out _; (with_reducible repeat (first | refine blk_drewN ?_ _ | refine blk_drew ?_ | refine blk_alloc ?_ _)); refine blk_far ?_ NB380_381.out _; (with_reducible repeat (first | refine blk_drewN ?_ _ | refine blk_drew ?_ | refine blk_alloc ?_ _)); refine blk_far ?_ NB380_381.out _; (with_reducible repeat (first | refine blk_drewN ?_ _ | refine blk_drew ?_ | refine blk_alloc ?_ _)); refine blk_far ?_ NB380_381.out _; (with_reducible repeat (first | refine blk_drewN ?_ _ | refine blk_drew ?_ | refine blk_alloc ?_ _)); refine blk_far ?_ NB380_381.out _; (with_reducible repeat (first | refine blk_drewN ?_ _ | refine blk_drew ?_ | refine blk_alloc ?_ _)); refine blk_far ?_ NB380_381.out _; (with_reducible repeat (first | refine blk_drewN ?_ _ | refine blk_drew ?_ | refine blk_alloc ?_ _)); refine blk_far ?_ NB380_381.out _; (with_reducible repeat (first | refine blk_drewN ?_ _ | refine blk_drew ?_ | refine blk_alloc ?_ _)); exact BK380.out⟩, ⟨by (with_reducible repeat (first | refine blk_drewN ?_ _ | refine blk_drew ?_ | refine blk_alloc ?_ _)); refine blk_put (cs := #[.int .i64 t384, .int .i64 t385, .int .i64 t386, .int .i64 t387, .int .i64 t388, .int .i64 t389, .int .i64 t390, .int .i64 t391, .int .i64 t392, .int .i64 x382009_2]) ?_ 9 _ rfl; (with_reducible repeat (first | refine blk_drewN ?_ _ | refine blk_drew ?_ | refine blk_alloc ?_ _)); refine blk_put (cs := #[.int .i64 t384, .int .i64 t385, .int .i64 t386, .int .i64 t387, .int .i64 t388, .int .i64 t389, .int .i64 t390, .int .i64 t391, .int .i64 x382008_2, .int .i64 x382009_2]) ?_ 8 _ rfl; (with_reducible repeat (first | refine blk_drewN ?_ _ | refine blk_drew ?_ | refine blk_alloc ?_ _)); refine blk_put (cs := #[.int .i64 t384, .int .i64 t385, .int .i64 t386, .int .i64 t387, .int .i64 t388, .int .i64 t389, .int .i64 t390, .int .i64 x382007_2, .int .i64 x382008_2, .int .i64 x382009_2]) ?_ 7 _ rfl; (with_reducible repeat (first | refine blk_drewN ?_ _ | refine blk_drew ?_ | refine blk_alloc ?_ _)); refine blk_put (cs := #[.int .i64 t384, .int .i64 t385, .int .i64 t386, .int .i64 t387, .int .i64 t388, .int .i64 t389, .int .i64 x382006_2, .int .i64 x382007_2, .int .i64 x382008_2, .int .i64 x382009_2]) ?_ 6 _ rfl; (with_reducible repeat (first | refine blk_drewN ?_ _ | refine blk_drew ?_ | refine blk_alloc ?_ _)); refine blk_put (cs := #[.int .i64 t384, .int .i64 t385, .int .i64 t386, .int .i64 t387, .int .i64 t388, .int .i64 x382005_2, .int .i64 x382006_2, .int .i64 x382007_2, .int .i64 x382008_2, .int .i64 x382009_2]) ?_ 5 _ rfl; (with_reducible repeat (first | refine blk_drewN ?_ _ | refine blk_drew ?_ | refine blk_alloc ?_ _)); refine blk_put (cs := #[.int .i64 t384, .int .i64 t385, .int .i64 t386, .int .i64 t387, .int .i64 x382004_2, .int .i64 x382005_2, .int .i64 x382006_2, .int .i64 x382007_2, .int .i64 x382008_2, .int .i64 x382009_2]) ?_ 4 _ rfl; (with_reducible repeat (first | refine blk_drewN ?_ _ | refine blk_drew ?_ | refine blk_alloc ?_ _)); refine blk_put (cs := #[.int .i64 t384, .int .i64 t385, .int .i64 t386, .int .i64 x382003_2, .int .i64 x382004_2, .int .i64 x382005_2, .int .i64 x382006_2, .int .i64 x382007_2, .int .i64 x382008_2, .int .i64 x382009_2]) ?_ 3 _ rfl; (with_reducible repeat (first | refine blk_drewN ?_ _ | refine blk_drew ?_ | refine blk_alloc ?_ _)); refine blk_put (cs := #[.int .i64 t384, .int .i64 t385, .int .i64 x382002_2, .int .i64 x382003_2, .int .i64 x382004_2, .int .i64 x382005_2, .int .i64 x382006_2, .int .i64 x382007_2, .int .i64 x382008_2, .int .i64 x382009_2]) ?_ 2 _ rfl; (with_reducible repeat (first | refine blk_drewN ?_ _ | refine blk_drew ?_ | refine blk_alloc ?_ _)); refine blk_put (cs := #[.int .i64 t384, .int .i64 x382001_2, .int .i64 x382002_2, .int .i64 x382003_2, .int .i64 x382004_2, .int .i64 x382005_2, .int .i64 x382006_2, .int .i64 x382007_2, .int .i64 x382008_2, .int .i64 x382009_2]) ?_ 1 _ rfl; (with_reducible repeat (first | refine blk_drewN ?_ _ | refine blk_drew ?_ | refine blk_alloc ?_ _)); refine blk_put (cs := #[.int .i64 x382000_2, .int .i64 x382001_2, .int .i64 x382002_2, .int .i64 x382003_2, .int .i64 x382004_2, .int .i64 x382005_2, .int .i64 x382006_2, .int .i64 x382007_2, .int .i64 x382008_2, .int .i64 x382009_2]) ?_ 0 _ rfl; (with_reducible repeat (first | refine blk_drewN ?_ _ | refine blk_drew ?_ | refine blk_alloc ?_ _)); exact BK381.out⟩, ⟨by (with_reducible repeat (first | refine blk_drewN ?_ _ | refine blk_drew ?_ | refine blk_alloc ?_ _)); refine blk_far ?_ NB382_381.out _; (with_reducible repeat (first | refine blk_drewN ?_ _ | refine blk_drew ?_ | refine blk_alloc ?_ _)); refine blk_far ?_ NB382_381.out _; (with_reducible repeat (first | refine blk_drewN ?_ _ | refine blk_drew ?_ | refine blk_alloc ?_ _)); refine blk_far ?_ NB382_381.out _; (with_reducible repeat (first | refine blk_drewN ?_ _ | refine blk_drew ?_ | refine blk_alloc ?_ _)); refine blk_far ?_ NB382_381.out _; (with_reducible repeat (first | refine blk_drewN ?_ _ | refine blk_drew ?_ | refine blk_alloc ?_ _)); refine blk_far ?_ NB382_381.out _; (with_reducible repeat (first | refine blk_drewN ?_ _ | refine blk_drew ?_ | refine blk_alloc ?_ _)); refine blk_far ?_ NB382_381.out _; (with_reducible repeat (first | refine blk_drewN ?_ _ | refine blk_drew ?_ | refine blk_alloc ?_ _)); refine blk_far ?_ NB382_381.out _; (with_reducible repeat (first | refine blk_drewN ?_ _ | refine blk_drew ?_ | refine blk_alloc ?_ _)); refine blk_far ?_ NB382_381.out _; (with_reducible repeat (first | refine blk_drewN ?_ _ | refine blk_drew ?_ | refine blk_alloc ?_ _)); refine blk_far ?_ NB382_381.out _; (with_reducible repeat (first | refine blk_drewN ?_ _ | refine blk_drew ?_ | refine blk_alloc ?_ _)); refine blk_far ?_ NB382_381.out _; (with_reducible repeat (first | refine blk_drewN ?_ _ | refine blk_drew ?_ | refine blk_alloc ?_ _)); exact BK382.out⟩, ⟨by repeat (first | (with_reducible first | exact HB.out | apply below_alloc | apply pw_below_drewN | apply below_drew1 | refine below_set ?_ GE380.out | refine below_set ?_ GE381.out | refine below_set ?_ GE382.out) | exact HB.out)⟩⟩
            · rw [if_neg c12] at H
              have c12b0 : decide (x15_2 < x5_1) = false := decide_eq_false c12
              clear c12
              have H' := Aside0.mk H
              clear H
              go_wp2
              go_roundg k2
              case measure => have := HK1.out; have := HK2.out; omega
              case rel => exact ⟨(wrap64 (x5_1 - 1)), (x382000_2), (x382001_2), (x382002_2), (x382003_2), (x382004_2), (x382005_2), (x382006_2), (x382007_2), (x382008_2), (x382009_2), (by first | rfl | (simp; done) | (simp [*]; done)), H', ⟨by have := HK1.out; have := HK2.out; omega⟩, ⟨by (with_reducible repeat (first | refine blk_drewN ?_ _ | refine blk_drew ?_ | refine blk_alloc ?_ _)); exact BK380.out⟩, ⟨by (with_reducible repeat (first | refine blk_drewN ?_ _ | refine blk_drew ?_ | refine blk_alloc ?_ _)); exact BK381.out⟩, ⟨by (with_reducible repeat (first | refine blk_drewN ?_ _ | refine blk_drew ?_ | refine blk_alloc ?_ _)); exact BK382.out⟩, ⟨by repeat (first | (with_reducible first | exact HB.out | apply below_alloc | apply pw_below_drewN | apply below_drew1 | refine below_set ?_ GE380.out | refine below_set ?_ GE381.out | refine below_set ?_ GE382.out) | exact HB.out)⟩⟩
      · rw [if_neg c11] at H
        have c11b0 : decide (0 < x5_1) = false := decide_eq_false c11
        clear c11
        simp only [Option.some.injEq, Prod.mk.injEq] at H
        obtain ⟨rfl, rfl, rfl, rfl, rfl, rfl, rfl, rfl, rfl, rfl⟩ := H
        have hnb21 := NB381_380.out
        have hnc21 := NB380_381.out
        have hnb22 := NB381_382.out
        have hnc22 := NB382_381.out
        have hcz23_0 : wr.cell? ⟨gb381, 0, none⟩ = some (.int .i64 x382000_1) := (blk_cell BK381.out 0).trans rfl
        have hcz23_1 : wr.cell? ⟨gb381, 1, none⟩ = some (.int .i64 x382001_1) := (blk_cell BK381.out 1).trans rfl
        have hcz23_2 : wr.cell? ⟨gb381, 2, none⟩ = some (.int .i64 x382002_1) := (blk_cell BK381.out 2).trans rfl
        have hcz23_3 : wr.cell? ⟨gb381, 3, none⟩ = some (.int .i64 x382003_1) := (blk_cell BK381.out 3).trans rfl
        have hcz23_4 : wr.cell? ⟨gb381, 4, none⟩ = some (.int .i64 x382004_1) := (blk_cell BK381.out 4).trans rfl
        have hcz23_5 : wr.cell? ⟨gb381, 5, none⟩ = some (.int .i64 x382005_1) := (blk_cell BK381.out 5).trans rfl
        have hcz23_6 : wr.cell? ⟨gb381, 6, none⟩ = some (.int .i64 x382006_1) := (blk_cell BK381.out 6).trans rfl
        have hcz23_7 : wr.cell? ⟨gb381, 7, none⟩ = some (.int .i64 x382007_1) := (blk_cell BK381.out 7).trans rfl
        have hcz23_8 : wr.cell? ⟨gb381, 8, none⟩ = some (.int .i64 x382008_1) := (blk_cell BK381.out 8).trans rfl
        have hcz23_9 : wr.cell? ⟨gb381, 9, none⟩ = some (.int .i64 x382009_1) := (blk_cell BK381.out 9).trans rfl
        have hfz23_0 := blk_frozen BK381.out 0
        have hfz23_1 := blk_frozen BK381.out 1
        have hfz23_2 := blk_frozen BK381.out 2
        have hfz23_3 := blk_frozen BK381.out 3
        have hfz23_4 := blk_frozen BK381.out 4
        have hfz23_5 := blk_frozen BK381.out 5
        have hfz23_6 := blk_frozen BK381.out 6
        have hfz23_7 := blk_frozen BK381.out 7
        have hfz23_8 := blk_frozen BK381.out 8
        have hfz23_9 := blk_frozen BK381.out 9
        have hnb24 := NB382_380.out
        have hnc24 := NB380_382.out
        have hcz25_0 : wr.cell? ⟨gb382, 0, none⟩ = some (.int .i64 0) := (blk_cell BK382.out 0).trans rfl
        have hcz25_1 : wr.cell? ⟨gb382, 1, none⟩ = some (.int .i64 0) := (blk_cell BK382.out 1).trans rfl
        have hcz25_2 : wr.cell? ⟨gb382, 2, none⟩ = some (.int .i64 0) := (blk_cell BK382.out 2).trans rfl
        have hcz25_3 : wr.cell? ⟨gb382, 3, none⟩ = some (.int .i64 0) := (blk_cell BK382.out 3).trans rfl
        have hcz25_4 : wr.cell? ⟨gb382, 4, none⟩ = some (.int .i64 0) := (blk_cell BK382.out 4).trans rfl
        have hcz25_5 : wr.cell? ⟨gb382, 5, none⟩ = some (.int .i64 0) := (blk_cell BK382.out 5).trans rfl
        have hcz25_6 : wr.cell? ⟨gb382, 6, none⟩ = some (.int .i64 0) := (blk_cell BK382.out 6).trans rfl
        have hcz25_7 : wr.cell? ⟨gb382, 7, none⟩ = some (.int .i64 0) := (blk_cell BK382.out 7).trans rfl
        have hcz25_8 : wr.cell? ⟨gb382, 8, none⟩ = some (.int .i64 0) := (blk_cell BK382.out 8).trans rfl
        have hcz25_9 : wr.cell? ⟨gb382, 9, none⟩ = some (.int .i64 0) := (blk_cell BK382.out 9).trans rfl
        have hfz25_0 := blk_frozen BK382.out 0
        have hfz25_1 := blk_frozen BK382.out 1
        have hfz25_2 := blk_frozen BK382.out 2
        have hfz25_3 := blk_frozen BK382.out 3
        have hfz25_4 := blk_frozen BK382.out 4
        have hfz25_5 := blk_frozen BK382.out 5
        have hfz25_6 := blk_frozen BK382.out 6
        have hfz25_7 := blk_frozen BK382.out 7
        have hfz25_8 := blk_frozen BK382.out 8
        have hfz25_9 := blk_frozen BK382.out 9
        go_wp2
        refine bodyPost_ret (results_cell_row rfl _ _ gb382 58 #[.int .i64 x382000_1, .int .i64 x382001_1, .int .i64 x382002_1, .int .i64 x382003_1, .int .i64 x382004_1, .int .i64 x382005_1, .int .i64 x382006_1, .int .i64 x382007_1, .int .i64 x382008_1, .int .i64 x382009_1] (0, 0) _ rfl (by (with_reducible repeat (first | refine blk_drewN ?_ _ | refine blk_drew ?_ | refine blk_alloc ?_ _)); refine blk_put (cs := #[.int .i64 x382000_1, .int .i64 x382001_1, .int .i64 x382002_1, .int .i64 x382003_1, .int .i64 x382004_1, .int .i64 x382005_1, .int .i64 x382006_1, .int .i64 x382007_1, .int .i64 x382008_1, .int .i64 0]) ?_ 9 _ rfl; (with_reducible repeat (first | refine blk_drewN ?_ _ | refine blk_drew ?_ | refine blk_alloc ?_ _)); refine blk_put (cs := #[.int .i64 x382000_1, .int .i64 x382001_1, .int .i64 x382002_1, .int .i64 x382003_1, .int .i64 x382004_1, .int .i64 x382005_1, .int .i64 x382006_1, .int .i64 x382007_1, .int .i64 0, .int .i64 0]) ?_ 8 _ rfl; (with_reducible repeat (first | refine blk_drewN ?_ _ | refine blk_drew ?_ | refine blk_alloc ?_ _)); refine blk_put (cs := #[.int .i64 x382000_1, .int .i64 x382001_1, .int .i64 x382002_1, .int .i64 x382003_1, .int .i64 x382004_1, .int .i64 x382005_1, .int .i64 x382006_1, .int .i64 0, .int .i64 0, .int .i64 0]) ?_ 7 _ rfl; (with_reducible repeat (first | refine blk_drewN ?_ _ | refine blk_drew ?_ | refine blk_alloc ?_ _)); refine blk_put (cs := #[.int .i64 x382000_1, .int .i64 x382001_1, .int .i64 x382002_1, .int .i64 x382003_1, .int .i64 x382004_1, .int .i64 x382005_1, .int .i64 0, .int .i64 0, .int .i64 0, .int .i64 0]) ?_ 6 _ rfl; (with_reducible repeat (first | refine blk_drewN ?_ _ | refine blk_drew ?_ | refine blk_alloc ?_ _)); refine blk_put (cs := #[.int .i64 x382000_1, .int .i64 x382001_1, .int .i64 x382002_1, .int .i64 x382003_1, .int .i64 x382004_1, .int .i64 0, .int .i64 0, .int .i64 0, .int .i64 0, .int .i64 0]) ?_ 5 _ rfl; (with_reducible repeat (first | refine blk_drewN ?_ _ | refine blk_drew ?_ | refine blk_alloc ?_ _)); refine blk_put (cs := #[.int .i64 x382000_1, .int .i64 x382001_1, .int .i64 x382002_1, .int .i64 x382003_1, .int .i64 0, .int .i64 0, .int .i64 0, .int .i64 0, .int .i64 0, .int .i64 0]) ?_ 4 _ rfl; (with_reducible repeat (first | refine blk_drewN ?_ _ | refine blk_drew ?_ | refine blk_alloc ?_ _)); refine blk_put (cs := #[.int .i64 x382000_1, .int .i64 x382001_1, .int .i64 x382002_1, .int .i64 0, .int .i64 0, .int .i64 0, .int .i64 0, .int .i64 0, .int .i64 0, .int .i64 0]) ?_ 3 _ rfl; (with_reducible repeat (first | refine blk_drewN ?_ _ | refine blk_drew ?_ | refine blk_alloc ?_ _)); refine blk_put (cs := #[.int .i64 x382000_1, .int .i64 x382001_1, .int .i64 0, .int .i64 0, .int .i64 0, .int .i64 0, .int .i64 0, .int .i64 0, .int .i64 0, .int .i64 0]) ?_ 2 _ rfl; (with_reducible repeat (first | refine blk_drewN ?_ _ | refine blk_drew ?_ | refine blk_alloc ?_ _)); refine blk_put (cs := #[.int .i64 x382000_1, .int .i64 0, .int .i64 0, .int .i64 0, .int .i64 0, .int .i64 0, .int .i64 0, .int .i64 0, .int .i64 0, .int .i64 0]) ?_ 1 _ rfl; (with_reducible repeat (first | refine blk_drewN ?_ _ | refine blk_drew ?_ | refine blk_alloc ?_ _)); refine blk_put (cs := #[.int .i64 0, .int .i64 0, .int .i64 0, .int .i64 0, .int .i64 0, .int .i64 0, .int .i64 0, .int .i64 0, .int .i64 0, .int .i64 0]) ?_ 0 _ rfl; (with_reducible repeat (first | refine blk_drewN ?_ _ | refine blk_drew ?_ | refine blk_alloc ?_ _)); exact BK382.out) Try.underlying58 rfl (by kernel_rfl)) rfl ?_
        exact ⟨by first | rfl | (simp [errW_none, errW_some] <;> rfl) | (simp [*, errW_none, errW_some] <;> rfl), by repeat (first | (with_reducible first | exact HB.out | apply below_alloc | apply pw_below_drewN | apply below_drew1 | refine below_set ?_ GE380.out | refine below_set ?_ GE381.out | refine below_set ?_ GE382.out) | exact HB.out)⟩

end Go.Proofs.Ytjahclncpgllmaa.F
end

section
namespace Go.Proofs.Ytjahclncpgllmaa.F
open Go.RowKit Go.Proofs.YtjahclncpgllmaaW.PrintWords Go.Proofs.YtjahclncpgllmaaW.PrintLast Go.Proofs.YtjahclncpgllmaaW.PrintMore
attribute [local go_sem] max2_int min2_int max_two min_two max_three min_three max_four min_four
set_option linter.unusedVariables false
set_option linter.unusedSimpArgs false

/-! ### impl_Poset_promoted: function 85 -/
def impl_Poset_promoted.l0 : Nat → Int → Int → List Int → Int → Int → Int → Int → Int → Int → Int → Int → Int → Int → Option (Int × Int × Int × Int × Int × Int × Int × Int × Int × Int)
  | 0, _, _, _, _, _, _, _, _, _, _, _, _, _ => none
  | k + 1, x8, x9, x790000, x791000, x791001, x791002, x791003, x791004, x791005, x791006, x791007, x791008, x791009 => if x9 < x8 then ((impl_Poset_exchange.f x790000 x791000 x791001 x791002 x791003 x791004 x791005 x791006 x791007 x791008 x791009 x9).bind fun bt793 => (impl_Poset_promoted.l0 k x8 (wrap64 (x9 + 1)) x790000 bt793.1 bt793.2.1 bt793.2.2.1 bt793.2.2.2.1 bt793.2.2.2.2.1 bt793.2.2.2.2.2.1 bt793.2.2.2.2.2.2.1 bt793.2.2.2.2.2.2.2.1 bt793.2.2.2.2.2.2.2.2.1 bt793.2.2.2.2.2.2.2.2.2)) else (some (x791000, x791001, x791002, x791003, x791004, x791005, x791006, x791007, x791008, x791009))
def impl_Poset_promoted.f (k : Nat) (l0_0 : List Int) (a1_0 : Int) (a1_1 : Int) (a1_2 : Int) (a1_3 : Int) (a1_4 : Int) (a1_5 : Int) (a1_6 : Int) (a1_7 : Int) (a1_8 : Int) (a1_9 : Int) : Option (Int × Int × Int × Int × Int × Int × Int × Int × Int × Int) := (impl_Poset_n.f l0_0).bind fun t792 => (impl_Poset_promoted.l0 k (wrap64 (t792 - 1)) 0 l0_0 a1_0 a1_1 a1_2 a1_3 a1_4 a1_5 a1_6 a1_7 a1_8 a1_9)
theorem impl_Poset_promoted.mono_l : ∀ k, (∀ y0 y1 y2 y3 y4 y5 y6 y7 y8 y9 y10 y11 y12, LeO (impl_Poset_promoted.l0 k y0 y1 y2 y3 y4 y5 y6 y7 y8 y9 y10 y11 y12) (impl_Poset_promoted.l0 (k + 1) y0 y1 y2 y3 y4 y5 y6 y7 y8 y9 y10 y11 y12))
  | 0 => fun _ _ _ _ _ _ _ _ _ _ _ _ _ r h => by simp [impl_Poset_promoted.l0] at h
  | k + 1 => by
    have ih0 := impl_Poset_promoted.mono_l k
    · intro y0 y1 y2 y3 y4 y5 y6 y7 y8 y9 y10 y11 y12
      unfold impl_Poset_promoted.l0
      repeat' first
      | (with_reducible exact ih0 _ _ _ _ _ _ _ _ _ _ _ _ _)
      | (with_reducible exact LeO.refl _)
      | (with_reducible exact LeO.none _)
      | (with_reducible refine LeO.ite ?_ ?_)
      | (with_reducible refine LeO.bind ?_ (fun _ => ?_))
      | exact ih0 _ _ _ _ _ _ _ _ _ _ _ _ _
      | exact LeO.none _
      | refine LeO.ite ?_ ?_
      | refine LeO.bind ?_ (fun _ => ?_)
theorem impl_Poset_promoted.mono : ∀ a0 a1 a2 a3 a4 a5 a6 a7 a8 a9 a10 k, LeO (impl_Poset_promoted.f k a0 a1 a2 a3 a4 a5 a6 a7 a8 a9 a10) (impl_Poset_promoted.f (k + 1) a0 a1 a2 a3 a4 a5 a6 a7 a8 a9 a10) := by
  intro a0 a1 a2 a3 a4 a5 a6 a7 a8 a9 a10 k
  have ih0 := impl_Poset_promoted.mono_l k
  unfold impl_Poset_promoted.f
  repeat' first
      | (with_reducible exact ih0 _ _ _ _ _ _ _ _ _ _ _ _ _)
      | (with_reducible exact LeO.refl _)
      | (with_reducible exact LeO.none _)
      | (with_reducible refine LeO.ite ?_ ?_)
      | (with_reducible refine LeO.bind ?_ (fun _ => ?_))
      | exact ih0 _ _ _ _ _ _ _ _ _ _ _ _ _
      | exact LeO.none _
      | refine LeO.ite ?_ ?_
      | refine LeO.bind ?_ (fun _ => ?_)
set_option maxHeartbeats 8000000 in
set_option maxRecDepth 100000 in
theorem impl_Poset_promoted.calls (k : Nat) (A0_0 : Option Addr) (c0_0 : Nat) (l0_0 : List Int) (a1_0 : Int) (a1_1 : Int) (a1_2 : Int) (a1_3 : Int) (a1_4 : Int) (a1_5 : Int) (a1_6 : Int) (a1_7 : Int) (a1_8 : Int) (a1_9 : Int) (r1 : Int) (r2 : Int) (r3 : Int) (r4 : Int) (r5 : Int) (r6 : Int) (r7 : Int) (r8 : Int) (r9 : Int) (r10 : Int) (w : World) (hr0_0 : Kd.C (Kd.int .i64) w A0_0 l0_0.length l0_0) (hc0_0 : l0_0.length ≤ c0_0) (h : impl_Poset_promoted.f k l0_0 a1_0 a1_1 a1_2 a1_3 a1_4 a1_5 a1_6 a1_7 a1_8 a1_9 = some (r1, r2, r3, r4, r5, r6, r7, r8, r9, r10)) :
    Calls Try.prog 85 #[.agg #[.slice A0_0 l0_0.length c0_0], .agg #[.int .i64 a1_0, .int .i64 a1_1, .int .i64 a1_2, .int .i64 a1_3, .int .i64 a1_4, .int .i64 a1_5, .int .i64 a1_6, .int .i64 a1_7, .int .i64 a1_8, .int .i64 a1_9]] w fun e w' => e = .returned (.agg #[.int .i64 r1, .int .i64 r2, .int .i64 r3, .int .i64 r4, .int .i64 r5, .int .i64 r6, .int .i64 r7, .int .i64 r8, .int .i64 r9, .int .i64 r10]) ∧ Below w.heap.size w w' := by
  have hu28 := Try.underlying28
  have hu58 := Try.underlying58
  have HR0_0 := Aside0.mk hr0_0
  have HC0_0 := Aside0.mk hc0_0
  clear hr0_0 hc0_0
  have HB := Aside0.mk (Below.refl w.heap.size w)
  have H : ((impl_Poset_n.f l0_0).bind fun t792 => (impl_Poset_promoted.l0 k (wrap64 (t792 - 1)) 0 l0_0 a1_0 a1_1 a1_2 a1_3 a1_4 a1_5 a1_6 a1_7 a1_8 a1_9)) = some (r1, r2, r3, r4, r5, r6, r7, r8, r9, r10) := h
  clear h
  replace H := Option.bind_eq_some_iff.mp H
  obtain ⟨t792, A30, H⟩ := H
  replace H : (impl_Poset_promoted.l0 k (wrap64 (t792 - 1)) 0 l0_0 a1_0 a1_1 a1_2 a1_3 a1_4 a1_5 a1_6 a1_7 a1_8 a1_9) = some (r1, r2, r3, r4, r5, r6, r7, r8, r9, r10) := H
  have A3 := Aside0.mk A30
  clear A30
  have H' := Aside0.mk H
  clear H
  go_enter Try.func85, Try.ntmps85
  go_wp2_with (first | ((with_reducible refine gate_dst (N := 2) rfl ?_); refine box_event ?hg (N := 2) ?hd (cs := #[.slice A0_0 l0_0.length c0_0]) (t := 28) ?hr ?_; (case hd => rfl); (case hg => rfl); (case hr => first | (go_simp; done) | (go_simp; rfl)); intro gb789 hg w4 hbox hb; have n0_ := Aside0.mk (below_step (by repeat (first | (with_reducible first | exact HB.out | apply below_alloc | apply pw_below_drewN | apply below_drew1) | exact HB.out)) hb); have n1_ := Aside0.mk (hbox); have n2_ := Aside0.mk ((by rw [hg]; exact (below_size (by repeat (first | (with_reducible first | exact HB.out | apply below_alloc | apply pw_below_drewN | apply below_drew1) | exact HB.out))) : w.heap.size ≤ gb789)); have n3_ := Aside0.mk ((by rw [hg]; exact (below_size (by repeat (first | (with_reducible first | exact HB.out | apply below_alloc | apply pw_below_drewN | apply below_drew1) | exact HB.out))) : w.heap.size ≤ gb789)); clear HB; have HB := n0_; have BK789 := n1_; have GW789 := n2_; have GE789 := n3_; clear n0_ n1_ n2_ n3_; clear hb hbox hg) | ((with_reducible refine gate_dst (N := 3) rfl ?_); refine box_event ?hg (N := 3) ?hd (cs := #[.int .i64 a1_0, .int .i64 a1_1, .int .i64 a1_2, .int .i64 a1_3, .int .i64 a1_4, .int .i64 a1_5, .int .i64 a1_6, .int .i64 a1_7, .int .i64 a1_8, .int .i64 a1_9]) (t := 58) ?hr ?_; (case hd => rfl); (case hg => rfl); (case hr => first | (go_simp; done) | (go_simp; rfl)); intro gb790 hg w5 hbox hb; have n0_ := Aside0.mk (blk_below (g := gb789) (o := .cells #[.slice A0_0 l0_0.length c0_0] 28 (0, 0)) (by (with_reducible repeat (first | refine blk_drewN ?_ _ | refine blk_drew ?_ | refine blk_alloc ?_ _)); exact BK789.out) hb); have n1_ := Aside0.mk (below_step (by repeat (first | (with_reducible first | exact HB.out | apply below_alloc | apply pw_below_drewN | apply below_drew1 | refine below_set ?_ GE789.out) | exact HB.out)) hb); have n2_ := Aside0.mk (hbox); have n3_ := Aside0.mk ((by rw [hg]; exact (below_size (by repeat (first | (with_reducible first | exact HB.out | apply below_alloc | apply pw_below_drewN | apply below_drew1 | refine below_set ?_ GE789.out) | exact HB.out))) : w.heap.size ≤ gb790)); have n4_ := Aside0.mk ((by rw [hg]; exact (below_size (by repeat (first | (with_reducible first | exact HB.out | apply below_alloc | apply pw_below_drewN | apply below_drew1 | refine below_set ?_ GE789.out) | exact HB.out))) : w.heap.size ≤ gb790)); have n5_ := Aside0.mk ((by rw [hg]; exact Nat.ne_of_lt (blk_lt (g := gb789) (o := .cells #[.slice A0_0 l0_0.length c0_0] 28 (0, 0)) (by (with_reducible repeat (first | refine blk_drewN ?_ _ | refine blk_drew ?_ | refine blk_alloc ?_ _)); exact BK789.out)) : gb789 ≠ gb790)); have n6_ := Aside0.mk ((by rw [hg]; exact Nat.ne_of_gt (blk_lt (g := gb789) (o := .cells #[.slice A0_0 l0_0.length c0_0] 28 (0, 0)) (by (with_reducible repeat (first | refine blk_drewN ?_ _ | refine blk_drew ?_ | refine blk_alloc ?_ _)); exact BK789.out)) : gb790 ≠ gb789)); clear BK789; clear HB; have BK789 := n0_; have HB := n1_; have BK790 := n2_; have GW790 := n3_; have GE790 := n4_; have NB789_790 := n5_; have NB790_789 := n6_; clear n0_ n1_ n2_ n3_ n4_ n5_ n6_; clear hb hbox hg) | ((with_reducible refine gate_dst (N := 4) rfl ?_); refine box_event ?hg (N := 4) ?hd (cs := #[.int .i64 0, .int .i64 0, .int .i64 0, .int .i64 0, .int .i64 0, .int .i64 0, .int .i64 0, .int .i64 0, .int .i64 0, .int .i64 0]) (t := 58) ?hr ?_; (case hd => rfl); (case hg => rfl); (case hr => first | (go_simp; done) | (go_simp; rfl)); intro gb791 hg w6 hbox hb; have n0_ := Aside0.mk (blk_below (g := gb789) (o := .cells #[.slice A0_0 l0_0.length c0_0] 28 (0, 0)) (by (with_reducible repeat (first | refine blk_drewN ?_ _ | refine blk_drew ?_ | refine blk_alloc ?_ _)); exact BK789.out) hb); have n1_ := Aside0.mk (blk_below (g := gb790) (o := .cells #[.int .i64 a1_0, .int .i64 a1_1, .int .i64 a1_2, .int .i64 a1_3, .int .i64 a1_4, .int .i64 a1_5, .int .i64 a1_6, .int .i64 a1_7, .int .i64 a1_8, .int .i64 a1_9] 58 (0, 0)) (by (with_reducible repeat (first | refine blk_drewN ?_ _ | refine blk_drew ?_ | refine blk_alloc ?_ _)); exact BK790.out) hb); have n2_ := Aside0.mk (below_step (by repeat (first | (with_reducible first | exact HB.out | apply below_alloc | apply pw_below_drewN | apply below_drew1 | refine below_set ?_ GE789.out | refine below_set ?_ GE790.out) | exact HB.out)) hb); have n3_ := Aside0.mk (hbox); have n4_ := Aside0.mk ((by rw [hg]; exact (below_size (by repeat (first | (with_reducible first | exact HB.out | apply below_alloc | apply pw_below_drewN | apply below_drew1 | refine below_set ?_ GE789.out | refine below_set ?_ GE790.out) | exact HB.out))) : w.heap.size ≤ gb791)); have n5_ := Aside0.mk ((by rw [hg]; exact (below_size (by repeat (first | (with_reducible first | exact HB.out | apply below_alloc | apply pw_below_drewN | apply below_drew1 | refine below_set ?_ GE789.out | refine below_set ?_ GE790.out) | exact HB.out))) : w.heap.size ≤ gb791)); have n6_ := Aside0.mk ((by rw [hg]; exact Nat.ne_of_lt (blk_lt (g := gb789) (o := .cells #[.slice A0_0 l0_0.length c0_0] 28 (0, 0)) (by (with_reducible repeat (first | refine blk_drewN ?_ _ | refine blk_drew ?_ | refine blk_alloc ?_ _)); exact BK789.out)) : gb789 ≠ gb791)); have n7_ := Aside0.mk ((by rw [hg]; exact Nat.ne_of_gt (blk_lt (g := gb789) (o := .cells #[.slice A0_0 l0_0.length c0_0] 28 (0, 0)) (by (with_reducible repeat (first | refine blk_drewN ?_ _ | refine blk_drew ?_ | refine blk_alloc ?_ _)); exact BK789.out)) : gb791 ≠ gb789)); have n8_ := Aside0.mk ((by rw [hg]; exact Nat.ne_of_lt (blk_lt (g := gb790) (o := .cells #[.int .i64 a1_0, .int .i64 a1_1, .int .i64 a1_2, .int .i64 a1_3, .int .i64 a1_4, .int .i64 a1_5, .int .i64 a1_6, .int .i64 a1_7, .int .i64 a1_8, .int .i64 a1_9] 58 (0, 0)) (by (with_reducible repeat (first | refine blk_drewN ?_ _ | refine blk_drew ?_ | refine blk_alloc ?_ _)); exact BK790.out)) : gb790 ≠ gb791)); have n9_ := Aside0.mk ((by rw [hg]; exact Nat.ne_of_gt (blk_lt (g := gb790) (o := .cells #[.int .i64 a1_0, .int .i64 a1_1, .int .i64 a1_2, .int .i64 a1_3, .int .i64 a1_4, .int .i64 a1_5, .int .i64 a1_6, .int .i64 a1_7, .int .i64 a1_8, .int .i64 a1_9] 58 (0, 0)) (by (with_reducible repeat (first | refine blk_drewN ?_ _ | refine blk_drew ?_ | refine blk_alloc ?_ _)); exact BK790.out)) : gb791 ≠ gb790)); clear BK789; clear BK790; clear HB; have BK789 := n0_; have BK790 := n1_; have HB := n2_; have BK791 := n3_; have GW791 := n4_; have GE791 := n5_; have NB789_791 := n6_; have NB791_789 := n7_; have NB790_791 := n8_; have NB791_790 := n9_; clear n0_ n1_ n2_ n3_ n4_ n5_ n6_ n7_ n8_ n9_; clear hb hbox hg; have hnb7 := NB789_790.out; have hnc7 := NB790_789.out; have hnb8 := NB789_791.out; have hnc8 := NB791_789.out; have hcz9_0 : w6.cell? ⟨gb789, 0, none⟩ = some (.slice A0_0 l0_0.length c0_0) := (blk_cell BK789.out 0).trans rfl; have hfz9_0 := blk_frozen BK789.out 0) | ((with_reducible refine gate_callee (f := 58) rfl ?_); refine goesL_ (some 7) rfl rfl Try.func58 (by kernel_rfl) rfl #[.agg #[.slice A0_0 l0_0.length c0_0]] rfl (by (try simp only [List.map_toArray, List.map_cons, List.map_nil]); first | done | rfl | (simp only [List.length_drop, List.length_take]; rfl)) ?_; (with_reducible refine (impl_Poset_n.calls _ _ l0_0 t792 _ ?side1 ?side2 A3.out).mono ?_); (case side1 => repeat (first | exact (Kd.C_below HR0_0.out HB.out) | (with_reducible refine Kd.C_alloc ?_ _) | (with_reducible refine Kd.C_drewN ?_ _) | (with_reducible refine Kd.C_drew ?_))); (case side2 => exact HC0_0.out); rintro e w10 ⟨rfl, hb⟩; refine ⟨_, rfl, ?_⟩; have n0_ := Aside0.mk (blk_below (g := gb789) (o := .cells #[.slice A0_0 l0_0.length c0_0] 28 (0, 0)) (by (with_reducible repeat (first | refine blk_drewN ?_ _ | refine blk_drew ?_ | refine blk_alloc ?_ _)); exact BK789.out) hb); have n1_ := Aside0.mk (blk_below (g := gb790) (o := .cells #[.int .i64 a1_0, .int .i64 a1_1, .int .i64 a1_2, .int .i64 a1_3, .int .i64 a1_4, .int .i64 a1_5, .int .i64 a1_6, .int .i64 a1_7, .int .i64 a1_8, .int .i64 a1_9] 58 (0, 0)) (by (with_reducible repeat (first | refine blk_drewN ?_ _ | refine blk_drew ?_ | refine blk_alloc ?_ _)); exact BK790.out) hb); have n2_ := Aside0.mk (blk_below (g := gb791) (o := .cells #[.int .i64 0, .int .i64 0, .int .i64 0, .int .i64 0, .int .i64 0, .int .i64 0, .int .i64 0, .int .i64 0, .int .i64 0, .int .i64 0] 58 (0, 0)) (by (with_reducible repeat (first | refine blk_drewN ?_ _ | refine blk_drew ?_ | refine blk_alloc ?_ _)); exact BK791.out) hb); have n3_ := Aside0.mk (below_step (by repeat (first | (with_reducible first | exact HB.out | apply below_alloc | apply pw_below_drewN | apply below_drew1 | refine below_set ?_ GE789.out | refine below_set ?_ GE790.out | refine below_set ?_ GE791.out) | exact HB.out)) hb); clear BK789; clear BK790; clear BK791; clear HB; have BK789 := n0_; have BK790 := n1_; have BK791 := n2_; have HB := n3_; clear n0_ n1_ n2_ n3_; (try clear hb); (try clear hb2); (try clear hk); (try clear hi)))
  go_loopg [9] k (fun kq v9 w' => ∃ (x9_1 : Int) (x791000_1 : Int) (x791001_1 : Int) (x791002_1 : Int) (x791003_1 : Int) (x791004_1 : Int) (x791005_1 : Int) (x791006_1 : Int) (x791007_1 : Int) (x791008_1 : Int) (x791009_1 : Int), v9 = .int .i64 x9_1 ∧ Aside0 (impl_Poset_promoted.l0 kq (wrap64 (t792 - 1)) x9_1 l0_0 x791000_1 x791001_1 x791002_1 x791003_1 x791004_1 x791005_1 x791006_1 x791007_1 x791008_1 x791009_1 = some (r1, r2, r3, r4, r5, r6, r7, r8, r9, r10)) ∧ Aside0 (kq ≤ k) ∧ Aside0 (w'.heap[gb789]? = some (.cells #[(.slice A0_0 l0_0.length c0_0)] 28 (0, 0))) ∧ Aside0 (w'.heap[gb790]? = some (.cells #[.int .i64 x791000_1, .int .i64 x791001_1, .int .i64 x791002_1, .int .i64 x791003_1, .int .i64 x791004_1, .int .i64 x791005_1, .int .i64 x791006_1, .int .i64 x791007_1, .int .i64 x791008_1, .int .i64 x791009_1] 58 (0, 0))) ∧ Aside0 (w'.heap[gb791]? = some (.cells #[.int .i64 0, .int .i64 0, .int .i64 0, .int .i64 0, .int .i64 0, .int .i64 0, .int .i64 0, .int .i64 0, .int .i64 0, .int .i64 0] 58 (0, 0))) ∧ Aside0 (Below w.heap.size w w'))
  case atStart => exact ⟨(0), (a1_0), (a1_1), (a1_2), (a1_3), (a1_4), (a1_5), (a1_6), (a1_7), (a1_8), (a1_9), (by first | rfl | (simp; done) | (simp [*]; done)), H', ⟨Nat.le_refl _⟩, ⟨by (with_reducible repeat (first | refine blk_drewN ?_ _ | refine blk_drew ?_ | refine blk_alloc ?_ _)); exact BK789.out⟩, ⟨by (with_reducible repeat (first | refine blk_drewN ?_ _ | refine blk_drew ?_ | refine blk_alloc ?_ _)); exact BK790.out⟩, ⟨by (with_reducible repeat (first | refine blk_drewN ?_ _ | refine blk_drew ?_ | refine blk_alloc ?_ _)); exact BK791.out⟩, ⟨by repeat (first | (with_reducible first | exact HB.out | apply below_alloc | apply pw_below_drewN | apply below_drew1 | refine below_set ?_ GE789.out | refine below_set ?_ GE790.out | refine below_set ?_ GE791.out) | exact HB.out)⟩⟩
  case round =>
    clear H'
    try clear p2
    try clear c5
    try clear p6
    try clear c7
    try clear c8
    try clear hcz9_0
    try clear hfz9_0
    obtain ⟨x9_1, x791000_1, x791001_1, x791002_1, x791003_1, x791004_1, x791005_1, x791006_1, x791007_1, x791008_1, x791009_1, rfl, HA, HK1, BK789, BK790, BK791, HB⟩ := hrel
    cases gk with
    | zero => exact absurd HA.out (by simp [impl_Poset_promoted.l0])
    | succ k1 =>
      have H := HA.out
      clear HA
      simp only [impl_Poset_promoted.l0] at H
      by_cases c11 : x9_1 < (wrap64 (t792 - 1))
      · rw [if_pos c11] at H
        have c11b0 : decide (x9_1 < (wrap64 (t792 - 1))) = true := decide_eq_true c11
        clear c11
        replace H := Option.bind_eq_some_iff.mp H
        obtain ⟨⟨t793, t794, t795, t796, t797, t798, t799, t800, t801, t802⟩, A120, H⟩ := H
        replace H : (impl_Poset_promoted.l0 k1 (wrap64 (t792 - 1)) (wrap64 (x9_1 + 1)) l0_0 t793 t794 t795 t796 t797 t798 t799 t800 t801 t802) = some (r1, r2, r3, r4, r5, r6, r7, r8, r9, r10) := H
        have A12 := Aside0.mk A120
        clear A120
        have H' := Aside0.mk H
        clear H
        have hnb13 := NB789_790.out
        have hnc13 := NB790_789.out
        have hnb14 := NB789_791.out
        have hnc14 := NB791_789.out
        have hcz15_0 : wr.cell? ⟨gb789, 0, none⟩ = some (.slice A0_0 l0_0.length c0_0) := (blk_cell BK789.out 0).trans rfl
        have hfz15_0 := blk_frozen BK789.out 0
        have hnb16 := NB790_791.out
        have hnc16 := NB791_790.out
        have hcz17_0 : wr.cell? ⟨gb790, 0, none⟩ = some (.int .i64 x791000_1) := (blk_cell BK790.out 0).trans rfl
        have hcz17_1 : wr.cell? ⟨gb790, 1, none⟩ = some (.int .i64 x791001_1) := (blk_cell BK790.out 1).trans rfl
        have hcz17_2 : wr.cell? ⟨gb790, 2, none⟩ = some (.int .i64 x791002_1) := (blk_cell BK790.out 2).trans rfl
        have hcz17_3 : wr.cell? ⟨gb790, 3, none⟩ = some (.int .i64 x791003_1) := (blk_cell BK790.out 3).trans rfl
        have hcz17_4 : wr.cell? ⟨gb790, 4, none⟩ = some (.int .i64 x791004_1) := (blk_cell BK790.out 4).trans rfl
        have hcz17_5 : wr.cell? ⟨gb790, 5, none⟩ = some (.int .i64 x791005_1) := (blk_cell BK790.out 5).trans rfl
        have hcz17_6 : wr.cell? ⟨gb790, 6, none⟩ = some (.int .i64 x791006_1) := (blk_cell BK790.out 6).trans rfl
        have hcz17_7 : wr.cell? ⟨gb790, 7, none⟩ = some (.int .i64 x791007_1) := (blk_cell BK790.out 7).trans rfl
        have hcz17_8 : wr.cell? ⟨gb790, 8, none⟩ = some (.int .i64 x791008_1) := (blk_cell BK790.out 8).trans rfl
        have hcz17_9 : wr.cell? ⟨gb790, 9, none⟩ = some (.int .i64 x791009_1) := (blk_cell BK790.out 9).trans rfl
        have hfz17_0 := blk_frozen BK790.out 0
        have hfz17_1 := blk_frozen BK790.out 1
        have hfz17_2 := blk_frozen BK790.out 2
        have hfz17_3 := blk_frozen BK790.out 3
        have hfz17_4 := blk_frozen BK790.out 4
        have hfz17_5 := blk_frozen BK790.out 5
        have hfz17_6 := blk_frozen BK790.out 6
        have hfz17_7 := blk_frozen BK790.out 7
        have hfz17_8 := blk_frozen BK790.out 8
        have hfz17_9 := blk_frozen BK790.out 9
        go_wp2_with (first | ((with_reducible refine gate_callee (f := 59) rfl ?_); refine goesL_ (some 15) rfl rfl Try.func59 (by kernel_rfl) rfl #[.agg #[.slice A0_0 l0_0.length c0_0], .agg #[.int .i64 x791000_1, .int .i64 x791001_1, .int .i64 x791002_1, .int .i64 x791003_1, .int .i64 x791004_1, .int .i64 x791005_1, .int .i64 x791006_1, .int .i64 x791007_1, .int .i64 x791008_1, .int .i64 x791009_1], .int .i64 x9_1] rfl (by (try simp only [List.map_toArray, List.map_cons, List.map_nil]); first | done | rfl | (simp only [List.length_drop, List.length_take]; rfl)) ?_; (with_reducible refine (impl_Poset_exchange.calls _ _ l0_0 x791000_1 x791001_1 x791002_1 x791003_1 x791004_1 x791005_1 x791006_1 x791007_1 x791008_1 x791009_1 x9_1 t793 t794 t795 t796 t797 t798 t799 t800 t801 t802 _ ?side1 ?side2 A12.out).mono ?_); (case side1 => repeat (first | exact (Kd.C_below HR0_0.out HB.out) | (with_reducible refine Kd.C_alloc ?_ _) | (with_reducible refine Kd.C_drewN ?_ _) | (with_reducible refine Kd.C_drew ?_))); (case side2 => exact HC0_0.out); rintro e w18 ⟨rfl, hb⟩; refine ⟨_, rfl, ?_⟩; have n0_ := Aside0.mk (blk_below (g := gb789) (o := .cells #[.slice A0_0 l0_0.length c0_0] 28 (0, 0)) (by (with_reducible repeat (first | refine blk_drewN ?_ _ | refine blk_drew ?_ | refine blk_alloc ?_ _)); exact BK789.out) hb); have n1_ := Aside0.mk (blk_below (g := gb790) (o := .cells #[.int .i64 x791000_1, .int .i64 x791001_1, .int .i64 x791002_1, .int .i64 x791003_1, .int .i64 x791004_1, .int .i64 x791005_1, .int .i64 x791006_1, .int .i64 x791007_1, .int .i64 x791008_1, .int .i64 x791009_1] 58 (0, 0)) (by (with_reducible repeat (first | refine blk_drewN ?_ _ | refine blk_drew ?_ | refine blk_alloc ?_ _)); exact BK790.out) hb); have n2_ := Aside0.mk (blk_below (g := gb791) (o := .cells #[.int .i64 0, .int .i64 0, .int .i64 0, .int .i64 0, .int .i64 0, .int .i64 0, .int .i64 0, .int .i64 0, .int .i64 0, .int .i64 0] 58 (0, 0)) (by (with_reducible repeat (first | refine blk_drewN ?_ _ | refine blk_drew ?_ | refine blk_alloc ?_ _)); exact BK791.out) hb); have n3_ := Aside0.mk (below_step (by repeat (first | (with_reducible first | exact HB.out | apply below_alloc | apply pw_below_drewN | apply below_drew1 | refine below_set ?_ GE789.out | refine below_set ?_ GE790.out | refine below_set ?_ GE791.out) | exact HB.out)) hb); clear BK789; clear BK790; clear BK791; clear HB; have BK789 := n0_; have BK790 := n1_; have BK791 := n2_; have HB := n3_; clear n0_ n1_ n2_ n3_; (try clear hb); (try clear hb2); (try clear hk); (try clear hi); have hcz19_0 : w18.cell? ⟨gb790, 0, none⟩ = some (.int .i64 x791000_1) := (blk_cell BK790.out 0).trans rfl; have hcz19_1 : w18.cell? ⟨gb790, 1, none⟩ = some (.int .i64 x791001_1) := (blk_cell BK790.out 1).trans rfl; have hcz19_2 : w18.cell? ⟨gb790, 2, none⟩ = some (.int .i64 x791002_1) := (blk_cell BK790.out 2).trans rfl; have hcz19_3 : w18.cell? ⟨gb790, 3, none⟩ = some (.int .i64 x791003_1) := (blk_cell BK790.out 3).trans rfl; have hcz19_4 : w18.cell? ⟨gb790, 4, none⟩ = some (.int .i64 x791004_1) := (blk_cell BK790.out 4).trans rfl; have hcz19_5 : w18.cell? ⟨gb790, 5, none⟩ = some (.int .i64 x791005_1) := (blk_cell BK790.out 5).trans rfl; have hcz19_6 : w18.cell? ⟨gb790, 6, none⟩ = some (.int .i64 x791006_1) := (blk_cell BK790.out 6).trans rfl; have hcz19_7 : w18.cell? ⟨gb790, 7, none⟩ = some (.int .i64 x791007_1) := (blk_cell BK790.out 7).trans rfl; have hcz19_8 : w18.cell? ⟨gb790, 8, none⟩ = some (.int .i64 x791008_1) := (blk_cell BK790.out 8).trans rfl; have hcz19_9 : w18.cell? ⟨gb790, 9, none⟩ = some (.int .i64 x791009_1) := (blk_cell BK790.out 9).trans rfl; have hfz19_0 := blk_frozen BK790.out 0; have hfz19_1 := blk_frozen BK790.out 1; have hfz19_2 := blk_frozen BK790.out 2; have hfz19_3 := blk_frozen BK790.out 3; have hfz19_4 := blk_frozen BK790.out 4; have hfz19_5 := blk_frozen BK790.out 5; have hfz19_6 := blk_frozen BK790.out 6; have hfz19_7 := blk_frozen BK790.out 7; have hfz19_8 := blk_frozen BK790.out 8; have hfz19_9 := blk_frozen BK790.out 9))
        go_roundg k1
        case measure => have := HK1.out; omega
        case rel => exact ⟨(wrap64 (x9_1 + 1)), (t793), (t794), (t795), (t796), (t797), (t798), (t799), (t800), (t801), (t802), (by first | rfl | (simp; done) | (simp [*]; done)), H', ⟨by have := HK1.out; omega⟩, ⟨by (with_reducible repeat (first | refine blk_drewN ?_ _ | refine blk_drew ?_ | refine blk_alloc ?_ _)); refine blk_far ?_ NB789_790.out _; (with_reducible repeat (first | refine blk_drewN ?_ _ | refine blk_drew ?_ | refine blk_alloc ?_ _)); refine blk_far ?_ NB789_790.out _; (with_reducible repeat (first | refine blk_drewN ?_ _ | refine blk_drew ?_ | refine blk_alloc ?_ _)); refine blk_far ?_ NB789_790.out _; (with_reducible repeat (first | refine blk_drewN ?_ _ | refine blk_drew ?_ | refine blk_alloc ?_ _)); refine blk_far ?_ NB789_790.out _; (with_reducible repeat (first | refine blk_drewN ?_ _ | refine blk_drew ?_ | refine blk_alloc ?_ _)); refine blk_far ?_ NB789_790.out _; (with_reducible repeat (first | refine blk_drewN ?_ _ | refine blk_drew ?_ | refine blk_alloc ?_ _)); refine blk_far ?_ NB789_790.out _; (with_reducible repeat (first | refine blk_drewN ?_ _ | refine blk_drew ?_ | refine blk_alloc ?_ _)); refine blk_far ?_ NB789_790.out _; (with_reducible repeat (first | refine blk_drewN ?_ _ | refine blk_drew ?_ | refine blk_alloc ?_ _)); refine blk_far ?_ NB789_790.out _; (with_reducible repeat (first | refine blk_drewN ?_ _ | refine blk_drew ?_ | refine blk_alloc ?_ _)); refine blk_far ?_ NB789_790.out _; (with_reducible repeat (first | refine blk_drewN ?_ _ | refine blk_drew ?_ | refine blk_alloc ?_ _)); refine blk_far ?_ NB789_790.out _; (with_reducible repeat (first | refine blk_drewN ?_ _ | refine blk_drew ?_ | refine blk_alloc ?_ _)); exact BK789.out⟩, ⟨by (with_reducible repeat (first | refine blk_drewN ?_ _ | refine blk_drew ?_ | refine blk_alloc ?_ _)); refine blk_put (cs := #[.int .i64 t793, .int .i64 t794, .int .i64 t795, .int .i64 t796, .int .i64 t797, .int .i64 t798, .int .i64 t799, .int .i64 t800, .int .i64 t801, .int .i64 x791009_1]) ?_ 9 _ rfl; (with_reducible repeat (first | refine blk_drewN ?_ _ | refine blk_drew ?_ | refine blk_alloc ?_ _)); refine blk_put (cs := #[.int .i64 t793, .int .i64 t794, .int .i64 t795, .int .i64 t796, .int .i64 t797, .int .i64 t798, .int .i64 t799, .int .i64 t800, .int .i64 x791008_1, .int .i64 x791009_1]) ?_ 8 _ rfl; (with_reducible repeat (first | refine blk_drewN ?_ _ | refine blk_drew ?_ | refine blk_alloc ?_ _)); refine blk_put (cs := #[.int .i64 t793, .int .i64 t794, .int .i64 t795, .int .i64 t796, .int .i64 t797, .int .i64 t798, .int .i64 t799, .int .i64 x791007_1, .int .i64 x791008_1, .int .i64 x791009_1]) ?_ 7 _ rfl; (with_reducible repeat (first | refine blk_drewN ?_ _ | refine blk_drew ?_ | refine blk_alloc ?_ _)); refine blk_put (cs := #[.int .i64 t793, .int .i64 t794, .int .i64 t795, .int .i64 t796, .int .i64 t797, .int .i64 t798, .int .i64 x791006_1, .int .i64 x791007_1, .int .i64 x791008_1, .int .i64 x791009_1]) ?_ 6 _ rfl; (with_reducible repeat (first | refine blk_drewN ?_ _ | refine blk_drew ?_ | refine blk_alloc ?_ _)); refine blk_put (cs := #[.int .i64 t793, .int .i64 t794, .int .i64 t795, .int .i64 t796, .int .i64 t797, .int .i64 x791005_1, .int .i64 x791006_1, .int .i64 x791007_1, .int .i64 x791008_1, .int .i64 x791009_1]) ?_ 5 _ rfl; (with_reducible repeat (first | refine blk_drewN ?_ _ | refine blk_drew ?_ | refine blk_alloc ?_ _)); refine blk_put (cs := #[.int .i64 t793, .int .i64 t794, .int .i64 t795, .int .i64 t796, .int .i64 x791004_1, .int .i64 x791005_1, .int .i64 x791006_1, .int .i64 x791007_1, .int .i64 x791008_1, .int .i64 x791009_1]) ?_ 4 _ rfl; (with_reducible repeat (first | refine blk_drewN ?_ _ | refine blk_drew ?_ | refine blk_alloc ?_ _)); refine blk_put (cs := #[.int .i64 t793, .int .i64 t794, .int .i64 t795, .int .i64 x791003_1, .int .i64 x791004_1, .int .i64 x791005_1, .int .i64 x791006_1, .int .i64 x791007_1, .int .i64 x791008_1, .int .i64 x791009_1]) ?_ 3 _ rfl; (with_reducible repeat (first | refine blk_drewN ?_ _ | refine blk_drew ?_ | refine blk_alloc ?_ _)); refine blk_put (cs := #[.int .i64 t793, .int .i64 t794, .int .i64 x791002_1, .int .i64 x791003_1, .int .i64 x791004_1, .int .i64 x791005_1, .int .i64 x791006_1, .int .i64 x791007_1, .int .i64 x791008_1, .int .i64 x791009_1]) ?_ 2 _ rfl; (with_reducible repeat (first | refine blk_drewN ?_ _ | refine blk_drew ?_ | refine blk_alloc ?_ _)); refine blk_put (cs := #[.int .i64 t793, .int .i64 x791001_1, .int .i64 x791002_1, .int .i64 x791003_1, .int .i64 x791004_1, .int .i64 x791005_1, .int .i64 x791006_1, .int .i64 x791007_1, .int .i64 x791008_1, .int .i64 x791009_1]) ?_ 1 _ rfl; (with_reducible repeat (first | refine blk_drewN ?_ _ | refine blk_drew ?_ | refine blk_alloc ?_ _)); refine blk_put (cs := #[.int .i64 x791000_1, .int .i64 x791001_1, .int .i64 x791002_1, .int .i64 x791003_1, .int .i64 x791004_1, .int .i64 x791005_1, .int .i64 x791006_1, .int .i64 x791007_1, .int .i64 x791008_1, .int .i64 x791009_1]) ?_ 0 _ rfl; (with_reducible repeat (first | refine blk_drewN ?_ _ | refine blk_drew ?_ | refine blk_alloc ?_ _)); exact BK790.out⟩, ⟨by (with_reducible repeat (first | refine blk_drewN ?_ _ | refine blk_drew ?_ | refine blk_alloc ?_ _)); refine blk_far ?_ NB791_790.out _; (with_reducible repeat (first | refine blk_drewN ?_ _ | refine blk_drew ?_ | refine blk_alloc ?_ _)); refine blk_far ?_ NB791_790.out _; (with_reducible repeat (first | refine blk_drewN ?_ _ | refine blk_drew ?_ | refine blk_alloc ?_ _)); refine blk_far ?_ NB791_790.out _; (with_reducible repeat (first | refine blk_drewN ?_ _ | refine blk_drew ?_ | refine blk_alloc ?_ _)); refine blk_far ?_ NB791_790.out _; (with_reducible repeat (first | refine blk_drewN ?_ _ | refine blk_drew ?_ | refine blk_alloc ?_ _)); refine blk_far ?_ NB791_790.out _; (with_reducible repeat (first | refine blk_drewN ?_ _ | refine blk_drew ?_ | refine blk_alloc ?_ _)); refine blk_far ?_ NB791_790.out _; (with_reducible repeat (first | refine blk_drewN ?_ _ | refine blk_drew ?_ | refine blk_alloc ?_ _)); refine blk_far ?_ NB791_790.out _; (with_reducible repeat (first | refine blk_drewN ?_ _ | refine blk_drew ?_ | refine blk_alloc ?_ _)); refine blk_far ?_ NB791_790.out _; (with_reducible repeat (first | refine blk_drewN ?_ _ | refine blk_drew ?_ | refine blk_alloc ?_ _)); refine blk_far ?_ NB791_790.out _; (with_reducible repeat (first | refine blk_drewN ?_ _ | refine blk_drew ?_ | refine blk_alloc ?_ _)); refine blk_far ?_ NB791_790.out _; (with_reducible repeat (first | refine blk_drewN ?_ _ | refine blk_drew ?_ | refine blk_alloc ?_ _)); exact BK791.out⟩, ⟨by repeat (first | (with_reducible first | exact HB.out | apply below_alloc | apply pw_below_drewN | apply below_drew1 | refine below_set ?_ GE789.out | refine below_set ?_ GE790.out | refine below_set ?_ GE791.out) | exact HB.out)⟩⟩
      · rw [if_neg c11] at H
        have c11b0 : decide (x9_1 < (wrap64 (t792 - 1))) = false := decide_eq_false c11
        clear c11
        simp only [Option.some.injEq, Prod.mk.injEq] at H
        obtain ⟨rfl, rfl, rfl, rfl, rfl, rfl, rfl, rfl, rfl, rfl⟩ := H
        have hnb20 := NB790_789.out
        have hnc20 := NB789_790.out
        have hnb21 := NB790_791.out
        have hnc21 := NB791_790.out
        have hcz22_0 : wr.cell? ⟨gb790, 0, none⟩ = some (.int .i64 x791000_1) := (blk_cell BK790.out 0).trans rfl
        have hcz22_1 : wr.cell? ⟨gb790, 1, none⟩ = some (.int .i64 x791001_1) := (blk_cell BK790.out 1).trans rfl
        have hcz22_2 : wr.cell? ⟨gb790, 2, none⟩ = some (.int .i64 x791002_1) := (blk_cell BK790.out 2).trans rfl
        have hcz22_3 : wr.cell? ⟨gb790, 3, none⟩ = some (.int .i64 x791003_1) := (blk_cell BK790.out 3).trans rfl
        have hcz22_4 : wr.cell? ⟨gb790, 4, none⟩ = some (.int .i64 x791004_1) := (blk_cell BK790.out 4).trans rfl
        have hcz22_5 : wr.cell? ⟨gb790, 5, none⟩ = some (.int .i64 x791005_1) := (blk_cell BK790.out 5).trans rfl
        have hcz22_6 : wr.cell? ⟨gb790, 6, none⟩ = some (.int .i64 x791006_1) := (blk_cell BK790.out 6).trans rfl
        have hcz22_7 : wr.cell? ⟨gb790, 7, none⟩ = some (.int .i64 x791007_1) := (blk_cell BK790.out 7).trans rfl
        have hcz22_8 : wr.cell? ⟨gb790, 8, none⟩ = some (.int .i64 x791008_1) := (blk_cell BK790.out 8).trans rfl
        have hcz22_9 : wr.cell? ⟨gb790, 9, none⟩ = some (.int .i64 x791009_1) := (blk_cell BK790.out 9).trans rfl
        have hfz22_0 := blk_frozen BK790.out 0
        have hfz22_1 := blk_frozen BK790.out 1
        have hfz22_2 := blk_frozen BK790.out 2
        have hfz22_3 := blk_frozen BK790.out 3
        have hfz22_4 := blk_frozen BK790.out 4
        have hfz22_5 := blk_frozen BK790.out 5
        have hfz22_6 := blk_frozen BK790.out 6
        have hfz22_7 := blk_frozen BK790.out 7
        have hfz22_8 := blk_frozen BK790.out 8
        have hfz22_9 := blk_frozen BK790.out 9
        have hnb23 := NB791_789.out
        have hnc23 := NB789_791.out
        have hcz24_0 : wr.cell? ⟨gb791, 0, none⟩ = some (.int .i64 0) := (blk_cell BK791.out 0).trans rfl
        have hcz24_1 : wr.cell? ⟨gb791, 1, none⟩ = some (.int .i64 0) := (blk_cell BK791.out 1).trans rfl
        have hcz24_2 : wr.cell? ⟨gb791, 2, none⟩ = some (.int .i64 0) := (blk_cell BK791.out 2).trans rfl
        have hcz24_3 : wr.cell? ⟨gb791, 3, none⟩ = some (.int .i64 0) := (blk_cell BK791.out 3).trans rfl
        have hcz24_4 : wr.cell? ⟨gb791, 4, none⟩ = some (.int .i64 0) := (blk_cell BK791.out 4).trans rfl
        have hcz24_5 : wr.cell? ⟨gb791, 5, none⟩ = some (.int .i64 0) := (blk_cell BK791.out 5).trans rfl
        have hcz24_6 : wr.cell? ⟨gb791, 6, none⟩ = some (.int .i64 0) := (blk_cell BK791.out 6).trans rfl
        have hcz24_7 : wr.cell? ⟨gb791, 7, none⟩ = some (.int .i64 0) := (blk_cell BK791.out 7).trans rfl
        have hcz24_8 : wr.cell? ⟨gb791, 8, none⟩ = some (.int .i64 0) := (blk_cell BK791.out 8).trans rfl
        have hcz24_9 : wr.cell? ⟨gb791, 9, none⟩ = some (.int .i64 0) := (blk_cell BK791.out 9).trans rfl
        have hfz24_0 := blk_frozen BK791.out 0
        have hfz24_1 := blk_frozen BK791.out 1
        have hfz24_2 := blk_frozen BK791.out 2
        have hfz24_3 := blk_frozen BK791.out 3
        have hfz24_4 := blk_frozen BK791.out 4
        have hfz24_5 := blk_frozen BK791.out 5
        have hfz24_6 := blk_frozen BK791.out 6
        have hfz24_7 := blk_frozen BK791.out 7
        have hfz24_8 := blk_frozen BK791.out 8
        have hfz24_9 := blk_frozen BK791.out 9
        go_wp2
        refine bodyPost_ret (results_cell_row rfl _ _ gb791 58 #[.int .i64 x791000_1, .int .i64 x791001_1, .int .i64 x791002_1, .int .i64 x791003_1, .int .i64 x791004_1, .int .i64 x791005_1, .int .i64 x791006_1, .int .i64 x791007_1, .int .i64 x791008_1, .int .i64 x791009_1] (0, 0) _ rfl (by (with_reducible repeat (first | refine blk_drewN ?_ _ | refine blk_drew ?_ | refine blk_alloc ?_ _)); refine blk_put (cs := #[.int .i64 x791000_1, .int .i64 x791001_1, .int .i64 x791002_1, .int .i64 x791003_1, .int .i64 x791004_1, .int .i64 x791005_1, .int .i64 x791006_1, .int .i64 x791007_1, .int .i64 x791008_1, .int .i64 0]) ?_ 9 _ rfl; (with_reducible repeat (first | refine blk_drewN ?_ _ | refine blk_drew ?_ | refine blk_alloc ?_ _)); refine blk_put (cs := #[.int .i64 x791000_1, .int .i64 x791001_1, .int .i64 x791002_1, .int .i64 x791003_1, .int .i64 x791004_1, .int .i64 x791005_1, .int .i64 x791006_1, .int .i64 x791007_1, .int .i64 0, .int .i64 0]) ?_ 8 _ rfl; (with_reducible repeat (first | refine blk_drewN ?_ _ | refine blk_drew ?_ | refine blk_alloc ?_ _)); refine blk_put (cs := #[.int .i64 x791000_1, .int .i64 x791001_1, .int .i64 x791002_1, .int .i64 x791003_1, .int .i64 x791004_1, .int .i64 x791005_1, .int .i64 x791006_1, .int .i64 0, .int .i64 0, .int .i64 0]) ?_ 7 _ rfl; (with_reducible repeat (first | refine blk_drewN ?_ _ | refine blk_drew ?_ | refine blk_alloc ?_ _)); refine blk_put (cs := #[.int .i64 x791000_1, .int .i64 x791001_1, .int .i64 x791002_1, .int .i64 x791003_1, .int .i64 x791004_1, .int .i64 x791005_1, .int .i64 0, .int .i64 0, .int .i64 0, .int .i64 0]) ?_ 6 _ rfl; (with_reducible repeat (first | refine blk_drewN ?_ _ | refine blk_drew ?_ | refine blk_alloc ?_ _)); refine blk_put (cs := #[.int .i64 x791000_1, .int .i64 x791001_1, .int .i64 x791002_1, .int .i64 x791003_1, .int .i64 x791004_1, .int .i64 0, .int .i64 0, .int .i64 0, .int .i64 0, .int .i64 0]) ?_ 5 _ rfl; (with_reducible repeat (first | refine blk_drewN ?_ _ | refine blk_drew ?_ | refine blk_alloc ?_ _)); refine blk_put (cs := #[.int .i64 x791000_1, .int .i64 x791001_1, .int .i64 x791002_1, .int .i64 x791003_1, .int .i64 0, .int .i64 0, .int .i64 0, .int .i64 0, .int .i64 0, .int .i64 0]) ?_ 4 _ rfl; (with_reducible repeat (first | refine blk_drewN ?_ _ | refine blk_drew ?_ | refine blk_alloc ?_ _)); refine blk_put (cs := #[.int .i64 x791000_1, .int .i64 x791001_1, .int .i64 x791002_1, .int .i64 0, .int .i64 0, .int .i64 0, .int .i64 0, .int .i64 0, .int .i64 0, .int .i64 0]) ?_ 3 _ rfl; (with_reducible repeat (first | refine blk_drewN ?_ _ | refine blk_drew ?_ | refine blk_alloc ?_ _)); refine blk_put (cs := #[.int .i64 x791000_1, .int .i64 x791001_1, .int .i64 0, .int .i64 0, .int .i64 0, .int .i64 0, .int .i64 0, .int .i64 0, .int .i64 0, .int .i64 0]) ?_ 2 _ rfl; (with_reducible repeat (first | refine blk_drewN ?_ _ | refine blk_drew ?_ | refine blk_alloc ?_ _)); refine blk_put (cs := #[.int .i64 x791000_1, .int .i64 0, .int .i64 0, .int .i64 0, .int .i64 0, .int .i64 0, .int .i64 0, .int .i64 0, .int .i64 0, .int .i64 0]) ?_ 1 _ rfl; (with_reducible repeat (first | refine blk_drewN ?_ _ | refine blk_drew ?_ | refine blk_alloc ?_ _)); refine blk_put (cs := #[.int .i64 0, .int .i64 0, .int .i64 0, .int .i64 0, .int .i64 0, .int .i64 0, .int .i64 0, .int .i64 0, .int .i64 0, .int .i64 0]) ?_ 0 _ rfl; (with_reducible repeat (first | refine blk_drewN ?_ _ | refine blk_drew ?_ | refine blk_alloc ?_ _)); exact BK791.out) Try.underlying58 rfl (by kernel_rfl)) rfl ?_
        exact ⟨by first | rfl | (simp [errW_none, errW_some] <;> rfl) | (simp [*, errW_none, errW_some] <;> rfl), by repeat (first | (with_reducible first | exact HB.out | apply below_alloc | apply pw_below_drewN | apply below_drew1 | refine below_set ?_ GE789.out | refine below_set ?_ GE790.out | refine below_set ?_ GE791.out) | exact HB.out)⟩

end Go.Proofs.Ytjahclncpgllmaa.F
end

section
namespace Go.Proofs.Ytjahclncpgllmaa.F
open Go.RowKit Go.Proofs.YtjahclncpgllmaaW.PrintWords Go.Proofs.YtjahclncpgllmaaW.PrintLast Go.Proofs.YtjahclncpgllmaaW.PrintMore
attribute [local go_sem] max2_int min2_int max_two min_two max_three min_three max_four min_four
set_option linter.unusedVariables false
set_option linter.unusedSimpArgs false

/-! ### impl_Poset_unpromoted: function 86 -/
def impl_Poset_unpromoted.l0 : Nat → Int → List Int → Int → Int → Int → Int → Int → Int → Int → Int → Int → Int → Option (Int × Int × Int × Int × Int × Int × Int × Int × Int × Int)
  | 0, _, _, _, _, _, _, _, _, _, _, _, _ => none
  | k + 1, x5, x804000, x805000, x805001, x805002, x805003, x805004, x805005, x805006, x805007, x805008, x805009 => if x5 ≥ 0 then ((impl_Poset_exchange.f x804000 x805000 x805001 x805002 x805003 x805004 x805005 x805006 x805007 x805008 x805009 x5).bind fun bt807 => (impl_Poset_unpromoted.l0 k (wrap64 (x5 - 1)) x804000 bt807.1 bt807.2.1 bt807.2.2.1 bt807.2.2.2.1 bt807.2.2.2.2.1 bt807.2.2.2.2.2.1 bt807.2.2.2.2.2.2.1 bt807.2.2.2.2.2.2.2.1 bt807.2.2.2.2.2.2.2.2.1 bt807.2.2.2.2.2.2.2.2.2)) else (some (x805000, x805001, x805002, x805003, x805004, x805005, x805006, x805007, x805008, x805009))
def impl_Poset_unpromoted.f (k : Nat) (l0_0 : List Int) (a1_0 : Int) (a1_1 : Int) (a1_2 : Int) (a1_3 : Int) (a1_4 : Int) (a1_5 : Int) (a1_6 : Int) (a1_7 : Int) (a1_8 : Int) (a1_9 : Int) : Option (Int × Int × Int × Int × Int × Int × Int × Int × Int × Int) := (impl_Poset_n.f l0_0).bind fun t806 => (impl_Poset_unpromoted.l0 k (wrap64 (t806 - 2)) l0_0 a1_0 a1_1 a1_2 a1_3 a1_4 a1_5 a1_6 a1_7 a1_8 a1_9)
theorem impl_Poset_unpromoted.mono_l : ∀ k, (∀ y0 y1 y2 y3 y4 y5 y6 y7 y8 y9 y10 y11, LeO (impl_Poset_unpromoted.l0 k y0 y1 y2 y3 y4 y5 y6 y7 y8 y9 y10 y11) (impl_Poset_unpromoted.l0 (k + 1) y0 y1 y2 y3 y4 y5 y6 y7 y8 y9 y10 y11))
  | 0 => fun _ _ _ _ _ _ _ _ _ _ _ _ r h => by simp [impl_Poset_unpromoted.l0] at h
  | k + 1 => by
    have ih0 := impl_Poset_unpromoted.mono_l k
    · intro y0 y1 y2 y3 y4 y5 y6 y7 y8 y9 y10 y11
      unfold impl_Poset_unpromoted.l0
      repeat' first
      | (with_reducible exact ih0 _ _ _ _ _ _ _ _ _ _ _ _)
      | (with_reducible exact LeO.refl _)
      | (with_reducible exact LeO.none _)
      | (with_reducible refine LeO.ite ?_ ?_)
      | (with_reducible refine LeO.bind ?_ (fun _ => ?_))
      | exact ih0 _ _ _ _ _ _ _ _ _ _ _ _
      | exact LeO.none _
      | refine LeO.ite ?_ ?_
      | refine LeO.bind ?_ (fun _ => ?_)
theorem impl_Poset_unpromoted.mono : ∀ a0 a1 a2 a3 a4 a5 a6 a7 a8 a9 a10 k, LeO (impl_Poset_unpromoted.f k a0 a1 a2 a3 a4 a5 a6 a7 a8 a9 a10) (impl_Poset_unpromoted.f (k + 1) a0 a1 a2 a3 a4 a5 a6 a7 a8 a9 a10) := by
  intro a0 a1 a2 a3 a4 a5 a6 a7 a8 a9 a10 k
  have ih0 := impl_Poset_unpromoted.mono_l k
  unfold impl_Poset_unpromoted.f
  repeat' first
      | (with_reducible exact ih0 _ _ _ _ _ _ _ _ _ _ _ _)
      | (with_reducible exact LeO.refl _)
      | (with_reducible exact LeO.none _)
      | (with_reducible refine LeO.ite ?_ ?_)
      | (with_reducible refine LeO.bind ?_ (fun _ => ?_))
      | exact ih0 _ _ _ _ _ _ _ _ _ _ _ _
      | exact LeO.none _
      | refine LeO.ite ?_ ?_
      | refine LeO.bind ?_ (fun _ => ?_)
set_option maxHeartbeats 8000000 in
set_option maxRecDepth 100000 in
theorem impl_Poset_unpromoted.calls (k : Nat) (A0_0 : Option Addr) (c0_0 : Nat) (l0_0 : List Int) (a1_0 : Int) (a1_1 : Int) (a1_2 : Int) (a1_3 : Int) (a1_4 : Int) (a1_5 : Int) (a1_6 : Int) (a1_7 : Int) (a1_8 : Int) (a1_9 : Int) (r1 : Int) (r2 : Int) (r3 : Int) (r4 : Int) (r5 : Int) (r6 : Int) (r7 : Int) (r8 : Int) (r9 : Int) (r10 : Int) (w : World) (hr0_0 : Kd.C (Kd.int .i64) w A0_0 l0_0.length l0_0) (hc0_0 : l0_0.length ≤ c0_0) (h : impl_Poset_unpromoted.f k l0_0 a1_0 a1_1 a1_2 a1_3 a1_4 a1_5 a1_6 a1_7 a1_8 a1_9 = some (r1, r2, r3, r4, r5, r6, r7, r8, r9, r10)) :
    Calls Try.prog 86 #[.agg #[.slice A0_0 l0_0.length c0_0], .agg #[.int .i64 a1_0, .int .i64 a1_1, .int .i64 a1_2, .int .i64 a1_3, .int .i64 a1_4, .int .i64 a1_5, .int .i64 a1_6, .int .i64 a1_7, .int .i64 a1_8, .int .i64 a1_9]] w fun e w' => e = .returned (.agg #[.int .i64 r1, .int .i64 r2, .int .i64 r3, .int .i64 r4, .int .i64 r5, .int .i64 r6, .int .i64 r7, .int .i64 r8, .int .i64 r9, .int .i64 r10]) ∧ Below w.heap.size w w' := by
  have hu28 := Try.underlying28
  have hu58 := Try.underlying58
  have HR0_0 := Aside0.mk hr0_0
  have HC0_0 := Aside0.mk hc0_0
  clear hr0_0 hc0_0
  have HB := Aside0.mk (Below.refl w.heap.size w)
  have H : ((impl_Poset_n.f l0_0).bind fun t806 => (impl_Poset_unpromoted.l0 k (wrap64 (t806 - 2)) l0_0 a1_0 a1_1 a1_2 a1_3 a1_4 a1_5 a1_6 a1_7 a1_8 a1_9)) = some (r1, r2, r3, r4, r5, r6, r7, r8, r9, r10) := h
  clear h
  replace H := Option.bind_eq_some_iff.mp H
  obtain ⟨t806, A30, H⟩ := H
  replace H : (impl_Poset_unpromoted.l0 k (wrap64 (t806 - 2)) l0_0 a1_0 a1_1 a1_2 a1_3 a1_4 a1_5 a1_6 a1_7 a1_8 a1_9) = some (r1, r2, r3, r4, r5, r6, r7, r8, r9, r10) := H
  have A3 := Aside0.mk A30
  clear A30
  have H' := Aside0.mk H
  clear H
  go_enter Try.func86, Try.ntmps86
  go_wp2_with (first | ((with_reducible refine gate_dst (N := 2) rfl ?_); refine box_event ?hg (N := 2) ?hd (cs := #[.slice A0_0 l0_0.length c0_0]) (t := 28) ?hr ?_; (case hd => rfl); (case hg => rfl); (case hr => first | (go_simp; done) | (go_simp; rfl)); intro gb803 hg w4 hbox hb; have n0_ := Aside0.mk (below_step (by repeat (first | (with_reducible first | exact HB.out | apply below_alloc | apply pw_below_drewN | apply below_drew1) | exact HB.out)) hb); have n1_ := Aside0.mk (hbox); have n2_ := Aside0.mk ((by rw [hg]; exact (below_size (by repeat (first | (with_reducible first | exact HB.out | apply below_alloc | apply pw_below_drewN | apply below_drew1) | exact HB.out))) : w.heap.size ≤ gb803)); have n3_ := Aside0.mk ((by rw [hg]; exact (below_size (by repeat (first | (with_reducible first | exact HB.out | apply below_alloc | apply pw_below_drewN | apply below_drew1) | exact HB.out))) : w.heap.size ≤ gb803)); clear HB; have HB := n0_; have BK803 := n1_; have GW803 := n2_; have GE803 := n3_; clear n0_ n1_ n2_ n3_; clear hb hbox hg) | ((with_reducible refine gate_dst (N := 3) rfl ?_); refine box_event ?hg (N := 3) ?hd (cs := #[.int .i64 a1_0, .int .i64 a1_1, .int .i64 a1_2, .int .i64 a1_3, .int .i64 a1_4, .int .i64 a1_5, .int .i64 a1_6, .int .i64 a1_7, .int .i64 a1_8, .int .i64 a1_9]) (t := 58) ?hr ?_; (case hd => rfl); (case hg => rfl); (case hr => first | (go_simp; done) | (go_simp; rfl)); intro gb804 hg w5 hbox hb; have n0_ := Aside0.mk (blk_below (g := gb803) (o := .cells #[.slice A0_0 l0_0.length c0_0] 28 (0, 0)) (by (with_reducible repeat (first | refine blk_drewN ?_ _ | refine blk_drew ?_ | refine blk_alloc ?_ _)); exact BK803.out) hb); have n1_ := Aside0.mk (below_step (by repeat (first | (with_reducible first | exact HB.out | apply below_alloc | apply pw_below_drewN | apply below_drew1 | refine below_set ?_ GE803.out) | exact HB.out)) hb); have n2_ := Aside0.mk (hbox); have n3_ := Aside0.mk ((by rw [hg]; exact (below_size (by repeat (first | (with_reducible first | exact HB.out | apply below_alloc | apply pw_below_drewN | apply below_drew1 | refine below_set ?_ GE803.out) | exact HB.out))) : w.heap.size ≤ gb804)); have n4_ := Aside0.mk ((by rw [hg]; exact (below_size (by repeat (first | (with_reducible first | exact HB.out | apply below_alloc | apply pw_below_drewN | apply below_drew1 | refine below_set ?_ GE803.out) | exact HB.out))) : w.heap.size ≤ gb804)); have n5_ := Aside0.mk ((by rw [hg]; exact Nat.ne_of_lt (blk_lt (g := gb803) (o := .cells #[.slice A0_0 l0_0.length c0_0] 28 (0, 0)) (by (with_reducible repeat (first | refine blk_drewN ?_ _ | refine blk_drew ?_ | refine blk_alloc ?_ _)); exact BK803.out)) : gb803 ≠ gb804)); have n6_ := Aside0.mk ((by rw [hg]; exact Nat.ne_of_gt (blk_lt (g := gb803) (o := .cells #[.slice A0_0 l0_0.length c0_0] 28 (0, 0)) (by (with_reducible repeat (first | refine blk_drewN ?_ _ | refine blk_drew ?_ | refine blk_alloc ?_ _)); exact BK803.out)) : gb804 ≠ gb803)); clear BK803; clear HB; have BK803 := n0_; have HB := n1_; have BK804 := n2_; have GW804 := n3_; have GE804 := n4_; have NB803_804 := n5_; have NB804_803 := n6_; clear n0_ n1_ n2_ n3_ n4_ n5_ n6_; clear hb hbox hg) | ((with_reducible refine gate_dst (N := 4) rfl ?_); refine box_event ?hg (N := 4) ?hd (cs := #[.int .i64 0, .int .i64 0, .int .i64 0, .int .i64 0, .int .i64 0, .int .i64 0, .int .i64 0, .int .i64 0, .int .i64 0, .int .i64 0]) (t := 58) ?hr ?_; (case hd => rfl); (case hg => rfl); (case hr => first | (go_simp; done) | (go_simp; rfl)); intro gb805 hg w6 hbox hb; have n0_ := Aside0.mk (blk_below (g := gb803) (o := .cells #[.slice A0_0 l0_0.length c0_0] 28 (0, 0)) (by (with_reducible repeat (first | refine blk_drewN ?_ _ | refine blk_drew ?_ | refine blk_alloc ?_ _)); exact BK803.out) hb); have n1_ := Aside0.mk (blk_below (g := gb804) (o := .cells #[.int .i64 a1_0, .int .i64 a1_1, .int .i64 a1_2, .int .i64 a1_3, .int .i64 a1_4, .int .i64 a1_5, .int .i64 a1_6, .int .i64 a1_7, .int .i64 a1_8, .int .i64 a1_9] 58 (0, 0)) (by (with_reducible repeat (first | refine blk_drewN ?_ _ | refine blk_drew ?_ | refine blk_alloc ?_ _)); exact BK804.out) hb); have n2_ := Aside0.mk (below_step (by repeat (first | (with_reducible first | exact HB.out | apply below_alloc | apply pw_below_drewN | apply below_drew1 | refine below_set ?_ GE803.out | refine below_set ?_ GE804.out) | exact HB.out)) hb); have n3_ := Aside0.mk (hbox); have n4_ := Aside0.mk ((by rw [hg]; exact (below_size (by repeat (first | (with_reducible first | exact HB.out | apply below_alloc | apply pw_below_drewN | apply below_drew1 | refine below_set ?_ GE803.out | refine below_set ?_ GE804.out) | exact HB.out))) : w.heap.size ≤ gb805)); have n5_ := Aside0.mk ((by rw [hg]; exact (below_size (by repeat (first | (with_reducible first | exact HB.out | apply below_alloc | apply pw_below_drewN | apply below_drew1 | refine below_set ?_ GE803.out | refine below_set ?_ GE804.out) | exact HB.out))) : w.heap.size ≤ gb805)); have n6_ := Aside0.mk ((by rw [hg]; exact Nat.ne_of_lt (blk_lt (g := gb803) (o := .cells #[.slice A0_0 l0_0.length c0_0] 28 (0, 0)) (by (with_reducible repeat (first | refine blk_drewN ?_ _ | refine blk_drew ?_ | refine blk_alloc ?_ _)); exact BK803.out)) : gb803 ≠ gb805)); have n7_ := Aside0.mk ((by rw [hg]; exact Nat.ne_of_gt (blk_lt (g := gb803) (o := .cells #[.slice A0_0 l0_0.length c0_0] 28 (0, 0)) (by (with_reducible repeat (first | refine blk_drewN ?_ _ | refine blk_drew ?_ | refine blk_alloc ?_ _)); exact BK803.out)) : gb805 ≠ gb803)); have n8_ := Aside0.mk ((by rw [hg]; exact Nat.ne_of_lt (blk_lt (g := gb804) (o := .cells #[.int .i64 a1_0, .int .i64 a1_1, .int .i64 a1_2, .int .i64 a1_3, .int .i64 a1_4, .int .i64 a1_5, .int .i64 a1_6, .int .i64 a1_7, .int .i64 a1_8, .int .i64 a1_9] 58 (0, 0)) (by (with_reducible repeat (first | refine blk_drewN ?_ _ | refine blk_drew ?_ | refine blk_alloc ?_ _)); exact BK804.out)) : gb804 ≠ gb805)); have n9_ := Aside0.mk ((by rw [hg]; exact Nat.ne_of_gt (blk_lt (g := gb804) (o := .cells #[.int .i64 a1_0, .int .i64 a1_1, .int .i64 a1_2, .int .i64 a1_3, .int .i64 a1_4, .int .i64 a1_5, .int .i64 a1_6, .int .i64 a1_7, .int .i64 a1_8, .int .i64 a1_9] 58 (0, 0)) (by (with_reducible repeat (first | refine blk_drewN ?_ _ | refine blk_drew ?_ | refine blk_alloc ?_ _)); exact BK804.out)) : gb805 ≠ gb804)); clear BK803; clear BK804; clear HB; have BK803 := n0_; have BK804 := n1_; have HB := n2_; have BK805 := n3_; have GW805 := n4_; have GE805 := n5_; have NB803_805 := n6_; have NB805_803 := n7_; have NB804_805 := n8_; have NB805_804 := n9_; clear n0_ n1_ n2_ n3_ n4_ n5_ n6_ n7_ n8_ n9_; clear hb hbox hg; have hnb7 := NB803_804.out; have hnc7 := NB804_803.out; have hnb8 := NB803_805.out; have hnc8 := NB805_803.out; have hcz9_0 : w6.cell? ⟨gb803, 0, none⟩ = some (.slice A0_0 l0_0.length c0_0) := (blk_cell BK803.out 0).trans rfl; have hfz9_0 := blk_frozen BK803.out 0) | ((with_reducible refine gate_callee (f := 58) rfl ?_); refine goesL_ (some 7) rfl rfl Try.func58 (by kernel_rfl) rfl #[.agg #[.slice A0_0 l0_0.length c0_0]] rfl (by (try simp only [List.map_toArray, List.map_cons, List.map_nil]); first | done | rfl | (simp only [List.length_drop, List.length_take]; rfl)) ?_; (with_reducible refine (impl_Poset_n.calls _ _ l0_0 t806 _ ?side1 ?side2 A3.out).mono ?_); (case side1 => repeat (first | exact (Kd.C_below HR0_0.out HB.out) | (with_reducible refine Kd.C_alloc ?_ _) | (with_reducible refine Kd.C_drewN ?_ _) | (with_reducible refine Kd.C_drew ?_))); (case side2 => exact HC0_0.out); rintro e w10 ⟨rfl, hb⟩; refine ⟨_, rfl, ?_⟩; have n0_ := Aside0.mk (blk_below (g := gb803) (o := .cells #[.slice A0_0 l0_0.length c0_0] 28 (0, 0)) (by (with_reducible repeat (first | refine blk_drewN ?_ _ | refine blk_drew ?_ | refine blk_alloc ?_ _)); exact BK803.out) hb); have n1_ := Aside0.mk (blk_below (g := gb804) (o := .cells #[.int .i64 a1_0, .int .i64 a1_1, .int .i64 a1_2, .int .i64 a1_3, .int .i64 a1_4, .int .i64 a1_5, .int .i64 a1_6, .int .i64 a1_7, .int .i64 a1_8, .int .i64 a1_9] 58 (0, 0)) (by (with_reducible repeat (first | refine blk_drewN ?_ _ | refine blk_drew ?_ | refine blk_alloc ?_ _)); exact BK804.out) hb); have n2_ := Aside0.mk (blk_below (g := gb805) (o := .cells #[.int .i64 0, .int .i64 0, .int .i64 0, .int .i64 0, .int .i64 0, .int .i64 0, .int .i64 0, .int .i64 0, .int .i64 0, .int .i64 0] 58 (0, 0)) (by (with_reducible repeat (first | refine blk_drewN ?_ _ | refine blk_drew ?_ | refine blk_alloc ?_ _)); exact BK805.out) hb); have n3_ := Aside0.mk (below_step (by repeat (first | (with_reducible first | exact HB.out | apply below_alloc | apply pw_below_drewN | apply below_drew1 | refine below_set ?_ GE803.out | refine below_set ?_ GE804.out | refine below_set ?_ GE805.out) | exact HB.out)) hb); clear BK803; clear BK804; clear BK805; clear HB; have BK803 := n0_; have BK804 := n1_; have BK805 := n2_; have HB := n3_; clear n0_ n1_ n2_ n3_; (try clear hb); (try clear hb2); (try clear hk); (try clear hi)))
  go_loopg [5] k (fun kq v5 w' => ∃ (x5_1 : Int) (x805000_1 : Int) (x805001_1 : Int) (x805002_1 : Int) (x805003_1 : Int) (x805004_1 : Int) (x805005_1 : Int) (x805006_1 : Int) (x805007_1 : Int) (x805008_1 : Int) (x805009_1 : Int), v5 = .int .i64 x5_1 ∧ Aside0 (impl_Poset_unpromoted.l0 kq x5_1 l0_0 x805000_1 x805001_1 x805002_1 x805003_1 x805004_1 x805005_1 x805006_1 x805007_1 x805008_1 x805009_1 = some (r1, r2, r3, r4, r5, r6, r7, r8, r9, r10)) ∧ Aside0 (kq ≤ k) ∧ Aside0 (w'.heap[gb803]? = some (.cells #[(.slice A0_0 l0_0.length c0_0)] 28 (0, 0))) ∧ Aside0 (w'.heap[gb804]? = some (.cells #[.int .i64 x805000_1, .int .i64 x805001_1, .int .i64 x805002_1, .int .i64 x805003_1, .int .i64 x805004_1, .int .i64 x805005_1, .int .i64 x805006_1, .int .i64 x805007_1, .int .i64 x805008_1, .int .i64 x805009_1] 58 (0, 0))) ∧ Aside0 (w'.heap[gb805]? = some (.cells #[.int .i64 0, .int .i64 0, .int .i64 0, .int .i64 0, .int .i64 0, .int .i64 0, .int .i64 0, .int .i64 0, .int .i64 0, .int .i64 0] 58 (0, 0))) ∧ Aside0 (Below w.heap.size w w'))
  case atStart => exact ⟨(wrap64 (t806 - 2)), (a1_0), (a1_1), (a1_2), (a1_3), (a1_4), (a1_5), (a1_6), (a1_7), (a1_8), (a1_9), (by first | rfl | (simp; done) | (simp [*]; done)), H', ⟨Nat.le_refl _⟩, ⟨by (with_reducible repeat (first | refine blk_drewN ?_ _ | refine blk_drew ?_ | refine blk_alloc ?_ _)); exact BK803.out⟩, ⟨by (with_reducible repeat (first | refine blk_drewN ?_ _ | refine blk_drew ?_ | refine blk_alloc ?_ _)); exact BK804.out⟩, ⟨by (with_reducible repeat (first | refine blk_drewN ?_ _ | refine blk_drew ?_ | refine blk_alloc ?_ _)); exact BK805.out⟩, ⟨by repeat (first | (with_reducible first | exact HB.out | apply below_alloc | apply pw_below_drewN | apply below_drew1 | refine below_set ?_ GE803.out | refine below_set ?_ GE804.out | refine below_set ?_ GE805.out) | exact HB.out)⟩⟩
  case round =>
    clear H'
    try clear p2
    try clear c5
    try clear p6
    try clear c7
    try clear c8
    try clear hcz9_0
    try clear hfz9_0
    obtain ⟨x5_1, x805000_1, x805001_1, x805002_1, x805003_1, x805004_1, x805005_1, x805006_1, x805007_1, x805008_1, x805009_1, rfl, HA, HK1, BK803, BK804, BK805, HB⟩ := hrel
    cases gk with
    | zero => exact absurd HA.out (by simp [impl_Poset_unpromoted.l0])
    | succ k1 =>
      have H := HA.out
      clear HA
      simp only [impl_Poset_unpromoted.l0] at H
      by_cases c11 : x5_1 ≥ 0
      · rw [if_pos c11] at H
        have c11b0 : decide (0 ≤ x5_1) = true := decide_eq_true c11
        clear c11
        replace H := Option.bind_eq_some_iff.mp H
        obtain ⟨⟨t807, t808, t809, t810, t811, t812, t813, t814, t815, t816⟩, A120, H⟩ := H
        replace H : (impl_Poset_unpromoted.l0 k1 (wrap64 (x5_1 - 1)) l0_0 t807 t808 t809 t810 t811 t812 t813 t814 t815 t816) = some (r1, r2, r3, r4, r5, r6, r7, r8, r9, r10) := H
        have A12 := Aside0.mk A120
        clear A120
        have H' := Aside0.mk H
        clear H
        have hnb13 := NB803_804.out
        have hnc13 := NB804_803.out
        have hnb14 := NB803_805.out
        have hnc14 := NB805_803.out
        have hcz15_0 : wr.cell? ⟨gb803, 0, none⟩ = some (.slice A0_0 l0_0.length c0_0) := (blk_cell BK803.out 0).trans rfl
        have hfz15_0 := blk_frozen BK803.out 0
        have hnb16 := NB804_805.out
        have hnc16 := NB805_804.out
        have hcz17_0 : wr.cell? ⟨gb804, 0, none⟩ = some (.int .i64 x805000_1) := (blk_cell BK804.out 0).trans rfl
        have hcz17_1 : wr.cell? ⟨gb804, 1, none⟩ = some (.int .i64 x805001_1) := (blk_cell BK804.out 1).trans rfl
        have hcz17_2 : wr.cell? ⟨gb804, 2, none⟩ = some (.int .i64 x805002_1) := (blk_cell BK804.out 2).trans rfl
        have hcz17_3 : wr.cell? ⟨gb804, 3, none⟩ = some (.int .i64 x805003_1) := (blk_cell BK804.out 3).trans rfl
        have hcz17_4 : wr.cell? ⟨gb804, 4, none⟩ = some (.int .i64 x805004_1) := (blk_cell BK804.out 4).trans rfl
        have hcz17_5 : wr.cell? ⟨gb804, 5, none⟩ = some (.int .i64 x805005_1) := (blk_cell BK804.out 5).trans rfl
        have hcz17_6 : wr.cell? ⟨gb804, 6, none⟩ = some (.int .i64 x805006_1) := (blk_cell BK804.out 6).trans rfl
        have hcz17_7 : wr.cell? ⟨gb804, 7, none⟩ = some (.int .i64 x805007_1) := (blk_cell BK804.out 7).trans rfl
        have hcz17_8 : wr.cell? ⟨gb804, 8, none⟩ = some (.int .i64 x805008_1) := (blk_cell BK804.out 8).trans rfl
        have hcz17_9 : wr.cell? ⟨gb804, 9, none⟩ = some (.int .i64 x805009_1) := (blk_cell BK804.out 9).trans rfl
        have hfz17_0 := blk_frozen BK804.out 0
        have hfz17_1 := blk_frozen BK804.out 1
        have hfz17_2 := blk_frozen BK804.out 2
        have hfz17_3 := blk_frozen BK804.out 3
        have hfz17_4 := blk_frozen BK804.out 4
        have hfz17_5 := blk_frozen BK804.out 5
        have hfz17_6 := blk_frozen BK804.out 6
        have hfz17_7 := blk_frozen BK804.out 7
        have hfz17_8 := blk_frozen BK804.out 8
        have hfz17_9 := blk_frozen BK804.out 9
        go_wp2_with (first | ((with_reducible refine gate_callee (f := 59) rfl ?_); refine goesL_ (some 16) rfl rfl Try.func59 (by kernel_rfl) rfl #[.agg #[.slice A0_0 l0_0.length c0_0], .agg #[.int .i64 x805000_1, .int .i64 x805001_1, .int .i64 x805002_1, .int .i64 x805003_1, .int .i64 x805004_1, .int .i64 x805005_1, .int .i64 x805006_1, .int .i64 x805007_1, .int .i64 x805008_1, .int .i64 x805009_1], .int .i64 x5_1] rfl (by (try simp only [List.map_toArray, List.map_cons, List.map_nil]); first | done | rfl | (simp only [List.length_drop, List.length_take]; rfl)) ?_; (with_reducible refine (impl_Poset_exchange.calls _ _ l0_0 x805000_1 x805001_1 x805002_1 x805003_1 x805004_1 x805005_1 x805006_1 x805007_1 x805008_1 x805009_1 x5_1 t807 t808 t809 t810 t811 t812 t813 t814 t815 t816 _ ?side1 ?side2 A12.out).mono ?_); (case side1 => repeat (first | exact (Kd.C_below HR0_0.out HB.out) | (with_reducible refine Kd.C_alloc ?_ _) | (with_reducible refine Kd.C_drewN ?_ _) | (with_reducible refine Kd.C_drew ?_))); (case side2 => exact HC0_0.out); rintro e w18 ⟨rfl, hb⟩; refine ⟨_, rfl, ?_⟩; have n0_ := Aside0.mk (blk_below (g := gb803) (o := .cells #[.slice A0_0 l0_0.length c0_0] 28 (0, 0)) (by (with_reducible repeat (first | refine blk_drewN ?_ _ | refine blk_drew ?_ | refine blk_alloc ?_ _)); exact BK803.out) hb); have n1_ := Aside0.mk (blk_below (g := gb804) (o := .cells #[.int .i64 x805000_1, .int .i64 x805001_1, .int .i64 x805002_1, .int .i64 x805003_1, .int .i64 x805004_1, .int .i64 x805005_1, .int .i64 x805006_1, .int .i64 x805007_1, .int .i64 x805008_1, .int .i64 x805009_1] 58 (0, 0)) (by (with_reducible repeat (first | refine blk_drewN ?_ _ | refine blk_drew ?_ | refine blk_alloc ?_ _)); exact BK804.out) hb); have n2_ := Aside0.mk (blk_below (g := gb805) (o := .cells #[.int .i64 0, .int .i64 0, .int .i64 0, .int .i64 0, .int .i64 0, .int .i64 0, .int .i64 0, .int .i64 0, .int .i64 0, .int .i64 0] 58 (0, 0)) (by (with_reducible repeat (first | refine blk_drewN ?_ _ | refine blk_drew ?_ | refine blk_alloc ?_ _)); exact BK805.out) hb); have n3_ := Aside0.mk (below_step (by repeat (first | (with_reducible first | exact HB.out | apply below_alloc | apply pw_below_drewN | apply below_drew1 | refine below_set ?_ GE803.out | refine below_set ?_ GE804.out | refine below_set ?_ GE805.out) | exact HB.out)) hb); clear BK803; clear BK804; clear BK805; clear HB; have BK803 := n0_; have BK804 := n1_; have BK805 := n2_; have HB := n3_; clear n0_ n1_ n2_ n3_; (try clear hb); (try clear hb2); (try clear hk); (try clear hi); have hcz19_0 : w18.cell? ⟨gb804, 0, none⟩ = some (.int .i64 x805000_1) := (blk_cell BK804.out 0).trans rfl; have hcz19_1 : w18.cell? ⟨gb804, 1, none⟩ = some (.int .i64 x805001_1) := (blk_cell BK804.out 1).trans rfl; have hcz19_2 : w18.cell? ⟨gb804, 2, none⟩ = some (.int .i64 x805002_1) := (blk_cell BK804.out 2).trans rfl; have hcz19_3 : w18.cell? ⟨gb804, 3, none⟩ = some (.int .i64 x805003_1) := (blk_cell BK804.out 3).trans rfl; have hcz19_4 : w18.cell? ⟨gb804, 4, none⟩ = some (.int .i64 x805004_1) := (blk_cell BK804.out 4).trans rfl; have hcz19_5 : w18.cell? ⟨gb804, 5, none⟩ = some (.int .i64 x805005_1) := (blk_cell BK804.out 5).trans rfl; have hcz19_6 : w18.cell? ⟨gb804, 6, none⟩ = some (.int .i64 x805006_1) := (blk_cell BK804.out 6).trans rfl; have hcz19_7 : w18.cell? ⟨gb804, 7, none⟩ = some (.int .i64 x805007_1) := (blk_cell BK804.out 7).trans rfl; have hcz19_8 : w18.cell? ⟨gb804, 8, none⟩ = some (.int .i64 x805008_1) := (blk_cell BK804.out 8).trans rfl; have hcz19_9 : w18.cell? ⟨gb804, 9, none⟩ = some (.int .i64 x805009_1) := (blk_cell BK804.out 9).trans rfl; have hfz19_0 := blk_frozen BK804.out 0; have hfz19_1 := blk_frozen BK804.out 1; have hfz19_2 := blk_frozen BK804.out 2; have hfz19_3 := blk_frozen BK804.out 3; have hfz19_4 := blk_frozen BK804.out 4; have hfz19_5 := blk_frozen BK804.out 5; have hfz19_6 := blk_frozen BK804.out 6; have hfz19_7 := blk_frozen BK804.out 7; have hfz19_8 := blk_frozen BK804.out 8; have hfz19_9 := blk_frozen BK804.out 9))
        go_roundg k1
        case measure => have := HK1.out; omega
        case rel => exact ⟨(wrap64 (x5_1 - 1)), (t807), (t808), (t809), (t810), (t811), (t812), (t813), (t814), (t815), (t816), (by first | rfl | (simp; done) | (simp [*]; done)), H', ⟨by have := HK1.out; omega⟩, ⟨by (with_reducible repeat (first | refine blk_drewN ?_ _ | refine blk_drew ?_ | refine blk_alloc ?_ _)); refine blk_far ?_ NB803_804.out _; (with_reducible repeat (first | refine blk_drewN ?_ _ | refine blk_drew ?_ | refine blk_alloc ?_ _)); refine blk_far ?_ NB803_804.out _; (with_reducible repeat (first | refine blk_drewN ?_ _ | refine blk_drew ?_ | refine blk_alloc ?_ _)); refine blk_far ?_ NB803_804.out _; (with_reducible repeat (first | refine blk_drewN ?_ _ | refine blk_drew ?_ | refine blk_alloc ?_ _)); refine blk_far ?_ NB803_804.out _; (with_reducible repeat (first | refine blk_drewN ?_ _ | refine blk_drew ?_ | refine blk_alloc ?_ _)); refine blk_far ?_ NB803_804.out _; (with_reducible repeat (first | refine blk_drewN ?_ _ | refine blk_drew ?_ | refine blk_alloc ?_ _)); refine blk_far ?_ NB803_804.out _; (with_reducible repeat (first | refine blk_drewN ?_ _ | refine blk_drew ?_ | refine blk_alloc ?_ _)); refine blk_far ?_ NB803_804.out _; (with_reducible repeat (first | refine blk_drewN ?_ _ | refine blk_drew ?_ | refine blk_alloc ?_ _)); refine blk_far ?_ NB803_804.out _; (with_reducible repeat (first | refine blk_drewN ?_ _ | refine blk_drew ?_ | refine blk_alloc ?_ _)); refine blk_far ?_ NB803_804.out _; (with_reducible repeat (first | refine blk_drewN ?_ _ | refine blk_drew ?_ | refine blk_alloc ?_ _)); refine blk_far ?_ NB803_804.out _; (with_reducible repeat (first | refine blk_drewN ?_ _ | refine blk_drew ?_ | refine blk_alloc ?_ _)); exact BK803.out⟩, ⟨by (with_reducible repeat (first | refine blk_drewN ?_ _ | refine blk_drew ?_ | refine blk_alloc ?_ _)); refine blk_put (cs := #[.int .i64 t807, .int .i64 t808, .int .i64 t809, .int .i64 t810, .int .i64 t811, .int .i64 t812, .int .i64 t813, .int .i64 t814, .int .i64 t815, .int .i64 x805009_1]) ?_ 9 _ rfl; (with_reducible repeat (first | refine blk_drewN ?_ _ | refine blk_drew ?_ | refine blk_alloc ?_ _)); refine blk_put (cs := #[.int .i64 t807, .int .i64 t808, .int .i64 t809, .int .i64 t810, .int .i64 t811, .int .i64 t812, .int .i64 t813, .int .i64 t814, .int .i64 x805008_1, .int .i64 x805009_1]) ?_ 8 _ rfl; (with_reducible repeat (first | refine blk_drewN ?_ _ | refine blk_drew ?_ | refine blk_alloc ?_ _)); refine blk_put (cs := #[.int .i64 t807, .int .i64 t808, .int .i64 t809, .int .i64 t810, .int .i64 t811, .int .i64 t812, .int .i64 t813, .int .i64 x805007_1, .int .i64 x805008_1, .int .i64 x805009_1]) ?_ 7 _ rfl; (with_reducible repeat (first | refine blk_drewN ?_ _ | refine blk_drew ?_ | refine blk_alloc ?_ _)); refine blk_put (cs := #[.int .i64 t807, .int .i64 t808, .int .i64 t809, .int .i64 t810, .int .i64 t811, .int .i64 t812, .int .i64 x805006_1, .int .i64 x805007_1, .int .i64 x805008_1, .int .i64 x805009_1]) ?_ 6 _ rfl; (with_reducible repeat (first | refine blk_drewN ?_ _ | refine blk_drew ?_ | refine blk_alloc ?_ _)); refine blk_put (cs := #[.int .i64 t807, .int .i64 t808, .int .i64 t809, .int .i64 t810, .int .i64 t811, .int .i64 x805005_1, .int .i64 x805006_1, .int .i64 x805007_1, .int .i64 x805008_1, .int .i64 x805009_1]) ?_ 5 _ rfl; (with_reducible repeat (first | refine blk_drewN ?_ _ | refine blk_drew ?_ | refine blk_alloc ?_ _)); refine blk_put (cs := #[.int .i64 t807, .int .i64 t808, .int .i64 t809, .int .i64 t810, .int .i64 x805004_1, .int .i64 x805005_1, .int .i64 x805006_1, .int .i64 x805007_1, .int .i64 x805008_1, .int .i64 x805009_1]) ?_ 4 _ rfl; (with_reducible repeat (first | refine blk_drewN ?_ _ | refine blk_drew ?_ | refine blk_alloc ?_ _)); refine blk_put (cs := #[.int .i64 t807, .int .i64 t808, .int .i64 t809, .int .i64 x805003_1, .int .i64 x805004_1, .int .i64 x805005_1, .int .i64 x805006_1, .int .i64 x805007_1, .int .i64 x805008_1, .int .i64 x805009_1]) ?_ 3 _ rfl; (with_reducible repeat (first | refine blk_drewN ?_ _ | refine blk_drew ?_ | refine blk_alloc ?_ _)); refine blk_put (cs := #[.int .i64 t807, .int .i64 t808, .int .i64 x805002_1, .int .i64 x805003_1, .int .i64 x805004_1, .int .i64 x805005_1, .int .i64 x805006_1, .int .i64 x805007_1, .int .i64 x805008_1, .int .i64 x805009_1]) ?_ 2 _ rfl; (with_reducible repeat (first | refine blk_drewN ?_ _ | refine blk_drew ?_ | refine blk_alloc ?_ _)); refine blk_put (cs := #[.int .i64 t807, .int .i64 x805001_1, .int .i64 x805002_1, .int .i64 x805003_1, .int .i64 x805004_1, .int .i64 x805005_1, .int .i64 x805006_1, .int .i64 x805007_1, .int .i64 x805008_1, .int .i64 x805009_1]) ?_ 1 _ rfl; (with_reducible repeat (first | refine blk_drewN ?_ _ | refine blk_drew ?_ | refine blk_alloc ?_ _)); refine blk_put (cs := #[.int .i64 x805000_1, .int .i64 x805001_1, .int .i64 x805002_1, .int .i64 x805003_1, .int .i64 x805004_1, .int .i64 x805005_1, .int .i64 x805006_1, .int .i64 x805007_1, .int .i64 x805008_1, .int .i64 x805009_1]) ?_ 0 _ rfl; (with_reducible repeat (first | refine blk_drewN ?_ _ | refine blk_drew ?_ | refine blk_alloc ?_ _)); exact BK804.out⟩, ⟨by (with_reducible repeat (first | refine blk_drewN ?_ _ | refine blk_drew ?_ | refine blk_alloc ?_ _)); refine blk_far ?_ NB805_804.out _; (with_reducible repeat (first | refine blk_drewN ?_ _ | refine blk_drew ?_ | refine blk_alloc ?_ _)); refine blk_far ?_ NB805_804.out _; (with_reducible repeat (first | refine blk_drewN ?_ _ | refine blk_drew ?_ | refine blk_alloc ?_ _)); refine blk_far ?_ NB805_804.out _; (with_reducible repeat (first | refine blk_drewN ?_ _ | refine blk_drew ?_ | refine blk_alloc ?_ _)); refine blk_far ?_ NB805_804.out _; (with_reducible repeat (first | refine blk_drewN ?_ _ | refine blk_drew ?_ | refine blk_alloc ?_ _)); refine blk_far ?_ NB805_804.out _; (with_reducible repeat (first | refine blk_drewN ?_ _ | refine blk_drew ?_ | refine blk_alloc ?_ _)); refine blk_far ?_ NB805_804.out _; (with_reducible repeat (first | refine blk_drewN ?_ _ | refine blk_drew ?_ | refine blk_alloc ?_ _)); refine blk_far ?_ NB805_804.out _; (with_reducible repeat (first | refine blk_drewN ?_ _ | refine blk_drew ?_ | refine blk_alloc ?_ _)); refine blk_far ?_ NB805_804.out _; (with_reducible repeat (first | refine blk_drewN ?_ _ | refine blk_drew ?_ | refine blk_alloc ?_ _)); refine blk_far ?_ NB805_804.out _; (with_reducible repeat (first | refine blk_drewN ?_ _ | refine blk_drew ?_ | refine blk_alloc ?_ _)); refine blk_far ?_ NB805_804.out _; (with_reducible repeat (first | refine blk_drewN ?_ _ | refine blk_drew ?_ | refine blk_alloc ?_ _)); exact BK805.out⟩, ⟨by repeat (first | (with_reducible first | exact HB.out | apply below_alloc | apply pw_below_drewN | apply below_drew1 | refine below_set ?_ GE803.out | refine below_set ?_ GE804.out | refine below_set ?_ GE805.out) | exact HB.out)⟩⟩
      · rw [if_neg c11] at H
        have c11b0 : decide (0 ≤ x5_1) = false := decide_eq_false c11
        clear c11
        simp only [Option.some.injEq, Prod.mk.injEq] at H
        obtain ⟨rfl, rfl, rfl, rfl, rfl, rfl, rfl, rfl, rfl, rfl⟩ := H
        have hnb20 := NB804_803.out
        have hnc20 := NB803_804.out
        have hnb21 := NB804_805.out
        have hnc21 := NB805_804.out
        have hcz22_0 : wr.cell? ⟨gb804, 0, none⟩ = some (.int .i64 x805000_1) := (blk_cell BK804.out 0).trans rfl
        have hcz22_1 : wr.cell? ⟨gb804, 1, none⟩ = some (.int .i64 x805001_1) := (blk_cell BK804.out 1).trans rfl
        have hcz22_2 : wr.cell? ⟨gb804, 2, none⟩ = some (.int .i64 x805002_1) := (blk_cell BK804.out 2).trans rfl
        have hcz22_3 : wr.cell? ⟨gb804, 3, none⟩ = some (.int .i64 x805003_1) := (blk_cell BK804.out 3).trans rfl
        have hcz22_4 : wr.cell? ⟨gb804, 4, none⟩ = some (.int .i64 x805004_1) := (blk_cell BK804.out 4).trans rfl
        have hcz22_5 : wr.cell? ⟨gb804, 5, none⟩ = some (.int .i64 x805005_1) := (blk_cell BK804.out 5).trans rfl
        have hcz22_6 : wr.cell? ⟨gb804, 6, none⟩ = some (.int .i64 x805006_1) := (blk_cell BK804.out 6).trans rfl
        have hcz22_7 : wr.cell? ⟨gb804, 7, none⟩ = some (.int .i64 x805007_1) := (blk_cell BK804.out 7).trans rfl
        have hcz22_8 : wr.cell? ⟨gb804, 8, none⟩ = some (.int .i64 x805008_1) := (blk_cell BK804.out 8).trans rfl
        have hcz22_9 : wr.cell? ⟨gb804, 9, none⟩ = some (.int .i64 x805009_1) := (blk_cell BK804.out 9).trans rfl
        have hfz22_0 := blk_frozen BK804.out 0
        have hfz22_1 := blk_frozen BK804.out 1
        have hfz22_2 := blk_frozen BK804.out 2
        have hfz22_3 := blk_frozen BK804.out 3
        have hfz22_4 := blk_frozen BK804.out 4
        have hfz22_5 := blk_frozen BK804.out 5
        have hfz22_6 := blk_frozen BK804.out 6
        have hfz22_7 := blk_frozen BK804.out 7
        have hfz22_8 := blk_frozen BK804.out 8
        have hfz22_9 := blk_frozen BK804.out 9
        have hnb23 := NB805_803.out
        have hnc23 := NB803_805.out
        have hcz24_0 : wr.cell? ⟨gb805, 0, none⟩ = some (.int .i64 0) := (blk_cell BK805.out 0).trans rfl
        have hcz24_1 : wr.cell? ⟨gb805, 1, none⟩ = some (.int .i64 0) := (blk_cell BK805.out 1).trans rfl
        have hcz24_2 : wr.cell? ⟨gb805, 2, none⟩ = some (.int .i64 0) := (blk_cell BK805.out 2).trans rfl
        have hcz24_3 : wr.cell? ⟨gb805, 3, none⟩ = some (.int .i64 0) := (blk_cell BK805.out 3).trans rfl
        have hcz24_4 : wr.cell? ⟨gb805, 4, none⟩ = some (.int .i64 0) := (blk_cell BK805.out 4).trans rfl
        have hcz24_5 : wr.cell? ⟨gb805, 5, none⟩ = some (.int .i64 0) := (blk_cell BK805.out 5).trans rfl
        have hcz24_6 : wr.cell? ⟨gb805, 6, none⟩ = some (.int .i64 0) := (blk_cell BK805.out 6).trans rfl
        have hcz24_7 : wr.cell? ⟨gb805, 7, none⟩ = some (.int .i64 0) := (blk_cell BK805.out 7).trans rfl
        have hcz24_8 : wr.cell? ⟨gb805, 8, none⟩ = some (.int .i64 0) := (blk_cell BK805.out 8).trans rfl
        have hcz24_9 : wr.cell? ⟨gb805, 9, none⟩ = some (.int .i64 0) := (blk_cell BK805.out 9).trans rfl
        have hfz24_0 := blk_frozen BK805.out 0
        have hfz24_1 := blk_frozen BK805.out 1
        have hfz24_2 := blk_frozen BK805.out 2
        have hfz24_3 := blk_frozen BK805.out 3
        have hfz24_4 := blk_frozen BK805.out 4
        have hfz24_5 := blk_frozen BK805.out 5
        have hfz24_6 := blk_frozen BK805.out 6
        have hfz24_7 := blk_frozen BK805.out 7
        have hfz24_8 := blk_frozen BK805.out 8
        have hfz24_9 := blk_frozen BK805.out 9
        go_wp2
        refine bodyPost_ret (results_cell_row rfl _ _ gb805 58 #[.int .i64 x805000_1, .int .i64 x805001_1, .int .i64 x805002_1, .int .i64 x805003_1, .int .i64 x805004_1, .int .i64 x805005_1, .int .i64 x805006_1, .int .i64 x805007_1, .int .i64 x805008_1, .int .i64 x805009_1] (0, 0) _ rfl (by (with_reducible repeat (first | refine blk_drewN ?_ _ | refine blk_drew ?_ | refine blk_alloc ?_ _)); refine blk_put (cs := #[.int .i64 x805000_1, .int .i64 x805001_1, .int .i64 x805002_1, .int .i64 x805003_1, .int .i64 x805004_1, .int .i64 x805005_1, .int .i64 x805006_1, .int .i64 x805007_1, .int .i64 x805008_1, .int .i64 0]) ?_ 9 _ rfl; (with_reducible repeat (first | refine blk_drewN ?_ _ | refine blk_drew ?_ | refine blk_alloc ?_ _)); refine blk_put (cs := #[.int .i64 x805000_1, .int .i64 x805001_1, .int .i64 x805002_1, .int .i64 x805003_1, .int .i64 x805004_1, .int .i64 x805005_1, .int .i64 x805006_1, .int .i64 x805007_1, .int .i64 0, .int .i64 0]) ?_ 8 _ rfl; (with_reducible repeat (first | refine blk_drewN ?_ _ | refine blk_drew ?_ | refine blk_alloc ?_ _)); refine blk_put (cs := #[.int .i64 x805000_1, .int .i64 x805001_1, .int .i64 x805002_1, .int .i64 x805003_1, .int .i64 x805004_1, .int .i64 x805005_1, .int .i64 x805006_1, .int .i64 0, .int .i64 0, .int .i64 0]) ?_ 7 _ rfl; (with_reducible repeat (first | refine blk_drewN ?_ _ | refine blk_drew ?_ | refine blk_alloc ?_ _)); refine blk_put (cs := #[.int .i64 x805000_1, .int .i64 x805001_1, .int .i64 x805002_1, .int .i64 x805003_1, .int .i64 x805004_1, .int .i64 x805005_1, .int .i64 0, .int .i64 0, .int .i64 0, .int .i64 0]) ?_ 6 _ rfl; (with_reducible repeat (first | refine blk_drewN ?_ _ | refine blk_drew ?_ | refine blk_alloc ?_ _)); refine blk_put (cs := #[.int .i64 x805000_1, .int .i64 x805001_1, .int .i64 x805002_1, .int .i64 x805003_1, .int .i64 x805004_1, .int .i64 0, .int .i64 0, .int .i64 0, .int .i64 0, .int .i64 0]) ?_ 5 _ rfl; (with_reducible repeat (first | refine blk_drewN ?_ _ | refine blk_drew ?_ | refine blk_alloc ?_ _)); refine blk_put (cs := #[.int .i64 x805000_1, .int .i64 x805001_1, .int .i64 x805002_1, .int .i64 x805003_1, .int .i64 0, .int .i64 0, .int .i64 0, .int .i64 0, .int .i64 0, .int .i64 0]) ?_ 4 _ rfl; (with_reducible repeat (first | refine blk_drewN ?_ _ | refine blk_drew ?_ | refine blk_alloc ?_ _)); refine blk_put (cs := #[.int .i64 x805000_1, .int .i64 x805001_1, .int .i64 x805002_1, .int .i64 0, .int .i64 0, .int .i64 0, .int .i64 0, .int .i64 0, .int .i64 0, .int .i64 0]) ?_ 3 _ rfl; (with_reducible repeat (first | refine blk_drewN ?_ _ | refine blk_drew ?_ | refine blk_alloc ?_ _)); refine blk_put (cs := #[.int .i64 x805000_1, .int .i64 x805001_1, .int .i64 0, .int .i64 0, .int .i64 0, .int .i64 0, .int .i64 0, .int .i64 0, .int .i64 0, .int .i64 0]) ?_ 2 _ rfl; (with_reducible repeat (first | refine blk_drewN ?_ _ | refine blk_drew ?_ | refine blk_alloc ?_ _)); refine blk_put (cs := #[.int .i64 x805000_1, .int .i64 0, .int .i64 0, .int .i64 0, .int .i64 0, .int .i64 0, .int .i64 0, .int .i64 0, .int .i64 0, .int .i64 0]) ?_ 1 _ rfl; (with_reducible repeat (first | refine blk_drewN ?_ _ | refine blk_drew ?_ | refine blk_alloc ?_ _)); refine blk_put (cs := #[.int .i64 0, .int .i64 0, .int .i64 0, .int .i64 0, .int .i64 0, .int .i64 0, .int .i64 0, .int .i64 0, .int .i64 0, .int .i64 0]) ?_ 0 _ rfl; (with_reducible repeat (first | refine blk_drewN ?_ _ | refine blk_drew ?_ | refine blk_alloc ?_ _)); exact BK805.out) Try.underlying58 rfl (by kernel_rfl)) rfl ?_
        exact ⟨by first | rfl | (simp [errW_none, errW_some] <;> rfl) | (simp [*, errW_none, errW_some] <;> rfl), by repeat (first | (with_reducible first | exact HB.out | apply below_alloc | apply pw_below_drewN | apply below_drew1 | refine below_set ?_ GE803.out | refine below_set ?_ GE804.out | refine below_set ?_ GE805.out) | exact HB.out)⟩

end Go.Proofs.Ytjahclncpgllmaa.F
end

section
namespace Go.Proofs.Ytjahclncpgllmaa.F
open Go.RowKit Go.Proofs.YtjahclncpgllmaaW.PrintWords Go.Proofs.YtjahclncpgllmaaW.PrintLast Go.Proofs.YtjahclncpgllmaaW.PrintMore
set_option linter.unusedVariables false
set_option linter.unusedSimpArgs false
def impl_line_list.f (a0_0 a0_1 a0_2 a0_3 a0_4 a0_5 a0_6 a0_7 a0_8 a0_9 : Int) (a1 : Int) : Option (List Int) := if 0 ≤ a1 ∧ a1 ≤ 10 then some ([a0_0, a0_1, a0_2, a0_3, a0_4, a0_5, a0_6, a0_7, a0_8, a0_9].take a1.toNat) else none
theorem impl_line_list.sz : (Try.prog.info? 3).map (·.size) = some 1 := by kernel_rfl
theorem impl_line_list.reads {w : World} {g : Nat} {t : TypeId} {a0_0 a0_1 a0_2 a0_3 a0_4 a0_5 a0_6 a0_7 a0_8 a0_9 : Int} (h : w.heap[g]? = some (.cells #[.int .i64 a0_0, .int .i64 a0_1, .int .i64 a0_2, .int .i64 a0_3, .int .i64 a0_4, .int .i64 a0_5, .int .i64 a0_6, .int .i64 a0_7, .int .i64 a0_8, .int .i64 a0_9] t (0, 0))) (n : Nat) (hn : n ≤ 10) :
    Kd.C (Kd.int .i64) w (some ⟨g, 0, none⟩) ([a0_0, a0_1, a0_2, a0_3, a0_4, a0_5, a0_6, a0_7, a0_8, a0_9].take n).length ([a0_0, a0_1, a0_2, a0_3, a0_4, a0_5, a0_6, a0_7, a0_8, a0_9].take n) := by
  refine Kd.C_of_reads (d := (0 : Int)) ⟨rfl, by rw [List.length_take]; simp only [List.length_cons, List.length_nil]; omega, fun _ => ⟨_, rfl, fun j hj => ?_⟩⟩
  rw [List.length_take] at hj
  have hj2 : j < 10 := by simp only [List.length_cons, List.length_nil] at hj; omega
  have hj3 : j < n := by omega
  have e : (Addr.mk g 0 none).add j = ⟨g, j, none⟩ := by unfold Addr.add; split <;> simp_all
  rw [e, blk_cell h j]
  have e2 : ([a0_0, a0_1, a0_2, a0_3, a0_4, a0_5, a0_6, a0_7, a0_8, a0_9].take n).getD j 0 = [a0_0, a0_1, a0_2, a0_3, a0_4, a0_5, a0_6, a0_7, a0_8, a0_9].getD j 0 := by rw [List.getD_eq_getElem?_getD, List.getElem?_take, if_pos hj3, List.getD_eq_getElem?_getD]
  rw [e2]
  match j, hj2 with
  | 0, _ => rfl
  | 1, _ => rfl
  | 2, _ => rfl
  | 3, _ => rfl
  | 4, _ => rfl
  | 5, _ => rfl
  | 6, _ => rfl
  | 7, _ => rfl
  | 8, _ => rfl
  | 9, _ => rfl
  | _ + 10, h => exact absurd h (by omega)
set_option maxHeartbeats 8000000 in
set_option maxRecDepth 100000 in
theorem impl_line_list.calls (a0_0 a0_1 a0_2 a0_3 a0_4 a0_5 a0_6 a0_7 a0_8 a0_9 : Int) (a1 : Int) (r : List Int) (w : World) (h : impl_line_list.f a0_0 a0_1 a0_2 a0_3 a0_4 a0_5 a0_6 a0_7 a0_8 a0_9 a1 = some r) :
    Calls Try.prog 61 #[.agg #[.int .i64 a0_0, .int .i64 a0_1, .int .i64 a0_2, .int .i64 a0_3, .int .i64 a0_4, .int .i64 a0_5, .int .i64 a0_6, .int .i64 a0_7, .int .i64 a0_8, .int .i64 a0_9], .int .i64 a1] w fun e w' => ∃ v0_ : Value, e = .returned (v0_) ∧ Kd.R (Kd.int .i64) 3 w' w.heap.size (fun _ => True) v0_ r ∧ Below w.heap.size w w' := by
  have hu58 := Try.underlying58
  have HB := Aside0.mk (Below.refl w.heap.size w)
  unfold impl_line_list.f at h
  by_cases hl : 0 ≤ a1 ∧ a1 ≤ 10
  rotate_left
  · rw [if_neg hl] at h; cases h
  rw [if_pos hl] at h
  obtain ⟨n, rfl⟩ := Int.eq_ofNat_of_zero_le hl.1
  have hn : n ≤ 10 := by omega
  rw [Int.toNat_natCast] at h
  have HR := Aside0.mk (Option.some.inj h)
  have hlen : ([a0_0, a0_1, a0_2, a0_3, a0_4, a0_5, a0_6, a0_7, a0_8, a0_9].take n).length = n := by rw [List.length_take]; simp only [List.length_cons, List.length_nil]; omega
  have HL := Aside0.mk hlen
  clear h hl hlen
  have hal : Try.prog.arrayLen 58 = 10 := by simp [Program.arrayLen, Try.underlying58]
  have hsl : ∀ (g_ : Nat) (W : World), (Instr.sliceAt 58 (.pointer (some ⟨g_, 0, none⟩)) none (some (.int .i64 (n : Int))) none).run Try.prog W = .ok (.slice (some ⟨g_, 0, none⟩) n 10) W := fun g_ W => by
    rw [run_sliceAt_array_h W 58 ⟨g_, 0, none⟩ (by simp [Program.arrayLen, Program.elem, Try.underlying58]) .i64 (n : Int) (by omega) (by rw [hal]; omega)]
    have hel : Try.prog.elem 58 = 3 := by simp [Program.elem, Try.underlying58]
    have hso : (sizeOf 3).run Try.prog W = .ok 1 W := by
      have hz := impl_line_list.sz
      cases hq : Try.prog.info? 3 with
      | none => rw [hq] at hz; cases hz
      | some i =>
        have hi : i.size = 1 := by rw [hq] at hz; exact Option.some.inj hz
        simp [sizeOf, typeInfo, hq, hi]
    rw [hal, hel, hso]
    show Result.ok (slicedAt ⟨g_, 0, none⟩ 0 n 10 1) W = _
    simp [slicedAt, Addr.add]
  clear hal
  go_enter Try.func61, Try.ntmps61
  go_wp2_with (first | ((with_reducible refine gate_dst (N := 2) rfl ?_); refine box_event ?hg (N := 2) ?hd (cs := #[.int .i64 a0_0, .int .i64 a0_1, .int .i64 a0_2, .int .i64 a0_3, .int .i64 a0_4, .int .i64 a0_5, .int .i64 a0_6, .int .i64 a0_7, .int .i64 a0_8, .int .i64 a0_9]) (t := 58) ?hr ?_; (case hd => rfl); (case hg => rfl); (case hr => first | (go_simp; done) | (go_simp; rfl)); intro g2 hg w2 hbox hb; have BK2 := Aside0.mk hbox; have GE2 := Aside0.mk (show w.heap.size ≤ g2 by omega); have HB2 := Aside0.mk (HB.out.trans hb); clear HB hbox hb hg) | (go_at_call 94; (refine calls_of_args (args' := #[.slice (some ⟨g2, 0, none⟩) ([a0_0, a0_1, a0_2, a0_3, a0_4, a0_5, a0_6, a0_7, a0_8, a0_9].take n).length 10]) (by rw [HL.out]) ?_); (with_reducible refine (slices_Clone_int_int.calls (some ⟨g2, 0, none⟩) 10 ([a0_0, a0_1, a0_2, a0_3, a0_4, a0_5, a0_6, a0_7, a0_8, a0_9].take n) r _ ?s1 ?s2 ?s3).mono ?_); (case s1 => exact impl_line_list.reads BK2.out n hn); (case s2 => rw [HL.out]; exact hn); (case s3 => unfold slices_Clone_int_int.f; rw [if_pos (by rw [HL.out]; omega), HR.out]); rintro e w3 ⟨v, rfl, ho, hb⟩; have HO := Aside0.mk ho; have HB3 := Aside0.mk (HB2.out.trans (Below.mono hb HB2.out.size)); have SZ := Aside0.mk HB2.out.size; clear ho hb HB2))
  go_ret
  exact ⟨_, rfl, Kd.R_lower HO.out SZ.out, HB3.out⟩
end Go.Proofs.Ytjahclncpgllmaa.F
end

section
namespace Go.Proofs.Ytjahclncpgllmaa.F
open Go.RowKit Go.Proofs.YtjahclncpgllmaaW.PrintWords Go.Proofs.YtjahclncpgllmaaW.PrintLast Go.Proofs.YtjahclncpgllmaaW.PrintMore
set_option linter.unusedVariables false
set_option linter.unusedSimpArgs false
def impl_lineOf.f (l0 : List Int) : Option (Int × Int × Int × Int × Int × Int × Int × Int × Int × Int) := if l0.length ≤ 10 then some (l0.getD 0 0, l0.getD 1 0, l0.getD 2 0, l0.getD 3 0, l0.getD 4 0, l0.getD 5 0, l0.getD 6 0, l0.getD 7 0, l0.getD 8 0, l0.getD 9 0) else none
theorem impl_lineOf.sz : (Try.prog.info? 3).map (·.size) = some 1 := by kernel_rfl
theorem impl_lineOf.src {w : World} {A : Option Addr} {l : List Int} (h : Kd.C (Kd.int .i64) w A l.length l) (hp : 0 < l.length) : ∃ ad, A = some ad ∧ ∀ j v, (l.map (Value.int .i64))[j]? = some v → w.cell? (ad.add j) = some v := by
  obtain ⟨ad, e, hc⟩ := (Kd.reads_of_C (d := (0 : Int)) h).2.2 hp
  refine ⟨ad, e, fun j v hv => ?_⟩
  rw [List.getElem?_map] at hv
  rcases Nat.lt_or_ge j l.length with hj | hj
  · rw [hc j hj, List.getD_eq_getElem?_getD, List.getElem?_eq_getElem hj]
    rw [List.getElem?_eq_getElem hj] at hv
    exact hv
  · rw [List.getElem?_eq_none hj] at hv; cases hv
theorem impl_lineOf.one (l : List Int) : ∀ v ∈ l.map (Value.int .i64), v.oneCell' = true := by
  intro v hv
  obtain ⟨x, _, rfl⟩ := List.mem_map.1 hv
  rfl
def impl_lineOf.Is (l : List Int) (r1 r2 r3 r4 r5 r6 r7 r8 r9 r10 : Int) : Prop := (l.getD 0 0, l.getD 1 0, l.getD 2 0, l.getD 3 0, l.getD 4 0, l.getD 5 0, l.getD 6 0, l.getD 7 0, l.getD 8 0, l.getD 9 0) = (r1, r2, r3, r4, r5, r6, r7, r8, r9, r10)
theorem impl_lineOf.put (l : List Int) (h : l.length ≤ 10) : (splice [Value.int .i64 0, Value.int .i64 0, Value.int .i64 0, Value.int .i64 0, Value.int .i64 0, Value.int .i64 0, Value.int .i64 0, Value.int .i64 0, Value.int .i64 0, Value.int .i64 0] 0 (l.map (Value.int .i64))).toArray = #[.int .i64 (l.getD 0 0), .int .i64 (l.getD 1 0), .int .i64 (l.getD 2 0), .int .i64 (l.getD 3 0), .int .i64 (l.getD 4 0), .int .i64 (l.getD 5 0), .int .i64 (l.getD 6 0), .int .i64 (l.getD 7 0), .int .i64 (l.getD 8 0), .int .i64 (l.getD 9 0)] := by
  match l, h with
  | [], _ => rfl
  | x0 :: [], _ => rfl
  | x0 :: x1 :: [], _ => rfl
  | x0 :: x1 :: x2 :: [], _ => rfl
  | x0 :: x1 :: x2 :: x3 :: [], _ => rfl
  | x0 :: x1 :: x2 :: x3 :: x4 :: [], _ => rfl
  | x0 :: x1 :: x2 :: x3 :: x4 :: x5 :: [], _ => rfl
  | x0 :: x1 :: x2 :: x3 :: x4 :: x5 :: x6 :: [], _ => rfl
  | x0 :: x1 :: x2 :: x3 :: x4 :: x5 :: x6 :: x7 :: [], _ => rfl
  | x0 :: x1 :: x2 :: x3 :: x4 :: x5 :: x6 :: x7 :: x8 :: [], _ => rfl
  | x0 :: x1 :: x2 :: x3 :: x4 :: x5 :: x6 :: x7 :: x8 :: x9 :: [], _ => rfl
  | x0 :: x1 :: x2 :: x3 :: x4 :: x5 :: x6 :: x7 :: x8 :: x9 :: _ :: _, h => exact absurd h (by simp)
theorem impl_lineOf.sp {w : World} {g : Nat} {t : TypeId} {l : List Int} {r1 r2 r3 r4 r5 r6 r7 r8 r9 r10 : Int} (h : w.heap[g]? = some (.cells (splice [Value.int .i64 0, Value.int .i64 0, Value.int .i64 0, Value.int .i64 0, Value.int .i64 0, Value.int .i64 0, Value.int .i64 0, Value.int .i64 0, Value.int .i64 0, Value.int .i64 0] 0 (l.map (Value.int .i64))).toArray t (0, 0))) (hl : l.length ≤ 10) (hv : impl_lineOf.Is l r1 r2 r3 r4 r5 r6 r7 r8 r9 r10) :
    w.heap[g]? = some (.cells #[.int .i64 r1, .int .i64 r2, .int .i64 r3, .int .i64 r4, .int .i64 r5, .int .i64 r6, .int .i64 r7, .int .i64 r8, .int .i64 r9, .int .i64 r10] t (0, 0)) := by
  rw [impl_lineOf.put l hl] at h
  unfold impl_lineOf.Is at hv
  simp only [Prod.mk.injEq] at hv
  obtain ⟨rfl, rfl, rfl, rfl, rfl, rfl, rfl, rfl, rfl, rfl⟩ := hv
  exact h
theorem below_then_ {n m : Nat} {w W w2 : World} (h : Below n w W) (hm : n ≤ m) (k : Below m W w2) : Below n w w2 := h.trans (Below.mono k hm)
set_option maxHeartbeats 8000000 in
set_option maxRecDepth 100000 in
theorem impl_lineOf.calls (A0 : Option Addr) (c0 : Nat) (l0 : List Int) (r1 r2 r3 r4 r5 r6 r7 r8 r9 r10 : Int) (w : World) (hr0 : Kd.C (Kd.int .i64) w A0 l0.length l0) (hc0 : l0.length ≤ c0) (h : impl_lineOf.f l0 = some (r1, r2, r3, r4, r5, r6, r7, r8, r9, r10)) :
    Calls Try.prog 60 #[.slice A0 l0.length c0] w fun e w' => e = .returned (.agg #[.int .i64 r1, .int .i64 r2, .int .i64 r3, .int .i64 r4, .int .i64 r5, .int .i64 r6, .int .i64 r7, .int .i64 r8, .int .i64 r9, .int .i64 r10]) ∧ Below w.heap.size w w' := by
  have hu58 := Try.underlying58
  have HR0 := Aside0.mk hr0
  have HC0 := Aside0.mk hc0
  clear hr0 hc0
  have HB := Aside0.mk (Below.refl w.heap.size w)
  unfold impl_lineOf.f at h
  by_cases hl : l0.length ≤ 10
  rotate_left
  · rw [if_neg hl] at h; cases h
  rw [if_pos hl] at h
  have HL := Aside0.mk hl
  have HV : Aside0 (impl_lineOf.Is l0 r1 r2 r3 r4 r5 r6 r7 r8 r9 r10) := ⟨Option.some.inj h⟩
  clear h hl
  go_enter Try.func60, Try.ntmps60
  go_wp2_with (first | ((with_reducible refine gate_dst (N := 2) rfl ?_); refine box_event ?hg (N := 2) ?hd (cs := #[.int .i64 0, .int .i64 0, .int .i64 0, .int .i64 0, .int .i64 0, .int .i64 0, .int .i64 0, .int .i64 0, .int .i64 0, .int .i64 0]) (t := 58) ?hr ?_; (case hd => rfl); (case hg => rfl); (case hr => first | (go_simp; done) | (go_simp; rfl)); intro g2 hg w2 hbox hb; have BK2 := Aside0.mk hbox; have LT2 := Aside0.mk (blk_lt hbox); have GE2 := Aside0.mk (show w.heap.size ≤ g2 by omega); have HB2 := Aside0.mk (HB.out.trans hb); clear HB hbox hb hg) | ((with_reducible refine gate_dst (N := 3) rfl ?_); refine box_event ?hg (N := 3) ?hd (cs := #[.int .i64 0, .int .i64 0, .int .i64 0, .int .i64 0, .int .i64 0, .int .i64 0, .int .i64 0, .int .i64 0, .int .i64 0, .int .i64 0]) (t := 58) ?hr ?_; (case hd => rfl); (case hg => rfl); (case hr => first | (go_simp; done) | (go_simp; rfl)); intro g3 hg w3 hbox hb; have BK3 := Aside0.mk hbox; have hne : g2 ≠ g3 := (by have := LT2.out; omega); have hne2 : g3 ≠ g2 := fun e => hne e.symm; have LT3 := Aside0.mk (show g2 < g3 by have := LT2.out; omega); have GE3 := Aside0.mk (show w.heap.size ≤ g3 by have := GE2.out; have := LT2.out; omega); have BK2' := Aside0.mk (blk_below BK2.out hb); clear BK2; have HB3 := Aside0.mk (HB2.out.trans (Below.mono hb HB2.out.size)); clear HB2 hbox hb hg; have zc0 : w3.cell? ⟨g3, 0, none⟩ = some (.int .i64 0) := (blk_cell BK3.out 0).trans rfl; have zf0 := blk_frozen BK3.out 0; have zc1 : w3.cell? ⟨g3, 1, none⟩ = some (.int .i64 0) := (blk_cell BK3.out 1).trans rfl; have zf1 := blk_frozen BK3.out 1; have zc2 : w3.cell? ⟨g3, 2, none⟩ = some (.int .i64 0) := (blk_cell BK3.out 2).trans rfl; have zf2 := blk_frozen BK3.out 2; have zc3 : w3.cell? ⟨g3, 3, none⟩ = some (.int .i64 0) := (blk_cell BK3.out 3).trans rfl; have zf3 := blk_frozen BK3.out 3; have zc4 : w3.cell? ⟨g3, 4, none⟩ = some (.int .i64 0) := (blk_cell BK3.out 4).trans rfl; have zf4 := blk_frozen BK3.out 4; have zc5 : w3.cell? ⟨g3, 5, none⟩ = some (.int .i64 0) := (blk_cell BK3.out 5).trans rfl; have zf5 := blk_frozen BK3.out 5; have zc6 : w3.cell? ⟨g3, 6, none⟩ = some (.int .i64 0) := (blk_cell BK3.out 6).trans rfl; have zf6 := blk_frozen BK3.out 6; have zc7 : w3.cell? ⟨g3, 7, none⟩ = some (.int .i64 0) := (blk_cell BK3.out 7).trans rfl; have zf7 := blk_frozen BK3.out 7; have zc8 : w3.cell? ⟨g3, 8, none⟩ = some (.int .i64 0) := (blk_cell BK3.out 8).trans rfl; have zf8 := blk_frozen BK3.out 8; have zc9 : w3.cell? ⟨g3, 9, none⟩ = some (.int .i64 0) := (blk_cell BK3.out 9).trans rfl; have zf9 := blk_frozen BK3.out 9) | ((with_reducible refine wpList_copy_splice rfl (.tmp 5) (.tmp 6) 22 22 rfl 3 Try.underlying22 impl_lineOf.sz (some ⟨g3, 0, none⟩) A0 10 10 l0.length c0 rfl rfl g3 0 [Value.int .i64 0, Value.int .i64 0, Value.int .i64 0, Value.int .i64 0, Value.int .i64 0, Value.int .i64 0, Value.int .i64 0, Value.int .i64 0, Value.int .i64 0, Value.int .i64 0] 58 ?cg (l0.map (Value.int .i64)) ?cn ?cp ?cf ?c1 g3 _ (Below.refl _ _) (Nat.le_refl _) ?_); (case cg => ((with_reducible repeat (refine blk_put (cs := #[Value.int .i64 0, Value.int .i64 0, Value.int .i64 0, Value.int .i64 0, Value.int .i64 0, Value.int .i64 0, Value.int .i64 0, Value.int .i64 0, Value.int .i64 0, Value.int .i64 0]) ?_ _ _ rfl)); exact BK3.out)); (case cn => (have := HL.out; rw [List.length_map]; exact (Nat.min_eq_left this).symm)); (case cp => exact fun h_ => ⟨rfl, impl_lineOf.src (Kd.C_below HR0.out (by repeat (with_reducible first | exact HB3.out | refine below_set ?_ GE3.out))) (by rw [List.length_map] at h_; exact h_)⟩); (case cf => (have := HL.out; rw [List.length_map]; simpa using this)); (case c1 => exact impl_lineOf.one l0); intro w4 hk hb4; have BK4 := Aside0.mk (impl_lineOf.sp hk.out HL.out HV.out); have BK5 : Aside0 (w4.heap[g2]? = some (.cells #[.int .i64 0, .int .i64 0, .int .i64 0, .int .i64 0, .int .i64 0, .int .i64 0, .int .i64 0, .int .i64 0, .int .i64 0, .int .i64 0] 58 (0, 0))) := ⟨(hb4.block g2 LT3.out).trans (by (with_reducible repeat (refine blk_far ?_ (show g2 ≠ (Addr.mk g3 _ none).block from hne) _)); exact BK2'.out)⟩; have HB4 : Aside0 (Below w.heap.size w w4) := ⟨below_then_ (by repeat (with_reducible first | exact HB3.out | refine below_set ?_ GE3.out)) GE3.out hb4⟩; clear hk hb4 BK3 BK2' HB3; clear zc0 zf0 zc1 zf1 zc2 zf2 zc3 zf3 zc4 zf4 zc5 zf5 zc6 zf6 zc7 zf7 zc8 zf8 zc9 zf9; have zc0 : w4.cell? ⟨g3, 0, none⟩ = some (.int .i64 r1) := (blk_cell BK4.out 0).trans rfl; have zf0 := blk_frozen BK4.out 0; have zc1 : w4.cell? ⟨g3, 1, none⟩ = some (.int .i64 r2) := (blk_cell BK4.out 1).trans rfl; have zf1 := blk_frozen BK4.out 1; have zc2 : w4.cell? ⟨g3, 2, none⟩ = some (.int .i64 r3) := (blk_cell BK4.out 2).trans rfl; have zf2 := blk_frozen BK4.out 2; have zc3 : w4.cell? ⟨g3, 3, none⟩ = some (.int .i64 r4) := (blk_cell BK4.out 3).trans rfl; have zf3 := blk_frozen BK4.out 3; have zc4 : w4.cell? ⟨g3, 4, none⟩ = some (.int .i64 r5) := (blk_cell BK4.out 4).trans rfl; have zf4 := blk_frozen BK4.out 4; have zc5 : w4.cell? ⟨g3, 5, none⟩ = some (.int .i64 r6) := (blk_cell BK4.out 5).trans rfl; have zf5 := blk_frozen BK4.out 5; have zc6 : w4.cell? ⟨g3, 6, none⟩ = some (.int .i64 r7) := (blk_cell BK4.out 6).trans rfl; have zf6 := blk_frozen BK4.out 6; have zc7 : w4.cell? ⟨g3, 7, none⟩ = some (.int .i64 r8) := (blk_cell BK4.out 7).trans rfl; have zf7 := blk_frozen BK4.out 7; have zc8 : w4.cell? ⟨g3, 8, none⟩ = some (.int .i64 r9) := (blk_cell BK4.out 8).trans rfl; have zf8 := blk_frozen BK4.out 8; have zc9 : w4.cell? ⟨g3, 9, none⟩ = some (.int .i64 r10) := (blk_cell BK4.out 9).trans rfl; have zf9 := blk_frozen BK4.out 9; have yc0 : w4.cell? ⟨g2, 0, none⟩ = some (.int .i64 0) := (blk_cell BK5.out 0).trans rfl; have yf0 := blk_frozen BK5.out 0; have yc1 : w4.cell? ⟨g2, 1, none⟩ = some (.int .i64 0) := (blk_cell BK5.out 1).trans rfl; have yf1 := blk_frozen BK5.out 1; have yc2 : w4.cell? ⟨g2, 2, none⟩ = some (.int .i64 0) := (blk_cell BK5.out 2).trans rfl; have yf2 := blk_frozen BK5.out 2; have yc3 : w4.cell? ⟨g2, 3, none⟩ = some (.int .i64 0) := (blk_cell BK5.out 3).trans rfl; have yf3 := blk_frozen BK5.out 3; have yc4 : w4.cell? ⟨g2, 4, none⟩ = some (.int .i64 0) := (blk_cell BK5.out 4).trans rfl; have yf4 := blk_frozen BK5.out 4; have yc5 : w4.cell? ⟨g2, 5, none⟩ = some (.int .i64 0) := (blk_cell BK5.out 5).trans rfl; have yf5 := blk_frozen BK5.out 5; have yc6 : w4.cell? ⟨g2, 6, none⟩ = some (.int .i64 0) := (blk_cell BK5.out 6).trans rfl; have yf6 := blk_frozen BK5.out 6; have yc7 : w4.cell? ⟨g2, 7, none⟩ = some (.int .i64 0) := (blk_cell BK5.out 7).trans rfl; have yf7 := blk_frozen BK5.out 7; have yc8 : w4.cell? ⟨g2, 8, none⟩ = some (.int .i64 0) := (blk_cell BK5.out 8).trans rfl; have yf8 := blk_frozen BK5.out 8; have yc9 : w4.cell? ⟨g2, 9, none⟩ = some (.int .i64 0) := (blk_cell BK5.out 9).trans rfl; have yf9 := blk_frozen BK5.out 9))
  refine bodyPost_ret (results_cell_row rfl _ _ g2 58 #[.int .i64 r1, .int .i64 r2, .int .i64 r3, .int .i64 r4, .int .i64 r5, .int .i64 r6, .int .i64 r7, .int .i64 r8, .int .i64 r9, .int .i64 r10] (0, 0) _ rfl ?_ Try.underlying58 rfl (by kernel_rfl)) rfl ⟨rfl, ?_⟩
  · refine blk_put (cs := #[.int .i64 r1, .int .i64 r2, .int .i64 r3, .int .i64 r4, .int .i64 r5, .int .i64 r6, .int .i64 r7, .int .i64 r8, .int .i64 r9, .int .i64 0]) ?_ 9 _ rfl
    refine blk_put (cs := #[.int .i64 r1, .int .i64 r2, .int .i64 r3, .int .i64 r4, .int .i64 r5, .int .i64 r6, .int .i64 r7, .int .i64 r8, .int .i64 0, .int .i64 0]) ?_ 8 _ rfl
    refine blk_put (cs := #[.int .i64 r1, .int .i64 r2, .int .i64 r3, .int .i64 r4, .int .i64 r5, .int .i64 r6, .int .i64 r7, .int .i64 0, .int .i64 0, .int .i64 0]) ?_ 7 _ rfl
    refine blk_put (cs := #[.int .i64 r1, .int .i64 r2, .int .i64 r3, .int .i64 r4, .int .i64 r5, .int .i64 r6, .int .i64 0, .int .i64 0, .int .i64 0, .int .i64 0]) ?_ 6 _ rfl
    refine blk_put (cs := #[.int .i64 r1, .int .i64 r2, .int .i64 r3, .int .i64 r4, .int .i64 r5, .int .i64 0, .int .i64 0, .int .i64 0, .int .i64 0, .int .i64 0]) ?_ 5 _ rfl
    refine blk_put (cs := #[.int .i64 r1, .int .i64 r2, .int .i64 r3, .int .i64 r4, .int .i64 0, .int .i64 0, .int .i64 0, .int .i64 0, .int .i64 0, .int .i64 0]) ?_ 4 _ rfl
    refine blk_put (cs := #[.int .i64 r1, .int .i64 r2, .int .i64 r3, .int .i64 0, .int .i64 0, .int .i64 0, .int .i64 0, .int .i64 0, .int .i64 0, .int .i64 0]) ?_ 3 _ rfl
    refine blk_put (cs := #[.int .i64 r1, .int .i64 r2, .int .i64 0, .int .i64 0, .int .i64 0, .int .i64 0, .int .i64 0, .int .i64 0, .int .i64 0, .int .i64 0]) ?_ 2 _ rfl
    refine blk_put (cs := #[.int .i64 r1, .int .i64 0, .int .i64 0, .int .i64 0, .int .i64 0, .int .i64 0, .int .i64 0, .int .i64 0, .int .i64 0, .int .i64 0]) ?_ 1 _ rfl
    refine blk_put (cs := #[.int .i64 0, .int .i64 0, .int .i64 0, .int .i64 0, .int .i64 0, .int .i64 0, .int .i64 0, .int .i64 0, .int .i64 0, .int .i64 0]) ?_ 0 _ rfl
    exact BK5.out
  · repeat (with_reducible first | exact HB4.out | refine below_set ?_ GE2.out)
end Go.Proofs.Ytjahclncpgllmaa.F
end

section
namespace Go.Proofs.Ytjahclncpgllmaa.F
open Go.RowKit Go.Proofs.YtjahclncpgllmaaW.PrintWords Go.Proofs.YtjahclncpgllmaaW.PrintLast Go.Proofs.YtjahclncpgllmaaW.PrintMore
attribute [local go_sem] max2_int min2_int max_two min_two max_three min_three max_four min_four
set_option linter.unusedVariables false
set_option linter.unusedSimpArgs false

/-! ### impl_PromoteLinear: function 43 -/
mutual
def impl_PromoteLinear.j0 : Nat → List Int → Int → Bool → List Int → Option (List Int × Bool)
  | 0, _, _, _, _ => none
  | k + 1, x1, x2, x17, x818000 => if x17 = true then (some (([] : List Int), false)) else ((impl_lineOf.f x1).bind fun bt820 => (impl_PromoteLinear.l0 k x2 (mx x2 0) 0 x818000 bt820.1 bt820.2.1 bt820.2.2.1 bt820.2.2.2.1 bt820.2.2.2.2.1 bt820.2.2.2.2.2.1 bt820.2.2.2.2.2.2.1 bt820.2.2.2.2.2.2.2.1 bt820.2.2.2.2.2.2.2.2.1 bt820.2.2.2.2.2.2.2.2.2))
def impl_PromoteLinear.l0 : Nat → Int → Int → Int → List Int → Int → Int → Int → Int → Int → Int → Int → Int → Int → Int → Option (List Int × Bool)
  | 0, _, _, _, _, _, _, _, _, _, _, _, _, _, _ => none
  | k + 1, x2, x21, x22, x818000, x831000, x831001, x831002, x831003, x831004, x831005, x831006, x831007, x831008, x831009 => if x22 < x21 then ((impl_Poset_promoted.f k x818000 x831000 x831001 x831002 x831003 x831004 x831005 x831006 x831007 x831008 x831009).bind fun bt831 => (impl_PromoteLinear.l0 k x2 x21 (wrap64 (x22 + 1)) x818000 bt831.1 bt831.2.1 bt831.2.2.1 bt831.2.2.2.1 bt831.2.2.2.2.1 bt831.2.2.2.2.2.1 bt831.2.2.2.2.2.2.1 bt831.2.2.2.2.2.2.2.1 bt831.2.2.2.2.2.2.2.2.1 bt831.2.2.2.2.2.2.2.2.2)) else (impl_PromoteLinear.l1 k (mx (wrap64 (-x2)) 0) 0 x818000 x831000 x831001 x831002 x831003 x831004 x831005 x831006 x831007 x831008 x831009)
def impl_PromoteLinear.l1 : Nat → Int → Int → List Int → Int → Int → Int → Int → Int → Int → Int → Int → Int → Int → Option (List Int × Bool)
  | 0, _, _, _, _, _, _, _, _, _, _, _, _, _ => none
  | k + 1, x30, x31, x818000, x831000, x831001, x831002, x831003, x831004, x831005, x831006, x831007, x831008, x831009 => if x31 < x30 then ((impl_Poset_unpromoted.f k x818000 x831000 x831001 x831002 x831003 x831004 x831005 x831006 x831007 x831008 x831009).bind fun bt841 => (impl_PromoteLinear.l1 k x30 (wrap64 (x31 + 1)) x818000 bt841.1 bt841.2.1 bt841.2.2.1 bt841.2.2.2.1 bt841.2.2.2.2.1 bt841.2.2.2.2.2.1 bt841.2.2.2.2.2.2.1 bt841.2.2.2.2.2.2.2.1 bt841.2.2.2.2.2.2.2.2.1 bt841.2.2.2.2.2.2.2.2.2)) else ((impl_Poset_n.f x818000).bind fun t851 => ((impl_line_list.f x831000 x831001 x831002 x831003 x831004 x831005 x831006 x831007 x831008 x831009 t851).bind fun t852 => (some (t852, true))))
end
def impl_PromoteLinear.f (k : Nat) (l0_0 : List Int) (l1 : List Int) (a2 : Int) : Option (List Int × Bool) := (impl_isLinear.f k l0_0 l1).bind fun t818 => (if t818 = true then ((impl_within.f a2 (-100) 100).bind fun t819 => (impl_PromoteLinear.j0 k l1 a2 (!t819) l0_0)) else (impl_PromoteLinear.j0 k l1 a2 true l0_0))
theorem impl_PromoteLinear.mono_l : ∀ k, (∀ y0 y1 y2 y3, LeO (impl_PromoteLinear.j0 k y0 y1 y2 y3) (impl_PromoteLinear.j0 (k + 1) y0 y1 y2 y3)) ∧ (∀ y0 y1 y2 y3 y4 y5 y6 y7 y8 y9 y10 y11 y12 y13, LeO (impl_PromoteLinear.l0 k y0 y1 y2 y3 y4 y5 y6 y7 y8 y9 y10 y11 y12 y13) (impl_PromoteLinear.l0 (k + 1) y0 y1 y2 y3 y4 y5 y6 y7 y8 y9 y10 y11 y12 y13)) ∧ (∀ y0 y1 y2 y3 y4 y5 y6 y7 y8 y9 y10 y11 y12, LeO (impl_PromoteLinear.l1 k y0 y1 y2 y3 y4 y5 y6 y7 y8 y9 y10 y11 y12) (impl_PromoteLinear.l1 (k + 1) y0 y1 y2 y3 y4 y5 y6 y7 y8 y9 y10 y11 y12))
  | 0 => ⟨fun _ _ _ _ r h => by simp [impl_PromoteLinear.j0] at h, fun _ _ _ _ _ _ _ _ _ _ _ _ _ _ r h => by simp [impl_PromoteLinear.l0] at h, fun _ _ _ _ _ _ _ _ _ _ _ _ _ r h => by simp [impl_PromoteLinear.l1] at h⟩
  | k + 1 => by
    obtain ⟨ih0, ih1, ih2⟩ := impl_PromoteLinear.mono_l k
    refine ⟨?_, ?_, ?_⟩
    · intro y0 y1 y2 y3
      unfold impl_PromoteLinear.j0
      repeat' first
      | (with_reducible exact ih0 _ _ _ _)
      | (with_reducible exact ih1 _ _ _ _ _ _ _ _ _ _ _ _ _ _)
      | (with_reducible exact ih2 _ _ _ _ _ _ _ _ _ _ _ _ _)
      | (with_reducible exact impl_Poset_promoted.mono _ _ _ _ _ _ _ _ _ _ _ _)
      | (with_reducible exact impl_Poset_unpromoted.mono _ _ _ _ _ _ _ _ _ _ _ _)
      | (with_reducible exact impl_isLinear.mono _ _ _)
      | (with_reducible exact LeO.refl _)
      | (with_reducible exact LeO.none _)
      | (with_reducible refine LeO.ite ?_ ?_)
      | (with_reducible refine LeO.bind ?_ (fun _ => ?_))
      | exact ih0 _ _ _ _
      | exact ih1 _ _ _ _ _ _ _ _ _ _ _ _ _ _
      | exact ih2 _ _ _ _ _ _ _ _ _ _ _ _ _
      | exact impl_Poset_promoted.mono _ _ _ _ _ _ _ _ _ _ _ _
      | exact impl_Poset_unpromoted.mono _ _ _ _ _ _ _ _ _ _ _ _
      | exact impl_isLinear.mono _ _ _
      | exact LeO.none _
      | refine LeO.ite ?_ ?_
      | refine LeO.bind ?_ (fun _ => ?_)
    · intro y0 y1 y2 y3 y4 y5 y6 y7 y8 y9 y10 y11 y12 y13
      unfold impl_PromoteLinear.l0
      repeat' first
      | (with_reducible exact ih0 _ _ _ _)
      | (with_reducible exact ih1 _ _ _ _ _ _ _ _ _ _ _ _ _ _)
      | (with_reducible exact ih2 _ _ _ _ _ _ _ _ _ _ _ _ _)
      | (with_reducible exact impl_Poset_promoted.mono _ _ _ _ _ _ _ _ _ _ _ _)
      | (with_reducible exact impl_Poset_unpromoted.mono _ _ _ _ _ _ _ _ _ _ _ _)
      | (with_reducible exact impl_isLinear.mono _ _ _)
      | (with_reducible exact LeO.refl _)
      | (with_reducible exact LeO.none _)
      | (with_reducible refine LeO.ite ?_ ?_)
      | (with_reducible refine LeO.bind ?_ (fun _ => ?_))
      | exact ih0 _ _ _ _
      | exact ih1 _ _ _ _ _ _ _ _ _ _ _ _ _ _
      | exact ih2 _ _ _ _ _ _ _ _ _ _ _ _ _
      | exact impl_Poset_promoted.mono _ _ _ _ _ _ _ _ _ _ _ _
      | exact impl_Poset_unpromoted.mono _ _ _ _ _ _ _ _ _ _ _ _
      | exact impl_isLinear.mono _ _ _
      | exact LeO.none _
      | refine LeO.ite ?_ ?_
      | refine LeO.bind ?_ (fun _ => ?_)
    · intro y0 y1 y2 y3 y4 y5 y6 y7 y8 y9 y10 y11 y12
      unfold impl_PromoteLinear.l1
      repeat' first
      | (with_reducible exact ih0 _ _ _ _)
      | (with_reducible exact ih1 _ _ _ _ _ _ _ _ _ _ _ _ _ _)
      | (with_reducible exact ih2 _ _ _ _ _ _ _ _ _ _ _ _ _)
      | (with_reducible exact impl_Poset_promoted.mono _ _ _ _ _ _ _ _ _ _ _ _)
      | (with_reducible exact impl_Poset_unpromoted.mono _ _ _ _ _ _ _ _ _ _ _ _)
      | (with_reducible exact impl_isLinear.mono _ _ _)
      | (with_reducible exact LeO.refl _)
      | (with_reducible exact LeO.none _)
      | (with_reducible refine LeO.ite ?_ ?_)
      | (with_reducible refine LeO.bind ?_ (fun _ => ?_))
      | exact ih0 _ _ _ _
      | exact ih1 _ _ _ _ _ _ _ _ _ _ _ _ _ _
      | exact ih2 _ _ _ _ _ _ _ _ _ _ _ _ _
      | exact impl_Poset_promoted.mono _ _ _ _ _ _ _ _ _ _ _ _
      | exact impl_Poset_unpromoted.mono _ _ _ _ _ _ _ _ _ _ _ _
      | exact impl_isLinear.mono _ _ _
      | exact LeO.none _
      | refine LeO.ite ?_ ?_
      | refine LeO.bind ?_ (fun _ => ?_)
theorem impl_PromoteLinear.mono : ∀ a0 a1 a2 k, LeO (impl_PromoteLinear.f k a0 a1 a2) (impl_PromoteLinear.f (k + 1) a0 a1 a2) := by
  intro a0 a1 a2 k
  obtain ⟨ih0, ih1, ih2⟩ := impl_PromoteLinear.mono_l k
  unfold impl_PromoteLinear.f
  repeat' first
      | (with_reducible exact ih0 _ _ _ _)
      | (with_reducible exact ih1 _ _ _ _ _ _ _ _ _ _ _ _ _ _)
      | (with_reducible exact ih2 _ _ _ _ _ _ _ _ _ _ _ _ _)
      | (with_reducible exact impl_Poset_promoted.mono _ _ _ _ _ _ _ _ _ _ _ _)
      | (with_reducible exact impl_Poset_unpromoted.mono _ _ _ _ _ _ _ _ _ _ _ _)
      | (with_reducible exact impl_isLinear.mono _ _ _)
      | (with_reducible exact LeO.refl _)
      | (with_reducible exact LeO.none _)
      | (with_reducible refine LeO.ite ?_ ?_)
      | (with_reducible refine LeO.bind ?_ (fun _ => ?_))
      | exact ih0 _ _ _ _
      | exact ih1 _ _ _ _ _ _ _ _ _ _ _ _ _ _
      | exact ih2 _ _ _ _ _ _ _ _ _ _ _ _ _
      | exact impl_Poset_promoted.mono _ _ _ _ _ _ _ _ _ _ _ _
      | exact impl_Poset_unpromoted.mono _ _ _ _ _ _ _ _ _ _ _ _
      | exact impl_isLinear.mono _ _ _
      | exact LeO.none _
      | refine LeO.ite ?_ ?_
      | refine LeO.bind ?_ (fun _ => ?_)
set_option maxHeartbeats 8000000 in
set_option maxRecDepth 100000 in
theorem impl_PromoteLinear.calls (k : Nat) (A0_0 : Option Addr) (c0_0 : Nat) (l0_0 : List Int) (A1 : Option Addr) (c1 : Nat) (l1 : List Int) (a2 : Int) (r1 : List Int) (r2 : Bool) (w : World) (hr0_0 : Kd.C (Kd.int .i64) w A0_0 l0_0.length l0_0) (hc0_0 : l0_0.length ≤ c0_0) (hr1 : Kd.C (Kd.int .i64) w A1 l1.length l1) (hc1 : l1.length ≤ c1) (h : impl_PromoteLinear.f k l0_0 l1 a2 = some (r1, r2)) :
    Calls Try.prog 43 #[.agg #[.slice A0_0 l0_0.length c0_0], .slice A1 l1.length c1, .int .i64 a2] w fun e w' => ∃ v0_ : Value, e = .returned (.tuple #[v0_, .bool r2]) ∧ Kd.R (Kd.int .i64) 3 w' w.heap.size (fun _ => True) v0_ r1 ∧ Below w.heap.size w w' := by
  have hu28 := Try.underlying28
  have hu58 := Try.underlying58
  have HR0_0 := Aside0.mk hr0_0
  have HC0_0 := Aside0.mk hc0_0
  clear hr0_0 hc0_0
  have HR1 := Aside0.mk hr1
  have HC1 := Aside0.mk hc1
  clear hr1 hc1
  have HB := Aside0.mk (Below.refl w.heap.size w)
  have H : ((impl_isLinear.f k l0_0 l1).bind fun t818 => (if t818 = true then ((impl_within.f a2 (-100) 100).bind fun t819 => (impl_PromoteLinear.j0 k l1 a2 (!t819) l0_0)) else (impl_PromoteLinear.j0 k l1 a2 true l0_0))) = some (r1, r2) := h
  clear h
  have HC4 := Aside0.mk H
  clear H
  go_enter Try.func43, Try.ntmps43
  go_upto_region 1 with (first | ((with_reducible refine gate_dst (N := 3) rfl ?_); refine box_event ?hg (N := 3) ?hd (cs := #[.slice A0_0 l0_0.length c0_0]) (t := 28) ?hr ?_; (case hd => rfl); (case hg => rfl); (case hr => first | (go_simp; done) | (go_simp; rfl)); intro gb817 hg w5 hbox hb; have n0_ := Aside0.mk (below_step (by repeat (first | (with_reducible first | exact HB.out | apply below_alloc | apply pw_below_drewN | apply below_drew1) | exact HB.out)) hb); have n1_ := Aside0.mk (hbox); have n2_ := Aside0.mk ((by rw [hg]; exact (below_size (by repeat (first | (with_reducible first | exact HB.out | apply below_alloc | apply pw_below_drewN | apply below_drew1) | exact HB.out))) : w.heap.size ≤ gb817)); have n3_ := Aside0.mk ((by rw [hg]; exact (below_size (by repeat (first | (with_reducible first | exact HB.out | apply below_alloc | apply pw_below_drewN | apply below_drew1) | exact HB.out))) : w.heap.size ≤ gb817)); clear HB; have HB := n0_; have BK817 := n1_; have GW817 := n2_; have GE817 := n3_; clear n0_ n1_ n2_ n3_; clear hb hbox hg))
  (try simp only [Act.put, List.setIfInBounds_toArray, List.set_cons_zero, List.set_cons_succ])
  go_cut [17] (fun v17 wc => ∃ (kq : Nat) (x17_3 : Bool), v17 = .bool x17_3 ∧ Aside0 (impl_PromoteLinear.j0 kq l1 a2 x17_3 l0_0 = some (r1, r2)) ∧ Aside0 (kq ≤ k) ∧ Aside0 (wc.heap[gb817]? = some (.cells #[(.slice A0_0 l0_0.length c0_0)] 28 (0, 0))) ∧ Aside0 (Below w.heap.size w wc))
  case first =>
    have H := HC4.out
    clear HC4
    replace H := Option.bind_eq_some_iff.mp H
    obtain ⟨t818, A60, H⟩ := H
    replace H : (if t818 = true then ((impl_within.f a2 (-100) 100).bind fun t819 => (impl_PromoteLinear.j0 k l1 a2 (!t819) l0_0)) else (impl_PromoteLinear.j0 k l1 a2 true l0_0)) = some (r1, r2) := H
    have A6 := Aside0.mk A60
    clear A60
    by_cases c7 : t818 = true
    · subst c7
      have H1 : ((impl_within.f a2 (-100) 100).bind fun t819 => (impl_PromoteLinear.j0 k l1 a2 (!t819) l0_0)) = some (r1, r2) := by rw [if_pos rfl] at H; exact H
      clear H
      have H := H1
      clear H1
      replace H := Option.bind_eq_some_iff.mp H
      obtain ⟨t819, A80, H⟩ := H
      replace H : (impl_PromoteLinear.j0 k l1 a2 (!t819) l0_0) = some (r1, r2) := H
      have A8 := Aside0.mk A80
      clear A80
      have H' := Aside0.mk H
      clear H
      have hcz9_0 : w5.cell? ⟨gb817, 0, none⟩ = some (.slice A0_0 l0_0.length c0_0) := (blk_cell BK817.out 0).trans rfl
      have hfz9_0 := blk_frozen BK817.out 0
      go_wp2_with (first | ((with_reducible refine gate_callee (f := 56) rfl ?_); refine goesL_ (some 11) rfl rfl Try.func56 (by kernel_rfl) rfl #[.agg #[.slice A0_0 l0_0.length c0_0], .slice A1 l1.length c1] rfl (by (try simp only [List.map_toArray, List.map_cons, List.map_nil]); first | done | rfl | (simp only [List.length_drop, List.length_take]; rfl)) ?_; (with_reducible refine (impl_isLinear.calls k _ _ l0_0 _ _ l1 true _ ?side1 ?side2 ?side3 ?side4 A6.out).mono ?_); (case side1 => repeat (first | exact (Kd.C_below HR0_0.out HB.out) | (with_reducible refine Kd.C_alloc ?_ _) | (with_reducible refine Kd.C_drewN ?_ _) | (with_reducible refine Kd.C_drew ?_))); (case side2 => exact HC0_0.out); (case side3 => repeat (first | exact (Kd.C_below HR1.out HB.out) | (with_reducible refine Kd.C_alloc ?_ _) | (with_reducible refine Kd.C_drewN ?_ _) | (with_reducible refine Kd.C_drew ?_))); (case side4 => exact HC1.out); rintro e w10 ⟨rfl, hb⟩; refine ⟨_, rfl, ?_⟩; have n0_ := Aside0.mk (blk_below (g := gb817) (o := .cells #[.slice A0_0 l0_0.length c0_0] 28 (0, 0)) (by (with_reducible repeat (first | refine blk_drewN ?_ _ | refine blk_drew ?_ | refine blk_alloc ?_ _)); exact BK817.out) hb); have n1_ := Aside0.mk (below_step (by repeat (first | (with_reducible first | exact HB.out | apply below_alloc | apply pw_below_drewN | apply below_drew1 | refine below_set ?_ GE817.out) | exact HB.out)) hb); clear BK817; clear HB; have BK817 := n0_; have HB := n1_; clear n0_ n1_; (try clear hb); (try clear hb2); (try clear hk); (try clear hi)) | (go_at_call 57; (with_reducible refine (impl_within.calls a2 (-100) 100 t819 _ A8.out).mono ?_); rintro e w' ⟨rfl, ⟨nd, rfl⟩⟩))
      go_meet
      case rel => exact ⟨_, (!t819), (by first | rfl | (simp; done) | (simp [*]; done)), H', ⟨by first | omega | exact Nat.le_refl _⟩, ⟨by (with_reducible repeat (first | refine blk_drewN ?_ _ | refine blk_drew ?_ | refine blk_alloc ?_ _)); exact BK817.out⟩, ⟨by repeat (first | (with_reducible first | exact HB.out | apply below_alloc | apply pw_below_drewN | apply below_drew1 | refine below_set ?_ GE817.out) | exact HB.out)⟩⟩
    · replace c7 := Bool.eq_false_iff.mpr c7
      subst c7
      have H1 : (impl_PromoteLinear.j0 k l1 a2 true l0_0) = some (r1, r2) := by rw [if_neg (show ¬ (false = true) by decide)] at H; exact H
      clear H
      have H := H1
      clear H1
      have H' := Aside0.mk H
      clear H
      have hcz11_0 : w5.cell? ⟨gb817, 0, none⟩ = some (.slice A0_0 l0_0.length c0_0) := (blk_cell BK817.out 0).trans rfl
      have hfz11_0 := blk_frozen BK817.out 0
      go_wp2_with (first | ((with_reducible refine gate_callee (f := 56) rfl ?_); refine goesL_ (some 11) rfl rfl Try.func56 (by kernel_rfl) rfl #[.agg #[.slice A0_0 l0_0.length c0_0], .slice A1 l1.length c1] rfl (by (try simp only [List.map_toArray, List.map_cons, List.map_nil]); first | done | rfl | (simp only [List.length_drop, List.length_take]; rfl)) ?_; (with_reducible refine (impl_isLinear.calls k _ _ l0_0 _ _ l1 false _ ?side1 ?side2 ?side3 ?side4 A6.out).mono ?_); (case side1 => repeat (first | exact (Kd.C_below HR0_0.out HB.out) | (with_reducible refine Kd.C_alloc ?_ _) | (with_reducible refine Kd.C_drewN ?_ _) | (with_reducible refine Kd.C_drew ?_))); (case side2 => exact HC0_0.out); (case side3 => repeat (first | exact (Kd.C_below HR1.out HB.out) | (with_reducible refine Kd.C_alloc ?_ _) | (with_reducible refine Kd.C_drewN ?_ _) | (with_reducible refine Kd.C_drew ?_))); (case side4 => exact HC1.out); rintro e w12 ⟨rfl, hb⟩; refine ⟨_, rfl, ?_⟩; have n0_ := Aside0.mk (blk_below (g := gb817) (o := .cells #[.slice A0_0 l0_0.length c0_0] 28 (0, 0)) (by (with_reducible repeat (first | refine blk_drewN ?_ _ | refine blk_drew ?_ | refine blk_alloc ?_ _)); exact BK817.out) hb); have n1_ := Aside0.mk (below_step (by repeat (first | (with_reducible first | exact HB.out | apply below_alloc | apply pw_below_drewN | apply below_drew1 | refine below_set ?_ GE817.out) | exact HB.out)) hb); clear BK817; clear HB; have BK817 := n0_; have HB := n1_; clear n0_ n1_; (try clear hb); (try clear hb2); (try clear hk); (try clear hi)))
      go_meet
      case rel => exact ⟨_, (true), (by first | rfl | (simp; done) | (simp [*]; done)), H', ⟨by first | omega | exact Nat.le_refl _⟩, ⟨by (with_reducible repeat (first | refine blk_drewN ?_ _ | refine blk_drew ?_ | refine blk_alloc ?_ _)); exact BK817.out⟩, ⟨by repeat (first | (with_reducible first | exact HB.out | apply below_alloc | apply pw_below_drewN | apply below_drew1 | refine below_set ?_ GE817.out) | exact HB.out)⟩⟩
  case rest =>
    clear HC4
    try clear c1
    try clear p2
    try clear c4
    try clear c5
    try clear c7
    try clear hcz11_0
    try clear hcz9_0
    try clear hfz11_0
    try clear hfz9_0
    obtain ⟨kq, x17_3, rfl, HA, HJ3, BK817, HB⟩ := hcut
    cases kq with
    | zero => exact absurd HA.out (by simp [impl_PromoteLinear.j0])
    | succ kj3 =>
      have H := HA.out
      clear HA
      simp only [impl_PromoteLinear.j0] at H
      by_cases c13 : x17_3 = true
      · subst c13
        have H1 : (some (([] : List Int), false)) = some (r1, r2) := by rw [if_pos rfl] at H; exact H
        clear H
        have H := H1
        clear H1
        simp only [Option.some.injEq, Prod.mk.injEq] at H
        obtain ⟨rfl, rfl⟩ := H
        go_wp2
        go_ret2
        exact ⟨_, by first | rfl | (simp [errW_none, errW_some] <;> rfl) | (simp [*, errW_none, errW_some] <;> rfl), by first | exact Kd.R_nil _ _ _ _ _ | exact Kd.N_nil _ _ _ _ _ | exact Kd.V_nil _ _ _ _ _ | exact Kd.Q_nil _ _ _ _ _ | exact Kd.S_nil _ _ _ _ _, by repeat (first | (with_reducible first | exact HB.out | apply below_alloc | apply pw_below_drewN | apply below_drew1 | refine below_set ?_ GE817.out) | exact HB.out)⟩
      · replace c13 := Bool.eq_false_iff.mpr c13
        subst c13
        have H1 : ((impl_lineOf.f l1).bind fun bt820 => (impl_PromoteLinear.l0 kj3 a2 (mx a2 0) 0 l0_0 bt820.1 bt820.2.1 bt820.2.2.1 bt820.2.2.2.1 bt820.2.2.2.2.1 bt820.2.2.2.2.2.1 bt820.2.2.2.2.2.2.1 bt820.2.2.2.2.2.2.2.1 bt820.2.2.2.2.2.2.2.2.1 bt820.2.2.2.2.2.2.2.2.2)) = some (r1, r2) := by rw [if_neg (show ¬ (false = true) by decide)] at H; exact H
        clear H
        have H := H1
        clear H1
        replace H := Option.bind_eq_some_iff.mp H
        obtain ⟨⟨t820, t821, t822, t823, t824, t825, t826, t827, t828, t829⟩, A140, H⟩ := H
        replace H : (impl_PromoteLinear.l0 kj3 a2 (mx a2 0) 0 l0_0 t820 t821 t822 t823 t824 t825 t826 t827 t828 t829) = some (r1, r2) := H
        have A14 := Aside0.mk A140
        clear A140
        obtain ⟨ji15, hji15⟩ : ∃ j_ : Int, (mx a2 0) = j_ := ⟨_, rfl⟩
        replace H : (impl_PromoteLinear.l0 kj3 a2 ji15 0 l0_0 t820 t821 t822 t823 t824 t825 t826 t827 t828 t829) = some (r1, r2) := by first | (rw [hji15] at H; exact H) | (simp only [hji15] at H ⊢; exact H)
        (try rw [hji15] at A14)
        have hji15_ : (if a2 < 0 then 0 else a2) = ji15 := hji15
        have H' := Aside0.mk H
        clear H
        go_wp2_with (first | ((with_reducible refine gate_callee (f := 60) rfl ?_); refine goesL_ (some 19) rfl rfl Try.func60 (by kernel_rfl) rfl #[.slice A1 l1.length c1] rfl (by (try simp only [List.map_toArray, List.map_cons, List.map_nil]); first | done | rfl | (simp only [List.length_drop, List.length_take]; rfl)) ?_; (with_reducible refine (impl_lineOf.calls _ _ l1 t820 t821 t822 t823 t824 t825 t826 t827 t828 t829 _ ?side1 ?side2 A14.out).mono ?_); (case side1 => repeat (first | exact (Kd.C_below HR1.out HB.out) | (with_reducible refine Kd.C_alloc ?_ _) | (with_reducible refine Kd.C_drewN ?_ _) | (with_reducible refine Kd.C_drew ?_))); (case side2 => exact HC1.out); rintro e w16 ⟨rfl, hb⟩; refine ⟨_, rfl, ?_⟩; have n0_ := Aside0.mk (blk_below (g := gb817) (o := .cells #[.slice A0_0 l0_0.length c0_0] 28 (0, 0)) (by (with_reducible repeat (first | refine blk_drewN ?_ _ | refine blk_drew ?_ | refine blk_alloc ?_ _)); exact BK817.out) hb); have n1_ := Aside0.mk (below_step (by repeat (first | (with_reducible first | exact HB.out | apply below_alloc | apply pw_below_drewN | apply below_drew1 | refine below_set ?_ GE817.out) | exact HB.out)) hb); clear BK817; clear HB; have BK817 := n0_; have HB := n1_; clear n0_ n1_; (try clear hb); (try clear hb2); (try clear hk); (try clear hi)) | ((with_reducible refine gate_dst (N := 8) rfl ?_); refine box_event ?hg (N := 8) ?hd (cs := #[.int .i64 0, .int .i64 0, .int .i64 0, .int .i64 0, .int .i64 0, .int .i64 0, .int .i64 0, .int .i64 0, .int .i64 0, .int .i64 0]) (t := 58) ?hr ?_; (case hd => rfl); (case hg => rfl); (case hr => first | (go_simp; done) | (go_simp; rfl)); intro gb830 hg w17 hbox hb; have n0_ := Aside0.mk (blk_below (g := gb817) (o := .cells #[.slice A0_0 l0_0.length c0_0] 28 (0, 0)) (by (with_reducible repeat (first | refine blk_drewN ?_ _ | refine blk_drew ?_ | refine blk_alloc ?_ _)); exact BK817.out) hb); have n1_ := Aside0.mk (below_step (by repeat (first | (with_reducible first | exact HB.out | apply below_alloc | apply pw_below_drewN | apply below_drew1 | refine below_set ?_ GE817.out) | exact HB.out)) hb); have n2_ := Aside0.mk (hbox); have n3_ := Aside0.mk ((by rw [hg]; exact (below_size (by repeat (first | (with_reducible first | exact HB.out | apply below_alloc | apply pw_below_drewN | apply below_drew1 | refine below_set ?_ GE817.out) | exact HB.out))) : w.heap.size ≤ gb830)); have n4_ := Aside0.mk ((by rw [hg]; exact (below_size (by repeat (first | (with_reducible first | exact HB.out | apply below_alloc | apply pw_below_drewN | apply below_drew1 | refine below_set ?_ GE817.out) | exact HB.out))) : w.heap.size ≤ gb830)); have n5_ := Aside0.mk ((by rw [hg]; exact Nat.ne_of_lt (blk_lt (g := gb817) (o := .cells #[.slice A0_0 l0_0.length c0_0] 28 (0, 0)) (by (with_reducible repeat (first | refine blk_drewN ?_ _ | refine blk_drew ?_ | refine blk_alloc ?_ _)); exact BK817.out)) : gb817 ≠ gb830)); have n6_ := Aside0.mk ((by rw [hg]; exact Nat.ne_of_gt (blk_lt (g := gb817) (o := .cells #[.slice A0_0 l0_0.length c0_0] 28 (0, 0)) (by (with_reducible repeat (first | refine blk_drewN ?_ _ | refine blk_drew ?_ | refine blk_alloc ?_ _)); exact BK817.out)) : gb830 ≠ gb817)); clear BK817; clear HB; have BK817 := n0_; have HB := n1_; have BK830 := n2_; have GW830 := n3_; have GE830 := n4_; have NB817_830 := n5_; have NB830_817 := n6_; clear n0_ n1_ n2_ n3_ n4_ n5_ n6_; clear hb hbox hg; have hnb18 := NB830_817.out; have hnc18 := NB817_830.out; have hcz19_0 : w17.cell? ⟨gb830, 0, none⟩ = some (.int .i64 0) := (blk_cell BK830.out 0).trans rfl; have hcz19_1 : w17.cell? ⟨gb830, 1, none⟩ = some (.int .i64 0) := (blk_cell BK830.out 1).trans rfl; have hcz19_2 : w17.cell? ⟨gb830, 2, none⟩ = some (.int .i64 0) := (blk_cell BK830.out 2).trans rfl; have hcz19_3 : w17.cell? ⟨gb830, 3, none⟩ = some (.int .i64 0) := (blk_cell BK830.out 3).trans rfl; have hcz19_4 : w17.cell? ⟨gb830, 4, none⟩ = some (.int .i64 0) := (blk_cell BK830.out 4).trans rfl; have hcz19_5 : w17.cell? ⟨gb830, 5, none⟩ = some (.int .i64 0) := (blk_cell BK830.out 5).trans rfl; have hcz19_6 : w17.cell? ⟨gb830, 6, none⟩ = some (.int .i64 0) := (blk_cell BK830.out 6).trans rfl; have hcz19_7 : w17.cell? ⟨gb830, 7, none⟩ = some (.int .i64 0) := (blk_cell BK830.out 7).trans rfl; have hcz19_8 : w17.cell? ⟨gb830, 8, none⟩ = some (.int .i64 0) := (blk_cell BK830.out 8).trans rfl; have hcz19_9 : w17.cell? ⟨gb830, 9, none⟩ = some (.int .i64 0) := (blk_cell BK830.out 9).trans rfl; have hfz19_0 := blk_frozen BK830.out 0; have hfz19_1 := blk_frozen BK830.out 1; have hfz19_2 := blk_frozen BK830.out 2; have hfz19_3 := blk_frozen BK830.out 3; have hfz19_4 := blk_frozen BK830.out 4; have hfz19_5 := blk_frozen BK830.out 5; have hfz19_6 := blk_frozen BK830.out 6; have hfz19_7 := blk_frozen BK830.out 7; have hfz19_8 := blk_frozen BK830.out 8; have hfz19_9 := blk_frozen BK830.out 9))
        go_loopg [22] kj3 (fun kq v22 w' => ∃ (x22_2 : Int) (x831000_2 : Int) (x831001_2 : Int) (x831002_2 : Int) (x831003_2 : Int) (x831004_2 : Int) (x831005_2 : Int) (x831006_2 : Int) (x831007_2 : Int) (x831008_2 : Int) (x831009_2 : Int), v22 = .int .i64 x22_2 ∧ Aside0 (impl_PromoteLinear.l0 kq a2 ji15 x22_2 l0_0 x831000_2 x831001_2 x831002_2 x831003_2 x831004_2 x831005_2 x831006_2 x831007_2 x831008_2 x831009_2 = some (r1, r2)) ∧ Aside0 (kq ≤ kj3) ∧ Aside0 (w'.heap[gb817]? = some (.cells #[(.slice A0_0 l0_0.length c0_0)] 28 (0, 0))) ∧ Aside0 (w'.heap[gb830]? = some (.cells #[.int .i64 x831000_2, .int .i64 x831001_2, .int .i64 x831002_2, .int .i64 x831003_2, .int .i64 x831004_2, .int .i64 x831005_2, .int .i64 x831006_2, .int .i64 x831007_2, .int .i64 x831008_2, .int .i64 x831009_2] 58 (0, 0))) ∧ Aside0 (Below w.heap.size w w'))
        case atStart => exact ⟨(0), (t820), (t821), (t822), (t823), (t824), (t825), (t826), (t827), (t828), (t829), (by first | rfl | (simp; done) | (simp [*]; done)), H', ⟨Nat.le_refl _⟩, ⟨by (with_reducible repeat (first | refine blk_drewN ?_ _ | refine blk_drew ?_ | refine blk_alloc ?_ _)); refine blk_far ?_ NB817_830.out _; (with_reducible repeat (first | refine blk_drewN ?_ _ | refine blk_drew ?_ | refine blk_alloc ?_ _)); refine blk_far ?_ NB817_830.out _; (with_reducible repeat (first | refine blk_drewN ?_ _ | refine blk_drew ?_ | refine blk_alloc ?_ _)); refine blk_far ?_ NB817_830.out _; (with_reducible repeat (first | refine blk_drewN ?_ _ | refine blk_drew ?_ | refine blk_alloc ?_ _)); refine blk_far ?_ NB817_830.out _; (with_reducible repeat (first | refine blk_drewN ?_ _ | refine blk_drew ?_ | refine blk_alloc ?_ _)); refine blk_far ?_ NB817_830.out _; (with_reducible repeat (first | refine blk_drewN ?_ _ | refine blk_drew ?_ | refine blk_alloc ?_ _)); refine blk_far ?_ NB817_830.out _; (with_reducible repeat (first | refine blk_drewN ?_ _ | refine blk_drew ?_ | refine blk_alloc ?_ _)); refine blk_far ?_ NB817_830.out _; (with_reducible repeat (first | refine blk_drewN ?_ _ | refine blk_drew ?_ | refine blk_alloc ?_ _)); refine blk_far ?_ NB817_830.out _; (with_reducible repeat (first | refine blk_drewN ?_ _ | refine blk_drew ?_ | refine blk_alloc ?_ _)); refine blk_far ?_ NB817_830.out _; (with_reducible repeat (first | refine blk_drewN ?_ _ | refine blk_drew ?_ | refine blk_alloc ?_ _)); refine blk_far ?_ NB817_830.out _; (with_reducible repeat (first | refine blk_drewN ?_ _ | refine blk_drew ?_ | refine blk_alloc ?_ _)); exact BK817.out⟩, ⟨by (with_reducible repeat (first | refine blk_drewN ?_ _ | refine blk_drew ?_ | refine blk_alloc ?_ _)); refine blk_put (cs := #[.int .i64 t820, .int .i64 t821, .int .i64 t822, .int .i64 t823, .int .i64 t824, .int .i64 t825, .int .i64 t826, .int .i64 t827, .int .i64 t828, .int .i64 0]) ?_ 9 _ rfl; (with_reducible repeat (first | refine blk_drewN ?_ _ | refine blk_drew ?_ | refine blk_alloc ?_ _)); refine blk_put (cs := #[.int .i64 t820, .int .i64 t821, .int .i64 t822, .int .i64 t823, .int .i64 t824, .int .i64 t825, .int .i64 t826, .int .i64 t827, .int .i64 0, .int .i64 0]) ?_ 8 _ rfl; (with_reducible repeat (first | refine blk_drewN ?_ _ | refine blk_drew ?_ | refine blk_alloc ?_ _)); refine blk_put (cs := #[.int .i64 t820, .int .i64 t821, .int .i64 t822, .int .i64 t823, .int .i64 t824, .int .i64 t825, .int .i64 t826, .int .i64 0, .int .i64 0, .int .i64 0]) ?_ 7 _ rfl; (with_reducible repeat (first | refine blk_drewN ?_ _ | refine blk_drew ?_ | refine blk_alloc ?_ _)); refine blk_put (cs := #[.int .i64 t820, .int .i64 t821, .int .i64 t822, .int .i64 t823, .int .i64 t824, .int .i64 t825, .int .i64 0, .int .i64 0, .int .i64 0, .int .i64 0]) ?_ 6 _ rfl; (with_reducible repeat (first | refine blk_drewN ?_ _ | refine blk_drew ?_ | refine blk_alloc ?_ _)); refine blk_put (cs := #[.int .i64 t820, .int .i64 t821, .int .i64 t822, .int .i64 t823, .int .i64 t824, .int .i64 0, .int .i64 0, .int .i64 0, .int .i64 0, .int .i64 0]) ?_ 5 _ rfl; (with_reducible repeat (first | refine blk_drewN ?_ _ | refine blk_drew ?_ | refine blk_alloc ?_ _)); refine blk_put (cs := #[.int .i64 t820, .int .i64 t821, .int .i64 t822, .int .i64 t823, .int .i64 0, .int .i64 0, .int .i64 0, .int .i64 0, .int .i64 0, .int .i64 0]) ?_ 4 _ rfl; (with_reducible repeat (first | refine blk_drewN ?_ _ | refine blk_drew ?_ | refine blk_alloc ?_ _)); refine blk_put (cs := #[.int .i64 t820, .int .i64 t821, .int .i64 t822, .int .i64 0, .int .i64 0, .int .i64 0, .int .i64 0, .int .i64 0, .int .i64 0, .int .i64 0]) ?_ 3 _ rfl; (with_reducible repeat (first | refine blk_drewN ?_ _ | refine blk_drew ?_ | refine blk_alloc ?_ _)); refine blk_put (cs := #[.int .i64 t820, .int .i64 t821, .int .i64 0, .int .i64 0, .int .i64 0, .int .i64 0, .int .i64 0, .int .i64 0, .int .i64 0, .int .i64 0]) ?_ 2 _ rfl; (with_reducible repeat (first | refine blk_drewN ?_ _ | refine blk_drew ?_ | refine blk_alloc ?_ _)); refine blk_put (cs := #[.int .i64 t820, .int .i64 0, .int .i64 0, .int .i64 0, .int .i64 0, .int .i64 0, .int .i64 0, .int .i64 0, .int .i64 0, .int .i64 0]) ?_ 1 _ rfl; (with_reducible repeat (first | refine blk_drewN ?_ _ | refine blk_drew ?_ | refine blk_alloc ?_ _)); refine blk_put (cs := #[.int .i64 0, .int .i64 0, .int .i64 0, .int .i64 0, .int .i64 0, .int .i64 0, .int .i64 0, .int .i64 0, .int .i64 0, .int .i64 0]) ?_ 0 _ rfl; (with_reducible repeat (first | refine blk_drewN ?_ _ | refine blk_drew ?_ | refine blk_alloc ?_ _)); exact BK830.out⟩, ⟨by repeat (first | (with_reducible first | exact HB.out | apply below_alloc | apply pw_below_drewN | apply below_drew1 | refine below_set ?_ GE817.out | refine below_set ?_ GE830.out) | exact HB.out)⟩⟩
        case round =>
          clear H'
          try clear c1
          try clear p2
          try clear c4
          try clear c5
          try clear c6
          try clear c7
          try clear c13
          try clear c18
          try clear hcz11_0
          try clear hcz19_0
          try clear hcz19_1
          try clear hcz19_2
          try clear hcz19_3
          try clear hcz19_4
          try clear hcz19_5
          try clear hcz19_6
          try clear hcz19_7
          try clear hcz19_8
          try clear hcz19_9
          try clear hcz9_0
          try clear hfz11_0
          try clear hfz19_0
          try clear hfz19_1
          try clear hfz19_2
          try clear hfz19_3
          try clear hfz19_4
          try clear hfz19_5
          try clear hfz19_6
          try clear hfz19_7
          try clear hfz19_8
          try clear hfz19_9
          try clear hfz9_0
          try clear p2
          obtain ⟨x22_2, x831000_2, x831001_2, x831002_2, x831003_2, x831004_2, x831005_2, x831006_2, x831007_2, x831008_2, x831009_2, rfl, HA, HK2, BK817, BK830, HB⟩ := hrel
          cases gk with
          | zero => exact absurd HA.out (by simp [impl_PromoteLinear.l0])
          | succ k2 =>
            have H := HA.out
            clear HA
            simp only [impl_PromoteLinear.l0] at H
            by_cases c20 : x22_2 < ji15
            · rw [if_pos c20] at H
              have c20b0 : decide (x22_2 < ji15) = true := decide_eq_true c20
              clear c20
              replace H := Option.bind_eq_some_iff.mp H
              obtain ⟨⟨t831, t832, t833, t834, t835, t836, t837, t838, t839, t840⟩, A210, H⟩ := H
              replace H : (impl_PromoteLinear.l0 k2 a2 ji15 (wrap64 (x22_2 + 1)) l0_0 t831 t832 t833 t834 t835 t836 t837 t838 t839 t840) = some (r1, r2) := H
              have A21 := Aside0.mk A210
              clear A210
              have H' := Aside0.mk H
              clear H
              have hnb22 := NB817_830.out
              have hnc22 := NB830_817.out
              have hcz23_0 : wr.cell? ⟨gb817, 0, none⟩ = some (.slice A0_0 l0_0.length c0_0) := (blk_cell BK817.out 0).trans rfl
              have hfz23_0 := blk_frozen BK817.out 0
              have hcz24_0 : wr.cell? ⟨gb830, 0, none⟩ = some (.int .i64 x831000_2) := (blk_cell BK830.out 0).trans rfl
              have hcz24_1 : wr.cell? ⟨gb830, 1, none⟩ = some (.int .i64 x831001_2) := (blk_cell BK830.out 1).trans rfl
              have hcz24_2 : wr.cell? ⟨gb830, 2, none⟩ = some (.int .i64 x831002_2) := (blk_cell BK830.out 2).trans rfl
              have hcz24_3 : wr.cell? ⟨gb830, 3, none⟩ = some (.int .i64 x831003_2) := (blk_cell BK830.out 3).trans rfl
              have hcz24_4 : wr.cell? ⟨gb830, 4, none⟩ = some (.int .i64 x831004_2) := (blk_cell BK830.out 4).trans rfl
              have hcz24_5 : wr.cell? ⟨gb830, 5, none⟩ = some (.int .i64 x831005_2) := (blk_cell BK830.out 5).trans rfl
              have hcz24_6 : wr.cell? ⟨gb830, 6, none⟩ = some (.int .i64 x831006_2) := (blk_cell BK830.out 6).trans rfl
              have hcz24_7 : wr.cell? ⟨gb830, 7, none⟩ = some (.int .i64 x831007_2) := (blk_cell BK830.out 7).trans rfl
              have hcz24_8 : wr.cell? ⟨gb830, 8, none⟩ = some (.int .i64 x831008_2) := (blk_cell BK830.out 8).trans rfl
              have hcz24_9 : wr.cell? ⟨gb830, 9, none⟩ = some (.int .i64 x831009_2) := (blk_cell BK830.out 9).trans rfl
              have hfz24_0 := blk_frozen BK830.out 0
              have hfz24_1 := blk_frozen BK830.out 1
              have hfz24_2 := blk_frozen BK830.out 2
              have hfz24_3 := blk_frozen BK830.out 3
              have hfz24_4 := blk_frozen BK830.out 4
              have hfz24_5 := blk_frozen BK830.out 5
              have hfz24_6 := blk_frozen BK830.out 6
              have hfz24_7 := blk_frozen BK830.out 7
              have hfz24_8 := blk_frozen BK830.out 8
              have hfz24_9 := blk_frozen BK830.out 9
              go_wp2_with (first | ((with_reducible refine gate_callee (f := 85) rfl ?_); refine goesL_ (some 26) rfl rfl Try.func85 (by kernel_rfl) rfl #[.agg #[.slice A0_0 l0_0.length c0_0], .agg #[.int .i64 x831000_2, .int .i64 x831001_2, .int .i64 x831002_2, .int .i64 x831003_2, .int .i64 x831004_2, .int .i64 x831005_2, .int .i64 x831006_2, .int .i64 x831007_2, .int .i64 x831008_2, .int .i64 x831009_2]] rfl (by (try simp only [List.map_toArray, List.map_cons, List.map_nil]); first | done | rfl | (simp only [List.length_drop, List.length_take]; rfl)) ?_; (with_reducible refine (impl_Poset_promoted.calls k2 _ _ l0_0 x831000_2 x831001_2 x831002_2 x831003_2 x831004_2 x831005_2 x831006_2 x831007_2 x831008_2 x831009_2 t831 t832 t833 t834 t835 t836 t837 t838 t839 t840 _ ?side1 ?side2 A21.out).mono ?_); (case side1 => repeat (first | exact (Kd.C_below HR0_0.out HB.out) | (with_reducible refine Kd.C_alloc ?_ _) | (with_reducible refine Kd.C_drewN ?_ _) | (with_reducible refine Kd.C_drew ?_))); (case side2 => exact HC0_0.out); rintro e w25 ⟨rfl, hb⟩; refine ⟨_, rfl, ?_⟩; have n0_ := Aside0.mk (blk_below (g := gb817) (o := .cells #[.slice A0_0 l0_0.length c0_0] 28 (0, 0)) (by (with_reducible repeat (first | refine blk_drewN ?_ _ | refine blk_drew ?_ | refine blk_alloc ?_ _)); exact BK817.out) hb); have n1_ := Aside0.mk (blk_below (g := gb830) (o := .cells #[.int .i64 x831000_2, .int .i64 x831001_2, .int .i64 x831002_2, .int .i64 x831003_2, .int .i64 x831004_2, .int .i64 x831005_2, .int .i64 x831006_2, .int .i64 x831007_2, .int .i64 x831008_2, .int .i64 x831009_2] 58 (0, 0)) (by (with_reducible repeat (first | refine blk_drewN ?_ _ | refine blk_drew ?_ | refine blk_alloc ?_ _)); exact BK830.out) hb); have n2_ := Aside0.mk (below_step (by repeat (first | (with_reducible first | exact HB.out | apply below_alloc | apply pw_below_drewN | apply below_drew1 | refine below_set ?_ GE817.out | refine below_set ?_ GE830.out) | exact HB.out)) hb); clear BK817; clear BK830; clear HB; have BK817 := n0_; have BK830 := n1_; have HB := n2_; clear n0_ n1_ n2_; (try clear hb); (try clear hb2); (try clear hk); (try clear hi); have hcz26_0 : w25.cell? ⟨gb830, 0, none⟩ = some (.int .i64 x831000_2) := (blk_cell BK830.out 0).trans rfl; have hcz26_1 : w25.cell? ⟨gb830, 1, none⟩ = some (.int .i64 x831001_2) := (blk_cell BK830.out 1).trans rfl; have hcz26_2 : w25.cell? ⟨gb830, 2, none⟩ = some (.int .i64 x831002_2) := (blk_cell BK830.out 2).trans rfl; have hcz26_3 : w25.cell? ⟨gb830, 3, none⟩ = some (.int .i64 x831003_2) := (blk_cell BK830.out 3).trans rfl; have hcz26_4 : w25.cell? ⟨gb830, 4, none⟩ = some (.int .i64 x831004_2) := (blk_cell BK830.out 4).trans rfl; have hcz26_5 : w25.cell? ⟨gb830, 5, none⟩ = some (.int .i64 x831005_2) := (blk_cell BK830.out 5).trans rfl; have hcz26_6 : w25.cell? ⟨gb830, 6, none⟩ = some (.int .i64 x831006_2) := (blk_cell BK830.out 6).trans rfl; have hcz26_7 : w25.cell? ⟨gb830, 7, none⟩ = some (.int .i64 x831007_2) := (blk_cell BK830.out 7).trans rfl; have hcz26_8 : w25.cell? ⟨gb830, 8, none⟩ = some (.int .i64 x831008_2) := (blk_cell BK830.out 8).trans rfl; have hcz26_9 : w25.cell? ⟨gb830, 9, none⟩ = some (.int .i64 x831009_2) := (blk_cell BK830.out 9).trans rfl; have hfz26_0 := blk_frozen BK830.out 0; have hfz26_1 := blk_frozen BK830.out 1; have hfz26_2 := blk_frozen BK830.out 2; have hfz26_3 := blk_frozen BK830.out 3; have hfz26_4 := blk_frozen BK830.out 4; have hfz26_5 := blk_frozen BK830.out 5; have hfz26_6 := blk_frozen BK830.out 6; have hfz26_7 := blk_frozen BK830.out 7; have hfz26_8 := blk_frozen BK830.out 8; have hfz26_9 := blk_frozen BK830.out 9))
              go_roundg k2
              case measure => have := HJ3.out; have := HK2.out; omega
              case rel => exact ⟨(wrap64 (x22_2 + 1)), (t831), (t832), (t833), (t834), (t835), (t836), (t837), (t838), (t839), (t840), (by first | rfl | (simp; done) | (simp [*]; done)), H', ⟨by have := HJ3.out; have := HK2.out; omega⟩, ⟨by (with_reducible repeat (first | refine blk_drewN ?_ _ | refine blk_drew ?_ | refine blk_alloc ?_ _)); refine blk_far ?_ NB817_830.out _; (with_reducible repeat (first | refine blk_drewN ?_ _ | refine blk_drew ?_ | refine blk_alloc ?_ _)); refine blk_far ?_ NB817_830.out _; (with_reducible repeat (first | refine blk_drewN ?_ _ | refine blk_drew ?_ | refine blk_alloc ?_ _)); refine blk_far ?_ NB817_830.out _; (with_reducible repeat (first | refine blk_drewN ?_ _ | refine blk_drew ?_ | refine blk_alloc ?_ _)); refine blk_far ?_ NB817_830.out _; (with_reducible repeat (first | refine blk_drewN ?_ _ | refine blk_drew ?_ | refine blk_alloc ?_ _)); refine blk_far ?_ NB817_830.out _; (with_reducible repeat (first | refine blk_drewN ?_ _ | refine blk_drew ?_ | refine blk_alloc ?_ _)); refine blk_far ?_ NB817_830.out _; (with_reducible repeat (first | refine blk_drewN ?_ _ | refine blk_drew ?_ | refine blk_alloc ?_ _)); refine blk_far ?_ NB817_830.out _; (with_reducible repeat (first | refine blk_drewN ?_ _ | refine blk_drew ?_ | refine blk_alloc ?_ _)); refine blk_far ?_ NB817_830.out _; (with_reducible repeat (first | refine blk_drewN ?_ _ | refine blk_drew ?_ | refine blk_alloc ?_ _)); refine blk_far ?_ NB817_830.out _; (with_reducible repeat (first | refine blk_drewN ?_ _ | refine blk_drew ?_ | refine blk_alloc ?_ _)); refine blk_far ?_ NB817_830.out _; (with_reducible repeat (first | refine blk_drewN ?_ _ | refine blk_drew ?_ | refine blk_alloc ?_ _)); exact BK817.out⟩, ⟨by (with_reducible repeat (first | refine blk_drewN ?_ _ | refine blk_drew ?_ | refine blk_alloc ?_ _)); refine blk_put (cs := #[.int .i64 t831, .int .i64 t832, .int .i64 t833, .int .i64 t834, .int .i64 t835, .int .i64 t836, .int .i64 t837, .int .i64 t838, .int .i64 t839, .int .i64 x831009_2]) ?_ 9 _ rfl; (with_reducible repeat (first | refine blk_drewN ?_ _ | refine blk_drew ?_ | refine blk_alloc ?_ _)); refine blk_put (cs := #[.int .i64 t831, .int .i64 t832, .int .i64 t833, .int .i64 t834, .int .i64 t835, .int .i64 t836, .int .i64 t837, .int .i64 t838, .int .i64 x831008_2, .int .i64 x831009_2]) ?_ 8 _ rfl; (with_reducible repeat (first | refine blk_drewN ?_ _ | refine blk_drew ?_ | refine blk_alloc ?_ _)); refine blk_put (cs := #[.int .i64 t831, .int .i64 t832, .int .i64 t833, .int .i64 t834, .int .i64 t835, .int .i64 t836, .int .i64 t837, .int .i64 x831007_2, .int .i64 x831008_2, .int .i64 x831009_2]) ?_ 7 _ rfl; (with_reducible repeat (first | refine blk_drewN ?_ _ | refine blk_drew ?_ | refine blk_alloc ?_ _)); refine blk_put (cs := #[.int .i64 t831, .int .i64 t832, .int .i64 t833, .int .i64 t834, .int .i64 t835, .int .i64 t836, .int .i64 x831006_2, .int .i64 x831007_2, .int .i64 x831008_2, .int .i64 x831009_2]) ?_ 6 _ rfl; (with_reducible repeat (first | refine blk_drewN ?_ _ | refine blk_drew ?_ | refine blk_alloc ?_ _)); refine blk_put (cs := #[.int .i64 t831, .int .i64 t832, .int .i64 t833, .int .i64 t834, .int .i64 t835, .int .i64 x831005_2, .int .i64 x831006_2, .int .i64 x831007_2, .int .i64 x831008_2, .int .i64 x831009_2]) ?_ 5 _ rfl; (with_reducible repeat (first | refine blk_drewN ?_ _ | refine blk_drew ?_ | refine blk_alloc ?_ _)); refine blk_put (cs := #[.int .i64 t831, .int .i64 t832, .int .i64 t833, .int .i64 t834, .int .i64 x831004_2, .int .i64 x831005_2, .int .i64 x831006_2, .int .i64 x831007_2, .int .i64 x831008_2, .int .i64 x831009_2]) ?_ 4 _ rfl; (with_reducible repeat (first | refine blk_drewN ?_ _ | refine blk_drew ?_ | refine blk_alloc ?_ _)); refine blk_put (cs := #[.int .i64 t831, .int .i64 t832, .int .i64 t833, .int .i64 x831003_2, .int .i64 x831004_2, .int .i64 x831005_2, .int .i64 x831006_2, .int .i64 x831007_2, .int .i64 x831008_2, .int .i64 x831009_2]) ?_ 3 _ rfl; (with_reducible repeat (first | refine blk_drewN ?_ _ | refine blk_drew ?_ | refine blk_alloc ?_ _)); refine blk_put (cs := #[.int .i64 t831, .int .i64 t832, .int .i64 x831002_2, .int .i64 x831003_2, .int .i64 x831004_2, .int .i64 x831005_2, .int .i64 x831006_2, .int .i64 x831007_2, .int .i64 x831008_2, .int .i64 x831009_2]) ?_ 2 _ rfl; (with_reducible repeat (first | refine blk_drewN ?_ _ | refine blk_drew ?_ | refine blk_alloc ?_ _)); refine blk_put (cs := #[.int .i64 t831, .int .i64 x831001_2, .int .i64 x831002_2, .int .i64 x831003_2, .int .i64 x831004_2, .int .i64 x831005_2, .int .i64 x831006_2, .int .i64 x831007_2, .int .i64 x831008_2, .int .i64 x831009_2]) ?_ 1 _ rfl; (with_reducible repeat (first | refine blk_drewN ?_ _ | refine blk_drew ?_ | refine blk_alloc ?_ _)); refine blk_put (cs := #[.int .i64 x831000_2, .int .i64 x831001_2, .int .i64 x831002_2, .int .i64 x831003_2, .int .i64 x831004_2, .int .i64 x831005_2, .int .i64 x831006_2, .int .i64 x831007_2, .int .i64 x831008_2, .int .i64 x831009_2]) ?_ 0 _ rfl; (with_reducible repeat (first | refine blk_drewN ?_ _ | refine blk_drew ?_ | refine blk_alloc ?_ _)); exact BK830.out⟩, ⟨by repeat (first | (with_reducible first | exact HB.out | apply below_alloc | apply pw_below_drewN | apply below_drew1 | refine below_set ?_ GE817.out | refine below_set ?_ GE830.out) | exact HB.out)⟩⟩
            · rw [if_neg c20] at H
              have c20b0 : decide (x22_2 < ji15) = false := decide_eq_false c20
              clear c20
              obtain ⟨ji27, hji27⟩ : ∃ j_ : Int, (mx (wrap64 (-a2)) 0) = j_ := ⟨_, rfl⟩
              replace H : (impl_PromoteLinear.l1 k2 ji27 0 l0_0 x831000_2 x831001_2 x831002_2 x831003_2 x831004_2 x831005_2 x831006_2 x831007_2 x831008_2 x831009_2) = some (r1, r2) := by first | (rw [hji27] at H; exact H) | (simp only [hji27] at H ⊢; exact H)
              have hji27_ : (if (wrap64 (-a2)) < 0 then 0 else (wrap64 (-a2))) = ji27 := hji27
              have H' := Aside0.mk H
              clear H
              go_wp2
              go_loopg [31] k2 (fun kq v31 w' => ∃ (x31_3 : Int) (x831000_3 : Int) (x831001_3 : Int) (x831002_3 : Int) (x831003_3 : Int) (x831004_3 : Int) (x831005_3 : Int) (x831006_3 : Int) (x831007_3 : Int) (x831008_3 : Int) (x831009_3 : Int), v31 = .int .i64 x31_3 ∧ Aside0 (impl_PromoteLinear.l1 kq ji27 x31_3 l0_0 x831000_3 x831001_3 x831002_3 x831003_3 x831004_3 x831005_3 x831006_3 x831007_3 x831008_3 x831009_3 = some (r1, r2)) ∧ Aside0 (kq ≤ k2) ∧ Aside0 (w'.heap[gb817]? = some (.cells #[(.slice A0_0 l0_0.length c0_0)] 28 (0, 0))) ∧ Aside0 (w'.heap[gb830]? = some (.cells #[.int .i64 x831000_3, .int .i64 x831001_3, .int .i64 x831002_3, .int .i64 x831003_3, .int .i64 x831004_3, .int .i64 x831005_3, .int .i64 x831006_3, .int .i64 x831007_3, .int .i64 x831008_3, .int .i64 x831009_3] 58 (0, 0))) ∧ Aside0 (Below w.heap.size w w'))
              case atStart => exact ⟨(0), (x831000_2), (x831001_2), (x831002_2), (x831003_2), (x831004_2), (x831005_2), (x831006_2), (x831007_2), (x831008_2), (x831009_2), (by first | rfl | (simp; done) | (simp [*]; done)), H', ⟨Nat.le_refl _⟩, ⟨by (with_reducible repeat (first | refine blk_drewN ?_ _ | refine blk_drew ?_ | refine blk_alloc ?_ _)); exact BK817.out⟩, ⟨by (with_reducible repeat (first | refine blk_drewN ?_ _ | refine blk_drew ?_ | refine blk_alloc ?_ _)); exact BK830.out⟩, ⟨by repeat (first | (with_reducible first | exact HB.out | apply below_alloc | apply pw_below_drewN | apply below_drew1 | refine below_set ?_ GE817.out | refine below_set ?_ GE830.out) | exact HB.out)⟩⟩
              case round =>
                clear H'
                try clear c1
                try clear c2
                try clear p2
                try clear c4
                try clear c5
                try clear c6
                try clear p6
                try clear c7
                try clear c8
                try clear c13
                try clear c18
                try clear c20
                try clear c20b0
                try clear c22
                try clear hcz11_0
                try clear hcz19_0
                try clear hcz19_1
                try clear hcz19_2
                try clear hcz19_3
                try clear hcz19_4
                try clear hcz19_5
                try clear hcz19_6
                try clear hcz19_7
                try clear hcz19_8
                try clear hcz19_9
                try clear hcz23_0
                try clear hcz24_0
                try clear hcz24_1
                try clear hcz24_2
                try clear hcz24_3
                try clear hcz24_4
                try clear hcz24_5
                try clear hcz24_6
                try clear hcz24_7
                try clear hcz24_8
                try clear hcz24_9
                try clear hcz26_0
                try clear hcz26_1
                try clear hcz26_2
                try clear hcz26_3
                try clear hcz26_4
                try clear hcz26_5
                try clear hcz26_6
                try clear hcz26_7
                try clear hcz26_8
                try clear hcz26_9
                try clear hcz9_0
                try clear hfz11_0
                try clear hfz19_0
                try clear hfz19_1
                try clear hfz19_2
                try clear hfz19_3
                try clear hfz19_4
                try clear hfz19_5
                try clear hfz19_6
                try clear hfz19_7
                try clear hfz19_8
                try clear hfz19_9
                try clear hfz23_0
                try clear hfz24_0
                try clear hfz24_1
                try clear hfz24_2
                try clear hfz24_3
                try clear hfz24_4
                try clear hfz24_5
                try clear hfz24_6
                try clear hfz24_7
                try clear hfz24_8
                try clear hfz24_9
                try clear hfz26_0
                try clear hfz26_1
                try clear hfz26_2
                try clear hfz26_3
                try clear hfz26_4
                try clear hfz26_5
                try clear hfz26_6
                try clear hfz26_7
                try clear hfz26_8
                try clear hfz26_9
                try clear hfz9_0
                try clear p2
                obtain ⟨x31_3, x831000_3, x831001_3, x831002_3, x831003_3, x831004_3, x831005_3, x831006_3, x831007_3, x831008_3, x831009_3, rfl, HA, HK3, BK817, BK830, HB⟩ := hrel
                cases gk with
                | zero => exact absurd HA.out (by simp [impl_PromoteLinear.l1])
                | succ k3 =>
                  have H := HA.out
                  clear HA
                  simp only [impl_PromoteLinear.l1] at H
                  by_cases c28 : x31_3 < ji27
                  · rw [if_pos c28] at H
                    have c28b0 : decide (x31_3 < ji27) = true := decide_eq_true c28
                    clear c28
                    replace H := Option.bind_eq_some_iff.mp H
                    obtain ⟨⟨t841, t842, t843, t844, t845, t846, t847, t848, t849, t850⟩, A290, H⟩ := H
                    replace H : (impl_PromoteLinear.l1 k3 ji27 (wrap64 (x31_3 + 1)) l0_0 t841 t842 t843 t844 t845 t846 t847 t848 t849 t850) = some (r1, r2) := H
                    have A29 := Aside0.mk A290
                    clear A290
                    have H' := Aside0.mk H
                    clear H
                    have hnb30 := NB817_830.out
                    have hnc30 := NB830_817.out
                    have hcz31_0 : wr.cell? ⟨gb817, 0, none⟩ = some (.slice A0_0 l0_0.length c0_0) := (blk_cell BK817.out 0).trans rfl
                    have hfz31_0 := blk_frozen BK817.out 0
                    have hcz32_0 : wr.cell? ⟨gb830, 0, none⟩ = some (.int .i64 x831000_3) := (blk_cell BK830.out 0).trans rfl
                    have hcz32_1 : wr.cell? ⟨gb830, 1, none⟩ = some (.int .i64 x831001_3) := (blk_cell BK830.out 1).trans rfl
                    have hcz32_2 : wr.cell? ⟨gb830, 2, none⟩ = some (.int .i64 x831002_3) := (blk_cell BK830.out 2).trans rfl
                    have hcz32_3 : wr.cell? ⟨gb830, 3, none⟩ = some (.int .i64 x831003_3) := (blk_cell BK830.out 3).trans rfl
                    have hcz32_4 : wr.cell? ⟨gb830, 4, none⟩ = some (.int .i64 x831004_3) := (blk_cell BK830.out 4).trans rfl
                    have hcz32_5 : wr.cell? ⟨gb830, 5, none⟩ = some (.int .i64 x831005_3) := (blk_cell BK830.out 5).trans rfl
                    have hcz32_6 : wr.cell? ⟨gb830, 6, none⟩ = some (.int .i64 x831006_3) := (blk_cell BK830.out 6).trans rfl
                    have hcz32_7 : wr.cell? ⟨gb830, 7, none⟩ = some (.int .i64 x831007_3) := (blk_cell BK830.out 7).trans rfl
                    have hcz32_8 : wr.cell? ⟨gb830, 8, none⟩ = some (.int .i64 x831008_3) := (blk_cell BK830.out 8).trans rfl
                    have hcz32_9 : wr.cell? ⟨gb830, 9, none⟩ = some (.int .i64 x831009_3) := (blk_cell BK830.out 9).trans rfl
                    have hfz32_0 := blk_frozen BK830.out 0
                    have hfz32_1 := blk_frozen BK830.out 1
                    have hfz32_2 := blk_frozen BK830.out 2
                    have hfz32_3 := blk_frozen BK830.out 3
                    have hfz32_4 := blk_frozen BK830.out 4
                    have hfz32_5 := blk_frozen BK830.out 5
                    have hfz32_6 := blk_frozen BK830.out 6
                    have hfz32_7 := blk_frozen BK830.out 7
                    have hfz32_8 := blk_frozen BK830.out 8
                    have hfz32_9 := blk_frozen BK830.out 9
                    go_wp2_with (first | ((with_reducible refine gate_callee (f := 86) rfl ?_); refine goesL_ (some 35) rfl rfl Try.func86 (by kernel_rfl) rfl #[.agg #[.slice A0_0 l0_0.length c0_0], .agg #[.int .i64 x831000_3, .int .i64 x831001_3, .int .i64 x831002_3, .int .i64 x831003_3, .int .i64 x831004_3, .int .i64 x831005_3, .int .i64 x831006_3, .int .i64 x831007_3, .int .i64 x831008_3, .int .i64 x831009_3]] rfl (by (try simp only [List.map_toArray, List.map_cons, List.map_nil]); first | done | rfl | (simp only [List.length_drop, List.length_take]; rfl)) ?_; (with_reducible refine (impl_Poset_unpromoted.calls k3 _ _ l0_0 x831000_3 x831001_3 x831002_3 x831003_3 x831004_3 x831005_3 x831006_3 x831007_3 x831008_3 x831009_3 t841 t842 t843 t844 t845 t846 t847 t848 t849 t850 _ ?side1 ?side2 A29.out).mono ?_); (case side1 => repeat (first | exact (Kd.C_below HR0_0.out HB.out) | (with_reducible refine Kd.C_alloc ?_ _) | (with_reducible refine Kd.C_drewN ?_ _) | (with_reducible refine Kd.C_drew ?_))); (case side2 => exact HC0_0.out); rintro e w33 ⟨rfl, hb⟩; refine ⟨_, rfl, ?_⟩; have n0_ := Aside0.mk (blk_below (g := gb817) (o := .cells #[.slice A0_0 l0_0.length c0_0] 28 (0, 0)) (by (with_reducible repeat (first | refine blk_drewN ?_ _ | refine blk_drew ?_ | refine blk_alloc ?_ _)); exact BK817.out) hb); have n1_ := Aside0.mk (blk_below (g := gb830) (o := .cells #[.int .i64 x831000_3, .int .i64 x831001_3, .int .i64 x831002_3, .int .i64 x831003_3, .int .i64 x831004_3, .int .i64 x831005_3, .int .i64 x831006_3, .int .i64 x831007_3, .int .i64 x831008_3, .int .i64 x831009_3] 58 (0, 0)) (by (with_reducible repeat (first | refine blk_drewN ?_ _ | refine blk_drew ?_ | refine blk_alloc ?_ _)); exact BK830.out) hb); have n2_ := Aside0.mk (below_step (by repeat (first | (with_reducible first | exact HB.out | apply below_alloc | apply pw_below_drewN | apply below_drew1 | refine below_set ?_ GE817.out | refine below_set ?_ GE830.out) | exact HB.out)) hb); clear BK817; clear BK830; clear HB; have BK817 := n0_; have BK830 := n1_; have HB := n2_; clear n0_ n1_ n2_; (try clear hb); (try clear hb2); (try clear hk); (try clear hi); have hcz34_0 : w33.cell? ⟨gb830, 0, none⟩ = some (.int .i64 x831000_3) := (blk_cell BK830.out 0).trans rfl; have hcz34_1 : w33.cell? ⟨gb830, 1, none⟩ = some (.int .i64 x831001_3) := (blk_cell BK830.out 1).trans rfl; have hcz34_2 : w33.cell? ⟨gb830, 2, none⟩ = some (.int .i64 x831002_3) := (blk_cell BK830.out 2).trans rfl; have hcz34_3 : w33.cell? ⟨gb830, 3, none⟩ = some (.int .i64 x831003_3) := (blk_cell BK830.out 3).trans rfl; have hcz34_4 : w33.cell? ⟨gb830, 4, none⟩ = some (.int .i64 x831004_3) := (blk_cell BK830.out 4).trans rfl; have hcz34_5 : w33.cell? ⟨gb830, 5, none⟩ = some (.int .i64 x831005_3) := (blk_cell BK830.out 5).trans rfl; have hcz34_6 : w33.cell? ⟨gb830, 6, none⟩ = some (.int .i64 x831006_3) := (blk_cell BK830.out 6).trans rfl; have hcz34_7 : w33.cell? ⟨gb830, 7, none⟩ = some (.int .i64 x831007_3) := (blk_cell BK830.out 7).trans rfl; have hcz34_8 : w33.cell? ⟨gb830, 8, none⟩ = some (.int .i64 x831008_3) := (blk_cell BK830.out 8).trans rfl; have hcz34_9 : w33.cell? ⟨gb830, 9, none⟩ = some (.int .i64 x831009_3) := (blk_cell BK830.out 9).trans rfl; have hfz34_0 := blk_frozen BK830.out 0; have hfz34_1 := blk_frozen BK830.out 1; have hfz34_2 := blk_frozen BK830.out 2; have hfz34_3 := blk_frozen BK830.out 3; have hfz34_4 := blk_frozen BK830.out 4; have hfz34_5 := blk_frozen BK830.out 5; have hfz34_6 := blk_frozen BK830.out 6; have hfz34_7 := blk_frozen BK830.out 7; have hfz34_8 := blk_frozen BK830.out 8; have hfz34_9 := blk_frozen BK830.out 9))
                    go_roundg k3
                    case measure => have := HJ3.out; have := HK2.out; have := HK3.out; omega
                    case rel => exact ⟨(wrap64 (x31_3 + 1)), (t841), (t842), (t843), (t844), (t845), (t846), (t847), (t848), (t849), (t850), (by first | rfl | (simp; done) | (simp [*]; done)), H', ⟨by have := HJ3.out; have := HK2.out; have := HK3.out; omega⟩, ⟨by (with_reducible repeat (first | refine blk_drewN ?_ _ | refine blk_drew ?_ | refine blk_alloc ?_ _)); refine blk_far ?_ NB817_830.out _; (with_reducible repeat (first | refine blk_drewN ?_ _ | refine blk_drew ?_ | refine blk_alloc ?_ _)); refine blk_far ?_ NB817_830.out _; (with_reducible repeat (first | refine blk_drewN ?_ _ | refine blk_drew ?_ | refine blk_alloc ?_ _)); refine blk_far ?_ NB817_830.out _; (with_reducible repeat (first | refine blk_drewN ?_ _ | refine blk_drew ?_ | refine blk_alloc ?_ _)); refine blk_far ?_ NB817_830.out _; (with_reducible repeat (first | refine blk_drewN ?_ _ | refine blk_drew ?_ | refine blk_alloc ?_ _)); refine blk_far ?_ NB817_830.out _; (with_reducible repeat (first | refine blk_drewN ?_ _ | refine blk_drew ?_ | refine blk_alloc ?_ _)); refine blk_far ?_ NB817_830.out _; (with_reducible repeat (first | refine blk_drewN ?_ _ | refine blk_drew ?_ | refine blk_alloc ?_ _)); refine blk_far ?_ NB817_830.out _; (with_reducible repeat (first | refine blk_drewN ?_ _ | refine blk_drew ?_ | refine blk_alloc ?_ _)); refine blk_far ?_ NB817_830.out _; (with_reducible repeat (first | refine blk_drewN ?_ _ | refine blk_drew ?_ | refine blk_alloc ?_ _)); refine blk_far ?_ NB817_830.out _; (with_reducible repeat (first | refine blk_drewN ?_ _ | refine blk_drew ?_ | refine blk_alloc ?_ _)); refine blk_far ?_ NB817_830.out _; (with_reducible repeat (first | refine blk_drewN ?_ _ | refine blk_drew ?_ | refine blk_alloc ?_ _)); exact BK817.out⟩, ⟨by (with_reducible repeat (first | refine blk_drewN ?_ _ | refine blk_drew ?_ | refine blk_alloc ?_ _)); refine blk_put (cs := #[.int .i64 t841, .int .i64 t842, .int .i64 t843, .int .i64 t844, .int .i64 t845, .int .i64 t846, .int .i64 t847, .int .i64 t848, .int .i64 t849, .int .i64 x831009_3]) ?_ 9 _ rfl; (with_reducible repeat (first | refine blk_drewN ?_ _ | refine blk_drew ?_ | refine blk_alloc ?_ _)); refine blk_put (cs := #[.int .i64 t841, .int .i64 t842, .int .i64 t843, .int .i64 t844, .int .i64 t845, .int .i64 t846, .int .i64 t847, .int .i64 t848, .int .i64 x831008_3, .int .i64 x831009_3]) ?_ 8 _ rfl; (with_reducible repeat (first | refine blk_drewN ?_ _ | refine blk_drew ?_ | refine blk_alloc ?_ _)); refine blk_put (cs := #[.int .i64 t841, .int .i64 t842, .int .i64 t843, .int .i64 t844, .int .i64 t845, .int .i64 t846, .int .i64 t847, .int .i64 x831007_3, .int .i64 x831008_3, .int .i64 x831009_3]) ?_ 7 _ rfl; (with_reducible repeat (first | refine blk_drewN ?_ _ | refine blk_drew ?_ | refine blk_alloc ?_ _)); refine blk_put (cs := #[.int .i64 t841, .int .i64 t842, .int .i64 t843, .int .i64 t844, .int .i64 t845, .int .i64 t846, .int .i64 x831006_3, .int .i64 x831007_3, .int .i64 x831008_3, .int .i64 x831009_3]) ?_ 6 _ rfl; (with_reducible repeat (first | refine blk_drewN ?_ _ | refine blk_drew ?_ | refine blk_alloc ?_ _)); refine blk_put (cs := #[.int .i64 t841, .int .i64 t842, .int .i64 t843, .int .i64 t844, .int .i64 t845, .int .i64 x831005_3, .int .i64 x831006_3, .int .i64 x831007_3, .int .i64 x831008_3, .int .i64 x831009_3]) ?_ 5 _ rfl; (with_reducible repeat (first | refine blk_drewN ?_ _ | refine blk_drew ?_ | refine blk_alloc ?_ _)); refine blk_put (cs := #[.int .i64 t841, .int .i64 t842, .int .i64 t843, .int .i64 t844, .int .i64 x831004_3, .int .i64 x831005_3, .int .i64 x831006_3, .int .i64 x831007_3, .int .i64 x831008_3, .int .i64 x831009_3]) ?_ 4 _ rfl; (with_reducible repeat (first | refine blk_drewN ?_ _ | refine blk_drew ?_ | refine blk_alloc ?_ _)); refine blk_put (cs := #[.int .i64 t841, .int .i64 t842, .int .i64 t843, .int .i64 x831003_3, .int .i64 x831004_3, .int .i64 x831005_3, .int .i64 x831006_3, .int .i64 x831007_3, .int .i64 x831008_3, .int .i64 x831009_3]) ?_ 3 _ rfl; (with_reducible repeat (first | refine blk_drewN ?_ _ | refine blk_drew ?_ | refine blk_alloc ?_ _)); refine blk_put (cs := #[.int .i64 t841, .int .i64 t842, .int .i64 x831002_3, .int .i64 x831003_3, .int .i64 x831004_3, .int .i64 x831005_3, .int .i64 x831006_3, .int .i64 x831007_3, .int .i64 x831008_3, .int .i64 x831009_3]) ?_ 2 _ rfl; (with_reducible repeat (first | refine blk_drewN ?_ _ | refine blk_drew ?_ | refine blk_alloc ?_ _)); refine blk_put (cs := #[.int .i64 t841, .int .i64 x831001_3, .int .i64 x831002_3, .int .i64 x831003_3, .int .i64 x831004_3, .int .i64 x831005_3, .int .i64 x831006_3, .int .i64 x831007_3, .int .i64 x831008_3, .int .i64 x831009_3]) ?_ 1 _ rfl; (with_reducible repeat (first | refine blk_drewN ?_ _ | refine blk_drew ?_ | refine blk_alloc ?_ _)); refine blk_put (cs := #[.int .i64 x831000_3, .int .i64 x831001_3, .int .i64 x831002_3, .int .i64 x831003_3, .int .i64 x831004_3, .int .i64 x831005_3, .int .i64 x831006_3, .int .i64 x831007_3, .int .i64 x831008_3, .int .i64 x831009_3]) ?_ 0 _ rfl; (with_reducible repeat (first | refine blk_drewN ?_ _ | refine blk_drew ?_ | refine blk_alloc ?_ _)); exact BK830.out⟩, ⟨by repeat (first | (with_reducible first | exact HB.out | apply below_alloc | apply pw_below_drewN | apply below_drew1 | refine below_set ?_ GE817.out | refine below_set ?_ GE830.out) | exact HB.out)⟩⟩
                  · rw [if_neg c28] at H
                    have c28b0 : decide (x31_3 < ji27) = false := decide_eq_false c28
                    clear c28
                    replace H := Option.bind_eq_some_iff.mp H
                    obtain ⟨t851, A350, H⟩ := H
                    replace H : ((impl_line_list.f x831000_3 x831001_3 x831002_3 x831003_3 x831004_3 x831005_3 x831006_3 x831007_3 x831008_3 x831009_3 t851).bind fun t852 => (some (t852, true))) = some (r1, r2) := H
                    have A35 := Aside0.mk A350
                    clear A350
                    replace H := Option.bind_eq_some_iff.mp H
                    obtain ⟨t852, A360, H⟩ := H
                    replace H : (some (t852, true)) = some (r1, r2) := H
                    have A36 := Aside0.mk A360
                    clear A360
                    simp only [Option.some.injEq, Prod.mk.injEq] at H
                    obtain ⟨rfl, rfl⟩ := H
                    try go_wp2
                    have n0_ := Aside0.mk (blk_drew BK817.out)
                    have n1_ := Aside0.mk (blk_drew BK830.out)
                    have n2_ := Aside0.mk (below_drew1 HB.out)
                    clear BK817
                    clear BK830
                    clear HB
                    have BK817 := n0_
                    have BK830 := n1_
                    have HB := n2_
                    clear n0_ n1_ n2_
                    refine start_ (n := 6) (S := fun w' => w'.cell? ⟨gb830, 0, none⟩ = some (.int .i64 x831000_3) ∧ w'.cell? ⟨gb830, 1, none⟩ = some (.int .i64 x831001_3) ∧ w'.cell? ⟨gb830, 2, none⟩ = some (.int .i64 x831002_3) ∧ w'.cell? ⟨gb830, 3, none⟩ = some (.int .i64 x831003_3) ∧ w'.cell? ⟨gb830, 4, none⟩ = some (.int .i64 x831004_3) ∧ w'.cell? ⟨gb830, 5, none⟩ = some (.int .i64 x831005_3) ∧ w'.cell? ⟨gb830, 6, none⟩ = some (.int .i64 x831006_3) ∧ w'.cell? ⟨gb830, 7, none⟩ = some (.int .i64 x831007_3) ∧ w'.cell? ⟨gb830, 8, none⟩ = some (.int .i64 x831008_3) ∧ w'.cell? ⟨gb830, 9, none⟩ = some (.int .i64 x831009_3) ∧ w'.cell? ⟨gb817, 0, none⟩ = some (.slice A0_0 l0_0.length c0_0)) (ds := []) #[false, false, false, false, false, false] (by kernel_rfl) rfl rfl ⟨(blk_cell BK830.out 0).trans rfl, (blk_cell BK830.out 1).trans rfl, (blk_cell BK830.out 2).trans rfl, (blk_cell BK830.out 3).trans rfl, (blk_cell BK830.out 4).trans rfl, (blk_cell BK830.out 5).trans rfl, (blk_cell BK830.out 6).trans rfl, (blk_cell BK830.out 7).trans rfl, (blk_cell BK830.out 8).trans rfl, (blk_cell BK830.out 9).trans rfl, (blk_cell BK817.out 0).trans rfl⟩ (fun hHeld => ?_)
                    generalize wr.drew = w37 at BK817 BK830 HB hHeld ⊢
                    refine take_ (i := 0) (N := some 37) (v := ?_) (a' := ?_) #[true, false, false, false, false, false] rfl rfl (by kernel_rfl) (fun _ _ _ h => h) (Or.inl ⟨by rfl, ?_⟩) hHeld ?_ ?_
                    rotate_left
                    · rintro w' ⟨s0, s1, s2, s3, s4, s5, s6, s7, s8, s9, s10⟩
                      go_simp
                      with_reducible rfl
                    rotate_left
                    · simp only [Act.put, List.setIfInBounds_toArray, List.set_cons_zero, List.set_cons_succ, i64_w, i32_w]
                      rfl
                    refine take_ (i := 1) (N := some 38) (v := ?_) (a' := ?_) #[true, true, false, false, false, false] rfl rfl (by kernel_rfl) (fun _ _ _ h => h) (Or.inl ⟨by rfl, ?_⟩) hHeld ?_ ?_
                    rotate_left
                    · rintro w' ⟨s0, s1, s2, s3, s4, s5, s6, s7, s8, s9, s10⟩
                      go_simp
                      with_reducible rfl
                    rotate_left
                    · simp only [Act.put, List.setIfInBounds_toArray, List.set_cons_zero, List.set_cons_succ, i64_w, i32_w]
                      rfl
                    refine one_ (i := 2) (N := some 39) #[true, true, true, false, false, false] rfl rfl (by kernel_rfl) (by decide) (fun K hK => ?_)
                    refine goes_ Try.func58 (by kernel_rfl) rfl #[.agg #[.slice A0_0 l0_0.length c0_0]] (by rfl) rfl rfl (by (try simp only [List.map_toArray, List.map_cons, List.map_nil]); first | done | rfl | (simp only [List.length_drop, List.length_take]; rfl)) ?_
                    with_reducible refine (impl_Poset_n.calls _ _ l0_0 t851 _ ?side1 ?side2 A35.out).mono ?_
                    (case side1 => repeat (first | exact (Kd.C_below HR0_0.out HB.out) | (with_reducible refine Kd.C_alloc ?_ _) | (with_reducible refine Kd.C_drewN ?_ _) | (with_reducible refine Kd.C_drew ?_)))
                    (case side2 => exact HC0_0.out)
                    rintro e w38 ⟨rfl, hb⟩
                    refine ⟨_, rfl, ?_⟩
                    have n0_ := Aside0.mk (blk_below (g := gb817) (o := .cells #[.slice A0_0 l0_0.length c0_0] 28 (0, 0)) (by (with_reducible repeat (first | refine blk_drewN ?_ _ | refine blk_drew ?_ | refine blk_alloc ?_ _)); exact BK817.out) hb)
                    have n1_ := Aside0.mk (blk_below (g := gb830) (o := .cells #[.int .i64 x831000_3, .int .i64 x831001_3, .int .i64 x831002_3, .int .i64 x831003_3, .int .i64 x831004_3, .int .i64 x831005_3, .int .i64 x831006_3, .int .i64 x831007_3, .int .i64 x831008_3, .int .i64 x831009_3] 58 (0, 0)) (by (with_reducible repeat (first | refine blk_drewN ?_ _ | refine blk_drew ?_ | refine blk_alloc ?_ _)); exact BK830.out) hb)
                    have n2_ := Aside0.mk (below_step (by repeat (first | (with_reducible first | exact HB.out | apply below_alloc | apply pw_below_drewN | apply below_drew1 | refine below_set ?_ GE817.out | refine below_set ?_ GE830.out) | exact HB.out)) hb)
                    clear BK817
                    clear BK830
                    clear HB
                    have BK817 := n0_
                    have BK830 := n1_
                    have HB := n2_
                    clear n0_ n1_ n2_
                    (try clear hb)
                    (try clear hb2)
                    (try clear hk)
                    (try clear hi)
                    refine hK.out _ _ ⟨(blk_cell BK830.out 0).trans rfl, (blk_cell BK830.out 1).trans rfl, (blk_cell BK830.out 2).trans rfl, (blk_cell BK830.out 3).trans rfl, (blk_cell BK830.out 4).trans rfl, (blk_cell BK830.out 5).trans rfl, (blk_cell BK830.out 6).trans rfl, (blk_cell BK830.out 7).trans rfl, (blk_cell BK830.out 8).trans rfl, (blk_cell BK830.out 9).trans rfl, (blk_cell BK817.out 0).trans rfl⟩ (fun hHeld => ?_)
                    clear hK K
                    refine norm_ (a' := ?_) ?_ ?_
                    rotate_left
                    · show Act.put _ (some 39) _ = _
                      simp only [Act.put, List.setIfInBounds_toArray, List.set_cons_zero, List.set_cons_succ, i64_w, i32_w]
                      rfl
                    refine one_ (i := 3) (N := some 40) #[true, true, true, true, false, false] rfl rfl (by kernel_rfl) (by decide) (fun K hK => ?_)
                    refine goes_ Try.func61 (by kernel_rfl) rfl #[.agg #[.int .i64 x831000_3, .int .i64 x831001_3, .int .i64 x831002_3, .int .i64 x831003_3, .int .i64 x831004_3, .int .i64 x831005_3, .int .i64 x831006_3, .int .i64 x831007_3, .int .i64 x831008_3, .int .i64 x831009_3], .int .i64 t851] (by rfl) rfl rfl (by (try simp only [List.map_toArray, List.map_cons, List.map_nil]); first | done | rfl | (simp only [List.length_drop, List.length_take]; rfl)) ?_
                    with_reducible refine (impl_line_list.calls x831000_3 x831001_3 x831002_3 x831003_3 x831004_3 x831005_3 x831006_3 x831007_3 x831008_3 x831009_3 t851 t852 _ A36.out).mono ?_
                    rintro e w39 ⟨v853, rfl, ho0, hb⟩
                    refine ⟨_, rfl, ?_⟩
                    have n0_ := Aside0.mk (Kd.R_lower ho0 (below_size (by repeat (first | (with_reducible first | exact HB.out | apply below_alloc | apply pw_below_drewN | apply below_drew1 | refine below_set ?_ GE817.out | refine below_set ?_ GE830.out) | exact HB.out))))
                    have n1_ := Aside0.mk (blk_below (g := gb817) (o := .cells #[.slice A0_0 l0_0.length c0_0] 28 (0, 0)) (by (with_reducible repeat (first | refine blk_drewN ?_ _ | refine blk_drew ?_ | refine blk_alloc ?_ _)); exact BK817.out) hb)
                    have n2_ := Aside0.mk (blk_below (g := gb830) (o := .cells #[.int .i64 x831000_3, .int .i64 x831001_3, .int .i64 x831002_3, .int .i64 x831003_3, .int .i64 x831004_3, .int .i64 x831005_3, .int .i64 x831006_3, .int .i64 x831007_3, .int .i64 x831008_3, .int .i64 x831009_3] 58 (0, 0)) (by (with_reducible repeat (first | refine blk_drewN ?_ _ | refine blk_drew ?_ | refine blk_alloc ?_ _)); exact BK830.out) hb)
                    have n3_ := Aside0.mk (below_step (by repeat (first | (with_reducible first | exact HB.out | apply below_alloc | apply pw_below_drewN | apply below_drew1 | refine below_set ?_ GE817.out | refine below_set ?_ GE830.out) | exact HB.out)) hb)
                    clear BK817
                    clear BK830
                    clear HB
                    have HO854 := n0_
                    have BK817 := n1_
                    have BK830 := n2_
                    have HB := n3_
                    clear n0_ n1_ n2_ n3_
                    (try clear hb)
                    (try clear hb2)
                    (try clear hk)
                    (try clear hi)
                    (try clear ho0)
                    refine hK.out _ _ ⟨(blk_cell BK830.out 0).trans rfl, (blk_cell BK830.out 1).trans rfl, (blk_cell BK830.out 2).trans rfl, (blk_cell BK830.out 3).trans rfl, (blk_cell BK830.out 4).trans rfl, (blk_cell BK830.out 5).trans rfl, (blk_cell BK830.out 6).trans rfl, (blk_cell BK830.out 7).trans rfl, (blk_cell BK830.out 8).trans rfl, (blk_cell BK830.out 9).trans rfl, (blk_cell BK817.out 0).trans rfl⟩ (fun hHeld => ?_)
                    clear hK K
                    refine norm_ (a' := ?_) ?_ ?_
                    rotate_left
                    · show Act.put _ (some 40) _ = _
                      simp only [Act.put, List.setIfInBounds_toArray, List.set_cons_zero, List.set_cons_succ, i64_w, i32_w]
                      rfl
                    refine pure_ (i := 4) (N := some 6) (v := ?_) (a' := ?_) #[true, true, true, true, true, false] rfl rfl (by kernel_rfl) (fun _ _ _ h => h) (Or.inl ⟨by rfl, ?_⟩) ?_ ?_
                    rotate_left
                    · intro w'
                      go_simp
                      with_reducible rfl
                    rotate_left
                    · simp only [Act.put, List.setIfInBounds_toArray, List.set_cons_zero, List.set_cons_succ, i64_w, i32_w]
                      rfl
                    refine pure_ (i := 5) (N := some 7) (v := ?_) (a' := ?_) #[true, true, true, true, true, true] rfl rfl (by kernel_rfl) (fun _ _ _ h => h) (Or.inl ⟨by rfl, ?_⟩) ?_ ?_
                    rotate_left
                    · intro w'
                      go_simp
                      with_reducible rfl
                    rotate_left
                    · simp only [Act.put, List.setIfInBounds_toArray, List.set_cons_zero, List.set_cons_succ, i64_w, i32_w]
                      rfl
                    refine done_ (by kernel_rfl) ?_
                    try go_wp2
                    go_ret2
                    exact ⟨_, by first | rfl | (simp [errW_none, errW_some] <;> rfl) | (simp only [← hji15, ← hji27]; first | rfl | (simp [errW_none, errW_some] <;> rfl)) | (simp [*, errW_none, errW_some] <;> rfl), by (with_reducible repeat (first | apply Kd.R_alloc | apply Kd.R_drewN | apply Kd.R_drew)); exact HO854.out, by repeat (first | (with_reducible first | exact HB.out | apply below_alloc | apply pw_below_drewN | apply below_drew1 | refine below_set ?_ GE817.out | refine below_set ?_ GE830.out) | exact HB.out)⟩

end Go.Proofs.Ytjahclncpgllmaa.F
end
