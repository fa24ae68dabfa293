/- Part 3 of the texts below the row of FnExactLabelPolynomialAt: printed functions with their contracts, and plain lemmas. No condition. -/
import Derived.Test.YtemkddgfneohhaaZFnExactLabelPolynomialAt2
import Derived.Lib.Hide
import Derived.Maps.RangeWalk
import Derived.Maps.OwnOps
import Derived.Maps.Ext
import Derived.LoopTactic
import Derived.Deep.LoopGhost
section
namespace Go.Proofs.Ytemkddgfneohhaa.F
open Go.RowKit Go.Proofs.YtemkddgfneohhaaW.PrintWords Go.Proofs.YtemkddgfneohhaaW.PrintLast Go.Proofs.YtemkddgfneohhaaW.PrintMore
attribute [local go_sem] max2_int min2_int max_two min_two max_three min_three max_four min_four
set_option linter.unusedVariables false
set_option linter.unusedSimpArgs false

/-! ### spec_laChains: function 46 -/
mutual
def spec_laChains.l0 : Nat → Int → Bool → List Int → List Int → List Int → Option (Int)
  | 0, _, _, _, _, _ => none
  | k + 1, x1, x2, x7, x8, x162000 => if x1 > 0 then (if 0 ≤ (x8.length : Int) then (if ((x8.length : Int) : Int).toNat ≤ 35184372088832 then (spec_laChains.l1 k x1 x2 x7 x8 (List.replicate ((x8.length : Int) : Int).toNat 0) x7 (x7.length : Int) 0 x162000) else (none)) else (none)) else (if 0 ≤ (wrap64 ((x8.length : Int) - 1)) then (if (wrap64 ((x8.length : Int) - 1)) < (x8.length : Int) then (some (rd x8 (wrap64 ((x8.length : Int) - 1)))) else (none)) else (none))
def spec_laChains.l1 : Nat → Int → Bool → List Int → List Int → List Int → List Int → Int → Int → List Int → Option (Int)
  | 0, _, _, _, _, _, _, _, _, _ => none
  | k + 1, x1, x2, x7, x8, x9, x30, x31, x32, x162000 => if x32 < x31 then (if 0 ≤ x32 then (if x32 < (x30.length : Int) then (spec_laChains.l2 k x1 x2 x7 x8 x9 (rd x30 x32) x30 x31 x32 x7 (x7.length : Int) 0 x162000) else (none)) else (none)) else (spec_laChains.l0 k (wrap64 (x1 - 1)) x2 x7 x9 x162000)
def spec_laChains.l2 : Nat → Int → Bool → List Int → List Int → List Int → Int → List Int → Int → Int → List Int → Int → Int → List Int → Option (Int)
  | 0, _, _, _, _, _, _, _, _, _, _, _, _, _ => none
  | k + 1, x1, x2, x7, x8, x9, x11, x30, x31, x32, x36, x37, x38, x162000 => if x38 < x37 then (if 0 ≤ x38 then (if x38 < (x36.length : Int) then (if 0 ≤ x11 then (if x11 < (x8.length : Int) then (if (rd x8 x11) > 0 then (if (Go.bits .andNot .i64 x11 (rd x36 x38)) = 0 then (if x2 = true then ((spec_laFree.f k x162000 (Go.bits .andNot .i64 (rd x36 x38) x11)).bind fun t176 => (if t176 = true then (if 0 ≤ (rd x36 x38) then (if (rd x36 x38) < (x9.length : Int) then (spec_laChains.l2 k x1 x2 x7 x8 (x9.set ((rd x36 x38) : Int).toNat (wrap64 ((rd x9 (rd x36 x38)) + (rd x8 x11)))) x11 x30 x31 x32 x36 x37 (wrap64 (x38 + 1)) x162000) else (none)) else (none)) else (spec_laChains.l2 k x1 x2 x7 x8 x9 x11 x30 x31 x32 x36 x37 (wrap64 (x38 + 1)) x162000))) else (if 0 ≤ (rd x36 x38) then (if (rd x36 x38) < (x9.length : Int) then (spec_laChains.l2 k x1 x2 x7 x8 (x9.set ((rd x36 x38) : Int).toNat (wrap64 ((rd x9 (rd x36 x38)) + (rd x8 x11)))) x11 x30 x31 x32 x36 x37 (wrap64 (x38 + 1)) x162000) else (none)) else (none))) else (spec_laChains.l2 k x1 x2 x7 x8 x9 x11 x30 x31 x32 x36 x37 (wrap64 (x38 + 1)) x162000)) else (spec_laChains.l2 k x1 x2 x7 x8 x9 x11 x30 x31 x32 x36 x37 (wrap64 (x38 + 1)) x162000)) else (none)) else (none)) else (none)) else (none)) else (spec_laChains.l1 k x1 x2 x7 x8 x9 x30 x31 (wrap64 (x32 + 1)) x162000)
end
def spec_laChains.f (k : Nat) (l0_0 : List Int) (a1 : Int) (a2 : Bool) : Option (Int) := (spec_poIdeals.f k l0_0).bind fun t162 => (if 0 ≤ (shl .i64 1 (l0_0.length : Int)) then (if (shl .i64 1 (l0_0.length : Int) : Int).toNat ≤ 35184372088832 then ((some (List.replicate (shl .i64 1 (l0_0.length : Int) : Int).toNat 0 : List Int)).bind fun y165 => (if 0 < (y165.length : Int) then (spec_laChains.l0 k a1 a2 t162 (y165.set (0 : Int).toNat 1) l0_0) else (none))) else (none)) else (none))
theorem spec_laChains.mono_l : ∀ k, (∀ y0 y1 y2 y3 y4, LeO (spec_laChains.l0 k y0 y1 y2 y3 y4) (spec_laChains.l0 (k + 1) y0 y1 y2 y3 y4)) ∧ (∀ y0 y1 y2 y3 y4 y5 y6 y7 y8, LeO (spec_laChains.l1 k y0 y1 y2 y3 y4 y5 y6 y7 y8) (spec_laChains.l1 (k + 1) y0 y1 y2 y3 y4 y5 y6 y7 y8)) ∧ (∀ y0 y1 y2 y3 y4 y5 y6 y7 y8 y9 y10 y11 y12, LeO (spec_laChains.l2 k y0 y1 y2 y3 y4 y5 y6 y7 y8 y9 y10 y11 y12) (spec_laChains.l2 (k + 1) y0 y1 y2 y3 y4 y5 y6 y7 y8 y9 y10 y11 y12))
  | 0 => ⟨fun _ _ _ _ _ r h => by simp [spec_laChains.l0] at h, fun _ _ _ _ _ _ _ _ _ r h => by simp [spec_laChains.l1] at h, fun _ _ _ _ _ _ _ _ _ _ _ _ _ r h => by simp [spec_laChains.l2] at h⟩
  | k + 1 => by
    obtain ⟨ih0, ih1, ih2⟩ := spec_laChains.mono_l k
    refine ⟨?_, ?_, ?_⟩
    · intro y0 y1 y2 y3 y4
      unfold spec_laChains.l0
      repeat' first
      | (with_reducible exact ih0 _ _ _ _ _)
      | (with_reducible exact ih1 _ _ _ _ _ _ _ _ _)
      | (with_reducible exact ih2 _ _ _ _ _ _ _ _ _ _ _ _ _)
      | (with_reducible exact spec_laFree.mono _ _ _)
      | (with_reducible exact spec_poIdeals.mono _ _)
      | (with_reducible exact LeO.refl _)
      | (with_reducible exact LeO.none _)
      | (with_reducible refine LeO.ite ?_ ?_)
      | (with_reducible refine LeO.bind ?_ (fun _ => ?_))
      | exact ih0 _ _ _ _ _
      | exact ih1 _ _ _ _ _ _ _ _ _
      | exact ih2 _ _ _ _ _ _ _ _ _ _ _ _ _
      | exact spec_laFree.mono _ _ _
      | exact spec_poIdeals.mono _ _
      | exact LeO.none _
      | refine LeO.ite ?_ ?_
      | refine LeO.bind ?_ (fun _ => ?_)
    · intro y0 y1 y2 y3 y4 y5 y6 y7 y8
      unfold spec_laChains.l1
      repeat' first
      | (with_reducible exact ih0 _ _ _ _ _)
      | (with_reducible exact ih1 _ _ _ _ _ _ _ _ _)
      | (with_reducible exact ih2 _ _ _ _ _ _ _ _ _ _ _ _ _)
      | (with_reducible exact spec_laFree.mono _ _ _)
      | (with_reducible exact spec_poIdeals.mono _ _)
      | (with_reducible exact LeO.refl _)
      | (with_reducible exact LeO.none _)
      | (with_reducible refine LeO.ite ?_ ?_)
      | (with_reducible refine LeO.bind ?_ (fun _ => ?_))
      | exact ih0 _ _ _ _ _
      | exact ih1 _ _ _ _ _ _ _ _ _
      | exact ih2 _ _ _ _ _ _ _ _ _ _ _ _ _
      | exact spec_laFree.mono _ _ _
      | exact spec_poIdeals.mono _ _
      | exact LeO.none _
      | refine LeO.ite ?_ ?_
      | refine LeO.bind ?_ (fun _ => ?_)
    · intro y0 y1 y2 y3 y4 y5 y6 y7 y8 y9 y10 y11 y12
      unfold spec_laChains.l2
      repeat' first
      | (with_reducible exact ih0 _ _ _ _ _)
      | (with_reducible exact ih1 _ _ _ _ _ _ _ _ _)
      | (with_reducible exact ih2 _ _ _ _ _ _ _ _ _ _ _ _ _)
      | (with_reducible exact spec_laFree.mono _ _ _)
      | (with_reducible exact spec_poIdeals.mono _ _)
      | (with_reducible exact LeO.refl _)
      | (with_reducible exact LeO.none _)
      | (with_reducible refine LeO.ite ?_ ?_)
      | (with_reducible refine LeO.bind ?_ (fun _ => ?_))
      | exact ih0 _ _ _ _ _
      | exact ih1 _ _ _ _ _ _ _ _ _
      | exact ih2 _ _ _ _ _ _ _ _ _ _ _ _ _
      | exact spec_laFree.mono _ _ _
      | exact spec_poIdeals.mono _ _
      | exact LeO.none _
      | refine LeO.ite ?_ ?_
      | refine LeO.bind ?_ (fun _ => ?_)
theorem spec_laChains.mono : ∀ a0 a1 a2 k, LeO (spec_laChains.f k a0 a1 a2) (spec_laChains.f (k + 1) a0 a1 a2) := by
  intro a0 a1 a2 k
  obtain ⟨ih0, ih1, ih2⟩ := spec_laChains.mono_l k
  unfold spec_laChains.f
  repeat' first
      | (with_reducible exact ih0 _ _ _ _ _)
      | (with_reducible exact ih1 _ _ _ _ _ _ _ _ _)
      | (with_reducible exact ih2 _ _ _ _ _ _ _ _ _ _ _ _ _)
      | (with_reducible exact spec_laFree.mono _ _ _)
      | (with_reducible exact spec_poIdeals.mono _ _)
      | (with_reducible exact LeO.refl _)
      | (with_reducible exact LeO.none _)
      | (with_reducible refine LeO.ite ?_ ?_)
      | (with_reducible refine LeO.bind ?_ (fun _ => ?_))
      | exact ih0 _ _ _ _ _
      | exact ih1 _ _ _ _ _ _ _ _ _
      | exact ih2 _ _ _ _ _ _ _ _ _ _ _ _ _
      | exact spec_laFree.mono _ _ _
      | exact spec_poIdeals.mono _ _
      | exact LeO.none _
      | refine LeO.ite ?_ ?_
      | refine LeO.bind ?_ (fun _ => ?_)
def spec_laChains.T14 : Bool × List (List Nat × List Nat) := (true, [([], []), ([], []), ([0, 1], [0, 1]), ([2], [2]), ([], []), ([], []), ([4, 5], [4, 5]), ([6], [6]), ([3, 7], [3, 7]), ([0, 1, 0, 1, 2, 3, 4, 5, 6, 7, 8], [0, 1]), ([9, 8, 0, 1, 2, 3, 4, 5, 6, 7, 8], [8, 9])])
def spec_laChains.B14 : List Nat := [0, 0, 3, 7, 0, 0, 48, 112, 255, 511, 1023]
theorem spec_laChains.tab14 : rtab .any (opsOf Try.f46 14) = spec_laChains.T14 := by kernel_rfl
theorem spec_laChains.bits14 : waitsOk spec_laChains.T14.2 spec_laChains.B14 = true := by kernel_rfl
set_option maxHeartbeats 8000000 in
set_option maxRecDepth 100000 in
theorem spec_laChains.calls (k : Nat) (A0_0 : Option Addr) (c0_0 : Nat) (l0_0 : List Int) (a1 : Int) (a2 : Bool) (r : Int) (w : World) (hr0_0 : Kd.C (Kd.int .i64) w A0_0 l0_0.length l0_0) (hc0_0 : l0_0.length ≤ c0_0) (h : spec_laChains.f k l0_0 a1 a2 = some r) :
    Calls Try.prog 46 #[.agg #[.slice A0_0 l0_0.length c0_0], .int .i64 a1, .bool a2] w fun e w' => e = .returned (.int .i64 r) ∧ Below w.heap.size w w' := by
  have hu30 := Try.underlying30
  have HR0_0 := Aside0.mk hr0_0
  have HC0_0 := Aside0.mk hc0_0
  clear hr0_0 hc0_0
  have HB := Aside0.mk (Below.refl w.heap.size w)
  have H : ((spec_poIdeals.f k l0_0).bind fun t162 => (if 0 ≤ (shl .i64 1 (l0_0.length : Int)) then (if (shl .i64 1 (l0_0.length : Int) : Int).toNat ≤ 35184372088832 then ((some (List.replicate (shl .i64 1 (l0_0.length : Int) : Int).toNat 0 : List Int)).bind fun y165 => (if 0 < (y165.length : Int) then (spec_laChains.l0 k a1 a2 t162 (y165.set (0 : Int).toNat 1) l0_0) else (none))) else (none)) else (none))) = some r := h
  clear h
  replace H := Option.bind_eq_some_iff.mp H
  obtain ⟨t162, A40, H⟩ := H
  replace H : (if 0 ≤ (shl .i64 1 (l0_0.length : Int)) then (if (shl .i64 1 (l0_0.length : Int) : Int).toNat ≤ 35184372088832 then ((some (List.replicate (shl .i64 1 (l0_0.length : Int) : Int).toNat 0 : List Int)).bind fun y165 => (if 0 < (y165.length : Int) then (spec_laChains.l0 k a1 a2 t162 (y165.set (0 : Int).toNat 1) l0_0) else (none))) else (none)) else (none)) = some r := H
  have A4 := Aside0.mk A40
  clear A40
  obtain ⟨ji5, hji5⟩ : ∃ j_ : Int, (shl .i64 1 (l0_0.length : Int)) = j_ := ⟨_, rfl⟩
  replace H : (if 0 ≤ (ji5) then (if (ji5 : Int).toNat ≤ 35184372088832 then ((some (List.replicate (ji5 : Int).toNat 0 : List Int)).bind fun y165 => (if 0 < (y165.length : Int) then (spec_laChains.l0 k a1 a2 t162 (y165.set (0 : Int).toNat 1) l0_0) else (none))) else (none)) else (none)) = some r := by first | (rw [hji5] at H; exact H) | (simp only [hji5] at H ⊢; exact H)
  (try rw [hji5] at A4)
  have hji5_ : (IntKind.i64.wrap (1 * 2 ^ min (l0_0.length : Int).toNat 64)) = ji5 := hji5
  have hji5z : (l0_0.length : Int) ≤ 64 → (IntKind.i64.wrap (1 * 2 ^ (l0_0.length : Int).toNat)) = ji5 := shl_small hji5
  have hji5p : (IntKind.i64.wrap (1 * 2 ^ min l0_0.length 64)) = ji5 := hji5_
  have hji5q : (l0_0.length : Int) ≤ 64 → (IntKind.i64.wrap (1 * 2 ^ l0_0.length)) = ji5 := hji5z
  have hji5r : (IntKind.i64.wrap (2 ^ min l0_0.length 64)) = ji5 := by have h_ := hji5p; rw [Int.one_mul] at h_; exact h_
  have hji5s : (l0_0.length : Int) ≤ 64 → (IntKind.i64.wrap (2 ^ l0_0.length)) = ji5 := fun hle_ => by have h_ := hji5q hle_; rw [Int.one_mul] at h_; exact h_
  have hji5u : (IntKind.i64.wrap (2 ^ min (l0_0.length : Int).toNat 64)) = ji5 := by have h_ := hji5_; rw [Int.one_mul] at h_; exact h_
  have hji5v : (l0_0.length : Int) ≤ 64 → (IntKind.i64.wrap (2 ^ (l0_0.length : Int).toNat)) = ji5 := fun hle_ => by have h_ := hji5z hle_; rw [Int.one_mul] at h_; exact h_
  have hji5y : (wrap64 (1 * 2 ^ min (l0_0.length : Int).toNat 64)) = ji5 := (i64_w _).symm.trans hji5_
  have hji5x : (l0_0.length : Int) ≤ 64 → (wrap64 (1 * 2 ^ (l0_0.length : Int).toNat)) = ji5 := fun h_ => (i64_w _).symm.trans (hji5z h_)
  by_cases c6 : 0 ≤ (ji5)
  · rw [if_pos c6] at H
    have c6b0 := eq_true c6
    have c6b1 : decide (0 ≤ (ji5)) = true := decide_eq_true c6
    clear c6
    by_cases c7 : (ji5 : Int).toNat ≤ 35184372088832
    · rw [if_pos c7] at H
      have c7b0 := eq_true c7
      have c7b1 : decide ((ji5 : Int).toNat ≤ 35184372088832) = true := decide_eq_true c7
      clear c7
      obtain ⟨y165, hy165⟩ : ∃ y_ : List Int, y_ = (List.replicate (ji5 : Int).toNat 0) := ⟨_, rfl⟩
      replace H : (if 0 < (y165.length : Int) then (spec_laChains.l0 k a1 a2 t162 (y165.set (0 : Int).toNat 1) l0_0) else (none)) = some r := by first | (rw [hy165]; with_reducible exact H) | (have H2_ := (Option.bind_some _ _).symm.trans H; rw [hy165]; with_reducible exact H2_) | (have H2_ := (Option.bind_some _ _).symm.trans H; with_reducible exact H2_) | with_reducible exact H | (rw [hy165]; exact H) | exact H
      have Ny165 := Aside0.mk hy165
      clear hy165
      by_cases c8 : 0 < (y165.length : Int)
      · rw [if_pos c8] at H
        have c8b0 : decide (0 < (y165.length : Int)) = true := decide_eq_true c8
        have c8b1 : decide (0 < y165.length) = true := decide_eq_true (by omega)
        clear c8
        obtain ⟨y168, hy168⟩ : ∃ y_ : List Int, y_ = (y165.set (0 : Int).toNat 1) := ⟨_, rfl⟩
        replace H : (spec_laChains.l0 k a1 a2 t162 y168 l0_0) = some r := by first | (rw [hy168]; with_reducible exact H) | (have H2_ := (Option.bind_some _ _).symm.trans H; rw [hy168]; with_reducible exact H2_) | (have H2_ := (Option.bind_some _ _).symm.trans H; with_reducible exact H2_) | with_reducible exact H | (rw [hy168]; exact H) | exact H
        have Ny168 := Aside0.mk hy168
        clear hy168
        have H' := Aside0.mk H
        clear H
        go_enter Try.func46, Try.ntmps46
        go_wp2_with (first | ((with_reducible refine gate_dst (N := 3) rfl ?_); refine box_event ?hg (N := 3) ?hd (cs := #[.slice A0_0 l0_0.length c0_0]) (t := 30) ?hr ?_; (case hd => rfl); (case hg => rfl); (case hr => first | (go_simp; done) | (go_simp; rfl)); intro gb161 hg w10 hbox hb; have n0_ := Aside0.mk (below_step (by repeat (first | (with_reducible first | exact HB.out | apply below_alloc | apply pw_below_drewN | apply below_drew1) | exact HB.out)) hb); have n1_ := Aside0.mk (hbox); have n2_ := Aside0.mk ((by rw [hg]; exact (below_size (by repeat (first | (with_reducible first | exact HB.out | apply below_alloc | apply pw_below_drewN | apply below_drew1) | exact HB.out))) : w.heap.size ≤ gb161)); have n3_ := Aside0.mk ((by rw [hg]; exact (below_size (by repeat (first | (with_reducible first | exact HB.out | apply below_alloc | apply pw_below_drewN | apply below_drew1) | exact HB.out))) : w.heap.size ≤ gb161)); clear HB; have HB := n0_; have BK161 := n1_; have GW161 := n2_; have GE161 := n3_; clear n0_ n1_ n2_ n3_; clear hb hbox hg; have hcz11_0 : w10.cell? ⟨gb161, 0, none⟩ = some (.slice A0_0 l0_0.length c0_0) := (blk_cell BK161.out 0).trans rfl; have hfz11_0 := blk_frozen BK161.out 0) | ((with_reducible refine gate_callee (f := 68) rfl ?_); refine goesL_ (some 15) rfl rfl Try.func68 (by kernel_rfl) rfl #[.agg #[.slice A0_0 l0_0.length c0_0]] rfl (by (try simp only [List.map_toArray, List.map_cons, List.map_nil]); first | done | rfl | (simp only [List.length_drop, List.length_take]; rfl)) ?_; (with_reducible refine (spec_poIdeals.calls k _ _ l0_0 t162 _ ?side1 ?side2 A4.out).mono ?_); (case side1 => repeat (first | exact (Kd.C_below HR0_0.out HB.out) | (with_reducible refine Kd.C_alloc ?_ _) | (with_reducible refine Kd.C_drewN ?_ _) | (with_reducible refine Kd.C_drew ?_))); (case side2 => exact HC0_0.out); rintro e w12 ⟨v163, rfl, ho0, hb⟩; refine ⟨_, rfl, ?_⟩; have n0_ := Aside0.mk (Kd.R_lower ho0 (below_size (by repeat (first | (with_reducible first | exact HB.out | apply below_alloc | apply pw_below_drewN | apply below_drew1 | refine below_set ?_ GE161.out) | exact HB.out)))); have n1_ := Aside0.mk (blk_below (g := gb161) (o := .cells #[.slice A0_0 l0_0.length c0_0] 30 (0, 0)) (by (with_reducible repeat (first | refine blk_drewN ?_ _ | refine blk_drew ?_ | refine blk_alloc ?_ _)); exact BK161.out) hb); have n2_ := Aside0.mk (below_step (by repeat (first | (with_reducible first | exact HB.out | apply below_alloc | apply pw_below_drewN | apply below_drew1 | refine below_set ?_ GE161.out) | exact HB.out)) hb); clear BK161; clear HB; have HO164 := n0_; have BK161 := n1_; have HB := n2_; clear n0_ n1_ n2_; (try clear hb); (try clear hb2); (try clear hk); (try clear hi); (try clear ho0); have hcz13_0 : w12.cell? ⟨gb161, 0, none⟩ = some (.slice A0_0 l0_0.length c0_0) := (blk_cell BK161.out 0).trans rfl; have hfz13_0 := blk_frozen BK161.out 0) | ((with_reducible refine gate_dst (N := 20) rfl ?_); refine Kd.R_make (Kd.int .i64) _ 3 rfl (N := 20) rfl 25 _ _ rfl ji5 rfl rfl Try.underlying25 (.int .i64 0) 8 info3 rfl (by decide) (by omega) 0 (ok := fun _ => True) (okp := fun _ => True) rfl (fun _ hk => hk) trivial (of_decide_eq_true (by first | (with_reducible assumption) | assumption)) (Nat.le_trans (Nat.mul_le_mul_right _ (of_decide_eq_true (by first | (with_reducible assumption) | assumption) : ji5.toNat ≤ 35184372088832)) (by omega)) (Below.refl _ _) (Nat.le_refl _) ?_; intro v166 w14 ho15 hb hg_ hnew_; clear hg_ hnew_; (first | rw [← Ny165.out] at ho15 | (simp only [Int.reduceToNat] at ho15; rw [← Ny165.out] at ho15)); have n0_ := Aside0.mk (Kd.R_elder' (by (with_reducible repeat (first | apply Kd.R_alloc | apply Kd.R_drewN | apply Kd.R_drew)); exact HO164.out) (Kd.R_base ho15) hb); have n1_ := Aside0.mk (Kd.R_lower (Kd.R_new' ho15 (Kd.R_lt (by (with_reducible repeat (first | apply Kd.R_alloc | apply Kd.R_drewN | apply Kd.R_drew)); exact HO164.out))) (below_size (by repeat (first | (with_reducible first | exact HB.out | apply below_alloc | apply pw_below_drewN | apply below_drew1 | refine below_set ?_ GE161.out) | exact HB.out)))); have n2_ := Aside0.mk (blk_below (g := gb161) (o := .cells #[.slice A0_0 l0_0.length c0_0] 30 (0, 0)) (by (with_reducible repeat (first | refine blk_drewN ?_ _ | refine blk_drew ?_ | refine blk_alloc ?_ _)); exact BK161.out) hb); have n3_ := Aside0.mk (below_step (by repeat (first | (with_reducible first | exact HB.out | apply below_alloc | apply pw_below_drewN | apply below_drew1 | refine below_set ?_ GE161.out) | exact HB.out)) hb); clear HO164; clear BK161; clear HB; have HO164 := n0_; have HO167 := n1_; have BK161 := n2_; have HB := n3_; clear n0_ n1_ n2_ n3_; clear hb ho15; have p9 : 0 ≤ (0 : Int) := (by omega); have q9 : (0 : Int) < ((y165.length : Int) : Int) := of_decide_eq_true (by first | (with_reducible assumption) | assumption); have qi9 : (0 < y165.length) = True := eq_true (by omega); obtain ⟨go9, co9, eo9, gb9, gl9, cl9, HG9⟩ := Kd.R_form HO167.out (by omega); (first | cases eo9 | (injection eo9 with ea_ en_ ec_; (first | subst ea_ | (injection ea_ with ea_; subst ea_)); subst ec_; clear en_)); have GB9 := Aside0.mk gb9; have GG9 := Aside0.mk HG9; clear gb9 gl9 HG9; obtain ⟨hx9_0, hf9_0⟩ := Kd.R_celln 0 HO167.out (0 : Int) p9 q9; (try rw [show ((0 : Int)).toNat = 0 from rfl] at hx9_0); (try simp only [Nat.reduceMul, Nat.zero_mul, Nat.zero_add, Nat.reduceAdd] at hx9_0); (try rw [show ((0 : Int)).toNat = 0 from rfl] at hf9_0); (try simp only [Nat.reduceMul, Nat.zero_mul, Nat.zero_add, Nat.reduceAdd] at hf9_0); replace p9 := eq_true p9; replace q9 := eq_true q9; have n_ := Aside0.mk (Kd.R_mono (ok' := (fun k_ => some k_ ≠ (v163 : Value).ownBlock)) HO167.out (fun k_ hk => hk.2)); clear HO167; have HO167 := n_; clear n_; obtain ⟨hy16_, hz16_⟩ := Kd.R_celln 0 HO167.out (0 : Int) (by omega) (of_decide_eq_true (by first | (with_reducible assumption) | assumption)); (try simp only [Int.reduceToNat, Int.toNat_zero, Int.toNat_ofNat, Nat.reduceMul, Nat.zero_mul, Nat.zero_add] at hy16_ hz16_); (try rw [show ((0 : Int)).toNat = 0 from rfl] at hy16_); (try rw [show ((0 : Int)).toNat = 0 from rfl] at hz16_); have HP16 := Kd.R_putg HO167.out (0 : Int) 1) | ((with_reducible refine gate_store (t := 3) (p := 22) rfl ?_); refine store_event (t := 3) (p := 22) (v := ?vo_w17) (w1 := (w14.setCell ⟨go9, (0 : Int).toNat, none⟩ (.int .i64 1))) ?hg ?ho ?hn ?hr ?_; (case ho => rfl); (case hg => rfl); (case hn => rfl); (case hr => first | (go_simp; done) | (go_simp; rfl) | (obtain ⟨Av_, cv_, ev_⟩ := Kd.R_slice HO164.out; subst ev_; go_simp; done) | (obtain ⟨Av_, cv_, ev_⟩ := Kd.R_slice HO164.out; subst ev_; go_simp; rfl) | (obtain ⟨Av_, cv_, ev_⟩ := Kd.R_slice HO167.out; subst ev_; go_simp; done) | (obtain ⟨Av_, cv_, ev_⟩ := Kd.R_slice HO167.out; subst ev_; go_simp; rfl) | (obtain ⟨Av_, cv_, ev_⟩ := Kd.R_slice HO172.out; subst ev_; go_simp; done) | (obtain ⟨Av_, cv_, ev_⟩ := Kd.R_slice HO172.out; subst ev_; go_simp; rfl)); intro w17 hw; have hg : w14.grownBy w17 (some go9) := (by rw [hw]; exact HP16.2); have hp_ : Kd.R (Kd.int .i64) 3 w17 w.heap.size (fun k_ => some k_ ≠ (v163 : Value).ownBlock) (.slice (some ⟨go9, 0, none⟩) y165.length co9) y168 := (by rw [hw, Ny168.out]; exact HP16.1); clear HP16; have n0_ := Aside0.mk (blk_grown (g := gb161) (o := .cells #[.slice A0_0 l0_0.length c0_0] 30 (0, 0)) (by (with_reducible repeat (first | refine blk_drewN ?_ _ | refine blk_drew ?_ | refine blk_alloc ?_ _)); exact BK161.out) hg (Kd.R_ne HO167.out BK161.out (by decide))); have n1_ := Aside0.mk (Kd.R_after (v := (.slice (some ⟨go9, 0, none⟩) y165.length co9)) (v1 := (.slice (some ⟨go9, 0, none⟩) y165.length co9)) (ok := (fun _ => True)) (by (with_reducible repeat (first | apply Kd.R_alloc | apply Kd.R_drewN | apply Kd.R_drew)); exact HO164.out) hg (.inl rfl)); have n2_ := Aside0.mk (hp_); have n3_ := Aside0.mk ((by rw [hw]; exact below_set (HB.out) GB9.out : Below w.heap.size w w17)); clear BK161; clear HO164; clear HO167; clear HB; have BK161 := n0_; have HO164 := n1_; have HO167 := n2_; have HB := n3_; clear n0_ n1_ n2_ n3_; clear hg hw hp_))
        go_loopg [1, 8] k (fun kq v1 v8 w' => ∃ (x1_1 : Int) (x7_1 : List Int) (x8_1 : List Int), v1 = .int .i64 x1_1 ∧ Aside0 (spec_laChains.l0 kq x1_1 a2 x7_1 x8_1 l0_0 = some r) ∧ Aside0 (kq ≤ k) ∧ Aside0 (Kd.R (Kd.int .i64) 3 w' w.heap.size (fun k_ => some k_ ≠ (v8 : Value).ownBlock) v163 x7_1) ∧ Aside0 (Kd.R (Kd.int .i64) 3 w' w.heap.size (fun k_ => some k_ ≠ (v163 : Value).ownBlock) v8 x8_1) ∧ Aside0 (w'.heap[gb161]? = some (.cells #[(.slice A0_0 l0_0.length c0_0)] 30 (0, 0))) ∧ Aside0 (Below w.heap.size w w'))
        case atStart => exact ⟨(a1), (t162), (y168), (by first | rfl | (simp; done) | (simp [*]; done)), H', ⟨Nat.le_refl _⟩, ⟨by (with_reducible repeat (first | apply Kd.R_alloc | apply Kd.R_drewN | apply Kd.R_drew)); exact Kd.R_mono HO164.out (fun _ hk => hk.2)⟩, ⟨by (with_reducible repeat (first | apply Kd.R_alloc | apply Kd.R_drewN | apply Kd.R_drew)); exact HO167.out⟩, ⟨by (with_reducible repeat (first | refine blk_drewN ?_ _ | refine blk_drew ?_ | refine blk_alloc ?_ _)); exact BK161.out⟩, ⟨by repeat (first | (with_reducible first | exact HB.out | apply below_alloc | apply pw_below_drewN | apply below_drew1 | refine below_set ?_ GE161.out) | exact HB.out)⟩⟩
        case round =>
          clear H'
          try clear p2
          try clear c4
          try clear c6
          try clear c6b0
          try clear c6b1
          try clear p6
          try clear c7
          try clear c7b0
          try clear c7b1
          try clear c8
          try clear c8b0
          try clear c8b1
          try clear p9
          try clear q9
          try clear hx9
          try clear qi9
          try clear hf9
          try clear hcz11_0
          try clear hcz13_0
          try clear hfz11_0
          try clear hfz13_0
          try clear hx9_0
          try clear p9
          try clear q9
          obtain ⟨x1_1, x7_1, x8_1, rfl, HA, HK1, HO_7, HO_8, BK161, HB⟩ := hrel
          cases gk with
          | zero => exact absurd HA.out (by simp [spec_laChains.l0])
          | succ k1 =>
            have H := HA.out
            clear HA
            simp only [spec_laChains.l0] at H
            by_cases c18 : x1_1 > 0
            · rw [if_pos c18] at H
              have c18b0 : decide (0 < x1_1) = true := decide_eq_true c18
              clear c18
              by_cases c19 : 0 ≤ (x8_1.length : Int)
              · rw [if_pos c19] at H
                have c19b0 := eq_true c19
                have c19b1 : decide (0 ≤ (x8_1.length : Int)) = true := decide_eq_true c19
                clear c19
                by_cases c20 : ((x8_1.length : Int) : Int).toNat ≤ 35184372088832
                · rw [if_pos c20] at H
                  have c20b0 := eq_true c20
                  have c20b1 : decide (((x8_1.length : Int) : Int).toNat ≤ 35184372088832) = true := decide_eq_true c20
                  clear c20
                  obtain ⟨y170, hy170⟩ : ∃ y_ : List Int, y_ = (List.replicate ((x8_1.length : Int) : Int).toNat 0) := ⟨_, rfl⟩
                  replace H : (spec_laChains.l1 k1 x1_1 a2 x7_1 x8_1 y170 x7_1 (x7_1.length : Int) 0 l0_0) = some r := by first | (rw [hy170]; with_reducible exact H) | (have H2_ := (Option.bind_some _ _).symm.trans H; rw [hy170]; with_reducible exact H2_) | (have H2_ := (Option.bind_some _ _).symm.trans H; with_reducible exact H2_) | with_reducible exact H | (rw [hy170]; exact H) | exact H
                  have Ny170 := Aside0.mk hy170
                  clear hy170
                  have H' := Aside0.mk H
                  clear H
                  obtain ⟨Ao21, co21, eo21⟩ := Kd.R_slice HO_8.out
                  subst eo21
                  go_wp2_with (first | ((with_reducible refine gate_dst (N := 29) rfl ?_); refine Kd.R_make (Kd.int .i64) _ 3 rfl (N := 29) rfl 25 _ _ rfl (x8_1.length : Int) rfl rfl Try.underlying25 (.int .i64 0) 8 info3 rfl (by decide) (by omega) 0 (ok := fun _ => True) (okp := fun _ => True) rfl (fun _ hk => hk) trivial (of_decide_eq_true (by first | (with_reducible assumption) | assumption)) (Nat.le_trans (Nat.mul_le_mul_right _ (of_decide_eq_true (by first | (with_reducible assumption) | assumption) : (x8_1.length : Int).toNat ≤ 35184372088832)) (by omega)) (Below.refl _ _) (Nat.le_refl _) ?_; intro v171 w22 ho23 hb hg_ hnew_; clear hg_ hnew_; (first | rw [← Ny170.out] at ho23 | (simp only [Int.reduceToNat] at ho23; rw [← Ny170.out] at ho23)); have n0_ := Aside0.mk (Kd.R_elder' (by (with_reducible repeat (first | apply Kd.R_alloc | apply Kd.R_drewN | apply Kd.R_drew)); exact HO_7.out) (Kd.R_base ho23) hb); have n1_ := Aside0.mk (Kd.R_elder' (by (with_reducible repeat (first | apply Kd.R_alloc | apply Kd.R_drewN | apply Kd.R_drew)); exact HO_8.out) (Kd.R_base ho23) hb); have n2_ := Aside0.mk (Kd.R_lower (Kd.R_new' (Kd.R_new' ho23 (Kd.R_lt (by (with_reducible repeat (first | apply Kd.R_alloc | apply Kd.R_drewN | apply Kd.R_drew)); exact HO_7.out))) (Kd.R_lt (by (with_reducible repeat (first | apply Kd.R_alloc | apply Kd.R_drewN | apply Kd.R_drew)); exact HO_8.out))) (below_size (by repeat (first | (with_reducible first | exact HB.out | apply below_alloc | apply pw_below_drewN | apply below_drew1 | refine below_set ?_ GE161.out) | exact HB.out)))); have n3_ := Aside0.mk (blk_below (g := gb161) (o := .cells #[.slice A0_0 l0_0.length c0_0] 30 (0, 0)) (by (with_reducible repeat (first | refine blk_drewN ?_ _ | refine blk_drew ?_ | refine blk_alloc ?_ _)); exact BK161.out) hb); have n4_ := Aside0.mk (below_step (by repeat (first | (with_reducible first | exact HB.out | apply below_alloc | apply pw_below_drewN | apply below_drew1 | refine below_set ?_ GE161.out) | exact HB.out)) hb); clear HO_7; clear HO_8; clear BK161; clear HB; have HO_7 := n0_; have HO_8 := n1_; have HO172 := n2_; have BK161 := n3_; have HB := n4_; clear n0_ n1_ n2_ n3_ n4_; clear hb ho23; obtain ⟨Ao24, co24, eo24⟩ := Kd.R_slice HO_7.out; subst eo24))
                  go_loopg [32] k1 (fun kq v32 w' => ∃ (x9_2 : List Int) (x32_2 : Int), v32 = .int .i64 x32_2 ∧ Aside0 (spec_laChains.l1 kq x1_1 a2 x7_1 x8_1 x9_2 x7_1 (x7_1.length : Int) x32_2 l0_0 = some r) ∧ Aside0 (kq ≤ k1) ∧ Aside0 (Kd.R (Kd.int .i64) 3 w' w.heap.size (fun k_ => some k_ ≠ ((.slice Ao21 x8_1.length co21) : Value).ownBlock ∧ some k_ ≠ (v171 : Value).ownBlock) (.slice Ao24 x7_1.length co24) x7_1) ∧ Aside0 (Kd.R (Kd.int .i64) 3 w' w.heap.size (fun k_ => some k_ ≠ ((.slice Ao24 x7_1.length co24) : Value).ownBlock ∧ some k_ ≠ (v171 : Value).ownBlock ∧ some k_ ≠ ((.slice Ao24 x7_1.length co24) : Value).ownBlock) (.slice Ao21 x8_1.length co21) x8_1) ∧ Aside0 (Kd.R (Kd.int .i64) 3 w' w.heap.size (fun k_ => some k_ ≠ ((.slice Ao24 x7_1.length co24) : Value).ownBlock ∧ some k_ ≠ ((.slice Ao21 x8_1.length co21) : Value).ownBlock ∧ some k_ ≠ ((.slice Ao24 x7_1.length co24) : Value).ownBlock) v171 x9_2) ∧ Aside0 (Kd.R (Kd.int .i64) 3 w' w.heap.size (fun k_ => some k_ ≠ ((.slice Ao21 x8_1.length co21) : Value).ownBlock ∧ some k_ ≠ (v171 : Value).ownBlock) (.slice Ao24 x7_1.length co24) x7_1) ∧ Aside0 (w'.heap[gb161]? = some (.cells #[(.slice A0_0 l0_0.length c0_0)] 30 (0, 0))) ∧ Aside0 (Below w.heap.size w w'))
                  case atStart => exact ⟨(y170), (0), (by first | rfl | (simp; done) | (simp [*]; done)), H', ⟨Nat.le_refl _⟩, ⟨by (with_reducible repeat (first | apply Kd.R_alloc | apply Kd.R_drewN | apply Kd.R_drew)); exact HO_7.out⟩, ⟨by (with_reducible repeat (first | apply Kd.R_alloc | apply Kd.R_drewN | apply Kd.R_drew)); exact Kd.R_mono HO_8.out (fun _ hk => ⟨hk.1, ⟨hk.2, hk.1⟩⟩)⟩, ⟨by (with_reducible repeat (first | apply Kd.R_alloc | apply Kd.R_drewN | apply Kd.R_drew)); exact Kd.R_mono HO172.out (fun _ hk => ⟨hk.1.2, ⟨hk.2, hk.1.2⟩⟩)⟩, ⟨by (with_reducible repeat (first | apply Kd.R_alloc | apply Kd.R_drewN | apply Kd.R_drew)); exact HO_7.out⟩, ⟨by (with_reducible repeat (first | refine blk_drewN ?_ _ | refine blk_drew ?_ | refine blk_alloc ?_ _)); exact BK161.out⟩, ⟨by repeat (first | (with_reducible first | exact HB.out | apply below_alloc | apply pw_below_drewN | apply below_drew1 | refine below_set ?_ GE161.out) | exact HB.out)⟩⟩
                  case round =>
                    clear H'
                    try clear c1
                    try clear c2
                    try clear p2
                    try clear c4
                    try clear c6
                    try clear c6b0
                    try clear c6b1
                    try clear p6
                    try clear c7
                    try clear c7b0
                    try clear c7b1
                    try clear c8
                    try clear c8b0
                    try clear c8b1
                    try clear p9
                    try clear q9
                    try clear hx9
                    try clear qi9
                    try clear hf9
                    try clear c18
                    try clear c18b0
                    try clear c19
                    try clear c19b0
                    try clear c19b1
                    try clear c20
                    try clear c20b0
                    try clear c20b1
                    try clear hcz11_0
                    try clear hcz13_0
                    try clear hfz11_0
                    try clear hfz13_0
                    try clear hx9_0
                    try clear p2
                    try clear p6
                    try clear p9
                    try clear q9
                    obtain ⟨x9_2, x32_2, rfl, HA, HK2, HO_7, HO_8, HO_9, HO_30, BK161, HB⟩ := hrel
                    cases gk with
                    | zero => exact absurd HA.out (by simp [spec_laChains.l1])
                    | succ k2 =>
                      have H := HA.out
                      clear HA
                      simp only [spec_laChains.l1] at H
                      by_cases c25 : x32_2 < (x7_1.length : Int)
                      · rw [if_pos c25] at H
                        have c25b0 : decide (x32_2 < (x7_1.length : Int)) = true := decide_eq_true c25
                        clear c25
                        by_cases c26 : 0 ≤ x32_2
                        · rw [if_pos c26] at H
                          have c26b0 : decide (0 ≤ x32_2) = true := decide_eq_true c26
                          clear c26
                          by_cases c27 : x32_2 < (x7_1.length : Int)
                          · rw [if_pos c27] at H
                            have c27b0 : decide (x32_2 < (x7_1.length : Int)) = true := decide_eq_true c27
                            clear c27
                            have H' := Aside0.mk H
                            clear H
                            have p173 : 0 ≤ (x32_2 : Int) := of_decide_eq_true (by first | (with_reducible assumption) | assumption)
                            have q173 : x32_2 < (x7_1.length : Int) := of_decide_eq_true (by first | (with_reducible assumption) | assumption)
                            obtain ⟨ad173, e173, hx173_0⟩ := Kd.at_int (Kd.R_reads' HO_30.out).2.2 x32_2 p173 q173
                            cases e173
                            replace p173 := eq_true p173
                            replace q173 := eq_true q173
                            go_wp2
                            go_loopg [38] k2 (fun kq v38 w' => ∃ (x9_3 : List Int) (x38_3 : Int), v38 = .int .i64 x38_3 ∧ Aside0 (spec_laChains.l2 kq x1_1 a2 x7_1 x8_1 x9_3 (rd x7_1 x32_2) x7_1 (x7_1.length : Int) x32_2 x7_1 (x7_1.length : Int) x38_3 l0_0 = some r) ∧ Aside0 (kq ≤ k2) ∧ Aside0 (Kd.R (Kd.int .i64) 3 w' w.heap.size (fun k_ => some k_ ≠ ((.slice Ao21 x8_1.length co21) : Value).ownBlock ∧ some k_ ≠ (v171 : Value).ownBlock) (.slice (some ad173) x7_1.length co24) x7_1) ∧ Aside0 (Kd.R (Kd.int .i64) 3 w' w.heap.size (fun k_ => some k_ ≠ ((.slice (some ad173) x7_1.length co24) : Value).ownBlock ∧ some k_ ≠ (v171 : Value).ownBlock ∧ some k_ ≠ ((.slice (some ad173) x7_1.length co24) : Value).ownBlock ∧ some k_ ≠ ((.slice (some ad173) x7_1.length co24) : Value).ownBlock) (.slice Ao21 x8_1.length co21) x8_1) ∧ Aside0 (Kd.R (Kd.int .i64) 3 w' w.heap.size (fun k_ => some k_ ≠ ((.slice (some ad173) x7_1.length co24) : Value).ownBlock ∧ some k_ ≠ ((.slice Ao21 x8_1.length co21) : Value).ownBlock ∧ some k_ ≠ ((.slice (some ad173) x7_1.length co24) : Value).ownBlock ∧ some k_ ≠ ((.slice (some ad173) x7_1.length co24) : Value).ownBlock) v171 x9_3) ∧ Aside0 (Kd.R (Kd.int .i64) 3 w' w.heap.size (fun k_ => some k_ ≠ ((.slice Ao21 x8_1.length co21) : Value).ownBlock ∧ some k_ ≠ (v171 : Value).ownBlock) (.slice (some ad173) x7_1.length co24) x7_1) ∧ Aside0 (Kd.R (Kd.int .i64) 3 w' w.heap.size (fun k_ => some k_ ≠ ((.slice Ao21 x8_1.length co21) : Value).ownBlock ∧ some k_ ≠ (v171 : Value).ownBlock) (.slice (some ad173) x7_1.length co24) x7_1) ∧ Aside0 (w'.heap[gb161]? = some (.cells #[(.slice A0_0 l0_0.length c0_0)] 30 (0, 0))) ∧ Aside0 (Below w.heap.size w w'))
                            case atStart => exact ⟨(x9_2), (0), (by first | rfl | (simp; done) | (simp [*]; done)), H', ⟨Nat.le_refl _⟩, ⟨by (with_reducible repeat (first | apply Kd.R_alloc | apply Kd.R_drewN | apply Kd.R_drew)); exact HO_7.out⟩, ⟨by (with_reducible repeat (first | apply Kd.R_alloc | apply Kd.R_drewN | apply Kd.R_drew)); exact Kd.R_mono HO_8.out (fun _ hk => ⟨hk.1, ⟨hk.2.1, ⟨hk.2.2, hk.1⟩⟩⟩)⟩, ⟨by (with_reducible repeat (first | apply Kd.R_alloc | apply Kd.R_drewN | apply Kd.R_drew)); exact Kd.R_mono HO_9.out (fun _ hk => ⟨hk.1, ⟨hk.2.1, ⟨hk.2.2, hk.1⟩⟩⟩)⟩, ⟨by (with_reducible repeat (first | apply Kd.R_alloc | apply Kd.R_drewN | apply Kd.R_drew)); exact HO_30.out⟩, ⟨by (with_reducible repeat (first | apply Kd.R_alloc | apply Kd.R_drewN | apply Kd.R_drew)); exact HO_7.out⟩, ⟨by (with_reducible repeat (first | refine blk_drewN ?_ _ | refine blk_drew ?_ | refine blk_alloc ?_ _)); exact BK161.out⟩, ⟨by repeat (first | (with_reducible first | exact HB.out | apply below_alloc | apply pw_below_drewN | apply below_drew1 | refine below_set ?_ GE161.out) | exact HB.out)⟩⟩
                            case round =>
                              clear H'
                              try clear c1
                              try clear p1
                              try clear q1
                              try clear hx1
                              try clear c2
                              try clear p2
                              try clear c4
                              try clear c6
                              try clear c6b0
                              try clear c6b1
                              try clear p6
                              try clear c7
                              try clear c7b0
                              try clear c7b1
                              try clear c8
                              try clear c8b0
                              try clear c8b1
                              try clear p9
                              try clear q9
                              try clear hx9
                              try clear qi9
                              try clear hf9
                              try clear p17
                              try clear q17
                              try clear hx17
                              try clear c18
                              try clear c18b0
                              try clear c19
                              try clear c19b0
                              try clear c19b1
                              try clear c20
                              try clear c20b0
                              try clear c20b1
                              try clear c25
                              try clear c25b0
                              try clear c26
                              try clear c26b0
                              try clear c27
                              try clear c27b0
                              try clear hcz11_0
                              try clear hcz13_0
                              try clear hfz11_0
                              try clear hfz13_0
                              try clear hx173_0
                              try clear hx9_0
                              try clear p173
                              try clear p2
                              try clear p6
                              try clear p9
                              try clear q173
                              try clear q9
                              obtain ⟨x9_3, x38_3, rfl, HA, HK3, HO_7, HO_8, HO_9, HO_30, HO_36, BK161, HB⟩ := hrel
                              cases gk with
                              | zero => exact absurd HA.out (by simp [spec_laChains.l2])
                              | succ k3 =>
                                have H := HA.out
                                clear HA
                                simp only [spec_laChains.l2] at H
                                by_cases c28 : x38_3 < (x7_1.length : Int)
                                · rw [if_pos c28] at H
                                  have c28b0 : decide (x38_3 < (x7_1.length : Int)) = true := decide_eq_true c28
                                  clear c28
                                  by_cases c29 : 0 ≤ x38_3
                                  · rw [if_pos c29] at H
                                    have c29b0 : decide (0 ≤ x38_3) = true := decide_eq_true c29
                                    clear c29
                                    by_cases c30 : x38_3 < (x7_1.length : Int)
                                    · rw [if_pos c30] at H
                                      have c30b0 : decide (x38_3 < (x7_1.length : Int)) = true := decide_eq_true c30
                                      clear c30
                                      by_cases c31 : 0 ≤ (rd x7_1 x32_2)
                                      · rw [if_pos c31] at H
                                        have c31b0 : decide (0 ≤ (rd x7_1 x32_2)) = true := decide_eq_true c31
                                        clear c31
                                        by_cases c32 : (rd x7_1 x32_2) < (x8_1.length : Int)
                                        · rw [if_pos c32] at H
                                          have c32b0 : decide ((rd x7_1 x32_2) < (x8_1.length : Int)) = true := decide_eq_true c32
                                          clear c32
                                          by_cases c33 : (rd x8_1 (rd x7_1 x32_2)) > 0
                                          · rw [if_pos c33] at H
                                            have c33b0 : decide (0 < (rd x8_1 (rd x7_1 x32_2))) = true := decide_eq_true c33
                                            clear c33
                                            by_cases c34 : (Go.bits .andNot .i64 (rd x7_1 x32_2) (rd x7_1 x38_3)) = 0
                                            · rw [if_pos c34] at H
                                              have c34b0 : ((Go.bits .andNot .i64 (rd x7_1 x32_2) (rd x7_1 x38_3)) == 0) = true := beq_iff_eq.mpr c34
                                              have c34b1 : ((Go.bits .andNot .i64 (rd x7_1 x32_2) (rd x7_1 x38_3)) != 0) = false := bne_eq_false_iff_eq.mpr c34
                                              clear c34
                                              by_cases c35 : a2 = true
                                              · subst c35
                                                have H1 : ((spec_laFree.f k3 l0_0 (Go.bits .andNot .i64 (rd x7_1 x38_3) (rd x7_1 x32_2))).bind fun t176 => (if t176 = true then (if 0 ≤ (rd x7_1 x38_3) then (if (rd x7_1 x38_3) < (x9_3.length : Int) then (spec_laChains.l2 k3 x1_1 true x7_1 x8_1 (x9_3.set ((rd x7_1 x38_3) : Int).toNat (wrap64 ((rd x9_3 (rd x7_1 x38_3)) + (rd x8_1 (rd x7_1 x32_2))))) (rd x7_1 x32_2) x7_1 (x7_1.length : Int) x32_2 x7_1 (x7_1.length : Int) (wrap64 (x38_3 + 1)) l0_0) else (none)) else (none)) else (spec_laChains.l2 k3 x1_1 true x7_1 x8_1 x9_3 (rd x7_1 x32_2) x7_1 (x7_1.length : Int) x32_2 x7_1 (x7_1.length : Int) (wrap64 (x38_3 + 1)) l0_0))) = some r := by rw [if_pos rfl] at H; exact H
                                                clear H
                                                have H := H1
                                                clear H1
                                                replace H := Option.bind_eq_some_iff.mp H
                                                obtain ⟨t176, A360, H⟩ := H
                                                replace H : (if t176 = true then (if 0 ≤ (rd x7_1 x38_3) then (if (rd x7_1 x38_3) < (x9_3.length : Int) then (spec_laChains.l2 k3 x1_1 true x7_1 x8_1 (x9_3.set ((rd x7_1 x38_3) : Int).toNat (wrap64 ((rd x9_3 (rd x7_1 x38_3)) + (rd x8_1 (rd x7_1 x32_2))))) (rd x7_1 x32_2) x7_1 (x7_1.length : Int) x32_2 x7_1 (x7_1.length : Int) (wrap64 (x38_3 + 1)) l0_0) else (none)) else (none)) else (spec_laChains.l2 k3 x1_1 true x7_1 x8_1 x9_3 (rd x7_1 x32_2) x7_1 (x7_1.length : Int) x32_2 x7_1 (x7_1.length : Int) (wrap64 (x38_3 + 1)) l0_0)) = some r := H
                                                have A36 := Aside0.mk A360
                                                clear A360
                                                by_cases c37 : t176 = true
                                                · subst c37
                                                  have H1 : (if 0 ≤ (rd x7_1 x38_3) then (if (rd x7_1 x38_3) < (x9_3.length : Int) then (spec_laChains.l2 k3 x1_1 true x7_1 x8_1 (x9_3.set ((rd x7_1 x38_3) : Int).toNat (wrap64 ((rd x9_3 (rd x7_1 x38_3)) + (rd x8_1 (rd x7_1 x32_2))))) (rd x7_1 x32_2) x7_1 (x7_1.length : Int) x32_2 x7_1 (x7_1.length : Int) (wrap64 (x38_3 + 1)) l0_0) else (none)) else (none)) = some r := by rw [if_pos rfl] at H; exact H
                                                  clear H
                                                  have H := H1
                                                  clear H1
                                                  by_cases c38 : 0 ≤ (rd x7_1 x38_3)
                                                  · rw [if_pos c38] at H
                                                    have c38b0 : decide (0 ≤ (rd x7_1 x38_3)) = true := decide_eq_true c38
                                                    clear c38
                                                    by_cases c39 : (rd x7_1 x38_3) < (x9_3.length : Int)
                                                    · rw [if_pos c39] at H
                                                      have c39b0 : decide ((rd x7_1 x38_3) < (x9_3.length : Int)) = true := decide_eq_true c39
                                                      clear c39
                                                      obtain ⟨y179, hy179⟩ : ∃ y_ : List Int, y_ = (x9_3.set ((rd x7_1 x38_3) : Int).toNat (wrap64 ((rd x9_3 (rd x7_1 x38_3)) + (rd x8_1 (rd x7_1 x32_2))))) := ⟨_, rfl⟩
                                                      replace H : (spec_laChains.l2 k3 x1_1 true x7_1 x8_1 y179 (rd x7_1 x32_2) x7_1 (x7_1.length : Int) x32_2 x7_1 (x7_1.length : Int) (wrap64 (x38_3 + 1)) l0_0) = some r := by first | (rw [hy179]; with_reducible exact H) | (have H2_ := (Option.bind_some _ _).symm.trans H; rw [hy179]; with_reducible exact H2_) | (have H2_ := (Option.bind_some _ _).symm.trans H; with_reducible exact H2_) | with_reducible exact H | (rw [hy179]; exact H) | exact H
                                                      have Ny179 := Aside0.mk hy179
                                                      clear hy179
                                                      have H' := Aside0.mk H
                                                      clear H
                                                      have p174 : 0 ≤ (x38_3 : Int) := of_decide_eq_true (by first | (with_reducible assumption) | assumption)
                                                      have q174 : x38_3 < (x7_1.length : Int) := of_decide_eq_true (by first | (with_reducible assumption) | assumption)
                                                      obtain ⟨ad174, e174, hx174_0⟩ := Kd.at_int (Kd.R_reads' HO_36.out).2.2 x38_3 p174 q174
                                                      obtain rfl : ad173 = ad174 := (by injection e174)
                                                      replace p174 := eq_true p174
                                                      replace q174 := eq_true q174
                                                      have p175 : 0 ≤ ((rd x7_1 x32_2) : Int) := of_decide_eq_true (by first | (with_reducible assumption) | assumption)
                                                      have q175 : (rd x7_1 x32_2) < (x8_1.length : Int) := of_decide_eq_true (by first | (with_reducible assumption) | assumption)
                                                      obtain ⟨ad175, e175, hx175_0⟩ := Kd.at_int (Kd.R_reads' HO_8.out).2.2 (rd x7_1 x32_2) p175 q175
                                                      cases e175
                                                      replace p175 := eq_true p175
                                                      replace q175 := eq_true q175
                                                      have hcz41_0 : wr.cell? ⟨gb161, 0, none⟩ = some (.slice A0_0 l0_0.length c0_0) := (blk_cell BK161.out 0).trans rfl
                                                      have hfz41_0 := blk_frozen BK161.out 0
                                                      try go_wp2_with (first | (go_at_call 69; (with_reducible refine (spec_laFree.calls k3 _ _ l0_0 (Go.bits .andNot .i64 (rd x7_1 x38_3) (rd x7_1 x32_2)) true _ ?side1 ?side2 A36.out).mono ?_); (case side1 => repeat (first | exact (Kd.C_below HR0_0.out HB.out) | (with_reducible refine Kd.C_alloc ?_ _) | (with_reducible refine Kd.C_drewN ?_ _) | (with_reducible refine Kd.C_drew ?_))); (case side2 => exact HC0_0.out); rintro e w42 ⟨rfl, hb⟩; have n0_ := Aside0.mk (Kd.R_below (by (with_reducible repeat (first | apply Kd.R_alloc | apply Kd.R_drewN | apply Kd.R_drew)); exact HO_7.out) hb); have n1_ := Aside0.mk (Kd.R_below (by (with_reducible repeat (first | apply Kd.R_alloc | apply Kd.R_drewN | apply Kd.R_drew)); exact HO_8.out) hb); have n2_ := Aside0.mk (Kd.R_below (by (with_reducible repeat (first | apply Kd.R_alloc | apply Kd.R_drewN | apply Kd.R_drew)); exact HO_9.out) hb); have n3_ := Aside0.mk (Kd.R_below (by (with_reducible repeat (first | apply Kd.R_alloc | apply Kd.R_drewN | apply Kd.R_drew)); exact HO_30.out) hb); have n4_ := Aside0.mk (Kd.R_below (by (with_reducible repeat (first | apply Kd.R_alloc | apply Kd.R_drewN | apply Kd.R_drew)); exact HO_36.out) hb); have n5_ := Aside0.mk (blk_below (g := gb161) (o := .cells #[.slice A0_0 l0_0.length c0_0] 30 (0, 0)) (by (with_reducible repeat (first | refine blk_drewN ?_ _ | refine blk_drew ?_ | refine blk_alloc ?_ _)); exact BK161.out) hb); have n6_ := Aside0.mk (below_step (by repeat (first | (with_reducible first | exact HB.out | apply below_alloc | apply pw_below_drewN | apply below_drew1 | refine below_set ?_ GE161.out) | exact HB.out)) hb); clear HO_7; clear HO_8; clear HO_9; clear HO_30; clear HO_36; clear BK161; clear HB; have HO_7 := n0_; have HO_8 := n1_; have HO_9 := n2_; have HO_30 := n3_; have HO_36 := n4_; have BK161 := n5_; have HB := n6_; clear n0_ n1_ n2_ n3_ n4_ n5_ n6_; (try clear hb); (try clear hb2); (try clear hk); (try clear hi)))
                                                      have n0_ := Aside0.mk (Kd.R_drew HO_7.out)
                                                      have n1_ := Aside0.mk (Kd.R_drew HO_8.out)
                                                      have n2_ := Aside0.mk (Kd.R_drew HO_9.out)
                                                      have n3_ := Aside0.mk (Kd.R_drew HO_30.out)
                                                      have n4_ := Aside0.mk (Kd.R_drew HO_36.out)
                                                      have n5_ := Aside0.mk (blk_drew BK161.out)
                                                      have n6_ := Aside0.mk (below_drew1 HB.out)
                                                      clear HO_7
                                                      clear HO_8
                                                      clear HO_9
                                                      clear HO_30
                                                      clear HO_36
                                                      clear BK161
                                                      clear HB
                                                      have HO_7 := n0_
                                                      have HO_8 := n1_
                                                      have HO_9 := n2_
                                                      have HO_30 := n3_
                                                      have HO_36 := n4_
                                                      have BK161 := n5_
                                                      have HB := n6_
                                                      clear n0_ n1_ n2_ n3_ n4_ n5_ n6_
                                                      obtain ⟨Ao44, co44, eo44⟩ := Kd.R_slice HO_9.out
                                                      (first | subst eo44 | (injection eo44 with f1_ f2_ f3_; have f4_ := f1_.symm; have f5_ := f3_.symm; clear f1_ f2_ f3_; subst f4_; subst f5_))
                                                      have p177 : 0 ≤ ((rd x7_1 x38_3) : Int) := of_decide_eq_true (by first | (with_reducible assumption) | assumption)
                                                      have q177 : (rd x7_1 x38_3) < (x9_3.length : Int) := of_decide_eq_true (by first | (with_reducible assumption) | assumption)
                                                      obtain ⟨ad177, e177, hx177_0⟩ := Kd.at_int (Kd.R_reads' HO_9.out).2.2 (rd x7_1 x38_3) p177 q177
                                                      cases e177
                                                      replace p177 := eq_true p177
                                                      replace q177 := eq_true q177
                                                      have p178 : 0 ≤ ((rd x7_1 x32_2) : Int) := of_decide_eq_true (by first | (with_reducible assumption) | assumption)
                                                      have q178 : (rd x7_1 x32_2) < (x8_1.length : Int) := of_decide_eq_true (by first | (with_reducible assumption) | assumption)
                                                      obtain ⟨ad178, e178, hx178_0⟩ := Kd.at_int (Kd.R_reads' HO_8.out).2.2 (rd x7_1 x32_2) p178 q178
                                                      obtain rfl : ad175 = ad178 := (by injection e178)
                                                      replace p178 := eq_true p178
                                                      replace q178 := eq_true q178
                                                      have p40 : 0 ≤ ((rd x7_1 x38_3) : Int) := of_decide_eq_true (by first | (with_reducible assumption) | assumption)
                                                      have q40 : ((rd x7_1 x38_3) : Int) < ((x9_3.length : Int) : Int) := of_decide_eq_true (by first | (with_reducible assumption) | assumption)
                                                      obtain ⟨go40, co40, eo40, gb40, gl40, cl40, HG40⟩ := Kd.R_form HO_9.out (by omega)
                                                      (first | cases eo40 | (injection eo40 with ea_ en_ ec_; (first | subst ea_ | (injection ea_ with ea_; subst ea_)); subst ec_; clear en_))
                                                      have GB40 := Aside0.mk gb40
                                                      have GG40 := Aside0.mk HG40
                                                      clear gb40 gl40 HG40
                                                      (first | simp only [add_plain] at hx177_0 | skip)
                                                      obtain ⟨hx40_0, hf40_0⟩ := Kd.R_celln 0 HO_9.out ((rd x7_1 x38_3) : Int) p40 q40
                                                      replace p40 := eq_true p40
                                                      replace q40 := eq_true q40
                                                      have HP45 := Kd.R_putn HO_9.out ((rd x7_1 x38_3) : Int) (wrap64 ((rd x9_3 (rd x7_1 x38_3)) + (rd x8_1 (rd x7_1 x32_2))))
                                                      rw [← Ny179.out] at HP45
                                                      have HQ45 := Aside0.mk HP45
                                                      clear HP45
                                                      refine start_ (n := 11) (S := fun w' => w'.cell? ⟨go40, ((rd x7_1 x38_3)).toNat, none⟩ = some (.int .i64 (rd x9_3 (rd x7_1 x38_3))) ∧ w'.cell? _ = some _) (ds := [10]) #[false, false, false, false, false, false, false, false, false, false, false] (by kernel_rfl) rfl rfl ⟨hx177_0, hx178_0⟩ (fun hHeld => ?_); refine with_tabW spec_laChains.tab14 spec_laChains.bits14 (fun HT_ HW_ => ?_)
                                                      generalize w42.drew = w43 at HO_7 HO_8 HO_9 HO_30 HO_36 BK161 HB GG40 HQ45 hf40_0 hx177_0 hx178_0 hx40_0 hHeld ⊢
                                                      refine pure_ (i := 0) (N := some 64) (v := ?_) (a' := ?_) #[true, false, false, false, false, false, false, false, false, false, false] rfl rfl (any_of HT_.out (by kernel_rfl)) (fun _ _ _ h => h) (Or.inl ⟨by rfl, ?_⟩) ?_ ?_
                                                      rotate_left
                                                      · intro w'
                                                        go_simp
                                                        with_reducible rfl
                                                      rotate_left
                                                      · simp only [Act.put, List.setIfInBounds_toArray, List.set_cons_zero, List.set_cons_succ, i64_w, i32_w]
                                                        rfl
                                                      refine pure_ (i := 1) (N := some 65) (v := ?_) (a' := ?_) #[true, true, false, false, false, false, false, false, false, false, false] rfl rfl (any_of HT_.out (by kernel_rfl)) (fun _ _ _ h => h) (Or.inl ⟨by rfl, ?_⟩) ?_ ?_
                                                      rotate_left
                                                      · intro w'
                                                        go_simp
                                                        with_reducible rfl
                                                      rotate_left
                                                      · simp only [Act.put, List.setIfInBounds_toArray, List.set_cons_zero, List.set_cons_succ, i64_w, i32_w]
                                                        rfl
                                                      refine pure_ (i := 2) (N := some 66) (v := ?_) (a' := ?_) #[true, true, true, false, false, false, false, false, false, false, false] rfl rfl (any_of HT_.out (by kernel_rfl)) (fun _ _ _ h => h) (Or.inl ⟨by rfl, ?_⟩) ?_ ?_
                                                      rotate_left
                                                      · intro w'
                                                        go_simp
                                                        with_reducible rfl
                                                      rotate_left
                                                      · simp only [Act.put, List.setIfInBounds_toArray, List.set_cons_zero, List.set_cons_succ, i64_w, i32_w]
                                                        rfl
                                                      refine pure_ (i := 4) (N := some 68) (v := ?_) (a' := ?_) #[true, true, true, false, true, false, false, false, false, false, false] rfl rfl (any_of HT_.out (by kernel_rfl)) (fun _ _ _ h => h) (Or.inl ⟨by rfl, ?_⟩) ?_ ?_
                                                      rotate_left
                                                      · intro w'
                                                        go_simp
                                                        with_reducible rfl
                                                      rotate_left
                                                      · simp only [Act.put, List.setIfInBounds_toArray, List.set_cons_zero, List.set_cons_succ, i64_w, i32_w]
                                                        rfl
                                                      refine pure_ (i := 5) (N := some 69) (v := ?_) (a' := ?_) #[true, true, true, false, true, true, false, false, false, false, false] rfl rfl (any_of HT_.out (by kernel_rfl)) (fun _ _ _ h => h) (Or.inl ⟨by rfl, ?_⟩) ?_ ?_
                                                      rotate_left
                                                      · intro w'
                                                        go_simp
                                                        with_reducible rfl
                                                      rotate_left
                                                      · simp only [Act.put, List.setIfInBounds_toArray, List.set_cons_zero, List.set_cons_succ, i64_w, i32_w]
                                                        rfl
                                                      refine pure_ (i := 6) (N := some 70) (v := ?_) (a' := ?_) #[true, true, true, false, true, true, true, false, false, false, false] rfl rfl (any_of HT_.out (by kernel_rfl)) (fun _ _ _ h => h) (Or.inl ⟨by rfl, ?_⟩) ?_ ?_
                                                      rotate_left
                                                      · intro w'
                                                        go_simp
                                                        with_reducible rfl
                                                      rotate_left
                                                      · simp only [Act.put, List.setIfInBounds_toArray, List.set_cons_zero, List.set_cons_succ, i64_w, i32_w]
                                                        rfl
                                                      refine take_ (i := 3) (N := some 67) (v := ?_) (a' := ?_) #[true, true, true, true, true, true, true, false, false, false, false] rfl rfl (take_ofW HT_.out HW_.out (by kernel_rfl)) (fun _ _ _ h => h) (Or.inl ⟨by rfl, ?_⟩) hHeld ?_ ?_
                                                      rotate_left
                                                      · rintro w' ⟨s0, s1⟩
                                                        go_simp
                                                        with_reducible rfl
                                                      rotate_left
                                                      · simp only [Act.put, List.setIfInBounds_toArray, List.set_cons_zero, List.set_cons_succ, i64_w, i32_w]
                                                        rfl
                                                      refine take_ (i := 7) (N := some 71) (v := ?_) (a' := ?_) #[true, true, true, true, true, true, true, true, false, false, false] rfl rfl (take_ofW HT_.out HW_.out (by kernel_rfl)) (fun _ _ _ h => h) (Or.inl ⟨by rfl, ?_⟩) hHeld ?_ ?_
                                                      rotate_left
                                                      · rintro w' ⟨s0, s1⟩
                                                        go_simp
                                                        with_reducible rfl
                                                      rotate_left
                                                      · simp only [Act.put, List.setIfInBounds_toArray, List.set_cons_zero, List.set_cons_succ, i64_w, i32_w]
                                                        rfl
                                                      refine pure_ (i := 8) (N := some 72) (v := ?_) (a' := ?_) #[true, true, true, true, true, true, true, true, true, false, false] rfl rfl (any_of HT_.out (by kernel_rfl)) (fun _ _ _ h => h) (Or.inl ⟨by rfl, ?_⟩) ?_ ?_
                                                      rotate_left
                                                      · intro w'
                                                        go_simp
                                                        with_reducible rfl
                                                      rotate_left
                                                      · simp only [Act.put, List.setIfInBounds_toArray, List.set_cons_zero, List.set_cons_succ, i64_w, i32_w]
                                                        rfl
                                                      refine pure_ (i := 9) (N := some 73) (v := ?_) (a' := ?_) #[true, true, true, true, true, true, true, true, true, true, false] rfl rfl (any_of HT_.out (by kernel_rfl)) (fun _ _ _ h => h) (Or.inl ⟨by rfl, ?_⟩) ?_ ?_
                                                      rotate_left
                                                      · intro w'
                                                        go_simp
                                                        with_reducible rfl
                                                      rotate_left
                                                      · simp only [Act.put, List.setIfInBounds_toArray, List.set_cons_zero, List.set_cons_succ, i64_w, i32_w]
                                                        rfl
                                                      refine last_ (i := 10) (N := none) #[true, true, true, true, true, true, true, true, true, true, true] rfl rfl (one_of HT_.out (by kernel_rfl)) (by decide) (fun K hK => ?_)
                                                      refine skip_ (w1 := ?_) (by rfl) rfl ?_ ?_
                                                      rotate_left
                                                      · go_simp
                                                        rfl
                                                      refine hK.out _ _ ?_
                                                      clear hK K
                                                      refine done_ (done_of HT_.out (by kernel_rfl)) ?_
                                                      try go_wp2
                                                      go_roundg k3
                                                      case measure => have := HK1.out; have := HK2.out; have := HK3.out; omega
                                                      case rel => exact ⟨(y179), (wrap64 (x38_3 + 1)), (by first | rfl | (simp; done) | (simp [*]; done)), H', ⟨by have := HK1.out; have := HK2.out; have := HK3.out; omega⟩, ⟨by (with_reducible repeat (first | apply Kd.R_alloc | apply Kd.R_drewN | apply Kd.R_drew)); exact Kd.R_mono (Kd.R_far (p := ⟨go40, ((rd x7_1 x38_3) : Int).toNat, none⟩) (Kd.R_mono HO_7.out (fun k_ hk => (⟨hk, fun e_ => hk.2 (by rw [e_]; rfl)⟩ : _ ∧ k_ ≠ go40))) (fun _ hk => hk.2) (.int .i64 (wrap64 ((rd x9_3 (rd x7_1 x38_3)) + (rd x8_1 (rd x7_1 x32_2)))))) (fun _ hk => ⟨hk.1.1, hk.1.2⟩)⟩, ⟨by (with_reducible repeat (first | apply Kd.R_alloc | apply Kd.R_drewN | apply Kd.R_drew)); exact Kd.R_mono (Kd.R_far (p := ⟨go40, ((rd x7_1 x38_3) : Int).toNat, none⟩) (Kd.R_mono HO_8.out (fun k_ hk => (⟨hk, fun e_ => hk.2.1 (by rw [e_]; rfl)⟩ : _ ∧ k_ ≠ go40))) (fun _ hk => hk.2) (.int .i64 (wrap64 ((rd x9_3 (rd x7_1 x38_3)) + (rd x8_1 (rd x7_1 x32_2)))))) (fun _ hk => ⟨hk.1.1, ⟨hk.1.2.1, ⟨hk.1.2.2.1, hk.1.2.2.2⟩⟩⟩)⟩, ⟨by (with_reducible repeat (first | apply Kd.R_alloc | apply Kd.R_drewN | apply Kd.R_drew)); exact HQ45.out⟩, ⟨by (with_reducible repeat (first | apply Kd.R_alloc | apply Kd.R_drewN | apply Kd.R_drew)); exact Kd.R_mono (Kd.R_far (p := ⟨go40, ((rd x7_1 x38_3) : Int).toNat, none⟩) (Kd.R_mono HO_30.out (fun k_ hk => (⟨hk, fun e_ => hk.2 (by rw [e_]; rfl)⟩ : _ ∧ k_ ≠ go40))) (fun _ hk => hk.2) (.int .i64 (wrap64 ((rd x9_3 (rd x7_1 x38_3)) + (rd x8_1 (rd x7_1 x32_2)))))) (fun _ hk => ⟨hk.1.1, hk.1.2⟩)⟩, ⟨by (with_reducible repeat (first | apply Kd.R_alloc | apply Kd.R_drewN | apply Kd.R_drew)); exact Kd.R_mono (Kd.R_far (p := ⟨go40, ((rd x7_1 x38_3) : Int).toNat, none⟩) (Kd.R_mono HO_36.out (fun k_ hk => (⟨hk, fun e_ => hk.2 (by rw [e_]; rfl)⟩ : _ ∧ k_ ≠ go40))) (fun _ hk => hk.2) (.int .i64 (wrap64 ((rd x9_3 (rd x7_1 x38_3)) + (rd x8_1 (rd x7_1 x32_2)))))) (fun _ hk => ⟨hk.1.1, hk.1.2⟩)⟩, ⟨by (with_reducible repeat (first | refine blk_drewN ?_ _ | refine blk_drew ?_ | refine blk_alloc ?_ _)); refine blk_far ?_ (by have h_ := Kd.R_ne HO_9.out BK161.out (by decide); intro e_; exact h_ (by rw [e_]; rfl)) _; (with_reducible repeat (first | refine blk_drewN ?_ _ | refine blk_drew ?_ | refine blk_alloc ?_ _)); exact BK161.out⟩, ⟨by repeat (first | (with_reducible first | exact HB.out | apply below_alloc | apply pw_below_drewN | apply below_drew1 | refine below_set ?_ GB40.out | refine below_set ?_ GE161.out) | exact HB.out)⟩⟩
                                                    · rw [if_neg c39] at H
                                                      exact absurd H (by simp)
                                                  · rw [if_neg c38] at H
                                                    exact absurd H (by simp)
                                                · replace c37 := Bool.eq_false_iff.mpr c37
                                                  subst c37
                                                  have H1 : (spec_laChains.l2 k3 x1_1 true x7_1 x8_1 x9_3 (rd x7_1 x32_2) x7_1 (x7_1.length : Int) x32_2 x7_1 (x7_1.length : Int) (wrap64 (x38_3 + 1)) l0_0) = some r := by rw [if_neg (show ¬ (false = true) by decide)] at H; exact H
                                                  clear H
                                                  have H := H1
                                                  clear H1
                                                  have H' := Aside0.mk H
                                                  clear H
                                                  have p174 : 0 ≤ (x38_3 : Int) := of_decide_eq_true (by first | (with_reducible assumption) | assumption)
                                                  have q174 : x38_3 < (x7_1.length : Int) := of_decide_eq_true (by first | (with_reducible assumption) | assumption)
                                                  obtain ⟨ad174, e174, hx174_0⟩ := Kd.at_int (Kd.R_reads' HO_36.out).2.2 x38_3 p174 q174
                                                  obtain rfl : ad173 = ad174 := (by injection e174)
                                                  replace p174 := eq_true p174
                                                  replace q174 := eq_true q174
                                                  have p175 : 0 ≤ ((rd x7_1 x32_2) : Int) := of_decide_eq_true (by first | (with_reducible assumption) | assumption)
                                                  have q175 : (rd x7_1 x32_2) < (x8_1.length : Int) := of_decide_eq_true (by first | (with_reducible assumption) | assumption)
                                                  obtain ⟨ad175, e175, hx175_0⟩ := Kd.at_int (Kd.R_reads' HO_8.out).2.2 (rd x7_1 x32_2) p175 q175
                                                  cases e175
                                                  replace p175 := eq_true p175
                                                  replace q175 := eq_true q175
                                                  have hcz46_0 : wr.cell? ⟨gb161, 0, none⟩ = some (.slice A0_0 l0_0.length c0_0) := (blk_cell BK161.out 0).trans rfl
                                                  have hfz46_0 := blk_frozen BK161.out 0
                                                  go_wp2_with (first | (go_at_call 69; (with_reducible refine (spec_laFree.calls k3 _ _ l0_0 (Go.bits .andNot .i64 (rd x7_1 x38_3) (rd x7_1 x32_2)) false _ ?side1 ?side2 A36.out).mono ?_); (case side1 => repeat (first | exact (Kd.C_below HR0_0.out HB.out) | (with_reducible refine Kd.C_alloc ?_ _) | (with_reducible refine Kd.C_drewN ?_ _) | (with_reducible refine Kd.C_drew ?_))); (case side2 => exact HC0_0.out); rintro e w47 ⟨rfl, hb⟩; have n0_ := Aside0.mk (Kd.R_below (by (with_reducible repeat (first | apply Kd.R_alloc | apply Kd.R_drewN | apply Kd.R_drew)); exact HO_7.out) hb); have n1_ := Aside0.mk (Kd.R_below (by (with_reducible repeat (first | apply Kd.R_alloc | apply Kd.R_drewN | apply Kd.R_drew)); exact HO_8.out) hb); have n2_ := Aside0.mk (Kd.R_below (by (with_reducible repeat (first | apply Kd.R_alloc | apply Kd.R_drewN | apply Kd.R_drew)); exact HO_9.out) hb); have n3_ := Aside0.mk (Kd.R_below (by (with_reducible repeat (first | apply Kd.R_alloc | apply Kd.R_drewN | apply Kd.R_drew)); exact HO_30.out) hb); have n4_ := Aside0.mk (Kd.R_below (by (with_reducible repeat (first | apply Kd.R_alloc | apply Kd.R_drewN | apply Kd.R_drew)); exact HO_36.out) hb); have n5_ := Aside0.mk (blk_below (g := gb161) (o := .cells #[.slice A0_0 l0_0.length c0_0] 30 (0, 0)) (by (with_reducible repeat (first | refine blk_drewN ?_ _ | refine blk_drew ?_ | refine blk_alloc ?_ _)); exact BK161.out) hb); have n6_ := Aside0.mk (below_step (by repeat (first | (with_reducible first | exact HB.out | apply below_alloc | apply pw_below_drewN | apply below_drew1 | refine below_set ?_ GE161.out) | exact HB.out)) hb); clear HO_7; clear HO_8; clear HO_9; clear HO_30; clear HO_36; clear BK161; clear HB; have HO_7 := n0_; have HO_8 := n1_; have HO_9 := n2_; have HO_30 := n3_; have HO_36 := n4_; have BK161 := n5_; have HB := n6_; clear n0_ n1_ n2_ n3_ n4_ n5_ n6_; (try clear hb); (try clear hb2); (try clear hk); (try clear hi)))
                                                  go_roundg k3
                                                  case measure => have := HK1.out; have := HK2.out; have := HK3.out; omega
                                                  case rel => exact ⟨(x9_3), (wrap64 (x38_3 + 1)), (by first | rfl | (simp; done) | (simp [*]; done)), H', ⟨by have := HK1.out; have := HK2.out; have := HK3.out; omega⟩, ⟨by (with_reducible repeat (first | apply Kd.R_alloc | apply Kd.R_drewN | apply Kd.R_drew)); exact HO_7.out⟩, ⟨by (with_reducible repeat (first | apply Kd.R_alloc | apply Kd.R_drewN | apply Kd.R_drew)); exact HO_8.out⟩, ⟨by (with_reducible repeat (first | apply Kd.R_alloc | apply Kd.R_drewN | apply Kd.R_drew)); exact HO_9.out⟩, ⟨by (with_reducible repeat (first | apply Kd.R_alloc | apply Kd.R_drewN | apply Kd.R_drew)); exact HO_30.out⟩, ⟨by (with_reducible repeat (first | apply Kd.R_alloc | apply Kd.R_drewN | apply Kd.R_drew)); exact HO_36.out⟩, ⟨by (with_reducible repeat (first | refine blk_drewN ?_ _ | refine blk_drew ?_ | refine blk_alloc ?_ _)); exact BK161.out⟩, ⟨by repeat (first | (with_reducible first | exact HB.out | apply below_alloc | apply pw_below_drewN | apply below_drew1 | refine below_set ?_ GE161.out) | exact HB.out)⟩⟩
                                              · replace c35 := Bool.eq_false_iff.mpr c35
                                                subst c35
                                                have H1 : (if 0 ≤ (rd x7_1 x38_3) then (if (rd x7_1 x38_3) < (x9_3.length : Int) then (spec_laChains.l2 k3 x1_1 false x7_1 x8_1 (x9_3.set ((rd x7_1 x38_3) : Int).toNat (wrap64 ((rd x9_3 (rd x7_1 x38_3)) + (rd x8_1 (rd x7_1 x32_2))))) (rd x7_1 x32_2) x7_1 (x7_1.length : Int) x32_2 x7_1 (x7_1.length : Int) (wrap64 (x38_3 + 1)) l0_0) else (none)) else (none)) = some r := by rw [if_neg (show ¬ (false = true) by decide)] at H; exact H
                                                clear H
                                                have H := H1
                                                clear H1
                                                by_cases c48 : 0 ≤ (rd x7_1 x38_3)
                                                · rw [if_pos c48] at H
                                                  have c48b0 : decide (0 ≤ (rd x7_1 x38_3)) = true := decide_eq_true c48
                                                  clear c48
                                                  by_cases c49 : (rd x7_1 x38_3) < (x9_3.length : Int)
                                                  · rw [if_pos c49] at H
                                                    have c49b0 : decide ((rd x7_1 x38_3) < (x9_3.length : Int)) = true := decide_eq_true c49
                                                    clear c49
                                                    obtain ⟨y182, hy182⟩ : ∃ y_ : List Int, y_ = (x9_3.set ((rd x7_1 x38_3) : Int).toNat (wrap64 ((rd x9_3 (rd x7_1 x38_3)) + (rd x8_1 (rd x7_1 x32_2))))) := ⟨_, rfl⟩
                                                    replace H : (spec_laChains.l2 k3 x1_1 false x7_1 x8_1 y182 (rd x7_1 x32_2) x7_1 (x7_1.length : Int) x32_2 x7_1 (x7_1.length : Int) (wrap64 (x38_3 + 1)) l0_0) = some r := by first | (rw [hy182]; with_reducible exact H) | (have H2_ := (Option.bind_some _ _).symm.trans H; rw [hy182]; with_reducible exact H2_) | (have H2_ := (Option.bind_some _ _).symm.trans H; with_reducible exact H2_) | with_reducible exact H | (rw [hy182]; exact H) | exact H
                                                    have Ny182 := Aside0.mk hy182
                                                    clear hy182
                                                    have H' := Aside0.mk H
                                                    clear H
                                                    have p174 : 0 ≤ (x38_3 : Int) := of_decide_eq_true (by first | (with_reducible assumption) | assumption)
                                                    have q174 : x38_3 < (x7_1.length : Int) := of_decide_eq_true (by first | (with_reducible assumption) | assumption)
                                                    obtain ⟨ad174, e174, hx174_0⟩ := Kd.at_int (Kd.R_reads' HO_36.out).2.2 x38_3 p174 q174
                                                    obtain rfl : ad173 = ad174 := (by injection e174)
                                                    replace p174 := eq_true p174
                                                    replace q174 := eq_true q174
                                                    have p175 : 0 ≤ ((rd x7_1 x32_2) : Int) := of_decide_eq_true (by first | (with_reducible assumption) | assumption)
                                                    have q175 : (rd x7_1 x32_2) < (x8_1.length : Int) := of_decide_eq_true (by first | (with_reducible assumption) | assumption)
                                                    obtain ⟨ad175, e175, hx175_0⟩ := Kd.at_int (Kd.R_reads' HO_8.out).2.2 (rd x7_1 x32_2) p175 q175
                                                    cases e175
                                                    replace p175 := eq_true p175
                                                    replace q175 := eq_true q175
                                                    try go_wp2
                                                    have n0_ := Aside0.mk (Kd.R_drew HO_7.out)
                                                    have n1_ := Aside0.mk (Kd.R_drew HO_8.out)
                                                    have n2_ := Aside0.mk (Kd.R_drew HO_9.out)
                                                    have n3_ := Aside0.mk (Kd.R_drew HO_30.out)
                                                    have n4_ := Aside0.mk (Kd.R_drew HO_36.out)
                                                    have n5_ := Aside0.mk (blk_drew BK161.out)
                                                    have n6_ := Aside0.mk (below_drew1 HB.out)
                                                    clear HO_7
                                                    clear HO_8
                                                    clear HO_9
                                                    clear HO_30
                                                    clear HO_36
                                                    clear BK161
                                                    clear HB
                                                    have HO_7 := n0_
                                                    have HO_8 := n1_
                                                    have HO_9 := n2_
                                                    have HO_30 := n3_
                                                    have HO_36 := n4_
                                                    have BK161 := n5_
                                                    have HB := n6_
                                                    clear n0_ n1_ n2_ n3_ n4_ n5_ n6_
                                                    obtain ⟨Ao52, co52, eo52⟩ := Kd.R_slice HO_9.out
                                                    (first | subst eo52 | (injection eo52 with f1_ f2_ f3_; have f4_ := f1_.symm; have f5_ := f3_.symm; clear f1_ f2_ f3_; subst f4_; subst f5_))
                                                    have p180 : 0 ≤ ((rd x7_1 x38_3) : Int) := of_decide_eq_true (by first | (with_reducible assumption) | assumption)
                                                    have q180 : (rd x7_1 x38_3) < (x9_3.length : Int) := of_decide_eq_true (by first | (with_reducible assumption) | assumption)
                                                    obtain ⟨ad180, e180, hx180_0⟩ := Kd.at_int (Kd.R_reads' HO_9.out).2.2 (rd x7_1 x38_3) p180 q180
                                                    cases e180
                                                    replace p180 := eq_true p180
                                                    replace q180 := eq_true q180
                                                    have p181 : 0 ≤ ((rd x7_1 x32_2) : Int) := of_decide_eq_true (by first | (with_reducible assumption) | assumption)
                                                    have q181 : (rd x7_1 x32_2) < (x8_1.length : Int) := of_decide_eq_true (by first | (with_reducible assumption) | assumption)
                                                    obtain ⟨ad181, e181, hx181_0⟩ := Kd.at_int (Kd.R_reads' HO_8.out).2.2 (rd x7_1 x32_2) p181 q181
                                                    obtain rfl : ad175 = ad181 := (by injection e181)
                                                    replace p181 := eq_true p181
                                                    replace q181 := eq_true q181
                                                    have p50 : 0 ≤ ((rd x7_1 x38_3) : Int) := of_decide_eq_true (by first | (with_reducible assumption) | assumption)
                                                    have q50 : ((rd x7_1 x38_3) : Int) < ((x9_3.length : Int) : Int) := of_decide_eq_true (by first | (with_reducible assumption) | assumption)
                                                    obtain ⟨go50, co50, eo50, gb50, gl50, cl50, HG50⟩ := Kd.R_form HO_9.out (by omega)
                                                    (first | cases eo50 | (injection eo50 with ea_ en_ ec_; (first | subst ea_ | (injection ea_ with ea_; subst ea_)); subst ec_; clear en_))
                                                    have GB50 := Aside0.mk gb50
                                                    have GG50 := Aside0.mk HG50
                                                    clear gb50 gl50 HG50
                                                    (first | simp only [add_plain] at hx180_0 | skip)
                                                    obtain ⟨hx50_0, hf50_0⟩ := Kd.R_celln 0 HO_9.out ((rd x7_1 x38_3) : Int) p50 q50
                                                    replace p50 := eq_true p50
                                                    replace q50 := eq_true q50
                                                    have HP53 := Kd.R_putn HO_9.out ((rd x7_1 x38_3) : Int) (wrap64 ((rd x9_3 (rd x7_1 x38_3)) + (rd x8_1 (rd x7_1 x32_2))))
                                                    rw [← Ny182.out] at HP53
                                                    have HQ53 := Aside0.mk HP53
                                                    clear HP53
                                                    refine start_ (n := 11) (S := fun w' => w'.cell? ⟨go50, ((rd x7_1 x38_3)).toNat, none⟩ = some (.int .i64 (rd x9_3 (rd x7_1 x38_3))) ∧ w'.cell? _ = some _) (ds := [10]) #[false, false, false, false, false, false, false, false, false, false, false] (by kernel_rfl) rfl rfl ⟨hx180_0, hx181_0⟩ (fun hHeld => ?_); refine with_tabW spec_laChains.tab14 spec_laChains.bits14 (fun HT_ HW_ => ?_)
                                                    generalize wr.drew = w51 at HO_7 HO_8 HO_9 HO_30 HO_36 BK161 HB GG50 HQ53 hf50_0 hx180_0 hx181_0 hx50_0 hHeld ⊢
                                                    refine pure_ (i := 0) (N := some 64) (v := ?_) (a' := ?_) #[true, false, false, false, false, false, false, false, false, false, false] rfl rfl (any_of HT_.out (by kernel_rfl)) (fun _ _ _ h => h) (Or.inl ⟨by rfl, ?_⟩) ?_ ?_
                                                    rotate_left
                                                    · intro w'
                                                      go_simp
                                                      with_reducible rfl
                                                    rotate_left
                                                    · simp only [Act.put, List.setIfInBounds_toArray, List.set_cons_zero, List.set_cons_succ, i64_w, i32_w]
                                                      rfl
                                                    refine pure_ (i := 1) (N := some 65) (v := ?_) (a' := ?_) #[true, true, false, false, false, false, false, false, false, false, false] rfl rfl (any_of HT_.out (by kernel_rfl)) (fun _ _ _ h => h) (Or.inl ⟨by rfl, ?_⟩) ?_ ?_
                                                    rotate_left
                                                    · intro w'
                                                      go_simp
                                                      with_reducible rfl
                                                    rotate_left
                                                    · simp only [Act.put, List.setIfInBounds_toArray, List.set_cons_zero, List.set_cons_succ, i64_w, i32_w]
                                                      rfl
                                                    refine pure_ (i := 2) (N := some 66) (v := ?_) (a' := ?_) #[true, true, true, false, false, false, false, false, false, false, false] rfl rfl (any_of HT_.out (by kernel_rfl)) (fun _ _ _ h => h) (Or.inl ⟨by rfl, ?_⟩) ?_ ?_
                                                    rotate_left
                                                    · intro w'
                                                      go_simp
                                                      with_reducible rfl
                                                    rotate_left
                                                    · simp only [Act.put, List.setIfInBounds_toArray, List.set_cons_zero, List.set_cons_succ, i64_w, i32_w]
                                                      rfl
                                                    refine pure_ (i := 4) (N := some 68) (v := ?_) (a' := ?_) #[true, true, true, false, true, false, false, false, false, false, false] rfl rfl (any_of HT_.out (by kernel_rfl)) (fun _ _ _ h => h) (Or.inl ⟨by rfl, ?_⟩) ?_ ?_
                                                    rotate_left
                                                    · intro w'
                                                      go_simp
                                                      with_reducible rfl
                                                    rotate_left
                                                    · simp only [Act.put, List.setIfInBounds_toArray, List.set_cons_zero, List.set_cons_succ, i64_w, i32_w]
                                                      rfl
                                                    refine pure_ (i := 5) (N := some 69) (v := ?_) (a' := ?_) #[true, true, true, false, true, true, false, false, false, false, false] rfl rfl (any_of HT_.out (by kernel_rfl)) (fun _ _ _ h => h) (Or.inl ⟨by rfl, ?_⟩) ?_ ?_
                                                    rotate_left
                                                    · intro w'
                                                      go_simp
                                                      with_reducible rfl
                                                    rotate_left
                                                    · simp only [Act.put, List.setIfInBounds_toArray, List.set_cons_zero, List.set_cons_succ, i64_w, i32_w]
                                                      rfl
                                                    refine pure_ (i := 6) (N := some 70) (v := ?_) (a' := ?_) #[true, true, true, false, true, true, true, false, false, false, false] rfl rfl (any_of HT_.out (by kernel_rfl)) (fun _ _ _ h => h) (Or.inl ⟨by rfl, ?_⟩) ?_ ?_
                                                    rotate_left
                                                    · intro w'
                                                      go_simp
                                                      with_reducible rfl
                                                    rotate_left
                                                    · simp only [Act.put, List.setIfInBounds_toArray, List.set_cons_zero, List.set_cons_succ, i64_w, i32_w]
                                                      rfl
                                                    refine take_ (i := 3) (N := some 67) (v := ?_) (a' := ?_) #[true, true, true, true, true, true, true, false, false, false, false] rfl rfl (take_ofW HT_.out HW_.out (by kernel_rfl)) (fun _ _ _ h => h) (Or.inl ⟨by rfl, ?_⟩) hHeld ?_ ?_
                                                    rotate_left
                                                    · rintro w' ⟨s0, s1⟩
                                                      go_simp
                                                      with_reducible rfl
                                                    rotate_left
                                                    · simp only [Act.put, List.setIfInBounds_toArray, List.set_cons_zero, List.set_cons_succ, i64_w, i32_w]
                                                      rfl
                                                    refine take_ (i := 7) (N := some 71) (v := ?_) (a' := ?_) #[true, true, true, true, true, true, true, true, false, false, false] rfl rfl (take_ofW HT_.out HW_.out (by kernel_rfl)) (fun _ _ _ h => h) (Or.inl ⟨by rfl, ?_⟩) hHeld ?_ ?_
                                                    rotate_left
                                                    · rintro w' ⟨s0, s1⟩
                                                      go_simp
                                                      with_reducible rfl
                                                    rotate_left
                                                    · simp only [Act.put, List.setIfInBounds_toArray, List.set_cons_zero, List.set_cons_succ, i64_w, i32_w]
                                                      rfl
                                                    refine pure_ (i := 8) (N := some 72) (v := ?_) (a' := ?_) #[true, true, true, true, true, true, true, true, true, false, false] rfl rfl (any_of HT_.out (by kernel_rfl)) (fun _ _ _ h => h) (Or.inl ⟨by rfl, ?_⟩) ?_ ?_
                                                    rotate_left
                                                    · intro w'
                                                      go_simp
                                                      with_reducible rfl
                                                    rotate_left
                                                    · simp only [Act.put, List.setIfInBounds_toArray, List.set_cons_zero, List.set_cons_succ, i64_w, i32_w]
                                                      rfl
                                                    refine pure_ (i := 9) (N := some 73) (v := ?_) (a' := ?_) #[true, true, true, true, true, true, true, true, true, true, false] rfl rfl (any_of HT_.out (by kernel_rfl)) (fun _ _ _ h => h) (Or.inl ⟨by rfl, ?_⟩) ?_ ?_
                                                    rotate_left
                                                    · intro w'
                                                      go_simp
                                                      with_reducible rfl
                                                    rotate_left
                                                    · simp only [Act.put, List.setIfInBounds_toArray, List.set_cons_zero, List.set_cons_succ, i64_w, i32_w]
                                                      rfl
                                                    refine last_ (i := 10) (N := none) #[true, true, true, true, true, true, true, true, true, true, true] rfl rfl (one_of HT_.out (by kernel_rfl)) (by decide) (fun K hK => ?_)
                                                    refine skip_ (w1 := ?_) (by rfl) rfl ?_ ?_
                                                    rotate_left
                                                    · go_simp
                                                      rfl
                                                    refine hK.out _ _ ?_
                                                    clear hK K
                                                    refine done_ (done_of HT_.out (by kernel_rfl)) ?_
                                                    try go_wp2
                                                    go_roundg k3
                                                    case measure => have := HK1.out; have := HK2.out; have := HK3.out; omega
                                                    case rel => exact ⟨(y182), (wrap64 (x38_3 + 1)), (by first | rfl | (simp; done) | (simp [*]; done)), H', ⟨by have := HK1.out; have := HK2.out; have := HK3.out; omega⟩, ⟨by (with_reducible repeat (first | apply Kd.R_alloc | apply Kd.R_drewN | apply Kd.R_drew)); exact Kd.R_mono (Kd.R_far (p := ⟨go50, ((rd x7_1 x38_3) : Int).toNat, none⟩) (Kd.R_mono HO_7.out (fun k_ hk => (⟨hk, fun e_ => hk.2 (by rw [e_]; rfl)⟩ : _ ∧ k_ ≠ go50))) (fun _ hk => hk.2) (.int .i64 (wrap64 ((rd x9_3 (rd x7_1 x38_3)) + (rd x8_1 (rd x7_1 x32_2)))))) (fun _ hk => ⟨hk.1.1, hk.1.2⟩)⟩, ⟨by (with_reducible repeat (first | apply Kd.R_alloc | apply Kd.R_drewN | apply Kd.R_drew)); exact Kd.R_mono (Kd.R_far (p := ⟨go50, ((rd x7_1 x38_3) : Int).toNat, none⟩) (Kd.R_mono HO_8.out (fun k_ hk => (⟨hk, fun e_ => hk.2.1 (by rw [e_]; rfl)⟩ : _ ∧ k_ ≠ go50))) (fun _ hk => hk.2) (.int .i64 (wrap64 ((rd x9_3 (rd x7_1 x38_3)) + (rd x8_1 (rd x7_1 x32_2)))))) (fun _ hk => ⟨hk.1.1, ⟨hk.1.2.1, ⟨hk.1.2.2.1, hk.1.2.2.2⟩⟩⟩)⟩, ⟨by (with_reducible repeat (first | apply Kd.R_alloc | apply Kd.R_drewN | apply Kd.R_drew)); exact HQ53.out⟩, ⟨by (with_reducible repeat (first | apply Kd.R_alloc | apply Kd.R_drewN | apply Kd.R_drew)); exact Kd.R_mono (Kd.R_far (p := ⟨go50, ((rd x7_1 x38_3) : Int).toNat, none⟩) (Kd.R_mono HO_30.out (fun k_ hk => (⟨hk, fun e_ => hk.2 (by rw [e_]; rfl)⟩ : _ ∧ k_ ≠ go50))) (fun _ hk => hk.2) (.int .i64 (wrap64 ((rd x9_3 (rd x7_1 x38_3)) + (rd x8_1 (rd x7_1 x32_2)))))) (fun _ hk => ⟨hk.1.1, hk.1.2⟩)⟩, ⟨by (with_reducible repeat (first | apply Kd.R_alloc | apply Kd.R_drewN | apply Kd.R_drew)); exact Kd.R_mono (Kd.R_far (p := ⟨go50, ((rd x7_1 x38_3) : Int).toNat, none⟩) (Kd.R_mono HO_36.out (fun k_ hk => (⟨hk, fun e_ => hk.2 (by rw [e_]; rfl)⟩ : _ ∧ k_ ≠ go50))) (fun _ hk => hk.2) (.int .i64 (wrap64 ((rd x9_3 (rd x7_1 x38_3)) + (rd x8_1 (rd x7_1 x32_2)))))) (fun _ hk => ⟨hk.1.1, hk.1.2⟩)⟩, ⟨by (with_reducible repeat (first | refine blk_drewN ?_ _ | refine blk_drew ?_ | refine blk_alloc ?_ _)); refine blk_far ?_ (by have h_ := Kd.R_ne HO_9.out BK161.out (by decide); intro e_; exact h_ (by rw [e_]; rfl)) _; (with_reducible repeat (first | refine blk_drewN ?_ _ | refine blk_drew ?_ | refine blk_alloc ?_ _)); exact BK161.out⟩, ⟨by repeat (first | (with_reducible first | exact HB.out | apply below_alloc | apply pw_below_drewN | apply below_drew1 | refine below_set ?_ GB50.out | refine below_set ?_ GE161.out) | exact HB.out)⟩⟩
                                                  · rw [if_neg c49] at H
                                                    exact absurd H (by simp)
                                                · rw [if_neg c48] at H
                                                  exact absurd H (by simp)
                                            · rw [if_neg c34] at H
                                              have c34b0 : ((Go.bits .andNot .i64 (rd x7_1 x32_2) (rd x7_1 x38_3)) == 0) = false := beq_eq_false_iff_ne.mpr c34
                                              have c34b1 : ((Go.bits .andNot .i64 (rd x7_1 x32_2) (rd x7_1 x38_3)) != 0) = true := bne_iff_ne.mpr c34
                                              have H' := Aside0.mk H
                                              clear H
                                              have p174 : 0 ≤ (x38_3 : Int) := of_decide_eq_true (by first | (with_reducible assumption) | assumption)
                                              have q174 : x38_3 < (x7_1.length : Int) := of_decide_eq_true (by first | (with_reducible assumption) | assumption)
                                              obtain ⟨ad174, e174, hx174_0⟩ := Kd.at_int (Kd.R_reads' HO_36.out).2.2 x38_3 p174 q174
                                              obtain rfl : ad173 = ad174 := (by injection e174)
                                              replace p174 := eq_true p174
                                              replace q174 := eq_true q174
                                              have p175 : 0 ≤ ((rd x7_1 x32_2) : Int) := of_decide_eq_true (by first | (with_reducible assumption) | assumption)
                                              have q175 : (rd x7_1 x32_2) < (x8_1.length : Int) := of_decide_eq_true (by first | (with_reducible assumption) | assumption)
                                              obtain ⟨ad175, e175, hx175_0⟩ := Kd.at_int (Kd.R_reads' HO_8.out).2.2 (rd x7_1 x32_2) p175 q175
                                              cases e175
                                              replace p175 := eq_true p175
                                              replace q175 := eq_true q175
                                              go_wp2
                                              go_roundg k3
                                              case measure => have := HK1.out; have := HK2.out; have := HK3.out; omega
                                              case rel => exact ⟨(x9_3), (wrap64 (x38_3 + 1)), (by first | rfl | (simp; done) | (simp [*]; done)), H', ⟨by have := HK1.out; have := HK2.out; have := HK3.out; omega⟩, ⟨by (with_reducible repeat (first | apply Kd.R_alloc | apply Kd.R_drewN | apply Kd.R_drew)); exact HO_7.out⟩, ⟨by (with_reducible repeat (first | apply Kd.R_alloc | apply Kd.R_drewN | apply Kd.R_drew)); exact HO_8.out⟩, ⟨by (with_reducible repeat (first | apply Kd.R_alloc | apply Kd.R_drewN | apply Kd.R_drew)); exact HO_9.out⟩, ⟨by (with_reducible repeat (first | apply Kd.R_alloc | apply Kd.R_drewN | apply Kd.R_drew)); exact HO_30.out⟩, ⟨by (with_reducible repeat (first | apply Kd.R_alloc | apply Kd.R_drewN | apply Kd.R_drew)); exact HO_36.out⟩, ⟨by (with_reducible repeat (first | refine blk_drewN ?_ _ | refine blk_drew ?_ | refine blk_alloc ?_ _)); exact BK161.out⟩, ⟨by repeat (first | (with_reducible first | exact HB.out | apply below_alloc | apply pw_below_drewN | apply below_drew1 | refine below_set ?_ GE161.out) | exact HB.out)⟩⟩
                                          · rw [if_neg c33] at H
                                            have c33b0 : decide (0 < (rd x8_1 (rd x7_1 x32_2))) = false := decide_eq_false c33
                                            clear c33
                                            have H' := Aside0.mk H
                                            clear H
                                            have p174 : 0 ≤ (x38_3 : Int) := of_decide_eq_true (by first | (with_reducible assumption) | assumption)
                                            have q174 : x38_3 < (x7_1.length : Int) := of_decide_eq_true (by first | (with_reducible assumption) | assumption)
                                            obtain ⟨ad174, e174, hx174_0⟩ := Kd.at_int (Kd.R_reads' HO_36.out).2.2 x38_3 p174 q174
                                            obtain rfl : ad173 = ad174 := (by injection e174)
                                            replace p174 := eq_true p174
                                            replace q174 := eq_true q174
                                            have p175 : 0 ≤ ((rd x7_1 x32_2) : Int) := of_decide_eq_true (by first | (with_reducible assumption) | assumption)
                                            have q175 : (rd x7_1 x32_2) < (x8_1.length : Int) := of_decide_eq_true (by first | (with_reducible assumption) | assumption)
                                            obtain ⟨ad175, e175, hx175_0⟩ := Kd.at_int (Kd.R_reads' HO_8.out).2.2 (rd x7_1 x32_2) p175 q175
                                            cases e175
                                            replace p175 := eq_true p175
                                            replace q175 := eq_true q175
                                            go_wp2
                                            go_roundg k3
                                            case measure => have := HK1.out; have := HK2.out; have := HK3.out; omega
                                            case rel => exact ⟨(x9_3), (wrap64 (x38_3 + 1)), (by first | rfl | (simp; done) | (simp [*]; done)), H', ⟨by have := HK1.out; have := HK2.out; have := HK3.out; omega⟩, ⟨by (with_reducible repeat (first | apply Kd.R_alloc | apply Kd.R_drewN | apply Kd.R_drew)); exact HO_7.out⟩, ⟨by (with_reducible repeat (first | apply Kd.R_alloc | apply Kd.R_drewN | apply Kd.R_drew)); exact HO_8.out⟩, ⟨by (with_reducible repeat (first | apply Kd.R_alloc | apply Kd.R_drewN | apply Kd.R_drew)); exact HO_9.out⟩, ⟨by (with_reducible repeat (first | apply Kd.R_alloc | apply Kd.R_drewN | apply Kd.R_drew)); exact HO_30.out⟩, ⟨by (with_reducible repeat (first | apply Kd.R_alloc | apply Kd.R_drewN | apply Kd.R_drew)); exact HO_36.out⟩, ⟨by (with_reducible repeat (first | refine blk_drewN ?_ _ | refine blk_drew ?_ | refine blk_alloc ?_ _)); exact BK161.out⟩, ⟨by repeat (first | (with_reducible first | exact HB.out | apply below_alloc | apply pw_below_drewN | apply below_drew1 | refine below_set ?_ GE161.out) | exact HB.out)⟩⟩
                                        · rw [if_neg c32] at H
                                          exact absurd H (by simp)
                                      · rw [if_neg c31] at H
                                        exact absurd H (by simp)
                                    · rw [if_neg c30] at H
                                      exact absurd H (by simp)
                                  · rw [if_neg c29] at H
                                    exact absurd H (by simp)
                                · rw [if_neg c28] at H
                                  have c28b0 : decide (x38_3 < (x7_1.length : Int)) = false := decide_eq_false c28
                                  clear c28
                                  have H' := Aside0.mk H
                                  clear H
                                  go_wp2
                                  go_roundg k3
                                  case measure => have := HK1.out; have := HK2.out; have := HK3.out; omega
                                  case rel => exact ⟨(x9_3), (wrap64 (x32_2 + 1)), (by first | rfl | (simp; done) | (simp [*]; done)), H', ⟨by have := HK1.out; have := HK2.out; have := HK3.out; omega⟩, ⟨by (with_reducible repeat (first | apply Kd.R_alloc | apply Kd.R_drewN | apply Kd.R_drew)); exact HO_7.out⟩, ⟨by (with_reducible repeat (first | apply Kd.R_alloc | apply Kd.R_drewN | apply Kd.R_drew)); exact Kd.R_mono HO_8.out (fun _ hk => ⟨hk.1, ⟨hk.2.1, hk.2.2.1⟩⟩)⟩, ⟨by (with_reducible repeat (first | apply Kd.R_alloc | apply Kd.R_drewN | apply Kd.R_drew)); exact Kd.R_mono HO_9.out (fun _ hk => ⟨hk.1, ⟨hk.2.1, hk.2.2.1⟩⟩)⟩, ⟨by (with_reducible repeat (first | apply Kd.R_alloc | apply Kd.R_drewN | apply Kd.R_drew)); exact HO_30.out⟩, ⟨by (with_reducible repeat (first | refine blk_drewN ?_ _ | refine blk_drew ?_ | refine blk_alloc ?_ _)); exact BK161.out⟩, ⟨by repeat (first | (with_reducible first | exact HB.out | apply below_alloc | apply pw_below_drewN | apply below_drew1 | refine below_set ?_ GE161.out) | exact HB.out)⟩⟩
                          · rw [if_neg c27] at H
                            exact absurd H (by simp)
                        · rw [if_neg c26] at H
                          exact absurd H (by simp)
                      · rw [if_neg c25] at H
                        have c25b0 : decide (x32_2 < (x7_1.length : Int)) = false := decide_eq_false c25
                        clear c25
                        have H' := Aside0.mk H
                        clear H
                        go_wp2
                        go_roundg k2
                        case measure => have := HK1.out; have := HK2.out; omega
                        case rel => exact ⟨(wrap64 (x1_1 - 1)), (x7_1), (x9_2), (by first | rfl | (simp; done) | (simp [*]; done)), H', ⟨by have := HK1.out; have := HK2.out; omega⟩, ⟨by (with_reducible repeat (first | apply Kd.R_alloc | apply Kd.R_drewN | apply Kd.R_drew)); exact Kd.R_mono HO_7.out (fun _ hk => hk.2)⟩, ⟨by (with_reducible repeat (first | apply Kd.R_alloc | apply Kd.R_drewN | apply Kd.R_drew)); exact Kd.R_mono HO_9.out (fun _ hk => hk.1)⟩, ⟨by (with_reducible repeat (first | refine blk_drewN ?_ _ | refine blk_drew ?_ | refine blk_alloc ?_ _)); exact BK161.out⟩, ⟨by repeat (first | (with_reducible first | exact HB.out | apply below_alloc | apply pw_below_drewN | apply below_drew1 | refine below_set ?_ GE161.out) | exact HB.out)⟩⟩
                · rw [if_neg c20] at H
                  exact absurd H (by simp)
              · rw [if_neg c19] at H
                exact absurd H (by simp)
            · rw [if_neg c18] at H
              have c18b0 : decide (0 < x1_1) = false := decide_eq_false c18
              clear c18
              obtain ⟨ji54, hji54⟩ : ∃ j_ : Int, (wrap64 ((x8_1.length : Int) - 1)) = j_ := ⟨_, rfl⟩
              replace H : (if 0 ≤ (ji54) then (if (ji54) < (x8_1.length : Int) then (some (rd x8_1 (ji54))) else (none)) else (none)) = some r := by first | (rw [hji54] at H; exact H) | (simp only [hji54] at H ⊢; exact H)
              have hji54w : (IntKind.i64.wrap ((x8_1.length : Int) - 1)) = ji54 := (i64_w _).trans hji54
              by_cases c55 : 0 ≤ (ji54)
              · rw [if_pos c55] at H
                have c55b0 : decide (0 ≤ (ji54)) = true := decide_eq_true c55
                clear c55
                by_cases c56 : (ji54) < (x8_1.length : Int)
                · rw [if_pos c56] at H
                  have c56b0 : decide ((ji54) < (x8_1.length : Int)) = true := decide_eq_true c56
                  clear c56
                  obtain rfl := Option.some.inj H
                  obtain ⟨Ao57, co57, eo57⟩ := Kd.R_slice HO_8.out
                  subst eo57
                  have p169 : 0 ≤ ((ji54) : Int) := of_decide_eq_true (by first | (with_reducible assumption) | assumption)
                  have q169 : (ji54) < (x8_1.length : Int) := of_decide_eq_true (by first | (with_reducible assumption) | assumption)
                  obtain ⟨ad169, e169, hx169_0⟩ := Kd.at_int (Kd.R_reads' HO_8.out).2.2 (ji54) p169 q169
                  cases e169
                  replace p169 := eq_true p169
                  replace q169 := eq_true q169
                  go_wp2
                  go_ret
                  exact ⟨by first | rfl | (simp [errW_none, errW_some] <;> rfl) | (simp only [← hji5, ← hji54]; first | rfl | (simp [errW_none, errW_some] <;> rfl)) | (simp [*, errW_none, errW_some] <;> rfl), by repeat (first | (with_reducible first | exact HB.out | apply below_alloc | apply pw_below_drewN | apply below_drew1 | refine below_set ?_ GE161.out) | exact HB.out)⟩
                · rw [if_neg c56] at H
                  exact absurd H (by simp)
              · rw [if_neg c55] at H
                exact absurd H (by simp)
      · rw [if_neg c8] at H
        exact absurd H (by simp)
    · rw [if_neg c7] at H
      exact absurd H (by simp)
  · rw [if_neg c6] at H
    exact absurd H (by simp)

end Go.Proofs.Ytemkddgfneohhaa.F
end

section
namespace Go.Proofs.Ytemkddgfneohhaa.Q
open Go.RowKit Go.Proofs.YtemkddgfneohhaaW.PrintWords
set_option linter.unusedVariables false
theorem wid {n : Int} (h0 : -9223372036854775808 ≤ n) (h1 : n ≤ 9223372036854775807) : wrap64 n = n := by unfold wrap64; omega
theorem wid1 {i n : Nat} (h : i < n) (hn : n ≤ 9223372036854775807) : wrap64 ((i : Int) + 1) = ((i + 1 : Nat) : Int) := by unfold wrap64; omega
theorem rdN (l : List Int) (i : Nat) : rd l (i : Int) = l.getD i 0 := by unfold rd; simp
theorem rdN' {l : List Int} {i : Nat} (h : i < l.length) : rd l (i : Int) = l[i] := by rw [rdN, List.getD_eq_getElem?_getD, List.getElem?_eq_getElem h]; rfl
theorem downTo {P : Nat → Prop} (n : Nat) (h0 : P n) (hs : ∀ i, i < n → P (i + 1) → P i) : ∀ i, i ≤ n → P i := by
  intro i hi
  obtain ⟨d, hd⟩ : ∃ d, n - i = d := ⟨_, rfl⟩
  induction d generalizing i with
  | zero => have : i = n := by omega
            subst this; exact h0
  | succ d ih => exact hs i (by omega) (ih (i + 1) (by omega) (by omega))
theorem evc {α : Type} {g : Nat → Option α} {r r' : α} (h : Ev g r) (e : r = r') : Ev g r' := e ▸ h
theorem Ev.ret {α : Type} {r r' : α} (e : r = r') : Ev (fun _ => some r) r' := e ▸ Ev.now r
/-- A call that needs no rounds. -/
theorem Ev.call {α β : Type} {o : Option α} {a : α} {f : Nat → α → Option β} {r : β} (h : o = some a) (k : Ev (fun n => f n a) r) : Ev (fun n => o.bind (f n)) r := by
  subst h; exact k
theorem Ev.yes {α : Type} {c : Prop} [Decidable c] {f g : Nat → Option α} {r : α} (h : c) (k : Ev f r) : Ev (fun n => if c then f n else g n) r := by
  obtain ⟨K, k⟩ := k
  exact ⟨K, fun n hn => by show (if c then f n else g n) = _; rw [if_pos h]; exact k n hn⟩
theorem Ev.no {α : Type} {c : Prop} [Decidable c] {f g : Nat → Option α} {r : α} (h : ¬ c) (k : Ev g r) : Ev (fun n => if c then f n else g n) r := by
  obtain ⟨K, k⟩ := k
  exact ⟨K, fun n hn => by show (if c then f n else g n) = _; rw [if_neg h]; exact k n hn⟩
theorem Ev.ite {α : Type} {c : Prop} [Decidable c] {f g : Nat → Option α} {r : α} (h1 : c → Ev f r) (h2 : ¬ c → Ev g r) : Ev (fun n => if c then f n else g n) r := by
  by_cases h : c
  · exact Ev.yes h (h1 h)
  · exact Ev.no h (h2 h)
theorem Ev.uniq {α : Type} {g : Nat → Option α} {r r' : α} (h : Ev g r) (h' : Ev g r') : r = r' := by
  obtain ⟨K, h⟩ := h
  obtain ⟨K', h'⟩ := h'
  have a := h (max K K') (by omega)
  have b := h' (max K K') (by omega)
  rw [a] at b
  exact Option.some.inj b
theorem Ev.const {α : Type} {o : Option α} {r : α} (h : o = some r) : Ev (fun _ => o) r := ⟨0, fun _ _ => h⟩

/-! ### bits -/
/-- The elements of a that are not in b. -/
def ndiff (a b : Nat) : Nat := a ^^^ (a &&& b)
theorem ndiff_bit (a b i : Nat) : (ndiff a b).testBit i = (a.testBit i && !b.testBit i) := by
  unfold ndiff; rw [Nat.testBit_xor, Nat.testBit_and]; cases a.testBit i <;> cases b.testBit i <;> rfl
theorem wrap_i64_id {n : Int} (h0 : -9223372036854775808 ≤ n) (h1 : n ≤ 9223372036854775807) : IntKind.i64.wrap n = n := by rw [IntKind.wrap_i64]; omega
theorem wraps62 (n : Int) (h0 : 0 ≤ n) (h1 : n < 2 ^ 62) : IntKind.i64.wrap n = n := wrap_i64_id (by omega) (by omega)
theorem bits_andN {a b : Nat} (ha : a < 2 ^ 62) (hb : b < 2 ^ 62) : Go.bits .and .i64 (a : Int) (b : Int) = ((a &&& b : Nat) : Int) :=
  (Go.bits_nat .i64 62 (by decide) wraps62 a b ha hb).1
theorem bits_orN {a b : Nat} (ha : a < 2 ^ 62) (hb : b < 2 ^ 62) : Go.bits .or .i64 (a : Int) (b : Int) = ((a ||| b : Nat) : Int) :=
  (Go.bits_nat .i64 62 (by decide) wraps62 a b ha hb).2
theorem lt_pow {a n m : Nat} (h : a < 2 ^ n) (hnm : n ≤ m) : a < 2 ^ m := Nat.lt_of_lt_of_le h (Nat.pow_le_pow_right (by decide) hnm)
theorem ndiff_le (a b : Nat) : ndiff a b ≤ a := by
  have h := Nat.and_le_left (n := a) (m := b)
  have hx : ndiff a b &&& (a &&& b) = 0 := by
    apply Nat.eq_of_testBit_eq
    intro i
    rw [Nat.testBit_and, ndiff_bit, Nat.testBit_and, Nat.zero_testBit]
    cases a.testBit i <;> cases b.testBit i <;> rfl
  apply Nat.le_of_testBit
  intro i hi
  rw [ndiff_bit] at hi
  simp at hi
  exact hi.1
theorem ndiff_lt {a b m : Nat} (h : a < m) : ndiff a b < m := Nat.lt_of_le_of_lt (ndiff_le a b) h
theorem bits_andNotN {a b : Nat} (ha : a < 2 ^ 62) (hb : b < 2 ^ 62) : Go.bits .andNot .i64 (a : Int) (b : Int) = ((ndiff a b : Nat) : Int) := by
  have e : Go.bits .andNot .i64 (a : Int) (b : Int) = IntKind.i64.wrap ((((BitVec.ofInt 64 a) &&& ~~~(BitVec.ofInt 64 b)).toNat : Nat) : Int) := rfl
  have e2 : ((BitVec.ofInt 64 (a : Int)) &&& ~~~(BitVec.ofInt 64 (b : Int))).toNat = ndiff a b := by
    apply Nat.eq_of_testBit_eq
    intro i
    rw [ndiff_bit, BitVec.ofInt_natCast, BitVec.ofInt_natCast]
    rw [BitVec.testBit_toNat, BitVec.getLsbD_and, BitVec.getLsbD_not, BitVec.getLsbD_ofNat, BitVec.getLsbD_ofNat]
    by_cases hi : i < 64
    · simp [hi]
    · have : a.testBit i = false := Nat.testBit_lt_two_pow (lt_pow ha (by omega))
      simp [hi, this]
  rw [e, e2]
  have h2 := ndiff_lt (b := b) ha
  exact wrap_i64_id (by omega) (by omega)
theorem shlN {i : Nat} (hi : i ≤ 61) : shl .i64 1 (i : Int) = ((2 ^ i : Nat) : Int) := by
  unfold shl
  have h1 : min (i : Int).toNat (IntKind.bits .i64) = i := by simp [IntKind.bits]; omega
  rw [h1]
  have h2 : (2 : Nat) ^ i < 2 ^ 62 := Nat.pow_lt_pow_right (by decide) (by omega)
  have e : (1 : Int) * 2 ^ i = ((2 ^ i : Nat) : Int) := by rw [Int.one_mul]; exact (Int.natCast_pow 2 i).symm
  rw [e]
  exact wraps62 _ (Int.natCast_nonneg _) (by
    have : ((2 ^ i : Nat) : Int) < ((4611686018427387904 : Nat) : Int) := by exact_mod_cast h2
    exact this)
theorem shrN (a i : Nat) (hi : i ≤ 64) : shr .i64 (a : Int) (i : Int) = ((a / 2 ^ i : Nat) : Int) := by
  unfold shr
  have h1 : min (i : Int).toNat (IntKind.bits .i64) = i := by simp [IntKind.bits]; omega
  rw [h1, Int.natCast_ediv, Int.natCast_pow]; rfl
theorem odd_bit (a i : Nat) : ((a / 2 ^ i) % 2 == 1) = a.testBit i := by
  rw [Nat.testBit_eq_decide_div_mod_eq]; rfl
theorem or_lt {a b n : Nat} (ha : a < 2 ^ n) (hb : b < 2 ^ n) : a ||| b < 2 ^ n := Nat.or_lt_two_pow ha hb
theorem bit_lt {a n i : Nat} (h : a < 2 ^ n) (hi : n ≤ i) : a.testBit i = false := Nat.testBit_lt_two_pow (lt_pow h hi)
theorem lt_of_bit {a n i : Nat} (h : a < 2 ^ n) (hi : a.testBit i = true) : i < n := by
  rcases Nat.lt_or_ge i n with h1 | h1
  · exact h1
  · rw [bit_lt h h1] at hi; cases hi
theorem pow_bit (i j : Nat) : (2 ^ i).testBit j = decide (i = j) := by
  rw [Nat.testBit_two_pow]
theorem pow_lt_pow {i n : Nat} (h : i < n) : 2 ^ i < 2 ^ n := Nat.pow_lt_pow_right (by decide) h
theorem ext_bits {a b n : Nat} (ha : a < 2 ^ n) (hb : b < 2 ^ n) (h : ∀ i, i < n → a.testBit i = b.testBit i) : a = b := by
  apply Nat.eq_of_testBit_eq
  intro i
  rcases Nat.lt_or_ge i n with h1 | h1
  · exact h i h1
  · rw [bit_lt ha h1, bit_lt hb h1]
end Go.Proofs.Ytemkddgfneohhaa.Q
end

section
namespace Go.Proofs.Ytemkddgfneohhaa.Q
open Go.RowKit Go.Proofs.YtemkddgfneohhaaW.PrintWords
set_option linter.unusedVariables false
/-- f holds at i, i + 1, .., n - 1. -/
def allFrom (f : Nat → Bool) (n i : Nat) : Bool := (List.range' i (n - i)).all f
theorem allFrom_end (f : Nat → Bool) (n : Nat) : allFrom f n n = true := by simp [allFrom]
theorem allFrom_step (f : Nat → Bool) {n i : Nat} (h : i < n) : allFrom f n i = (f i && allFrom f n (i + 1)) := by
  unfold allFrom
  obtain ⟨d, hd⟩ : ∃ d, n - i = d + 1 := ⟨n - i - 1, by omega⟩
  rw [hd, List.range'_succ, List.all_cons, show n - (i + 1) = d by omega]
theorem allFrom_iff (f : Nat → Bool) (n i : Nat) : allFrom f n i = true ↔ ∀ j, i ≤ j → j < n → f j = true := by
  unfold allFrom
  rw [List.all_eq_true]
  constructor
  · intro h j h1 h2
    exact h j (List.mem_range'_1.2 ⟨h1, by omega⟩)
  · intro h j hj
    obtain ⟨h1, h2⟩ := List.mem_range'_1.1 hj
    exact h j h1 (by omega)
theorem allFrom_congr {f g : Nat → Bool} {n i : Nat} (h : ∀ j, i ≤ j → j < n → f j = g j) : allFrom f n i = allFrom g n i := by
  rw [Bool.eq_iff_iff, allFrom_iff, allFrom_iff]
  exact ⟨fun H j a b => by rw [← h j a b]; exact H j a b, fun H j a b => by rw [h j a b]; exact H j a b⟩
theorem pow_int (i : Nat) : ((2 : Int) ^ i) = ((2 ^ i : Nat) : Int) := (Int.natCast_pow 2 i).symm
theorem mask_eq {i : Nat} (hi : i ≤ 61) : wrap64 ((shl .i64 1 (i : Int)) - 1) = (2 : Int) ^ i - 1 := by
  rw [shlN hi, pow_int]
  have h2 : (2 : Nat) ^ i ≤ 2 ^ 61 := Nat.pow_le_pow_right (by decide) hi
  have hp : 0 < 2 ^ i := Nat.two_pow_pos i
  apply wid <;> generalize 2 ^ i = z at * <;> omega
theorem bit_test {a : Nat} {j : Nat} (hj : j ≤ 64) : (Int.tmod (shr .i64 (a : Int) (j : Int)) 2 = 1) ↔ a.testBit j = true := by
  rw [shrN a j hj, Int.tmod_eq_emod_of_nonneg (Int.natCast_nonneg _), ← odd_bit, beq_iff_eq]
  omega
theorem range_false {a b : Int} {x : Int} (h : ¬ (a ≤ x ∧ x ≤ b)) : (decide (a ≤ x) && decide (x ≤ b)) = false := by
  rw [← Bool.not_eq_true, Bool.and_eq_true, decide_eq_true_eq, decide_eq_true_eq]; exact h
theorem range_true {a b : Int} {x : Int} (h : a ≤ x ∧ x ≤ b) : (decide (a ≤ x) && decide (x ≤ b)) = true := by
  rw [Bool.and_eq_true, decide_eq_true_eq, decide_eq_true_eq]; exact h
end Go.Proofs.Ytemkddgfneohhaa.Q
end

section
namespace Go.Proofs.Ytemkddgfneohhaa.Q
open Go.RowKit Go.Proofs.YtemkddgfneohhaaW.PrintWords Go.Proofs.Ytemkddgfneohhaa.F
set_option linter.unusedVariables false
theorem l1In_eq (a b c : Int) : spec_l1In.f a b c = some (decide (b ≤ a) && decide (a ≤ c)) := by
  unfold spec_l1In.f
  by_cases h : b ≤ a
  · rw [if_pos h]; simp [h]
  · rw [if_neg h]; simp [h]
end Go.Proofs.Ytemkddgfneohhaa.Q
end

section
namespace Go.Proofs.Ytemkddgfneohhaa.Q
open Go.RowKit Go.Proofs.YtemkddgfneohhaaW.PrintWords Go.Proofs.Ytemkddgfneohhaa.F
set_option linter.unusedVariables false
theorem has_eq {a j : Nat} (ha : a < 2 ^ 62) (hj : j ≤ 64) : impl_has.f (a : Int) (j : Int) = some (a.testBit j) := by
  unfold impl_has.f
  rw [if_pos (Int.natCast_nonneg _), shrN a j hj]
  congr 1
  have h1 : a / 2 ^ j < 2 ^ 62 := Nat.lt_of_le_of_lt (Nat.div_le_self _ _) ha
  have := bits_andN (a := a / 2 ^ j) (b := 1) h1 (by decide)
  rw [show ((1 : Nat) : Int) = 1 from rfl] at this
  rw [this, ← odd_bit, Nat.and_one_is_mod]
  rw [Bool.eq_iff_iff, beq_iff_eq, beq_iff_eq]
  omega

end Go.Proofs.Ytemkddgfneohhaa.Q
end

section
namespace Go.Proofs.Ytemkddgfneohhaa.Q
open Go.RowKit Go.Proofs.YtemkddgfneohhaaW.PrintWords Go.Proofs.Ytemkddgfneohhaa.F
set_option linter.unusedVariables false
theorem eqIntS_ev (a b : List Int) (h : a.length ≤ 9223372036854775807) : Ev (fun k => laws_eqIntS.f k a b) (decide (a = b)) := by
  unfold laws_eqIntS.f
  refine Ev.ite (fun hl => ?_) (fun hl => Ev.ret ?_)
  · have hl' : a.length = b.length := by omega
    have key : ∀ i, i ≤ a.length → a.take i = b.take i → Ev (fun k => laws_eqIntS.l0 k a b (i : Int)) (decide (a = b)) := by
      refine downTo _ ?_ ?_
      · intro hp
        refine Ev.step (by intro k; simp only [laws_eqIntS.l0]; rfl) (Ev.no (by omega) (Ev.ret ?_))
        rw [List.take_length, hl', List.take_length] at hp
        simp [hp]
      · intro i hi ih hp
        refine Ev.step (by intro k; simp only [laws_eqIntS.l0]; rfl) (Ev.yes (by omega) (Ev.yes (by omega) (Ev.yes (by omega) ?_)))
        rw [wid1 hi (by omega), rdN, rdN]
        have ga : a.getD i 0 = a[i] := by rw [List.getD_eq_getElem?_getD, List.getElem?_eq_getElem hi]; rfl
        have gb : b.getD i 0 = b[i]'(by omega) := by rw [List.getD_eq_getElem?_getD, List.getElem?_eq_getElem (by omega)]; rfl
        rw [ga, gb]
        refine Ev.ite (fun h => ih ?_) (fun h => Ev.ret ?_)
        · rw [List.take_add_one, List.take_add_one, hp, List.getElem?_eq_getElem hi, List.getElem?_eq_getElem (show i < b.length by omega), h]
        · rw [decide_eq_false]
          intro e
          subst e
          exact h rfl
    exact key 0 (by omega) rfl
  · rw [decide_eq_false]
    intro e
    subst e
    exact hl rfl
theorem eqIntS_refl (a : List Int) (h : a.length ≤ 9223372036854775807) : Ev (fun k => laws_eqIntS.f k a a) true := evc (eqIntS_ev a a h) (by simp)
end Go.Proofs.Ytemkddgfneohhaa.Q
end

section
namespace Go.Proofs.Ytemkddgfneohhaa.Q
open Go.RowKit Go.Proofs.YtemkddgfneohhaaW.PrintWords Go.Proofs.Ytemkddgfneohhaa.F
set_option linter.unusedVariables false
theorem eqPoset_refl (a : List Int) (h : a.length ≤ 9223372036854775807) : Ev (fun k => laws_eqPoset.f k a a) true := by
  unfold laws_eqPoset.f
  exact Ev.bind (eqIntS_refl a h) (Ev.yes rfl (Ev.ret rfl))
end Go.Proofs.Ytemkddgfneohhaa.Q
end

section
namespace Go.Proofs.Ytemkddgfneohhaa.Q
open Go.RowKit Go.Proofs.YtemkddgfneohhaaW.PrintWords Go.Proofs.Ytemkddgfneohhaa.F
set_option linter.unusedVariables false
theorem szIntS_eq (l : List Int) (a : Nat) (ha : a ≤ 1048576) (h : l.length ≤ maxLen) : laws_szIntS.f l (a : Int) = some (if l.length ≤ a then ((a - l.length : Nat) : Int) else -1) := by
  unfold laws_szIntS.f
  unfold maxLen at h
  have e : wrap64 ((a : Int) - (l.length : Int)) = (a : Int) - (l.length : Int) := wid (by omega) (by omega)
  rw [e]
  by_cases hc : l.length ≤ a
  · rw [if_neg (by omega), if_pos hc]; congr 1; omega
  · rw [if_pos (by omega), if_neg hc]
end Go.Proofs.Ytemkddgfneohhaa.Q
end

section
namespace Go.Proofs.Ytemkddgfneohhaa.Q
open Go.RowKit Go.Proofs.YtemkddgfneohhaaW.PrintWords Go.Proofs.Ytemkddgfneohhaa.F
set_option linter.unusedVariables false
theorem szPoset_eq (l : List Int) (a : Nat) (ha : a ≤ 1048576) (h : l.length ≤ maxLen) : laws_szPoset.f l (a : Int) = some (if l.length ≤ a then ((a - l.length : Nat) : Int) else -1) := by
  unfold laws_szPoset.f
  rw [szIntS_eq l a ha h]
  by_cases hc : l.length ≤ a
  · simp only [if_pos hc, Option.bind_some]; rw [if_neg (by omega)]
  · simp only [if_neg hc, Option.bind_some]; rw [if_pos (by omega)]
end Go.Proofs.Ytemkddgfneohhaa.Q
end

section
namespace Go.Proofs.Ytemkddgfneohhaa.Q
open Go.RowKit Go.Proofs.YtemkddgfneohhaaW.PrintWords Go.Proofs.Ytemkddgfneohhaa.F
set_option linter.unusedVariables false
theorem toIntS_ev (l : List Int) (h : l.length ≤ 1048576) : Ev (fun k => laws_toIntS.f k l) l := by
  unfold laws_toIntS.f
  refine Ev.yes (by omega) (Ev.yes (by omega) ?_)
  have key : ∀ i, i ≤ l.length → ∀ acc : List Int, acc.length = l.length → acc.take i = l.take i → Ev (fun k => laws_toIntS.l0 k l acc (i : Int)) l := by
    refine downTo _ ?_ ?_
    · intro acc ha hi
      refine Ev.step (by intro k; simp only [laws_toIntS.l0]; rfl) (Ev.no (by omega) (Ev.ret ?_))
      rw [List.take_length, ← ha, List.take_length] at hi
      exact hi
    · intro i hi ih acc ha hp
      refine Ev.step (by intro k; simp only [laws_toIntS.l0]; rfl) (Ev.yes (by omega) (Ev.yes (by omega) (Ev.yes (by omega) ?_)))
      rw [wid1 hi (by omega), rdN, Int.toNat_natCast]
      refine ih _ (by simp [ha]) ?_
      rw [List.take_add_one, List.take_add_one, List.take_set_of_le (Nat.le_refl _), hp, List.getElem?_set, List.getD_eq_getElem?_getD, List.getElem?_eq_getElem hi]
      simp [ha, hi]
  exact key 0 (by omega) _ (by simp) (by simp)
end Go.Proofs.Ytemkddgfneohhaa.Q
end

section
namespace Go.Proofs.Ytemkddgfneohhaa.Q
open Go.RowKit Go.Proofs.YtemkddgfneohhaaW.PrintWords Go.Proofs.Ytemkddgfneohhaa.F
set_option linter.unusedVariables false
theorem toPoset_ev (l : List Int) (h : l.length ≤ 1048576) : Ev (fun k => laws_toPoset.f k l) l := by
  unfold laws_toPoset.f
  exact Ev.bind (toIntS_ev l h) (Ev.ret rfl)
end Go.Proofs.Ytemkddgfneohhaa.Q
end

section
namespace Go.Proofs.Ytemkddgfneohhaa.Q
open Go.RowKit Go.Proofs.YtemkddgfneohhaaW.PrintWords
set_option linter.unusedVariables false
/-- a, a + 1, .., n of them. -/
def upFrom (a : Nat) (n : Nat) : List Int := (List.range' a n).map Int.ofNat
theorem upFrom_len (a n : Nat) : (upFrom a n).length = n := by simp [upFrom]
theorem upFrom_get {a n i : Nat} (h : i < n) : (upFrom a n).getD i 0 = ((a + i : Nat) : Int) := by
  rw [List.getD_eq_getElem?_getD]
  simp [upFrom, h]
end Go.Proofs.Ytemkddgfneohhaa.Q
end

section
namespace Go.Proofs.Ytemkddgfneohhaa.Q
open Go.RowKit Go.Proofs.YtemkddgfneohhaaW.PrintWords Go.Proofs.Ytemkddgfneohhaa.F
set_option linter.unusedVariables false
theorem heldIntS_ev (a n : Nat) (h : a + n ≤ 4611686018427387904) : Ev (fun k => laws_heldIntS.f k (upFrom a n) (a : Int)) ((a + n : Nat) : Int) := by
  unfold laws_heldIntS.f
  have key : ∀ i, i ≤ n → Ev (fun k => laws_heldIntS.l0 k (upFrom a n) ((a + i : Nat) : Int) (i : Int)) ((a + n : Nat) : Int) := by
    refine downTo _ ?_ ?_
    · refine Ev.step (by intro k; simp only [laws_heldIntS.l0]; rfl) (Ev.no (by rw [upFrom_len]; omega) (Ev.ret rfl))
    · intro i hi ih
      refine Ev.step (by intro k; simp only [laws_heldIntS.l0]; rfl) (Ev.yes (by rw [upFrom_len]; omega) (Ev.yes (by omega) (Ev.yes ?_ ?_)))
      · rw [rdN, upFrom_get hi]
      · rw [wid1 hi (by omega), wid1 (i := a + i) (n := a + n) (by omega) (by omega)]
        exact ih
  exact key 0 (by omega)
theorem heldIntS_ev1 (n : Nat) (h : n ≤ 4611686018427387000) : Ev (fun k => laws_heldIntS.f k (upFrom 1 n) 1) ((1 + n : Nat) : Int) := heldIntS_ev 1 n (by omega)
end Go.Proofs.Ytemkddgfneohhaa.Q
end

section
namespace Go.Proofs.Ytemkddgfneohhaa.Q
open Go.RowKit Go.Proofs.YtemkddgfneohhaaW.PrintWords Go.Proofs.Ytemkddgfneohhaa.F
set_option linter.unusedVariables false
theorem markIntS_ev (l : List Int) (a : Nat) (h : a + l.length ≤ 4611686018427387904) : Ev (fun k => laws_markIntS.f k l (a : Int)) (((a + l.length : Nat) : Int), upFrom a l.length) := by
  unfold laws_markIntS.f
  have key : ∀ i, i ≤ l.length → ∀ acc : List Int, acc.length = l.length → acc.take i = upFrom a i → Ev (fun k => laws_markIntS.l0 k acc ((a + i : Nat) : Int) (i : Int)) (((a + l.length : Nat) : Int), upFrom a l.length) := by
    refine downTo _ ?_ ?_
    · intro acc ha hp
      refine Ev.step (by intro k; simp only [laws_markIntS.l0]; rfl) (Ev.no (by omega) (Ev.ret ?_))
      rw [← ha, List.take_length] at hp
      rw [hp, ha]
    · intro i hi ih acc ha hp
      refine Ev.step (by intro k; simp only [laws_markIntS.l0]; rfl) (Ev.yes (by omega) (Ev.yes (by omega) ?_))
      rw [wid1 hi (by omega), wid1 (i := a + i) (n := a + l.length) (by omega) (by omega), Int.toNat_natCast]
      refine ih _ (by simp [ha]) ?_
      rw [List.take_add_one, List.take_set_of_le (Nat.le_refl _), hp, List.getElem?_set]
      simp [ha, hi, upFrom, List.range'_concat]
  exact key 0 (by omega) l rfl (by simp [upFrom])
theorem markIntS_ev1 (l : List Int) (h : l.length ≤ 4611686018427387000) : Ev (fun k => laws_markIntS.f k l 1) (((1 + l.length : Nat) : Int), upFrom 1 l.length) := markIntS_ev l 1 (by omega)
end Go.Proofs.Ytemkddgfneohhaa.Q
end

section
namespace Go.Proofs.Ytemkddgfneohhaa.Q
open Go.RowKit Go.Proofs.YtemkddgfneohhaaW.PrintWords Go.Proofs.Ytemkddgfneohhaa.F
set_option linter.unusedVariables false
theorem markPoset_ev (l : List Int) (a : Nat) (h : a + l.length ≤ 4611686018427387904) : Ev (fun k => laws_markPoset.f k l (a : Int)) (((a + l.length : Nat) : Int), upFrom a l.length) := by
  unfold laws_markPoset.f
  exact Ev.bind (markIntS_ev l a h) (Ev.ret rfl)
theorem markPoset_ev1 (l : List Int) (h : l.length ≤ 4611686018427387000) : Ev (fun k => laws_markPoset.f k l 1) (((1 + l.length : Nat) : Int), upFrom 1 l.length) := markPoset_ev l 1 (by omega)
end Go.Proofs.Ytemkddgfneohhaa.Q
end

section
namespace Go.Proofs.Ytemkddgfneohhaa.Q
end Go.Proofs.Ytemkddgfneohhaa.Q
end

section
namespace Go.Proofs.Ytemkddgfneohhaa.Q
open Go.RowKit Go.Proofs.YtemkddgfneohhaaW.PrintWords Go.Proofs.Ytemkddgfneohhaa.F
set_option linter.unusedVariables false
theorem poIn_eq {a j : Nat} (hj : j ≤ 64) : spec_poIn.f (a : Int) (j : Int) = some (a.testBit j) := by
  unfold spec_poIn.f
  rw [if_pos (Int.natCast_nonneg _)]
  congr 1
  rw [Bool.eq_iff_iff, beq_iff_eq]
  exact bit_test hj
end Go.Proofs.Ytemkddgfneohhaa.Q
end

section
namespace Go.Proofs.Ytemkddgfneohhaa.Q
open Go.RowKit Go.Proofs.YtemkddgfneohhaaW.PrintWords
set_option linter.unusedVariables false
/-- What is less than element i, as a set. -/
def L (p : List Int) (i : Nat) : Nat := (p.getD i 0).toNat
def rowOk (p : List Int) (i : Nat) : Bool := decide (0 ≤ p.getD i 0) && decide (p.getD i 0 ≤ 2 ^ i - 1) && allFrom (fun j => !(L p i).testBit j || decide (Go.bits .andNot .i64 (p.getD j 0) (p.getD i 0) = 0)) i 0
def isPo (p : List Int) : Bool := decide (1 ≤ p.length) && decide (p.length ≤ 10) && allFrom (rowOk p) p.length 0
structure PO (p : List Int) : Prop where
  pos : 1 ≤ p.length
  small : p.length ≤ 10
  val : ∀ i, i < p.length → p.getD i 0 = (L p i : Int)
  lt : ∀ i, i < p.length → L p i < 2 ^ i
  tr : ∀ i j, i < p.length → (L p i).testBit j = true → ndiff (L p j) (L p i) = 0
theorem L_big {p : List Int} {i : Nat} (h : p.length ≤ i) : L p i = 0 := by
  unfold L; rw [List.getD_eq_getElem?_getD, List.getElem?_eq_none h]; rfl
theorem isPo_iff (p : List Int) : isPo p = true ↔ PO p := by
  unfold isPo
  rw [Bool.and_eq_true, Bool.and_eq_true, decide_eq_true_eq, decide_eq_true_eq, allFrom_iff]
  constructor
  · rintro ⟨⟨h1, h2⟩, h3⟩
    have hv : ∀ i, i < p.length → p.getD i 0 = (L p i : Int) ∧ L p i < 2 ^ i := by
      intro i hi
      have := h3 i (Nat.zero_le _) hi
      simp only [rowOk, Bool.and_eq_true, decide_eq_true_eq] at this
      obtain ⟨⟨a, b⟩, _⟩ := this
      rw [pow_int] at b
      have hp : 0 < 2 ^ i := Nat.two_pow_pos i
      unfold L
      generalize 2 ^ i = z at *
      omega
    refine ⟨h1, h2, fun i hi => (hv i hi).1, fun i hi => (hv i hi).2, fun i j hi hj => ?_⟩
    have hji : j < i := lt_of_bit (hv i hi).2 hj
    have := h3 i (Nat.zero_le _) hi
    simp only [rowOk, Bool.and_eq_true] at this
    have h4 := (allFrom_iff _ _ _).1 this.2 j (Nat.zero_le _) hji
    rw [hj] at h4
    simp only [Bool.not_true, Bool.false_or, decide_eq_true_eq] at h4
    rw [(hv i hi).1, (hv j (by omega)).1, bits_andNotN (lt_pow (hv j (by omega)).2 (by omega)) (lt_pow (hv i hi).2 (by omega))] at h4
    exact_mod_cast h4
  · intro h
    refine ⟨⟨h.pos, h.small⟩, fun i _ hi => ?_⟩
    have hs := h.small
    have hl := h.lt i hi
    simp only [rowOk, Bool.and_eq_true, decide_eq_true_eq]
    refine ⟨⟨by rw [h.val i hi]; omega, by rw [h.val i hi, pow_int]; generalize 2 ^ i = z at *; omega⟩, ?_⟩
    rw [allFrom_iff]
    intro j _ hj
    cases hb : (L p i).testBit j with
    | false => rfl
    | true =>
      simp only [Bool.not_true, Bool.false_or, decide_eq_true_eq]
      rw [h.val i hi, h.val j (by omega), bits_andNotN (lt_pow (h.lt j (by omega)) (by omega)) (lt_pow hl (by omega)), h.tr i j hi hb]
      rfl
theorem isPo_false {p : List Int} (h : ¬ PO p) : isPo p = false := by
  cases e : isPo p with
  | false => rfl
  | true => exact absurd ((isPo_iff p).1 e) h

/-- The elements of a set, in order. -/
def itemsN (m : Nat) : List Nat := (List.range 10).filter m.testBit
def ints (l : List Nat) : List Int := l.map Int.ofNat
theorem ints_len (l : List Nat) : (ints l).length = l.length := by simp [ints]
theorem ints_app (a b : List Nat) : ints (a ++ b) = ints a ++ ints b := by simp [ints]
theorem ints_get (l : List Nat) (i : Nat) : (ints l).getD i 0 = ((l.getD i 0 : Nat) : Int) := by
  simp only [ints, List.getD_eq_getElem?_getD, List.getElem?_map]
  cases l[i]? <;> rfl
theorem rd_ints (l : List Nat) (i : Nat) : rd (ints l) (i : Int) = ((l.getD i 0 : Nat) : Int) := by rw [rdN, ints_get]
theorem mem_itemsN {m j : Nat} : j ∈ itemsN m ↔ j < 10 ∧ m.testBit j = true := by
  unfold itemsN; rw [List.mem_filter, List.mem_range]
theorem itemsN_len (m : Nat) : (itemsN m).length ≤ 10 := by
  unfold itemsN; have := List.length_filter_le m.testBit (List.range 10); simpa using this
theorem rowOk_false {p : List Int} {i : Nat} (h : ¬ (0 ≤ p.getD i 0 ∧ p.getD i 0 ≤ 2 ^ i - 1)) : rowOk p i = false := by
  unfold rowOk; rw [range_false h]; rfl
theorem rowOk_true {p : List Int} {i : Nat} (h : 0 ≤ p.getD i 0 ∧ p.getD i 0 ≤ 2 ^ i - 1) :
    rowOk p i = allFrom (fun j => !(L p i).testBit j || decide (Go.bits .andNot .i64 (p.getD j 0) (p.getD i 0) = 0)) i 0 := by
  unfold rowOk; rw [range_true h]; rfl
theorem all_drop_step {α : Type} (f : α → Bool) (l : List α) (d : α) {i : Nat} (h : i < l.length) : (l.drop i).all f = (f (l.getD i d) && (l.drop (i + 1)).all f) := by
  rw [List.drop_eq_getElem_cons h, List.all_cons, List.getD_eq_getElem?_getD, List.getElem?_eq_getElem h]; rfl
theorem items_lt {m i : Nat} {j : Nat} (hm : m < 2 ^ i) (hj : j < (itemsN m).length) : (itemsN m).getD j 0 < i := by
  rw [List.getD_eq_getElem?_getD, List.getElem?_eq_getElem hj]
  have := List.getElem_mem hj
  exact lt_of_bit hm (mem_itemsN.1 this).2
theorem items_all {m i : Nat} (hm : m < 2 ^ i) (hi : i ≤ 10) (f : Nat → Bool) : (itemsN m).all f = allFrom (fun j => !m.testBit j || f j) i 0 := by
  rw [Bool.eq_iff_iff, List.all_eq_true, allFrom_iff]
  constructor
  · intro h j _ hj
    cases hb : m.testBit j with
    | false => rfl
    | true => rw [h j (mem_itemsN.2 ⟨by omega, hb⟩)]; rfl
  · intro h j hj
    obtain ⟨h1, h2⟩ := mem_itemsN.1 hj
    have := h j (Nat.zero_le _) (lt_of_bit hm h2)
    rw [h2] at this
    simpa using this
end Go.Proofs.Ytemkddgfneohhaa.Q
end

section
namespace Go.Proofs.Ytemkddgfneohhaa.Q
open Go.RowKit Go.Proofs.YtemkddgfneohhaaW.PrintWords Go.Proofs.Ytemkddgfneohhaa.F
set_option linter.unusedVariables false
theorem items_ev (m : Nat) (hm : m < 2 ^ 62) : Ev (fun k => impl_items.f k (m : Int)) (ints (itemsN m)) := by
  show Ev (fun k => impl_items.l0 k (m : Int) [] 0) _
  have key : ∀ i, i ≤ 10 → ∀ acc : List Int, acc.length ≤ i → Ev (fun k => impl_items.l0 k (m : Int) acc (i : Int)) (acc ++ ints ((List.range' i (10 - i)).filter m.testBit)) := by
    refine downTo 10 ?_ ?_
    · intro acc _
      refine Ev.step (by intro k; simp only [impl_items.l0]; rfl) ?_
      refine Ev.no (by omega) (Ev.ret (by simp [ints]))
    · intro i hi ih acc ha
      refine Ev.step (by intro k; simp only [impl_items.l0]; rfl) ?_
      refine Ev.yes (by omega) (Ev.call (has_eq hm (by omega)) ?_)
      have hr : List.range' i (10 - i) = i :: List.range' (i + 1) (10 - (i + 1)) := by
        rw [show 10 - i = (10 - (i + 1)) + 1 by omega, List.range'_succ]
      rw [hr, wid1 hi (by omega)]
      cases hb : m.testBit i with
      | true =>
        refine Ev.yes rfl (Ev.yes (by omega) (evc (ih (acc ++ [(i : Int)]) (by simp; omega)) ?_))
        rw [List.filter_cons_of_pos hb]
        simp [ints]
      | false =>
        refine Ev.no (by simp) (evc (ih acc (by omega)) ?_)
        rw [List.filter_cons_of_neg (by simp [hb])]
  have := key 0 (by omega) [] (by simp)
  exact evc this (by simp [itemsN, List.range_eq_range'])

end Go.Proofs.Ytemkddgfneohhaa.Q
end

section
namespace Go.Proofs.Ytemkddgfneohhaa.Q
open Go.RowKit Go.Proofs.YtemkddgfneohhaaW.PrintWords
set_option linter.unusedVariables false
/-- The set of the e below n with c e. -/
def maskOf : Nat → (Nat → Bool) → Nat
  | 0, _ => 0
  | n + 1, c => if c n then maskOf n c ||| 2 ^ n else maskOf n c
theorem maskOf_bit (n : Nat) (c : Nat → Bool) (i : Nat) : (maskOf n c).testBit i = (decide (i < n) && c i) := by
  induction n with
  | zero => simp [maskOf]
  | succ n ih =>
    unfold maskOf
    by_cases hc : c n = true
    · rw [if_pos hc, Nat.testBit_or, ih, pow_bit]
      by_cases h : n = i
      · subst h; simp [hc]
      · have : decide (i < n + 1) = decide (i < n) := by rw [decide_eq_decide]; omega
        rw [this]; simp [h]
    · rw [if_neg hc, ih]
      by_cases h : n = i
      · subst h; simp at hc; simp [hc]
      · have : decide (i < n + 1) = decide (i < n) := by rw [decide_eq_decide]; omega
        rw [this]
theorem maskOf_lt (n : Nat) (c : Nat → Bool) : maskOf n c < 2 ^ n := by
  apply Nat.lt_pow_two_of_testBit
  intro i hi
  rw [maskOf_bit, decide_eq_false (by omega)]; rfl
def subB (a b : Nat) : Bool := ndiff a b == 0
theorem ndiff_zero {a b : Nat} : ndiff a b = 0 ↔ ∀ i, a.testBit i = true → b.testBit i = true := by
  constructor
  · intro h i hi
    have := ndiff_bit a b i
    rw [h, hi, Nat.zero_testBit] at this
    cases hb : b.testBit i with
    | true => rfl
    | false => rw [hb] at this; simp at this
  · intro h
    apply Nat.eq_of_testBit_eq
    intro i
    rw [ndiff_bit, Nat.zero_testBit]
    cases ha : a.testBit i with
    | false => rfl
    | true => rw [h i ha]; rfl
theorem subB_iff {a b : Nat} : subB a b = true ↔ ∀ i, a.testBit i = true → b.testBit i = true := by unfold subB; rw [beq_iff_eq]; exact ndiff_zero
/-- The set of all elements of a poset. -/
def allN (p : List Int) : Nat := 2 ^ p.length - 1
theorem allN_bit (p : List Int) (i : Nat) : (allN p).testBit i = decide (i < p.length) := by unfold allN; rw [Nat.testBit_two_pow_sub_one]
theorem allN_lt (p : List Int) : allN p < 2 ^ p.length := by unfold allN; have := Nat.two_pow_pos p.length; omega
/-- A number that is a set of elements of p. -/
def setB (p : List Int) (x : Int) : Bool := decide (0 ≤ x) && decide (x ≤ ((allN p : Nat) : Int))
theorem setB_iff {p : List Int} {x : Int} : setB p x = true ↔ ∃ s : Nat, x = (s : Int) ∧ s < 2 ^ p.length := by
  unfold setB
  rw [Bool.and_eq_true, decide_eq_true_eq, decide_eq_true_eq]
  have := Nat.two_pow_pos p.length
  unfold allN
  constructor
  · rintro ⟨h1, h2⟩; exact ⟨x.toNat, by omega, by omega⟩
  · rintro ⟨s, rfl, h⟩; omega
/-- A set that has with each element all that are less. -/
def idealB (p : List Int) (s : Nat) : Bool := allFrom (fun i => !s.testBit i || subB (L p i) s) p.length 0
theorem idealB_iff {p : List Int} {s : Nat} : idealB p s = true ↔ ∀ i, i < p.length → s.testBit i = true → ∀ j, (L p i).testBit j = true → s.testBit j = true := by
  unfold idealB
  rw [allFrom_iff]
  constructor
  · intro h i hi hs
    have := h i (Nat.zero_le _) hi
    rw [hs] at this
    exact subB_iff.1 (by simpa using this)
  · intro h i _ hi
    cases hs : s.testBit i with
    | false => rfl
    | true => rw [subB_iff.2 (h i hi hs)]; rfl
def closeN (p : List Int) (s : Nat) : Nat := (itemsN s).foldl (fun a e => a ||| L p e) s
theorem foldl_or_bit (g : Nat → Nat) (l : List Nat) (a i : Nat) : (l.foldl (fun a e => a ||| g e) a).testBit i = (a.testBit i || l.any fun e => (g e).testBit i) := by
  induction l generalizing a with
  | nil => simp
  | cons x l ih => rw [List.foldl_cons, ih, Nat.testBit_or, List.any_cons, Bool.or_assoc]
theorem closeN_bit {p : List Int} {s i : Nat} : (closeN p s).testBit i = (s.testBit i || (itemsN s).any fun e => (L p e).testBit i) := foldl_or_bit _ _ _ _
theorem closeN_eq {p : List Int} (hp : PO p) {s : Nat} (hs : s < 2 ^ p.length) : (closeN p s == s) = idealB p s := by
  have hn := hp.small
  rw [Bool.eq_iff_iff, beq_iff_eq, idealB_iff]
  constructor
  · intro h i hi hb j hj
    have := closeN_bit (p := p) (s := s) (i := j)
    rw [h] at this
    rw [this]
    have : (itemsN s).any (fun e => (L p e).testBit j) = true := List.any_eq_true.2 ⟨i, mem_itemsN.2 ⟨by omega, hb⟩, hj⟩
    rw [this]; simp
  · intro h
    apply Nat.eq_of_testBit_eq
    intro i
    rw [closeN_bit]
    cases hb : s.testBit i with
    | true => rfl
    | false =>
      rw [Bool.false_or, ← Bool.not_eq_true, List.any_eq_true]
      rintro ⟨e, he, hj⟩
      obtain ⟨_, h2⟩ := mem_itemsN.1 he
      have := h e (lt_of_bit hs h2) h2 i hj
      rw [this] at hb; cases hb
theorem L_lt {p : List Int} (hp : PO p) {i : Nat} (hi : i < p.length) : L p i < 2 ^ p.length := lt_pow (hp.lt i hi) (by omega)
theorem foldl_or_lt (g : Nat → Nat) (l : List Nat) (a n : Nat) (ha : a < 2 ^ n) (hg : ∀ e, e ∈ l → g e < 2 ^ n) : l.foldl (fun a e => a ||| g e) a < 2 ^ n := by
  induction l generalizing a with
  | nil => exact ha
  | cons x l ih => exact ih _ (or_lt ha (hg x List.mem_cons_self)) (fun e he => hg e (List.mem_cons_of_mem _ he))
theorem closeN_lt {p : List Int} (hp : PO p) {s : Nat} (hs : s < 2 ^ p.length) : closeN p s < 2 ^ p.length :=
  foldl_or_lt _ _ _ _ hs (fun e he => L_lt hp (lt_of_bit hs (mem_itemsN.1 he).2))
theorem foldl_drop_step {α β : Type} (f : β → α → β) (l : List α) (d : α) (b : β) {i : Nat} (h : i < l.length) : (l.drop i).foldl f b = (l.drop (i + 1)).foldl f (f b (l.getD i d)) := by
  rw [List.drop_eq_getElem_cons h, List.foldl_cons, List.getD_eq_getElem?_getD, List.getElem?_eq_getElem h]; rfl
end Go.Proofs.Ytemkddgfneohhaa.Q
end

section
namespace Go.Proofs.Ytemkddgfneohhaa.Q
open Go.RowKit Go.Proofs.YtemkddgfneohhaaW.PrintWords
set_option linter.unusedVariables false
def sumL : List Nat → Nat
  | [] => 0
  | x :: l => x + sumL l
theorem sumL_append (a b : List Nat) : sumL (a ++ b) = sumL a + sumL b := by
  induction a with
  | nil => simp [sumL]
  | cons x a ih => simp only [List.cons_append, sumL, ih]; omega
theorem sumL_le (l : List Nat) (b n : Nat) (h : ∀ x ∈ l, x ≤ b) (hn : l.length ≤ n) : sumL l ≤ n * b := by
  induction l generalizing n with
  | nil => exact Nat.zero_le _
  | cons x l ih =>
    cases n with
    | zero => simp at hn
    | succ n =>
      have h1 := h x List.mem_cons_self
      have h2 := ih n (fun y hy => h y (List.mem_cons_of_mem _ hy)) (by simpa using hn)
      rw [Nat.add_mul]; simp only [sumL]; omega
/-- The elements that can come behind those of s. -/
def nextN (p : List Int) (s : Nat) : List Nat := (List.range 10).filter fun e => decide (e < p.length) && !s.testBit e && subB (L p e) s
theorem mem_nextN {p : List Int} {s e : Nat} : e ∈ nextN p s ↔ e < 10 ∧ e < p.length ∧ s.testBit e = false ∧ subB (L p e) s = true := by
  unfold nextN
  rw [List.mem_filter, List.mem_range, Bool.and_eq_true, Bool.and_eq_true, decide_eq_true_eq, Bool.not_eq_true']
  constructor
  · rintro ⟨a, ⟨b, c⟩, d⟩; exact ⟨a, b, c, d⟩
  · rintro ⟨a, b, c, d⟩; exact ⟨a, ⟨b, c⟩, d⟩
theorem nextN_len (p : List Int) (s : Nat) : (nextN p s).length ≤ 10 := by
  unfold nextN; exact Nat.le_trans (List.length_filter_le _ _) (by simp)
def cnt (p : List Int) : Nat → Nat → Nat
  | 0, s => if s = allN p then 1 else 0
  | d + 1, s => if s = allN p then 1 else sumL ((nextN p s).map fun e => cnt p d (s ||| 2 ^ e))
theorem cnt_le (p : List Int) (d s : Nat) : cnt p d s ≤ 10 ^ d := by
  induction d generalizing s with
  | zero => unfold cnt; split <;> simp
  | succ d ih =>
    unfold cnt
    have h1 : 1 ≤ 10 ^ (d + 1) := Nat.one_le_pow _ _ (by decide)
    split
    · exact h1
    · have := sumL_le ((nextN p s).map fun e => cnt p d (s ||| 2 ^ e)) (10 ^ d) 10 (fun x hx => by obtain ⟨e, _, rfl⟩ := List.mem_map.1 hx; exact ih _) (by rw [List.length_map]; exact nextN_len p s)
      rw [Nat.pow_succ]; omega
def miss (p : List Int) (s : Nat) : Nat := (List.range p.length).countP fun e => !s.testBit e
theorem miss_le (p : List Int) (s : Nat) : miss p s ≤ p.length := by unfold miss; have := List.countP_le_length (p := fun e => !s.testBit e) (l := List.range p.length); simpa using this
theorem countP_lt {α : Type} (f g : α → Bool) (l : List α) (h : ∀ x ∈ l, f x = true → g x = true) (x : α) (hx : x ∈ l) (hg : g x = true) (hf : f x = false) : l.countP f < l.countP g := by
  induction l with
  | nil => cases hx
  | cons y l ih =>
    have hle : l.countP f ≤ l.countP g := List.countP_mono_left (fun z hz => h z (List.mem_cons_of_mem _ hz))
    rw [List.countP_cons, List.countP_cons]
    rcases List.mem_cons.1 hx with rfl | hx'
    · rw [hf, hg]; simp; omega
    · have := ih (fun z hz => h z (List.mem_cons_of_mem _ hz)) hx'
      have hy := h y List.mem_cons_self
      cases hfy : f y with
      | true => rw [hy hfy]; simp; omega
      | false => cases g y <;> simp <;> omega
theorem miss_lt {p : List Int} {s e : Nat} (he : e < p.length) (hb : s.testBit e = false) : miss p (s ||| 2 ^ e) < miss p s := by
  unfold miss
  refine countP_lt _ _ _ (fun x _ hx => ?_) e (List.mem_range.2 he) (by rw [hb]; rfl) ?_
  · rw [Nat.testBit_or] at hx
    cases h : s.testBit x with
    | false => rfl
    | true => rw [h] at hx; simp at hx
  · rw [Nat.testBit_or, pow_bit]; simp
theorem miss_zero {p : List Int} {s : Nat} (hs : s < 2 ^ p.length) (h : miss p s = 0) : s = allN p := by
  refine ext_bits hs (allN_lt p) (fun i hi => ?_)
  rw [allN_bit, decide_eq_true hi]
  unfold miss at h
  rw [List.countP_eq_zero] at h
  have := h i (List.mem_range.2 hi)
  simpa using this
theorem add_lt {p : List Int} {s e : Nat} (hs : s < 2 ^ p.length) (he : e < p.length) : s ||| 2 ^ e < 2 ^ p.length := or_lt hs (pow_lt_pow he)
theorem cnt_fuel {p : List Int} : ∀ (d d' s : Nat), s < 2 ^ p.length → miss p s ≤ d → miss p s ≤ d' → cnt p d s = cnt p d' s := by
  intro d
  induction d with
  | zero =>
    intro d' s hs h _
    have := miss_zero hs (by omega)
    subst this
    cases d' <;> simp [cnt]
  | succ d ih =>
    intro d' s hs h h'
    by_cases ha : s = allN p
    · subst ha; cases d' <;> simp [cnt]
    · cases d' with
      | zero => exact absurd (miss_zero hs (by omega)) ha
      | succ d' =>
        simp only [cnt, if_neg ha]
        congr 1
        apply List.map_congr_left
        intro e he
        obtain ⟨_, h1, h2, _⟩ := mem_nextN.1 he
        have := miss_lt h1 h2
        exact ih d' _ (add_lt hs h1) (by omega) (by omega)
/-- In how many orders the elements outside of s can follow. -/
def ways (p : List Int) (s : Nat) : Nat := cnt p p.length s
theorem ways_step {p : List Int} {s : Nat} (hs : s < 2 ^ p.length) (ha : s ≠ allN p) : ways p s = sumL ((nextN p s).map fun e => ways p (s ||| 2 ^ e)) := by
  unfold ways
  rw [cnt_fuel p.length (p.length + 1) s hs (miss_le p s) (by have := miss_le p s; omega)]
  simp only [cnt, if_neg ha]
theorem ways_all (p : List Int) : ways p (allN p) = 1 := by unfold ways; cases p.length <;> simp [cnt]
theorem ways_le {p : List Int} (h : p.length ≤ 10) (s : Nat) : ways p s ≤ 10000000000 := by
  unfold ways
  exact Nat.le_trans (cnt_le p _ s) (Nat.le_trans (Nat.pow_le_pow_right (by decide) h) (by decide))
theorem ways_cnt {p : List Int} {s d : Nat} (hs : s < 2 ^ p.length) (hd : p.length ≤ d) : ways p s = cnt p d s := cnt_fuel _ _ s hs (miss_le p s) (by have := miss_le p s; omega)
theorem idealB_all (p : List Int) (hp : PO p) : idealB p (allN p) = true := by
  rw [idealB_iff]
  intro i hi _ j hj
  rw [allN_bit, decide_eq_true_eq]
  have := lt_of_bit (hp.lt i hi) hj
  omega
theorem idealB_add {p : List Int} (hp : PO p) {s e : Nat} (hs : idealB p s = true) (he : e ∈ nextN p s) : idealB p (s ||| 2 ^ e) = true := by
  obtain ⟨_, h1, _, h3⟩ := mem_nextN.1 he
  rw [idealB_iff] at hs ⊢
  intro i hi hb j hj
  rw [Nat.testBit_or, pow_bit, Bool.or_eq_true, decide_eq_true_eq] at hb
  rw [Nat.testBit_or, Bool.or_eq_true]
  left
  rcases hb with hb | rfl
  · exact hs i hi hb j hj
  · exact subB_iff.1 h3 j hj
end Go.Proofs.Ytemkddgfneohhaa.Q
end

section
namespace Go.Proofs.Ytemkddgfneohhaa.Q
open Go.RowKit Go.Proofs.YtemkddgfneohhaaW.PrintWords Go.Proofs.Ytemkddgfneohhaa.F
set_option linter.unusedVariables false
theorem all_eq {p : List Int} (h : p.length ≤ 61) : impl_Poset_all.f p = some ((allN p : Nat) : Int) := by
  unfold impl_Poset_all.f
  rw [show impl_Poset_n.f p = some (p.length : Int) from rfl]
  simp only [Option.bind_some]
  rw [if_pos (by omega), mask_eq h, pow_int]
  unfold allN
  have := Nat.two_pow_pos p.length
  congr 1
  omega
end Go.Proofs.Ytemkddgfneohhaa.Q
end

section
namespace Go.Proofs.Ytemkddgfneohhaa.Q
open Go.RowKit Go.Proofs.YtemkddgfneohhaaW.PrintWords Go.Proofs.Ytemkddgfneohhaa.F
set_option linter.unusedVariables false
theorem close_ev {p : List Int} (hp : PO p) {s : Nat} (hs : s < 2 ^ p.length) : Ev (fun k => impl_Poset_close.f k p (s : Int)) ((closeN p s : Nat) : Int) := by
  have hn := hp.small
  unfold impl_Poset_close.f closeN
  refine Ev.bind (items_ev s (lt_pow hs (by omega))) ?_
  rw [ints_len]
  have hl := itemsN_len s
  have key : ∀ i, i ≤ (itemsN s).length → ∀ a : Nat, a < 2 ^ p.length → Ev (fun k => impl_Poset_close.l0 k (a : Int) (ints (itemsN s)) ((itemsN s).length : Int) (i : Int) p) (((itemsN s).drop i).foldl (fun a e => a ||| L p e) a : Nat) := by
    refine downTo _ ?_ ?_
    · intro a ha
      refine Ev.step (by intro k; simp only [impl_Poset_close.l0]; rfl) (Ev.no (by omega) (Ev.ret ?_))
      rw [List.drop_length]; rfl
    · intro i hi ih a ha
      have hlt := items_lt hs hi
      refine Ev.step (by intro k; simp only [impl_Poset_close.l0]; rfl) (Ev.yes (by omega) (Ev.yes (by omega) (Ev.yes (by rw [ints_len]; omega) ?_)))
      rw [rd_ints, wid1 hi (by omega), rdN, foldl_drop_step _ _ 0 _ hi]
      refine Ev.yes (by omega) (Ev.yes (by omega) ?_)
      rw [hp.val _ hlt, bits_orN (lt_pow ha (by omega)) (lt_pow (L_lt hp hlt) (by omega))]
      exact ih _ (or_lt ha (L_lt hp hlt))
  exact key 0 (by omega) s hs
end Go.Proofs.Ytemkddgfneohhaa.Q
end

section
namespace Go.Proofs.Ytemkddgfneohhaa.Q
open Go.RowKit Go.Proofs.YtemkddgfneohhaaW.PrintWords Go.Proofs.Ytemkddgfneohhaa.F
set_option linter.unusedVariables false
theorem poIdeal_ev {p : List Int} (hp : PO p) {s : Nat} (hs : s < 2 ^ p.length) : Ev (fun k => spec_poIdeal.f k p (s : Int)) (idealB p s) := by
  have hn := hp.small
  unfold spec_poIdeal.f idealB
  have key : ∀ i, i ≤ p.length → Ev (fun k => spec_poIdeal.l0 k (s : Int) p (p.length : Int) (i : Int)) (allFrom (fun i => !s.testBit i || subB (L p i) s) p.length i) := by
    refine downTo _ ?_ ?_
    · exact Ev.step (by intro k; simp only [spec_poIdeal.l0]; rfl) (Ev.no (by omega) (Ev.ret (allFrom_end _ _).symm))
    · intro i hi ih
      refine Ev.step (by intro k; simp only [spec_poIdeal.l0]; rfl) (Ev.yes (by omega) (Ev.yes (by omega) (Ev.yes (by omega) ?_)))
      rw [wid1 hi (by omega), rdN, hp.val i hi, allFrom_step _ hi]
      refine Ev.call (poIn_eq (by omega)) ?_
      cases s.testBit i with
      | false => exact Ev.no (by simp) (evc ih (by simp))
      | true =>
        refine Ev.yes rfl ?_
        rw [bits_andNotN (lt_pow (L_lt hp hi) (by omega)) (lt_pow hs (by omega))]
        refine Ev.ite (fun h => evc ih ?_) (fun h => Ev.ret ?_)
        · rw [show subB (L p i) s = true by unfold subB; rw [beq_iff_eq]; exact_mod_cast h]; simp
        · rw [show subB (L p i) s = false by unfold subB; rw [beq_eq_false_iff_ne]; intro e; exact h (by rw [e]; rfl)]; simp
  exact key 0 (by omega)
end Go.Proofs.Ytemkddgfneohhaa.Q
end

section
namespace Go.Proofs.Ytemkddgfneohhaa.Q
open Go.RowKit Go.Proofs.YtemkddgfneohhaaW.PrintWords
set_option linter.unusedVariables false
/-- The elements of l are put behind the set s one by one, each behind all that are less. -/
def ordRun (p : List Int) : Nat → List Int → Option Nat
  | s, [] => some s
  | s, e :: l => if (0 ≤ e ∧ e < (p.length : Int)) ∧ s.testBit e.toNat = false ∧ subB (L p e.toNat) s = true then ordRun p (s ||| 2 ^ e.toNat) l else none
def ordB (p w : List Int) : Bool := ordRun p 0 w == some (allN p)
theorem ordB_iff {p w : List Int} : ordB p w = true ↔ ordRun p 0 w = some (allN p) := by unfold ordB; rw [beq_iff_eq]
theorem ordRun_app (p x y : List Int) : ∀ s, ordRun p s (x ++ y) = (ordRun p s x).bind fun t => ordRun p t y := by
  induction x with
  | nil => intro s; rfl
  | cons e x ih =>
    intro s
    simp only [List.cons_append, ordRun]
    split
    · exact ih _
    · rfl
theorem ordRun_range {p l : List Int} : ∀ {s t : Nat}, ordRun p s l = some t → ∀ e ∈ l, 0 ≤ e ∧ e < (p.length : Int) := by
  induction l with
  | nil => intro s t h e he; cases he
  | cons x l ih =>
    intro s t h e he
    simp only [ordRun] at h
    split at h
    · rename_i hc
      rcases List.mem_cons.1 he with rfl | he
      · exact hc.1
      · exact ih h e he
    · cases h
def pcard (n s : Nat) : Nat := (List.range n).countP s.testBit
theorem pcard_succ (n s : Nat) : pcard (n + 1) s = pcard n s + if s.testBit n then 1 else 0 := by
  unfold pcard; rw [List.range_succ, List.countP_append, List.countP_singleton]
theorem pcard_above {n e : Nat} (s : Nat) (h : n ≤ e) : pcard n (s ||| 2 ^ e) = pcard n s := by
  unfold pcard
  apply List.countP_congr
  intro x hx
  rw [List.mem_range] at hx
  rw [Nat.testBit_or, pow_bit, decide_eq_false (by omega), Bool.or_false]
theorem pcard_add {n s e : Nat} (he : e < n) (hb : s.testBit e = false) : pcard n (s ||| 2 ^ e) = pcard n s + 1 := by
  induction n with
  | zero => omega
  | succ n ih =>
    rw [pcard_succ, pcard_succ, Nat.testBit_or, pow_bit]
    rcases Nat.lt_succ_iff_lt_or_eq.1 he with h | h
    · rw [ih h, decide_eq_false (by omega), Bool.or_false]; omega
    · subst h; rw [pcard_above s (Nat.le_refl _), hb]; simp
theorem pcard_zero (n : Nat) : pcard n 0 = 0 := by unfold pcard; rw [List.countP_eq_zero]; intro x _; simp
theorem pcard_le (n s : Nat) : pcard n s ≤ n := by unfold pcard; have := List.countP_le_length (p := s.testBit) (l := List.range n); simpa using this
theorem pcard_all (p : List Int) : pcard p.length (allN p) = p.length := by
  unfold pcard
  have : (List.range p.length).countP (allN p).testBit = (List.range p.length).length := by
    rw [List.countP_eq_length]; intro x hx; rw [List.mem_range] at hx; rw [allN_bit, decide_eq_true hx]
  rw [this, List.length_range]
theorem all_of_pcard {p : List Int} {s : Nat} (hs : s < 2 ^ p.length) (h : pcard p.length s = p.length) : s = allN p := by
  refine ext_bits hs (allN_lt p) (fun i hi => ?_)
  rw [allN_bit, decide_eq_true hi]
  have h2 : (List.range p.length).countP s.testBit = (List.range p.length).length := by rw [List.length_range]; exact h
  rw [List.countP_eq_length] at h2
  exact h2 i (List.mem_range.2 hi)
theorem ordRun_card {p l : List Int} : ∀ {s t : Nat}, s < 2 ^ p.length → ordRun p s l = some t → t < 2 ^ p.length ∧ pcard p.length t = pcard p.length s + l.length := by
  induction l with
  | nil => intro s t hs h; simp only [ordRun, Option.some.injEq] at h; subst h; exact ⟨hs, rfl⟩
  | cons x l ih =>
    intro s t hs h
    simp only [ordRun] at h
    split at h
    · rename_i hc
      obtain ⟨⟨h0, h1⟩, h2, h3⟩ := hc
      have hx : x.toNat < p.length := by omega
      obtain ⟨g1, g2⟩ := ih (or_lt hs (pow_lt_pow hx)) h
      refine ⟨g1, ?_⟩
      rw [g2, pcard_add hx h2, List.length_cons]; omega
    · cases h
theorem ordB_len {p w : List Int} (h : ordB p w = true) : w.length = p.length := by
  have := (ordRun_card (Nat.two_pow_pos _) (ordB_iff.1 h)).2
  rw [pcard_all, pcard_zero] at this; omega
theorem ordB_eq (p w : List Int) : (decide (w.length = p.length) && (ordRun p 0 w).isSome) = ordB p w := by
  rw [Bool.eq_iff_iff, Bool.and_eq_true, decide_eq_true_eq]
  constructor
  · rintro ⟨hl, hs⟩
    obtain ⟨t, ht⟩ := Option.isSome_iff_exists.1 hs
    obtain ⟨g1, g2⟩ := ordRun_card (Nat.two_pow_pos _) ht
    rw [pcard_zero, hl, Nat.zero_add] at g2
    rw [ordB_iff, ht, all_of_pcard g1 g2]
  · intro h
    exact ⟨ordB_len h, by rw [ordB_iff.1 h]; rfl⟩
theorem ordB_range {p w : List Int} (h : ordB p w = true) : ∀ e ∈ w, 0 ≤ e ∧ e < (p.length : Int) := ordRun_range (ordB_iff.1 h)
theorem drop_getD (w : List Int) {i : Nat} (h : i < w.length) : w.drop i = w.getD i 0 :: w.drop (i + 1) := by
  rw [List.drop_eq_getElem_cons h, List.getD_eq_getElem?_getD, List.getElem?_eq_getElem h]; rfl
end Go.Proofs.Ytemkddgfneohhaa.Q
end

section
namespace Go.Proofs.Ytemkddgfneohhaa.Q
open Go.RowKit Go.Proofs.YtemkddgfneohhaaW.PrintWords
set_option linter.unusedVariables false
/-- All ideals. -/
def idealsN (p : List Int) : List Nat := (List.range (2 ^ p.length)).filter (idealB p)
theorem mem_idealsN {p : List Int} {s : Nat} : s ∈ idealsN p ↔ s < 2 ^ p.length ∧ idealB p s = true := by
  unfold idealsN; rw [List.mem_filter, List.mem_range]
theorem idealsN_nodup (p : List Int) : (idealsN p).Nodup := List.Pairwise.filter _ List.nodup_range
theorem idealsN_len (p : List Int) : (idealsN p).length ≤ 2 ^ p.length := by
  have := List.length_filter_le (idealB p) (List.range (2 ^ p.length))
  rwa [List.length_range] at this
theorem idealB_zero' (p : List Int) : idealB p 0 = true := by rw [idealB_iff]; intro i _ h; rw [Nat.zero_testBit] at h; cases h
theorem zero_mem (p : List Int) : 0 ∈ idealsN p := mem_idealsN.2 ⟨Nat.two_pow_pos _, idealB_zero' p⟩
/-- No element of a set is less than another one. -/
def frB (p : List Int) (u : Nat) : Bool := allFrom (fun i => !u.testBit i || decide (L p i &&& u = 0)) p.length 0
/-- What may follow in a row. -/
def stB (p : List Int) (strict : Bool) (s t : Nat) : Bool := subB s t && (!strict || frB p (ndiff t s))
/-- How many rows of so many steps end in a set. -/
def wvN (B : Nat → Nat → Bool) (ids : List Nat) : Nat → Nat → Nat
  | 0, t => if t = 0 then 1 else 0
  | k + 1, t => sumL ((ids.filter fun s => B s t).map (wvN B ids k))
theorem sumL_map_le {α : Type} (f g : α → Nat) : ∀ l : List α, (∀ x ∈ l, f x ≤ g x) → sumL (l.map f) ≤ sumL (l.map g)
  | [], _ => Nat.le_refl _
  | x :: l, h => by
    have h1 := sumL_map_le f g l (fun y hy => h y (List.mem_cons_of_mem _ hy))
    have h2 := h x List.mem_cons_self
    simp only [List.map_cons, sumL]
    omega
theorem sumL_filter_le {α : Type} (f : α → Nat) (P Q : α → Bool) : ∀ l : List α, (∀ x ∈ l, P x = true → Q x = true) → sumL ((l.filter P).map f) ≤ sumL ((l.filter Q).map f)
  | [], _ => Nat.le_refl _
  | x :: l, h => by
    have h1 := sumL_filter_le f P Q l (fun y hy => h y (List.mem_cons_of_mem _ hy))
    rw [List.filter_cons, List.filter_cons]
    cases hp : P x with
    | false =>
      rw [if_neg (by simp)]
      cases hq : Q x with
      | false => rw [if_neg (by simp)]; exact h1
      | true => rw [if_pos rfl, List.map_cons]; simp only [sumL]; omega
    | true =>
      rw [if_pos rfl, if_pos (h x List.mem_cons_self hp)]
      simp only [List.map_cons, sumL]; omega
theorem sumL_take_le {α : Type} (f : α → Nat) (l : List α) (i : Nat) : sumL ((l.take i).map f) ≤ sumL (l.map f) := by
  rw [show l.map f = (l.take i).map f ++ (l.drop i).map f by rw [← List.map_append, List.take_append_drop], sumL_append]
  omega
/-- The sum over all parts of a set of the powers of a number by their sizes. -/
theorem sub_pow (c : Nat) : ∀ (n t : Nat), sumL (((List.range (2 ^ n)).filter fun s => subB s t).map fun s => c ^ pcard n s) = (c + 1) ^ pcard n t
  | 0, t => by
    have e : (List.range (2 ^ 0)).filter (fun s => subB s t) = [0] := by
      rw [show List.range (2 ^ 0) = [0] from rfl, List.filter_cons, if_pos (subB_iff.2 fun i h => by rw [Nat.zero_testBit] at h; cases h)]; rfl
    rw [e]; rfl
  | n + 1, t => by
    have hr : List.range (2 ^ (n + 1)) = List.range (2 ^ n) ++ (List.range (2 ^ n)).map (2 ^ n + ·) := by
      rw [show 2 ^ (n + 1) = 2 ^ n + 2 ^ n by rw [Nat.pow_succ]; omega, List.range_add]
    rw [hr, List.filter_append, List.map_append, sumL_append, List.filter_map, List.map_map]
    have hbit : ∀ s, s < 2 ^ n → 2 ^ n + s = s ||| 2 ^ n := fun s hs => by
      have h := Nat.two_pow_add_eq_or_of_lt hs 1
      rw [Nat.mul_one] at h
      rw [h, Nat.or_comm]
    have h1 : sumL (((List.range (2 ^ n)).filter fun s => subB s t).map fun s => c ^ pcard (n + 1) s) = (c + 1) ^ pcard n t := by
      rw [← sub_pow c n t]
      congr 1
      refine List.map_congr_left fun s hs => ?_
      have hs := List.mem_range.1 (List.mem_filter.1 hs).1
      rw [pcard_succ, Nat.testBit_lt_two_pow hs]; simp
    have hsub : ∀ s, s < 2 ^ n → subB (2 ^ n + s) t = (t.testBit n && subB s t) := fun s hs => by
      rw [hbit s hs, Bool.eq_iff_iff, Bool.and_eq_true, subB_iff, subB_iff]
      constructor
      · intro h
        exact ⟨h n (by rw [Nat.testBit_or, pow_bit]; simp), fun i hi => h i (by rw [Nat.testBit_or, hi]; rfl)⟩
      · rintro ⟨h1, h2⟩ i hi
        rw [Nat.testBit_or, pow_bit, Bool.or_eq_true, decide_eq_true_eq] at hi
        rcases hi with hi | hi
        · exact h2 i hi
        · rw [← hi]; exact h1
    have h2 : sumL (((List.range (2 ^ n)).filter ((fun s => subB s t) ∘ (2 ^ n + ·))).map ((fun s => c ^ pcard (n + 1) s) ∘ (2 ^ n + ·))) = if t.testBit n = true then c * (c + 1) ^ pcard n t else 0 := by
      have e1 : (List.range (2 ^ n)).filter ((fun s => subB s t) ∘ (2 ^ n + ·)) = (List.range (2 ^ n)).filter fun s => t.testBit n && subB s t := by
        refine List.filter_congr fun s hs => ?_
        exact hsub s (List.mem_range.1 hs)
      rw [e1]
      cases hb : t.testBit n with
      | false =>
        rw [if_neg (by simp)]
        have e2 : (List.range (2 ^ n)).filter (fun s => false && subB s t) = [] := by simp
        rw [e2]; rfl
      | true =>
        rw [if_pos rfl]
        simp only [Bool.true_and]
        rw [← sub_pow c n t]
        have hmul : ∀ l : List Nat, sumL (l.map fun s => c * c ^ pcard n s) = c * sumL (l.map fun s => c ^ pcard n s) := by
          intro l
          induction l with
          | nil => rfl
          | cons x l ih => simp only [List.map_cons, sumL]; rw [ih, Nat.mul_add]
        rw [← hmul]
        congr 1
        refine List.map_congr_left fun s hs => ?_
        have hs := List.mem_range.1 (List.mem_filter.1 hs).1
        show c ^ pcard (n + 1) (2 ^ n + s) = _
        rw [hbit s hs, pcard_add (Nat.lt_succ_self n) (Nat.testBit_lt_two_pow hs), pcard_succ, Nat.testBit_lt_two_pow hs]
        simp [Nat.pow_succ, Nat.mul_comm]
    rw [h1, h2, pcard_succ]
    cases t.testBit n with
    | false => simp
    | true => simp only [if_pos]; rw [Nat.pow_succ, Nat.mul_comm ((c + 1) ^ pcard n t), Nat.add_mul, Nat.one_mul]; omega
/-- Rows are few. -/
theorem wvN_le {p : List Int} {B : Nat → Nat → Bool} (hB : ∀ s t, B s t = true → subB s t = true) : ∀ k t, wvN B (idealsN p) k t ≤ (k + 1) ^ pcard p.length t
  | 0, t => by
    unfold wvN
    rw [Nat.one_pow]
    split <;> omega
  | k + 1, t => by
    unfold wvN
    rw [← sub_pow (k + 1) p.length t]
    refine Nat.le_trans (sumL_map_le _ (fun s => (k + 1) ^ pcard p.length s) _ (fun s _ => wvN_le hB k s)) ?_
    unfold idealsN
    rw [List.filter_filter]
    refine sumL_filter_le _ _ _ _ fun s _ h => ?_
    rw [Bool.and_eq_true] at h
    exact hB s t h.1
theorem pow_bound {c m : Nat} (hc : c ≤ 15) (hm : m ≤ 10) : c ^ m ≤ 576650390625 := by
  refine Nat.le_trans (Nat.pow_le_pow_left hc m) ?_
  have h15 : (15 : Nat) ^ m ≤ 15 ^ 10 := Nat.pow_le_pow_right (by decide) hm
  exact Nat.le_trans h15 (by decide)
theorem wvN_small {p : List Int} (hp : p.length ≤ 10) {B : Nat → Nat → Bool} (hB : ∀ s t, B s t = true → subB s t = true) {k t : Nat} (hk : k ≤ 14) : wvN B (idealsN p) k t ≤ 576650390625 :=
  Nat.le_trans (wvN_le hB k t) (pow_bound (by omega) (Nat.le_trans (pcard_le _ _) hp))
theorem stB_sub {p : List Int} {b : Bool} {s t : Nat} (h : stB p b s t = true) : subB s t = true := by
  unfold stB at h
  rw [Bool.and_eq_true] at h
  exact h.1
theorem sub_all {p : List Int} {s : Nat} (hs : s < 2 ^ p.length) : subB s (allN p) = true := subB_iff.2 fun i hi => by
  rw [allN_bit]; exact decide_eq_true (lt_of_bit hs hi)
end Go.Proofs.Ytemkddgfneohhaa.Q
end

section
namespace Go.Proofs.Ytemkddgfneohhaa.Q
open Go.RowKit Go.Proofs.YtemkddgfneohhaaW.PrintWords Go.Proofs.Ytemkddgfneohhaa.F
set_option linter.unusedVariables false
theorem poIdeals_ev {p : List Int} (hp : PO p) : Ev (fun k => spec_poIdeals.f k p) (ints (idealsN p)) := by
  have hn := hp.small
  have h2 : 2 ^ p.length ≤ 1024 := Nat.le_trans (Nat.pow_le_pow_right (by decide) hn) (by decide)
  unfold spec_poIdeals.f
  have key : ∀ i, i ≤ 2 ^ p.length → ∀ acc : List Int, acc.length ≤ i → Ev (fun k => spec_poIdeals.l0 k acc (i : Int) p) (acc ++ ints ((List.range' i (2 ^ p.length - i)).filter (idealB p))) := by
    refine downTo _ ?_ ?_
    · intro acc _
      refine Ev.step (by intro k; simp only [spec_poIdeals.l0]; rfl) ?_
      rw [shlN (by omega), Nat.sub_self]
      exact Ev.no (by omega) (Ev.ret (by simp [ints]))
    · intro i hi ih acc ha
      refine Ev.step (by intro k; simp only [spec_poIdeals.l0]; rfl) ?_
      rw [shlN (by omega)]
      refine Ev.yes (by omega) (Ev.bind (poIdeal_ev hp hi) ?_)
      rw [show 2 ^ p.length - i = (2 ^ p.length - (i + 1)) + 1 by omega, List.range'_succ, List.filter_cons, wid1 hi (by omega)]
      cases hc : idealB p i with
      | true =>
        rw [if_pos rfl]
        refine Ev.yes rfl (Ev.yes (by omega) (evc (ih (acc ++ [(i : Int)]) (by rw [List.length_append, List.length_singleton]; omega)) ?_))
        rw [List.append_assoc]; rfl
      | false =>
        rw [if_neg (by simp)]
        exact Ev.no (by simp) (ih acc (by omega))
  have := key 0 (Nat.zero_le _) [] (Nat.le_refl _)
  rw [Nat.sub_zero, ← List.range_eq_range'] at this
  exact this
end Go.Proofs.Ytemkddgfneohhaa.Q
end

section
namespace Go.Proofs.Ytemkddgfneohhaa.Q
open Go.RowKit Go.Proofs.YtemkddgfneohhaaW.PrintWords
set_option linter.unusedVariables false
theorem sizes_eq (n : Nat) : (decide ((1 : Int) ≤ (n : Int)) && decide ((n : Int) ≤ 10)) = (decide (1 ≤ n) && decide (n ≤ 10)) := by
  rw [Bool.eq_iff_iff]; simp only [Bool.and_eq_true, decide_eq_true_eq]; omega
end Go.Proofs.Ytemkddgfneohhaa.Q
end

section
namespace Go.Proofs.Ytemkddgfneohhaa.Q
open Go.RowKit Go.Proofs.YtemkddgfneohhaaW.PrintWords Go.Proofs.Ytemkddgfneohhaa.F
set_option linter.unusedVariables false
theorem poGood_ev (p : List Int) : Ev (fun k => spec_poGood.f k p) (isPo p) := by
  unfold spec_poGood.f
  refine Ev.call (l1In_eq _ _ _) ?_
  unfold isPo
  rw [sizes_eq]
  cases hs : (decide (1 ≤ p.length) && decide (p.length ≤ 10)) with
  | false => exact Ev.no (by simp) (Ev.ret rfl)
  | true =>
  refine Ev.yes rfl ?_
  rw [Bool.and_eq_true, decide_eq_true_eq, decide_eq_true_eq] at hs
  obtain ⟨h1, h2⟩ := hs
  have key : ∀ i, i ≤ p.length → Ev (fun k => spec_poGood.l0 k p (p.length : Int) (i : Int) p) (allFrom (rowOk p) p.length i) := by
    refine downTo p.length ?_ ?_
    · refine Ev.step (by intro k; simp only [spec_poGood.l0]; rfl) ?_
      exact Ev.no (by omega) (Ev.ret (allFrom_end _ _).symm)
    · intro i hi ih
      refine Ev.step (by intro k; simp only [spec_poGood.l0]; rfl) ?_
      refine Ev.yes (by omega) (Ev.yes (by omega) (Ev.yes (by omega) ?_))
      rw [rdN, mask_eq (by omega)]
      refine Ev.call (l1In_eq _ _ _) ?_
      rw [allFrom_step _ hi]
      by_cases hb : 0 ≤ p.getD i 0 ∧ p.getD i 0 ≤ 2 ^ i - 1
      rotate_left
      · exact Ev.no (by rw [range_false hb]; simp) (Ev.ret (by rw [rowOk_false hb]; rfl))
      refine Ev.yes (range_true hb) ?_
      have hv : p.getD i 0 = (L p i : Int) := by unfold L; omega
      rw [rowOk_true hb]
      generalize hx : p.getD i 0 = x at *
      have inner : ∀ j, j ≤ i → Ev (fun k => spec_poGood.l1 k (i : Int) x (j : Int) p (p.length : Int) (i : Int) p)
          (allFrom (fun j => !(L p i).testBit j || decide (Go.bits .andNot .i64 (p.getD j 0) x = 0)) i j && allFrom (rowOk p) p.length (i + 1)) := by
        refine downTo i ?_ ?_
        · refine Ev.step (by intro k; simp only [spec_poGood.l1]; rfl) ?_
          refine Ev.no (by omega) ?_
          rw [wid1 hi (by omega), allFrom_end, Bool.true_and]
          exact ih
        · intro j hj ihj
          refine Ev.step (by intro k; simp only [spec_poGood.l1]; rfl) ?_
          refine Ev.yes (by omega) (Ev.yes (by omega) ?_)
          rw [allFrom_step _ hj, wid1 hj (by omega), rdN]
          cases hbit : (L p i).testBit j with
          | false => exact Ev.no (by rw [hv, bit_test (by omega), hbit]; simp) (evc ihj (by simp))
          | true =>
            refine Ev.yes (by rw [hv, bit_test (by omega), hbit]) (Ev.yes (by omega) ?_)
            refine Ev.ite (fun h => evc ihj ?_) (fun h => Ev.ret ?_)
            · rw [decide_eq_true h]; simp
            · rw [decide_eq_false h]; simp
      exact inner 0 (by omega)
  exact key 0 (by omega)
end Go.Proofs.Ytemkddgfneohhaa.Q
end

section
namespace Go.Proofs.Ytemkddgfneohhaa.Q
open Go.RowKit Go.Proofs.YtemkddgfneohhaaW.PrintWords
set_option linter.unusedVariables false
def Tl (N : Nat) (f : Nat → Nat) : List Int := (List.range N).map fun t => ((f t : Nat) : Int)
theorem Tl_len (N : Nat) (f : Nat → Nat) : (Tl N f).length = N := by simp [Tl]
theorem Tl_get (N : Nat) (f : Nat → Nat) {t : Nat} (ht : t < N) : rd (Tl N f) (t : Int) = ((f t : Nat) : Int) := by
  rw [rdN]
  unfold Tl
  rw [List.getD_eq_getElem?_getD, List.getElem?_map, List.getElem?_range ht]; rfl
theorem Tl_congr {N : Nat} {f g : Nat → Nat} (h : ∀ t, t < N → f t = g t) : Tl N f = Tl N g := List.map_congr_left fun t ht => by rw [h t (List.mem_range.1 ht)]
theorem Tl_set {N : Nat} {f : Nat → Nat} {t x : Nat} (ht : t < N) : (Tl N f).set t (x : Int) = Tl N fun u => if u = t then x else f u := by
  apply List.ext_getElem?
  intro i
  unfold Tl
  rw [List.getElem?_set, List.getElem?_map, List.getElem?_map, List.length_map, List.length_range]
  by_cases hi : i < N
  · rw [List.getElem?_range hi]
    by_cases e : t = i
    · subst e
      rw [if_pos rfl, if_pos ht]
      simp
    · rw [if_neg e]
      simp only [Option.map_some]
      rw [if_neg (fun h => e h.symm)]
  · rw [List.getElem?_eq_none (l := List.range N) (by simpa using hi)]
    by_cases e : t = i
    · subst e; exact absurd ht hi
    · rw [if_neg e]; rfl
theorem Tl_zero (N : Nat) : List.replicate N (0 : Int) = Tl N fun _ => 0 := by
  unfold Tl
  apply List.ext_getElem
  · simp
  · intro i h1 h2; simp
theorem sumL_snoc (l : List Nat) (x : Nat) : sumL (l ++ [x]) = sumL l + x := by rw [sumL_append]; simp [sumL]
theorem take_snoc {α : Type} (l : List α) (i : Nat) (h : i < l.length) : l.take (i + 1) = l.take i ++ [l[i]] := by
  rw [List.take_add_one, List.getElem?_eq_getElem h]; rfl
end Go.Proofs.Ytemkddgfneohhaa.Q
end

section
namespace Go.Proofs.Ytemkddgfneohhaa.Q
open Go.RowKit Go.Proofs.YtemkddgfneohhaaW.PrintWords Go.Proofs.Ytemkddgfneohhaa.F
set_option linter.unusedVariables false
theorem laFree_ev {p : List Int} (hp : PO p) {u : Nat} (hu : u < 2 ^ p.length) : Ev (fun k => spec_laFree.f k p (u : Int)) (frB p u) := by
  have hn := hp.small
  unfold spec_laFree.f frB
  have key : ∀ i, i ≤ p.length → Ev (fun k => spec_laFree.l0 k (u : Int) p (p.length : Int) (i : Int)) (allFrom (fun i => !u.testBit i || decide (L p i &&& u = 0)) p.length i) := by
    refine downTo _ ?_ ?_
    · exact Ev.step (by intro k; simp only [spec_laFree.l0]; rfl) (Ev.no (by omega) (Ev.ret (allFrom_end _ _).symm))
    · intro i hi ih
      refine Ev.step (by intro k; simp only [spec_laFree.l0]; rfl) (Ev.yes (by omega) (Ev.yes (by omega) (Ev.yes (by omega) ?_)))
      rw [wid1 hi (by omega), rdN, hp.val i hi, allFrom_step _ hi]
      refine Ev.call (poIn_eq (by omega)) ?_
      cases u.testBit i with
      | false => exact Ev.no (by simp) (evc ih (by simp))
      | true =>
        refine Ev.yes rfl ?_
        rw [bits_andN (lt_pow (L_lt hp hi) (by omega)) (lt_pow hu (by omega))]
        refine Ev.ite (fun h => evc ih ?_) (fun h => Ev.ret ?_)
        · rw [decide_eq_true (show L p i &&& u = 0 by exact_mod_cast h)]; simp
        · rw [decide_eq_false (show ¬ L p i &&& u = 0 by intro e; exact h (by rw [e]; rfl))]; simp
  exact key 0 (Nat.zero_le _)
/-- What the sets ahead of i have given to t. -/
def gotN (B : Nat → Nat → Bool) (ids : List Nat) (v : Nat → Nat) (i t : Nat) : Nat := if t ∈ ids then sumL (((ids.take i).filter fun s => B s t).map v) else 0
/-- .. and what the set s has given to those ahead of j. -/
def gotJ (B : Nat → Nat → Bool) (ids : List Nat) (v : Nat → Nat) (i j s t : Nat) : Nat := gotN B ids v i t + if t ∈ ids.take j ∧ B s t = true then v s else 0
theorem gotN_le {B : Nat → Nat → Bool} {ids : List Nat} {v : Nat → Nat} {i t : Nat} : gotN B ids v i t ≤ sumL ((ids.filter fun s => B s t).map v) := by
  unfold gotN
  split
  · refine Nat.le_trans ?_ (Nat.le_refl (sumL ((ids.filter fun s => B s t).map v)))
    have e : ids.filter (fun s => B s t) = (ids.take i).filter (fun s => B s t) ++ (ids.drop i).filter (fun s => B s t) := by rw [← List.filter_append, List.take_append_drop]
    rw [e, List.map_append, sumL_append]
    omega
  · omega
theorem gotN_step {B : Nat → Nat → Bool} {ids : List Nat} {v : Nat → Nat} {i t : Nat} (hi : i < ids.length) : gotN B ids v (i + 1) t = gotN B ids v i t + if t ∈ ids ∧ B ids[i] t = true then v ids[i] else 0 := by
  unfold gotN
  by_cases ht : t ∈ ids
  · rw [if_pos ht, if_pos ht, take_snoc ids i hi, List.filter_append, List.map_append, sumL_append]
    cases hb : B ids[i] t with
    | true => simp [ht, hb, sumL]
    | false => simp [hb, sumL]
  · rw [if_neg ht, if_neg ht, if_neg (fun h => ht h.1)]
theorem gotJ_end {B : Nat → Nat → Bool} {ids : List Nat} {v : Nat → Nat} {i t : Nat} (hi : i < ids.length) : gotJ B ids v i ids.length ids[i] t = gotN B ids v (i + 1) t := by
  unfold gotJ
  rw [List.take_length, gotN_step hi]
theorem not_in_take {ids : List Nat} (hn : ids.Nodup) {j : Nat} (hj : j < ids.length) : ids[j] ∉ ids.take j := by
  intro h
  obtain ⟨i, hi, e⟩ := List.mem_take_iff_getElem.1 h
  rw [List.nodup_iff_pairwise_ne, List.pairwise_iff_getElem] at hn
  exact hn i j (by omega) hj (by omega) e
theorem gotJ_step {B : Nat → Nat → Bool} {ids : List Nat} {v : Nat → Nat} {i j s : Nat} (hn : ids.Nodup) (hj : j < ids.length) (u : Nat) :
    gotJ B ids v i (j + 1) s u = if u = ids[j] ∧ B s u = true then gotJ B ids v i j s u + v s else gotJ B ids v i j s u := by
  unfold gotJ
  rw [take_snoc ids j hj]
  by_cases e : u = ids[j]
  · subst e
    have h0 := not_in_take hn hj
    have h1 : ids[j] ∈ ids.take j ++ [ids[j]] := List.mem_append.2 (.inr (List.mem_singleton.2 rfl))
    cases hb : B s ids[j] with
    | true => rw [if_pos ⟨h1, rfl⟩, if_pos ⟨rfl, rfl⟩, if_neg (fun h => h0 h.1)]; omega
    | false => rw [if_neg (by simp), if_neg (by simp), if_neg (by simp)]
  · have hne : ¬ (u = ids[j] ∧ B s u = true) := fun h => e h.1
    have : (u ∈ ids.take j ++ [ids[j]]) ↔ u ∈ ids.take j := by rw [List.mem_append, List.mem_singleton]; exact ⟨fun h => h.elim id (fun h => absurd h e), .inl⟩
    rw [if_neg hne]
    by_cases h : u ∈ ids.take j ∧ B s u = true
    · rw [if_pos h, if_pos ⟨this.2 h.1, h.2⟩]
    · rw [if_neg h, if_neg (fun h2 => h ⟨this.1 h2.1, h2.2⟩)]
theorem gotJ_le {B : Nat → Nat → Bool} {ids : List Nat} {v : Nat → Nat} {i j t : Nat} (hi : i < ids.length) (hj : j ≤ ids.length) : gotJ B ids v i j ids[i] t ≤ gotN B ids v (i + 1) t := by
  rw [← gotJ_end hi]
  unfold gotJ
  rw [List.take_length]
  by_cases h : t ∈ ids.take j ∧ B ids[i] t = true
  · rw [if_pos h, if_pos ⟨List.mem_of_mem_take h.1, h.2⟩]; omega
  · rw [if_neg h]; omega
theorem chains_row {p : List Int} (hp : PO p) (b : Bool) (v : Nat → Nat) (hv : ∀ t, sumL (((idealsN p).filter fun s => stB p b s t).map v) ≤ 4000000000000000000) {i : Nat} (hi : i < (idealsN p).length) {x1 : Int} {r : Int} :
    ∀ j, j ≤ (idealsN p).length → Ev (fun k => spec_laChains.l1 k x1 b (ints (idealsN p)) (Tl (2 ^ p.length) v) (Tl (2 ^ p.length) (gotN (stB p b) (idealsN p) v (i + 1))) (ints (idealsN p)) ((ints (idealsN p)).length : Int) (wrap64 ((i : Int) + 1)) p) r →
    Ev (fun k => spec_laChains.l2 k x1 b (ints (idealsN p)) (Tl (2 ^ p.length) v) (Tl (2 ^ p.length) (gotJ (stB p b) (idealsN p) v i j (idealsN p)[i])) ((idealsN p)[i] : Int) (ints (idealsN p)) ((ints (idealsN p)).length : Int) (i : Int) (ints (idealsN p)) ((ints (idealsN p)).length : Int) (j : Int) p) r := by
  have hn := hp.small
  have h2 : 2 ^ p.length ≤ 1024 := Nat.le_trans (Nat.pow_le_pow_right (by decide) hn) (by decide)
  have hl := idealsN_len p
  have hnd := idealsN_nodup p
  obtain ⟨hs, hsi⟩ := mem_idealsN.1 (List.getElem_mem hi)
  generalize hS : (idealsN p)[i] = s at hs hsi ⊢
  rw [ints_len]
  refine downTo _ ?_ ?_
  · intro hr
    refine Ev.step (by intro k; simp only [spec_laChains.l2]; rfl) (Ev.no (by omega) ?_)
    have e : Tl (2 ^ p.length) (gotJ (stB p b) (idealsN p) v i (idealsN p).length s) = Tl (2 ^ p.length) (gotN (stB p b) (idealsN p) v (i + 1)) := Tl_congr fun t _ => by rw [← hS]; exact gotJ_end hi
    rw [e]
    exact hr
  · intro j hj ih hr
    have ih := ih hr
    obtain ⟨ht, hti⟩ := mem_idealsN.1 (List.getElem_mem hj)
    have hrd : rd (ints (idealsN p)) (j : Int) = ((idealsN p)[j] : Int) := by rw [rd_ints, List.getD_eq_getElem?_getD, List.getElem?_eq_getElem hj]; rfl
    have hstep := gotJ_step (B := stB p b) (v := v) (i := i) (s := s) hnd hj
    generalize hT : (idealsN p)[j] = t at ht hti hrd hstep
    have hsame : stB p b s t = false ∨ v s = 0 → Tl (2 ^ p.length) (gotJ (stB p b) (idealsN p) v i (j + 1) s) = Tl (2 ^ p.length) (gotJ (stB p b) (idealsN p) v i j s) := fun h => Tl_congr fun u _ => by
      rw [hstep u]
      by_cases hu : u = t ∧ stB p b s u = true
      · rw [if_pos hu]
        rcases h with h | h
        · rw [hu.1, h] at hu; exact absurd hu.2 (by simp)
        · omega
      · rw [if_neg hu]
    refine Ev.step (by intro k; simp only [spec_laChains.l2]; rfl) (Ev.yes (by omega) (Ev.yes (by omega) (Ev.yes (by rw [ints_len]; omega) (Ev.yes (by omega) (Ev.yes (by rw [Tl_len]; omega) ?_)))))
    rw [hrd, Tl_get _ _ hs, Tl_get _ _ ht, wid1 (show j < (idealsN p).length from hj) (by omega), bits_andNotN (lt_pow hs (by omega)) (lt_pow ht (by omega)), bits_andNotN (lt_pow ht (by omega)) (lt_pow hs (by omega))]
    refine Ev.ite (fun hv0 => ?_) (fun hv0 => ?_)
    rotate_left
    · rw [hsame (.inr (by omega))] at ih; exact ih
    have hadd : stB p b s t = true → (Tl (2 ^ p.length) (gotJ (stB p b) (idealsN p) v i j s)).set ((t : Int)).toNat (wrap64 (((gotJ (stB p b) (idealsN p) v i j s t : Nat) : Int) + ((v s : Nat) : Int))) = Tl (2 ^ p.length) (gotJ (stB p b) (idealsN p) v i (j + 1) s) := fun hB => by
      have hle : gotJ (stB p b) (idealsN p) v i (j + 1) s t ≤ 4000000000000000000 := by
        rw [← hS]
        exact Nat.le_trans (gotJ_le hi (by omega)) (Nat.le_trans gotN_le (hv t))
      rw [hstep t, if_pos ⟨rfl, hB⟩] at hle
      rw [wid (by omega) (by omega), Int.toNat_natCast, show ((gotJ (stB p b) (idealsN p) v i j s t : Nat) : Int) + ((v s : Nat) : Int) = ((gotJ (stB p b) (idealsN p) v i j s t + v s : Nat) : Int) by omega, Tl_set ht]
      refine Tl_congr fun u _ => ?_
      rw [hstep u]
      by_cases e : u = t
      · subst e; rw [if_pos rfl, if_pos ⟨rfl, hB⟩]
      · rw [if_neg e, if_neg (fun h => e h.1)]
    refine Ev.ite (fun hsub => ?_) (fun hsub => ?_)
    rotate_left
    · have : stB p b s t = false := by
        unfold stB subB
        rw [show (ndiff s t == 0) = false by rw [beq_eq_false_iff_ne]; intro e; exact hsub (by rw [e]; rfl)]; rfl
      rw [hsame (.inl this)] at ih; exact ih
    have hsub' : subB s t = true := by unfold subB; rw [beq_iff_eq]; exact_mod_cast hsub
    cases b with
    | false =>
      have hB : stB p false s t = true := by unfold stB; rw [hsub']; rfl
      refine Ev.no (by simp) (Ev.yes (by omega) (Ev.yes (by rw [Tl_len]; omega) ?_))
      rw [hadd hB]; exact ih
    | true =>
      refine Ev.yes rfl (Ev.bind (laFree_ev hp (ndiff_lt ht)) ?_)
      cases hf : frB p (ndiff t s) with
      | true =>
        have hB : stB p true s t = true := by unfold stB; rw [hsub', hf]; rfl
        refine Ev.yes rfl (Ev.yes (by omega) (Ev.yes (by rw [Tl_len]; omega) ?_))
        rw [hadd hB]; exact ih
      | false =>
        have hB : stB p true s t = false := by unfold stB; rw [hsub', hf]; rfl
        rw [hsame (.inl hB)] at ih
        exact Ev.no (by simp) ih
theorem chains_rows {p : List Int} (hp : PO p) (b : Bool) (v : Nat → Nat) (hv : ∀ t, sumL (((idealsN p).filter fun s => stB p b s t).map v) ≤ 4000000000000000000) {x1 : Int} {r : Int}
    (hr : Ev (fun k => spec_laChains.l0 k (wrap64 (x1 - 1)) b (ints (idealsN p)) (Tl (2 ^ p.length) (gotN (stB p b) (idealsN p) v (idealsN p).length)) p) r) :
    ∀ i, i ≤ (idealsN p).length → Ev (fun k => spec_laChains.l1 k x1 b (ints (idealsN p)) (Tl (2 ^ p.length) v) (Tl (2 ^ p.length) (gotN (stB p b) (idealsN p) v i)) (ints (idealsN p)) ((ints (idealsN p)).length : Int) (i : Int) p) r := by
  have hn := hp.small
  have h2 : 2 ^ p.length ≤ 1024 := Nat.le_trans (Nat.pow_le_pow_right (by decide) hn) (by decide)
  have hl := idealsN_len p
  refine downTo _ ?_ ?_
  · refine Ev.step (by intro k; simp only [spec_laChains.l1]; rfl) (Ev.no (by rw [ints_len]; omega) hr)
  · intro i hi ih
    refine Ev.step (by intro k; simp only [spec_laChains.l1]; rfl) (Ev.yes (by rw [ints_len]; omega) (Ev.yes (by omega) (Ev.yes (by rw [ints_len]; omega) ?_)))
    have hrd : rd (ints (idealsN p)) (i : Int) = ((idealsN p)[i] : Int) := by rw [rd_ints, List.getD_eq_getElem?_getD, List.getElem?_eq_getElem hi]; rfl
    rw [hrd]
    have h0 : Tl (2 ^ p.length) (gotN (stB p b) (idealsN p) v i) = Tl (2 ^ p.length) (gotJ (stB p b) (idealsN p) v i 0 (idealsN p)[i]) := Tl_congr fun t _ => by unfold gotJ; simp
    rw [h0]
    exact chains_row hp b v hv hi 0 (Nat.zero_le _) (by rw [wid1 hi (by omega)]; exact ih)
/-- The rows that end in an ideal. -/
def wvI (p : List Int) (b : Bool) (k t : Nat) : Nat := if t ∈ idealsN p then wvN (stB p b) (idealsN p) k t else 0
theorem wvI_step (p : List Int) (b : Bool) (k t : Nat) : gotN (stB p b) (idealsN p) (wvI p b k) (idealsN p).length t = wvI p b (k + 1) t := by
  unfold gotN
  rw [List.take_length]
  conv => rhs; unfold wvI
  by_cases h : t ∈ idealsN p
  · rw [if_pos h, if_pos h]
    conv => rhs; unfold wvN
    congr 1
    refine List.map_congr_left fun s hs => ?_
    unfold wvI
    rw [if_pos (List.mem_filter.1 hs).1]
  · rw [if_neg h, if_neg h]
theorem wvI_sum {p : List Int} (hp : PO p) (b : Bool) {k : Nat} (hk : k ≤ 13) (t : Nat) : sumL (((idealsN p).filter fun s => stB p b s t).map (wvI p b k)) ≤ 4000000000000000000 := by
  refine Nat.le_trans ?_ (Nat.le_trans (wvN_small hp.small (B := stB p b) (k := k + 1) (t := t) (fun s t h => stB_sub h) (by omega)) (by decide))
  conv => rhs; unfold wvN
  refine sumL_map_le _ _ _ fun s _ => ?_
  unfold wvI
  split
  · exact Nat.le_refl _
  · exact Nat.zero_le _
theorem laChains_ev {p : List Int} (hp : PO p) (b : Bool) {k : Nat} (hk : k ≤ 14) : Ev (fun n => spec_laChains.f n p (k : Int) b) ((wvN (stB p b) (idealsN p) k (allN p) : Nat) : Int) := by
  have hn := hp.small
  have h2 : 2 ^ p.length ≤ 1024 := Nat.le_trans (Nat.pow_le_pow_right (by decide) hn) (by decide)
  have hpos := Nat.two_pow_pos p.length
  have hall : allN p ∈ idealsN p := mem_idealsN.2 ⟨allN_lt p, idealB_all p hp⟩
  unfold spec_laChains.f
  refine Ev.bind (poIdeals_ev hp) ?_
  rw [shlN (by omega)]
  refine Ev.yes (by omega) (Ev.yes (by rw [Int.toNat_natCast]; omega) ?_)
  rw [Int.toNat_natCast, Tl_zero]
  refine Ev.call rfl (Ev.yes (by rw [Tl_len]; omega) ?_)
  have e0 : (Tl (2 ^ p.length) fun _ => 0).set (0 : Int).toNat 1 = Tl (2 ^ p.length) (wvI p b 0) := by
    refine (Tl_set (f := fun _ => 0) (t := 0) (x := 1) hpos).trans (Tl_congr fun u _ => ?_)
    unfold wvI wvN
    by_cases hu : u = 0
    · subst hu; rw [if_pos rfl, if_pos (zero_mem p)]
    · rw [if_neg hu]
      split
      · rfl
      · rfl
  rw [e0]
  have key : ∀ q, q ≤ k → Ev (fun n => spec_laChains.l0 n (((k - q : Nat) : Nat) : Int) b (ints (idealsN p)) (Tl (2 ^ p.length) (wvI p b q)) p) ((wvN (stB p b) (idealsN p) k (allN p) : Nat) : Int) := by
    refine downTo _ ?_ ?_
    · refine Ev.step (by intro k; simp only [spec_laChains.l0]; rfl) (Ev.no (by omega) ?_)
      have e1 : wrap64 (((Tl (2 ^ p.length) (wvI p b k)).length : Int) - 1) = ((allN p : Nat) : Int) := by
        rw [Tl_len, wid (by omega) (by omega)]; unfold allN; omega
      rw [e1]
      refine Ev.yes (by omega) (Ev.yes (by rw [Tl_len]; have := allN_lt p; omega) (Ev.ret ?_))
      rw [Tl_get _ _ (allN_lt p)]
      unfold wvI
      rw [if_pos hall]
    · intro q hq ih
      refine Ev.step (by intro k; simp only [spec_laChains.l0]; rfl) (Ev.yes (by omega) (Ev.yes (by omega) (Ev.yes (by rw [Tl_len, Int.toNat_natCast]; omega) ?_)))
      rw [Tl_len, Int.toNat_natCast, Tl_zero]
      have e2 : Tl (2 ^ p.length) (fun _ => 0) = Tl (2 ^ p.length) (gotN (stB p b) (idealsN p) (wvI p b q) 0) := Tl_congr fun t _ => by unfold gotN; split <;> simp [sumL]
      rw [e2]
      refine chains_rows hp b _ (wvI_sum hp b (by omega)) ?_ 0 (Nat.zero_le _)
      rw [wid (by omega) (by omega), show (((k - q : Nat) : Nat) : Int) - 1 = ((k - (q + 1) : Nat) : Int) by omega]
      rw [show Tl (2 ^ p.length) (gotN (stB p b) (idealsN p) (wvI p b q) (idealsN p).length) = Tl (2 ^ p.length) (wvI p b (q + 1)) from Tl_congr fun t _ => wvI_step p b q t]
      exact ih
  exact key 0 (Nat.zero_le _)
end Go.Proofs.Ytemkddgfneohhaa.Q
end

section
namespace Go.Proofs.Ytemkddgfneohhaa.Q
open Go.RowKit Go.Proofs.YtemkddgfneohhaaW.PrintWords
set_option linter.unusedVariables false
/-- What may follow in a row of steps. -/
def opB (p : List Int) (s t : Nat) : Bool := subB s t && (!(ndiff t s == 0) && frB p (ndiff t s))
theorem opB_sub {p : List Int} {s t : Nat} (h : opB p s t = true) : subB s t = true := by
  unfold opB at h
  rw [Bool.and_eq_true] at h
  exact h.1
def stepsN (p : List Int) : List Nat := (List.range p.length).map fun j => wvN (opB p) (idealsN p) (j + 1) (allN p)
/-- Choices. -/
def bin : Nat → Nat → Nat
  | _, 0 => 1
  | 0, _ + 1 => 0
  | k + 1, j + 1 => bin k j + bin k (j + 1)
theorem bin_big : ∀ k j, k < j → bin k j = 0
  | _, 0, h => absurd h (Nat.not_lt_zero _)
  | 0, _ + 1, _ => rfl
  | k + 1, j + 1, h => by unfold bin; rw [bin_big k j (by omega), bin_big k (j + 1) (by omega)]
theorem bin_self : ∀ k, bin k k = 1
  | 0 => rfl
  | k + 1 => by unfold bin; rw [bin_self k, bin_big k (k + 1) (by omega)]
theorem bin_zero (k : Nat) : bin k 0 = 1 := by cases k <;> rfl
theorem frB_zero (p : List Int) : frB p 0 = true := by unfold frB; rw [allFrom_iff]; intro j _ _; rw [Nat.zero_testBit]; rfl
theorem ndiff_self (s : Nat) : ndiff s s = 0 := by unfold ndiff; rw [Nat.and_self, Nat.xor_self]
theorem sub_antisymm {s t : Nat} (h1 : subB s t = true) (h2 : ndiff t s = 0) : s = t := by
  apply Nat.eq_of_testBit_eq
  intro i
  rw [Bool.eq_iff_iff]
  exact ⟨fun h => subB_iff.1 h1 i h, fun h => ndiff_zero.1 h2 i h⟩
theorem st_split (p : List Int) (s t : Nat) : stB p true s t = (decide (s = t) || opB p s t) := by
  by_cases e : s = t
  · subst e
    unfold stB
    rw [ndiff_self, frB_zero, show subB s s = true by unfold subB; rw [ndiff_self]; rfl]
    simp
  · rw [decide_eq_false e, Bool.false_or]
    unfold stB opB
    cases h : subB s t with
    | false => rfl
    | true =>
      have : (ndiff t s == 0) = false := by rw [beq_eq_false_iff_ne]; exact fun h2 => e (sub_antisymm h h2)
      rw [this]; rfl
theorem op_irrefl (p : List Int) (s : Nat) : opB p s s = false := by unfold opB; rw [ndiff_self]; simp
theorem sum_split (p : List Int) (f : Nat → Nat) (t : Nat) : ∀ l : List Nat, l.Nodup → t ∈ l → sumL ((l.filter fun s => stB p true s t).map f) = f t + sumL ((l.filter fun s => opB p s t).map f)
  | [], _, h => by cases h
  | s :: l, hn, h => by
    obtain ⟨h1, h2⟩ := List.nodup_cons.1 hn
    rw [List.filter_cons, List.filter_cons, st_split]
    by_cases e : s = t
    · subst e
      rw [decide_eq_true rfl, Bool.true_or, if_pos rfl, op_irrefl, if_neg (by simp), List.map_cons]
      have e2 : l.filter (fun x => stB p true x s) = l.filter fun x => opB p x s := List.filter_congr fun x hx => by
        rw [st_split, decide_eq_false (fun e => h1 (by rw [← e]; exact hx)), Bool.false_or]
      rw [e2]; rfl
    · have ht : t ∈ l := by
        rcases List.mem_cons.1 h with h | h
        · exact absurd h.symm e
        · exact h
      rw [decide_eq_false e, Bool.false_or]
      have ih := sum_split p f t l h2 ht
      cases opB p s t with
      | false => rw [if_neg (by simp), if_neg (by simp)]; exact ih
      | true => rw [if_pos rfl, if_pos rfl, List.map_cons, List.map_cons]; simp only [sumL]; rw [ih]; omega
/-- f 0 + .. + f (n - 1). -/
def upto (f : Nat → Nat) : Nat → Nat
  | 0 => 0
  | n + 1 => upto f n + f n
theorem upto_congr {f g : Nat → Nat} : ∀ n, (∀ i, i < n → f i = g i) → upto f n = upto g n
  | 0, _ => rfl
  | n + 1, h => by unfold upto; rw [upto_congr n (fun i hi => h i (by omega)), h n (by omega)]
theorem upto_add (f g : Nat → Nat) : ∀ n, upto (fun i => f i + g i) n = upto f n + upto g n
  | 0 => rfl
  | n + 1 => by unfold upto; rw [upto_add f g n]; omega
theorem upto_shift (f : Nat → Nat) : ∀ n, upto f (n + 1) = f 0 + upto (fun i => f (i + 1)) n
  | 0 => by simp [upto]
  | n + 1 => by
    have e : upto f (n + 1 + 1) = upto f (n + 1) + f (n + 1) := rfl
    rw [e, upto_shift f n]
    show _ = f 0 + (upto (fun i => f (i + 1)) n + f (n + 1))
    omega
theorem upto_sum {α : Type} (g : Nat → α → Nat) : ∀ (l : List α) (n : Nat), sumL (l.map fun s => upto (fun j => g j s) n) = upto (fun j => sumL (l.map (g j))) n
  | [], n => by
    induction n with
    | zero => rfl
    | succ n ih => unfold upto; rw [← ih]; rfl
  | s :: l, n => by
    simp only [List.map_cons, sumL]
    rw [upto_sum g l n, ← upto_add]
theorem sumL_mul (c : Nat) {α : Type} (f : α → Nat) : ∀ l : List α, sumL (l.map fun s => c * f s) = c * sumL (l.map f)
  | [] => rfl
  | x :: l => by simp only [List.map_cons, sumL]; rw [sumL_mul c f l, Nat.mul_add]
theorem upto_zero (f : Nat → Nat) : ∀ (n m : Nat), n ≤ m → (∀ i, n ≤ i → i < m → f i = 0) → upto f m = upto f n
  | n, 0, h, _ => by rw [show n = 0 by omega]
  | n, m + 1, h, h0 => by
    rcases Nat.lt_or_ge m n with h1 | h1
    · rw [show n = m + 1 by omega]
    · show upto f m + f m = upto f n
      rw [upto_zero f n m h1 (fun i a b => h0 i a (by omega)), h0 m h1 (by omega), Nat.add_zero]
/-- STRICT ROWS ARE CHOICES OF STEPS. -/
theorem strict_steps (p : List Int) : ∀ (k N : Nat), k + 1 ≤ N → ∀ t ∈ idealsN p, wvN (stB p true) (idealsN p) k t = upto (fun j => bin k j * wvN (opB p) (idealsN p) j t) N
  | 0, N, h, t, ht => by
    rw [upto_zero _ 1 N h (fun i h1 _ => by rw [bin_big 0 i (by omega), Nat.zero_mul])]
    show _ = 0 + bin 0 0 * wvN (opB p) (idealsN p) 0 t
    rw [bin_zero, Nat.one_mul, Nat.zero_add]
    unfold wvN; rfl
  | k + 1, N, h, t, ht => by
    conv => lhs; unfold wvN
    rw [sum_split p _ t _ (idealsN_nodup p) ht]
    obtain ⟨M, rfl⟩ : ∃ M, N = M + 1 := ⟨N - 1, by omega⟩
    have e1 : sumL (((idealsN p).filter fun s => opB p s t).map (wvN (stB p true) (idealsN p) k)) = upto (fun j => bin k j * wvN (opB p) (idealsN p) (j + 1) t) M := by
      have e2 : ((idealsN p).filter fun s => opB p s t).map (wvN (stB p true) (idealsN p) k) = ((idealsN p).filter fun s => opB p s t).map fun s => upto (fun j => bin k j * wvN (opB p) (idealsN p) j s) M :=
        List.map_congr_left fun s hs => strict_steps p k M (by omega) s (List.mem_filter.1 hs).1
      rw [e2, upto_sum]
      refine upto_congr M fun j _ => ?_
      rw [sumL_mul]
      conv => rhs; unfold wvN
    rw [e1, strict_steps p k (M + 1) (by omega) t ht, upto_shift, upto_shift]
    have e3 : upto (fun i => bin (k + 1) (i + 1) * wvN (opB p) (idealsN p) (i + 1) t) M = upto (fun i => bin k (i + 1) * wvN (opB p) (idealsN p) (i + 1) t) M + upto (fun i => bin k i * wvN (opB p) (idealsN p) (i + 1) t) M := by
      rw [← upto_add]
      refine upto_congr M fun i _ => ?_
      show (bin k i + bin k (i + 1)) * _ = _
      rw [Nat.add_mul]; omega
    rw [e3, bin_zero, bin_zero]
    omega
theorem pcard_lt {p : List Int} {s t : Nat} (ht : t < 2 ^ p.length) (h : opB p s t = true) : pcard p.length s < pcard p.length t := by
  have hs := opB_sub h
  unfold opB at h
  simp only [Bool.and_eq_true, Bool.not_eq_true', beq_eq_false_iff_ne] at h
  obtain ⟨i, hi⟩ : ∃ i, (ndiff t s).testBit i = true := by
    rcases Classical.em (∃ i, (ndiff t s).testBit i = true) with h1 | h1
    · exact h1
    · refine absurd (Nat.eq_of_testBit_eq fun i => ?_) h.2.1
      rw [Nat.zero_testBit]
      cases hb : (ndiff t s).testBit i with
      | false => rfl
      | true => exact absurd ⟨i, hb⟩ h1
  rw [ndiff_bit, Bool.and_eq_true, Bool.not_eq_true'] at hi
  unfold pcard
  exact countP_lt _ _ _ (fun x _ hx => subB_iff.1 hs x hx) i (List.mem_range.2 (lt_of_bit ht hi.1)) hi.1 hi.2
theorem op_short {p : List Int} : ∀ j t, t < 2 ^ p.length → pcard p.length t < j → wvN (opB p) (idealsN p) j t = 0
  | 0, _, _, h => absurd h (Nat.not_lt_zero _)
  | j + 1, t, ht, h => by
    unfold wvN
    have : ∀ l : List Nat, (∀ s ∈ l, wvN (opB p) (idealsN p) j s = 0) → sumL (l.map (wvN (opB p) (idealsN p) j)) = 0 := by
      intro l
      induction l with
      | nil => intro _; rfl
      | cons x l ih => intro hl; simp only [List.map_cons, sumL]; rw [hl x List.mem_cons_self, ih (fun s hs => hl s (List.mem_cons_of_mem _ hs))]
    refine this _ fun s hs => ?_
    obtain ⟨h1, h2⟩ := List.mem_filter.1 hs
    exact op_short j s (mem_idealsN.1 h1).1 (by have := pcard_lt ht h2; omega)
/-- At the set of all: by the steps alone. -/
theorem strict_all {p : List Int} (hp : PO p) (k : Nat) : wvN (stB p true) (idealsN p) k (allN p) = upto (fun j => bin k (j + 1) * wvN (opB p) (idealsN p) (j + 1) (allN p)) p.length := by
  have hall : allN p ∈ idealsN p := mem_idealsN.2 ⟨allN_lt p, idealB_all p hp⟩
  rw [strict_steps p k (k + p.length + 2) (by omega) _ hall]
  rw [show k + p.length + 2 = (k + p.length + 1) + 1 by omega, upto_shift]
  have h0 : wvN (opB p) (idealsN p) 0 (allN p) = 0 := by
    unfold wvN
    rw [if_neg]
    unfold allN
    have : 2 ^ 1 ≤ 2 ^ p.length := Nat.pow_le_pow_right (by decide) hp.pos
    omega
  rw [h0, Nat.mul_zero, Nat.zero_add]
  exact upto_zero _ p.length _ (by omega) (fun i h1 _ => by rw [op_short (i + 1) _ (allN_lt p) (by rw [pcard_all]; omega), Nat.mul_zero])
end Go.Proofs.Ytemkddgfneohhaa.Q
end

section
namespace Go.Proofs.Ytemkddgfneohhaa.Q
open Go.RowKit Go.Proofs.YtemkddgfneohhaaW.PrintWords
set_option linter.unusedVariables false
def ch (x : Int) : Nat → Int
  | 0 => 1
  | j + 1 => wrap64 (Int.tdiv (wrap64 (ch x j * wrap64 (x - (j : Int)))) ((j + 1 : Nat) : Int))
theorem chBin_all : (List.range 14).all (fun x => (List.range 11).all fun j => decide (ch (x : Int) j = ((bin x j : Nat) : Int))) = true := by decide +kernel
theorem ch_bin {x j : Nat} (hx : x ≤ 13) (hj : j ≤ 10) : ch (x : Int) j = ((bin x j : Nat) : Int) :=
  of_decide_eq_true (List.all_eq_true.1 (List.all_eq_true.1 chBin_all x (List.mem_range.2 (by omega))) j (List.mem_range.2 (by omega)))
/-- The sum over a list, from its place j on, with choices. -/
def polyL (x : Int) : List Int → Nat → Int → Int
  | [], _, acc => acc
  | n :: l, j, acc => polyL x l (j + 1) (wrap64 (acc + wrap64 (n * ch x (j + 1))))
def dotL (q : Nat) : List Nat → Nat → Nat
  | [], _ => 0
  | n :: l, j => n * bin q (j + 1) + dotL q l (j + 1)
theorem dotL_snoc (q : Nat) (n : Nat) : ∀ (l : List Nat) (j : Nat), dotL q (l ++ [n]) j = dotL q l j + n * bin q (j + l.length + 1)
  | [], j => by simp [dotL]
  | x :: l, j => by
    rw [List.cons_append]
    unfold dotL
    rw [dotL_snoc q n l (j + 1), List.length_cons, show j + 1 + l.length + 1 = j + (l.length + 1) + 1 by omega]
    omega
theorem dotL_upto (q : Nat) (e : Nat → Nat) : ∀ m, dotL q ((List.range m).map e) 0 = upto (fun j => bin q (j + 1) * e j) m
  | 0 => rfl
  | m + 1 => by
    rw [List.range_succ, List.map_append, List.map_cons, List.map_nil, dotL_snoc, dotL_upto q e m, List.length_map, List.length_range, Nat.zero_add, Nat.mul_comm]
    rfl
theorem polyL_nat {x : Nat} (hx : x ≤ 13) : ∀ (l : List Nat) (j acc : Nat), j + l.length ≤ 10 → acc + dotL x l j ≤ 4000000000000000000 → polyL (x : Int) (ints l) j (acc : Int) = ((acc + dotL x l j : Nat) : Int)
  | [], j, acc, _, _ => rfl
  | n :: l, j, acc, h, hb => by
    rw [List.length_cons] at h
    unfold dotL at hb ⊢
    show polyL (x : Int) (ints l) (j + 1) (wrap64 ((acc : Int) + wrap64 ((n : Int) * ch (x : Int) (j + 1)))) = _
    rw [ch_bin hx (by omega), show (n : Int) * ((bin x (j + 1) : Nat) : Int) = ((n * bin x (j + 1) : Nat) : Int) by rw [Int.natCast_mul], wid (n := ((n * bin x (j + 1) : Nat) : Int)) (by omega) (by omega),
      show (acc : Int) + ((n * bin x (j + 1) : Nat) : Int) = ((acc + n * bin x (j + 1) : Nat) : Int) by omega, wid (by omega) (by omega), polyL_nat hx l (j + 1) _ (by omega) (by omega)]
    congr 1; omega
theorem stepsN_len (p : List Int) : (stepsN p).length = p.length := by simp [stepsN]
/-- Strict labels are counted by the polynomial. -/
theorem poly_strict {p : List Int} (hp : PO p) {x : Nat} (hx : x ≤ 13) : polyL (x : Int) (ints (stepsN p)) 0 0 = ((wvN (stB p true) (idealsN p) x (allN p) : Nat) : Int) := by
  have hn := hp.small
  have e : dotL x (stepsN p) 0 = wvN (stB p true) (idealsN p) x (allN p) := by rw [strict_all hp x]; exact dotL_upto x _ _
  have hb := wvN_small hn (B := stB p true) (k := x) (t := allN p) (fun s t h => stB_sub h) (by omega)
  have := polyL_nat hx (stepsN p) 0 0 (by rw [stepsN_len]; omega) (by rw [e]; omega)
  rw [e, Nat.zero_add] at this
  exact this
end Go.Proofs.Ytemkddgfneohhaa.Q
end

section
namespace Go.Proofs.Ytemkddgfneohhaa.Q
open Go.RowKit Go.Proofs.YtemkddgfneohhaaW.PrintWords Go.Proofs.Ytemkddgfneohhaa.F
set_option linter.unusedVariables false
theorem within_eq (a b c : Int) : impl_within.f a b c = some (decide (b ≤ a) && decide (a ≤ c)) := by
  unfold impl_within.f
  by_cases h : b ≤ a
  · rw [if_pos h]; simp [h]
  · rw [if_neg h]; simp [h]
end Go.Proofs.Ytemkddgfneohhaa.Q
end

section
namespace Go.Proofs.Ytemkddgfneohhaa.Q
open Go.RowKit Go.Proofs.YtemkddgfneohhaaW.PrintWords Go.Proofs.Ytemkddgfneohhaa.F
set_option linter.unusedVariables false
theorem IsPoset_ev (p : List Int) : Ev (fun k => impl_IsPoset.f k p) (isPo p) := by
  unfold impl_IsPoset.f
  refine Ev.call (show impl_Poset_n.f p = some (p.length : Int) from rfl) (Ev.call (within_eq _ _ _) ?_)
  unfold isPo
  rw [sizes_eq]
  cases hs : (decide (1 ≤ p.length) && decide (p.length ≤ 10)) with
  | false => exact Ev.no (by simp) (Ev.ret rfl)
  | true =>
  refine Ev.yes rfl ?_
  rw [Bool.and_eq_true, decide_eq_true_eq, decide_eq_true_eq] at hs
  obtain ⟨h1, h2⟩ := hs
  have key : ∀ i, i ≤ p.length → Ev (fun k => impl_IsPoset.l0 k p (p.length : Int) (i : Int) p) (allFrom (rowOk p) p.length i) := by
    refine downTo p.length ?_ ?_
    · refine Ev.step (by intro k; simp only [impl_IsPoset.l0]; rfl) ?_
      exact Ev.no (by omega) (Ev.ret (allFrom_end _ _).symm)
    · intro i hi ih
      refine Ev.step (by intro k; simp only [impl_IsPoset.l0]; rfl) ?_
      refine Ev.yes (by omega) (Ev.yes (by omega) (Ev.yes (by omega) ?_))
      rw [rdN, mask_eq (by omega)]
      refine Ev.call (within_eq _ _ _) ?_
      rw [allFrom_step _ hi]
      by_cases hb : 0 ≤ p.getD i 0 ∧ p.getD i 0 ≤ 2 ^ i - 1
      rotate_left
      · exact Ev.no (by rw [range_false hb]; simp) (Ev.ret (by rw [rowOk_false hb]; rfl))
      refine Ev.yes (range_true hb) ?_
      have hv : p.getD i 0 = (L p i : Int) := by unfold L; omega
      have hm : L p i < 2 ^ i := by
        have := hb.2
        rw [hv, pow_int] at this
        have hp : 0 < 2 ^ i := Nat.two_pow_pos i
        generalize 2 ^ i = z at *
        omega
      rw [rowOk_true hb, ← items_all hm (by omega) (fun j => decide (Go.bits .andNot .i64 (p.getD j 0) (p.getD i 0) = 0)), hv]
      refine Ev.bind (items_ev _ (lt_pow hm (by omega))) ?_
      have inner : ∀ j, j ≤ (itemsN (L p i)).length → Ev (fun k => impl_IsPoset.l1 k (L p i : Int) p (p.length : Int) (i : Int) (ints (itemsN (L p i))) ((ints (itemsN (L p i))).length : Int) (j : Int) p)
          (((itemsN (L p i)).drop j).all (fun j => decide (Go.bits .andNot .i64 (p.getD j 0) (L p i : Int) = 0)) && allFrom (rowOk p) p.length (i + 1)) := by
        rw [ints_len]
        refine downTo _ ?_ ?_
        · refine Ev.step (by intro k; simp only [impl_IsPoset.l1]; rfl) ?_
          refine Ev.no (by omega) ?_
          rw [wid1 hi (by omega), List.drop_length, List.all_nil, Bool.true_and]
          exact ih
        · intro j hj ihj
          have hlt := items_lt hm hj
          have hl := itemsN_len (L p i)
          refine Ev.step (by intro k; simp only [impl_IsPoset.l1]; rfl) ?_
          refine Ev.yes (by omega) (Ev.yes (by omega) (Ev.yes (by rw [ints_len]; omega) ?_))
          rw [rd_ints, all_drop_step _ _ 0 hj, wid1 hj (by omega), rdN]
          refine Ev.yes (by omega) (Ev.yes (by omega) ?_)
          refine Ev.ite (fun h => evc ihj ?_) (fun h => Ev.ret ?_)
          · rw [decide_eq_true h]; simp
          · rw [decide_eq_false h]; simp
      exact inner 0 (by omega)
  exact key 0 (by omega)
end Go.Proofs.Ytemkddgfneohhaa.Q
end

section
namespace Go.Proofs.Ytemkddgfneohhaa.F
open Go.RowKit Go.Proofs.YtemkddgfneohhaaW.PrintWords Go.Proofs.YtemkddgfneohhaaW.PrintLast Go.Proofs.YtemkddgfneohhaaW.PrintMore
set_option linter.unusedVariables false
set_option linter.unusedSimpArgs false
def impl_Poset_ideals.f (k : Nat) (l0_0 : List Int) : Option (List Int) := sets_ideals.f (fun x => lit_ideals.f k x l0_0) k l0_0
theorem ideals_mono_l {F F' : Int → Option Bool} (hF : ∀ x, LeO (F x) (F' x)) : ∀ k y0 y1 y2, LeO (sets_ideals.l0 F k y0 y1 y2) (sets_ideals.l0 F' k y0 y1 y2)
  | 0, _, _, _ => fun r h => by simp [sets_ideals.l0] at h
  | k + 1, y0, y1, y2 => by
    unfold sets_ideals.l0
    exact LeO.ite (LeO.bind (hF _) (fun _ => LeO.ite (LeO.ite (ideals_mono_l hF k _ _ _) (LeO.none _)) (ideals_mono_l hF k _ _ _))) (LeO.refl _)
theorem impl_Poset_ideals.mono : ∀ a0 k, LeO (impl_Poset_ideals.f k a0) (impl_Poset_ideals.f (k + 1) a0) := fun a0 k r h => by
  unfold impl_Poset_ideals.f at h ⊢
  refine sets_ideals.mono _ _ _ r ?_
  unfold sets_ideals.f at h ⊢
  exact LeO.bind (LeO.refl _) (fun _ => ideals_mono_l (fun x => lit_ideals.mono x a0 k) k _ _ _) r h
set_option maxHeartbeats 8000000 in
set_option maxRecDepth 100000 in
theorem impl_Poset_ideals.calls (k : Nat) (A0_0 : Option Addr) (c0_0 : Nat) (l0_0 : List Int) (r : List Int) (w : World) (hr0_0 : Kd.C (Kd.int .i64) w A0_0 l0_0.length l0_0) (hc0_0 : l0_0.length ≤ c0_0) (h : impl_Poset_ideals.f k l0_0 = some r) :
    Calls Try.prog 67 #[.agg #[.slice A0_0 l0_0.length c0_0]] w fun e w' => ∃ v0_ : Value, e = .returned (v0_) ∧ Kd.R (Kd.int .i64) 3 w' w.heap.size (fun _ => True) v0_ r ∧ Below w.heap.size w w' := by
  unfold impl_Poset_ideals.f at h
  have hmf : ∀ (fn : Fn) (first cap : Array Value) (w : World), (Instr.makeFunc fn first cap).run Try.prog w = .ok (.func fn first cap) w := fun _ _ _ _ => rfl
  have hu39 := Try.underlying30
  obtain ⟨W, hW⟩ : ∃ W, W = (w.alloc (.cells #[.slice A0_0 l0_0.length c0_0] 30 (0, 0))) := ⟨_, rfl⟩
  have hsz : W.heap.size = w.heap.size + 1 := by rw [hW]; simp
  have hcB : W.cell? ⟨w.heap.size, 0, none⟩ = some (.slice A0_0 l0_0.length c0_0) := by rw [hW, World.cell?_alloc_at _ _ _ _ rfl]; rfl
  have hbW : Below w.heap.size w W := by rw [hW]; exact (Below.refl _ _).alloc (Nat.le_refl _) _
  have hrW : Kd.C (Kd.int .i64) W A0_0 l0_0.length l0_0 := Kd.C_below hr0_0 hbW
  have HF : Aside0 (∀ (x0_ : Int) (r_ : Bool) (W' : World), lit_ideals.f k x0_ l0_0 = some r_ → Below W.heap.size W W' → Calls Try.prog 86 #[.int .i64 x0_, .pointer (some ⟨w.heap.size, 0, none⟩)] W' fun e w' => e = .returned (.bool r_) ∧ Below W'.heap.size W' w') :=
    ⟨fun x0_ r_ W' hF hb => lit_ideals.calls w.heap.size k x0_ A0_0 c0_0 l0_0 r_ W' ((hb.cell (p := ⟨w.heap.size, 0, none⟩) (by rw [hsz]; show w.heap.size < w.heap.size + 1; omega)).trans hcB) (Kd.C_below hrW hb) hc0_0 hF⟩
  have hcall := sets_ideals.calls (fun x => lit_ideals.f k x l0_0) w.heap.size k A0_0 c0_0 l0_0 r W HF hrW hc0_0 h
  have hcall' : Aside0 (Calls Try.prog 85 #[.agg #[.slice A0_0 l0_0.length c0_0], .func (.func 86) #[] #[.pointer (some ⟨w.heap.size, 0, none⟩)]] (w.alloc (.cells #[.slice A0_0 l0_0.length c0_0] 30 (0, 0))) fun e w' => ∃ v0_ : Value, e = .returned (v0_) ∧ (Kd.R (Kd.int .i64) 3 w' W.heap.size (fun _ => True) v0_ r ∧ Below W.heap.size W w')) := ⟨by rw [← hW]; exact hcall⟩
  have HW := Lib.hid hW
  clear hcall HF h hW hrW hr0_0 hc0_0
  have HsW := Aside0.mk hsz
  have HbW := Aside0.mk hbW
  clear hcB hsz hbW
  go_enter Try.func67, Try.ntmps67
  go_wp2_with fail
  refine hcall'.out.mono ?_
  rintro e w1 ⟨v, rfl, ho, hb⟩
  have Ho := Aside0.mk ho
  have Hb := Aside0.mk hb
  clear ho hb hmf hcall'
  go_wp2
  go_ret
  refine ⟨_, rfl, Kd.R_lower Ho.out (by have := HsW.out; omega), HbW.out.trans (Hb.out.mono (by have := HsW.out; omega))⟩
end Go.Proofs.Ytemkddgfneohhaa.F
end

section
namespace Go.Proofs.Ytemkddgfneohhaa.Q
open Go.RowKit Go.Proofs.YtemkddgfneohhaaW.PrintWords Go.Proofs.Ytemkddgfneohhaa.F
set_option linter.unusedVariables false
/-- Finitely many calls that all end, end with one number of rounds. -/
theorem Ev.all {α : Type} {g : Nat → Nat → Option α} {r : Nat → α} : ∀ N : Nat, (∀ s, s < N → Ev (g s) (r s)) → ∃ K, ∀ k, K ≤ k → ∀ s, s < N → g s k = some (r s)
  | 0, _ => ⟨0, fun k _ s hs => absurd hs (Nat.not_lt_zero _)⟩
  | N + 1, h => by
    obtain ⟨K, hK⟩ := Ev.all N (fun s hs => h s (by omega))
    obtain ⟨K', hK'⟩ := h N (Nat.lt_succ_self _)
    refine ⟨K + K', fun k hk s hs => ?_⟩
    rcases Nat.lt_or_ge s N with h1 | h1
    · exact hK k (by omega) s h1
    · rw [show s = N by omega]; exact hK' k (by omega)
theorem sets_run {F : Int → Option Bool} {c : Nat → Bool} {N : Nat} (hN : N ≤ 1024) (hF : ∀ s : Nat, s < N → F (s : Int) = some (c s)) : ∀ (d i : Nat), i + d = N → ∀ (k : Nat) (acc : List Int), d < k → acc.length ≤ i → sets_ideals.l0 F k acc (N : Int) (i : Int) = some (acc ++ ints ((List.range' i d).filter c))
  | 0, i, h, 0, acc, hk, _ => by omega
  | 0, i, h, k + 1, acc, hk, _ => by
    simp only [sets_ideals.l0]
    rw [if_neg (by omega)]
    simp [ints]
  | d + 1, i, h, 0, acc, hk, _ => by omega
  | d + 1, i, h, k + 1, acc, hk, ha => by
    simp only [sets_ideals.l0]
    rw [if_pos (by omega), hF i (by omega), Option.bind_some, wid1 (show i < N by omega) (by omega), List.range'_succ, List.filter_cons]
    cases hc : c i with
    | true =>
      rw [if_pos rfl, if_pos (by omega), if_pos rfl, sets_run hN hF d (i + 1) (by omega) k (acc ++ [(i : Int)]) (by omega) (by rw [List.length_append, List.length_singleton]; omega)]
      rw [List.append_assoc]; rfl
    | false =>
      rw [if_neg (by simp), if_neg (by simp), sets_run hN hF d (i + 1) (by omega) k acc (by omega) (by omega)]
theorem two_pow_small {n : Nat} (h : n ≤ 10) : 2 ^ n ≤ 1024 := Nat.le_trans (Nat.pow_le_pow_right (by decide) h) (by decide)
theorem ideals_ev {p : List Int} (hp : PO p) : Ev (fun k => impl_Poset_ideals.f k p) (ints (idealsN p)) := by
  have hn := hp.small
  have h2 := two_pow_small hn
  have hpos := Nat.two_pow_pos p.length
  obtain ⟨K, hK⟩ := Ev.all (g := fun s k => lit_ideals.f k (s : Int) p) (r := fun s => idealB p s) (2 ^ p.length) (fun s hs => by
    unfold lit_ideals.f
    refine Ev.bind (close_ev hp hs) (Ev.ret ?_)
    rw [← closeN_eq hp hs, Bool.eq_iff_iff, beq_iff_eq, beq_iff_eq]
    omega)
  refine ⟨K + 2 ^ p.length + 1, fun k hk => ?_⟩
  show sets_ideals.f _ k p = _
  unfold sets_ideals.f
  rw [all_eq (by omega), Option.bind_some]
  have e : wrap64 (((allN p : Nat) : Int) + 1) = ((2 ^ p.length : Nat) : Int) := by
    rw [wid (by unfold allN; omega) (by unfold allN; omega)]
    unfold allN; omega
  rw [e]
  have := sets_run (F := fun x => lit_ideals.f k x p) (c := idealB p) h2 (fun s hs => hK k (by omega) s hs) (2 ^ p.length) 0 (by omega) k [] (by omega) (by simp)
  rw [show ((0 : Nat) : Int) = 0 from rfl] at this
  rw [this, List.nil_append, ← List.range_eq_range']
  rfl
end Go.Proofs.Ytemkddgfneohhaa.Q
end

section
namespace Go.Proofs.Ytemkddgfneohhaa.F
open Go.RowKit Go.Maps Go.Proofs.YtemkddgfneohhaaW.PrintWords Go.Proofs.YtemkddgfneohhaaW.PrintLast Go.Proofs.YtemkddgfneohhaaW.PrintMore
set_option linter.unusedVariables false
set_option linter.unusedSimpArgs false
theorem mp_law : Keyed Try.prog 3 := int_keyed Try.underlying3
theorem mp_zero (w : World) : (zeroValue 3).run Try.prog w = .ok (.int .i64 0) w := by kernel_rfl
/-- An entry of a map's literal. -/
theorem wpList_insert_own {H : Type} {P : Program} (w : World) {ops : Array Oper} {rest : List Oper} {o : Oper} {a : Act} {Q : Exit → Act → World → Prop}
    (hg : o.guard = none) (m x v : Operand) (t : TypeId) (hop : o.op = Op.insert t m x v)
    (k e : TypeId) (K : Keyed P k) (ht : P.underlying t = some (.map k e)) (R : Value → Option (DataW H × List MemPlace)) (b n : Nat) (D : DataW H)
    (hm : a.eval m = .map (some b)) (hown : w.ownsMap P k R b n D) (hn : n < maxLen) (key val : Value) (kl : Lit) (hx : a.eval x = key) (hv : a.eval v = val) (hkey : keyOf P k key = some kl)
    (d : DataW H) (ps : List MemPlace) (hval : R val = some (d, ps))
    (hK : ∀ w', w'.ownsMap P k R b (n + 1) (D.put kl d) → w.grownBy w' (some b) → wpList P ops Q rest (a.put o.dst undef) w') :
    wpList P ops Q (o :: rest) a w := by
  refine wpList_plain hg fun K' hK' => ?_
  obtain ⟨w', hrun, r1, r2⟩ := hown.update K ht hn hkey hval
  unfold Oper.wp
  simp [execOp, hop, hm, hx, hv, hrun, Result.andThen]
  exact hK' _ _ (hK w' r1 r2)
theorem mp_nodup_le {α : Type} [DecidableEq α] : ∀ (l m : List α), l.Nodup → (∀ x ∈ l, x ∈ m) → l.length ≤ m.length
  | [], _, _, _ => Nat.zero_le _
  | x :: l, m, hn, h => by
    obtain ⟨h1, h2⟩ := List.nodup_cons.1 hn
    have hx : x ∈ m := h x List.mem_cons_self
    have := mp_nodup_le l (m.erase x) h2 (fun y hy => (List.mem_erase_of_ne (fun e => h1 (by rw [← e]; exact hy))).2 (h y (List.mem_cons_of_mem _ hy)))
    rw [List.length_erase_of_mem hx] at this
    have hp : 0 < m.length := List.length_pos_of_mem hx
    simp only [List.length_cons]
    omega
theorem mp_tight {H : Type} {P : Program} {k : TypeId} {R : Value → Option (DataW H × List MemPlace)} {w : World} {b n m : Nat} {D : DataW H} (h : w.ownsMap P k R b n D) (hm : Maps.size D ≤ m) : w.ownsMap P k R b m D := by
  obtain ⟨es, clock, hb, F, hs, rfl⟩ := h
  exact ⟨es, clock, hb, F, by rw [Maps.size_eq, length_sorted] at hm; simpa using hm, rfl⟩
/-- What a map reads as at the numbers of a list; it has no other keys. -/
structure MpReads {H : Type} (D : DataW H) (ids : List Int) (v : Int → Int) : Prop where
  at_ : ∀ s ∈ ids, D.atKey (.int .i64 s) (.lit (.int .i64 0)) = .lit (.int .i64 (v s))
  has_ : ∀ kl, Maps.has D kl = true → ∃ s ∈ ids, kl = .int .i64 s
theorem mp_norm {H : Type} {P : Program} {k : TypeId} {R : Value → Option (DataW H × List MemPlace)} {w : World} {b n : Nat} {D : DataW H} {ids : List Int} {v : Int → Int} (K : Keyed P k) (h : w.ownsMap P k R b n D) (hr : MpReads D ids v) : w.ownsMap P k R b ids.length D := by
  refine mp_tight h ?_
  obtain ⟨es, rfl, hp, hk⟩ := h.entries K
  rw [Maps.size_eq]
  haveI : DecidableEq Lit := fun a b => Classical.propDecidable (a = b)
  have hn : (es.map Prod.fst).Nodup := by
    rw [List.nodup_iff_pairwise_ne, List.pairwise_map]
    exact hp
  have hsub : ∀ x ∈ es.map Prod.fst, x ∈ ids.map (Lit.int .i64) := fun x hx => by
    obtain ⟨p, hp1, rfl⟩ := List.mem_map.1 hx
    obtain ⟨s, hs, e⟩ := hr.has_ p.1 (List.any_eq_true.2 ⟨p, hp1, WideAt.sameKey_self (hk p hp1)⟩)
    rw [e]
    exact List.mem_map.2 ⟨s, hs, rfl⟩
  have := mp_nodup_le _ _ hn hsub
  rw [List.length_map, List.length_map] at this
  exact this
theorem mp_empty {H : Type} (ids : List Int) : MpReads (.map [] : DataW H) ids (fun _ => 0) := ⟨fun _ _ => rfl, fun kl h => by cases h⟩
theorem mp_congr {H : Type} {D : DataW H} {ids : List Int} {v v' : Int → Int} (h : MpReads D ids v) (e : ∀ s ∈ ids, v s = v' s) : MpReads D ids v' := ⟨fun s hs => by rw [h.at_ s hs, e s hs], h.has_⟩
theorem mp_put {H : Type} {D : DataW H} {ids : List Int} {v : Int → Int} (hD : Maps.IsMap D) (h : MpReads D ids v) {t c : Int} (ht : t ∈ ids) : MpReads (D.put (.int .i64 t) (.lit (.int .i64 c))) ids (fun s => if s = t then c else v s) := by
  refine ⟨fun s hs => ?_, fun kl hk => ?_⟩
  · by_cases e : s = t
    · subst e
      rw [if_pos rfl]
      exact Maps.atKey_put_same hD (show WideAt.IsKeyLit (.int .i64 s) from trivial) _ _
    · rw [if_neg e, Maps.atKey_put_other (fun e2 => e (by injection e2)) _ _]
      exact h.at_ s hs
  · by_cases e : kl = .int .i64 t
    · exact ⟨t, ht, e⟩
    · rw [Maps.has_put_other e] at hk
      exact h.has_ kl hk
theorem mp_val {H : Type} {D : DataW H} {ids : List Int} {v : Int → Int} (h : MpReads D ids v) {x c : Int} (hk : Maps.has D (.int .i64 x) = true) (hat : ∀ zd, D.atKey (.int .i64 x) zd = .lit (.int .i64 c)) : x ∈ ids ∧ v x = c := by
  obtain ⟨s, hs, e⟩ := h.has_ _ hk
  injection e with _ e
  subst e
  have := h.at_ x hs
  rw [hat] at this
  injection this with this
  injection this with _ this
  exact ⟨hs, this.symm⟩
/-- The sum over those of a list for which something holds. -/
def mpTot (ids : List Int) (P : Int → Bool) (v : Int → Int) : Int := (ids.map fun s => if P s = true then v s else 0).sum
theorem mpTot_congr {ids : List Int} {P P' : Int → Bool} {v v' : Int → Int} (h : ∀ s ∈ ids, (if P s = true then v s else 0) = if P' s = true then v' s else 0) : mpTot ids P v = mpTot ids P' v' := by
  unfold mpTot
  rw [List.map_congr_left h]
theorem mpTot_step {P P' : Int → Bool} {v : Int → Int} {x : Int} (hP : P x = false) (ho : ∀ s, s ≠ x → P' s = P s) : ∀ ids : List Int, ids.Nodup → x ∈ ids → mpTot ids P' v = mpTot ids P v + if P' x = true then v x else 0
  | [], _, h => by cases h
  | s :: ids, hn, h => by
    obtain ⟨h1, h2⟩ := List.nodup_cons.1 hn
    unfold mpTot
    rw [List.map_cons, List.map_cons, List.sum_cons, List.sum_cons]
    by_cases e : s = x
    · subst e
      have h3 : (if P s = true then v s else 0) = 0 := by rw [hP]; rfl
      rw [h3]
      have e2 : (ids.map fun s => if P' s = true then v s else 0) = ids.map fun s => if P s = true then v s else 0 := List.map_congr_left fun y hy => by rw [ho y (fun e => h1 (by rw [← e]; exact hy))]
      rw [e2]
      omega
    · have hx : x ∈ ids := by
        rcases List.mem_cons.1 h with h | h
        · exact absurd h.symm e
        · exact h
      have := mpTot_step (v := v) hP ho ids h2 hx
      unfold mpTot at this
      rw [this, ho s e]
      omega
theorem mpTot_none {ids : List Int} {P : Int → Bool} {v : Int → Int} (h : ∀ s ∈ ids, P s = true → v s = 0) : mpTot ids P v = 0 := by
  have e : mpTot ids P v = mpTot ids (fun _ => false) v := mpTot_congr fun s hs => by
    cases hp : P s with
    | false => rfl
    | true => rw [if_pos rfl, h s hs hp]; rfl
  rw [e]
  unfold mpTot
  induction ids with
  | nil => rfl
  | cons s ids ih => rw [List.map_cons, List.sum_cons, ih (fun y hy => h y (List.mem_cons_of_mem _ hy)) (mpTot_congr fun s hs => by
    cases hp : P s with
    | false => rfl
    | true => rw [if_pos rfl, h s (List.mem_cons_of_mem _ hs) hp]; rfl)]; rfl
theorem mp_wrap_add (a b : Int) : wrap64 (wrap64 a + b) = wrap64 (a + b) := by unfold wrap64; omega
theorem mp_wrap_add' (a b : Int) : wrap64 (a + wrap64 b) = wrap64 (a + b) := by unfold wrap64; omega
/-- A key that is to come no more is one that is not of the map, or one that has come. -/
theorem mp_absent {H : Type} {D : DataW H} {ids : List Int} {v : Int → Int} (h : MpReads D ids v) {s : Int} (hs : s ∈ ids) (hk : Maps.has D (.int .i64 s) = false) : v s = 0 := by
  have := h.at_ s hs
  rw [Maps.atKey_of_not_has hk] at this
  injection this with this
  injection this with _ this
  exact this.symm
theorem mp_strike (left : Lit → Bool) (x s : Int) (h : s ≠ x) : ((fun z : Lit => left z && !z.sameKey (.int .i64 x)) (.int .i64 s)) = left (.int .i64 s) := by
  show (left (.int .i64 s) && !(Lit.int .i64 s).sameKey (.int .i64 x)) = _
  rw [Maps.sameKey_ne (fun e => h (by injection e))]
  simp
theorem mp_struck (left : Lit → Bool) (x : Int) : ((fun z : Lit => left z && !z.sameKey (.int .i64 x)) (.int .i64 x)) = false := by
  show (left (.int .i64 x) && !(Lit.int .i64 x).sameKey (.int .i64 x)) = _
  rw [WideAt.sameKey_self (show WideAt.IsKeyLit (.int .i64 x) from trivial)]
  simp
theorem mp_cell {ids : List Int} {W W1 : World} {b g c : Nat} {ok : Nat → Prop} (hr : Kd.R (Kd.int .i64) 3 W b ok (.slice (some ⟨g, 0, none⟩) ids.length c) ids) (hb : Below W.heap.size W W1) (i : Nat) (hi : i < ids.length) :
    W1.cell? ⟨g, i, none⟩ = some (.int .i64 (ids.getD i 0)) := by
  have h2 := (Kd.R_cell (0 : Int) (Kd.R_below hr hb) (i : Int) (by omega) (by omega)).1
  rw [Int.toNat_natCast] at h2
  rw [h2]
  congr 2
theorem mp_wf {n : Int} (h : -9223372036854775808 ≤ n ∧ n ≤ 9223372036854775807) : (Lit.int .i64 n).wf = true := WalkArith.wf_i64 h
theorem mp_grown {w w' : World} (hb : Below w.heap.size w w') : w.grownBy w' none := ⟨hb.os, hb.tape, hb.output, hb.size, fun k hk _ => hb.block k hk⟩
theorem mp_emptyO {X : World} {base n e sz : Nat} (hn : base ≤ n) (hx : X.heap[n]? = some (.cells #[] e (0, 0))) : X.ownsRow base e sz (.slice (some ⟨n, 0, none⟩) 0 0) 0 [] :=
  ⟨by simp, .inr ⟨n, 0, #[], rfl, hn, hx, by omega, by omega, by simp, by simp⟩⟩
theorem mp_emptyR {α : Type} (d : Kd α) {X : World} {base n e : Nat} {ok : Nat → Prop} (hn : base ≤ n) (hx : X.heap[n]? = some (.cells #[] e (0, 0))) (hok : ok n) : d.R e X base ok (.slice (some ⟨n, 0, none⟩) 0 0) ([] : List α) :=
  ⟨fun k hk => by
    have : n = k := by simpa [Value.ownBlock] using hk
    exact this ▸ hok, [], mp_emptyO hn hx, Reps.none _ _⟩
/-- A row's own block is no map. -/
theorem mp_apart {H : Type} {P : Program} {k : TypeId} {R : Value → Option (DataW H × List MemPlace)} {W : World} {b n base e : Nat} {D : DataW H} {ok : Nat → Prop} {v : Value} {xs : List Int} (h : Kd.R (Kd.int .i64) e W base ok v xs) (hm : W.ownsMap P k R b n D) : some b ≠ v.ownBlock := by
  intro hv
  obtain ⟨_, _, _, q, _, cells, hc⟩ := (Kd.R_bound h).1 b hv.symm
  obtain ⟨es, clock, hb, _⟩ := hm
  rw [hb] at hc
  cases hc
theorem mp_row_kept {H : Type} {P : Program} {k : TypeId} {R : Value → Option (DataW H × List MemPlace)} {W W1 : World} {b n base e : Nat} {D : DataW H} {ok : Nat → Prop} {v : Value} {xs : List Int} (h : Kd.R (Kd.int .i64) e W base ok v xs) (hm : W.ownsMap P k R b n D) (hg : W.grownBy W1 (some b)) : Kd.R (Kd.int .i64) e W1 base ok v xs :=
  Kd.R_grown2 h rfl hg (fun k hk => by cases hk; exact mp_apart h hm)
/-- An iterator's block is none of a row. -/
theorem mp_iter_kept {H : Type} {P : Program} {k : TypeId} {R : Value → Option (DataW H × List MemPlace)} {W W1 : World} {b r n base e cnt : Nat} {D : DataW H} {left : Lit → Bool} {ok : Nat → Prop} {v : Value} {xs : List Int} (h : Kd.R (Kd.int .i64) e W base ok v xs) (hm : W.ranges P k R b r n D left cnt) (hg : W.grownBy W1 (some r)) : Kd.R (Kd.int .i64) e W1 base ok v xs :=
  Kd.R_grown2 h rfl hg (fun k hk => by
    cases hk
    intro hv
    obtain ⟨_, _, _, q, _, cells, hc⟩ := (Kd.R_bound h).1 r hv.symm
    obtain ⟨es, clock, since, seen, c0, _, _, _, _, hr, _⟩ := hm
    rw [hr] at hc
    cases hc)
end Go.Proofs.Ytemkddgfneohhaa.F
end

section
namespace Go.Proofs.Ytemkddgfneohhaa.F
open Go.RowKit Go.Proofs.YtemkddgfneohhaaW.PrintWords Go.Proofs.YtemkddgfneohhaaW.PrintLast Go.Proofs.YtemkddgfneohhaaW.PrintMore
set_option linter.unusedVariables false
set_option linter.unusedSimpArgs false
def lsIn (k : Nat) (q : Int) : List Int → Nat → Int → Option Int
  | [], _, own => some own
  | n :: l, j, own => (spec_laChoose.f k q (wrap64 ((j : Int) + 1))).bind fun c => lsIn k q l (j + 1) (wrap64 (own - wrap64 (n * c)))
def lsOut (k : Nat) (p : List Int) : Nat → Nat → List Int → Option (List Int)
  | 0, _, outs => some outs
  | d + 1, q, outs => (spec_laChains.f k p (q : Int) true).bind fun own => (lsIn k (q : Int) outs 0 own).bind fun o => lsOut k p d (q + 1) (outs ++ [o])
def spec_laSteps.f (k : Nat) (l0_0 : List Int) : Option (List Int) := if l0_0.length ≤ 1000 then lsOut k l0_0 l0_0.length 1 [] else none
theorem lsIn_mono (k : Nat) (q : Int) : ∀ l j own, LeO (lsIn k q l j own) (lsIn (k + 1) q l j own)
  | [], _, _ => LeO.refl _
  | n :: l, j, own => LeO.bind (spec_laChoose.mono _ _ _) (fun _ => lsIn_mono k q l _ _)
theorem lsOut_mono (k : Nat) (p : List Int) : ∀ d q outs, LeO (lsOut k p d q outs) (lsOut (k + 1) p d q outs)
  | 0, _, _ => LeO.refl _
  | d + 1, q, outs => LeO.bind (spec_laChains.mono _ _ _ _) (fun _ => LeO.bind (lsIn_mono _ _ _ _ _) (fun _ => lsOut_mono k p d _ _))
theorem spec_laSteps.mono : ∀ a0 k, LeO (spec_laSteps.f k a0) (spec_laSteps.f (k + 1) a0) := fun a0 k => LeO.ite (lsOut_mono _ _ _ _ _) (LeO.refl _)
set_option maxHeartbeats 8000000 in
set_option maxRecDepth 100000 in
theorem spec_laSteps.calls (k : Nat) (A0_0 : Option Addr) (c0_0 : Nat) (l0_0 : List Int) (r : List Int) (w : World) (hr0_0 : Kd.C (Kd.int .i64) w A0_0 l0_0.length l0_0) (hc0_0 : l0_0.length ≤ c0_0) (h : spec_laSteps.f k l0_0 = some r) :
    Calls Try.prog 51 #[.agg #[.slice A0_0 l0_0.length c0_0]] w fun e w' => ∃ v0_ : Value, e = .returned (v0_) ∧ Kd.R (Kd.int .i64) 3 w' w.heap.size (fun _ => True) v0_ r ∧ Below w.heap.size w w' := by
  have hu30 := Try.underlying30
  unfold spec_laSteps.f at h
  split at h
  rotate_left
  · cases h
  rename_i hn
  have HN := Aside0.mk hn
  have HR0 := Aside0.mk hr0_0
  have HC := Aside0.mk hc0_0
  have HOUT := Aside0.mk h
  obtain ⟨w0, hw0⟩ : ∃ W, W = (w.alloc (.cells #[.slice A0_0 l0_0.length c0_0] 30 (0, 0))) := ⟨_, rfl⟩
  have HP0 : Aside0 (w0.heap[w.heap.size]? = some (.cells #[.slice A0_0 l0_0.length c0_0] 30 (0, 0))) := ⟨by rw [hw0]; exact blk_new w _⟩
  have HB0 : Aside0 (Below w.heap.size w w0) := ⟨by rw [hw0]; exact below_alloc (Below.refl w.heap.size w) _⟩
  clear h hn hr0_0 hc0_0
  go_enter Try.func51, Try.ntmps51
  go_wp2_with (fail)
  rw [← hw0]
  clear hw0
  go_loopg [3, 4] (l0_0.length + 1) (fun kq vo v4 w' => ∃ (q : Nat) (outs : List Int), v4 = .int .i64 (q : Int) ∧ Aside0 (kq + q = l0_0.length + 2 ∧ q ≤ l0_0.length + 1 ∧ outs.length + 1 = q) ∧ Aside0 (lsOut k l0_0 (l0_0.length + 1 - q) q outs = some r) ∧ Aside0 (Kd.R (Kd.int .i64) 3 w' w0.heap.size (fun _ => True) vo outs) ∧ Aside0 (Below w0.heap.size w0 w'))
  case atStart => exact ⟨1, [], rfl, ⟨by simp⟩, HOUT, ⟨Kd.R_nil _ _ _ _ _⟩, ⟨Below.refl _ _⟩⟩
  case round =>
    obtain ⟨q, outs, rfl, HK, HO, HVO, HBW⟩ := hrel
    obtain ⟨WA, rfl⟩ : ∃ x, x = wr := ⟨wr, rfl⟩
    obtain ⟨Ao, co, rfl⟩ := Kd.R_slice HVO.out
    have hcpA : WA.cell? ⟨w.heap.size, 0, none⟩ = some (.slice A0_0 l0_0.length c0_0) := (blk_cell (blk_below HP0.out HBW.out) 0).trans rfl
    cases gk with
    | zero => exact absurd HK.out (by omega)
    | succ k1 =>
      by_cases hq : q ≤ l0_0.length
      · have HO' := HO.out
        rw [show l0_0.length + 1 - q = (l0_0.length + 1 - (q + 1)) + 1 by omega] at HO'
        unfold lsOut at HO'
        obtain ⟨own0, hown, HO'⟩ := Option.bind_eq_some_iff.1 HO'
        obtain ⟨ow, hin, HO'⟩ := Option.bind_eq_some_iff.1 HO'
        have HOWN := Aside0.mk hown
        have HIN := Aside0.mk hin
        have HO2 := Aside0.mk HO'
        clear hown hin HO' HO
        have d1 : decide ((q : Int) ≤ (l0_0.length : Int)) = true := decide_eq_true (by omega)
        have d2 : decide (q ≤ l0_0.length) = true := decide_eq_true hq
        have d3 := eq_true hq
        have HQ := Aside0.mk hq
        clear hq
        go_wp2_with (go_at_call 46; (with_reducible refine (spec_laChains.calls k A0_0 c0_0 l0_0 _ true own0 _ (Kd.C_below HR0.out (HB0.out.trans (HBW.out.mono HB0.out.size))) HC.out HOWN.out).mono ?_); rintro e w1 ⟨rfl, hb1⟩; have HB1 := Aside0.mk hb1; clear hb1)
        clear d1 d2 d3 hcpA
        have HVO1 := Aside0.mk (Kd.R_below HVO.out HB1.out)
        have HBW1 := Aside0.mk (HBW.out.trans (HB1.out.mono HBW.out.size))
        go_loopg [5, 20] (outs.length + 1) (fun kq v5 v20 w' => ∃ (j : Nat) (own : Int), v5 = .int .i64 own ∧ v20 = .int .i64 (j : Int) ∧ Aside0 (kq + j = outs.length + 1 ∧ j ≤ outs.length) ∧ Aside0 (lsIn k (q : Int) (outs.drop j) j own = some ow) ∧ Aside0 (Below w1.heap.size w1 w'))
        case atStart => exact ⟨0, own0, rfl, rfl, ⟨rfl, Nat.zero_le _⟩, HIN, ⟨Below.refl _ _⟩⟩
        case round =>
          obtain ⟨j, own, rfl, rfl, HK2, HI2, HBW2⟩ := hrel
          obtain ⟨WB, rfl⟩ : ∃ x, x = wr := ⟨wr, rfl⟩
          cases gk with
          | zero => exact absurd HK2.out (by omega)
          | succ k2 =>
            have HLE : Aside0 (outs.length ≤ 1000) := ⟨by have := HK.out; have := HN.out; omega⟩
            by_cases hj : j < outs.length
            · obtain ⟨g, cap, ev, hgb, hgl, _⟩ := Kd.R_form HVO1.out (by omega)
              injection ev with e1 e2 e3
              subst e1; subst e3
              clear e2
              have hcell := mp_cell HVO1.out HBW2.out j hj
              have hd : outs.drop j = outs.getD j 0 :: outs.drop (j + 1) := by rw [List.drop_eq_getElem_cons hj, List.getD_eq_getElem?_getD, List.getElem?_eq_getElem hj]; rfl
              obtain ⟨nj, hnj⟩ : ∃ x, x = outs.getD j 0 := ⟨_, rfl⟩
              rw [← hnj] at hcell hd
              have HI3 := HI2.out
              rw [hd] at HI3
              unfold lsIn at HI3
              obtain ⟨c, hc, HI3⟩ := Option.bind_eq_some_iff.1 HI3
              have HWJ : Aside0 (wrap64 ((j : Int) + 1) = ((j + 1 : Nat) : Int)) := ⟨by unfold wrap64; have := HLE.out; omega⟩
              have HCH : Aside0 (spec_laChoose.f k (q : Int) (wrap64 ((j : Int) + 1)) = some c) := ⟨hc⟩
              have HI4 := Aside0.mk HI3
              have e1 : (0 : Int) ≤ (j : Int) := by omega
              have e2 : (j : Int) < (outs.length : Int) := by omega
              have e3 : decide ((j : Int) < (outs.length : Int)) = true := decide_eq_true e2
              have e4 : decide (j < outs.length) = true := decide_eq_true hj
              have e5 := eq_true hj
              clear hd hnj HI3 hc hj HI2
              go_wp2_with (go_at_call 52; (with_reducible refine (spec_laChoose.calls k _ _ c _ HCH.out).mono ?_); rintro e w2 ⟨rfl, ⟨nd, rfl⟩⟩)
              go_roundg k2
              case measure => omega
              case rel => exact ⟨j + 1, _, rfl, by rw [HWJ.out], ⟨by have := HK2.out; omega⟩, HI4, ⟨by (repeat (first | exact HBW2.out | apply pw_below_drewN | apply below_drew1))⟩⟩
            · have HJ : Aside0 (j = outs.length) := ⟨by have := HK2.out; omega⟩
              have HOW : Aside0 (own = ow) := ⟨by
                have := HI2.out
                rw [HJ.out, List.drop_length] at this
                exact Option.some.inj this⟩
              have e3 : decide ((j : Int) < (outs.length : Int)) = false := decide_eq_false (by omega)
              have e4 : decide (j < outs.length) = false := decide_eq_false hj
              have e5 : (j < outs.length) = False := eq_false hj
              have HWQ : Aside0 (wrap64 ((q : Int) + 1) = ((q + 1 : Nat) : Int)) := ⟨by unfold wrap64; have := HK.out; have := HN.out; omega⟩
              have HVO2 := Aside0.mk (Kd.R_below HVO1.out HBW2.out)
              have HBW3 := Aside0.mk (HBW1.out.trans (HBW2.out.mono HBW1.out.size))
              clear hj
              go_wp2_with ((with_reducible refine gate_builtin (b := .append) (xs := #[.tmp 34, .tmp 36]) rfl ?_); at_builtin; refine Kd.R_append (Kd.int .i64) (w0 := w0) w0.heap.size rfl (.tmp 34) (.tmp 36) 25 3 (.int .i64 0) 8 rfl Try.underlying25 info3 rfl (by decide) (by omega) (.slice Ao outs.length co) outs own [.int .i64 own] (fun _ => True) (fun _ => False) rfl rfl ?aP (fun _ hk => hk.elim) (fun _ _ => trivial) ?aO ?aB ?aS ?aL ?_; (case aP => exact rfl); (case aO => exact HVO2.out); (case aB => exact HBW3.out); (case aS => exact HBW3.out.size); (case aL => have := HLE.out; omega); intro v7 w7 hr7 hb7 hg7 hat7; have HVO7 := Aside0.mk hr7; have HB7 := Aside0.mk hb7; clear hr7 hb7 hg7 hat7)
              go_roundg k1
              case measure => omega
              case rel => exact ⟨q + 1, outs ++ [own], by rw [HWQ.out], ⟨by have := HK.out; have := HQ.out; rw [List.length_append, List.length_singleton]; omega⟩, ⟨by rw [HOW.out]; exact HO2.out⟩, HVO7, HB7⟩
      · have HQE : Aside0 (q = l0_0.length + 1) := ⟨by have := HK.out; omega⟩
        have HRES : Aside0 (outs = r) := ⟨by
          have := HO.out
          rw [HQE.out, Nat.sub_self] at this
          exact Option.some.inj this⟩
        have d1 : decide ((q : Int) ≤ (l0_0.length : Int)) = false := decide_eq_false (by omega)
        have d2 : decide (q ≤ l0_0.length) = false := decide_eq_false hq
        have d3 := eq_false hq
        clear hq
        go_wp2_with (fail)
        go_ret
        obtain rfl : outs = r := HRES.out
        exact ⟨_, rfl, Kd.R_lower HVO.out HB0.out.size, HB0.out.trans (HBW.out.mono HB0.out.size)⟩
end Go.Proofs.Ytemkddgfneohhaa.F
end

section
namespace Go.Proofs.Ytemkddgfneohhaa.F
open Go.RowKit Go.Proofs.YtemkddgfneohhaaW.PrintWords Go.Proofs.YtemkddgfneohhaaW.PrintLast Go.Proofs.YtemkddgfneohhaaW.PrintMore
attribute [local go_sem] max2_int min2_int max_two min_two max_three min_three max_four min_four
set_option linter.unusedVariables false
set_option linter.unusedSimpArgs false

/-! ### spec_LabelPolynomialAt: function 26 -/
mutual
def spec_LabelPolynomialAt.j0 : Nat → Int → Bool → List Int → Option (Int × Bool)
  | 0, _, _, _ => none
  | k + 1, x1, x16, x266000 => if x16 = true then (some (0, false)) else ((spec_laSteps.f k x266000).bind fun t268 => (spec_LabelPolynomialAt.l0 k x1 0 t268 (t268.length : Int) 0))
def spec_LabelPolynomialAt.l0 : Nat → Int → Int → List Int → Int → Int → Option (Int × Bool)
  | 0, _, _, _, _, _ => none
  | k + 1, x1, x6, x18, x19, x20 => if x20 < x19 then (if 0 ≤ x20 then (if x20 < (x18.length : Int) then ((spec_laChoose.f k x1 (wrap64 (x20 + 1))).bind fun t272 => (spec_LabelPolynomialAt.l0 k x1 (wrap64 (x6 + (wrap64 ((rd x18 x20) * t272)))) x18 x19 (wrap64 (x20 + 1)))) else (none)) else (none)) else (some (x6, true))
end
def spec_LabelPolynomialAt.f (k : Nat) (l0_0 : List Int) (a1 : Int) : Option (Int × Bool) := (spec_poGood.f k l0_0).bind fun t266 => (if t266 = true then ((spec_l1In.f a1 (-13) 13).bind fun t267 => (spec_LabelPolynomialAt.j0 k a1 (!t267) l0_0)) else (spec_LabelPolynomialAt.j0 k a1 true l0_0))
theorem spec_LabelPolynomialAt.mono_l : ∀ k, (∀ y0 y1 y2, LeO (spec_LabelPolynomialAt.j0 k y0 y1 y2) (spec_LabelPolynomialAt.j0 (k + 1) y0 y1 y2)) ∧ (∀ y0 y1 y2 y3 y4, LeO (spec_LabelPolynomialAt.l0 k y0 y1 y2 y3 y4) (spec_LabelPolynomialAt.l0 (k + 1) y0 y1 y2 y3 y4))
  | 0 => ⟨fun _ _ _ r h => by simp [spec_LabelPolynomialAt.j0] at h, fun _ _ _ _ _ r h => by simp [spec_LabelPolynomialAt.l0] at h⟩
  | k + 1 => by
    obtain ⟨ih0, ih1⟩ := spec_LabelPolynomialAt.mono_l k
    refine ⟨?_, ?_⟩
    · intro y0 y1 y2
      unfold spec_LabelPolynomialAt.j0
      repeat' first
      | (with_reducible exact ih0 _ _ _)
      | (with_reducible exact ih1 _ _ _ _ _)
      | (with_reducible exact spec_laChoose.mono _ _ _)
      | (with_reducible exact spec_laSteps.mono _ _)
      | (with_reducible exact spec_poGood.mono _ _)
      | (with_reducible exact LeO.refl _)
      | (with_reducible exact LeO.none _)
      | (with_reducible refine LeO.ite ?_ ?_)
      | (with_reducible refine LeO.bind ?_ (fun _ => ?_))
      | exact ih0 _ _ _
      | exact ih1 _ _ _ _ _
      | exact spec_laChoose.mono _ _ _
      | exact spec_laSteps.mono _ _
      | exact spec_poGood.mono _ _
      | exact LeO.none _
      | refine LeO.ite ?_ ?_
      | refine LeO.bind ?_ (fun _ => ?_)
    · intro y0 y1 y2 y3 y4
      unfold spec_LabelPolynomialAt.l0
      repeat' first
      | (with_reducible exact ih0 _ _ _)
      | (with_reducible exact ih1 _ _ _ _ _)
      | (with_reducible exact spec_laChoose.mono _ _ _)
      | (with_reducible exact spec_laSteps.mono _ _)
      | (with_reducible exact spec_poGood.mono _ _)
      | (with_reducible exact LeO.refl _)
      | (with_reducible exact LeO.none _)
      | (with_reducible refine LeO.ite ?_ ?_)
      | (with_reducible refine LeO.bind ?_ (fun _ => ?_))
      | exact ih0 _ _ _
      | exact ih1 _ _ _ _ _
      | exact spec_laChoose.mono _ _ _
      | exact spec_laSteps.mono _ _
      | exact spec_poGood.mono _ _
      | exact LeO.none _
      | refine LeO.ite ?_ ?_
      | refine LeO.bind ?_ (fun _ => ?_)
theorem spec_LabelPolynomialAt.mono : ∀ a0 a1 k, LeO (spec_LabelPolynomialAt.f k a0 a1) (spec_LabelPolynomialAt.f (k + 1) a0 a1) := by
  intro a0 a1 k
  obtain ⟨ih0, ih1⟩ := spec_LabelPolynomialAt.mono_l k
  unfold spec_LabelPolynomialAt.f
  repeat' first
      | (with_reducible exact ih0 _ _ _)
      | (with_reducible exact ih1 _ _ _ _ _)
      | (with_reducible exact spec_laChoose.mono _ _ _)
      | (with_reducible exact spec_laSteps.mono _ _)
      | (with_reducible exact spec_poGood.mono _ _)
      | (with_reducible exact LeO.refl _)
      | (with_reducible exact LeO.none _)
      | (with_reducible refine LeO.ite ?_ ?_)
      | (with_reducible refine LeO.bind ?_ (fun _ => ?_))
      | exact ih0 _ _ _
      | exact ih1 _ _ _ _ _
      | exact spec_laChoose.mono _ _ _
      | exact spec_laSteps.mono _ _
      | exact spec_poGood.mono _ _
      | exact LeO.none _
      | refine LeO.ite ?_ ?_
      | refine LeO.bind ?_ (fun _ => ?_)
set_option maxHeartbeats 8000000 in
set_option maxRecDepth 100000 in
theorem spec_LabelPolynomialAt.calls (k : Nat) (A0_0 : Option Addr) (c0_0 : Nat) (l0_0 : List Int) (a1 : Int) (r1 : Int) (r2 : Bool) (w : World) (hr0_0 : Kd.C (Kd.int .i64) w A0_0 l0_0.length l0_0) (hc0_0 : l0_0.length ≤ c0_0) (h : spec_LabelPolynomialAt.f k l0_0 a1 = some (r1, r2)) :
    Calls Try.prog 26 #[.agg #[.slice A0_0 l0_0.length c0_0], .int .i64 a1] w fun e w' => e = .returned (.tuple #[.int .i64 r1, .bool r2]) ∧ Below w.heap.size w w' := by
  have hu30 := Try.underlying30
  have HR0_0 := Aside0.mk hr0_0
  have HC0_0 := Aside0.mk hc0_0
  clear hr0_0 hc0_0
  have HB := Aside0.mk (Below.refl w.heap.size w)
  have H : ((spec_poGood.f k l0_0).bind fun t266 => (if t266 = true then ((spec_l1In.f a1 (-13) 13).bind fun t267 => (spec_LabelPolynomialAt.j0 k a1 (!t267) l0_0)) else (spec_LabelPolynomialAt.j0 k a1 true l0_0))) = some (r1, r2) := h
  clear h
  have HC3 := Aside0.mk H
  clear H
  go_enter Try.func26, Try.ntmps26
  go_upto_region 1 with (first | ((with_reducible refine gate_dst (N := 2) rfl ?_); refine box_event ?hg (N := 2) ?hd (cs := #[.slice A0_0 l0_0.length c0_0]) (t := 30) ?hr ?_; (case hd => rfl); (case hg => rfl); (case hr => first | (go_simp; done) | (go_simp; rfl)); intro gb265 hg w4 hbox hb; have n0_ := Aside0.mk (below_step (by repeat (first | (with_reducible first | exact HB.out | apply below_alloc | apply pw_below_drewN | apply below_drew1) | exact HB.out)) hb); have n1_ := Aside0.mk (hbox); have n2_ := Aside0.mk ((by rw [hg]; exact (below_size (by repeat (first | (with_reducible first | exact HB.out | apply below_alloc | apply pw_below_drewN | apply below_drew1) | exact HB.out))) : w.heap.size ≤ gb265)); have n3_ := Aside0.mk ((by rw [hg]; exact (below_size (by repeat (first | (with_reducible first | exact HB.out | apply below_alloc | apply pw_below_drewN | apply below_drew1) | exact HB.out))) : w.heap.size ≤ gb265)); clear HB; have HB := n0_; have BK265 := n1_; have GW265 := n2_; have GE265 := n3_; clear n0_ n1_ n2_ n3_; clear hb hbox hg))
  (try simp only [Act.put, List.setIfInBounds_toArray, List.set_cons_zero, List.set_cons_succ])
  go_cut [16] (fun v16 wc => ∃ (kq : Nat) (x16_2 : Bool), v16 = .bool x16_2 ∧ Aside0 (spec_LabelPolynomialAt.j0 kq a1 x16_2 l0_0 = some (r1, r2)) ∧ Aside0 (kq ≤ k) ∧ Aside0 (wc.heap[gb265]? = some (.cells #[(.slice A0_0 l0_0.length c0_0)] 30 (0, 0))) ∧ Aside0 (Below w.heap.size w wc))
  case first =>
    have H := HC3.out
    clear HC3
    replace H := Option.bind_eq_some_iff.mp H
    obtain ⟨t266, A50, H⟩ := H
    replace H : (if t266 = true then ((spec_l1In.f a1 (-13) 13).bind fun t267 => (spec_LabelPolynomialAt.j0 k a1 (!t267) l0_0)) else (spec_LabelPolynomialAt.j0 k a1 true l0_0)) = some (r1, r2) := H
    have A5 := Aside0.mk A50
    clear A50
    by_cases c6 : t266 = true
    · subst c6
      have H1 : ((spec_l1In.f a1 (-13) 13).bind fun t267 => (spec_LabelPolynomialAt.j0 k a1 (!t267) l0_0)) = some (r1, r2) := by rw [if_pos rfl] at H; exact H
      clear H
      have H := H1
      clear H1
      replace H := Option.bind_eq_some_iff.mp H
      obtain ⟨t267, A70, H⟩ := H
      replace H : (spec_LabelPolynomialAt.j0 k a1 (!t267) l0_0) = some (r1, r2) := H
      have A7 := Aside0.mk A70
      clear A70
      have H' := Aside0.mk H
      clear H
      have hcz8_0 : w4.cell? ⟨gb265, 0, none⟩ = some (.slice A0_0 l0_0.length c0_0) := (blk_cell BK265.out 0).trans rfl
      have hfz8_0 := blk_frozen BK265.out 0
      go_wp2_with (first | ((with_reducible refine gate_callee (f := 44) rfl ?_); refine goesL_ (some 10) rfl rfl Try.func44 (by kernel_rfl) rfl #[.agg #[.slice A0_0 l0_0.length c0_0]] rfl (by (try simp only [List.map_toArray, List.map_cons, List.map_nil]); first | done | rfl | (simp only [List.length_drop, List.length_take]; rfl)) ?_; (with_reducible refine (spec_poGood.calls k _ _ l0_0 true _ ?side1 ?side2 A5.out).mono ?_); (case side1 => repeat (first | exact (Kd.C_below HR0_0.out HB.out) | (with_reducible refine Kd.C_alloc ?_ _) | (with_reducible refine Kd.C_drewN ?_ _) | (with_reducible refine Kd.C_drew ?_))); (case side2 => exact HC0_0.out); rintro e w9 ⟨rfl, hb⟩; refine ⟨_, rfl, ?_⟩; have n0_ := Aside0.mk (blk_below (g := gb265) (o := .cells #[.slice A0_0 l0_0.length c0_0] 30 (0, 0)) (by (with_reducible repeat (first | refine blk_drewN ?_ _ | refine blk_drew ?_ | refine blk_alloc ?_ _)); exact BK265.out) hb); have n1_ := Aside0.mk (below_step (by repeat (first | (with_reducible first | exact HB.out | apply below_alloc | apply pw_below_drewN | apply below_drew1 | refine below_set ?_ GE265.out) | exact HB.out)) hb); clear BK265; clear HB; have BK265 := n0_; have HB := n1_; clear n0_ n1_; (try clear hb); (try clear hb2); (try clear hk); (try clear hi)) | (go_at_call 50; (with_reducible refine (spec_l1In.calls a1 (-13) 13 t267 _ A7.out).mono ?_); rintro e w' ⟨rfl, ⟨nd, rfl⟩⟩))
      go_meet
      case rel => exact ⟨_, (!t267), (by first | rfl | (simp; done) | (simp [*]; done)), H', ⟨by first | omega | exact Nat.le_refl _⟩, ⟨by (with_reducible repeat (first | refine blk_drewN ?_ _ | refine blk_drew ?_ | refine blk_alloc ?_ _)); exact BK265.out⟩, ⟨by repeat (first | (with_reducible first | exact HB.out | apply below_alloc | apply pw_below_drewN | apply below_drew1 | refine below_set ?_ GE265.out) | exact HB.out)⟩⟩
    · replace c6 := Bool.eq_false_iff.mpr c6
      subst c6
      have H1 : (spec_LabelPolynomialAt.j0 k a1 true l0_0) = some (r1, r2) := by rw [if_neg (show ¬ (false = true) by decide)] at H; exact H
      clear H
      have H := H1
      clear H1
      have H' := Aside0.mk H
      clear H
      have hcz10_0 : w4.cell? ⟨gb265, 0, none⟩ = some (.slice A0_0 l0_0.length c0_0) := (blk_cell BK265.out 0).trans rfl
      have hfz10_0 := blk_frozen BK265.out 0
      go_wp2_with (first | ((with_reducible refine gate_callee (f := 44) rfl ?_); refine goesL_ (some 10) rfl rfl Try.func44 (by kernel_rfl) rfl #[.agg #[.slice A0_0 l0_0.length c0_0]] rfl (by (try simp only [List.map_toArray, List.map_cons, List.map_nil]); first | done | rfl | (simp only [List.length_drop, List.length_take]; rfl)) ?_; (with_reducible refine (spec_poGood.calls k _ _ l0_0 false _ ?side1 ?side2 A5.out).mono ?_); (case side1 => repeat (first | exact (Kd.C_below HR0_0.out HB.out) | (with_reducible refine Kd.C_alloc ?_ _) | (with_reducible refine Kd.C_drewN ?_ _) | (with_reducible refine Kd.C_drew ?_))); (case side2 => exact HC0_0.out); rintro e w11 ⟨rfl, hb⟩; refine ⟨_, rfl, ?_⟩; have n0_ := Aside0.mk (blk_below (g := gb265) (o := .cells #[.slice A0_0 l0_0.length c0_0] 30 (0, 0)) (by (with_reducible repeat (first | refine blk_drewN ?_ _ | refine blk_drew ?_ | refine blk_alloc ?_ _)); exact BK265.out) hb); have n1_ := Aside0.mk (below_step (by repeat (first | (with_reducible first | exact HB.out | apply below_alloc | apply pw_below_drewN | apply below_drew1 | refine below_set ?_ GE265.out) | exact HB.out)) hb); clear BK265; clear HB; have BK265 := n0_; have HB := n1_; clear n0_ n1_; (try clear hb); (try clear hb2); (try clear hk); (try clear hi)))
      go_meet
      case rel => exact ⟨_, (true), (by first | rfl | (simp; done) | (simp [*]; done)), H', ⟨by first | omega | exact Nat.le_refl _⟩, ⟨by (with_reducible repeat (first | refine blk_drewN ?_ _ | refine blk_drew ?_ | refine blk_alloc ?_ _)); exact BK265.out⟩, ⟨by repeat (first | (with_reducible first | exact HB.out | apply below_alloc | apply pw_below_drewN | apply below_drew1 | refine below_set ?_ GE265.out) | exact HB.out)⟩⟩
  case rest =>
    clear HC3
    try clear c2
    try clear p2
    try clear c4
    try clear c6
    try clear hcz10_0
    try clear hcz8_0
    try clear hfz10_0
    try clear hfz8_0
    obtain ⟨kq, x16_2, rfl, HA, HJ2, BK265, HB⟩ := hcut
    cases kq with
    | zero => exact absurd HA.out (by simp [spec_LabelPolynomialAt.j0])
    | succ kj2 =>
      have H := HA.out
      clear HA
      simp only [spec_LabelPolynomialAt.j0] at H
      by_cases c12 : x16_2 = true
      · subst c12
        have H1 : (some (0, false)) = some (r1, r2) := by rw [if_pos rfl] at H; exact H
        clear H
        have H := H1
        clear H1
        simp only [Option.some.injEq, Prod.mk.injEq] at H
        obtain ⟨rfl, rfl⟩ := H
        go_wp2
        go_ret2
        exact ⟨by first | rfl | (simp [errW_none, errW_some] <;> rfl) | (simp [*, errW_none, errW_some] <;> rfl), by repeat (first | (with_reducible first | exact HB.out | apply below_alloc | apply pw_below_drewN | apply below_drew1 | refine below_set ?_ GE265.out) | exact HB.out)⟩
      · replace c12 := Bool.eq_false_iff.mpr c12
        subst c12
        have H1 : ((spec_laSteps.f kj2 l0_0).bind fun t268 => (spec_LabelPolynomialAt.l0 kj2 a1 0 t268 (t268.length : Int) 0)) = some (r1, r2) := by rw [if_neg (show ¬ (false = true) by decide)] at H; exact H
        clear H
        have H := H1
        clear H1
        replace H := Option.bind_eq_some_iff.mp H
        obtain ⟨t268, A130, H⟩ := H
        replace H : (spec_LabelPolynomialAt.l0 kj2 a1 0 t268 (t268.length : Int) 0) = some (r1, r2) := H
        have A13 := Aside0.mk A130
        clear A130
        have H' := Aside0.mk H
        clear H
        have hcz14_0 : wc.cell? ⟨gb265, 0, none⟩ = some (.slice A0_0 l0_0.length c0_0) := (blk_cell BK265.out 0).trans rfl
        have hfz14_0 := blk_frozen BK265.out 0
        go_wp2_with (first | ((with_reducible refine gate_callee (f := 51) rfl ?_); refine goesL_ (some 18) rfl rfl Try.func51 (by kernel_rfl) rfl #[.agg #[.slice A0_0 l0_0.length c0_0]] rfl (by (try simp only [List.map_toArray, List.map_cons, List.map_nil]); first | done | rfl | (simp only [List.length_drop, List.length_take]; rfl)) ?_; (with_reducible refine (spec_laSteps.calls kj2 _ _ l0_0 t268 _ ?side1 ?side2 A13.out).mono ?_); (case side1 => repeat (first | exact (Kd.C_below HR0_0.out HB.out) | (with_reducible refine Kd.C_alloc ?_ _) | (with_reducible refine Kd.C_drewN ?_ _) | (with_reducible refine Kd.C_drew ?_))); (case side2 => exact HC0_0.out); rintro e w15 ⟨v269, rfl, ho0, hb⟩; refine ⟨_, rfl, ?_⟩; have n0_ := Aside0.mk (Kd.R_lower ho0 (below_size (by repeat (first | (with_reducible first | exact HB.out | apply below_alloc | apply pw_below_drewN | apply below_drew1 | refine below_set ?_ GE265.out) | exact HB.out)))); have n1_ := Aside0.mk (blk_below (g := gb265) (o := .cells #[.slice A0_0 l0_0.length c0_0] 30 (0, 0)) (by (with_reducible repeat (first | refine blk_drewN ?_ _ | refine blk_drew ?_ | refine blk_alloc ?_ _)); exact BK265.out) hb); have n2_ := Aside0.mk (below_step (by repeat (first | (with_reducible first | exact HB.out | apply below_alloc | apply pw_below_drewN | apply below_drew1 | refine below_set ?_ GE265.out) | exact HB.out)) hb); clear BK265; clear HB; have HO270 := n0_; have BK265 := n1_; have HB := n2_; clear n0_ n1_ n2_; (try clear hb); (try clear hb2); (try clear hk); (try clear hi); (try clear ho0); obtain ⟨Ao16, co16, eo16⟩ := Kd.R_slice HO270.out; subst eo16))
        go_loopg [6, 20] kj2 (fun kq v6 v20 w' => ∃ (x6_2 : Int) (x20_2 : Int), v6 = .int .i64 x6_2 ∧ v20 = .int .i64 x20_2 ∧ Aside0 (spec_LabelPolynomialAt.l0 kq a1 x6_2 t268 (t268.length : Int) x20_2 = some (r1, r2)) ∧ Aside0 (kq ≤ kj2) ∧ Aside0 (Kd.R (Kd.int .i64) 3 w' w.heap.size (fun _ => True) (.slice Ao16 t268.length co16) t268) ∧ Aside0 (w'.heap[gb265]? = some (.cells #[(.slice A0_0 l0_0.length c0_0)] 30 (0, 0))) ∧ Aside0 (Below w.heap.size w w'))
        case atStart => exact ⟨(0), (0), (by first | rfl | (simp; done) | (simp [*]; done)), (by first | rfl | (simp; done) | (simp [*]; done)), H', ⟨Nat.le_refl _⟩, ⟨by (with_reducible repeat (first | apply Kd.R_alloc | apply Kd.R_drewN | apply Kd.R_drew)); exact HO270.out⟩, ⟨by (with_reducible repeat (first | refine blk_drewN ?_ _ | refine blk_drew ?_ | refine blk_alloc ?_ _)); exact BK265.out⟩, ⟨by repeat (first | (with_reducible first | exact HB.out | apply below_alloc | apply pw_below_drewN | apply below_drew1 | refine below_set ?_ GE265.out) | exact HB.out)⟩⟩
        case round =>
          clear H'
          try clear c1
          try clear c2
          try clear p2
          try clear c4
          try clear c5
          try clear c6
          try clear c12
          try clear hcz10_0
          try clear hcz14_0
          try clear hcz8_0
          try clear hfz10_0
          try clear hfz14_0
          try clear hfz8_0
          try clear p2
          obtain ⟨x6_2, x20_2, rfl, rfl, HA, HK2, HO_18, BK265, HB⟩ := hrel
          cases gk with
          | zero => exact absurd HA.out (by simp [spec_LabelPolynomialAt.l0])
          | succ k2 =>
            have H := HA.out
            clear HA
            simp only [spec_LabelPolynomialAt.l0] at H
            by_cases c17 : x20_2 < (t268.length : Int)
            · rw [if_pos c17] at H
              have c17b0 : decide (x20_2 < (t268.length : Int)) = true := decide_eq_true c17
              clear c17
              by_cases c18 : 0 ≤ x20_2
              · rw [if_pos c18] at H
                have c18b0 : decide (0 ≤ x20_2) = true := decide_eq_true c18
                clear c18
                by_cases c19 : x20_2 < (t268.length : Int)
                · rw [if_pos c19] at H
                  have c19b0 : decide (x20_2 < (t268.length : Int)) = true := decide_eq_true c19
                  clear c19
                  replace H := Option.bind_eq_some_iff.mp H
                  obtain ⟨t272, A200, H⟩ := H
                  replace H : (spec_LabelPolynomialAt.l0 k2 a1 (wrap64 (x6_2 + (wrap64 ((rd t268 x20_2) * t272)))) t268 (t268.length : Int) (wrap64 (x20_2 + 1))) = some (r1, r2) := H
                  have A20 := Aside0.mk A200
                  clear A200
                  have H' := Aside0.mk H
                  clear H
                  have p271 : 0 ≤ (x20_2 : Int) := of_decide_eq_true (by first | (with_reducible assumption) | assumption)
                  have q271 : x20_2 < (t268.length : Int) := of_decide_eq_true (by first | (with_reducible assumption) | assumption)
                  obtain ⟨ad271, e271, hx271_0⟩ := Kd.at_int (Kd.R_reads' HO_18.out).2.2 x20_2 p271 q271
                  cases e271
                  replace p271 := eq_true p271
                  replace q271 := eq_true q271
                  go_wp2_with (first | ((with_reducible refine gate_callee (f := 52) rfl ?_); refine goesL_ (some 30) rfl rfl Try.func52 (by kernel_rfl) rfl #[.int .i64 a1, .int .i64 (wrap64 (x20_2 + 1))] rfl (by (try simp only [List.map_toArray, List.map_cons, List.map_nil]); first | done | rfl | (simp only [List.length_drop, List.length_take]; rfl)) ?_; (with_reducible refine (spec_laChoose.calls k2 a1 (wrap64 (x20_2 + 1)) t272 _ A20.out).mono ?_); rintro e w' ⟨rfl, ⟨nd, rfl⟩⟩; refine ⟨_, rfl, ?_⟩))
                  go_roundg k2
                  case measure => have := HJ2.out; have := HK2.out; omega
                  case rel => exact ⟨(wrap64 (x6_2 + (wrap64 ((rd t268 x20_2) * t272)))), (wrap64 (x20_2 + 1)), (by first | rfl | (simp; done) | (simp [*]; done)), (by first | rfl | (simp; done) | (simp [*]; done)), H', ⟨by have := HJ2.out; have := HK2.out; omega⟩, ⟨by (with_reducible repeat (first | apply Kd.R_alloc | apply Kd.R_drewN | apply Kd.R_drew)); exact HO_18.out⟩, ⟨by (with_reducible repeat (first | refine blk_drewN ?_ _ | refine blk_drew ?_ | refine blk_alloc ?_ _)); exact BK265.out⟩, ⟨by repeat (first | (with_reducible first | exact HB.out | apply below_alloc | apply pw_below_drewN | apply below_drew1 | refine below_set ?_ GE265.out) | exact HB.out)⟩⟩
                · rw [if_neg c19] at H
                  exact absurd H (by simp)
              · rw [if_neg c18] at H
                exact absurd H (by simp)
            · rw [if_neg c17] at H
              have c17b0 : decide (x20_2 < (t268.length : Int)) = false := decide_eq_false c17
              clear c17
              simp only [Option.some.injEq, Prod.mk.injEq] at H
              obtain ⟨rfl, rfl⟩ := H
              go_wp2
              go_ret2
              exact ⟨by first | rfl | (simp [errW_none, errW_some] <;> rfl) | (simp [*, errW_none, errW_some] <;> rfl), by repeat (first | (with_reducible first | exact HB.out | apply below_alloc | apply pw_below_drewN | apply below_drew1 | refine below_set ?_ GE265.out) | exact HB.out)⟩

end Go.Proofs.Ytemkddgfneohhaa.F
end

section
namespace Go.Proofs.Ytemkddgfneohhaa.Q
open Go.RowKit Go.Proofs.YtemkddgfneohhaaW.PrintWords Go.Proofs.Ytemkddgfneohhaa.F
set_option linter.unusedVariables false
theorem chSpec_all : (List.range 27).all (fun x => (List.range 11).all fun j => decide (spec_laChoose.f 60 ((x : Int) - 13) (j : Int) = some (ch ((x : Int) - 13) j))) = true := by decide +kernel
theorem laChoose_ev {x : Int} (h0 : -13 ≤ x) (h1 : x ≤ 13) {j : Nat} (hj : j ≤ 10) : Ev (fun k => spec_laChoose.f k x (j : Int)) (ch x j) := by
  obtain ⟨a, ha⟩ := Int.eq_ofNat_of_zero_le (show 0 ≤ x + 13 by omega)
  have e : x = (a : Int) - 13 := by omega
  rw [e]
  exact Ev.of (spec_laChoose.mono _ _) (of_decide_eq_true (List.all_eq_true.1 (List.all_eq_true.1 chSpec_all a (List.mem_range.2 (by omega))) j (List.mem_range.2 (by omega))))
theorem lsIn_ev {q : Nat} (hq : q ≤ 10) : ∀ (l : List Nat) (j own : Nat), j + l.length ≤ 10 → own + dotL q l j ≤ 4000000000000000000 → Ev (fun k => lsIn k (q : Int) (ints l) j ((own + dotL q l j : Nat) : Int)) (own : Int)
  | [], j, own, _, _ => Ev.now _
  | n :: l, j, own, h, hb => by
    rw [List.length_cons] at h
    unfold dotL at hb ⊢
    show Ev (fun k => (spec_laChoose.f k (q : Int) (wrap64 ((j : Int) + 1))).bind fun c => lsIn k (q : Int) (ints l) (j + 1) (wrap64 (((own + (n * bin q (j + 1) + dotL q l (j + 1)) : Nat) : Int) - wrap64 ((n : Int) * c)))) _
    rw [wid1 (show j < 10 by omega) (by omega)]
    refine Ev.bind (laChoose_ev (by omega) (by omega) (by omega)) ?_
    rw [ch_bin (by omega) (by omega), show (n : Int) * ((bin q (j + 1) : Nat) : Int) = ((n * bin q (j + 1) : Nat) : Int) by rw [Int.natCast_mul], wid (n := ((n * bin q (j + 1) : Nat) : Int)) (by omega) (by omega),
      show ((own + (n * bin q (j + 1) + dotL q l (j + 1)) : Nat) : Int) - ((n * bin q (j + 1) : Nat) : Int) = ((own + dotL q l (j + 1) : Nat) : Int) by omega, wid (by omega) (by omega)]
    exact lsIn_ev hq l (j + 1) own (by omega) (by omega)
theorem stepsN_take (p : List Int) {m : Nat} (h : m ≤ p.length) : (stepsN p).take m = (List.range m).map fun j => wvN (opB p) (idealsN p) (j + 1) (allN p) := by
  unfold stepsN
  rw [← List.map_take, List.take_range, Nat.min_eq_left h]
theorem laSteps_ev {p : List Int} (hp : PO p) : Ev (fun k => spec_laSteps.f k p) (ints (stepsN p)) := by
  have hn := hp.small
  unfold spec_laSteps.f
  refine Ev.yes (by omega) ?_
  have key : ∀ i, i ≤ p.length → Ev (fun k => lsOut k p (p.length - i) (i + 1) (ints ((stepsN p).take i))) (ints (stepsN p)) := by
    refine downTo _ ?_ ?_
    · rw [Nat.sub_self]
      refine Ev.ret ?_
      rw [List.take_of_length_le (by rw [stepsN_len]; omega)]
    · intro i hi ih
      rw [show p.length - i = (p.length - (i + 1)) + 1 by omega]
      show Ev (fun k => (spec_laChains.f k p ((i + 1 : Nat) : Int) true).bind fun own => (lsIn k ((i + 1 : Nat) : Int) (ints ((stepsN p).take i)) 0 own).bind fun o => lsOut k p (p.length - (i + 1)) (i + 1 + 1) (ints ((stepsN p).take i) ++ [o])) _
      refine Ev.bind (laChains_ev hp true (by omega)) ?_
      have hb := wvN_small hn (B := stB p true) (k := i + 1) (t := allN p) (fun s t h => stB_sub h) (by omega)
      have e : wvN (stB p true) (idealsN p) (i + 1) (allN p) = wvN (opB p) (idealsN p) (i + 1) (allN p) + dotL (i + 1) ((stepsN p).take i) 0 := by
        rw [strict_all hp (i + 1), stepsN_take p (by omega), dotL_upto, upto_zero _ (i + 1) p.length (by omega) (fun j h1 _ => by rw [bin_big (i + 1) (j + 1) (by omega), Nat.zero_mul])]
        show upto _ i + bin (i + 1) (i + 1) * wvN (opB p) (idealsN p) (i + 1) (allN p) = _
        rw [bin_self, Nat.one_mul, Nat.add_comm]
      rw [e] at hb ⊢
      refine Ev.bind (lsIn_ev (q := i + 1) (by omega) ((stepsN p).take i) 0 _ (by rw [List.length_take, stepsN_len]; omega) (by omega)) ?_
      have e2 : ints ((stepsN p).take i) ++ [((wvN (opB p) (idealsN p) (i + 1) (allN p) : Nat) : Int)] = ints ((stepsN p).take (i + 1)) := by
        rw [stepsN_take p (by omega), stepsN_take p (by omega), List.range_succ, List.map_append, ints_app]; rfl
      rw [e2]
      exact ih
  exact key 0 (Nat.zero_le _)
end Go.Proofs.Ytemkddgfneohhaa.Q
end

section
namespace Go.Proofs.Ytemkddgfneohhaa.F
open Go.RowKit Go.Maps Go.Proofs.YtemkddgfneohhaaW.PrintWords Go.Proofs.YtemkddgfneohhaaW.PrintLast Go.Proofs.YtemkddgfneohhaaW.PrintMore
set_option linter.unusedVariables false
set_option linter.unusedSimpArgs false
/-- How many rows end in t, out of how many end in each. -/
def cntNew (B : Int → Int → Bool) (ids : List Int) (v : Int → Int) (t : Int) : Int := wrap64 (mpTot ids (fun s => B s t) v)
def cntAt (B : Int → Int → Bool) (ids : List Int) : Nat → Int → Int
  | 0 => fun s => if s = 0 then 1 else 0
  | k + 1 => cntNew B ids (cntAt B ids k)
def cntOk (ids : List Int) : Bool := decide (ids.Nodup) && (decide ((0 : Int) ∈ ids) && (decide (ids.length ≤ 1024) && ids.all fun s => decide (-9223372036854775808 ≤ s ∧ s ≤ 9223372036854775807)))
theorem cntOk_parts {ids : List Int} (h : cntOk ids = true) : ids.Nodup ∧ (0 : Int) ∈ ids ∧ ids.length ≤ 1024 ∧ ∀ s ∈ ids, -9223372036854775808 ≤ s ∧ s ≤ 9223372036854775807 := by
  unfold cntOk at h
  rw [Bool.and_eq_true, Bool.and_eq_true, Bool.and_eq_true, decide_eq_true_eq, decide_eq_true_eq, decide_eq_true_eq] at h
  exact ⟨h.1, h.2.1, h.2.2.1, fun s hs => of_decide_eq_true (List.all_eq_true.1 h.2.2.2 s hs)⟩
/-- The map in which the next rows are counted, while the old one is ranged over: the values at the elements ahead of i are drawn up, that at t as far as the range has come. -/
def cntMid (B : Int → Int → Bool) (ids : List Int) (v : Int → Int) (i : Nat) (s : Int) : Int := if s ∈ ids.take i then cntNew B ids v s else 0
def cntIn (B : Int → Int → Bool) (ids : List Int) (v : Int → Int) (i : Nat) (t : Int) (left : Lit → Bool) (s : Int) : Int := if s = t then wrap64 (mpTot ids (fun s => B s t && !left (.int .i64 s)) v) else cntMid B ids v i s
theorem cnt_notyet {ids : List Int} (hn : ids.Nodup) {i : Nat} (hi : i < ids.length) : ids.getD i 0 ∉ ids.take i := by
  rw [List.getD_eq_getElem?_getD, List.getElem?_eq_getElem hi]
  show ids[i] ∉ ids.take i
  intro h
  obtain ⟨j, hj, e⟩ := List.mem_take_iff_getElem.1 h
  have := (List.nodup_iff_pairwise_ne.1 hn)
  rw [List.pairwise_iff_getElem] at this
  exact this j i (by omega) hi (by omega) e
theorem cnt_start {B : Int → Int → Bool} {D Dr : DataW Unit} {ids : List Int} {v : Int → Int} {i : Nat} {t : Int} (hr : MpReads Dr ids v) (h : MpReads D ids (cntMid B ids v i)) (ht : t ∉ ids.take i) : MpReads D ids (cntIn B ids v i t (Maps.has Dr)) := by
  refine mp_congr h fun s hs => ?_
  unfold cntIn
  by_cases e : s = t
  · subst e
    rw [if_pos rfl, mpTot_none]
    · unfold cntMid; rw [if_neg ht]; unfold wrap64; decide
    · intro y hy hp
      simp only [Bool.and_eq_true, Bool.not_eq_true'] at hp
      exact mp_absent hr hy hp.2
  · rw [if_neg e]
theorem cnt_end {B : Int → Int → Bool} {D : DataW Unit} {ids : List Int} {v : Int → Int} {i : Nat} {left : Lit → Bool} (hn : ids.Nodup) (hi : i < ids.length) (hl : ∀ kl, left kl = false) (h : MpReads D ids (cntIn B ids v i (ids.getD i 0) left)) : MpReads D ids (cntMid B ids v (i + 1)) := by
  refine mp_congr h fun s hs => ?_
  have e0 : ids.take (i + 1) = ids.take i ++ [ids.getD i 0] := by
    rw [List.take_add_one, List.getElem?_eq_getElem hi, List.getD_eq_getElem?_getD, List.getElem?_eq_getElem hi]; rfl
  unfold cntIn cntMid
  rw [e0]
  by_cases e : s = ids.getD i 0
  · rw [if_pos e, if_pos (List.mem_append.2 (.inr (by rw [e]; exact List.mem_singleton.2 rfl))), e]
    unfold cntNew
    congr 1
    exact mpTot_congr fun y hy => by rw [hl]; simp
  · rw [if_neg e]
    by_cases e2 : s ∈ ids.take i
    · rw [if_pos e2, if_pos (List.mem_append.2 (.inl e2))]
    · rw [if_neg e2, if_neg (fun h => by
        rcases List.mem_append.1 h with h | h
        · exact e2 h
        · exact e (List.mem_singleton.1 h))]
/-- An entry has come that is no part of t. -/
theorem cnt_skip {B : Int → Int → Bool} {D : DataW Unit} {ids : List Int} {v : Int → Int} {i : Nat} {t x : Int} {left : Lit → Bool} (hn : ids.Nodup) (hx : x ∈ ids) (hlx : left (.int .i64 x) = true) (hb : B x t = false)
    (h : MpReads D ids (cntIn B ids v i t left)) : MpReads D ids (cntIn B ids v i t (fun z => left z && !z.sameKey (.int .i64 x))) := by
  refine mp_congr h fun s hs => ?_
  unfold cntIn
  by_cases e : s = t
  · rw [if_pos e, if_pos e]
    congr 1
    have := mpTot_step (v := v) (x := x) (P := fun s => B s t && !left (.int .i64 s)) (P' := fun s => B s t && !(fun z : Lit => left z && !z.sameKey (.int .i64 x)) (.int .i64 s)) (by rw [hlx]; simp) (fun y hy => by show (_ && !((fun z : Lit => left z && !z.sameKey (.int .i64 x)) (.int .i64 y))) = _; rw [mp_strike left x y hy]) ids hn hx
    rw [this, if_neg (by show ¬ ((_ && _) = true); rw [hb]; simp)]
    omega
  · rw [if_neg e, if_neg e]
/-- An entry has come that is part of t. -/
theorem cnt_add {B : Int → Int → Bool} {D : DataW Unit} {ids : List Int} {v : Int → Int} {i : Nat} {t x c c0 : Int} {left : Lit → Bool} (hn : ids.Nodup) (ht : t ∈ ids) (hx : x ∈ ids) (hc : v x = c) (hlx : left (.int .i64 x) = true) (hb : B x t = true)
    (hD : Maps.IsMap D) (h : MpReads D ids (cntIn B ids v i t left)) (h0 : D.atKey (.int .i64 t) (.lit (.int .i64 0)) = .lit (.int .i64 c0)) : MpReads (D.put (.int .i64 t) (.lit (.int .i64 (wrap64 (c0 + c))))) ids (cntIn B ids v i t (fun z => left z && !z.sameKey (.int .i64 x))) := by
  refine mp_congr (mp_put hD h ht) fun s hs => ?_
  have e0 : c0 = wrap64 (mpTot ids (fun s => B s t && !left (.int .i64 s)) v) := by
    have := h.at_ t ht
    rw [h0] at this
    injection this with this
    injection this with _ this
    rw [this]
    unfold cntIn
    rw [if_pos rfl]
  unfold cntIn
  by_cases e : s = t
  · rw [if_pos e, if_pos e, e0, mp_wrap_add]
    congr 1
    have := mpTot_step (v := v) (x := x) (P := fun s => B s t && !left (.int .i64 s)) (P' := fun s => B s t && !(fun z : Lit => left z && !z.sameKey (.int .i64 x)) (.int .i64 s)) (by rw [hlx]; simp) (fun y hy => by show (_ && !((fun z : Lit => left z && !z.sameKey (.int .i64 x)) (.int .i64 y))) = _; rw [mp_strike left x y hy]) ids hn hx
    rw [this, if_pos (by show (_ && _) = true; rw [hb, mp_struck]; rfl), hc]
  · rw [if_neg e, if_neg e, if_neg e]
/-- The sum at the end: another entry. -/
theorem cnt_sum {ids : List Int} {v : Int → Int} {x c : Int} {left : Lit → Bool} (hn : ids.Nodup) (hx : x ∈ ids) (hc : v x = c) (hlx : left (.int .i64 x) = true) :
    wrap64 (wrap64 (mpTot ids (fun s => !left (.int .i64 s)) v) + c) = wrap64 (mpTot ids (fun s => !(fun z : Lit => left z && !z.sameKey (.int .i64 x)) (.int .i64 s)) v) := by
  rw [mp_wrap_add]
  congr 1
  have := mpTot_step (v := v) (x := x) (P := fun s => !left (.int .i64 s)) (P' := fun s => !(fun z : Lit => left z && !z.sameKey (.int .i64 x)) (.int .i64 s)) (by rw [hlx]; rfl) (fun y hy => by show (!((fun z : Lit => left z && !z.sameKey (.int .i64 x)) (.int .i64 y))) = _; rw [mp_strike left x y hy]) ids hn hx
  rw [this, if_pos (by show (!_) = true; rw [mp_struck]; rfl), hc]
theorem cnt_first {B : Int → Int → Bool} (ids : List Int) (h : (0 : Int) ∈ ids) : MpReads ((DataW.map [] : DataW Unit).put (.int .i64 0) (.lit (.int .i64 1))) ids (cntAt B ids 0) := mp_congr (mp_put ⟨[], rfl⟩ (mp_empty ids) h) (fun _ _ => rfl)
theorem cnt_mid0 {B : Int → Int → Bool} (ids : List Int) (v : Int → Int) : MpReads (DataW.map [] : DataW Unit) ids (cntMid B ids v 0) := mp_congr (mp_empty ids) (fun s _ => by unfold cntMid; rw [if_neg (by simp)])
theorem cnt_done {B : Int → Int → Bool} {D : DataW Unit} {ids : List Int} {v : Int → Int} (h : MpReads D ids (cntMid B ids v ids.length)) : MpReads D ids (cntNew B ids v) := mp_congr h (fun s hs => by unfold cntMid; rw [List.take_length, if_pos hs])
end Go.Proofs.Ytemkddgfneohhaa.F
end

section
namespace Go.Proofs.Ytemkddgfneohhaa.Q
open Go.RowKit Go.Proofs.YtemkddgfneohhaaW.PrintWords Go.Proofs.Ytemkddgfneohhaa.F
set_option linter.unusedVariables false
theorem mpTot_ints {P' : Int → Bool} {v' : Int → Int} {P : Nat → Bool} {v : Nat → Nat} : ∀ ids : List Nat, (∀ s ∈ ids, P' (s : Int) = P s) → (∀ s ∈ ids, v' (s : Int) = (v s : Int)) → mpTot (ints ids) P' v' = ((sumL ((ids.filter P).map v) : Nat) : Int)
  | [], _, _ => rfl
  | s :: ids, h1, h2 => by
    have ih := mpTot_ints ids (fun s hs => h1 s (List.mem_cons_of_mem _ hs)) (fun s hs => h2 s (List.mem_cons_of_mem _ hs))
    unfold mpTot ints at ih ⊢
    rw [List.map_cons, List.map_cons, List.sum_cons, ih, List.filter_cons]
    have e1 := h1 s List.mem_cons_self
    have e2 := h2 s List.mem_cons_self
    show (if P' (s : Int) = true then v' (s : Int) else 0) + _ = _
    rw [e1, e2]
    cases P s with
    | true => rw [if_pos rfl, if_pos rfl, List.map_cons]; simp only [sumL]; omega
    | false => rw [if_neg (by simp), if_neg (by simp)]; omega
theorem cntAt_eq {p : List Int} (hp : p.length ≤ 10) {B' : Int → Int → Bool} {B : Nat → Nat → Bool} (hB : ∀ s ∈ idealsN p, ∀ t ∈ idealsN p, B' (s : Int) (t : Int) = B s t) (hsub : ∀ s t, B s t = true → subB s t = true) :
    ∀ k, k ≤ 14 → ∀ t ∈ idealsN p, cntAt B' (ints (idealsN p)) k (t : Int) = ((wvN B (idealsN p) k t : Nat) : Int)
  | 0, _, t, _ => by
    unfold cntAt wvN
    by_cases h : t = 0
    · subst h; rfl
    · rw [if_neg h, if_neg (by omega)]; rfl
  | k + 1, hk, t, ht => by
    unfold cntAt cntNew
    rw [mpTot_ints (P := fun s => B s t) (v := wvN B (idealsN p) k) (idealsN p) (fun s hs => hB s hs t ht) (fun s hs => cntAt_eq hp hB hsub k (by omega) s hs)]
    have := wvN_small hp (B := B) (k := k + 1) (t := t) hsub (by omega)
    have e : wvN B (idealsN p) (k + 1) t = sumL (((idealsN p).filter fun s => B s t).map (wvN B (idealsN p) k)) := by conv => lhs; unfold wvN
    rw [e] at this ⊢
    exact wid (by omega) (by omega)
theorem cntOk_ids {p : List Int} (hp : p.length ≤ 10) : cntOk (ints (idealsN p)) = true := by
  have h2 : 2 ^ p.length ≤ 1024 := Nat.le_trans (Nat.pow_le_pow_right (by decide) hp) (by decide)
  unfold cntOk
  rw [Bool.and_eq_true, Bool.and_eq_true, Bool.and_eq_true, decide_eq_true_eq, decide_eq_true_eq, decide_eq_true_eq, List.all_eq_true]
  refine ⟨?_, List.mem_map.2 ⟨0, zero_mem p, rfl⟩, ?_, fun x hx => ?_⟩
  · unfold ints
    rw [List.nodup_iff_pairwise_ne, List.pairwise_map]
    exact (List.nodup_iff_pairwise_ne.1 (idealsN_nodup p)).imp (fun h e => h (Int.ofNat.inj e))
  · rw [ints_len]; have := idealsN_len p; omega
  · obtain ⟨s, hs, rfl⟩ := List.mem_map.1 hx
    have := (mem_idealsN.1 hs).1
    refine decide_eq_true ?_
    show _ ≤ (s : Int) ∧ (s : Int) ≤ _
    omega
end Go.Proofs.Ytemkddgfneohhaa.Q
end
