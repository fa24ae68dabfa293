/- Part 4 of the texts below the row of FnExactRankLabels: printed functions with their contracts, and plain lemmas. No condition. -/
import Derived.Test.YtemkddgfneohhaaZFnExactRankLabels3
section
namespace Go.Proofs.Ytemkddgfneohhaa.F
open Go.RowKit Go.Proofs.YtemkddgfneohhaaW.PrintWords Go.Proofs.YtemkddgfneohhaaW.PrintLast Go.Proofs.YtemkddgfneohhaaW.PrintMore
attribute [local go_sem] max2_int min2_int max_two min_two max_three min_three max_four min_four
set_option linter.unusedVariables false
set_option linter.unusedSimpArgs false

/-! ### spec_laChains: function 46 -/
mutual
def spec_laChains.l0 : Nat → Int → Bool → List Int → List Int → List Int → Option (Int)
  | 0, _, _, _, _, _ => none
  | k + 1, x1, x2, x7, x8, x162000 => if x1 > 0 then (if 0 ≤ (x8.length : Int) then (if ((x8.length : Int) : Int).toNat ≤ 35184372088832 then (spec_laChains.l1 k x1 x2 x7 x8 (List.replicate ((x8.length : Int) : Int).toNat 0) x7 (x7.length : Int) 0 x162000) else (none)) else (none)) else (if 0 ≤ (wrap64 ((x8.length : Int) - 1)) then (if (wrap64 ((x8.length : Int) - 1)) < (x8.length : Int) then (some (rd x8 (wrap64 ((x8.length : Int) - 1)))) else (none)) else (none))
def spec_laChains.l1 : Nat → Int → Bool → List Int → List Int → List Int → List Int → Int → Int → List Int → Option (Int)
  | 0, _, _, _, _, _, _, _, _, _ => none
  | k + 1, x1, x2, x7, x8, x9, x30, x31, x32, x162000 => if x32 < x31 then (if 0 ≤ x32 then (if x32 < (x30.length : Int) then (spec_laChains.l2 k x1 x2 x7 x8 x9 (rd x30 x32) x30 x31 x32 x7 (x7.length : Int) 0 x162000) else (none)) else (none)) else (spec_laChains.l0 k (wrap64 (x1 - 1)) x2 x7 x9 x162000)
def spec_laChains.l2 : Nat → Int → Bool → List Int → List Int → List Int → Int → List Int → Int → Int → List Int → Int → Int → List Int → Option (Int)
  | 0, _, _, _, _, _, _, _, _, _, _, _, _, _ => none
  | k + 1, x1, x2, x7, x8, x9, x11, x30, x31, x32, x36, x37, x38, x162000 => if x38 < x37 then (if 0 ≤ x38 then (if x38 < (x36.length : Int) then (if 0 ≤ x11 then (if x11 < (x8.length : Int) then (if (rd x8 x11) > 0 then (if (Go.bits .andNot .i64 x11 (rd x36 x38)) = 0 then (if x2 = true then ((spec_laFree.f k x162000 (Go.bits .andNot .i64 (rd x36 x38) x11)).bind fun t176 => (if t176 = true then (if 0 ≤ (rd x36 x38) then (if (rd x36 x38) < (x9.length : Int) then (spec_laChains.l2 k x1 x2 x7 x8 (x9.set ((rd x36 x38) : Int).toNat (wrap64 ((rd x9 (rd x36 x38)) + (rd x8 x11)))) x11 x30 x31 x32 x36 x37 (wrap64 (x38 + 1)) x162000) else (none)) else (none)) else (spec_laChains.l2 k x1 x2 x7 x8 x9 x11 x30 x31 x32 x36 x37 (wrap64 (x38 + 1)) x162000))) else (if 0 ≤ (rd x36 x38) then (if (rd x36 x38) < (x9.length : Int) then (spec_laChains.l2 k x1 x2 x7 x8 (x9.set ((rd x36 x38) : Int).toNat (wrap64 ((rd x9 (rd x36 x38)) + (rd x8 x11)))) x11 x30 x31 x32 x36 x37 (wrap64 (x38 + 1)) x162000) else (none)) else (none))) else (spec_laChains.l2 k x1 x2 x7 x8 x9 x11 x30 x31 x32 x36 x37 (wrap64 (x38 + 1)) x162000)) else (spec_laChains.l2 k x1 x2 x7 x8 x9 x11 x30 x31 x32 x36 x37 (wrap64 (x38 + 1)) x162000)) else (none)) else (none)) else (none)) else (none)) else (spec_laChains.l1 k x1 x2 x7 x8 x9 x30 x31 (wrap64 (x32 + 1)) x162000)
end
def spec_laChains.f (k : Nat) (l0_0 : List Int) (a1 : Int) (a2 : Bool) : Option (Int) := (spec_poIdeals.f k l0_0).bind fun t162 => (if 0 ≤ (shl .i64 1 (l0_0.length : Int)) then (if (shl .i64 1 (l0_0.length : Int) : Int).toNat ≤ 35184372088832 then ((some (List.replicate (shl .i64 1 (l0_0.length : Int) : Int).toNat 0 : List Int)).bind fun y165 => (if 0 < (y165.length : Int) then (spec_laChains.l0 k a1 a2 t162 (y165.set (0 : Int).toNat 1) l0_0) else (none))) else (none)) else (none))
theorem spec_laChains.mono_l : ∀ k, (∀ y0 y1 y2 y3 y4, LeO (spec_laChains.l0 k y0 y1 y2 y3 y4) (spec_laChains.l0 (k + 1) y0 y1 y2 y3 y4)) ∧ (∀ y0 y1 y2 y3 y4 y5 y6 y7 y8, LeO (spec_laChains.l1 k y0 y1 y2 y3 y4 y5 y6 y7 y8) (spec_laChains.l1 (k + 1) y0 y1 y2 y3 y4 y5 y6 y7 y8)) ∧ (∀ y0 y1 y2 y3 y4 y5 y6 y7 y8 y9 y10 y11 y12, LeO (spec_laChains.l2 k y0 y1 y2 y3 y4 y5 y6 y7 y8 y9 y10 y11 y12) (spec_laChains.l2 (k + 1) y0 y1 y2 y3 y4 y5 y6 y7 y8 y9 y10 y11 y12))
  | 0 => ⟨fun _ _ _ _ _ r h => by simp [spec_laChains.l0] at h, fun _ _ _ _ _ _ _ _ _ r h => by simp [spec_laChains.l1] at h, fun _ _ _ _ _ _ _ _ _ _ _ _ _ r h => by simp [spec_laChains.l2] at h⟩
  | k + 1 => by
    obtain ⟨ih0, ih1, ih2⟩ := spec_laChains.mono_l k
    refine ⟨?_, ?_, ?_⟩
    · intro y0 y1 y2 y3 y4
      unfold spec_laChains.l0
      repeat' first
      | (with_reducible exact ih0 _ _ _ _ _)
      | (with_reducible exact ih1 _ _ _ _ _ _ _ _ _)
      | (with_reducible exact ih2 _ _ _ _ _ _ _ _ _ _ _ _ _)
      | (with_reducible exact spec_laFree.mono _ _ _)
      | (with_reducible exact spec_poIdeals.mono _ _)
      | (with_reducible exact LeO.refl _)
      | (with_reducible exact LeO.none _)
      | (with_reducible refine LeO.ite ?_ ?_)
      | (with_reducible refine LeO.bind ?_ (fun _ => ?_))
      | exact ih0 _ _ _ _ _
      | exact ih1 _ _ _ _ _ _ _ _ _
      | exact ih2 _ _ _ _ _ _ _ _ _ _ _ _ _
      | exact spec_laFree.mono _ _ _
      | exact spec_poIdeals.mono _ _
      | exact LeO.none _
      | refine LeO.ite ?_ ?_
      | refine LeO.bind ?_ (fun _ => ?_)
    · intro y0 y1 y2 y3 y4 y5 y6 y7 y8
      unfold spec_laChains.l1
      repeat' first
      | (with_reducible exact ih0 _ _ _ _ _)
      | (with_reducible exact ih1 _ _ _ _ _ _ _ _ _)
      | (with_reducible exact ih2 _ _ _ _ _ _ _ _ _ _ _ _ _)
      | (with_reducible exact spec_laFree.mono _ _ _)
      | (with_reducible exact spec_poIdeals.mono _ _)
      | (with_reducible exact LeO.refl _)
      | (with_reducible exact LeO.none _)
      | (with_reducible refine LeO.ite ?_ ?_)
      | (with_reducible refine LeO.bind ?_ (fun _ => ?_))
      | exact ih0 _ _ _ _ _
      | exact ih1 _ _ _ _ _ _ _ _ _
      | exact ih2 _ _ _ _ _ _ _ _ _ _ _ _ _
      | exact spec_laFree.mono _ _ _
      | exact spec_poIdeals.mono _ _
      | exact LeO.none _
      | refine LeO.ite ?_ ?_
      | refine LeO.bind ?_ (fun _ => ?_)
    · intro y0 y1 y2 y3 y4 y5 y6 y7 y8 y9 y10 y11 y12
      unfold spec_laChains.l2
      repeat' first
      | (with_reducible exact ih0 _ _ _ _ _)
      | (with_reducible exact ih1 _ _ _ _ _ _ _ _ _)
      | (with_reducible exact ih2 _ _ _ _ _ _ _ _ _ _ _ _ _)
      | (with_reducible exact spec_laFree.mono _ _ _)
      | (with_reducible exact spec_poIdeals.mono _ _)
      | (with_reducible exact LeO.refl _)
      | (with_reducible exact LeO.none _)
      | (with_reducible refine LeO.ite ?_ ?_)
      | (with_reducible refine LeO.bind ?_ (fun _ => ?_))
      | exact ih0 _ _ _ _ _
      | exact ih1 _ _ _ _ _ _ _ _ _
      | exact ih2 _ _ _ _ _ _ _ _ _ _ _ _ _
      | exact spec_laFree.mono _ _ _
      | exact spec_poIdeals.mono _ _
      | exact LeO.none _
      | refine LeO.ite ?_ ?_
      | refine LeO.bind ?_ (fun _ => ?_)
theorem spec_laChains.mono : ∀ a0 a1 a2 k, LeO (spec_laChains.f k a0 a1 a2) (spec_laChains.f (k + 1) a0 a1 a2) := by
  intro a0 a1 a2 k
  obtain ⟨ih0, ih1, ih2⟩ := spec_laChains.mono_l k
  unfold spec_laChains.f
  repeat' first
      | (with_reducible exact ih0 _ _ _ _ _)
      | (with_reducible exact ih1 _ _ _ _ _ _ _ _ _)
      | (with_reducible exact ih2 _ _ _ _ _ _ _ _ _ _ _ _ _)
      | (with_reducible exact spec_laFree.mono _ _ _)
      | (with_reducible exact spec_poIdeals.mono _ _)
      | (with_reducible exact LeO.refl _)
      | (with_reducible exact LeO.none _)
      | (with_reducible refine LeO.ite ?_ ?_)
      | (with_reducible refine LeO.bind ?_ (fun _ => ?_))
      | exact ih0 _ _ _ _ _
      | exact ih1 _ _ _ _ _ _ _ _ _
      | exact ih2 _ _ _ _ _ _ _ _ _ _ _ _ _
      | exact spec_laFree.mono _ _ _
      | exact spec_poIdeals.mono _ _
      | exact LeO.none _
      | refine LeO.ite ?_ ?_
      | refine LeO.bind ?_ (fun _ => ?_)
def spec_laChains.T14 : Bool × List (List Nat × List Nat) := (true, [([], []), ([], []), ([0, 1], [0, 1]), ([2], [2]), ([], []), ([], []), ([4, 5], [4, 5]), ([6], [6]), ([3, 7], [3, 7]), ([0, 1, 0, 1, 2, 3, 4, 5, 6, 7, 8], [0, 1]), ([9, 8, 0, 1, 2, 3, 4, 5, 6, 7, 8], [8, 9])])
def spec_laChains.B14 : List Nat := [0, 0, 3, 7, 0, 0, 48, 112, 255, 511, 1023]
theorem spec_laChains.tab14 : rtab .any (opsOf Try.f46 14) = spec_laChains.T14 := by kernel_rfl
theorem spec_laChains.bits14 : waitsOk spec_laChains.T14.2 spec_laChains.B14 = true := by kernel_rfl
set_option maxHeartbeats 8000000 in
set_option maxRecDepth 100000 in
theorem spec_laChains.calls (k : Nat) (A0_0 : Option Addr) (c0_0 : Nat) (l0_0 : List Int) (a1 : Int) (a2 : Bool) (r : Int) (w : World) (hr0_0 : Kd.C (Kd.int .i64) w A0_0 l0_0.length l0_0) (hc0_0 : l0_0.length ≤ c0_0) (h : spec_laChains.f k l0_0 a1 a2 = some r) :
    Calls Try.prog 46 #[.agg #[.slice A0_0 l0_0.length c0_0], .int .i64 a1, .bool a2] w fun e w' => e = .returned (.int .i64 r) ∧ Below w.heap.size w w' := by
  have hu30 := Try.underlying30
  have HR0_0 := Aside0.mk hr0_0
  have HC0_0 := Aside0.mk hc0_0
  clear hr0_0 hc0_0
  have HB := Aside0.mk (Below.refl w.heap.size w)
  have H : ((spec_poIdeals.f k l0_0).bind fun t162 => (if 0 ≤ (shl .i64 1 (l0_0.length : Int)) then (if (shl .i64 1 (l0_0.length : Int) : Int).toNat ≤ 35184372088832 then ((some (List.replicate (shl .i64 1 (l0_0.length : Int) : Int).toNat 0 : List Int)).bind fun y165 => (if 0 < (y165.length : Int) then (spec_laChains.l0 k a1 a2 t162 (y165.set (0 : Int).toNat 1) l0_0) else (none))) else (none)) else (none))) = some r := h
  clear h
  replace H := Option.bind_eq_some_iff.mp H
  obtain ⟨t162, A40, H⟩ := H
  replace H : (if 0 ≤ (shl .i64 1 (l0_0.length : Int)) then (if (shl .i64 1 (l0_0.length : Int) : Int).toNat ≤ 35184372088832 then ((some (List.replicate (shl .i64 1 (l0_0.length : Int) : Int).toNat 0 : List Int)).bind fun y165 => (if 0 < (y165.length : Int) then (spec_laChains.l0 k a1 a2 t162 (y165.set (0 : Int).toNat 1) l0_0) else (none))) else (none)) else (none)) = some r := H
  have A4 := Aside0.mk A40
  clear A40
  obtain ⟨ji5, hji5⟩ : ∃ j_ : Int, (shl .i64 1 (l0_0.length : Int)) = j_ := ⟨_, rfl⟩
  replace H : (if 0 ≤ (ji5) then (if (ji5 : Int).toNat ≤ 35184372088832 then ((some (List.replicate (ji5 : Int).toNat 0 : List Int)).bind fun y165 => (if 0 < (y165.length : Int) then (spec_laChains.l0 k a1 a2 t162 (y165.set (0 : Int).toNat 1) l0_0) else (none))) else (none)) else (none)) = some r := by first | (rw [hji5] at H; exact H) | (simp only [hji5] at H ⊢; exact H)
  (try rw [hji5] at A4)
  have hji5_ : (IntKind.i64.wrap (1 * 2 ^ min (l0_0.length : Int).toNat 64)) = ji5 := hji5
  have hji5z : (l0_0.length : Int) ≤ 64 → (IntKind.i64.wrap (1 * 2 ^ (l0_0.length : Int).toNat)) = ji5 := shl_small hji5
  have hji5p : (IntKind.i64.wrap (1 * 2 ^ min l0_0.length 64)) = ji5 := hji5_
  have hji5q : (l0_0.length : Int) ≤ 64 → (IntKind.i64.wrap (1 * 2 ^ l0_0.length)) = ji5 := hji5z
  have hji5r : (IntKind.i64.wrap (2 ^ min l0_0.length 64)) = ji5 := by have h_ := hji5p; rw [Int.one_mul] at h_; exact h_
  have hji5s : (l0_0.length : Int) ≤ 64 → (IntKind.i64.wrap (2 ^ l0_0.length)) = ji5 := fun hle_ => by have h_ := hji5q hle_; rw [Int.one_mul] at h_; exact h_
  have hji5u : (IntKind.i64.wrap (2 ^ min (l0_0.length : Int).toNat 64)) = ji5 := by have h_ := hji5_; rw [Int.one_mul] at h_; exact h_
  have hji5v : (l0_0.length : Int) ≤ 64 → (IntKind.i64.wrap (2 ^ (l0_0.length : Int).toNat)) = ji5 := fun hle_ => by have h_ := hji5z hle_; rw [Int.one_mul] at h_; exact h_
  have hji5y : (wrap64 (1 * 2 ^ min (l0_0.length : Int).toNat 64)) = ji5 := (i64_w _).symm.trans hji5_
  have hji5x : (l0_0.length : Int) ≤ 64 → (wrap64 (1 * 2 ^ (l0_0.length : Int).toNat)) = ji5 := fun h_ => (i64_w _).symm.trans (hji5z h_)
  by_cases c6 : 0 ≤ (ji5)
  · rw [if_pos c6] at H
    have c6b0 := eq_true c6
    have c6b1 : decide (0 ≤ (ji5)) = true := decide_eq_true c6
    clear c6
    by_cases c7 : (ji5 : Int).toNat ≤ 35184372088832
    · rw [if_pos c7] at H
      have c7b0 := eq_true c7
      have c7b1 : decide ((ji5 : Int).toNat ≤ 35184372088832) = true := decide_eq_true c7
      clear c7
      obtain ⟨y165, hy165⟩ : ∃ y_ : List Int, y_ = (List.replicate (ji5 : Int).toNat 0) := ⟨_, rfl⟩
      replace H : (if 0 < (y165.length : Int) then (spec_laChains.l0 k a1 a2 t162 (y165.set (0 : Int).toNat 1) l0_0) else (none)) = some r := by first | (rw [hy165]; with_reducible exact H) | (have H2_ := (Option.bind_some _ _).symm.trans H; rw [hy165]; with_reducible exact H2_) | (have H2_ := (Option.bind_some _ _).symm.trans H; with_reducible exact H2_) | with_reducible exact H | (rw [hy165]; exact H) | exact H
      have Ny165 := Aside0.mk hy165
      clear hy165
      by_cases c8 : 0 < (y165.length : Int)
      · rw [if_pos c8] at H
        have c8b0 : decide (0 < (y165.length : Int)) = true := decide_eq_true c8
        have c8b1 : decide (0 < y165.length) = true := decide_eq_true (by omega)
        clear c8
        obtain ⟨y168, hy168⟩ : ∃ y_ : List Int, y_ = (y165.set (0 : Int).toNat 1) := ⟨_, rfl⟩
        replace H : (spec_laChains.l0 k a1 a2 t162 y168 l0_0) = some r := by first | (rw [hy168]; with_reducible exact H) | (have H2_ := (Option.bind_some _ _).symm.trans H; rw [hy168]; with_reducible exact H2_) | (have H2_ := (Option.bind_some _ _).symm.trans H; with_reducible exact H2_) | with_reducible exact H | (rw [hy168]; exact H) | exact H
        have Ny168 := Aside0.mk hy168
        clear hy168
        have H' := Aside0.mk H
        clear H
        go_enter Try.func46, Try.ntmps46
        go_wp2_with (first | ((with_reducible refine gate_dst (N := 3) rfl ?_); refine box_event ?hg (N := 3) ?hd (cs := #[.slice A0_0 l0_0.length c0_0]) (t := 30) ?hr ?_; (case hd => rfl); (case hg => rfl); (case hr => first | (go_simp; done) | (go_simp; rfl)); intro gb161 hg w10 hbox hb; have n0_ := Aside0.mk (below_step (by repeat (first | (with_reducible first | exact HB.out | apply below_alloc | apply pw_below_drewN | apply below_drew1) | exact HB.out)) hb); have n1_ := Aside0.mk (hbox); have n2_ := Aside0.mk ((by rw [hg]; exact (below_size (by repeat (first | (with_reducible first | exact HB.out | apply below_alloc | apply pw_below_drewN | apply below_drew1) | exact HB.out))) : w.heap.size ≤ gb161)); have n3_ := Aside0.mk ((by rw [hg]; exact (below_size (by repeat (first | (with_reducible first | exact HB.out | apply below_alloc | apply pw_below_drewN | apply below_drew1) | exact HB.out))) : w.heap.size ≤ gb161)); clear HB; have HB := n0_; have BK161 := n1_; have GW161 := n2_; have GE161 := n3_; clear n0_ n1_ n2_ n3_; clear hb hbox hg; have hcz11_0 : w10.cell? ⟨gb161, 0, none⟩ = some (.slice A0_0 l0_0.length c0_0) := (blk_cell BK161.out 0).trans rfl; have hfz11_0 := blk_frozen BK161.out 0) | ((with_reducible refine gate_callee (f := 68) rfl ?_); refine goesL_ (some 15) rfl rfl Try.func68 (by kernel_rfl) rfl #[.agg #[.slice A0_0 l0_0.length c0_0]] rfl (by (try simp only [List.map_toArray, List.map_cons, List.map_nil]); first | done | rfl | (simp only [List.length_drop, List.length_take]; rfl)) ?_; (with_reducible refine (spec_poIdeals.calls k _ _ l0_0 t162 _ ?side1 ?side2 A4.out).mono ?_); (case side1 => repeat (first | exact (Kd.C_below HR0_0.out HB.out) | (with_reducible refine Kd.C_alloc ?_ _) | (with_reducible refine Kd.C_drewN ?_ _) | (with_reducible refine Kd.C_drew ?_))); (case side2 => exact HC0_0.out); rintro e w12 ⟨v163, rfl, ho0, hb⟩; refine ⟨_, rfl, ?_⟩; have n0_ := Aside0.mk (Kd.R_lower ho0 (below_size (by repeat (first | (with_reducible first | exact HB.out | apply below_alloc | apply pw_below_drewN | apply below_drew1 | refine below_set ?_ GE161.out) | exact HB.out)))); have n1_ := Aside0.mk (blk_below (g := gb161) (o := .cells #[.slice A0_0 l0_0.length c0_0] 30 (0, 0)) (by (with_reducible repeat (first | refine blk_drewN ?_ _ | refine blk_drew ?_ | refine blk_alloc ?_ _)); exact BK161.out) hb); have n2_ := Aside0.mk (below_step (by repeat (first | (with_reducible first | exact HB.out | apply below_alloc | apply pw_below_drewN | apply below_drew1 | refine below_set ?_ GE161.out) | exact HB.out)) hb); clear BK161; clear HB; have HO164 := n0_; have BK161 := n1_; have HB := n2_; clear n0_ n1_ n2_; (try clear hb); (try clear hb2); (try clear hk); (try clear hi); (try clear ho0); have hcz13_0 : w12.cell? ⟨gb161, 0, none⟩ = some (.slice A0_0 l0_0.length c0_0) := (blk_cell BK161.out 0).trans rfl; have hfz13_0 := blk_frozen BK161.out 0) | ((with_reducible refine gate_dst (N := 20) rfl ?_); refine Kd.R_make (Kd.int .i64) _ 3 rfl (N := 20) rfl 25 _ _ rfl ji5 rfl rfl Try.underlying25 (.int .i64 0) 8 info3 rfl (by decide) (by omega) 0 (ok := fun _ => True) (okp := fun _ => True) rfl (fun _ hk => hk) trivial (of_decide_eq_true (by first | (with_reducible assumption) | assumption)) (Nat.le_trans (Nat.mul_le_mul_right _ (of_decide_eq_true (by first | (with_reducible assumption) | assumption) : ji5.toNat ≤ 35184372088832)) (by omega)) (Below.refl _ _) (Nat.le_refl _) ?_; intro v166 w14 ho15 hb hg_ hnew_; clear hg_ hnew_; (first | rw [← Ny165.out] at ho15 | (simp only [Int.reduceToNat] at ho15; rw [← Ny165.out] at ho15)); have n0_ := Aside0.mk (Kd.R_elder' (by (with_reducible repeat (first | apply Kd.R_alloc | apply Kd.R_drewN | apply Kd.R_drew)); exact HO164.out) (Kd.R_base ho15) hb); have n1_ := Aside0.mk (Kd.R_lower (Kd.R_new' ho15 (Kd.R_lt (by (with_reducible repeat (first | apply Kd.R_alloc | apply Kd.R_drewN | apply Kd.R_drew)); exact HO164.out))) (below_size (by repeat (first | (with_reducible first | exact HB.out | apply below_alloc | apply pw_below_drewN | apply below_drew1 | refine below_set ?_ GE161.out) | exact HB.out)))); have n2_ := Aside0.mk (blk_below (g := gb161) (o := .cells #[.slice A0_0 l0_0.length c0_0] 30 (0, 0)) (by (with_reducible repeat (first | refine blk_drewN ?_ _ | refine blk_drew ?_ | refine blk_alloc ?_ _)); exact BK161.out) hb); have n3_ := Aside0.mk (below_step (by repeat (first | (with_reducible first | exact HB.out | apply below_alloc | apply pw_below_drewN | apply below_drew1 | refine below_set ?_ GE161.out) | exact HB.out)) hb); clear HO164; clear BK161; clear HB; have HO164 := n0_; have HO167 := n1_; have BK161 := n2_; have HB := n3_; clear n0_ n1_ n2_ n3_; clear hb ho15; have p9 : 0 ≤ (0 : Int) := (by omega); have q9 : (0 : Int) < ((y165.length : Int) : Int) := of_decide_eq_true (by first | (with_reducible assumption) | assumption); have qi9 : (0 < y165.length) = True := eq_true (by omega); obtain ⟨go9, co9, eo9, gb9, gl9, cl9, HG9⟩ := Kd.R_form HO167.out (by omega); (first | cases eo9 | (injection eo9 with ea_ en_ ec_; (first | subst ea_ | (injection ea_ with ea_; subst ea_)); subst ec_; clear en_)); have GB9 := Aside0.mk gb9; have GG9 := Aside0.mk HG9; clear gb9 gl9 HG9; obtain ⟨hx9_0, hf9_0⟩ := Kd.R_celln 0 HO167.out (0 : Int) p9 q9; (try rw [show ((0 : Int)).toNat = 0 from rfl] at hx9_0); (try simp only [Nat.reduceMul, Nat.zero_mul, Nat.zero_add, Nat.reduceAdd] at hx9_0); (try rw [show ((0 : Int)).toNat = 0 from rfl] at hf9_0); (try simp only [Nat.reduceMul, Nat.zero_mul, Nat.zero_add, Nat.reduceAdd] at hf9_0); replace p9 := eq_true p9; replace q9 := eq_true q9; have n_ := Aside0.mk (Kd.R_mono (ok' := (fun k_ => some k_ ≠ (v163 : Value).ownBlock)) HO167.out (fun k_ hk => hk.2)); clear HO167; have HO167 := n_; clear n_; obtain ⟨hy16_, hz16_⟩ := Kd.R_celln 0 HO167.out (0 : Int) (by omega) (of_decide_eq_true (by first | (with_reducible assumption) | assumption)); (try simp only [Int.reduceToNat, Int.toNat_zero, Int.toNat_ofNat, Nat.reduceMul, Nat.zero_mul, Nat.zero_add] at hy16_ hz16_); (try rw [show ((0 : Int)).toNat = 0 from rfl] at hy16_); (try rw [show ((0 : Int)).toNat = 0 from rfl] at hz16_); have HP16 := Kd.R_putg HO167.out (0 : Int) 1) | ((with_reducible refine gate_store (t := 3) (p := 22) rfl ?_); refine store_event (t := 3) (p := 22) (v := ?vo_w17) (w1 := (w14.setCell ⟨go9, (0 : Int).toNat, none⟩ (.int .i64 1))) ?hg ?ho ?hn ?hr ?_; (case ho => rfl); (case hg => rfl); (case hn => rfl); (case hr => first | (go_simp; done) | (go_simp; rfl) | (obtain ⟨Av_, cv_, ev_⟩ := Kd.R_slice HO164.out; subst ev_; go_simp; done) | (obtain ⟨Av_, cv_, ev_⟩ := Kd.R_slice HO164.out; subst ev_; go_simp; rfl) | (obtain ⟨Av_, cv_, ev_⟩ := Kd.R_slice HO167.out; subst ev_; go_simp; done) | (obtain ⟨Av_, cv_, ev_⟩ := Kd.R_slice HO167.out; subst ev_; go_simp; rfl) | (obtain ⟨Av_, cv_, ev_⟩ := Kd.R_slice HO172.out; subst ev_; go_simp; done) | (obtain ⟨Av_, cv_, ev_⟩ := Kd.R_slice HO172.out; subst ev_; go_simp; rfl)); intro w17 hw; have hg : w14.grownBy w17 (some go9) := (by rw [hw]; exact HP16.2); have hp_ : Kd.R (Kd.int .i64) 3 w17 w.heap.size (fun k_ => some k_ ≠ (v163 : Value).ownBlock) (.slice (some ⟨go9, 0, none⟩) y165.length co9) y168 := (by rw [hw, Ny168.out]; exact HP16.1); clear HP16; have n0_ := Aside0.mk (blk_grown (g := gb161) (o := .cells #[.slice A0_0 l0_0.length c0_0] 30 (0, 0)) (by (with_reducible repeat (first | refine blk_drewN ?_ _ | refine blk_drew ?_ | refine blk_alloc ?_ _)); exact BK161.out) hg (Kd.R_ne HO167.out BK161.out (by decide))); have n1_ := Aside0.mk (Kd.R_after (v := (.slice (some ⟨go9, 0, none⟩) y165.length co9)) (v1 := (.slice (some ⟨go9, 0, none⟩) y165.length co9)) (ok := (fun _ => True)) (by (with_reducible repeat (first | apply Kd.R_alloc | apply Kd.R_drewN | apply Kd.R_drew)); exact HO164.out) hg (.inl rfl)); have n2_ := Aside0.mk (hp_); have n3_ := Aside0.mk ((by rw [hw]; exact below_set (HB.out) GB9.out : Below w.heap.size w w17)); clear BK161; clear HO164; clear HO167; clear HB; have BK161 := n0_; have HO164 := n1_; have HO167 := n2_; have HB := n3_; clear n0_ n1_ n2_ n3_; clear hg hw hp_))
        go_loopg [1, 8] k (fun kq v1 v8 w' => ∃ (x1_1 : Int) (x7_1 : List Int) (x8_1 : List Int), v1 = .int .i64 x1_1 ∧ Aside0 (spec_laChains.l0 kq x1_1 a2 x7_1 x8_1 l0_0 = some r) ∧ Aside0 (kq ≤ k) ∧ Aside0 (Kd.R (Kd.int .i64) 3 w' w.heap.size (fun k_ => some k_ ≠ (v8 : Value).ownBlock) v163 x7_1) ∧ Aside0 (Kd.R (Kd.int .i64) 3 w' w.heap.size (fun k_ => some k_ ≠ (v163 : Value).ownBlock) v8 x8_1) ∧ Aside0 (w'.heap[gb161]? = some (.cells #[(.slice A0_0 l0_0.length c0_0)] 30 (0, 0))) ∧ Aside0 (Below w.heap.size w w'))
        case atStart => exact ⟨(a1), (t162), (y168), (by first | rfl | (simp; done) | (simp [*]; done)), H', ⟨Nat.le_refl _⟩, ⟨by (with_reducible repeat (first | apply Kd.R_alloc | apply Kd.R_drewN | apply Kd.R_drew)); exact Kd.R_mono HO164.out (fun _ hk => hk.2)⟩, ⟨by (with_reducible repeat (first | apply Kd.R_alloc | apply Kd.R_drewN | apply Kd.R_drew)); exact HO167.out⟩, ⟨by (with_reducible repeat (first | refine blk_drewN ?_ _ | refine blk_drew ?_ | refine blk_alloc ?_ _)); exact BK161.out⟩, ⟨by repeat (first | (with_reducible first | exact HB.out | apply below_alloc | apply pw_below_drewN | apply below_drew1 | refine below_set ?_ GE161.out) | exact HB.out)⟩⟩
        case round =>
          clear H'
          try clear p2
          try clear c4
          try clear c6
          try clear c6b0
          try clear c6b1
          try clear p6
          try clear c7
          try clear c7b0
          try clear c7b1
          try clear c8
          try clear c8b0
          try clear c8b1
          try clear p9
          try clear q9
          try clear hx9
          try clear qi9
          try clear hf9
          try clear hcz11_0
          try clear hcz13_0
          try clear hfz11_0
          try clear hfz13_0
          try clear hx9_0
          try clear p9
          try clear q9
          obtain ⟨x1_1, x7_1, x8_1, rfl, HA, HK1, HO_7, HO_8, BK161, HB⟩ := hrel
          cases gk with
          | zero => exact absurd HA.out (by simp [spec_laChains.l0])
          | succ k1 =>
            have H := HA.out
            clear HA
            simp only [spec_laChains.l0] at H
            by_cases c18 : x1_1 > 0
            · rw [if_pos c18] at H
              have c18b0 : decide (0 < x1_1) = true := decide_eq_true c18
              clear c18
              by_cases c19 : 0 ≤ (x8_1.length : Int)
              · rw [if_pos c19] at H
                have c19b0 := eq_true c19
                have c19b1 : decide (0 ≤ (x8_1.length : Int)) = true := decide_eq_true c19
                clear c19
                by_cases c20 : ((x8_1.length : Int) : Int).toNat ≤ 35184372088832
                · rw [if_pos c20] at H
                  have c20b0 := eq_true c20
                  have c20b1 : decide (((x8_1.length : Int) : Int).toNat ≤ 35184372088832) = true := decide_eq_true c20
                  clear c20
                  obtain ⟨y170, hy170⟩ : ∃ y_ : List Int, y_ = (List.replicate ((x8_1.length : Int) : Int).toNat 0) := ⟨_, rfl⟩
                  replace H : (spec_laChains.l1 k1 x1_1 a2 x7_1 x8_1 y170 x7_1 (x7_1.length : Int) 0 l0_0) = some r := by first | (rw [hy170]; with_reducible exact H) | (have H2_ := (Option.bind_some _ _).symm.trans H; rw [hy170]; with_reducible exact H2_) | (have H2_ := (Option.bind_some _ _).symm.trans H; with_reducible exact H2_) | with_reducible exact H | (rw [hy170]; exact H) | exact H
                  have Ny170 := Aside0.mk hy170
                  clear hy170
                  have H' := Aside0.mk H
                  clear H
                  obtain ⟨Ao21, co21, eo21⟩ := Kd.R_slice HO_8.out
                  subst eo21
                  go_wp2_with (first | ((with_reducible refine gate_dst (N := 29) rfl ?_); refine Kd.R_make (Kd.int .i64) _ 3 rfl (N := 29) rfl 25 _ _ rfl (x8_1.length : Int) rfl rfl Try.underlying25 (.int .i64 0) 8 info3 rfl (by decide) (by omega) 0 (ok := fun _ => True) (okp := fun _ => True) rfl (fun _ hk => hk) trivial (of_decide_eq_true (by first | (with_reducible assumption) | assumption)) (Nat.le_trans (Nat.mul_le_mul_right _ (of_decide_eq_true (by first | (with_reducible assumption) | assumption) : (x8_1.length : Int).toNat ≤ 35184372088832)) (by omega)) (Below.refl _ _) (Nat.le_refl _) ?_; intro v171 w22 ho23 hb hg_ hnew_; clear hg_ hnew_; (first | rw [← Ny170.out] at ho23 | (simp only [Int.reduceToNat] at ho23; rw [← Ny170.out] at ho23)); have n0_ := Aside0.mk (Kd.R_elder' (by (with_reducible repeat (first | apply Kd.R_alloc | apply Kd.R_drewN | apply Kd.R_drew)); exact HO_7.out) (Kd.R_base ho23) hb); have n1_ := Aside0.mk (Kd.R_elder' (by (with_reducible repeat (first | apply Kd.R_alloc | apply Kd.R_drewN | apply Kd.R_drew)); exact HO_8.out) (Kd.R_base ho23) hb); have n2_ := Aside0.mk (Kd.R_lower (Kd.R_new' (Kd.R_new' ho23 (Kd.R_lt (by (with_reducible repeat (first | apply Kd.R_alloc | apply Kd.R_drewN | apply Kd.R_drew)); exact HO_7.out))) (Kd.R_lt (by (with_reducible repeat (first | apply Kd.R_alloc | apply Kd.R_drewN | apply Kd.R_drew)); exact HO_8.out))) (below_size (by repeat (first | (with_reducible first | exact HB.out | apply below_alloc | apply pw_below_drewN | apply below_drew1 | refine below_set ?_ GE161.out) | exact HB.out)))); have n3_ := Aside0.mk (blk_below (g := gb161) (o := .cells #[.slice A0_0 l0_0.length c0_0] 30 (0, 0)) (by (with_reducible repeat (first | refine blk_drewN ?_ _ | refine blk_drew ?_ | refine blk_alloc ?_ _)); exact BK161.out) hb); have n4_ := Aside0.mk (below_step (by repeat (first | (with_reducible first | exact HB.out | apply below_alloc | apply pw_below_drewN | apply below_drew1 | refine below_set ?_ GE161.out) | exact HB.out)) hb); clear HO_7; clear HO_8; clear BK161; clear HB; have HO_7 := n0_; have HO_8 := n1_; have HO172 := n2_; have BK161 := n3_; have HB := n4_; clear n0_ n1_ n2_ n3_ n4_; clear hb ho23; obtain ⟨Ao24, co24, eo24⟩ := Kd.R_slice HO_7.out; subst eo24))
                  go_loopg [32] k1 (fun kq v32 w' => ∃ (x9_2 : List Int) (x32_2 : Int), v32 = .int .i64 x32_2 ∧ Aside0 (spec_laChains.l1 kq x1_1 a2 x7_1 x8_1 x9_2 x7_1 (x7_1.length : Int) x32_2 l0_0 = some r) ∧ Aside0 (kq ≤ k1) ∧ Aside0 (Kd.R (Kd.int .i64) 3 w' w.heap.size (fun k_ => some k_ ≠ ((.slice Ao21 x8_1.length co21) : Value).ownBlock ∧ some k_ ≠ (v171 : Value).ownBlock) (.slice Ao24 x7_1.length co24) x7_1) ∧ Aside0 (Kd.R (Kd.int .i64) 3 w' w.heap.size (fun k_ => some k_ ≠ ((.slice Ao24 x7_1.length co24) : Value).ownBlock ∧ some k_ ≠ (v171 : Value).ownBlock ∧ some k_ ≠ ((.slice Ao24 x7_1.length co24) : Value).ownBlock) (.slice Ao21 x8_1.length co21) x8_1) ∧ Aside0 (Kd.R (Kd.int .i64) 3 w' w.heap.size (fun k_ => some k_ ≠ ((.slice Ao24 x7_1.length co24) : Value).ownBlock ∧ some k_ ≠ ((.slice Ao21 x8_1.length co21) : Value).ownBlock ∧ some k_ ≠ ((.slice Ao24 x7_1.length co24) : Value).ownBlock) v171 x9_2) ∧ Aside0 (Kd.R (Kd.int .i64) 3 w' w.heap.size (fun k_ => some k_ ≠ ((.slice Ao21 x8_1.length co21) : Value).ownBlock ∧ some k_ ≠ (v171 : Value).ownBlock) (.slice Ao24 x7_1.length co24) x7_1) ∧ Aside0 (w'.heap[gb161]? = some (.cells #[(.slice A0_0 l0_0.length c0_0)] 30 (0, 0))) ∧ Aside0 (Below w.heap.size w w'))
                  case atStart => exact ⟨(y170), (0), (by first | rfl | (simp; done) | (simp [*]; done)), H', ⟨Nat.le_refl _⟩, ⟨by (with_reducible repeat (first | apply Kd.R_alloc | apply Kd.R_drewN | apply Kd.R_drew)); exact HO_7.out⟩, ⟨by (with_reducible repeat (first | apply Kd.R_alloc | apply Kd.R_drewN | apply Kd.R_drew)); exact Kd.R_mono HO_8.out (fun _ hk => ⟨hk.1, ⟨hk.2, hk.1⟩⟩)⟩, ⟨by (with_reducible repeat (first | apply Kd.R_alloc | apply Kd.R_drewN | apply Kd.R_drew)); exact Kd.R_mono HO172.out (fun _ hk => ⟨hk.1.2, ⟨hk.2, hk.1.2⟩⟩)⟩, ⟨by (with_reducible repeat (first | apply Kd.R_alloc | apply Kd.R_drewN | apply Kd.R_drew)); exact HO_7.out⟩, ⟨by (with_reducible repeat (first | refine blk_drewN ?_ _ | refine blk_drew ?_ | refine blk_alloc ?_ _)); exact BK161.out⟩, ⟨by repeat (first | (with_reducible first | exact HB.out | apply below_alloc | apply pw_below_drewN | apply below_drew1 | refine below_set ?_ GE161.out) | exact HB.out)⟩⟩
                  case round =>
                    clear H'
                    try clear c1
                    try clear c2
                    try clear p2
                    try clear c4
                    try clear c6
                    try clear c6b0
                    try clear c6b1
                    try clear p6
                    try clear c7
                    try clear c7b0
                    try clear c7b1
                    try clear c8
                    try clear c8b0
                    try clear c8b1
                    try clear p9
                    try clear q9
                    try clear hx9
                    try clear qi9
                    try clear hf9
                    try clear c18
                    try clear c18b0
                    try clear c19
                    try clear c19b0
                    try clear c19b1
                    try clear c20
                    try clear c20b0
                    try clear c20b1
                    try clear hcz11_0
                    try clear hcz13_0
                    try clear hfz11_0
                    try clear hfz13_0
                    try clear hx9_0
                    try clear p2
                    try clear p6
                    try clear p9
                    try clear q9
                    obtain ⟨x9_2, x32_2, rfl, HA, HK2, HO_7, HO_8, HO_9, HO_30, BK161, HB⟩ := hrel
                    cases gk with
                    | zero => exact absurd HA.out (by simp [spec_laChains.l1])
                    | succ k2 =>
                      have H := HA.out
                      clear HA
                      simp only [spec_laChains.l1] at H
                      by_cases c25 : x32_2 < (x7_1.length : Int)
                      · rw [if_pos c25] at H
                        have c25b0 : decide (x32_2 < (x7_1.length : Int)) = true := decide_eq_true c25
                        clear c25
                        by_cases c26 : 0 ≤ x32_2
                        · rw [if_pos c26] at H
                          have c26b0 : decide (0 ≤ x32_2) = true := decide_eq_true c26
                          clear c26
                          by_cases c27 : x32_2 < (x7_1.length : Int)
                          · rw [if_pos c27] at H
                            have c27b0 : decide (x32_2 < (x7_1.length : Int)) = true := decide_eq_true c27
                            clear c27
                            have H' := Aside0.mk H
                            clear H
                            have p173 : 0 ≤ (x32_2 : Int) := of_decide_eq_true (by first | (with_reducible assumption) | assumption)
                            have q173 : x32_2 < (x7_1.length : Int) := of_decide_eq_true (by first | (with_reducible assumption) | assumption)
                            obtain ⟨ad173, e173, hx173_0⟩ := Kd.at_int (Kd.R_reads' HO_30.out).2.2 x32_2 p173 q173
                            cases e173
                            replace p173 := eq_true p173
                            replace q173 := eq_true q173
                            go_wp2
                            go_loopg [38] k2 (fun kq v38 w' => ∃ (x9_3 : List Int) (x38_3 : Int), v38 = .int .i64 x38_3 ∧ Aside0 (spec_laChains.l2 kq x1_1 a2 x7_1 x8_1 x9_3 (rd x7_1 x32_2) x7_1 (x7_1.length : Int) x32_2 x7_1 (x7_1.length : Int) x38_3 l0_0 = some r) ∧ Aside0 (kq ≤ k2) ∧ Aside0 (Kd.R (Kd.int .i64) 3 w' w.heap.size (fun k_ => some k_ ≠ ((.slice Ao21 x8_1.length co21) : Value).ownBlock ∧ some k_ ≠ (v171 : Value).ownBlock) (.slice (some ad173) x7_1.length co24) x7_1) ∧ Aside0 (Kd.R (Kd.int .i64) 3 w' w.heap.size (fun k_ => some k_ ≠ ((.slice (some ad173) x7_1.length co24) : Value).ownBlock ∧ some k_ ≠ (v171 : Value).ownBlock ∧ some k_ ≠ ((.slice (some ad173) x7_1.length co24) : Value).ownBlock ∧ some k_ ≠ ((.slice (some ad173) x7_1.length co24) : Value).ownBlock) (.slice Ao21 x8_1.length co21) x8_1) ∧ Aside0 (Kd.R (Kd.int .i64) 3 w' w.heap.size (fun k_ => some k_ ≠ ((.slice (some ad173) x7_1.length co24) : Value).ownBlock ∧ some k_ ≠ ((.slice Ao21 x8_1.length co21) : Value).ownBlock ∧ some k_ ≠ ((.slice (some ad173) x7_1.length co24) : Value).ownBlock ∧ some k_ ≠ ((.slice (some ad173) x7_1.length co24) : Value).ownBlock) v171 x9_3) ∧ Aside0 (Kd.R (Kd.int .i64) 3 w' w.heap.size (fun k_ => some k_ ≠ ((.slice Ao21 x8_1.length co21) : Value).ownBlock ∧ some k_ ≠ (v171 : Value).ownBlock) (.slice (some ad173) x7_1.length co24) x7_1) ∧ Aside0 (Kd.R (Kd.int .i64) 3 w' w.heap.size (fun k_ => some k_ ≠ ((.slice Ao21 x8_1.length co21) : Value).ownBlock ∧ some k_ ≠ (v171 : Value).ownBlock) (.slice (some ad173) x7_1.length co24) x7_1) ∧ Aside0 (w'.heap[gb161]? = some (.cells #[(.slice A0_0 l0_0.length c0_0)] 30 (0, 0))) ∧ Aside0 (Below w.heap.size w w'))
                            case atStart => exact ⟨(x9_2), (0), (by first | rfl | (simp; done) | (simp [*]; done)), H', ⟨Nat.le_refl _⟩, ⟨by (with_reducible repeat (first | apply Kd.R_alloc | apply Kd.R_drewN | apply Kd.R_drew)); exact HO_7.out⟩, ⟨by (with_reducible repeat (first | apply Kd.R_alloc | apply Kd.R_drewN | apply Kd.R_drew)); exact Kd.R_mono HO_8.out (fun _ hk => ⟨hk.1, ⟨hk.2.1, ⟨hk.2.2, hk.1⟩⟩⟩)⟩, ⟨by (with_reducible repeat (first | apply Kd.R_alloc | apply Kd.R_drewN | apply Kd.R_drew)); exact Kd.R_mono HO_9.out (fun _ hk => ⟨hk.1, ⟨hk.2.1, ⟨hk.2.2, hk.1⟩⟩⟩)⟩, ⟨by (with_reducible repeat (first | apply Kd.R_alloc | apply Kd.R_drewN | apply Kd.R_drew)); exact HO_30.out⟩, ⟨by (with_reducible repeat (first | apply Kd.R_alloc | apply Kd.R_drewN | apply Kd.R_drew)); exact HO_7.out⟩, ⟨by (with_reducible repeat (first | refine blk_drewN ?_ _ | refine blk_drew ?_ | refine blk_alloc ?_ _)); exact BK161.out⟩, ⟨by repeat (first | (with_reducible first | exact HB.out | apply below_alloc | apply pw_below_drewN | apply below_drew1 | refine below_set ?_ GE161.out) | exact HB.out)⟩⟩
                            case round =>
                              clear H'
                              try clear c1
                              try clear p1
                              try clear q1
                              try clear hx1
                              try clear c2
                              try clear p2
                              try clear c4
                              try clear c6
                              try clear c6b0
                              try clear c6b1
                              try clear p6
                              try clear c7
                              try clear c7b0
                              try clear c7b1
                              try clear c8
                              try clear c8b0
                              try clear c8b1
                              try clear p9
                              try clear q9
                              try clear hx9
                              try clear qi9
                              try clear hf9
                              try clear p17
                              try clear q17
                              try clear hx17
                              try clear c18
                              try clear c18b0
                              try clear c19
                              try clear c19b0
                              try clear c19b1
                              try clear c20
                              try clear c20b0
                              try clear c20b1
                              try clear c25
                              try clear c25b0
                              try clear c26
                              try clear c26b0
                              try clear c27
                              try clear c27b0
                              try clear hcz11_0
                              try clear hcz13_0
                              try clear hfz11_0
                              try clear hfz13_0
                              try clear hx173_0
                              try clear hx9_0
                              try clear p173
                              try clear p2
                              try clear p6
                              try clear p9
                              try clear q173
                              try clear q9
                              obtain ⟨x9_3, x38_3, rfl, HA, HK3, HO_7, HO_8, HO_9, HO_30, HO_36, BK161, HB⟩ := hrel
                              cases gk with
                              | zero => exact absurd HA.out (by simp [spec_laChains.l2])
                              | succ k3 =>
                                have H := HA.out
                                clear HA
                                simp only [spec_laChains.l2] at H
                                by_cases c28 : x38_3 < (x7_1.length : Int)
                                · rw [if_pos c28] at H
                                  have c28b0 : decide (x38_3 < (x7_1.length : Int)) = true := decide_eq_true c28
                                  clear c28
                                  by_cases c29 : 0 ≤ x38_3
                                  · rw [if_pos c29] at H
                                    have c29b0 : decide (0 ≤ x38_3) = true := decide_eq_true c29
                                    clear c29
                                    by_cases c30 : x38_3 < (x7_1.length : Int)
                                    · rw [if_pos c30] at H
                                      have c30b0 : decide (x38_3 < (x7_1.length : Int)) = true := decide_eq_true c30
                                      clear c30
                                      by_cases c31 : 0 ≤ (rd x7_1 x32_2)
                                      · rw [if_pos c31] at H
                                        have c31b0 : decide (0 ≤ (rd x7_1 x32_2)) = true := decide_eq_true c31
                                        clear c31
                                        by_cases c32 : (rd x7_1 x32_2) < (x8_1.length : Int)
                                        · rw [if_pos c32] at H
                                          have c32b0 : decide ((rd x7_1 x32_2) < (x8_1.length : Int)) = true := decide_eq_true c32
                                          clear c32
                                          by_cases c33 : (rd x8_1 (rd x7_1 x32_2)) > 0
                                          · rw [if_pos c33] at H
                                            have c33b0 : decide (0 < (rd x8_1 (rd x7_1 x32_2))) = true := decide_eq_true c33
                                            clear c33
                                            by_cases c34 : (Go.bits .andNot .i64 (rd x7_1 x32_2) (rd x7_1 x38_3)) = 0
                                            · rw [if_pos c34] at H
                                              have c34b0 : ((Go.bits .andNot .i64 (rd x7_1 x32_2) (rd x7_1 x38_3)) == 0) = true := beq_iff_eq.mpr c34
                                              have c34b1 : ((Go.bits .andNot .i64 (rd x7_1 x32_2) (rd x7_1 x38_3)) != 0) = false := bne_eq_false_iff_eq.mpr c34
                                              clear c34
                                              by_cases c35 : a2 = true
                                              · subst c35
                                                have H1 : ((spec_laFree.f k3 l0_0 (Go.bits .andNot .i64 (rd x7_1 x38_3) (rd x7_1 x32_2))).bind fun t176 => (if t176 = true then (if 0 ≤ (rd x7_1 x38_3) then (if (rd x7_1 x38_3) < (x9_3.length : Int) then (spec_laChains.l2 k3 x1_1 true x7_1 x8_1 (x9_3.set ((rd x7_1 x38_3) : Int).toNat (wrap64 ((rd x9_3 (rd x7_1 x38_3)) + (rd x8_1 (rd x7_1 x32_2))))) (rd x7_1 x32_2) x7_1 (x7_1.length : Int) x32_2 x7_1 (x7_1.length : Int) (wrap64 (x38_3 + 1)) l0_0) else (none)) else (none)) else (spec_laChains.l2 k3 x1_1 true x7_1 x8_1 x9_3 (rd x7_1 x32_2) x7_1 (x7_1.length : Int) x32_2 x7_1 (x7_1.length : Int) (wrap64 (x38_3 + 1)) l0_0))) = some r := by rw [if_pos rfl] at H; exact H
                                                clear H
                                                have H := H1
                                                clear H1
                                                replace H := Option.bind_eq_some_iff.mp H
                                                obtain ⟨t176, A360, H⟩ := H
                                                replace H : (if t176 = true then (if 0 ≤ (rd x7_1 x38_3) then (if (rd x7_1 x38_3) < (x9_3.length : Int) then (spec_laChains.l2 k3 x1_1 true x7_1 x8_1 (x9_3.set ((rd x7_1 x38_3) : Int).toNat (wrap64 ((rd x9_3 (rd x7_1 x38_3)) + (rd x8_1 (rd x7_1 x32_2))))) (rd x7_1 x32_2) x7_1 (x7_1.length : Int) x32_2 x7_1 (x7_1.length : Int) (wrap64 (x38_3 + 1)) l0_0) else (none)) else (none)) else (spec_laChains.l2 k3 x1_1 true x7_1 x8_1 x9_3 (rd x7_1 x32_2) x7_1 (x7_1.length : Int) x32_2 x7_1 (x7_1.length : Int) (wrap64 (x38_3 + 1)) l0_0)) = some r := H
                                                have A36 := Aside0.mk A360
                                                clear A360
                                                by_cases c37 : t176 = true
                                                · subst c37
                                                  have H1 : (if 0 ≤ (rd x7_1 x38_3) then (if (rd x7_1 x38_3) < (x9_3.length : Int) then (spec_laChains.l2 k3 x1_1 true x7_1 x8_1 (x9_3.set ((rd x7_1 x38_3) : Int).toNat (wrap64 ((rd x9_3 (rd x7_1 x38_3)) + (rd x8_1 (rd x7_1 x32_2))))) (rd x7_1 x32_2) x7_1 (x7_1.length : Int) x32_2 x7_1 (x7_1.length : Int) (wrap64 (x38_3 + 1)) l0_0) else (none)) else (none)) = some r := by rw [if_pos rfl] at H; exact H
                                                  clear H
                                                  have H := H1
                                                  clear H1
                                                  by_cases c38 : 0 ≤ (rd x7_1 x38_3)
                                                  · rw [if_pos c38] at H
                                                    have c38b0 : decide (0 ≤ (rd x7_1 x38_3)) = true := decide_eq_true c38
                                                    clear c38
                                                    by_cases c39 : (rd x7_1 x38_3) < (x9_3.length : Int)
                                                    · rw [if_pos c39] at H
                                                      have c39b0 : decide ((rd x7_1 x38_3) < (x9_3.length : Int)) = true := decide_eq_true c39
                                                      clear c39
                                                      obtain ⟨y179, hy179⟩ : ∃ y_ : List Int, y_ = (x9_3.set ((rd x7_1 x38_3) : Int).toNat (wrap64 ((rd x9_3 (rd x7_1 x38_3)) + (rd x8_1 (rd x7_1 x32_2))))) := ⟨_, rfl⟩
                                                      replace H : (spec_laChains.l2 k3 x1_1 true x7_1 x8_1 y179 (rd x7_1 x32_2) x7_1 (x7_1.length : Int) x32_2 x7_1 (x7_1.length : Int) (wrap64 (x38_3 + 1)) l0_0) = some r := by first | (rw [hy179]; with_reducible exact H) | (have H2_ := (Option.bind_some _ _).symm.trans H; rw [hy179]; with_reducible exact H2_) | (have H2_ := (Option.bind_some _ _).symm.trans H; with_reducible exact H2_) | with_reducible exact H | (rw [hy179]; exact H) | exact H
                                                      have Ny179 := Aside0.mk hy179
                                                      clear hy179
                                                      have H' := Aside0.mk H
                                                      clear H
                                                      have p174 : 0 ≤ (x38_3 : Int) := of_decide_eq_true (by first | (with_reducible assumption) | assumption)
                                                      have q174 : x38_3 < (x7_1.length : Int) := of_decide_eq_true (by first | (with_reducible assumption) | assumption)
                                                      obtain ⟨ad174, e174, hx174_0⟩ := Kd.at_int (Kd.R_reads' HO_36.out).2.2 x38_3 p174 q174
                                                      obtain rfl : ad173 = ad174 := (by injection e174)
                                                      replace p174 := eq_true p174
                                                      replace q174 := eq_true q174
                                                      have p175 : 0 ≤ ((rd x7_1 x32_2) : Int) := of_decide_eq_true (by first | (with_reducible assumption) | assumption)
                                                      have q175 : (rd x7_1 x32_2) < (x8_1.length : Int) := of_decide_eq_true (by first | (with_reducible assumption) | assumption)
                                                      obtain ⟨ad175, e175, hx175_0⟩ := Kd.at_int (Kd.R_reads' HO_8.out).2.2 (rd x7_1 x32_2) p175 q175
                                                      cases e175
                                                      replace p175 := eq_true p175
                                                      replace q175 := eq_true q175
                                                      have hcz41_0 : wr.cell? ⟨gb161, 0, none⟩ = some (.slice A0_0 l0_0.length c0_0) := (blk_cell BK161.out 0).trans rfl
                                                      have hfz41_0 := blk_frozen BK161.out 0
                                                      try go_wp2_with (first | (go_at_call 69; (with_reducible refine (spec_laFree.calls k3 _ _ l0_0 (Go.bits .andNot .i64 (rd x7_1 x38_3) (rd x7_1 x32_2)) true _ ?side1 ?side2 A36.out).mono ?_); (case side1 => repeat (first | exact (Kd.C_below HR0_0.out HB.out) | (with_reducible refine Kd.C_alloc ?_ _) | (with_reducible refine Kd.C_drewN ?_ _) | (with_reducible refine Kd.C_drew ?_))); (case side2 => exact HC0_0.out); rintro e w42 ⟨rfl, hb⟩; have n0_ := Aside0.mk (Kd.R_below (by (with_reducible repeat (first | apply Kd.R_alloc | apply Kd.R_drewN | apply Kd.R_drew)); exact HO_7.out) hb); have n1_ := Aside0.mk (Kd.R_below (by (with_reducible repeat (first | apply Kd.R_alloc | apply Kd.R_drewN | apply Kd.R_drew)); exact HO_8.out) hb); have n2_ := Aside0.mk (Kd.R_below (by (with_reducible repeat (first | apply Kd.R_alloc | apply Kd.R_drewN | apply Kd.R_drew)); exact HO_9.out) hb); have n3_ := Aside0.mk (Kd.R_below (by (with_reducible repeat (first | apply Kd.R_alloc | apply Kd.R_drewN | apply Kd.R_drew)); exact HO_30.out) hb); have n4_ := Aside0.mk (Kd.R_below (by (with_reducible repeat (first | apply Kd.R_alloc | apply Kd.R_drewN | apply Kd.R_drew)); exact HO_36.out) hb); have n5_ := Aside0.mk (blk_below (g := gb161) (o := .cells #[.slice A0_0 l0_0.length c0_0] 30 (0, 0)) (by (with_reducible repeat (first | refine blk_drewN ?_ _ | refine blk_drew ?_ | refine blk_alloc ?_ _)); exact BK161.out) hb); have n6_ := Aside0.mk (below_step (by repeat (first | (with_reducible first | exact HB.out | apply below_alloc | apply pw_below_drewN | apply below_drew1 | refine below_set ?_ GE161.out) | exact HB.out)) hb); clear HO_7; clear HO_8; clear HO_9; clear HO_30; clear HO_36; clear BK161; clear HB; have HO_7 := n0_; have HO_8 := n1_; have HO_9 := n2_; have HO_30 := n3_; have HO_36 := n4_; have BK161 := n5_; have HB := n6_; clear n0_ n1_ n2_ n3_ n4_ n5_ n6_; (try clear hb); (try clear hb2); (try clear hk); (try clear hi)))
                                                      have n0_ := Aside0.mk (Kd.R_drew HO_7.out)
                                                      have n1_ := Aside0.mk (Kd.R_drew HO_8.out)
                                                      have n2_ := Aside0.mk (Kd.R_drew HO_9.out)
                                                      have n3_ := Aside0.mk (Kd.R_drew HO_30.out)
                                                      have n4_ := Aside0.mk (Kd.R_drew HO_36.out)
                                                      have n5_ := Aside0.mk (blk_drew BK161.out)
                                                      have n6_ := Aside0.mk (below_drew1 HB.out)
                                                      clear HO_7
                                                      clear HO_8
                                                      clear HO_9
                                                      clear HO_30
                                                      clear HO_36
                                                      clear BK161
                                                      clear HB
                                                      have HO_7 := n0_
                                                      have HO_8 := n1_
                                                      have HO_9 := n2_
                                                      have HO_30 := n3_
                                                      have HO_36 := n4_
                                                      have BK161 := n5_
                                                      have HB := n6_
                                                      clear n0_ n1_ n2_ n3_ n4_ n5_ n6_
                                                      obtain ⟨Ao44, co44, eo44⟩ := Kd.R_slice HO_9.out
                                                      (first | subst eo44 | (injection eo44 with f1_ f2_ f3_; have f4_ := f1_.symm; have f5_ := f3_.symm; clear f1_ f2_ f3_; subst f4_; subst f5_))
                                                      have p177 : 0 ≤ ((rd x7_1 x38_3) : Int) := of_decide_eq_true (by first | (with_reducible assumption) | assumption)
                                                      have q177 : (rd x7_1 x38_3) < (x9_3.length : Int) := of_decide_eq_true (by first | (with_reducible assumption) | assumption)
                                                      obtain ⟨ad177, e177, hx177_0⟩ := Kd.at_int (Kd.R_reads' HO_9.out).2.2 (rd x7_1 x38_3) p177 q177
                                                      cases e177
                                                      replace p177 := eq_true p177
                                                      replace q177 := eq_true q177
                                                      have p178 : 0 ≤ ((rd x7_1 x32_2) : Int) := of_decide_eq_true (by first | (with_reducible assumption) | assumption)
                                                      have q178 : (rd x7_1 x32_2) < (x8_1.length : Int) := of_decide_eq_true (by first | (with_reducible assumption) | assumption)
                                                      obtain ⟨ad178, e178, hx178_0⟩ := Kd.at_int (Kd.R_reads' HO_8.out).2.2 (rd x7_1 x32_2) p178 q178
                                                      obtain rfl : ad175 = ad178 := (by injection e178)
                                                      replace p178 := eq_true p178
                                                      replace q178 := eq_true q178
                                                      have p40 : 0 ≤ ((rd x7_1 x38_3) : Int) := of_decide_eq_true (by first | (with_reducible assumption) | assumption)
                                                      have q40 : ((rd x7_1 x38_3) : Int) < ((x9_3.length : Int) : Int) := of_decide_eq_true (by first | (with_reducible assumption) | assumption)
                                                      obtain ⟨go40, co40, eo40, gb40, gl40, cl40, HG40⟩ := Kd.R_form HO_9.out (by omega)
                                                      (first | cases eo40 | (injection eo40 with ea_ en_ ec_; (first | subst ea_ | (injection ea_ with ea_; subst ea_)); subst ec_; clear en_))
                                                      have GB40 := Aside0.mk gb40
                                                      have GG40 := Aside0.mk HG40
                                                      clear gb40 gl40 HG40
                                                      (first | simp only [add_plain] at hx177_0 | skip)
                                                      obtain ⟨hx40_0, hf40_0⟩ := Kd.R_celln 0 HO_9.out ((rd x7_1 x38_3) : Int) p40 q40
                                                      replace p40 := eq_true p40
                                                      replace q40 := eq_true q40
                                                      have HP45 := Kd.R_putn HO_9.out ((rd x7_1 x38_3) : Int) (wrap64 ((rd x9_3 (rd x7_1 x38_3)) + (rd x8_1 (rd x7_1 x32_2))))
                                                      rw [← Ny179.out] at HP45
                                                      have HQ45 := Aside0.mk HP45
                                                      clear HP45
                                                      refine start_ (n := 11) (S := fun w' => w'.cell? ⟨go40, ((rd x7_1 x38_3)).toNat, none⟩ = some (.int .i64 (rd x9_3 (rd x7_1 x38_3))) ∧ w'.cell? _ = some _) (ds := [10]) #[false, false, false, false, false, false, false, false, false, false, false] (by kernel_rfl) rfl rfl ⟨hx177_0, hx178_0⟩ (fun hHeld => ?_); refine with_tabW spec_laChains.tab14 spec_laChains.bits14 (fun HT_ HW_ => ?_)
                                                      generalize w42.drew = w43 at HO_7 HO_8 HO_9 HO_30 HO_36 BK161 HB GG40 HQ45 hf40_0 hx177_0 hx178_0 hx40_0 hHeld ⊢
                                                      refine pure_ (i := 0) (N := some 64) (v := ?_) (a' := ?_) #[true, false, false, false, false, false, false, false, false, false, false] rfl rfl (any_of HT_.out (by kernel_rfl)) (fun _ _ _ h => h) (Or.inl ⟨by rfl, ?_⟩) ?_ ?_
                                                      rotate_left
                                                      · intro w'
                                                        go_simp
                                                        with_reducible rfl
                                                      rotate_left
                                                      · simp only [Act.put, List.setIfInBounds_toArray, List.set_cons_zero, List.set_cons_succ, i64_w, i32_w]
                                                        rfl
                                                      refine pure_ (i := 1) (N := some 65) (v := ?_) (a' := ?_) #[true, true, false, false, false, false, false, false, false, false, false] rfl rfl (any_of HT_.out (by kernel_rfl)) (fun _ _ _ h => h) (Or.inl ⟨by rfl, ?_⟩) ?_ ?_
                                                      rotate_left
                                                      · intro w'
                                                        go_simp
                                                        with_reducible rfl
                                                      rotate_left
                                                      · simp only [Act.put, List.setIfInBounds_toArray, List.set_cons_zero, List.set_cons_succ, i64_w, i32_w]
                                                        rfl
                                                      refine pure_ (i := 2) (N := some 66) (v := ?_) (a' := ?_) #[true, true, true, false, false, false, false, false, false, false, false] rfl rfl (any_of HT_.out (by kernel_rfl)) (fun _ _ _ h => h) (Or.inl ⟨by rfl, ?_⟩) ?_ ?_
                                                      rotate_left
                                                      · intro w'
                                                        go_simp
                                                        with_reducible rfl
                                                      rotate_left
                                                      · simp only [Act.put, List.setIfInBounds_toArray, List.set_cons_zero, List.set_cons_succ, i64_w, i32_w]
                                                        rfl
                                                      refine pure_ (i := 4) (N := some 68) (v := ?_) (a' := ?_) #[true, true, true, false, true, false, false, false, false, false, false] rfl rfl (any_of HT_.out (by kernel_rfl)) (fun _ _ _ h => h) (Or.inl ⟨by rfl, ?_⟩) ?_ ?_
                                                      rotate_left
                                                      · intro w'
                                                        go_simp
                                                        with_reducible rfl
                                                      rotate_left
                                                      · simp only [Act.put, List.setIfInBounds_toArray, List.set_cons_zero, List.set_cons_succ, i64_w, i32_w]
                                                        rfl
                                                      refine pure_ (i := 5) (N := some 69) (v := ?_) (a' := ?_) #[true, true, true, false, true, true, false, false, false, false, false] rfl rfl (any_of HT_.out (by kernel_rfl)) (fun _ _ _ h => h) (Or.inl ⟨by rfl, ?_⟩) ?_ ?_
                                                      rotate_left
                                                      · intro w'
                                                        go_simp
                                                        with_reducible rfl
                                                      rotate_left
                                                      · simp only [Act.put, List.setIfInBounds_toArray, List.set_cons_zero, List.set_cons_succ, i64_w, i32_w]
                                                        rfl
                                                      refine pure_ (i := 6) (N := some 70) (v := ?_) (a' := ?_) #[true, true, true, false, true, true, true, false, false, false, false] rfl rfl (any_of HT_.out (by kernel_rfl)) (fun _ _ _ h => h) (Or.inl ⟨by rfl, ?_⟩) ?_ ?_
                                                      rotate_left
                                                      · intro w'
                                                        go_simp
                                                        with_reducible rfl
                                                      rotate_left
                                                      · simp only [Act.put, List.setIfInBounds_toArray, List.set_cons_zero, List.set_cons_succ, i64_w, i32_w]
                                                        rfl
                                                      refine take_ (i := 3) (N := some 67) (v := ?_) (a' := ?_) #[true, true, true, true, true, true, true, false, false, false, false] rfl rfl (take_ofW HT_.out HW_.out (by kernel_rfl)) (fun _ _ _ h => h) (Or.inl ⟨by rfl, ?_⟩) hHeld ?_ ?_
                                                      rotate_left
                                                      · rintro w' ⟨s0, s1⟩
                                                        go_simp
                                                        with_reducible rfl
                                                      rotate_left
                                                      · simp only [Act.put, List.setIfInBounds_toArray, List.set_cons_zero, List.set_cons_succ, i64_w, i32_w]
                                                        rfl
                                                      refine take_ (i := 7) (N := some 71) (v := ?_) (a' := ?_) #[true, true, true, true, true, true, true, true, false, false, false] rfl rfl (take_ofW HT_.out HW_.out (by kernel_rfl)) (fun _ _ _ h => h) (Or.inl ⟨by rfl, ?_⟩) hHeld ?_ ?_
                                                      rotate_left
                                                      · rintro w' ⟨s0, s1⟩
                                                        go_simp
                                                        with_reducible rfl
                                                      rotate_left
                                                      · simp only [Act.put, List.setIfInBounds_toArray, List.set_cons_zero, List.set_cons_succ, i64_w, i32_w]
                                                        rfl
                                                      refine pure_ (i := 8) (N := some 72) (v := ?_) (a' := ?_) #[true, true, true, true, true, true, true, true, true, false, false] rfl rfl (any_of HT_.out (by kernel_rfl)) (fun _ _ _ h => h) (Or.inl ⟨by rfl, ?_⟩) ?_ ?_
                                                      rotate_left
                                                      · intro w'
                                                        go_simp
                                                        with_reducible rfl
                                                      rotate_left
                                                      · simp only [Act.put, List.setIfInBounds_toArray, List.set_cons_zero, List.set_cons_succ, i64_w, i32_w]
                                                        rfl
                                                      refine pure_ (i := 9) (N := some 73) (v := ?_) (a' := ?_) #[true, true, true, true, true, true, true, true, true, true, false] rfl rfl (any_of HT_.out (by kernel_rfl)) (fun _ _ _ h => h) (Or.inl ⟨by rfl, ?_⟩) ?_ ?_
                                                      rotate_left
                                                      · intro w'
                                                        go_simp
                                                        with_reducible rfl
                                                      rotate_left
                                                      · simp only [Act.put, List.setIfInBounds_toArray, List.set_cons_zero, List.set_cons_succ, i64_w, i32_w]
                                                        rfl
                                                      refine last_ (i := 10) (N := none) #[true, true, true, true, true, true, true, true, true, true, true] rfl rfl (one_of HT_.out (by kernel_rfl)) (by decide) (fun K hK => ?_)
                                                      refine skip_ (w1 := ?_) (by rfl) rfl ?_ ?_
                                                      rotate_left
                                                      · go_simp
                                                        rfl
                                                      refine hK.out _ _ ?_
                                                      clear hK K
                                                      refine done_ (done_of HT_.out (by kernel_rfl)) ?_
                                                      try go_wp2
                                                      go_roundg k3
                                                      case measure => have := HK1.out; have := HK2.out; have := HK3.out; omega
                                                      case rel => exact ⟨(y179), (wrap64 (x38_3 + 1)), (by first | rfl | (simp; done) | (simp [*]; done)), H', ⟨by have := HK1.out; have := HK2.out; have := HK3.out; omega⟩, ⟨by (with_reducible repeat (first | apply Kd.R_alloc | apply Kd.R_drewN | apply Kd.R_drew)); exact Kd.R_mono (Kd.R_far (p := ⟨go40, ((rd x7_1 x38_3) : Int).toNat, none⟩) (Kd.R_mono HO_7.out (fun k_ hk => (⟨hk, fun e_ => hk.2 (by rw [e_]; rfl)⟩ : _ ∧ k_ ≠ go40))) (fun _ hk => hk.2) (.int .i64 (wrap64 ((rd x9_3 (rd x7_1 x38_3)) + (rd x8_1 (rd x7_1 x32_2)))))) (fun _ hk => ⟨hk.1.1, hk.1.2⟩)⟩, ⟨by (with_reducible repeat (first | apply Kd.R_alloc | apply Kd.R_drewN | apply Kd.R_drew)); exact Kd.R_mono (Kd.R_far (p := ⟨go40, ((rd x7_1 x38_3) : Int).toNat, none⟩) (Kd.R_mono HO_8.out (fun k_ hk => (⟨hk, fun e_ => hk.2.1 (by rw [e_]; rfl)⟩ : _ ∧ k_ ≠ go40))) (fun _ hk => hk.2) (.int .i64 (wrap64 ((rd x9_3 (rd x7_1 x38_3)) + (rd x8_1 (rd x7_1 x32_2)))))) (fun _ hk => ⟨hk.1.1, ⟨hk.1.2.1, ⟨hk.1.2.2.1, hk.1.2.2.2⟩⟩⟩)⟩, ⟨by (with_reducible repeat (first | apply Kd.R_alloc | apply Kd.R_drewN | apply Kd.R_drew)); exact HQ45.out⟩, ⟨by (with_reducible repeat (first | apply Kd.R_alloc | apply Kd.R_drewN | apply Kd.R_drew)); exact Kd.R_mono (Kd.R_far (p := ⟨go40, ((rd x7_1 x38_3) : Int).toNat, none⟩) (Kd.R_mono HO_30.out (fun k_ hk => (⟨hk, fun e_ => hk.2 (by rw [e_]; rfl)⟩ : _ ∧ k_ ≠ go40))) (fun _ hk => hk.2) (.int .i64 (wrap64 ((rd x9_3 (rd x7_1 x38_3)) + (rd x8_1 (rd x7_1 x32_2)))))) (fun _ hk => ⟨hk.1.1, hk.1.2⟩)⟩, ⟨by (with_reducible repeat (first | apply Kd.R_alloc | apply Kd.R_drewN | apply Kd.R_drew)); exact Kd.R_mono (Kd.R_far (p := ⟨go40, ((rd x7_1 x38_3) : Int).toNat, none⟩) (Kd.R_mono HO_36.out (fun k_ hk => (⟨hk, fun e_ => hk.2 (by rw [e_]; rfl)⟩ : _ ∧ k_ ≠ go40))) (fun _ hk => hk.2) (.int .i64 (wrap64 ((rd x9_3 (rd x7_1 x38_3)) + (rd x8_1 (rd x7_1 x32_2)))))) (fun _ hk => ⟨hk.1.1, hk.1.2⟩)⟩, ⟨by (with_reducible repeat (first | refine blk_drewN ?_ _ | refine blk_drew ?_ | refine blk_alloc ?_ _)); refine blk_far ?_ (by have h_ := Kd.R_ne HO_9.out BK161.out (by decide); intro e_; exact h_ (by rw [e_]; rfl)) _; (with_reducible repeat (first | refine blk_drewN ?_ _ | refine blk_drew ?_ | refine blk_alloc ?_ _)); exact BK161.out⟩, ⟨by repeat (first | (with_reducible first | exact HB.out | apply below_alloc | apply pw_below_drewN | apply below_drew1 | refine below_set ?_ GB40.out | refine below_set ?_ GE161.out) | exact HB.out)⟩⟩
                                                    · rw [if_neg c39] at H
                                                      exact absurd H (by simp)
                                                  · rw [if_neg c38] at H
                                                    exact absurd H (by simp)
                                                · replace c37 := Bool.eq_false_iff.mpr c37
                                                  subst c37
                                                  have H1 : (spec_laChains.l2 k3 x1_1 true x7_1 x8_1 x9_3 (rd x7_1 x32_2) x7_1 (x7_1.length : Int) x32_2 x7_1 (x7_1.length : Int) (wrap64 (x38_3 + 1)) l0_0) = some r := by rw [if_neg (show ¬ (false = true) by decide)] at H; exact H
                                                  clear H
                                                  have H := H1
                                                  clear H1
                                                  have H' := Aside0.mk H
                                                  clear H
                                                  have p174 : 0 ≤ (x38_3 : Int) := of_decide_eq_true (by first | (with_reducible assumption) | assumption)
                                                  have q174 : x38_3 < (x7_1.length : Int) := of_decide_eq_true (by first | (with_reducible assumption) | assumption)
                                                  obtain ⟨ad174, e174, hx174_0⟩ := Kd.at_int (Kd.R_reads' HO_36.out).2.2 x38_3 p174 q174
                                                  obtain rfl : ad173 = ad174 := (by injection e174)
                                                  replace p174 := eq_true p174
                                                  replace q174 := eq_true q174
                                                  have p175 : 0 ≤ ((rd x7_1 x32_2) : Int) := of_decide_eq_true (by first | (with_reducible assumption) | assumption)
                                                  have q175 : (rd x7_1 x32_2) < (x8_1.length : Int) := of_decide_eq_true (by first | (with_reducible assumption) | assumption)
                                                  obtain ⟨ad175, e175, hx175_0⟩ := Kd.at_int (Kd.R_reads' HO_8.out).2.2 (rd x7_1 x32_2) p175 q175
                                                  cases e175
                                                  replace p175 := eq_true p175
                                                  replace q175 := eq_true q175
                                                  have hcz46_0 : wr.cell? ⟨gb161, 0, none⟩ = some (.slice A0_0 l0_0.length c0_0) := (blk_cell BK161.out 0).trans rfl
                                                  have hfz46_0 := blk_frozen BK161.out 0
                                                  go_wp2_with (first | (go_at_call 69; (with_reducible refine (spec_laFree.calls k3 _ _ l0_0 (Go.bits .andNot .i64 (rd x7_1 x38_3) (rd x7_1 x32_2)) false _ ?side1 ?side2 A36.out).mono ?_); (case side1 => repeat (first | exact (Kd.C_below HR0_0.out HB.out) | (with_reducible refine Kd.C_alloc ?_ _) | (with_reducible refine Kd.C_drewN ?_ _) | (with_reducible refine Kd.C_drew ?_))); (case side2 => exact HC0_0.out); rintro e w47 ⟨rfl, hb⟩; have n0_ := Aside0.mk (Kd.R_below (by (with_reducible repeat (first | apply Kd.R_alloc | apply Kd.R_drewN | apply Kd.R_drew)); exact HO_7.out) hb); have n1_ := Aside0.mk (Kd.R_below (by (with_reducible repeat (first | apply Kd.R_alloc | apply Kd.R_drewN | apply Kd.R_drew)); exact HO_8.out) hb); have n2_ := Aside0.mk (Kd.R_below (by (with_reducible repeat (first | apply Kd.R_alloc | apply Kd.R_drewN | apply Kd.R_drew)); exact HO_9.out) hb); have n3_ := Aside0.mk (Kd.R_below (by (with_reducible repeat (first | apply Kd.R_alloc | apply Kd.R_drewN | apply Kd.R_drew)); exact HO_30.out) hb); have n4_ := Aside0.mk (Kd.R_below (by (with_reducible repeat (first | apply Kd.R_alloc | apply Kd.R_drewN | apply Kd.R_drew)); exact HO_36.out) hb); have n5_ := Aside0.mk (blk_below (g := gb161) (o := .cells #[.slice A0_0 l0_0.length c0_0] 30 (0, 0)) (by (with_reducible repeat (first | refine blk_drewN ?_ _ | refine blk_drew ?_ | refine blk_alloc ?_ _)); exact BK161.out) hb); have n6_ := Aside0.mk (below_step (by repeat (first | (with_reducible first | exact HB.out | apply below_alloc | apply pw_below_drewN | apply below_drew1 | refine below_set ?_ GE161.out) | exact HB.out)) hb); clear HO_7; clear HO_8; clear HO_9; clear HO_30; clear HO_36; clear BK161; clear HB; have HO_7 := n0_; have HO_8 := n1_; have HO_9 := n2_; have HO_30 := n3_; have HO_36 := n4_; have BK161 := n5_; have HB := n6_; clear n0_ n1_ n2_ n3_ n4_ n5_ n6_; (try clear hb); (try clear hb2); (try clear hk); (try clear hi)))
                                                  go_roundg k3
                                                  case measure => have := HK1.out; have := HK2.out; have := HK3.out; omega
                                                  case rel => exact ⟨(x9_3), (wrap64 (x38_3 + 1)), (by first | rfl | (simp; done) | (simp [*]; done)), H', ⟨by have := HK1.out; have := HK2.out; have := HK3.out; omega⟩, ⟨by (with_reducible repeat (first | apply Kd.R_alloc | apply Kd.R_drewN | apply Kd.R_drew)); exact HO_7.out⟩, ⟨by (with_reducible repeat (first | apply Kd.R_alloc | apply Kd.R_drewN | apply Kd.R_drew)); exact HO_8.out⟩, ⟨by (with_reducible repeat (first | apply Kd.R_alloc | apply Kd.R_drewN | apply Kd.R_drew)); exact HO_9.out⟩, ⟨by (with_reducible repeat (first | apply Kd.R_alloc | apply Kd.R_drewN | apply Kd.R_drew)); exact HO_30.out⟩, ⟨by (with_reducible repeat (first | apply Kd.R_alloc | apply Kd.R_drewN | apply Kd.R_drew)); exact HO_36.out⟩, ⟨by (with_reducible repeat (first | refine blk_drewN ?_ _ | refine blk_drew ?_ | refine blk_alloc ?_ _)); exact BK161.out⟩, ⟨by repeat (first | (with_reducible first | exact HB.out | apply below_alloc | apply pw_below_drewN | apply below_drew1 | refine below_set ?_ GE161.out) | exact HB.out)⟩⟩
                                              · replace c35 := Bool.eq_false_iff.mpr c35
                                                subst c35
                                                have H1 : (if 0 ≤ (rd x7_1 x38_3) then (if (rd x7_1 x38_3) < (x9_3.length : Int) then (spec_laChains.l2 k3 x1_1 false x7_1 x8_1 (x9_3.set ((rd x7_1 x38_3) : Int).toNat (wrap64 ((rd x9_3 (rd x7_1 x38_3)) + (rd x8_1 (rd x7_1 x32_2))))) (rd x7_1 x32_2) x7_1 (x7_1.length : Int) x32_2 x7_1 (x7_1.length : Int) (wrap64 (x38_3 + 1)) l0_0) else (none)) else (none)) = some r := by rw [if_neg (show ¬ (false = true) by decide)] at H; exact H
                                                clear H
                                                have H := H1
                                                clear H1
                                                by_cases c48 : 0 ≤ (rd x7_1 x38_3)
                                                · rw [if_pos c48] at H
                                                  have c48b0 : decide (0 ≤ (rd x7_1 x38_3)) = true := decide_eq_true c48
                                                  clear c48
                                                  by_cases c49 : (rd x7_1 x38_3) < (x9_3.length : Int)
                                                  · rw [if_pos c49] at H
                                                    have c49b0 : decide ((rd x7_1 x38_3) < (x9_3.length : Int)) = true := decide_eq_true c49
                                                    clear c49
                                                    obtain ⟨y182, hy182⟩ : ∃ y_ : List Int, y_ = (x9_3.set ((rd x7_1 x38_3) : Int).toNat (wrap64 ((rd x9_3 (rd x7_1 x38_3)) + (rd x8_1 (rd x7_1 x32_2))))) := ⟨_, rfl⟩
                                                    replace H : (spec_laChains.l2 k3 x1_1 false x7_1 x8_1 y182 (rd x7_1 x32_2) x7_1 (x7_1.length : Int) x32_2 x7_1 (x7_1.length : Int) (wrap64 (x38_3 + 1)) l0_0) = some r := by first | (rw [hy182]; with_reducible exact H) | (have H2_ := (Option.bind_some _ _).symm.trans H; rw [hy182]; with_reducible exact H2_) | (have H2_ := (Option.bind_some _ _).symm.trans H; with_reducible exact H2_) | with_reducible exact H | (rw [hy182]; exact H) | exact H
                                                    have Ny182 := Aside0.mk hy182
                                                    clear hy182
                                                    have H' := Aside0.mk H
                                                    clear H
                                                    have p174 : 0 ≤ (x38_3 : Int) := of_decide_eq_true (by first | (with_reducible assumption) | assumption)
                                                    have q174 : x38_3 < (x7_1.length : Int) := of_decide_eq_true (by first | (with_reducible assumption) | assumption)
                                                    obtain ⟨ad174, e174, hx174_0⟩ := Kd.at_int (Kd.R_reads' HO_36.out).2.2 x38_3 p174 q174
                                                    obtain rfl : ad173 = ad174 := (by injection e174)
                                                    replace p174 := eq_true p174
                                                    replace q174 := eq_true q174
                                                    have p175 : 0 ≤ ((rd x7_1 x32_2) : Int) := of_decide_eq_true (by first | (with_reducible assumption) | assumption)
                                                    have q175 : (rd x7_1 x32_2) < (x8_1.length : Int) := of_decide_eq_true (by first | (with_reducible assumption) | assumption)
                                                    obtain ⟨ad175, e175, hx175_0⟩ := Kd.at_int (Kd.R_reads' HO_8.out).2.2 (rd x7_1 x32_2) p175 q175
                                                    cases e175
                                                    replace p175 := eq_true p175
                                                    replace q175 := eq_true q175
                                                    try go_wp2
                                                    have n0_ := Aside0.mk (Kd.R_drew HO_7.out)
                                                    have n1_ := Aside0.mk (Kd.R_drew HO_8.out)
                                                    have n2_ := Aside0.mk (Kd.R_drew HO_9.out)
                                                    have n3_ := Aside0.mk (Kd.R_drew HO_30.out)
                                                    have n4_ := Aside0.mk (Kd.R_drew HO_36.out)
                                                    have n5_ := Aside0.mk (blk_drew BK161.out)
                                                    have n6_ := Aside0.mk (below_drew1 HB.out)
                                                    clear HO_7
                                                    clear HO_8
                                                    clear HO_9
                                                    clear HO_30
                                                    clear HO_36
                                                    clear BK161
                                                    clear HB
                                                    have HO_7 := n0_
                                                    have HO_8 := n1_
                                                    have HO_9 := n2_
                                                    have HO_30 := n3_
                                                    have HO_36 := n4_
                                                    have BK161 := n5_
                                                    have HB := n6_
                                                    clear n0_ n1_ n2_ n3_ n4_ n5_ n6_
                                                    obtain ⟨Ao52, co52, eo52⟩ := Kd.R_slice HO_9.out
                                                    (first | subst eo52 | (injection eo52 with f1_ f2_ f3_; have f4_ := f1_.symm; have f5_ := f3_.symm; clear f1_ f2_ f3_; subst f4_; subst f5_))
                                                    have p180 : 0 ≤ ((rd x7_1 x38_3) : Int) := of_decide_eq_true (by first | (with_reducible assumption) | assumption)
                                                    have q180 : (rd x7_1 x38_3) < (x9_3.length : Int) := of_decide_eq_true (by first | (with_reducible assumption) | assumption)
                                                    obtain ⟨ad180, e180, hx180_0⟩ := Kd.at_int (Kd.R_reads' HO_9.out).2.2 (rd x7_1 x38_3) p180 q180
                                                    cases e180
                                                    replace p180 := eq_true p180
                                                    replace q180 := eq_true q180
                                                    have p181 : 0 ≤ ((rd x7_1 x32_2) : Int) := of_decide_eq_true (by first | (with_reducible assumption) | assumption)
                                                    have q181 : (rd x7_1 x32_2) < (x8_1.length : Int) := of_decide_eq_true (by first | (with_reducible assumption) | assumption)
                                                    obtain ⟨ad181, e181, hx181_0⟩ := Kd.at_int (Kd.R_reads' HO_8.out).2.2 (rd x7_1 x32_2) p181 q181
                                                    obtain rfl : ad175 = ad181 := (by injection e181)
                                                    replace p181 := eq_true p181
                                                    replace q181 := eq_true q181
                                                    have p50 : 0 ≤ ((rd x7_1 x38_3) : Int) := of_decide_eq_true (by first | (with_reducible assumption) | assumption)
                                                    have q50 : ((rd x7_1 x38_3) : Int) < ((x9_3.length : Int) : Int) := of_decide_eq_true (by first | (with_reducible assumption) | assumption)
                                                    obtain ⟨go50, co50, eo50, gb50, gl50, cl50, HG50⟩ := Kd.R_form HO_9.out (by omega)
                                                    (first | cases eo50 | (injection eo50 with ea_ en_ ec_; (first | subst ea_ | (injection ea_ with ea_; subst ea_)); subst ec_; clear en_))
                                                    have GB50 := Aside0.mk gb50
                                                    have GG50 := Aside0.mk HG50
                                                    clear gb50 gl50 HG50
                                                    (first | simp only [add_plain] at hx180_0 | skip)
                                                    obtain ⟨hx50_0, hf50_0⟩ := Kd.R_celln 0 HO_9.out ((rd x7_1 x38_3) : Int) p50 q50
                                                    replace p50 := eq_true p50
                                                    replace q50 := eq_true q50
                                                    have HP53 := Kd.R_putn HO_9.out ((rd x7_1 x38_3) : Int) (wrap64 ((rd x9_3 (rd x7_1 x38_3)) + (rd x8_1 (rd x7_1 x32_2))))
                                                    rw [← Ny182.out] at HP53
                                                    have HQ53 := Aside0.mk HP53
                                                    clear HP53
                                                    refine start_ (n := 11) (S := fun w' => w'.cell? ⟨go50, ((rd x7_1 x38_3)).toNat, none⟩ = some (.int .i64 (rd x9_3 (rd x7_1 x38_3))) ∧ w'.cell? _ = some _) (ds := [10]) #[false, false, false, false, false, false, false, false, false, false, false] (by kernel_rfl) rfl rfl ⟨hx180_0, hx181_0⟩ (fun hHeld => ?_); refine with_tabW spec_laChains.tab14 spec_laChains.bits14 (fun HT_ HW_ => ?_)
                                                    generalize wr.drew = w51 at HO_7 HO_8 HO_9 HO_30 HO_36 BK161 HB GG50 HQ53 hf50_0 hx180_0 hx181_0 hx50_0 hHeld ⊢
                                                    refine pure_ (i := 0) (N := some 64) (v := ?_) (a' := ?_) #[true, false, false, false, false, false, false, false, false, false, false] rfl rfl (any_of HT_.out (by kernel_rfl)) (fun _ _ _ h => h) (Or.inl ⟨by rfl, ?_⟩) ?_ ?_
                                                    rotate_left
                                                    · intro w'
                                                      go_simp
                                                      with_reducible rfl
                                                    rotate_left
                                                    · simp only [Act.put, List.setIfInBounds_toArray, List.set_cons_zero, List.set_cons_succ, i64_w, i32_w]
                                                      rfl
                                                    refine pure_ (i := 1) (N := some 65) (v := ?_) (a' := ?_) #[true, true, false, false, false, false, false, false, false, false, false] rfl rfl (any_of HT_.out (by kernel_rfl)) (fun _ _ _ h => h) (Or.inl ⟨by rfl, ?_⟩) ?_ ?_
                                                    rotate_left
                                                    · intro w'
                                                      go_simp
                                                      with_reducible rfl
                                                    rotate_left
                                                    · simp only [Act.put, List.setIfInBounds_toArray, List.set_cons_zero, List.set_cons_succ, i64_w, i32_w]
                                                      rfl
                                                    refine pure_ (i := 2) (N := some 66) (v := ?_) (a' := ?_) #[true, true, true, false, false, false, false, false, false, false, false] rfl rfl (any_of HT_.out (by kernel_rfl)) (fun _ _ _ h => h) (Or.inl ⟨by rfl, ?_⟩) ?_ ?_
                                                    rotate_left
                                                    · intro w'
                                                      go_simp
                                                      with_reducible rfl
                                                    rotate_left
                                                    · simp only [Act.put, List.setIfInBounds_toArray, List.set_cons_zero, List.set_cons_succ, i64_w, i32_w]
                                                      rfl
                                                    refine pure_ (i := 4) (N := some 68) (v := ?_) (a' := ?_) #[true, true, true, false, true, false, false, false, false, false, false] rfl rfl (any_of HT_.out (by kernel_rfl)) (fun _ _ _ h => h) (Or.inl ⟨by rfl, ?_⟩) ?_ ?_
                                                    rotate_left
                                                    · intro w'
                                                      go_simp
                                                      with_reducible rfl
                                                    rotate_left
                                                    · simp only [Act.put, List.setIfInBounds_toArray, List.set_cons_zero, List.set_cons_succ, i64_w, i32_w]
                                                      rfl
                                                    refine pure_ (i := 5) (N := some 69) (v := ?_) (a' := ?_) #[true, true, true, false, true, true, false, false, false, false, false] rfl rfl (any_of HT_.out (by kernel_rfl)) (fun _ _ _ h => h) (Or.inl ⟨by rfl, ?_⟩) ?_ ?_
                                                    rotate_left
                                                    · intro w'
                                                      go_simp
                                                      with_reducible rfl
                                                    rotate_left
                                                    · simp only [Act.put, List.setIfInBounds_toArray, List.set_cons_zero, List.set_cons_succ, i64_w, i32_w]
                                                      rfl
                                                    refine pure_ (i := 6) (N := some 70) (v := ?_) (a' := ?_) #[true, true, true, false, true, true, true, false, false, false, false] rfl rfl (any_of HT_.out (by kernel_rfl)) (fun _ _ _ h => h) (Or.inl ⟨by rfl, ?_⟩) ?_ ?_
                                                    rotate_left
                                                    · intro w'
                                                      go_simp
                                                      with_reducible rfl
                                                    rotate_left
                                                    · simp only [Act.put, List.setIfInBounds_toArray, List.set_cons_zero, List.set_cons_succ, i64_w, i32_w]
                                                      rfl
                                                    refine take_ (i := 3) (N := some 67) (v := ?_) (a' := ?_) #[true, true, true, true, true, true, true, false, false, false, false] rfl rfl (take_ofW HT_.out HW_.out (by kernel_rfl)) (fun _ _ _ h => h) (Or.inl ⟨by rfl, ?_⟩) hHeld ?_ ?_
                                                    rotate_left
                                                    · rintro w' ⟨s0, s1⟩
                                                      go_simp
                                                      with_reducible rfl
                                                    rotate_left
                                                    · simp only [Act.put, List.setIfInBounds_toArray, List.set_cons_zero, List.set_cons_succ, i64_w, i32_w]
                                                      rfl
                                                    refine take_ (i := 7) (N := some 71) (v := ?_) (a' := ?_) #[true, true, true, true, true, true, true, true, false, false, false] rfl rfl (take_ofW HT_.out HW_.out (by kernel_rfl)) (fun _ _ _ h => h) (Or.inl ⟨by rfl, ?_⟩) hHeld ?_ ?_
                                                    rotate_left
                                                    · rintro w' ⟨s0, s1⟩
                                                      go_simp
                                                      with_reducible rfl
                                                    rotate_left
                                                    · simp only [Act.put, List.setIfInBounds_toArray, List.set_cons_zero, List.set_cons_succ, i64_w, i32_w]
                                                      rfl
                                                    refine pure_ (i := 8) (N := some 72) (v := ?_) (a' := ?_) #[true, true, true, true, true, true, true, true, true, false, false] rfl rfl (any_of HT_.out (by kernel_rfl)) (fun _ _ _ h => h) (Or.inl ⟨by rfl, ?_⟩) ?_ ?_
                                                    rotate_left
                                                    · intro w'
                                                      go_simp
                                                      with_reducible rfl
                                                    rotate_left
                                                    · simp only [Act.put, List.setIfInBounds_toArray, List.set_cons_zero, List.set_cons_succ, i64_w, i32_w]
                                                      rfl
                                                    refine pure_ (i := 9) (N := some 73) (v := ?_) (a' := ?_) #[true, true, true, true, true, true, true, true, true, true, false] rfl rfl (any_of HT_.out (by kernel_rfl)) (fun _ _ _ h => h) (Or.inl ⟨by rfl, ?_⟩) ?_ ?_
                                                    rotate_left
                                                    · intro w'
                                                      go_simp
                                                      with_reducible rfl
                                                    rotate_left
                                                    · simp only [Act.put, List.setIfInBounds_toArray, List.set_cons_zero, List.set_cons_succ, i64_w, i32_w]
                                                      rfl
                                                    refine last_ (i := 10) (N := none) #[true, true, true, true, true, true, true, true, true, true, true] rfl rfl (one_of HT_.out (by kernel_rfl)) (by decide) (fun K hK => ?_)
                                                    refine skip_ (w1 := ?_) (by rfl) rfl ?_ ?_
                                                    rotate_left
                                                    · go_simp
                                                      rfl
                                                    refine hK.out _ _ ?_
                                                    clear hK K
                                                    refine done_ (done_of HT_.out (by kernel_rfl)) ?_
                                                    try go_wp2
                                                    go_roundg k3
                                                    case measure => have := HK1.out; have := HK2.out; have := HK3.out; omega
                                                    case rel => exact ⟨(y182), (wrap64 (x38_3 + 1)), (by first | rfl | (simp; done) | (simp [*]; done)), H', ⟨by have := HK1.out; have := HK2.out; have := HK3.out; omega⟩, ⟨by (with_reducible repeat (first | apply Kd.R_alloc | apply Kd.R_drewN | apply Kd.R_drew)); exact Kd.R_mono (Kd.R_far (p := ⟨go50, ((rd x7_1 x38_3) : Int).toNat, none⟩) (Kd.R_mono HO_7.out (fun k_ hk => (⟨hk, fun e_ => hk.2 (by rw [e_]; rfl)⟩ : _ ∧ k_ ≠ go50))) (fun _ hk => hk.2) (.int .i64 (wrap64 ((rd x9_3 (rd x7_1 x38_3)) + (rd x8_1 (rd x7_1 x32_2)))))) (fun _ hk => ⟨hk.1.1, hk.1.2⟩)⟩, ⟨by (with_reducible repeat (first | apply Kd.R_alloc | apply Kd.R_drewN | apply Kd.R_drew)); exact Kd.R_mono (Kd.R_far (p := ⟨go50, ((rd x7_1 x38_3) : Int).toNat, none⟩) (Kd.R_mono HO_8.out (fun k_ hk => (⟨hk, fun e_ => hk.2.1 (by rw [e_]; rfl)⟩ : _ ∧ k_ ≠ go50))) (fun _ hk => hk.2) (.int .i64 (wrap64 ((rd x9_3 (rd x7_1 x38_3)) + (rd x8_1 (rd x7_1 x32_2)))))) (fun _ hk => ⟨hk.1.1, ⟨hk.1.2.1, ⟨hk.1.2.2.1, hk.1.2.2.2⟩⟩⟩)⟩, ⟨by (with_reducible repeat (first | apply Kd.R_alloc | apply Kd.R_drewN | apply Kd.R_drew)); exact HQ53.out⟩, ⟨by (with_reducible repeat (first | apply Kd.R_alloc | apply Kd.R_drewN | apply Kd.R_drew)); exact Kd.R_mono (Kd.R_far (p := ⟨go50, ((rd x7_1 x38_3) : Int).toNat, none⟩) (Kd.R_mono HO_30.out (fun k_ hk => (⟨hk, fun e_ => hk.2 (by rw [e_]; rfl)⟩ : _ ∧ k_ ≠ go50))) (fun _ hk => hk.2) (.int .i64 (wrap64 ((rd x9_3 (rd x7_1 x38_3)) + (rd x8_1 (rd x7_1 x32_2)))))) (fun _ hk => ⟨hk.1.1, hk.1.2⟩)⟩, ⟨by (with_reducible repeat (first | apply Kd.R_alloc | apply Kd.R_drewN | apply Kd.R_drew)); exact Kd.R_mono (Kd.R_far (p := ⟨go50, ((rd x7_1 x38_3) : Int).toNat, none⟩) (Kd.R_mono HO_36.out (fun k_ hk => (⟨hk, fun e_ => hk.2 (by rw [e_]; rfl)⟩ : _ ∧ k_ ≠ go50))) (fun _ hk => hk.2) (.int .i64 (wrap64 ((rd x9_3 (rd x7_1 x38_3)) + (rd x8_1 (rd x7_1 x32_2)))))) (fun _ hk => ⟨hk.1.1, hk.1.2⟩)⟩, ⟨by (with_reducible repeat (first | refine blk_drewN ?_ _ | refine blk_drew ?_ | refine blk_alloc ?_ _)); refine blk_far ?_ (by have h_ := Kd.R_ne HO_9.out BK161.out (by decide); intro e_; exact h_ (by rw [e_]; rfl)) _; (with_reducible repeat (first | refine blk_drewN ?_ _ | refine blk_drew ?_ | refine blk_alloc ?_ _)); exact BK161.out⟩, ⟨by repeat (first | (with_reducible first | exact HB.out | apply below_alloc | apply pw_below_drewN | apply below_drew1 | refine below_set ?_ GB50.out | refine below_set ?_ GE161.out) | exact HB.out)⟩⟩
                                                  · rw [if_neg c49] at H
                                                    exact absurd H (by simp)
                                                · rw [if_neg c48] at H
                                                  exact absurd H (by simp)
                                            · rw [if_neg c34] at H
                                              have c34b0 : ((Go.bits .andNot .i64 (rd x7_1 x32_2) (rd x7_1 x38_3)) == 0) = false := beq_eq_false_iff_ne.mpr c34
                                              have c34b1 : ((Go.bits .andNot .i64 (rd x7_1 x32_2) (rd x7_1 x38_3)) != 0) = true := bne_iff_ne.mpr c34
                                              have H' := Aside0.mk H
                                              clear H
                                              have p174 : 0 ≤ (x38_3 : Int) := of_decide_eq_true (by first | (with_reducible assumption) | assumption)
                                              have q174 : x38_3 < (x7_1.length : Int) := of_decide_eq_true (by first | (with_reducible assumption) | assumption)
                                              obtain ⟨ad174, e174, hx174_0⟩ := Kd.at_int (Kd.R_reads' HO_36.out).2.2 x38_3 p174 q174
                                              obtain rfl : ad173 = ad174 := (by injection e174)
                                              replace p174 := eq_true p174
                                              replace q174 := eq_true q174
                                              have p175 : 0 ≤ ((rd x7_1 x32_2) : Int) := of_decide_eq_true (by first | (with_reducible assumption) | assumption)
                                              have q175 : (rd x7_1 x32_2) < (x8_1.length : Int) := of_decide_eq_true (by first | (with_reducible assumption) | assumption)
                                              obtain ⟨ad175, e175, hx175_0⟩ := Kd.at_int (Kd.R_reads' HO_8.out).2.2 (rd x7_1 x32_2) p175 q175
                                              cases e175
                                              replace p175 := eq_true p175
                                              replace q175 := eq_true q175
                                              go_wp2
                                              go_roundg k3
                                              case measure => have := HK1.out; have := HK2.out; have := HK3.out; omega
                                              case rel => exact ⟨(x9_3), (wrap64 (x38_3 + 1)), (by first | rfl | (simp; done) | (simp [*]; done)), H', ⟨by have := HK1.out; have := HK2.out; have := HK3.out; omega⟩, ⟨by (with_reducible repeat (first | apply Kd.R_alloc | apply Kd.R_drewN | apply Kd.R_drew)); exact HO_7.out⟩, ⟨by (with_reducible repeat (first | apply Kd.R_alloc | apply Kd.R_drewN | apply Kd.R_drew)); exact HO_8.out⟩, ⟨by (with_reducible repeat (first | apply Kd.R_alloc | apply Kd.R_drewN | apply Kd.R_drew)); exact HO_9.out⟩, ⟨by (with_reducible repeat (first | apply Kd.R_alloc | apply Kd.R_drewN | apply Kd.R_drew)); exact HO_30.out⟩, ⟨by (with_reducible repeat (first | apply Kd.R_alloc | apply Kd.R_drewN | apply Kd.R_drew)); exact HO_36.out⟩, ⟨by (with_reducible repeat (first | refine blk_drewN ?_ _ | refine blk_drew ?_ | refine blk_alloc ?_ _)); exact BK161.out⟩, ⟨by repeat (first | (with_reducible first | exact HB.out | apply below_alloc | apply pw_below_drewN | apply below_drew1 | refine below_set ?_ GE161.out) | exact HB.out)⟩⟩
                                          · rw [if_neg c33] at H
                                            have c33b0 : decide (0 < (rd x8_1 (rd x7_1 x32_2))) = false := decide_eq_false c33
                                            clear c33
                                            have H' := Aside0.mk H
                                            clear H
                                            have p174 : 0 ≤ (x38_3 : Int) := of_decide_eq_true (by first | (with_reducible assumption) | assumption)
                                            have q174 : x38_3 < (x7_1.length : Int) := of_decide_eq_true (by first | (with_reducible assumption) | assumption)
                                            obtain ⟨ad174, e174, hx174_0⟩ := Kd.at_int (Kd.R_reads' HO_36.out).2.2 x38_3 p174 q174
                                            obtain rfl : ad173 = ad174 := (by injection e174)
                                            replace p174 := eq_true p174
                                            replace q174 := eq_true q174
                                            have p175 : 0 ≤ ((rd x7_1 x32_2) : Int) := of_decide_eq_true (by first | (with_reducible assumption) | assumption)
                                            have q175 : (rd x7_1 x32_2) < (x8_1.length : Int) := of_decide_eq_true (by first | (with_reducible assumption) | assumption)
                                            obtain ⟨ad175, e175, hx175_0⟩ := Kd.at_int (Kd.R_reads' HO_8.out).2.2 (rd x7_1 x32_2) p175 q175
                                            cases e175
                                            replace p175 := eq_true p175
                                            replace q175 := eq_true q175
                                            go_wp2
                                            go_roundg k3
                                            case measure => have := HK1.out; have := HK2.out; have := HK3.out; omega
                                            case rel => exact ⟨(x9_3), (wrap64 (x38_3 + 1)), (by first | rfl | (simp; done) | (simp [*]; done)), H', ⟨by have := HK1.out; have := HK2.out; have := HK3.out; omega⟩, ⟨by (with_reducible repeat (first | apply Kd.R_alloc | apply Kd.R_drewN | apply Kd.R_drew)); exact HO_7.out⟩, ⟨by (with_reducible repeat (first | apply Kd.R_alloc | apply Kd.R_drewN | apply Kd.R_drew)); exact HO_8.out⟩, ⟨by (with_reducible repeat (first | apply Kd.R_alloc | apply Kd.R_drewN | apply Kd.R_drew)); exact HO_9.out⟩, ⟨by (with_reducible repeat (first | apply Kd.R_alloc | apply Kd.R_drewN | apply Kd.R_drew)); exact HO_30.out⟩, ⟨by (with_reducible repeat (first | apply Kd.R_alloc | apply Kd.R_drewN | apply Kd.R_drew)); exact HO_36.out⟩, ⟨by (with_reducible repeat (first | refine blk_drewN ?_ _ | refine blk_drew ?_ | refine blk_alloc ?_ _)); exact BK161.out⟩, ⟨by repeat (first | (with_reducible first | exact HB.out | apply below_alloc | apply pw_below_drewN | apply below_drew1 | refine below_set ?_ GE161.out) | exact HB.out)⟩⟩
                                        · rw [if_neg c32] at H
                                          exact absurd H (by simp)
                                      · rw [if_neg c31] at H
                                        exact absurd H (by simp)
                                    · rw [if_neg c30] at H
                                      exact absurd H (by simp)
                                  · rw [if_neg c29] at H
                                    exact absurd H (by simp)
                                · rw [if_neg c28] at H
                                  have c28b0 : decide (x38_3 < (x7_1.length : Int)) = false := decide_eq_false c28
                                  clear c28
                                  have H' := Aside0.mk H
                                  clear H
                                  go_wp2
                                  go_roundg k3
                                  case measure => have := HK1.out; have := HK2.out; have := HK3.out; omega
                                  case rel => exact ⟨(x9_3), (wrap64 (x32_2 + 1)), (by first | rfl | (simp; done) | (simp [*]; done)), H', ⟨by have := HK1.out; have := HK2.out; have := HK3.out; omega⟩, ⟨by (with_reducible repeat (first | apply Kd.R_alloc | apply Kd.R_drewN | apply Kd.R_drew)); exact HO_7.out⟩, ⟨by (with_reducible repeat (first | apply Kd.R_alloc | apply Kd.R_drewN | apply Kd.R_drew)); exact Kd.R_mono HO_8.out (fun _ hk => ⟨hk.1, ⟨hk.2.1, hk.2.2.1⟩⟩)⟩, ⟨by (with_reducible repeat (first | apply Kd.R_alloc | apply Kd.R_drewN | apply Kd.R_drew)); exact Kd.R_mono HO_9.out (fun _ hk => ⟨hk.1, ⟨hk.2.1, hk.2.2.1⟩⟩)⟩, ⟨by (with_reducible repeat (first | apply Kd.R_alloc | apply Kd.R_drewN | apply Kd.R_drew)); exact HO_30.out⟩, ⟨by (with_reducible repeat (first | refine blk_drewN ?_ _ | refine blk_drew ?_ | refine blk_alloc ?_ _)); exact BK161.out⟩, ⟨by repeat (first | (with_reducible first | exact HB.out | apply below_alloc | apply pw_below_drewN | apply below_drew1 | refine below_set ?_ GE161.out) | exact HB.out)⟩⟩
                          · rw [if_neg c27] at H
                            exact absurd H (by simp)
                        · rw [if_neg c26] at H
                          exact absurd H (by simp)
                      · rw [if_neg c25] at H
                        have c25b0 : decide (x32_2 < (x7_1.length : Int)) = false := decide_eq_false c25
                        clear c25
                        have H' := Aside0.mk H
                        clear H
                        go_wp2
                        go_roundg k2
                        case measure => have := HK1.out; have := HK2.out; omega
                        case rel => exact ⟨(wrap64 (x1_1 - 1)), (x7_1), (x9_2), (by first | rfl | (simp; done) | (simp [*]; done)), H', ⟨by have := HK1.out; have := HK2.out; omega⟩, ⟨by (with_reducible repeat (first | apply Kd.R_alloc | apply Kd.R_drewN | apply Kd.R_drew)); exact Kd.R_mono HO_7.out (fun _ hk => hk.2)⟩, ⟨by (with_reducible repeat (first | apply Kd.R_alloc | apply Kd.R_drewN | apply Kd.R_drew)); exact Kd.R_mono HO_9.out (fun _ hk => hk.1)⟩, ⟨by (with_reducible repeat (first | refine blk_drewN ?_ _ | refine blk_drew ?_ | refine blk_alloc ?_ _)); exact BK161.out⟩, ⟨by repeat (first | (with_reducible first | exact HB.out | apply below_alloc | apply pw_below_drewN | apply below_drew1 | refine below_set ?_ GE161.out) | exact HB.out)⟩⟩
                · rw [if_neg c20] at H
                  exact absurd H (by simp)
              · rw [if_neg c19] at H
                exact absurd H (by simp)
            · rw [if_neg c18] at H
              have c18b0 : decide (0 < x1_1) = false := decide_eq_false c18
              clear c18
              obtain ⟨ji54, hji54⟩ : ∃ j_ : Int, (wrap64 ((x8_1.length : Int) - 1)) = j_ := ⟨_, rfl⟩
              replace H : (if 0 ≤ (ji54) then (if (ji54) < (x8_1.length : Int) then (some (rd x8_1 (ji54))) else (none)) else (none)) = some r := by first | (rw [hji54] at H; exact H) | (simp only [hji54] at H ⊢; exact H)
              have hji54w : (IntKind.i64.wrap ((x8_1.length : Int) - 1)) = ji54 := (i64_w _).trans hji54
              by_cases c55 : 0 ≤ (ji54)
              · rw [if_pos c55] at H
                have c55b0 : decide (0 ≤ (ji54)) = true := decide_eq_true c55
                clear c55
                by_cases c56 : (ji54) < (x8_1.length : Int)
                · rw [if_pos c56] at H
                  have c56b0 : decide ((ji54) < (x8_1.length : Int)) = true := decide_eq_true c56
                  clear c56
                  obtain rfl := Option.some.inj H
                  obtain ⟨Ao57, co57, eo57⟩ := Kd.R_slice HO_8.out
                  subst eo57
                  have p169 : 0 ≤ ((ji54) : Int) := of_decide_eq_true (by first | (with_reducible assumption) | assumption)
                  have q169 : (ji54) < (x8_1.length : Int) := of_decide_eq_true (by first | (with_reducible assumption) | assumption)
                  obtain ⟨ad169, e169, hx169_0⟩ := Kd.at_int (Kd.R_reads' HO_8.out).2.2 (ji54) p169 q169
                  cases e169
                  replace p169 := eq_true p169
                  replace q169 := eq_true q169
                  go_wp2
                  go_ret
                  exact ⟨by first | rfl | (simp [errW_none, errW_some] <;> rfl) | (simp only [← hji5, ← hji54]; first | rfl | (simp [errW_none, errW_some] <;> rfl)) | (simp [*, errW_none, errW_some] <;> rfl), by repeat (first | (with_reducible first | exact HB.out | apply below_alloc | apply pw_below_drewN | apply below_drew1 | refine below_set ?_ GE161.out) | exact HB.out)⟩
                · rw [if_neg c56] at H
                  exact absurd H (by simp)
              · rw [if_neg c55] at H
                exact absurd H (by simp)
      · rw [if_neg c8] at H
        exact absurd H (by simp)
    · rw [if_neg c7] at H
      exact absurd H (by simp)
  · rw [if_neg c6] at H
    exact absurd H (by simp)

end Go.Proofs.Ytemkddgfneohhaa.F
end

section
namespace Go.Proofs.Ytemkddgfneohhaa.F
open Go.RowKit Go.Proofs.YtemkddgfneohhaaW.PrintWords Go.Proofs.YtemkddgfneohhaaW.PrintLast Go.Proofs.YtemkddgfneohhaaW.PrintMore
attribute [local go_sem] max2_int min2_int max_two min_two max_three min_three max_four min_four
set_option linter.unusedVariables false
set_option linter.unusedSimpArgs false

/-! ### spec_laFew: function 55 -/
def spec_laFew.f (k : Nat) (l0_0 : List Int) (a1 : Int) : Option (Bool) := (spec_poGood.f k l0_0).bind fun t304 => (if t304 = true then ((spec_laBound.f a1).bind fun t305 => (if t305 = true then ((spec_laChains.f k l0_0 (wrap64 (a1 + 1)) false).bind fun t306 => (some (decide (t306 ≤ 1000)))) else (some false))) else (some false))
theorem spec_laFew.mono : ∀ a0 a1 k, LeO (spec_laFew.f k a0 a1) (spec_laFew.f (k + 1) a0 a1) := by
  intro a0 a1 k
  unfold spec_laFew.f
  repeat' first
      | (with_reducible exact spec_laChains.mono _ _ _ _)
      | (with_reducible exact spec_poGood.mono _ _)
      | (with_reducible exact LeO.refl _)
      | (with_reducible exact LeO.none _)
      | (with_reducible refine LeO.ite ?_ ?_)
      | (with_reducible refine LeO.bind ?_ (fun _ => ?_))
      | exact spec_laChains.mono _ _ _ _
      | exact spec_poGood.mono _ _
      | exact LeO.none _
      | refine LeO.ite ?_ ?_
      | refine LeO.bind ?_ (fun _ => ?_)
set_option maxHeartbeats 8000000 in
set_option maxRecDepth 100000 in
theorem spec_laFew.calls (k : Nat) (A0_0 : Option Addr) (c0_0 : Nat) (l0_0 : List Int) (a1 : Int) (r : Bool) (w : World) (hr0_0 : Kd.C (Kd.int .i64) w A0_0 l0_0.length l0_0) (hc0_0 : l0_0.length ≤ c0_0) (h : spec_laFew.f k l0_0 a1 = some r) :
    Calls Try.prog 55 #[.agg #[.slice A0_0 l0_0.length c0_0], .int .i64 a1] w fun e w' => e = .returned (.bool r) ∧ Below w.heap.size w w' := by
  have hu30 := Try.underlying30
  have HR0_0 := Aside0.mk hr0_0
  have HC0_0 := Aside0.mk hc0_0
  clear hr0_0 hc0_0
  have HB := Aside0.mk (Below.refl w.heap.size w)
  have H : ((spec_poGood.f k l0_0).bind fun t304 => (if t304 = true then ((spec_laBound.f a1).bind fun t305 => (if t305 = true then ((spec_laChains.f k l0_0 (wrap64 (a1 + 1)) false).bind fun t306 => (some (decide (t306 ≤ 1000)))) else (some false))) else (some false))) = some r := h
  clear h
  replace H := Option.bind_eq_some_iff.mp H
  obtain ⟨t304, A30, H⟩ := H
  replace H : (if t304 = true then ((spec_laBound.f a1).bind fun t305 => (if t305 = true then ((spec_laChains.f k l0_0 (wrap64 (a1 + 1)) false).bind fun t306 => (some (decide (t306 ≤ 1000)))) else (some false))) else (some false)) = some r := H
  have A3 := Aside0.mk A30
  clear A30
  by_cases c4 : t304 = true
  · subst c4
    have H1 : ((spec_laBound.f a1).bind fun t305 => (if t305 = true then ((spec_laChains.f k l0_0 (wrap64 (a1 + 1)) false).bind fun t306 => (some (decide (t306 ≤ 1000)))) else (some false))) = some r := by rw [if_pos rfl] at H; exact H
    clear H
    have H := H1
    clear H1
    replace H := Option.bind_eq_some_iff.mp H
    obtain ⟨t305, A50, H⟩ := H
    replace H : (if t305 = true then ((spec_laChains.f k l0_0 (wrap64 (a1 + 1)) false).bind fun t306 => (some (decide (t306 ≤ 1000)))) else (some false)) = some r := H
    have A5 := Aside0.mk A50
    clear A50
    by_cases c6 : t305 = true
    · subst c6
      have H1 : ((spec_laChains.f k l0_0 (wrap64 (a1 + 1)) false).bind fun t306 => (some (decide (t306 ≤ 1000)))) = some r := by rw [if_pos rfl] at H; exact H
      clear H
      have H := H1
      clear H1
      replace H := Option.bind_eq_some_iff.mp H
      obtain ⟨t306, A70, H⟩ := H
      replace H : (some (decide (t306 ≤ 1000))) = some r := H
      have A7 := Aside0.mk A70
      clear A70
      obtain rfl := Option.some.inj H
      go_enter Try.func55, Try.ntmps55
      go_wp2_with (first | ((with_reducible refine gate_dst (N := 2) rfl ?_); refine box_event ?hg (N := 2) ?hd (cs := #[.slice A0_0 l0_0.length c0_0]) (t := 30) ?hr ?_; (case hd => rfl); (case hg => rfl); (case hr => first | (go_simp; done) | (go_simp; rfl)); intro gb303 hg w8 hbox hb; have n0_ := Aside0.mk (below_step (by repeat (first | (with_reducible first | exact HB.out | apply below_alloc | apply pw_below_drewN | apply below_drew1) | exact HB.out)) hb); have n1_ := Aside0.mk (hbox); have n2_ := Aside0.mk ((by rw [hg]; exact (below_size (by repeat (first | (with_reducible first | exact HB.out | apply below_alloc | apply pw_below_drewN | apply below_drew1) | exact HB.out))) : w.heap.size ≤ gb303)); have n3_ := Aside0.mk ((by rw [hg]; exact (below_size (by repeat (first | (with_reducible first | exact HB.out | apply below_alloc | apply pw_below_drewN | apply below_drew1) | exact HB.out))) : w.heap.size ≤ gb303)); clear HB; have HB := n0_; have BK303 := n1_; have GW303 := n2_; have GE303 := n3_; clear n0_ n1_ n2_ n3_; clear hb hbox hg; have hcz9_0 : w8.cell? ⟨gb303, 0, none⟩ = some (.slice A0_0 l0_0.length c0_0) := (blk_cell BK303.out 0).trans rfl; have hfz9_0 := blk_frozen BK303.out 0) | ((with_reducible refine gate_callee (f := 44) rfl ?_); refine goesL_ (some 6) rfl rfl Try.func44 (by kernel_rfl) rfl #[.agg #[.slice A0_0 l0_0.length c0_0]] rfl (by (try simp only [List.map_toArray, List.map_cons, List.map_nil]); first | done | rfl | (simp only [List.length_drop, List.length_take]; rfl)) ?_; (with_reducible refine (spec_poGood.calls k _ _ l0_0 true _ ?side1 ?side2 A3.out).mono ?_); (case side1 => repeat (first | exact (Kd.C_below HR0_0.out HB.out) | (with_reducible refine Kd.C_alloc ?_ _) | (with_reducible refine Kd.C_drewN ?_ _) | (with_reducible refine Kd.C_drew ?_))); (case side2 => exact HC0_0.out); rintro e w10 ⟨rfl, hb⟩; refine ⟨_, rfl, ?_⟩; have n0_ := Aside0.mk (blk_below (g := gb303) (o := .cells #[.slice A0_0 l0_0.length c0_0] 30 (0, 0)) (by (with_reducible repeat (first | refine blk_drewN ?_ _ | refine blk_drew ?_ | refine blk_alloc ?_ _)); exact BK303.out) hb); have n1_ := Aside0.mk (below_step (by repeat (first | (with_reducible first | exact HB.out | apply below_alloc | apply pw_below_drewN | apply below_drew1 | refine below_set ?_ GE303.out) | exact HB.out)) hb); clear BK303; clear HB; have BK303 := n0_; have HB := n1_; clear n0_ n1_; (try clear hb); (try clear hb2); (try clear hk); (try clear hi)) | (go_at_call 45; (with_reducible refine (spec_laBound.calls a1 true _ A5.out).mono ?_); rintro e w' ⟨rfl, ⟨nd, rfl⟩⟩; have hcz11_0 : w10.cell? ⟨gb303, 0, none⟩ = some (.slice A0_0 l0_0.length c0_0) := (blk_cell BK303.out 0).trans rfl; have hfz11_0 := blk_frozen BK303.out 0) | (go_at_call 46; (with_reducible refine (spec_laChains.calls k _ _ l0_0 (wrap64 (a1 + 1)) false t306 _ ?side1 ?side2 A7.out).mono ?_); (case side1 => repeat (first | exact (Kd.C_below HR0_0.out (by repeat (first | (with_reducible first | exact HB.out | apply below_alloc | apply pw_below_drewN | apply below_drew1 | refine below_set ?_ GE303.out) | exact HB.out))) | (with_reducible refine Kd.C_alloc ?_ _) | (with_reducible refine Kd.C_drewN ?_ _) | (with_reducible refine Kd.C_drew ?_))); (case side2 => exact HC0_0.out); rintro e w12 ⟨rfl, hb⟩; have n0_ := Aside0.mk (blk_below (g := gb303) (o := .cells #[.slice A0_0 l0_0.length c0_0] 30 (0, 0)) (by (with_reducible repeat (first | refine blk_drewN ?_ _ | refine blk_drew ?_ | refine blk_alloc ?_ _)); exact BK303.out) hb); have n1_ := Aside0.mk (below_step (by repeat (first | (with_reducible first | exact HB.out | apply below_alloc | apply pw_below_drewN | apply below_drew1 | refine below_set ?_ GE303.out) | exact HB.out)) hb); clear BK303; clear HB; have BK303 := n0_; have HB := n1_; clear n0_ n1_; (try clear hb); (try clear hb2); (try clear hk); (try clear hi)))
      go_ret
      exact ⟨by first | rfl | (simp [errW_none, errW_some] <;> rfl) | (simp [*, errW_none, errW_some] <;> rfl), by repeat (first | (with_reducible first | exact HB.out | apply below_alloc | apply pw_below_drewN | apply below_drew1 | refine below_set ?_ GE303.out) | exact HB.out)⟩
    · replace c6 := Bool.eq_false_iff.mpr c6
      subst c6
      have H1 : (some false) = some r := by rw [if_neg (show ¬ (false = true) by decide)] at H; exact H
      clear H
      have H := H1
      clear H1
      obtain rfl := Option.some.inj H
      go_enter Try.func55, Try.ntmps55
      go_wp2_with (first | ((with_reducible refine gate_dst (N := 2) rfl ?_); refine box_event ?hg (N := 2) ?hd (cs := #[.slice A0_0 l0_0.length c0_0]) (t := 30) ?hr ?_; (case hd => rfl); (case hg => rfl); (case hr => first | (go_simp; done) | (go_simp; rfl)); intro gb303 hg w13 hbox hb; have n0_ := Aside0.mk (below_step (by repeat (first | (with_reducible first | exact HB.out | apply below_alloc | apply pw_below_drewN | apply below_drew1) | exact HB.out)) hb); have n1_ := Aside0.mk (hbox); have n2_ := Aside0.mk ((by rw [hg]; exact (below_size (by repeat (first | (with_reducible first | exact HB.out | apply below_alloc | apply pw_below_drewN | apply below_drew1) | exact HB.out))) : w.heap.size ≤ gb303)); have n3_ := Aside0.mk ((by rw [hg]; exact (below_size (by repeat (first | (with_reducible first | exact HB.out | apply below_alloc | apply pw_below_drewN | apply below_drew1) | exact HB.out))) : w.heap.size ≤ gb303)); clear HB; have HB := n0_; have BK303 := n1_; have GW303 := n2_; have GE303 := n3_; clear n0_ n1_ n2_ n3_; clear hb hbox hg; have hcz14_0 : w13.cell? ⟨gb303, 0, none⟩ = some (.slice A0_0 l0_0.length c0_0) := (blk_cell BK303.out 0).trans rfl; have hfz14_0 := blk_frozen BK303.out 0) | ((with_reducible refine gate_callee (f := 44) rfl ?_); refine goesL_ (some 6) rfl rfl Try.func44 (by kernel_rfl) rfl #[.agg #[.slice A0_0 l0_0.length c0_0]] rfl (by (try simp only [List.map_toArray, List.map_cons, List.map_nil]); first | done | rfl | (simp only [List.length_drop, List.length_take]; rfl)) ?_; (with_reducible refine (spec_poGood.calls k _ _ l0_0 true _ ?side1 ?side2 A3.out).mono ?_); (case side1 => repeat (first | exact (Kd.C_below HR0_0.out HB.out) | (with_reducible refine Kd.C_alloc ?_ _) | (with_reducible refine Kd.C_drewN ?_ _) | (with_reducible refine Kd.C_drew ?_))); (case side2 => exact HC0_0.out); rintro e w15 ⟨rfl, hb⟩; refine ⟨_, rfl, ?_⟩; have n0_ := Aside0.mk (blk_below (g := gb303) (o := .cells #[.slice A0_0 l0_0.length c0_0] 30 (0, 0)) (by (with_reducible repeat (first | refine blk_drewN ?_ _ | refine blk_drew ?_ | refine blk_alloc ?_ _)); exact BK303.out) hb); have n1_ := Aside0.mk (below_step (by repeat (first | (with_reducible first | exact HB.out | apply below_alloc | apply pw_below_drewN | apply below_drew1 | refine below_set ?_ GE303.out) | exact HB.out)) hb); clear BK303; clear HB; have BK303 := n0_; have HB := n1_; clear n0_ n1_; (try clear hb); (try clear hb2); (try clear hk); (try clear hi)) | (go_at_call 45; (with_reducible refine (spec_laBound.calls a1 false _ A5.out).mono ?_); rintro e w' ⟨rfl, ⟨nd, rfl⟩⟩))
      go_ret
      exact ⟨by first | rfl | (simp [errW_none, errW_some] <;> rfl) | (simp [*, errW_none, errW_some] <;> rfl), by repeat (first | (with_reducible first | exact HB.out | apply below_alloc | apply pw_below_drewN | apply below_drew1 | refine below_set ?_ GE303.out) | exact HB.out)⟩
  · replace c4 := Bool.eq_false_iff.mpr c4
    subst c4
    have H1 : (some false) = some r := by rw [if_neg (show ¬ (false = true) by decide)] at H; exact H
    clear H
    have H := H1
    clear H1
    obtain rfl := Option.some.inj H
    go_enter Try.func55, Try.ntmps55
    go_wp2_with (first | ((with_reducible refine gate_dst (N := 2) rfl ?_); refine box_event ?hg (N := 2) ?hd (cs := #[.slice A0_0 l0_0.length c0_0]) (t := 30) ?hr ?_; (case hd => rfl); (case hg => rfl); (case hr => first | (go_simp; done) | (go_simp; rfl)); intro gb303 hg w16 hbox hb; have n0_ := Aside0.mk (below_step (by repeat (first | (with_reducible first | exact HB.out | apply below_alloc | apply pw_below_drewN | apply below_drew1) | exact HB.out)) hb); have n1_ := Aside0.mk (hbox); have n2_ := Aside0.mk ((by rw [hg]; exact (below_size (by repeat (first | (with_reducible first | exact HB.out | apply below_alloc | apply pw_below_drewN | apply below_drew1) | exact HB.out))) : w.heap.size ≤ gb303)); have n3_ := Aside0.mk ((by rw [hg]; exact (below_size (by repeat (first | (with_reducible first | exact HB.out | apply below_alloc | apply pw_below_drewN | apply below_drew1) | exact HB.out))) : w.heap.size ≤ gb303)); clear HB; have HB := n0_; have BK303 := n1_; have GW303 := n2_; have GE303 := n3_; clear n0_ n1_ n2_ n3_; clear hb hbox hg; have hcz17_0 : w16.cell? ⟨gb303, 0, none⟩ = some (.slice A0_0 l0_0.length c0_0) := (blk_cell BK303.out 0).trans rfl; have hfz17_0 := blk_frozen BK303.out 0) | ((with_reducible refine gate_callee (f := 44) rfl ?_); refine goesL_ (some 6) rfl rfl Try.func44 (by kernel_rfl) rfl #[.agg #[.slice A0_0 l0_0.length c0_0]] rfl (by (try simp only [List.map_toArray, List.map_cons, List.map_nil]); first | done | rfl | (simp only [List.length_drop, List.length_take]; rfl)) ?_; (with_reducible refine (spec_poGood.calls k _ _ l0_0 false _ ?side1 ?side2 A3.out).mono ?_); (case side1 => repeat (first | exact (Kd.C_below HR0_0.out HB.out) | (with_reducible refine Kd.C_alloc ?_ _) | (with_reducible refine Kd.C_drewN ?_ _) | (with_reducible refine Kd.C_drew ?_))); (case side2 => exact HC0_0.out); rintro e w18 ⟨rfl, hb⟩; refine ⟨_, rfl, ?_⟩; have n0_ := Aside0.mk (blk_below (g := gb303) (o := .cells #[.slice A0_0 l0_0.length c0_0] 30 (0, 0)) (by (with_reducible repeat (first | refine blk_drewN ?_ _ | refine blk_drew ?_ | refine blk_alloc ?_ _)); exact BK303.out) hb); have n1_ := Aside0.mk (below_step (by repeat (first | (with_reducible first | exact HB.out | apply below_alloc | apply pw_below_drewN | apply below_drew1 | refine below_set ?_ GE303.out) | exact HB.out)) hb); clear BK303; clear HB; have BK303 := n0_; have HB := n1_; clear n0_ n1_; (try clear hb); (try clear hb2); (try clear hk); (try clear hi)))
    go_ret
    exact ⟨by first | rfl | (simp [errW_none, errW_some] <;> rfl) | (simp [*, errW_none, errW_some] <;> rfl), by repeat (first | (with_reducible first | exact HB.out | apply below_alloc | apply pw_below_drewN | apply below_drew1 | refine below_set ?_ GE303.out) | exact HB.out)⟩

end Go.Proofs.Ytemkddgfneohhaa.F
end

section
namespace Go.Proofs.Ytemkddgfneohhaa.F
open Go.RowKit Go.Proofs.YtemkddgfneohhaaW.PrintWords Go.Proofs.YtemkddgfneohhaaW.PrintLast Go.Proofs.YtemkddgfneohhaaW.PrintMore
attribute [local go_sem] max2_int min2_int max_two min_two max_three min_three max_four min_four
set_option linter.unusedVariables false
set_option linter.unusedSimpArgs false

/-! ### spec_RankLabels: function 35 -/
mutual
def spec_RankLabels.j0 : Nat → List Int → Int → Bool → List Int → Option (Int × Bool)
  | 0, _, _, _, _ => none
  | k + 1, x1, x2, x21, x425000 => if x21 = true then (some (0, false)) else ((spec_laAll.f k x425000 ([] : List Int) x2 1000).bind fun t427 => (spec_RankLabels.l0 k x1 0 t427 (t427.length : Int) 0))
def spec_RankLabels.l0 : Nat → List Int → Int → List (List Int) → Int → Int → Option (Int × Bool)
  | 0, _, _, _, _, _ => none
  | k + 1, x1, x8, x24, x25, x26 => if x26 < x25 then (if 0 ≤ x26 then (if x26 < (x24.length : Int) then ((spec_l1Same.f k (rd_L1 x24 x26) x1).bind fun t431 => (if t431 = true then (spec_RankLabels.l0 k x1 x26 x24 x25 (wrap64 (x26 + 1))) else (spec_RankLabels.l0 k x1 x8 x24 x25 (wrap64 (x26 + 1))))) else (none)) else (none)) else (some (x8, true))
end
def spec_RankLabels.f (k : Nat) (l0_0 : List Int) (l1 : List Int) (a2 : Int) : Option (Int × Bool) := (spec_laFew.f k l0_0 a2).bind fun t425 => (if t425 = true then ((spec_laAre.f k l0_0 l1 a2 0).bind fun t426 => (spec_RankLabels.j0 k l1 a2 (!t426) l0_0)) else (spec_RankLabels.j0 k l1 a2 true l0_0))
theorem spec_RankLabels.mono_l : ∀ k, (∀ y0 y1 y2 y3, LeO (spec_RankLabels.j0 k y0 y1 y2 y3) (spec_RankLabels.j0 (k + 1) y0 y1 y2 y3)) ∧ (∀ y0 y1 y2 y3 y4, LeO (spec_RankLabels.l0 k y0 y1 y2 y3 y4) (spec_RankLabels.l0 (k + 1) y0 y1 y2 y3 y4))
  | 0 => ⟨fun _ _ _ _ r h => by simp [spec_RankLabels.j0] at h, fun _ _ _ _ _ r h => by simp [spec_RankLabels.l0] at h⟩
  | k + 1 => by
    obtain ⟨ih0, ih1⟩ := spec_RankLabels.mono_l k
    refine ⟨?_, ?_⟩
    · intro y0 y1 y2 y3
      unfold spec_RankLabels.j0
      repeat' first
      | (with_reducible exact ih0 _ _ _ _)
      | (with_reducible exact ih1 _ _ _ _ _)
      | (with_reducible exact spec_l1Same.mono _ _ _)
      | (with_reducible exact spec_laAll.mono _ _ _ _ _)
      | (with_reducible exact spec_laAre.mono _ _ _ _ _)
      | (with_reducible exact spec_laFew.mono _ _ _)
      | (with_reducible exact LeO.refl _)
      | (with_reducible exact LeO.none _)
      | (with_reducible refine LeO.ite ?_ ?_)
      | (with_reducible refine LeO.bind ?_ (fun _ => ?_))
      | exact ih0 _ _ _ _
      | exact ih1 _ _ _ _ _
      | exact spec_l1Same.mono _ _ _
      | exact spec_laAll.mono _ _ _ _ _
      | exact spec_laAre.mono _ _ _ _ _
      | exact spec_laFew.mono _ _ _
      | exact LeO.none _
      | refine LeO.ite ?_ ?_
      | refine LeO.bind ?_ (fun _ => ?_)
    · intro y0 y1 y2 y3 y4
      unfold spec_RankLabels.l0
      repeat' first
      | (with_reducible exact ih0 _ _ _ _)
      | (with_reducible exact ih1 _ _ _ _ _)
      | (with_reducible exact spec_l1Same.mono _ _ _)
      | (with_reducible exact spec_laAll.mono _ _ _ _ _)
      | (with_reducible exact spec_laAre.mono _ _ _ _ _)
      | (with_reducible exact spec_laFew.mono _ _ _)
      | (with_reducible exact LeO.refl _)
      | (with_reducible exact LeO.none _)
      | (with_reducible refine LeO.ite ?_ ?_)
      | (with_reducible refine LeO.bind ?_ (fun _ => ?_))
      | exact ih0 _ _ _ _
      | exact ih1 _ _ _ _ _
      | exact spec_l1Same.mono _ _ _
      | exact spec_laAll.mono _ _ _ _ _
      | exact spec_laAre.mono _ _ _ _ _
      | exact spec_laFew.mono _ _ _
      | exact LeO.none _
      | refine LeO.ite ?_ ?_
      | refine LeO.bind ?_ (fun _ => ?_)
theorem spec_RankLabels.mono : ∀ a0 a1 a2 k, LeO (spec_RankLabels.f k a0 a1 a2) (spec_RankLabels.f (k + 1) a0 a1 a2) := by
  intro a0 a1 a2 k
  obtain ⟨ih0, ih1⟩ := spec_RankLabels.mono_l k
  unfold spec_RankLabels.f
  repeat' first
      | (with_reducible exact ih0 _ _ _ _)
      | (with_reducible exact ih1 _ _ _ _ _)
      | (with_reducible exact spec_l1Same.mono _ _ _)
      | (with_reducible exact spec_laAll.mono _ _ _ _ _)
      | (with_reducible exact spec_laAre.mono _ _ _ _ _)
      | (with_reducible exact spec_laFew.mono _ _ _)
      | (with_reducible exact LeO.refl _)
      | (with_reducible exact LeO.none _)
      | (with_reducible refine LeO.ite ?_ ?_)
      | (with_reducible refine LeO.bind ?_ (fun _ => ?_))
      | exact ih0 _ _ _ _
      | exact ih1 _ _ _ _ _
      | exact spec_l1Same.mono _ _ _
      | exact spec_laAll.mono _ _ _ _ _
      | exact spec_laAre.mono _ _ _ _ _
      | exact spec_laFew.mono _ _ _
      | exact LeO.none _
      | refine LeO.ite ?_ ?_
      | refine LeO.bind ?_ (fun _ => ?_)
set_option maxHeartbeats 8000000 in
set_option maxRecDepth 100000 in
theorem spec_RankLabels.calls (k : Nat) (A0_0 : Option Addr) (c0_0 : Nat) (l0_0 : List Int) (A1 : Option Addr) (c1 : Nat) (l1 : List Int) (a2 : Int) (r1 : Int) (r2 : Bool) (w : World) (hr0_0 : Kd.C (Kd.int .i64) w A0_0 l0_0.length l0_0) (hc0_0 : l0_0.length ≤ c0_0) (hr1 : Kd.C (Kd.int .i64) w A1 l1.length l1) (hc1 : l1.length ≤ c1) (h : spec_RankLabels.f k l0_0 l1 a2 = some (r1, r2)) :
    Calls Try.prog 35 #[.agg #[.slice A0_0 l0_0.length c0_0], .slice A1 l1.length c1, .int .i64 a2] w fun e w' => e = .returned (.tuple #[.int .i64 r1, .bool r2]) ∧ Below w.heap.size w w' := by
  have hu30 := Try.underlying30
  have HR0_0 := Aside0.mk hr0_0
  have HC0_0 := Aside0.mk hc0_0
  clear hr0_0 hc0_0
  have HR1 := Aside0.mk hr1
  have HC1 := Aside0.mk hc1
  clear hr1 hc1
  have HB := Aside0.mk (Below.refl w.heap.size w)
  have H : ((spec_laFew.f k l0_0 a2).bind fun t425 => (if t425 = true then ((spec_laAre.f k l0_0 l1 a2 0).bind fun t426 => (spec_RankLabels.j0 k l1 a2 (!t426) l0_0)) else (spec_RankLabels.j0 k l1 a2 true l0_0))) = some (r1, r2) := h
  clear h
  have HC4 := Aside0.mk H
  clear H
  go_enter Try.func35, Try.ntmps35
  go_upto_region 1 with (first | ((with_reducible refine gate_dst (N := 3) rfl ?_); refine box_event ?hg (N := 3) ?hd (cs := #[.slice A0_0 l0_0.length c0_0]) (t := 30) ?hr ?_; (case hd => rfl); (case hg => rfl); (case hr => first | (go_simp; done) | (go_simp; rfl)); intro gb424 hg w5 hbox hb; have n0_ := Aside0.mk (below_step (by repeat (first | (with_reducible first | exact HB.out | apply below_alloc | apply pw_below_drewN | apply below_drew1) | exact HB.out)) hb); have n1_ := Aside0.mk (hbox); have n2_ := Aside0.mk ((by rw [hg]; exact (below_size (by repeat (first | (with_reducible first | exact HB.out | apply below_alloc | apply pw_below_drewN | apply below_drew1) | exact HB.out))) : w.heap.size ≤ gb424)); have n3_ := Aside0.mk ((by rw [hg]; exact (below_size (by repeat (first | (with_reducible first | exact HB.out | apply below_alloc | apply pw_below_drewN | apply below_drew1) | exact HB.out))) : w.heap.size ≤ gb424)); clear HB; have HB := n0_; have BK424 := n1_; have GW424 := n2_; have GE424 := n3_; clear n0_ n1_ n2_ n3_; clear hb hbox hg))
  (try simp only [Act.put, List.setIfInBounds_toArray, List.set_cons_zero, List.set_cons_succ])
  go_cut [21] (fun v21 wc => ∃ (kq : Nat) (x21_3 : Bool), v21 = .bool x21_3 ∧ Aside0 (spec_RankLabels.j0 kq l1 a2 x21_3 l0_0 = some (r1, r2)) ∧ Aside0 (kq ≤ k) ∧ Aside0 (wc.heap[gb424]? = some (.cells #[(.slice A0_0 l0_0.length c0_0)] 30 (0, 0))) ∧ Aside0 (Below w.heap.size w wc))
  case first =>
    have H := HC4.out
    clear HC4
    replace H := Option.bind_eq_some_iff.mp H
    obtain ⟨t425, A60, H⟩ := H
    replace H : (if t425 = true then ((spec_laAre.f k l0_0 l1 a2 0).bind fun t426 => (spec_RankLabels.j0 k l1 a2 (!t426) l0_0)) else (spec_RankLabels.j0 k l1 a2 true l0_0)) = some (r1, r2) := H
    have A6 := Aside0.mk A60
    clear A60
    by_cases c7 : t425 = true
    · subst c7
      have H1 : ((spec_laAre.f k l0_0 l1 a2 0).bind fun t426 => (spec_RankLabels.j0 k l1 a2 (!t426) l0_0)) = some (r1, r2) := by rw [if_pos rfl] at H; exact H
      clear H
      have H := H1
      clear H1
      replace H := Option.bind_eq_some_iff.mp H
      obtain ⟨t426, A80, H⟩ := H
      replace H : (spec_RankLabels.j0 k l1 a2 (!t426) l0_0) = some (r1, r2) := H
      have A8 := Aside0.mk A80
      clear A80
      have H' := Aside0.mk H
      clear H
      have hcz9_0 : w5.cell? ⟨gb424, 0, none⟩ = some (.slice A0_0 l0_0.length c0_0) := (blk_cell BK424.out 0).trans rfl
      have hfz9_0 := blk_frozen BK424.out 0
      go_wp2_with (first | ((with_reducible refine gate_callee (f := 55) rfl ?_); refine goesL_ (some 13) rfl rfl Try.func55 (by kernel_rfl) rfl #[.agg #[.slice A0_0 l0_0.length c0_0], .int .i64 a2] rfl (by (try simp only [List.map_toArray, List.map_cons, List.map_nil]); first | done | rfl | (simp only [List.length_drop, List.length_take]; rfl)) ?_; (with_reducible refine (spec_laFew.calls k _ _ l0_0 a2 true _ ?side1 ?side2 A6.out).mono ?_); (case side1 => repeat (first | exact (Kd.C_below HR0_0.out HB.out) | (with_reducible refine Kd.C_alloc ?_ _) | (with_reducible refine Kd.C_drewN ?_ _) | (with_reducible refine Kd.C_drew ?_))); (case side2 => exact HC0_0.out); rintro e w10 ⟨rfl, hb⟩; refine ⟨_, rfl, ?_⟩; have n0_ := Aside0.mk (blk_below (g := gb424) (o := .cells #[.slice A0_0 l0_0.length c0_0] 30 (0, 0)) (by (with_reducible repeat (first | refine blk_drewN ?_ _ | refine blk_drew ?_ | refine blk_alloc ?_ _)); exact BK424.out) hb); have n1_ := Aside0.mk (below_step (by repeat (first | (with_reducible first | exact HB.out | apply below_alloc | apply pw_below_drewN | apply below_drew1 | refine below_set ?_ GE424.out) | exact HB.out)) hb); clear BK424; clear HB; have BK424 := n0_; have HB := n1_; clear n0_ n1_; (try clear hb); (try clear hb2); (try clear hk); (try clear hi); have hcz11_0 : w10.cell? ⟨gb424, 0, none⟩ = some (.slice A0_0 l0_0.length c0_0) := (blk_cell BK424.out 0).trans rfl; have hfz11_0 := blk_frozen BK424.out 0) | (go_at_call 59; (with_reducible refine (spec_laAre.calls k _ _ l0_0 _ _ l1 a2 0 t426 _ ?side1 ?side2 ?side3 ?side4 A8.out).mono ?_); (case side1 => repeat (first | exact (Kd.C_below HR0_0.out HB.out) | (with_reducible refine Kd.C_alloc ?_ _) | (with_reducible refine Kd.C_drewN ?_ _) | (with_reducible refine Kd.C_drew ?_))); (case side2 => exact HC0_0.out); (case side3 => repeat (first | exact (Kd.C_below HR1.out HB.out) | (with_reducible refine Kd.C_alloc ?_ _) | (with_reducible refine Kd.C_drewN ?_ _) | (with_reducible refine Kd.C_drew ?_))); (case side4 => exact HC1.out); rintro e w12 ⟨rfl, hb⟩; have n0_ := Aside0.mk (blk_below (g := gb424) (o := .cells #[.slice A0_0 l0_0.length c0_0] 30 (0, 0)) (by (with_reducible repeat (first | refine blk_drewN ?_ _ | refine blk_drew ?_ | refine blk_alloc ?_ _)); exact BK424.out) hb); have n1_ := Aside0.mk (below_step (by repeat (first | (with_reducible first | exact HB.out | apply below_alloc | apply pw_below_drewN | apply below_drew1 | refine below_set ?_ GE424.out) | exact HB.out)) hb); clear BK424; clear HB; have BK424 := n0_; have HB := n1_; clear n0_ n1_; (try clear hb); (try clear hb2); (try clear hk); (try clear hi)))
      go_meet
      case rel => exact ⟨_, (!t426), (by first | rfl | (simp; done) | (simp [*]; done)), H', ⟨by first | omega | exact Nat.le_refl _⟩, ⟨by (with_reducible repeat (first | refine blk_drewN ?_ _ | refine blk_drew ?_ | refine blk_alloc ?_ _)); exact BK424.out⟩, ⟨by repeat (first | (with_reducible first | exact HB.out | apply below_alloc | apply pw_below_drewN | apply below_drew1 | refine below_set ?_ GE424.out) | exact HB.out)⟩⟩
    · replace c7 := Bool.eq_false_iff.mpr c7
      subst c7
      have H1 : (spec_RankLabels.j0 k l1 a2 true l0_0) = some (r1, r2) := by rw [if_neg (show ¬ (false = true) by decide)] at H; exact H
      clear H
      have H := H1
      clear H1
      have H' := Aside0.mk H
      clear H
      have hcz13_0 : w5.cell? ⟨gb424, 0, none⟩ = some (.slice A0_0 l0_0.length c0_0) := (blk_cell BK424.out 0).trans rfl
      have hfz13_0 := blk_frozen BK424.out 0
      go_wp2_with (first | ((with_reducible refine gate_callee (f := 55) rfl ?_); refine goesL_ (some 13) rfl rfl Try.func55 (by kernel_rfl) rfl #[.agg #[.slice A0_0 l0_0.length c0_0], .int .i64 a2] rfl (by (try simp only [List.map_toArray, List.map_cons, List.map_nil]); first | done | rfl | (simp only [List.length_drop, List.length_take]; rfl)) ?_; (with_reducible refine (spec_laFew.calls k _ _ l0_0 a2 false _ ?side1 ?side2 A6.out).mono ?_); (case side1 => repeat (first | exact (Kd.C_below HR0_0.out HB.out) | (with_reducible refine Kd.C_alloc ?_ _) | (with_reducible refine Kd.C_drewN ?_ _) | (with_reducible refine Kd.C_drew ?_))); (case side2 => exact HC0_0.out); rintro e w14 ⟨rfl, hb⟩; refine ⟨_, rfl, ?_⟩; have n0_ := Aside0.mk (blk_below (g := gb424) (o := .cells #[.slice A0_0 l0_0.length c0_0] 30 (0, 0)) (by (with_reducible repeat (first | refine blk_drewN ?_ _ | refine blk_drew ?_ | refine blk_alloc ?_ _)); exact BK424.out) hb); have n1_ := Aside0.mk (below_step (by repeat (first | (with_reducible first | exact HB.out | apply below_alloc | apply pw_below_drewN | apply below_drew1 | refine below_set ?_ GE424.out) | exact HB.out)) hb); clear BK424; clear HB; have BK424 := n0_; have HB := n1_; clear n0_ n1_; (try clear hb); (try clear hb2); (try clear hk); (try clear hi)))
      go_meet
      case rel => exact ⟨_, (true), (by first | rfl | (simp; done) | (simp [*]; done)), H', ⟨by first | omega | exact Nat.le_refl _⟩, ⟨by (with_reducible repeat (first | refine blk_drewN ?_ _ | refine blk_drew ?_ | refine blk_alloc ?_ _)); exact BK424.out⟩, ⟨by repeat (first | (with_reducible first | exact HB.out | apply below_alloc | apply pw_below_drewN | apply below_drew1 | refine below_set ?_ GE424.out) | exact HB.out)⟩⟩
  case rest =>
    clear HC4
    try clear c1
    try clear p2
    try clear c3
    try clear c5
    try clear c7
    try clear hcz11_0
    try clear hcz13_0
    try clear hcz9_0
    try clear hfz11_0
    try clear hfz13_0
    try clear hfz9_0
    obtain ⟨kq, x21_3, rfl, HA, HJ3, BK424, HB⟩ := hcut
    cases kq with
    | zero => exact absurd HA.out (by simp [spec_RankLabels.j0])
    | succ kj3 =>
      have H := HA.out
      clear HA
      simp only [spec_RankLabels.j0] at H
      by_cases c15 : x21_3 = true
      · subst c15
        have H1 : (some (0, false)) = some (r1, r2) := by rw [if_pos rfl] at H; exact H
        clear H
        have H := H1
        clear H1
        simp only [Option.some.injEq, Prod.mk.injEq] at H
        obtain ⟨rfl, rfl⟩ := H
        go_wp2
        go_ret2
        exact ⟨by first | rfl | (simp [errW_none, errW_some] <;> rfl) | (simp [*, errW_none, errW_some] <;> rfl), by repeat (first | (with_reducible first | exact HB.out | apply below_alloc | apply pw_below_drewN | apply below_drew1 | refine below_set ?_ GE424.out) | exact HB.out)⟩
      · replace c15 := Bool.eq_false_iff.mpr c15
        subst c15
        have H1 : ((spec_laAll.f kj3 l0_0 ([] : List Int) a2 1000).bind fun t427 => (spec_RankLabels.l0 kj3 l1 0 t427 (t427.length : Int) 0)) = some (r1, r2) := by rw [if_neg (show ¬ (false = true) by decide)] at H; exact H
        clear H
        have H := H1
        clear H1
        replace H := Option.bind_eq_some_iff.mp H
        obtain ⟨t427, A160, H⟩ := H
        replace H : (spec_RankLabels.l0 kj3 l1 0 t427 (t427.length : Int) 0) = some (r1, r2) := H
        have A16 := Aside0.mk A160
        clear A160
        have H' := Aside0.mk H
        clear H
        have hcz17_0 : wc.cell? ⟨gb424, 0, none⟩ = some (.slice A0_0 l0_0.length c0_0) := (blk_cell BK424.out 0).trans rfl
        have hfz17_0 := blk_frozen BK424.out 0
        go_wp2_with (first | ((with_reducible refine gate_callee (f := 56) rfl ?_); refine goesL_ (some 24) rfl rfl Try.func56 (by kernel_rfl) rfl #[.agg #[.slice A0_0 l0_0.length c0_0], .slice none 0 0, .int .i64 a2, .int .i64 1000] rfl (by (try simp only [List.map_toArray, List.map_cons, List.map_nil]); first | done | rfl | (simp only [List.length_drop, List.length_take]; rfl)) ?_; (refine (spec_laAll.calls kj3 _ _ l0_0 _ _ ([] : List Int) a2 1000 t427 _ ?side1 ?side2 ?side3 ?side4 A16.out).mono ?_); (case side1 => repeat (first | exact (Kd.C_below HR0_0.out HB.out) | (with_reducible refine Kd.C_alloc ?_ _) | (with_reducible refine Kd.C_drewN ?_ _) | (with_reducible refine Kd.C_drew ?_))); (case side2 => exact HC0_0.out); (case side3 => exact Kd.C_nil _ _); (case side4 => exact Nat.le_refl _); rintro e w18 ⟨v428, rfl, ho0, hb⟩; refine ⟨_, rfl, ?_⟩; have n0_ := Aside0.mk (Kd.N_lower (Kd.N_mono (ok' := fun k_ => k_ ≠ gb424) ho0 (fun k_ hk_ => (Kd.freshB (g := gb424) (o := .cells #[.slice A0_0 l0_0.length c0_0] 30 (0, 0)) (by (with_reducible repeat (first | refine blk_drewN ?_ _ | refine blk_drew ?_ | refine blk_alloc ?_ _)); exact BK424.out) k_ hk_))) (below_size (by repeat (first | (with_reducible first | exact HB.out | apply below_alloc | apply pw_below_drewN | apply below_drew1 | refine below_set ?_ GE424.out) | exact HB.out)))); have n1_ := Aside0.mk (blk_below (g := gb424) (o := .cells #[.slice A0_0 l0_0.length c0_0] 30 (0, 0)) (by (with_reducible repeat (first | refine blk_drewN ?_ _ | refine blk_drew ?_ | refine blk_alloc ?_ _)); exact BK424.out) hb); have n2_ := Aside0.mk (below_step (by repeat (first | (with_reducible first | exact HB.out | apply below_alloc | apply pw_below_drewN | apply below_drew1 | refine below_set ?_ GE424.out) | exact HB.out)) hb); clear BK424; clear HB; have HO429 := n0_; have BK424 := n1_; have HB := n2_; clear n0_ n1_ n2_; (try clear hb); (try clear hb2); (try clear hk); (try clear hi); (try clear ho0); obtain ⟨Ao19, co19, eo19⟩ := Kd.N_slice HO429.out; subst eo19))
        go_loopg [8, 26] kj3 (fun kq v8 v26 w' => ∃ (x8_2 : Int) (x26_2 : Int), v8 = .int .i64 x8_2 ∧ v26 = .int .i64 x26_2 ∧ Aside0 (spec_RankLabels.l0 kq l1 x8_2 t427 (t427.length : Int) x26_2 = some (r1, r2)) ∧ Aside0 (kq ≤ kj3) ∧ Aside0 (Kd.N (Kd.slice 3 (Kd.int .i64)) 25 w' w.heap.size (fun k_ => k_ ≠ gb424) (.slice Ao19 t427.length co19) t427) ∧ Aside0 (w'.heap[gb424]? = some (.cells #[(.slice A0_0 l0_0.length c0_0)] 30 (0, 0))) ∧ Aside0 (Below w.heap.size w w'))
        case atStart => exact ⟨(0), (0), (by first | rfl | (simp; done) | (simp [*]; done)), (by first | rfl | (simp; done) | (simp [*]; done)), H', ⟨Nat.le_refl _⟩, ⟨by (with_reducible repeat (first | apply Kd.N_alloc | apply Kd.N_drewN | apply Kd.N_drew)); exact HO429.out⟩, ⟨by (with_reducible repeat (first | refine blk_drewN ?_ _ | refine blk_drew ?_ | refine blk_alloc ?_ _)); exact BK424.out⟩, ⟨by repeat (first | (with_reducible first | exact HB.out | apply below_alloc | apply pw_below_drewN | apply below_drew1 | refine below_set ?_ GE424.out) | exact HB.out)⟩⟩
        case round =>
          clear H'
          try clear c1
          try clear p2
          try clear c3
          try clear c5
          try clear c7
          try clear c15
          try clear hcz11_0
          try clear hcz13_0
          try clear hcz17_0
          try clear hcz9_0
          try clear hfz11_0
          try clear hfz13_0
          try clear hfz17_0
          try clear hfz9_0
          try clear p2
          obtain ⟨x8_2, x26_2, rfl, rfl, HA, HK2, HO_24, BK424, HB⟩ := hrel
          cases gk with
          | zero => exact absurd HA.out (by simp [spec_RankLabels.l0])
          | succ k2 =>
            have H := HA.out
            clear HA
            simp only [spec_RankLabels.l0] at H
            by_cases c20 : x26_2 < (t427.length : Int)
            · rw [if_pos c20] at H
              have c20b0 : decide (x26_2 < (t427.length : Int)) = true := decide_eq_true c20
              clear c20
              by_cases c21 : 0 ≤ x26_2
              · rw [if_pos c21] at H
                have c21b0 : decide (0 ≤ x26_2) = true := decide_eq_true c21
                clear c21
                by_cases c22 : x26_2 < (t427.length : Int)
                · rw [if_pos c22] at H
                  have c22b0 : decide (x26_2 < (t427.length : Int)) = true := decide_eq_true c22
                  clear c22
                  replace H := Option.bind_eq_some_iff.mp H
                  obtain ⟨t431, A230, H⟩ := H
                  replace H : (if t431 = true then (spec_RankLabels.l0 k2 l1 x26_2 t427 (t427.length : Int) (wrap64 (x26_2 + 1))) else (spec_RankLabels.l0 k2 l1 x8_2 t427 (t427.length : Int) (wrap64 (x26_2 + 1)))) = some (r1, r2) := H
                  have A23 := Aside0.mk A230
                  clear A230
                  by_cases c24 : t431 = true
                  · subst c24
                    have H1 : (spec_RankLabels.l0 k2 l1 x26_2 t427 (t427.length : Int) (wrap64 (x26_2 + 1))) = some (r1, r2) := by rw [if_pos rfl] at H; exact H
                    clear H
                    have H := H1
                    clear H1
                    have H' := Aside0.mk H
                    clear H
                    have p430 : 0 ≤ (x26_2 : Int) := of_decide_eq_true (by first | (with_reducible assumption) | assumption)
                    have q430 : x26_2 < (t427.length : Int) := of_decide_eq_true (by first | (with_reducible assumption) | assumption)
                    obtain ⟨ad430, A430_0, c430_0, e430, hx430_0, hl430_0, hi430_0⟩ := at_L1 (Kd.N_reads' HO_24.out).2.2 x26_2 p430 q430
                    cases e430
                    obtain ⟨ce430, hce430, hMe430, hcc430⟩ := Kd.N_get HO_24.out [] x26_2 p430 (by first | exact q430 | exact of_decide_eq_true (by first | (with_reducible assumption) | assumption) | (have e_ := (Kd.N_reads' HO_24.out).1; omega))
                    obtain ⟨ua430_0, uc430_0, rfl, ul430_0, ge430_0⟩ := Kd.FK_slice_open hMe430
                    have hv430_0 := hcc430 0 _ rfl
                    rw [Nat.add_zero, show ((Kd.slice 3 (Kd.int .i64))).sz = 1 from rfl, Nat.mul_one] at hv430_0
                    replace hv430_0 := Option.some.inj (hv430_0.symm.trans hx430_0)
                    injection hv430_0 with hva_ hvn_ hvc_
                    rw [hva_] at ge430_0
                    rw [hvc_] at ul430_0
                    have HL430_0 := Aside0.mk (show Kd.V (Kd.int .i64) 3 _ w.heap.size _ _ (rd_L1 t427 x26_2) from Kd.V_mk ul430_0 ge430_0)
                    clear hva_ hvn_ hvc_ ge430_0 ul430_0
                    clear hcc430 hce430
                    have HR430_0 := Aside0.mk hi430_0
                    have HC430_0 := Aside0.mk hl430_0
                    clear hi430_0 hl430_0
                    replace p430 := eq_true p430
                    replace q430 := eq_true q430
                    go_wp2_with (first | ((with_reducible refine gate_callee (f := 60) rfl ?_); refine goesL_ (some 33) rfl rfl Try.func60 (by kernel_rfl) rfl #[.slice A430_0 (rd_L1 t427 x26_2).length c430_0, .slice A1 l1.length c1] rfl (by (try simp only [List.map_toArray, List.map_cons, List.map_nil]); first | done | rfl | (simp only [List.length_drop, List.length_take]; rfl)) ?_; (with_reducible refine (spec_l1Same.calls k2 _ _ (rd_L1 t427 x26_2) _ _ l1 true _ ?side1 ?side2 ?side3 ?side4 A23.out).mono ?_); (case side1 => repeat (first | exact (by repeat (first | (with_reducible exact HR430_0.out) | (with_reducible refine Kd.C_alloc ?_ _) | (with_reducible refine Kd.C_drewN ?_ _) | (with_reducible refine Kd.C_drew ?_) | exact HR430_0.out)) | (with_reducible refine Kd.C_alloc ?_ _) | (with_reducible refine Kd.C_drewN ?_ _) | (with_reducible refine Kd.C_drew ?_))); (case side2 => exact HC430_0.out); (case side3 => repeat (first | exact (Kd.C_below HR1.out HB.out) | (with_reducible refine Kd.C_alloc ?_ _) | (with_reducible refine Kd.C_drewN ?_ _) | (with_reducible refine Kd.C_drew ?_))); (case side4 => exact HC1.out); rintro e w' ⟨rfl, ⟨nd, rfl⟩⟩; refine ⟨_, rfl, ?_⟩))
                    go_roundg k2
                    case measure => have := HJ3.out; have := HK2.out; omega
                    case rel => exact ⟨(x26_2), (wrap64 (x26_2 + 1)), (by first | rfl | (simp; done) | (simp [*]; done)), (by first | rfl | (simp; done) | (simp [*]; done)), H', ⟨by have := HJ3.out; have := HK2.out; omega⟩, ⟨by (with_reducible repeat (first | apply Kd.N_alloc | apply Kd.N_drewN | apply Kd.N_drew)); exact HO_24.out⟩, ⟨by (with_reducible repeat (first | refine blk_drewN ?_ _ | refine blk_drew ?_ | refine blk_alloc ?_ _)); exact BK424.out⟩, ⟨by repeat (first | (with_reducible first | exact HB.out | apply below_alloc | apply pw_below_drewN | apply below_drew1 | refine below_set ?_ GE424.out) | exact HB.out)⟩⟩
                  · replace c24 := Bool.eq_false_iff.mpr c24
                    subst c24
                    have H1 : (spec_RankLabels.l0 k2 l1 x8_2 t427 (t427.length : Int) (wrap64 (x26_2 + 1))) = some (r1, r2) := by rw [if_neg (show ¬ (false = true) by decide)] at H; exact H
                    clear H
                    have H := H1
                    clear H1
                    have H' := Aside0.mk H
                    clear H
                    have p430 : 0 ≤ (x26_2 : Int) := of_decide_eq_true (by first | (with_reducible assumption) | assumption)
                    have q430 : x26_2 < (t427.length : Int) := of_decide_eq_true (by first | (with_reducible assumption) | assumption)
                    obtain ⟨ad430, A430_0, c430_0, e430, hx430_0, hl430_0, hi430_0⟩ := at_L1 (Kd.N_reads' HO_24.out).2.2 x26_2 p430 q430
                    cases e430
                    obtain ⟨ce430, hce430, hMe430, hcc430⟩ := Kd.N_get HO_24.out [] x26_2 p430 (by first | exact q430 | exact of_decide_eq_true (by first | (with_reducible assumption) | assumption) | (have e_ := (Kd.N_reads' HO_24.out).1; omega))
                    obtain ⟨ua430_0, uc430_0, rfl, ul430_0, ge430_0⟩ := Kd.FK_slice_open hMe430
                    have hv430_0 := hcc430 0 _ rfl
                    rw [Nat.add_zero, show ((Kd.slice 3 (Kd.int .i64))).sz = 1 from rfl, Nat.mul_one] at hv430_0
                    replace hv430_0 := Option.some.inj (hv430_0.symm.trans hx430_0)
                    injection hv430_0 with hva_ hvn_ hvc_
                    rw [hva_] at ge430_0
                    rw [hvc_] at ul430_0
                    have HL430_0 := Aside0.mk (show Kd.V (Kd.int .i64) 3 _ w.heap.size _ _ (rd_L1 t427 x26_2) from Kd.V_mk ul430_0 ge430_0)
                    clear hva_ hvn_ hvc_ ge430_0 ul430_0
                    clear hcc430 hce430
                    have HR430_0 := Aside0.mk hi430_0
                    have HC430_0 := Aside0.mk hl430_0
                    clear hi430_0 hl430_0
                    replace p430 := eq_true p430
                    replace q430 := eq_true q430
                    go_wp2_with (first | ((with_reducible refine gate_callee (f := 60) rfl ?_); refine goesL_ (some 33) rfl rfl Try.func60 (by kernel_rfl) rfl #[.slice A430_0 (rd_L1 t427 x26_2).length c430_0, .slice A1 l1.length c1] rfl (by (try simp only [List.map_toArray, List.map_cons, List.map_nil]); first | done | rfl | (simp only [List.length_drop, List.length_take]; rfl)) ?_; (with_reducible refine (spec_l1Same.calls k2 _ _ (rd_L1 t427 x26_2) _ _ l1 false _ ?side1 ?side2 ?side3 ?side4 A23.out).mono ?_); (case side1 => repeat (first | exact (by repeat (first | (with_reducible exact HR430_0.out) | (with_reducible refine Kd.C_alloc ?_ _) | (with_reducible refine Kd.C_drewN ?_ _) | (with_reducible refine Kd.C_drew ?_) | exact HR430_0.out)) | (with_reducible refine Kd.C_alloc ?_ _) | (with_reducible refine Kd.C_drewN ?_ _) | (with_reducible refine Kd.C_drew ?_))); (case side2 => exact HC430_0.out); (case side3 => repeat (first | exact (Kd.C_below HR1.out HB.out) | (with_reducible refine Kd.C_alloc ?_ _) | (with_reducible refine Kd.C_drewN ?_ _) | (with_reducible refine Kd.C_drew ?_))); (case side4 => exact HC1.out); rintro e w' ⟨rfl, ⟨nd, rfl⟩⟩; refine ⟨_, rfl, ?_⟩))
                    go_roundg k2
                    case measure => have := HJ3.out; have := HK2.out; omega
                    case rel => exact ⟨(x8_2), (wrap64 (x26_2 + 1)), (by first | rfl | (simp; done) | (simp [*]; done)), (by first | rfl | (simp; done) | (simp [*]; done)), H', ⟨by have := HJ3.out; have := HK2.out; omega⟩, ⟨by (with_reducible repeat (first | apply Kd.N_alloc | apply Kd.N_drewN | apply Kd.N_drew)); exact HO_24.out⟩, ⟨by (with_reducible repeat (first | refine blk_drewN ?_ _ | refine blk_drew ?_ | refine blk_alloc ?_ _)); exact BK424.out⟩, ⟨by repeat (first | (with_reducible first | exact HB.out | apply below_alloc | apply pw_below_drewN | apply below_drew1 | refine below_set ?_ GE424.out) | exact HB.out)⟩⟩
                · rw [if_neg c22] at H
                  exact absurd H (by simp)
              · rw [if_neg c21] at H
                exact absurd H (by simp)
            · rw [if_neg c20] at H
              have c20b0 : decide (x26_2 < (t427.length : Int)) = false := decide_eq_false c20
              clear c20
              simp only [Option.some.injEq, Prod.mk.injEq] at H
              obtain ⟨rfl, rfl⟩ := H
              go_wp2
              go_ret2
              exact ⟨by first | rfl | (simp [errW_none, errW_some] <;> rfl) | (simp [*, errW_none, errW_some] <;> rfl), by repeat (first | (with_reducible first | exact HB.out | apply below_alloc | apply pw_below_drewN | apply below_drew1 | refine below_set ?_ GE424.out) | exact HB.out)⟩

end Go.Proofs.Ytemkddgfneohhaa.F
end

section
namespace Go.Proofs.Ytemkddgfneohhaa.Q
open Go.RowKit Go.Proofs.YtemkddgfneohhaaW.PrintWords
set_option linter.unusedVariables false
theorem wid {n : Int} (h0 : -9223372036854775808 ≤ n) (h1 : n ≤ 9223372036854775807) : wrap64 n = n := by unfold wrap64; omega
theorem wid1 {i n : Nat} (h : i < n) (hn : n ≤ 9223372036854775807) : wrap64 ((i : Int) + 1) = ((i + 1 : Nat) : Int) := by unfold wrap64; omega
theorem rdN (l : List Int) (i : Nat) : rd l (i : Int) = l.getD i 0 := by unfold rd; simp
theorem rdN' {l : List Int} {i : Nat} (h : i < l.length) : rd l (i : Int) = l[i] := by rw [rdN, List.getD_eq_getElem?_getD, List.getElem?_eq_getElem h]; rfl
theorem downTo {P : Nat → Prop} (n : Nat) (h0 : P n) (hs : ∀ i, i < n → P (i + 1) → P i) : ∀ i, i ≤ n → P i := by
  intro i hi
  obtain ⟨d, hd⟩ : ∃ d, n - i = d := ⟨_, rfl⟩
  induction d generalizing i with
  | zero => have : i = n := by omega
            subst this; exact h0
  | succ d ih => exact hs i (by omega) (ih (i + 1) (by omega) (by omega))
theorem evc {α : Type} {g : Nat → Option α} {r r' : α} (h : Ev g r) (e : r = r') : Ev g r' := e ▸ h
theorem Ev.ret {α : Type} {r r' : α} (e : r = r') : Ev (fun _ => some r) r' := e ▸ Ev.now r
/-- A call that needs no rounds. -/
theorem Ev.call {α β : Type} {o : Option α} {a : α} {f : Nat → α → Option β} {r : β} (h : o = some a) (k : Ev (fun n => f n a) r) : Ev (fun n => o.bind (f n)) r := by
  subst h; exact k
theorem Ev.yes {α : Type} {c : Prop} [Decidable c] {f g : Nat → Option α} {r : α} (h : c) (k : Ev f r) : Ev (fun n => if c then f n else g n) r := by
  obtain ⟨K, k⟩ := k
  exact ⟨K, fun n hn => by show (if c then f n else g n) = _; rw [if_pos h]; exact k n hn⟩
theorem Ev.no {α : Type} {c : Prop} [Decidable c] {f g : Nat → Option α} {r : α} (h : ¬ c) (k : Ev g r) : Ev (fun n => if c then f n else g n) r := by
  obtain ⟨K, k⟩ := k
  exact ⟨K, fun n hn => by show (if c then f n else g n) = _; rw [if_neg h]; exact k n hn⟩
theorem Ev.ite {α : Type} {c : Prop} [Decidable c] {f g : Nat → Option α} {r : α} (h1 : c → Ev f r) (h2 : ¬ c → Ev g r) : Ev (fun n => if c then f n else g n) r := by
  by_cases h : c
  · exact Ev.yes h (h1 h)
  · exact Ev.no h (h2 h)
theorem Ev.uniq {α : Type} {g : Nat → Option α} {r r' : α} (h : Ev g r) (h' : Ev g r') : r = r' := by
  obtain ⟨K, h⟩ := h
  obtain ⟨K', h'⟩ := h'
  have a := h (max K K') (by omega)
  have b := h' (max K K') (by omega)
  rw [a] at b
  exact Option.some.inj b
theorem Ev.const {α : Type} {o : Option α} {r : α} (h : o = some r) : Ev (fun _ => o) r := ⟨0, fun _ _ => h⟩

/-! ### bits -/
/-- The elements of a that are not in b. -/
def ndiff (a b : Nat) : Nat := a ^^^ (a &&& b)
theorem ndiff_bit (a b i : Nat) : (ndiff a b).testBit i = (a.testBit i && !b.testBit i) := by
  unfold ndiff; rw [Nat.testBit_xor, Nat.testBit_and]; cases a.testBit i <;> cases b.testBit i <;> rfl
theorem wrap_i64_id {n : Int} (h0 : -9223372036854775808 ≤ n) (h1 : n ≤ 9223372036854775807) : IntKind.i64.wrap n = n := by rw [IntKind.wrap_i64]; omega
theorem wraps62 (n : Int) (h0 : 0 ≤ n) (h1 : n < 2 ^ 62) : IntKind.i64.wrap n = n := wrap_i64_id (by omega) (by omega)
theorem bits_andN {a b : Nat} (ha : a < 2 ^ 62) (hb : b < 2 ^ 62) : Go.bits .and .i64 (a : Int) (b : Int) = ((a &&& b : Nat) : Int) :=
  (Go.bits_nat .i64 62 (by decide) wraps62 a b ha hb).1
theorem bits_orN {a b : Nat} (ha : a < 2 ^ 62) (hb : b < 2 ^ 62) : Go.bits .or .i64 (a : Int) (b : Int) = ((a ||| b : Nat) : Int) :=
  (Go.bits_nat .i64 62 (by decide) wraps62 a b ha hb).2
theorem lt_pow {a n m : Nat} (h : a < 2 ^ n) (hnm : n ≤ m) : a < 2 ^ m := Nat.lt_of_lt_of_le h (Nat.pow_le_pow_right (by decide) hnm)
theorem ndiff_le (a b : Nat) : ndiff a b ≤ a := by
  have h := Nat.and_le_left (n := a) (m := b)
  have hx : ndiff a b &&& (a &&& b) = 0 := by
    apply Nat.eq_of_testBit_eq
    intro i
    rw [Nat.testBit_and, ndiff_bit, Nat.testBit_and, Nat.zero_testBit]
    cases a.testBit i <;> cases b.testBit i <;> rfl
  apply Nat.le_of_testBit
  intro i hi
  rw [ndiff_bit] at hi
  simp at hi
  exact hi.1
theorem ndiff_lt {a b m : Nat} (h : a < m) : ndiff a b < m := Nat.lt_of_le_of_lt (ndiff_le a b) h
theorem bits_andNotN {a b : Nat} (ha : a < 2 ^ 62) (hb : b < 2 ^ 62) : Go.bits .andNot .i64 (a : Int) (b : Int) = ((ndiff a b : Nat) : Int) := by
  have e : Go.bits .andNot .i64 (a : Int) (b : Int) = IntKind.i64.wrap ((((BitVec.ofInt 64 a) &&& ~~~(BitVec.ofInt 64 b)).toNat : Nat) : Int) := rfl
  have e2 : ((BitVec.ofInt 64 (a : Int)) &&& ~~~(BitVec.ofInt 64 (b : Int))).toNat = ndiff a b := by
    apply Nat.eq_of_testBit_eq
    intro i
    rw [ndiff_bit, BitVec.ofInt_natCast, BitVec.ofInt_natCast]
    rw [BitVec.testBit_toNat, BitVec.getLsbD_and, BitVec.getLsbD_not, BitVec.getLsbD_ofNat, BitVec.getLsbD_ofNat]
    by_cases hi : i < 64
    · simp [hi]
    · have : a.testBit i = false := Nat.testBit_lt_two_pow (lt_pow ha (by omega))
      simp [hi, this]
  rw [e, e2]
  have h2 := ndiff_lt (b := b) ha
  exact wrap_i64_id (by omega) (by omega)
theorem shlN {i : Nat} (hi : i ≤ 61) : shl .i64 1 (i : Int) = ((2 ^ i : Nat) : Int) := by
  unfold shl
  have h1 : min (i : Int).toNat (IntKind.bits .i64) = i := by simp [IntKind.bits]; omega
  rw [h1]
  have h2 : (2 : Nat) ^ i < 2 ^ 62 := Nat.pow_lt_pow_right (by decide) (by omega)
  have e : (1 : Int) * 2 ^ i = ((2 ^ i : Nat) : Int) := by rw [Int.one_mul]; exact (Int.natCast_pow 2 i).symm
  rw [e]
  exact wraps62 _ (Int.natCast_nonneg _) (by
    have : ((2 ^ i : Nat) : Int) < ((4611686018427387904 : Nat) : Int) := by exact_mod_cast h2
    exact this)
theorem shrN (a i : Nat) (hi : i ≤ 64) : shr .i64 (a : Int) (i : Int) = ((a / 2 ^ i : Nat) : Int) := by
  unfold shr
  have h1 : min (i : Int).toNat (IntKind.bits .i64) = i := by simp [IntKind.bits]; omega
  rw [h1, Int.natCast_ediv, Int.natCast_pow]; rfl
theorem odd_bit (a i : Nat) : ((a / 2 ^ i) % 2 == 1) = a.testBit i := by
  rw [Nat.testBit_eq_decide_div_mod_eq]; rfl
theorem or_lt {a b n : Nat} (ha : a < 2 ^ n) (hb : b < 2 ^ n) : a ||| b < 2 ^ n := Nat.or_lt_two_pow ha hb
theorem bit_lt {a n i : Nat} (h : a < 2 ^ n) (hi : n ≤ i) : a.testBit i = false := Nat.testBit_lt_two_pow (lt_pow h hi)
theorem lt_of_bit {a n i : Nat} (h : a < 2 ^ n) (hi : a.testBit i = true) : i < n := by
  rcases Nat.lt_or_ge i n with h1 | h1
  · exact h1
  · rw [bit_lt h h1] at hi; cases hi
theorem pow_bit (i j : Nat) : (2 ^ i).testBit j = decide (i = j) := by
  rw [Nat.testBit_two_pow]
theorem pow_lt_pow {i n : Nat} (h : i < n) : 2 ^ i < 2 ^ n := Nat.pow_lt_pow_right (by decide) h
theorem ext_bits {a b n : Nat} (ha : a < 2 ^ n) (hb : b < 2 ^ n) (h : ∀ i, i < n → a.testBit i = b.testBit i) : a = b := by
  apply Nat.eq_of_testBit_eq
  intro i
  rcases Nat.lt_or_ge i n with h1 | h1
  · exact h i h1
  · rw [bit_lt ha h1, bit_lt hb h1]
end Go.Proofs.Ytemkddgfneohhaa.Q
end

section
namespace Go.Proofs.Ytemkddgfneohhaa.Q
open Go.RowKit Go.Proofs.YtemkddgfneohhaaW.PrintWords
set_option linter.unusedVariables false
/-- f holds at i, i + 1, .., n - 1. -/
def allFrom (f : Nat → Bool) (n i : Nat) : Bool := (List.range' i (n - i)).all f
theorem allFrom_end (f : Nat → Bool) (n : Nat) : allFrom f n n = true := by simp [allFrom]
theorem allFrom_step (f : Nat → Bool) {n i : Nat} (h : i < n) : allFrom f n i = (f i && allFrom f n (i + 1)) := by
  unfold allFrom
  obtain ⟨d, hd⟩ : ∃ d, n - i = d + 1 := ⟨n - i - 1, by omega⟩
  rw [hd, List.range'_succ, List.all_cons, show n - (i + 1) = d by omega]
theorem allFrom_iff (f : Nat → Bool) (n i : Nat) : allFrom f n i = true ↔ ∀ j, i ≤ j → j < n → f j = true := by
  unfold allFrom
  rw [List.all_eq_true]
  constructor
  · intro h j h1 h2
    exact h j (List.mem_range'_1.2 ⟨h1, by omega⟩)
  · intro h j hj
    obtain ⟨h1, h2⟩ := List.mem_range'_1.1 hj
    exact h j h1 (by omega)
theorem allFrom_congr {f g : Nat → Bool} {n i : Nat} (h : ∀ j, i ≤ j → j < n → f j = g j) : allFrom f n i = allFrom g n i := by
  rw [Bool.eq_iff_iff, allFrom_iff, allFrom_iff]
  exact ⟨fun H j a b => by rw [← h j a b]; exact H j a b, fun H j a b => by rw [h j a b]; exact H j a b⟩
theorem pow_int (i : Nat) : ((2 : Int) ^ i) = ((2 ^ i : Nat) : Int) := (Int.natCast_pow 2 i).symm
theorem mask_eq {i : Nat} (hi : i ≤ 61) : wrap64 ((shl .i64 1 (i : Int)) - 1) = (2 : Int) ^ i - 1 := by
  rw [shlN hi, pow_int]
  have h2 : (2 : Nat) ^ i ≤ 2 ^ 61 := Nat.pow_le_pow_right (by decide) hi
  have hp : 0 < 2 ^ i := Nat.two_pow_pos i
  apply wid <;> generalize 2 ^ i = z at * <;> omega
theorem bit_test {a : Nat} {j : Nat} (hj : j ≤ 64) : (Int.tmod (shr .i64 (a : Int) (j : Int)) 2 = 1) ↔ a.testBit j = true := by
  rw [shrN a j hj, Int.tmod_eq_emod_of_nonneg (Int.natCast_nonneg _), ← odd_bit, beq_iff_eq]
  omega
theorem range_false {a b : Int} {x : Int} (h : ¬ (a ≤ x ∧ x ≤ b)) : (decide (a ≤ x) && decide (x ≤ b)) = false := by
  rw [← Bool.not_eq_true, Bool.and_eq_true, decide_eq_true_eq, decide_eq_true_eq]; exact h
theorem range_true {a b : Int} {x : Int} (h : a ≤ x ∧ x ≤ b) : (decide (a ≤ x) && decide (x ≤ b)) = true := by
  rw [Bool.and_eq_true, decide_eq_true_eq, decide_eq_true_eq]; exact h
end Go.Proofs.Ytemkddgfneohhaa.Q
end

section
namespace Go.Proofs.Ytemkddgfneohhaa.Q
open Go.RowKit Go.Proofs.YtemkddgfneohhaaW.PrintWords Go.Proofs.Ytemkddgfneohhaa.F
set_option linter.unusedVariables false
theorem l1In_eq (a b c : Int) : spec_l1In.f a b c = some (decide (b ≤ a) && decide (a ≤ c)) := by
  unfold spec_l1In.f
  by_cases h : b ≤ a
  · rw [if_pos h]; simp [h]
  · rw [if_neg h]; simp [h]
end Go.Proofs.Ytemkddgfneohhaa.Q
end

section
namespace Go.Proofs.Ytemkddgfneohhaa.Q
open Go.RowKit Go.Proofs.YtemkddgfneohhaaW.PrintWords
set_option linter.unusedVariables false
theorem Ev.all {α : Type} {g : Nat → Nat → Option α} {r : Nat → α} : ∀ N : Nat, (∀ s, s < N → Ev (g s) (r s)) → ∃ K, ∀ k, K ≤ k → ∀ s, s < N → g s k = some (r s)
  | 0, _ => ⟨0, fun k _ s hs => absurd hs (Nat.not_lt_zero _)⟩
  | N + 1, h => by
    obtain ⟨K, hK⟩ := Ev.all N (fun s hs => h s (by omega))
    obtain ⟨K', hK'⟩ := h N (Nat.lt_succ_self _)
    refine ⟨K + K', fun k hk s hs => ?_⟩
    rcases Nat.lt_or_ge s N with h1 | h1
    · exact hK k (by omega) s h1
    · rw [show s = N by omega]; exact hK' k (by omega)
end Go.Proofs.Ytemkddgfneohhaa.Q
end

section
namespace Go.Proofs.Ytemkddgfneohhaa.Q
open Go.RowKit Go.Proofs.YtemkddgfneohhaaW.PrintWords Go.Proofs.Ytemkddgfneohhaa.F
set_option linter.unusedVariables false
theorem has_eq {a j : Nat} (ha : a < 2 ^ 62) (hj : j ≤ 64) : impl_has.f (a : Int) (j : Int) = some (a.testBit j) := by
  unfold impl_has.f
  rw [if_pos (Int.natCast_nonneg _), shrN a j hj]
  congr 1
  have h1 : a / 2 ^ j < 2 ^ 62 := Nat.lt_of_le_of_lt (Nat.div_le_self _ _) ha
  have := bits_andN (a := a / 2 ^ j) (b := 1) h1 (by decide)
  rw [show ((1 : Nat) : Int) = 1 from rfl] at this
  rw [this, ← odd_bit, Nat.and_one_is_mod]
  rw [Bool.eq_iff_iff, beq_iff_eq, beq_iff_eq]
  omega

end Go.Proofs.Ytemkddgfneohhaa.Q
end

section
namespace Go.Proofs.Ytemkddgfneohhaa.Q
open Go.RowKit Go.Proofs.YtemkddgfneohhaaW.PrintWords Go.Proofs.Ytemkddgfneohhaa.F
set_option linter.unusedVariables false
def inR (a b x : Int) : Bool := decide (a ≤ x) && decide (x ≤ b)
theorem inR_iff {a b x : Int} : inR a b x = true ↔ a ≤ x ∧ x ≤ b := by unfold inR; rw [Bool.and_eq_true, decide_eq_true_eq, decide_eq_true_eq]
theorem l1All_ev (l : List Int) (a b : Int) (h : l.length ≤ 9223372036854775807) : Ev (fun k => spec_l1All.f k l a b) (allFrom (fun i => inR a b (l.getD i 0)) l.length 0) := by
  unfold spec_l1All.f
  have key : ∀ i, i ≤ l.length → Ev (fun k => spec_l1All.l0 k a b l (l.length : Int) (i : Int)) (allFrom (fun i => inR a b (l.getD i 0)) l.length i) := by
    refine downTo _ ?_ ?_
    · refine Ev.step (by intro k; simp only [spec_l1All.l0]; rfl) (Ev.no (by omega) (Ev.ret (allFrom_end _ _).symm))
    · intro i hi ih
      refine Ev.step (by intro k; simp only [spec_l1All.l0]; rfl) (Ev.yes (by omega) (Ev.yes (by omega) (Ev.yes (by omega) ?_)))
      rw [wid1 hi (by omega), rdN, allFrom_step _ hi]
      refine Ev.call (l1In_eq _ _ _) ?_
      show Ev (fun k => if inR a b (l.getD i 0) = true then _ else _) (inR a b (l.getD i 0) && _)
      cases inR a b (l.getD i 0) with
      | true => exact Ev.yes rfl (evc ih (by simp))
      | false => exact Ev.no (by simp) (Ev.ret rfl)
  exact key 0 (by omega)
end Go.Proofs.Ytemkddgfneohhaa.Q
end

section
namespace Go.Proofs.Ytemkddgfneohhaa.Q
open Go.RowKit Go.Proofs.YtemkddgfneohhaaW.PrintWords
set_option linter.unusedVariables false
theorem getD_set {α : Type} (l : List α) (i j : Nat) (v d : α) (hi : i < l.length) : (l.set i v).getD j d = if i = j then v else l.getD j d := by
  simp only [List.getD_eq_getElem?_getD, List.getElem?_set]
  by_cases h : i = j
  · subst h; simp [hi]
  · simp [h]
theorem ext_getD {a b : List Int} (hl : a.length = b.length) (h : ∀ i, i < a.length → a.getD i 0 = b.getD i 0) : a = b := by
  apply List.ext_getElem hl
  intro i h1 h2
  have := h i h1
  rw [List.getD_eq_getElem?_getD, List.getD_eq_getElem?_getD, List.getElem?_eq_getElem h1, List.getElem?_eq_getElem h2] at this
  exact this
theorem reverse_getD (l : List Int) (i : Nat) (h : i < l.length) : l.reverse.getD i 0 = l.getD (l.length - 1 - i) 0 := by
  rw [List.getD_eq_getElem?_getD, List.getD_eq_getElem?_getD, List.getElem?_reverse h]
end Go.Proofs.Ytemkddgfneohhaa.Q
end

section
namespace Go.Proofs.Ytemkddgfneohhaa.Q
open Go.RowKit Go.Proofs.YtemkddgfneohhaaW.PrintWords Go.Proofs.Ytemkddgfneohhaa.F
set_option linter.unusedVariables false
theorem l1Same_run {a b : List Int} (hl : a.length = b.length) (h : a.length ≤ 1000) : ∀ i, i ≤ a.length → ∀ v : Bool, (v = true ↔ ∀ j, i ≤ j → j < a.length → a.getD j 0 = b.getD j 0) → Ev (fun k => spec_l1Same.l0 k a b (a.length : Int) (i : Int)) v := by
  refine downTo _ ?_ ?_
  · intro v hv
    refine Ev.step (by intro k; simp only [spec_l1Same.l0]; rfl) (Ev.no (by omega) (Ev.ret ?_))
    symm; rw [hv]; intro j h1 h2; omega
  · intro i hi ih v hv
    refine Ev.step (by intro k; simp only [spec_l1Same.l0]; rfl) (Ev.yes (by omega) (Ev.yes (by omega) (Ev.yes (by omega) (Ev.yes (by omega) ?_))))
    rw [rdN, rdN, wid (by omega) (by omega)]
    refine Ev.ite (fun he => ?_) (fun he => ?_)
    · refine ih v (hv.trans ?_)
      constructor
      · intro g j h1 h2
        exact g j (by omega) h2
      · intro g j h1 h2
        rcases Nat.lt_or_ge i j with h3 | h3
        · exact g j h3 h2
        · have : j = i := by omega
          rw [this]; exact he
    · refine Ev.ret ?_
      cases v with
      | false => rfl
      | true => exact absurd (hv.1 rfl i (Nat.le_refl _) hi) he
theorem l1Same_ev {a b : List Int} (hl : a.length = b.length) (h : a.length ≤ 1000) : Ev (fun k => spec_l1Same.f k a b) (decide (a = b)) := by
  unfold spec_l1Same.f
  refine Ev.yes (by omega) (l1Same_run hl h 0 (Nat.zero_le _) _ ?_)
  rw [decide_eq_true_eq]
  exact ⟨fun g j _ _ => by rw [g], fun g => ext_getD hl (fun i hi => g i (Nat.zero_le _) hi)⟩
end Go.Proofs.Ytemkddgfneohhaa.Q
end

section
namespace Go.Proofs.Ytemkddgfneohhaa.Q
open Go.RowKit Go.Proofs.YtemkddgfneohhaaW.PrintWords Go.Proofs.Ytemkddgfneohhaa.F
set_option linter.unusedVariables false
theorem eqIntS_ev (a b : List Int) (h : a.length ≤ 9223372036854775807) : Ev (fun k => laws_eqIntS.f k a b) (decide (a = b)) := by
  unfold laws_eqIntS.f
  refine Ev.ite (fun hl => ?_) (fun hl => Ev.ret ?_)
  · have hl' : a.length = b.length := by omega
    have key : ∀ i, i ≤ a.length → a.take i = b.take i → Ev (fun k => laws_eqIntS.l0 k a b (i : Int)) (decide (a = b)) := by
      refine downTo _ ?_ ?_
      · intro hp
        refine Ev.step (by intro k; simp only [laws_eqIntS.l0]; rfl) (Ev.no (by omega) (Ev.ret ?_))
        rw [List.take_length, hl', List.take_length] at hp
        simp [hp]
      · intro i hi ih hp
        refine Ev.step (by intro k; simp only [laws_eqIntS.l0]; rfl) (Ev.yes (by omega) (Ev.yes (by omega) (Ev.yes (by omega) ?_)))
        rw [wid1 hi (by omega), rdN, rdN]
        have ga : a.getD i 0 = a[i] := by rw [List.getD_eq_getElem?_getD, List.getElem?_eq_getElem hi]; rfl
        have gb : b.getD i 0 = b[i]'(by omega) := by rw [List.getD_eq_getElem?_getD, List.getElem?_eq_getElem (by omega)]; rfl
        rw [ga, gb]
        refine Ev.ite (fun h => ih ?_) (fun h => Ev.ret ?_)
        · rw [List.take_add_one, List.take_add_one, hp, List.getElem?_eq_getElem hi, List.getElem?_eq_getElem (show i < b.length by omega), h]
        · rw [decide_eq_false]
          intro e
          subst e
          exact h rfl
    exact key 0 (by omega) rfl
  · rw [decide_eq_false]
    intro e
    subst e
    exact hl rfl
theorem eqIntS_refl (a : List Int) (h : a.length ≤ 9223372036854775807) : Ev (fun k => laws_eqIntS.f k a a) true := evc (eqIntS_ev a a h) (by simp)
end Go.Proofs.Ytemkddgfneohhaa.Q
end

section
namespace Go.Proofs.Ytemkddgfneohhaa.Q
open Go.RowKit Go.Proofs.YtemkddgfneohhaaW.PrintWords Go.Proofs.Ytemkddgfneohhaa.F
set_option linter.unusedVariables false
theorem eqPoset_refl (a : List Int) (h : a.length ≤ 9223372036854775807) : Ev (fun k => laws_eqPoset.f k a a) true := by
  unfold laws_eqPoset.f
  exact Ev.bind (eqIntS_refl a h) (Ev.yes rfl (Ev.ret rfl))
end Go.Proofs.Ytemkddgfneohhaa.Q
end

section
namespace Go.Proofs.Ytemkddgfneohhaa.Q
open Go.RowKit Go.Proofs.YtemkddgfneohhaaW.PrintWords Go.Proofs.Ytemkddgfneohhaa.F
set_option linter.unusedVariables false
theorem szIntS_eq (l : List Int) (a : Nat) (ha : a ≤ 1048576) (h : l.length ≤ maxLen) : laws_szIntS.f l (a : Int) = some (if l.length ≤ a then ((a - l.length : Nat) : Int) else -1) := by
  unfold laws_szIntS.f
  unfold maxLen at h
  have e : wrap64 ((a : Int) - (l.length : Int)) = (a : Int) - (l.length : Int) := wid (by omega) (by omega)
  rw [e]
  by_cases hc : l.length ≤ a
  · rw [if_neg (by omega), if_pos hc]; congr 1; omega
  · rw [if_pos (by omega), if_neg hc]
end Go.Proofs.Ytemkddgfneohhaa.Q
end

section
namespace Go.Proofs.Ytemkddgfneohhaa.Q
open Go.RowKit Go.Proofs.YtemkddgfneohhaaW.PrintWords Go.Proofs.Ytemkddgfneohhaa.F
set_option linter.unusedVariables false
theorem szPoset_eq (l : List Int) (a : Nat) (ha : a ≤ 1048576) (h : l.length ≤ maxLen) : laws_szPoset.f l (a : Int) = some (if l.length ≤ a then ((a - l.length : Nat) : Int) else -1) := by
  unfold laws_szPoset.f
  rw [szIntS_eq l a ha h]
  by_cases hc : l.length ≤ a
  · simp only [if_pos hc, Option.bind_some]; rw [if_neg (by omega)]
  · simp only [if_neg hc, Option.bind_some]; rw [if_pos (by omega)]
end Go.Proofs.Ytemkddgfneohhaa.Q
end

section
namespace Go.Proofs.Ytemkddgfneohhaa.Q
open Go.RowKit Go.Proofs.YtemkddgfneohhaaW.PrintWords Go.Proofs.Ytemkddgfneohhaa.F
set_option linter.unusedVariables false
theorem toIntS_ev (l : List Int) (h : l.length ≤ 1048576) : Ev (fun k => laws_toIntS.f k l) l := by
  unfold laws_toIntS.f
  refine Ev.yes (by omega) (Ev.yes (by omega) ?_)
  have key : ∀ i, i ≤ l.length → ∀ acc : List Int, acc.length = l.length → acc.take i = l.take i → Ev (fun k => laws_toIntS.l0 k l acc (i : Int)) l := by
    refine downTo _ ?_ ?_
    · intro acc ha hi
      refine Ev.step (by intro k; simp only [laws_toIntS.l0]; rfl) (Ev.no (by omega) (Ev.ret ?_))
      rw [List.take_length, ← ha, List.take_length] at hi
      exact hi
    · intro i hi ih acc ha hp
      refine Ev.step (by intro k; simp only [laws_toIntS.l0]; rfl) (Ev.yes (by omega) (Ev.yes (by omega) (Ev.yes (by omega) ?_)))
      rw [wid1 hi (by omega), rdN, Int.toNat_natCast]
      refine ih _ (by simp [ha]) ?_
      rw [List.take_add_one, List.take_add_one, List.take_set_of_le (Nat.le_refl _), hp, List.getElem?_set, List.getD_eq_getElem?_getD, List.getElem?_eq_getElem hi]
      simp [ha, hi]
  exact key 0 (by omega) _ (by simp) (by simp)
end Go.Proofs.Ytemkddgfneohhaa.Q
end

section
namespace Go.Proofs.Ytemkddgfneohhaa.Q
open Go.RowKit Go.Proofs.YtemkddgfneohhaaW.PrintWords Go.Proofs.Ytemkddgfneohhaa.F
set_option linter.unusedVariables false
theorem toPoset_ev (l : List Int) (h : l.length ≤ 1048576) : Ev (fun k => laws_toPoset.f k l) l := by
  unfold laws_toPoset.f
  exact Ev.bind (toIntS_ev l h) (Ev.ret rfl)
end Go.Proofs.Ytemkddgfneohhaa.Q
end

section
namespace Go.Proofs.Ytemkddgfneohhaa.Q
open Go.RowKit Go.Proofs.YtemkddgfneohhaaW.PrintWords
set_option linter.unusedVariables false
/-- a, a + 1, .., n of them. -/
def upFrom (a : Nat) (n : Nat) : List Int := (List.range' a n).map Int.ofNat
theorem upFrom_len (a n : Nat) : (upFrom a n).length = n := by simp [upFrom]
theorem upFrom_get {a n i : Nat} (h : i < n) : (upFrom a n).getD i 0 = ((a + i : Nat) : Int) := by
  rw [List.getD_eq_getElem?_getD]
  simp [upFrom, h]
end Go.Proofs.Ytemkddgfneohhaa.Q
end

section
namespace Go.Proofs.Ytemkddgfneohhaa.Q
open Go.RowKit Go.Proofs.YtemkddgfneohhaaW.PrintWords Go.Proofs.Ytemkddgfneohhaa.F
set_option linter.unusedVariables false
theorem heldIntS_ev (a n : Nat) (h : a + n ≤ 4611686018427387904) : Ev (fun k => laws_heldIntS.f k (upFrom a n) (a : Int)) ((a + n : Nat) : Int) := by
  unfold laws_heldIntS.f
  have key : ∀ i, i ≤ n → Ev (fun k => laws_heldIntS.l0 k (upFrom a n) ((a + i : Nat) : Int) (i : Int)) ((a + n : Nat) : Int) := by
    refine downTo _ ?_ ?_
    · refine Ev.step (by intro k; simp only [laws_heldIntS.l0]; rfl) (Ev.no (by rw [upFrom_len]; omega) (Ev.ret rfl))
    · intro i hi ih
      refine Ev.step (by intro k; simp only [laws_heldIntS.l0]; rfl) (Ev.yes (by rw [upFrom_len]; omega) (Ev.yes (by omega) (Ev.yes ?_ ?_)))
      · rw [rdN, upFrom_get hi]
      · rw [wid1 hi (by omega), wid1 (i := a + i) (n := a + n) (by omega) (by omega)]
        exact ih
  exact key 0 (by omega)
theorem heldIntS_ev1 (n : Nat) (h : n ≤ 4611686018427387000) : Ev (fun k => laws_heldIntS.f k (upFrom 1 n) 1) ((1 + n : Nat) : Int) := heldIntS_ev 1 n (by omega)
end Go.Proofs.Ytemkddgfneohhaa.Q
end

section
namespace Go.Proofs.Ytemkddgfneohhaa.Q
open Go.RowKit Go.Proofs.YtemkddgfneohhaaW.PrintWords Go.Proofs.Ytemkddgfneohhaa.F
set_option linter.unusedVariables false
theorem markIntS_ev (l : List Int) (a : Nat) (h : a + l.length ≤ 4611686018427387904) : Ev (fun k => laws_markIntS.f k l (a : Int)) (((a + l.length : Nat) : Int), upFrom a l.length) := by
  unfold laws_markIntS.f
  have key : ∀ i, i ≤ l.length → ∀ acc : List Int, acc.length = l.length → acc.take i = upFrom a i → Ev (fun k => laws_markIntS.l0 k acc ((a + i : Nat) : Int) (i : Int)) (((a + l.length : Nat) : Int), upFrom a l.length) := by
    refine downTo _ ?_ ?_
    · intro acc ha hp
      refine Ev.step (by intro k; simp only [laws_markIntS.l0]; rfl) (Ev.no (by omega) (Ev.ret ?_))
      rw [← ha, List.take_length] at hp
      rw [hp, ha]
    · intro i hi ih acc ha hp
      refine Ev.step (by intro k; simp only [laws_markIntS.l0]; rfl) (Ev.yes (by omega) (Ev.yes (by omega) ?_))
      rw [wid1 hi (by omega), wid1 (i := a + i) (n := a + l.length) (by omega) (by omega), Int.toNat_natCast]
      refine ih _ (by simp [ha]) ?_
      rw [List.take_add_one, List.take_set_of_le (Nat.le_refl _), hp, List.getElem?_set]
      simp [ha, hi, upFrom, List.range'_concat]
  exact key 0 (by omega) l rfl (by simp [upFrom])
theorem markIntS_ev1 (l : List Int) (h : l.length ≤ 4611686018427387000) : Ev (fun k => laws_markIntS.f k l 1) (((1 + l.length : Nat) : Int), upFrom 1 l.length) := markIntS_ev l 1 (by omega)
end Go.Proofs.Ytemkddgfneohhaa.Q
end

section
namespace Go.Proofs.Ytemkddgfneohhaa.Q
open Go.RowKit Go.Proofs.YtemkddgfneohhaaW.PrintWords Go.Proofs.Ytemkddgfneohhaa.F
set_option linter.unusedVariables false
theorem markPoset_ev (l : List Int) (a : Nat) (h : a + l.length ≤ 4611686018427387904) : Ev (fun k => laws_markPoset.f k l (a : Int)) (((a + l.length : Nat) : Int), upFrom a l.length) := by
  unfold laws_markPoset.f
  exact Ev.bind (markIntS_ev l a h) (Ev.ret rfl)
theorem markPoset_ev1 (l : List Int) (h : l.length ≤ 4611686018427387000) : Ev (fun k => laws_markPoset.f k l 1) (((1 + l.length : Nat) : Int), upFrom 1 l.length) := markPoset_ev l 1 (by omega)
end Go.Proofs.Ytemkddgfneohhaa.Q
end

section
namespace Go.Proofs.Ytemkddgfneohhaa.Q
end Go.Proofs.Ytemkddgfneohhaa.Q
end

section
namespace Go.Proofs.Ytemkddgfneohhaa.Q
open Go.RowKit Go.Proofs.YtemkddgfneohhaaW.PrintWords Go.Proofs.Ytemkddgfneohhaa.F
set_option linter.unusedVariables false
theorem poIn_eq {a j : Nat} (hj : j ≤ 64) : spec_poIn.f (a : Int) (j : Int) = some (a.testBit j) := by
  unfold spec_poIn.f
  rw [if_pos (Int.natCast_nonneg _)]
  congr 1
  rw [Bool.eq_iff_iff, beq_iff_eq]
  exact bit_test hj
end Go.Proofs.Ytemkddgfneohhaa.Q
end

section
namespace Go.Proofs.Ytemkddgfneohhaa.Q
open Go.RowKit Go.Proofs.YtemkddgfneohhaaW.PrintWords
set_option linter.unusedVariables false
/-- What is less than element i, as a set. -/
def L (p : List Int) (i : Nat) : Nat := (p.getD i 0).toNat
def rowOk (p : List Int) (i : Nat) : Bool := decide (0 ≤ p.getD i 0) && decide (p.getD i 0 ≤ 2 ^ i - 1) && allFrom (fun j => !(L p i).testBit j || decide (Go.bits .andNot .i64 (p.getD j 0) (p.getD i 0) = 0)) i 0
def isPo (p : List Int) : Bool := decide (1 ≤ p.length) && decide (p.length ≤ 10) && allFrom (rowOk p) p.length 0
structure PO (p : List Int) : Prop where
  pos : 1 ≤ p.length
  small : p.length ≤ 10
  val : ∀ i, i < p.length → p.getD i 0 = (L p i : Int)
  lt : ∀ i, i < p.length → L p i < 2 ^ i
  tr : ∀ i j, i < p.length → (L p i).testBit j = true → ndiff (L p j) (L p i) = 0
theorem L_big {p : List Int} {i : Nat} (h : p.length ≤ i) : L p i = 0 := by
  unfold L; rw [List.getD_eq_getElem?_getD, List.getElem?_eq_none h]; rfl
theorem isPo_iff (p : List Int) : isPo p = true ↔ PO p := by
  unfold isPo
  rw [Bool.and_eq_true, Bool.and_eq_true, decide_eq_true_eq, decide_eq_true_eq, allFrom_iff]
  constructor
  · rintro ⟨⟨h1, h2⟩, h3⟩
    have hv : ∀ i, i < p.length → p.getD i 0 = (L p i : Int) ∧ L p i < 2 ^ i := by
      intro i hi
      have := h3 i (Nat.zero_le _) hi
      simp only [rowOk, Bool.and_eq_true, decide_eq_true_eq] at this
      obtain ⟨⟨a, b⟩, _⟩ := this
      rw [pow_int] at b
      have hp : 0 < 2 ^ i := Nat.two_pow_pos i
      unfold L
      generalize 2 ^ i = z at *
      omega
    refine ⟨h1, h2, fun i hi => (hv i hi).1, fun i hi => (hv i hi).2, fun i j hi hj => ?_⟩
    have hji : j < i := lt_of_bit (hv i hi).2 hj
    have := h3 i (Nat.zero_le _) hi
    simp only [rowOk, Bool.and_eq_true] at this
    have h4 := (allFrom_iff _ _ _).1 this.2 j (Nat.zero_le _) hji
    rw [hj] at h4
    simp only [Bool.not_true, Bool.false_or, decide_eq_true_eq] at h4
    rw [(hv i hi).1, (hv j (by omega)).1, bits_andNotN (lt_pow (hv j (by omega)).2 (by omega)) (lt_pow (hv i hi).2 (by omega))] at h4
    exact_mod_cast h4
  · intro h
    refine ⟨⟨h.pos, h.small⟩, fun i _ hi => ?_⟩
    have hs := h.small
    have hl := h.lt i hi
    simp only [rowOk, Bool.and_eq_true, decide_eq_true_eq]
    refine ⟨⟨by rw [h.val i hi]; omega, by rw [h.val i hi, pow_int]; generalize 2 ^ i = z at *; omega⟩, ?_⟩
    rw [allFrom_iff]
    intro j _ hj
    cases hb : (L p i).testBit j with
    | false => rfl
    | true =>
      simp only [Bool.not_true, Bool.false_or, decide_eq_true_eq]
      rw [h.val i hi, h.val j (by omega), bits_andNotN (lt_pow (h.lt j (by omega)) (by omega)) (lt_pow hl (by omega)), h.tr i j hi hb]
      rfl
theorem isPo_false {p : List Int} (h : ¬ PO p) : isPo p = false := by
  cases e : isPo p with
  | false => rfl
  | true => exact absurd ((isPo_iff p).1 e) h

/-- The elements of a set, in order. -/
def itemsN (m : Nat) : List Nat := (List.range 10).filter m.testBit
def ints (l : List Nat) : List Int := l.map Int.ofNat
theorem ints_len (l : List Nat) : (ints l).length = l.length := by simp [ints]
theorem ints_app (a b : List Nat) : ints (a ++ b) = ints a ++ ints b := by simp [ints]
theorem ints_get (l : List Nat) (i : Nat) : (ints l).getD i 0 = ((l.getD i 0 : Nat) : Int) := by
  simp only [ints, List.getD_eq_getElem?_getD, List.getElem?_map]
  cases l[i]? <;> rfl
theorem rd_ints (l : List Nat) (i : Nat) : rd (ints l) (i : Int) = ((l.getD i 0 : Nat) : Int) := by rw [rdN, ints_get]
theorem mem_itemsN {m j : Nat} : j ∈ itemsN m ↔ j < 10 ∧ m.testBit j = true := by
  unfold itemsN; rw [List.mem_filter, List.mem_range]
theorem itemsN_len (m : Nat) : (itemsN m).length ≤ 10 := by
  unfold itemsN; have := List.length_filter_le m.testBit (List.range 10); simpa using this
theorem rowOk_false {p : List Int} {i : Nat} (h : ¬ (0 ≤ p.getD i 0 ∧ p.getD i 0 ≤ 2 ^ i - 1)) : rowOk p i = false := by
  unfold rowOk; rw [range_false h]; rfl
theorem rowOk_true {p : List Int} {i : Nat} (h : 0 ≤ p.getD i 0 ∧ p.getD i 0 ≤ 2 ^ i - 1) :
    rowOk p i = allFrom (fun j => !(L p i).testBit j || decide (Go.bits .andNot .i64 (p.getD j 0) (p.getD i 0) = 0)) i 0 := by
  unfold rowOk; rw [range_true h]; rfl
theorem all_drop_step {α : Type} (f : α → Bool) (l : List α) (d : α) {i : Nat} (h : i < l.length) : (l.drop i).all f = (f (l.getD i d) && (l.drop (i + 1)).all f) := by
  rw [List.drop_eq_getElem_cons h, List.all_cons, List.getD_eq_getElem?_getD, List.getElem?_eq_getElem h]; rfl
theorem items_lt {m i : Nat} {j : Nat} (hm : m < 2 ^ i) (hj : j < (itemsN m).length) : (itemsN m).getD j 0 < i := by
  rw [List.getD_eq_getElem?_getD, List.getElem?_eq_getElem hj]
  have := List.getElem_mem hj
  exact lt_of_bit hm (mem_itemsN.1 this).2
theorem items_all {m i : Nat} (hm : m < 2 ^ i) (hi : i ≤ 10) (f : Nat → Bool) : (itemsN m).all f = allFrom (fun j => !m.testBit j || f j) i 0 := by
  rw [Bool.eq_iff_iff, List.all_eq_true, allFrom_iff]
  constructor
  · intro h j _ hj
    cases hb : m.testBit j with
    | false => rfl
    | true => rw [h j (mem_itemsN.2 ⟨by omega, hb⟩)]; rfl
  · intro h j hj
    obtain ⟨h1, h2⟩ := mem_itemsN.1 hj
    have := h j (Nat.zero_le _) (lt_of_bit hm h2)
    rw [h2] at this
    simpa using this
end Go.Proofs.Ytemkddgfneohhaa.Q
end

section
namespace Go.Proofs.Ytemkddgfneohhaa.Q
open Go.RowKit Go.Proofs.YtemkddgfneohhaaW.PrintWords Go.Proofs.Ytemkddgfneohhaa.F
set_option linter.unusedVariables false
theorem items_ev (m : Nat) (hm : m < 2 ^ 62) : Ev (fun k => impl_items.f k (m : Int)) (ints (itemsN m)) := by
  show Ev (fun k => impl_items.l0 k (m : Int) [] 0) _
  have key : ∀ i, i ≤ 10 → ∀ acc : List Int, acc.length ≤ i → Ev (fun k => impl_items.l0 k (m : Int) acc (i : Int)) (acc ++ ints ((List.range' i (10 - i)).filter m.testBit)) := by
    refine downTo 10 ?_ ?_
    · intro acc _
      refine Ev.step (by intro k; simp only [impl_items.l0]; rfl) ?_
      refine Ev.no (by omega) (Ev.ret (by simp [ints]))
    · intro i hi ih acc ha
      refine Ev.step (by intro k; simp only [impl_items.l0]; rfl) ?_
      refine Ev.yes (by omega) (Ev.call (has_eq hm (by omega)) ?_)
      have hr : List.range' i (10 - i) = i :: List.range' (i + 1) (10 - (i + 1)) := by
        rw [show 10 - i = (10 - (i + 1)) + 1 by omega, List.range'_succ]
      rw [hr, wid1 hi (by omega)]
      cases hb : m.testBit i with
      | true =>
        refine Ev.yes rfl (Ev.yes (by omega) (evc (ih (acc ++ [(i : Int)]) (by simp; omega)) ?_))
        rw [List.filter_cons_of_pos hb]
        simp [ints]
      | false =>
        refine Ev.no (by simp) (evc (ih acc (by omega)) ?_)
        rw [List.filter_cons_of_neg (by simp [hb])]
  have := key 0 (by omega) [] (by simp)
  exact evc this (by simp [itemsN, List.range_eq_range'])

end Go.Proofs.Ytemkddgfneohhaa.Q
end

section
namespace Go.Proofs.Ytemkddgfneohhaa.Q
open Go.RowKit Go.Proofs.YtemkddgfneohhaaW.PrintWords
set_option linter.unusedVariables false
/-- The set of the e below n with c e. -/
def maskOf : Nat → (Nat → Bool) → Nat
  | 0, _ => 0
  | n + 1, c => if c n then maskOf n c ||| 2 ^ n else maskOf n c
theorem maskOf_bit (n : Nat) (c : Nat → Bool) (i : Nat) : (maskOf n c).testBit i = (decide (i < n) && c i) := by
  induction n with
  | zero => simp [maskOf]
  | succ n ih =>
    unfold maskOf
    by_cases hc : c n = true
    · rw [if_pos hc, Nat.testBit_or, ih, pow_bit]
      by_cases h : n = i
      · subst h; simp [hc]
      · have : decide (i < n + 1) = decide (i < n) := by rw [decide_eq_decide]; omega
        rw [this]; simp [h]
    · rw [if_neg hc, ih]
      by_cases h : n = i
      · subst h; simp at hc; simp [hc]
      · have : decide (i < n + 1) = decide (i < n) := by rw [decide_eq_decide]; omega
        rw [this]
theorem maskOf_lt (n : Nat) (c : Nat → Bool) : maskOf n c < 2 ^ n := by
  apply Nat.lt_pow_two_of_testBit
  intro i hi
  rw [maskOf_bit, decide_eq_false (by omega)]; rfl
def subB (a b : Nat) : Bool := ndiff a b == 0
theorem ndiff_zero {a b : Nat} : ndiff a b = 0 ↔ ∀ i, a.testBit i = true → b.testBit i = true := by
  constructor
  · intro h i hi
    have := ndiff_bit a b i
    rw [h, hi, Nat.zero_testBit] at this
    cases hb : b.testBit i with
    | true => rfl
    | false => rw [hb] at this; simp at this
  · intro h
    apply Nat.eq_of_testBit_eq
    intro i
    rw [ndiff_bit, Nat.zero_testBit]
    cases ha : a.testBit i with
    | false => rfl
    | true => rw [h i ha]; rfl
theorem subB_iff {a b : Nat} : subB a b = true ↔ ∀ i, a.testBit i = true → b.testBit i = true := by unfold subB; rw [beq_iff_eq]; exact ndiff_zero
/-- The set of all elements of a poset. -/
def allN (p : List Int) : Nat := 2 ^ p.length - 1
theorem allN_bit (p : List Int) (i : Nat) : (allN p).testBit i = decide (i < p.length) := by unfold allN; rw [Nat.testBit_two_pow_sub_one]
theorem allN_lt (p : List Int) : allN p < 2 ^ p.length := by unfold allN; have := Nat.two_pow_pos p.length; omega
/-- A number that is a set of elements of p. -/
def setB (p : List Int) (x : Int) : Bool := decide (0 ≤ x) && decide (x ≤ ((allN p : Nat) : Int))
theorem setB_iff {p : List Int} {x : Int} : setB p x = true ↔ ∃ s : Nat, x = (s : Int) ∧ s < 2 ^ p.length := by
  unfold setB
  rw [Bool.and_eq_true, decide_eq_true_eq, decide_eq_true_eq]
  have := Nat.two_pow_pos p.length
  unfold allN
  constructor
  · rintro ⟨h1, h2⟩; exact ⟨x.toNat, by omega, by omega⟩
  · rintro ⟨s, rfl, h⟩; omega
/-- A set that has with each element all that are less. -/
def idealB (p : List Int) (s : Nat) : Bool := allFrom (fun i => !s.testBit i || subB (L p i) s) p.length 0
theorem idealB_iff {p : List Int} {s : Nat} : idealB p s = true ↔ ∀ i, i < p.length → s.testBit i = true → ∀ j, (L p i).testBit j = true → s.testBit j = true := by
  unfold idealB
  rw [allFrom_iff]
  constructor
  · intro h i hi hs
    have := h i (Nat.zero_le _) hi
    rw [hs] at this
    exact subB_iff.1 (by simpa using this)
  · intro h i _ hi
    cases hs : s.testBit i with
    | false => rfl
    | true => rw [subB_iff.2 (h i hi hs)]; rfl
def closeN (p : List Int) (s : Nat) : Nat := (itemsN s).foldl (fun a e => a ||| L p e) s
theorem foldl_or_bit (g : Nat → Nat) (l : List Nat) (a i : Nat) : (l.foldl (fun a e => a ||| g e) a).testBit i = (a.testBit i || l.any fun e => (g e).testBit i) := by
  induction l generalizing a with
  | nil => simp
  | cons x l ih => rw [List.foldl_cons, ih, Nat.testBit_or, List.any_cons, Bool.or_assoc]
theorem closeN_bit {p : List Int} {s i : Nat} : (closeN p s).testBit i = (s.testBit i || (itemsN s).any fun e => (L p e).testBit i) := foldl_or_bit _ _ _ _
theorem closeN_eq {p : List Int} (hp : PO p) {s : Nat} (hs : s < 2 ^ p.length) : (closeN p s == s) = idealB p s := by
  have hn := hp.small
  rw [Bool.eq_iff_iff, beq_iff_eq, idealB_iff]
  constructor
  · intro h i hi hb j hj
    have := closeN_bit (p := p) (s := s) (i := j)
    rw [h] at this
    rw [this]
    have : (itemsN s).any (fun e => (L p e).testBit j) = true := List.any_eq_true.2 ⟨i, mem_itemsN.2 ⟨by omega, hb⟩, hj⟩
    rw [this]; simp
  · intro h
    apply Nat.eq_of_testBit_eq
    intro i
    rw [closeN_bit]
    cases hb : s.testBit i with
    | true => rfl
    | false =>
      rw [Bool.false_or, ← Bool.not_eq_true, List.any_eq_true]
      rintro ⟨e, he, hj⟩
      obtain ⟨_, h2⟩ := mem_itemsN.1 he
      have := h e (lt_of_bit hs h2) h2 i hj
      rw [this] at hb; cases hb
theorem L_lt {p : List Int} (hp : PO p) {i : Nat} (hi : i < p.length) : L p i < 2 ^ p.length := lt_pow (hp.lt i hi) (by omega)
theorem foldl_or_lt (g : Nat → Nat) (l : List Nat) (a n : Nat) (ha : a < 2 ^ n) (hg : ∀ e, e ∈ l → g e < 2 ^ n) : l.foldl (fun a e => a ||| g e) a < 2 ^ n := by
  induction l generalizing a with
  | nil => exact ha
  | cons x l ih => exact ih _ (or_lt ha (hg x List.mem_cons_self)) (fun e he => hg e (List.mem_cons_of_mem _ he))
theorem closeN_lt {p : List Int} (hp : PO p) {s : Nat} (hs : s < 2 ^ p.length) : closeN p s < 2 ^ p.length :=
  foldl_or_lt _ _ _ _ hs (fun e he => L_lt hp (lt_of_bit hs (mem_itemsN.1 he).2))
theorem foldl_drop_step {α β : Type} (f : β → α → β) (l : List α) (d : α) (b : β) {i : Nat} (h : i < l.length) : (l.drop i).foldl f b = (l.drop (i + 1)).foldl f (f b (l.getD i d)) := by
  rw [List.drop_eq_getElem_cons h, List.foldl_cons, List.getD_eq_getElem?_getD, List.getElem?_eq_getElem h]; rfl
end Go.Proofs.Ytemkddgfneohhaa.Q
end

section
namespace Go.Proofs.Ytemkddgfneohhaa.Q
open Go.RowKit Go.Proofs.YtemkddgfneohhaaW.PrintWords
set_option linter.unusedVariables false
def sumL : List Nat → Nat
  | [] => 0
  | x :: l => x + sumL l
theorem sumL_append (a b : List Nat) : sumL (a ++ b) = sumL a + sumL b := by
  induction a with
  | nil => simp [sumL]
  | cons x a ih => simp only [List.cons_append, sumL, ih]; omega
theorem sumL_le (l : List Nat) (b n : Nat) (h : ∀ x ∈ l, x ≤ b) (hn : l.length ≤ n) : sumL l ≤ n * b := by
  induction l generalizing n with
  | nil => exact Nat.zero_le _
  | cons x l ih =>
    cases n with
    | zero => simp at hn
    | succ n =>
      have h1 := h x List.mem_cons_self
      have h2 := ih n (fun y hy => h y (List.mem_cons_of_mem _ hy)) (by simpa using hn)
      rw [Nat.add_mul]; simp only [sumL]; omega
/-- The elements that can come behind those of s. -/
def nextN (p : List Int) (s : Nat) : List Nat := (List.range 10).filter fun e => decide (e < p.length) && !s.testBit e && subB (L p e) s
theorem mem_nextN {p : List Int} {s e : Nat} : e ∈ nextN p s ↔ e < 10 ∧ e < p.length ∧ s.testBit e = false ∧ subB (L p e) s = true := by
  unfold nextN
  rw [List.mem_filter, List.mem_range, Bool.and_eq_true, Bool.and_eq_true, decide_eq_true_eq, Bool.not_eq_true']
  constructor
  · rintro ⟨a, ⟨b, c⟩, d⟩; exact ⟨a, b, c, d⟩
  · rintro ⟨a, b, c, d⟩; exact ⟨a, ⟨b, c⟩, d⟩
theorem nextN_len (p : List Int) (s : Nat) : (nextN p s).length ≤ 10 := by
  unfold nextN; exact Nat.le_trans (List.length_filter_le _ _) (by simp)
def cnt (p : List Int) : Nat → Nat → Nat
  | 0, s => if s = allN p then 1 else 0
  | d + 1, s => if s = allN p then 1 else sumL ((nextN p s).map fun e => cnt p d (s ||| 2 ^ e))
theorem cnt_le (p : List Int) (d s : Nat) : cnt p d s ≤ 10 ^ d := by
  induction d generalizing s with
  | zero => unfold cnt; split <;> simp
  | succ d ih =>
    unfold cnt
    have h1 : 1 ≤ 10 ^ (d + 1) := Nat.one_le_pow _ _ (by decide)
    split
    · exact h1
    · have := sumL_le ((nextN p s).map fun e => cnt p d (s ||| 2 ^ e)) (10 ^ d) 10 (fun x hx => by obtain ⟨e, _, rfl⟩ := List.mem_map.1 hx; exact ih _) (by rw [List.length_map]; exact nextN_len p s)
      rw [Nat.pow_succ]; omega
def miss (p : List Int) (s : Nat) : Nat := (List.range p.length).countP fun e => !s.testBit e
theorem miss_le (p : List Int) (s : Nat) : miss p s ≤ p.length := by unfold miss; have := List.countP_le_length (p := fun e => !s.testBit e) (l := List.range p.length); simpa using this
theorem countP_lt {α : Type} (f g : α → Bool) (l : List α) (h : ∀ x ∈ l, f x = true → g x = true) (x : α) (hx : x ∈ l) (hg : g x = true) (hf : f x = false) : l.countP f < l.countP g := by
  induction l with
  | nil => cases hx
  | cons y l ih =>
    have hle : l.countP f ≤ l.countP g := List.countP_mono_left (fun z hz => h z (List.mem_cons_of_mem _ hz))
    rw [List.countP_cons, List.countP_cons]
    rcases List.mem_cons.1 hx with rfl | hx'
    · rw [hf, hg]; simp; omega
    · have := ih (fun z hz => h z (List.mem_cons_of_mem _ hz)) hx'
      have hy := h y List.mem_cons_self
      cases hfy : f y with
      | true => rw [hy hfy]; simp; omega
      | false => cases g y <;> simp <;> omega
theorem miss_lt {p : List Int} {s e : Nat} (he : e < p.length) (hb : s.testBit e = false) : miss p (s ||| 2 ^ e) < miss p s := by
  unfold miss
  refine countP_lt _ _ _ (fun x _ hx => ?_) e (List.mem_range.2 he) (by rw [hb]; rfl) ?_
  · rw [Nat.testBit_or] at hx
    cases h : s.testBit x with
    | false => rfl
    | true => rw [h] at hx; simp at hx
  · rw [Nat.testBit_or, pow_bit]; simp
theorem miss_zero {p : List Int} {s : Nat} (hs : s < 2 ^ p.length) (h : miss p s = 0) : s = allN p := by
  refine ext_bits hs (allN_lt p) (fun i hi => ?_)
  rw [allN_bit, decide_eq_true hi]
  unfold miss at h
  rw [List.countP_eq_zero] at h
  have := h i (List.mem_range.2 hi)
  simpa using this
theorem add_lt {p : List Int} {s e : Nat} (hs : s < 2 ^ p.length) (he : e < p.length) : s ||| 2 ^ e < 2 ^ p.length := or_lt hs (pow_lt_pow he)
theorem cnt_fuel {p : List Int} : ∀ (d d' s : Nat), s < 2 ^ p.length → miss p s ≤ d → miss p s ≤ d' → cnt p d s = cnt p d' s := by
  intro d
  induction d with
  | zero =>
    intro d' s hs h _
    have := miss_zero hs (by omega)
    subst this
    cases d' <;> simp [cnt]
  | succ d ih =>
    intro d' s hs h h'
    by_cases ha : s = allN p
    · subst ha; cases d' <;> simp [cnt]
    · cases d' with
      | zero => exact absurd (miss_zero hs (by omega)) ha
      | succ d' =>
        simp only [cnt, if_neg ha]
        congr 1
        apply List.map_congr_left
        intro e he
        obtain ⟨_, h1, h2, _⟩ := mem_nextN.1 he
        have := miss_lt h1 h2
        exact ih d' _ (add_lt hs h1) (by omega) (by omega)
/-- In how many orders the elements outside of s can follow. -/
def ways (p : List Int) (s : Nat) : Nat := cnt p p.length s
theorem ways_step {p : List Int} {s : Nat} (hs : s < 2 ^ p.length) (ha : s ≠ allN p) : ways p s = sumL ((nextN p s).map fun e => ways p (s ||| 2 ^ e)) := by
  unfold ways
  rw [cnt_fuel p.length (p.length + 1) s hs (miss_le p s) (by have := miss_le p s; omega)]
  simp only [cnt, if_neg ha]
theorem ways_all (p : List Int) : ways p (allN p) = 1 := by unfold ways; cases p.length <;> simp [cnt]
theorem ways_le {p : List Int} (h : p.length ≤ 10) (s : Nat) : ways p s ≤ 10000000000 := by
  unfold ways
  exact Nat.le_trans (cnt_le p _ s) (Nat.le_trans (Nat.pow_le_pow_right (by decide) h) (by decide))
theorem ways_cnt {p : List Int} {s d : Nat} (hs : s < 2 ^ p.length) (hd : p.length ≤ d) : ways p s = cnt p d s := cnt_fuel _ _ s hs (miss_le p s) (by have := miss_le p s; omega)
theorem idealB_all (p : List Int) (hp : PO p) : idealB p (allN p) = true := by
  rw [idealB_iff]
  intro i hi _ j hj
  rw [allN_bit, decide_eq_true_eq]
  have := lt_of_bit (hp.lt i hi) hj
  omega
theorem idealB_add {p : List Int} (hp : PO p) {s e : Nat} (hs : idealB p s = true) (he : e ∈ nextN p s) : idealB p (s ||| 2 ^ e) = true := by
  obtain ⟨_, h1, _, h3⟩ := mem_nextN.1 he
  rw [idealB_iff] at hs ⊢
  intro i hi hb j hj
  rw [Nat.testBit_or, pow_bit, Bool.or_eq_true, decide_eq_true_eq] at hb
  rw [Nat.testBit_or, Bool.or_eq_true]
  left
  rcases hb with hb | rfl
  · exact hs i hi hb j hj
  · exact subB_iff.1 h3 j hj
end Go.Proofs.Ytemkddgfneohhaa.Q
end

section
namespace Go.Proofs.Ytemkddgfneohhaa.Q
open Go.RowKit Go.Proofs.YtemkddgfneohhaaW.PrintWords Go.Proofs.Ytemkddgfneohhaa.F
set_option linter.unusedVariables false
theorem all_eq {p : List Int} (h : p.length ≤ 61) : impl_Poset_all.f p = some ((allN p : Nat) : Int) := by
  unfold impl_Poset_all.f
  rw [show impl_Poset_n.f p = some (p.length : Int) from rfl]
  simp only [Option.bind_some]
  rw [if_pos (by omega), mask_eq h, pow_int]
  unfold allN
  have := Nat.two_pow_pos p.length
  congr 1
  omega
end Go.Proofs.Ytemkddgfneohhaa.Q
end

section
namespace Go.Proofs.Ytemkddgfneohhaa.Q
open Go.RowKit Go.Proofs.YtemkddgfneohhaaW.PrintWords Go.Proofs.Ytemkddgfneohhaa.F
set_option linter.unusedVariables false
theorem close_ev {p : List Int} (hp : PO p) {s : Nat} (hs : s < 2 ^ p.length) : Ev (fun k => impl_Poset_close.f k p (s : Int)) ((closeN p s : Nat) : Int) := by
  have hn := hp.small
  unfold impl_Poset_close.f closeN
  refine Ev.bind (items_ev s (lt_pow hs (by omega))) ?_
  rw [ints_len]
  have hl := itemsN_len s
  have key : ∀ i, i ≤ (itemsN s).length → ∀ a : Nat, a < 2 ^ p.length → Ev (fun k => impl_Poset_close.l0 k (a : Int) (ints (itemsN s)) ((itemsN s).length : Int) (i : Int) p) (((itemsN s).drop i).foldl (fun a e => a ||| L p e) a : Nat) := by
    refine downTo _ ?_ ?_
    · intro a ha
      refine Ev.step (by intro k; simp only [impl_Poset_close.l0]; rfl) (Ev.no (by omega) (Ev.ret ?_))
      rw [List.drop_length]; rfl
    · intro i hi ih a ha
      have hlt := items_lt hs hi
      refine Ev.step (by intro k; simp only [impl_Poset_close.l0]; rfl) (Ev.yes (by omega) (Ev.yes (by omega) (Ev.yes (by rw [ints_len]; omega) ?_)))
      rw [rd_ints, wid1 hi (by omega), rdN, foldl_drop_step _ _ 0 _ hi]
      refine Ev.yes (by omega) (Ev.yes (by omega) ?_)
      rw [hp.val _ hlt, bits_orN (lt_pow ha (by omega)) (lt_pow (L_lt hp hlt) (by omega))]
      exact ih _ (or_lt ha (L_lt hp hlt))
  exact key 0 (by omega) s hs
end Go.Proofs.Ytemkddgfneohhaa.Q
end

section
namespace Go.Proofs.Ytemkddgfneohhaa.Q
open Go.RowKit Go.Proofs.YtemkddgfneohhaaW.PrintWords Go.Proofs.Ytemkddgfneohhaa.F
set_option linter.unusedVariables false
theorem poIdeal_ev {p : List Int} (hp : PO p) {s : Nat} (hs : s < 2 ^ p.length) : Ev (fun k => spec_poIdeal.f k p (s : Int)) (idealB p s) := by
  have hn := hp.small
  unfold spec_poIdeal.f idealB
  have key : ∀ i, i ≤ p.length → Ev (fun k => spec_poIdeal.l0 k (s : Int) p (p.length : Int) (i : Int)) (allFrom (fun i => !s.testBit i || subB (L p i) s) p.length i) := by
    refine downTo _ ?_ ?_
    · exact Ev.step (by intro k; simp only [spec_poIdeal.l0]; rfl) (Ev.no (by omega) (Ev.ret (allFrom_end _ _).symm))
    · intro i hi ih
      refine Ev.step (by intro k; simp only [spec_poIdeal.l0]; rfl) (Ev.yes (by omega) (Ev.yes (by omega) (Ev.yes (by omega) ?_)))
      rw [wid1 hi (by omega), rdN, hp.val i hi, allFrom_step _ hi]
      refine Ev.call (poIn_eq (by omega)) ?_
      cases s.testBit i with
      | false => exact Ev.no (by simp) (evc ih (by simp))
      | true =>
        refine Ev.yes rfl ?_
        rw [bits_andNotN (lt_pow (L_lt hp hi) (by omega)) (lt_pow hs (by omega))]
        refine Ev.ite (fun h => evc ih ?_) (fun h => Ev.ret ?_)
        · rw [show subB (L p i) s = true by unfold subB; rw [beq_iff_eq]; exact_mod_cast h]; simp
        · rw [show subB (L p i) s = false by unfold subB; rw [beq_eq_false_iff_ne]; intro e; exact h (by rw [e]; rfl)]; simp
  exact key 0 (by omega)
end Go.Proofs.Ytemkddgfneohhaa.Q
end

section
namespace Go.Proofs.Ytemkddgfneohhaa.Q
open Go.RowKit Go.Proofs.YtemkddgfneohhaaW.PrintWords
set_option linter.unusedVariables false
/-- The elements of l are put behind the set s one by one, each behind all that are less. -/
def ordRun (p : List Int) : Nat → List Int → Option Nat
  | s, [] => some s
  | s, e :: l => if (0 ≤ e ∧ e < (p.length : Int)) ∧ s.testBit e.toNat = false ∧ subB (L p e.toNat) s = true then ordRun p (s ||| 2 ^ e.toNat) l else none
def ordB (p w : List Int) : Bool := ordRun p 0 w == some (allN p)
theorem ordB_iff {p w : List Int} : ordB p w = true ↔ ordRun p 0 w = some (allN p) := by unfold ordB; rw [beq_iff_eq]
theorem ordRun_app (p x y : List Int) : ∀ s, ordRun p s (x ++ y) = (ordRun p s x).bind fun t => ordRun p t y := by
  induction x with
  | nil => intro s; rfl
  | cons e x ih =>
    intro s
    simp only [List.cons_append, ordRun]
    split
    · exact ih _
    · rfl
theorem ordRun_range {p l : List Int} : ∀ {s t : Nat}, ordRun p s l = some t → ∀ e ∈ l, 0 ≤ e ∧ e < (p.length : Int) := by
  induction l with
  | nil => intro s t h e he; cases he
  | cons x l ih =>
    intro s t h e he
    simp only [ordRun] at h
    split at h
    · rename_i hc
      rcases List.mem_cons.1 he with rfl | he
      · exact hc.1
      · exact ih h e he
    · cases h
def pcard (n s : Nat) : Nat := (List.range n).countP s.testBit
theorem pcard_succ (n s : Nat) : pcard (n + 1) s = pcard n s + if s.testBit n then 1 else 0 := by
  unfold pcard; rw [List.range_succ, List.countP_append, List.countP_singleton]
theorem pcard_above {n e : Nat} (s : Nat) (h : n ≤ e) : pcard n (s ||| 2 ^ e) = pcard n s := by
  unfold pcard
  apply List.countP_congr
  intro x hx
  rw [List.mem_range] at hx
  rw [Nat.testBit_or, pow_bit, decide_eq_false (by omega), Bool.or_false]
theorem pcard_add {n s e : Nat} (he : e < n) (hb : s.testBit e = false) : pcard n (s ||| 2 ^ e) = pcard n s + 1 := by
  induction n with
  | zero => omega
  | succ n ih =>
    rw [pcard_succ, pcard_succ, Nat.testBit_or, pow_bit]
    rcases Nat.lt_succ_iff_lt_or_eq.1 he with h | h
    · rw [ih h, decide_eq_false (by omega), Bool.or_false]; omega
    · subst h; rw [pcard_above s (Nat.le_refl _), hb]; simp
theorem pcard_zero (n : Nat) : pcard n 0 = 0 := by unfold pcard; rw [List.countP_eq_zero]; intro x _; simp
theorem pcard_le (n s : Nat) : pcard n s ≤ n := by unfold pcard; have := List.countP_le_length (p := s.testBit) (l := List.range n); simpa using this
theorem pcard_all (p : List Int) : pcard p.length (allN p) = p.length := by
  unfold pcard
  have : (List.range p.length).countP (allN p).testBit = (List.range p.length).length := by
    rw [List.countP_eq_length]; intro x hx; rw [List.mem_range] at hx; rw [allN_bit, decide_eq_true hx]
  rw [this, List.length_range]
theorem all_of_pcard {p : List Int} {s : Nat} (hs : s < 2 ^ p.length) (h : pcard p.length s = p.length) : s = allN p := by
  refine ext_bits hs (allN_lt p) (fun i hi => ?_)
  rw [allN_bit, decide_eq_true hi]
  have h2 : (List.range p.length).countP s.testBit = (List.range p.length).length := by rw [List.length_range]; exact h
  rw [List.countP_eq_length] at h2
  exact h2 i (List.mem_range.2 hi)
theorem ordRun_card {p l : List Int} : ∀ {s t : Nat}, s < 2 ^ p.length → ordRun p s l = some t → t < 2 ^ p.length ∧ pcard p.length t = pcard p.length s + l.length := by
  induction l with
  | nil => intro s t hs h; simp only [ordRun, Option.some.injEq] at h; subst h; exact ⟨hs, rfl⟩
  | cons x l ih =>
    intro s t hs h
    simp only [ordRun] at h
    split at h
    · rename_i hc
      obtain ⟨⟨h0, h1⟩, h2, h3⟩ := hc
      have hx : x.toNat < p.length := by omega
      obtain ⟨g1, g2⟩ := ih (or_lt hs (pow_lt_pow hx)) h
      refine ⟨g1, ?_⟩
      rw [g2, pcard_add hx h2, List.length_cons]; omega
    · cases h
theorem ordB_len {p w : List Int} (h : ordB p w = true) : w.length = p.length := by
  have := (ordRun_card (Nat.two_pow_pos _) (ordB_iff.1 h)).2
  rw [pcard_all, pcard_zero] at this; omega
theorem ordB_eq (p w : List Int) : (decide (w.length = p.length) && (ordRun p 0 w).isSome) = ordB p w := by
  rw [Bool.eq_iff_iff, Bool.and_eq_true, decide_eq_true_eq]
  constructor
  · rintro ⟨hl, hs⟩
    obtain ⟨t, ht⟩ := Option.isSome_iff_exists.1 hs
    obtain ⟨g1, g2⟩ := ordRun_card (Nat.two_pow_pos _) ht
    rw [pcard_zero, hl, Nat.zero_add] at g2
    rw [ordB_iff, ht, all_of_pcard g1 g2]
  · intro h
    exact ⟨ordB_len h, by rw [ordB_iff.1 h]; rfl⟩
theorem ordB_range {p w : List Int} (h : ordB p w = true) : ∀ e ∈ w, 0 ≤ e ∧ e < (p.length : Int) := ordRun_range (ordB_iff.1 h)
theorem drop_getD (w : List Int) {i : Nat} (h : i < w.length) : w.drop i = w.getD i 0 :: w.drop (i + 1) := by
  rw [List.drop_eq_getElem_cons h, List.getD_eq_getElem?_getD, List.getElem?_eq_getElem h]; rfl
end Go.Proofs.Ytemkddgfneohhaa.Q
end

section
namespace Go.Proofs.Ytemkddgfneohhaa.Q
open Go.RowKit Go.Proofs.YtemkddgfneohhaaW.PrintWords
set_option linter.unusedVariables false
/-- All ideals. -/
def idealsN (p : List Int) : List Nat := (List.range (2 ^ p.length)).filter (idealB p)
theorem mem_idealsN {p : List Int} {s : Nat} : s ∈ idealsN p ↔ s < 2 ^ p.length ∧ idealB p s = true := by
  unfold idealsN; rw [List.mem_filter, List.mem_range]
theorem idealsN_nodup (p : List Int) : (idealsN p).Nodup := List.Pairwise.filter _ List.nodup_range
theorem idealsN_len (p : List Int) : (idealsN p).length ≤ 2 ^ p.length := by
  have := List.length_filter_le (idealB p) (List.range (2 ^ p.length))
  rwa [List.length_range] at this
theorem idealB_zero' (p : List Int) : idealB p 0 = true := by rw [idealB_iff]; intro i _ h; rw [Nat.zero_testBit] at h; cases h
theorem zero_mem (p : List Int) : 0 ∈ idealsN p := mem_idealsN.2 ⟨Nat.two_pow_pos _, idealB_zero' p⟩
/-- No element of a set is less than another one. -/
def frB (p : List Int) (u : Nat) : Bool := allFrom (fun i => !u.testBit i || decide (L p i &&& u = 0)) p.length 0
/-- What may follow in a row. -/
def stB (p : List Int) (strict : Bool) (s t : Nat) : Bool := subB s t && (!strict || frB p (ndiff t s))
/-- How many rows of so many steps end in a set. -/
def wvN (B : Nat → Nat → Bool) (ids : List Nat) : Nat → Nat → Nat
  | 0, t => if t = 0 then 1 else 0
  | k + 1, t => sumL ((ids.filter fun s => B s t).map (wvN B ids k))
theorem sumL_map_le {α : Type} (f g : α → Nat) : ∀ l : List α, (∀ x ∈ l, f x ≤ g x) → sumL (l.map f) ≤ sumL (l.map g)
  | [], _ => Nat.le_refl _
  | x :: l, h => by
    have h1 := sumL_map_le f g l (fun y hy => h y (List.mem_cons_of_mem _ hy))
    have h2 := h x List.mem_cons_self
    simp only [List.map_cons, sumL]
    omega
theorem sumL_filter_le {α : Type} (f : α → Nat) (P Q : α → Bool) : ∀ l : List α, (∀ x ∈ l, P x = true → Q x = true) → sumL ((l.filter P).map f) ≤ sumL ((l.filter Q).map f)
  | [], _ => Nat.le_refl _
  | x :: l, h => by
    have h1 := sumL_filter_le f P Q l (fun y hy => h y (List.mem_cons_of_mem _ hy))
    rw [List.filter_cons, List.filter_cons]
    cases hp : P x with
    | false =>
      rw [if_neg (by simp)]
      cases hq : Q x with
      | false => rw [if_neg (by simp)]; exact h1
      | true => rw [if_pos rfl, List.map_cons]; simp only [sumL]; omega
    | true =>
      rw [if_pos rfl, if_pos (h x List.mem_cons_self hp)]
      simp only [List.map_cons, sumL]; omega
theorem sumL_take_le {α : Type} (f : α → Nat) (l : List α) (i : Nat) : sumL ((l.take i).map f) ≤ sumL (l.map f) := by
  rw [show l.map f = (l.take i).map f ++ (l.drop i).map f by rw [← List.map_append, List.take_append_drop], sumL_append]
  omega
/-- The sum over all parts of a set of the powers of a number by their sizes. -/
theorem sub_pow (c : Nat) : ∀ (n t : Nat), sumL (((List.range (2 ^ n)).filter fun s => subB s t).map fun s => c ^ pcard n s) = (c + 1) ^ pcard n t
  | 0, t => by
    have e : (List.range (2 ^ 0)).filter (fun s => subB s t) = [0] := by
      rw [show List.range (2 ^ 0) = [0] from rfl, List.filter_cons, if_pos (subB_iff.2 fun i h => by rw [Nat.zero_testBit] at h; cases h)]; rfl
    rw [e]; rfl
  | n + 1, t => by
    have hr : List.range (2 ^ (n + 1)) = List.range (2 ^ n) ++ (List.range (2 ^ n)).map (2 ^ n + ·) := by
      rw [show 2 ^ (n + 1) = 2 ^ n + 2 ^ n by rw [Nat.pow_succ]; omega, List.range_add]
    rw [hr, List.filter_append, List.map_append, sumL_append, List.filter_map, List.map_map]
    have hbit : ∀ s, s < 2 ^ n → 2 ^ n + s = s ||| 2 ^ n := fun s hs => by
      have h := Nat.two_pow_add_eq_or_of_lt hs 1
      rw [Nat.mul_one] at h
      rw [h, Nat.or_comm]
    have h1 : sumL (((List.range (2 ^ n)).filter fun s => subB s t).map fun s => c ^ pcard (n + 1) s) = (c + 1) ^ pcard n t := by
      rw [← sub_pow c n t]
      congr 1
      refine List.map_congr_left fun s hs => ?_
      have hs := List.mem_range.1 (List.mem_filter.1 hs).1
      rw [pcard_succ, Nat.testBit_lt_two_pow hs]; simp
    have hsub : ∀ s, s < 2 ^ n → subB (2 ^ n + s) t = (t.testBit n && subB s t) := fun s hs => by
      rw [hbit s hs, Bool.eq_iff_iff, Bool.and_eq_true, subB_iff, subB_iff]
      constructor
      · intro h
        exact ⟨h n (by rw [Nat.testBit_or, pow_bit]; simp), fun i hi => h i (by rw [Nat.testBit_or, hi]; rfl)⟩
      · rintro ⟨h1, h2⟩ i hi
        rw [Nat.testBit_or, pow_bit, Bool.or_eq_true, decide_eq_true_eq] at hi
        rcases hi with hi | hi
        · exact h2 i hi
        · rw [← hi]; exact h1
    have h2 : sumL (((List.range (2 ^ n)).filter ((fun s => subB s t) ∘ (2 ^ n + ·))).map ((fun s => c ^ pcard (n + 1) s) ∘ (2 ^ n + ·))) = if t.testBit n = true then c * (c + 1) ^ pcard n t else 0 := by
      have e1 : (List.range (2 ^ n)).filter ((fun s => subB s t) ∘ (2 ^ n + ·)) = (List.range (2 ^ n)).filter fun s => t.testBit n && subB s t := by
        refine List.filter_congr fun s hs => ?_
        exact hsub s (List.mem_range.1 hs)
      rw [e1]
      cases hb : t.testBit n with
      | false =>
        rw [if_neg (by simp)]
        have e2 : (List.range (2 ^ n)).filter (fun s => false && subB s t) = [] := by simp
        rw [e2]; rfl
      | true =>
        rw [if_pos rfl]
        simp only [Bool.true_and]
        rw [← sub_pow c n t]
        have hmul : ∀ l : List Nat, sumL (l.map fun s => c * c ^ pcard n s) = c * sumL (l.map fun s => c ^ pcard n s) := by
          intro l
          induction l with
          | nil => rfl
          | cons x l ih => simp only [List.map_cons, sumL]; rw [ih, Nat.mul_add]
        rw [← hmul]
        congr 1
        refine List.map_congr_left fun s hs => ?_
        have hs := List.mem_range.1 (List.mem_filter.1 hs).1
        show c ^ pcard (n + 1) (2 ^ n + s) = _
        rw [hbit s hs, pcard_add (Nat.lt_succ_self n) (Nat.testBit_lt_two_pow hs), pcard_succ, Nat.testBit_lt_two_pow hs]
        simp [Nat.pow_succ, Nat.mul_comm]
    rw [h1, h2, pcard_succ]
    cases t.testBit n with
    | false => simp
    | true => simp only [if_pos]; rw [Nat.pow_succ, Nat.mul_comm ((c + 1) ^ pcard n t), Nat.add_mul, Nat.one_mul]; omega
/-- Rows are few. -/
theorem wvN_le {p : List Int} {B : Nat → Nat → Bool} (hB : ∀ s t, B s t = true → subB s t = true) : ∀ k t, wvN B (idealsN p) k t ≤ (k + 1) ^ pcard p.length t
  | 0, t => by
    unfold wvN
    rw [Nat.one_pow]
    split <;> omega
  | k + 1, t => by
    unfold wvN
    rw [← sub_pow (k + 1) p.length t]
    refine Nat.le_trans (sumL_map_le _ (fun s => (k + 1) ^ pcard p.length s) _ (fun s _ => wvN_le hB k s)) ?_
    unfold idealsN
    rw [List.filter_filter]
    refine sumL_filter_le _ _ _ _ fun s _ h => ?_
    rw [Bool.and_eq_true] at h
    exact hB s t h.1
theorem pow_bound {c m : Nat} (hc : c ≤ 15) (hm : m ≤ 10) : c ^ m ≤ 576650390625 := by
  refine Nat.le_trans (Nat.pow_le_pow_left hc m) ?_
  have h15 : (15 : Nat) ^ m ≤ 15 ^ 10 := Nat.pow_le_pow_right (by decide) hm
  exact Nat.le_trans h15 (by decide)
theorem wvN_small {p : List Int} (hp : p.length ≤ 10) {B : Nat → Nat → Bool} (hB : ∀ s t, B s t = true → subB s t = true) {k t : Nat} (hk : k ≤ 14) : wvN B (idealsN p) k t ≤ 576650390625 :=
  Nat.le_trans (wvN_le hB k t) (pow_bound (by omega) (Nat.le_trans (pcard_le _ _) hp))
theorem stB_sub {p : List Int} {b : Bool} {s t : Nat} (h : stB p b s t = true) : subB s t = true := by
  unfold stB at h
  rw [Bool.and_eq_true] at h
  exact h.1
theorem sub_all {p : List Int} {s : Nat} (hs : s < 2 ^ p.length) : subB s (allN p) = true := subB_iff.2 fun i hi => by
  rw [allN_bit]; exact decide_eq_true (lt_of_bit hs hi)
end Go.Proofs.Ytemkddgfneohhaa.Q
end

section
namespace Go.Proofs.Ytemkddgfneohhaa.Q
open Go.RowKit Go.Proofs.YtemkddgfneohhaaW.PrintWords Go.Proofs.Ytemkddgfneohhaa.F
set_option linter.unusedVariables false
theorem poIdeals_ev {p : List Int} (hp : PO p) : Ev (fun k => spec_poIdeals.f k p) (ints (idealsN p)) := by
  have hn := hp.small
  have h2 : 2 ^ p.length ≤ 1024 := Nat.le_trans (Nat.pow_le_pow_right (by decide) hn) (by decide)
  unfold spec_poIdeals.f
  have key : ∀ i, i ≤ 2 ^ p.length → ∀ acc : List Int, acc.length ≤ i → Ev (fun k => spec_poIdeals.l0 k acc (i : Int) p) (acc ++ ints ((List.range' i (2 ^ p.length - i)).filter (idealB p))) := by
    refine downTo _ ?_ ?_
    · intro acc _
      refine Ev.step (by intro k; simp only [spec_poIdeals.l0]; rfl) ?_
      rw [shlN (by omega), Nat.sub_self]
      exact Ev.no (by omega) (Ev.ret (by simp [ints]))
    · intro i hi ih acc ha
      refine Ev.step (by intro k; simp only [spec_poIdeals.l0]; rfl) ?_
      rw [shlN (by omega)]
      refine Ev.yes (by omega) (Ev.bind (poIdeal_ev hp hi) ?_)
      rw [show 2 ^ p.length - i = (2 ^ p.length - (i + 1)) + 1 by omega, List.range'_succ, List.filter_cons, wid1 hi (by omega)]
      cases hc : idealB p i with
      | true =>
        rw [if_pos rfl]
        refine Ev.yes rfl (Ev.yes (by omega) (evc (ih (acc ++ [(i : Int)]) (by rw [List.length_append, List.length_singleton]; omega)) ?_))
        rw [List.append_assoc]; rfl
      | false =>
        rw [if_neg (by simp)]
        exact Ev.no (by simp) (ih acc (by omega))
  have := key 0 (Nat.zero_le _) [] (Nat.le_refl _)
  rw [Nat.sub_zero, ← List.range_eq_range'] at this
  exact this
end Go.Proofs.Ytemkddgfneohhaa.Q
end

section
namespace Go.Proofs.Ytemkddgfneohhaa.Q
open Go.RowKit Go.Proofs.YtemkddgfneohhaaW.PrintWords
set_option linter.unusedVariables false
theorem sizes_eq (n : Nat) : (decide ((1 : Int) ≤ (n : Int)) && decide ((n : Int) ≤ 10)) = (decide (1 ≤ n) && decide (n ≤ 10)) := by
  rw [Bool.eq_iff_iff]; simp only [Bool.and_eq_true, decide_eq_true_eq]; omega
end Go.Proofs.Ytemkddgfneohhaa.Q
end

section
namespace Go.Proofs.Ytemkddgfneohhaa.Q
open Go.RowKit Go.Proofs.YtemkddgfneohhaaW.PrintWords Go.Proofs.Ytemkddgfneohhaa.F
set_option linter.unusedVariables false
theorem poGood_ev (p : List Int) : Ev (fun k => spec_poGood.f k p) (isPo p) := by
  unfold spec_poGood.f
  refine Ev.call (l1In_eq _ _ _) ?_
  unfold isPo
  rw [sizes_eq]
  cases hs : (decide (1 ≤ p.length) && decide (p.length ≤ 10)) with
  | false => exact Ev.no (by simp) (Ev.ret rfl)
  | true =>
  refine Ev.yes rfl ?_
  rw [Bool.and_eq_true, decide_eq_true_eq, decide_eq_true_eq] at hs
  obtain ⟨h1, h2⟩ := hs
  have key : ∀ i, i ≤ p.length → Ev (fun k => spec_poGood.l0 k p (p.length : Int) (i : Int) p) (allFrom (rowOk p) p.length i) := by
    refine downTo p.length ?_ ?_
    · refine Ev.step (by intro k; simp only [spec_poGood.l0]; rfl) ?_
      exact Ev.no (by omega) (Ev.ret (allFrom_end _ _).symm)
    · intro i hi ih
      refine Ev.step (by intro k; simp only [spec_poGood.l0]; rfl) ?_
      refine Ev.yes (by omega) (Ev.yes (by omega) (Ev.yes (by omega) ?_))
      rw [rdN, mask_eq (by omega)]
      refine Ev.call (l1In_eq _ _ _) ?_
      rw [allFrom_step _ hi]
      by_cases hb : 0 ≤ p.getD i 0 ∧ p.getD i 0 ≤ 2 ^ i - 1
      rotate_left
      · exact Ev.no (by rw [range_false hb]; simp) (Ev.ret (by rw [rowOk_false hb]; rfl))
      refine Ev.yes (range_true hb) ?_
      have hv : p.getD i 0 = (L p i : Int) := by unfold L; omega
      rw [rowOk_true hb]
      generalize hx : p.getD i 0 = x at *
      have inner : ∀ j, j ≤ i → Ev (fun k => spec_poGood.l1 k (i : Int) x (j : Int) p (p.length : Int) (i : Int) p)
          (allFrom (fun j => !(L p i).testBit j || decide (Go.bits .andNot .i64 (p.getD j 0) x = 0)) i j && allFrom (rowOk p) p.length (i + 1)) := by
        refine downTo i ?_ ?_
        · refine Ev.step (by intro k; simp only [spec_poGood.l1]; rfl) ?_
          refine Ev.no (by omega) ?_
          rw [wid1 hi (by omega), allFrom_end, Bool.true_and]
          exact ih
        · intro j hj ihj
          refine Ev.step (by intro k; simp only [spec_poGood.l1]; rfl) ?_
          refine Ev.yes (by omega) (Ev.yes (by omega) ?_)
          rw [allFrom_step _ hj, wid1 hj (by omega), rdN]
          cases hbit : (L p i).testBit j with
          | false => exact Ev.no (by rw [hv, bit_test (by omega), hbit]; simp) (evc ihj (by simp))
          | true =>
            refine Ev.yes (by rw [hv, bit_test (by omega), hbit]) (Ev.yes (by omega) ?_)
            refine Ev.ite (fun h => evc ihj ?_) (fun h => Ev.ret ?_)
            · rw [decide_eq_true h]; simp
            · rw [decide_eq_false h]; simp
      exact inner 0 (by omega)
  exact key 0 (by omega)
end Go.Proofs.Ytemkddgfneohhaa.Q
end

section
namespace Go.Proofs.Ytemkddgfneohhaa.Q
open Go.RowKit Go.Proofs.YtemkddgfneohhaaW.PrintWords
set_option linter.unusedVariables false
def Tl (N : Nat) (f : Nat → Nat) : List Int := (List.range N).map fun t => ((f t : Nat) : Int)
theorem Tl_len (N : Nat) (f : Nat → Nat) : (Tl N f).length = N := by simp [Tl]
theorem Tl_get (N : Nat) (f : Nat → Nat) {t : Nat} (ht : t < N) : rd (Tl N f) (t : Int) = ((f t : Nat) : Int) := by
  rw [rdN]
  unfold Tl
  rw [List.getD_eq_getElem?_getD, List.getElem?_map, List.getElem?_range ht]; rfl
theorem Tl_congr {N : Nat} {f g : Nat → Nat} (h : ∀ t, t < N → f t = g t) : Tl N f = Tl N g := List.map_congr_left fun t ht => by rw [h t (List.mem_range.1 ht)]
theorem Tl_set {N : Nat} {f : Nat → Nat} {t x : Nat} (ht : t < N) : (Tl N f).set t (x : Int) = Tl N fun u => if u = t then x else f u := by
  apply List.ext_getElem?
  intro i
  unfold Tl
  rw [List.getElem?_set, List.getElem?_map, List.getElem?_map, List.length_map, List.length_range]
  by_cases hi : i < N
  · rw [List.getElem?_range hi]
    by_cases e : t = i
    · subst e
      rw [if_pos rfl, if_pos ht]
      simp
    · rw [if_neg e]
      simp only [Option.map_some]
      rw [if_neg (fun h => e h.symm)]
  · rw [List.getElem?_eq_none (l := List.range N) (by simpa using hi)]
    by_cases e : t = i
    · subst e; exact absurd ht hi
    · rw [if_neg e]; rfl
theorem Tl_zero (N : Nat) : List.replicate N (0 : Int) = Tl N fun _ => 0 := by
  unfold Tl
  apply List.ext_getElem
  · simp
  · intro i h1 h2; simp
theorem sumL_snoc (l : List Nat) (x : Nat) : sumL (l ++ [x]) = sumL l + x := by rw [sumL_append]; simp [sumL]
theorem take_snoc {α : Type} (l : List α) (i : Nat) (h : i < l.length) : l.take (i + 1) = l.take i ++ [l[i]] := by
  rw [List.take_add_one, List.getElem?_eq_getElem h]; rfl
end Go.Proofs.Ytemkddgfneohhaa.Q
end

section
namespace Go.Proofs.Ytemkddgfneohhaa.Q
open Go.RowKit Go.Proofs.YtemkddgfneohhaaW.PrintWords Go.Proofs.Ytemkddgfneohhaa.F
set_option linter.unusedVariables false
theorem laFree_ev {p : List Int} (hp : PO p) {u : Nat} (hu : u < 2 ^ p.length) : Ev (fun k => spec_laFree.f k p (u : Int)) (frB p u) := by
  have hn := hp.small
  unfold spec_laFree.f frB
  have key : ∀ i, i ≤ p.length → Ev (fun k => spec_laFree.l0 k (u : Int) p (p.length : Int) (i : Int)) (allFrom (fun i => !u.testBit i || decide (L p i &&& u = 0)) p.length i) := by
    refine downTo _ ?_ ?_
    · exact Ev.step (by intro k; simp only [spec_laFree.l0]; rfl) (Ev.no (by omega) (Ev.ret (allFrom_end _ _).symm))
    · intro i hi ih
      refine Ev.step (by intro k; simp only [spec_laFree.l0]; rfl) (Ev.yes (by omega) (Ev.yes (by omega) (Ev.yes (by omega) ?_)))
      rw [wid1 hi (by omega), rdN, hp.val i hi, allFrom_step _ hi]
      refine Ev.call (poIn_eq (by omega)) ?_
      cases u.testBit i with
      | false => exact Ev.no (by simp) (evc ih (by simp))
      | true =>
        refine Ev.yes rfl ?_
        rw [bits_andN (lt_pow (L_lt hp hi) (by omega)) (lt_pow hu (by omega))]
        refine Ev.ite (fun h => evc ih ?_) (fun h => Ev.ret ?_)
        · rw [decide_eq_true (show L p i &&& u = 0 by exact_mod_cast h)]; simp
        · rw [decide_eq_false (show ¬ L p i &&& u = 0 by intro e; exact h (by rw [e]; rfl))]; simp
  exact key 0 (Nat.zero_le _)
/-- What the sets ahead of i have given to t. -/
def gotN (B : Nat → Nat → Bool) (ids : List Nat) (v : Nat → Nat) (i t : Nat) : Nat := if t ∈ ids then sumL (((ids.take i).filter fun s => B s t).map v) else 0
/-- .. and what the set s has given to those ahead of j. -/
def gotJ (B : Nat → Nat → Bool) (ids : List Nat) (v : Nat → Nat) (i j s t : Nat) : Nat := gotN B ids v i t + if t ∈ ids.take j ∧ B s t = true then v s else 0
theorem gotN_le {B : Nat → Nat → Bool} {ids : List Nat} {v : Nat → Nat} {i t : Nat} : gotN B ids v i t ≤ sumL ((ids.filter fun s => B s t).map v) := by
  unfold gotN
  split
  · refine Nat.le_trans ?_ (Nat.le_refl (sumL ((ids.filter fun s => B s t).map v)))
    have e : ids.filter (fun s => B s t) = (ids.take i).filter (fun s => B s t) ++ (ids.drop i).filter (fun s => B s t) := by rw [← List.filter_append, List.take_append_drop]
    rw [e, List.map_append, sumL_append]
    omega
  · omega
theorem gotN_step {B : Nat → Nat → Bool} {ids : List Nat} {v : Nat → Nat} {i t : Nat} (hi : i < ids.length) : gotN B ids v (i + 1) t = gotN B ids v i t + if t ∈ ids ∧ B ids[i] t = true then v ids[i] else 0 := by
  unfold gotN
  by_cases ht : t ∈ ids
  · rw [if_pos ht, if_pos ht, take_snoc ids i hi, List.filter_append, List.map_append, sumL_append]
    cases hb : B ids[i] t with
    | true => simp [ht, hb, sumL]
    | false => simp [hb, sumL]
  · rw [if_neg ht, if_neg ht, if_neg (fun h => ht h.1)]
theorem gotJ_end {B : Nat → Nat → Bool} {ids : List Nat} {v : Nat → Nat} {i t : Nat} (hi : i < ids.length) : gotJ B ids v i ids.length ids[i] t = gotN B ids v (i + 1) t := by
  unfold gotJ
  rw [List.take_length, gotN_step hi]
theorem not_in_take {ids : List Nat} (hn : ids.Nodup) {j : Nat} (hj : j < ids.length) : ids[j] ∉ ids.take j := by
  intro h
  obtain ⟨i, hi, e⟩ := List.mem_take_iff_getElem.1 h
  rw [List.nodup_iff_pairwise_ne, List.pairwise_iff_getElem] at hn
  exact hn i j (by omega) hj (by omega) e
theorem gotJ_step {B : Nat → Nat → Bool} {ids : List Nat} {v : Nat → Nat} {i j s : Nat} (hn : ids.Nodup) (hj : j < ids.length) (u : Nat) :
    gotJ B ids v i (j + 1) s u = if u = ids[j] ∧ B s u = true then gotJ B ids v i j s u + v s else gotJ B ids v i j s u := by
  unfold gotJ
  rw [take_snoc ids j hj]
  by_cases e : u = ids[j]
  · subst e
    have h0 := not_in_take hn hj
    have h1 : ids[j] ∈ ids.take j ++ [ids[j]] := List.mem_append.2 (.inr (List.mem_singleton.2 rfl))
    cases hb : B s ids[j] with
    | true => rw [if_pos ⟨h1, rfl⟩, if_pos ⟨rfl, rfl⟩, if_neg (fun h => h0 h.1)]; omega
    | false => rw [if_neg (by simp), if_neg (by simp), if_neg (by simp)]
  · have hne : ¬ (u = ids[j] ∧ B s u = true) := fun h => e h.1
    have : (u ∈ ids.take j ++ [ids[j]]) ↔ u ∈ ids.take j := by rw [List.mem_append, List.mem_singleton]; exact ⟨fun h => h.elim id (fun h => absurd h e), .inl⟩
    rw [if_neg hne]
    by_cases h : u ∈ ids.take j ∧ B s u = true
    · rw [if_pos h, if_pos ⟨this.2 h.1, h.2⟩]
    · rw [if_neg h, if_neg (fun h2 => h ⟨this.1 h2.1, h2.2⟩)]
theorem gotJ_le {B : Nat → Nat → Bool} {ids : List Nat} {v : Nat → Nat} {i j t : Nat} (hi : i < ids.length) (hj : j ≤ ids.length) : gotJ B ids v i j ids[i] t ≤ gotN B ids v (i + 1) t := by
  rw [← gotJ_end hi]
  unfold gotJ
  rw [List.take_length]
  by_cases h : t ∈ ids.take j ∧ B ids[i] t = true
  · rw [if_pos h, if_pos ⟨List.mem_of_mem_take h.1, h.2⟩]; omega
  · rw [if_neg h]; omega
theorem chains_row {p : List Int} (hp : PO p) (b : Bool) (v : Nat → Nat) (hv : ∀ t, sumL (((idealsN p).filter fun s => stB p b s t).map v) ≤ 4000000000000000000) {i : Nat} (hi : i < (idealsN p).length) {x1 : Int} {r : Int} :
    ∀ j, j ≤ (idealsN p).length → Ev (fun k => spec_laChains.l1 k x1 b (ints (idealsN p)) (Tl (2 ^ p.length) v) (Tl (2 ^ p.length) (gotN (stB p b) (idealsN p) v (i + 1))) (ints (idealsN p)) ((ints (idealsN p)).length : Int) (wrap64 ((i : Int) + 1)) p) r →
    Ev (fun k => spec_laChains.l2 k x1 b (ints (idealsN p)) (Tl (2 ^ p.length) v) (Tl (2 ^ p.length) (gotJ (stB p b) (idealsN p) v i j (idealsN p)[i])) ((idealsN p)[i] : Int) (ints (idealsN p)) ((ints (idealsN p)).length : Int) (i : Int) (ints (idealsN p)) ((ints (idealsN p)).length : Int) (j : Int) p) r := by
  have hn := hp.small
  have h2 : 2 ^ p.length ≤ 1024 := Nat.le_trans (Nat.pow_le_pow_right (by decide) hn) (by decide)
  have hl := idealsN_len p
  have hnd := idealsN_nodup p
  obtain ⟨hs, hsi⟩ := mem_idealsN.1 (List.getElem_mem hi)
  generalize hS : (idealsN p)[i] = s at hs hsi ⊢
  rw [ints_len]
  refine downTo _ ?_ ?_
  · intro hr
    refine Ev.step (by intro k; simp only [spec_laChains.l2]; rfl) (Ev.no (by omega) ?_)
    have e : Tl (2 ^ p.length) (gotJ (stB p b) (idealsN p) v i (idealsN p).length s) = Tl (2 ^ p.length) (gotN (stB p b) (idealsN p) v (i + 1)) := Tl_congr fun t _ => by rw [← hS]; exact gotJ_end hi
    rw [e]
    exact hr
  · intro j hj ih hr
    have ih := ih hr
    obtain ⟨ht, hti⟩ := mem_idealsN.1 (List.getElem_mem hj)
    have hrd : rd (ints (idealsN p)) (j : Int) = ((idealsN p)[j] : Int) := by rw [rd_ints, List.getD_eq_getElem?_getD, List.getElem?_eq_getElem hj]; rfl
    have hstep := gotJ_step (B := stB p b) (v := v) (i := i) (s := s) hnd hj
    generalize hT : (idealsN p)[j] = t at ht hti hrd hstep
    have hsame : stB p b s t = false ∨ v s = 0 → Tl (2 ^ p.length) (gotJ (stB p b) (idealsN p) v i (j + 1) s) = Tl (2 ^ p.length) (gotJ (stB p b) (idealsN p) v i j s) := fun h => Tl_congr fun u _ => by
      rw [hstep u]
      by_cases hu : u = t ∧ stB p b s u = true
      · rw [if_pos hu]
        rcases h with h | h
        · rw [hu.1, h] at hu; exact absurd hu.2 (by simp)
        · omega
      · rw [if_neg hu]
    refine Ev.step (by intro k; simp only [spec_laChains.l2]; rfl) (Ev.yes (by omega) (Ev.yes (by omega) (Ev.yes (by rw [ints_len]; omega) (Ev.yes (by omega) (Ev.yes (by rw [Tl_len]; omega) ?_)))))
    rw [hrd, Tl_get _ _ hs, Tl_get _ _ ht, wid1 (show j < (idealsN p).length from hj) (by omega), bits_andNotN (lt_pow hs (by omega)) (lt_pow ht (by omega)), bits_andNotN (lt_pow ht (by omega)) (lt_pow hs (by omega))]
    refine Ev.ite (fun hv0 => ?_) (fun hv0 => ?_)
    rotate_left
    · rw [hsame (.inr (by omega))] at ih; exact ih
    have hadd : stB p b s t = true → (Tl (2 ^ p.length) (gotJ (stB p b) (idealsN p) v i j s)).set ((t : Int)).toNat (wrap64 (((gotJ (stB p b) (idealsN p) v i j s t : Nat) : Int) + ((v s : Nat) : Int))) = Tl (2 ^ p.length) (gotJ (stB p b) (idealsN p) v i (j + 1) s) := fun hB => by
      have hle : gotJ (stB p b) (idealsN p) v i (j + 1) s t ≤ 4000000000000000000 := by
        rw [← hS]
        exact Nat.le_trans (gotJ_le hi (by omega)) (Nat.le_trans gotN_le (hv t))
      rw [hstep t, if_pos ⟨rfl, hB⟩] at hle
      rw [wid (by omega) (by omega), Int.toNat_natCast, show ((gotJ (stB p b) (idealsN p) v i j s t : Nat) : Int) + ((v s : Nat) : Int) = ((gotJ (stB p b) (idealsN p) v i j s t + v s : Nat) : Int) by omega, Tl_set ht]
      refine Tl_congr fun u _ => ?_
      rw [hstep u]
      by_cases e : u = t
      · subst e; rw [if_pos rfl, if_pos ⟨rfl, hB⟩]
      · rw [if_neg e, if_neg (fun h => e h.1)]
    refine Ev.ite (fun hsub => ?_) (fun hsub => ?_)
    rotate_left
    · have : stB p b s t = false := by
        unfold stB subB
        rw [show (ndiff s t == 0) = false by rw [beq_eq_false_iff_ne]; intro e; exact hsub (by rw [e]; rfl)]; rfl
      rw [hsame (.inl this)] at ih; exact ih
    have hsub' : subB s t = true := by unfold subB; rw [beq_iff_eq]; exact_mod_cast hsub
    cases b with
    | false =>
      have hB : stB p false s t = true := by unfold stB; rw [hsub']; rfl
      refine Ev.no (by simp) (Ev.yes (by omega) (Ev.yes (by rw [Tl_len]; omega) ?_))
      rw [hadd hB]; exact ih
    | true =>
      refine Ev.yes rfl (Ev.bind (laFree_ev hp (ndiff_lt ht)) ?_)
      cases hf : frB p (ndiff t s) with
      | true =>
        have hB : stB p true s t = true := by unfold stB; rw [hsub', hf]; rfl
        refine Ev.yes rfl (Ev.yes (by omega) (Ev.yes (by rw [Tl_len]; omega) ?_))
        rw [hadd hB]; exact ih
      | false =>
        have hB : stB p true s t = false := by unfold stB; rw [hsub', hf]; rfl
        rw [hsame (.inl hB)] at ih
        exact Ev.no (by simp) ih
theorem chains_rows {p : List Int} (hp : PO p) (b : Bool) (v : Nat → Nat) (hv : ∀ t, sumL (((idealsN p).filter fun s => stB p b s t).map v) ≤ 4000000000000000000) {x1 : Int} {r : Int}
    (hr : Ev (fun k => spec_laChains.l0 k (wrap64 (x1 - 1)) b (ints (idealsN p)) (Tl (2 ^ p.length) (gotN (stB p b) (idealsN p) v (idealsN p).length)) p) r) :
    ∀ i, i ≤ (idealsN p).length → Ev (fun k => spec_laChains.l1 k x1 b (ints (idealsN p)) (Tl (2 ^ p.length) v) (Tl (2 ^ p.length) (gotN (stB p b) (idealsN p) v i)) (ints (idealsN p)) ((ints (idealsN p)).length : Int) (i : Int) p) r := by
  have hn := hp.small
  have h2 : 2 ^ p.length ≤ 1024 := Nat.le_trans (Nat.pow_le_pow_right (by decide) hn) (by decide)
  have hl := idealsN_len p
  refine downTo _ ?_ ?_
  · refine Ev.step (by intro k; simp only [spec_laChains.l1]; rfl) (Ev.no (by rw [ints_len]; omega) hr)
  · intro i hi ih
    refine Ev.step (by intro k; simp only [spec_laChains.l1]; rfl) (Ev.yes (by rw [ints_len]; omega) (Ev.yes (by omega) (Ev.yes (by rw [ints_len]; omega) ?_)))
    have hrd : rd (ints (idealsN p)) (i : Int) = ((idealsN p)[i] : Int) := by rw [rd_ints, List.getD_eq_getElem?_getD, List.getElem?_eq_getElem hi]; rfl
    rw [hrd]
    have h0 : Tl (2 ^ p.length) (gotN (stB p b) (idealsN p) v i) = Tl (2 ^ p.length) (gotJ (stB p b) (idealsN p) v i 0 (idealsN p)[i]) := Tl_congr fun t _ => by unfold gotJ; simp
    rw [h0]
    exact chains_row hp b v hv hi 0 (Nat.zero_le _) (by rw [wid1 hi (by omega)]; exact ih)
/-- The rows that end in an ideal. -/
def wvI (p : List Int) (b : Bool) (k t : Nat) : Nat := if t ∈ idealsN p then wvN (stB p b) (idealsN p) k t else 0
theorem wvI_step (p : List Int) (b : Bool) (k t : Nat) : gotN (stB p b) (idealsN p) (wvI p b k) (idealsN p).length t = wvI p b (k + 1) t := by
  unfold gotN
  rw [List.take_length]
  conv => rhs; unfold wvI
  by_cases h : t ∈ idealsN p
  · rw [if_pos h, if_pos h]
    conv => rhs; unfold wvN
    congr 1
    refine List.map_congr_left fun s hs => ?_
    unfold wvI
    rw [if_pos (List.mem_filter.1 hs).1]
  · rw [if_neg h, if_neg h]
theorem wvI_sum {p : List Int} (hp : PO p) (b : Bool) {k : Nat} (hk : k ≤ 13) (t : Nat) : sumL (((idealsN p).filter fun s => stB p b s t).map (wvI p b k)) ≤ 4000000000000000000 := by
  refine Nat.le_trans ?_ (Nat.le_trans (wvN_small hp.small (B := stB p b) (k := k + 1) (t := t) (fun s t h => stB_sub h) (by omega)) (by decide))
  conv => rhs; unfold wvN
  refine sumL_map_le _ _ _ fun s _ => ?_
  unfold wvI
  split
  · exact Nat.le_refl _
  · exact Nat.zero_le _
theorem laChains_ev {p : List Int} (hp : PO p) (b : Bool) {k : Nat} (hk : k ≤ 14) : Ev (fun n => spec_laChains.f n p (k : Int) b) ((wvN (stB p b) (idealsN p) k (allN p) : Nat) : Int) := by
  have hn := hp.small
  have h2 : 2 ^ p.length ≤ 1024 := Nat.le_trans (Nat.pow_le_pow_right (by decide) hn) (by decide)
  have hpos := Nat.two_pow_pos p.length
  have hall : allN p ∈ idealsN p := mem_idealsN.2 ⟨allN_lt p, idealB_all p hp⟩
  unfold spec_laChains.f
  refine Ev.bind (poIdeals_ev hp) ?_
  rw [shlN (by omega)]
  refine Ev.yes (by omega) (Ev.yes (by rw [Int.toNat_natCast]; omega) ?_)
  rw [Int.toNat_natCast, Tl_zero]
  refine Ev.call rfl (Ev.yes (by rw [Tl_len]; omega) ?_)
  have e0 : (Tl (2 ^ p.length) fun _ => 0).set (0 : Int).toNat 1 = Tl (2 ^ p.length) (wvI p b 0) := by
    refine (Tl_set (f := fun _ => 0) (t := 0) (x := 1) hpos).trans (Tl_congr fun u _ => ?_)
    unfold wvI wvN
    by_cases hu : u = 0
    · subst hu; rw [if_pos rfl, if_pos (zero_mem p)]
    · rw [if_neg hu]
      split
      · rfl
      · rfl
  rw [e0]
  have key : ∀ q, q ≤ k → Ev (fun n => spec_laChains.l0 n (((k - q : Nat) : Nat) : Int) b (ints (idealsN p)) (Tl (2 ^ p.length) (wvI p b q)) p) ((wvN (stB p b) (idealsN p) k (allN p) : Nat) : Int) := by
    refine downTo _ ?_ ?_
    · refine Ev.step (by intro k; simp only [spec_laChains.l0]; rfl) (Ev.no (by omega) ?_)
      have e1 : wrap64 (((Tl (2 ^ p.length) (wvI p b k)).length : Int) - 1) = ((allN p : Nat) : Int) := by
        rw [Tl_len, wid (by omega) (by omega)]; unfold allN; omega
      rw [e1]
      refine Ev.yes (by omega) (Ev.yes (by rw [Tl_len]; have := allN_lt p; omega) (Ev.ret ?_))
      rw [Tl_get _ _ (allN_lt p)]
      unfold wvI
      rw [if_pos hall]
    · intro q hq ih
      refine Ev.step (by intro k; simp only [spec_laChains.l0]; rfl) (Ev.yes (by omega) (Ev.yes (by omega) (Ev.yes (by rw [Tl_len, Int.toNat_natCast]; omega) ?_)))
      rw [Tl_len, Int.toNat_natCast, Tl_zero]
      have e2 : Tl (2 ^ p.length) (fun _ => 0) = Tl (2 ^ p.length) (gotN (stB p b) (idealsN p) (wvI p b q) 0) := Tl_congr fun t _ => by unfold gotN; split <;> simp [sumL]
      rw [e2]
      refine chains_rows hp b _ (wvI_sum hp b (by omega)) ?_ 0 (Nat.zero_le _)
      rw [wid (by omega) (by omega), show (((k - q : Nat) : Nat) : Int) - 1 = ((k - (q + 1) : Nat) : Int) by omega]
      rw [show Tl (2 ^ p.length) (gotN (stB p b) (idealsN p) (wvI p b q) (idealsN p).length) = Tl (2 ^ p.length) (wvI p b (q + 1)) from Tl_congr fun t _ => wvI_step p b q t]
      exact ih
  exact key 0 (Nat.zero_le _)
end Go.Proofs.Ytemkddgfneohhaa.Q
end

section
namespace Go.Proofs.Ytemkddgfneohhaa.Q
open Go.RowKit Go.Proofs.YtemkddgfneohhaaW.PrintWords
set_option linter.unusedVariables false
/-- What may follow in a row of steps. -/
def opB (p : List Int) (s t : Nat) : Bool := subB s t && (!(ndiff t s == 0) && frB p (ndiff t s))
theorem opB_sub {p : List Int} {s t : Nat} (h : opB p s t = true) : subB s t = true := by
  unfold opB at h
  rw [Bool.and_eq_true] at h
  exact h.1
def stepsN (p : List Int) : List Nat := (List.range p.length).map fun j => wvN (opB p) (idealsN p) (j + 1) (allN p)
/-- Choices. -/
def bin : Nat → Nat → Nat
  | _, 0 => 1
  | 0, _ + 1 => 0
  | k + 1, j + 1 => bin k j + bin k (j + 1)
theorem bin_big : ∀ k j, k < j → bin k j = 0
  | _, 0, h => absurd h (Nat.not_lt_zero _)
  | 0, _ + 1, _ => rfl
  | k + 1, j + 1, h => by unfold bin; rw [bin_big k j (by omega), bin_big k (j + 1) (by omega)]
theorem bin_self : ∀ k, bin k k = 1
  | 0 => rfl
  | k + 1 => by unfold bin; rw [bin_self k, bin_big k (k + 1) (by omega)]
theorem bin_zero (k : Nat) : bin k 0 = 1 := by cases k <;> rfl
theorem frB_zero (p : List Int) : frB p 0 = true := by unfold frB; rw [allFrom_iff]; intro j _ _; rw [Nat.zero_testBit]; rfl
theorem ndiff_self (s : Nat) : ndiff s s = 0 := by unfold ndiff; rw [Nat.and_self, Nat.xor_self]
theorem sub_antisymm {s t : Nat} (h1 : subB s t = true) (h2 : ndiff t s = 0) : s = t := by
  apply Nat.eq_of_testBit_eq
  intro i
  rw [Bool.eq_iff_iff]
  exact ⟨fun h => subB_iff.1 h1 i h, fun h => ndiff_zero.1 h2 i h⟩
theorem st_split (p : List Int) (s t : Nat) : stB p true s t = (decide (s = t) || opB p s t) := by
  by_cases e : s = t
  · subst e
    unfold stB
    rw [ndiff_self, frB_zero, show subB s s = true by unfold subB; rw [ndiff_self]; rfl]
    simp
  · rw [decide_eq_false e, Bool.false_or]
    unfold stB opB
    cases h : subB s t with
    | false => rfl
    | true =>
      have : (ndiff t s == 0) = false := by rw [beq_eq_false_iff_ne]; exact fun h2 => e (sub_antisymm h h2)
      rw [this]; rfl
theorem op_irrefl (p : List Int) (s : Nat) : opB p s s = false := by unfold opB; rw [ndiff_self]; simp
theorem sum_split (p : List Int) (f : Nat → Nat) (t : Nat) : ∀ l : List Nat, l.Nodup → t ∈ l → sumL ((l.filter fun s => stB p true s t).map f) = f t + sumL ((l.filter fun s => opB p s t).map f)
  | [], _, h => by cases h
  | s :: l, hn, h => by
    obtain ⟨h1, h2⟩ := List.nodup_cons.1 hn
    rw [List.filter_cons, List.filter_cons, st_split]
    by_cases e : s = t
    · subst e
      rw [decide_eq_true rfl, Bool.true_or, if_pos rfl, op_irrefl, if_neg (by simp), List.map_cons]
      have e2 : l.filter (fun x => stB p true x s) = l.filter fun x => opB p x s := List.filter_congr fun x hx => by
        rw [st_split, decide_eq_false (fun e => h1 (by rw [← e]; exact hx)), Bool.false_or]
      rw [e2]; rfl
    · have ht : t ∈ l := by
        rcases List.mem_cons.1 h with h | h
        · exact absurd h.symm e
        · exact h
      rw [decide_eq_false e, Bool.false_or]
      have ih := sum_split p f t l h2 ht
      cases opB p s t with
      | false => rw [if_neg (by simp), if_neg (by simp)]; exact ih
      | true => rw [if_pos rfl, if_pos rfl, List.map_cons, List.map_cons]; simp only [sumL]; rw [ih]; omega
/-- f 0 + .. + f (n - 1). -/
def upto (f : Nat → Nat) : Nat → Nat
  | 0 => 0
  | n + 1 => upto f n + f n
theorem upto_congr {f g : Nat → Nat} : ∀ n, (∀ i, i < n → f i = g i) → upto f n = upto g n
  | 0, _ => rfl
  | n + 1, h => by unfold upto; rw [upto_congr n (fun i hi => h i (by omega)), h n (by omega)]
theorem upto_add (f g : Nat → Nat) : ∀ n, upto (fun i => f i + g i) n = upto f n + upto g n
  | 0 => rfl
  | n + 1 => by unfold upto; rw [upto_add f g n]; omega
theorem upto_shift (f : Nat → Nat) : ∀ n, upto f (n + 1) = f 0 + upto (fun i => f (i + 1)) n
  | 0 => by simp [upto]
  | n + 1 => by
    have e : upto f (n + 1 + 1) = upto f (n + 1) + f (n + 1) := rfl
    rw [e, upto_shift f n]
    show _ = f 0 + (upto (fun i => f (i + 1)) n + f (n + 1))
    omega
theorem upto_sum {α : Type} (g : Nat → α → Nat) : ∀ (l : List α) (n : Nat), sumL (l.map fun s => upto (fun j => g j s) n) = upto (fun j => sumL (l.map (g j))) n
  | [], n => by
    induction n with
    | zero => rfl
    | succ n ih => unfold upto; rw [← ih]; rfl
  | s :: l, n => by
    simp only [List.map_cons, sumL]
    rw [upto_sum g l n, ← upto_add]
theorem sumL_mul (c : Nat) {α : Type} (f : α → Nat) : ∀ l : List α, sumL (l.map fun s => c * f s) = c * sumL (l.map f)
  | [] => rfl
  | x :: l => by simp only [List.map_cons, sumL]; rw [sumL_mul c f l, Nat.mul_add]
theorem upto_zero (f : Nat → Nat) : ∀ (n m : Nat), n ≤ m → (∀ i, n ≤ i → i < m → f i = 0) → upto f m = upto f n
  | n, 0, h, _ => by rw [show n = 0 by omega]
  | n, m + 1, h, h0 => by
    rcases Nat.lt_or_ge m n with h1 | h1
    · rw [show n = m + 1 by omega]
    · show upto f m + f m = upto f n
      rw [upto_zero f n m h1 (fun i a b => h0 i a (by omega)), h0 m h1 (by omega), Nat.add_zero]
/-- STRICT ROWS ARE CHOICES OF STEPS. -/
theorem strict_steps (p : List Int) : ∀ (k N : Nat), k + 1 ≤ N → ∀ t ∈ idealsN p, wvN (stB p true) (idealsN p) k t = upto (fun j => bin k j * wvN (opB p) (idealsN p) j t) N
  | 0, N, h, t, ht => by
    rw [upto_zero _ 1 N h (fun i h1 _ => by rw [bin_big 0 i (by omega), Nat.zero_mul])]
    show _ = 0 + bin 0 0 * wvN (opB p) (idealsN p) 0 t
    rw [bin_zero, Nat.one_mul, Nat.zero_add]
    unfold wvN; rfl
  | k + 1, N, h, t, ht => by
    conv => lhs; unfold wvN
    rw [sum_split p _ t _ (idealsN_nodup p) ht]
    obtain ⟨M, rfl⟩ : ∃ M, N = M + 1 := ⟨N - 1, by omega⟩
    have e1 : sumL (((idealsN p).filter fun s => opB p s t).map (wvN (stB p true) (idealsN p) k)) = upto (fun j => bin k j * wvN (opB p) (idealsN p) (j + 1) t) M := by
      have e2 : ((idealsN p).filter fun s => opB p s t).map (wvN (stB p true) (idealsN p) k) = ((idealsN p).filter fun s => opB p s t).map fun s => upto (fun j => bin k j * wvN (opB p) (idealsN p) j s) M :=
        List.map_congr_left fun s hs => strict_steps p k M (by omega) s (List.mem_filter.1 hs).1
      rw [e2, upto_sum]
      refine upto_congr M fun j _ => ?_
      rw [sumL_mul]
      conv => rhs; unfold wvN
    rw [e1, strict_steps p k (M + 1) (by omega) t ht, upto_shift, upto_shift]
    have e3 : upto (fun i => bin (k + 1) (i + 1) * wvN (opB p) (idealsN p) (i + 1) t) M = upto (fun i => bin k (i + 1) * wvN (opB p) (idealsN p) (i + 1) t) M + upto (fun i => bin k i * wvN (opB p) (idealsN p) (i + 1) t) M := by
      rw [← upto_add]
      refine upto_congr M fun i _ => ?_
      show (bin k i + bin k (i + 1)) * _ = _
      rw [Nat.add_mul]; omega
    rw [e3, bin_zero, bin_zero]
    omega
theorem pcard_lt {p : List Int} {s t : Nat} (ht : t < 2 ^ p.length) (h : opB p s t = true) : pcard p.length s < pcard p.length t := by
  have hs := opB_sub h
  unfold opB at h
  simp only [Bool.and_eq_true, Bool.not_eq_true', beq_eq_false_iff_ne] at h
  obtain ⟨i, hi⟩ : ∃ i, (ndiff t s).testBit i = true := by
    rcases Classical.em (∃ i, (ndiff t s).testBit i = true) with h1 | h1
    · exact h1
    · refine absurd (Nat.eq_of_testBit_eq fun i => ?_) h.2.1
      rw [Nat.zero_testBit]
      cases hb : (ndiff t s).testBit i with
      | false => rfl
      | true => exact absurd ⟨i, hb⟩ h1
  rw [ndiff_bit, Bool.and_eq_true, Bool.not_eq_true'] at hi
  unfold pcard
  exact countP_lt _ _ _ (fun x _ hx => subB_iff.1 hs x hx) i (List.mem_range.2 (lt_of_bit ht hi.1)) hi.1 hi.2
theorem op_short {p : List Int} : ∀ j t, t < 2 ^ p.length → pcard p.length t < j → wvN (opB p) (idealsN p) j t = 0
  | 0, _, _, h => absurd h (Nat.not_lt_zero _)
  | j + 1, t, ht, h => by
    unfold wvN
    have : ∀ l : List Nat, (∀ s ∈ l, wvN (opB p) (idealsN p) j s = 0) → sumL (l.map (wvN (opB p) (idealsN p) j)) = 0 := by
      intro l
      induction l with
      | nil => intro _; rfl
      | cons x l ih => intro hl; simp only [List.map_cons, sumL]; rw [hl x List.mem_cons_self, ih (fun s hs => hl s (List.mem_cons_of_mem _ hs))]
    refine this _ fun s hs => ?_
    obtain ⟨h1, h2⟩ := List.mem_filter.1 hs
    exact op_short j s (mem_idealsN.1 h1).1 (by have := pcard_lt ht h2; omega)
/-- At the set of all: by the steps alone. -/
theorem strict_all {p : List Int} (hp : PO p) (k : Nat) : wvN (stB p true) (idealsN p) k (allN p) = upto (fun j => bin k (j + 1) * wvN (opB p) (idealsN p) (j + 1) (allN p)) p.length := by
  have hall : allN p ∈ idealsN p := mem_idealsN.2 ⟨allN_lt p, idealB_all p hp⟩
  rw [strict_steps p k (k + p.length + 2) (by omega) _ hall]
  rw [show k + p.length + 2 = (k + p.length + 1) + 1 by omega, upto_shift]
  have h0 : wvN (opB p) (idealsN p) 0 (allN p) = 0 := by
    unfold wvN
    rw [if_neg]
    unfold allN
    have : 2 ^ 1 ≤ 2 ^ p.length := Nat.pow_le_pow_right (by decide) hp.pos
    omega
  rw [h0, Nat.mul_zero, Nat.zero_add]
  exact upto_zero _ p.length _ (by omega) (fun i h1 _ => by rw [op_short (i + 1) _ (allN_lt p) (by rw [pcard_all]; omega), Nat.mul_zero])
end Go.Proofs.Ytemkddgfneohhaa.Q
end

section
namespace Go.Proofs.Ytemkddgfneohhaa.Q
open Go.RowKit Go.Proofs.YtemkddgfneohhaaW.PrintWords
set_option linter.unusedVariables false
def outN (p : List Int) (t : Nat) : Nat := p.length - pcard p.length t
theorem outN_le (p : List Int) (t : Nat) : outN p t ≤ p.length := Nat.sub_le _ _
/-- How many rows of so many steps end in a set and leave out just so many elements together. -/
def wsN (p : List Int) : Nat → Nat → Nat → Nat
  | 0, s, j => if s = 0 ∧ j = 0 then 1 else 0
  | q + 1, t, j => if outN p t ≤ j then sumL (((idealsN p).filter fun s => subB s t).map fun s => wsN p q s (j - outN p t)) else 0
theorem wsN_le (p : List Int) : ∀ q s j, wsN p q s j ≤ wvN (stB p false) (idealsN p) q s
  | 0, s, j => by
    unfold wsN wvN
    by_cases h : s = 0
    · rw [if_pos h]; split <;> omega
    · rw [if_neg (fun h2 => h h2.1), if_neg h]; exact Nat.le_refl _
  | q + 1, t, j => by
    unfold wsN wvN
    split
    · have e : (idealsN p).filter (fun s => stB p false s t) = (idealsN p).filter fun s => subB s t := List.filter_congr fun s _ => by unfold stB; simp
      rw [e]
      exact sumL_map_le _ _ _ fun s _ => wsN_le p q s _
    · exact Nat.zero_le _
theorem sumL_none {α : Type} (f : α → Nat) : ∀ l : List α, (∀ x ∈ l, f x = 0) → sumL (l.map f) = 0
  | [], _ => rfl
  | x :: l, h => by simp only [List.map_cons, sumL]; rw [h x List.mem_cons_self, sumL_none f l (fun y hy => h y (List.mem_cons_of_mem _ hy))]
theorem wsN_zero (p : List Int) : ∀ q s j, p.length * q < j → wsN p q s j = 0
  | 0, s, j, h => by
    unfold wsN
    rw [if_neg (fun h2 => by omega)]
  | q + 1, t, j, h => by
    unfold wsN
    split
    · refine sumL_none _ _ fun s _ => wsN_zero p q s _ ?_
      have := outN_le p t
      rw [Nat.mul_succ] at h
      omega
    · rfl
/-- All rows of so many steps with just so many left out. -/
def wT (p : List Int) (m j : Nat) : Nat := sumL ((idealsN p).map fun s => wsN p m s j)
theorem wT_le (p : List Int) (m j : Nat) : wT p m j ≤ sumL ((idealsN p).map fun s => wvN (stB p false) (idealsN p) m s) := sumL_map_le _ _ _ fun s _ => wsN_le p m s j
theorem wT_total (p : List Int) (m : Nat) : sumL ((idealsN p).map fun s => wvN (stB p false) (idealsN p) m s) = wvN (stB p false) (idealsN p) (m + 1) (allN p) := by
  conv => rhs; unfold wvN
  have e : (idealsN p).filter (fun s => stB p false s (allN p)) = idealsN p := List.filter_eq_self.2 fun s hs => by unfold stB; rw [sub_all (mem_idealsN.1 hs).1]; rfl
  rw [e]
theorem wT_small {p : List Int} (hp : p.length ≤ 10) {m : Nat} (hm : m ≤ 13) (j : Nat) : wT p m j ≤ 576650390625 :=
  Nat.le_trans (wT_le p m j) (by rw [wT_total]; exact wvN_small hp (fun s t h => stB_sub h) (by omega))
end Go.Proofs.Ytemkddgfneohhaa.Q
end

section
namespace Go.Proofs.Ytemkddgfneohhaa.Q
open Go.RowKit Go.Proofs.YtemkddgfneohhaaW.PrintWords
set_option linter.unusedVariables false
/-- Numbers upon the elements, at most m, that grow with them. -/
structure LabN (p : List Int) (m : Nat) (f : List Nat) : Prop where
  len : f.length = p.length
  le : ∀ i, i < p.length → f.getD i 0 ≤ m
  up : ∀ i, i < p.length → ∀ j, (L p i).testBit j = true → f.getD j 0 ≤ f.getD i 0
theorem ext_nat {a b : List Nat} (hl : a.length = b.length) (h : ∀ i, i < a.length → a.getD i 0 = b.getD i 0) : a = b := by
  apply List.ext_getElem hl
  intro i h1 h2
  have := h i h1
  rw [List.getD_eq_getElem?_getD, List.getD_eq_getElem?_getD, List.getElem?_eq_getElem h1, List.getElem?_eq_getElem h2] at this
  exact this
theorem getD_tab (n : Nat) (g : Nat → Nat) {i : Nat} (h : i < n) : ((List.range n).map g).getD i 0 = g i := by
  rw [List.getD_eq_getElem?_getD, List.getElem?_map, List.getElem?_range h]; rfl
theorem getD_snoc (f : List Nat) (x i : Nat) : (f ++ [x]).getD i 0 = if i = f.length then x else f.getD i 0 := by
  rw [List.getD_eq_getElem?_getD, List.getD_eq_getElem?_getD]
  rcases Nat.lt_trichotomy i f.length with h | h | h
  · rw [List.getElem?_append_left h, if_neg (by omega)]
  · subst h; rw [List.getElem?_append_right (Nat.le_refl _), Nat.sub_self, if_pos rfl]; rfl
  · rw [List.getElem?_append_right (by omega), if_neg (by omega), List.getElem?_eq_none (by simp; omega), List.getElem?_eq_none (by omega)]
theorem getD_take (f : List Nat) {k i : Nat} (h : i < k) : (f.take k).getD i 0 = f.getD i 0 := by
  rw [List.getD_eq_getElem?_getD, List.getD_eq_getElem?_getD, List.getElem?_take, if_pos h]
/-- The most of what lies below the next element. -/
def leastN (p : List Int) (f : List Nat) (k : Nat) : Nat := (List.range k).foldl (fun a j => if (L p f.length).testBit j then max a (f.getD j 0) else a) 0
theorem leastN_le (p : List Int) (f : List Nat) (x : Nat) : ∀ k, leastN p f k ≤ x ↔ ∀ j, j < k → (L p f.length).testBit j = true → f.getD j 0 ≤ x
  | 0 => by simp [leastN]
  | k + 1 => by
    have ih := leastN_le p f x k
    have e : leastN p f (k + 1) = if (L p f.length).testBit k then max (leastN p f k) (f.getD k 0) else leastN p f k := by
      unfold leastN; rw [List.range_succ, List.foldl_append]; rfl
    rw [e]
    constructor
    · intro h j hj hb
      rcases Nat.lt_or_ge j k with h1 | h1
      · refine ih.1 ?_ j h1 hb
        split at h <;> omega
      · have hjk : j = k := by omega
        subst hjk
        rw [if_pos hb] at h; omega
    · intro h
      have h1 := ih.2 (fun j hj hb => h j (by omega) hb)
      split
      · rename_i hb
        have := h k (by omega) hb
        omega
      · exact h1
def laN (p : List Int) (m : Nat) : Nat → List Nat → List (List Nat)
  | 0, f => [f]
  | d + 1, f => (List.range' (leastN p f f.length) (m + 1 - leastN p f f.length)).flatMap fun x => laN p m d (f ++ [x])
theorem mem_range'' {a n x : Nat} : x ∈ List.range' a n ↔ a ≤ x ∧ x < a + n := by
  rw [List.mem_range'_1]
theorem mem_laN {p : List Int} (hp : PO p) (m : Nat) : ∀ d f, f.length + d = p.length → ∀ g, g ∈ laN p m d f ↔ g.length = p.length ∧ g.take f.length = f ∧ ∀ i, f.length ≤ i → i < p.length → g.getD i 0 ≤ m ∧ ∀ j, (L p i).testBit j = true → g.getD j 0 ≤ g.getD i 0 := by
  intro d
  induction d with
  | zero =>
    intro f hf g
    unfold laN
    rw [List.mem_singleton]
    constructor
    · rintro rfl
      exact ⟨by omega, List.take_length, fun i h1 h2 => by omega⟩
    · rintro ⟨h1, h2, _⟩
      rw [List.take_of_length_le (by omega)] at h2
      exact h2
  | succ d ih =>
    intro f hf g
    unfold laN
    rw [List.mem_flatMap]
    constructor
    · rintro ⟨x, hx, hg⟩
      rw [mem_range''] at hx
      obtain ⟨h1, h2, h3⟩ := (ih (f ++ [x]) (by rw [List.length_append, List.length_singleton]; omega) g).1 hg
      rw [List.length_append, List.length_singleton] at h2 h3
      have hget : ∀ j, j < f.length + 1 → g.getD j 0 = (f ++ [x]).getD j 0 := fun j hj => by rw [← h2, getD_take _ hj]
      refine ⟨h1, ?_, fun i hi1 hi2 => ?_⟩
      · have : (g.take (f.length + 1)).take f.length = f := by rw [h2, List.take_left' rfl]
        rwa [List.take_take, Nat.min_eq_left (by omega)] at this
      · rcases Nat.lt_or_ge f.length i with h4 | h4
        · exact h3 i (by omega) hi2
        · have hi : i = f.length := by omega
          subst hi
          have hgi : g.getD f.length 0 = x := by rw [hget _ (by omega), getD_snoc, if_pos rfl]
          rw [hgi]
          refine ⟨by omega, fun j hb => ?_⟩
          have hj := lt_of_bit (hp.lt f.length hi2) hb
          rw [hget j (by omega), getD_snoc, if_neg (by omega)]
          exact (leastN_le p f x f.length).1 hx.1 j hj hb
    · rintro ⟨h1, h2, h3⟩
      have hget : ∀ j, j < f.length → g.getD j 0 = f.getD j 0 := fun j hj => by rw [← getD_take g hj, h2]
      obtain ⟨h4, h5⟩ := h3 f.length (Nat.le_refl _) (by omega)
      have h6 : leastN p f f.length ≤ g.getD f.length 0 := (leastN_le p f _ f.length).2 fun j hj hb => by rw [← hget j hj]; exact h5 j hb
      refine ⟨g.getD f.length 0, mem_range''.2 ⟨h6, by omega⟩, ?_⟩
      refine (ih (f ++ [g.getD f.length 0]) (by rw [List.length_append, List.length_singleton]; omega) g).2 ⟨h1, ?_, fun i hi1 hi2 => ?_⟩
      · rw [List.length_append, List.length_singleton, List.take_add_one, h2, List.getD_eq_getElem?_getD, List.getElem?_eq_getElem (by omega)]
        rfl
      · rw [List.length_append, List.length_singleton] at hi1
        exact h3 i (by omega) hi2
theorem nodup_laN {p : List Int} (hp : PO p) (m : Nat) : ∀ d f, f.length + d = p.length → (laN p m d f).Nodup := by
  intro d
  induction d with
  | zero => intro f _; unfold laN; exact List.nodup_cons.2 ⟨by simp, List.nodup_nil⟩
  | succ d ih =>
    intro f hf
    unfold laN
    refine List.pairwise_flatMap.2 ⟨fun x _ => ih _ (by rw [List.length_append, List.length_singleton]; omega), ?_⟩
    refine List.Pairwise.imp ?_ (List.nodup_range' (s := leastN p f f.length) (n := m + 1 - leastN p f f.length))
    intro a b hab x hx y hy hxy
    subst hxy
    have e1 := ((mem_laN hp m d (f ++ [a]) (by rw [List.length_append, List.length_singleton]; omega) x).1 hx).2.1
    have e2 := ((mem_laN hp m d (f ++ [b]) (by rw [List.length_append, List.length_singleton]; omega) x).1 hy).2.1
    rw [List.length_append, List.length_singleton] at e1 e2
    rw [e1] at e2
    have := List.append_cancel_left e2
    exact hab (List.cons.inj this).1
def addOut (p : List Int) (t : Nat) (g : List Nat) : List Nat := (List.range p.length).map fun i => g.getD i 0 + if t.testBit i then 0 else 1
theorem addOut_len (p : List Int) (t : Nat) (g : List Nat) : (addOut p t g).length = p.length := by simp [addOut]
theorem addOut_get (p : List Int) (t : Nat) (g : List Nat) {i : Nat} (h : i < p.length) : (addOut p t g).getD i 0 = g.getD i 0 + if t.testBit i then 0 else 1 := getD_tab _ _ h
theorem addOut_inj {p : List Int} {t : Nat} {g g' : List Nat} (h1 : g.length = p.length) (h2 : g'.length = p.length) (h : addOut p t g = addOut p t g') : g = g' := by
  refine ext_nat (by omega) (fun i hi => ?_)
  have e1 := addOut_get p t g (i := i) (by omega)
  have e2 := addOut_get p t g' (i := i) (by omega)
  rw [h, e2] at e1
  omega
def labL (p : List Int) : Nat → Nat → List (List Nat)
  | 0, t => if t = 0 then [List.replicate p.length 0] else []
  | q + 1, t => ((idealsN p).filter fun s => subB s t).flatMap fun s => (labL p q s).map (addOut p t)
theorem rep_get (n i : Nat) : (List.replicate n 0).getD i 0 = 0 := by
  rw [List.getD_eq_getElem?_getD, List.getElem?_replicate]; split <;> rfl
theorem mem_labL {p : List Int} (hp : PO p) : ∀ q t, t ∈ idealsN p → ∀ f, f ∈ labL p q t ↔ LabN p q f ∧ ∀ i, i < p.length → t.testBit i = decide (f.getD i 0 < q) := by
  intro q
  induction q with
  | zero =>
    intro t ht f
    have htl := (mem_idealsN.1 ht).1
    unfold labL
    constructor
    · intro h
      by_cases h0 : t = 0
      · rw [if_pos h0, List.mem_singleton] at h
        subst h
        refine ⟨⟨by simp, fun i _ => by rw [rep_get]; exact Nat.le_refl _, fun i _ j _ => by rw [rep_get, rep_get]; exact Nat.le_refl _⟩, fun i _ => ?_⟩
        rw [h0, rep_get, Nat.zero_testBit]; rfl
      · rw [if_neg h0] at h; cases h
    · rintro ⟨hf, hb⟩
      have h0 : t = 0 := ext_bits htl (Nat.two_pow_pos _) fun i hi => by rw [hb i hi, Nat.zero_testBit]; simp
      rw [if_pos h0, List.mem_singleton]
      refine ext_nat (by rw [hf.len]; simp) fun i hi => ?_
      have := hf.le i (by have := hf.len; omega)
      rw [rep_get]; omega
  | succ q ih =>
    intro t ht f
    obtain ⟨htl, hti⟩ := mem_idealsN.1 ht
    unfold labL
    rw [List.mem_flatMap]
    constructor
    · rintro ⟨s, hs, hf⟩
      obtain ⟨hs1, hs2⟩ := List.mem_filter.1 hs
      obtain ⟨g, hg, rfl⟩ := List.mem_map.1 hf
      obtain ⟨hg1, hg2⟩ := (ih s hs1 g).1 hg
      have hst := subB_iff.1 hs2
      have hv : ∀ i, i < p.length → t.testBit i = false → g.getD i 0 = q := fun i hi hb => by
        have h1 := hg1.le i hi
        have h2 := hg2 i hi
        cases h3 : s.testBit i with
        | true => rw [hst i h3] at hb; cases hb
        | false => rw [h3] at h2; have := of_decide_eq_false h2.symm; omega
      refine ⟨⟨addOut_len _ _ _, fun i hi => ?_, fun i hi j hb => ?_⟩, fun i hi => ?_⟩
      · rw [addOut_get _ _ _ hi]
        have := hg1.le i hi
        split <;> omega
      · have hj : j < p.length := Nat.lt_trans (lt_of_bit (hp.lt i hi) hb) hi
        rw [addOut_get _ _ _ hi, addOut_get _ _ _ hj]
        have h1 := hg1.up i hi j hb
        cases h2 : t.testBit i with
        | true =>
          rw [idealB_iff.1 hti i hi h2 j hb]
          exact Nat.add_le_add_right h1 _
        | false =>
          have h3 := hv i hi h2
          have h4 := hg1.le j hj
          show g.getD j 0 + (if t.testBit j = true then 0 else 1) ≤ g.getD i 0 + 1
          split <;> omega
      · rw [addOut_get _ _ _ hi]
        cases h2 : t.testBit i with
        | true => have := hg1.le i hi; rw [if_pos rfl]; exact (decide_eq_true (by omega)).symm
        | false => have := hv i hi h2; rw [if_neg (by simp)]; exact (decide_eq_false (by omega)).symm
    · rintro ⟨hf, hb⟩
      obtain ⟨s, hs⟩ : ∃ s, s = maskOf p.length (fun i => decide (f.getD i 0 < q)) := ⟨_, rfl⟩
      have hsl : s < 2 ^ p.length := by rw [hs]; exact maskOf_lt _ _
      have hsb : ∀ i, s.testBit i = (decide (i < p.length) && decide (f.getD i 0 < q)) := fun i => by rw [hs, maskOf_bit]
      have hsi : idealB p s = true := idealB_iff.2 fun i hi h j hj => by
        rw [hsb, Bool.and_eq_true, decide_eq_true_eq, decide_eq_true_eq] at h ⊢
        have := hf.up i hi j hj
        exact ⟨Nat.lt_trans (lt_of_bit (hp.lt i hi) hj) hi, by omega⟩
      have hst : subB s t = true := subB_iff.2 fun i h => by
        rw [hsb, Bool.and_eq_true, decide_eq_true_eq, decide_eq_true_eq] at h
        rw [hb i h.1]; exact decide_eq_true (by omega)
      have hs1 : s ∈ idealsN p := mem_idealsN.2 ⟨hsl, hsi⟩
      obtain ⟨g, hg⟩ : ∃ g, g = (List.range p.length).map (fun i => min (f.getD i 0) q) := ⟨_, rfl⟩
      have hgg : ∀ i, i < p.length → g.getD i 0 = min (f.getD i 0) q := fun i hi => by rw [hg, getD_tab _ _ hi]
      refine ⟨s, List.mem_filter.2 ⟨hs1, hst⟩, List.mem_map.2 ⟨g, (ih s hs1 g).2 ⟨⟨by rw [hg]; simp, fun i hi => by rw [hgg i hi]; omega, fun i hi j hj => ?_⟩, fun i hi => ?_⟩, ?_⟩⟩
      · rw [hgg i hi, hgg j (Nat.lt_trans (lt_of_bit (hp.lt i hi) hj) hi)]
        have := hf.up i hi j hj
        omega
      · rw [hsb, hgg i hi, decide_eq_true hi, Bool.true_and]
        by_cases h : f.getD i 0 < q
        · rw [decide_eq_true h, decide_eq_true (by omega)]
        · rw [decide_eq_false h, decide_eq_false (by omega)]
      · refine ext_nat (by rw [addOut_len, hf.len]) fun i hi => ?_
        rw [addOut_len] at hi
        rw [addOut_get _ _ _ hi, hgg i hi, hb i hi]
        have := hf.le i hi
        by_cases h : f.getD i 0 < q + 1
        · rw [decide_eq_true h, if_pos rfl]; omega
        · rw [decide_eq_false h, if_neg (by simp)]; omega
theorem nodup_of_ids {p : List Int} {P : Nat → Bool} : ((idealsN p).filter P).Nodup := List.Pairwise.filter _ (idealsN_nodup p)
theorem nodup_map_inj {α β : Type} {f : α → β} {l : List α} (hl : l.Nodup) (h : ∀ a ∈ l, ∀ b ∈ l, f a = f b → a = b) : (l.map f).Nodup := by
  refine List.pairwise_map.2 (List.Pairwise.imp_of_mem ?_ hl)
  intro a b ha hb hab e
  exact hab (h a ha b hb e)
theorem bits_eq_of {p : List Int} {s s' : Nat} (h1 : s < 2 ^ p.length) (h2 : s' < 2 ^ p.length) {q : Nat} {g : List Nat} (e1 : ∀ i, i < p.length → s.testBit i = decide (g.getD i 0 < q)) (e2 : ∀ i, i < p.length → s'.testBit i = decide (g.getD i 0 < q)) : s = s' :=
  ext_bits h1 h2 fun i hi => by rw [e1 i hi, e2 i hi]
theorem nodup_labL {p : List Int} (hp : PO p) : ∀ q t, t ∈ idealsN p → (labL p q t).Nodup := by
  intro q
  induction q with
  | zero => intro t _; unfold labL; split; exact List.nodup_cons.2 ⟨by simp, List.nodup_nil⟩; exact List.nodup_nil
  | succ q ih =>
    intro t ht
    unfold labL
    refine List.pairwise_flatMap.2 ⟨fun s hs => ?_, ?_⟩
    · have hs1 := (List.mem_filter.1 hs).1
      exact nodup_map_inj (ih s hs1) fun a ha b hb e => addOut_inj ((mem_labL hp q s hs1 a).1 ha).1.len ((mem_labL hp q s hs1 b).1 hb).1.len e
    · refine List.Pairwise.imp_of_mem ?_ (nodup_of_ids (p := p) (P := fun s => subB s t))
      intro s s' hs hs' hne x hx y hy hxy
      subst hxy
      have hs1 := (List.mem_filter.1 hs).1
      have hs2 := (List.mem_filter.1 hs').1
      obtain ⟨g, hg, e1⟩ := List.mem_map.1 hx
      obtain ⟨g', hg', e2⟩ := List.mem_map.1 hy
      have k1 := (mem_labL hp q s hs1 g).1 hg
      have k2 := (mem_labL hp q s' hs2 g').1 hg'
      have := addOut_inj k1.1.len k2.1.len (e1.trans e2.symm)
      subst this
      exact hne (bits_eq_of (mem_idealsN.1 hs1).1 (mem_idealsN.1 hs2).1 k1.2 k2.2)
/-- All labels by chains. -/
def chL (p : List Int) (m : Nat) : List (List Nat) := (idealsN p).flatMap (labL p m)
theorem mem_chL {p : List Int} (hp : PO p) (m : Nat) (f : List Nat) : f ∈ chL p m ↔ LabN p m f := by
  unfold chL
  rw [List.mem_flatMap]
  constructor
  · rintro ⟨s, hs, hf⟩; exact ((mem_labL hp m s hs f).1 hf).1
  · intro hf
    obtain ⟨s, hs⟩ : ∃ s, s = maskOf p.length (fun i => decide (f.getD i 0 < m)) := ⟨_, rfl⟩
    have hsb : ∀ i, s.testBit i = (decide (i < p.length) && decide (f.getD i 0 < m)) := fun i => by rw [hs, maskOf_bit]
    have hs1 : s ∈ idealsN p := mem_idealsN.2 ⟨by rw [hs]; exact maskOf_lt _ _, idealB_iff.2 fun i hi h j hj => by
      rw [hsb, Bool.and_eq_true, decide_eq_true_eq, decide_eq_true_eq] at h ⊢
      have := hf.up i hi j hj
      exact ⟨Nat.lt_trans (lt_of_bit (hp.lt i hi) hj) hi, by omega⟩⟩
    exact ⟨s, hs1, (mem_labL hp m s hs1 f).2 ⟨hf, fun i hi => by rw [hsb, decide_eq_true hi, Bool.true_and]⟩⟩
theorem nodup_chL {p : List Int} (hp : PO p) (m : Nat) : (chL p m).Nodup := by
  unfold chL
  refine List.pairwise_flatMap.2 ⟨fun s hs => nodup_labL hp m s hs, ?_⟩
  refine List.Pairwise.imp_of_mem ?_ (idealsN_nodup p)
  intro s s' hs hs' hne x hx y hy hxy
  subst hxy
  exact hne (bits_eq_of (mem_idealsN.1 hs).1 (mem_idealsN.1 hs').1 ((mem_labL hp m s hs x).1 hx).2 ((mem_labL hp m s' hs' x).1 hy).2)
def labsN (p : List Int) (m : Nat) : List (List Nat) := laN p m p.length []
theorem mem_labsN {p : List Int} (hp : PO p) (m : Nat) (f : List Nat) : f ∈ labsN p m ↔ LabN p m f := by
  unfold labsN
  rw [mem_laN hp m p.length [] (by simp) f]
  constructor
  · rintro ⟨h1, _, h3⟩; exact ⟨h1, fun i hi => (h3 i (Nat.zero_le _) hi).1, fun i hi => (h3 i (Nat.zero_le _) hi).2⟩
  · intro h; exact ⟨h.len, rfl, fun i _ hi => ⟨h.le i hi, h.up i hi⟩⟩
theorem labs_perm {p : List Int} (hp : PO p) (m : Nat) : List.Perm (labsN p m) (chL p m) :=
  (List.perm_ext_iff_of_nodup (nodup_laN hp m p.length [] (by simp)) (nodup_chL hp m)).2 fun f => (mem_labsN hp m f).trans (mem_chL hp m f).symm
theorem sumL_sum (l : List Nat) : sumL l = l.sum := by
  induction l with
  | nil => rfl
  | cons x l ih => simp only [sumL, List.sum_cons, ih]
theorem labL_len {p : List Int} : ∀ q t, (labL p q t).length = wvN (stB p false) (idealsN p) q t
  | 0, t => by unfold labL wvN; split <;> rfl
  | q + 1, t => by
    unfold labL wvN
    have e : (idealsN p).filter (fun s => stB p false s t) = (idealsN p).filter fun s => subB s t := List.filter_congr fun s _ => by unfold stB; simp
    rw [e, List.length_flatMap, sumL_sum]
    congr 1
    refine List.map_congr_left fun s _ => ?_
    rw [List.length_map, labL_len q s]
theorem labs_count {p : List Int} (hp : PO p) (m : Nat) : (labsN p m).length = wvN (stB p false) (idealsN p) (m + 1) (allN p) := by
  rw [(labs_perm hp m).length_eq, ← wT_total, sumL_sum]
  unfold chL
  rw [List.length_flatMap]
  congr 1
  exact List.map_congr_left fun s _ => labL_len m s
theorem sum_tab (g : Nat → Nat) (t : Nat) : ∀ k, ((List.range k).map fun i => g i + if t.testBit i then 0 else 1).sum + pcard k t = ((List.range k).map g).sum + k
  | 0 => by rw [show pcard 0 t = 0 from rfl]; rfl
  | k + 1 => by
    have := sum_tab g t k
    rw [List.range_succ, List.map_append, List.map_append, List.sum_append, List.sum_append, pcard_succ]
    simp only [List.map_cons, List.map_nil, List.sum_cons, List.sum_nil]
    split <;> omega
theorem tab_self {n : Nat} {g : List Nat} (h : g.length = n) : (List.range n).map (fun i => g.getD i 0) = g :=
  ext_nat (by simp [h]) fun i hi => getD_tab n _ (by simpa using hi)
theorem addOut_sum {p : List Int} {t : Nat} {g : List Nat} (h : g.length = p.length) : (addOut p t g).sum = g.sum + outN p t := by
  have h1 := sum_tab (fun i => g.getD i 0) t p.length
  rw [tab_self h] at h1
  have h2 := pcard_le p.length t
  unfold addOut outN
  omega
theorem labL_sum {p : List Int} (hp : PO p) : ∀ q t j, t ∈ idealsN p → (labL p q t).countP (fun f => decide (f.sum = j)) = wsN p q t j
  | 0, t, j, _ => by
    unfold labL wsN
    by_cases h : t = 0
    · rw [if_pos h]
      by_cases hj : j = 0
      · rw [if_pos ⟨h, hj⟩, hj]; simp
      · rw [if_neg (fun g => hj g.2)]; simp; omega
    · rw [if_neg h, if_neg (fun g => h g.1)]; rfl
  | q + 1, t, j, ht => by
    unfold labL wsN
    rw [List.countP_flatMap]
    have e : ∀ s ∈ (idealsN p).filter (fun s => subB s t), (List.countP (fun f => decide (f.sum = j)) ∘ fun s => (labL p q s).map (addOut p t)) s = if outN p t ≤ j then wsN p q s (j - outN p t) else 0 := fun s hs => by
      have hs1 := (List.mem_filter.1 hs).1
      show List.countP (fun f => decide (f.sum = j)) ((labL p q s).map (addOut p t)) = _
      rw [List.countP_map]
      have hlen : ∀ g ∈ labL p q s, g.length = p.length := fun g hg => ((mem_labL hp q s hs1 g).1 hg).1.len
      by_cases h : outN p t ≤ j
      · rw [if_pos h, ← labL_sum hp q s (j - outN p t) hs1]
        refine List.countP_congr fun g hg => ?_
        show decide ((addOut p t g).sum = j) = true ↔ _
        rw [addOut_sum (hlen g hg), decide_eq_true_eq, decide_eq_true_eq]
        omega
      · rw [if_neg h, List.countP_eq_zero]
        intro g hg
        show ¬ decide ((addOut p t g).sum = j) = true
        rw [addOut_sum (hlen g hg), decide_eq_true_eq]
        omega
    rw [List.map_congr_left e]
    by_cases h : outN p t ≤ j
    · rw [if_pos h, sumL_sum]
      congr 1
      exact List.map_congr_left fun s _ => if_pos h
    · rw [if_neg h, ← sumL_sum]
      exact sumL_none _ _ fun s _ => if_neg h
theorem labs_sum {p : List Int} (hp : PO p) (m j : Nat) : (labsN p m).countP (fun f => decide (f.sum = j)) = wT p m j := by
  rw [List.Perm.countP_eq _ (labs_perm hp m)]
  unfold chL wT
  rw [List.countP_flatMap, sumL_sum]
  congr 1
  exact List.map_congr_left fun s hs => labL_sum hp m s j hs
end Go.Proofs.Ytemkddgfneohhaa.Q
end

section
namespace Go.Proofs.Ytemkddgfneohhaa.Q
open Go.RowKit Go.Proofs.YtemkddgfneohhaaW.PrintWords Go.Proofs.Ytemkddgfneohhaa.F
set_option linter.unusedVariables false
theorem l1MostN (a b : Nat) : spec_l1Most.f (a : Int) (b : Int) = some ((max a b : Nat) : Int) := by
  unfold spec_l1Most.f
  split
  · congr 1; omega
  · congr 1; omega
theorem l1OwnN {l : List Int} (h : l.length ≤ 1000) : spec_l1Own.f l = some l := by
  unfold spec_l1Own.f
  rw [Option.bind_some, if_pos (by simp; omega), List.nil_append]
theorem laN_ne {p : List Int} (hp : PO p) (m : Nat) : ∀ d f, f.length + d = p.length → (∀ i, i < f.length → f.getD i 0 ≤ m) → 0 < (laN p m d f).length
  | 0, f, _, _ => by unfold laN; exact Nat.one_pos
  | d + 1, f, hf, hm => by
    have h1 : leastN p f f.length ≤ m := (leastN_le p f m f.length).2 fun j hj _ => hm j hj
    have h2 := laN_ne hp m d (f ++ [leastN p f f.length]) (by rw [List.length_append, List.length_singleton]; omega) (fun i hi => by
      rw [getD_snoc]
      rw [List.length_append, List.length_singleton] at hi
      split
      · exact h1
      · exact hm i (by omega))
    obtain ⟨g, hg⟩ := List.exists_mem_of_length_pos h2
    have : g ∈ laN p m (d + 1) f := by
      unfold laN
      exact List.mem_flatMap.2 ⟨leastN p f f.length, mem_range''.2 ⟨Nat.le_refl _, by omega⟩, hg⟩
    exact List.length_pos_of_mem this
theorem leastN_step (p : List Int) (f : List Nat) (k : Nat) : leastN p f (k + 1) = if (L p f.length).testBit k then max (leastN p f k) (f.getD k 0) else leastN p f k := by
  unfold leastN; rw [List.range_succ, List.foldl_append]; rfl
theorem range'_succ'' (x e : Nat) : List.range' x (e + 1) = x :: List.range' (x + 1) e := rfl
theorem laAll_ev {p : List Int} (hp : PO p) {m : Nat} (hm : m ≤ 12) : ∀ d f, f.length + d = p.length → (∀ i, i < f.length → f.getD i 0 ≤ m) → ∀ most : Nat, most ≤ 100000 → (laN p m d f).length ≤ most → Ev (fun k => spec_laAll.f k p (ints f) (m : Int) (most : Int)) ((laN p m d f).map ints) := by
  have hn := hp.small
  intro d
  induction d with
  | zero =>
    intro f hf _ most _ _
    refine Ev.step (by intro k; simp only [spec_laAll.f]; rfl) ?_
    rw [ints_len]
    refine Ev.yes (by omega) (Ev.call (l1OwnN (by rw [ints_len]; omega)) (Ev.ret ?_))
    unfold laN; rfl
  | succ d ih =>
    intro f hf hfm most hmost hlen
    refine Ev.step (by intro k; simp only [spec_laAll.f]; rfl) ?_
    rw [ints_len]
    refine Ev.no (by omega) ?_
    have hi : f.length < p.length := by omega
    have hL : L p f.length < 2 ^ 62 := lt_pow (hp.lt _ hi) (by omega)
    -- the numbers to be tried
    have inner : ∀ (e x : Nat) (out : List (List Nat)), x + e = m + 1 → out.length + ((List.range' x e).flatMap fun x => laN p m d (f ++ [x])).length ≤ most →
        Ev (fun k => spec_laAll.l1 k (ints f) (m : Int) (most : Int) (out.map ints) (x : Int) p) (((out ++ (List.range' x e).flatMap fun x => laN p m d (f ++ [x]))).map ints) := by
      intro e
      induction e with
      | zero =>
        intro x out hx _
        refine Ev.step (by intro k; simp only [spec_laAll.l1]; rfl) (Ev.no (by omega) ?_)
        refine Ev.step (by intro k; simp only [spec_laAll.j2]; rfl) (Ev.no (by simp) (Ev.ret ?_))
        rw [show List.range' x 0 = [] from rfl, List.flatMap_nil, List.append_nil]
      | succ e ihe =>
        intro x out hx hl
        rw [range'_succ'', List.flatMap_cons, List.length_append] at hl
        have hxm : ∀ i, i < (f ++ [x]).length → (f ++ [x]).getD i 0 ≤ m := fun i hi2 => by
          rw [List.length_append, List.length_singleton] at hi2
          rw [getD_snoc]
          split
          · omega
          · exact hfm i (by omega)
        have hlx : (f ++ [x]).length + d = p.length := by rw [List.length_append, List.length_singleton]; omega
        have hne := laN_ne hp m d (f ++ [x]) hlx hxm
        refine Ev.step (by intro k; simp only [spec_laAll.l1]; rfl) (Ev.yes (by omega) ?_)
        rw [List.length_map, decide_eq_true (show (out.length : Int) < (most : Int) by omega)]
        refine Ev.step (by intro k; simp only [spec_laAll.j2]; rfl) (Ev.yes (show true = true from rfl) ?_)
        refine Ev.call (l1OwnN (by rw [ints_len]; omega)) (Ev.call rfl (Ev.yes (by rw [ints_len]; simp; omega) ?_))
        rw [List.length_map, show wrap64 ((most : Int) - (out.length : Int)) = ((most - out.length : Nat) : Int) by rw [wid (by omega) (by omega)]; omega]
        have hcall := ih (f ++ [x]) hlx hxm (most - out.length) (by omega) (by omega)
        rw [show ints f ++ [(x : Int)] = ints (f ++ [x]) by rw [ints_app]; rfl]
        refine Ev.bind hcall (Ev.yes (by rw [List.length_map]; omega) ?_)
        have hnext := ihe (x + 1) (out ++ laN p m d (f ++ [x])) (by omega) (by rw [List.length_append]; omega)
        rw [show wrap64 ((x : Int) + 1) = ((x + 1 : Nat) : Int) by rw [wid (by omega) (by omega)]; omega, ← List.map_append]
        rw [range'_succ'', List.flatMap_cons, ← List.append_assoc]
        exact hnext
    have h1 : leastN p f f.length ≤ m := (leastN_le p f m f.length).2 fun j hj _ => hfm j hj
    have hstart := inner (m + 1 - leastN p f f.length) (leastN p f f.length) [] (by omega) (by
      have e : laN p m (d + 1) f = (List.range' (leastN p f f.length) (m + 1 - leastN p f f.length)).flatMap fun x => laN p m d (f ++ [x]) := rfl
      rw [e] at hlen
      simpa using hlen)
    -- the least number
    have least : ∀ j, j ≤ f.length → Ev (fun k => spec_laAll.l0 k (ints f) (m : Int) (most : Int) (f.length : Int) ((leastN p f j : Nat) : Int) (j : Int) p) ((laN p m (d + 1) f).map ints) := by
      refine downTo _ ?_ ?_
      · refine Ev.step (by intro k; simp only [spec_laAll.l0]; rfl) (Ev.no (by omega) ?_)
        exact hstart
      · intro j hj ihj
        rw [leastN_step] at ihj
        refine Ev.step (by intro k; simp only [spec_laAll.l0]; rfl) (Ev.yes (by omega) (Ev.yes (by omega) (Ev.yes (by omega) ?_)))
        rw [rdN, hp.val _ hi, wid1 hj (by omega)]
        refine Ev.call (poIn_eq (by omega)) (Ev.ite (fun hb => Ev.yes (by omega) (Ev.yes (by rw [ints_len]; omega) ?_)) (fun hb => ?_))
        · rw [rd_ints]
          refine Ev.call (l1MostN _ _) ?_
          rw [if_pos hb] at ihj
          exact ihj
        · rw [if_neg hb] at ihj
          exact ihj
    exact least 0 (Nat.zero_le _)
theorem labs_ev {p : List Int} (hp : PO p) {m : Nat} (hm : m ≤ 12) {most : Nat} (h1 : most ≤ 100000) (h2 : (labsN p m).length ≤ most) : Ev (fun k => spec_laAll.f k p [] (m : Int) (most : Int)) ((labsN p m).map ints) :=
  laAll_ev hp hm p.length [] (by simp) (fun i hi => by cases hi) most h1 h2
theorem laSum_ev {f : List Nat} (hl : f.length ≤ 100) (hv : ∀ x ∈ f, x ≤ 1000) : Ev (fun k => spec_laSum.f k (ints f)) ((f.sum : Nat) : Int) := by
  unfold spec_laSum.f
  rw [ints_len]
  have hb : ∀ l : List Nat, (∀ x ∈ l, x ≤ 1000) → l.sum ≤ l.length * 1000 := by
    intro l
    induction l with
    | nil => intro _; simp
    | cons x l ih => intro h; have := ih (fun y hy => h y (List.mem_cons_of_mem _ hy)); have := h x List.mem_cons_self; rw [List.sum_cons, List.length_cons]; omega
  have key : ∀ i, i ≤ f.length → Ev (fun k => spec_laSum.l0 k (((f.take i).sum : Nat) : Int) (ints f) (f.length : Int) (i : Int)) ((f.sum : Nat) : Int) := by
    refine downTo _ ?_ ?_
    · refine Ev.step (by intro k; simp only [spec_laSum.l0]; rfl) (Ev.no (by omega) (Ev.ret ?_))
      rw [List.take_length]
    · intro i hi ih
      refine Ev.step (by intro k; simp only [spec_laSum.l0]; rfl) (Ev.yes (by omega) (Ev.yes (by omega) (Ev.yes (by rw [ints_len]; omega) ?_)))
      rw [rd_ints, wid1 hi (by omega)]
      have e : (f.take (i + 1)).sum = (f.take i).sum + f.getD i 0 := by
        rw [List.take_add_one, List.sum_append, List.getD_eq_getElem?_getD, List.getElem?_eq_getElem hi]; simp
      have h1 := hb (f.take (i + 1)) (fun x hx => hv x (List.mem_of_mem_take hx))
      have h2 : (f.take (i + 1)).length ≤ 100 := by rw [List.length_take]; omega
      have h3 : (f.take (i + 1)).length * 1000 ≤ 100 * 1000 := Nat.mul_le_mul_right _ h2
      rw [wid (by omega) (by omega), show (((f.take i).sum : Nat) : Int) + ((f.getD i 0 : Nat) : Int) = (((f.take (i + 1)).sum : Nat) : Int) by omega]
      exact ih
  exact key 0 (Nat.zero_le _)
end Go.Proofs.Ytemkddgfneohhaa.Q
end

section
namespace Go.Proofs.Ytemkddgfneohhaa.Q
open Go.RowKit Go.Proofs.YtemkddgfneohhaaW.PrintWords
set_option linter.unusedVariables false
/-- A list comes before another one: at the first place where they differ it has the lesser number. -/
def lexN (a b : List Nat) : Prop := ∃ j, (∀ i, i < j → a.getD i 0 = b.getD i 0) ∧ a.getD j 0 < b.getD j 0
theorem pw_range'_lt (n : Nat) : ∀ s, (List.range' s n).Pairwise (· < ·) := by
  intro s
  rw [List.pairwise_iff_getElem]
  intro i j hi hj hij
  rw [List.getElem_range', List.getElem_range']
  omega
theorem laN_sorted {p : List Int} (hp : PO p) (m : Nat) : ∀ d f, f.length + d = p.length → (laN p m d f).Pairwise lexN := by
  intro d
  induction d with
  | zero => intro f _; unfold laN; exact List.pairwise_singleton _ _
  | succ d ih =>
    intro f hf
    unfold laN
    refine List.pairwise_flatMap.2 ⟨fun x _ => ih _ (by rw [List.length_append, List.length_singleton]; omega), ?_⟩
    refine List.Pairwise.imp ?_ (pw_range'_lt _ _)
    intro a b hab x hx y hy
    have e1 := ((mem_laN hp m d (f ++ [a]) (by rw [List.length_append, List.length_singleton]; omega) x).1 hx).2.1
    have e2 := ((mem_laN hp m d (f ++ [b]) (by rw [List.length_append, List.length_singleton]; omega) y).1 hy).2.1
    rw [List.length_append, List.length_singleton] at e1 e2
    have g1 : ∀ i, i < f.length + 1 → x.getD i 0 = (f ++ [a]).getD i 0 := fun i hi => by rw [← e1, getD_take _ hi]
    have g2 : ∀ i, i < f.length + 1 → y.getD i 0 = (f ++ [b]).getD i 0 := fun i hi => by rw [← e2, getD_take _ hi]
    refine ⟨f.length, fun i hi => ?_, ?_⟩
    · rw [g1 i (by omega), g2 i (by omega), getD_snoc, getD_snoc, if_neg (by omega), if_neg (by omega)]
    · rw [g1 _ (by omega), g2 _ (by omega), getD_snoc, getD_snoc, if_pos rfl, if_pos rfl]
      exact hab
theorem labsN_sorted {p : List Int} (hp : PO p) (m : Nat) : (labsN p m).Pairwise lexN := laN_sorted hp m p.length [] (by simp)
theorem lexN_irr (a : List Nat) : ¬ lexN a a := by
  rintro ⟨j, _, h⟩; omega
end Go.Proofs.Ytemkddgfneohhaa.Q
end

section
namespace Go.Proofs.Ytemkddgfneohhaa.Q
open Go.RowKit Go.Proofs.YtemkddgfneohhaaW.PrintWords Go.Proofs.Ytemkddgfneohhaa.F
set_option linter.unusedVariables false
theorem within_eq (a b c : Int) : impl_within.f a b c = some (decide (b ≤ a) && decide (a ≤ c)) := by
  unfold impl_within.f
  by_cases h : b ≤ a
  · rw [if_pos h]; simp [h]
  · rw [if_neg h]; simp [h]
end Go.Proofs.Ytemkddgfneohhaa.Q
end

section
namespace Go.Proofs.Ytemkddgfneohhaa.Q
open Go.RowKit Go.Proofs.YtemkddgfneohhaaW.PrintWords Go.Proofs.Ytemkddgfneohhaa.F
set_option linter.unusedVariables false
theorem isBound_eq (m : Int) : impl_isBound.f m = some (decide (0 ≤ m) && decide (m ≤ 12)) := by
  unfold impl_isBound.f
  rw [within_eq]; rfl
theorem laBound_eq (m : Int) : spec_laBound.f m = some (decide (0 ≤ m) && decide (m ≤ 12)) := by
  unfold spec_laBound.f
  rw [l1In_eq]; rfl
end Go.Proofs.Ytemkddgfneohhaa.Q
end
