/- Part 6 of the texts below the row of FnBoxesOfLabels: printed functions with their contracts, and plain lemmas. No condition. -/
import Derived.Test.YtmbojobkiainlaaZFnBoxesOfLabels5
section
namespace Go.Proofs.Ytmbojobkiainlaa.F
open Go.RowKit Go.Proofs.YtmbojobkiainlaaW.PrintWords Go.Proofs.YtmbojobkiainlaaW.PrintLast Go.Proofs.YtmbojobkiainlaaW.PrintMore
attribute [local go_sem] max2_int min2_int max_two min_two max_three min_three max_four min_four
set_option linter.unusedVariables false
set_option linter.unusedSimpArgs false
def spec_l1Cur_poset.l0 : Nat → Int → List Int → Int → Int → List Int → Option (List Int × Int × Int)
 | 0, _, _, _, _, _ => none
 | k + 1, x7, x1000, x1001, x1002, x241000 => if x7 < 11 then (if x241000.length < 17592186044416 then (spec_l1Cur_poset.l0 k (wrap64 (x7 + 1)) x1000 x1001 x1002 (x241000 ++ [0])) else (none)) else (some (x241000, x1001, x1002))
def spec_l1Cur_poset.f (k : Nat) (s0_0 : List Int) (s0_1 : Int) (s0_2 : Int) (a1 : Int) : Option (List Int × Int × Int) := (spec_l1Cur_surePoset.f k s0_0 s0_1 s0_2 a1).bind fun bt235 => ((spec_l1Own.f bt235.1).bind fun t241 => ((spec_l1Cur_pick.f s0_0 bt235.2.1 bt235.2.2 20).bind fun bt244 => (if bt244.1 = 0 then ((spec_l1Cur_pick.f s0_0 bt244.2.1 bt244.2.2 (t241.length : Int)).bind fun bt247 => (if 0 ≤ bt247.1 then ((spec_l1Cur_among.f s0_0 bt247.2.1 bt247.2.2 (([(-1), 1, 3, shl .i64 1 bt247.1, 4611686018427387904] : List Int))).bind fun bt253 => (if bt247.1 < (t241.length : Int) then (some ((t241.set (bt247.1 : Int).toNat bt253.1), bt253.2.1, bt253.2.2)) else (none))) else (none))) else (if bt244.1 = 1 then (some (([] : List Int), bt244.2.1, bt244.2.2)) else (if bt244.1 = 2 then (spec_l1Cur_poset.l0 k 0 s0_0 bt244.2.1 bt244.2.2 t241) else (some (t241, bt244.2.1, bt244.2.2)))))))
theorem spec_l1Cur_poset.mono_l : ∀ k, (∀ y0 y1 y2 y3 y4, LeO (spec_l1Cur_poset.l0 k y0 y1 y2 y3 y4) (spec_l1Cur_poset.l0 (k + 1) y0 y1 y2 y3 y4))
 | 0 => fun _ _ _ _ _ r h => by simp [spec_l1Cur_poset.l0] at h
 | k + 1 => by
  have ih0 := spec_l1Cur_poset.mono_l k
  ·intro y0 y1 y2 y3 y4
   unfold spec_l1Cur_poset.l0
   repeat' first
   | (with_reducible exact spec_l1Cur_surePoset.mono _ _ _ _ _)
   | (with_reducible exact LeO.refl _)
   | (with_reducible exact LeO.none _)
   | (with_reducible refine LeO.ite ?_ ?_)
   | (with_reducible refine LeO.bind ?_ (fun _ => ?_))
   | exact ih0 _ _ _ _ _
   | exact spec_l1Cur_surePoset.mono _ _ _ _ _
   | exact LeO.none _
   | refine LeO.ite ?_ ?_
   | refine LeO.bind ?_ (fun _ => ?_)
theorem spec_l1Cur_poset.mono : ∀ a0 a1 a2 a3 k, LeO (spec_l1Cur_poset.f k a0 a1 a2 a3) (spec_l1Cur_poset.f (k + 1) a0 a1 a2 a3) := by
 intro a0 a1 a2 a3 k
 have ih0 := spec_l1Cur_poset.mono_l k
 unfold spec_l1Cur_poset.f
 repeat' first
  | (with_reducible exact spec_l1Cur_surePoset.mono _ _ _ _ _)
  | (with_reducible exact LeO.refl _)
  | (with_reducible exact LeO.none _)
  | (with_reducible refine LeO.ite ?_ ?_)
  | (with_reducible refine LeO.bind ?_ (fun _ => ?_))
  | exact ih0 _ _ _ _ _
  | exact spec_l1Cur_surePoset.mono _ _ _ _ _
  | exact LeO.none _
  | refine LeO.ite ?_ ?_
  | refine LeO.bind ?_ (fun _ => ?_)
def spec_l1Cur_poset.T6 : Bool × List (List Nat × List Nat) := (true, [([], []), ([0], [0]), ([], []), ([], []), ([], []), ([4], [4]), ([5], [5]), ([3, 6], [3, 6]), ([1, 2, 0, 1, 2, 3, 4, 5, 6, 7], [1, 2]), ([8, 7, 7, 0, 1, 2, 3, 4, 5, 6, 7], [7, 8])])
def spec_l1Cur_poset.B6 : List Nat := [0, 1, 0, 0, 0, 16, 48, 120, 255, 511]
theorem spec_l1Cur_poset.tab6 : rtab .any (opsOf Try.f64 6) = spec_l1Cur_poset.T6 := by kernel_rfl
theorem spec_l1Cur_poset.bits6 : waitsOk spec_l1Cur_poset.T6.2 spec_l1Cur_poset.B6 = true := by kernel_rfl
set_option maxHeartbeats 8000000 in
set_option maxRecDepth 100000 in
theorem spec_l1Cur_poset.calls (k : Nat) (g : Nat) (s0_0 : List Int) (s0_1 : Int) (s0_2 : Int) (a1 : Int) (r1 : List Int) (r2 : Int) (r3 : Int) (w0 w : World) (hI : IsS67 w0 w g s0_0 s0_1 s0_2) (hB : Below w0.heap.size w0 w) (h : spec_l1Cur_poset.f k s0_0 s0_1 s0_2 a1 = some (r1, r2, r3)) :
 Calls Try.prog 64 #[.pointer (some ⟨g, 0, none⟩), .int .i64 a1] w fun e w' => ∃ v0_ : Value, e = .returned (.agg #[v0_]) ∧ Kd.R (Kd.int .i64) 3 w' w.heap.size (fun _ => True) v0_ r1 ∧ IsS67 w0 w' g s0_0 r2 r3 ∧ Below w0.heap.size w0 w' ∧ KeepBut w w' g none := by
 have hu26 := Try.underlying26
 have HI0 := am hI
 have HK := am (KeepBut.refl w g none)
 have HL := am hB.size
 clear hI
 have HW0 := am hB.size
 have HB := am hB
 clear hB
 have H := h
 unfold spec_l1Cur_poset.f at H
 clear h
 replace H := Option.bind_eq_some_iff.mp H
 obtain ⟨⟨t235, t238, t239⟩, A30, H⟩ := H
 (try dsimp only at H)
 have A3 := am A30
 clear A30
 replace H := Option.bind_eq_some_iff.mp H
 obtain ⟨t241, A40, H⟩ := H
 (try dsimp only at H)
 have A4 := am A40
 clear A40
 replace H := Option.bind_eq_some_iff.mp H
 obtain ⟨⟨t244, t245, t246⟩, A50, H⟩ := H
 (try dsimp only at H)
 have A5 := am A50
 clear A50
 by_cases c6 : t244 = 0
 ·rw [if_pos c6] at H
  have c6b0 : (t244 == 0) = true := beq_iff_eq.mpr c6
  have c6b1 : (t244 != 0) = false := bne_eq_false_iff_eq.mpr c6
  clear c6
  replace H := Option.bind_eq_some_iff.mp H
  obtain ⟨⟨t247, t248, t249⟩, A70, H⟩ := H
  (try dsimp only at H)
  have A7 := am A70
  clear A70
  by_cases c8 : 0 ≤ t247
  rotate_left
  ·rw [if_neg c8] at H
   exact absurd H (by simp)
  rw [if_pos c8] at H
  have c8b0 := eq_true c8
  have c8b1 := decide_eq_true c8
  clear c8
  obtain ⟨ji9, hji9⟩ : ∃ j_ : Int, (shl .i64 1 t247) = j_ := ⟨_, rfl⟩
  first | rw [hji9] at H | simp only [hji9] at H
  (try rw [hji9] at A3)
  (try rw [hji9] at A4)
  (try rw [hji9] at A5)
  (try rw [hji9] at A7)
  have hji9_ : (IntKind.i64.wrap (1 * 2 ^ min t247.toNat 64)) = ji9 := hji9
  have hji9z : t247 ≤ 64 → (IntKind.i64.wrap (1 * 2 ^ t247.toNat)) = ji9 := shl_small hji9
  have hji9u : (IntKind.i64.wrap (2 ^ min t247.toNat 64)) = ji9 := by have h_ := hji9_; rw [Int.one_mul] at h_; exact h_
  have hji9v : t247 ≤ 64 → (IntKind.i64.wrap (2 ^ t247.toNat)) = ji9 := fun hle_ => by have h_ := hji9z hle_; rw [Int.one_mul] at h_; exact h_
  have hji9y : (wrap64 (1 * 2 ^ min t247.toNat 64)) = ji9 := (i64_w _).symm.trans hji9_
  have hji9x : t247 ≤ 64 → (wrap64 (1 * 2 ^ t247.toNat)) = ji9 := fun h_ => (i64_w _).symm.trans (hji9z h_)
  obtain ⟨y250, hy250⟩ : ∃ y_ : List Int, y_ = (([(-1), 1, 3, ji9, 4611686018427387904] : List Int)) := ⟨_, rfl⟩
  first | rw [← hy250] at H | (have H2_ := (Option.bind_some _ _).symm.trans H; clear H; have H := H2_; clear H2_; rw [← hy250] at H)
  have Ny250 := am hy250
  clear hy250
  replace H := Option.bind_eq_some_iff.mp H
  obtain ⟨⟨t253, t254, t255⟩, A100, H⟩ := H
  (try dsimp only at H)
  have A10 := am A100
  clear A100
  by_cases c11 : t247 < (t241.length : Int)
  rotate_left
  ·rw [if_neg c11] at H
   exact absurd H (by simp)
  rw [if_pos c11] at H
  have c11b0 := decide_eq_true c11
  clear c11
  obtain ⟨y256, hy256⟩ : ∃ y_ : List Int, y_ = (t241.set (t247 : Int).toNat t253) := ⟨_, rfl⟩
  first | rw [← hy256] at H | (have H2_ := (Option.bind_some _ _).symm.trans H; clear H; have H := H2_; clear H2_; rw [← hy256] at H)
  have Ny256 := am hy256
  clear hy256
  simp only [Option.some.injEq, Prod.mk.injEq] at H
  obtain ⟨rfl, rfl, rfl⟩ := H
  go_enter Try.func64, Try.ntmps64
  try go_wp2_with (first | ((with_reducible refine gate_dst (N := 4) rfl ?_); refine qx (N := 4) (cs := #[.slice none 0 0]) (t := 26) ?_; intro gb234 hg w13 hbox hb; have n0_ := am (IsS67.below qI67 hb); have n1_ := am (KeepBut.trans qK (KeepBut.of_below hb g none) (.inl rfl)); have n2_ := am (below_step qB hb); have BK234 := am (hbox); have GW234 := am ((by rw [hg]; exact (keep_size (w := w) (g := g) (row := none) qK) : w.heap.size ≤ gb234)); have GE234 := am ((Nat.le_trans HW0.out (by rw [hg]; exact (keep_size (w := w) (g := g) (row := none) qK) : w.heap.size ≤ gb234) : w0.heap.size ≤ gb234)); have NB0_234 := am ((by rw [hg]; exact Nat.ne_of_lt (IsS67.lt (show IsS67 w0 _ g s0_0 s0_1 s0_2 from qI67)) : g ≠ gb234)); have NB234_0 := am ((by rw [hg]; exact Nat.ne_of_gt (IsS67.lt (show IsS67 w0 _ g s0_0 s0_1 s0_2 from qI67)) : gb234 ≠ g)); clear HI0 HK HB; have HI0 := n0_; have HK := n1_; have HB := n2_; clear n0_ n1_ n2_; clear hb hbox hg) | ((with_reducible refine gate_callee (f := 124) rfl ?_); refine gL (some 10) Try.func124 #[.pointer (some ⟨g, 0, none⟩), .int .i64 a1] ?_; (with_reducible refine (spec_l1Cur_surePoset.calls k g s0_0 s0_1 s0_2 a1 t235 t238 t239 w0 _ ?side1 ?side2 A3.out).mono ?_); (case side1 => exact qI67); (case side2 => exact qB); rintro e w14 ⟨v236, rfl, ho0, hi, hb, hk⟩; refine ⟨_, rfl, ?_⟩; replace BK234 := am (KeepBut.blk hk (g' := gb234) (o := .cells #[.slice none 0 0] 26 (0, 0)) (qb BK234.out) NB234_0.out (by simp)); have HO237 := am (Kd.R_lower ho0 (keep_size (w := w) (g := g) (row := none) qK)); have n2_ := am (KeepBut.trans qK hk (.inl rfl)); have n3_ := am (hb); replace HI0 := am (hi); clear HK HB; have HK := n2_; have HB := n3_; clear n2_ n3_; (try clear hb); (try clear hb2); (try clear hk); (try clear hi); (try clear ho0)) | ((with_reducible refine gate_dst (N := 5) rfl ?_); refine qx (N := 5) (cs := #[.slice none 0 0]) (t := 26) ?_; intro gb240 hg w15 hbox hb; replace HO237 := am (Kd.R_below (qR HO237.out) hb); have n1_ := am (IsS67.below qI67 hb); have n2_ := am (blk_below (g := gb234) (o := .cells #[.slice none 0 0] 26 (0, 0)) (qb BK234.out) hb); have n3_ := am (KeepBut.trans qK (KeepBut.of_below hb g none) (.inl rfl)); have n4_ := am (below_step qB hb); have BK240 := am (hbox); have GW240 := am ((by rw [hg]; exact (keep_size (w := w) (g := g) (row := none) qK) : w.heap.size ≤ gb240)); have GE240 := am ((Nat.le_trans HW0.out (by rw [hg]; exact (keep_size (w := w) (g := g) (row := none) qK) : w.heap.size ≤ gb240) : w0.heap.size ≤ gb240)); have NB234_240 := am ((by rw [hg]; exact Nat.ne_of_lt (blk_lt (g := gb234) (o := .cells #[.slice none 0 0] 26 (0, 0)) (qb BK234.out)) : gb234 ≠ gb240)); have NB240_234 := am ((by rw [hg]; exact Nat.ne_of_gt (blk_lt (g := gb234) (o := .cells #[.slice none 0 0] 26 (0, 0)) (qb BK234.out)) : gb240 ≠ gb234)); have NB0_240 := am ((by rw [hg]; exact Nat.ne_of_lt (IsS67.lt (show IsS67 w0 _ g s0_0 t238 t239 from qI67)) : g ≠ gb240)); have NB240_0 := am ((by rw [hg]; exact Nat.ne_of_gt (IsS67.lt (show IsS67 w0 _ g s0_0 t238 t239 from qI67)) : gb240 ≠ g)); clear HI0 BK234 HK HB; have HI0 := n1_; have BK234 := n2_; have HK := n3_; have HB := n4_; clear n1_ n2_ n3_ n4_; clear hb hbox hg; obtain ⟨Ao16, co16, eo16⟩ := Kd.R_slice HO237.out; subst eo16; have hnb17 := NB240_234.out; have hnc17 := NB234_240.out; have hnb18 := NB240_0.out; have hnc18 := NB0_240.out; have hcz19_0 := qz w15 BK240.out; have hfz19_0 := blk_frozen BK240.out 0) | ((with_reducible refine gate_callee (f := 125) rfl ?_); refine gL (some 13) Try.func125 #[.slice Ao16 t235.length co16] ?_; (with_reducible refine (spec_l1Own.calls _ _ t235 t241 _ ?side1 ?side2 A4.out).mono ?_); (case side1 => refine (Kd.R_reads' (e := 3) (base := w.heap.size) (ok := fun k_ => True) (n := t235.length) (c := co16) ?_).2.2; exact (qR ((Kd.R_mono (Kd.R_far (p := ⟨gb240, 0, none⟩) (Kd.R_types HO237.out BK240.out (by decide)) (fun _ hk => hk.2) (.slice Ao16 t235.length co16)) (fun _ h_ => h_.1))))); (case side2 => exact (Kd.R_reads' HO237.out).2.1); rintro e w20 ⟨v242, rfl, ho0, hb⟩; refine ⟨_, rfl, ?_⟩; have n0_ := am (Kd.R_elder' (qR ((Kd.R_mono (Kd.R_far (p := ⟨gb240, 0, none⟩) (Kd.R_types HO237.out BK240.out (by decide)) (fun _ hk => hk.2) (.slice Ao16 t235.length co16)) (fun _ h_ => h_.1)))) (Kd.R_base ho0) hb); have HO243 := am (Kd.R_lower (Kd.R_new' ho0 (Kd.R_lt (qR ((Kd.R_mono (Kd.R_far (p := ⟨gb240, 0, none⟩) (Kd.R_types HO237.out BK240.out (by decide)) (fun _ hk => hk.2) (.slice Ao16 t235.length co16)) (fun _ h_ => h_.1)))))) (keep_size (w := w) (g := g) (row := none) qK)); have n2_ := am (IsS67.below (show IsS67 w0 (w15.setCell ⟨gb240, 0, none⟩ (.slice Ao16 t235.length co16)) g s0_0 t238 t239 from qI67) hb); replace BK234 := am (blk_below (g := gb234) (o := .cells #[.slice none 0 0] 26 (0, 0)) (by (with_reducible repeat (first | refine blk_drewN ?_ _ | refine blk_drew ?_ | refine blk_alloc ?_ _)); refine blk_far ?_ NB234_240.out _; refine qb ?_; exact BK234.out) hb); replace BK240 := am (blk_below (g := gb240) (o := .cells #[.slice Ao16 t235.length co16] 26 (0, 0)) (by (with_reducible repeat (first | refine blk_drewN ?_ _ | refine blk_drew ?_ | refine blk_alloc ?_ _)); refine blk_put (cs := #[.slice none 0 0]) ?_ 0 _ rfl; refine qb ?_; exact BK240.out) hb); have n5_ := am (KeepBut.trans qK (KeepBut.of_below hb g none) (.inl rfl)); replace HB := am (below_step qB hb); clear HO237 HI0 HK; have HO237 := n0_; have HI0 := n2_; have HK := n5_; clear n0_ n2_ n5_; (try clear hb); (try clear hb2); (try clear hk); (try clear hi); (try clear ho0); obtain ⟨Ao21, co21, eo21⟩ := Kd.R_slice HO243.out; subst eo21; have hcz22_0 := qz w20 BK240.out; have hfz22_0 := blk_frozen BK240.out 0) | ((with_reducible refine gate_callee (f := 68) rfl ?_); refine gL (some 16) Try.func68 #[.pointer (some ⟨g, 0, none⟩), .int .i64 20] ?_; (with_reducible refine (spec_l1Cur_pick.calls g s0_0 t238 t239 20 t244 t245 t246 w0 _ ?side1 ?side2 A5.out).mono ?_); (case side1 => exact qI67); (case side2 => exact qB); rintro e w23 ⟨rfl, hi, hb, hk⟩; refine ⟨_, rfl, ?_⟩; replace BK234 := am (KeepBut.blk hk (g' := gb234) (o := .cells #[.slice none 0 0] 26 (0, 0)) (by (with_reducible repeat (first | refine blk_drewN ?_ _ | refine blk_drew ?_ | refine blk_alloc ?_ _)); refine blk_far ?_ NB234_240.out _; refine qb ?_; exact BK234.out) NB234_0.out (by simp)); replace HO237 := am (Kd.R_mono (Kd.R_keep (IsS67.apart (show IsS67 w0 _ g s0_0 t238 t239 from qI67) (qR ((Kd.R_mono (Kd.R_far (p := ⟨gb240, 0, none⟩) (Kd.R_types HO237.out BK240.out (by decide)) (fun _ hk => hk.2) (.slice Ao21 t241.length co21)) (fun _ h_ => h_.1)))) (by decide)) hk (fun _ h => h.2)) (fun _ h => h.1)); have n2_ := am (KeepBut.blk hk (g' := gb240) (o := .cells #[.slice Ao21 t241.length co21] 26 (0, 0)) (by (with_reducible repeat (first | refine blk_drewN ?_ _ | refine blk_drew ?_ | refine blk_alloc ?_ _)); refine blk_put (cs := #[.slice Ao16 t235.length co16]) ?_ 0 _ rfl; refine qb ?_; exact BK240.out) NB240_0.out (by simp)); replace HO243 := am (Kd.R_mono (Kd.R_keep (IsS67.apart (show IsS67 w0 _ g s0_0 t238 t239 from qI67) (qR ((Kd.R_mono (Kd.R_far (p := ⟨gb240, 0, none⟩) (Kd.R_types HO243.out BK240.out (by decide)) (fun _ hk => hk.2) (.slice Ao21 t241.length co21)) (fun _ h_ => h_.1)))) (by decide)) hk (fun _ h => h.2)) (fun _ h => h.1)); have n4_ := am (KeepBut.trans qK hk (.inl rfl)); have n5_ := am (hb); replace HI0 := am (hi); clear BK240 HK HB; have BK240 := n2_; have HK := n4_; have HB := n5_; clear n2_ n4_ n5_; (try clear hb); (try clear hb2); (try clear hk); (try clear hi); have hcz24_0 := qz w23 BK240.out; have hfz24_0 := blk_frozen BK240.out 0) | ((with_reducible refine gate_callee (f := 68) rfl ?_); refine gL (some 23) Try.func68 #[.pointer (some ⟨g, 0, none⟩), .int .i64 (t241.length : Int)] ?_; (with_reducible refine (spec_l1Cur_pick.calls g s0_0 t245 t246 (t241.length : Int) t247 t248 t249 w0 _ ?side1 ?side2 A7.out).mono ?_); (case side1 => exact qI67); (case side2 => exact qB); rintro e w25 ⟨rfl, hi, hb, hk⟩; refine ⟨_, rfl, ?_⟩; replace BK234 := am (KeepBut.blk hk (g' := gb234) (o := .cells #[.slice none 0 0] 26 (0, 0)) (qb BK234.out) NB234_0.out (by simp)); replace HO237 := am (Kd.R_mono (Kd.R_keep (IsS67.apart (show IsS67 w0 _ g s0_0 t245 t246 from qI67) (qR HO237.out) (by decide)) hk (fun _ h => h.2)) (fun _ h => h.1)); replace BK240 := am (KeepBut.blk hk (g' := gb240) (o := .cells #[.slice Ao21 t241.length co21] 26 (0, 0)) (qb BK240.out) NB240_0.out (by simp)); replace HO243 := am (Kd.R_mono (Kd.R_keep (IsS67.apart (show IsS67 w0 _ g s0_0 t245 t246 from qI67) (qR HO243.out) (by decide)) hk (fun _ h => h.2)) (fun _ h => h.1)); have n4_ := am (KeepBut.trans qK hk (.inl rfl)); have n5_ := am (hb); replace HI0 := am (hi); clear HK HB; have HK := n4_; have HB := n5_; clear n4_ n5_; (try clear hb); (try clear hb2); (try clear hk); (try clear hi)))
  have n0_ := am (Kd.R_drew HO237.out)
  have n1_ := am (Kd.R_drew HO243.out)
  have n2_ := am (blk_drew BK234.out)
  have n3_ := am (blk_drew BK240.out)
  have n4_ := am (IsS67.drew HI0.out)
  have n5_ := am (keep_drew HK.out)
  have n6_ := am (below_drew1 HB.out)
  clear HO237
  clear HO243
  clear BK234
  clear BK240
  clear HI0
  clear HK
  clear HB
  have HO237 := n0_
  have HO243 := n1_
  have BK234 := n2_
  have BK240 := n3_
  have HI0 := n4_
  have HK := n5_
  have HB := n6_
  clear n0_ n1_ n2_ n3_ n4_ n5_ n6_
  refine start_ (n := 10) (S := fun w' => w'.cell? ⟨gb240, 0, none⟩ = some (.slice Ao21 t241.length co21)) (ds := [9]) #[false, false, false, false, false, false, false, false, false, false] (by kernel_rfl) rfl rfl ((blk_cell BK240.out 0).trans rfl) (fun hHeld => ?_); refine with_tabW spec_l1Cur_poset.tab6 spec_l1Cur_poset.bits6 (fun HT_ HW_ => ?_)
  generalize w25.drew = w26 at HO237 HO243 BK234 BK240 HI0 HK HB hHeld ⊢
  refine pure_ (i := 0) (N := some 24) (v := ?_) (a' := ?_) #[true, false, false, false, false, false, false, false, false, false] rfl rfl (any_of HT_.out (by kernel_rfl)) (fun _ _ _ h => h) (Or.inl ⟨by rfl, ?_⟩) ?_ ?_
  rotate_left
  ·intro w'
   go_simp
   with_reducible rfl
  rotate_left
  ·exact qP
  refine pure_ (i := 2) (N := some 26) (v := ?_) (a' := ?_) #[true, false, true, false, false, false, false, false, false, false] rfl rfl (any_of HT_.out (by kernel_rfl)) (fun _ _ _ h => h) (Or.inl ⟨by rfl, ?_⟩) ?_ ?_
  rotate_left
  ·intro w'
   go_simp
   with_reducible rfl
  rotate_left
  ·exact qP
  refine pure_ (i := 3) (N := some 27) (v := ?_) (a' := ?_) #[true, false, true, true, false, false, false, false, false, false] rfl rfl (any_of HT_.out (by kernel_rfl)) (fun _ _ _ h => h) (Or.inl ⟨by rfl, ?_⟩) ?_ ?_
  rotate_left
  ·intro w'
   go_simp
   with_reducible rfl
  rotate_left
  ·exact qP
  refine pure_ (i := 4) (N := some 28) (v := ?_) (a' := ?_) #[true, false, true, true, true, false, false, false, false, false] rfl rfl (any_of HT_.out (by kernel_rfl)) (fun _ _ _ h => h) (Or.inl ⟨by rfl, ?_⟩) ?_ ?_
  rotate_left
  ·intro w'
   go_simp
   with_reducible rfl
  rotate_left
  ·exact qP
  refine pure_ (i := 5) (N := some 29) (v := ?_) (a' := ?_) #[true, false, true, true, true, true, false, false, false, false] rfl rfl (any_of HT_.out (by kernel_rfl)) (fun _ _ _ h => h) (Or.inl ⟨by rfl, ?_⟩) ?_ ?_
  rotate_left
  ·intro w'
   go_simp
   with_reducible rfl
  rotate_left
  ·exact qP
  refine take_ (i := 1) (N := some 25) (v := ?_) (a' := ?_) #[true, true, true, true, true, true, false, false, false, false] rfl rfl (take_ofW HT_.out HW_.out (by kernel_rfl)) (fun _ _ _ h => h) (Or.inl ⟨by rfl, ?_⟩) hHeld ?_ ?_
  rotate_left
  ·intro w' s0
   go_simp
   with_reducible rfl
  rotate_left
  ·exact qP
  refine one_ (i := 6) (N := some 30) #[true, true, true, true, true, true, true, false, false, false] rfl rfl (one_of HT_.out (by kernel_rfl)) (by decide) (fun K hK => ?_)
  refine Kd.R_lit_step (Kd.int .i64) _ 3 ?hg (N := 30) ?hd (xs := ([(-1), 1, 3, ji9, 4611686018427387904] : List Int)) (inner := [.int .i64 (-1), .int .i64 1, .int .i64 3, .int .i64 ji9, .int .i64 4611686018427387904]) (ok := fun _ => True) (okp := fun _ => True) ?hr ?hp (fun _ hk => hk) trivial (Below.refl _ _) (Nat.le_refl _) (by simp) ?_; (case hd => rfl); (case hg => rfl); (case hr => first | (go_simp; done) | (go_simp; rfl)); (case hp => exact (Reps.one (show Kd.M (Kd.int .i64) _ _ _ (-1) [.int .i64 (-1)] from rfl) (Reps.one (show Kd.M (Kd.int .i64) _ _ _ 1 [.int .i64 1] from rfl) (Reps.one (show Kd.M (Kd.int .i64) _ _ _ 3 [.int .i64 3] from rfl) (Reps.one (show Kd.M (Kd.int .i64) _ _ _ ji9 [.int .i64 ji9] from rfl) (Reps.one (show Kd.M (Kd.int .i64) _ _ _ 4611686018427387904 [.int .i64 4611686018427387904] from rfl) (Reps.none _ _)))))))
  intro v251 w27 ho28 hb hg_ hnew_
  clear hg_ hnew_
  (first | rw [← Ny250.out] at ho28 | (simp only [Int.reduceToNat] at ho28; rw [← Ny250.out] at ho28))
  have n0_ := am (Kd.R_elder' (qR HO237.out) (Kd.R_base ho28) hb)
  have n1_ := am (Kd.R_elder' (qR HO243.out) (Kd.R_base ho28) hb)
  have n2_ := am (Kd.R_lower (Kd.R_new' (Kd.R_new' ho28 (Kd.R_lt (qR HO237.out))) (Kd.R_lt (qR HO243.out))) (keep_size (w := w) (g := g) (row := none) qK))
  have n3_ := am (IsS67.below qI67 hb)
  have n4_ := am (blk_below (g := gb234) (o := .cells #[.slice none 0 0] 26 (0, 0)) (qb BK234.out) hb)
  have n5_ := am (blk_below (g := gb240) (o := .cells #[.slice Ao21 t241.length co21] 26 (0, 0)) (qb BK240.out) hb)
  have n6_ := am (KeepBut.trans qK (KeepBut.of_below hb g none) (.inl rfl))
  have n7_ := am (below_step qB hb)
  clear HO237
  clear HO243
  clear HI0
  clear BK234
  clear BK240
  clear HK
  clear HB
  have HO237 := n0_
  have HO243 := n1_
  have HO252 := n2_
  have HI0 := n3_
  have BK234 := n4_
  have BK240 := n5_
  have HK := n6_
  have HB := n7_
  clear n0_ n1_ n2_ n3_ n4_ n5_ n6_ n7_
  clear hb ho28
  obtain ⟨Ao29, co29, eo29⟩ := Kd.R_slice HO252.out
  (first | subst eo29 | (injection eo29 with f1_ f2_ f3_; have f4_ := f1_.symm; have f5_ := f3_.symm; clear f1_ f2_ f3_; subst f4_; subst f5_))
  refine hK.out _ _ ((blk_cell BK240.out 0).trans rfl) (fun hHeld => ?_)
  clear hK K
  refine norm_ (a' := ?_) ?_ ?_
  rotate_left
  ·show Act.put _ (some 30) _ = _
   simp only [Act.put, List.setIfInBounds_toArray, List.set_cons_zero, List.set_cons_succ, i64_w, i32_w]
   rfl
  refine one_ (i := 7) (N := some 31) #[true, true, true, true, true, true, true, true, false, false] rfl rfl (one_of HT_.out (by kernel_rfl)) (by decide) (fun K hK => ?_)
  refine goes_ Try.func67 (by kernel_rfl) rfl #[.pointer (some ⟨g, 0, none⟩), .slice Ao29 y250.length co29] (by rfl) rfl rfl qA ?_
  with_reducible refine (spec_l1Cur_among.calls g s0_0 t248 t249 _ _ y250 t253 t254 t255 w0 _ ?side1 ?side2 ?side3 ?side4 ?side5 A10.out).mono ?_
  (case side1 => exact qI67)
  (case side2 => exact qB)
  (case side3 => exact qC (Kd.R_reads' HO252.out).2.2)
  (case side4 => exact (Kd.R_reads' HO252.out).2.1)
  (case side5 => exact far_slice (IsS67.own_ne HI0.out HO252.out (by decide)))
  rintro e w30 ⟨rfl, hi, hb, hk⟩
  refine ⟨_, rfl, ?_⟩
  have n0_ := am (KeepBut.blk hk (g' := gb234) (o := .cells #[.slice none 0 0] 26 (0, 0)) (qb BK234.out) NB234_0.out (by simp))
  have n1_ := am (Kd.R_mono (Kd.R_keep (IsS67.apart (show IsS67 w0 _ g s0_0 t248 t249 from qI67) (qR HO237.out) (by decide)) hk (fun _ h => h.2)) (fun _ h => h.1))
  have n2_ := am (KeepBut.blk hk (g' := gb240) (o := .cells #[.slice Ao21 t241.length co21] 26 (0, 0)) (qb BK240.out) NB240_0.out (by simp))
  have n3_ := am (Kd.R_mono (Kd.R_keep (IsS67.apart (show IsS67 w0 _ g s0_0 t248 t249 from qI67) (qR HO243.out) (by decide)) hk (fun _ h => h.2)) (fun _ h => h.1))
  have n4_ := am (Kd.R_mono (Kd.R_keep (IsS67.apart (show IsS67 w0 _ g s0_0 t248 t249 from qI67) (qR HO252.out) (by decide)) hk (fun _ h => h.2)) (fun _ h => h.1))
  have n5_ := am (KeepBut.trans qK hk (.inl rfl))
  have n6_ := am (hb)
  have n7_ := am (hi)
  clear BK234
  clear HO237
  clear BK240
  clear HO243
  clear HO252
  clear HK
  clear HB
  clear HI0
  have BK234 := n0_
  have HO237 := n1_
  have BK240 := n2_
  have HO243 := n3_
  have HO252 := n4_
  have HK := n5_
  have HB := n6_
  have HI0 := n7_
  clear n0_ n1_ n2_ n3_ n4_ n5_ n6_ n7_
  (try clear hb)
  (try clear hb2)
  (try clear hk)
  (try clear hi)
  have p12 : 0 ≤ (t247 : Int) := qd
  have q12 : (t247 : Int) < ((t241.length : Int) : Int) := qd
  obtain ⟨go12, co12, eo12, gb12, gl12, cl12, HG12⟩ := Kd.R_form HO243.out (by omega)
  (first | cases eo12 | (injection eo12 with ea_ en_ ec_; (first | subst ea_ | (injection ea_ with ea_; subst ea_)); subst ec_; clear en_))
  have GB12 := am gb12
  have GG12 := am HG12
  clear gb12 gl12 HG12
  obtain ⟨hx12_0, hf12_0⟩ := Kd.R_celln 0 HO243.out (t247 : Int) p12 q12
  replace p12 := eq_true p12
  replace q12 := eq_true q12
  have HN0_go12 := am (show g ≠ go12 from by have h_ := IsS67.own_ne HI0.out HO243.out (by decide); intro e_; exact h_ (by rw [e_]; rfl))
  have HP31 := Kd.R_putn HO243.out (t247 : Int) t253
  rw [← Ny256.out] at HP31
  have HQ31 := am HP31
  clear HP31
  refine hK.out _ _ ((blk_cell BK240.out 0).trans rfl) (fun hHeld => ?_)
  clear hK K
  refine norm_ (a' := ?_) ?_ ?_
  rotate_left
  ·show Act.put _ (some 31) _ = _
   simp only [Act.put, List.setIfInBounds_toArray, List.set_cons_zero, List.set_cons_succ, i64_w, i32_w]
   rfl
  refine pure_ (i := 8) (N := some 32) (v := ?_) (a' := ?_) #[true, true, true, true, true, true, true, true, true, false] rfl rfl (any_of HT_.out (by kernel_rfl)) (fun _ _ _ h => h) (Or.inl ⟨by rfl, ?_⟩) ?_ ?_
  rotate_left
  ·intro w'
   go_simp
   with_reducible rfl
  rotate_left
  ·exact qP
  refine last_ (i := 9) (N := none) #[true, true, true, true, true, true, true, true, true, true] rfl rfl (one_of HT_.out (by kernel_rfl)) (by decide) (fun K hK => ?_)
  refine skip_ (w1 := ?_) (by rfl) rfl ?_ ?_
  rotate_left
  ·go_simp
   rfl
  refine hK.out _ _ ?_
  clear hK K
  refine done_ (done_of HT_.out (by kernel_rfl)) ?_
  have n0_ : Aside0 (Kd.R (Kd.int .i64) 3 (w30.setCell ⟨go12, (t247 : Int).toNat, none⟩ (.int .i64 t253)) w.heap.size (fun k_ => some k_ ≠ (.slice (some ⟨go12, 0, none⟩) t241.length co21 : Value).ownBlock ∧ some k_ ≠ (.slice Ao29 y250.length co29 : Value).ownBlock) (.slice Ao16 t235.length co16) t235) := ⟨qR (Kd.R_mono (Kd.R_far (p := ⟨go12, (t247 : Int).toNat, none⟩) (Kd.R_mono HO237.out (fun k_ hk => (⟨hk, fun e_ => hk.1.2 (by rw [e_]; rfl)⟩ : _ ∧ k_ ≠ go12))) (fun _ hk => hk.2) (.int .i64 t253)) (fun _ hk => ⟨hk.1.1.2, hk.1.2⟩))⟩
  have n1_ : Aside0 (Kd.R (Kd.int .i64) 3 (w30.setCell ⟨go12, (t247 : Int).toNat, none⟩ (.int .i64 t253)) w.heap.size (fun k_ => some k_ ≠ (.slice Ao16 t235.length co16 : Value).ownBlock ∧ some k_ ≠ (.slice Ao29 y250.length co29 : Value).ownBlock) (.slice (some ⟨go12, 0, none⟩) t241.length co21) y256) := ⟨qR (Kd.R_mono HQ31.out (fun _ hk => ⟨hk.1.2, hk.2⟩))⟩
  have n2_ : Aside0 (Kd.R (Kd.int .i64) 3 (w30.setCell ⟨go12, (t247 : Int).toNat, none⟩ (.int .i64 t253)) w.heap.size (fun k_ => some k_ ≠ (.slice Ao16 t235.length co16 : Value).ownBlock ∧ some k_ ≠ (.slice (some ⟨go12, 0, none⟩) t241.length co21 : Value).ownBlock) (.slice Ao29 y250.length co29) y250) := ⟨qR (Kd.R_mono (Kd.R_far (p := ⟨go12, (t247 : Int).toNat, none⟩) (Kd.R_mono HO252.out (fun k_ hk => (⟨hk, fun e_ => hk.2 (by rw [e_]; rfl)⟩ : _ ∧ k_ ≠ go12))) (fun _ hk => hk.2) (.int .i64 t253)) (fun _ hk => ⟨hk.1.1.2, hk.1.2⟩))⟩
  have n3_ : Aside0 ((w30.setCell ⟨go12, (t247 : Int).toNat, none⟩ (.int .i64 t253)).heap[gb234]? = some (.cells #[.slice none 0 0] 26 (0, 0))) := ⟨by (with_reducible repeat (first | refine blk_drewN ?_ _ | refine blk_drew ?_ | refine blk_alloc ?_ _)); refine blk_far ?_ (by have h_ := Kd.R_ne HO243.out BK234.out (by decide); intro e_; exact h_ (by rw [e_]; rfl)) _; refine qb ?_; exact BK234.out⟩
  have n4_ : Aside0 ((w30.setCell ⟨go12, (t247 : Int).toNat, none⟩ (.int .i64 t253)).heap[gb240]? = some (.cells #[.slice (some ⟨go12, 0, none⟩) t241.length co21] 26 (0, 0))) := ⟨by (with_reducible repeat (first | refine blk_drewN ?_ _ | refine blk_drew ?_ | refine blk_alloc ?_ _)); refine blk_far ?_ (by have h_ := Kd.R_ne HO243.out BK240.out (by decide); intro e_; exact h_ (by rw [e_]; rfl)) _; refine qb ?_; exact BK240.out⟩
  have n5_ : Aside0 (IsS67 w0 (w30.setCell ⟨go12, (t247 : Int).toNat, none⟩ (.int .i64 t253)) g s0_0 t254 t255) := ⟨qI67⟩
  have n6_ : Aside0 (KeepBut w (w30.setCell ⟨go12, (t247 : Int).toNat, none⟩ (.int .i64 t253)) g none) := ⟨qK⟩
  have n7_ : Aside0 (Below w0.heap.size w0 (w30.setCell ⟨go12, (t247 : Int).toNat, none⟩ (.int .i64 t253))) := ⟨qB⟩
  (try clear HO237)
  (try clear HO243)
  (try clear HO252)
  (try clear BK234)
  (try clear BK240)
  (try clear HI0)
  (try clear HK)
  (try clear HB)
  generalize (w30.setCell ⟨go12, (t247 : Int).toNat, none⟩ (.int .i64 t253)) = w32 at n0_ n1_ n2_ n3_ n4_ n5_ n6_ n7_ ⊢
  have HO237 := n0_
  have HO243 := n1_
  have HO252 := n2_
  have BK234 := n3_
  have BK240 := n4_
  have HI0 := n5_
  have HK := n6_
  have HB := n7_
  clear n0_ n1_ n2_ n3_ n4_ n5_ n6_ n7_
  have hcz33_0 := qz w32 BK240.out
  have hfz33_0 := blk_frozen BK240.out 0
  have hnb34 := NB234_0.out
  have hnc34 := NB0_234.out
  have hcz35_0 := qz w32 BK234.out
  have hfz35_0 := blk_frozen BK234.out 0
  try go_wp2
  refine bodyPost_ret (results_cell_row rfl _ _ gb234 26 #[.slice (some ⟨go12, 0, none⟩) t241.length co21] (0, 0) _ rfl (by (with_reducible repeat (first | refine blk_drewN ?_ _ | refine blk_drew ?_ | refine blk_alloc ?_ _)); refine blk_put (cs := #[.slice none 0 0]) ?_ 0 _ rfl; refine qb ?_; exact BK234.out) Try.underlying26 rfl (by kernel_rfl)) rfl ?_
  exact ⟨_, by first | rfl | (simp [errW_none, errW_some] <;> rfl) | (simp only [← hji9]; first | rfl | (simp [errW_none, errW_some] <;> rfl)) | (simp [*, errW_none, errW_some] <;> rfl), qR (Kd.R_mono (Kd.R_far (p := ⟨gb234, 0, none⟩) (Kd.R_types HO243.out BK234.out (by decide)) (fun _ hk => hk.2) (.slice (some ⟨go12, 0, none⟩) t241.length co21)) (fun _ hk => trivial)), qI67, qB, qK⟩
 ·rw [if_neg c6] at H
  have c6b0 : (t244 == 0) = false := beq_eq_false_iff_ne.mpr c6
  have c6b1 : (t244 != 0) = true := bne_iff_ne.mpr c6
  by_cases c36 : t244 = 1
  ·rw [if_pos c36] at H
   have c36b0 : (t244 == 1) = true := beq_iff_eq.mpr c36
   have c36b1 : (t244 != 1) = false := bne_eq_false_iff_eq.mpr c36
   clear c36
   simp only [Option.some.injEq, Prod.mk.injEq] at H
   obtain ⟨rfl, rfl, rfl⟩ := H
   go_enter Try.func64, Try.ntmps64
   go_wp2_with (first | ((with_reducible refine gate_dst (N := 4) rfl ?_); refine qx (N := 4) (cs := #[.slice none 0 0]) (t := 26) ?_; intro gb234 hg w37 hbox hb; have n0_ := am (IsS67.below qI67 hb); have n1_ := am (KeepBut.trans qK (KeepBut.of_below hb g none) (.inl rfl)); have n2_ := am (below_step qB hb); have BK234 := am (hbox); have GW234 := am ((by rw [hg]; exact (keep_size (w := w) (g := g) (row := none) qK) : w.heap.size ≤ gb234)); have GE234 := am ((Nat.le_trans HW0.out (by rw [hg]; exact (keep_size (w := w) (g := g) (row := none) qK) : w.heap.size ≤ gb234) : w0.heap.size ≤ gb234)); have NB0_234 := am ((by rw [hg]; exact Nat.ne_of_lt (IsS67.lt (show IsS67 w0 _ g s0_0 s0_1 s0_2 from qI67)) : g ≠ gb234)); have NB234_0 := am ((by rw [hg]; exact Nat.ne_of_gt (IsS67.lt (show IsS67 w0 _ g s0_0 s0_1 s0_2 from qI67)) : gb234 ≠ g)); clear HI0 HK HB; have HI0 := n0_; have HK := n1_; have HB := n2_; clear n0_ n1_ n2_; clear hb hbox hg) | ((with_reducible refine gate_callee (f := 124) rfl ?_); refine gL (some 10) Try.func124 #[.pointer (some ⟨g, 0, none⟩), .int .i64 a1] ?_; (with_reducible refine (spec_l1Cur_surePoset.calls k g s0_0 s0_1 s0_2 a1 t235 t238 t239 w0 _ ?side1 ?side2 A3.out).mono ?_); (case side1 => exact qI67); (case side2 => exact qB); rintro e w38 ⟨v236, rfl, ho0, hi, hb, hk⟩; refine ⟨_, rfl, ?_⟩; replace BK234 := am (KeepBut.blk hk (g' := gb234) (o := .cells #[.slice none 0 0] 26 (0, 0)) (qb BK234.out) NB234_0.out (by simp)); have HO237 := am (Kd.R_lower ho0 (keep_size (w := w) (g := g) (row := none) qK)); have n2_ := am (KeepBut.trans qK hk (.inl rfl)); have n3_ := am (hb); replace HI0 := am (hi); clear HK HB; have HK := n2_; have HB := n3_; clear n2_ n3_; (try clear hb); (try clear hb2); (try clear hk); (try clear hi); (try clear ho0)) | ((with_reducible refine gate_dst (N := 5) rfl ?_); refine qx (N := 5) (cs := #[.slice none 0 0]) (t := 26) ?_; intro gb240 hg w39 hbox hb; replace HO237 := am (Kd.R_below (qR HO237.out) hb); have n1_ := am (IsS67.below qI67 hb); have n2_ := am (blk_below (g := gb234) (o := .cells #[.slice none 0 0] 26 (0, 0)) (qb BK234.out) hb); have n3_ := am (KeepBut.trans qK (KeepBut.of_below hb g none) (.inl rfl)); have n4_ := am (below_step qB hb); have BK240 := am (hbox); have GW240 := am ((by rw [hg]; exact (keep_size (w := w) (g := g) (row := none) qK) : w.heap.size ≤ gb240)); have GE240 := am ((Nat.le_trans HW0.out (by rw [hg]; exact (keep_size (w := w) (g := g) (row := none) qK) : w.heap.size ≤ gb240) : w0.heap.size ≤ gb240)); have NB234_240 := am ((by rw [hg]; exact Nat.ne_of_lt (blk_lt (g := gb234) (o := .cells #[.slice none 0 0] 26 (0, 0)) (qb BK234.out)) : gb234 ≠ gb240)); have NB240_234 := am ((by rw [hg]; exact Nat.ne_of_gt (blk_lt (g := gb234) (o := .cells #[.slice none 0 0] 26 (0, 0)) (qb BK234.out)) : gb240 ≠ gb234)); have NB0_240 := am ((by rw [hg]; exact Nat.ne_of_lt (IsS67.lt (show IsS67 w0 _ g s0_0 t238 t239 from qI67)) : g ≠ gb240)); have NB240_0 := am ((by rw [hg]; exact Nat.ne_of_gt (IsS67.lt (show IsS67 w0 _ g s0_0 t238 t239 from qI67)) : gb240 ≠ g)); clear HI0 BK234 HK HB; have HI0 := n1_; have BK234 := n2_; have HK := n3_; have HB := n4_; clear n1_ n2_ n3_ n4_; clear hb hbox hg; obtain ⟨Ao40, co40, eo40⟩ := Kd.R_slice HO237.out; subst eo40; have hnb41 := NB240_234.out; have hnc41 := NB234_240.out; have hnb42 := NB240_0.out; have hnc42 := NB0_240.out; have hcz43_0 := qz w39 BK240.out; have hfz43_0 := blk_frozen BK240.out 0) | ((with_reducible refine gate_callee (f := 125) rfl ?_); refine gL (some 13) Try.func125 #[.slice Ao40 t235.length co40] ?_; (with_reducible refine (spec_l1Own.calls _ _ t235 t241 _ ?side1 ?side2 A4.out).mono ?_); (case side1 => refine (Kd.R_reads' (e := 3) (base := w.heap.size) (ok := fun k_ => True) (n := t235.length) (c := co40) ?_).2.2; exact (qR ((Kd.R_mono (Kd.R_far (p := ⟨gb240, 0, none⟩) (Kd.R_types HO237.out BK240.out (by decide)) (fun _ hk => hk.2) (.slice Ao40 t235.length co40)) (fun _ h_ => h_.1))))); (case side2 => exact (Kd.R_reads' HO237.out).2.1); rintro e w44 ⟨v242, rfl, ho0, hb⟩; refine ⟨_, rfl, ?_⟩; have n0_ := am (Kd.R_elder' (qR ((Kd.R_mono (Kd.R_far (p := ⟨gb240, 0, none⟩) (Kd.R_types HO237.out BK240.out (by decide)) (fun _ hk => hk.2) (.slice Ao40 t235.length co40)) (fun _ h_ => h_.1)))) (Kd.R_base ho0) hb); have HO243 := am (Kd.R_lower (Kd.R_new' ho0 (Kd.R_lt (qR ((Kd.R_mono (Kd.R_far (p := ⟨gb240, 0, none⟩) (Kd.R_types HO237.out BK240.out (by decide)) (fun _ hk => hk.2) (.slice Ao40 t235.length co40)) (fun _ h_ => h_.1)))))) (keep_size (w := w) (g := g) (row := none) qK)); have n2_ := am (IsS67.below (show IsS67 w0 (w39.setCell ⟨gb240, 0, none⟩ (.slice Ao40 t235.length co40)) g s0_0 t238 t239 from qI67) hb); replace BK234 := am (blk_below (g := gb234) (o := .cells #[.slice none 0 0] 26 (0, 0)) (by (with_reducible repeat (first | refine blk_drewN ?_ _ | refine blk_drew ?_ | refine blk_alloc ?_ _)); refine blk_far ?_ NB234_240.out _; refine qb ?_; exact BK234.out) hb); replace BK240 := am (blk_below (g := gb240) (o := .cells #[.slice Ao40 t235.length co40] 26 (0, 0)) (by (with_reducible repeat (first | refine blk_drewN ?_ _ | refine blk_drew ?_ | refine blk_alloc ?_ _)); refine blk_put (cs := #[.slice none 0 0]) ?_ 0 _ rfl; refine qb ?_; exact BK240.out) hb); have n5_ := am (KeepBut.trans qK (KeepBut.of_below hb g none) (.inl rfl)); replace HB := am (below_step qB hb); clear HO237 HI0 HK; have HO237 := n0_; have HI0 := n2_; have HK := n5_; clear n0_ n2_ n5_; (try clear hb); (try clear hb2); (try clear hk); (try clear hi); (try clear ho0); obtain ⟨Ao45, co45, eo45⟩ := Kd.R_slice HO243.out; subst eo45; have hcz46_0 := qz w44 BK240.out; have hfz46_0 := blk_frozen BK240.out 0) | ((with_reducible refine gate_callee (f := 68) rfl ?_); refine gL (some 16) Try.func68 #[.pointer (some ⟨g, 0, none⟩), .int .i64 20] ?_; (with_reducible refine (spec_l1Cur_pick.calls g s0_0 t238 t239 20 t244 t245 t246 w0 _ ?side1 ?side2 A5.out).mono ?_); (case side1 => exact qI67); (case side2 => exact qB); rintro e w47 ⟨rfl, hi, hb, hk⟩; refine ⟨_, rfl, ?_⟩; replace BK234 := am (KeepBut.blk hk (g' := gb234) (o := .cells #[.slice none 0 0] 26 (0, 0)) (by (with_reducible repeat (first | refine blk_drewN ?_ _ | refine blk_drew ?_ | refine blk_alloc ?_ _)); refine blk_far ?_ NB234_240.out _; refine qb ?_; exact BK234.out) NB234_0.out (by simp)); replace HO237 := am (Kd.R_mono (Kd.R_keep (IsS67.apart (show IsS67 w0 _ g s0_0 t238 t239 from qI67) (qR ((Kd.R_mono (Kd.R_far (p := ⟨gb240, 0, none⟩) (Kd.R_types HO237.out BK240.out (by decide)) (fun _ hk => hk.2) (.slice Ao45 t241.length co45)) (fun _ h_ => h_.1)))) (by decide)) hk (fun _ h => h.2)) (fun _ h => h.1)); have n2_ := am (KeepBut.blk hk (g' := gb240) (o := .cells #[.slice Ao45 t241.length co45] 26 (0, 0)) (by (with_reducible repeat (first | refine blk_drewN ?_ _ | refine blk_drew ?_ | refine blk_alloc ?_ _)); refine blk_put (cs := #[.slice Ao40 t235.length co40]) ?_ 0 _ rfl; refine qb ?_; exact BK240.out) NB240_0.out (by simp)); replace HO243 := am (Kd.R_mono (Kd.R_keep (IsS67.apart (show IsS67 w0 _ g s0_0 t238 t239 from qI67) (qR ((Kd.R_mono (Kd.R_far (p := ⟨gb240, 0, none⟩) (Kd.R_types HO243.out BK240.out (by decide)) (fun _ hk => hk.2) (.slice Ao45 t241.length co45)) (fun _ h_ => h_.1)))) (by decide)) hk (fun _ h => h.2)) (fun _ h => h.1)); have n4_ := am (KeepBut.trans qK hk (.inl rfl)); have n5_ := am (hb); replace HI0 := am (hi); clear BK240 HK HB; have BK240 := n2_; have HK := n4_; have HB := n5_; clear n2_ n4_ n5_; (try clear hb); (try clear hb2); (try clear hk); (try clear hi); have hcz48_0 := qz w47 BK240.out; have hfz48_0 := blk_frozen BK240.out 0; have hnb49 := NB234_0.out; have hnc49 := NB0_234.out; have hcz50_0 := qz w47 BK234.out; have hfz50_0 := blk_frozen BK234.out 0))
   refine bodyPost_ret (results_cell_row rfl _ _ gb234 26 #[.slice none 0 0] (0, 0) _ rfl (by (with_reducible repeat (first | refine blk_drewN ?_ _ | refine blk_drew ?_ | refine blk_alloc ?_ _)); refine blk_put (cs := #[.slice none 0 0]) ?_ 0 _ rfl; (with_reducible repeat (first | refine blk_drewN ?_ _ | refine blk_drew ?_ | refine blk_alloc ?_ _)); refine blk_far ?_ NB234_240.out _; refine qb ?_; exact BK234.out) Try.underlying26 rfl (by kernel_rfl)) rfl ?_
   exact ⟨_, qr, by first | exact Kd.R_nil _ _ _ _ _ | exact Kd.N_nil _ _ _ _ _ | exact Kd.V_nil _ _ _ _ _ | exact Kd.Q_nil _ _ _ _ _ | exact Kd.S_nil _ _ _ _ _, qI67, qB, qK⟩
  ·rw [if_neg c36] at H
   have c36b0 : (t244 == 1) = false := beq_eq_false_iff_ne.mpr c36
   have c36b1 : (t244 != 1) = true := bne_iff_ne.mpr c36
   by_cases c51 : t244 = 2
   ·rw [if_pos c51] at H
    have c51b0 : (t244 == 2) = true := beq_iff_eq.mpr c51
    have c51b1 : (t244 != 2) = false := bne_eq_false_iff_eq.mpr c51
    clear c51
    have H' := am H
    clear H
    go_enter Try.func64, Try.ntmps64
    go_wp2_with (first | ((with_reducible refine gate_dst (N := 4) rfl ?_); refine qx (N := 4) (cs := #[.slice none 0 0]) (t := 26) ?_; intro gb234 hg w52 hbox hb; have n0_ := am (IsS67.below qI67 hb); have n1_ := am (KeepBut.trans qK (KeepBut.of_below hb g none) (.inl rfl)); have n2_ := am (below_step qB hb); have BK234 := am (hbox); have GW234 := am ((by rw [hg]; exact (keep_size (w := w) (g := g) (row := none) qK) : w.heap.size ≤ gb234)); have GE234 := am ((Nat.le_trans HW0.out (by rw [hg]; exact (keep_size (w := w) (g := g) (row := none) qK) : w.heap.size ≤ gb234) : w0.heap.size ≤ gb234)); have NB0_234 := am ((by rw [hg]; exact Nat.ne_of_lt (IsS67.lt (show IsS67 w0 _ g s0_0 s0_1 s0_2 from qI67)) : g ≠ gb234)); have NB234_0 := am ((by rw [hg]; exact Nat.ne_of_gt (IsS67.lt (show IsS67 w0 _ g s0_0 s0_1 s0_2 from qI67)) : gb234 ≠ g)); clear HI0 HK HB; have HI0 := n0_; have HK := n1_; have HB := n2_; clear n0_ n1_ n2_; clear hb hbox hg) | ((with_reducible refine gate_callee (f := 124) rfl ?_); refine gL (some 10) Try.func124 #[.pointer (some ⟨g, 0, none⟩), .int .i64 a1] ?_; (with_reducible refine (spec_l1Cur_surePoset.calls k g s0_0 s0_1 s0_2 a1 t235 t238 t239 w0 _ ?side1 ?side2 A3.out).mono ?_); (case side1 => exact qI67); (case side2 => exact qB); rintro e w53 ⟨v236, rfl, ho0, hi, hb, hk⟩; refine ⟨_, rfl, ?_⟩; replace BK234 := am (KeepBut.blk hk (g' := gb234) (o := .cells #[.slice none 0 0] 26 (0, 0)) (qb BK234.out) NB234_0.out (by simp)); have HO237 := am (Kd.R_lower ho0 (keep_size (w := w) (g := g) (row := none) qK)); have n2_ := am (KeepBut.trans qK hk (.inl rfl)); have n3_ := am (hb); replace HI0 := am (hi); clear HK HB; have HK := n2_; have HB := n3_; clear n2_ n3_; (try clear hb); (try clear hb2); (try clear hk); (try clear hi); (try clear ho0)) | ((with_reducible refine gate_dst (N := 5) rfl ?_); refine qx (N := 5) (cs := #[.slice none 0 0]) (t := 26) ?_; intro gb240 hg w54 hbox hb; replace HO237 := am (Kd.R_below (qR HO237.out) hb); have n1_ := am (IsS67.below qI67 hb); have n2_ := am (blk_below (g := gb234) (o := .cells #[.slice none 0 0] 26 (0, 0)) (qb BK234.out) hb); have n3_ := am (KeepBut.trans qK (KeepBut.of_below hb g none) (.inl rfl)); have n4_ := am (below_step qB hb); have BK240 := am (hbox); have GW240 := am ((by rw [hg]; exact (keep_size (w := w) (g := g) (row := none) qK) : w.heap.size ≤ gb240)); have GE240 := am ((Nat.le_trans HW0.out (by rw [hg]; exact (keep_size (w := w) (g := g) (row := none) qK) : w.heap.size ≤ gb240) : w0.heap.size ≤ gb240)); have NB234_240 := am ((by rw [hg]; exact Nat.ne_of_lt (blk_lt (g := gb234) (o := .cells #[.slice none 0 0] 26 (0, 0)) (qb BK234.out)) : gb234 ≠ gb240)); have NB240_234 := am ((by rw [hg]; exact Nat.ne_of_gt (blk_lt (g := gb234) (o := .cells #[.slice none 0 0] 26 (0, 0)) (qb BK234.out)) : gb240 ≠ gb234)); have NB0_240 := am ((by rw [hg]; exact Nat.ne_of_lt (IsS67.lt (show IsS67 w0 _ g s0_0 t238 t239 from qI67)) : g ≠ gb240)); have NB240_0 := am ((by rw [hg]; exact Nat.ne_of_gt (IsS67.lt (show IsS67 w0 _ g s0_0 t238 t239 from qI67)) : gb240 ≠ g)); clear HI0 BK234 HK HB; have HI0 := n1_; have BK234 := n2_; have HK := n3_; have HB := n4_; clear n1_ n2_ n3_ n4_; clear hb hbox hg; obtain ⟨Ao55, co55, eo55⟩ := Kd.R_slice HO237.out; subst eo55; have hnb56 := NB240_234.out; have hnc56 := NB234_240.out; have hnb57 := NB240_0.out; have hnc57 := NB0_240.out; have hcz58_0 := qz w54 BK240.out; have hfz58_0 := blk_frozen BK240.out 0) | ((with_reducible refine gate_callee (f := 125) rfl ?_); refine gL (some 13) Try.func125 #[.slice Ao55 t235.length co55] ?_; (with_reducible refine (spec_l1Own.calls _ _ t235 t241 _ ?side1 ?side2 A4.out).mono ?_); (case side1 => refine (Kd.R_reads' (e := 3) (base := w.heap.size) (ok := fun k_ => True) (n := t235.length) (c := co55) ?_).2.2; exact (qR ((Kd.R_mono (Kd.R_far (p := ⟨gb240, 0, none⟩) (Kd.R_types HO237.out BK240.out (by decide)) (fun _ hk => hk.2) (.slice Ao55 t235.length co55)) (fun _ h_ => h_.1))))); (case side2 => exact (Kd.R_reads' HO237.out).2.1); rintro e w59 ⟨v242, rfl, ho0, hb⟩; refine ⟨_, rfl, ?_⟩; have n0_ := am (Kd.R_elder' (qR ((Kd.R_mono (Kd.R_far (p := ⟨gb240, 0, none⟩) (Kd.R_types HO237.out BK240.out (by decide)) (fun _ hk => hk.2) (.slice Ao55 t235.length co55)) (fun _ h_ => h_.1)))) (Kd.R_base ho0) hb); have HO243 := am (Kd.R_lower (Kd.R_new' ho0 (Kd.R_lt (qR ((Kd.R_mono (Kd.R_far (p := ⟨gb240, 0, none⟩) (Kd.R_types HO237.out BK240.out (by decide)) (fun _ hk => hk.2) (.slice Ao55 t235.length co55)) (fun _ h_ => h_.1)))))) (keep_size (w := w) (g := g) (row := none) qK)); have n2_ := am (IsS67.below (show IsS67 w0 (w54.setCell ⟨gb240, 0, none⟩ (.slice Ao55 t235.length co55)) g s0_0 t238 t239 from qI67) hb); replace BK234 := am (blk_below (g := gb234) (o := .cells #[.slice none 0 0] 26 (0, 0)) (by (with_reducible repeat (first | refine blk_drewN ?_ _ | refine blk_drew ?_ | refine blk_alloc ?_ _)); refine blk_far ?_ NB234_240.out _; refine qb ?_; exact BK234.out) hb); replace BK240 := am (blk_below (g := gb240) (o := .cells #[.slice Ao55 t235.length co55] 26 (0, 0)) (by (with_reducible repeat (first | refine blk_drewN ?_ _ | refine blk_drew ?_ | refine blk_alloc ?_ _)); refine blk_put (cs := #[.slice none 0 0]) ?_ 0 _ rfl; refine qb ?_; exact BK240.out) hb); have n5_ := am (KeepBut.trans qK (KeepBut.of_below hb g none) (.inl rfl)); replace HB := am (below_step qB hb); clear HO237 HI0 HK; have HO237 := n0_; have HI0 := n2_; have HK := n5_; clear n0_ n2_ n5_; (try clear hb); (try clear hb2); (try clear hk); (try clear hi); (try clear ho0); obtain ⟨Ao60, co60, eo60⟩ := Kd.R_slice HO243.out; subst eo60; have hcz61_0 := qz w59 BK240.out; have hfz61_0 := blk_frozen BK240.out 0) | ((with_reducible refine gate_callee (f := 68) rfl ?_); refine gL (some 16) Try.func68 #[.pointer (some ⟨g, 0, none⟩), .int .i64 20] ?_; (with_reducible refine (spec_l1Cur_pick.calls g s0_0 t238 t239 20 t244 t245 t246 w0 _ ?side1 ?side2 A5.out).mono ?_); (case side1 => exact qI67); (case side2 => exact qB); rintro e w62 ⟨rfl, hi, hb, hk⟩; refine ⟨_, rfl, ?_⟩; replace BK234 := am (KeepBut.blk hk (g' := gb234) (o := .cells #[.slice none 0 0] 26 (0, 0)) (by (with_reducible repeat (first | refine blk_drewN ?_ _ | refine blk_drew ?_ | refine blk_alloc ?_ _)); refine blk_far ?_ NB234_240.out _; refine qb ?_; exact BK234.out) NB234_0.out (by simp)); replace HO237 := am (Kd.R_mono (Kd.R_keep (IsS67.apart (show IsS67 w0 _ g s0_0 t238 t239 from qI67) (qR ((Kd.R_mono (Kd.R_far (p := ⟨gb240, 0, none⟩) (Kd.R_types HO237.out BK240.out (by decide)) (fun _ hk => hk.2) (.slice Ao60 t241.length co60)) (fun _ h_ => h_.1)))) (by decide)) hk (fun _ h => h.2)) (fun _ h => h.1)); have n2_ := am (KeepBut.blk hk (g' := gb240) (o := .cells #[.slice Ao60 t241.length co60] 26 (0, 0)) (by (with_reducible repeat (first | refine blk_drewN ?_ _ | refine blk_drew ?_ | refine blk_alloc ?_ _)); refine blk_put (cs := #[.slice Ao55 t235.length co55]) ?_ 0 _ rfl; refine qb ?_; exact BK240.out) NB240_0.out (by simp)); replace HO243 := am (Kd.R_mono (Kd.R_keep (IsS67.apart (show IsS67 w0 _ g s0_0 t238 t239 from qI67) (qR ((Kd.R_mono (Kd.R_far (p := ⟨gb240, 0, none⟩) (Kd.R_types HO243.out BK240.out (by decide)) (fun _ hk => hk.2) (.slice Ao60 t241.length co60)) (fun _ h_ => h_.1)))) (by decide)) hk (fun _ h => h.2)) (fun _ h => h.1)); have n4_ := am (KeepBut.trans qK hk (.inl rfl)); have n5_ := am (hb); replace HI0 := am (hi); clear BK240 HK HB; have BK240 := n2_; have HK := n4_; have HB := n5_; clear n2_ n4_ n5_; (try clear hb); (try clear hb2); (try clear hk); (try clear hi)))
    go_loopg [7] k (fun kq v7 w' => ∃ (x7_1 : Int) (x241000_1 : List Int) (u241000 : Value), v7 = .int .i64 x7_1 ∧ Aside0 (spec_l1Cur_poset.l0 kq x7_1 s0_0 t245 t246 x241000_1 = some (r1, r2, r3)) ∧ Aside0 (kq ≤ k) ∧ Aside0 (Kd.R (Kd.int .i64) 3 w' w.heap.size (fun _ => True) u241000 x241000_1) ∧ Aside0 (w'.heap[gb234]? = some (.cells #[(.slice none 0 0)] 26 (0, 0))) ∧ Aside0 (w'.heap[gb240]? = some (.cells #[u241000] 26 (0, 0))) ∧ Aside0 (IsS67 w0 w' g s0_0 t245 t246) ∧ Aside0 (KeepBut w w' g none) ∧ Aside0 (Below w0.heap.size w0 w'))
    case atStart => exact ⟨(0), (t241), (.slice Ao60 t241.length co60), qe, H', ⟨Nat.le_refl _⟩, ⟨qR (Kd.R_mono HO243.out (fun _ hk => trivial))⟩, ⟨qb BK234.out⟩, ⟨qb BK240.out⟩, ⟨qI67⟩, ⟨qK⟩, ⟨qB⟩⟩
    case round =>
     clear H'
     try clear c1
     try clear p1
     try clear q1
     try clear hx1
     try clear p2
     try clear c3
     try clear c4
     try clear c5
     try clear c6
     try clear c6b0
     try clear c6b1
     try clear p6
     try clear c8
     try clear c8b0
     try clear c8b1
     try clear c11
     try clear c11b0
     try clear c12
     try clear p12
     try clear q12
     try clear hx12
     try clear hf12
     try clear c17
     try clear c18
     try clear c34
     try clear c36
     try clear c36b0
     try clear c36b1
     try clear c41
     try clear c42
     try clear c49
     try clear c51
     try clear c51b0
     try clear c51b1
     try clear c56
     try clear c57
     try clear hcz19_0
     try clear hcz22_0
     try clear hcz24_0
     try clear hcz33_0
     try clear hcz35_0
     try clear hcz43_0
     try clear hcz46_0
     try clear hcz48_0
     try clear hcz50_0
     try clear hcz58_0
     try clear hcz61_0
     try clear hfz19_0
     try clear hfz22_0
     try clear hfz24_0
     try clear hfz33_0
     try clear hfz35_0
     try clear hfz43_0
     try clear hfz46_0
     try clear hfz48_0
     try clear hfz50_0
     try clear hfz58_0
     try clear hfz61_0
     try clear hx12_0
     try clear p12
     try clear q12
     obtain ⟨x7_1, x241000_1, u241000, rfl, HA, HK1, HO_241000, BK234, BK240, HI0, HK, HB⟩ := hrel
     cases gk with
     | zero => exact absurd HA.out (by simp [spec_l1Cur_poset.l0])
     | succ k1 =>
      have H := HA.out
      clear HA
      simp only [spec_l1Cur_poset.l0] at H
      by_cases c63 : x7_1 < 11
      ·rw [if_pos c63] at H
       have c63b0 := decide_eq_true c63
       clear c63
       by_cases c64 : x241000_1.length < 17592186044416
       rotate_left
       ·rw [if_neg c64] at H
        exact absurd H (by simp)
       rw [if_pos c64] at H
       have LMc64 := am c64
       clear c64
       obtain ⟨y257, hy257⟩ : ∃ y_ : List Int, y_ = (x241000_1 ++ [0]) := ⟨_, rfl⟩
       first | rw [← hy257] at H | (have H2_ := (Option.bind_some _ _).symm.trans H; clear H; have H := H2_; clear H2_; rw [← hy257] at H)
       have Ny257 := am hy257
       clear hy257
       have H' := am H
       clear H
       have hnb65 := NB240_234.out
       have hnc65 := NB234_240.out
       have hnb66 := NB240_0.out
       have hnc66 := NB0_240.out
       have hcz67_0 := qz wr BK240.out
       have hfz67_0 := blk_frozen BK240.out 0
       go_wp2_with (((with_reducible refine gate_builtin (b := .append) (xs := #[.tmp 43, .tmp 44]) rfl ?_); at_builtin; refine Kd.R_append (Kd.int .i64) w.heap.size rfl (.tmp 43) (.tmp 44) 24 3 (.int .i64 0) 8 rfl Try.underlying24 info3 rfl (by decide) (by omega) u241000 x241000_1 0 [.int .i64 0] (fun _ => True) (fun _ => False) rfl rfl ?aP (fun _ hk => hk.elim) ?aF ?aO (Below.refl _ _) ?aS ?aL ?_; (case aP => exact rfl); (case aF => exact (fun _ _ => trivial)); (case aO => exact (qR HO_241000.out)); (case aS => exact (keep_size (w := w) (g := g) (row := none) qK)); (case aL => have := LMc64.out; omega); intro v258 w68 ho hb hg hat; rw [← Ny257.out] at ho; replace BK234 := am (blk_grown (g := gb234) (o := .cells #[.slice none 0 0] 26 (0, 0)) (qb BK234.out) hg (Kd.R_ne HO_241000.out BK234.out (by decide))); replace BK240 := am (blk_grown (g := gb240) (o := .cells #[u241000] 26 (0, 0)) (qb BK240.out) hg (Kd.R_ne HO_241000.out BK240.out (by decide))); have n2_ := am (IsS67.grown qI67 hg (IsS67.own_ne HI0.out HO_241000.out (by decide))); have n3_ := am (below_weaken qB HL.out hb); have n4_ := am (KeepBut.trans qK (KeepBut.of_grown hg g) (Kd.R_base2 HO_241000.out)); have HO259 := am (ho); clear HI0 HB HK HO_241000; have HI0 := n2_; have HB := n3_; have HK := n4_; clear n2_ n3_ n4_; clear ho hb hg hat; obtain ⟨Ao69, co69, eo69⟩ := Kd.R_slice HO259.out; subst eo69; have hcz70_0 := qz w68 BK240.out; have hfz70_0 := blk_frozen BK240.out 0))
       go_roundg k1
       case measure => have := HK1.out; omega
       case rel => exact ⟨(wrap64 (x7_1 + 1)), (y257), (.slice Ao69 y257.length co69), qe, H', ⟨by have := HK1.out; omega⟩, ⟨qR (Kd.R_mono (Kd.R_far (p := ⟨gb240, 0, none⟩) (Kd.R_types HO259.out BK240.out (by decide)) (fun _ hk => hk.2) (.slice Ao69 y257.length co69)) (fun _ hk => trivial))⟩, ⟨by (with_reducible repeat (first | refine blk_drewN ?_ _ | refine blk_drew ?_ | refine blk_alloc ?_ _)); refine blk_far ?_ NB234_240.out _; refine qb ?_; exact BK234.out⟩, ⟨by (with_reducible repeat (first | refine blk_drewN ?_ _ | refine blk_drew ?_ | refine blk_alloc ?_ _)); refine blk_put (cs := #[u241000]) ?_ 0 _ rfl; refine qb ?_; exact BK240.out⟩, ⟨qI67⟩, ⟨qK⟩, ⟨qB⟩⟩
      ·rw [if_neg c63] at H
       have c63b0 := decide_eq_false c63
       clear c63
       simp only [Option.some.injEq, Prod.mk.injEq] at H
       obtain ⟨rfl, rfl, rfl⟩ := H
       have hnb71 := NB240_234.out
       have hnc71 := NB234_240.out
       have hnb72 := NB240_0.out
       have hnc72 := NB0_240.out
       have hcz73_0 := qz wr BK240.out
       have hfz73_0 := blk_frozen BK240.out 0
       obtain ⟨Ao74, co74, eo74⟩ := Kd.R_slice HO_241000.out
       subst eo74
       have hnb75 := NB234_0.out
       have hnc75 := NB0_234.out
       have hcz76_0 := qz wr BK234.out
       have hfz76_0 := blk_frozen BK234.out 0
       go_wp2
       refine bodyPost_ret (results_cell_row rfl _ _ gb234 26 #[.slice Ao74 x241000_1.length co74] (0, 0) _ rfl (by (with_reducible repeat (first | refine blk_drewN ?_ _ | refine blk_drew ?_ | refine blk_alloc ?_ _)); refine blk_put (cs := #[.slice none 0 0]) ?_ 0 _ rfl; refine qb ?_; exact BK234.out) Try.underlying26 rfl (by kernel_rfl)) rfl ?_
       exact ⟨_, qr, qR (Kd.R_mono (Kd.R_far (p := ⟨gb234, 0, none⟩) (Kd.R_types HO_241000.out BK234.out (by decide)) (fun _ hk => hk.2) (.slice Ao74 x241000_1.length co74)) (fun _ hk => trivial)), qI67, qB, qK⟩
   ·rw [if_neg c51] at H
    have c51b0 : (t244 == 2) = false := beq_eq_false_iff_ne.mpr c51
    have c51b1 : (t244 != 2) = true := bne_iff_ne.mpr c51
    simp only [Option.some.injEq, Prod.mk.injEq] at H
    obtain ⟨rfl, rfl, rfl⟩ := H
    go_enter Try.func64, Try.ntmps64
    go_wp2_with (first | ((with_reducible refine gate_dst (N := 4) rfl ?_); refine qx (N := 4) (cs := #[.slice none 0 0]) (t := 26) ?_; intro gb234 hg w77 hbox hb; have n0_ := am (IsS67.below qI67 hb); have n1_ := am (KeepBut.trans qK (KeepBut.of_below hb g none) (.inl rfl)); have n2_ := am (below_step qB hb); have BK234 := am (hbox); have GW234 := am ((by rw [hg]; exact (keep_size (w := w) (g := g) (row := none) qK) : w.heap.size ≤ gb234)); have GE234 := am ((Nat.le_trans HW0.out (by rw [hg]; exact (keep_size (w := w) (g := g) (row := none) qK) : w.heap.size ≤ gb234) : w0.heap.size ≤ gb234)); have NB0_234 := am ((by rw [hg]; exact Nat.ne_of_lt (IsS67.lt (show IsS67 w0 _ g s0_0 s0_1 s0_2 from qI67)) : g ≠ gb234)); have NB234_0 := am ((by rw [hg]; exact Nat.ne_of_gt (IsS67.lt (show IsS67 w0 _ g s0_0 s0_1 s0_2 from qI67)) : gb234 ≠ g)); clear HI0 HK HB; have HI0 := n0_; have HK := n1_; have HB := n2_; clear n0_ n1_ n2_; clear hb hbox hg) | ((with_reducible refine gate_callee (f := 124) rfl ?_); refine gL (some 10) Try.func124 #[.pointer (some ⟨g, 0, none⟩), .int .i64 a1] ?_; (with_reducible refine (spec_l1Cur_surePoset.calls k g s0_0 s0_1 s0_2 a1 t235 t238 t239 w0 _ ?side1 ?side2 A3.out).mono ?_); (case side1 => exact qI67); (case side2 => exact qB); rintro e w78 ⟨v236, rfl, ho0, hi, hb, hk⟩; refine ⟨_, rfl, ?_⟩; replace BK234 := am (KeepBut.blk hk (g' := gb234) (o := .cells #[.slice none 0 0] 26 (0, 0)) (qb BK234.out) NB234_0.out (by simp)); have HO237 := am (Kd.R_lower ho0 (keep_size (w := w) (g := g) (row := none) qK)); have n2_ := am (KeepBut.trans qK hk (.inl rfl)); have n3_ := am (hb); replace HI0 := am (hi); clear HK HB; have HK := n2_; have HB := n3_; clear n2_ n3_; (try clear hb); (try clear hb2); (try clear hk); (try clear hi); (try clear ho0)) | ((with_reducible refine gate_dst (N := 5) rfl ?_); refine qx (N := 5) (cs := #[.slice none 0 0]) (t := 26) ?_; intro gb240 hg w79 hbox hb; replace HO237 := am (Kd.R_below (qR HO237.out) hb); have n1_ := am (IsS67.below qI67 hb); have n2_ := am (blk_below (g := gb234) (o := .cells #[.slice none 0 0] 26 (0, 0)) (qb BK234.out) hb); have n3_ := am (KeepBut.trans qK (KeepBut.of_below hb g none) (.inl rfl)); have n4_ := am (below_step qB hb); have BK240 := am (hbox); have GW240 := am ((by rw [hg]; exact (keep_size (w := w) (g := g) (row := none) qK) : w.heap.size ≤ gb240)); have GE240 := am ((Nat.le_trans HW0.out (by rw [hg]; exact (keep_size (w := w) (g := g) (row := none) qK) : w.heap.size ≤ gb240) : w0.heap.size ≤ gb240)); have NB234_240 := am ((by rw [hg]; exact Nat.ne_of_lt (blk_lt (g := gb234) (o := .cells #[.slice none 0 0] 26 (0, 0)) (qb BK234.out)) : gb234 ≠ gb240)); have NB240_234 := am ((by rw [hg]; exact Nat.ne_of_gt (blk_lt (g := gb234) (o := .cells #[.slice none 0 0] 26 (0, 0)) (qb BK234.out)) : gb240 ≠ gb234)); have NB0_240 := am ((by rw [hg]; exact Nat.ne_of_lt (IsS67.lt (show IsS67 w0 _ g s0_0 t238 t239 from qI67)) : g ≠ gb240)); have NB240_0 := am ((by rw [hg]; exact Nat.ne_of_gt (IsS67.lt (show IsS67 w0 _ g s0_0 t238 t239 from qI67)) : gb240 ≠ g)); clear HI0 BK234 HK HB; have HI0 := n1_; have BK234 := n2_; have HK := n3_; have HB := n4_; clear n1_ n2_ n3_ n4_; clear hb hbox hg; obtain ⟨Ao80, co80, eo80⟩ := Kd.R_slice HO237.out; subst eo80; have hnb81 := NB240_234.out; have hnc81 := NB234_240.out; have hnb82 := NB240_0.out; have hnc82 := NB0_240.out; have hcz83_0 := qz w79 BK240.out; have hfz83_0 := blk_frozen BK240.out 0) | ((with_reducible refine gate_callee (f := 125) rfl ?_); refine gL (some 13) Try.func125 #[.slice Ao80 t235.length co80] ?_; (with_reducible refine (spec_l1Own.calls _ _ t235 t241 _ ?side1 ?side2 A4.out).mono ?_); (case side1 => refine (Kd.R_reads' (e := 3) (base := w.heap.size) (ok := fun k_ => True) (n := t235.length) (c := co80) ?_).2.2; exact (qR ((Kd.R_mono (Kd.R_far (p := ⟨gb240, 0, none⟩) (Kd.R_types HO237.out BK240.out (by decide)) (fun _ hk => hk.2) (.slice Ao80 t235.length co80)) (fun _ h_ => h_.1))))); (case side2 => exact (Kd.R_reads' HO237.out).2.1); rintro e w84 ⟨v242, rfl, ho0, hb⟩; refine ⟨_, rfl, ?_⟩; have n0_ := am (Kd.R_elder' (qR ((Kd.R_mono (Kd.R_far (p := ⟨gb240, 0, none⟩) (Kd.R_types HO237.out BK240.out (by decide)) (fun _ hk => hk.2) (.slice Ao80 t235.length co80)) (fun _ h_ => h_.1)))) (Kd.R_base ho0) hb); have HO243 := am (Kd.R_lower (Kd.R_new' ho0 (Kd.R_lt (qR ((Kd.R_mono (Kd.R_far (p := ⟨gb240, 0, none⟩) (Kd.R_types HO237.out BK240.out (by decide)) (fun _ hk => hk.2) (.slice Ao80 t235.length co80)) (fun _ h_ => h_.1)))))) (keep_size (w := w) (g := g) (row := none) qK)); have n2_ := am (IsS67.below (show IsS67 w0 (w79.setCell ⟨gb240, 0, none⟩ (.slice Ao80 t235.length co80)) g s0_0 t238 t239 from qI67) hb); replace BK234 := am (blk_below (g := gb234) (o := .cells #[.slice none 0 0] 26 (0, 0)) (by (with_reducible repeat (first | refine blk_drewN ?_ _ | refine blk_drew ?_ | refine blk_alloc ?_ _)); refine blk_far ?_ NB234_240.out _; refine qb ?_; exact BK234.out) hb); replace BK240 := am (blk_below (g := gb240) (o := .cells #[.slice Ao80 t235.length co80] 26 (0, 0)) (by (with_reducible repeat (first | refine blk_drewN ?_ _ | refine blk_drew ?_ | refine blk_alloc ?_ _)); refine blk_put (cs := #[.slice none 0 0]) ?_ 0 _ rfl; refine qb ?_; exact BK240.out) hb); have n5_ := am (KeepBut.trans qK (KeepBut.of_below hb g none) (.inl rfl)); replace HB := am (below_step qB hb); clear HO237 HI0 HK; have HO237 := n0_; have HI0 := n2_; have HK := n5_; clear n0_ n2_ n5_; (try clear hb); (try clear hb2); (try clear hk); (try clear hi); (try clear ho0); obtain ⟨Ao85, co85, eo85⟩ := Kd.R_slice HO243.out; subst eo85; have hcz86_0 := qz w84 BK240.out; have hfz86_0 := blk_frozen BK240.out 0) | ((with_reducible refine gate_callee (f := 68) rfl ?_); refine gL (some 16) Try.func68 #[.pointer (some ⟨g, 0, none⟩), .int .i64 20] ?_; (with_reducible refine (spec_l1Cur_pick.calls g s0_0 t238 t239 20 t244 t245 t246 w0 _ ?side1 ?side2 A5.out).mono ?_); (case side1 => exact qI67); (case side2 => exact qB); rintro e w87 ⟨rfl, hi, hb, hk⟩; refine ⟨_, rfl, ?_⟩; replace BK234 := am (KeepBut.blk hk (g' := gb234) (o := .cells #[.slice none 0 0] 26 (0, 0)) (by (with_reducible repeat (first | refine blk_drewN ?_ _ | refine blk_drew ?_ | refine blk_alloc ?_ _)); refine blk_far ?_ NB234_240.out _; refine qb ?_; exact BK234.out) NB234_0.out (by simp)); replace HO237 := am (Kd.R_mono (Kd.R_keep (IsS67.apart (show IsS67 w0 _ g s0_0 t238 t239 from qI67) (qR ((Kd.R_mono (Kd.R_far (p := ⟨gb240, 0, none⟩) (Kd.R_types HO237.out BK240.out (by decide)) (fun _ hk => hk.2) (.slice Ao85 t241.length co85)) (fun _ h_ => h_.1)))) (by decide)) hk (fun _ h => h.2)) (fun _ h => h.1)); have n2_ := am (KeepBut.blk hk (g' := gb240) (o := .cells #[.slice Ao85 t241.length co85] 26 (0, 0)) (by (with_reducible repeat (first | refine blk_drewN ?_ _ | refine blk_drew ?_ | refine blk_alloc ?_ _)); refine blk_put (cs := #[.slice Ao80 t235.length co80]) ?_ 0 _ rfl; refine qb ?_; exact BK240.out) NB240_0.out (by simp)); replace HO243 := am (Kd.R_mono (Kd.R_keep (IsS67.apart (show IsS67 w0 _ g s0_0 t238 t239 from qI67) (qR ((Kd.R_mono (Kd.R_far (p := ⟨gb240, 0, none⟩) (Kd.R_types HO243.out BK240.out (by decide)) (fun _ hk => hk.2) (.slice Ao85 t241.length co85)) (fun _ h_ => h_.1)))) (by decide)) hk (fun _ h => h.2)) (fun _ h => h.1)); have n4_ := am (KeepBut.trans qK hk (.inl rfl)); have n5_ := am (hb); replace HI0 := am (hi); clear BK240 HK HB; have BK240 := n2_; have HK := n4_; have HB := n5_; clear n2_ n4_ n5_; (try clear hb); (try clear hb2); (try clear hk); (try clear hi); have hcz88_0 := qz w87 BK240.out; have hfz88_0 := blk_frozen BK240.out 0; have hnb89 := NB234_0.out; have hnc89 := NB0_234.out; have hcz90_0 := qz w87 BK234.out; have hfz90_0 := blk_frozen BK234.out 0))
    refine bodyPost_ret (results_cell_row rfl _ _ gb234 26 #[.slice Ao85 t241.length co85] (0, 0) _ rfl (by (with_reducible repeat (first | refine blk_drewN ?_ _ | refine blk_drew ?_ | refine blk_alloc ?_ _)); refine blk_put (cs := #[.slice none 0 0]) ?_ 0 _ rfl; refine qb ?_; exact BK234.out) Try.underlying26 rfl (by kernel_rfl)) rfl ?_
    exact ⟨_, qr, qR (Kd.R_mono (Kd.R_far (p := ⟨gb234, 0, none⟩) (Kd.R_types HO243.out BK234.out (by decide)) (fun _ hk => hk.2) (.slice Ao85 t241.length co85)) (fun _ hk => trivial)), qI67, qB, qK⟩
end Go.Proofs.Ytmbojobkiainlaa.F
end

section
namespace Go.Proofs.Ytmbojobkiainlaa.Q
open Go.RowKit Go.Proofs.YtmbojobkiainlaaW.PrintWords Go.Proofs.Ytmbojobkiainlaa.F
set_option linter.unusedVariables false
def okPo : Option (List Int) → Bool
 | some p => decide (1 ≤ p.length) && (decide (p.length ≤ 10) && p.all fun n => (Lit.int .i64 n).wf)
 | none => false
theorem okPo_parts {o : Option (List Int)} (h : okPo o = true) : ∃ p, o = some p ∧ 1 ≤ p.length ∧ p.length ≤ 10 ∧ wfL p := by
 cases o with
 | none => cases h
 | some p =>
  simp only [okPo, Bool.and_eq_true, decide_eq_true_eq, List.all_eq_true] at h
  exact ⟨p, rfl, h.1, h.2.1, h.2.2⟩
theorem allPoRect : (List.range 2).all (fun a => (List.range 5).all fun b => okPo (spec_poRectangle.f 200 ((a : Int) + 1) ((b : Int) + 1))) = true := by decide +kernel
theorem allPoStair : (List.range 2).all (fun a => okPo ((spec_Staircase.f 200 ((a : Int) + 1)).map Prod.fst)) = true := by decide +kernel
theorem allPoFence : (List.range 10).all (fun a => okPo ((spec_Fence.f 400 ((a : Int) + 1)).map Prod.fst)) = true := by decide +kernel
structure Drawn (p : List Int) (n : Nat) : Prop where
 len : p.length ≤ n
 wf : wfL p
theorem sure_loop {l : List Int} (hl : bytesL l) {n : Nat} (hn1 : 1 ≤ n) (hn : n ≤ 100) : ∀ (d : Nat) (ps : List (List Int)) (B : Nat) (a s : Int), d ≤ 200 → ps.length + d ≤ 400 → pairsOk n ps → cAt B a → B + 4 * d ≤ 100000 →
 ∃ p a' s', Ev (fun k => spec_l1Cur_surePoset.l0 k (n : Int) ps (d : Int) l a s) (p, a', s') ∧ p.length = n ∧ wfL p ∧ cAt (B + 4 * d) a' := by
 intro d
 induction d with
 | zero =>
  intro ps B a s _ _ hp ha hB
  obtain ⟨r, g1, g2, g3⟩ := poFrom_ok (by omega) hp
  refine ⟨r, a, s, Ev.step (by intro k; simp only [spec_l1Cur_surePoset.l0]; rfl) (Ev.no (by omega) (Ev.step (by intro k; simp only [spec_l1Cur_surePoset.j1]; rfl) (Ev.no (by simp) (Ev.bind g1 (Ev.now _))))), g2, g3, ha⟩
 | succ d ih =>
  intro ps B a s hd hps hp ha hB
  by_cases h1 : n = 1
  ·obtain ⟨r, g1, g2, g3⟩ := poFrom_ok (by omega) hp
   refine ⟨r, a, s, Ev.step (by intro k; simp only [spec_l1Cur_surePoset.l0]; rfl) (Ev.yes (by omega) ?_), g2, g3, cAt_mono ha (by omega)⟩
   rw [decide_eq_false (by omega)]
   exact Ev.step (by intro k; simp only [spec_l1Cur_surePoset.j1]; rfl) (Ev.no (by simp) (Ev.bind g1 (Ev.now _)))
  ·obtain ⟨x, a1, s1, e1, h2, x0, x1⟩ := cpick_ok hl s (wrap64 ((n : Int) - 1)) ha (by omega)
   have hw1 : wrap64 ((n : Int) - 1) = (n : Int) - 1 := wid (by omega) (by omega)
   rw [hw1] at x1
   have hxn : x < (n : Int) - 1 ∨ x = 0 := by omega
   have hxl : 0 ≤ x ∧ x + 1 < (n : Int) := by omega
   obtain ⟨y, a2, s2, e2, h3, y0, y1⟩ := cpick_ok hl s1 (wrap64 ((wrap64 ((n : Int) - 1)) - x)) h2 (by omega)
   have hrow : pairsOk n (ps ++ [([x, wrap64 ((wrap64 (x + 1)) + y)] : List Int)]) := by
    refine ⟨by rw [List.length_append, List.length_singleton]; omega, fun c hc => ?_⟩
    rcases List.mem_append.1 hc with h | h
    ·exact hp.2 c h
    ·rw [List.mem_singleton.1 h]
     exact ⟨rfl, by show 0 ≤ x; omega, by show x < _; omega⟩
   obtain ⟨p, a', s', g1, g2, g3, g4⟩ := ih _ (B + 2 + 2) a2 s2 (by omega) (by rw [List.length_append, List.length_singleton]; omega) hrow h3 (by omega)
   refine ⟨p, a', s', Ev.step (by intro k; simp only [spec_l1Cur_surePoset.l0]; rfl) (Ev.yes (by omega) ?_), g2, g3, cAt_mono g4 (by omega)⟩
   rw [decide_eq_true (by omega)]
   refine Ev.step (by intro k; simp only [spec_l1Cur_surePoset.j1]; rfl) (Ev.yes (show true = true from rfl) ?_)
   refine Ev.call e1 (Ev.call e2 (Ev.yes (by omega) ?_))
   rw [show wrap64 (((d + 1 : Nat) : Int) - 1) = (d : Int) by rw [wid (by omega) (by omega)]; omega]
   exact g1
theorem sure_ok {l : List Int} (hl : bytesL l) {B : Nat} {a : Int} (s : Int) {most : Nat} (h1 : 1 ≤ most) (h2 : most ≤ 10) (ha : cAt B a) (hB : B ≤ 10000) : ∃ p a' s', Ev (fun k => spec_l1Cur_surePoset.f k l a s (most : Int)) (p, a', s') ∧ 1 ≤ p.length ∧ p.length ≤ 10 ∧ wfL p ∧ cAt (B + 100) a' := by
 unfold spec_l1Cur_surePoset.f
 obtain ⟨c, a0, s0, e0, hc, c0, c1⟩ := cpick_ok hl s 5 ha (by omega)
 by_cases q0 : c = 0
 ·obtain ⟨x, a1, s1, e1, hx, x0, x1⟩ := cpick_ok hl s0 2 hc (by omega)
  obtain ⟨t, ht, t1, t5⟩ : ∃ t : Nat, spec_l1Most.f 1 (wrap64 (Int.tdiv (most : Int) 2)) = some (t : Int) ∧ 1 ≤ t ∧ t ≤ 5 := by
   have e : wrap64 (Int.tdiv (most : Int) 2) = ((most / 2 : Nat) : Int) := by
    rw [Int.tdiv_eq_ediv_of_nonneg (by omega), wid (by omega) (by omega)]; omega
   unfold spec_l1Most.f
   rw [e]
   by_cases h : (1 : Int) > ((most / 2 : Nat) : Int)
   ·rw [if_pos h]; exact ⟨1, rfl, by omega, by omega⟩
   ·rw [if_neg h]; exact ⟨most / 2, rfl, by omega, by omega⟩
  obtain ⟨y, a2, s2, e2, hy, y0, y1⟩ := cpick_ok hl s1 (t : Int) hx (by omega)
  obtain ⟨u, rfl⟩ := Int.eq_ofNat_of_zero_le x0
  obtain ⟨v, rfl⟩ := Int.eq_ofNat_of_zero_le y0
  have hk := List.all_eq_true.1 (List.all_eq_true.1 allPoRect u (List.mem_range.2 (by omega))) v (List.mem_range.2 (by omega))
  obtain ⟨p, g1, g2, g3, g4⟩ := okPo_parts hk
  refine ⟨p, a2, s2, Ev.call e0 (Ev.yes q0 (Ev.call e1 (Ev.call ht (Ev.call e2 ?_)))), g2, g3, g4, cAt_mono hy (by omega)⟩
  rw [show wrap64 (1 + (u : Int)) = (u : Int) + 1 by rw [wid (by omega) (by omega)]; omega, show wrap64 (1 + (v : Int)) = (v : Int) + 1 by rw [wid (by omega) (by omega)]; omega]
  exact Ev.bind (Ev.of (spec_poRectangle.mono _ _) g1) (Ev.now _)
 by_cases q1 : c = 1
 ·obtain ⟨x, a1, s1, e1, hx, x0, x1⟩ := cpick_ok hl s0 2 hc (by omega)
  obtain ⟨u, rfl⟩ := Int.eq_ofNat_of_zero_le x0
  have hk := List.all_eq_true.1 allPoStair u (List.mem_range.2 (by omega))
  obtain ⟨p, g1, g2, g3, g4⟩ := okPo_parts hk
  obtain ⟨⟨p2, b2⟩, g5, g6⟩ := Option.map_eq_some_iff.1 g1
  have g6 : p2 = p := g6
  subst g6
  refine ⟨p2, a1, s1, Ev.call e0 (Ev.no q0 (Ev.yes q1 (Ev.call e1 ?_))), g2, g3, g4, cAt_mono hx (by omega)⟩
  rw [show wrap64 (1 + (u : Int)) = (u : Int) + 1 by rw [wid (by omega) (by omega)]; omega]
  exact Ev.bind (Ev.of (spec_Staircase.mono _) g5) (Ev.now _)
 obtain ⟨x, a1, s1, e1, hx, x0, x1⟩ := cpick_ok hl s0 (most : Int) hc (by omega)
 obtain ⟨u, rfl⟩ := Int.eq_ofNat_of_zero_le x0
 have hu : u < 10 := by omega
 by_cases q2 : c = 2
 ·have hk := List.all_eq_true.1 allPoFence u (List.mem_range.2 hu)
  obtain ⟨p, g1, g2, g3, g4⟩ := okPo_parts hk
  obtain ⟨⟨p2, b2⟩, g5, g6⟩ := Option.map_eq_some_iff.1 g1
  have g6 : p2 = p := g6
  subst g6
  refine ⟨p2, a1, s1, Ev.call e0 (Ev.no q0 (Ev.no q1 (Ev.yes q2 (Ev.call e1 ?_)))), g2, g3, g4, cAt_mono hx (by omega)⟩
  rw [show wrap64 (1 + (u : Int)) = (u : Int) + 1 by rw [wid (by omega) (by omega)]; omega]
  exact Ev.bind (Ev.of (spec_Fence.mono _) g5) (Ev.now _)
 have hw : wrap64 (1 + (u : Int)) = ((u + 1 : Nat) : Int) := by rw [wid (by omega) (by omega)]; omega
 have hw2 : wrap64 (2 * (wrap64 (1 + (u : Int)))) = ((2 * (u + 1) : Nat) : Int) := by rw [hw, wid (by omega) (by omega)]; omega
 obtain ⟨y, a2, s2, e2, hy, y0, y1⟩ := cpick_ok hl s1 (wrap64 (2 * (wrap64 (1 + (u : Int))))) hx (by omega)
 rw [hw2] at y1
 obtain ⟨v, rfl⟩ := Int.eq_ofNat_of_zero_le y0
 obtain ⟨p, a', s', g1, g2, g3, g4⟩ := sure_loop hl (n := u + 1) (by omega) (by omega) v [] (B + 2 + 2 + 2) a2 s2 (by omega) (by simp; omega) ⟨by simp, fun c hc => by cases hc⟩ hy (by omega)
 refine ⟨p, a', s', Ev.call e0 (Ev.no q0 (Ev.no q1 (Ev.no q2 (Ev.call e1 (Ev.call e2 ?_))))), by omega, by omega, g3, cAt_mono g4 (by omega)⟩
 rw [hw]
 exact g1
theorem wfL_zeros {l : List Int} (hl : List Int) (h : wfL l) : wfL (l ++ [0]) := wfL_app h (fun x hx => by rw [List.mem_singleton.1 hx]; decide)
theorem zeros_run {l : List Int} (a s : Int) : ∀ d (x : Nat), x + d = 11 → ∀ p : List Int, p.length + d ≤ 1000 → wfL p → ∃ q, Ev (fun k => spec_l1Cur_poset.l0 k (x : Int) l a s p) (q, a, s) ∧ q.length = p.length + d ∧ wfL q
 | 0, x, hx, p, hp, hw => ⟨p, Ev.step (by intro k; simp only [spec_l1Cur_poset.l0]; rfl) (Ev.no (by omega) (Ev.now _)), rfl, hw⟩
 | d + 1, x, hx, p, hp, hw => by
  obtain ⟨q, g1, g2, g3⟩ := zeros_run a s d (x + 1) (by omega) (p ++ [0]) (by rw [List.length_append, List.length_singleton]; omega) (wfL_zeros [] hw)
  refine ⟨q, Ev.step (by intro k; simp only [spec_l1Cur_poset.l0]; rfl) (Ev.yes (by omega) (Ev.yes (by omega) ?_)), by rw [g2, List.length_append, List.length_singleton]; omega, g3⟩
  rw [show wrap64 ((x : Int) + 1) = ((x + 1 : Nat) : Int) by rw [wid (by omega) (by omega)]; omega]
  exact g1
theorem poset_ok {l : List Int} (hl : bytesL l) {B : Nat} {a : Int} (s : Int) {most : Nat} (h1 : 1 ≤ most) (h2 : most ≤ 10) (ha : cAt B a) (hB : B ≤ 10000) : ∃ p a' s', Ev (fun k => spec_l1Cur_poset.f k l a s (most : Int)) (p, a', s') ∧ p.length ≤ 21 ∧ wfL p ∧ cAt (B + 120) a' := by
 unfold spec_l1Cur_poset.f
 obtain ⟨p, a0, s0, e0, p1, p2, p3, hp⟩ := sure_ok hl s h1 h2 ha hB
 have hown : spec_l1Own.f p = some p := by
  unfold spec_l1Own.f
  rw [Option.bind_some, if_pos (by simp; omega), List.nil_append]
 obtain ⟨c, a1, s1, e1, hc, c0, c1⟩ := cpick_ok hl s0 20 hp (by omega)
 by_cases q0 : c = 0
 ·obtain ⟨x, a2, s2, e2, hx, x0, x1⟩ := cpick_ok hl s1 (p.length : Int) hc (by omega)
  obtain ⟨y, a3, s3, e3, hy, y1⟩ := among_ok hl s2 hx (by omega) (m := ([(-1), 1, 3, shl .i64 1 x, 4611686018427387904] : List Int)) (by simp)
  have hwf : (Lit.int .i64 y).wf = true := by
   simp only [List.mem_cons, List.mem_nil_iff, or_false] at y1
   rcases y1 with rfl | rfl | rfl | rfl | rfl
   ·decide
   ·decide
   ·decide
   ·exact wf_wrapI _
   ·decide
  refine ⟨p.set x.toNat y, a3, s3, Ev.bind e0 (Ev.call hown (Ev.call e1 (Ev.yes q0 (Ev.call e2 (Ev.yes x0 (Ev.call e3 (Ev.yes (by omega) (Ev.now _)))))))), by rw [List.length_set]; omega, wfL_set p3 hwf _, cAt_mono hy (by omega)⟩
 by_cases q1 : c = 1
 ·exact ⟨[], a1, s1, Ev.bind e0 (Ev.call hown (Ev.call e1 (Ev.no q0 (Ev.yes q1 (Ev.now _))))), by simp, (fun n hn => by cases hn), cAt_mono hc (by omega)⟩
 by_cases q2 : c = 2
 ·obtain ⟨q, g1, g2, g3⟩ := zeros_run (l := l) a1 s1 11 0 rfl p (by omega) p3
  exact ⟨q, a1, s1, Ev.bind e0 (Ev.call hown (Ev.call e1 (Ev.no q0 (Ev.no q1 (Ev.yes q2 g1))))), by omega, g3, cAt_mono hc (by omega)⟩
 ·exact ⟨p, a1, s1, Ev.bind e0 (Ev.call hown (Ev.call e1 (Ev.no q0 (Ev.no q1 (Ev.no q2 (Ev.now _)))))), by omega, p3, cAt_mono hc (by omega)⟩
end Go.Proofs.Ytmbojobkiainlaa.Q
end

section
namespace Go.Proofs.Ytmbojobkiainlaa.F
open Go.RowKit Go.Proofs.YtmbojobkiainlaaW.PrintWords Go.Proofs.YtmbojobkiainlaaW.PrintLast Go.Proofs.YtmbojobkiainlaaW.PrintMore
attribute [local go_sem] max2_int min2_int max_two min_two max_three min_three max_four min_four
set_option linter.unusedVariables false
set_option linter.unusedSimpArgs false
def spec_DrawLabelsBySumR.f (k : Nat) (s0_0 : List Int) (s0_1 : Int) (s0_2 : Int) : Option (List Int × Int × Int × Int) := (spec_l1Cur_poset.f k s0_0 s0_1 s0_2 6).bind fun bt1359 => ((spec_l1Cur_bound.f s0_0 bt1359.2.1 bt1359.2.2 3).bind fun bt1364 => (some (bt1359.1, bt1364.1, bt1364.2.1, bt1364.2.2)))
theorem spec_DrawLabelsBySumR.mono : ∀ a0 a1 a2 k, LeO (spec_DrawLabelsBySumR.f k a0 a1 a2) (spec_DrawLabelsBySumR.f (k + 1) a0 a1 a2) := by
 intro a0 a1 a2 k
 unfold spec_DrawLabelsBySumR.f
 repeat' first
  | (with_reducible exact spec_l1Cur_poset.mono _ _ _ _ _)
  | (with_reducible exact LeO.refl _)
  | (with_reducible exact LeO.none _)
  | (with_reducible refine LeO.ite ?_ ?_)
  | (with_reducible refine LeO.bind ?_ (fun _ => ?_))
  | exact spec_l1Cur_poset.mono _ _ _ _ _
  | exact LeO.none _
  | refine LeO.ite ?_ ?_
  | refine LeO.bind ?_ (fun _ => ?_)
def spec_DrawLabelsBySum.f (k : Nat) (l0 : List Int) : Option ((List Int) × (Int)) := (spec_DrawLabelsBySumR.f k l0 0 0).bind fun bt => some (bt.1, bt.2.1)
theorem spec_DrawLabelsBySum.mono : ∀ a0 k, LeO (spec_DrawLabelsBySum.f k a0) (spec_DrawLabelsBySum.f (k + 1) a0) := fun a0 k => LeO.bind (spec_DrawLabelsBySumR.mono _ _ _ _) (fun _ => LeO.refl _)
set_option maxHeartbeats 8000000 in
set_option maxRecDepth 100000 in
theorem spec_DrawLabelsBySum.calls (k : Nat) (A0 : Option Addr) (c0 : Nat) (l0 : List Int) (r1 : List Int) (r2 : Int) (w : World) (hr0 : Kd.C (Kd.int .u8) w A0 l0.length l0) (hc0 : l0.length ≤ c0) (hf : spec_DrawLabelsBySum.f k l0 = some (r1, r2)) :
 Calls Try.prog 47 #[.slice A0 l0.length c0] w fun e w' => ∃ v0_ : Value, e = .returned (.tuple #[.agg #[v0_], .int .i64 r2]) ∧ Kd.R (Kd.int .i64) 3 w' w.heap.size (fun _ => True) v0_ r1 ∧ Below w.heap.size w w' := by
 unfold spec_DrawLabelsBySum.f at hf
 obtain ⟨⟨r1_, r2_, r3, r4⟩, h, hf⟩ := Option.bind_eq_some_iff.1 hf
 have hf := Option.some.inj hf
 simp only [Prod.mk.injEq] at hf
 obtain ⟨hf0, hf1⟩ := hf
 replace hf0 := hf0.symm
 subst hf0
 replace hf1 := hf1.symm
 subst hf1
 have HR0 := am hr0
 have HC0 := am hc0
 clear hr0 hc0
 have hu26 := Try.underlying26
 have HL := am (Nat.le_refl w.heap.size)
 have HW0 := am (Nat.le_refl w.heap.size)
 have H : ((spec_l1Cur_poset.f k l0 0 0 6).bind fun bt1359 => ((spec_l1Cur_bound.f l0 bt1359.2.1 bt1359.2.2 3).bind fun bt1364 => (some (bt1359.1, bt1364.1, bt1364.2.1, bt1364.2.2)))) = some (r1, r2, r3, r4) := h
 clear h
 replace H := Option.bind_eq_some_iff.mp H
 obtain ⟨⟨t1359, t1362, t1363⟩, A20, H⟩ := H
 (try dsimp only at H)
 have A2 := am A20
 clear A20
 replace H := Option.bind_eq_some_iff.mp H
 obtain ⟨⟨t1364, t1365, t1366⟩, A30, H⟩ := H
 (try dsimp only at H)
 have A3 := am A30
 clear A30
 simp only [Option.some.injEq, Prod.mk.injEq] at H
 obtain ⟨rfl, rfl, rfl, rfl⟩ := H
 go_enter Try.func47, Try.ntmps47
 go_wp2_with (first | ((with_reducible refine gate_dst (N := 2) rfl ?_); refine qx (N := 2) (cs := #[.slice none 0 0]) (t := 26) ?_; intro gb1358 hg wA hbox hb; have BKa := am hbox; have GE1358 : Aside0 (w.heap.size ≤ gb1358) := ⟨by rw [hg]; exact Nat.le_refl _⟩; have HBa := am hb; have HLa : Aside0 (gb1358 < wA.heap.size) := ⟨blk_lt hbox⟩; clear hbox hb hg) | ((with_reducible refine gate_dst (N := 7) rfl ?_); refine qx (N := 7) (cs := #[.slice A0 l0.length c0, .int .i64 0, .int .u64 0]) (t := 67) ?_; intro g hg w1_ hbox hb; have HBb := am (HBa.out.trans (hb.mono HBa.out.size)); have hge : w.heap.size ≤ g := (by rw [hg]; exact HBa.out.size); have HI0 : Aside0 (IsS67 w w1_ g l0 0 0) := ⟨A0, c0, hbox, hge, HR0.out⟩; have BK1358 := am (blk_below BKa.out hb); have NB1358_0 : Aside0 (gb1358 ≠ g) := ⟨by rw [hg]; exact Nat.ne_of_lt HLa.out⟩; have NB0_1358 : Aside0 (g ≠ gb1358) := ⟨fun e => NB1358_0.out e.symm⟩; have GW1358 := GE1358; have HK := am (KeepBut.of_below HBb.out g none); have HB := HBb; clear hbox hb hge hg BKa HBa HLa HBb) | ((with_reducible refine gate_callee (f := 64) rfl ?_); refine gL (some 9) Try.func64 #[.pointer (some ⟨g, 0, none⟩), .int .i64 6] ?_; (with_reducible refine (spec_l1Cur_poset.calls k g l0 0 0 6 t1359 t1362 t1363 w _ ?side1 ?side2 A2.out).mono ?_); (case side1 => exact qI67); (case side2 => exact qB); rintro e w5 ⟨v1360, rfl, ho0, hi, hb, hk⟩; refine ⟨_, rfl, ?_⟩; replace BK1358 := am (KeepBut.blk hk (g' := gb1358) (o := .cells #[.slice none 0 0] 26 (0, 0)) (qb BK1358.out) NB1358_0.out (by simp)); have HO1361 := am (Kd.R_lower ho0 (keep_size (w := w) (g := g) (row := none) qK)); have n2_ := am (KeepBut.trans qK hk (.inl rfl)); have n3_ := am (hb); replace HI0 := am (hi); clear HK HB; have HK := n2_; have HB := n3_; clear n2_ n3_; (try clear hb); (try clear hb2); (try clear hk); (try clear hi); (try clear ho0)) | ((with_reducible refine gate_callee (f := 65) rfl ?_); refine gL (some 11) Try.func65 #[.pointer (some ⟨g, 0, none⟩), .int .i64 3] ?_; (with_reducible refine (spec_l1Cur_bound.calls g l0 t1362 t1363 3 t1364 t1365 t1366 w _ ?side1 ?side2 A3.out).mono ?_); (case side1 => exact qI67); (case side2 => exact qB); rintro e w6 ⟨rfl, hi, hb, hk⟩; refine ⟨_, rfl, ?_⟩; replace BK1358 := am (KeepBut.blk hk (g' := gb1358) (o := .cells #[.slice none 0 0] 26 (0, 0)) (qb BK1358.out) NB1358_0.out (by simp)); replace HO1361 := am (Kd.R_mono (Kd.R_keep (IsS67.apart (show IsS67 w _ g l0 t1362 t1363 from qI67) (qR HO1361.out) (by decide)) hk (fun _ h => h.2)) (fun _ h => h.1)); have n2_ := am (KeepBut.trans qK hk (.inl rfl)); have n3_ := am (hb); replace HI0 := am (hi); clear HK HB; have HK := n2_; have HB := n3_; clear n2_ n3_; (try clear hb); (try clear hb2); (try clear hk); (try clear hi); obtain ⟨Ao7, co7, eo7⟩ := Kd.R_slice HO1361.out; subst eo7; have hnb8 := NB1358_0.out; have hnc8 := NB0_1358.out; have hcz9_0 := qz w6 BK1358.out; have hfz9_0 := blk_frozen BK1358.out 0))
 refine bodyPost_ret (results_ct rfl _ _ gb1358 26 #[.slice Ao7 t1359.length co7] (0, 0) _ rfl (by (with_reducible repeat (first | refine blk_drewN ?_ _ | refine blk_drew ?_ | refine blk_alloc ?_ _)); refine blk_put (cs := #[.slice none 0 0]) ?_ 0 _ rfl; refine qb ?_; exact BK1358.out) Try.underlying26 rfl (by kernel_rfl)) rfl ?_
 exact ⟨_, qr, qR (Kd.R_mono (Kd.R_far (p := ⟨gb1358, 0, none⟩) (Kd.R_types HO1361.out BK1358.out (by decide)) (fun _ hk => hk.2) (.slice Ao7 t1359.length co7)) (fun _ hk => trivial)), qB⟩
mutual
def laws_FnBoxesOfLabels.j0 : Nat → List Int → Int → Int → Int → List Int → Bool → Int → Bool → Option (Bool)
 | 0, _, _, _, _, _, _, _, _ => none
 | k + 1, x1, x5, x6, x7, x8, x11, x12, x94 => if x94 = true then (some false) else ((spec_DrawLabelsBySum.f k x1).bind fun bt925 => ((impl_LabelsBySum.f k bt925.1 bt925.2).bind fun bt930 => ((spec_LabelsBySum.f k bt925.1 bt925.2).bind fun bt934 => (if (bt930.2 != bt934.2) = true then (laws_FnBoxesOfLabels.j1 k x5 x6 x7 x8 x11 x12 bt925.2 bt930.1 bt930.2 true bt925.1) else ((laws_oSame.f k bt930.1 bt934.1).bind fun t938 => (laws_FnBoxesOfLabels.j1 k x5 x6 x7 x8 x11 x12 bt925.2 bt930.1 bt930.2 (!t938) bt925.1))))))
def laws_FnBoxesOfLabels.j1 : Nat → Int → Int → Int → List Int → Bool → Int → Int → List Int → Bool → Bool → List Int → Option (Bool)
 | 0, _, _, _, _, _, _, _, _, _, _, _ => none
 | k + 1, x5, x6, x7, x8, x11, x12, x17, x18, x19, x120, x930000 => if x120 = true then (some false) else (if x19 = true then ((impl_CountLabels.f k x930000 x17).bind fun bt939 => (if bt939.2 = true then ((laws_oSum.f k x18).bind fun t941 => (if t941 = bt939.1 then (laws_FnBoxesOfLabels.j2 k x5 x6 x7 x8 x11 x12) else (some false))) else (some false))) else (laws_FnBoxesOfLabels.j2 k x5 x6 x7 x8 x11 x12))
def laws_FnBoxesOfLabels.j2 : Nat → Int → Int → Int → List Int → Bool → Int → Option (Bool)
 | 0, _, _, _, _, _, _ => none
 | k + 1, x5, x6, x7, x8, x11, x12 => if x11 = true then ((impl_Rectangle.f k x5 x6).bind fun bt942 => ((impl_CountLabels.f k bt942.1 x7).bind fun bt947 => ((impl_BoxBySum.f k x6 x5 x7).bind fun bt949 => ((impl_LabelsBySum.f k bt942.1 x7).bind fun bt953 => (if bt942.2 = true then (if bt947.2 = true then (if bt949.2 = true then (if bt947.1 = x12 then ((laws_oSum.f k x8).bind fun t957 => (if t957 = x12 then ((laws_oSame.f k bt949.1 x8).bind fun t958 => (if t958 = true then (if bt953.2 = true then ((laws_oSame.f k bt953.1 x8).bind fun t959 => (laws_FnBoxesOfLabels.j3 k x8 (!t959))) else (laws_FnBoxesOfLabels.j3 k x8 false)) else (laws_FnBoxesOfLabels.j3 k x8 true))) else (laws_FnBoxesOfLabels.j3 k x8 true))) else (laws_FnBoxesOfLabels.j3 k x8 true)) else (laws_FnBoxesOfLabels.j3 k x8 true)) else (laws_FnBoxesOfLabels.j3 k x8 true)) else (laws_FnBoxesOfLabels.j3 k x8 true)))))) else (some true)
def laws_FnBoxesOfLabels.j3 : Nat → List Int → Bool → Option (Bool)
 | 0, _, _ => none
 | k + 1, x8, x198 => if x198 = true then (some false) else (laws_FnBoxesOfLabels.l0 k x8 x8 (x8.length : Int) 0)
def laws_FnBoxesOfLabels.l0 : Nat → List Int → List Int → Int → Int → Option (Bool)
 | 0, _, _, _, _ => none
 | k + 1, x8, x199, x200, x201 => if x201 < x200 then (if 0 ≤ x201 then (if x201 < (x199.length : Int) then (if 0 ≤ (wrap64 ((wrap64 ((x8.length : Int) - 1)) - x201)) then (if (wrap64 ((wrap64 ((x8.length : Int) - 1)) - x201)) < (x8.length : Int) then (if (rd x8 (wrap64 ((wrap64 ((x8.length : Int) - 1)) - x201))) = (rd x199 x201) then (laws_FnBoxesOfLabels.l0 k x8 x199 x200 (wrap64 (x201 + 1))) else (some false)) else (none)) else (none)) else (none)) else (none)) else (some true)
end
def laws_FnBoxesOfLabels.f (k : Nat) (l0 : List Int) (l1 : List Int) : Option (Bool) := (laws_big.f l0 l1).bind fun t908 => (if t908 = true then (some true) else ((spec_DrawBoxBySum.f k l0).bind fun bt909 => ((impl_BoxBySum.f k bt909.1 bt909.2.1 bt909.2.2).bind fun bt912 => ((spec_BoxBySum.f k bt909.1 bt909.2.1 bt909.2.2).bind fun bt916 => ((impl_BoxCount.f k bt909.1 bt909.2.1 bt909.2.2).bind fun bt920 => ((spec_BoxCount.f k bt909.1 bt909.2.1 bt909.2.2).bind fun bt922 => (if (bt912.2 != bt916.2) = true then (laws_FnBoxesOfLabels.j0 k l1 bt909.1 bt909.2.1 bt909.2.2 bt912.1 bt916.2 bt920.1 true) else ((laws_oSame.f k bt912.1 bt916.1).bind fun t924 => (if t924 = true then (if (bt920.2 != bt922.2) = true then (laws_FnBoxesOfLabels.j0 k l1 bt909.1 bt909.2.1 bt909.2.2 bt912.1 bt916.2 bt920.1 true) else (if bt920.1 = bt922.1 then (laws_FnBoxesOfLabels.j0 k l1 bt909.1 bt909.2.1 bt909.2.2 bt912.1 bt916.2 bt920.1 (bt920.2 != bt912.2)) else (laws_FnBoxesOfLabels.j0 k l1 bt909.1 bt909.2.1 bt909.2.2 bt912.1 bt916.2 bt920.1 true))) else (laws_FnBoxesOfLabels.j0 k l1 bt909.1 bt909.2.1 bt909.2.2 bt912.1 bt916.2 bt920.1 true))))))))))
theorem laws_FnBoxesOfLabels.mono_l : ∀ k, (∀ y0 y1 y2 y3 y4 y5 y6 y7, LeO (laws_FnBoxesOfLabels.j0 k y0 y1 y2 y3 y4 y5 y6 y7) (laws_FnBoxesOfLabels.j0 (k + 1) y0 y1 y2 y3 y4 y5 y6 y7)) ∧ (∀ y0 y1 y2 y3 y4 y5 y6 y7 y8 y9 y10, LeO (laws_FnBoxesOfLabels.j1 k y0 y1 y2 y3 y4 y5 y6 y7 y8 y9 y10) (laws_FnBoxesOfLabels.j1 (k + 1) y0 y1 y2 y3 y4 y5 y6 y7 y8 y9 y10)) ∧ (∀ y0 y1 y2 y3 y4 y5, LeO (laws_FnBoxesOfLabels.j2 k y0 y1 y2 y3 y4 y5) (laws_FnBoxesOfLabels.j2 (k + 1) y0 y1 y2 y3 y4 y5)) ∧ (∀ y0 y1, LeO (laws_FnBoxesOfLabels.j3 k y0 y1) (laws_FnBoxesOfLabels.j3 (k + 1) y0 y1)) ∧ (∀ y0 y1 y2 y3, LeO (laws_FnBoxesOfLabels.l0 k y0 y1 y2 y3) (laws_FnBoxesOfLabels.l0 (k + 1) y0 y1 y2 y3))
 | 0 => ⟨fun _ _ _ _ _ _ _ _ r h => by simp [laws_FnBoxesOfLabels.j0] at h, fun _ _ _ _ _ _ _ _ _ _ _ r h => by simp [laws_FnBoxesOfLabels.j1] at h, fun _ _ _ _ _ _ r h => by simp [laws_FnBoxesOfLabels.j2] at h, fun _ _ r h => by simp [laws_FnBoxesOfLabels.j3] at h, fun _ _ _ _ r h => by simp [laws_FnBoxesOfLabels.l0] at h⟩
 | k + 1 => by
  obtain ⟨ih0, ih1, ih2, ih3, ih4⟩ := laws_FnBoxesOfLabels.mono_l k
  refine ⟨?_, ?_, ?_, ?_, ?_⟩
  ·intro y0 y1 y2 y3 y4 y5 y6 y7
   unfold laws_FnBoxesOfLabels.j0
   repeat' first
   | (with_reducible exact impl_BoxBySum.mono _ _ _ _)
   | (with_reducible exact impl_BoxCount.mono _ _ _ _)
   | (with_reducible exact impl_CountLabels.mono _ _ _)
   | (with_reducible exact impl_LabelsBySum.mono _ _ _)
   | (with_reducible exact impl_Rectangle.mono _ _ _)
   | (with_reducible exact laws_oSame.mono _ _ _)
   | (with_reducible exact laws_oSum.mono _ _)
   | (with_reducible exact spec_BoxBySum.mono _ _ _ _)
   | (with_reducible exact spec_BoxCount.mono _ _ _ _)
   | (with_reducible exact spec_DrawBoxBySum.mono _ _)
   | (with_reducible exact spec_DrawLabelsBySum.mono _ _)
   | (with_reducible exact spec_LabelsBySum.mono _ _ _)
   | (with_reducible exact LeO.refl _)
   | (with_reducible exact LeO.none _)
   | (with_reducible refine LeO.ite ?_ ?_)
   | (with_reducible refine LeO.bind ?_ (fun _ => ?_))
   | exact ih0 _ _ _ _ _ _ _ _
   | exact ih1 _ _ _ _ _ _ _ _ _ _ _
   | exact ih2 _ _ _ _ _ _
   | exact ih3 _ _
   | exact ih4 _ _ _ _
   | exact impl_BoxBySum.mono _ _ _ _
   | exact impl_BoxCount.mono _ _ _ _
   | exact impl_CountLabels.mono _ _ _
   | exact impl_LabelsBySum.mono _ _ _
   | exact impl_Rectangle.mono _ _ _
   | exact laws_oSame.mono _ _ _
   | exact laws_oSum.mono _ _
   | exact spec_BoxBySum.mono _ _ _ _
   | exact spec_BoxCount.mono _ _ _ _
   | exact spec_DrawBoxBySum.mono _ _
   | exact spec_DrawLabelsBySum.mono _ _
   | exact spec_LabelsBySum.mono _ _ _
   | exact LeO.none _
   | refine LeO.ite ?_ ?_
   | refine LeO.bind ?_ (fun _ => ?_)
  ·intro y0 y1 y2 y3 y4 y5 y6 y7 y8 y9 y10
   unfold laws_FnBoxesOfLabels.j1
   repeat' first
   | (with_reducible exact impl_BoxBySum.mono _ _ _ _)
   | (with_reducible exact impl_BoxCount.mono _ _ _ _)
   | (with_reducible exact impl_CountLabels.mono _ _ _)
   | (with_reducible exact impl_LabelsBySum.mono _ _ _)
   | (with_reducible exact impl_Rectangle.mono _ _ _)
   | (with_reducible exact laws_oSame.mono _ _ _)
   | (with_reducible exact laws_oSum.mono _ _)
   | (with_reducible exact spec_BoxBySum.mono _ _ _ _)
   | (with_reducible exact spec_BoxCount.mono _ _ _ _)
   | (with_reducible exact spec_DrawBoxBySum.mono _ _)
   | (with_reducible exact spec_DrawLabelsBySum.mono _ _)
   | (with_reducible exact spec_LabelsBySum.mono _ _ _)
   | (with_reducible exact LeO.refl _)
   | (with_reducible exact LeO.none _)
   | (with_reducible refine LeO.ite ?_ ?_)
   | (with_reducible refine LeO.bind ?_ (fun _ => ?_))
   | exact ih0 _ _ _ _ _ _ _ _
   | exact ih1 _ _ _ _ _ _ _ _ _ _ _
   | exact ih2 _ _ _ _ _ _
   | exact ih3 _ _
   | exact ih4 _ _ _ _
   | exact impl_BoxBySum.mono _ _ _ _
   | exact impl_BoxCount.mono _ _ _ _
   | exact impl_CountLabels.mono _ _ _
   | exact impl_LabelsBySum.mono _ _ _
   | exact impl_Rectangle.mono _ _ _
   | exact laws_oSame.mono _ _ _
   | exact laws_oSum.mono _ _
   | exact spec_BoxBySum.mono _ _ _ _
   | exact spec_BoxCount.mono _ _ _ _
   | exact spec_DrawBoxBySum.mono _ _
   | exact spec_DrawLabelsBySum.mono _ _
   | exact spec_LabelsBySum.mono _ _ _
   | exact LeO.none _
   | refine LeO.ite ?_ ?_
   | refine LeO.bind ?_ (fun _ => ?_)
  ·intro y0 y1 y2 y3 y4 y5
   unfold laws_FnBoxesOfLabels.j2
   repeat' first
   | (with_reducible exact impl_BoxBySum.mono _ _ _ _)
   | (with_reducible exact impl_BoxCount.mono _ _ _ _)
   | (with_reducible exact impl_CountLabels.mono _ _ _)
   | (with_reducible exact impl_LabelsBySum.mono _ _ _)
   | (with_reducible exact impl_Rectangle.mono _ _ _)
   | (with_reducible exact laws_oSame.mono _ _ _)
   | (with_reducible exact laws_oSum.mono _ _)
   | (with_reducible exact spec_BoxBySum.mono _ _ _ _)
   | (with_reducible exact spec_BoxCount.mono _ _ _ _)
   | (with_reducible exact spec_DrawBoxBySum.mono _ _)
   | (with_reducible exact spec_DrawLabelsBySum.mono _ _)
   | (with_reducible exact spec_LabelsBySum.mono _ _ _)
   | (with_reducible exact LeO.refl _)
   | (with_reducible exact LeO.none _)
   | (with_reducible refine LeO.ite ?_ ?_)
   | (with_reducible refine LeO.bind ?_ (fun _ => ?_))
   | exact ih0 _ _ _ _ _ _ _ _
   | exact ih1 _ _ _ _ _ _ _ _ _ _ _
   | exact ih2 _ _ _ _ _ _
   | exact ih3 _ _
   | exact ih4 _ _ _ _
   | exact impl_BoxBySum.mono _ _ _ _
   | exact impl_BoxCount.mono _ _ _ _
   | exact impl_CountLabels.mono _ _ _
   | exact impl_LabelsBySum.mono _ _ _
   | exact impl_Rectangle.mono _ _ _
   | exact laws_oSame.mono _ _ _
   | exact laws_oSum.mono _ _
   | exact spec_BoxBySum.mono _ _ _ _
   | exact spec_BoxCount.mono _ _ _ _
   | exact spec_DrawBoxBySum.mono _ _
   | exact spec_DrawLabelsBySum.mono _ _
   | exact spec_LabelsBySum.mono _ _ _
   | exact LeO.none _
   | refine LeO.ite ?_ ?_
   | refine LeO.bind ?_ (fun _ => ?_)
  ·intro y0 y1
   unfold laws_FnBoxesOfLabels.j3
   repeat' first
   | (with_reducible exact impl_BoxBySum.mono _ _ _ _)
   | (with_reducible exact impl_BoxCount.mono _ _ _ _)
   | (with_reducible exact impl_CountLabels.mono _ _ _)
   | (with_reducible exact impl_LabelsBySum.mono _ _ _)
   | (with_reducible exact impl_Rectangle.mono _ _ _)
   | (with_reducible exact laws_oSame.mono _ _ _)
   | (with_reducible exact laws_oSum.mono _ _)
   | (with_reducible exact spec_BoxBySum.mono _ _ _ _)
   | (with_reducible exact spec_BoxCount.mono _ _ _ _)
   | (with_reducible exact spec_DrawBoxBySum.mono _ _)
   | (with_reducible exact spec_DrawLabelsBySum.mono _ _)
   | (with_reducible exact spec_LabelsBySum.mono _ _ _)
   | (with_reducible exact LeO.refl _)
   | (with_reducible exact LeO.none _)
   | (with_reducible refine LeO.ite ?_ ?_)
   | (with_reducible refine LeO.bind ?_ (fun _ => ?_))
   | exact ih0 _ _ _ _ _ _ _ _
   | exact ih1 _ _ _ _ _ _ _ _ _ _ _
   | exact ih2 _ _ _ _ _ _
   | exact ih3 _ _
   | exact ih4 _ _ _ _
   | exact impl_BoxBySum.mono _ _ _ _
   | exact impl_BoxCount.mono _ _ _ _
   | exact impl_CountLabels.mono _ _ _
   | exact impl_LabelsBySum.mono _ _ _
   | exact impl_Rectangle.mono _ _ _
   | exact laws_oSame.mono _ _ _
   | exact laws_oSum.mono _ _
   | exact spec_BoxBySum.mono _ _ _ _
   | exact spec_BoxCount.mono _ _ _ _
   | exact spec_DrawBoxBySum.mono _ _
   | exact spec_DrawLabelsBySum.mono _ _
   | exact spec_LabelsBySum.mono _ _ _
   | exact LeO.none _
   | refine LeO.ite ?_ ?_
   | refine LeO.bind ?_ (fun _ => ?_)
  ·intro y0 y1 y2 y3
   unfold laws_FnBoxesOfLabels.l0
   repeat' first
   | (with_reducible exact impl_BoxBySum.mono _ _ _ _)
   | (with_reducible exact impl_BoxCount.mono _ _ _ _)
   | (with_reducible exact impl_CountLabels.mono _ _ _)
   | (with_reducible exact impl_LabelsBySum.mono _ _ _)
   | (with_reducible exact impl_Rectangle.mono _ _ _)
   | (with_reducible exact laws_oSame.mono _ _ _)
   | (with_reducible exact laws_oSum.mono _ _)
   | (with_reducible exact spec_BoxBySum.mono _ _ _ _)
   | (with_reducible exact spec_BoxCount.mono _ _ _ _)
   | (with_reducible exact spec_DrawBoxBySum.mono _ _)
   | (with_reducible exact spec_DrawLabelsBySum.mono _ _)
   | (with_reducible exact spec_LabelsBySum.mono _ _ _)
   | (with_reducible exact LeO.refl _)
   | (with_reducible exact LeO.none _)
   | (with_reducible refine LeO.ite ?_ ?_)
   | (with_reducible refine LeO.bind ?_ (fun _ => ?_))
   | exact ih0 _ _ _ _ _ _ _ _
   | exact ih1 _ _ _ _ _ _ _ _ _ _ _
   | exact ih2 _ _ _ _ _ _
   | exact ih3 _ _
   | exact ih4 _ _ _ _
   | exact impl_BoxBySum.mono _ _ _ _
   | exact impl_BoxCount.mono _ _ _ _
   | exact impl_CountLabels.mono _ _ _
   | exact impl_LabelsBySum.mono _ _ _
   | exact impl_Rectangle.mono _ _ _
   | exact laws_oSame.mono _ _ _
   | exact laws_oSum.mono _ _
   | exact spec_BoxBySum.mono _ _ _ _
   | exact spec_BoxCount.mono _ _ _ _
   | exact spec_DrawBoxBySum.mono _ _
   | exact spec_DrawLabelsBySum.mono _ _
   | exact spec_LabelsBySum.mono _ _ _
   | exact LeO.none _
   | refine LeO.ite ?_ ?_
   | refine LeO.bind ?_ (fun _ => ?_)
theorem laws_FnBoxesOfLabels.mono : ∀ a0 a1 k, LeO (laws_FnBoxesOfLabels.f k a0 a1) (laws_FnBoxesOfLabels.f (k + 1) a0 a1) := by
 intro a0 a1 k
 obtain ⟨ih0, ih1, ih2, ih3, ih4⟩ := laws_FnBoxesOfLabels.mono_l k
 unfold laws_FnBoxesOfLabels.f
 repeat' first
  | (with_reducible exact impl_BoxBySum.mono _ _ _ _)
  | (with_reducible exact impl_BoxCount.mono _ _ _ _)
  | (with_reducible exact impl_CountLabels.mono _ _ _)
  | (with_reducible exact impl_LabelsBySum.mono _ _ _)
  | (with_reducible exact impl_Rectangle.mono _ _ _)
  | (with_reducible exact laws_oSame.mono _ _ _)
  | (with_reducible exact laws_oSum.mono _ _)
  | (with_reducible exact spec_BoxBySum.mono _ _ _ _)
  | (with_reducible exact spec_BoxCount.mono _ _ _ _)
  | (with_reducible exact spec_DrawBoxBySum.mono _ _)
  | (with_reducible exact spec_DrawLabelsBySum.mono _ _)
  | (with_reducible exact spec_LabelsBySum.mono _ _ _)
  | (with_reducible exact LeO.refl _)
  | (with_reducible exact LeO.none _)
  | (with_reducible refine LeO.ite ?_ ?_)
  | (with_reducible refine LeO.bind ?_ (fun _ => ?_))
  | exact ih0 _ _ _ _ _ _ _ _
  | exact ih1 _ _ _ _ _ _ _ _ _ _ _
  | exact ih2 _ _ _ _ _ _
  | exact ih3 _ _
  | exact ih4 _ _ _ _
  | exact impl_BoxBySum.mono _ _ _ _
  | exact impl_BoxCount.mono _ _ _ _
  | exact impl_CountLabels.mono _ _ _
  | exact impl_LabelsBySum.mono _ _ _
  | exact impl_Rectangle.mono _ _ _
  | exact laws_oSame.mono _ _ _
  | exact laws_oSum.mono _ _
  | exact spec_BoxBySum.mono _ _ _ _
  | exact spec_BoxCount.mono _ _ _ _
  | exact spec_DrawBoxBySum.mono _ _
  | exact spec_DrawLabelsBySum.mono _ _
  | exact spec_LabelsBySum.mono _ _ _
  | exact LeO.none _
  | refine LeO.ite ?_ ?_
  | refine LeO.bind ?_ (fun _ => ?_)
set_option maxHeartbeats 8000000 in
set_option maxRecDepth 100000 in
theorem laws_FnBoxesOfLabels.calls (k : Nat) (A0 : Option Addr) (c0 : Nat) (l0 : List Int) (A1 : Option Addr) (c1 : Nat) (l1 : List Int) (r : Bool) (w : World) (hr0 : Kd.C (Kd.int .u8) w A0 l0.length l0) (hc0 : l0.length ≤ c0) (hr1 : Kd.C (Kd.int .u8) w A1 l1.length l1) (hc1 : l1.length ≤ c1) (h : laws_FnBoxesOfLabels.f k l0 l1 = some r) :
 Calls Try.prog 5 #[.slice A0 l0.length c0, .slice A1 l1.length c1] w fun e w' => e = .returned (.bool r) ∧ Below w.heap.size w w' := by
 have hu26 := Try.underlying26
 have HR0 := am hr0
 have HC0 := am hc0
 clear hr0 hc0
 have HR1 := am hr1
 have HC1 := am hc1
 clear hr1 hc1
 have HB := am (Below.refl w.heap.size w)
 have H : ((laws_big.f l0 l1).bind fun t908 => (if t908 = true then (some true) else ((spec_DrawBoxBySum.f k l0).bind fun bt909 => ((impl_BoxBySum.f k bt909.1 bt909.2.1 bt909.2.2).bind fun bt912 => ((spec_BoxBySum.f k bt909.1 bt909.2.1 bt909.2.2).bind fun bt916 => ((impl_BoxCount.f k bt909.1 bt909.2.1 bt909.2.2).bind fun bt920 => ((spec_BoxCount.f k bt909.1 bt909.2.1 bt909.2.2).bind fun bt922 => (if (bt912.2 != bt916.2) = true then (laws_FnBoxesOfLabels.j0 k l1 bt909.1 bt909.2.1 bt909.2.2 bt912.1 bt916.2 bt920.1 true) else ((laws_oSame.f k bt912.1 bt916.1).bind fun t924 => (if t924 = true then (if (bt920.2 != bt922.2) = true then (laws_FnBoxesOfLabels.j0 k l1 bt909.1 bt909.2.1 bt909.2.2 bt912.1 bt916.2 bt920.1 true) else (if bt920.1 = bt922.1 then (laws_FnBoxesOfLabels.j0 k l1 bt909.1 bt909.2.1 bt909.2.2 bt912.1 bt916.2 bt920.1 (bt920.2 != bt912.2)) else (laws_FnBoxesOfLabels.j0 k l1 bt909.1 bt909.2.1 bt909.2.2 bt912.1 bt916.2 bt920.1 true))) else (laws_FnBoxesOfLabels.j0 k l1 bt909.1 bt909.2.1 bt909.2.2 bt912.1 bt916.2 bt920.1 true))))))))))) = some r := h
 clear h
 replace H := Option.bind_eq_some_iff.mp H
 obtain ⟨t908, A30, H⟩ := H
 replace H : (if t908 = true then (some true) else ((spec_DrawBoxBySum.f k l0).bind fun bt909 => ((impl_BoxBySum.f k bt909.1 bt909.2.1 bt909.2.2).bind fun bt912 => ((spec_BoxBySum.f k bt909.1 bt909.2.1 bt909.2.2).bind fun bt916 => ((impl_BoxCount.f k bt909.1 bt909.2.1 bt909.2.2).bind fun bt920 => ((spec_BoxCount.f k bt909.1 bt909.2.1 bt909.2.2).bind fun bt922 => (if (bt912.2 != bt916.2) = true then (laws_FnBoxesOfLabels.j0 k l1 bt909.1 bt909.2.1 bt909.2.2 bt912.1 bt916.2 bt920.1 true) else ((laws_oSame.f k bt912.1 bt916.1).bind fun t924 => (if t924 = true then (if (bt920.2 != bt922.2) = true then (laws_FnBoxesOfLabels.j0 k l1 bt909.1 bt909.2.1 bt909.2.2 bt912.1 bt916.2 bt920.1 true) else (if bt920.1 = bt922.1 then (laws_FnBoxesOfLabels.j0 k l1 bt909.1 bt909.2.1 bt909.2.2 bt912.1 bt916.2 bt920.1 (bt920.2 != bt912.2)) else (laws_FnBoxesOfLabels.j0 k l1 bt909.1 bt909.2.1 bt909.2.2 bt912.1 bt916.2 bt920.1 true))) else (laws_FnBoxesOfLabels.j0 k l1 bt909.1 bt909.2.1 bt909.2.2 bt912.1 bt916.2 bt920.1 true)))))))))) = some r := H
 have A3 := am A30
 clear A30
 by_cases c4 : t908 = true
 ·subst c4
  have H1 : (some true) = some r := by rw [if_pos rfl] at H; exact H
  clear H
  have H := H1
  clear H1
  obtain rfl := Option.some.inj H
  go_enter Try.func5, Try.ntmps5
  go_wp2_with (((with_reducible refine gate_callee (f := 7) rfl ?_); refine gL (some 36) Try.func7 #[.slice A0 l0.length c0, .slice A1 l1.length c1] ?_; (with_reducible refine (laws_big.calls _ _ l0 _ _ l1 true _ ?side1 ?side2 ?side3 ?side4 A3.out).mono ?_); (case side1 => exact qC HR0.out); (case side2 => exact HC0.out); (case side3 => exact qC HR1.out); (case side4 => exact HC1.out); rintro e w' ⟨rfl, ⟨nd, rfl⟩⟩; refine ⟨_, rfl, ?_⟩))
  go_ret
  exact ⟨qr, qB⟩
 ·as_aux_lemma =>
    replace c4 := Bool.eq_false_iff.mpr c4
    subst c4
    have H1 : ((spec_DrawBoxBySum.f k l0).bind fun bt909 => ((impl_BoxBySum.f k bt909.1 bt909.2.1 bt909.2.2).bind fun bt912 => ((spec_BoxBySum.f k bt909.1 bt909.2.1 bt909.2.2).bind fun bt916 => ((impl_BoxCount.f k bt909.1 bt909.2.1 bt909.2.2).bind fun bt920 => ((spec_BoxCount.f k bt909.1 bt909.2.1 bt909.2.2).bind fun bt922 => (if (bt912.2 != bt916.2) = true then (laws_FnBoxesOfLabels.j0 k l1 bt909.1 bt909.2.1 bt909.2.2 bt912.1 bt916.2 bt920.1 true) else ((laws_oSame.f k bt912.1 bt916.1).bind fun t924 => (if t924 = true then (if (bt920.2 != bt922.2) = true then (laws_FnBoxesOfLabels.j0 k l1 bt909.1 bt909.2.1 bt909.2.2 bt912.1 bt916.2 bt920.1 true) else (if bt920.1 = bt922.1 then (laws_FnBoxesOfLabels.j0 k l1 bt909.1 bt909.2.1 bt909.2.2 bt912.1 bt916.2 bt920.1 (bt920.2 != bt912.2)) else (laws_FnBoxesOfLabels.j0 k l1 bt909.1 bt909.2.1 bt909.2.2 bt912.1 bt916.2 bt920.1 true))) else (laws_FnBoxesOfLabels.j0 k l1 bt909.1 bt909.2.1 bt909.2.2 bt912.1 bt916.2 bt920.1 true))))))))) = some r := by rw [if_neg (show ¬ (false = true) by decide)] at H; exact H
    clear H
    have H := H1
    clear H1
    replace H := Option.bind_eq_some_iff.mp H
    obtain ⟨⟨t909, t910, t911⟩, A50, H⟩ := H
    replace H : ((impl_BoxBySum.f k t909 t910 t911).bind fun bt912 => ((spec_BoxBySum.f k t909 t910 t911).bind fun bt916 => ((impl_BoxCount.f k t909 t910 t911).bind fun bt920 => ((spec_BoxCount.f k t909 t910 t911).bind fun bt922 => (if (bt912.2 != bt916.2) = true then (laws_FnBoxesOfLabels.j0 k l1 t909 t910 t911 bt912.1 bt916.2 bt920.1 true) else ((laws_oSame.f k bt912.1 bt916.1).bind fun t924 => (if t924 = true then (if (bt920.2 != bt922.2) = true then (laws_FnBoxesOfLabels.j0 k l1 t909 t910 t911 bt912.1 bt916.2 bt920.1 true) else (if bt920.1 = bt922.1 then (laws_FnBoxesOfLabels.j0 k l1 t909 t910 t911 bt912.1 bt916.2 bt920.1 (bt920.2 != bt912.2)) else (laws_FnBoxesOfLabels.j0 k l1 t909 t910 t911 bt912.1 bt916.2 bt920.1 true))) else (laws_FnBoxesOfLabels.j0 k l1 t909 t910 t911 bt912.1 bt916.2 bt920.1 true)))))))) = some r := H
    have A5 := am A50
    clear A50
    replace H := Option.bind_eq_some_iff.mp H
    obtain ⟨⟨t912, t913⟩, A60, H⟩ := H
    replace H : ((spec_BoxBySum.f k t909 t910 t911).bind fun bt916 => ((impl_BoxCount.f k t909 t910 t911).bind fun bt920 => ((spec_BoxCount.f k t909 t910 t911).bind fun bt922 => (if (t913 != bt916.2) = true then (laws_FnBoxesOfLabels.j0 k l1 t909 t910 t911 t912 bt916.2 bt920.1 true) else ((laws_oSame.f k t912 bt916.1).bind fun t924 => (if t924 = true then (if (bt920.2 != bt922.2) = true then (laws_FnBoxesOfLabels.j0 k l1 t909 t910 t911 t912 bt916.2 bt920.1 true) else (if bt920.1 = bt922.1 then (laws_FnBoxesOfLabels.j0 k l1 t909 t910 t911 t912 bt916.2 bt920.1 (bt920.2 != t913)) else (laws_FnBoxesOfLabels.j0 k l1 t909 t910 t911 t912 bt916.2 bt920.1 true))) else (laws_FnBoxesOfLabels.j0 k l1 t909 t910 t911 t912 bt916.2 bt920.1 true))))))) = some r := H
    have A6 := am A60
    clear A60
    replace H := Option.bind_eq_some_iff.mp H
    obtain ⟨⟨t916, t917⟩, A70, H⟩ := H
    replace H : ((impl_BoxCount.f k t909 t910 t911).bind fun bt920 => ((spec_BoxCount.f k t909 t910 t911).bind fun bt922 => (if (t913 != t917) = true then (laws_FnBoxesOfLabels.j0 k l1 t909 t910 t911 t912 t917 bt920.1 true) else ((laws_oSame.f k t912 t916).bind fun t924 => (if t924 = true then (if (bt920.2 != bt922.2) = true then (laws_FnBoxesOfLabels.j0 k l1 t909 t910 t911 t912 t917 bt920.1 true) else (if bt920.1 = bt922.1 then (laws_FnBoxesOfLabels.j0 k l1 t909 t910 t911 t912 t917 bt920.1 (bt920.2 != t913)) else (laws_FnBoxesOfLabels.j0 k l1 t909 t910 t911 t912 t917 bt920.1 true))) else (laws_FnBoxesOfLabels.j0 k l1 t909 t910 t911 t912 t917 bt920.1 true)))))) = some r := H
    have A7 := am A70
    clear A70
    replace H := Option.bind_eq_some_iff.mp H
    obtain ⟨⟨t920, t921⟩, A80, H⟩ := H
    replace H : ((spec_BoxCount.f k t909 t910 t911).bind fun bt922 => (if (t913 != t917) = true then (laws_FnBoxesOfLabels.j0 k l1 t909 t910 t911 t912 t917 t920 true) else ((laws_oSame.f k t912 t916).bind fun t924 => (if t924 = true then (if (t921 != bt922.2) = true then (laws_FnBoxesOfLabels.j0 k l1 t909 t910 t911 t912 t917 t920 true) else (if t920 = bt922.1 then (laws_FnBoxesOfLabels.j0 k l1 t909 t910 t911 t912 t917 t920 (t921 != t913)) else (laws_FnBoxesOfLabels.j0 k l1 t909 t910 t911 t912 t917 t920 true))) else (laws_FnBoxesOfLabels.j0 k l1 t909 t910 t911 t912 t917 t920 true))))) = some r := H
    have A8 := am A80
    clear A80
    replace H := Option.bind_eq_some_iff.mp H
    obtain ⟨⟨t922, t923⟩, A90, H⟩ := H
    replace H : (if (t913 != t917) = true then (laws_FnBoxesOfLabels.j0 k l1 t909 t910 t911 t912 t917 t920 true) else ((laws_oSame.f k t912 t916).bind fun t924 => (if t924 = true then (if (t921 != t923) = true then (laws_FnBoxesOfLabels.j0 k l1 t909 t910 t911 t912 t917 t920 true) else (if t920 = t922 then (laws_FnBoxesOfLabels.j0 k l1 t909 t910 t911 t912 t917 t920 (t921 != t913)) else (laws_FnBoxesOfLabels.j0 k l1 t909 t910 t911 t912 t917 t920 true))) else (laws_FnBoxesOfLabels.j0 k l1 t909 t910 t911 t912 t917 t920 true)))) = some r := H
    have A9 := am A90
    clear A90
    have HC10 := am H
    clear H
    go_enter Try.func5, Try.ntmps5
    go_upto_region 8 with (first | ((with_reducible refine gate_callee (f := 7) rfl ?_); refine gL (some 36) Try.func7 #[.slice A0 l0.length c0, .slice A1 l1.length c1] ?_; (with_reducible refine (laws_big.calls _ _ l0 _ _ l1 false _ ?side1 ?side2 ?side3 ?side4 A3.out).mono ?_); (case side1 => exact qC HR0.out); (case side2 => exact HC0.out); (case side3 => exact qC HR1.out); (case side4 => exact HC1.out); rintro e w' ⟨rfl, ⟨nd, rfl⟩⟩; refine ⟨_, rfl, ?_⟩) | ((with_reducible refine gate_callee (f := 42) rfl ?_); refine gL (some 39) Try.func42 #[.slice A0 l0.length c0] ?_; (with_reducible refine (spec_DrawBoxBySum.calls k _ _ l0 t909 t910 t911 _ ?side1 ?side2 A5.out).mono ?_); (case side1 => exact qC HR0.out); (case side2 => exact HC0.out); rintro e w11 ⟨rfl, hb⟩; refine ⟨_, rfl, ?_⟩; replace HB := am (below_step qB hb); (try clear hb); (try clear hb2); (try clear hk); (try clear hi)) | ((with_reducible refine gate_callee (f := 43) rfl ?_); refine gL (some 47) Try.func43 #[.int .i64 t909, .int .i64 t910, .int .i64 t911] ?_; (with_reducible refine (impl_BoxBySum.calls k t909 t910 t911 t912 t913 _ A6.out).mono ?_); rintro e w12 ⟨v914, rfl, ho0, hb⟩; refine ⟨_, rfl, ?_⟩; have HO915 := am (Kd.R_lower ho0 (below_size qB)); replace HB := am (below_step qB hb); (try clear hb); (try clear hb2); (try clear hk); (try clear hi); (try clear ho0)) | ((with_reducible refine gate_callee (f := 44) rfl ?_); refine gL (some 54) Try.func44 #[.int .i64 t909, .int .i64 t910, .int .i64 t911] ?_; (with_reducible refine (spec_BoxBySum.calls k t909 t910 t911 t916 t917 _ A7.out).mono ?_); rintro e w13 ⟨v918, rfl, ho0, hb⟩; refine ⟨_, rfl, ?_⟩; have n0_ := am (Kd.R_elder' (qR HO915.out) (Kd.R_base ho0) hb); have HO919 := am (Kd.R_lower (Kd.R_new' ho0 (Kd.R_lt (qR HO915.out))) (below_size qB)); replace HB := am (below_step qB hb); clear HO915; have HO915 := n0_; clear n0_; (try clear hb); (try clear hb2); (try clear hk); (try clear hi); (try clear ho0)) | ((with_reducible refine gate_callee (f := 45) rfl ?_); refine gL (some 61) Try.func45 #[.int .i64 t909, .int .i64 t910, .int .i64 t911] ?_; (with_reducible refine (impl_BoxCount.calls k t909 t910 t911 t920 t921 _ A8.out).mono ?_); rintro e w14 ⟨rfl, hb⟩; refine ⟨_, rfl, ?_⟩; replace HO915 := am (Kd.R_below (qR HO915.out) hb); replace HO919 := am (Kd.R_below (qR HO919.out) hb); replace HB := am (below_step qB hb); (try clear hb); (try clear hb2); (try clear hk); (try clear hi)) | ((with_reducible refine gate_callee (f := 46) rfl ?_); refine gL (some 68) Try.func46 #[.int .i64 t909, .int .i64 t910, .int .i64 t911] ?_; (with_reducible refine (spec_BoxCount.calls k t909 t910 t911 t922 t923 _ A9.out).mono ?_); rintro e w' ⟨rfl, ⟨nd, rfl⟩⟩; refine ⟨_, rfl, ?_⟩))
    (try simp only [Act.put, List.setIfInBounds_toArray, List.set_cons_zero, List.set_cons_succ])
    go_cut [94] (fun v94 wc => ∃ (kq : Nat) (x94_9 : Bool), v94 = .bool x94_9 ∧ Aside0 (laws_FnBoxesOfLabels.j0 kq l1 t909 t910 t911 t912 t917 t920 x94_9 = some r) ∧ Aside0 (kq ≤ k) ∧ Aside0 (Kd.R (Kd.int .i64) 3 wc w.heap.size (fun _ => True) v914 t912) ∧ Aside0 (Below w.heap.size w wc))
    case first =>
     have H := HC10.out
     clear HC10
     by_cases c15 : (t913 != t917) = true
     ·as_aux_lemma =>
        rw [if_pos c15] at H
        have c15b0 : (t913 != t917) = true := c15
        (try (have c15b1 : decide (t913 = t917) = false := by simpa using c15))
        (try (have c15b2 : (t913 == t917) = false := by simpa using c15))
        (try (have c15b3 : ¬ (t913 = t917) := by simpa using c15))
        clear c15
        (first | rw [c15b0] | (simp only [i64_w, i32_w]; rw [c15b0]) | skip)
        have H' := am H
        clear H
        go_wp2
        go_meet
        case rel => exact ⟨_, (true), qe, H', ⟨by first | omega | exact Nat.le_refl _⟩, ⟨qR (Kd.R_mono HO915.out (fun _ hk => trivial))⟩, ⟨qB⟩⟩
     ·as_aux_lemma =>
        rw [if_neg c15] at H
        have c15b0 : (t913 != t917) = false := by simpa using c15
        (try (have c15b1 : decide (t913 = t917) = true := by simpa using c15))
        (try (have c15b2 : (t913 == t917) = true := by simpa using c15))
        clear c15
        (first | rw [c15b0] | (simp only [i64_w, i32_w]; rw [c15b0]) | skip)
        replace H := Option.bind_eq_some_iff.mp H
        obtain ⟨t924, A160, H⟩ := H
        replace H : (if t924 = true then (if (t921 != t923) = true then (laws_FnBoxesOfLabels.j0 k l1 t909 t910 t911 t912 t917 t920 true) else (if t920 = t922 then (laws_FnBoxesOfLabels.j0 k l1 t909 t910 t911 t912 t917 t920 (t921 != t913)) else (laws_FnBoxesOfLabels.j0 k l1 t909 t910 t911 t912 t917 t920 true))) else (laws_FnBoxesOfLabels.j0 k l1 t909 t910 t911 t912 t917 t920 true)) = some r := H
        have A16 := am A160
        clear A160
        by_cases c17 : t924 = true
        ·as_aux_lemma =>
           subst c17
           have H1 : (if (t921 != t923) = true then (laws_FnBoxesOfLabels.j0 k l1 t909 t910 t911 t912 t917 t920 true) else (if t920 = t922 then (laws_FnBoxesOfLabels.j0 k l1 t909 t910 t911 t912 t917 t920 (t921 != t913)) else (laws_FnBoxesOfLabels.j0 k l1 t909 t910 t911 t912 t917 t920 true))) = some r := by rw [if_pos rfl] at H; exact H
           clear H
           have H := H1
           clear H1
           by_cases c18 : (t921 != t923) = true
           ·as_aux_lemma =>
              rw [if_pos c18] at H
              have c18b0 : (t921 != t923) = true := c18
              (try (have c18b1 : decide (t921 = t923) = false := by simpa using c18))
              (try (have c18b2 : (t921 == t923) = false := by simpa using c18))
              (try (have c18b3 : ¬ (t921 = t923) := by simpa using c18))
              clear c18
              have H' := am H
              clear H
              obtain ⟨Ao19, co19, eo19⟩ := Kd.R_slice HO915.out
              subst eo19
              obtain ⟨Ao20, co20, eo20⟩ := Kd.R_slice HO919.out
              subst eo20
              go_wp2_with ((go_at_call 11; (with_reducible refine (laws_oSame.calls k _ _ t912 _ _ t916 true _ ?side1 ?side2 ?side3 ?side4 A16.out).mono ?_); (case side1 => exact qC (Kd.R_reads' HO915.out).2.2); (case side2 => exact (Kd.R_reads' HO915.out).2.1); (case side3 => exact qC (Kd.R_reads' HO919.out).2.2); (case side4 => exact (Kd.R_reads' HO919.out).2.1); rintro e w' ⟨rfl, ⟨nd, rfl⟩⟩))
              go_meet
              case rel => exact ⟨_, (true), qe, H', ⟨by first | omega | exact Nat.le_refl _⟩, ⟨qR (Kd.R_mono HO915.out (fun _ hk => trivial))⟩, ⟨qB⟩⟩
           ·as_aux_lemma =>
              rw [if_neg c18] at H
              have c18b0 : (t921 != t923) = false := by simpa using c18
              (try (have c18b1 : decide (t921 = t923) = true := by simpa using c18))
              (try (have c18b2 : (t921 == t923) = true := by simpa using c18))
              clear c18
              by_cases c21 : t920 = t922
              ·as_aux_lemma =>
                 rw [if_pos c21] at H
                 have c21b0 : (t920 == t922) = true := beq_iff_eq.mpr c21
                 have c21b1 : (t920 != t922) = false := bne_eq_false_iff_eq.mpr c21
                 clear c21
                 have H' := am H
                 clear H
                 obtain ⟨Ao22, co22, eo22⟩ := Kd.R_slice HO915.out
                 subst eo22
                 obtain ⟨Ao23, co23, eo23⟩ := Kd.R_slice HO919.out
                 subst eo23
                 go_wp2_with ((go_at_call 11; (with_reducible refine (laws_oSame.calls k _ _ t912 _ _ t916 true _ ?side1 ?side2 ?side3 ?side4 A16.out).mono ?_); (case side1 => exact qC (Kd.R_reads' HO915.out).2.2); (case side2 => exact (Kd.R_reads' HO915.out).2.1); (case side3 => exact qC (Kd.R_reads' HO919.out).2.2); (case side4 => exact (Kd.R_reads' HO919.out).2.1); rintro e w' ⟨rfl, ⟨nd, rfl⟩⟩))
                 go_meet
                 case rel => exact ⟨_, ((t921 != t913)), qe, H', ⟨by first | omega | exact Nat.le_refl _⟩, ⟨qR (Kd.R_mono HO915.out (fun _ hk => trivial))⟩, ⟨qB⟩⟩
              ·as_aux_lemma =>
                 rw [if_neg c21] at H
                 have c21b0 : (t920 == t922) = false := beq_eq_false_iff_ne.mpr c21
                 have c21b1 : (t920 != t922) = true := bne_iff_ne.mpr c21
                 have H' := am H
                 clear H
                 obtain ⟨Ao24, co24, eo24⟩ := Kd.R_slice HO915.out
                 subst eo24
                 obtain ⟨Ao25, co25, eo25⟩ := Kd.R_slice HO919.out
                 subst eo25
                 go_wp2_with ((go_at_call 11; (with_reducible refine (laws_oSame.calls k _ _ t912 _ _ t916 true _ ?side1 ?side2 ?side3 ?side4 A16.out).mono ?_); (case side1 => exact qC (Kd.R_reads' HO915.out).2.2); (case side2 => exact (Kd.R_reads' HO915.out).2.1); (case side3 => exact qC (Kd.R_reads' HO919.out).2.2); (case side4 => exact (Kd.R_reads' HO919.out).2.1); rintro e w' ⟨rfl, ⟨nd, rfl⟩⟩))
                 go_meet
                 case rel => exact ⟨_, (true), qe, H', ⟨by first | omega | exact Nat.le_refl _⟩, ⟨qR (Kd.R_mono HO915.out (fun _ hk => trivial))⟩, ⟨qB⟩⟩
        ·as_aux_lemma =>
           replace c17 := Bool.eq_false_iff.mpr c17
           subst c17
           have H1 : (laws_FnBoxesOfLabels.j0 k l1 t909 t910 t911 t912 t917 t920 true) = some r := by rw [if_neg (show ¬ (false = true) by decide)] at H; exact H
           clear H
           have H := H1
           clear H1
           have H' := am H
           clear H
           obtain ⟨Ao26, co26, eo26⟩ := Kd.R_slice HO915.out
           subst eo26
           obtain ⟨Ao27, co27, eo27⟩ := Kd.R_slice HO919.out
           subst eo27
           go_wp2_with ((go_at_call 11; (with_reducible refine (laws_oSame.calls k _ _ t912 _ _ t916 false _ ?side1 ?side2 ?side3 ?side4 A16.out).mono ?_); (case side1 => exact qC (Kd.R_reads' HO915.out).2.2); (case side2 => exact (Kd.R_reads' HO915.out).2.1); (case side3 => exact qC (Kd.R_reads' HO919.out).2.2); (case side4 => exact (Kd.R_reads' HO919.out).2.1); rintro e w' ⟨rfl, ⟨nd, rfl⟩⟩))
           go_meet
           case rel => exact ⟨_, (true), qe, H', ⟨by first | omega | exact Nat.le_refl _⟩, ⟨qR (Kd.R_mono HO915.out (fun _ hk => trivial))⟩, ⟨qB⟩⟩
    case rest =>
     clear HC10
     try clear c1
     try clear c2
     try clear p2
     try clear c4
     try clear c5
     try clear c7
     try clear c15
     try clear c15b0
     try clear c15b1
     try clear c15b2
     try clear c17
     try clear c18
     try clear c18b0
     try clear c18b1
     try clear c18b2
     try clear c21
     try clear c21b0
     try clear c21b1
     obtain ⟨kq, x94_9, rfl, HA, HJ9, HO_8, HB⟩ := hcut
     cases kq with
     | zero => exact absurd HA.out (by simp [laws_FnBoxesOfLabels.j0])
     | succ kj9 =>
      have H := HA.out
      clear HA
      simp only [laws_FnBoxesOfLabels.j0] at H
      by_cases c28 : x94_9 = true
      ·subst c28
       have H1 : (some false) = some r := by rw [if_pos rfl] at H; exact H
       clear H
       have H := H1
       clear H1
       obtain rfl := Option.some.inj H
       go_wp2
       go_ret
       exact ⟨qr, qB⟩
      ·as_aux_lemma =>
         replace c28 := Bool.eq_false_iff.mpr c28
         subst c28
         have H1 : ((spec_DrawLabelsBySum.f kj9 l1).bind fun bt925 => ((impl_LabelsBySum.f kj9 bt925.1 bt925.2).bind fun bt930 => ((spec_LabelsBySum.f kj9 bt925.1 bt925.2).bind fun bt934 => (if (bt930.2 != bt934.2) = true then (laws_FnBoxesOfLabels.j1 kj9 t909 t910 t911 t912 t917 t920 bt925.2 bt930.1 bt930.2 true bt925.1) else ((laws_oSame.f kj9 bt930.1 bt934.1).bind fun t938 => (laws_FnBoxesOfLabels.j1 kj9 t909 t910 t911 t912 t917 t920 bt925.2 bt930.1 bt930.2 (!t938) bt925.1)))))) = some r := by rw [if_neg (show ¬ (false = true) by decide)] at H; exact H
         clear H
         have H := H1
         clear H1
         replace H := Option.bind_eq_some_iff.mp H
         obtain ⟨⟨t925, t928⟩, A290, H⟩ := H
         replace H : ((impl_LabelsBySum.f kj9 t925 t928).bind fun bt930 => ((spec_LabelsBySum.f kj9 t925 t928).bind fun bt934 => (if (bt930.2 != bt934.2) = true then (laws_FnBoxesOfLabels.j1 kj9 t909 t910 t911 t912 t917 t920 t928 bt930.1 bt930.2 true t925) else ((laws_oSame.f kj9 bt930.1 bt934.1).bind fun t938 => (laws_FnBoxesOfLabels.j1 kj9 t909 t910 t911 t912 t917 t920 t928 bt930.1 bt930.2 (!t938) t925))))) = some r := H
         have A29 := am A290
         clear A290
         replace H := Option.bind_eq_some_iff.mp H
         obtain ⟨⟨t930, t933⟩, A300, H⟩ := H
         replace H : ((spec_LabelsBySum.f kj9 t925 t928).bind fun bt934 => (if (t933 != bt934.2) = true then (laws_FnBoxesOfLabels.j1 kj9 t909 t910 t911 t912 t917 t920 t928 t930 t933 true t925) else ((laws_oSame.f kj9 t930 bt934.1).bind fun t938 => (laws_FnBoxesOfLabels.j1 kj9 t909 t910 t911 t912 t917 t920 t928 t930 t933 (!t938) t925)))) = some r := H
         have A30 := am A300
         clear A300
         replace H := Option.bind_eq_some_iff.mp H
         obtain ⟨⟨t934, t937⟩, A310, H⟩ := H
         replace H : (if (t933 != t937) = true then (laws_FnBoxesOfLabels.j1 kj9 t909 t910 t911 t912 t917 t920 t928 t930 t933 true t925) else ((laws_oSame.f kj9 t930 t934).bind fun t938 => (laws_FnBoxesOfLabels.j1 kj9 t909 t910 t911 t912 t917 t920 t928 t930 t933 (!t938) t925))) = some r := H
         have A31 := am A310
         clear A310
         have HC32 := am H
         clear H
         go_upto_region 13 with (first | ((with_reducible refine gate_callee (f := 47) rfl ?_); refine gL (some 97) Try.func47 #[.slice A1 l1.length c1] ?_; (with_reducible refine (spec_DrawLabelsBySum.calls kj9 _ _ l1 t925 t928 _ ?side1 ?side2 A29.out).mono ?_); (case side1 => exact qC (Kd.C_below HR1.out HB.out)); (case side2 => exact HC1.out); rintro e w33 ⟨v926, rfl, ho0, hb⟩; refine ⟨_, rfl, ?_⟩; have n0_ := am (Kd.R_elder' (qR HO_8.out) (Kd.R_base ho0) hb); have HO927 := am (Kd.R_lower (Kd.R_new' ho0 (Kd.R_lt (qR HO_8.out))) (below_size qB)); replace HB := am (below_step qB hb); clear HO_8; have HO_8 := n0_; clear n0_; (try clear hb); (try clear hb2); (try clear hk); (try clear hi); (try clear ho0)) | ((with_reducible refine gate_dst (N := 16) rfl ?_); refine qx (N := 16) (cs := #[.slice none 0 0]) (t := 26) ?_; intro gb929 hg w34 hbox hb; replace HO_8 := am (Kd.R_below (qR HO_8.out) hb); replace HO927 := am (Kd.R_below (qR HO927.out) hb); have n2_ := am (below_step qB hb); have BK929 := am (hbox); have GW929 := am (qg w hg); have GE929 := am (qg w hg); clear HB; have HB := n2_; clear n2_; clear hb hbox hg; obtain ⟨Ao35, co35, eo35⟩ := Kd.R_slice HO927.out; subst eo35; have hcz36_0 := qz w34 BK929.out; have hfz36_0 := blk_frozen BK929.out 0) | ((with_reducible refine gate_callee (f := 48) rfl ?_); refine gL (some 103) Try.func48 #[.agg #[.slice Ao35 t925.length co35], .int .i64 t928] ?_; (with_reducible refine (impl_LabelsBySum.calls kj9 _ _ t925 t928 t930 t933 _ ?side1 ?side2 A30.out).mono ?_); (case side1 => refine (Kd.R_reads' (e := 3) (base := w.heap.size) (ok := fun k_ => (True ∧ some k_ ≠ (v914 : Value).ownBlock)) (n := t925.length) (c := co35) ?_).2.2; exact (qR ((Kd.R_mono (Kd.R_far (p := ⟨gb929, 0, none⟩) (Kd.R_types HO927.out BK929.out (by decide)) (fun _ hk => hk.2) (.slice Ao35 t925.length co35)) (fun _ h_ => h_.1))))); (case side2 => exact (Kd.R_reads' HO927.out).2.1); rintro e w37 ⟨v931, rfl, ho0, hb⟩; refine ⟨_, rfl, ?_⟩; have n0_ := am (Kd.R_elder' (qR ((Kd.R_mono (Kd.R_far (p := ⟨gb929, 0, none⟩) (Kd.R_types HO_8.out BK929.out (by decide)) (fun _ hk => hk.2) (.slice Ao35 t925.length co35)) (fun _ h_ => h_.1)))) (Kd.R_base ho0) hb); have n1_ := am (Kd.R_elder' (qR ((Kd.R_mono (Kd.R_far (p := ⟨gb929, 0, none⟩) (Kd.R_types HO927.out BK929.out (by decide)) (fun _ hk => hk.2) (.slice Ao35 t925.length co35)) (fun _ h_ => h_.1)))) (Kd.R_base ho0) hb); have HO932 := am (Kd.R_lower (Kd.R_new' (Kd.R_new' ho0 (Kd.R_lt (qR ((Kd.R_mono (Kd.R_far (p := ⟨gb929, 0, none⟩) (Kd.R_types HO_8.out BK929.out (by decide)) (fun _ hk => hk.2) (.slice Ao35 t925.length co35)) (fun _ h_ => h_.1)))))) (Kd.R_lt (qR ((Kd.R_mono (Kd.R_far (p := ⟨gb929, 0, none⟩) (Kd.R_types HO927.out BK929.out (by decide)) (fun _ hk => hk.2) (.slice Ao35 t925.length co35)) (fun _ h_ => h_.1)))))) (below_size qB)); replace BK929 := am (blk_below (g := gb929) (o := .cells #[.slice Ao35 t925.length co35] 26 (0, 0)) (by (with_reducible repeat (first | refine blk_drewN ?_ _ | refine blk_drew ?_ | refine blk_alloc ?_ _)); refine blk_put (cs := #[.slice none 0 0]) ?_ 0 _ rfl; refine qb ?_; exact BK929.out) hb); replace HB := am (below_step qB hb); clear HO_8 HO927; have HO_8 := n0_; have HO927 := n1_; clear n0_ n1_; (try clear hb); (try clear hb2); (try clear hk); (try clear hi); (try clear ho0); have hcz38_0 := qz w37 BK929.out; have hfz38_0 := blk_frozen BK929.out 0) | ((with_reducible refine gate_callee (f := 49) rfl ?_); refine gL (some 109) Try.func49 #[.agg #[.slice Ao35 t925.length co35], .int .i64 t928] ?_; (with_reducible refine (spec_LabelsBySum.calls kj9 _ _ t925 t928 t934 t937 _ ?side1 ?side2 A31.out).mono ?_); (case side1 => exact qC (Kd.R_reads' HO927.out).2.2); (case side2 => exact (Kd.R_reads' HO927.out).2.1); rintro e w39 ⟨v935, rfl, ho0, hb⟩; refine ⟨_, rfl, ?_⟩; have n0_ := am (Kd.R_elder' (qR HO_8.out) (Kd.R_base ho0) hb); have n1_ := am (Kd.R_elder' (qR HO927.out) (Kd.R_base ho0) hb); have n2_ := am (Kd.R_elder' (qR HO932.out) (Kd.R_base ho0) hb); have HO936 := am (Kd.R_lower (Kd.R_new' (Kd.R_new' (Kd.R_new' ho0 (Kd.R_lt (qR HO_8.out))) (Kd.R_lt (qR HO927.out))) (Kd.R_lt (qR HO932.out))) (below_size qB)); replace BK929 := am (blk_below (g := gb929) (o := .cells #[.slice Ao35 t925.length co35] 26 (0, 0)) (qb BK929.out) hb); replace HB := am (below_step qB hb); clear HO_8 HO927 HO932; have HO_8 := n0_; have HO927 := n1_; have HO932 := n2_; clear n0_ n1_ n2_; (try clear hb); (try clear hb2); (try clear hk); (try clear hi); (try clear ho0)))
         (try simp only [Act.put, List.setIfInBounds_toArray, List.set_cons_zero, List.set_cons_succ])
         go_cut [120] (fun v120 wc => ∃ (kq : Nat) (x120_31 : Bool), v120 = .bool x120_31 ∧ Aside0 (laws_FnBoxesOfLabels.j1 kq t909 t910 t911 t912 t917 t920 t928 t930 t933 x120_31 t925 = some r) ∧ Aside0 (kq ≤ kj9) ∧ Aside0 (Kd.R (Kd.int .i64) 3 wc w.heap.size (fun k_ => some k_ ≠ (v931 : Value).ownBlock ∧ some k_ ≠ ((.slice Ao35 t925.length co35) : Value).ownBlock) v914 t912) ∧ Aside0 (Kd.R (Kd.int .i64) 3 wc w.heap.size (fun k_ => some k_ ≠ (v914 : Value).ownBlock ∧ some k_ ≠ ((.slice Ao35 t925.length co35) : Value).ownBlock) v931 t930) ∧ Aside0 (Kd.R (Kd.int .i64) 3 wc w.heap.size (fun k_ => some k_ ≠ (v914 : Value).ownBlock ∧ some k_ ≠ (v931 : Value).ownBlock) (.slice Ao35 t925.length co35) t925) ∧ Aside0 (wc.heap[gb929]? = some (.cells #[(.slice Ao35 t925.length co35)] 26 (0, 0))) ∧ Aside0 (Below w.heap.size w wc))
         case first =>
          have H := HC32.out
          clear HC32
          by_cases c40 : (t933 != t937) = true
          ·as_aux_lemma =>
             rw [if_pos c40] at H
             have c40b0 : (t933 != t937) = true := c40
             (try (have c40b1 : decide (t933 = t937) = false := by simpa using c40))
             (try (have c40b2 : (t933 == t937) = false := by simpa using c40))
             (try (have c40b3 : ¬ (t933 = t937) := by simpa using c40))
             clear c40
             (first | rw [c40b0] | (simp only [i64_w, i32_w]; rw [c40b0]) | skip)
             have H' := am H
             clear H
             go_wp2
             go_meet
             case rel => exact ⟨_, (true), qe, H', ⟨by have := HJ9.out; first | omega | exact Nat.le_refl _⟩, ⟨qR (Kd.R_mono HO_8.out (fun _ hk => ⟨hk.1.2, hk.1.1.2⟩))⟩, ⟨qR (Kd.R_mono HO932.out (fun _ hk => ⟨hk.1.1.2, hk.1.2⟩))⟩, ⟨qR (Kd.R_mono HO927.out (fun _ hk => ⟨hk.1.1.2, hk.1.2⟩))⟩, ⟨qb BK929.out⟩, ⟨qB⟩⟩
          ·as_aux_lemma =>
             rw [if_neg c40] at H
             have c40b0 : (t933 != t937) = false := by simpa using c40
             (try (have c40b1 : decide (t933 = t937) = true := by simpa using c40))
             (try (have c40b2 : (t933 == t937) = true := by simpa using c40))
             clear c40
             (first | rw [c40b0] | (simp only [i64_w, i32_w]; rw [c40b0]) | skip)
             replace H := Option.bind_eq_some_iff.mp H
             obtain ⟨t938, A410, H⟩ := H
             replace H : (laws_FnBoxesOfLabels.j1 kj9 t909 t910 t911 t912 t917 t920 t928 t930 t933 (!t938) t925) = some r := H
             have A41 := am A410
             clear A410
             have H' := am H
             clear H
             obtain ⟨Ao42, co42, eo42⟩ := Kd.R_slice HO932.out
             subst eo42
             obtain ⟨Ao43, co43, eo43⟩ := Kd.R_slice HO936.out
             subst eo43
             go_wp2_with ((go_at_call 11; (with_reducible refine (laws_oSame.calls kj9 _ _ t930 _ _ t934 t938 _ ?side1 ?side2 ?side3 ?side4 A41.out).mono ?_); (case side1 => exact qC (Kd.R_reads' HO932.out).2.2); (case side2 => exact (Kd.R_reads' HO932.out).2.1); (case side3 => exact qC (Kd.R_reads' HO936.out).2.2); (case side4 => exact (Kd.R_reads' HO936.out).2.1); rintro e w' ⟨rfl, ⟨nd, rfl⟩⟩))
             go_meet
             case rel => exact ⟨_, (!t938), qe, H', ⟨by have := HJ9.out; first | omega | exact Nat.le_refl _⟩, ⟨qR (Kd.R_mono HO_8.out (fun _ hk => ⟨hk.1.2, hk.1.1.2⟩))⟩, ⟨qR (Kd.R_mono HO932.out (fun _ hk => ⟨hk.1.1.2, hk.1.2⟩))⟩, ⟨qR (Kd.R_mono HO927.out (fun _ hk => ⟨hk.1.1.2, hk.1.2⟩))⟩, ⟨qb BK929.out⟩, ⟨qB⟩⟩
         case rest =>
          clear HC32
          try clear c1
          try clear c2
          try clear p2
          try clear c4
          try clear c5
          try clear c7
          try clear c15
          try clear c15b0
          try clear c15b1
          try clear c15b2
          try clear c17
          try clear c18
          try clear c18b0
          try clear c18b1
          try clear c18b2
          try clear c21
          try clear c21b0
          try clear c21b1
          try clear c28
          try clear c40
          try clear c40b0
          try clear c40b1
          try clear c40b2
          try clear c42
          try clear c43
          try clear hcz36_0
          try clear hcz38_0
          try clear hfz36_0
          try clear hfz38_0
          try clear p2
          obtain ⟨kq, x120_31, rfl, HA, HJ31, HO_8, HO_18, HO_930000, BK929, HB⟩ := hcut
          cases kq with
          | zero => exact absurd HA.out (by simp [laws_FnBoxesOfLabels.j1])
          | succ kj31 =>
           have H := HA.out
           clear HA
           simp only [laws_FnBoxesOfLabels.j1] at H
           by_cases c44 : x120_31 = true
           ·subst c44
            have H1 : (some false) = some r := by rw [if_pos rfl] at H; exact H
            clear H
            have H := H1
            clear H1
            obtain rfl := Option.some.inj H
            go_wp2
            go_ret
            exact ⟨qr, qB⟩
           ·as_aux_lemma =>
              replace c44 := Bool.eq_false_iff.mpr c44
              subst c44
              have H1 : (if t933 = true then ((impl_CountLabels.f kj31 t925 t928).bind fun bt939 => (if bt939.2 = true then ((laws_oSum.f kj31 t930).bind fun t941 => (if t941 = bt939.1 then (laws_FnBoxesOfLabels.j2 kj31 t909 t910 t911 t912 t917 t920) else (some false))) else (some false))) else (laws_FnBoxesOfLabels.j2 kj31 t909 t910 t911 t912 t917 t920)) = some r := by rw [if_neg (show ¬ (false = true) by decide)] at H; exact H
              clear H
              have H := H1
              clear H1
              have HC45 := am H
              clear H
              go_upto_if 121 with (fail)
              go_cut [] (fun wc => ∃ (kq : Nat), Aside0 (laws_FnBoxesOfLabels.j2 kq t909 t910 t911 t912 t917 t920 = some r) ∧ Aside0 (kq ≤ kj31) ∧ Aside0 (Kd.R (Kd.int .i64) 3 wc w.heap.size (fun k_ => some k_ ≠ ((.slice Ao35 t925.length co35) : Value).ownBlock) v914 t912) ∧ Aside0 (Kd.R (Kd.int .i64) 3 wc w.heap.size (fun k_ => some k_ ≠ (v914 : Value).ownBlock) (.slice Ao35 t925.length co35) t925) ∧ Aside0 (wc.heap[gb929]? = some (.cells #[(.slice Ao35 t925.length co35)] 26 (0, 0))) ∧ Aside0 (Below w.heap.size w wc))
              case first =>
               have H := HC45.out
               clear HC45
               by_cases c46 : t933 = true
               ·as_aux_lemma =>
                  subst c46
                  have H1 : ((impl_CountLabels.f kj31 t925 t928).bind fun bt939 => (if bt939.2 = true then ((laws_oSum.f kj31 t930).bind fun t941 => (if t941 = bt939.1 then (laws_FnBoxesOfLabels.j2 kj31 t909 t910 t911 t912 t917 t920) else (some false))) else (some false))) = some r := by rw [if_pos rfl] at H; exact H
                  clear H
                  have H := H1
                  clear H1
                  replace H := Option.bind_eq_some_iff.mp H
                  obtain ⟨⟨t939, t940⟩, A470, H⟩ := H
                  replace H : (if t940 = true then ((laws_oSum.f kj31 t930).bind fun t941 => (if t941 = t939 then (laws_FnBoxesOfLabels.j2 kj31 t909 t910 t911 t912 t917 t920) else (some false))) else (some false)) = some r := H
                  have A47 := am A470
                  clear A470
                  by_cases c48 : t940 = true
                  ·as_aux_lemma =>
                     subst c48
                     have H1 : ((laws_oSum.f kj31 t930).bind fun t941 => (if t941 = t939 then (laws_FnBoxesOfLabels.j2 kj31 t909 t910 t911 t912 t917 t920) else (some false))) = some r := by rw [if_pos rfl] at H; exact H
                     clear H
                     have H := H1
                     clear H1
                     replace H := Option.bind_eq_some_iff.mp H
                     obtain ⟨t941, A490, H⟩ := H
                     replace H : (if t941 = t939 then (laws_FnBoxesOfLabels.j2 kj31 t909 t910 t911 t912 t917 t920) else (some false)) = some r := H
                     have A49 := am A490
                     clear A490
                     by_cases c50 : t941 = t939
                     ·as_aux_lemma =>
                        rw [if_pos c50] at H
                        have c50b0 : (t941 == t939) = true := beq_iff_eq.mpr c50
                        have c50b1 : (t941 != t939) = false := bne_eq_false_iff_eq.mpr c50
                        clear c50
                        (first | rw [c50b0] | (simp only [i64_w, i32_w]; rw [c50b0]) | skip)
                        have H' := am H
                        clear H
                        have hcz51_0 := qz wc BK929.out
                        have hfz51_0 := blk_frozen BK929.out 0
                        go_wp2_with (first | ((with_reducible refine gate_callee (f := 30) rfl ?_); refine gL (some 125) Try.func30 #[.agg #[.slice Ao35 t925.length co35], .int .i64 t928] ?_; (with_reducible refine (impl_CountLabels.calls kj31 _ _ t925 t928 t939 true _ ?side1 ?side2 A47.out).mono ?_); (case side1 => exact qC (Kd.R_reads' HO_930000.out).2.2); (case side2 => exact (Kd.R_reads' HO_930000.out).2.1); rintro e w52 ⟨rfl, hb⟩; refine ⟨_, rfl, ?_⟩; replace HO_8 := am (Kd.R_below (qR HO_8.out) hb); replace HO_18 := am (Kd.R_below (qR HO_18.out) hb); replace HO_930000 := am (Kd.R_below (qR HO_930000.out) hb); replace BK929 := am (blk_below (g := gb929) (o := .cells #[.slice Ao35 t925.length co35] 26 (0, 0)) (qb BK929.out) hb); replace HB := am (below_step qB hb); (try clear hb); (try clear hb2); (try clear hk); (try clear hi); obtain ⟨Ao53, co53, eo53⟩ := Kd.R_slice HO_18.out; subst eo53) | (go_at_call 50; (with_reducible refine (laws_oSum.calls kj31 _ _ t930 t941 _ ?side1 ?side2 A49.out).mono ?_); (case side1 => exact qC (Kd.R_reads' HO_18.out).2.2); (case side2 => exact (Kd.R_reads' HO_18.out).2.1); rintro e w' ⟨rfl, ⟨nd, rfl⟩⟩))
                        go_meet
                        case rel => exact ⟨_, H', ⟨by have := HJ9.out; have := HJ31.out; first | omega | exact Nat.le_refl _⟩, ⟨qR (Kd.R_mono HO_8.out (fun _ hk => hk.2))⟩, ⟨qR (Kd.R_mono HO_930000.out (fun _ hk => hk.1))⟩, ⟨qb BK929.out⟩, ⟨qB⟩⟩
                     ·rw [if_neg c50] at H
                      have c50b0 : (t941 == t939) = false := beq_eq_false_iff_ne.mpr c50
                      have c50b1 : (t941 != t939) = true := bne_iff_ne.mpr c50
                      (first | rw [c50b0] | (simp only [i64_w, i32_w]; rw [c50b0]) | skip)
                      obtain rfl := Option.some.inj H
                      have hcz54_0 := qz wc BK929.out
                      have hfz54_0 := blk_frozen BK929.out 0
                      go_wp2_with (first | ((with_reducible refine gate_callee (f := 30) rfl ?_); refine gL (some 125) Try.func30 #[.agg #[.slice Ao35 t925.length co35], .int .i64 t928] ?_; (with_reducible refine (impl_CountLabels.calls kj31 _ _ t925 t928 t939 true _ ?side1 ?side2 A47.out).mono ?_); (case side1 => exact qC (Kd.R_reads' HO_930000.out).2.2); (case side2 => exact (Kd.R_reads' HO_930000.out).2.1); rintro e w55 ⟨rfl, hb⟩; refine ⟨_, rfl, ?_⟩; replace HO_8 := am (Kd.R_below (qR HO_8.out) hb); replace HO_18 := am (Kd.R_below (qR HO_18.out) hb); replace HO_930000 := am (Kd.R_below (qR HO_930000.out) hb); replace BK929 := am (blk_below (g := gb929) (o := .cells #[.slice Ao35 t925.length co35] 26 (0, 0)) (qb BK929.out) hb); replace HB := am (below_step qB hb); (try clear hb); (try clear hb2); (try clear hk); (try clear hi); obtain ⟨Ao56, co56, eo56⟩ := Kd.R_slice HO_18.out; subst eo56) | (go_at_call 50; (with_reducible refine (laws_oSum.calls kj31 _ _ t930 t941 _ ?side1 ?side2 A49.out).mono ?_); (case side1 => exact qC (Kd.R_reads' HO_18.out).2.2); (case side2 => exact (Kd.R_reads' HO_18.out).2.1); rintro e w' ⟨rfl, ⟨nd, rfl⟩⟩))
                      go_ret
                      exact ⟨qr, qB⟩
                  ·as_aux_lemma =>
                     replace c48 := Bool.eq_false_iff.mpr c48
                     subst c48
                     have H1 : (some false) = some r := by rw [if_neg (show ¬ (false = true) by decide)] at H; exact H
                     clear H
                     have H := H1
                     clear H1
                     obtain rfl := Option.some.inj H
                     have hcz57_0 := qz wc BK929.out
                     have hfz57_0 := blk_frozen BK929.out 0
                     go_wp2_with (((with_reducible refine gate_callee (f := 30) rfl ?_); refine gL (some 125) Try.func30 #[.agg #[.slice Ao35 t925.length co35], .int .i64 t928] ?_; (with_reducible refine (impl_CountLabels.calls kj31 _ _ t925 t928 t939 false _ ?side1 ?side2 A47.out).mono ?_); (case side1 => exact qC (Kd.R_reads' HO_930000.out).2.2); (case side2 => exact (Kd.R_reads' HO_930000.out).2.1); rintro e w58 ⟨rfl, hb⟩; refine ⟨_, rfl, ?_⟩; replace HO_8 := am (Kd.R_below (qR HO_8.out) hb); replace HO_18 := am (Kd.R_below (qR HO_18.out) hb); replace HO_930000 := am (Kd.R_below (qR HO_930000.out) hb); replace BK929 := am (blk_below (g := gb929) (o := .cells #[.slice Ao35 t925.length co35] 26 (0, 0)) (qb BK929.out) hb); replace HB := am (below_step qB hb); (try clear hb); (try clear hb2); (try clear hk); (try clear hi)))
                     go_ret
                     exact ⟨qr, qB⟩
               ·replace c46 := Bool.eq_false_iff.mpr c46
                subst c46
                have H1 : (laws_FnBoxesOfLabels.j2 kj31 t909 t910 t911 t912 t917 t920) = some r := by rw [if_neg (show ¬ (false = true) by decide)] at H; exact H
                clear H
                have H := H1
                clear H1
                have H' := am H
                clear H
                go_wp2
                go_meet
                case rel => exact ⟨_, H', ⟨by have := HJ9.out; have := HJ31.out; first | omega | exact Nat.le_refl _⟩, ⟨qR (Kd.R_mono HO_8.out (fun _ hk => hk.2))⟩, ⟨qR (Kd.R_mono HO_930000.out (fun _ hk => hk.1))⟩, ⟨qb BK929.out⟩, ⟨qB⟩⟩
              case rest =>
               clear HC45
               try clear c1
               try clear c2
               try clear p2
               try clear c3
               try clear c4
               try clear c5
               try clear c7
               try clear c15
               try clear c15b0
               try clear c15b1
               try clear c15b2
               try clear c17
               try clear c18
               try clear c18b0
               try clear c18b1
               try clear c18b2
               try clear c21
               try clear c21b0
               try clear c21b1
               try clear c28
               try clear c30
               try clear c40
               try clear c40b0
               try clear c40b1
               try clear c40b2
               try clear c42
               try clear c43
               try clear c44
               try clear c45
               try clear c46
               try clear c47
               try clear c48
               try clear c49
               try clear c50
               try clear c50b0
               try clear c50b1
               try clear hcz36_0
               try clear hcz38_0
               try clear hcz51_0
               try clear hcz54_0
               try clear hcz57_0
               try clear hfz36_0
               try clear hfz38_0
               try clear hfz51_0
               try clear hfz54_0
               try clear hfz57_0
               try clear p2
               obtain ⟨kq, HA, HJ44, HO_8, HO_930000, BK929, HB⟩ := hcut
               cases kq with
               | zero => exact absurd HA.out (by simp [laws_FnBoxesOfLabels.j2])
               | succ kj44 =>
                have H := HA.out
                clear HA
                simp only [laws_FnBoxesOfLabels.j2] at H
                by_cases c59 : t917 = true
                ·as_aux_lemma =>
                   subst c59
                   have H1 : ((impl_Rectangle.f kj44 t909 t910).bind fun bt942 => ((impl_CountLabels.f kj44 bt942.1 t911).bind fun bt947 => ((impl_BoxBySum.f kj44 t910 t909 t911).bind fun bt949 => ((impl_LabelsBySum.f kj44 bt942.1 t911).bind fun bt953 => (if bt942.2 = true then (if bt947.2 = true then (if bt949.2 = true then (if bt947.1 = t920 then ((laws_oSum.f kj44 t912).bind fun t957 => (if t957 = t920 then ((laws_oSame.f kj44 bt949.1 t912).bind fun t958 => (if t958 = true then (if bt953.2 = true then ((laws_oSame.f kj44 bt953.1 t912).bind fun t959 => (laws_FnBoxesOfLabels.j3 kj44 t912 (!t959))) else (laws_FnBoxesOfLabels.j3 kj44 t912 false)) else (laws_FnBoxesOfLabels.j3 kj44 t912 true))) else (laws_FnBoxesOfLabels.j3 kj44 t912 true))) else (laws_FnBoxesOfLabels.j3 kj44 t912 true)) else (laws_FnBoxesOfLabels.j3 kj44 t912 true)) else (laws_FnBoxesOfLabels.j3 kj44 t912 true)) else (laws_FnBoxesOfLabels.j3 kj44 t912 true)))))) = some r := by rw [if_pos rfl] at H; exact H
                   clear H
                   have H := H1
                   clear H1
                   replace H := Option.bind_eq_some_iff.mp H
                   obtain ⟨⟨t942, t945⟩, A600, H⟩ := H
                   replace H : ((impl_CountLabels.f kj44 t942 t911).bind fun bt947 => ((impl_BoxBySum.f kj44 t910 t909 t911).bind fun bt949 => ((impl_LabelsBySum.f kj44 t942 t911).bind fun bt953 => (if t945 = true then (if bt947.2 = true then (if bt949.2 = true then (if bt947.1 = t920 then ((laws_oSum.f kj44 t912).bind fun t957 => (if t957 = t920 then ((laws_oSame.f kj44 bt949.1 t912).bind fun t958 => (if t958 = true then (if bt953.2 = true then ((laws_oSame.f kj44 bt953.1 t912).bind fun t959 => (laws_FnBoxesOfLabels.j3 kj44 t912 (!t959))) else (laws_FnBoxesOfLabels.j3 kj44 t912 false)) else (laws_FnBoxesOfLabels.j3 kj44 t912 true))) else (laws_FnBoxesOfLabels.j3 kj44 t912 true))) else (laws_FnBoxesOfLabels.j3 kj44 t912 true)) else (laws_FnBoxesOfLabels.j3 kj44 t912 true)) else (laws_FnBoxesOfLabels.j3 kj44 t912 true)) else (laws_FnBoxesOfLabels.j3 kj44 t912 true))))) = some r := H
                   have A60 := am A600
                   clear A600
                   replace H := Option.bind_eq_some_iff.mp H
                   obtain ⟨⟨t947, t948⟩, A610, H⟩ := H
                   replace H : ((impl_BoxBySum.f kj44 t910 t909 t911).bind fun bt949 => ((impl_LabelsBySum.f kj44 t942 t911).bind fun bt953 => (if t945 = true then (if t948 = true then (if bt949.2 = true then (if t947 = t920 then ((laws_oSum.f kj44 t912).bind fun t957 => (if t957 = t920 then ((laws_oSame.f kj44 bt949.1 t912).bind fun t958 => (if t958 = true then (if bt953.2 = true then ((laws_oSame.f kj44 bt953.1 t912).bind fun t959 => (laws_FnBoxesOfLabels.j3 kj44 t912 (!t959))) else (laws_FnBoxesOfLabels.j3 kj44 t912 false)) else (laws_FnBoxesOfLabels.j3 kj44 t912 true))) else (laws_FnBoxesOfLabels.j3 kj44 t912 true))) else (laws_FnBoxesOfLabels.j3 kj44 t912 true)) else (laws_FnBoxesOfLabels.j3 kj44 t912 true)) else (laws_FnBoxesOfLabels.j3 kj44 t912 true)) else (laws_FnBoxesOfLabels.j3 kj44 t912 true)))) = some r := H
                   have A61 := am A610
                   clear A610
                   replace H := Option.bind_eq_some_iff.mp H
                   obtain ⟨⟨t949, t950⟩, A620, H⟩ := H
                   replace H : ((impl_LabelsBySum.f kj44 t942 t911).bind fun bt953 => (if t945 = true then (if t948 = true then (if t950 = true then (if t947 = t920 then ((laws_oSum.f kj44 t912).bind fun t957 => (if t957 = t920 then ((laws_oSame.f kj44 t949 t912).bind fun t958 => (if t958 = true then (if bt953.2 = true then ((laws_oSame.f kj44 bt953.1 t912).bind fun t959 => (laws_FnBoxesOfLabels.j3 kj44 t912 (!t959))) else (laws_FnBoxesOfLabels.j3 kj44 t912 false)) else (laws_FnBoxesOfLabels.j3 kj44 t912 true))) else (laws_FnBoxesOfLabels.j3 kj44 t912 true))) else (laws_FnBoxesOfLabels.j3 kj44 t912 true)) else (laws_FnBoxesOfLabels.j3 kj44 t912 true)) else (laws_FnBoxesOfLabels.j3 kj44 t912 true)) else (laws_FnBoxesOfLabels.j3 kj44 t912 true))) = some r := H
                   have A62 := am A620
                   clear A620
                   replace H := Option.bind_eq_some_iff.mp H
                   obtain ⟨⟨t953, t956⟩, A630, H⟩ := H
                   replace H : (if t945 = true then (if t948 = true then (if t950 = true then (if t947 = t920 then ((laws_oSum.f kj44 t912).bind fun t957 => (if t957 = t920 then ((laws_oSame.f kj44 t949 t912).bind fun t958 => (if t958 = true then (if t956 = true then ((laws_oSame.f kj44 t953 t912).bind fun t959 => (laws_FnBoxesOfLabels.j3 kj44 t912 (!t959))) else (laws_FnBoxesOfLabels.j3 kj44 t912 false)) else (laws_FnBoxesOfLabels.j3 kj44 t912 true))) else (laws_FnBoxesOfLabels.j3 kj44 t912 true))) else (laws_FnBoxesOfLabels.j3 kj44 t912 true)) else (laws_FnBoxesOfLabels.j3 kj44 t912 true)) else (laws_FnBoxesOfLabels.j3 kj44 t912 true)) else (laws_FnBoxesOfLabels.j3 kj44 t912 true)) = some r := H
                   have A63 := am A630
                   clear A630
                   have HC64 := am H
                   clear H
                   go_upto_region 25 with (first | ((with_reducible refine gate_callee (f := 51) rfl ?_); refine gL (some 141) Try.func51 #[.int .i64 t909, .int .i64 t910] ?_; (with_reducible refine (impl_Rectangle.calls kj44 t909 t910 t942 t945 _ A60.out).mono ?_); rintro e w65 ⟨v943, rfl, ho0, hb⟩; refine ⟨_, rfl, ?_⟩; have n0_ := am (Kd.R_elder' (qR HO_8.out) (Kd.R_base ho0) hb); have n1_ := am (Kd.R_elder' (qR HO_930000.out) (Kd.R_base ho0) hb); have HO944 := am (Kd.R_lower (Kd.R_new' (Kd.R_new' ho0 (Kd.R_lt (qR HO_8.out))) (Kd.R_lt (qR HO_930000.out))) (below_size qB)); replace BK929 := am (blk_below (g := gb929) (o := .cells #[.slice Ao35 t925.length co35] 26 (0, 0)) (qb BK929.out) hb); replace HB := am (below_step qB hb); clear HO_8 HO_930000; have HO_8 := n0_; have HO_930000 := n1_; clear n0_ n1_; (try clear hb); (try clear hb2); (try clear hk); (try clear hi); (try clear ho0)) | ((with_reducible refine gate_dst (N := 24) rfl ?_); refine qx (N := 24) (cs := #[.slice none 0 0]) (t := 26) ?_; intro gb946 hg w66 hbox hb; replace HO_8 := am (Kd.R_below (qR HO_8.out) hb); replace HO_930000 := am (Kd.R_below (qR HO_930000.out) hb); replace HO944 := am (Kd.R_below (qR HO944.out) hb); have n3_ := am (blk_below (g := gb929) (o := .cells #[.slice Ao35 t925.length co35] 26 (0, 0)) (qb BK929.out) hb); have n4_ := am (below_step qB hb); have BK946 := am (hbox); have GW946 := am (qg w hg); have GE946 := am (qg w hg); have NB929_946 := am ((by rw [hg]; exact Nat.ne_of_lt (blk_lt (g := gb929) (o := .cells #[.slice Ao35 t925.length co35] 26 (0, 0)) (qb BK929.out)) : gb929 ≠ gb946)); have NB946_929 := am ((by rw [hg]; exact Nat.ne_of_gt (blk_lt (g := gb929) (o := .cells #[.slice Ao35 t925.length co35] 26 (0, 0)) (qb BK929.out)) : gb946 ≠ gb929)); clear BK929 HB; have BK929 := n3_; have HB := n4_; clear n3_ n4_; clear hb hbox hg; obtain ⟨Ao67, co67, eo67⟩ := Kd.R_slice HO944.out; subst eo67; have hnb68 := NB946_929.out; have hnc68 := NB929_946.out; have hcz69_0 := qz w66 BK946.out; have hfz69_0 := blk_frozen BK946.out 0) | ((with_reducible refine gate_callee (f := 30) rfl ?_); refine gL (some 147) Try.func30 #[.agg #[.slice Ao67 t942.length co67], .int .i64 t911] ?_; (with_reducible refine (impl_CountLabels.calls kj44 _ _ t942 t911 t947 t948 _ ?side1 ?side2 A61.out).mono ?_); (case side1 => refine (Kd.R_reads' (e := 3) (base := w.heap.size) (ok := fun k_ => ((True ∧ some k_ ≠ (v914 : Value).ownBlock) ∧ some k_ ≠ (.slice Ao35 t925.length co35 : Value).ownBlock)) (n := t942.length) (c := co67) ?_).2.2; exact (qR ((Kd.R_mono (Kd.R_far (p := ⟨gb946, 0, none⟩) (Kd.R_types HO944.out BK946.out (by decide)) (fun _ hk => hk.2) (.slice Ao67 t942.length co67)) (fun _ h_ => h_.1))))); (case side2 => exact (Kd.R_reads' HO944.out).2.1); rintro e w70 ⟨rfl, hb⟩; refine ⟨_, rfl, ?_⟩; replace HO_8 := am (Kd.R_below (qR ((Kd.R_mono (Kd.R_far (p := ⟨gb946, 0, none⟩) (Kd.R_types HO_8.out BK946.out (by decide)) (fun _ hk => hk.2) (.slice Ao67 t942.length co67)) (fun _ h_ => h_.1)))) hb); replace HO_930000 := am (Kd.R_below (qR ((Kd.R_mono (Kd.R_far (p := ⟨gb946, 0, none⟩) (Kd.R_types HO_930000.out BK946.out (by decide)) (fun _ hk => hk.2) (.slice Ao67 t942.length co67)) (fun _ h_ => h_.1)))) hb); replace HO944 := am (Kd.R_below (qR ((Kd.R_mono (Kd.R_far (p := ⟨gb946, 0, none⟩) (Kd.R_types HO944.out BK946.out (by decide)) (fun _ hk => hk.2) (.slice Ao67 t942.length co67)) (fun _ h_ => h_.1)))) hb); replace BK929 := am (blk_below (g := gb929) (o := .cells #[.slice Ao35 t925.length co35] 26 (0, 0)) (by (with_reducible repeat (first | refine blk_drewN ?_ _ | refine blk_drew ?_ | refine blk_alloc ?_ _)); refine blk_far ?_ NB929_946.out _; refine qb ?_; exact BK929.out) hb); replace BK946 := am (blk_below (g := gb946) (o := .cells #[.slice Ao67 t942.length co67] 26 (0, 0)) (by (with_reducible repeat (first | refine blk_drewN ?_ _ | refine blk_drew ?_ | refine blk_alloc ?_ _)); refine blk_put (cs := #[.slice none 0 0]) ?_ 0 _ rfl; refine qb ?_; exact BK946.out) hb); replace HB := am (below_step qB hb); (try clear hb); (try clear hb2); (try clear hk); (try clear hi)) | ((with_reducible refine gate_callee (f := 43) rfl ?_); refine gL (some 154) Try.func43 #[.int .i64 t910, .int .i64 t909, .int .i64 t911] ?_; (with_reducible refine (impl_BoxBySum.calls kj44 t910 t909 t911 t949 t950 _ A62.out).mono ?_); rintro e w71 ⟨v951, rfl, ho0, hb⟩; refine ⟨_, rfl, ?_⟩; have n0_ := am (Kd.R_elder' (qR HO_8.out) (Kd.R_base ho0) hb); have n1_ := am (Kd.R_elder' (qR HO_930000.out) (Kd.R_base ho0) hb); have n2_ := am (Kd.R_elder' (qR HO944.out) (Kd.R_base ho0) hb); have HO952 := am (Kd.R_lower (Kd.R_new' (Kd.R_new' (Kd.R_new' ho0 (Kd.R_lt (qR HO_8.out))) (Kd.R_lt (qR HO_930000.out))) (Kd.R_lt (qR HO944.out))) (below_size qB)); replace BK929 := am (blk_below (g := gb929) (o := .cells #[.slice Ao35 t925.length co35] 26 (0, 0)) (qb BK929.out) hb); replace BK946 := am (blk_below (g := gb946) (o := .cells #[.slice Ao67 t942.length co67] 26 (0, 0)) (qb BK946.out) hb); replace HB := am (below_step qB hb); clear HO_8 HO_930000 HO944; have HO_8 := n0_; have HO_930000 := n1_; have HO944 := n2_; clear n0_ n1_ n2_; (try clear hb); (try clear hb2); (try clear hk); (try clear hi); (try clear ho0); have hcz72_0 := qz w71 BK946.out; have hfz72_0 := blk_frozen BK946.out 0) | ((with_reducible refine gate_callee (f := 48) rfl ?_); refine gL (some 160) Try.func48 #[.agg #[.slice Ao67 t942.length co67], .int .i64 t911] ?_; (with_reducible refine (impl_LabelsBySum.calls kj44 _ _ t942 t911 t953 t956 _ ?side1 ?side2 A63.out).mono ?_); (case side1 => exact qC (Kd.R_reads' HO944.out).2.2); (case side2 => exact (Kd.R_reads' HO944.out).2.1); rintro e w73 ⟨v954, rfl, ho0, hb⟩; refine ⟨_, rfl, ?_⟩; have n0_ := am (Kd.R_elder' (qR HO_8.out) (Kd.R_base ho0) hb); have n1_ := am (Kd.R_elder' (qR HO_930000.out) (Kd.R_base ho0) hb); have n2_ := am (Kd.R_elder' (qR HO944.out) (Kd.R_base ho0) hb); have n3_ := am (Kd.R_elder' (qR HO952.out) (Kd.R_base ho0) hb); have HO955 := am (Kd.R_lower (Kd.R_new' (Kd.R_new' (Kd.R_new' (Kd.R_new' ho0 (Kd.R_lt (qR HO_8.out))) (Kd.R_lt (qR HO_930000.out))) (Kd.R_lt (qR HO944.out))) (Kd.R_lt (qR HO952.out))) (below_size qB)); replace BK929 := am (blk_below (g := gb929) (o := .cells #[.slice Ao35 t925.length co35] 26 (0, 0)) (qb BK929.out) hb); replace BK946 := am (blk_below (g := gb946) (o := .cells #[.slice Ao67 t942.length co67] 26 (0, 0)) (qb BK946.out) hb); replace HB := am (below_step qB hb); clear HO_8 HO_930000 HO944 HO952; have HO_8 := n0_; have HO_930000 := n1_; have HO944 := n2_; have HO952 := n3_; clear n0_ n1_ n2_ n3_; (try clear hb); (try clear hb2); (try clear hk); (try clear hi); (try clear ho0)))
                   (try simp only [Act.put, List.setIfInBounds_toArray, List.set_cons_zero, List.set_cons_succ])
                   go_cut [198] (fun v198 wc => ∃ (kq : Nat) (x198_63 : Bool), v198 = .bool x198_63 ∧ Aside0 (laws_FnBoxesOfLabels.j3 kq t912 x198_63 = some r) ∧ Aside0 (kq ≤ kj44) ∧ Aside0 (Kd.R (Kd.int .i64) 3 wc w.heap.size (fun k_ => some k_ ≠ ((.slice Ao35 t925.length co35) : Value).ownBlock ∧ some k_ ≠ ((.slice Ao67 t942.length co67) : Value).ownBlock) v914 t912) ∧ Aside0 (Kd.R (Kd.int .i64) 3 wc w.heap.size (fun k_ => some k_ ≠ (v914 : Value).ownBlock ∧ some k_ ≠ ((.slice Ao67 t942.length co67) : Value).ownBlock) (.slice Ao35 t925.length co35) t925) ∧ Aside0 (Kd.R (Kd.int .i64) 3 wc w.heap.size (fun k_ => some k_ ≠ (v914 : Value).ownBlock ∧ some k_ ≠ ((.slice Ao35 t925.length co35) : Value).ownBlock) (.slice Ao67 t942.length co67) t942) ∧ Aside0 (wc.heap[gb929]? = some (.cells #[(.slice Ao35 t925.length co35)] 26 (0, 0))) ∧ Aside0 (wc.heap[gb946]? = some (.cells #[(.slice Ao67 t942.length co67)] 26 (0, 0))) ∧ Aside0 (Below w.heap.size w wc))
                   case first =>
                    have H := HC64.out
                    clear HC64
                    by_cases c74 : t945 = true
                    ·as_aux_lemma =>
                       subst c74
                       have H1 : (if t948 = true then (if t950 = true then (if t947 = t920 then ((laws_oSum.f kj44 t912).bind fun t957 => (if t957 = t920 then ((laws_oSame.f kj44 t949 t912).bind fun t958 => (if t958 = true then (if t956 = true then ((laws_oSame.f kj44 t953 t912).bind fun t959 => (laws_FnBoxesOfLabels.j3 kj44 t912 (!t959))) else (laws_FnBoxesOfLabels.j3 kj44 t912 false)) else (laws_FnBoxesOfLabels.j3 kj44 t912 true))) else (laws_FnBoxesOfLabels.j3 kj44 t912 true))) else (laws_FnBoxesOfLabels.j3 kj44 t912 true)) else (laws_FnBoxesOfLabels.j3 kj44 t912 true)) else (laws_FnBoxesOfLabels.j3 kj44 t912 true)) = some r := by rw [if_pos rfl] at H; exact H
                       clear H
                       have H := H1
                       clear H1
                       by_cases c75 : t948 = true
                       ·as_aux_lemma =>
                          subst c75
                          have H1 : (if t950 = true then (if t947 = t920 then ((laws_oSum.f kj44 t912).bind fun t957 => (if t957 = t920 then ((laws_oSame.f kj44 t949 t912).bind fun t958 => (if t958 = true then (if t956 = true then ((laws_oSame.f kj44 t953 t912).bind fun t959 => (laws_FnBoxesOfLabels.j3 kj44 t912 (!t959))) else (laws_FnBoxesOfLabels.j3 kj44 t912 false)) else (laws_FnBoxesOfLabels.j3 kj44 t912 true))) else (laws_FnBoxesOfLabels.j3 kj44 t912 true))) else (laws_FnBoxesOfLabels.j3 kj44 t912 true)) else (laws_FnBoxesOfLabels.j3 kj44 t912 true)) = some r := by rw [if_pos rfl] at H; exact H
                          clear H
                          have H := H1
                          clear H1
                          by_cases c76 : t950 = true
                          ·as_aux_lemma =>
                             subst c76
                             have H1 : (if t947 = t920 then ((laws_oSum.f kj44 t912).bind fun t957 => (if t957 = t920 then ((laws_oSame.f kj44 t949 t912).bind fun t958 => (if t958 = true then (if t956 = true then ((laws_oSame.f kj44 t953 t912).bind fun t959 => (laws_FnBoxesOfLabels.j3 kj44 t912 (!t959))) else (laws_FnBoxesOfLabels.j3 kj44 t912 false)) else (laws_FnBoxesOfLabels.j3 kj44 t912 true))) else (laws_FnBoxesOfLabels.j3 kj44 t912 true))) else (laws_FnBoxesOfLabels.j3 kj44 t912 true)) = some r := by rw [if_pos rfl] at H; exact H
                             clear H
                             have H := H1
                             clear H1
                             by_cases c77 : t947 = t920
                             ·as_aux_lemma =>
                                rw [if_pos c77] at H
                                have c77b0 : (t947 == t920) = true := beq_iff_eq.mpr c77
                                have c77b1 : (t947 != t920) = false := bne_eq_false_iff_eq.mpr c77
                                clear c77
                                (first | rw [c77b0] | (simp only [i64_w, i32_w]; rw [c77b0]) | skip)
                                replace H := Option.bind_eq_some_iff.mp H
                                obtain ⟨t957, A780, H⟩ := H
                                replace H : (if t957 = t920 then ((laws_oSame.f kj44 t949 t912).bind fun t958 => (if t958 = true then (if t956 = true then ((laws_oSame.f kj44 t953 t912).bind fun t959 => (laws_FnBoxesOfLabels.j3 kj44 t912 (!t959))) else (laws_FnBoxesOfLabels.j3 kj44 t912 false)) else (laws_FnBoxesOfLabels.j3 kj44 t912 true))) else (laws_FnBoxesOfLabels.j3 kj44 t912 true)) = some r := H
                                have A78 := am A780
                                clear A780
                                by_cases c79 : t957 = t920
                                ·as_aux_lemma =>
                                   rw [if_pos c79] at H
                                   have c79b0 : (t957 == t920) = true := beq_iff_eq.mpr c79
                                   have c79b1 : (t957 != t920) = false := bne_eq_false_iff_eq.mpr c79
                                   clear c79
                                   replace H := Option.bind_eq_some_iff.mp H
                                   obtain ⟨t958, A800, H⟩ := H
                                   replace H : (if t958 = true then (if t956 = true then ((laws_oSame.f kj44 t953 t912).bind fun t959 => (laws_FnBoxesOfLabels.j3 kj44 t912 (!t959))) else (laws_FnBoxesOfLabels.j3 kj44 t912 false)) else (laws_FnBoxesOfLabels.j3 kj44 t912 true)) = some r := H
                                   have A80 := am A800
                                   clear A800
                                   by_cases c81 : t958 = true
                                   ·as_aux_lemma =>
                                      subst c81
                                      have H1 : (if t956 = true then ((laws_oSame.f kj44 t953 t912).bind fun t959 => (laws_FnBoxesOfLabels.j3 kj44 t912 (!t959))) else (laws_FnBoxesOfLabels.j3 kj44 t912 false)) = some r := by rw [if_pos rfl] at H; exact H
                                      clear H
                                      have H := H1
                                      clear H1
                                      by_cases c82 : t956 = true
                                      ·as_aux_lemma =>
                                         subst c82
                                         have H1 : ((laws_oSame.f kj44 t953 t912).bind fun t959 => (laws_FnBoxesOfLabels.j3 kj44 t912 (!t959))) = some r := by rw [if_pos rfl] at H; exact H
                                         clear H
                                         have H := H1
                                         clear H1
                                         replace H := Option.bind_eq_some_iff.mp H
                                         obtain ⟨t959, A830, H⟩ := H
                                         replace H : (laws_FnBoxesOfLabels.j3 kj44 t912 (!t959)) = some r := H
                                         have A83 := am A830
                                         clear A830
                                         have H' := am H
                                         clear H
                                         obtain ⟨Ao84, co84, eo84⟩ := Kd.R_slice HO_8.out
                                         subst eo84
                                         go_wp2_with (first | (go_at_call 50; (with_reducible refine (laws_oSum.calls kj44 _ _ t912 t957 _ ?side1 ?side2 A78.out).mono ?_); (case side1 => exact qC (Kd.R_reads' HO_8.out).2.2); (case side2 => exact (Kd.R_reads' HO_8.out).2.1); rintro e w' ⟨rfl, ⟨nd, rfl⟩⟩; obtain ⟨Ao85, co85, eo85⟩ := Kd.R_slice HO952.out; subst eo85) | (go_at_call 11; (with_reducible refine (laws_oSame.calls kj44 _ _ t949 _ _ t912 true _ ?side1 ?side2 ?side3 ?side4 A80.out).mono ?_); (case side1 => exact qC (Kd.R_reads' HO952.out).2.2); (case side2 => exact (Kd.R_reads' HO952.out).2.1); (case side3 => exact qC (Kd.R_reads' HO_8.out).2.2); (case side4 => exact (Kd.R_reads' HO_8.out).2.1); rintro e w' ⟨rfl, ⟨nd, rfl⟩⟩; obtain ⟨Ao86, co86, eo86⟩ := Kd.R_slice HO955.out; subst eo86) | (go_at_call 11; (with_reducible refine (laws_oSame.calls kj44 _ _ t953 _ _ t912 t959 _ ?side1 ?side2 ?side3 ?side4 A83.out).mono ?_); (case side1 => exact qC (Kd.R_reads' HO955.out).2.2); (case side2 => exact (Kd.R_reads' HO955.out).2.1); (case side3 => exact qC (Kd.R_reads' HO_8.out).2.2); (case side4 => exact (Kd.R_reads' HO_8.out).2.1); rintro e w' ⟨rfl, ⟨nd, rfl⟩⟩))
                                         go_meet
                                         case rel => exact ⟨_, (!t959), qe, H', ⟨by have := HJ9.out; have := HJ31.out; have := HJ44.out; first | omega | exact Nat.le_refl _⟩, ⟨qR (Kd.R_mono HO_8.out (fun _ hk => ⟨hk.1.1.1, hk.1.1.2⟩))⟩, ⟨qR (Kd.R_mono HO_930000.out (fun _ hk => ⟨hk.1.1.1, hk.1.1.2⟩))⟩, ⟨qR (Kd.R_mono HO944.out (fun _ hk => ⟨hk.1.1.1.2, hk.1.1.2⟩))⟩, ⟨qb BK929.out⟩, ⟨qb BK946.out⟩, ⟨qB⟩⟩
                                      ·as_aux_lemma =>
                                         replace c82 := Bool.eq_false_iff.mpr c82
                                         subst c82
                                         have H1 : (laws_FnBoxesOfLabels.j3 kj44 t912 false) = some r := by rw [if_neg (show ¬ (false = true) by decide)] at H; exact H
                                         clear H
                                         have H := H1
                                         clear H1
                                         have H' := am H
                                         clear H
                                         obtain ⟨Ao87, co87, eo87⟩ := Kd.R_slice HO_8.out
                                         subst eo87
                                         go_wp2_with (first | (go_at_call 50; (with_reducible refine (laws_oSum.calls kj44 _ _ t912 t957 _ ?side1 ?side2 A78.out).mono ?_); (case side1 => exact qC (Kd.R_reads' HO_8.out).2.2); (case side2 => exact (Kd.R_reads' HO_8.out).2.1); rintro e w' ⟨rfl, ⟨nd, rfl⟩⟩; obtain ⟨Ao88, co88, eo88⟩ := Kd.R_slice HO952.out; subst eo88) | (go_at_call 11; (with_reducible refine (laws_oSame.calls kj44 _ _ t949 _ _ t912 true _ ?side1 ?side2 ?side3 ?side4 A80.out).mono ?_); (case side1 => exact qC (Kd.R_reads' HO952.out).2.2); (case side2 => exact (Kd.R_reads' HO952.out).2.1); (case side3 => exact qC (Kd.R_reads' HO_8.out).2.2); (case side4 => exact (Kd.R_reads' HO_8.out).2.1); rintro e w' ⟨rfl, ⟨nd, rfl⟩⟩))
                                         go_meet
                                         case rel => exact ⟨_, (false), qe, H', ⟨by have := HJ9.out; have := HJ31.out; have := HJ44.out; first | omega | exact Nat.le_refl _⟩, ⟨qR (Kd.R_mono HO_8.out (fun _ hk => ⟨hk.1.1.1, hk.1.1.2⟩))⟩, ⟨qR (Kd.R_mono HO_930000.out (fun _ hk => ⟨hk.1.1.1, hk.1.1.2⟩))⟩, ⟨qR (Kd.R_mono HO944.out (fun _ hk => ⟨hk.1.1.1.2, hk.1.1.2⟩))⟩, ⟨qb BK929.out⟩, ⟨qb BK946.out⟩, ⟨qB⟩⟩
                                   ·as_aux_lemma =>
                                      replace c81 := Bool.eq_false_iff.mpr c81
                                      subst c81
                                      have H1 : (laws_FnBoxesOfLabels.j3 kj44 t912 true) = some r := by rw [if_neg (show ¬ (false = true) by decide)] at H; exact H
                                      clear H
                                      have H := H1
                                      clear H1
                                      have H' := am H
                                      clear H
                                      obtain ⟨Ao89, co89, eo89⟩ := Kd.R_slice HO_8.out
                                      subst eo89
                                      go_wp2_with (first | (go_at_call 50; (with_reducible refine (laws_oSum.calls kj44 _ _ t912 t957 _ ?side1 ?side2 A78.out).mono ?_); (case side1 => exact qC (Kd.R_reads' HO_8.out).2.2); (case side2 => exact (Kd.R_reads' HO_8.out).2.1); rintro e w' ⟨rfl, ⟨nd, rfl⟩⟩; obtain ⟨Ao90, co90, eo90⟩ := Kd.R_slice HO952.out; subst eo90) | (go_at_call 11; (with_reducible refine (laws_oSame.calls kj44 _ _ t949 _ _ t912 false _ ?side1 ?side2 ?side3 ?side4 A80.out).mono ?_); (case side1 => exact qC (Kd.R_reads' HO952.out).2.2); (case side2 => exact (Kd.R_reads' HO952.out).2.1); (case side3 => exact qC (Kd.R_reads' HO_8.out).2.2); (case side4 => exact (Kd.R_reads' HO_8.out).2.1); rintro e w' ⟨rfl, ⟨nd, rfl⟩⟩))
                                      go_meet
                                      case rel => exact ⟨_, (true), qe, H', ⟨by have := HJ9.out; have := HJ31.out; have := HJ44.out; first | omega | exact Nat.le_refl _⟩, ⟨qR (Kd.R_mono HO_8.out (fun _ hk => ⟨hk.1.1.1, hk.1.1.2⟩))⟩, ⟨qR (Kd.R_mono HO_930000.out (fun _ hk => ⟨hk.1.1.1, hk.1.1.2⟩))⟩, ⟨qR (Kd.R_mono HO944.out (fun _ hk => ⟨hk.1.1.1.2, hk.1.1.2⟩))⟩, ⟨qb BK929.out⟩, ⟨qb BK946.out⟩, ⟨qB⟩⟩
                                ·rw [if_neg c79] at H
                                 have c79b0 : (t957 == t920) = false := beq_eq_false_iff_ne.mpr c79
                                 have c79b1 : (t957 != t920) = true := bne_iff_ne.mpr c79
                                 have H' := am H
                                 clear H
                                 obtain ⟨Ao91, co91, eo91⟩ := Kd.R_slice HO_8.out
                                 subst eo91
                                 go_wp2_with ((go_at_call 50; (with_reducible refine (laws_oSum.calls kj44 _ _ t912 t957 _ ?side1 ?side2 A78.out).mono ?_); (case side1 => exact qC (Kd.R_reads' HO_8.out).2.2); (case side2 => exact (Kd.R_reads' HO_8.out).2.1); rintro e w' ⟨rfl, ⟨nd, rfl⟩⟩))
                                 go_meet
                                 case rel => exact ⟨_, (true), qe, H', ⟨by have := HJ9.out; have := HJ31.out; have := HJ44.out; first | omega | exact Nat.le_refl _⟩, ⟨qR (Kd.R_mono HO_8.out (fun _ hk => ⟨hk.1.1.1, hk.1.1.2⟩))⟩, ⟨qR (Kd.R_mono HO_930000.out (fun _ hk => ⟨hk.1.1.1, hk.1.1.2⟩))⟩, ⟨qR (Kd.R_mono HO944.out (fun _ hk => ⟨hk.1.1.1.2, hk.1.1.2⟩))⟩, ⟨qb BK929.out⟩, ⟨qb BK946.out⟩, ⟨qB⟩⟩
                             ·rw [if_neg c77] at H
                              have c77b0 : (t947 == t920) = false := beq_eq_false_iff_ne.mpr c77
                              have c77b1 : (t947 != t920) = true := bne_iff_ne.mpr c77
                              (first | rw [c77b0] | (simp only [i64_w, i32_w]; rw [c77b0]) | skip)
                              have H' := am H
                              clear H
                              go_wp2
                              go_meet
                              case rel => exact ⟨_, (true), qe, H', ⟨by have := HJ9.out; have := HJ31.out; have := HJ44.out; first | omega | exact Nat.le_refl _⟩, ⟨qR (Kd.R_mono HO_8.out (fun _ hk => ⟨hk.1.1.1, hk.1.1.2⟩))⟩, ⟨qR (Kd.R_mono HO_930000.out (fun _ hk => ⟨hk.1.1.1, hk.1.1.2⟩))⟩, ⟨qR (Kd.R_mono HO944.out (fun _ hk => ⟨hk.1.1.1.2, hk.1.1.2⟩))⟩, ⟨qb BK929.out⟩, ⟨qb BK946.out⟩, ⟨qB⟩⟩
                          ·replace c76 := Bool.eq_false_iff.mpr c76
                           subst c76
                           have H1 : (laws_FnBoxesOfLabels.j3 kj44 t912 true) = some r := by rw [if_neg (show ¬ (false = true) by decide)] at H; exact H
                           clear H
                           have H := H1
                           clear H1
                           have H' := am H
                           clear H
                           go_wp2
                           go_meet
                           case rel => exact ⟨_, (true), qe, H', ⟨by have := HJ9.out; have := HJ31.out; have := HJ44.out; first | omega | exact Nat.le_refl _⟩, ⟨qR (Kd.R_mono HO_8.out (fun _ hk => ⟨hk.1.1.1, hk.1.1.2⟩))⟩, ⟨qR (Kd.R_mono HO_930000.out (fun _ hk => ⟨hk.1.1.1, hk.1.1.2⟩))⟩, ⟨qR (Kd.R_mono HO944.out (fun _ hk => ⟨hk.1.1.1.2, hk.1.1.2⟩))⟩, ⟨qb BK929.out⟩, ⟨qb BK946.out⟩, ⟨qB⟩⟩
                       ·replace c75 := Bool.eq_false_iff.mpr c75
                        subst c75
                        have H1 : (laws_FnBoxesOfLabels.j3 kj44 t912 true) = some r := by rw [if_neg (show ¬ (false = true) by decide)] at H; exact H
                        clear H
                        have H := H1
                        clear H1
                        have H' := am H
                        clear H
                        go_wp2
                        go_meet
                        case rel => exact ⟨_, (true), qe, H', ⟨by have := HJ9.out; have := HJ31.out; have := HJ44.out; first | omega | exact Nat.le_refl _⟩, ⟨qR (Kd.R_mono HO_8.out (fun _ hk => ⟨hk.1.1.1, hk.1.1.2⟩))⟩, ⟨qR (Kd.R_mono HO_930000.out (fun _ hk => ⟨hk.1.1.1, hk.1.1.2⟩))⟩, ⟨qR (Kd.R_mono HO944.out (fun _ hk => ⟨hk.1.1.1.2, hk.1.1.2⟩))⟩, ⟨qb BK929.out⟩, ⟨qb BK946.out⟩, ⟨qB⟩⟩
                    ·replace c74 := Bool.eq_false_iff.mpr c74
                     subst c74
                     have H1 : (laws_FnBoxesOfLabels.j3 kj44 t912 true) = some r := by rw [if_neg (show ¬ (false = true) by decide)] at H; exact H
                     clear H
                     have H := H1
                     clear H1
                     have H' := am H
                     clear H
                     go_wp2
                     go_meet
                     case rel => exact ⟨_, (true), qe, H', ⟨by have := HJ9.out; have := HJ31.out; have := HJ44.out; first | omega | exact Nat.le_refl _⟩, ⟨qR (Kd.R_mono HO_8.out (fun _ hk => ⟨hk.1.1.1, hk.1.1.2⟩))⟩, ⟨qR (Kd.R_mono HO_930000.out (fun _ hk => ⟨hk.1.1.1, hk.1.1.2⟩))⟩, ⟨qR (Kd.R_mono HO944.out (fun _ hk => ⟨hk.1.1.1.2, hk.1.1.2⟩))⟩, ⟨qb BK929.out⟩, ⟨qb BK946.out⟩, ⟨qB⟩⟩
                   case rest =>
                    clear HC64
                    try clear c1
                    try clear c2
                    try clear p2
                    try clear c3
                    try clear c4
                    try clear c5
                    try clear c6
                    try clear c7
                    try clear c8
                    try clear c15
                    try clear c15b0
                    try clear c15b1
                    try clear c15b2
                    try clear c17
                    try clear c18
                    try clear c18b0
                    try clear c18b1
                    try clear c18b2
                    try clear c21
                    try clear c21b0
                    try clear c21b1
                    try clear c28
                    try clear c30
                    try clear c40
                    try clear c40b0
                    try clear c40b1
                    try clear c40b2
                    try clear c42
                    try clear c43
                    try clear c44
                    try clear c45
                    try clear c46
                    try clear c47
                    try clear c48
                    try clear c49
                    try clear c50
                    try clear c50b0
                    try clear c50b1
                    try clear c51
                    try clear c59
                    try clear c68
                    try clear c74
                    try clear c75
                    try clear c76
                    try clear c77
                    try clear c77b0
                    try clear c77b1
                    try clear c79
                    try clear c79b0
                    try clear c79b1
                    try clear c81
                    try clear c82
                    try clear hcz36_0
                    try clear hcz38_0
                    try clear hcz51_0
                    try clear hcz54_0
                    try clear hcz57_0
                    try clear hcz69_0
                    try clear hcz72_0
                    try clear hfz36_0
                    try clear hfz38_0
                    try clear hfz51_0
                    try clear hfz54_0
                    try clear hfz57_0
                    try clear hfz69_0
                    try clear hfz72_0
                    try clear p2
                    obtain ⟨kq, x198_63, rfl, HA, HJ63, HO_8, HO_930000, HO_947000, BK929, BK946, HB⟩ := hcut
                    cases kq with
                    | zero => exact absurd HA.out (by simp [laws_FnBoxesOfLabels.j3])
                    | succ kj63 =>
                     have H := HA.out
                     clear HA
                     simp only [laws_FnBoxesOfLabels.j3] at H
                     by_cases c92 : x198_63 = true
                     ·subst c92
                      have H1 : (some false) = some r := by rw [if_pos rfl] at H; exact H
                      clear H
                      have H := H1
                      clear H1
                      obtain rfl := Option.some.inj H
                      go_wp2
                      go_ret
                      exact ⟨qr, qB⟩
                     ·as_aux_lemma =>
                        replace c92 := Bool.eq_false_iff.mpr c92
                        subst c92
                        have H1 : (laws_FnBoxesOfLabels.l0 kj63 t912 t912 (t912.length : Int) 0) = some r := by rw [if_neg (show ¬ (false = true) by decide)] at H; exact H
                        clear H
                        have H := H1
                        clear H1
                        have H' := am H
                        clear H
                        obtain ⟨Ao93, co93, eo93⟩ := Kd.R_slice HO_8.out
                        subst eo93
                        go_wp2
                        go_loopg [201] kj63 (fun kq v201 w' => ∃ (x201_5 : Int), v201 = .int .i64 x201_5 ∧ Aside0 (laws_FnBoxesOfLabels.l0 kq t912 t912 (t912.length : Int) x201_5 = some r) ∧ Aside0 (kq ≤ kj63) ∧ Aside0 (Kd.R (Kd.int .i64) 3 w' w.heap.size (fun k_ => some k_ ≠ ((.slice Ao35 t925.length co35) : Value).ownBlock ∧ some k_ ≠ ((.slice Ao67 t942.length co67) : Value).ownBlock) (.slice Ao93 t912.length co93) t912) ∧ Aside0 (Kd.R (Kd.int .i64) 3 w' w.heap.size (fun k_ => some k_ ≠ ((.slice Ao35 t925.length co35) : Value).ownBlock ∧ some k_ ≠ ((.slice Ao67 t942.length co67) : Value).ownBlock) (.slice Ao93 t912.length co93) t912) ∧ Aside0 (Kd.R (Kd.int .i64) 3 w' w.heap.size (fun k_ => some k_ ≠ ((.slice Ao93 t912.length co93) : Value).ownBlock ∧ some k_ ≠ ((.slice Ao93 t912.length co93) : Value).ownBlock ∧ some k_ ≠ ((.slice Ao67 t942.length co67) : Value).ownBlock) (.slice Ao35 t925.length co35) t925) ∧ Aside0 (Kd.R (Kd.int .i64) 3 w' w.heap.size (fun k_ => some k_ ≠ ((.slice Ao93 t912.length co93) : Value).ownBlock ∧ some k_ ≠ ((.slice Ao93 t912.length co93) : Value).ownBlock ∧ some k_ ≠ ((.slice Ao35 t925.length co35) : Value).ownBlock) (.slice Ao67 t942.length co67) t942) ∧ Aside0 (w'.heap[gb929]? = some (.cells #[(.slice Ao35 t925.length co35)] 26 (0, 0))) ∧ Aside0 (w'.heap[gb946]? = some (.cells #[(.slice Ao67 t942.length co67)] 26 (0, 0))) ∧ Aside0 (Below w.heap.size w w'))
                        case atStart => exact ⟨(0), qe, H', ⟨Nat.le_refl _⟩, ⟨qR HO_8.out⟩, ⟨qR HO_8.out⟩, ⟨qR (Kd.R_mono HO_930000.out (fun _ hk => ⟨hk.1, ⟨hk.1, hk.2⟩⟩))⟩, ⟨qR (Kd.R_mono HO_947000.out (fun _ hk => ⟨hk.1, ⟨hk.1, hk.2⟩⟩))⟩, ⟨qb BK929.out⟩, ⟨qb BK946.out⟩, ⟨qB⟩⟩
                        case round =>
                         clear H'
                         try clear c1
                         try clear c2
                         try clear p2
                         try clear c3
                         try clear c4
                         try clear c5
                         try clear c6
                         try clear c7
                         try clear c8
                         try clear c9
                         try clear c15
                         try clear c15b0
                         try clear c15b1
                         try clear c15b2
                         try clear c17
                         try clear c18
                         try clear c18b0
                         try clear c18b1
                         try clear c18b2
                         try clear c21
                         try clear c21b0
                         try clear c21b1
                         try clear c28
                         try clear c30
                         try clear c40
                         try clear c40b0
                         try clear c40b1
                         try clear c40b2
                         try clear c42
                         try clear c43
                         try clear c44
                         try clear c45
                         try clear c46
                         try clear c47
                         try clear c48
                         try clear c49
                         try clear c50
                         try clear c50b0
                         try clear c50b1
                         try clear c51
                         try clear c59
                         try clear c68
                         try clear c74
                         try clear c75
                         try clear c76
                         try clear c77
                         try clear c77b0
                         try clear c77b1
                         try clear c79
                         try clear c79b0
                         try clear c79b1
                         try clear c81
                         try clear c82
                         try clear c92
                         try clear hcz36_0
                         try clear hcz38_0
                         try clear hcz51_0
                         try clear hcz54_0
                         try clear hcz57_0
                         try clear hcz69_0
                         try clear hcz72_0
                         try clear hfz36_0
                         try clear hfz38_0
                         try clear hfz51_0
                         try clear hfz54_0
                         try clear hfz57_0
                         try clear hfz69_0
                         try clear hfz72_0
                         try clear p2
                         obtain ⟨x201_5, rfl, HA, HK5, HO_8, HO_199, HO_930000, HO_947000, BK929, BK946, HB⟩ := hrel
                         cases gk with
                         | zero => exact absurd HA.out (by simp [laws_FnBoxesOfLabels.l0])
                         | succ k5 =>
                          have H := HA.out
                          clear HA
                          simp only [laws_FnBoxesOfLabels.l0] at H
                          by_cases c94 : x201_5 < (t912.length : Int)
                          ·as_aux_lemma =>
                             rw [if_pos c94] at H
                             have c94b0 := decide_eq_true c94
                             clear c94
                             by_cases c95 : 0 ≤ x201_5
                             ·as_aux_lemma =>
                                rw [if_pos c95] at H
                                have c95b0 := decide_eq_true c95
                                clear c95
                                by_cases c96 : x201_5 < (t912.length : Int)
                                ·as_aux_lemma =>
                                   rw [if_pos c96] at H
                                   have c96b0 := decide_eq_true c96
                                   clear c96
                                   obtain ⟨ji97, hji97⟩ : ∃ j_ : Int, (wrap64 ((wrap64 ((t912.length : Int) - 1)) - x201_5)) = j_ := ⟨_, rfl⟩
                                   replace H : (if 0 ≤ (ji97) then (if (ji97) < (t912.length : Int) then (if (rd t912 (ji97)) = (rd t912 x201_5) then (laws_FnBoxesOfLabels.l0 k5 t912 t912 (t912.length : Int) (wrap64 (x201_5 + 1))) else (some false)) else (none)) else (none)) = some r := by first | (rw [hji97] at H; exact H) | (simp only [hji97] at H ⊢; exact H)
                                   have hji97w : (IntKind.i64.wrap ((wrap64 ((t912.length : Int) - 1)) - x201_5)) = ji97 := (i64_w _).trans hji97
                                   by_cases c98 : 0 ≤ (ji97)
                                   ·as_aux_lemma =>
                                      rw [if_pos c98] at H
                                      have c98b0 := decide_eq_true c98
                                      clear c98
                                      by_cases c99 : (ji97) < (t912.length : Int)
                                      ·as_aux_lemma =>
                                         rw [if_pos c99] at H
                                         have c99b0 := decide_eq_true c99
                                         clear c99
                                         by_cases c100 : (rd t912 (ji97)) = (rd t912 x201_5)
                                         ·as_aux_lemma =>
                                            rw [if_pos c100] at H
                                            have c100b0 : ((rd t912 (ji97)) == (rd t912 x201_5)) = true := beq_iff_eq.mpr c100
                                            have c100b1 : ((rd t912 (ji97)) != (rd t912 x201_5)) = false := bne_eq_false_iff_eq.mpr c100
                                            clear c100
                                            have H' := am H
                                            clear H
                                            have p960 : 0 ≤ (x201_5 : Int) := qd
                                            have q960 : x201_5 < (t912.length : Int) := qd
                                            obtain ⟨ad960, e960, hx960_0⟩ := Kd.at_int (Kd.R_reads' HO_199.out).2.2 x201_5 p960 q960
                                            cases e960
                                            replace p960 := eq_true p960
                                            replace q960 := eq_true q960
                                            have p961 : 0 ≤ ((ji97) : Int) := qd
                                            have q961 : (ji97) < (t912.length : Int) := qd
                                            obtain ⟨ad961, e961, hx961_0⟩ := Kd.at_int (Kd.R_reads' HO_8.out).2.2 (ji97) p961 q961
                                            obtain rfl : ad960 = ad961 := (by injection e961)
                                            replace p961 := eq_true p961
                                            replace q961 := eq_true q961
                                            go_wp2
                                            go_roundg k5
                                            case measure => have := HJ9.out; have := HJ31.out; have := HJ44.out; have := HJ63.out; have := HK5.out; omega
                                            case rel => exact ⟨(wrap64 (x201_5 + 1)), qe, H', ⟨by have := HJ9.out; have := HJ31.out; have := HJ44.out; have := HJ63.out; have := HK5.out; omega⟩, ⟨qR HO_8.out⟩, ⟨qR HO_199.out⟩, ⟨qR HO_930000.out⟩, ⟨qR HO_947000.out⟩, ⟨qb BK929.out⟩, ⟨qb BK946.out⟩, ⟨qB⟩⟩
                                         ·as_aux_lemma =>
                                            rw [if_neg c100] at H
                                            have c100b0 : ((rd t912 (ji97)) == (rd t912 x201_5)) = false := beq_eq_false_iff_ne.mpr c100
                                            have c100b1 : ((rd t912 (ji97)) != (rd t912 x201_5)) = true := bne_iff_ne.mpr c100
                                            obtain rfl := Option.some.inj H
                                            have p960 : 0 ≤ (x201_5 : Int) := qd
                                            have q960 : x201_5 < (t912.length : Int) := qd
                                            obtain ⟨ad960, e960, hx960_0⟩ := Kd.at_int (Kd.R_reads' HO_199.out).2.2 x201_5 p960 q960
                                            cases e960
                                            replace p960 := eq_true p960
                                            replace q960 := eq_true q960
                                            have p961 : 0 ≤ ((ji97) : Int) := qd
                                            have q961 : (ji97) < (t912.length : Int) := qd
                                            obtain ⟨ad961, e961, hx961_0⟩ := Kd.at_int (Kd.R_reads' HO_8.out).2.2 (ji97) p961 q961
                                            obtain rfl : ad960 = ad961 := (by injection e961)
                                            replace p961 := eq_true p961
                                            replace q961 := eq_true q961
                                            go_wp2
                                            go_ret
                                            exact ⟨by first | rfl | (simp [errW_none, errW_some] <;> rfl) | (simp only [← hji97]; first | rfl | (simp [errW_none, errW_some] <;> rfl)) | (simp [*, errW_none, errW_some] <;> rfl), qB⟩
                                      ·rw [if_neg c99] at H
                                       exact absurd H (by simp)
                                   ·rw [if_neg c98] at H
                                    exact absurd H (by simp)
                                ·rw [if_neg c96] at H
                                 exact absurd H (by simp)
                             ·rw [if_neg c95] at H
                              exact absurd H (by simp)
                          ·rw [if_neg c94] at H
                           have c94b0 := decide_eq_false c94
                           clear c94
                           obtain rfl := Option.some.inj H
                           go_wp2
                           go_ret
                           exact ⟨qr, qB⟩
                ·as_aux_lemma =>
                   replace c59 := Bool.eq_false_iff.mpr c59
                   subst c59
                   have H1 : (some true) = some r := by rw [if_neg (show ¬ (false = true) by decide)] at H; exact H
                   clear H
                   have H := H1
                   clear H1
                   obtain rfl := Option.some.inj H
                   go_wp2
                   go_ret
                   exact ⟨qr, qB⟩
end Go.Proofs.Ytmbojobkiainlaa.F
end
