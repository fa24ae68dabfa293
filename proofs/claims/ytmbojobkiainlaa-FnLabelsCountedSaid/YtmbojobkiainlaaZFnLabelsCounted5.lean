/- Part 5 of the texts below the row of FnLabelsCounted: printed functions with their contracts, and plain lemmas. No condition. -/
import Derived.Test.YtmbojobkiainlaaZFnLabelsCounted4
import Derived.LoopTactic
import Derived.Deep.LoopGhost
section
namespace Go.Proofs.Ytmbojobkiainlaa.F
open Go.RowKit Go.Proofs.YtmbojobkiainlaaW.PrintWords Go.Proofs.YtmbojobkiainlaaW.PrintLast Go.Proofs.YtmbojobkiainlaaW.PrintMore
attribute [local go_sem] max2_int min2_int max_two min_two max_three min_three max_four min_four
set_option linter.unusedVariables false
set_option linter.unusedSimpArgs false
def spec_l1Cur_poset.l0 : Nat → Int → List Int → Int → Int → List Int → Option (List Int × Int × Int)
 | 0, _, _, _, _, _ => none
 | k + 1, x7, x1000, x1001, x1002, x241000 => if x7 < 11 then (if x241000.length < 17592186044416 then (spec_l1Cur_poset.l0 k (wrap64 (x7 + 1)) x1000 x1001 x1002 (x241000 ++ [0])) else (none)) else (some (x241000, x1001, x1002))
def spec_l1Cur_poset.f (k : Nat) (s0_0 : List Int) (s0_1 : Int) (s0_2 : Int) (a1 : Int) : Option (List Int × Int × Int) := (spec_l1Cur_surePoset.f k s0_0 s0_1 s0_2 a1).bind fun bt235 => ((spec_l1Own.f bt235.1).bind fun t241 => ((spec_l1Cur_pick.f s0_0 bt235.2.1 bt235.2.2 20).bind fun bt244 => (if bt244.1 = 0 then ((spec_l1Cur_pick.f s0_0 bt244.2.1 bt244.2.2 (t241.length : Int)).bind fun bt247 => (if 0 ≤ bt247.1 then ((spec_l1Cur_among.f s0_0 bt247.2.1 bt247.2.2 (([(-1), 1, 3, shl .i64 1 bt247.1, 4611686018427387904] : List Int))).bind fun bt253 => (if bt247.1 < (t241.length : Int) then (some ((t241.set (bt247.1 : Int).toNat bt253.1), bt253.2.1, bt253.2.2)) else (none))) else (none))) else (if bt244.1 = 1 then (some (([] : List Int), bt244.2.1, bt244.2.2)) else (if bt244.1 = 2 then (spec_l1Cur_poset.l0 k 0 s0_0 bt244.2.1 bt244.2.2 t241) else (some (t241, bt244.2.1, bt244.2.2)))))))
theorem spec_l1Cur_poset.mono_l : ∀ k, (∀ y0 y1 y2 y3 y4, LeO (spec_l1Cur_poset.l0 k y0 y1 y2 y3 y4) (spec_l1Cur_poset.l0 (k + 1) y0 y1 y2 y3 y4))
 | 0 => fun _ _ _ _ _ r h => by simp [spec_l1Cur_poset.l0] at h
 | k + 1 => by
  have ih0 := spec_l1Cur_poset.mono_l k
  ·intro y0 y1 y2 y3 y4
   unfold spec_l1Cur_poset.l0
   repeat' first
   | (with_reducible exact spec_l1Cur_surePoset.mono _ _ _ _ _)
   | (with_reducible exact LeO.refl _)
   | (with_reducible exact LeO.none _)
   | (with_reducible refine LeO.ite ?_ ?_)
   | (with_reducible refine LeO.bind ?_ (fun _ => ?_))
   | exact ih0 _ _ _ _ _
   | exact spec_l1Cur_surePoset.mono _ _ _ _ _
   | exact LeO.none _
   | refine LeO.ite ?_ ?_
   | refine LeO.bind ?_ (fun _ => ?_)
theorem spec_l1Cur_poset.mono : ∀ a0 a1 a2 a3 k, LeO (spec_l1Cur_poset.f k a0 a1 a2 a3) (spec_l1Cur_poset.f (k + 1) a0 a1 a2 a3) := by
 intro a0 a1 a2 a3 k
 have ih0 := spec_l1Cur_poset.mono_l k
 unfold spec_l1Cur_poset.f
 repeat' first
  | (with_reducible exact spec_l1Cur_surePoset.mono _ _ _ _ _)
  | (with_reducible exact LeO.refl _)
  | (with_reducible exact LeO.none _)
  | (with_reducible refine LeO.ite ?_ ?_)
  | (with_reducible refine LeO.bind ?_ (fun _ => ?_))
  | exact ih0 _ _ _ _ _
  | exact spec_l1Cur_surePoset.mono _ _ _ _ _
  | exact LeO.none _
  | refine LeO.ite ?_ ?_
  | refine LeO.bind ?_ (fun _ => ?_)
def spec_l1Cur_poset.T6 : Bool × List (List Nat × List Nat) := (true, [([], []), ([0], [0]), ([], []), ([], []), ([], []), ([4], [4]), ([5], [5]), ([3, 6], [3, 6]), ([1, 2, 0, 1, 2, 3, 4, 5, 6, 7], [1, 2]), ([8, 7, 7, 0, 1, 2, 3, 4, 5, 6, 7], [7, 8])])
def spec_l1Cur_poset.B6 : List Nat := [0, 1, 0, 0, 0, 16, 48, 120, 255, 511]
theorem spec_l1Cur_poset.tab6 : rtab .any (opsOf Try.f64 6) = spec_l1Cur_poset.T6 := by kernel_rfl
theorem spec_l1Cur_poset.bits6 : waitsOk spec_l1Cur_poset.T6.2 spec_l1Cur_poset.B6 = true := by kernel_rfl
set_option maxHeartbeats 8000000 in
set_option maxRecDepth 100000 in
theorem spec_l1Cur_poset.calls (k : Nat) (g : Nat) (s0_0 : List Int) (s0_1 : Int) (s0_2 : Int) (a1 : Int) (r1 : List Int) (r2 : Int) (r3 : Int) (w0 w : World) (hI : IsS67 w0 w g s0_0 s0_1 s0_2) (hB : Below w0.heap.size w0 w) (h : spec_l1Cur_poset.f k s0_0 s0_1 s0_2 a1 = some (r1, r2, r3)) :
 Calls Try.prog 64 #[.pointer (some ⟨g, 0, none⟩), .int .i64 a1] w fun e w' => ∃ v0_ : Value, e = .returned (.agg #[v0_]) ∧ Kd.R (Kd.int .i64) 3 w' w.heap.size (fun _ => True) v0_ r1 ∧ IsS67 w0 w' g s0_0 r2 r3 ∧ Below w0.heap.size w0 w' ∧ KeepBut w w' g none := by
 have hu26 := Try.underlying26
 have HI0 := am hI
 have HK := am (KeepBut.refl w g none)
 have HL := am hB.size
 clear hI
 have HW0 := am hB.size
 have HB := am hB
 clear hB
 have H : ((spec_l1Cur_surePoset.f k s0_0 s0_1 s0_2 a1).bind fun bt235 => ((spec_l1Own.f bt235.1).bind fun t241 => ((spec_l1Cur_pick.f s0_0 bt235.2.1 bt235.2.2 20).bind fun bt244 => (if bt244.1 = 0 then ((spec_l1Cur_pick.f s0_0 bt244.2.1 bt244.2.2 (t241.length : Int)).bind fun bt247 => (if 0 ≤ bt247.1 then ((spec_l1Cur_among.f s0_0 bt247.2.1 bt247.2.2 (([(-1), 1, 3, shl .i64 1 bt247.1, 4611686018427387904] : List Int))).bind fun bt253 => (if bt247.1 < (t241.length : Int) then (some ((t241.set (bt247.1 : Int).toNat bt253.1), bt253.2.1, bt253.2.2)) else (none))) else (none))) else (if bt244.1 = 1 then (some (([] : List Int), bt244.2.1, bt244.2.2)) else (if bt244.1 = 2 then (spec_l1Cur_poset.l0 k 0 s0_0 bt244.2.1 bt244.2.2 t241) else (some (t241, bt244.2.1, bt244.2.2)))))))) = some (r1, r2, r3) := h
 clear h
 replace H := Option.bind_eq_some_iff.mp H
 obtain ⟨⟨t235, t238, t239⟩, A30, H⟩ := H
 replace H : ((spec_l1Own.f t235).bind fun t241 => ((spec_l1Cur_pick.f s0_0 t238 t239 20).bind fun bt244 => (if bt244.1 = 0 then ((spec_l1Cur_pick.f s0_0 bt244.2.1 bt244.2.2 (t241.length : Int)).bind fun bt247 => (if 0 ≤ bt247.1 then ((spec_l1Cur_among.f s0_0 bt247.2.1 bt247.2.2 (([(-1), 1, 3, shl .i64 1 bt247.1, 4611686018427387904] : List Int))).bind fun bt253 => (if bt247.1 < (t241.length : Int) then (some ((t241.set (bt247.1 : Int).toNat bt253.1), bt253.2.1, bt253.2.2)) else (none))) else (none))) else (if bt244.1 = 1 then (some (([] : List Int), bt244.2.1, bt244.2.2)) else (if bt244.1 = 2 then (spec_l1Cur_poset.l0 k 0 s0_0 bt244.2.1 bt244.2.2 t241) else (some (t241, bt244.2.1, bt244.2.2))))))) = some (r1, r2, r3) := H
 have A3 := am A30
 clear A30
 replace H := Option.bind_eq_some_iff.mp H
 obtain ⟨t241, A40, H⟩ := H
 replace H : ((spec_l1Cur_pick.f s0_0 t238 t239 20).bind fun bt244 => (if bt244.1 = 0 then ((spec_l1Cur_pick.f s0_0 bt244.2.1 bt244.2.2 (t241.length : Int)).bind fun bt247 => (if 0 ≤ bt247.1 then ((spec_l1Cur_among.f s0_0 bt247.2.1 bt247.2.2 (([(-1), 1, 3, shl .i64 1 bt247.1, 4611686018427387904] : List Int))).bind fun bt253 => (if bt247.1 < (t241.length : Int) then (some ((t241.set (bt247.1 : Int).toNat bt253.1), bt253.2.1, bt253.2.2)) else (none))) else (none))) else (if bt244.1 = 1 then (some (([] : List Int), bt244.2.1, bt244.2.2)) else (if bt244.1 = 2 then (spec_l1Cur_poset.l0 k 0 s0_0 bt244.2.1 bt244.2.2 t241) else (some (t241, bt244.2.1, bt244.2.2)))))) = some (r1, r2, r3) := H
 have A4 := am A40
 clear A40
 replace H := Option.bind_eq_some_iff.mp H
 obtain ⟨⟨t244, t245, t246⟩, A50, H⟩ := H
 replace H : (if t244 = 0 then ((spec_l1Cur_pick.f s0_0 t245 t246 (t241.length : Int)).bind fun bt247 => (if 0 ≤ bt247.1 then ((spec_l1Cur_among.f s0_0 bt247.2.1 bt247.2.2 (([(-1), 1, 3, shl .i64 1 bt247.1, 4611686018427387904] : List Int))).bind fun bt253 => (if bt247.1 < (t241.length : Int) then (some ((t241.set (bt247.1 : Int).toNat bt253.1), bt253.2.1, bt253.2.2)) else (none))) else (none))) else (if t244 = 1 then (some (([] : List Int), t245, t246)) else (if t244 = 2 then (spec_l1Cur_poset.l0 k 0 s0_0 t245 t246 t241) else (some (t241, t245, t246))))) = some (r1, r2, r3) := H
 have A5 := am A50
 clear A50
 by_cases c6 : t244 = 0
 ·rw [if_pos c6] at H
  have c6b0 : (t244 == 0) = true := beq_iff_eq.mpr c6
  have c6b1 : (t244 != 0) = false := bne_eq_false_iff_eq.mpr c6
  clear c6
  replace H := Option.bind_eq_some_iff.mp H
  obtain ⟨⟨t247, t248, t249⟩, A70, H⟩ := H
  replace H : (if 0 ≤ t247 then ((spec_l1Cur_among.f s0_0 t248 t249 (([(-1), 1, 3, shl .i64 1 t247, 4611686018427387904] : List Int))).bind fun bt253 => (if t247 < (t241.length : Int) then (some ((t241.set (t247 : Int).toNat bt253.1), bt253.2.1, bt253.2.2)) else (none))) else (none)) = some (r1, r2, r3) := H
  have A7 := am A70
  clear A70
  by_cases c8 : 0 ≤ t247
  rotate_left
  ·rw [if_neg c8] at H
   exact absurd H (by simp)
  rw [if_pos c8] at H
  have c8b0 := eq_true c8
  have c8b1 := decide_eq_true c8
  clear c8
  obtain ⟨ji9, hji9⟩ : ∃ j_ : Int, (shl .i64 1 t247) = j_ := ⟨_, rfl⟩
  replace H : ((spec_l1Cur_among.f s0_0 t248 t249 (([(-1), 1, 3, ji9, 4611686018427387904] : List Int))).bind fun bt253 => (if t247 < (t241.length : Int) then (some ((t241.set (t247 : Int).toNat bt253.1), bt253.2.1, bt253.2.2)) else (none))) = some (r1, r2, r3) := by first | (rw [hji9] at H; exact H) | (simp only [hji9] at H ⊢; exact H)
  (try rw [hji9] at A3)
  (try rw [hji9] at A4)
  (try rw [hji9] at A5)
  (try rw [hji9] at A7)
  have hji9_ : (IntKind.i64.wrap (1 * 2 ^ min t247.toNat 64)) = ji9 := hji9
  have hji9z : t247 ≤ 64 → (IntKind.i64.wrap (1 * 2 ^ t247.toNat)) = ji9 := shl_small hji9
  have hji9u : (IntKind.i64.wrap (2 ^ min t247.toNat 64)) = ji9 := by have h_ := hji9_; rw [Int.one_mul] at h_; exact h_
  have hji9v : t247 ≤ 64 → (IntKind.i64.wrap (2 ^ t247.toNat)) = ji9 := fun hle_ => by have h_ := hji9z hle_; rw [Int.one_mul] at h_; exact h_
  have hji9y : (wrap64 (1 * 2 ^ min t247.toNat 64)) = ji9 := (i64_w _).symm.trans hji9_
  have hji9x : t247 ≤ 64 → (wrap64 (1 * 2 ^ t247.toNat)) = ji9 := fun h_ => (i64_w _).symm.trans (hji9z h_)
  obtain ⟨y250, hy250⟩ : ∃ y_ : List Int, y_ = (([(-1), 1, 3, ji9, 4611686018427387904] : List Int)) := ⟨_, rfl⟩
  replace H : ((spec_l1Cur_among.f s0_0 t248 t249 y250).bind fun bt253 => (if t247 < (t241.length : Int) then (some ((t241.set (t247 : Int).toNat bt253.1), bt253.2.1, bt253.2.2)) else (none))) = some (r1, r2, r3) := by first | (rw [hy250]; with_reducible exact H) | (have H2_ := (Option.bind_some _ _).symm.trans H; rw [hy250]; with_reducible exact H2_) | (have H2_ := (Option.bind_some _ _).symm.trans H; with_reducible exact H2_) | with_reducible exact H | (rw [hy250]; exact H) | exact H
  have Ny250 := am hy250
  clear hy250
  replace H := Option.bind_eq_some_iff.mp H
  obtain ⟨⟨t253, t254, t255⟩, A100, H⟩ := H
  replace H : (if t247 < (t241.length : Int) then (some ((t241.set (t247 : Int).toNat t253), t254, t255)) else (none)) = some (r1, r2, r3) := H
  have A10 := am A100
  clear A100
  by_cases c11 : t247 < (t241.length : Int)
  rotate_left
  ·rw [if_neg c11] at H
   exact absurd H (by simp)
  rw [if_pos c11] at H
  have c11b0 := decide_eq_true c11
  clear c11
  obtain ⟨y256, hy256⟩ : ∃ y_ : List Int, y_ = (t241.set (t247 : Int).toNat t253) := ⟨_, rfl⟩
  replace H : (some (y256, t254, t255)) = some (r1, r2, r3) := by first | (rw [hy256]; with_reducible exact H) | (have H2_ := (Option.bind_some _ _).symm.trans H; rw [hy256]; with_reducible exact H2_) | (have H2_ := (Option.bind_some _ _).symm.trans H; with_reducible exact H2_) | with_reducible exact H | (rw [hy256]; exact H) | exact H
  have Ny256 := am hy256
  clear hy256
  simp only [Option.some.injEq, Prod.mk.injEq] at H
  obtain ⟨rfl, rfl, rfl⟩ := H
  go_enter Try.func64, Try.ntmps64
  try go_wp2_with (first | ((with_reducible refine gate_dst (N := 4) rfl ?_); refine qx (N := 4) (cs := #[.slice none 0 0]) (t := 26) ?_; intro gb234 hg w13 hbox hb; have n0_ := am (IsS67.below qI67 hb); have n1_ := am (KeepBut.trans qK (KeepBut.of_below hb g none) (.inl rfl)); have n2_ := am (below_step qB hb); have BK234 := am (hbox); have GW234 := am ((by rw [hg]; exact (keep_size (w := w) (g := g) (row := none) qK) : w.heap.size ≤ gb234)); have GE234 := am ((Nat.le_trans HW0.out (by rw [hg]; exact (keep_size (w := w) (g := g) (row := none) qK) : w.heap.size ≤ gb234) : w0.heap.size ≤ gb234)); have NB0_234 := am ((by rw [hg]; exact Nat.ne_of_lt (IsS67.lt (show IsS67 w0 _ g s0_0 s0_1 s0_2 from qI67)) : g ≠ gb234)); have NB234_0 := am ((by rw [hg]; exact Nat.ne_of_gt (IsS67.lt (show IsS67 w0 _ g s0_0 s0_1 s0_2 from qI67)) : gb234 ≠ g)); clear HI0 HK HB; have HI0 := n0_; have HK := n1_; have HB := n2_; clear n0_ n1_ n2_; clear hb hbox hg) | ((with_reducible refine gate_callee (f := 124) rfl ?_); refine gL (some 10) Try.func124 #[.pointer (some ⟨g, 0, none⟩), .int .i64 a1] ?_; (with_reducible refine (spec_l1Cur_surePoset.calls k g s0_0 s0_1 s0_2 a1 t235 t238 t239 w0 _ ?side1 ?side2 A3.out).mono ?_); (case side1 => exact qI67); (case side2 => exact qB); rintro e w14 ⟨v236, rfl, ho0, hi, hb, hk⟩; refine ⟨_, rfl, ?_⟩; replace BK234 := am (KeepBut.blk hk (g' := gb234) (o := .cells #[.slice none 0 0] 26 (0, 0)) (qb BK234.out) NB234_0.out (by simp)); have HO237 := am (Kd.R_lower ho0 (keep_size (w := w) (g := g) (row := none) qK)); have n2_ := am (KeepBut.trans qK hk (.inl rfl)); have n3_ := am (hb); replace HI0 := am (hi); clear HK HB; have HK := n2_; have HB := n3_; clear n2_ n3_; (try clear hb); (try clear hb2); (try clear hk); (try clear hi); (try clear ho0)) | ((with_reducible refine gate_dst (N := 5) rfl ?_); refine qx (N := 5) (cs := #[.slice none 0 0]) (t := 26) ?_; intro gb240 hg w15 hbox hb; replace HO237 := am (Kd.R_below (qR HO237.out) hb); have n1_ := am (IsS67.below qI67 hb); have n2_ := am (blk_below (g := gb234) (o := .cells #[.slice none 0 0] 26 (0, 0)) (qb BK234.out) hb); have n3_ := am (KeepBut.trans qK (KeepBut.of_below hb g none) (.inl rfl)); have n4_ := am (below_step qB hb); have BK240 := am (hbox); have GW240 := am ((by rw [hg]; exact (keep_size (w := w) (g := g) (row := none) qK) : w.heap.size ≤ gb240)); have GE240 := am ((Nat.le_trans HW0.out (by rw [hg]; exact (keep_size (w := w) (g := g) (row := none) qK) : w.heap.size ≤ gb240) : w0.heap.size ≤ gb240)); have NB234_240 := am ((by rw [hg]; exact Nat.ne_of_lt (blk_lt (g := gb234) (o := .cells #[.slice none 0 0] 26 (0, 0)) (qb BK234.out)) : gb234 ≠ gb240)); have NB240_234 := am ((by rw [hg]; exact Nat.ne_of_gt (blk_lt (g := gb234) (o := .cells #[.slice none 0 0] 26 (0, 0)) (qb BK234.out)) : gb240 ≠ gb234)); have NB0_240 := am ((by rw [hg]; exact Nat.ne_of_lt (IsS67.lt (show IsS67 w0 _ g s0_0 t238 t239 from qI67)) : g ≠ gb240)); have NB240_0 := am ((by rw [hg]; exact Nat.ne_of_gt (IsS67.lt (show IsS67 w0 _ g s0_0 t238 t239 from qI67)) : gb240 ≠ g)); clear HI0 BK234 HK HB; have HI0 := n1_; have BK234 := n2_; have HK := n3_; have HB := n4_; clear n1_ n2_ n3_ n4_; clear hb hbox hg; obtain ⟨Ao16, co16, eo16⟩ := Kd.R_slice HO237.out; subst eo16; have hnb17 := NB240_234.out; have hnc17 := NB234_240.out; have hnb18 := NB240_0.out; have hnc18 := NB0_240.out; have hcz19_0 := qz w15 BK240.out; have hfz19_0 := blk_frozen BK240.out 0) | ((with_reducible refine gate_callee (f := 125) rfl ?_); refine gL (some 13) Try.func125 #[.slice Ao16 t235.length co16] ?_; (with_reducible refine (spec_l1Own.calls _ _ t235 t241 _ ?side1 ?side2 A4.out).mono ?_); (case side1 => refine (Kd.R_reads' (e := 3) (base := w.heap.size) (ok := fun k_ => True) (n := t235.length) (c := co16) ?_).2.2; exact (qR ((Kd.R_mono (Kd.R_far (p := ⟨gb240, 0, none⟩) (Kd.R_types HO237.out BK240.out (by decide)) (fun _ hk => hk.2) (.slice Ao16 t235.length co16)) (fun _ h_ => h_.1))))); (case side2 => exact (Kd.R_reads' HO237.out).2.1); rintro e w20 ⟨v242, rfl, ho0, hb⟩; refine ⟨_, rfl, ?_⟩; have n0_ := am (Kd.R_elder' (qR ((Kd.R_mono (Kd.R_far (p := ⟨gb240, 0, none⟩) (Kd.R_types HO237.out BK240.out (by decide)) (fun _ hk => hk.2) (.slice Ao16 t235.length co16)) (fun _ h_ => h_.1)))) (Kd.R_base ho0) hb); have HO243 := am (Kd.R_lower (Kd.R_new' ho0 (Kd.R_lt (qR ((Kd.R_mono (Kd.R_far (p := ⟨gb240, 0, none⟩) (Kd.R_types HO237.out BK240.out (by decide)) (fun _ hk => hk.2) (.slice Ao16 t235.length co16)) (fun _ h_ => h_.1)))))) (keep_size (w := w) (g := g) (row := none) qK)); have n2_ := am (IsS67.below (show IsS67 w0 (w15.setCell ⟨gb240, 0, none⟩ (.slice Ao16 t235.length co16)) g s0_0 t238 t239 from qI67) hb); replace BK234 := am (blk_below (g := gb234) (o := .cells #[.slice none 0 0] 26 (0, 0)) (by (with_reducible repeat (first | refine blk_drewN ?_ _ | refine blk_drew ?_ | refine blk_alloc ?_ _)); refine blk_far ?_ NB234_240.out _; refine qb ?_; exact BK234.out) hb); replace BK240 := am (blk_below (g := gb240) (o := .cells #[.slice Ao16 t235.length co16] 26 (0, 0)) (by (with_reducible repeat (first | refine blk_drewN ?_ _ | refine blk_drew ?_ | refine blk_alloc ?_ _)); refine blk_put (cs := #[.slice none 0 0]) ?_ 0 _ rfl; refine qb ?_; exact BK240.out) hb); have n5_ := am (KeepBut.trans qK (KeepBut.of_below hb g none) (.inl rfl)); replace HB := am (below_step qB hb); clear HO237 HI0 HK; have HO237 := n0_; have HI0 := n2_; have HK := n5_; clear n0_ n2_ n5_; (try clear hb); (try clear hb2); (try clear hk); (try clear hi); (try clear ho0); obtain ⟨Ao21, co21, eo21⟩ := Kd.R_slice HO243.out; subst eo21; have hcz22_0 := qz w20 BK240.out; have hfz22_0 := blk_frozen BK240.out 0) | ((with_reducible refine gate_callee (f := 68) rfl ?_); refine gL (some 16) Try.func68 #[.pointer (some ⟨g, 0, none⟩), .int .i64 20] ?_; (with_reducible refine (spec_l1Cur_pick.calls g s0_0 t238 t239 20 t244 t245 t246 w0 _ ?side1 ?side2 A5.out).mono ?_); (case side1 => exact qI67); (case side2 => exact qB); rintro e w23 ⟨rfl, hi, hb, hk⟩; refine ⟨_, rfl, ?_⟩; replace BK234 := am (KeepBut.blk hk (g' := gb234) (o := .cells #[.slice none 0 0] 26 (0, 0)) (by (with_reducible repeat (first | refine blk_drewN ?_ _ | refine blk_drew ?_ | refine blk_alloc ?_ _)); refine blk_far ?_ NB234_240.out _; refine qb ?_; exact BK234.out) NB234_0.out (by simp)); replace HO237 := am (Kd.R_mono (Kd.R_keep (IsS67.apart (show IsS67 w0 _ g s0_0 t238 t239 from qI67) (qR ((Kd.R_mono (Kd.R_far (p := ⟨gb240, 0, none⟩) (Kd.R_types HO237.out BK240.out (by decide)) (fun _ hk => hk.2) (.slice Ao21 t241.length co21)) (fun _ h_ => h_.1)))) (by decide)) hk (fun _ h => h.2)) (fun _ h => h.1)); have n2_ := am (KeepBut.blk hk (g' := gb240) (o := .cells #[.slice Ao21 t241.length co21] 26 (0, 0)) (by (with_reducible repeat (first | refine blk_drewN ?_ _ | refine blk_drew ?_ | refine blk_alloc ?_ _)); refine blk_put (cs := #[.slice Ao16 t235.length co16]) ?_ 0 _ rfl; refine qb ?_; exact BK240.out) NB240_0.out (by simp)); replace HO243 := am (Kd.R_mono (Kd.R_keep (IsS67.apart (show IsS67 w0 _ g s0_0 t238 t239 from qI67) (qR ((Kd.R_mono (Kd.R_far (p := ⟨gb240, 0, none⟩) (Kd.R_types HO243.out BK240.out (by decide)) (fun _ hk => hk.2) (.slice Ao21 t241.length co21)) (fun _ h_ => h_.1)))) (by decide)) hk (fun _ h => h.2)) (fun _ h => h.1)); have n4_ := am (KeepBut.trans qK hk (.inl rfl)); have n5_ := am (hb); replace HI0 := am (hi); clear BK240 HK HB; have BK240 := n2_; have HK := n4_; have HB := n5_; clear n2_ n4_ n5_; (try clear hb); (try clear hb2); (try clear hk); (try clear hi); have hcz24_0 := qz w23 BK240.out; have hfz24_0 := blk_frozen BK240.out 0) | ((with_reducible refine gate_callee (f := 68) rfl ?_); refine gL (some 23) Try.func68 #[.pointer (some ⟨g, 0, none⟩), .int .i64 (t241.length : Int)] ?_; (with_reducible refine (spec_l1Cur_pick.calls g s0_0 t245 t246 (t241.length : Int) t247 t248 t249 w0 _ ?side1 ?side2 A7.out).mono ?_); (case side1 => exact qI67); (case side2 => exact qB); rintro e w25 ⟨rfl, hi, hb, hk⟩; refine ⟨_, rfl, ?_⟩; replace BK234 := am (KeepBut.blk hk (g' := gb234) (o := .cells #[.slice none 0 0] 26 (0, 0)) (qb BK234.out) NB234_0.out (by simp)); replace HO237 := am (Kd.R_mono (Kd.R_keep (IsS67.apart (show IsS67 w0 _ g s0_0 t245 t246 from qI67) (qR HO237.out) (by decide)) hk (fun _ h => h.2)) (fun _ h => h.1)); replace BK240 := am (KeepBut.blk hk (g' := gb240) (o := .cells #[.slice Ao21 t241.length co21] 26 (0, 0)) (qb BK240.out) NB240_0.out (by simp)); replace HO243 := am (Kd.R_mono (Kd.R_keep (IsS67.apart (show IsS67 w0 _ g s0_0 t245 t246 from qI67) (qR HO243.out) (by decide)) hk (fun _ h => h.2)) (fun _ h => h.1)); have n4_ := am (KeepBut.trans qK hk (.inl rfl)); have n5_ := am (hb); replace HI0 := am (hi); clear HK HB; have HK := n4_; have HB := n5_; clear n4_ n5_; (try clear hb); (try clear hb2); (try clear hk); (try clear hi)))
  have n0_ := am (Kd.R_drew HO237.out)
  have n1_ := am (Kd.R_drew HO243.out)
  have n2_ := am (blk_drew BK234.out)
  have n3_ := am (blk_drew BK240.out)
  have n4_ := am (IsS67.drew HI0.out)
  have n5_ := am (keep_drew HK.out)
  have n6_ := am (below_drew1 HB.out)
  clear HO237
  clear HO243
  clear BK234
  clear BK240
  clear HI0
  clear HK
  clear HB
  have HO237 := n0_
  have HO243 := n1_
  have BK234 := n2_
  have BK240 := n3_
  have HI0 := n4_
  have HK := n5_
  have HB := n6_
  clear n0_ n1_ n2_ n3_ n4_ n5_ n6_
  refine start_ (n := 10) (S := fun w' => w'.cell? ⟨gb240, 0, none⟩ = some (.slice Ao21 t241.length co21)) (ds := [9]) #[false, false, false, false, false, false, false, false, false, false] (by kernel_rfl) rfl rfl ((blk_cell BK240.out 0).trans rfl) (fun hHeld => ?_); refine with_tabW spec_l1Cur_poset.tab6 spec_l1Cur_poset.bits6 (fun HT_ HW_ => ?_)
  generalize w25.drew = w26 at HO237 HO243 BK234 BK240 HI0 HK HB hHeld ⊢
  refine pure_ (i := 0) (N := some 24) (v := ?_) (a' := ?_) #[true, false, false, false, false, false, false, false, false, false] rfl rfl (any_of HT_.out (by kernel_rfl)) (fun _ _ _ h => h) (Or.inl ⟨by rfl, ?_⟩) ?_ ?_
  rotate_left
  ·intro w'
   go_simp
   with_reducible rfl
  rotate_left
  ·exact qP
  refine pure_ (i := 2) (N := some 26) (v := ?_) (a' := ?_) #[true, false, true, false, false, false, false, false, false, false] rfl rfl (any_of HT_.out (by kernel_rfl)) (fun _ _ _ h => h) (Or.inl ⟨by rfl, ?_⟩) ?_ ?_
  rotate_left
  ·intro w'
   go_simp
   with_reducible rfl
  rotate_left
  ·exact qP
  refine pure_ (i := 3) (N := some 27) (v := ?_) (a' := ?_) #[true, false, true, true, false, false, false, false, false, false] rfl rfl (any_of HT_.out (by kernel_rfl)) (fun _ _ _ h => h) (Or.inl ⟨by rfl, ?_⟩) ?_ ?_
  rotate_left
  ·intro w'
   go_simp
   with_reducible rfl
  rotate_left
  ·exact qP
  refine pure_ (i := 4) (N := some 28) (v := ?_) (a' := ?_) #[true, false, true, true, true, false, false, false, false, false] rfl rfl (any_of HT_.out (by kernel_rfl)) (fun _ _ _ h => h) (Or.inl ⟨by rfl, ?_⟩) ?_ ?_
  rotate_left
  ·intro w'
   go_simp
   with_reducible rfl
  rotate_left
  ·exact qP
  refine pure_ (i := 5) (N := some 29) (v := ?_) (a' := ?_) #[true, false, true, true, true, true, false, false, false, false] rfl rfl (any_of HT_.out (by kernel_rfl)) (fun _ _ _ h => h) (Or.inl ⟨by rfl, ?_⟩) ?_ ?_
  rotate_left
  ·intro w'
   go_simp
   with_reducible rfl
  rotate_left
  ·exact qP
  refine take_ (i := 1) (N := some 25) (v := ?_) (a' := ?_) #[true, true, true, true, true, true, false, false, false, false] rfl rfl (take_ofW HT_.out HW_.out (by kernel_rfl)) (fun _ _ _ h => h) (Or.inl ⟨by rfl, ?_⟩) hHeld ?_ ?_
  rotate_left
  ·intro w' s0
   go_simp
   with_reducible rfl
  rotate_left
  ·exact qP
  refine one_ (i := 6) (N := some 30) #[true, true, true, true, true, true, true, false, false, false] rfl rfl (one_of HT_.out (by kernel_rfl)) (by decide) (fun K hK => ?_)
  refine Kd.R_lit_step (Kd.int .i64) _ 3 ?hg (N := 30) ?hd (xs := ([(-1), 1, 3, ji9, 4611686018427387904] : List Int)) (inner := [.int .i64 (-1), .int .i64 1, .int .i64 3, .int .i64 ji9, .int .i64 4611686018427387904]) (ok := fun _ => True) (okp := fun _ => True) ?hr ?hp (fun _ hk => hk) trivial (Below.refl _ _) (Nat.le_refl _) (by simp) ?_; (case hd => rfl); (case hg => rfl); (case hr => first | (go_simp; done) | (go_simp; rfl)); (case hp => exact (Reps.one (show Kd.M (Kd.int .i64) _ _ _ (-1) [.int .i64 (-1)] from rfl) (Reps.one (show Kd.M (Kd.int .i64) _ _ _ 1 [.int .i64 1] from rfl) (Reps.one (show Kd.M (Kd.int .i64) _ _ _ 3 [.int .i64 3] from rfl) (Reps.one (show Kd.M (Kd.int .i64) _ _ _ ji9 [.int .i64 ji9] from rfl) (Reps.one (show Kd.M (Kd.int .i64) _ _ _ 4611686018427387904 [.int .i64 4611686018427387904] from rfl) (Reps.none _ _)))))))
  intro v251 w27 ho28 hb hg_ hnew_
  clear hg_ hnew_
  (first | rw [← Ny250.out] at ho28 | (simp only [Int.reduceToNat] at ho28; rw [← Ny250.out] at ho28))
  have n0_ := am (Kd.R_elder' (qR HO237.out) (Kd.R_base ho28) hb)
  have n1_ := am (Kd.R_elder' (qR HO243.out) (Kd.R_base ho28) hb)
  have n2_ := am (Kd.R_lower (Kd.R_new' (Kd.R_new' ho28 (Kd.R_lt (qR HO237.out))) (Kd.R_lt (qR HO243.out))) (keep_size (w := w) (g := g) (row := none) qK))
  have n3_ := am (IsS67.below qI67 hb)
  have n4_ := am (blk_below (g := gb234) (o := .cells #[.slice none 0 0] 26 (0, 0)) (qb BK234.out) hb)
  have n5_ := am (blk_below (g := gb240) (o := .cells #[.slice Ao21 t241.length co21] 26 (0, 0)) (qb BK240.out) hb)
  have n6_ := am (KeepBut.trans qK (KeepBut.of_below hb g none) (.inl rfl))
  have n7_ := am (below_step qB hb)
  clear HO237
  clear HO243
  clear HI0
  clear BK234
  clear BK240
  clear HK
  clear HB
  have HO237 := n0_
  have HO243 := n1_
  have HO252 := n2_
  have HI0 := n3_
  have BK234 := n4_
  have BK240 := n5_
  have HK := n6_
  have HB := n7_
  clear n0_ n1_ n2_ n3_ n4_ n5_ n6_ n7_
  clear hb ho28
  obtain ⟨Ao29, co29, eo29⟩ := Kd.R_slice HO252.out
  (first | subst eo29 | (injection eo29 with f1_ f2_ f3_; have f4_ := f1_.symm; have f5_ := f3_.symm; clear f1_ f2_ f3_; subst f4_; subst f5_))
  refine hK.out _ _ ((blk_cell BK240.out 0).trans rfl) (fun hHeld => ?_)
  clear hK K
  refine norm_ (a' := ?_) ?_ ?_
  rotate_left
  ·show Act.put _ (some 30) _ = _
   simp only [Act.put, List.setIfInBounds_toArray, List.set_cons_zero, List.set_cons_succ, i64_w, i32_w]
   rfl
  refine one_ (i := 7) (N := some 31) #[true, true, true, true, true, true, true, true, false, false] rfl rfl (one_of HT_.out (by kernel_rfl)) (by decide) (fun K hK => ?_)
  refine goes_ Try.func67 (by kernel_rfl) rfl #[.pointer (some ⟨g, 0, none⟩), .slice Ao29 y250.length co29] (by rfl) rfl rfl qA ?_
  with_reducible refine (spec_l1Cur_among.calls g s0_0 t248 t249 _ _ y250 t253 t254 t255 w0 _ ?side1 ?side2 ?side3 ?side4 ?side5 A10.out).mono ?_
  (case side1 => exact qI67)
  (case side2 => exact qB)
  (case side3 => exact qC (Kd.R_reads' HO252.out).2.2)
  (case side4 => exact (Kd.R_reads' HO252.out).2.1)
  (case side5 => exact far_slice (IsS67.own_ne HI0.out HO252.out (by decide)))
  rintro e w30 ⟨rfl, hi, hb, hk⟩
  refine ⟨_, rfl, ?_⟩
  have n0_ := am (KeepBut.blk hk (g' := gb234) (o := .cells #[.slice none 0 0] 26 (0, 0)) (qb BK234.out) NB234_0.out (by simp))
  have n1_ := am (Kd.R_mono (Kd.R_keep (IsS67.apart (show IsS67 w0 _ g s0_0 t248 t249 from qI67) (qR HO237.out) (by decide)) hk (fun _ h => h.2)) (fun _ h => h.1))
  have n2_ := am (KeepBut.blk hk (g' := gb240) (o := .cells #[.slice Ao21 t241.length co21] 26 (0, 0)) (qb BK240.out) NB240_0.out (by simp))
  have n3_ := am (Kd.R_mono (Kd.R_keep (IsS67.apart (show IsS67 w0 _ g s0_0 t248 t249 from qI67) (qR HO243.out) (by decide)) hk (fun _ h => h.2)) (fun _ h => h.1))
  have n4_ := am (Kd.R_mono (Kd.R_keep (IsS67.apart (show IsS67 w0 _ g s0_0 t248 t249 from qI67) (qR HO252.out) (by decide)) hk (fun _ h => h.2)) (fun _ h => h.1))
  have n5_ := am (KeepBut.trans qK hk (.inl rfl))
  have n6_ := am (hb)
  have n7_ := am (hi)
  clear BK234
  clear HO237
  clear BK240
  clear HO243
  clear HO252
  clear HK
  clear HB
  clear HI0
  have BK234 := n0_
  have HO237 := n1_
  have BK240 := n2_
  have HO243 := n3_
  have HO252 := n4_
  have HK := n5_
  have HB := n6_
  have HI0 := n7_
  clear n0_ n1_ n2_ n3_ n4_ n5_ n6_ n7_
  (try clear hb)
  (try clear hb2)
  (try clear hk)
  (try clear hi)
  have p12 : 0 ≤ (t247 : Int) := qd
  have q12 : (t247 : Int) < ((t241.length : Int) : Int) := qd
  obtain ⟨go12, co12, eo12, gb12, gl12, cl12, HG12⟩ := Kd.R_form HO243.out (by omega)
  (first | cases eo12 | (injection eo12 with ea_ en_ ec_; (first | subst ea_ | (injection ea_ with ea_; subst ea_)); subst ec_; clear en_))
  have GB12 := am gb12
  have GG12 := am HG12
  clear gb12 gl12 HG12
  obtain ⟨hx12_0, hf12_0⟩ := Kd.R_celln 0 HO243.out (t247 : Int) p12 q12
  replace p12 := eq_true p12
  replace q12 := eq_true q12
  have HN0_go12 := am (show g ≠ go12 from by have h_ := IsS67.own_ne HI0.out HO243.out (by decide); intro e_; exact h_ (by rw [e_]; rfl))
  have HP31 := Kd.R_putn HO243.out (t247 : Int) t253
  rw [← Ny256.out] at HP31
  have HQ31 := am HP31
  clear HP31
  refine hK.out _ _ ((blk_cell BK240.out 0).trans rfl) (fun hHeld => ?_)
  clear hK K
  refine norm_ (a' := ?_) ?_ ?_
  rotate_left
  ·show Act.put _ (some 31) _ = _
   simp only [Act.put, List.setIfInBounds_toArray, List.set_cons_zero, List.set_cons_succ, i64_w, i32_w]
   rfl
  refine pure_ (i := 8) (N := some 32) (v := ?_) (a' := ?_) #[true, true, true, true, true, true, true, true, true, false] rfl rfl (any_of HT_.out (by kernel_rfl)) (fun _ _ _ h => h) (Or.inl ⟨by rfl, ?_⟩) ?_ ?_
  rotate_left
  ·intro w'
   go_simp
   with_reducible rfl
  rotate_left
  ·exact qP
  refine last_ (i := 9) (N := none) #[true, true, true, true, true, true, true, true, true, true] rfl rfl (one_of HT_.out (by kernel_rfl)) (by decide) (fun K hK => ?_)
  refine skip_ (w1 := ?_) (by rfl) rfl ?_ ?_
  rotate_left
  ·go_simp
   rfl
  refine hK.out _ _ ?_
  clear hK K
  refine done_ (done_of HT_.out (by kernel_rfl)) ?_
  have n0_ : Aside0 (Kd.R (Kd.int .i64) 3 (w30.setCell ⟨go12, (t247 : Int).toNat, none⟩ (.int .i64 t253)) w.heap.size (fun k_ => some k_ ≠ (.slice (some ⟨go12, 0, none⟩) t241.length co21 : Value).ownBlock ∧ some k_ ≠ (.slice Ao29 y250.length co29 : Value).ownBlock) (.slice Ao16 t235.length co16) t235) := ⟨qR (Kd.R_mono (Kd.R_far (p := ⟨go12, (t247 : Int).toNat, none⟩) (Kd.R_mono HO237.out (fun k_ hk => (⟨hk, fun e_ => hk.1.2 (by rw [e_]; rfl)⟩ : _ ∧ k_ ≠ go12))) (fun _ hk => hk.2) (.int .i64 t253)) (fun _ hk => ⟨hk.1.1.2, hk.1.2⟩))⟩
  have n1_ : Aside0 (Kd.R (Kd.int .i64) 3 (w30.setCell ⟨go12, (t247 : Int).toNat, none⟩ (.int .i64 t253)) w.heap.size (fun k_ => some k_ ≠ (.slice Ao16 t235.length co16 : Value).ownBlock ∧ some k_ ≠ (.slice Ao29 y250.length co29 : Value).ownBlock) (.slice (some ⟨go12, 0, none⟩) t241.length co21) y256) := ⟨qR (Kd.R_mono HQ31.out (fun _ hk => ⟨hk.1.2, hk.2⟩))⟩
  have n2_ : Aside0 (Kd.R (Kd.int .i64) 3 (w30.setCell ⟨go12, (t247 : Int).toNat, none⟩ (.int .i64 t253)) w.heap.size (fun k_ => some k_ ≠ (.slice Ao16 t235.length co16 : Value).ownBlock ∧ some k_ ≠ (.slice (some ⟨go12, 0, none⟩) t241.length co21 : Value).ownBlock) (.slice Ao29 y250.length co29) y250) := ⟨qR (Kd.R_mono (Kd.R_far (p := ⟨go12, (t247 : Int).toNat, none⟩) (Kd.R_mono HO252.out (fun k_ hk => (⟨hk, fun e_ => hk.2 (by rw [e_]; rfl)⟩ : _ ∧ k_ ≠ go12))) (fun _ hk => hk.2) (.int .i64 t253)) (fun _ hk => ⟨hk.1.1.2, hk.1.2⟩))⟩
  have n3_ : Aside0 ((w30.setCell ⟨go12, (t247 : Int).toNat, none⟩ (.int .i64 t253)).heap[gb234]? = some (.cells #[.slice none 0 0] 26 (0, 0))) := ⟨by (with_reducible repeat (first | refine blk_drewN ?_ _ | refine blk_drew ?_ | refine blk_alloc ?_ _)); refine blk_far ?_ (by have h_ := Kd.R_ne HO243.out BK234.out (by decide); intro e_; exact h_ (by rw [e_]; rfl)) _; refine qb ?_; exact BK234.out⟩
  have n4_ : Aside0 ((w30.setCell ⟨go12, (t247 : Int).toNat, none⟩ (.int .i64 t253)).heap[gb240]? = some (.cells #[.slice (some ⟨go12, 0, none⟩) t241.length co21] 26 (0, 0))) := ⟨by (with_reducible repeat (first | refine blk_drewN ?_ _ | refine blk_drew ?_ | refine blk_alloc ?_ _)); refine blk_far ?_ (by have h_ := Kd.R_ne HO243.out BK240.out (by decide); intro e_; exact h_ (by rw [e_]; rfl)) _; refine qb ?_; exact BK240.out⟩
  have n5_ : Aside0 (IsS67 w0 (w30.setCell ⟨go12, (t247 : Int).toNat, none⟩ (.int .i64 t253)) g s0_0 t254 t255) := ⟨qI67⟩
  have n6_ : Aside0 (KeepBut w (w30.setCell ⟨go12, (t247 : Int).toNat, none⟩ (.int .i64 t253)) g none) := ⟨qK⟩
  have n7_ : Aside0 (Below w0.heap.size w0 (w30.setCell ⟨go12, (t247 : Int).toNat, none⟩ (.int .i64 t253))) := ⟨qB⟩
  (try clear HO237)
  (try clear HO243)
  (try clear HO252)
  (try clear BK234)
  (try clear BK240)
  (try clear HI0)
  (try clear HK)
  (try clear HB)
  generalize (w30.setCell ⟨go12, (t247 : Int).toNat, none⟩ (.int .i64 t253)) = w32 at n0_ n1_ n2_ n3_ n4_ n5_ n6_ n7_ ⊢
  have HO237 := n0_
  have HO243 := n1_
  have HO252 := n2_
  have BK234 := n3_
  have BK240 := n4_
  have HI0 := n5_
  have HK := n6_
  have HB := n7_
  clear n0_ n1_ n2_ n3_ n4_ n5_ n6_ n7_
  have hcz33_0 := qz w32 BK240.out
  have hfz33_0 := blk_frozen BK240.out 0
  have hnb34 := NB234_0.out
  have hnc34 := NB0_234.out
  have hcz35_0 := qz w32 BK234.out
  have hfz35_0 := blk_frozen BK234.out 0
  try go_wp2
  refine bodyPost_ret (results_cell_row rfl _ _ gb234 26 #[.slice (some ⟨go12, 0, none⟩) t241.length co21] (0, 0) _ rfl (by (with_reducible repeat (first | refine blk_drewN ?_ _ | refine blk_drew ?_ | refine blk_alloc ?_ _)); refine blk_put (cs := #[.slice none 0 0]) ?_ 0 _ rfl; refine qb ?_; exact BK234.out) Try.underlying26 rfl (by kernel_rfl)) rfl ?_
  exact ⟨_, by first | rfl | (simp [errW_none, errW_some] <;> rfl) | (simp only [← hji9]; first | rfl | (simp [errW_none, errW_some] <;> rfl)) | (simp [*, errW_none, errW_some] <;> rfl), qR (Kd.R_mono (Kd.R_far (p := ⟨gb234, 0, none⟩) (Kd.R_types HO243.out BK234.out (by decide)) (fun _ hk => hk.2) (.slice (some ⟨go12, 0, none⟩) t241.length co21)) (fun _ hk => trivial)), qI67, qB, qK⟩
 ·rw [if_neg c6] at H
  have c6b0 : (t244 == 0) = false := beq_eq_false_iff_ne.mpr c6
  have c6b1 : (t244 != 0) = true := bne_iff_ne.mpr c6
  by_cases c36 : t244 = 1
  ·rw [if_pos c36] at H
   have c36b0 : (t244 == 1) = true := beq_iff_eq.mpr c36
   have c36b1 : (t244 != 1) = false := bne_eq_false_iff_eq.mpr c36
   clear c36
   simp only [Option.some.injEq, Prod.mk.injEq] at H
   obtain ⟨rfl, rfl, rfl⟩ := H
   go_enter Try.func64, Try.ntmps64
   go_wp2_with (first | ((with_reducible refine gate_dst (N := 4) rfl ?_); refine qx (N := 4) (cs := #[.slice none 0 0]) (t := 26) ?_; intro gb234 hg w37 hbox hb; have n0_ := am (IsS67.below qI67 hb); have n1_ := am (KeepBut.trans qK (KeepBut.of_below hb g none) (.inl rfl)); have n2_ := am (below_step qB hb); have BK234 := am (hbox); have GW234 := am ((by rw [hg]; exact (keep_size (w := w) (g := g) (row := none) qK) : w.heap.size ≤ gb234)); have GE234 := am ((Nat.le_trans HW0.out (by rw [hg]; exact (keep_size (w := w) (g := g) (row := none) qK) : w.heap.size ≤ gb234) : w0.heap.size ≤ gb234)); have NB0_234 := am ((by rw [hg]; exact Nat.ne_of_lt (IsS67.lt (show IsS67 w0 _ g s0_0 s0_1 s0_2 from qI67)) : g ≠ gb234)); have NB234_0 := am ((by rw [hg]; exact Nat.ne_of_gt (IsS67.lt (show IsS67 w0 _ g s0_0 s0_1 s0_2 from qI67)) : gb234 ≠ g)); clear HI0 HK HB; have HI0 := n0_; have HK := n1_; have HB := n2_; clear n0_ n1_ n2_; clear hb hbox hg) | ((with_reducible refine gate_callee (f := 124) rfl ?_); refine gL (some 10) Try.func124 #[.pointer (some ⟨g, 0, none⟩), .int .i64 a1] ?_; (with_reducible refine (spec_l1Cur_surePoset.calls k g s0_0 s0_1 s0_2 a1 t235 t238 t239 w0 _ ?side1 ?side2 A3.out).mono ?_); (case side1 => exact qI67); (case side2 => exact qB); rintro e w38 ⟨v236, rfl, ho0, hi, hb, hk⟩; refine ⟨_, rfl, ?_⟩; replace BK234 := am (KeepBut.blk hk (g' := gb234) (o := .cells #[.slice none 0 0] 26 (0, 0)) (qb BK234.out) NB234_0.out (by simp)); have HO237 := am (Kd.R_lower ho0 (keep_size (w := w) (g := g) (row := none) qK)); have n2_ := am (KeepBut.trans qK hk (.inl rfl)); have n3_ := am (hb); replace HI0 := am (hi); clear HK HB; have HK := n2_; have HB := n3_; clear n2_ n3_; (try clear hb); (try clear hb2); (try clear hk); (try clear hi); (try clear ho0)) | ((with_reducible refine gate_dst (N := 5) rfl ?_); refine qx (N := 5) (cs := #[.slice none 0 0]) (t := 26) ?_; intro gb240 hg w39 hbox hb; replace HO237 := am (Kd.R_below (qR HO237.out) hb); have n1_ := am (IsS67.below qI67 hb); have n2_ := am (blk_below (g := gb234) (o := .cells #[.slice none 0 0] 26 (0, 0)) (qb BK234.out) hb); have n3_ := am (KeepBut.trans qK (KeepBut.of_below hb g none) (.inl rfl)); have n4_ := am (below_step qB hb); have BK240 := am (hbox); have GW240 := am ((by rw [hg]; exact (keep_size (w := w) (g := g) (row := none) qK) : w.heap.size ≤ gb240)); have GE240 := am ((Nat.le_trans HW0.out (by rw [hg]; exact (keep_size (w := w) (g := g) (row := none) qK) : w.heap.size ≤ gb240) : w0.heap.size ≤ gb240)); have NB234_240 := am ((by rw [hg]; exact Nat.ne_of_lt (blk_lt (g := gb234) (o := .cells #[.slice none 0 0] 26 (0, 0)) (qb BK234.out)) : gb234 ≠ gb240)); have NB240_234 := am ((by rw [hg]; exact Nat.ne_of_gt (blk_lt (g := gb234) (o := .cells #[.slice none 0 0] 26 (0, 0)) (qb BK234.out)) : gb240 ≠ gb234)); have NB0_240 := am ((by rw [hg]; exact Nat.ne_of_lt (IsS67.lt (show IsS67 w0 _ g s0_0 t238 t239 from qI67)) : g ≠ gb240)); have NB240_0 := am ((by rw [hg]; exact Nat.ne_of_gt (IsS67.lt (show IsS67 w0 _ g s0_0 t238 t239 from qI67)) : gb240 ≠ g)); clear HI0 BK234 HK HB; have HI0 := n1_; have BK234 := n2_; have HK := n3_; have HB := n4_; clear n1_ n2_ n3_ n4_; clear hb hbox hg; obtain ⟨Ao40, co40, eo40⟩ := Kd.R_slice HO237.out; subst eo40; have hnb41 := NB240_234.out; have hnc41 := NB234_240.out; have hnb42 := NB240_0.out; have hnc42 := NB0_240.out; have hcz43_0 := qz w39 BK240.out; have hfz43_0 := blk_frozen BK240.out 0) | ((with_reducible refine gate_callee (f := 125) rfl ?_); refine gL (some 13) Try.func125 #[.slice Ao40 t235.length co40] ?_; (with_reducible refine (spec_l1Own.calls _ _ t235 t241 _ ?side1 ?side2 A4.out).mono ?_); (case side1 => refine (Kd.R_reads' (e := 3) (base := w.heap.size) (ok := fun k_ => True) (n := t235.length) (c := co40) ?_).2.2; exact (qR ((Kd.R_mono (Kd.R_far (p := ⟨gb240, 0, none⟩) (Kd.R_types HO237.out BK240.out (by decide)) (fun _ hk => hk.2) (.slice Ao40 t235.length co40)) (fun _ h_ => h_.1))))); (case side2 => exact (Kd.R_reads' HO237.out).2.1); rintro e w44 ⟨v242, rfl, ho0, hb⟩; refine ⟨_, rfl, ?_⟩; have n0_ := am (Kd.R_elder' (qR ((Kd.R_mono (Kd.R_far (p := ⟨gb240, 0, none⟩) (Kd.R_types HO237.out BK240.out (by decide)) (fun _ hk => hk.2) (.slice Ao40 t235.length co40)) (fun _ h_ => h_.1)))) (Kd.R_base ho0) hb); have HO243 := am (Kd.R_lower (Kd.R_new' ho0 (Kd.R_lt (qR ((Kd.R_mono (Kd.R_far (p := ⟨gb240, 0, none⟩) (Kd.R_types HO237.out BK240.out (by decide)) (fun _ hk => hk.2) (.slice Ao40 t235.length co40)) (fun _ h_ => h_.1)))))) (keep_size (w := w) (g := g) (row := none) qK)); have n2_ := am (IsS67.below (show IsS67 w0 (w39.setCell ⟨gb240, 0, none⟩ (.slice Ao40 t235.length co40)) g s0_0 t238 t239 from qI67) hb); replace BK234 := am (blk_below (g := gb234) (o := .cells #[.slice none 0 0] 26 (0, 0)) (by (with_reducible repeat (first | refine blk_drewN ?_ _ | refine blk_drew ?_ | refine blk_alloc ?_ _)); refine blk_far ?_ NB234_240.out _; refine qb ?_; exact BK234.out) hb); replace BK240 := am (blk_below (g := gb240) (o := .cells #[.slice Ao40 t235.length co40] 26 (0, 0)) (by (with_reducible repeat (first | refine blk_drewN ?_ _ | refine blk_drew ?_ | refine blk_alloc ?_ _)); refine blk_put (cs := #[.slice none 0 0]) ?_ 0 _ rfl; refine qb ?_; exact BK240.out) hb); have n5_ := am (KeepBut.trans qK (KeepBut.of_below hb g none) (.inl rfl)); replace HB := am (below_step qB hb); clear HO237 HI0 HK; have HO237 := n0_; have HI0 := n2_; have HK := n5_; clear n0_ n2_ n5_; (try clear hb); (try clear hb2); (try clear hk); (try clear hi); (try clear ho0); obtain ⟨Ao45, co45, eo45⟩ := Kd.R_slice HO243.out; subst eo45; have hcz46_0 := qz w44 BK240.out; have hfz46_0 := blk_frozen BK240.out 0) | ((with_reducible refine gate_callee (f := 68) rfl ?_); refine gL (some 16) Try.func68 #[.pointer (some ⟨g, 0, none⟩), .int .i64 20] ?_; (with_reducible refine (spec_l1Cur_pick.calls g s0_0 t238 t239 20 t244 t245 t246 w0 _ ?side1 ?side2 A5.out).mono ?_); (case side1 => exact qI67); (case side2 => exact qB); rintro e w47 ⟨rfl, hi, hb, hk⟩; refine ⟨_, rfl, ?_⟩; replace BK234 := am (KeepBut.blk hk (g' := gb234) (o := .cells #[.slice none 0 0] 26 (0, 0)) (by (with_reducible repeat (first | refine blk_drewN ?_ _ | refine blk_drew ?_ | refine blk_alloc ?_ _)); refine blk_far ?_ NB234_240.out _; refine qb ?_; exact BK234.out) NB234_0.out (by simp)); replace HO237 := am (Kd.R_mono (Kd.R_keep (IsS67.apart (show IsS67 w0 _ g s0_0 t238 t239 from qI67) (qR ((Kd.R_mono (Kd.R_far (p := ⟨gb240, 0, none⟩) (Kd.R_types HO237.out BK240.out (by decide)) (fun _ hk => hk.2) (.slice Ao45 t241.length co45)) (fun _ h_ => h_.1)))) (by decide)) hk (fun _ h => h.2)) (fun _ h => h.1)); have n2_ := am (KeepBut.blk hk (g' := gb240) (o := .cells #[.slice Ao45 t241.length co45] 26 (0, 0)) (by (with_reducible repeat (first | refine blk_drewN ?_ _ | refine blk_drew ?_ | refine blk_alloc ?_ _)); refine blk_put (cs := #[.slice Ao40 t235.length co40]) ?_ 0 _ rfl; refine qb ?_; exact BK240.out) NB240_0.out (by simp)); replace HO243 := am (Kd.R_mono (Kd.R_keep (IsS67.apart (show IsS67 w0 _ g s0_0 t238 t239 from qI67) (qR ((Kd.R_mono (Kd.R_far (p := ⟨gb240, 0, none⟩) (Kd.R_types HO243.out BK240.out (by decide)) (fun _ hk => hk.2) (.slice Ao45 t241.length co45)) (fun _ h_ => h_.1)))) (by decide)) hk (fun _ h => h.2)) (fun _ h => h.1)); have n4_ := am (KeepBut.trans qK hk (.inl rfl)); have n5_ := am (hb); replace HI0 := am (hi); clear BK240 HK HB; have BK240 := n2_; have HK := n4_; have HB := n5_; clear n2_ n4_ n5_; (try clear hb); (try clear hb2); (try clear hk); (try clear hi); have hcz48_0 := qz w47 BK240.out; have hfz48_0 := blk_frozen BK240.out 0; have hnb49 := NB234_0.out; have hnc49 := NB0_234.out; have hcz50_0 := qz w47 BK234.out; have hfz50_0 := blk_frozen BK234.out 0))
   refine bodyPost_ret (results_cell_row rfl _ _ gb234 26 #[.slice none 0 0] (0, 0) _ rfl (by (with_reducible repeat (first | refine blk_drewN ?_ _ | refine blk_drew ?_ | refine blk_alloc ?_ _)); refine blk_put (cs := #[.slice none 0 0]) ?_ 0 _ rfl; (with_reducible repeat (first | refine blk_drewN ?_ _ | refine blk_drew ?_ | refine blk_alloc ?_ _)); refine blk_far ?_ NB234_240.out _; refine qb ?_; exact BK234.out) Try.underlying26 rfl (by kernel_rfl)) rfl ?_
   exact ⟨_, qr, by first | exact Kd.R_nil _ _ _ _ _ | exact Kd.N_nil _ _ _ _ _ | exact Kd.V_nil _ _ _ _ _ | exact Kd.Q_nil _ _ _ _ _ | exact Kd.S_nil _ _ _ _ _, qI67, qB, qK⟩
  ·rw [if_neg c36] at H
   have c36b0 : (t244 == 1) = false := beq_eq_false_iff_ne.mpr c36
   have c36b1 : (t244 != 1) = true := bne_iff_ne.mpr c36
   by_cases c51 : t244 = 2
   ·rw [if_pos c51] at H
    have c51b0 : (t244 == 2) = true := beq_iff_eq.mpr c51
    have c51b1 : (t244 != 2) = false := bne_eq_false_iff_eq.mpr c51
    clear c51
    have H' := am H
    clear H
    go_enter Try.func64, Try.ntmps64
    go_wp2_with (first | ((with_reducible refine gate_dst (N := 4) rfl ?_); refine qx (N := 4) (cs := #[.slice none 0 0]) (t := 26) ?_; intro gb234 hg w52 hbox hb; have n0_ := am (IsS67.below qI67 hb); have n1_ := am (KeepBut.trans qK (KeepBut.of_below hb g none) (.inl rfl)); have n2_ := am (below_step qB hb); have BK234 := am (hbox); have GW234 := am ((by rw [hg]; exact (keep_size (w := w) (g := g) (row := none) qK) : w.heap.size ≤ gb234)); have GE234 := am ((Nat.le_trans HW0.out (by rw [hg]; exact (keep_size (w := w) (g := g) (row := none) qK) : w.heap.size ≤ gb234) : w0.heap.size ≤ gb234)); have NB0_234 := am ((by rw [hg]; exact Nat.ne_of_lt (IsS67.lt (show IsS67 w0 _ g s0_0 s0_1 s0_2 from qI67)) : g ≠ gb234)); have NB234_0 := am ((by rw [hg]; exact Nat.ne_of_gt (IsS67.lt (show IsS67 w0 _ g s0_0 s0_1 s0_2 from qI67)) : gb234 ≠ g)); clear HI0 HK HB; have HI0 := n0_; have HK := n1_; have HB := n2_; clear n0_ n1_ n2_; clear hb hbox hg) | ((with_reducible refine gate_callee (f := 124) rfl ?_); refine gL (some 10) Try.func124 #[.pointer (some ⟨g, 0, none⟩), .int .i64 a1] ?_; (with_reducible refine (spec_l1Cur_surePoset.calls k g s0_0 s0_1 s0_2 a1 t235 t238 t239 w0 _ ?side1 ?side2 A3.out).mono ?_); (case side1 => exact qI67); (case side2 => exact qB); rintro e w53 ⟨v236, rfl, ho0, hi, hb, hk⟩; refine ⟨_, rfl, ?_⟩; replace BK234 := am (KeepBut.blk hk (g' := gb234) (o := .cells #[.slice none 0 0] 26 (0, 0)) (qb BK234.out) NB234_0.out (by simp)); have HO237 := am (Kd.R_lower ho0 (keep_size (w := w) (g := g) (row := none) qK)); have n2_ := am (KeepBut.trans qK hk (.inl rfl)); have n3_ := am (hb); replace HI0 := am (hi); clear HK HB; have HK := n2_; have HB := n3_; clear n2_ n3_; (try clear hb); (try clear hb2); (try clear hk); (try clear hi); (try clear ho0)) | ((with_reducible refine gate_dst (N := 5) rfl ?_); refine qx (N := 5) (cs := #[.slice none 0 0]) (t := 26) ?_; intro gb240 hg w54 hbox hb; replace HO237 := am (Kd.R_below (qR HO237.out) hb); have n1_ := am (IsS67.below qI67 hb); have n2_ := am (blk_below (g := gb234) (o := .cells #[.slice none 0 0] 26 (0, 0)) (qb BK234.out) hb); have n3_ := am (KeepBut.trans qK (KeepBut.of_below hb g none) (.inl rfl)); have n4_ := am (below_step qB hb); have BK240 := am (hbox); have GW240 := am ((by rw [hg]; exact (keep_size (w := w) (g := g) (row := none) qK) : w.heap.size ≤ gb240)); have GE240 := am ((Nat.le_trans HW0.out (by rw [hg]; exact (keep_size (w := w) (g := g) (row := none) qK) : w.heap.size ≤ gb240) : w0.heap.size ≤ gb240)); have NB234_240 := am ((by rw [hg]; exact Nat.ne_of_lt (blk_lt (g := gb234) (o := .cells #[.slice none 0 0] 26 (0, 0)) (qb BK234.out)) : gb234 ≠ gb240)); have NB240_234 := am ((by rw [hg]; exact Nat.ne_of_gt (blk_lt (g := gb234) (o := .cells #[.slice none 0 0] 26 (0, 0)) (qb BK234.out)) : gb240 ≠ gb234)); have NB0_240 := am ((by rw [hg]; exact Nat.ne_of_lt (IsS67.lt (show IsS67 w0 _ g s0_0 t238 t239 from qI67)) : g ≠ gb240)); have NB240_0 := am ((by rw [hg]; exact Nat.ne_of_gt (IsS67.lt (show IsS67 w0 _ g s0_0 t238 t239 from qI67)) : gb240 ≠ g)); clear HI0 BK234 HK HB; have HI0 := n1_; have BK234 := n2_; have HK := n3_; have HB := n4_; clear n1_ n2_ n3_ n4_; clear hb hbox hg; obtain ⟨Ao55, co55, eo55⟩ := Kd.R_slice HO237.out; subst eo55; have hnb56 := NB240_234.out; have hnc56 := NB234_240.out; have hnb57 := NB240_0.out; have hnc57 := NB0_240.out; have hcz58_0 := qz w54 BK240.out; have hfz58_0 := blk_frozen BK240.out 0) | ((with_reducible refine gate_callee (f := 125) rfl ?_); refine gL (some 13) Try.func125 #[.slice Ao55 t235.length co55] ?_; (with_reducible refine (spec_l1Own.calls _ _ t235 t241 _ ?side1 ?side2 A4.out).mono ?_); (case side1 => refine (Kd.R_reads' (e := 3) (base := w.heap.size) (ok := fun k_ => True) (n := t235.length) (c := co55) ?_).2.2; exact (qR ((Kd.R_mono (Kd.R_far (p := ⟨gb240, 0, none⟩) (Kd.R_types HO237.out BK240.out (by decide)) (fun _ hk => hk.2) (.slice Ao55 t235.length co55)) (fun _ h_ => h_.1))))); (case side2 => exact (Kd.R_reads' HO237.out).2.1); rintro e w59 ⟨v242, rfl, ho0, hb⟩; refine ⟨_, rfl, ?_⟩; have n0_ := am (Kd.R_elder' (qR ((Kd.R_mono (Kd.R_far (p := ⟨gb240, 0, none⟩) (Kd.R_types HO237.out BK240.out (by decide)) (fun _ hk => hk.2) (.slice Ao55 t235.length co55)) (fun _ h_ => h_.1)))) (Kd.R_base ho0) hb); have HO243 := am (Kd.R_lower (Kd.R_new' ho0 (Kd.R_lt (qR ((Kd.R_mono (Kd.R_far (p := ⟨gb240, 0, none⟩) (Kd.R_types HO237.out BK240.out (by decide)) (fun _ hk => hk.2) (.slice Ao55 t235.length co55)) (fun _ h_ => h_.1)))))) (keep_size (w := w) (g := g) (row := none) qK)); have n2_ := am (IsS67.below (show IsS67 w0 (w54.setCell ⟨gb240, 0, none⟩ (.slice Ao55 t235.length co55)) g s0_0 t238 t239 from qI67) hb); replace BK234 := am (blk_below (g := gb234) (o := .cells #[.slice none 0 0] 26 (0, 0)) (by (with_reducible repeat (first | refine blk_drewN ?_ _ | refine blk_drew ?_ | refine blk_alloc ?_ _)); refine blk_far ?_ NB234_240.out _; refine qb ?_; exact BK234.out) hb); replace BK240 := am (blk_below (g := gb240) (o := .cells #[.slice Ao55 t235.length co55] 26 (0, 0)) (by (with_reducible repeat (first | refine blk_drewN ?_ _ | refine blk_drew ?_ | refine blk_alloc ?_ _)); refine blk_put (cs := #[.slice none 0 0]) ?_ 0 _ rfl; refine qb ?_; exact BK240.out) hb); have n5_ := am (KeepBut.trans qK (KeepBut.of_below hb g none) (.inl rfl)); replace HB := am (below_step qB hb); clear HO237 HI0 HK; have HO237 := n0_; have HI0 := n2_; have HK := n5_; clear n0_ n2_ n5_; (try clear hb); (try clear hb2); (try clear hk); (try clear hi); (try clear ho0); obtain ⟨Ao60, co60, eo60⟩ := Kd.R_slice HO243.out; subst eo60; have hcz61_0 := qz w59 BK240.out; have hfz61_0 := blk_frozen BK240.out 0) | ((with_reducible refine gate_callee (f := 68) rfl ?_); refine gL (some 16) Try.func68 #[.pointer (some ⟨g, 0, none⟩), .int .i64 20] ?_; (with_reducible refine (spec_l1Cur_pick.calls g s0_0 t238 t239 20 t244 t245 t246 w0 _ ?side1 ?side2 A5.out).mono ?_); (case side1 => exact qI67); (case side2 => exact qB); rintro e w62 ⟨rfl, hi, hb, hk⟩; refine ⟨_, rfl, ?_⟩; replace BK234 := am (KeepBut.blk hk (g' := gb234) (o := .cells #[.slice none 0 0] 26 (0, 0)) (by (with_reducible repeat (first | refine blk_drewN ?_ _ | refine blk_drew ?_ | refine blk_alloc ?_ _)); refine blk_far ?_ NB234_240.out _; refine qb ?_; exact BK234.out) NB234_0.out (by simp)); replace HO237 := am (Kd.R_mono (Kd.R_keep (IsS67.apart (show IsS67 w0 _ g s0_0 t238 t239 from qI67) (qR ((Kd.R_mono (Kd.R_far (p := ⟨gb240, 0, none⟩) (Kd.R_types HO237.out BK240.out (by decide)) (fun _ hk => hk.2) (.slice Ao60 t241.length co60)) (fun _ h_ => h_.1)))) (by decide)) hk (fun _ h => h.2)) (fun _ h => h.1)); have n2_ := am (KeepBut.blk hk (g' := gb240) (o := .cells #[.slice Ao60 t241.length co60] 26 (0, 0)) (by (with_reducible repeat (first | refine blk_drewN ?_ _ | refine blk_drew ?_ | refine blk_alloc ?_ _)); refine blk_put (cs := #[.slice Ao55 t235.length co55]) ?_ 0 _ rfl; refine qb ?_; exact BK240.out) NB240_0.out (by simp)); replace HO243 := am (Kd.R_mono (Kd.R_keep (IsS67.apart (show IsS67 w0 _ g s0_0 t238 t239 from qI67) (qR ((Kd.R_mono (Kd.R_far (p := ⟨gb240, 0, none⟩) (Kd.R_types HO243.out BK240.out (by decide)) (fun _ hk => hk.2) (.slice Ao60 t241.length co60)) (fun _ h_ => h_.1)))) (by decide)) hk (fun _ h => h.2)) (fun _ h => h.1)); have n4_ := am (KeepBut.trans qK hk (.inl rfl)); have n5_ := am (hb); replace HI0 := am (hi); clear BK240 HK HB; have BK240 := n2_; have HK := n4_; have HB := n5_; clear n2_ n4_ n5_; (try clear hb); (try clear hb2); (try clear hk); (try clear hi)))
    go_loopg [7] k (fun kq v7 w' => ∃ (x7_1 : Int) (x241000_1 : List Int) (u241000 : Value), v7 = .int .i64 x7_1 ∧ Aside0 (spec_l1Cur_poset.l0 kq x7_1 s0_0 t245 t246 x241000_1 = some (r1, r2, r3)) ∧ Aside0 (kq ≤ k) ∧ Aside0 (Kd.R (Kd.int .i64) 3 w' w.heap.size (fun _ => True) u241000 x241000_1) ∧ Aside0 (w'.heap[gb234]? = some (.cells #[(.slice none 0 0)] 26 (0, 0))) ∧ Aside0 (w'.heap[gb240]? = some (.cells #[u241000] 26 (0, 0))) ∧ Aside0 (IsS67 w0 w' g s0_0 t245 t246) ∧ Aside0 (KeepBut w w' g none) ∧ Aside0 (Below w0.heap.size w0 w'))
    case atStart => exact ⟨(0), (t241), (.slice Ao60 t241.length co60), qe, H', ⟨Nat.le_refl _⟩, ⟨qR (Kd.R_mono HO243.out (fun _ hk => trivial))⟩, ⟨qb BK234.out⟩, ⟨qb BK240.out⟩, ⟨qI67⟩, ⟨qK⟩, ⟨qB⟩⟩
    case round =>
     clear H'
     try clear c1
     try clear p1
     try clear q1
     try clear hx1
     try clear p2
     try clear c3
     try clear c4
     try clear c5
     try clear c6
     try clear c6b0
     try clear c6b1
     try clear p6
     try clear c8
     try clear c8b0
     try clear c8b1
     try clear c11
     try clear c11b0
     try clear c12
     try clear p12
     try clear q12
     try clear hx12
     try clear hf12
     try clear c17
     try clear c18
     try clear c34
     try clear c36
     try clear c36b0
     try clear c36b1
     try clear c41
     try clear c42
     try clear c49
     try clear c51
     try clear c51b0
     try clear c51b1
     try clear c56
     try clear c57
     try clear hcz19_0
     try clear hcz22_0
     try clear hcz24_0
     try clear hcz33_0
     try clear hcz35_0
     try clear hcz43_0
     try clear hcz46_0
     try clear hcz48_0
     try clear hcz50_0
     try clear hcz58_0
     try clear hcz61_0
     try clear hfz19_0
     try clear hfz22_0
     try clear hfz24_0
     try clear hfz33_0
     try clear hfz35_0
     try clear hfz43_0
     try clear hfz46_0
     try clear hfz48_0
     try clear hfz50_0
     try clear hfz58_0
     try clear hfz61_0
     try clear hx12_0
     try clear p12
     try clear q12
     obtain ⟨x7_1, x241000_1, u241000, rfl, HA, HK1, HO_241000, BK234, BK240, HI0, HK, HB⟩ := hrel
     cases gk with
     | zero => exact absurd HA.out (by simp [spec_l1Cur_poset.l0])
     | succ k1 =>
      have H := HA.out
      clear HA
      simp only [spec_l1Cur_poset.l0] at H
      by_cases c63 : x7_1 < 11
      ·rw [if_pos c63] at H
       have c63b0 := decide_eq_true c63
       clear c63
       by_cases c64 : x241000_1.length < 17592186044416
       rotate_left
       ·rw [if_neg c64] at H
        exact absurd H (by simp)
       rw [if_pos c64] at H
       have LMc64 := am c64
       clear c64
       obtain ⟨y257, hy257⟩ : ∃ y_ : List Int, y_ = (x241000_1 ++ [0]) := ⟨_, rfl⟩
       replace H : (spec_l1Cur_poset.l0 k1 (wrap64 (x7_1 + 1)) s0_0 t245 t246 y257) = some (r1, r2, r3) := by first | (rw [hy257]; with_reducible exact H) | (have H2_ := (Option.bind_some _ _).symm.trans H; rw [hy257]; with_reducible exact H2_) | (have H2_ := (Option.bind_some _ _).symm.trans H; with_reducible exact H2_) | with_reducible exact H | (rw [hy257]; exact H) | exact H
       have Ny257 := am hy257
       clear hy257
       have H' := am H
       clear H
       have hnb65 := NB240_234.out
       have hnc65 := NB234_240.out
       have hnb66 := NB240_0.out
       have hnc66 := NB0_240.out
       have hcz67_0 := qz wr BK240.out
       have hfz67_0 := blk_frozen BK240.out 0
       go_wp2_with (first | ((with_reducible refine gate_builtin (b := .append) (xs := #[.tmp 43, .tmp 44]) rfl ?_); at_builtin; refine Kd.R_append (Kd.int .i64) w.heap.size rfl (.tmp 43) (.tmp 44) 24 3 (.int .i64 0) 8 rfl Try.underlying24 info3 rfl (by decide) (by omega) u241000 x241000_1 0 [.int .i64 0] (fun _ => True) (fun _ => False) rfl rfl ?aP (fun _ hk => hk.elim) ?aF ?aO (Below.refl _ _) ?aS ?aL ?_; (case aP => exact rfl); (case aF => exact (fun _ _ => trivial)); (case aO => exact (qR HO_241000.out)); (case aS => exact (keep_size (w := w) (g := g) (row := none) qK)); (case aL => have := LMc64.out; omega); intro v258 w68 ho hb hg hat; rw [← Ny257.out] at ho; replace BK234 := am (blk_grown (g := gb234) (o := .cells #[.slice none 0 0] 26 (0, 0)) (qb BK234.out) hg (Kd.R_ne HO_241000.out BK234.out (by decide))); replace BK240 := am (blk_grown (g := gb240) (o := .cells #[u241000] 26 (0, 0)) (qb BK240.out) hg (Kd.R_ne HO_241000.out BK240.out (by decide))); have n2_ := am (IsS67.grown qI67 hg (IsS67.own_ne HI0.out HO_241000.out (by decide))); have n3_ := am (below_weaken qB HL.out hb); have n4_ := am (KeepBut.trans qK (KeepBut.of_grown hg g) (Kd.R_base2 HO_241000.out)); have HO259 := am (ho); clear HI0 HB HK HO_241000; have HI0 := n2_; have HB := n3_; have HK := n4_; clear n2_ n3_ n4_; clear ho hb hg hat; obtain ⟨Ao69, co69, eo69⟩ := Kd.R_slice HO259.out; subst eo69; have hcz70_0 := qz w68 BK240.out; have hfz70_0 := blk_frozen BK240.out 0))
       go_roundg k1
       case measure => have := HK1.out; omega
       case rel => exact ⟨(wrap64 (x7_1 + 1)), (y257), (.slice Ao69 y257.length co69), qe, H', ⟨by have := HK1.out; omega⟩, ⟨qR (Kd.R_mono (Kd.R_far (p := ⟨gb240, 0, none⟩) (Kd.R_types HO259.out BK240.out (by decide)) (fun _ hk => hk.2) (.slice Ao69 y257.length co69)) (fun _ hk => trivial))⟩, ⟨by (with_reducible repeat (first | refine blk_drewN ?_ _ | refine blk_drew ?_ | refine blk_alloc ?_ _)); refine blk_far ?_ NB234_240.out _; refine qb ?_; exact BK234.out⟩, ⟨by (with_reducible repeat (first | refine blk_drewN ?_ _ | refine blk_drew ?_ | refine blk_alloc ?_ _)); refine blk_put (cs := #[u241000]) ?_ 0 _ rfl; refine qb ?_; exact BK240.out⟩, ⟨qI67⟩, ⟨qK⟩, ⟨qB⟩⟩
      ·rw [if_neg c63] at H
       have c63b0 := decide_eq_false c63
       clear c63
       simp only [Option.some.injEq, Prod.mk.injEq] at H
       obtain ⟨rfl, rfl, rfl⟩ := H
       have hnb71 := NB240_234.out
       have hnc71 := NB234_240.out
       have hnb72 := NB240_0.out
       have hnc72 := NB0_240.out
       have hcz73_0 := qz wr BK240.out
       have hfz73_0 := blk_frozen BK240.out 0
       obtain ⟨Ao74, co74, eo74⟩ := Kd.R_slice HO_241000.out
       subst eo74
       have hnb75 := NB234_0.out
       have hnc75 := NB0_234.out
       have hcz76_0 := qz wr BK234.out
       have hfz76_0 := blk_frozen BK234.out 0
       go_wp2
       refine bodyPost_ret (results_cell_row rfl _ _ gb234 26 #[.slice Ao74 x241000_1.length co74] (0, 0) _ rfl (by (with_reducible repeat (first | refine blk_drewN ?_ _ | refine blk_drew ?_ | refine blk_alloc ?_ _)); refine blk_put (cs := #[.slice none 0 0]) ?_ 0 _ rfl; refine qb ?_; exact BK234.out) Try.underlying26 rfl (by kernel_rfl)) rfl ?_
       exact ⟨_, qr, qR (Kd.R_mono (Kd.R_far (p := ⟨gb234, 0, none⟩) (Kd.R_types HO_241000.out BK234.out (by decide)) (fun _ hk => hk.2) (.slice Ao74 x241000_1.length co74)) (fun _ hk => trivial)), qI67, qB, qK⟩
   ·rw [if_neg c51] at H
    have c51b0 : (t244 == 2) = false := beq_eq_false_iff_ne.mpr c51
    have c51b1 : (t244 != 2) = true := bne_iff_ne.mpr c51
    simp only [Option.some.injEq, Prod.mk.injEq] at H
    obtain ⟨rfl, rfl, rfl⟩ := H
    go_enter Try.func64, Try.ntmps64
    go_wp2_with (first | ((with_reducible refine gate_dst (N := 4) rfl ?_); refine qx (N := 4) (cs := #[.slice none 0 0]) (t := 26) ?_; intro gb234 hg w77 hbox hb; have n0_ := am (IsS67.below qI67 hb); have n1_ := am (KeepBut.trans qK (KeepBut.of_below hb g none) (.inl rfl)); have n2_ := am (below_step qB hb); have BK234 := am (hbox); have GW234 := am ((by rw [hg]; exact (keep_size (w := w) (g := g) (row := none) qK) : w.heap.size ≤ gb234)); have GE234 := am ((Nat.le_trans HW0.out (by rw [hg]; exact (keep_size (w := w) (g := g) (row := none) qK) : w.heap.size ≤ gb234) : w0.heap.size ≤ gb234)); have NB0_234 := am ((by rw [hg]; exact Nat.ne_of_lt (IsS67.lt (show IsS67 w0 _ g s0_0 s0_1 s0_2 from qI67)) : g ≠ gb234)); have NB234_0 := am ((by rw [hg]; exact Nat.ne_of_gt (IsS67.lt (show IsS67 w0 _ g s0_0 s0_1 s0_2 from qI67)) : gb234 ≠ g)); clear HI0 HK HB; have HI0 := n0_; have HK := n1_; have HB := n2_; clear n0_ n1_ n2_; clear hb hbox hg) | ((with_reducible refine gate_callee (f := 124) rfl ?_); refine gL (some 10) Try.func124 #[.pointer (some ⟨g, 0, none⟩), .int .i64 a1] ?_; (with_reducible refine (spec_l1Cur_surePoset.calls k g s0_0 s0_1 s0_2 a1 t235 t238 t239 w0 _ ?side1 ?side2 A3.out).mono ?_); (case side1 => exact qI67); (case side2 => exact qB); rintro e w78 ⟨v236, rfl, ho0, hi, hb, hk⟩; refine ⟨_, rfl, ?_⟩; replace BK234 := am (KeepBut.blk hk (g' := gb234) (o := .cells #[.slice none 0 0] 26 (0, 0)) (qb BK234.out) NB234_0.out (by simp)); have HO237 := am (Kd.R_lower ho0 (keep_size (w := w) (g := g) (row := none) qK)); have n2_ := am (KeepBut.trans qK hk (.inl rfl)); have n3_ := am (hb); replace HI0 := am (hi); clear HK HB; have HK := n2_; have HB := n3_; clear n2_ n3_; (try clear hb); (try clear hb2); (try clear hk); (try clear hi); (try clear ho0)) | ((with_reducible refine gate_dst (N := 5) rfl ?_); refine qx (N := 5) (cs := #[.slice none 0 0]) (t := 26) ?_; intro gb240 hg w79 hbox hb; replace HO237 := am (Kd.R_below (qR HO237.out) hb); have n1_ := am (IsS67.below qI67 hb); have n2_ := am (blk_below (g := gb234) (o := .cells #[.slice none 0 0] 26 (0, 0)) (qb BK234.out) hb); have n3_ := am (KeepBut.trans qK (KeepBut.of_below hb g none) (.inl rfl)); have n4_ := am (below_step qB hb); have BK240 := am (hbox); have GW240 := am ((by rw [hg]; exact (keep_size (w := w) (g := g) (row := none) qK) : w.heap.size ≤ gb240)); have GE240 := am ((Nat.le_trans HW0.out (by rw [hg]; exact (keep_size (w := w) (g := g) (row := none) qK) : w.heap.size ≤ gb240) : w0.heap.size ≤ gb240)); have NB234_240 := am ((by rw [hg]; exact Nat.ne_of_lt (blk_lt (g := gb234) (o := .cells #[.slice none 0 0] 26 (0, 0)) (qb BK234.out)) : gb234 ≠ gb240)); have NB240_234 := am ((by rw [hg]; exact Nat.ne_of_gt (blk_lt (g := gb234) (o := .cells #[.slice none 0 0] 26 (0, 0)) (qb BK234.out)) : gb240 ≠ gb234)); have NB0_240 := am ((by rw [hg]; exact Nat.ne_of_lt (IsS67.lt (show IsS67 w0 _ g s0_0 t238 t239 from qI67)) : g ≠ gb240)); have NB240_0 := am ((by rw [hg]; exact Nat.ne_of_gt (IsS67.lt (show IsS67 w0 _ g s0_0 t238 t239 from qI67)) : gb240 ≠ g)); clear HI0 BK234 HK HB; have HI0 := n1_; have BK234 := n2_; have HK := n3_; have HB := n4_; clear n1_ n2_ n3_ n4_; clear hb hbox hg; obtain ⟨Ao80, co80, eo80⟩ := Kd.R_slice HO237.out; subst eo80; have hnb81 := NB240_234.out; have hnc81 := NB234_240.out; have hnb82 := NB240_0.out; have hnc82 := NB0_240.out; have hcz83_0 := qz w79 BK240.out; have hfz83_0 := blk_frozen BK240.out 0) | ((with_reducible refine gate_callee (f := 125) rfl ?_); refine gL (some 13) Try.func125 #[.slice Ao80 t235.length co80] ?_; (with_reducible refine (spec_l1Own.calls _ _ t235 t241 _ ?side1 ?side2 A4.out).mono ?_); (case side1 => refine (Kd.R_reads' (e := 3) (base := w.heap.size) (ok := fun k_ => True) (n := t235.length) (c := co80) ?_).2.2; exact (qR ((Kd.R_mono (Kd.R_far (p := ⟨gb240, 0, none⟩) (Kd.R_types HO237.out BK240.out (by decide)) (fun _ hk => hk.2) (.slice Ao80 t235.length co80)) (fun _ h_ => h_.1))))); (case side2 => exact (Kd.R_reads' HO237.out).2.1); rintro e w84 ⟨v242, rfl, ho0, hb⟩; refine ⟨_, rfl, ?_⟩; have n0_ := am (Kd.R_elder' (qR ((Kd.R_mono (Kd.R_far (p := ⟨gb240, 0, none⟩) (Kd.R_types HO237.out BK240.out (by decide)) (fun _ hk => hk.2) (.slice Ao80 t235.length co80)) (fun _ h_ => h_.1)))) (Kd.R_base ho0) hb); have HO243 := am (Kd.R_lower (Kd.R_new' ho0 (Kd.R_lt (qR ((Kd.R_mono (Kd.R_far (p := ⟨gb240, 0, none⟩) (Kd.R_types HO237.out BK240.out (by decide)) (fun _ hk => hk.2) (.slice Ao80 t235.length co80)) (fun _ h_ => h_.1)))))) (keep_size (w := w) (g := g) (row := none) qK)); have n2_ := am (IsS67.below (show IsS67 w0 (w79.setCell ⟨gb240, 0, none⟩ (.slice Ao80 t235.length co80)) g s0_0 t238 t239 from qI67) hb); replace BK234 := am (blk_below (g := gb234) (o := .cells #[.slice none 0 0] 26 (0, 0)) (by (with_reducible repeat (first | refine blk_drewN ?_ _ | refine blk_drew ?_ | refine blk_alloc ?_ _)); refine blk_far ?_ NB234_240.out _; refine qb ?_; exact BK234.out) hb); replace BK240 := am (blk_below (g := gb240) (o := .cells #[.slice Ao80 t235.length co80] 26 (0, 0)) (by (with_reducible repeat (first | refine blk_drewN ?_ _ | refine blk_drew ?_ | refine blk_alloc ?_ _)); refine blk_put (cs := #[.slice none 0 0]) ?_ 0 _ rfl; refine qb ?_; exact BK240.out) hb); have n5_ := am (KeepBut.trans qK (KeepBut.of_below hb g none) (.inl rfl)); replace HB := am (below_step qB hb); clear HO237 HI0 HK; have HO237 := n0_; have HI0 := n2_; have HK := n5_; clear n0_ n2_ n5_; (try clear hb); (try clear hb2); (try clear hk); (try clear hi); (try clear ho0); obtain ⟨Ao85, co85, eo85⟩ := Kd.R_slice HO243.out; subst eo85; have hcz86_0 := qz w84 BK240.out; have hfz86_0 := blk_frozen BK240.out 0) | ((with_reducible refine gate_callee (f := 68) rfl ?_); refine gL (some 16) Try.func68 #[.pointer (some ⟨g, 0, none⟩), .int .i64 20] ?_; (with_reducible refine (spec_l1Cur_pick.calls g s0_0 t238 t239 20 t244 t245 t246 w0 _ ?side1 ?side2 A5.out).mono ?_); (case side1 => exact qI67); (case side2 => exact qB); rintro e w87 ⟨rfl, hi, hb, hk⟩; refine ⟨_, rfl, ?_⟩; replace BK234 := am (KeepBut.blk hk (g' := gb234) (o := .cells #[.slice none 0 0] 26 (0, 0)) (by (with_reducible repeat (first | refine blk_drewN ?_ _ | refine blk_drew ?_ | refine blk_alloc ?_ _)); refine blk_far ?_ NB234_240.out _; refine qb ?_; exact BK234.out) NB234_0.out (by simp)); replace HO237 := am (Kd.R_mono (Kd.R_keep (IsS67.apart (show IsS67 w0 _ g s0_0 t238 t239 from qI67) (qR ((Kd.R_mono (Kd.R_far (p := ⟨gb240, 0, none⟩) (Kd.R_types HO237.out BK240.out (by decide)) (fun _ hk => hk.2) (.slice Ao85 t241.length co85)) (fun _ h_ => h_.1)))) (by decide)) hk (fun _ h => h.2)) (fun _ h => h.1)); have n2_ := am (KeepBut.blk hk (g' := gb240) (o := .cells #[.slice Ao85 t241.length co85] 26 (0, 0)) (by (with_reducible repeat (first | refine blk_drewN ?_ _ | refine blk_drew ?_ | refine blk_alloc ?_ _)); refine blk_put (cs := #[.slice Ao80 t235.length co80]) ?_ 0 _ rfl; refine qb ?_; exact BK240.out) NB240_0.out (by simp)); replace HO243 := am (Kd.R_mono (Kd.R_keep (IsS67.apart (show IsS67 w0 _ g s0_0 t238 t239 from qI67) (qR ((Kd.R_mono (Kd.R_far (p := ⟨gb240, 0, none⟩) (Kd.R_types HO243.out BK240.out (by decide)) (fun _ hk => hk.2) (.slice Ao85 t241.length co85)) (fun _ h_ => h_.1)))) (by decide)) hk (fun _ h => h.2)) (fun _ h => h.1)); have n4_ := am (KeepBut.trans qK hk (.inl rfl)); have n5_ := am (hb); replace HI0 := am (hi); clear BK240 HK HB; have BK240 := n2_; have HK := n4_; have HB := n5_; clear n2_ n4_ n5_; (try clear hb); (try clear hb2); (try clear hk); (try clear hi); have hcz88_0 := qz w87 BK240.out; have hfz88_0 := blk_frozen BK240.out 0; have hnb89 := NB234_0.out; have hnc89 := NB0_234.out; have hcz90_0 := qz w87 BK234.out; have hfz90_0 := blk_frozen BK234.out 0))
    refine bodyPost_ret (results_cell_row rfl _ _ gb234 26 #[.slice Ao85 t241.length co85] (0, 0) _ rfl (by (with_reducible repeat (first | refine blk_drewN ?_ _ | refine blk_drew ?_ | refine blk_alloc ?_ _)); refine blk_put (cs := #[.slice none 0 0]) ?_ 0 _ rfl; refine qb ?_; exact BK234.out) Try.underlying26 rfl (by kernel_rfl)) rfl ?_
    exact ⟨_, qr, qR (Kd.R_mono (Kd.R_far (p := ⟨gb234, 0, none⟩) (Kd.R_types HO243.out BK234.out (by decide)) (fun _ hk => hk.2) (.slice Ao85 t241.length co85)) (fun _ hk => trivial)), qI67, qB, qK⟩
end Go.Proofs.Ytmbojobkiainlaa.F
end

section
namespace Go.Proofs.Ytmbojobkiainlaa.Q
open Go.RowKit Go.Proofs.YtmbojobkiainlaaW.PrintWords Go.Proofs.Ytmbojobkiainlaa.F
set_option linter.unusedVariables false
def okPo : Option (List Int) → Bool
 | some p => decide (1 ≤ p.length) && (decide (p.length ≤ 10) && p.all fun n => (Lit.int .i64 n).wf)
 | none => false
theorem okPo_parts {o : Option (List Int)} (h : okPo o = true) : ∃ p, o = some p ∧ 1 ≤ p.length ∧ p.length ≤ 10 ∧ wfL p := by
 cases o with
 | none => cases h
 | some p =>
  simp only [okPo, Bool.and_eq_true, decide_eq_true_eq, List.all_eq_true] at h
  exact ⟨p, rfl, h.1, h.2.1, h.2.2⟩
theorem allPoRect : (List.range 2).all (fun a => (List.range 5).all fun b => okPo (spec_poRectangle.f 200 ((a : Int) + 1) ((b : Int) + 1))) = true := by decide +kernel
theorem allPoStair : (List.range 2).all (fun a => okPo ((spec_Staircase.f 200 ((a : Int) + 1)).map Prod.fst)) = true := by decide +kernel
theorem allPoFence : (List.range 10).all (fun a => okPo ((spec_Fence.f 400 ((a : Int) + 1)).map Prod.fst)) = true := by decide +kernel
structure Drawn (p : List Int) (n : Nat) : Prop where
 len : p.length ≤ n
 wf : wfL p
theorem sure_loop {l : List Int} (hl : bytesL l) {n : Nat} (hn1 : 1 ≤ n) (hn : n ≤ 100) : ∀ (d : Nat) (ps : List (List Int)) (B : Nat) (a s : Int), d ≤ 200 → ps.length + d ≤ 400 → pairsOk n ps → cAt B a → B + 4 * d ≤ 100000 →
 ∃ p a' s', Ev (fun k => spec_l1Cur_surePoset.l0 k (n : Int) ps (d : Int) l a s) (p, a', s') ∧ p.length = n ∧ wfL p ∧ cAt (B + 4 * d) a' := by
 intro d
 induction d with
 | zero =>
  intro ps B a s _ _ hp ha hB
  obtain ⟨r, g1, g2, g3⟩ := poFrom_ok (by omega) hp
  refine ⟨r, a, s, Ev.step (by intro k; simp only [spec_l1Cur_surePoset.l0]; rfl) (Ev.no (by omega) (Ev.step (by intro k; simp only [spec_l1Cur_surePoset.j1]; rfl) (Ev.no (by simp) (Ev.bind g1 (Ev.now _))))), g2, g3, ha⟩
 | succ d ih =>
  intro ps B a s hd hps hp ha hB
  by_cases h1 : n = 1
  ·obtain ⟨r, g1, g2, g3⟩ := poFrom_ok (by omega) hp
   refine ⟨r, a, s, Ev.step (by intro k; simp only [spec_l1Cur_surePoset.l0]; rfl) (Ev.yes (by omega) ?_), g2, g3, cAt_mono ha (by omega)⟩
   rw [decide_eq_false (by omega)]
   exact Ev.step (by intro k; simp only [spec_l1Cur_surePoset.j1]; rfl) (Ev.no (by simp) (Ev.bind g1 (Ev.now _)))
  ·obtain ⟨x, a1, s1, e1, h2, x0, x1⟩ := cpick_ok hl s (wrap64 ((n : Int) - 1)) ha (by omega)
   have hw1 : wrap64 ((n : Int) - 1) = (n : Int) - 1 := wid (by omega) (by omega)
   rw [hw1] at x1
   have hxn : x < (n : Int) - 1 ∨ x = 0 := by omega
   have hxl : 0 ≤ x ∧ x + 1 < (n : Int) := by omega
   obtain ⟨y, a2, s2, e2, h3, y0, y1⟩ := cpick_ok hl s1 (wrap64 ((wrap64 ((n : Int) - 1)) - x)) h2 (by omega)
   have hrow : pairsOk n (ps ++ [([x, wrap64 ((wrap64 (x + 1)) + y)] : List Int)]) := by
    refine ⟨by rw [List.length_append, List.length_singleton]; omega, fun c hc => ?_⟩
    rcases List.mem_append.1 hc with h | h
    ·exact hp.2 c h
    ·rw [List.mem_singleton.1 h]
     exact ⟨rfl, by show 0 ≤ x; omega, by show x < _; omega⟩
   obtain ⟨p, a', s', g1, g2, g3, g4⟩ := ih _ (B + 2 + 2) a2 s2 (by omega) (by rw [List.length_append, List.length_singleton]; omega) hrow h3 (by omega)
   refine ⟨p, a', s', Ev.step (by intro k; simp only [spec_l1Cur_surePoset.l0]; rfl) (Ev.yes (by omega) ?_), g2, g3, cAt_mono g4 (by omega)⟩
   rw [decide_eq_true (by omega)]
   refine Ev.step (by intro k; simp only [spec_l1Cur_surePoset.j1]; rfl) (Ev.yes (show true = true from rfl) ?_)
   refine Ev.call e1 (Ev.call e2 (Ev.yes (by omega) ?_))
   rw [show wrap64 (((d + 1 : Nat) : Int) - 1) = (d : Int) by rw [wid (by omega) (by omega)]; omega]
   exact g1
theorem sure_ok {l : List Int} (hl : bytesL l) {B : Nat} {a : Int} (s : Int) {most : Nat} (h1 : 1 ≤ most) (h2 : most ≤ 10) (ha : cAt B a) (hB : B ≤ 10000) : ∃ p a' s', Ev (fun k => spec_l1Cur_surePoset.f k l a s (most : Int)) (p, a', s') ∧ 1 ≤ p.length ∧ p.length ≤ 10 ∧ wfL p ∧ cAt (B + 100) a' := by
 unfold spec_l1Cur_surePoset.f
 obtain ⟨c, a0, s0, e0, hc, c0, c1⟩ := cpick_ok hl s 5 ha (by omega)
 by_cases q0 : c = 0
 ·obtain ⟨x, a1, s1, e1, hx, x0, x1⟩ := cpick_ok hl s0 2 hc (by omega)
  obtain ⟨t, ht, t1, t5⟩ : ∃ t : Nat, spec_l1Most.f 1 (wrap64 (Int.tdiv (most : Int) 2)) = some (t : Int) ∧ 1 ≤ t ∧ t ≤ 5 := by
   have e : wrap64 (Int.tdiv (most : Int) 2) = ((most / 2 : Nat) : Int) := by
    rw [Int.tdiv_eq_ediv_of_nonneg (by omega), wid (by omega) (by omega)]; omega
   unfold spec_l1Most.f
   rw [e]
   by_cases h : (1 : Int) > ((most / 2 : Nat) : Int)
   ·rw [if_pos h]; exact ⟨1, rfl, by omega, by omega⟩
   ·rw [if_neg h]; exact ⟨most / 2, rfl, by omega, by omega⟩
  obtain ⟨y, a2, s2, e2, hy, y0, y1⟩ := cpick_ok hl s1 (t : Int) hx (by omega)
  obtain ⟨u, rfl⟩ := Int.eq_ofNat_of_zero_le x0
  obtain ⟨v, rfl⟩ := Int.eq_ofNat_of_zero_le y0
  have hk := List.all_eq_true.1 (List.all_eq_true.1 allPoRect u (List.mem_range.2 (by omega))) v (List.mem_range.2 (by omega))
  obtain ⟨p, g1, g2, g3, g4⟩ := okPo_parts hk
  refine ⟨p, a2, s2, Ev.call e0 (Ev.yes q0 (Ev.call e1 (Ev.call ht (Ev.call e2 ?_)))), g2, g3, g4, cAt_mono hy (by omega)⟩
  rw [show wrap64 (1 + (u : Int)) = (u : Int) + 1 by rw [wid (by omega) (by omega)]; omega, show wrap64 (1 + (v : Int)) = (v : Int) + 1 by rw [wid (by omega) (by omega)]; omega]
  exact Ev.bind (Ev.of (spec_poRectangle.mono _ _) g1) (Ev.now _)
 by_cases q1 : c = 1
 ·obtain ⟨x, a1, s1, e1, hx, x0, x1⟩ := cpick_ok hl s0 2 hc (by omega)
  obtain ⟨u, rfl⟩ := Int.eq_ofNat_of_zero_le x0
  have hk := List.all_eq_true.1 allPoStair u (List.mem_range.2 (by omega))
  obtain ⟨p, g1, g2, g3, g4⟩ := okPo_parts hk
  obtain ⟨⟨p2, b2⟩, g5, g6⟩ := Option.map_eq_some_iff.1 g1
  have g6 : p2 = p := g6
  subst g6
  refine ⟨p2, a1, s1, Ev.call e0 (Ev.no q0 (Ev.yes q1 (Ev.call e1 ?_))), g2, g3, g4, cAt_mono hx (by omega)⟩
  rw [show wrap64 (1 + (u : Int)) = (u : Int) + 1 by rw [wid (by omega) (by omega)]; omega]
  exact Ev.bind (Ev.of (spec_Staircase.mono _) g5) (Ev.now _)
 obtain ⟨x, a1, s1, e1, hx, x0, x1⟩ := cpick_ok hl s0 (most : Int) hc (by omega)
 obtain ⟨u, rfl⟩ := Int.eq_ofNat_of_zero_le x0
 have hu : u < 10 := by omega
 by_cases q2 : c = 2
 ·have hk := List.all_eq_true.1 allPoFence u (List.mem_range.2 hu)
  obtain ⟨p, g1, g2, g3, g4⟩ := okPo_parts hk
  obtain ⟨⟨p2, b2⟩, g5, g6⟩ := Option.map_eq_some_iff.1 g1
  have g6 : p2 = p := g6
  subst g6
  refine ⟨p2, a1, s1, Ev.call e0 (Ev.no q0 (Ev.no q1 (Ev.yes q2 (Ev.call e1 ?_)))), g2, g3, g4, cAt_mono hx (by omega)⟩
  rw [show wrap64 (1 + (u : Int)) = (u : Int) + 1 by rw [wid (by omega) (by omega)]; omega]
  exact Ev.bind (Ev.of (spec_Fence.mono _) g5) (Ev.now _)
 have hw : wrap64 (1 + (u : Int)) = ((u + 1 : Nat) : Int) := by rw [wid (by omega) (by omega)]; omega
 have hw2 : wrap64 (2 * (wrap64 (1 + (u : Int)))) = ((2 * (u + 1) : Nat) : Int) := by rw [hw, wid (by omega) (by omega)]; omega
 obtain ⟨y, a2, s2, e2, hy, y0, y1⟩ := cpick_ok hl s1 (wrap64 (2 * (wrap64 (1 + (u : Int))))) hx (by omega)
 rw [hw2] at y1
 obtain ⟨v, rfl⟩ := Int.eq_ofNat_of_zero_le y0
 obtain ⟨p, a', s', g1, g2, g3, g4⟩ := sure_loop hl (n := u + 1) (by omega) (by omega) v [] (B + 2 + 2 + 2) a2 s2 (by omega) (by simp; omega) ⟨by simp, fun c hc => by cases hc⟩ hy (by omega)
 refine ⟨p, a', s', Ev.call e0 (Ev.no q0 (Ev.no q1 (Ev.no q2 (Ev.call e1 (Ev.call e2 ?_))))), by omega, by omega, g3, cAt_mono g4 (by omega)⟩
 rw [hw]
 exact g1
theorem wfL_zeros {l : List Int} (hl : List Int) (h : wfL l) : wfL (l ++ [0]) := wfL_app h (fun x hx => by rw [List.mem_singleton.1 hx]; decide)
theorem zeros_run {l : List Int} (a s : Int) : ∀ d (x : Nat), x + d = 11 → ∀ p : List Int, p.length + d ≤ 1000 → wfL p → ∃ q, Ev (fun k => spec_l1Cur_poset.l0 k (x : Int) l a s p) (q, a, s) ∧ q.length = p.length + d ∧ wfL q
 | 0, x, hx, p, hp, hw => ⟨p, Ev.step (by intro k; simp only [spec_l1Cur_poset.l0]; rfl) (Ev.no (by omega) (Ev.now _)), rfl, hw⟩
 | d + 1, x, hx, p, hp, hw => by
  obtain ⟨q, g1, g2, g3⟩ := zeros_run a s d (x + 1) (by omega) (p ++ [0]) (by rw [List.length_append, List.length_singleton]; omega) (wfL_zeros [] hw)
  refine ⟨q, Ev.step (by intro k; simp only [spec_l1Cur_poset.l0]; rfl) (Ev.yes (by omega) (Ev.yes (by omega) ?_)), by rw [g2, List.length_append, List.length_singleton]; omega, g3⟩
  rw [show wrap64 ((x : Int) + 1) = ((x + 1 : Nat) : Int) by rw [wid (by omega) (by omega)]; omega]
  exact g1
theorem poset_ok {l : List Int} (hl : bytesL l) {B : Nat} {a : Int} (s : Int) {most : Nat} (h1 : 1 ≤ most) (h2 : most ≤ 10) (ha : cAt B a) (hB : B ≤ 10000) : ∃ p a' s', Ev (fun k => spec_l1Cur_poset.f k l a s (most : Int)) (p, a', s') ∧ p.length ≤ 21 ∧ wfL p ∧ cAt (B + 120) a' := by
 unfold spec_l1Cur_poset.f
 obtain ⟨p, a0, s0, e0, p1, p2, p3, hp⟩ := sure_ok hl s h1 h2 ha hB
 have hown : spec_l1Own.f p = some p := by
  unfold spec_l1Own.f
  rw [Option.bind_some, if_pos (by simp; omega), List.nil_append]
 obtain ⟨c, a1, s1, e1, hc, c0, c1⟩ := cpick_ok hl s0 20 hp (by omega)
 by_cases q0 : c = 0
 ·obtain ⟨x, a2, s2, e2, hx, x0, x1⟩ := cpick_ok hl s1 (p.length : Int) hc (by omega)
  obtain ⟨y, a3, s3, e3, hy, y1⟩ := among_ok hl s2 hx (by omega) (m := ([(-1), 1, 3, shl .i64 1 x, 4611686018427387904] : List Int)) (by simp)
  have hwf : (Lit.int .i64 y).wf = true := by
   simp only [List.mem_cons, List.mem_nil_iff, or_false] at y1
   rcases y1 with rfl | rfl | rfl | rfl | rfl
   ·decide
   ·decide
   ·decide
   ·exact wf_wrapI _
   ·decide
  refine ⟨p.set x.toNat y, a3, s3, Ev.bind e0 (Ev.call hown (Ev.call e1 (Ev.yes q0 (Ev.call e2 (Ev.yes x0 (Ev.call e3 (Ev.yes (by omega) (Ev.now _)))))))), by rw [List.length_set]; omega, wfL_set p3 hwf _, cAt_mono hy (by omega)⟩
 by_cases q1 : c = 1
 ·exact ⟨[], a1, s1, Ev.bind e0 (Ev.call hown (Ev.call e1 (Ev.no q0 (Ev.yes q1 (Ev.now _))))), by simp, (fun n hn => by cases hn), cAt_mono hc (by omega)⟩
 by_cases q2 : c = 2
 ·obtain ⟨q, g1, g2, g3⟩ := zeros_run (l := l) a1 s1 11 0 rfl p (by omega) p3
  exact ⟨q, a1, s1, Ev.bind e0 (Ev.call hown (Ev.call e1 (Ev.no q0 (Ev.no q1 (Ev.yes q2 g1))))), by omega, g3, cAt_mono hc (by omega)⟩
 ·exact ⟨p, a1, s1, Ev.bind e0 (Ev.call hown (Ev.call e1 (Ev.no q0 (Ev.no q1 (Ev.no q2 (Ev.now _)))))), by omega, p3, cAt_mono hc (by omega)⟩
end Go.Proofs.Ytmbojobkiainlaa.Q
end

section
namespace Go.Proofs.Ytmbojobkiainlaa.F
open Go.RowKit Go.Proofs.YtmbojobkiainlaaW.PrintWords Go.Proofs.YtmbojobkiainlaaW.PrintLast Go.Proofs.YtmbojobkiainlaaW.PrintMore
attribute [local go_sem] max2_int min2_int max_two min_two max_three min_three max_four min_four
set_option linter.unusedVariables false
set_option linter.unusedSimpArgs false
def spec_DrawCountLabelsR.f (k : Nat) (s0_0 : List Int) (s0_1 : Int) (s0_2 : Int) : Option (List Int × Int × Int × Int) := (spec_l1Cur_poset.f k s0_0 s0_1 s0_2 6).bind fun bt1262 => ((spec_l1Cur_bound.f s0_0 bt1262.2.1 bt1262.2.2 5).bind fun bt1267 => (some (bt1262.1, bt1267.1, bt1267.2.1, bt1267.2.2)))
theorem spec_DrawCountLabelsR.mono : ∀ a0 a1 a2 k, LeO (spec_DrawCountLabelsR.f k a0 a1 a2) (spec_DrawCountLabelsR.f (k + 1) a0 a1 a2) := by
 intro a0 a1 a2 k
 unfold spec_DrawCountLabelsR.f
 repeat' first
  | (with_reducible exact spec_l1Cur_poset.mono _ _ _ _ _)
  | (with_reducible exact LeO.refl _)
  | (with_reducible exact LeO.none _)
  | (with_reducible refine LeO.ite ?_ ?_)
  | (with_reducible refine LeO.bind ?_ (fun _ => ?_))
  | exact spec_l1Cur_poset.mono _ _ _ _ _
  | exact LeO.none _
  | refine LeO.ite ?_ ?_
  | refine LeO.bind ?_ (fun _ => ?_)
def spec_DrawCountLabels.f (k : Nat) (l0 : List Int) : Option ((List Int) × (Int)) := (spec_DrawCountLabelsR.f k l0 0 0).bind fun bt => some (bt.1, bt.2.1)
theorem spec_DrawCountLabels.mono : ∀ a0 k, LeO (spec_DrawCountLabels.f k a0) (spec_DrawCountLabels.f (k + 1) a0) := fun a0 k => LeO.bind (spec_DrawCountLabelsR.mono _ _ _ _) (fun _ => LeO.refl _)
set_option maxHeartbeats 8000000 in
set_option maxRecDepth 100000 in
theorem spec_DrawCountLabels.calls (k : Nat) (A0 : Option Addr) (c0 : Nat) (l0 : List Int) (r1 : List Int) (r2 : Int) (w : World) (hr0 : Kd.C (Kd.int .u8) w A0 l0.length l0) (hc0 : l0.length ≤ c0) (hf : spec_DrawCountLabels.f k l0 = some (r1, r2)) :
 Calls Try.prog 29 #[.slice A0 l0.length c0] w fun e w' => ∃ v0_ : Value, e = .returned (.tuple #[.agg #[v0_], .int .i64 r2]) ∧ Kd.R (Kd.int .i64) 3 w' w.heap.size (fun _ => True) v0_ r1 ∧ Below w.heap.size w w' := by
 unfold spec_DrawCountLabels.f at hf
 obtain ⟨⟨r1_, r2_, r3, r4⟩, h, hf⟩ := Option.bind_eq_some_iff.1 hf
 have hf := Option.some.inj hf
 simp only [Prod.mk.injEq] at hf
 obtain ⟨hf0, hf1⟩ := hf
 replace hf0 := hf0.symm
 subst hf0
 replace hf1 := hf1.symm
 subst hf1
 have HR0 := am hr0
 have HC0 := am hc0
 clear hr0 hc0
 have hu26 := Try.underlying26
 have HL := am (Nat.le_refl w.heap.size)
 have HW0 := am (Nat.le_refl w.heap.size)
 have H : ((spec_l1Cur_poset.f k l0 0 0 6).bind fun bt1262 => ((spec_l1Cur_bound.f l0 bt1262.2.1 bt1262.2.2 5).bind fun bt1267 => (some (bt1262.1, bt1267.1, bt1267.2.1, bt1267.2.2)))) = some (r1, r2, r3, r4) := h
 clear h
 replace H := Option.bind_eq_some_iff.mp H
 obtain ⟨⟨t1262, t1265, t1266⟩, A20, H⟩ := H
 replace H : ((spec_l1Cur_bound.f l0 t1265 t1266 5).bind fun bt1267 => (some (t1262, bt1267.1, bt1267.2.1, bt1267.2.2))) = some (r1, r2, r3, r4) := H
 have A2 := am A20
 clear A20
 replace H := Option.bind_eq_some_iff.mp H
 obtain ⟨⟨t1267, t1268, t1269⟩, A30, H⟩ := H
 replace H : (some (t1262, t1267, t1268, t1269)) = some (r1, r2, r3, r4) := H
 have A3 := am A30
 clear A30
 simp only [Option.some.injEq, Prod.mk.injEq] at H
 obtain ⟨rfl, rfl, rfl, rfl⟩ := H
 go_enter Try.func29, Try.ntmps29
 go_wp2_with (first | ((with_reducible refine gate_dst (N := 2) rfl ?_); refine qx (N := 2) (cs := #[.slice none 0 0]) (t := 26) ?_; intro gb1261 hg wA hbox hb; have BKa := am hbox; have GE1261 : Aside0 (w.heap.size ≤ gb1261) := ⟨by rw [hg]; exact Nat.le_refl _⟩; have HBa := am hb; have HLa : Aside0 (gb1261 < wA.heap.size) := ⟨blk_lt hbox⟩; clear hbox hb hg) | ((with_reducible refine gate_dst (N := 7) rfl ?_); refine qx (N := 7) (cs := #[.slice A0 l0.length c0, .int .i64 0, .int .u64 0]) (t := 67) ?_; intro g hg w1_ hbox hb; have HBb := am (HBa.out.trans (hb.mono HBa.out.size)); have hge : w.heap.size ≤ g := (by rw [hg]; exact HBa.out.size); have HI0 : Aside0 (IsS67 w w1_ g l0 0 0) := ⟨A0, c0, hbox, hge, HR0.out⟩; have BK1261 := am (blk_below BKa.out hb); have NB1261_0 : Aside0 (gb1261 ≠ g) := ⟨by rw [hg]; exact Nat.ne_of_lt HLa.out⟩; have NB0_1261 : Aside0 (g ≠ gb1261) := ⟨fun e => NB1261_0.out e.symm⟩; have GW1261 := GE1261; have HK := am (KeepBut.of_below HBb.out g none); have HB := HBb; clear hbox hb hge hg BKa HBa HLa HBb) | ((with_reducible refine gate_callee (f := 64) rfl ?_); refine gL (some 9) Try.func64 #[.pointer (some ⟨g, 0, none⟩), .int .i64 6] ?_; (with_reducible refine (spec_l1Cur_poset.calls k g l0 0 0 6 t1262 t1265 t1266 w _ ?side1 ?side2 A2.out).mono ?_); (case side1 => exact qI67); (case side2 => exact qB); rintro e w5 ⟨v1263, rfl, ho0, hi, hb, hk⟩; refine ⟨_, rfl, ?_⟩; replace BK1261 := am (KeepBut.blk hk (g' := gb1261) (o := .cells #[.slice none 0 0] 26 (0, 0)) (qb BK1261.out) NB1261_0.out (by simp)); have HO1264 := am (Kd.R_lower ho0 (keep_size (w := w) (g := g) (row := none) qK)); have n2_ := am (KeepBut.trans qK hk (.inl rfl)); have n3_ := am (hb); replace HI0 := am (hi); clear HK HB; have HK := n2_; have HB := n3_; clear n2_ n3_; (try clear hb); (try clear hb2); (try clear hk); (try clear hi); (try clear ho0)) | ((with_reducible refine gate_callee (f := 65) rfl ?_); refine gL (some 11) Try.func65 #[.pointer (some ⟨g, 0, none⟩), .int .i64 5] ?_; (with_reducible refine (spec_l1Cur_bound.calls g l0 t1265 t1266 5 t1267 t1268 t1269 w _ ?side1 ?side2 A3.out).mono ?_); (case side1 => exact qI67); (case side2 => exact qB); rintro e w6 ⟨rfl, hi, hb, hk⟩; refine ⟨_, rfl, ?_⟩; replace BK1261 := am (KeepBut.blk hk (g' := gb1261) (o := .cells #[.slice none 0 0] 26 (0, 0)) (qb BK1261.out) NB1261_0.out (by simp)); replace HO1264 := am (Kd.R_mono (Kd.R_keep (IsS67.apart (show IsS67 w _ g l0 t1265 t1266 from qI67) (qR HO1264.out) (by decide)) hk (fun _ h => h.2)) (fun _ h => h.1)); have n2_ := am (KeepBut.trans qK hk (.inl rfl)); have n3_ := am (hb); replace HI0 := am (hi); clear HK HB; have HK := n2_; have HB := n3_; clear n2_ n3_; (try clear hb); (try clear hb2); (try clear hk); (try clear hi); obtain ⟨Ao7, co7, eo7⟩ := Kd.R_slice HO1264.out; subst eo7; have hnb8 := NB1261_0.out; have hnc8 := NB0_1261.out; have hcz9_0 := qz w6 BK1261.out; have hfz9_0 := blk_frozen BK1261.out 0))
 refine bodyPost_ret (results_ct rfl _ _ gb1261 26 #[.slice Ao7 t1262.length co7] (0, 0) _ rfl (by (with_reducible repeat (first | refine blk_drewN ?_ _ | refine blk_drew ?_ | refine blk_alloc ?_ _)); refine blk_put (cs := #[.slice none 0 0]) ?_ 0 _ rfl; refine qb ?_; exact BK1261.out) Try.underlying26 rfl (by kernel_rfl)) rfl ?_
 exact ⟨_, qr, qR (Kd.R_mono (Kd.R_far (p := ⟨gb1261, 0, none⟩) (Kd.R_types HO1264.out BK1261.out (by decide)) (fun _ hk => hk.2) (.slice Ao7 t1262.length co7)) (fun _ hk => trivial)), qB⟩
def spec_DrawLabelPolynomialAtR.f (k : Nat) (s0_0 : List Int) (s0_1 : Int) (s0_2 : Int) : Option (List Int × Int × Int × Int) := (spec_l1Cur_one.f s0_0 s0_1 s0_2 10).bind fun bt1220 => (if bt1220.1 = true then ((spec_l1Cur_poset.f k s0_0 bt1220.2.1 bt1220.2.2 6).bind fun bt1223 => ((spec_l1Cur_among.f s0_0 bt1223.2.1 bt1223.2.2 (([(-14), (-13), 13, 14, 4611686018427387904] : List Int))).bind fun bt1231 => (some (bt1223.1, bt1231.1, bt1231.2.1, bt1231.2.2)))) else ((spec_l1Cur_poset.f k s0_0 bt1220.2.1 bt1220.2.2 6).bind fun bt1234 => ((spec_l1Cur_pick.f s0_0 bt1234.2.1 bt1234.2.2 19).bind fun bt1239 => (some (bt1234.1, wrap64 (bt1239.1 - 9), bt1239.2.1, bt1239.2.2)))))
theorem spec_DrawLabelPolynomialAtR.mono : ∀ a0 a1 a2 k, LeO (spec_DrawLabelPolynomialAtR.f k a0 a1 a2) (spec_DrawLabelPolynomialAtR.f (k + 1) a0 a1 a2) := by
 intro a0 a1 a2 k
 unfold spec_DrawLabelPolynomialAtR.f
 repeat' first
  | (with_reducible exact spec_l1Cur_poset.mono _ _ _ _ _)
  | (with_reducible exact LeO.refl _)
  | (with_reducible exact LeO.none _)
  | (with_reducible refine LeO.ite ?_ ?_)
  | (with_reducible refine LeO.bind ?_ (fun _ => ?_))
  | exact spec_l1Cur_poset.mono _ _ _ _ _
  | exact LeO.none _
  | refine LeO.ite ?_ ?_
  | refine LeO.bind ?_ (fun _ => ?_)
def spec_DrawLabelPolynomialAt.f (k : Nat) (l0 : List Int) : Option ((List Int) × (Int)) := (spec_DrawLabelPolynomialAtR.f k l0 0 0).bind fun bt => some (bt.1, bt.2.1)
theorem spec_DrawLabelPolynomialAt.mono : ∀ a0 k, LeO (spec_DrawLabelPolynomialAt.f k a0) (spec_DrawLabelPolynomialAt.f (k + 1) a0) := fun a0 k => LeO.bind (spec_DrawLabelPolynomialAtR.mono _ _ _ _) (fun _ => LeO.refl _)
set_option maxHeartbeats 8000000 in
set_option maxRecDepth 100000 in
theorem spec_DrawLabelPolynomialAt.calls (k : Nat) (A0 : Option Addr) (c0 : Nat) (l0 : List Int) (r1 : List Int) (r2 : Int) (w : World) (hr0 : Kd.C (Kd.int .u8) w A0 l0.length l0) (hc0 : l0.length ≤ c0) (hf : spec_DrawLabelPolynomialAt.f k l0 = some (r1, r2)) :
 Calls Try.prog 34 #[.slice A0 l0.length c0] w fun e w' => ∃ v0_ : Value, e = .returned (.tuple #[.agg #[v0_], .int .i64 r2]) ∧ Kd.R (Kd.int .i64) 3 w' w.heap.size (fun _ => True) v0_ r1 ∧ Below w.heap.size w w' := by
 unfold spec_DrawLabelPolynomialAt.f at hf
 obtain ⟨⟨r1_, r2_, r3, r4⟩, h, hf⟩ := Option.bind_eq_some_iff.1 hf
 have hf := Option.some.inj hf
 simp only [Prod.mk.injEq] at hf
 obtain ⟨hf0, hf1⟩ := hf
 replace hf0 := hf0.symm
 subst hf0
 replace hf1 := hf1.symm
 subst hf1
 have HR0 := am hr0
 have HC0 := am hc0
 clear hr0 hc0
 have hu26 := Try.underlying26
 have HL := am (Nat.le_refl w.heap.size)
 have HW0 := am (Nat.le_refl w.heap.size)
 have H : ((spec_l1Cur_one.f l0 0 0 10).bind fun bt1220 => (if bt1220.1 = true then ((spec_l1Cur_poset.f k l0 bt1220.2.1 bt1220.2.2 6).bind fun bt1223 => ((spec_l1Cur_among.f l0 bt1223.2.1 bt1223.2.2 (([(-14), (-13), 13, 14, 4611686018427387904] : List Int))).bind fun bt1231 => (some (bt1223.1, bt1231.1, bt1231.2.1, bt1231.2.2)))) else ((spec_l1Cur_poset.f k l0 bt1220.2.1 bt1220.2.2 6).bind fun bt1234 => ((spec_l1Cur_pick.f l0 bt1234.2.1 bt1234.2.2 19).bind fun bt1239 => (some (bt1234.1, wrap64 (bt1239.1 - 9), bt1239.2.1, bt1239.2.2)))))) = some (r1, r2, r3, r4) := h
 clear h
 replace H := Option.bind_eq_some_iff.mp H
 obtain ⟨⟨t1220, t1221, t1222⟩, A20, H⟩ := H
 replace H : (if t1220 = true then ((spec_l1Cur_poset.f k l0 t1221 t1222 6).bind fun bt1223 => ((spec_l1Cur_among.f l0 bt1223.2.1 bt1223.2.2 (([(-14), (-13), 13, 14, 4611686018427387904] : List Int))).bind fun bt1231 => (some (bt1223.1, bt1231.1, bt1231.2.1, bt1231.2.2)))) else ((spec_l1Cur_poset.f k l0 t1221 t1222 6).bind fun bt1234 => ((spec_l1Cur_pick.f l0 bt1234.2.1 bt1234.2.2 19).bind fun bt1239 => (some (bt1234.1, wrap64 (bt1239.1 - 9), bt1239.2.1, bt1239.2.2))))) = some (r1, r2, r3, r4) := H
 have A2 := am A20
 clear A20
 by_cases c3 : t1220 = true
 ·subst c3
  have H1 : ((spec_l1Cur_poset.f k l0 t1221 t1222 6).bind fun bt1223 => ((spec_l1Cur_among.f l0 bt1223.2.1 bt1223.2.2 (([(-14), (-13), 13, 14, 4611686018427387904] : List Int))).bind fun bt1231 => (some (bt1223.1, bt1231.1, bt1231.2.1, bt1231.2.2)))) = some (r1, r2, r3, r4) := by rw [if_pos rfl] at H; exact H
  clear H
  have H := H1
  clear H1
  replace H := Option.bind_eq_some_iff.mp H
  obtain ⟨⟨t1223, t1226, t1227⟩, A40, H⟩ := H
  replace H : ((spec_l1Cur_among.f l0 t1226 t1227 (([(-14), (-13), 13, 14, 4611686018427387904] : List Int))).bind fun bt1231 => (some (t1223, bt1231.1, bt1231.2.1, bt1231.2.2))) = some (r1, r2, r3, r4) := H
  have A4 := am A40
  clear A40
  obtain ⟨y1228, hy1228⟩ : ∃ y_ : List Int, y_ = (([(-14), (-13), 13, 14, 4611686018427387904] : List Int)) := ⟨_, rfl⟩
  replace H : ((spec_l1Cur_among.f l0 t1226 t1227 y1228).bind fun bt1231 => (some (t1223, bt1231.1, bt1231.2.1, bt1231.2.2))) = some (r1, r2, r3, r4) := by first | (rw [hy1228]; with_reducible exact H) | (have H2_ := (Option.bind_some _ _).symm.trans H; rw [hy1228]; with_reducible exact H2_) | (have H2_ := (Option.bind_some _ _).symm.trans H; with_reducible exact H2_) | with_reducible exact H | (rw [hy1228]; exact H) | exact H
  have Ny1228 := am hy1228
  clear hy1228
  replace H := Option.bind_eq_some_iff.mp H
  obtain ⟨⟨t1231, t1232, t1233⟩, A50, H⟩ := H
  replace H : (some (t1223, t1231, t1232, t1233)) = some (r1, r2, r3, r4) := H
  have A5 := am A50
  clear A50
  simp only [Option.some.injEq, Prod.mk.injEq] at H
  obtain ⟨rfl, rfl, rfl, rfl⟩ := H
  go_enter Try.func34, Try.ntmps34
  go_wp2_with (first | ((with_reducible refine gate_dst (N := 2) rfl ?_); refine qx (N := 2) (cs := #[.slice none 0 0]) (t := 26) ?_; intro gb1219 hg wA hbox hb; have BKa := am hbox; have GE1219 : Aside0 (w.heap.size ≤ gb1219) := ⟨by rw [hg]; exact Nat.le_refl _⟩; have HBa := am hb; have HLa : Aside0 (gb1219 < wA.heap.size) := ⟨blk_lt hbox⟩; clear hbox hb hg) | ((with_reducible refine gate_dst (N := 7) rfl ?_); refine qx (N := 7) (cs := #[.slice A0 l0.length c0, .int .i64 0, .int .u64 0]) (t := 67) ?_; intro g hg w1_ hbox hb; have HBb := am (HBa.out.trans (hb.mono HBa.out.size)); have hge : w.heap.size ≤ g := (by rw [hg]; exact HBa.out.size); have HI0 : Aside0 (IsS67 w w1_ g l0 0 0) := ⟨A0, c0, hbox, hge, HR0.out⟩; have BK1219 := am (blk_below BKa.out hb); have NB1219_0 : Aside0 (gb1219 ≠ g) := ⟨by rw [hg]; exact Nat.ne_of_lt HLa.out⟩; have NB0_1219 : Aside0 (g ≠ gb1219) := ⟨fun e => NB1219_0.out e.symm⟩; have GW1219 := GE1219; have HK := am (KeepBut.of_below HBb.out g none); have HB := HBb; clear hbox hb hge hg BKa HBa HLa HBb) | ((with_reducible refine gate_callee (f := 66) rfl ?_); refine gL (some 9) Try.func66 #[.pointer (some ⟨g, 0, none⟩), .int .i64 10] ?_; (with_reducible refine (spec_l1Cur_one.calls g l0 0 0 10 true t1221 t1222 w _ ?side1 ?side2 A2.out).mono ?_); (case side1 => exact qI67); (case side2 => exact qB); rintro e w7 ⟨rfl, hi, hb, hk⟩; refine ⟨_, rfl, ?_⟩; replace BK1219 := am (KeepBut.blk hk (g' := gb1219) (o := .cells #[.slice none 0 0] 26 (0, 0)) (qb BK1219.out) NB1219_0.out (by simp)); have n1_ := am (KeepBut.trans qK hk (.inl rfl)); have n2_ := am (hb); replace HI0 := am (hi); clear HK HB; have HK := n1_; have HB := n2_; clear n1_ n2_; (try clear hb); (try clear hb2); (try clear hk); (try clear hi)) | ((with_reducible refine gate_callee (f := 64) rfl ?_); refine gL (some 11) Try.func64 #[.pointer (some ⟨g, 0, none⟩), .int .i64 6] ?_; (with_reducible refine (spec_l1Cur_poset.calls k g l0 t1221 t1222 6 t1223 t1226 t1227 w _ ?side1 ?side2 A4.out).mono ?_); (case side1 => exact qI67); (case side2 => exact qB); rintro e w8 ⟨v1224, rfl, ho0, hi, hb, hk⟩; refine ⟨_, rfl, ?_⟩; replace BK1219 := am (KeepBut.blk hk (g' := gb1219) (o := .cells #[.slice none 0 0] 26 (0, 0)) (qb BK1219.out) NB1219_0.out (by simp)); have HO1225 := am (Kd.R_lower ho0 (keep_size (w := w) (g := g) (row := none) qK)); have n2_ := am (KeepBut.trans qK hk (.inl rfl)); have n3_ := am (hb); replace HI0 := am (hi); clear HK HB; have HK := n2_; have HB := n3_; clear n2_ n3_; (try clear hb); (try clear hb2); (try clear hk); (try clear hi); (try clear ho0)) | ((with_reducible refine gate_dst (N := 13) rfl ?_); refine Kd.R_lit (Kd.int .i64) _ 3 ?hg (N := 13) ?hd (xs := ([(-14), (-13), 13, 14, 4611686018427387904] : List Int)) (inner := [.int .i64 (-14), .int .i64 (-13), .int .i64 13, .int .i64 14, .int .i64 4611686018427387904]) (ok := fun _ => True) (okp := fun _ => True) ?hr ?hp (fun _ hk => hk) trivial (Below.refl _ _) (Nat.le_refl _) (by simp) ?_; (case hd => rfl); (case hg => rfl); (case hr => first | (go_simp; done) | (go_simp; rfl)); (case hp => exact (Reps.one (show Kd.M (Kd.int .i64) _ _ _ (-14) [.int .i64 (-14)] from rfl) (Reps.one (show Kd.M (Kd.int .i64) _ _ _ (-13) [.int .i64 (-13)] from rfl) (Reps.one (show Kd.M (Kd.int .i64) _ _ _ 13 [.int .i64 13] from rfl) (Reps.one (show Kd.M (Kd.int .i64) _ _ _ 14 [.int .i64 14] from rfl) (Reps.one (show Kd.M (Kd.int .i64) _ _ _ 4611686018427387904 [.int .i64 4611686018427387904] from rfl) (Reps.none _ _))))))); intro v1229 w9 ho10 hb hg_ hnew_; clear hg_ hnew_; (first | rw [← Ny1228.out] at ho10 | (simp only [Int.reduceToNat] at ho10; rw [← Ny1228.out] at ho10)); have n0_ := am (Kd.R_elder' (qR HO1225.out) (Kd.R_base ho10) hb); have HO1230 := am (Kd.R_lower (Kd.R_new' ho10 (Kd.R_lt (qR HO1225.out))) (keep_size (w := w) (g := g) (row := none) qK)); have n2_ := am (IsS67.below qI67 hb); replace BK1219 := am (blk_below (g := gb1219) (o := .cells #[.slice none 0 0] 26 (0, 0)) (qb BK1219.out) hb); have n4_ := am (KeepBut.trans qK (KeepBut.of_below hb g none) (.inl rfl)); replace HB := am (below_step qB hb); clear HO1225 HI0 HK; have HO1225 := n0_; have HI0 := n2_; have HK := n4_; clear n0_ n2_ n4_; clear hb ho10; obtain ⟨Ao11, co11, eo11⟩ := Kd.R_slice HO1230.out; subst eo11) | ((with_reducible refine gate_callee (f := 67) rfl ?_); refine gL (some 14) Try.func67 #[.pointer (some ⟨g, 0, none⟩), .slice Ao11 y1228.length co11] ?_; (with_reducible refine (spec_l1Cur_among.calls g l0 t1226 t1227 _ _ y1228 t1231 t1232 t1233 w _ ?side1 ?side2 ?side3 ?side4 ?side5 A5.out).mono ?_); (case side1 => exact qI67); (case side2 => exact qB); (case side3 => exact qC (Kd.R_reads' HO1230.out).2.2); (case side4 => exact (Kd.R_reads' HO1230.out).2.1); (case side5 => exact far_slice (IsS67.own_ne HI0.out HO1230.out (by decide))); rintro e w12 ⟨rfl, hi, hb, hk⟩; refine ⟨_, rfl, ?_⟩; replace BK1219 := am (KeepBut.blk hk (g' := gb1219) (o := .cells #[.slice none 0 0] 26 (0, 0)) (qb BK1219.out) NB1219_0.out (by simp)); replace HO1225 := am (Kd.R_mono (Kd.R_keep (IsS67.apart (show IsS67 w _ g l0 t1226 t1227 from qI67) (qR HO1225.out) (by decide)) hk (fun _ h => h.2)) (fun _ h => h.1)); replace HO1230 := am (Kd.R_mono (Kd.R_keep (IsS67.apart (show IsS67 w _ g l0 t1226 t1227 from qI67) (qR HO1230.out) (by decide)) hk (fun _ h => h.2)) (fun _ h => h.1)); have n3_ := am (KeepBut.trans qK hk (.inl rfl)); have n4_ := am (hb); replace HI0 := am (hi); clear HK HB; have HK := n3_; have HB := n4_; clear n3_ n4_; (try clear hb); (try clear hb2); (try clear hk); (try clear hi); obtain ⟨Ao13, co13, eo13⟩ := Kd.R_slice HO1225.out; subst eo13; have hnb14 := NB1219_0.out; have hnc14 := NB0_1219.out; have hcz15_0 := qz w12 BK1219.out; have hfz15_0 := blk_frozen BK1219.out 0))
  refine bodyPost_ret (results_ct rfl _ _ gb1219 26 #[.slice Ao13 t1223.length co13] (0, 0) _ rfl (by (with_reducible repeat (first | refine blk_drewN ?_ _ | refine blk_drew ?_ | refine blk_alloc ?_ _)); refine blk_put (cs := #[.slice none 0 0]) ?_ 0 _ rfl; refine qb ?_; exact BK1219.out) Try.underlying26 rfl (by kernel_rfl)) rfl ?_
  exact ⟨_, qr, qR (Kd.R_mono (Kd.R_far (p := ⟨gb1219, 0, none⟩) (Kd.R_types HO1225.out BK1219.out (by decide)) (fun _ hk => hk.2) (.slice Ao13 t1223.length co13)) (fun _ hk => trivial)), qB⟩
 ·replace c3 := Bool.eq_false_iff.mpr c3
  subst c3
  have H1 : ((spec_l1Cur_poset.f k l0 t1221 t1222 6).bind fun bt1234 => ((spec_l1Cur_pick.f l0 bt1234.2.1 bt1234.2.2 19).bind fun bt1239 => (some (bt1234.1, wrap64 (bt1239.1 - 9), bt1239.2.1, bt1239.2.2)))) = some (r1, r2, r3, r4) := by rw [if_neg (show ¬ (false = true) by decide)] at H; exact H
  clear H
  have H := H1
  clear H1
  replace H := Option.bind_eq_some_iff.mp H
  obtain ⟨⟨t1234, t1237, t1238⟩, A160, H⟩ := H
  replace H : ((spec_l1Cur_pick.f l0 t1237 t1238 19).bind fun bt1239 => (some (t1234, wrap64 (bt1239.1 - 9), bt1239.2.1, bt1239.2.2))) = some (r1, r2, r3, r4) := H
  have A16 := am A160
  clear A160
  replace H := Option.bind_eq_some_iff.mp H
  obtain ⟨⟨t1239, t1240, t1241⟩, A170, H⟩ := H
  replace H : (some (t1234, wrap64 (t1239 - 9), t1240, t1241)) = some (r1, r2, r3, r4) := H
  have A17 := am A170
  clear A170
  simp only [Option.some.injEq, Prod.mk.injEq] at H
  obtain ⟨rfl, rfl, rfl, rfl⟩ := H
  go_enter Try.func34, Try.ntmps34
  go_wp2_with (first | ((with_reducible refine gate_dst (N := 2) rfl ?_); refine qx (N := 2) (cs := #[.slice none 0 0]) (t := 26) ?_; intro gb1219 hg wA hbox hb; have BKa := am hbox; have GE1219 : Aside0 (w.heap.size ≤ gb1219) := ⟨by rw [hg]; exact Nat.le_refl _⟩; have HBa := am hb; have HLa : Aside0 (gb1219 < wA.heap.size) := ⟨blk_lt hbox⟩; clear hbox hb hg) | ((with_reducible refine gate_dst (N := 7) rfl ?_); refine qx (N := 7) (cs := #[.slice A0 l0.length c0, .int .i64 0, .int .u64 0]) (t := 67) ?_; intro g hg w1_ hbox hb; have HBb := am (HBa.out.trans (hb.mono HBa.out.size)); have hge : w.heap.size ≤ g := (by rw [hg]; exact HBa.out.size); have HI0 : Aside0 (IsS67 w w1_ g l0 0 0) := ⟨A0, c0, hbox, hge, HR0.out⟩; have BK1219 := am (blk_below BKa.out hb); have NB1219_0 : Aside0 (gb1219 ≠ g) := ⟨by rw [hg]; exact Nat.ne_of_lt HLa.out⟩; have NB0_1219 : Aside0 (g ≠ gb1219) := ⟨fun e => NB1219_0.out e.symm⟩; have GW1219 := GE1219; have HK := am (KeepBut.of_below HBb.out g none); have HB := HBb; clear hbox hb hge hg BKa HBa HLa HBb) | ((with_reducible refine gate_callee (f := 66) rfl ?_); refine gL (some 9) Try.func66 #[.pointer (some ⟨g, 0, none⟩), .int .i64 10] ?_; (with_reducible refine (spec_l1Cur_one.calls g l0 0 0 10 false t1221 t1222 w _ ?side1 ?side2 A2.out).mono ?_); (case side1 => exact qI67); (case side2 => exact qB); rintro e w19 ⟨rfl, hi, hb, hk⟩; refine ⟨_, rfl, ?_⟩; replace BK1219 := am (KeepBut.blk hk (g' := gb1219) (o := .cells #[.slice none 0 0] 26 (0, 0)) (qb BK1219.out) NB1219_0.out (by simp)); have n1_ := am (KeepBut.trans qK hk (.inl rfl)); have n2_ := am (hb); replace HI0 := am (hi); clear HK HB; have HK := n1_; have HB := n2_; clear n1_ n2_; (try clear hb); (try clear hb2); (try clear hk); (try clear hi)) | ((with_reducible refine gate_callee (f := 64) rfl ?_); refine gL (some 16) Try.func64 #[.pointer (some ⟨g, 0, none⟩), .int .i64 6] ?_; (with_reducible refine (spec_l1Cur_poset.calls k g l0 t1221 t1222 6 t1234 t1237 t1238 w _ ?side1 ?side2 A16.out).mono ?_); (case side1 => exact qI67); (case side2 => exact qB); rintro e w20 ⟨v1235, rfl, ho0, hi, hb, hk⟩; refine ⟨_, rfl, ?_⟩; replace BK1219 := am (KeepBut.blk hk (g' := gb1219) (o := .cells #[.slice none 0 0] 26 (0, 0)) (qb BK1219.out) NB1219_0.out (by simp)); have HO1236 := am (Kd.R_lower ho0 (keep_size (w := w) (g := g) (row := none) qK)); have n2_ := am (KeepBut.trans qK hk (.inl rfl)); have n3_ := am (hb); replace HI0 := am (hi); clear HK HB; have HK := n2_; have HB := n3_; clear n2_ n3_; (try clear hb); (try clear hb2); (try clear hk); (try clear hi); (try clear ho0)) | ((with_reducible refine gate_callee (f := 68) rfl ?_); refine gL (some 18) Try.func68 #[.pointer (some ⟨g, 0, none⟩), .int .i64 19] ?_; (with_reducible refine (spec_l1Cur_pick.calls g l0 t1237 t1238 19 t1239 t1240 t1241 w _ ?side1 ?side2 A17.out).mono ?_); (case side1 => exact qI67); (case side2 => exact qB); rintro e w21 ⟨rfl, hi, hb, hk⟩; refine ⟨_, rfl, ?_⟩; replace BK1219 := am (KeepBut.blk hk (g' := gb1219) (o := .cells #[.slice none 0 0] 26 (0, 0)) (qb BK1219.out) NB1219_0.out (by simp)); replace HO1236 := am (Kd.R_mono (Kd.R_keep (IsS67.apart (show IsS67 w _ g l0 t1237 t1238 from qI67) (qR HO1236.out) (by decide)) hk (fun _ h => h.2)) (fun _ h => h.1)); have n2_ := am (KeepBut.trans qK hk (.inl rfl)); have n3_ := am (hb); replace HI0 := am (hi); clear HK HB; have HK := n2_; have HB := n3_; clear n2_ n3_; (try clear hb); (try clear hb2); (try clear hk); (try clear hi); obtain ⟨Ao22, co22, eo22⟩ := Kd.R_slice HO1236.out; subst eo22; have hnb23 := NB1219_0.out; have hnc23 := NB0_1219.out; have hcz24_0 := qz w21 BK1219.out; have hfz24_0 := blk_frozen BK1219.out 0))
  refine bodyPost_ret (results_ct rfl _ _ gb1219 26 #[.slice Ao22 t1234.length co22] (0, 0) _ rfl (by (with_reducible repeat (first | refine blk_drewN ?_ _ | refine blk_drew ?_ | refine blk_alloc ?_ _)); refine blk_put (cs := #[.slice none 0 0]) ?_ 0 _ rfl; refine qb ?_; exact BK1219.out) Try.underlying26 rfl (by kernel_rfl)) rfl ?_
  exact ⟨_, qr, qR (Kd.R_mono (Kd.R_far (p := ⟨gb1219, 0, none⟩) (Kd.R_types HO1236.out BK1219.out (by decide)) (fun _ hk => hk.2) (.slice Ao22 t1234.length co22)) (fun _ hk => trivial)), qB⟩
def spec_DrawStepCountsR.f (k : Nat) (s0_0 : List Int) (s0_1 : Int) (s0_2 : Int) : Option (List Int × Int × Int) := (spec_l1Cur_poset.f k s0_0 s0_1 s0_2 7).bind fun bt1356 => (some (bt1356.1, bt1356.2.1, bt1356.2.2))
theorem spec_DrawStepCountsR.mono : ∀ a0 a1 a2 k, LeO (spec_DrawStepCountsR.f k a0 a1 a2) (spec_DrawStepCountsR.f (k + 1) a0 a1 a2) := by
 intro a0 a1 a2 k
 unfold spec_DrawStepCountsR.f
 repeat' first
  | (with_reducible exact spec_l1Cur_poset.mono _ _ _ _ _)
  | (with_reducible exact LeO.refl _)
  | (with_reducible exact LeO.none _)
  | (with_reducible refine LeO.ite ?_ ?_)
  | (with_reducible refine LeO.bind ?_ (fun _ => ?_))
  | exact spec_l1Cur_poset.mono _ _ _ _ _
  | exact LeO.none _
  | refine LeO.ite ?_ ?_
  | refine LeO.bind ?_ (fun _ => ?_)
def spec_DrawStepCounts.f (k : Nat) (l0 : List Int) : Option ((List Int)) := (spec_DrawStepCountsR.f k l0 0 0).bind fun bt => some bt.1
theorem spec_DrawStepCounts.mono : ∀ a0 k, LeO (spec_DrawStepCounts.f k a0) (spec_DrawStepCounts.f (k + 1) a0) := fun a0 k => LeO.bind (spec_DrawStepCountsR.mono _ _ _ _) (fun _ => LeO.refl _)
set_option maxHeartbeats 8000000 in
set_option maxRecDepth 100000 in
theorem spec_DrawStepCounts.calls (k : Nat) (A0 : Option Addr) (c0 : Nat) (l0 : List Int) (r : List Int) (w : World) (hr0 : Kd.C (Kd.int .u8) w A0 l0.length l0) (hc0 : l0.length ≤ c0) (hf : spec_DrawStepCounts.f k l0 = some r) :
 Calls Try.prog 37 #[.slice A0 l0.length c0] w fun e w' => ∃ v0_ : Value, e = .returned (.agg #[v0_]) ∧ Kd.R (Kd.int .i64) 3 w' w.heap.size (fun _ => True) v0_ r ∧ Below w.heap.size w w' := by
 unfold spec_DrawStepCounts.f at hf
 obtain ⟨⟨r_, r2, r3⟩, h, hf⟩ := Option.bind_eq_some_iff.1 hf
 have hf := Option.some.inj hf
 have hf1 : r = r_ := hf.symm
 clear hf
 subst hf1
 have HR0 := am hr0
 have HC0 := am hc0
 clear hr0 hc0
 have hu26 := Try.underlying26
 have HL := am (Nat.le_refl w.heap.size)
 have HW0 := am (Nat.le_refl w.heap.size)
 have H : ((spec_l1Cur_poset.f k l0 0 0 7).bind fun bt1356 => (some (bt1356.1, bt1356.2.1, bt1356.2.2))) = some (r, r2, r3) := h
 clear h
 replace H := Option.bind_eq_some_iff.mp H
 obtain ⟨⟨t1356, t1359, t1360⟩, A20, H⟩ := H
 replace H : (some (t1356, t1359, t1360)) = some (r, r2, r3) := H
 have A2 := am A20
 clear A20
 simp only [Option.some.injEq, Prod.mk.injEq] at H
 obtain ⟨rfl, rfl, rfl⟩ := H
 go_enter Try.func37, Try.ntmps37
 go_wp2_with (first | ((with_reducible refine gate_dst (N := 2) rfl ?_); refine qx (N := 2) (cs := #[.slice none 0 0]) (t := 26) ?_; intro gb1355 hg wA hbox hb; have BKa := am hbox; have GE1355 : Aside0 (w.heap.size ≤ gb1355) := ⟨by rw [hg]; exact Nat.le_refl _⟩; have HBa := am hb; have HLa : Aside0 (gb1355 < wA.heap.size) := ⟨blk_lt hbox⟩; clear hbox hb hg) | ((with_reducible refine gate_dst (N := 6) rfl ?_); refine qx (N := 6) (cs := #[.slice A0 l0.length c0, .int .i64 0, .int .u64 0]) (t := 67) ?_; intro g hg w1_ hbox hb; have HBb := am (HBa.out.trans (hb.mono HBa.out.size)); have hge : w.heap.size ≤ g := (by rw [hg]; exact HBa.out.size); have HI0 : Aside0 (IsS67 w w1_ g l0 0 0) := ⟨A0, c0, hbox, hge, HR0.out⟩; have BK1355 := am (blk_below BKa.out hb); have NB1355_0 : Aside0 (gb1355 ≠ g) := ⟨by rw [hg]; exact Nat.ne_of_lt HLa.out⟩; have NB0_1355 : Aside0 (g ≠ gb1355) := ⟨fun e => NB1355_0.out e.symm⟩; have GW1355 := GE1355; have HK := am (KeepBut.of_below HBb.out g none); have HB := HBb; clear hbox hb hge hg BKa HBa HLa HBb) | ((with_reducible refine gate_callee (f := 64) rfl ?_); refine gL (some 8) Try.func64 #[.pointer (some ⟨g, 0, none⟩), .int .i64 7] ?_; (with_reducible refine (spec_l1Cur_poset.calls k g l0 0 0 7 t1356 t1359 t1360 w _ ?side1 ?side2 A2.out).mono ?_); (case side1 => exact qI67); (case side2 => exact qB); rintro e w4 ⟨v1357, rfl, ho0, hi, hb, hk⟩; refine ⟨_, rfl, ?_⟩; replace BK1355 := am (KeepBut.blk hk (g' := gb1355) (o := .cells #[.slice none 0 0] 26 (0, 0)) (qb BK1355.out) NB1355_0.out (by simp)); have HO1358 := am (Kd.R_lower ho0 (keep_size (w := w) (g := g) (row := none) qK)); have n2_ := am (KeepBut.trans qK hk (.inl rfl)); have n3_ := am (hb); replace HI0 := am (hi); clear HK HB; have HK := n2_; have HB := n3_; clear n2_ n3_; (try clear hb); (try clear hb2); (try clear hk); (try clear hi); (try clear ho0); obtain ⟨Ao5, co5, eo5⟩ := Kd.R_slice HO1358.out; subst eo5; have hnb6 := NB1355_0.out; have hnc6 := NB0_1355.out; have hcz7_0 := qz w4 BK1355.out; have hfz7_0 := blk_frozen BK1355.out 0))
 refine bodyPost_ret (results_cell_row rfl _ _ gb1355 26 #[.slice Ao5 t1356.length co5] (0, 0) _ rfl (by (with_reducible repeat (first | refine blk_drewN ?_ _ | refine blk_drew ?_ | refine blk_alloc ?_ _)); refine blk_put (cs := #[.slice none 0 0]) ?_ 0 _ rfl; refine qb ?_; exact BK1355.out) Try.underlying26 rfl (by kernel_rfl)) rfl ?_
 exact ⟨_, qr, qR (Kd.R_mono (Kd.R_far (p := ⟨gb1355, 0, none⟩) (Kd.R_types HO1358.out BK1355.out (by decide)) (fun _ hk => hk.2) (.slice Ao5 t1356.length co5)) (fun _ hk => trivial)), qB⟩
end Go.Proofs.Ytmbojobkiainlaa.F
end

section
namespace Go.Proofs.Ytmbojobkiainlaa.F
open Go.RowKit Go.Maps Go.Proofs.YtmbojobkiainlaaW.PrintWords Go.Proofs.YtmbojobkiainlaaW.PrintLast Go.Proofs.YtmbojobkiainlaaW.PrintMore
set_option linter.unusedVariables false
set_option linter.unusedSimpArgs false
/-- Whether a set is part of another one, and what comes in is no empty set and an antichain. -/
def stpB (k : Nat) (p : List Int) (s t : Int) : Bool := (Go.bits .andNot .i64 s t == 0) && ((Go.bits .andNot .i64 t s != 0) && ((impl_Poset_top.f k p (Go.bits .andNot .i64 t s)).getD 0 == Go.bits .andNot .i64 t s))
def stpOk (k : Nat) (p : List Int) (ids : List Int) : Bool := ids.all fun t => ids.all fun s => (impl_Poset_top.f k p (Go.bits .andNot .i64 t s)).isSome
def stpOuts (k : Nat) (p ids : List Int) (al : Int) (n : Nat) : List Int := (List.range n).map fun j => cntAt (stpB k p) ids (j + 1) al
def impl_Poset_steps.f (k : Nat) (l0_0 : List Int) : Option (List Int) := (impl_Poset_ideals.f k l0_0).bind fun ids => (impl_Poset_all.f l0_0).bind fun al => if cntOk ids = true ∧ (al ∈ ids ∧ l0_0.length ≤ 1000) ∧ stpOk k l0_0 ids = true then some (stpOuts k l0_0 ids al l0_0.length) else none
theorem stp_top {k : Nat} {p ids : List Int} (h : stpOk k p ids = true) {s t : Int} (hs : s ∈ ids) (ht : t ∈ ids) : ∃ r, impl_Poset_top.f k p (Go.bits .andNot .i64 t s) = some r := by
 have := List.all_eq_true.1 (List.all_eq_true.1 h t ht) s hs
 exact Option.isSome_iff_exists.1 this
theorem cntAt_congr {B B' : Int → Int → Bool} {ids : List Int} (h : ∀ s ∈ ids, ∀ t ∈ ids, B s t = B' s t) : ∀ j, ∀ t ∈ ids, cntAt B ids j t = cntAt B' ids j t
 | 0, _, _ => rfl
 | j + 1, t, ht => by
  unfold cntAt cntNew
  congr 1
  exact mpTot_congr fun s hs => by rw [h s hs t ht, cntAt_congr h j s hs]
theorem impl_Poset_steps.mono : ∀ a0 k, LeO (impl_Poset_steps.f k a0) (impl_Poset_steps.f (k + 1) a0) := fun p k => by
 unfold impl_Poset_steps.f
 refine LeO.bind (impl_Poset_ideals.mono _ _) (fun ids => LeO.bind (LeO.refl _) (fun al => ?_))
 intro r h
 split at h
 rotate_left
 ·cases h
 rename_i hc
 have hB : ∀ s ∈ ids, ∀ t ∈ ids, stpB k p s t = stpB (k + 1) p s t := fun s hs t ht => by
  obtain ⟨x, hx⟩ := stp_top hc.2.2 hs ht
  unfold stpB
  rw [hx, impl_Poset_top.mono _ _ _ _ hx]
 have hok : stpOk (k + 1) p ids = true := List.all_eq_true.2 fun t ht => List.all_eq_true.2 fun s hs => by
  obtain ⟨x, hx⟩ := stp_top hc.2.2 hs ht
  rw [impl_Poset_top.mono _ _ _ _ hx]; rfl
 rw [if_pos ⟨hc.1, hc.2.1, hok⟩, ← h]
 congr 1
 exact List.map_congr_left fun j _ => (cntAt_congr hB (j + 1) al hc.2.1.1).symm
theorem stp_snoc (k : Nat) (p ids : List Int) (al : Int) (q : Nat) : stpOuts k p ids al q ++ [cntAt (stpB k p) ids (q + 1) al] = stpOuts k p ids al (q + 1) := by
 unfold stpOuts
 rw [List.range_succ, List.map_append]; rfl
set_option maxHeartbeats 8000000 in
set_option maxRecDepth 100000 in
theorem impl_Poset_steps.calls (k : Nat) (A0_0 : Option Addr) (c0_0 : Nat) (l0_0 : List Int) (r : List Int) (w : World) (hr0_0 : Kd.C (Kd.int .i64) w A0_0 l0_0.length l0_0) (hc0_0 : l0_0.length ≤ c0_0) (h : impl_Poset_steps.f k l0_0 = some r) :
 Calls Try.prog 100 #[.agg #[.slice A0_0 l0_0.length c0_0]] w fun e w' => ∃ v0_ : Value, e = .returned (v0_) ∧ Kd.R (Kd.int .i64) 3 w' w.heap.size (fun _ => True) v0_ r ∧ Below w.heap.size w w' := by
 have hu30 := Try.underlying26
 have hmm := @run_makeMap Try.prog
 unfold impl_Poset_steps.f at h
 obtain ⟨ids, hid, h⟩ := Option.bind_eq_some_iff.1 h
 obtain ⟨al, hal, h⟩ := Option.bind_eq_some_iff.1 h
 split at h
 rotate_left
 ·cases h
 rename_i hok
 have h := Option.some.inj h
 obtain ⟨hnd, h0, hlen, hwf⟩ := cntOk_parts hok.1
 obtain ⟨⟨halm, hn⟩, htop⟩ := hok.2
 obtain ⟨n, hpn⟩ : ∃ n, n = l0_0.length := ⟨_, rfl⟩
 have hpos : 0 < ids.length := List.length_pos_of_mem h0
 have HRES := am h
 have HID := am hid
 have HAL := am hal
 have HALM := am halm
 have HTOP := am htop
 have HND := am hnd
 have HZ := am h0
 have HLEN := am hlen
 have HWF := am hwf
 have HM : Aside0 (n ≤ 1000) := ⟨by omega⟩
 have HPN := am hpn
 have HP := am hpos
 have HR0 := am hr0_0
 have HC := am hc0_0
 clear h hid hal halm htop hnd h0 hlen hwf hn hpn hpos hr0_0 hc0_0 hok
 obtain ⟨w0, hw0⟩ : ∃ W, W = (w.alloc (.cells #[.slice A0_0 l0_0.length c0_0] 26 (0, 0))) := ⟨_, rfl⟩
 have hP0 : w0.heap[w.heap.size]? = some (.cells #[.slice A0_0 l0_0.length c0_0] 26 (0, 0)) := by rw [hw0]; exact blk_new w _
 have hB0 : Below w.heap.size w w0 := by rw [hw0]; exact below_alloc (Below.refl w.heap.size w) _
 have HIDC : Aside0 (Calls Try.prog 127 #[.agg #[.slice A0_0 l0_0.length c0_0]] (w.alloc (.cells #[.slice A0_0 l0_0.length c0_0] 26 (0, 0))) fun e w' => ∃ v0_ : Value, e = .returned v0_ ∧ Kd.R (Kd.int .i64) 3 w' w0.heap.size (fun _ => True) v0_ ids ∧ Below w0.heap.size w0 w') := ⟨by rw [← hw0]; exact impl_Poset_ideals.calls k A0_0 c0_0 l0_0 ids w0 (Kd.C_below HR0.out hB0) HC.out HID.out⟩
 have HP0 := am hP0
 have HB0 := am hB0
 clear hw0 hP0 hB0
 go_enter Try.func100, Try.ntmps100
 go_wp2_with (first
  | (go_at_call 127; (with_reducible refine HIDC.out.mono ?_); rintro e w1 ⟨vi, rfl, hr1, hb1⟩; obtain ⟨g, cap, rfl, hgb, hgl, _⟩ := Kd.R_form hr1 HP.out; have HR1 := am hr1; have HB1 := am (HB0.out.trans (hb1.mono HB0.out.size)); have HPX := am (blk_below HP0.out hb1); clear hr1 hb1 hgb)
  | (refine wpList_insert_own _ rfl (.tmp 14) (.const (.int .i64 0)) (.const (.int .i64 1)) 96 rfl 3 3 mp_law Try.underlying96 (plainElem (H := Unit) Try.prog 3) w1.heap.size 0 _ rfl (World.ownsMap_made w1 Try.prog 3 _) (by unfold maxLen; omega) (.int .i64 0) (.int .i64 1) (.int .i64 0) rfl rfl (keyOf_int_mk Try.underlying3 (by decide)) (.lit (.int .i64 1)) [] (plainElem_int Try.underlying3 (by decide)) ?_; intro w2 hown2 hgrow2; have HMAP := am (mp_norm mp_law hown2 (cnt_first (B := stpB k l0_0) ids HZ.out)); have HB2 := am (((Below.refl w1.heap.size w1).alloc (Nat.le_refl _) (.map #[] 0)).grown hgrow2 (by simp) (fun j hj => by cases hj; exact Nat.le_refl _)); have hcp2 : (w2.alloc (.cells #[] 3 (0, 0))).cell? ⟨w.heap.size, 0, none⟩ = some (.slice A0_0 l0_0.length c0_0) := (blk_cell (blk_alloc (blk_below HPX.out HB2.out) _) 0).trans rfl; clear hown2 hgrow2)
  | (go_at_call 101; (with_reducible refine (impl_Poset_n.calls A0_0 c0_0 l0_0 (l0_0.length : Int) _ (Kd.C_below HR0.out (HB1.out.trans ((HB2.out.alloc HB2.out.size _).mono HB1.out.size))) HC.out rfl).mono ?_); rintro e w3 ⟨rfl, hb3⟩; have HB3 := am hb3; clear hb3)
  | go_in)
 have HB31 : Aside0 (Below w1.heap.size w1 w3) := ⟨(HB2.out.alloc HB2.out.size _).trans (HB3.out.mono (by have := HB2.out.size; simp; omega))⟩
 have HMAP3 : Aside0 (w3.ownsMap Try.prog 3 (plainElem (H := Unit) Try.prog 3) w1.heap.size ids.length ((DataW.map []).put (.int .i64 0) (.lit (.int .i64 1)))) := ⟨(HMAP.out.alloc _).kept (mp_grown HB3.out) (by simp)⟩
 have HVO3 : Aside0 (Kd.R (Kd.int .i64) 3 w3 w1.heap.size (fun _ => True) (.slice (some ⟨w2.heap.size, 0, none⟩) 0 0) (stpOuts k l0_0 ids al 0)) := ⟨Kd.R_below (mp_emptyR (Kd.int .i64) HB2.out.size (blk_new w2 _) trivial) HB3.out⟩
 have HW12 : Aside0 (w1.heap.size ≤ w2.heap.size) := ⟨HB2.out.size⟩
 clear HB2 HB3 HMAP hcp2 hmm
 have hmm := @run_makeMap Try.prog
 go_loopg [4, 5, 19] (l0_0.length + 1) (fun kq v4 vo v19 w' => ∃ (q b : Nat) (D : DataW Unit), v4 = .map (some b) ∧ v19 = .int .i64 (q : Int) ∧ Aside0 (kq + q = l0_0.length + 1 ∧ q ≤ l0_0.length) ∧ Aside0 (w1.heap.size ≤ b) ∧ Aside0 (w'.ownsMap Try.prog 3 (plainElem Try.prog 3) b ids.length D) ∧ Aside0 (MpReads D ids (cntAt (stpB k l0_0) ids q)) ∧ Aside0 (Kd.R (Kd.int .i64) 3 w' w1.heap.size (fun _ => True) vo (stpOuts k l0_0 ids al q)) ∧ Aside0 (Below w1.heap.size w1 w'))
 case atStart => exact ⟨0, _, _, rfl, rfl, ⟨rfl, Nat.zero_le _⟩, ⟨Nat.le_refl _⟩, HMAP3, ⟨cnt_first ids HZ.out⟩, HVO3, HB31⟩
 case round =>
  obtain ⟨q, b, D, rfl, rfl, HK, HBB, HD, HRD, HVO, HBW⟩ := hrel
  obtain ⟨WA, rfl⟩ : ∃ x, x = wr := ⟨wr, rfl⟩
  cases gk with
  | zero => exact absurd HK.out (by omega)
  | succ k1 =>
   clear HMAP3 HVO3 HB31
   by_cases hq : q < l0_0.length
   ·have d1 : decide ((q : Int) < (l0_0.length : Int)) = true := decide_eq_true (by omega)
    have d2 : decide (q < l0_0.length) = true := decide_eq_true hq
    have d3 := eq_true hq
    have HQ := am hq
    clear hq
    go_wp2_with (fail)
    clear d1 d2 d3
    go_loopg [24] (ids.length + 1) (fun kq v24 w' => ∃ (i : Nat) (D1 : DataW Unit), v24 = .int .i64 (i : Int) ∧ Aside0 (kq + i = ids.length + 1 ∧ i ≤ ids.length) ∧ Aside0 (w'.ownsMap Try.prog 3 (plainElem Try.prog 3) WA.heap.size ids.length D1) ∧ Aside0 (MpReads D1 ids (cntMid (stpB k l0_0) ids (cntAt (stpB k l0_0) ids q) i)) ∧ Aside0 (w'.ownsMap Try.prog 3 (plainElem Try.prog 3) b ids.length D) ∧ Aside0 (Kd.R (Kd.int .i64) 3 w' w1.heap.size (fun _ => True) u5 (stpOuts k l0_0 ids al q)) ∧ Aside0 (Below w1.heap.size w1 w'))
    case atStart => exact ⟨0, _, rfl, ⟨rfl, Nat.zero_le _⟩, ⟨(World.ownsMap_made WA Try.prog 3 _).mono (Nat.zero_le _)⟩, ⟨cnt_mid0 ids _⟩, ⟨HD.out.alloc _⟩, ⟨Kd.R_alloc HVO.out _⟩, ⟨HBW.out.alloc HBW.out.size _⟩⟩
    case round =>
     obtain ⟨i, D1, rfl, HK2, HD1, HRD1, HD0, HVO1, HBW1⟩ := hrel
     obtain ⟨WB, rfl⟩ : ∃ x, x = wr := ⟨wr, rfl⟩
     cases gk with
     | zero => exact absurd HK2.out (by omega)
     | succ k2 =>
      by_cases hi : i < ids.length
      ·have hcell := mp_cell HR1.out HBW1.out i hi
       have hmem : ids.getD i 0 ∈ ids := by rw [List.getD_eq_getElem?_getD, List.getElem?_eq_getElem hi]; exact List.getElem_mem hi
       have HT := am (cnt_notyet HND.out hi)
       obtain ⟨t, ht⟩ : ∃ t, t = ids.getD i 0 := ⟨_, rfl⟩
       rw [← ht] at hcell hmem HT
       have HTE := am ht
       have HTM := am hmem
       clear ht hmem
       have e1 : (0 : Int) ≤ (i : Int) := by omega
       have e2 : (i : Int) < (ids.length : Int) := by omega
       have e3 : decide ((i : Int) < (ids.length : Int)) = true := decide_eq_true e2
       have e4 : decide (i < ids.length) = true := decide_eq_true hi
       have e5 := eq_true hi
       have HI := am hi
       clear hi
       go_wp2_with (first
        | (at_range; refine wpList_range_own _ rfl _ 96 rfl 3 3 mp_law Try.underlying96 _ b ids.length D rfl HD0.out ?_; intro w0' hrg0 hg0 hs0; have HRG0 := am hrg0; have HG0 := am hg0; clear hrg0 hg0 hs0)
        | go_in)
       go_frame
       clear hcell e1 e2 e3 e4 e5
       go_loopg [9] (Maps.size D + 1) (fun kq _ w' => ∃ (left : Lit → Bool) (cnt : Nat) (D2 : DataW Unit), Aside0 (kq = cnt + 1) ∧ Aside0 (w'.ranges Try.prog 3 (plainElem Try.prog 3) b WB.heap.size ids.length D left cnt) ∧ Aside0 (w'.ownsMap Try.prog 3 (plainElem Try.prog 3) WA.heap.size ids.length D2) ∧ Aside0 (MpReads D2 ids (cntIn (stpB k l0_0) ids (cntAt (stpB k l0_0) ids q) i t left)) ∧ Aside0 (Kd.R (Kd.int .i64) 3 w' w1.heap.size (fun _ => True) u5 (stpOuts k l0_0 ids al q)) ∧ Aside0 (Below w1.heap.size w1 w'))
       case atStart => exact ⟨_, _, _, ⟨rfl⟩, HRG0, ⟨HD1.out.kept HG0.out (by simp)⟩, ⟨cnt_start HRD.out HRD1.out HT.out⟩, ⟨Kd.R_grown HVO1.out HG0.out (by simp)⟩, ⟨HBW1.out.grown HG0.out HBW1.out.size (fun j hj => by cases hj)⟩⟩
       case round =>
        obtain ⟨left, cnt, D2, HK3, HRG, HD2, HRD2, HVO2, HBW2⟩ := hrel
        obtain ⟨WC, rfl⟩ : ∃ x, x = wr := ⟨wr, rfl⟩
        have HNE : Aside0 (WB.heap.size ≠ b ∧ WB.heap.size ≠ WA.heap.size ∧ w1.heap.size ≤ WA.heap.size ∧ w1.heap.size ≤ WB.heap.size ∧ WA.heap.size ≠ b) := ⟨by have h1 := HD0.out.lt; have h2 := HD1.out.lt; have h3 := HBW.out.size; have h4 := HBW1.out.size; have h5 := HD.out.lt; omega⟩
        go_wp2_with (first
         | (at_next; refine wpList_next_ranges_ii _ rfl _ rfl 3 3 .i64 .i64 mp_law Try.underlying3 Try.underlying3 b WB.heap.size ids.length D left cnt rfl HRG.out ?_ ?_)
         | go_in)
        ·intro hc0 hl0
         have hwi : wrap64 ((i : Int) + 1) = ((i + 1 : Nat) : Int) := by unfold wrap64; have := HI.out; have := HLEN.out; omega
         have HL0 := am hl0
         clear hc0 hl0
         go_wp2_with (fail)
         go_roundg k2
         case measure => omega
         case rel =>
          refine ⟨i + 1, D2, by rw [hwi], ⟨by have := HK2.out; have := HI.out; omega⟩, HD2, ⟨cnt_end HND.out HI.out HL0.out (by have := HRD2.out; rwa [HTE.out] at this)⟩, ⟨HRG.out.owns⟩, HVO2, HBW2⟩
        ·intro x c wn cnt1 hwx hwc hlx hat hrg1 hlt hg1 hs1 hen
         have HXV := am (mp_val HRD.out (Maps.has_true_of_atKey hat) hat)
         have HLX := am hlx
         have HRG1 := am hrg1
         have HLT := am hlt
         have HVO3 := am (mp_iter_kept HVO2.out HRG.out hg1)
         have HD2' := am (HD2.out.kept hg1 (by have := HNE.out; intro e; have := Option.some.inj e; omega))
         have HBW3 := am (HBW2.out.grown hg1 HBW2.out.size (fun j hj => by cases hj; exact HNE.out.2.2.2.1))
         have hcpn : wn.cell? ⟨w.heap.size, 0, none⟩ = some (.slice A0_0 l0_0.length c0_0) := (blk_cell (blk_below HPX.out HBW3.out) 0).trans rfl
         clear hwx hwc hlx hat hrg1 hlt hg1 hs1
         cases hb1 : (Go.bits .andNot .i64 x t == 0) with
         | false =>
          have HB0 : Aside0 (stpB k l0_0 x t = false) := ⟨by unfold stpB; rw [hb1]; rfl⟩
          go_wp2_with (fail)
          go_roundg (cnt1 + 1)
          case measure => have := HK3.out; have := HLT.out; omega
          case rel => exact ⟨_, cnt1, D2, ⟨rfl⟩, HRG1, HD2', ⟨cnt_skip HND.out HXV.out.1 HLX.out HB0.out HRD2.out⟩, HVO3, HBW3⟩
         | true =>
          cases hb2 : (Go.bits .andNot .i64 t x != 0) with
          | false =>
           have HB0 : Aside0 (stpB k l0_0 x t = false) := ⟨by unfold stpB; rw [hb1, hb2]; rfl⟩
           have hb2' : (Go.bits .andNot .i64 t x == 0) = true := by simpa [bne] using hb2
           go_wp2_with (fail)
           go_roundg (cnt1 + 1)
           case measure => have := HK3.out; have := HLT.out; omega
           case rel => exact ⟨_, cnt1, D2, ⟨rfl⟩, HRG1, HD2', ⟨cnt_skip HND.out HXV.out.1 HLX.out HB0.out HRD2.out⟩, HVO3, HBW3⟩
          | true =>
           have hb2' : (Go.bits .andNot .i64 t x == 0) = false := by simpa [bne] using hb2
           obtain ⟨rt, hrt⟩ := stp_top HTOP.out HXV.out.1 HTM.out
           have HRT := am hrt
           clear hrt
           cases hb3 : (rt == Go.bits .andNot .i64 t x) with
           | false =>
            have HB0 : Aside0 (stpB k l0_0 x t = false) := ⟨by unfold stpB; rw [hb1, hb2, HRT.out, Option.getD_some, hb3]; rfl⟩
            go_wp2_with (go_at_call 139; (with_reducible refine (impl_Poset_top.calls k A0_0 c0_0 l0_0 _ rt _ (Kd.C_below HR0.out (HB1.out.trans (HBW3.out.mono HB1.out.size))) HC.out HRT.out).mono ?_); rintro e w5 ⟨rfl, hb5⟩; have HB5 := am hb5; clear hb5)
            go_roundg (cnt1 + 1)
            case measure => have := HK3.out; have := HLT.out; omega
            case rel => exact ⟨_, cnt1, D2, ⟨rfl⟩, ⟨HRG1.out.kept (mp_grown HB5.out) (by simp) (by simp)⟩, ⟨HD2'.out.kept (mp_grown HB5.out) (by simp)⟩, ⟨cnt_skip HND.out HXV.out.1 HLX.out HB0.out HRD2.out⟩, ⟨Kd.R_below HVO3.out HB5.out⟩, ⟨HBW3.out.trans (HB5.out.mono HBW3.out.size)⟩⟩
           | true =>
            have HB0 : Aside0 (stpB k l0_0 x t = true) := ⟨by unfold stpB; rw [hb1, hb2, HRT.out, Option.getD_some, hb3]; rfl⟩
            go_wp2_with (first
             | (go_at_call 139; (with_reducible refine (impl_Poset_top.calls k A0_0 c0_0 l0_0 _ rt _ (Kd.C_below HR0.out (HB1.out.trans (HBW3.out.mono HB1.out.size))) HC.out HRT.out).mono ?_); rintro e w5 ⟨rfl, hb5⟩; have HB5 := am hb5; have HD5 := am (HD2'.out.kept (mp_grown hb5) (by simp)); clear hb5)
             | (at_lookup; refine wpList_lookup_own_int _ rfl _ _ 96 rfl 3 3 .i64 mp_law Try.underlying96 Try.underlying3 (mp_zero _) WA.heap.size ids.length D2 rfl HD5.out _ _ rfl (keyOf_int_mk Try.underlying3 (mp_wf (HWF.out t HTM.out))) ?_; intro c0 hat0 hwc0; have HAT0 := am hat0; clear hat0 hwc0)
             | (at_mapUpdate; refine wpList_mapUpdate_own _ rfl _ _ _ 96 rfl 3 3 mp_law Try.underlying96 _ WA.heap.size ids.length D2 rfl HD5.out (by have := HLEN.out; unfold maxLen; omega) _ _ _ rfl rfl (keyOf_int_mk Try.underlying3 (mp_wf (HWF.out t HTM.out))) _ [] (plainElem_int Try.underlying3 (wrap64_wf _)) ?_; intro w4 hown4 hgrow4; have HD4 := am hown4; have HG4 := am hgrow4; clear hown4 hgrow4)
             | go_in)
            have HRD4 := am (cnt_add (B := stpB k l0_0) (i := i) (v := cntAt (stpB k l0_0) ids q) HND.out HTM.out HXV.out.1 HXV.out.2 HLX.out HB0.out HD5.out.isMap HRD2.out HAT0.out)
            go_roundg (cnt1 + 1)
            case measure => have := HK3.out; have := HLT.out; omega
            case rel => exact ⟨_, cnt1, _, ⟨rfl⟩, ⟨(HRG1.out.kept (mp_grown HB5.out) (by simp) (by simp)).kept HG4.out (by have := HNE.out; intro e; have := Option.some.inj e; omega) (by have := HNE.out; intro e; have := Option.some.inj e; omega)⟩, ⟨mp_norm mp_law HD4.out HRD4.out⟩, HRD4, ⟨mp_row_kept (Kd.R_below HVO3.out HB5.out) HD5.out HG4.out⟩, ⟨(HBW3.out.trans (HB5.out.mono HBW3.out.size)).grown HG4.out (by have := HBW3.out.size; have := HB5.out.size; omega) (fun j hj => by cases hj; exact HNE.out.2.2.1)⟩⟩
      ·have hi' : i = ids.length := by have := HK2.out; omega
       have e3 : decide ((i : Int) < (ids.length : Int)) = false := decide_eq_false (by omega)
       have e4 : decide (i < ids.length) = false := decide_eq_false hi
       have e5 : (i < ids.length) = False := eq_false hi
       have hwq : wrap64 ((q : Int) + 1) = ((q + 1 : Nat) : Int) := by unfold wrap64; have := HQ.out; have := HM.out; have := HPN.out; omega
       have HE := am hi'
       have HRDN := am (cnt_done (by have := HRD1.out; rwa [hi'] at this))
       have hcpB : WB.cell? ⟨w.heap.size, 0, none⟩ = some (.slice A0_0 l0_0.length c0_0) := (blk_cell (blk_below HPX.out HBW1.out) 0).trans rfl
       clear hi hi'
       go_wp2_with (first
        | (go_at_call 114; (with_reducible refine (impl_Poset_all.calls A0_0 c0_0 l0_0 al _ (Kd.C_below HR0.out (HB1.out.trans (HBW1.out.mono HB1.out.size))) HC.out HAL.out).mono ?_); rintro e w6 ⟨rfl, hb6⟩; have HD6 := am (HD1.out.kept (mp_grown hb6) (by simp)); have HVO6 := am (Kd.R_below HVO1.out hb6); have HB6 := am (HBW1.out.trans (hb6.mono HBW1.out.size)); clear hb6)
        | (at_lookup; refine wpList_lookup_own_int _ rfl _ _ 96 rfl 3 3 .i64 mp_law Try.underlying96 Try.underlying3 (mp_zero _) WA.heap.size ids.length D1 rfl HD6.out _ _ rfl (keyOf_int_mk Try.underlying3 (mp_wf (HWF.out al HALM.out))) ?_; intro c0 hat0 hwc0; have HAT0 := am hat0; clear hat0 hwc0)
        | ((with_reducible refine gate_builtin (b := .append) (xs := #[.tmp 60, .tmp 65]) rfl ?_); at_builtin; refine Kd.R_append (Kd.int .i64) (w0 := w1) w1.heap.size rfl (.tmp 60) (.tmp 65) 24 3 (.int .i64 0) 8 rfl Try.underlying24 info3 rfl (by decide) (by omega) u5 (stpOuts k l0_0 ids al q) c0 [.int .i64 c0] (fun _ => True) (fun _ => False) rfl rfl ?aP (fun _ hk => hk.elim) (fun _ _ => trivial) ?aO ?aB ?aS ?aL ?_; (case aP => exact rfl); (case aO => exact HVO6.out); (case aB => exact HB6.out); (case aS => exact HB6.out.size); (case aL => have := HQ.out; have := HM.out; have := HPN.out; unfold stpOuts; rw [List.length_map, List.length_range]; omega); intro v7 w7 hr7 hb7 hg7 hat7; have HVO7 := am hr7; have HB7 := am hb7; have HD7 := am (HD6.out.kept hg7 (mp_apart HVO6.out HD6.out)); clear hr7 hb7 hg7 hat7)
        | go_in)
       have HC0 : Aside0 (c0 = cntAt (stpB k l0_0) ids (q + 1) al) := ⟨by
        have := HRDN.out.at_ al HALM.out
        rw [HAT0.out] at this
        injection this with this
        injection this with _ this⟩
       go_roundg k1
       case measure => omega
       case rel => exact ⟨q + 1, _, D1, rfl, by rw [hwq], ⟨by have := HK.out; have := HQ.out; omega⟩, ⟨HBW.out.size⟩, HD7, HRDN, ⟨by have := HVO7.out; rwa [HC0.out, stp_snoc] at this⟩, HB7⟩
   ·have HQE : Aside0 (q = l0_0.length) := ⟨by have := HK.out; omega⟩
    have d1 : decide ((q : Int) < (l0_0.length : Int)) = false := decide_eq_false (by omega)
    have d2 : decide (q < l0_0.length) = false := decide_eq_false hq
    have d3 : (q < l0_0.length) = False := eq_false hq
    clear hq
    go_wp2_with (fail)
    go_ret
    refine ⟨_, rfl, ?_, HB1.out.trans (HBW.out.mono HB1.out.size)⟩
    have := HVO.out
    rw [HQE.out, HRES.out] at this
    exact Kd.R_lower this HB1.out.size
end Go.Proofs.Ytmbojobkiainlaa.F
end

section
namespace Go.Proofs.Ytmbojobkiainlaa.F
open Go.RowKit Go.Proofs.YtmbojobkiainlaaW.PrintWords Go.Proofs.YtmbojobkiainlaaW.PrintLast Go.Proofs.YtmbojobkiainlaaW.PrintMore
attribute [local go_sem] max2_int min2_int max_two min_two max_three min_three max_four min_four
set_option linter.unusedVariables false
set_option linter.unusedSimpArgs false
def impl_Poset_polynomial.l0 : Nat → Int → Int → Int → List Int → Int → Int → Option (Int)
 | 0, _, _, _, _, _, _ => none
 | k + 1, x1, x5, x6, x10, x11, x12 => if x12 < x11 then (if 0 ≤ x12 then (if x12 < (x10.length : Int) then (if (wrap64 (x12 + 1)) = 0 then (none) else (impl_Poset_polynomial.l0 k x1 (wrap64 (x5 + (wrap64 ((rd x10 x12) * (wrap64 (Int.tdiv (wrap64 (x6 * (wrap64 (x1 - x12)))) (wrap64 (x12 + 1)))))))) (wrap64 (Int.tdiv (wrap64 (x6 * (wrap64 (x1 - x12)))) (wrap64 (x12 + 1)))) x10 x11 (wrap64 (x12 + 1)))) else (none)) else (none)) else (some x5)
def impl_Poset_polynomial.f (k : Nat) (l0_0 : List Int) (a1 : Int) : Option (Int) := (impl_Poset_steps.f k l0_0).bind fun t683 => (impl_Poset_polynomial.l0 k a1 0 1 t683 (t683.length : Int) 0)
theorem impl_Poset_polynomial.mono_l : ∀ k, (∀ y0 y1 y2 y3 y4 y5, LeO (impl_Poset_polynomial.l0 k y0 y1 y2 y3 y4 y5) (impl_Poset_polynomial.l0 (k + 1) y0 y1 y2 y3 y4 y5))
 | 0 => fun _ _ _ _ _ _ r h => by simp [impl_Poset_polynomial.l0] at h
 | k + 1 => by
  have ih0 := impl_Poset_polynomial.mono_l k
  ·intro y0 y1 y2 y3 y4 y5
   unfold impl_Poset_polynomial.l0
   repeat' first
   | (with_reducible exact impl_Poset_steps.mono _ _)
   | (with_reducible exact LeO.refl _)
   | (with_reducible exact LeO.none _)
   | (with_reducible refine LeO.ite ?_ ?_)
   | (with_reducible refine LeO.bind ?_ (fun _ => ?_))
   | exact ih0 _ _ _ _ _ _
   | exact impl_Poset_steps.mono _ _
   | exact LeO.none _
   | refine LeO.ite ?_ ?_
   | refine LeO.bind ?_ (fun _ => ?_)
theorem impl_Poset_polynomial.mono : ∀ a0 a1 k, LeO (impl_Poset_polynomial.f k a0 a1) (impl_Poset_polynomial.f (k + 1) a0 a1) := by
 intro a0 a1 k
 have ih0 := impl_Poset_polynomial.mono_l k
 unfold impl_Poset_polynomial.f
 repeat' first
  | (with_reducible exact impl_Poset_steps.mono _ _)
  | (with_reducible exact LeO.refl _)
  | (with_reducible exact LeO.none _)
  | (with_reducible refine LeO.ite ?_ ?_)
  | (with_reducible refine LeO.bind ?_ (fun _ => ?_))
  | exact ih0 _ _ _ _ _ _
  | exact impl_Poset_steps.mono _ _
  | exact LeO.none _
  | refine LeO.ite ?_ ?_
  | refine LeO.bind ?_ (fun _ => ?_)
set_option maxHeartbeats 8000000 in
set_option maxRecDepth 100000 in
theorem impl_Poset_polynomial.calls (k : Nat) (A0_0 : Option Addr) (c0_0 : Nat) (l0_0 : List Int) (a1 : Int) (r : Int) (w : World) (hr0_0 : Kd.C (Kd.int .i64) w A0_0 l0_0.length l0_0) (hc0_0 : l0_0.length ≤ c0_0) (h : impl_Poset_polynomial.f k l0_0 a1 = some r) :
 Calls Try.prog 97 #[.agg #[.slice A0_0 l0_0.length c0_0], .int .i64 a1] w fun e w' => e = .returned (.int .i64 r) ∧ Below w.heap.size w w' := by
 have hu26 := Try.underlying26
 have HR0_0 := am hr0_0
 have HC0_0 := am hc0_0
 clear hr0_0 hc0_0
 have HB := am (Below.refl w.heap.size w)
 have H : ((impl_Poset_steps.f k l0_0).bind fun t683 => (impl_Poset_polynomial.l0 k a1 0 1 t683 (t683.length : Int) 0)) = some r := h
 clear h
 replace H := Option.bind_eq_some_iff.mp H
 obtain ⟨t683, A30, H⟩ := H
 replace H : (impl_Poset_polynomial.l0 k a1 0 1 t683 (t683.length : Int) 0) = some r := H
 have A3 := am A30
 clear A30
 have H' := am H
 clear H
 go_enter Try.func97, Try.ntmps97
 go_wp2_with (first | ((with_reducible refine gate_dst (N := 2) rfl ?_); refine qx (N := 2) (cs := #[.slice A0_0 l0_0.length c0_0]) (t := 26) ?_; intro gb682 hg w4 hbox hb; have n0_ := am (below_step qB hb); have BK682 := am (hbox); have GW682 := am (qg w hg); have GE682 := am (qg w hg); clear HB; have HB := n0_; clear n0_; clear hb hbox hg; have hcz5_0 := qz w4 BK682.out; have hfz5_0 := blk_frozen BK682.out 0) | ((with_reducible refine gate_callee (f := 100) rfl ?_); refine gL (some 10) Try.func100 #[.agg #[.slice A0_0 l0_0.length c0_0]] ?_; (with_reducible refine (impl_Poset_steps.calls k _ _ l0_0 t683 _ ?side1 ?side2 A3.out).mono ?_); (case side1 => exact qC (Kd.C_below HR0_0.out HB.out)); (case side2 => exact HC0_0.out); rintro e w6 ⟨v684, rfl, ho0, hb⟩; refine ⟨_, rfl, ?_⟩; have HO685 := am (Kd.R_lower ho0 (below_size qB)); replace BK682 := am (blk_below (g := gb682) (o := .cells #[.slice A0_0 l0_0.length c0_0] 26 (0, 0)) (qb BK682.out) hb); replace HB := am (below_step qB hb); (try clear hb); (try clear hb2); (try clear hk); (try clear hi); (try clear ho0); obtain ⟨Ao7, co7, eo7⟩ := Kd.R_slice HO685.out; subst eo7))
 go_loopg [5, 6, 12] k (fun kq v5 v6 v12 w' => ∃ (x5_1 : Int) (x6_1 : Int) (x12_1 : Int), v5 = .int .i64 x5_1 ∧ v6 = .int .i64 x6_1 ∧ v12 = .int .i64 x12_1 ∧ Aside0 (impl_Poset_polynomial.l0 kq a1 x5_1 x6_1 t683 (t683.length : Int) x12_1 = some r) ∧ Aside0 (kq ≤ k) ∧ Aside0 (Kd.R (Kd.int .i64) 3 w' w.heap.size (fun _ => True) (.slice Ao7 t683.length co7) t683) ∧ Aside0 (w'.heap[gb682]? = some (.cells #[(.slice A0_0 l0_0.length c0_0)] 26 (0, 0))) ∧ Aside0 (Below w.heap.size w w'))
 case atStart => exact ⟨(0), (1), (0), qe, qe, qe, H', ⟨Nat.le_refl _⟩, ⟨qR HO685.out⟩, ⟨qb BK682.out⟩, ⟨qB⟩⟩
 case round =>
  clear H'
  try clear c1
  try clear p2
  try clear hcz5_0
  try clear hfz5_0
  obtain ⟨x5_1, x6_1, x12_1, rfl, rfl, rfl, HA, HK1, HO_10, BK682, HB⟩ := hrel
  cases gk with
  | zero => exact absurd HA.out (by simp [impl_Poset_polynomial.l0])
  | succ k1 =>
   have H := HA.out
   clear HA
   simp only [impl_Poset_polynomial.l0] at H
   by_cases c8 : x12_1 < (t683.length : Int)
   ·rw [if_pos c8] at H
    have c8b0 := decide_eq_true c8
    clear c8
    by_cases c9 : 0 ≤ x12_1
    rotate_left
    ·rw [if_neg c9] at H
     exact absurd H (by simp)
    rw [if_pos c9] at H
    have c9b0 := decide_eq_true c9
    clear c9
    by_cases c10 : x12_1 < (t683.length : Int)
    rotate_left
    ·rw [if_neg c10] at H
     exact absurd H (by simp)
    rw [if_pos c10] at H
    have c10b0 := decide_eq_true c10
    clear c10
    by_cases c11 : (wrap64 (x12_1 + 1)) = 0
    ·rw [if_pos c11] at H
     exact absurd H (by simp)
    ·rw [if_neg c11] at H
     have c11b0 : ((wrap64 (x12_1 + 1)) == 0) = false := beq_eq_false_iff_ne.mpr c11
     have c11b1 : ((wrap64 (x12_1 + 1)) != 0) = true := bne_iff_ne.mpr c11
     have H' := am H
     clear H
     have p686 : 0 ≤ (x12_1 : Int) := qd
     have q686 : x12_1 < (t683.length : Int) := qd
     obtain ⟨ad686, e686, hx686_0⟩ := Kd.at_int (Kd.R_reads' HO_10.out).2.2 x12_1 p686 q686
     cases e686
     replace p686 := eq_true p686
     replace q686 := eq_true q686
     go_wp2
     go_roundg k1
     case measure => have := HK1.out; omega
     case rel => exact ⟨(wrap64 (x5_1 + (wrap64 ((rd t683 x12_1) * (wrap64 (Int.tdiv (wrap64 (x6_1 * (wrap64 (a1 - x12_1)))) (wrap64 (x12_1 + 1)))))))), (wrap64 (Int.tdiv (wrap64 (x6_1 * (wrap64 (a1 - x12_1)))) (wrap64 (x12_1 + 1)))), (wrap64 (x12_1 + 1)), qe, qe, qe, H', ⟨by have := HK1.out; omega⟩, ⟨qR HO_10.out⟩, ⟨qb BK682.out⟩, ⟨qB⟩⟩
   ·rw [if_neg c8] at H
    have c8b0 := decide_eq_false c8
    clear c8
    obtain rfl := Option.some.inj H
    go_wp2
    go_ret
    exact ⟨qr, qB⟩
def impl_CountStrict.f (k : Nat) (l0_0 : List Int) (a1 : Int) : Option (Int × Bool) := (impl_IsPoset.f k l0_0).bind fun t688 => (if t688 = true then ((impl_isBound.f a1).bind fun t689 => (if t689 = true then ((impl_Poset_polynomial.f k l0_0 (wrap64 (a1 + 1))).bind fun t690 => (some (t690, true))) else (some (0, false)))) else (some (0, false)))
theorem impl_CountStrict.mono : ∀ a0 a1 k, LeO (impl_CountStrict.f k a0 a1) (impl_CountStrict.f (k + 1) a0 a1) := by
 intro a0 a1 k
 unfold impl_CountStrict.f
 repeat' first
  | (with_reducible exact impl_IsPoset.mono _ _)
  | (with_reducible exact impl_Poset_polynomial.mono _ _ _)
  | (with_reducible exact LeO.refl _)
  | (with_reducible exact LeO.none _)
  | (with_reducible refine LeO.ite ?_ ?_)
  | (with_reducible refine LeO.bind ?_ (fun _ => ?_))
  | exact impl_IsPoset.mono _ _
  | exact impl_Poset_polynomial.mono _ _ _
  | exact LeO.none _
  | refine LeO.ite ?_ ?_
  | refine LeO.bind ?_ (fun _ => ?_)
set_option maxHeartbeats 8000000 in
set_option maxRecDepth 100000 in
theorem impl_CountStrict.calls (k : Nat) (A0_0 : Option Addr) (c0_0 : Nat) (l0_0 : List Int) (a1 : Int) (r1 : Int) (r2 : Bool) (w : World) (hr0_0 : Kd.C (Kd.int .i64) w A0_0 l0_0.length l0_0) (hc0_0 : l0_0.length ≤ c0_0) (h : impl_CountStrict.f k l0_0 a1 = some (r1, r2)) :
 Calls Try.prog 32 #[.agg #[.slice A0_0 l0_0.length c0_0], .int .i64 a1] w fun e w' => e = .returned (.tuple #[.int .i64 r1, .bool r2]) ∧ Below w.heap.size w w' := by
 have hu26 := Try.underlying26
 have HR0_0 := am hr0_0
 have HC0_0 := am hc0_0
 clear hr0_0 hc0_0
 have HB := am (Below.refl w.heap.size w)
 have H : ((impl_IsPoset.f k l0_0).bind fun t688 => (if t688 = true then ((impl_isBound.f a1).bind fun t689 => (if t689 = true then ((impl_Poset_polynomial.f k l0_0 (wrap64 (a1 + 1))).bind fun t690 => (some (t690, true))) else (some (0, false)))) else (some (0, false)))) = some (r1, r2) := h
 clear h
 replace H := Option.bind_eq_some_iff.mp H
 obtain ⟨t688, A30, H⟩ := H
 replace H : (if t688 = true then ((impl_isBound.f a1).bind fun t689 => (if t689 = true then ((impl_Poset_polynomial.f k l0_0 (wrap64 (a1 + 1))).bind fun t690 => (some (t690, true))) else (some (0, false)))) else (some (0, false))) = some (r1, r2) := H
 have A3 := am A30
 clear A30
 by_cases c4 : t688 = true
 ·subst c4
  have H1 : ((impl_isBound.f a1).bind fun t689 => (if t689 = true then ((impl_Poset_polynomial.f k l0_0 (wrap64 (a1 + 1))).bind fun t690 => (some (t690, true))) else (some (0, false)))) = some (r1, r2) := by rw [if_pos rfl] at H; exact H
  clear H
  have H := H1
  clear H1
  replace H := Option.bind_eq_some_iff.mp H
  obtain ⟨t689, A50, H⟩ := H
  replace H : (if t689 = true then ((impl_Poset_polynomial.f k l0_0 (wrap64 (a1 + 1))).bind fun t690 => (some (t690, true))) else (some (0, false))) = some (r1, r2) := H
  have A5 := am A50
  clear A50
  by_cases c6 : t689 = true
  ·subst c6
   have H1 : ((impl_Poset_polynomial.f k l0_0 (wrap64 (a1 + 1))).bind fun t690 => (some (t690, true))) = some (r1, r2) := by rw [if_pos rfl] at H; exact H
   clear H
   have H := H1
   clear H1
   replace H := Option.bind_eq_some_iff.mp H
   obtain ⟨t690, A70, H⟩ := H
   replace H : (some (t690, true)) = some (r1, r2) := H
   have A7 := am A70
   clear A70
   simp only [Option.some.injEq, Prod.mk.injEq] at H
   obtain ⟨rfl, rfl⟩ := H
   go_enter Try.func32, Try.ntmps32
   go_wp2_with (first | ((with_reducible refine gate_dst (N := 2) rfl ?_); refine qx (N := 2) (cs := #[.slice A0_0 l0_0.length c0_0]) (t := 26) ?_; intro gb687 hg w8 hbox hb; have n0_ := am (below_step qB hb); have BK687 := am (hbox); have GW687 := am (qg w hg); have GE687 := am (qg w hg); clear HB; have HB := n0_; clear n0_; clear hb hbox hg; have hcz9_0 := qz w8 BK687.out; have hfz9_0 := blk_frozen BK687.out 0) | ((with_reducible refine gate_callee (f := 40) rfl ?_); refine gL (some 7) Try.func40 #[.agg #[.slice A0_0 l0_0.length c0_0]] ?_; (with_reducible refine (impl_IsPoset.calls k _ _ l0_0 true _ ?side1 ?side2 A3.out).mono ?_); (case side1 => exact qC (Kd.C_below HR0_0.out HB.out)); (case side2 => exact HC0_0.out); rintro e w10 ⟨rfl, hb⟩; refine ⟨_, rfl, ?_⟩; replace BK687 := am (blk_below (g := gb687) (o := .cells #[.slice A0_0 l0_0.length c0_0] 26 (0, 0)) (qb BK687.out) hb); replace HB := am (below_step qB hb); (try clear hb); (try clear hb2); (try clear hk); (try clear hi)) | (go_at_call 69; (with_reducible refine (impl_isBound.calls a1 true _ A5.out).mono ?_); rintro e w' ⟨rfl, ⟨nd, rfl⟩⟩; have hcz11_0 := qz w10 BK687.out; have hfz11_0 := blk_frozen BK687.out 0) | ((with_reducible refine gate_callee (f := 97) rfl ?_); refine gL (some 17) Try.func97 #[.agg #[.slice A0_0 l0_0.length c0_0], .int .i64 (wrap64 (a1 + 1))] ?_; (with_reducible refine (impl_Poset_polynomial.calls k _ _ l0_0 (wrap64 (a1 + 1)) t690 _ ?side1 ?side2 A7.out).mono ?_); (case side1 => exact qC (Kd.C_below HR0_0.out qB)); (case side2 => exact HC0_0.out); rintro e w12 ⟨rfl, hb⟩; refine ⟨_, rfl, ?_⟩; replace BK687 := am (blk_below (g := gb687) (o := .cells #[.slice A0_0 l0_0.length c0_0] 26 (0, 0)) (qb BK687.out) hb); replace HB := am (below_step qB hb); (try clear hb); (try clear hb2); (try clear hk); (try clear hi)))
   go_ret2
   exact ⟨qr, qB⟩
  ·replace c6 := Bool.eq_false_iff.mpr c6
   subst c6
   have H1 : (some (0, false)) = some (r1, r2) := by rw [if_neg (show ¬ (false = true) by decide)] at H; exact H
   clear H
   have H := H1
   clear H1
   simp only [Option.some.injEq, Prod.mk.injEq] at H
   obtain ⟨rfl, rfl⟩ := H
   go_enter Try.func32, Try.ntmps32
   go_wp2_with (first | ((with_reducible refine gate_dst (N := 2) rfl ?_); refine qx (N := 2) (cs := #[.slice A0_0 l0_0.length c0_0]) (t := 26) ?_; intro gb687 hg w13 hbox hb; have n0_ := am (below_step qB hb); have BK687 := am (hbox); have GW687 := am (qg w hg); have GE687 := am (qg w hg); clear HB; have HB := n0_; clear n0_; clear hb hbox hg; have hcz14_0 := qz w13 BK687.out; have hfz14_0 := blk_frozen BK687.out 0) | ((with_reducible refine gate_callee (f := 40) rfl ?_); refine gL (some 7) Try.func40 #[.agg #[.slice A0_0 l0_0.length c0_0]] ?_; (with_reducible refine (impl_IsPoset.calls k _ _ l0_0 true _ ?side1 ?side2 A3.out).mono ?_); (case side1 => exact qC (Kd.C_below HR0_0.out HB.out)); (case side2 => exact HC0_0.out); rintro e w15 ⟨rfl, hb⟩; refine ⟨_, rfl, ?_⟩; replace BK687 := am (blk_below (g := gb687) (o := .cells #[.slice A0_0 l0_0.length c0_0] 26 (0, 0)) (qb BK687.out) hb); replace HB := am (below_step qB hb); (try clear hb); (try clear hb2); (try clear hk); (try clear hi)) | (go_at_call 69; (with_reducible refine (impl_isBound.calls a1 false _ A5.out).mono ?_); rintro e w' ⟨rfl, ⟨nd, rfl⟩⟩))
   go_ret2
   exact ⟨qr, qB⟩
 ·replace c4 := Bool.eq_false_iff.mpr c4
  subst c4
  have H1 : (some (0, false)) = some (r1, r2) := by rw [if_neg (show ¬ (false = true) by decide)] at H; exact H
  clear H
  have H := H1
  clear H1
  simp only [Option.some.injEq, Prod.mk.injEq] at H
  obtain ⟨rfl, rfl⟩ := H
  go_enter Try.func32, Try.ntmps32
  go_wp2_with (first | ((with_reducible refine gate_dst (N := 2) rfl ?_); refine qx (N := 2) (cs := #[.slice A0_0 l0_0.length c0_0]) (t := 26) ?_; intro gb687 hg w16 hbox hb; have n0_ := am (below_step qB hb); have BK687 := am (hbox); have GW687 := am (qg w hg); have GE687 := am (qg w hg); clear HB; have HB := n0_; clear n0_; clear hb hbox hg; have hcz17_0 := qz w16 BK687.out; have hfz17_0 := blk_frozen BK687.out 0) | ((with_reducible refine gate_callee (f := 40) rfl ?_); refine gL (some 7) Try.func40 #[.agg #[.slice A0_0 l0_0.length c0_0]] ?_; (with_reducible refine (impl_IsPoset.calls k _ _ l0_0 false _ ?side1 ?side2 A3.out).mono ?_); (case side1 => exact qC (Kd.C_below HR0_0.out HB.out)); (case side2 => exact HC0_0.out); rintro e w18 ⟨rfl, hb⟩; refine ⟨_, rfl, ?_⟩; replace BK687 := am (blk_below (g := gb687) (o := .cells #[.slice A0_0 l0_0.length c0_0] 26 (0, 0)) (qb BK687.out) hb); replace HB := am (below_step qB hb); (try clear hb); (try clear hb2); (try clear hk); (try clear hi)))
  go_ret2
  exact ⟨qr, qB⟩
def impl_LabelPolynomialAt.f (k : Nat) (l0_0 : List Int) (a1 : Int) : Option (Int × Bool) := (impl_IsPoset.f k l0_0).bind fun t696 => (if t696 = true then ((impl_within.f a1 (-13) 13).bind fun t697 => (if t697 = true then ((impl_Poset_polynomial.f k l0_0 a1).bind fun t698 => (some (t698, true))) else (some (0, false)))) else (some (0, false)))
theorem impl_LabelPolynomialAt.mono : ∀ a0 a1 k, LeO (impl_LabelPolynomialAt.f k a0 a1) (impl_LabelPolynomialAt.f (k + 1) a0 a1) := by
 intro a0 a1 k
 unfold impl_LabelPolynomialAt.f
 repeat' first
  | (with_reducible exact impl_IsPoset.mono _ _)
  | (with_reducible exact impl_Poset_polynomial.mono _ _ _)
  | (with_reducible exact LeO.refl _)
  | (with_reducible exact LeO.none _)
  | (with_reducible refine LeO.ite ?_ ?_)
  | (with_reducible refine LeO.bind ?_ (fun _ => ?_))
  | exact impl_IsPoset.mono _ _
  | exact impl_Poset_polynomial.mono _ _ _
  | exact LeO.none _
  | refine LeO.ite ?_ ?_
  | refine LeO.bind ?_ (fun _ => ?_)
set_option maxHeartbeats 8000000 in
set_option maxRecDepth 100000 in
theorem impl_LabelPolynomialAt.calls (k : Nat) (A0_0 : Option Addr) (c0_0 : Nat) (l0_0 : List Int) (a1 : Int) (r1 : Int) (r2 : Bool) (w : World) (hr0_0 : Kd.C (Kd.int .i64) w A0_0 l0_0.length l0_0) (hc0_0 : l0_0.length ≤ c0_0) (h : impl_LabelPolynomialAt.f k l0_0 a1 = some (r1, r2)) :
 Calls Try.prog 35 #[.agg #[.slice A0_0 l0_0.length c0_0], .int .i64 a1] w fun e w' => e = .returned (.tuple #[.int .i64 r1, .bool r2]) ∧ Below w.heap.size w w' := by
 have hu26 := Try.underlying26
 have HR0_0 := am hr0_0
 have HC0_0 := am hc0_0
 clear hr0_0 hc0_0
 have HB := am (Below.refl w.heap.size w)
 have H : ((impl_IsPoset.f k l0_0).bind fun t696 => (if t696 = true then ((impl_within.f a1 (-13) 13).bind fun t697 => (if t697 = true then ((impl_Poset_polynomial.f k l0_0 a1).bind fun t698 => (some (t698, true))) else (some (0, false)))) else (some (0, false)))) = some (r1, r2) := h
 clear h
 replace H := Option.bind_eq_some_iff.mp H
 obtain ⟨t696, A30, H⟩ := H
 replace H : (if t696 = true then ((impl_within.f a1 (-13) 13).bind fun t697 => (if t697 = true then ((impl_Poset_polynomial.f k l0_0 a1).bind fun t698 => (some (t698, true))) else (some (0, false)))) else (some (0, false))) = some (r1, r2) := H
 have A3 := am A30
 clear A30
 by_cases c4 : t696 = true
 ·subst c4
  have H1 : ((impl_within.f a1 (-13) 13).bind fun t697 => (if t697 = true then ((impl_Poset_polynomial.f k l0_0 a1).bind fun t698 => (some (t698, true))) else (some (0, false)))) = some (r1, r2) := by rw [if_pos rfl] at H; exact H
  clear H
  have H := H1
  clear H1
  replace H := Option.bind_eq_some_iff.mp H
  obtain ⟨t697, A50, H⟩ := H
  replace H : (if t697 = true then ((impl_Poset_polynomial.f k l0_0 a1).bind fun t698 => (some (t698, true))) else (some (0, false))) = some (r1, r2) := H
  have A5 := am A50
  clear A50
  by_cases c6 : t697 = true
  ·subst c6
   have H1 : ((impl_Poset_polynomial.f k l0_0 a1).bind fun t698 => (some (t698, true))) = some (r1, r2) := by rw [if_pos rfl] at H; exact H
   clear H
   have H := H1
   clear H1
   replace H := Option.bind_eq_some_iff.mp H
   obtain ⟨t698, A70, H⟩ := H
   replace H : (some (t698, true)) = some (r1, r2) := H
   have A7 := am A70
   clear A70
   simp only [Option.some.injEq, Prod.mk.injEq] at H
   obtain ⟨rfl, rfl⟩ := H
   go_enter Try.func35, Try.ntmps35
   go_wp2_with (first | ((with_reducible refine gate_dst (N := 2) rfl ?_); refine qx (N := 2) (cs := #[.slice A0_0 l0_0.length c0_0]) (t := 26) ?_; intro gb695 hg w8 hbox hb; have n0_ := am (below_step qB hb); have BK695 := am (hbox); have GW695 := am (qg w hg); have GE695 := am (qg w hg); clear HB; have HB := n0_; clear n0_; clear hb hbox hg; have hcz9_0 := qz w8 BK695.out; have hfz9_0 := blk_frozen BK695.out 0) | ((with_reducible refine gate_callee (f := 40) rfl ?_); refine gL (some 7) Try.func40 #[.agg #[.slice A0_0 l0_0.length c0_0]] ?_; (with_reducible refine (impl_IsPoset.calls k _ _ l0_0 true _ ?side1 ?side2 A3.out).mono ?_); (case side1 => exact qC (Kd.C_below HR0_0.out HB.out)); (case side2 => exact HC0_0.out); rintro e w10 ⟨rfl, hb⟩; refine ⟨_, rfl, ?_⟩; replace BK695 := am (blk_below (g := gb695) (o := .cells #[.slice A0_0 l0_0.length c0_0] 26 (0, 0)) (qb BK695.out) hb); replace HB := am (below_step qB hb); (try clear hb); (try clear hb2); (try clear hk); (try clear hi)) | (go_at_call 72; (with_reducible refine (impl_within.calls a1 (-13) 13 true _ A5.out).mono ?_); rintro e w' ⟨rfl, ⟨nd, rfl⟩⟩; have hcz11_0 := qz w10 BK695.out; have hfz11_0 := blk_frozen BK695.out 0) | ((with_reducible refine gate_callee (f := 97) rfl ?_); refine gL (some 16) Try.func97 #[.agg #[.slice A0_0 l0_0.length c0_0], .int .i64 a1] ?_; (with_reducible refine (impl_Poset_polynomial.calls k _ _ l0_0 a1 t698 _ ?side1 ?side2 A7.out).mono ?_); (case side1 => exact qC (Kd.C_below HR0_0.out qB)); (case side2 => exact HC0_0.out); rintro e w12 ⟨rfl, hb⟩; refine ⟨_, rfl, ?_⟩; replace BK695 := am (blk_below (g := gb695) (o := .cells #[.slice A0_0 l0_0.length c0_0] 26 (0, 0)) (qb BK695.out) hb); replace HB := am (below_step qB hb); (try clear hb); (try clear hb2); (try clear hk); (try clear hi)))
   go_ret2
   exact ⟨qr, qB⟩
  ·replace c6 := Bool.eq_false_iff.mpr c6
   subst c6
   have H1 : (some (0, false)) = some (r1, r2) := by rw [if_neg (show ¬ (false = true) by decide)] at H; exact H
   clear H
   have H := H1
   clear H1
   simp only [Option.some.injEq, Prod.mk.injEq] at H
   obtain ⟨rfl, rfl⟩ := H
   go_enter Try.func35, Try.ntmps35
   go_wp2_with (first | ((with_reducible refine gate_dst (N := 2) rfl ?_); refine qx (N := 2) (cs := #[.slice A0_0 l0_0.length c0_0]) (t := 26) ?_; intro gb695 hg w13 hbox hb; have n0_ := am (below_step qB hb); have BK695 := am (hbox); have GW695 := am (qg w hg); have GE695 := am (qg w hg); clear HB; have HB := n0_; clear n0_; clear hb hbox hg; have hcz14_0 := qz w13 BK695.out; have hfz14_0 := blk_frozen BK695.out 0) | ((with_reducible refine gate_callee (f := 40) rfl ?_); refine gL (some 7) Try.func40 #[.agg #[.slice A0_0 l0_0.length c0_0]] ?_; (with_reducible refine (impl_IsPoset.calls k _ _ l0_0 true _ ?side1 ?side2 A3.out).mono ?_); (case side1 => exact qC (Kd.C_below HR0_0.out HB.out)); (case side2 => exact HC0_0.out); rintro e w15 ⟨rfl, hb⟩; refine ⟨_, rfl, ?_⟩; replace BK695 := am (blk_below (g := gb695) (o := .cells #[.slice A0_0 l0_0.length c0_0] 26 (0, 0)) (qb BK695.out) hb); replace HB := am (below_step qB hb); (try clear hb); (try clear hb2); (try clear hk); (try clear hi)) | (go_at_call 72; (with_reducible refine (impl_within.calls a1 (-13) 13 false _ A5.out).mono ?_); rintro e w' ⟨rfl, ⟨nd, rfl⟩⟩))
   go_ret2
   exact ⟨qr, qB⟩
 ·replace c4 := Bool.eq_false_iff.mpr c4
  subst c4
  have H1 : (some (0, false)) = some (r1, r2) := by rw [if_neg (show ¬ (false = true) by decide)] at H; exact H
  clear H
  have H := H1
  clear H1
  simp only [Option.some.injEq, Prod.mk.injEq] at H
  obtain ⟨rfl, rfl⟩ := H
  go_enter Try.func35, Try.ntmps35
  go_wp2_with (first | ((with_reducible refine gate_dst (N := 2) rfl ?_); refine qx (N := 2) (cs := #[.slice A0_0 l0_0.length c0_0]) (t := 26) ?_; intro gb695 hg w16 hbox hb; have n0_ := am (below_step qB hb); have BK695 := am (hbox); have GW695 := am (qg w hg); have GE695 := am (qg w hg); clear HB; have HB := n0_; clear n0_; clear hb hbox hg; have hcz17_0 := qz w16 BK695.out; have hfz17_0 := blk_frozen BK695.out 0) | ((with_reducible refine gate_callee (f := 40) rfl ?_); refine gL (some 7) Try.func40 #[.agg #[.slice A0_0 l0_0.length c0_0]] ?_; (with_reducible refine (impl_IsPoset.calls k _ _ l0_0 false _ ?side1 ?side2 A3.out).mono ?_); (case side1 => exact qC (Kd.C_below HR0_0.out HB.out)); (case side2 => exact HC0_0.out); rintro e w18 ⟨rfl, hb⟩; refine ⟨_, rfl, ?_⟩; replace BK695 := am (blk_below (g := gb695) (o := .cells #[.slice A0_0 l0_0.length c0_0] 26 (0, 0)) (qb BK695.out) hb); replace HB := am (below_step qB hb); (try clear hb); (try clear hb2); (try clear hk); (try clear hi)))
  go_ret2
  exact ⟨qr, qB⟩
def impl_StepCounts.f (k : Nat) (l0_0 : List Int) : Option (List Int × Bool) := (impl_IsPoset.f k l0_0).bind fun t708 => (if t708 = true then ((impl_Poset_steps.f k l0_0).bind fun t709 => (some (t709, true))) else (some (([] : List Int), false)))
theorem impl_StepCounts.mono : ∀ a0 k, LeO (impl_StepCounts.f k a0) (impl_StepCounts.f (k + 1) a0) := by
 intro a0 k
 unfold impl_StepCounts.f
 repeat' first
  | (with_reducible exact impl_IsPoset.mono _ _)
  | (with_reducible exact impl_Poset_steps.mono _ _)
  | (with_reducible exact LeO.refl _)
  | (with_reducible exact LeO.none _)
  | (with_reducible refine LeO.ite ?_ ?_)
  | (with_reducible refine LeO.bind ?_ (fun _ => ?_))
  | exact impl_IsPoset.mono _ _
  | exact impl_Poset_steps.mono _ _
  | exact LeO.none _
  | refine LeO.ite ?_ ?_
  | refine LeO.bind ?_ (fun _ => ?_)
set_option maxHeartbeats 8000000 in
set_option maxRecDepth 100000 in
theorem impl_StepCounts.calls (k : Nat) (A0_0 : Option Addr) (c0_0 : Nat) (l0_0 : List Int) (r1 : List Int) (r2 : Bool) (w : World) (hr0_0 : Kd.C (Kd.int .i64) w A0_0 l0_0.length l0_0) (hc0_0 : l0_0.length ≤ c0_0) (h : impl_StepCounts.f k l0_0 = some (r1, r2)) :
 Calls Try.prog 38 #[.agg #[.slice A0_0 l0_0.length c0_0]] w fun e w' => ∃ v0_ : Value, e = .returned (.tuple #[v0_, .bool r2]) ∧ Kd.R (Kd.int .i64) 3 w' w.heap.size (fun _ => True) v0_ r1 ∧ Below w.heap.size w w' := by
 have hu26 := Try.underlying26
 have HR0_0 := am hr0_0
 have HC0_0 := am hc0_0
 clear hr0_0 hc0_0
 have HB := am (Below.refl w.heap.size w)
 have H : ((impl_IsPoset.f k l0_0).bind fun t708 => (if t708 = true then ((impl_Poset_steps.f k l0_0).bind fun t709 => (some (t709, true))) else (some (([] : List Int), false)))) = some (r1, r2) := h
 clear h
 replace H := Option.bind_eq_some_iff.mp H
 obtain ⟨t708, A20, H⟩ := H
 replace H : (if t708 = true then ((impl_Poset_steps.f k l0_0).bind fun t709 => (some (t709, true))) else (some (([] : List Int), false))) = some (r1, r2) := H
 have A2 := am A20
 clear A20
 by_cases c3 : t708 = true
 ·subst c3
  have H1 : ((impl_Poset_steps.f k l0_0).bind fun t709 => (some (t709, true))) = some (r1, r2) := by rw [if_pos rfl] at H; exact H
  clear H
  have H := H1
  clear H1
  replace H := Option.bind_eq_some_iff.mp H
  obtain ⟨t709, A40, H⟩ := H
  replace H : (some (t709, true)) = some (r1, r2) := H
  have A4 := am A40
  clear A40
  simp only [Option.some.injEq, Prod.mk.injEq] at H
  obtain ⟨rfl, rfl⟩ := H
  go_enter Try.func38, Try.ntmps38
  go_wp2_with (first | ((with_reducible refine gate_dst (N := 1) rfl ?_); refine qx (N := 1) (cs := #[.slice A0_0 l0_0.length c0_0]) (t := 26) ?_; intro gb707 hg w5 hbox hb; have n0_ := am (below_step qB hb); have BK707 := am (hbox); have GW707 := am (qg w hg); have GE707 := am (qg w hg); clear HB; have HB := n0_; clear n0_; clear hb hbox hg; have hcz6_0 := qz w5 BK707.out; have hfz6_0 := blk_frozen BK707.out 0) | ((with_reducible refine gate_callee (f := 40) rfl ?_); refine gL (some 5) Try.func40 #[.agg #[.slice A0_0 l0_0.length c0_0]] ?_; (with_reducible refine (impl_IsPoset.calls k _ _ l0_0 true _ ?side1 ?side2 A2.out).mono ?_); (case side1 => exact qC (Kd.C_below HR0_0.out HB.out)); (case side2 => exact HC0_0.out); rintro e w7 ⟨rfl, hb⟩; refine ⟨_, rfl, ?_⟩; replace BK707 := am (blk_below (g := gb707) (o := .cells #[.slice A0_0 l0_0.length c0_0] 26 (0, 0)) (qb BK707.out) hb); replace HB := am (below_step qB hb); (try clear hb); (try clear hb2); (try clear hk); (try clear hi); have hcz8_0 := qz w7 BK707.out; have hfz8_0 := blk_frozen BK707.out 0) | ((with_reducible refine gate_callee (f := 100) rfl ?_); refine gL (some 8) Try.func100 #[.agg #[.slice A0_0 l0_0.length c0_0]] ?_; (with_reducible refine (impl_Poset_steps.calls k _ _ l0_0 t709 _ ?side1 ?side2 A4.out).mono ?_); (case side1 => exact qC (Kd.C_below HR0_0.out HB.out)); (case side2 => exact HC0_0.out); rintro e w9 ⟨v710, rfl, ho0, hb⟩; refine ⟨_, rfl, ?_⟩; have HO711 := am (Kd.R_lower ho0 (below_size qB)); replace BK707 := am (blk_below (g := gb707) (o := .cells #[.slice A0_0 l0_0.length c0_0] 26 (0, 0)) (qb BK707.out) hb); replace HB := am (below_step qB hb); (try clear hb); (try clear hb2); (try clear hk); (try clear hi); (try clear ho0)))
  go_ret2
  exact ⟨_, qr, qR HO711.out, qB⟩
 ·replace c3 := Bool.eq_false_iff.mpr c3
  subst c3
  have H1 : (some (([] : List Int), false)) = some (r1, r2) := by rw [if_neg (show ¬ (false = true) by decide)] at H; exact H
  clear H
  have H := H1
  clear H1
  simp only [Option.some.injEq, Prod.mk.injEq] at H
  obtain ⟨rfl, rfl⟩ := H
  go_enter Try.func38, Try.ntmps38
  go_wp2_with (first | ((with_reducible refine gate_dst (N := 1) rfl ?_); refine qx (N := 1) (cs := #[.slice A0_0 l0_0.length c0_0]) (t := 26) ?_; intro gb707 hg w10 hbox hb; have n0_ := am (below_step qB hb); have BK707 := am (hbox); have GW707 := am (qg w hg); have GE707 := am (qg w hg); clear HB; have HB := n0_; clear n0_; clear hb hbox hg; have hcz11_0 := qz w10 BK707.out; have hfz11_0 := blk_frozen BK707.out 0) | ((with_reducible refine gate_callee (f := 40) rfl ?_); refine gL (some 5) Try.func40 #[.agg #[.slice A0_0 l0_0.length c0_0]] ?_; (with_reducible refine (impl_IsPoset.calls k _ _ l0_0 false _ ?side1 ?side2 A2.out).mono ?_); (case side1 => exact qC (Kd.C_below HR0_0.out HB.out)); (case side2 => exact HC0_0.out); rintro e w12 ⟨rfl, hb⟩; refine ⟨_, rfl, ?_⟩; replace BK707 := am (blk_below (g := gb707) (o := .cells #[.slice A0_0 l0_0.length c0_0] 26 (0, 0)) (qb BK707.out) hb); replace HB := am (below_step qB hb); (try clear hb); (try clear hb2); (try clear hk); (try clear hi)))
  go_ret2
  exact ⟨_, qr, by first | exact Kd.R_nil _ _ _ _ _ | exact Kd.N_nil _ _ _ _ _ | exact Kd.V_nil _ _ _ _ _ | exact Kd.Q_nil _ _ _ _ _ | exact Kd.S_nil _ _ _ _ _, qB⟩
end Go.Proofs.Ytmbojobkiainlaa.F
end
