/- Part 5 of the texts below the row of FnKnownPosets: printed functions with their contracts, and plain lemmas. No condition. -/
import Derived.Test.YtonfifhoklaliaaZFnKnownPosets4
import Derived.LoopTactic
import Derived.Deep.LoopGhost
import Derived.Lib.Hide
section
namespace Go.Proofs.Ytonfifhoklaliaa.F
open Go.RowKit Go.Proofs.YtonfifhoklaliaaW.PrintWords Go.Proofs.YtonfifhoklaliaaW.PrintLast Go.Proofs.YtonfifhoklaliaaW.PrintMore
attribute [local go_sem] max2_int min2_int max_two min_two max_three min_three max_four min_four
set_option linter.unusedVariables false
set_option linter.unusedSimpArgs false
def spec_l1Cur_poset.l0 : Nat → Int → List Int → Int → Int → List Int → Option (List Int × Int × Int)
 | 0, _, _, _, _, _ => none
 | k + 1, x7, x1000, x1001, x1002, x342000 => if x7 < 11 then (if x342000.length < 17592186044416 then (spec_l1Cur_poset.l0 k (wrap64 (x7 + 1)) x1000 x1001 x1002 (x342000 ++ [0])) else (none)) else (some (x342000, x1001, x1002))
def spec_l1Cur_poset.f (k : Nat) (s0_0 : List Int) (s0_1 : Int) (s0_2 : Int) (a1 : Int) : Option (List Int × Int × Int) := (spec_l1Cur_surePoset.f k s0_0 s0_1 s0_2 a1).bind fun bt336 => ((spec_l1Own.f bt336.1).bind fun t342 => ((spec_l1Cur_pick.f s0_0 bt336.2.1 bt336.2.2 20).bind fun bt345 => (if bt345.1 = 0 then ((spec_l1Cur_pick.f s0_0 bt345.2.1 bt345.2.2 (t342.length : Int)).bind fun bt348 => (if 0 ≤ bt348.1 then ((spec_l1Cur_among.f s0_0 bt348.2.1 bt348.2.2 (([(-1), 1, 3, shl .i64 1 bt348.1, 4611686018427387904] : List Int))).bind fun bt354 => (if bt348.1 < (t342.length : Int) then (some ((t342.set (bt348.1 : Int).toNat bt354.1), bt354.2.1, bt354.2.2)) else (none))) else (none))) else (if bt345.1 = 1 then (some (([] : List Int), bt345.2.1, bt345.2.2)) else (if bt345.1 = 2 then (spec_l1Cur_poset.l0 k 0 s0_0 bt345.2.1 bt345.2.2 t342) else (some (t342, bt345.2.1, bt345.2.2)))))))
theorem spec_l1Cur_poset.mono_l : ∀ k, (∀ y0 y1 y2 y3 y4, LeO (spec_l1Cur_poset.l0 k y0 y1 y2 y3 y4) (spec_l1Cur_poset.l0 (k + 1) y0 y1 y2 y3 y4))
 | 0 => fun _ _ _ _ _ r h => by simp [spec_l1Cur_poset.l0] at h
 | k + 1 => by
  have ih0 := spec_l1Cur_poset.mono_l k
  ·intro y0 y1 y2 y3 y4
   unfold spec_l1Cur_poset.l0
   repeat' first
   | (with_reducible exact spec_l1Cur_surePoset.mono _ _ _ _ _)
   | (with_reducible exact LeO.refl _)
   | (with_reducible exact LeO.none _)
   | (with_reducible refine LeO.ite ?_ ?_)
   | (with_reducible refine LeO.bind ?_ (fun _ => ?_))
   | exact ih0 _ _ _ _ _
   | exact spec_l1Cur_surePoset.mono _ _ _ _ _
   | exact LeO.none _
   | refine LeO.ite ?_ ?_
   | refine LeO.bind ?_ (fun _ => ?_)
theorem spec_l1Cur_poset.mono : ∀ a0 a1 a2 a3 k, LeO (spec_l1Cur_poset.f k a0 a1 a2 a3) (spec_l1Cur_poset.f (k + 1) a0 a1 a2 a3) := by
 intro a0 a1 a2 a3 k
 have ih0 := spec_l1Cur_poset.mono_l k
 unfold spec_l1Cur_poset.f
 repeat' first
  | (with_reducible exact spec_l1Cur_surePoset.mono _ _ _ _ _)
  | (with_reducible exact LeO.refl _)
  | (with_reducible exact LeO.none _)
  | (with_reducible refine LeO.ite ?_ ?_)
  | (with_reducible refine LeO.bind ?_ (fun _ => ?_))
  | exact ih0 _ _ _ _ _
  | exact spec_l1Cur_surePoset.mono _ _ _ _ _
  | exact LeO.none _
  | refine LeO.ite ?_ ?_
  | refine LeO.bind ?_ (fun _ => ?_)
def spec_l1Cur_poset.T6 : Bool × List (List Nat × List Nat) := (true, [([], []), ([0], [0]), ([], []), ([], []), ([], []), ([4], [4]), ([5], [5]), ([3, 6], [3, 6]), ([1, 2, 0, 1, 2, 3, 4, 5, 6, 7], [1, 2]), ([8, 7, 7, 0, 1, 2, 3, 4, 5, 6, 7], [7, 8])])
def spec_l1Cur_poset.B6 : List Nat := [0, 1, 0, 0, 0, 16, 48, 120, 255, 511]
theorem spec_l1Cur_poset.tab6 : rtab .any (opsOf Try.f155 6) = spec_l1Cur_poset.T6 := by kernel_rfl
theorem spec_l1Cur_poset.bits6 : waitsOk spec_l1Cur_poset.T6.2 spec_l1Cur_poset.B6 = true := by kernel_rfl
set_option maxHeartbeats 8000000 in
set_option maxRecDepth 100000 in
theorem spec_l1Cur_poset.calls (k : Nat) (g : Nat) (s0_0 : List Int) (s0_1 : Int) (s0_2 : Int) (a1 : Int) (r1 : List Int) (r2 : Int) (r3 : Int) (w0 w : World) (hI : IsS74 w0 w g s0_0 s0_1 s0_2) (hB : Below w0.heap.size w0 w) (h : spec_l1Cur_poset.f k s0_0 s0_1 s0_2 a1 = some (r1, r2, r3)) :
 Calls Try.prog 155 #[.pointer (some ⟨g, 0, none⟩), .int .i64 a1] w fun e w' => ∃ v0_ : Value, e = .returned (.agg #[v0_]) ∧ Kd.R (Kd.int .i64) 3 w' w.heap.size (fun _ => True) v0_ r1 ∧ IsS74 w0 w' g s0_0 r2 r3 ∧ Below w0.heap.size w0 w' ∧ KeepBut w w' g none := by
 have hu28 := Try.underlying28
 have HI0 := am hI
 have HK := am (KeepBut.refl w g none)
 have HL := am hB.size
 clear hI
 have HW0 := am hB.size
 have HB := am hB
 clear hB
 have H : ((spec_l1Cur_surePoset.f k s0_0 s0_1 s0_2 a1).bind fun bt336 => ((spec_l1Own.f bt336.1).bind fun t342 => ((spec_l1Cur_pick.f s0_0 bt336.2.1 bt336.2.2 20).bind fun bt345 => (if bt345.1 = 0 then ((spec_l1Cur_pick.f s0_0 bt345.2.1 bt345.2.2 (t342.length : Int)).bind fun bt348 => (if 0 ≤ bt348.1 then ((spec_l1Cur_among.f s0_0 bt348.2.1 bt348.2.2 (([(-1), 1, 3, shl .i64 1 bt348.1, 4611686018427387904] : List Int))).bind fun bt354 => (if bt348.1 < (t342.length : Int) then (some ((t342.set (bt348.1 : Int).toNat bt354.1), bt354.2.1, bt354.2.2)) else (none))) else (none))) else (if bt345.1 = 1 then (some (([] : List Int), bt345.2.1, bt345.2.2)) else (if bt345.1 = 2 then (spec_l1Cur_poset.l0 k 0 s0_0 bt345.2.1 bt345.2.2 t342) else (some (t342, bt345.2.1, bt345.2.2)))))))) = some (r1, r2, r3) := h
 clear h
 replace H := Option.bind_eq_some_iff.mp H
 obtain ⟨⟨t336, t339, t340⟩, A30, H⟩ := H
 replace H : ((spec_l1Own.f t336).bind fun t342 => ((spec_l1Cur_pick.f s0_0 t339 t340 20).bind fun bt345 => (if bt345.1 = 0 then ((spec_l1Cur_pick.f s0_0 bt345.2.1 bt345.2.2 (t342.length : Int)).bind fun bt348 => (if 0 ≤ bt348.1 then ((spec_l1Cur_among.f s0_0 bt348.2.1 bt348.2.2 (([(-1), 1, 3, shl .i64 1 bt348.1, 4611686018427387904] : List Int))).bind fun bt354 => (if bt348.1 < (t342.length : Int) then (some ((t342.set (bt348.1 : Int).toNat bt354.1), bt354.2.1, bt354.2.2)) else (none))) else (none))) else (if bt345.1 = 1 then (some (([] : List Int), bt345.2.1, bt345.2.2)) else (if bt345.1 = 2 then (spec_l1Cur_poset.l0 k 0 s0_0 bt345.2.1 bt345.2.2 t342) else (some (t342, bt345.2.1, bt345.2.2))))))) = some (r1, r2, r3) := H
 have A3 := am A30
 clear A30
 replace H := Option.bind_eq_some_iff.mp H
 obtain ⟨t342, A40, H⟩ := H
 replace H : ((spec_l1Cur_pick.f s0_0 t339 t340 20).bind fun bt345 => (if bt345.1 = 0 then ((spec_l1Cur_pick.f s0_0 bt345.2.1 bt345.2.2 (t342.length : Int)).bind fun bt348 => (if 0 ≤ bt348.1 then ((spec_l1Cur_among.f s0_0 bt348.2.1 bt348.2.2 (([(-1), 1, 3, shl .i64 1 bt348.1, 4611686018427387904] : List Int))).bind fun bt354 => (if bt348.1 < (t342.length : Int) then (some ((t342.set (bt348.1 : Int).toNat bt354.1), bt354.2.1, bt354.2.2)) else (none))) else (none))) else (if bt345.1 = 1 then (some (([] : List Int), bt345.2.1, bt345.2.2)) else (if bt345.1 = 2 then (spec_l1Cur_poset.l0 k 0 s0_0 bt345.2.1 bt345.2.2 t342) else (some (t342, bt345.2.1, bt345.2.2)))))) = some (r1, r2, r3) := H
 have A4 := am A40
 clear A40
 replace H := Option.bind_eq_some_iff.mp H
 obtain ⟨⟨t345, t346, t347⟩, A50, H⟩ := H
 replace H : (if t345 = 0 then ((spec_l1Cur_pick.f s0_0 t346 t347 (t342.length : Int)).bind fun bt348 => (if 0 ≤ bt348.1 then ((spec_l1Cur_among.f s0_0 bt348.2.1 bt348.2.2 (([(-1), 1, 3, shl .i64 1 bt348.1, 4611686018427387904] : List Int))).bind fun bt354 => (if bt348.1 < (t342.length : Int) then (some ((t342.set (bt348.1 : Int).toNat bt354.1), bt354.2.1, bt354.2.2)) else (none))) else (none))) else (if t345 = 1 then (some (([] : List Int), t346, t347)) else (if t345 = 2 then (spec_l1Cur_poset.l0 k 0 s0_0 t346 t347 t342) else (some (t342, t346, t347))))) = some (r1, r2, r3) := H
 have A5 := am A50
 clear A50
 by_cases c6 : t345 = 0
 ·rw [if_pos c6] at H
  have c6b0 : (t345 == 0) = true := beq_iff_eq.mpr c6
  have c6b1 : (t345 != 0) = false := bne_eq_false_iff_eq.mpr c6
  clear c6
  replace H := Option.bind_eq_some_iff.mp H
  obtain ⟨⟨t348, t349, t350⟩, A70, H⟩ := H
  replace H : (if 0 ≤ t348 then ((spec_l1Cur_among.f s0_0 t349 t350 (([(-1), 1, 3, shl .i64 1 t348, 4611686018427387904] : List Int))).bind fun bt354 => (if t348 < (t342.length : Int) then (some ((t342.set (t348 : Int).toNat bt354.1), bt354.2.1, bt354.2.2)) else (none))) else (none)) = some (r1, r2, r3) := H
  have A7 := am A70
  clear A70
  by_cases c8 : 0 ≤ t348
  rotate_left
  ·rw [if_neg c8] at H
   exact absurd H (by simp)
  rw [if_pos c8] at H
  have c8b0 := eq_true c8
  have c8b1 := decide_eq_true c8
  clear c8
  obtain ⟨ji9, hji9⟩ : ∃ j_ : Int, (shl .i64 1 t348) = j_ := ⟨_, rfl⟩
  replace H : ((spec_l1Cur_among.f s0_0 t349 t350 (([(-1), 1, 3, ji9, 4611686018427387904] : List Int))).bind fun bt354 => (if t348 < (t342.length : Int) then (some ((t342.set (t348 : Int).toNat bt354.1), bt354.2.1, bt354.2.2)) else (none))) = some (r1, r2, r3) := by first | (rw [hji9] at H; exact H) | (simp only [hji9] at H ⊢; exact H)
  (try rw [hji9] at A3)
  (try rw [hji9] at A4)
  (try rw [hji9] at A5)
  (try rw [hji9] at A7)
  have hji9_ : (IntKind.i64.wrap (1 * 2 ^ min t348.toNat 64)) = ji9 := hji9
  have hji9z : t348 ≤ 64 → (IntKind.i64.wrap (1 * 2 ^ t348.toNat)) = ji9 := shl_small hji9
  have hji9u : (IntKind.i64.wrap (2 ^ min t348.toNat 64)) = ji9 := by have h_ := hji9_; rw [Int.one_mul] at h_; exact h_
  have hji9v : t348 ≤ 64 → (IntKind.i64.wrap (2 ^ t348.toNat)) = ji9 := fun hle_ => by have h_ := hji9z hle_; rw [Int.one_mul] at h_; exact h_
  have hji9y : (wrap64 (1 * 2 ^ min t348.toNat 64)) = ji9 := (i64_w _).symm.trans hji9_
  have hji9x : t348 ≤ 64 → (wrap64 (1 * 2 ^ t348.toNat)) = ji9 := fun h_ => (i64_w _).symm.trans (hji9z h_)
  obtain ⟨y351, hy351⟩ : ∃ y_ : List Int, y_ = (([(-1), 1, 3, ji9, 4611686018427387904] : List Int)) := ⟨_, rfl⟩
  replace H : ((spec_l1Cur_among.f s0_0 t349 t350 y351).bind fun bt354 => (if t348 < (t342.length : Int) then (some ((t342.set (t348 : Int).toNat bt354.1), bt354.2.1, bt354.2.2)) else (none))) = some (r1, r2, r3) := by first | (rw [hy351]; with_reducible exact H) | (have H2_ := (Option.bind_some _ _).symm.trans H; rw [hy351]; with_reducible exact H2_) | (have H2_ := (Option.bind_some _ _).symm.trans H; with_reducible exact H2_) | with_reducible exact H | (rw [hy351]; exact H) | exact H
  have Ny351 := am hy351
  clear hy351
  replace H := Option.bind_eq_some_iff.mp H
  obtain ⟨⟨t354, t355, t356⟩, A100, H⟩ := H
  replace H : (if t348 < (t342.length : Int) then (some ((t342.set (t348 : Int).toNat t354), t355, t356)) else (none)) = some (r1, r2, r3) := H
  have A10 := am A100
  clear A100
  by_cases c11 : t348 < (t342.length : Int)
  rotate_left
  ·rw [if_neg c11] at H
   exact absurd H (by simp)
  rw [if_pos c11] at H
  have c11b0 := decide_eq_true c11
  clear c11
  obtain ⟨y357, hy357⟩ : ∃ y_ : List Int, y_ = (t342.set (t348 : Int).toNat t354) := ⟨_, rfl⟩
  replace H : (some (y357, t355, t356)) = some (r1, r2, r3) := by first | (rw [hy357]; with_reducible exact H) | (have H2_ := (Option.bind_some _ _).symm.trans H; rw [hy357]; with_reducible exact H2_) | (have H2_ := (Option.bind_some _ _).symm.trans H; with_reducible exact H2_) | with_reducible exact H | (rw [hy357]; exact H) | exact H
  have Ny357 := am hy357
  clear hy357
  simp only [Option.some.injEq, Prod.mk.injEq] at H
  obtain ⟨rfl, rfl, rfl⟩ := H
  go_enter Try.func155, Try.ntmps155
  try go_wp2_with (first | ((with_reducible refine gate_dst (N := 4) rfl ?_); refine qx (N := 4) (cs := #[.slice none 0 0]) (t := 28) ?_; intro gb335 hg w13 hbox hb; have n0_ := am (IsS74.below qI74 hb); have n1_ := am (KeepBut.trans qK (KeepBut.of_below hb g none) (.inl rfl)); have n2_ := am (below_step qB hb); have BK335 := am (hbox); have GW335 := am ((by rw [hg]; exact (keep_size (w := w) (g := g) (row := none) qK) : w.heap.size ≤ gb335)); have GE335 := am ((Nat.le_trans HW0.out (by rw [hg]; exact (keep_size (w := w) (g := g) (row := none) qK) : w.heap.size ≤ gb335) : w0.heap.size ≤ gb335)); have NB0_335 := am ((by rw [hg]; exact Nat.ne_of_lt (IsS74.lt (show IsS74 w0 _ g s0_0 s0_1 s0_2 from qI74)) : g ≠ gb335)); have NB335_0 := am ((by rw [hg]; exact Nat.ne_of_gt (IsS74.lt (show IsS74 w0 _ g s0_0 s0_1 s0_2 from qI74)) : gb335 ≠ g)); clear HI0 HK HB; have HI0 := n0_; have HK := n1_; have HB := n2_; clear n0_ n1_ n2_; clear hb hbox hg) | ((with_reducible refine gate_callee (f := 170) rfl ?_); refine gL (some 10) Try.func170 #[.pointer (some ⟨g, 0, none⟩), .int .i64 a1] ?_; (with_reducible refine (spec_l1Cur_surePoset.calls k g s0_0 s0_1 s0_2 a1 t336 t339 t340 w0 _ ?side1 ?side2 A3.out).mono ?_); (case side1 => exact qI74); (case side2 => exact qB); rintro e w14 ⟨v337, rfl, ho0, hi, hb, hk⟩; refine ⟨_, rfl, ?_⟩; replace BK335 := am (KeepBut.blk hk (g' := gb335) (o := .cells #[.slice none 0 0] 28 (0, 0)) (qb BK335.out) NB335_0.out (by simp)); have HO338 := am (Kd.R_lower ho0 (keep_size (w := w) (g := g) (row := none) qK)); have n2_ := am (KeepBut.trans qK hk (.inl rfl)); have n3_ := am (hb); replace HI0 := am (hi); clear HK HB; have HK := n2_; have HB := n3_; clear n2_ n3_; (try clear hb); (try clear hb2); (try clear hk); (try clear hi); (try clear ho0)) | ((with_reducible refine gate_dst (N := 5) rfl ?_); refine qx (N := 5) (cs := #[.slice none 0 0]) (t := 28) ?_; intro gb341 hg w15 hbox hb; replace HO338 := am (Kd.R_below (qR HO338.out) hb); have n1_ := am (IsS74.below qI74 hb); have n2_ := am (blk_below (g := gb335) (o := .cells #[.slice none 0 0] 28 (0, 0)) (qb BK335.out) hb); have n3_ := am (KeepBut.trans qK (KeepBut.of_below hb g none) (.inl rfl)); have n4_ := am (below_step qB hb); have BK341 := am (hbox); have GW341 := am ((by rw [hg]; exact (keep_size (w := w) (g := g) (row := none) qK) : w.heap.size ≤ gb341)); have GE341 := am ((Nat.le_trans HW0.out (by rw [hg]; exact (keep_size (w := w) (g := g) (row := none) qK) : w.heap.size ≤ gb341) : w0.heap.size ≤ gb341)); have NB335_341 := am ((by rw [hg]; exact Nat.ne_of_lt (blk_lt (g := gb335) (o := .cells #[.slice none 0 0] 28 (0, 0)) (qb BK335.out)) : gb335 ≠ gb341)); have NB341_335 := am ((by rw [hg]; exact Nat.ne_of_gt (blk_lt (g := gb335) (o := .cells #[.slice none 0 0] 28 (0, 0)) (qb BK335.out)) : gb341 ≠ gb335)); have NB0_341 := am ((by rw [hg]; exact Nat.ne_of_lt (IsS74.lt (show IsS74 w0 _ g s0_0 t339 t340 from qI74)) : g ≠ gb341)); have NB341_0 := am ((by rw [hg]; exact Nat.ne_of_gt (IsS74.lt (show IsS74 w0 _ g s0_0 t339 t340 from qI74)) : gb341 ≠ g)); clear HI0 BK335 HK HB; have HI0 := n1_; have BK335 := n2_; have HK := n3_; have HB := n4_; clear n1_ n2_ n3_ n4_; clear hb hbox hg; obtain ⟨Ao16, co16, eo16⟩ := Kd.R_slice HO338.out; subst eo16; have hnb17 := NB341_335.out; have hnc17 := NB335_341.out; have hnb18 := NB341_0.out; have hnc18 := NB0_341.out; have hcz19_0 := qz w15 BK341.out; have hfz19_0 := blk_frozen BK341.out 0) | ((with_reducible refine gate_callee (f := 164) rfl ?_); refine gL (some 13) Try.func164 #[.slice Ao16 t336.length co16] ?_; (with_reducible refine (spec_l1Own.calls _ _ t336 t342 _ ?side1 ?side2 A4.out).mono ?_); (case side1 => refine (Kd.R_reads' (e := 3) (base := w.heap.size) (ok := fun k_ => True) (n := t336.length) (c := co16) ?_).2.2; exact (qR ((Kd.R_mono (Kd.R_far (p := ⟨gb341, 0, none⟩) (Kd.R_types HO338.out BK341.out (by decide)) (fun _ hk => hk.2) (.slice Ao16 t336.length co16)) (fun _ h_ => h_.1))))); (case side2 => exact (Kd.R_reads' HO338.out).2.1); rintro e w20 ⟨v343, rfl, ho0, hb⟩; refine ⟨_, rfl, ?_⟩; have n0_ := am (Kd.R_elder' (qR ((Kd.R_mono (Kd.R_far (p := ⟨gb341, 0, none⟩) (Kd.R_types HO338.out BK341.out (by decide)) (fun _ hk => hk.2) (.slice Ao16 t336.length co16)) (fun _ h_ => h_.1)))) (Kd.R_base ho0) hb); have HO344 := am (Kd.R_lower (Kd.R_new' ho0 (Kd.R_lt (qR ((Kd.R_mono (Kd.R_far (p := ⟨gb341, 0, none⟩) (Kd.R_types HO338.out BK341.out (by decide)) (fun _ hk => hk.2) (.slice Ao16 t336.length co16)) (fun _ h_ => h_.1)))))) (keep_size (w := w) (g := g) (row := none) qK)); have n2_ := am (IsS74.below (show IsS74 w0 (w15.setCell ⟨gb341, 0, none⟩ (.slice Ao16 t336.length co16)) g s0_0 t339 t340 from qI74) hb); replace BK335 := am (blk_below (g := gb335) (o := .cells #[.slice none 0 0] 28 (0, 0)) (by (with_reducible repeat (first | refine blk_drewN ?_ _ | refine blk_drew ?_ | refine blk_alloc ?_ _)); refine blk_far ?_ NB335_341.out _; refine qb ?_; exact BK335.out) hb); replace BK341 := am (blk_below (g := gb341) (o := .cells #[.slice Ao16 t336.length co16] 28 (0, 0)) (by (with_reducible repeat (first | refine blk_drewN ?_ _ | refine blk_drew ?_ | refine blk_alloc ?_ _)); refine blk_put (cs := #[.slice none 0 0]) ?_ 0 _ rfl; refine qb ?_; exact BK341.out) hb); have n5_ := am (KeepBut.trans qK (KeepBut.of_below hb g none) (.inl rfl)); replace HB := am (below_step qB hb); clear HO338 HI0 HK; have HO338 := n0_; have HI0 := n2_; have HK := n5_; clear n0_ n2_ n5_; (try clear hb); (try clear hb2); (try clear hk); (try clear hi); (try clear ho0); obtain ⟨Ao21, co21, eo21⟩ := Kd.R_slice HO344.out; subst eo21; have hcz22_0 := qz w20 BK341.out; have hfz22_0 := blk_frozen BK341.out 0) | ((with_reducible refine gate_callee (f := 115) rfl ?_); refine gL (some 16) Try.func115 #[.pointer (some ⟨g, 0, none⟩), .int .i64 20] ?_; (with_reducible refine (spec_l1Cur_pick.calls g s0_0 t339 t340 20 t345 t346 t347 w0 _ ?side1 ?side2 A5.out).mono ?_); (case side1 => exact qI74); (case side2 => exact qB); rintro e w23 ⟨rfl, hi, hb, hk⟩; refine ⟨_, rfl, ?_⟩; replace BK335 := am (KeepBut.blk hk (g' := gb335) (o := .cells #[.slice none 0 0] 28 (0, 0)) (by (with_reducible repeat (first | refine blk_drewN ?_ _ | refine blk_drew ?_ | refine blk_alloc ?_ _)); refine blk_far ?_ NB335_341.out _; refine qb ?_; exact BK335.out) NB335_0.out (by simp)); replace HO338 := am (Kd.R_mono (Kd.R_keep (IsS74.apart (show IsS74 w0 _ g s0_0 t339 t340 from qI74) (qR ((Kd.R_mono (Kd.R_far (p := ⟨gb341, 0, none⟩) (Kd.R_types HO338.out BK341.out (by decide)) (fun _ hk => hk.2) (.slice Ao21 t342.length co21)) (fun _ h_ => h_.1)))) (by decide)) hk (fun _ h => h.2)) (fun _ h => h.1)); have n2_ := am (KeepBut.blk hk (g' := gb341) (o := .cells #[.slice Ao21 t342.length co21] 28 (0, 0)) (by (with_reducible repeat (first | refine blk_drewN ?_ _ | refine blk_drew ?_ | refine blk_alloc ?_ _)); refine blk_put (cs := #[.slice Ao16 t336.length co16]) ?_ 0 _ rfl; refine qb ?_; exact BK341.out) NB341_0.out (by simp)); replace HO344 := am (Kd.R_mono (Kd.R_keep (IsS74.apart (show IsS74 w0 _ g s0_0 t339 t340 from qI74) (qR ((Kd.R_mono (Kd.R_far (p := ⟨gb341, 0, none⟩) (Kd.R_types HO344.out BK341.out (by decide)) (fun _ hk => hk.2) (.slice Ao21 t342.length co21)) (fun _ h_ => h_.1)))) (by decide)) hk (fun _ h => h.2)) (fun _ h => h.1)); have n4_ := am (KeepBut.trans qK hk (.inl rfl)); have n5_ := am (hb); replace HI0 := am (hi); clear BK341 HK HB; have BK341 := n2_; have HK := n4_; have HB := n5_; clear n2_ n4_ n5_; (try clear hb); (try clear hb2); (try clear hk); (try clear hi); have hcz24_0 := qz w23 BK341.out; have hfz24_0 := blk_frozen BK341.out 0) | ((with_reducible refine gate_callee (f := 115) rfl ?_); refine gL (some 23) Try.func115 #[.pointer (some ⟨g, 0, none⟩), .int .i64 (t342.length : Int)] ?_; (with_reducible refine (spec_l1Cur_pick.calls g s0_0 t346 t347 (t342.length : Int) t348 t349 t350 w0 _ ?side1 ?side2 A7.out).mono ?_); (case side1 => exact qI74); (case side2 => exact qB); rintro e w25 ⟨rfl, hi, hb, hk⟩; refine ⟨_, rfl, ?_⟩; replace BK335 := am (KeepBut.blk hk (g' := gb335) (o := .cells #[.slice none 0 0] 28 (0, 0)) (qb BK335.out) NB335_0.out (by simp)); replace HO338 := am (Kd.R_mono (Kd.R_keep (IsS74.apart (show IsS74 w0 _ g s0_0 t346 t347 from qI74) (qR HO338.out) (by decide)) hk (fun _ h => h.2)) (fun _ h => h.1)); replace BK341 := am (KeepBut.blk hk (g' := gb341) (o := .cells #[.slice Ao21 t342.length co21] 28 (0, 0)) (qb BK341.out) NB341_0.out (by simp)); replace HO344 := am (Kd.R_mono (Kd.R_keep (IsS74.apart (show IsS74 w0 _ g s0_0 t346 t347 from qI74) (qR HO344.out) (by decide)) hk (fun _ h => h.2)) (fun _ h => h.1)); have n4_ := am (KeepBut.trans qK hk (.inl rfl)); have n5_ := am (hb); replace HI0 := am (hi); clear HK HB; have HK := n4_; have HB := n5_; clear n4_ n5_; (try clear hb); (try clear hb2); (try clear hk); (try clear hi)))
  have n0_ := am (Kd.R_drew HO338.out)
  have n1_ := am (Kd.R_drew HO344.out)
  have n2_ := am (blk_drew BK335.out)
  have n3_ := am (blk_drew BK341.out)
  have n4_ := am (IsS74.drew HI0.out)
  have n5_ := am (keep_drew HK.out)
  have n6_ := am (below_drew1 HB.out)
  clear HO338
  clear HO344
  clear BK335
  clear BK341
  clear HI0
  clear HK
  clear HB
  have HO338 := n0_
  have HO344 := n1_
  have BK335 := n2_
  have BK341 := n3_
  have HI0 := n4_
  have HK := n5_
  have HB := n6_
  clear n0_ n1_ n2_ n3_ n4_ n5_ n6_
  refine start_ (n := 10) (S := fun w' => w'.cell? ⟨gb341, 0, none⟩ = some (.slice Ao21 t342.length co21)) (ds := [9]) #[false, false, false, false, false, false, false, false, false, false] (by kernel_rfl) rfl rfl ((blk_cell BK341.out 0).trans rfl) (fun hHeld => ?_); refine with_tabW spec_l1Cur_poset.tab6 spec_l1Cur_poset.bits6 (fun HT_ HW_ => ?_)
  generalize w25.drew = w26 at HO338 HO344 BK335 BK341 HI0 HK HB hHeld ⊢
  refine pure_ (i := 0) (N := some 24) (v := ?_) (a' := ?_) #[true, false, false, false, false, false, false, false, false, false] rfl rfl (any_of HT_.out (by kernel_rfl)) (fun _ _ _ h => h) (Or.inl ⟨by rfl, ?_⟩) ?_ ?_
  rotate_left
  ·intro w'
   go_simp
   with_reducible rfl
  rotate_left
  ·exact qP
  refine pure_ (i := 2) (N := some 26) (v := ?_) (a' := ?_) #[true, false, true, false, false, false, false, false, false, false] rfl rfl (any_of HT_.out (by kernel_rfl)) (fun _ _ _ h => h) (Or.inl ⟨by rfl, ?_⟩) ?_ ?_
  rotate_left
  ·intro w'
   go_simp
   with_reducible rfl
  rotate_left
  ·exact qP
  refine pure_ (i := 3) (N := some 27) (v := ?_) (a' := ?_) #[true, false, true, true, false, false, false, false, false, false] rfl rfl (any_of HT_.out (by kernel_rfl)) (fun _ _ _ h => h) (Or.inl ⟨by rfl, ?_⟩) ?_ ?_
  rotate_left
  ·intro w'
   go_simp
   with_reducible rfl
  rotate_left
  ·exact qP
  refine pure_ (i := 4) (N := some 28) (v := ?_) (a' := ?_) #[true, false, true, true, true, false, false, false, false, false] rfl rfl (any_of HT_.out (by kernel_rfl)) (fun _ _ _ h => h) (Or.inl ⟨by rfl, ?_⟩) ?_ ?_
  rotate_left
  ·intro w'
   go_simp
   with_reducible rfl
  rotate_left
  ·exact qP
  refine pure_ (i := 5) (N := some 29) (v := ?_) (a' := ?_) #[true, false, true, true, true, true, false, false, false, false] rfl rfl (any_of HT_.out (by kernel_rfl)) (fun _ _ _ h => h) (Or.inl ⟨by rfl, ?_⟩) ?_ ?_
  rotate_left
  ·intro w'
   go_simp
   with_reducible rfl
  rotate_left
  ·exact qP
  refine take_ (i := 1) (N := some 25) (v := ?_) (a' := ?_) #[true, true, true, true, true, true, false, false, false, false] rfl rfl (take_ofW HT_.out HW_.out (by kernel_rfl)) (fun _ _ _ h => h) (Or.inl ⟨by rfl, ?_⟩) hHeld ?_ ?_
  rotate_left
  ·intro w' s0
   go_simp
   with_reducible rfl
  rotate_left
  ·exact qP
  refine one_ (i := 6) (N := some 30) #[true, true, true, true, true, true, true, false, false, false] rfl rfl (one_of HT_.out (by kernel_rfl)) (by decide) (fun K hK => ?_)
  refine Kd.R_lit_step (Kd.int .i64) _ 3 ?hg (N := 30) ?hd (xs := ([(-1), 1, 3, ji9, 4611686018427387904] : List Int)) (inner := [.int .i64 (-1), .int .i64 1, .int .i64 3, .int .i64 ji9, .int .i64 4611686018427387904]) (ok := fun _ => True) (okp := fun _ => True) ?hr ?hp (fun _ hk => hk) trivial (Below.refl _ _) (Nat.le_refl _) (by simp) ?_; (case hd => rfl); (case hg => rfl); (case hr => first | (go_simp; done) | (go_simp; rfl)); (case hp => exact (Reps.one (show Kd.M (Kd.int .i64) _ _ _ (-1) [.int .i64 (-1)] from rfl) (Reps.one (show Kd.M (Kd.int .i64) _ _ _ 1 [.int .i64 1] from rfl) (Reps.one (show Kd.M (Kd.int .i64) _ _ _ 3 [.int .i64 3] from rfl) (Reps.one (show Kd.M (Kd.int .i64) _ _ _ ji9 [.int .i64 ji9] from rfl) (Reps.one (show Kd.M (Kd.int .i64) _ _ _ 4611686018427387904 [.int .i64 4611686018427387904] from rfl) (Reps.none _ _)))))))
  intro v352 w27 ho28 hb hg_ hnew_
  clear hg_ hnew_
  (first | rw [← Ny351.out] at ho28 | (simp only [Int.reduceToNat] at ho28; rw [← Ny351.out] at ho28))
  have n0_ := am (Kd.R_elder' (qR HO338.out) (Kd.R_base ho28) hb)
  have n1_ := am (Kd.R_elder' (qR HO344.out) (Kd.R_base ho28) hb)
  have n2_ := am (Kd.R_lower (Kd.R_new' (Kd.R_new' ho28 (Kd.R_lt (qR HO338.out))) (Kd.R_lt (qR HO344.out))) (keep_size (w := w) (g := g) (row := none) qK))
  have n3_ := am (IsS74.below qI74 hb)
  have n4_ := am (blk_below (g := gb335) (o := .cells #[.slice none 0 0] 28 (0, 0)) (qb BK335.out) hb)
  have n5_ := am (blk_below (g := gb341) (o := .cells #[.slice Ao21 t342.length co21] 28 (0, 0)) (qb BK341.out) hb)
  have n6_ := am (KeepBut.trans qK (KeepBut.of_below hb g none) (.inl rfl))
  have n7_ := am (below_step qB hb)
  clear HO338
  clear HO344
  clear HI0
  clear BK335
  clear BK341
  clear HK
  clear HB
  have HO338 := n0_
  have HO344 := n1_
  have HO353 := n2_
  have HI0 := n3_
  have BK335 := n4_
  have BK341 := n5_
  have HK := n6_
  have HB := n7_
  clear n0_ n1_ n2_ n3_ n4_ n5_ n6_ n7_
  clear hb ho28
  obtain ⟨Ao29, co29, eo29⟩ := Kd.R_slice HO353.out
  (first | subst eo29 | (injection eo29 with f1_ f2_ f3_; have f4_ := f1_.symm; have f5_ := f3_.symm; clear f1_ f2_ f3_; subst f4_; subst f5_))
  refine hK.out _ _ ((blk_cell BK341.out 0).trans rfl) (fun hHeld => ?_)
  clear hK K
  refine norm_ (a' := ?_) ?_ ?_
  rotate_left
  ·show Act.put _ (some 30) _ = _
   simp only [Act.put, List.setIfInBounds_toArray, List.set_cons_zero, List.set_cons_succ, i64_w, i32_w]
   rfl
  refine one_ (i := 7) (N := some 31) #[true, true, true, true, true, true, true, true, false, false] rfl rfl (one_of HT_.out (by kernel_rfl)) (by decide) (fun K hK => ?_)
  refine goes_ Try.func78 (by kernel_rfl) rfl #[.pointer (some ⟨g, 0, none⟩), .slice Ao29 y351.length co29] (by rfl) rfl rfl qA ?_
  with_reducible refine (spec_l1Cur_among.calls g s0_0 t349 t350 _ _ y351 t354 t355 t356 w0 _ ?side1 ?side2 ?side3 ?side4 ?side5 A10.out).mono ?_
  (case side1 => exact qI74)
  (case side2 => exact qB)
  (case side3 => exact qC (Kd.R_reads' HO353.out).2.2)
  (case side4 => exact (Kd.R_reads' HO353.out).2.1)
  (case side5 => exact far_slice (IsS74.own_ne HI0.out HO353.out (by decide)))
  rintro e w30 ⟨rfl, hi, hb, hk⟩
  refine ⟨_, rfl, ?_⟩
  have n0_ := am (KeepBut.blk hk (g' := gb335) (o := .cells #[.slice none 0 0] 28 (0, 0)) (qb BK335.out) NB335_0.out (by simp))
  have n1_ := am (Kd.R_mono (Kd.R_keep (IsS74.apart (show IsS74 w0 _ g s0_0 t349 t350 from qI74) (qR HO338.out) (by decide)) hk (fun _ h => h.2)) (fun _ h => h.1))
  have n2_ := am (KeepBut.blk hk (g' := gb341) (o := .cells #[.slice Ao21 t342.length co21] 28 (0, 0)) (qb BK341.out) NB341_0.out (by simp))
  have n3_ := am (Kd.R_mono (Kd.R_keep (IsS74.apart (show IsS74 w0 _ g s0_0 t349 t350 from qI74) (qR HO344.out) (by decide)) hk (fun _ h => h.2)) (fun _ h => h.1))
  have n4_ := am (Kd.R_mono (Kd.R_keep (IsS74.apart (show IsS74 w0 _ g s0_0 t349 t350 from qI74) (qR HO353.out) (by decide)) hk (fun _ h => h.2)) (fun _ h => h.1))
  have n5_ := am (KeepBut.trans qK hk (.inl rfl))
  have n6_ := am (hb)
  have n7_ := am (hi)
  clear BK335
  clear HO338
  clear BK341
  clear HO344
  clear HO353
  clear HK
  clear HB
  clear HI0
  have BK335 := n0_
  have HO338 := n1_
  have BK341 := n2_
  have HO344 := n3_
  have HO353 := n4_
  have HK := n5_
  have HB := n6_
  have HI0 := n7_
  clear n0_ n1_ n2_ n3_ n4_ n5_ n6_ n7_
  (try clear hb)
  (try clear hb2)
  (try clear hk)
  (try clear hi)
  have p12 : 0 ≤ (t348 : Int) := qd
  have q12 : (t348 : Int) < ((t342.length : Int) : Int) := qd
  obtain ⟨go12, co12, eo12, gb12, gl12, cl12, HG12⟩ := Kd.R_form HO344.out (by omega)
  (first | cases eo12 | (injection eo12 with ea_ en_ ec_; (first | subst ea_ | (injection ea_ with ea_; subst ea_)); subst ec_; clear en_))
  have GB12 := am gb12
  have GG12 := am HG12
  clear gb12 gl12 HG12
  obtain ⟨hx12_0, hf12_0⟩ := Kd.R_celln 0 HO344.out (t348 : Int) p12 q12
  replace p12 := eq_true p12
  replace q12 := eq_true q12
  have HN0_go12 := am (show g ≠ go12 from by have h_ := IsS74.own_ne HI0.out HO344.out (by decide); intro e_; exact h_ (by rw [e_]; rfl))
  have HP31 := Kd.R_putn HO344.out (t348 : Int) t354
  rw [← Ny357.out] at HP31
  have HQ31 := am HP31
  clear HP31
  refine hK.out _ _ ((blk_cell BK341.out 0).trans rfl) (fun hHeld => ?_)
  clear hK K
  refine norm_ (a' := ?_) ?_ ?_
  rotate_left
  ·show Act.put _ (some 31) _ = _
   simp only [Act.put, List.setIfInBounds_toArray, List.set_cons_zero, List.set_cons_succ, i64_w, i32_w]
   rfl
  refine pure_ (i := 8) (N := some 32) (v := ?_) (a' := ?_) #[true, true, true, true, true, true, true, true, true, false] rfl rfl (any_of HT_.out (by kernel_rfl)) (fun _ _ _ h => h) (Or.inl ⟨by rfl, ?_⟩) ?_ ?_
  rotate_left
  ·intro w'
   go_simp
   with_reducible rfl
  rotate_left
  ·exact qP
  refine last_ (i := 9) (N := none) #[true, true, true, true, true, true, true, true, true, true] rfl rfl (one_of HT_.out (by kernel_rfl)) (by decide) (fun K hK => ?_)
  refine skip_ (w1 := ?_) (by rfl) rfl ?_ ?_
  rotate_left
  ·go_simp
   rfl
  refine hK.out _ _ ?_
  clear hK K
  refine done_ (done_of HT_.out (by kernel_rfl)) ?_
  have n0_ : Aside0 (Kd.R (Kd.int .i64) 3 (w30.setCell ⟨go12, (t348 : Int).toNat, none⟩ (.int .i64 t354)) w.heap.size (fun k_ => some k_ ≠ (.slice (some ⟨go12, 0, none⟩) t342.length co21 : Value).ownBlock ∧ some k_ ≠ (.slice Ao29 y351.length co29 : Value).ownBlock) (.slice Ao16 t336.length co16) t336) := ⟨qR (Kd.R_mono (Kd.R_far (p := ⟨go12, (t348 : Int).toNat, none⟩) (Kd.R_mono HO338.out (fun k_ hk => (⟨hk, fun e_ => hk.1.2 (by rw [e_]; rfl)⟩ : _ ∧ k_ ≠ go12))) (fun _ hk => hk.2) (.int .i64 t354)) (fun _ hk => ⟨hk.1.1.2, hk.1.2⟩))⟩
  have n1_ : Aside0 (Kd.R (Kd.int .i64) 3 (w30.setCell ⟨go12, (t348 : Int).toNat, none⟩ (.int .i64 t354)) w.heap.size (fun k_ => some k_ ≠ (.slice Ao16 t336.length co16 : Value).ownBlock ∧ some k_ ≠ (.slice Ao29 y351.length co29 : Value).ownBlock) (.slice (some ⟨go12, 0, none⟩) t342.length co21) y357) := ⟨qR (Kd.R_mono HQ31.out (fun _ hk => ⟨hk.1.2, hk.2⟩))⟩
  have n2_ : Aside0 (Kd.R (Kd.int .i64) 3 (w30.setCell ⟨go12, (t348 : Int).toNat, none⟩ (.int .i64 t354)) w.heap.size (fun k_ => some k_ ≠ (.slice Ao16 t336.length co16 : Value).ownBlock ∧ some k_ ≠ (.slice (some ⟨go12, 0, none⟩) t342.length co21 : Value).ownBlock) (.slice Ao29 y351.length co29) y351) := ⟨qR (Kd.R_mono (Kd.R_far (p := ⟨go12, (t348 : Int).toNat, none⟩) (Kd.R_mono HO353.out (fun k_ hk => (⟨hk, fun e_ => hk.2 (by rw [e_]; rfl)⟩ : _ ∧ k_ ≠ go12))) (fun _ hk => hk.2) (.int .i64 t354)) (fun _ hk => ⟨hk.1.1.2, hk.1.2⟩))⟩
  have n3_ : Aside0 ((w30.setCell ⟨go12, (t348 : Int).toNat, none⟩ (.int .i64 t354)).heap[gb335]? = some (.cells #[.slice none 0 0] 28 (0, 0))) := ⟨by (with_reducible repeat (first | refine blk_drewN ?_ _ | refine blk_drew ?_ | refine blk_alloc ?_ _)); refine blk_far ?_ (by have h_ := Kd.R_ne HO344.out BK335.out (by decide); intro e_; exact h_ (by rw [e_]; rfl)) _; refine qb ?_; exact BK335.out⟩
  have n4_ : Aside0 ((w30.setCell ⟨go12, (t348 : Int).toNat, none⟩ (.int .i64 t354)).heap[gb341]? = some (.cells #[.slice (some ⟨go12, 0, none⟩) t342.length co21] 28 (0, 0))) := ⟨by (with_reducible repeat (first | refine blk_drewN ?_ _ | refine blk_drew ?_ | refine blk_alloc ?_ _)); refine blk_far ?_ (by have h_ := Kd.R_ne HO344.out BK341.out (by decide); intro e_; exact h_ (by rw [e_]; rfl)) _; refine qb ?_; exact BK341.out⟩
  have n5_ : Aside0 (IsS74 w0 (w30.setCell ⟨go12, (t348 : Int).toNat, none⟩ (.int .i64 t354)) g s0_0 t355 t356) := ⟨qI74⟩
  have n6_ : Aside0 (KeepBut w (w30.setCell ⟨go12, (t348 : Int).toNat, none⟩ (.int .i64 t354)) g none) := ⟨qK⟩
  have n7_ : Aside0 (Below w0.heap.size w0 (w30.setCell ⟨go12, (t348 : Int).toNat, none⟩ (.int .i64 t354))) := ⟨qB⟩
  (try clear HO338)
  (try clear HO344)
  (try clear HO353)
  (try clear BK335)
  (try clear BK341)
  (try clear HI0)
  (try clear HK)
  (try clear HB)
  generalize (w30.setCell ⟨go12, (t348 : Int).toNat, none⟩ (.int .i64 t354)) = w32 at n0_ n1_ n2_ n3_ n4_ n5_ n6_ n7_ ⊢
  have HO338 := n0_
  have HO344 := n1_
  have HO353 := n2_
  have BK335 := n3_
  have BK341 := n4_
  have HI0 := n5_
  have HK := n6_
  have HB := n7_
  clear n0_ n1_ n2_ n3_ n4_ n5_ n6_ n7_
  have hcz33_0 := qz w32 BK341.out
  have hfz33_0 := blk_frozen BK341.out 0
  have hnb34 := NB335_0.out
  have hnc34 := NB0_335.out
  have hcz35_0 := qz w32 BK335.out
  have hfz35_0 := blk_frozen BK335.out 0
  try go_wp2
  refine bodyPost_ret (results_cell_row rfl _ _ gb335 28 #[.slice (some ⟨go12, 0, none⟩) t342.length co21] (0, 0) _ rfl (by (with_reducible repeat (first | refine blk_drewN ?_ _ | refine blk_drew ?_ | refine blk_alloc ?_ _)); refine blk_put (cs := #[.slice none 0 0]) ?_ 0 _ rfl; refine qb ?_; exact BK335.out) Try.underlying28 rfl (by kernel_rfl)) rfl ?_
  exact ⟨_, by first | rfl | (simp [errW_none, errW_some] <;> rfl) | (simp only [← hji9]; first | rfl | (simp [errW_none, errW_some] <;> rfl)) | (simp [*, errW_none, errW_some] <;> rfl), qR (Kd.R_mono (Kd.R_far (p := ⟨gb335, 0, none⟩) (Kd.R_types HO344.out BK335.out (by decide)) (fun _ hk => hk.2) (.slice (some ⟨go12, 0, none⟩) t342.length co21)) (fun _ hk => trivial)), qI74, qB, qK⟩
 ·rw [if_neg c6] at H
  have c6b0 : (t345 == 0) = false := beq_eq_false_iff_ne.mpr c6
  have c6b1 : (t345 != 0) = true := bne_iff_ne.mpr c6
  by_cases c36 : t345 = 1
  ·rw [if_pos c36] at H
   have c36b0 : (t345 == 1) = true := beq_iff_eq.mpr c36
   have c36b1 : (t345 != 1) = false := bne_eq_false_iff_eq.mpr c36
   clear c36
   simp only [Option.some.injEq, Prod.mk.injEq] at H
   obtain ⟨rfl, rfl, rfl⟩ := H
   go_enter Try.func155, Try.ntmps155
   go_wp2_with (first | ((with_reducible refine gate_dst (N := 4) rfl ?_); refine qx (N := 4) (cs := #[.slice none 0 0]) (t := 28) ?_; intro gb335 hg w37 hbox hb; have n0_ := am (IsS74.below qI74 hb); have n1_ := am (KeepBut.trans qK (KeepBut.of_below hb g none) (.inl rfl)); have n2_ := am (below_step qB hb); have BK335 := am (hbox); have GW335 := am ((by rw [hg]; exact (keep_size (w := w) (g := g) (row := none) qK) : w.heap.size ≤ gb335)); have GE335 := am ((Nat.le_trans HW0.out (by rw [hg]; exact (keep_size (w := w) (g := g) (row := none) qK) : w.heap.size ≤ gb335) : w0.heap.size ≤ gb335)); have NB0_335 := am ((by rw [hg]; exact Nat.ne_of_lt (IsS74.lt (show IsS74 w0 _ g s0_0 s0_1 s0_2 from qI74)) : g ≠ gb335)); have NB335_0 := am ((by rw [hg]; exact Nat.ne_of_gt (IsS74.lt (show IsS74 w0 _ g s0_0 s0_1 s0_2 from qI74)) : gb335 ≠ g)); clear HI0 HK HB; have HI0 := n0_; have HK := n1_; have HB := n2_; clear n0_ n1_ n2_; clear hb hbox hg) | ((with_reducible refine gate_callee (f := 170) rfl ?_); refine gL (some 10) Try.func170 #[.pointer (some ⟨g, 0, none⟩), .int .i64 a1] ?_; (with_reducible refine (spec_l1Cur_surePoset.calls k g s0_0 s0_1 s0_2 a1 t336 t339 t340 w0 _ ?side1 ?side2 A3.out).mono ?_); (case side1 => exact qI74); (case side2 => exact qB); rintro e w38 ⟨v337, rfl, ho0, hi, hb, hk⟩; refine ⟨_, rfl, ?_⟩; replace BK335 := am (KeepBut.blk hk (g' := gb335) (o := .cells #[.slice none 0 0] 28 (0, 0)) (qb BK335.out) NB335_0.out (by simp)); have HO338 := am (Kd.R_lower ho0 (keep_size (w := w) (g := g) (row := none) qK)); have n2_ := am (KeepBut.trans qK hk (.inl rfl)); have n3_ := am (hb); replace HI0 := am (hi); clear HK HB; have HK := n2_; have HB := n3_; clear n2_ n3_; (try clear hb); (try clear hb2); (try clear hk); (try clear hi); (try clear ho0)) | ((with_reducible refine gate_dst (N := 5) rfl ?_); refine qx (N := 5) (cs := #[.slice none 0 0]) (t := 28) ?_; intro gb341 hg w39 hbox hb; replace HO338 := am (Kd.R_below (qR HO338.out) hb); have n1_ := am (IsS74.below qI74 hb); have n2_ := am (blk_below (g := gb335) (o := .cells #[.slice none 0 0] 28 (0, 0)) (qb BK335.out) hb); have n3_ := am (KeepBut.trans qK (KeepBut.of_below hb g none) (.inl rfl)); have n4_ := am (below_step qB hb); have BK341 := am (hbox); have GW341 := am ((by rw [hg]; exact (keep_size (w := w) (g := g) (row := none) qK) : w.heap.size ≤ gb341)); have GE341 := am ((Nat.le_trans HW0.out (by rw [hg]; exact (keep_size (w := w) (g := g) (row := none) qK) : w.heap.size ≤ gb341) : w0.heap.size ≤ gb341)); have NB335_341 := am ((by rw [hg]; exact Nat.ne_of_lt (blk_lt (g := gb335) (o := .cells #[.slice none 0 0] 28 (0, 0)) (qb BK335.out)) : gb335 ≠ gb341)); have NB341_335 := am ((by rw [hg]; exact Nat.ne_of_gt (blk_lt (g := gb335) (o := .cells #[.slice none 0 0] 28 (0, 0)) (qb BK335.out)) : gb341 ≠ gb335)); have NB0_341 := am ((by rw [hg]; exact Nat.ne_of_lt (IsS74.lt (show IsS74 w0 _ g s0_0 t339 t340 from qI74)) : g ≠ gb341)); have NB341_0 := am ((by rw [hg]; exact Nat.ne_of_gt (IsS74.lt (show IsS74 w0 _ g s0_0 t339 t340 from qI74)) : gb341 ≠ g)); clear HI0 BK335 HK HB; have HI0 := n1_; have BK335 := n2_; have HK := n3_; have HB := n4_; clear n1_ n2_ n3_ n4_; clear hb hbox hg; obtain ⟨Ao40, co40, eo40⟩ := Kd.R_slice HO338.out; subst eo40; have hnb41 := NB341_335.out; have hnc41 := NB335_341.out; have hnb42 := NB341_0.out; have hnc42 := NB0_341.out; have hcz43_0 := qz w39 BK341.out; have hfz43_0 := blk_frozen BK341.out 0) | ((with_reducible refine gate_callee (f := 164) rfl ?_); refine gL (some 13) Try.func164 #[.slice Ao40 t336.length co40] ?_; (with_reducible refine (spec_l1Own.calls _ _ t336 t342 _ ?side1 ?side2 A4.out).mono ?_); (case side1 => refine (Kd.R_reads' (e := 3) (base := w.heap.size) (ok := fun k_ => True) (n := t336.length) (c := co40) ?_).2.2; exact (qR ((Kd.R_mono (Kd.R_far (p := ⟨gb341, 0, none⟩) (Kd.R_types HO338.out BK341.out (by decide)) (fun _ hk => hk.2) (.slice Ao40 t336.length co40)) (fun _ h_ => h_.1))))); (case side2 => exact (Kd.R_reads' HO338.out).2.1); rintro e w44 ⟨v343, rfl, ho0, hb⟩; refine ⟨_, rfl, ?_⟩; have n0_ := am (Kd.R_elder' (qR ((Kd.R_mono (Kd.R_far (p := ⟨gb341, 0, none⟩) (Kd.R_types HO338.out BK341.out (by decide)) (fun _ hk => hk.2) (.slice Ao40 t336.length co40)) (fun _ h_ => h_.1)))) (Kd.R_base ho0) hb); have HO344 := am (Kd.R_lower (Kd.R_new' ho0 (Kd.R_lt (qR ((Kd.R_mono (Kd.R_far (p := ⟨gb341, 0, none⟩) (Kd.R_types HO338.out BK341.out (by decide)) (fun _ hk => hk.2) (.slice Ao40 t336.length co40)) (fun _ h_ => h_.1)))))) (keep_size (w := w) (g := g) (row := none) qK)); have n2_ := am (IsS74.below (show IsS74 w0 (w39.setCell ⟨gb341, 0, none⟩ (.slice Ao40 t336.length co40)) g s0_0 t339 t340 from qI74) hb); replace BK335 := am (blk_below (g := gb335) (o := .cells #[.slice none 0 0] 28 (0, 0)) (by (with_reducible repeat (first | refine blk_drewN ?_ _ | refine blk_drew ?_ | refine blk_alloc ?_ _)); refine blk_far ?_ NB335_341.out _; refine qb ?_; exact BK335.out) hb); replace BK341 := am (blk_below (g := gb341) (o := .cells #[.slice Ao40 t336.length co40] 28 (0, 0)) (by (with_reducible repeat (first | refine blk_drewN ?_ _ | refine blk_drew ?_ | refine blk_alloc ?_ _)); refine blk_put (cs := #[.slice none 0 0]) ?_ 0 _ rfl; refine qb ?_; exact BK341.out) hb); have n5_ := am (KeepBut.trans qK (KeepBut.of_below hb g none) (.inl rfl)); replace HB := am (below_step qB hb); clear HO338 HI0 HK; have HO338 := n0_; have HI0 := n2_; have HK := n5_; clear n0_ n2_ n5_; (try clear hb); (try clear hb2); (try clear hk); (try clear hi); (try clear ho0); obtain ⟨Ao45, co45, eo45⟩ := Kd.R_slice HO344.out; subst eo45; have hcz46_0 := qz w44 BK341.out; have hfz46_0 := blk_frozen BK341.out 0) | ((with_reducible refine gate_callee (f := 115) rfl ?_); refine gL (some 16) Try.func115 #[.pointer (some ⟨g, 0, none⟩), .int .i64 20] ?_; (with_reducible refine (spec_l1Cur_pick.calls g s0_0 t339 t340 20 t345 t346 t347 w0 _ ?side1 ?side2 A5.out).mono ?_); (case side1 => exact qI74); (case side2 => exact qB); rintro e w47 ⟨rfl, hi, hb, hk⟩; refine ⟨_, rfl, ?_⟩; replace BK335 := am (KeepBut.blk hk (g' := gb335) (o := .cells #[.slice none 0 0] 28 (0, 0)) (by (with_reducible repeat (first | refine blk_drewN ?_ _ | refine blk_drew ?_ | refine blk_alloc ?_ _)); refine blk_far ?_ NB335_341.out _; refine qb ?_; exact BK335.out) NB335_0.out (by simp)); replace HO338 := am (Kd.R_mono (Kd.R_keep (IsS74.apart (show IsS74 w0 _ g s0_0 t339 t340 from qI74) (qR ((Kd.R_mono (Kd.R_far (p := ⟨gb341, 0, none⟩) (Kd.R_types HO338.out BK341.out (by decide)) (fun _ hk => hk.2) (.slice Ao45 t342.length co45)) (fun _ h_ => h_.1)))) (by decide)) hk (fun _ h => h.2)) (fun _ h => h.1)); have n2_ := am (KeepBut.blk hk (g' := gb341) (o := .cells #[.slice Ao45 t342.length co45] 28 (0, 0)) (by (with_reducible repeat (first | refine blk_drewN ?_ _ | refine blk_drew ?_ | refine blk_alloc ?_ _)); refine blk_put (cs := #[.slice Ao40 t336.length co40]) ?_ 0 _ rfl; refine qb ?_; exact BK341.out) NB341_0.out (by simp)); replace HO344 := am (Kd.R_mono (Kd.R_keep (IsS74.apart (show IsS74 w0 _ g s0_0 t339 t340 from qI74) (qR ((Kd.R_mono (Kd.R_far (p := ⟨gb341, 0, none⟩) (Kd.R_types HO344.out BK341.out (by decide)) (fun _ hk => hk.2) (.slice Ao45 t342.length co45)) (fun _ h_ => h_.1)))) (by decide)) hk (fun _ h => h.2)) (fun _ h => h.1)); have n4_ := am (KeepBut.trans qK hk (.inl rfl)); have n5_ := am (hb); replace HI0 := am (hi); clear BK341 HK HB; have BK341 := n2_; have HK := n4_; have HB := n5_; clear n2_ n4_ n5_; (try clear hb); (try clear hb2); (try clear hk); (try clear hi); have hcz48_0 := qz w47 BK341.out; have hfz48_0 := blk_frozen BK341.out 0; have hnb49 := NB335_0.out; have hnc49 := NB0_335.out; have hcz50_0 := qz w47 BK335.out; have hfz50_0 := blk_frozen BK335.out 0))
   refine bodyPost_ret (results_cell_row rfl _ _ gb335 28 #[.slice none 0 0] (0, 0) _ rfl (by (with_reducible repeat (first | refine blk_drewN ?_ _ | refine blk_drew ?_ | refine blk_alloc ?_ _)); refine blk_put (cs := #[.slice none 0 0]) ?_ 0 _ rfl; (with_reducible repeat (first | refine blk_drewN ?_ _ | refine blk_drew ?_ | refine blk_alloc ?_ _)); refine blk_far ?_ NB335_341.out _; refine qb ?_; exact BK335.out) Try.underlying28 rfl (by kernel_rfl)) rfl ?_
   exact ⟨_, qr, by first | exact Kd.R_nil _ _ _ _ _ | exact Kd.N_nil _ _ _ _ _ | exact Kd.V_nil _ _ _ _ _ | exact Kd.Q_nil _ _ _ _ _ | exact Kd.S_nil _ _ _ _ _, qI74, qB, qK⟩
  ·rw [if_neg c36] at H
   have c36b0 : (t345 == 1) = false := beq_eq_false_iff_ne.mpr c36
   have c36b1 : (t345 != 1) = true := bne_iff_ne.mpr c36
   by_cases c51 : t345 = 2
   ·rw [if_pos c51] at H
    have c51b0 : (t345 == 2) = true := beq_iff_eq.mpr c51
    have c51b1 : (t345 != 2) = false := bne_eq_false_iff_eq.mpr c51
    clear c51
    have H' := am H
    clear H
    go_enter Try.func155, Try.ntmps155
    go_wp2_with (first | ((with_reducible refine gate_dst (N := 4) rfl ?_); refine qx (N := 4) (cs := #[.slice none 0 0]) (t := 28) ?_; intro gb335 hg w52 hbox hb; have n0_ := am (IsS74.below qI74 hb); have n1_ := am (KeepBut.trans qK (KeepBut.of_below hb g none) (.inl rfl)); have n2_ := am (below_step qB hb); have BK335 := am (hbox); have GW335 := am ((by rw [hg]; exact (keep_size (w := w) (g := g) (row := none) qK) : w.heap.size ≤ gb335)); have GE335 := am ((Nat.le_trans HW0.out (by rw [hg]; exact (keep_size (w := w) (g := g) (row := none) qK) : w.heap.size ≤ gb335) : w0.heap.size ≤ gb335)); have NB0_335 := am ((by rw [hg]; exact Nat.ne_of_lt (IsS74.lt (show IsS74 w0 _ g s0_0 s0_1 s0_2 from qI74)) : g ≠ gb335)); have NB335_0 := am ((by rw [hg]; exact Nat.ne_of_gt (IsS74.lt (show IsS74 w0 _ g s0_0 s0_1 s0_2 from qI74)) : gb335 ≠ g)); clear HI0 HK HB; have HI0 := n0_; have HK := n1_; have HB := n2_; clear n0_ n1_ n2_; clear hb hbox hg) | ((with_reducible refine gate_callee (f := 170) rfl ?_); refine gL (some 10) Try.func170 #[.pointer (some ⟨g, 0, none⟩), .int .i64 a1] ?_; (with_reducible refine (spec_l1Cur_surePoset.calls k g s0_0 s0_1 s0_2 a1 t336 t339 t340 w0 _ ?side1 ?side2 A3.out).mono ?_); (case side1 => exact qI74); (case side2 => exact qB); rintro e w53 ⟨v337, rfl, ho0, hi, hb, hk⟩; refine ⟨_, rfl, ?_⟩; replace BK335 := am (KeepBut.blk hk (g' := gb335) (o := .cells #[.slice none 0 0] 28 (0, 0)) (qb BK335.out) NB335_0.out (by simp)); have HO338 := am (Kd.R_lower ho0 (keep_size (w := w) (g := g) (row := none) qK)); have n2_ := am (KeepBut.trans qK hk (.inl rfl)); have n3_ := am (hb); replace HI0 := am (hi); clear HK HB; have HK := n2_; have HB := n3_; clear n2_ n3_; (try clear hb); (try clear hb2); (try clear hk); (try clear hi); (try clear ho0)) | ((with_reducible refine gate_dst (N := 5) rfl ?_); refine qx (N := 5) (cs := #[.slice none 0 0]) (t := 28) ?_; intro gb341 hg w54 hbox hb; replace HO338 := am (Kd.R_below (qR HO338.out) hb); have n1_ := am (IsS74.below qI74 hb); have n2_ := am (blk_below (g := gb335) (o := .cells #[.slice none 0 0] 28 (0, 0)) (qb BK335.out) hb); have n3_ := am (KeepBut.trans qK (KeepBut.of_below hb g none) (.inl rfl)); have n4_ := am (below_step qB hb); have BK341 := am (hbox); have GW341 := am ((by rw [hg]; exact (keep_size (w := w) (g := g) (row := none) qK) : w.heap.size ≤ gb341)); have GE341 := am ((Nat.le_trans HW0.out (by rw [hg]; exact (keep_size (w := w) (g := g) (row := none) qK) : w.heap.size ≤ gb341) : w0.heap.size ≤ gb341)); have NB335_341 := am ((by rw [hg]; exact Nat.ne_of_lt (blk_lt (g := gb335) (o := .cells #[.slice none 0 0] 28 (0, 0)) (qb BK335.out)) : gb335 ≠ gb341)); have NB341_335 := am ((by rw [hg]; exact Nat.ne_of_gt (blk_lt (g := gb335) (o := .cells #[.slice none 0 0] 28 (0, 0)) (qb BK335.out)) : gb341 ≠ gb335)); have NB0_341 := am ((by rw [hg]; exact Nat.ne_of_lt (IsS74.lt (show IsS74 w0 _ g s0_0 t339 t340 from qI74)) : g ≠ gb341)); have NB341_0 := am ((by rw [hg]; exact Nat.ne_of_gt (IsS74.lt (show IsS74 w0 _ g s0_0 t339 t340 from qI74)) : gb341 ≠ g)); clear HI0 BK335 HK HB; have HI0 := n1_; have BK335 := n2_; have HK := n3_; have HB := n4_; clear n1_ n2_ n3_ n4_; clear hb hbox hg; obtain ⟨Ao55, co55, eo55⟩ := Kd.R_slice HO338.out; subst eo55; have hnb56 := NB341_335.out; have hnc56 := NB335_341.out; have hnb57 := NB341_0.out; have hnc57 := NB0_341.out; have hcz58_0 := qz w54 BK341.out; have hfz58_0 := blk_frozen BK341.out 0) | ((with_reducible refine gate_callee (f := 164) rfl ?_); refine gL (some 13) Try.func164 #[.slice Ao55 t336.length co55] ?_; (with_reducible refine (spec_l1Own.calls _ _ t336 t342 _ ?side1 ?side2 A4.out).mono ?_); (case side1 => refine (Kd.R_reads' (e := 3) (base := w.heap.size) (ok := fun k_ => True) (n := t336.length) (c := co55) ?_).2.2; exact (qR ((Kd.R_mono (Kd.R_far (p := ⟨gb341, 0, none⟩) (Kd.R_types HO338.out BK341.out (by decide)) (fun _ hk => hk.2) (.slice Ao55 t336.length co55)) (fun _ h_ => h_.1))))); (case side2 => exact (Kd.R_reads' HO338.out).2.1); rintro e w59 ⟨v343, rfl, ho0, hb⟩; refine ⟨_, rfl, ?_⟩; have n0_ := am (Kd.R_elder' (qR ((Kd.R_mono (Kd.R_far (p := ⟨gb341, 0, none⟩) (Kd.R_types HO338.out BK341.out (by decide)) (fun _ hk => hk.2) (.slice Ao55 t336.length co55)) (fun _ h_ => h_.1)))) (Kd.R_base ho0) hb); have HO344 := am (Kd.R_lower (Kd.R_new' ho0 (Kd.R_lt (qR ((Kd.R_mono (Kd.R_far (p := ⟨gb341, 0, none⟩) (Kd.R_types HO338.out BK341.out (by decide)) (fun _ hk => hk.2) (.slice Ao55 t336.length co55)) (fun _ h_ => h_.1)))))) (keep_size (w := w) (g := g) (row := none) qK)); have n2_ := am (IsS74.below (show IsS74 w0 (w54.setCell ⟨gb341, 0, none⟩ (.slice Ao55 t336.length co55)) g s0_0 t339 t340 from qI74) hb); replace BK335 := am (blk_below (g := gb335) (o := .cells #[.slice none 0 0] 28 (0, 0)) (by (with_reducible repeat (first | refine blk_drewN ?_ _ | refine blk_drew ?_ | refine blk_alloc ?_ _)); refine blk_far ?_ NB335_341.out _; refine qb ?_; exact BK335.out) hb); replace BK341 := am (blk_below (g := gb341) (o := .cells #[.slice Ao55 t336.length co55] 28 (0, 0)) (by (with_reducible repeat (first | refine blk_drewN ?_ _ | refine blk_drew ?_ | refine blk_alloc ?_ _)); refine blk_put (cs := #[.slice none 0 0]) ?_ 0 _ rfl; refine qb ?_; exact BK341.out) hb); have n5_ := am (KeepBut.trans qK (KeepBut.of_below hb g none) (.inl rfl)); replace HB := am (below_step qB hb); clear HO338 HI0 HK; have HO338 := n0_; have HI0 := n2_; have HK := n5_; clear n0_ n2_ n5_; (try clear hb); (try clear hb2); (try clear hk); (try clear hi); (try clear ho0); obtain ⟨Ao60, co60, eo60⟩ := Kd.R_slice HO344.out; subst eo60; have hcz61_0 := qz w59 BK341.out; have hfz61_0 := blk_frozen BK341.out 0) | ((with_reducible refine gate_callee (f := 115) rfl ?_); refine gL (some 16) Try.func115 #[.pointer (some ⟨g, 0, none⟩), .int .i64 20] ?_; (with_reducible refine (spec_l1Cur_pick.calls g s0_0 t339 t340 20 t345 t346 t347 w0 _ ?side1 ?side2 A5.out).mono ?_); (case side1 => exact qI74); (case side2 => exact qB); rintro e w62 ⟨rfl, hi, hb, hk⟩; refine ⟨_, rfl, ?_⟩; replace BK335 := am (KeepBut.blk hk (g' := gb335) (o := .cells #[.slice none 0 0] 28 (0, 0)) (by (with_reducible repeat (first | refine blk_drewN ?_ _ | refine blk_drew ?_ | refine blk_alloc ?_ _)); refine blk_far ?_ NB335_341.out _; refine qb ?_; exact BK335.out) NB335_0.out (by simp)); replace HO338 := am (Kd.R_mono (Kd.R_keep (IsS74.apart (show IsS74 w0 _ g s0_0 t339 t340 from qI74) (qR ((Kd.R_mono (Kd.R_far (p := ⟨gb341, 0, none⟩) (Kd.R_types HO338.out BK341.out (by decide)) (fun _ hk => hk.2) (.slice Ao60 t342.length co60)) (fun _ h_ => h_.1)))) (by decide)) hk (fun _ h => h.2)) (fun _ h => h.1)); have n2_ := am (KeepBut.blk hk (g' := gb341) (o := .cells #[.slice Ao60 t342.length co60] 28 (0, 0)) (by (with_reducible repeat (first | refine blk_drewN ?_ _ | refine blk_drew ?_ | refine blk_alloc ?_ _)); refine blk_put (cs := #[.slice Ao55 t336.length co55]) ?_ 0 _ rfl; refine qb ?_; exact BK341.out) NB341_0.out (by simp)); replace HO344 := am (Kd.R_mono (Kd.R_keep (IsS74.apart (show IsS74 w0 _ g s0_0 t339 t340 from qI74) (qR ((Kd.R_mono (Kd.R_far (p := ⟨gb341, 0, none⟩) (Kd.R_types HO344.out BK341.out (by decide)) (fun _ hk => hk.2) (.slice Ao60 t342.length co60)) (fun _ h_ => h_.1)))) (by decide)) hk (fun _ h => h.2)) (fun _ h => h.1)); have n4_ := am (KeepBut.trans qK hk (.inl rfl)); have n5_ := am (hb); replace HI0 := am (hi); clear BK341 HK HB; have BK341 := n2_; have HK := n4_; have HB := n5_; clear n2_ n4_ n5_; (try clear hb); (try clear hb2); (try clear hk); (try clear hi)))
    go_loopg [7] k (fun kq v7 w' => ∃ (x7_1 : Int) (x342000_1 : List Int) (u342000 : Value), v7 = .int .i64 x7_1 ∧ Aside0 (spec_l1Cur_poset.l0 kq x7_1 s0_0 t346 t347 x342000_1 = some (r1, r2, r3)) ∧ Aside0 (kq ≤ k) ∧ Aside0 (Kd.R (Kd.int .i64) 3 w' w.heap.size (fun _ => True) u342000 x342000_1) ∧ Aside0 (w'.heap[gb335]? = some (.cells #[(.slice none 0 0)] 28 (0, 0))) ∧ Aside0 (w'.heap[gb341]? = some (.cells #[u342000] 28 (0, 0))) ∧ Aside0 (IsS74 w0 w' g s0_0 t346 t347) ∧ Aside0 (KeepBut w w' g none) ∧ Aside0 (Below w0.heap.size w0 w'))
    case atStart => exact ⟨(0), (t342), (.slice Ao60 t342.length co60), qe, H', ⟨Nat.le_refl _⟩, ⟨qR (Kd.R_mono HO344.out (fun _ hk => trivial))⟩, ⟨qb BK335.out⟩, ⟨qb BK341.out⟩, ⟨qI74⟩, ⟨qK⟩, ⟨qB⟩⟩
    case round =>
     clear H'
     try clear c1
     try clear p1
     try clear q1
     try clear hx1
     try clear p2
     try clear c3
     try clear c4
     try clear c5
     try clear c6
     try clear c6b0
     try clear c6b1
     try clear p6
     try clear c7
     try clear c8
     try clear c8b0
     try clear c8b1
     try clear c11
     try clear c11b0
     try clear p12
     try clear q12
     try clear hx12
     try clear hf12
     try clear c15
     try clear c16
     try clear c17
     try clear c18
     try clear c34
     try clear c36
     try clear c36b0
     try clear c36b1
     try clear c41
     try clear c42
     try clear c49
     try clear c51
     try clear c51b0
     try clear c51b1
     try clear c56
     try clear c57
     try clear hcz19_0
     try clear hcz22_0
     try clear hcz24_0
     try clear hcz33_0
     try clear hcz35_0
     try clear hcz43_0
     try clear hcz46_0
     try clear hcz48_0
     try clear hcz50_0
     try clear hcz58_0
     try clear hcz61_0
     try clear hfz19_0
     try clear hfz22_0
     try clear hfz24_0
     try clear hfz33_0
     try clear hfz35_0
     try clear hfz43_0
     try clear hfz46_0
     try clear hfz48_0
     try clear hfz50_0
     try clear hfz58_0
     try clear hfz61_0
     try clear hx12_0
     try clear p12
     try clear q12
     obtain ⟨x7_1, x342000_1, u342000, rfl, HA, HK1, HO_342000, BK335, BK341, HI0, HK, HB⟩ := hrel
     cases gk with
     | zero => exact absurd HA.out (by simp [spec_l1Cur_poset.l0])
     | succ k1 =>
      have H := HA.out
      clear HA
      simp only [spec_l1Cur_poset.l0] at H
      by_cases c63 : x7_1 < 11
      ·rw [if_pos c63] at H
       have c63b0 := decide_eq_true c63
       clear c63
       by_cases c64 : x342000_1.length < 17592186044416
       rotate_left
       ·rw [if_neg c64] at H
        exact absurd H (by simp)
       rw [if_pos c64] at H
       have LMc64 := am c64
       clear c64
       obtain ⟨y358, hy358⟩ : ∃ y_ : List Int, y_ = (x342000_1 ++ [0]) := ⟨_, rfl⟩
       replace H : (spec_l1Cur_poset.l0 k1 (wrap64 (x7_1 + 1)) s0_0 t346 t347 y358) = some (r1, r2, r3) := by first | (rw [hy358]; with_reducible exact H) | (have H2_ := (Option.bind_some _ _).symm.trans H; rw [hy358]; with_reducible exact H2_) | (have H2_ := (Option.bind_some _ _).symm.trans H; with_reducible exact H2_) | with_reducible exact H | (rw [hy358]; exact H) | exact H
       have Ny358 := am hy358
       clear hy358
       have H' := am H
       clear H
       have hnb65 := NB341_335.out
       have hnc65 := NB335_341.out
       have hnb66 := NB341_0.out
       have hnc66 := NB0_341.out
       have hcz67_0 := qz wr BK341.out
       have hfz67_0 := blk_frozen BK341.out 0
       go_wp2_with (first | ((with_reducible refine gate_builtin (b := .append) (xs := #[.tmp 43, .tmp 44]) rfl ?_); at_builtin; refine Kd.R_append (Kd.int .i64) w.heap.size rfl (.tmp 43) (.tmp 44) 26 3 (.int .i64 0) 8 rfl Try.underlying26 info3 rfl (by decide) (by omega) u342000 x342000_1 0 [.int .i64 0] (fun _ => True) (fun _ => False) rfl rfl ?aP (fun _ hk => hk.elim) ?aF ?aO (Below.refl _ _) ?aS ?aL ?_; (case aP => exact rfl); (case aF => exact (fun _ _ => trivial)); (case aO => exact (qR HO_342000.out)); (case aS => exact (keep_size (w := w) (g := g) (row := none) qK)); (case aL => have := LMc64.out; omega); intro v359 w68 ho hb hg hat; rw [← Ny358.out] at ho; replace BK335 := am (blk_grown (g := gb335) (o := .cells #[.slice none 0 0] 28 (0, 0)) (qb BK335.out) hg (Kd.R_ne HO_342000.out BK335.out (by decide))); replace BK341 := am (blk_grown (g := gb341) (o := .cells #[u342000] 28 (0, 0)) (qb BK341.out) hg (Kd.R_ne HO_342000.out BK341.out (by decide))); have n2_ := am (IsS74.grown qI74 hg (IsS74.own_ne HI0.out HO_342000.out (by decide))); have n3_ := am (below_weaken qB HL.out hb); have n4_ := am (KeepBut.trans qK (KeepBut.of_grown hg g) (Kd.R_base2 HO_342000.out)); have HO360 := am (ho); clear HI0 HB HK HO_342000; have HI0 := n2_; have HB := n3_; have HK := n4_; clear n2_ n3_ n4_; clear ho hb hg hat; obtain ⟨Ao69, co69, eo69⟩ := Kd.R_slice HO360.out; subst eo69; have hcz70_0 := qz w68 BK341.out; have hfz70_0 := blk_frozen BK341.out 0))
       go_roundg k1
       case measure => have := HK1.out; omega
       case rel => exact ⟨(wrap64 (x7_1 + 1)), (y358), (.slice Ao69 y358.length co69), qe, H', ⟨by have := HK1.out; omega⟩, ⟨qR (Kd.R_mono (Kd.R_far (p := ⟨gb341, 0, none⟩) (Kd.R_types HO360.out BK341.out (by decide)) (fun _ hk => hk.2) (.slice Ao69 y358.length co69)) (fun _ hk => trivial))⟩, ⟨by (with_reducible repeat (first | refine blk_drewN ?_ _ | refine blk_drew ?_ | refine blk_alloc ?_ _)); refine blk_far ?_ NB335_341.out _; refine qb ?_; exact BK335.out⟩, ⟨by (with_reducible repeat (first | refine blk_drewN ?_ _ | refine blk_drew ?_ | refine blk_alloc ?_ _)); refine blk_put (cs := #[u342000]) ?_ 0 _ rfl; refine qb ?_; exact BK341.out⟩, ⟨qI74⟩, ⟨qK⟩, ⟨qB⟩⟩
      ·rw [if_neg c63] at H
       have c63b0 := decide_eq_false c63
       clear c63
       simp only [Option.some.injEq, Prod.mk.injEq] at H
       obtain ⟨rfl, rfl, rfl⟩ := H
       have hnb71 := NB341_335.out
       have hnc71 := NB335_341.out
       have hnb72 := NB341_0.out
       have hnc72 := NB0_341.out
       have hcz73_0 := qz wr BK341.out
       have hfz73_0 := blk_frozen BK341.out 0
       obtain ⟨Ao74, co74, eo74⟩ := Kd.R_slice HO_342000.out
       subst eo74
       have hnb75 := NB335_0.out
       have hnc75 := NB0_335.out
       have hcz76_0 := qz wr BK335.out
       have hfz76_0 := blk_frozen BK335.out 0
       go_wp2
       refine bodyPost_ret (results_cell_row rfl _ _ gb335 28 #[.slice Ao74 x342000_1.length co74] (0, 0) _ rfl (by (with_reducible repeat (first | refine blk_drewN ?_ _ | refine blk_drew ?_ | refine blk_alloc ?_ _)); refine blk_put (cs := #[.slice none 0 0]) ?_ 0 _ rfl; refine qb ?_; exact BK335.out) Try.underlying28 rfl (by kernel_rfl)) rfl ?_
       exact ⟨_, qr, qR (Kd.R_mono (Kd.R_far (p := ⟨gb335, 0, none⟩) (Kd.R_types HO_342000.out BK335.out (by decide)) (fun _ hk => hk.2) (.slice Ao74 x342000_1.length co74)) (fun _ hk => trivial)), qI74, qB, qK⟩
   ·rw [if_neg c51] at H
    have c51b0 : (t345 == 2) = false := beq_eq_false_iff_ne.mpr c51
    have c51b1 : (t345 != 2) = true := bne_iff_ne.mpr c51
    simp only [Option.some.injEq, Prod.mk.injEq] at H
    obtain ⟨rfl, rfl, rfl⟩ := H
    go_enter Try.func155, Try.ntmps155
    go_wp2_with (first | ((with_reducible refine gate_dst (N := 4) rfl ?_); refine qx (N := 4) (cs := #[.slice none 0 0]) (t := 28) ?_; intro gb335 hg w77 hbox hb; have n0_ := am (IsS74.below qI74 hb); have n1_ := am (KeepBut.trans qK (KeepBut.of_below hb g none) (.inl rfl)); have n2_ := am (below_step qB hb); have BK335 := am (hbox); have GW335 := am ((by rw [hg]; exact (keep_size (w := w) (g := g) (row := none) qK) : w.heap.size ≤ gb335)); have GE335 := am ((Nat.le_trans HW0.out (by rw [hg]; exact (keep_size (w := w) (g := g) (row := none) qK) : w.heap.size ≤ gb335) : w0.heap.size ≤ gb335)); have NB0_335 := am ((by rw [hg]; exact Nat.ne_of_lt (IsS74.lt (show IsS74 w0 _ g s0_0 s0_1 s0_2 from qI74)) : g ≠ gb335)); have NB335_0 := am ((by rw [hg]; exact Nat.ne_of_gt (IsS74.lt (show IsS74 w0 _ g s0_0 s0_1 s0_2 from qI74)) : gb335 ≠ g)); clear HI0 HK HB; have HI0 := n0_; have HK := n1_; have HB := n2_; clear n0_ n1_ n2_; clear hb hbox hg) | ((with_reducible refine gate_callee (f := 170) rfl ?_); refine gL (some 10) Try.func170 #[.pointer (some ⟨g, 0, none⟩), .int .i64 a1] ?_; (with_reducible refine (spec_l1Cur_surePoset.calls k g s0_0 s0_1 s0_2 a1 t336 t339 t340 w0 _ ?side1 ?side2 A3.out).mono ?_); (case side1 => exact qI74); (case side2 => exact qB); rintro e w78 ⟨v337, rfl, ho0, hi, hb, hk⟩; refine ⟨_, rfl, ?_⟩; replace BK335 := am (KeepBut.blk hk (g' := gb335) (o := .cells #[.slice none 0 0] 28 (0, 0)) (qb BK335.out) NB335_0.out (by simp)); have HO338 := am (Kd.R_lower ho0 (keep_size (w := w) (g := g) (row := none) qK)); have n2_ := am (KeepBut.trans qK hk (.inl rfl)); have n3_ := am (hb); replace HI0 := am (hi); clear HK HB; have HK := n2_; have HB := n3_; clear n2_ n3_; (try clear hb); (try clear hb2); (try clear hk); (try clear hi); (try clear ho0)) | ((with_reducible refine gate_dst (N := 5) rfl ?_); refine qx (N := 5) (cs := #[.slice none 0 0]) (t := 28) ?_; intro gb341 hg w79 hbox hb; replace HO338 := am (Kd.R_below (qR HO338.out) hb); have n1_ := am (IsS74.below qI74 hb); have n2_ := am (blk_below (g := gb335) (o := .cells #[.slice none 0 0] 28 (0, 0)) (qb BK335.out) hb); have n3_ := am (KeepBut.trans qK (KeepBut.of_below hb g none) (.inl rfl)); have n4_ := am (below_step qB hb); have BK341 := am (hbox); have GW341 := am ((by rw [hg]; exact (keep_size (w := w) (g := g) (row := none) qK) : w.heap.size ≤ gb341)); have GE341 := am ((Nat.le_trans HW0.out (by rw [hg]; exact (keep_size (w := w) (g := g) (row := none) qK) : w.heap.size ≤ gb341) : w0.heap.size ≤ gb341)); have NB335_341 := am ((by rw [hg]; exact Nat.ne_of_lt (blk_lt (g := gb335) (o := .cells #[.slice none 0 0] 28 (0, 0)) (qb BK335.out)) : gb335 ≠ gb341)); have NB341_335 := am ((by rw [hg]; exact Nat.ne_of_gt (blk_lt (g := gb335) (o := .cells #[.slice none 0 0] 28 (0, 0)) (qb BK335.out)) : gb341 ≠ gb335)); have NB0_341 := am ((by rw [hg]; exact Nat.ne_of_lt (IsS74.lt (show IsS74 w0 _ g s0_0 t339 t340 from qI74)) : g ≠ gb341)); have NB341_0 := am ((by rw [hg]; exact Nat.ne_of_gt (IsS74.lt (show IsS74 w0 _ g s0_0 t339 t340 from qI74)) : gb341 ≠ g)); clear HI0 BK335 HK HB; have HI0 := n1_; have BK335 := n2_; have HK := n3_; have HB := n4_; clear n1_ n2_ n3_ n4_; clear hb hbox hg; obtain ⟨Ao80, co80, eo80⟩ := Kd.R_slice HO338.out; subst eo80; have hnb81 := NB341_335.out; have hnc81 := NB335_341.out; have hnb82 := NB341_0.out; have hnc82 := NB0_341.out; have hcz83_0 := qz w79 BK341.out; have hfz83_0 := blk_frozen BK341.out 0) | ((with_reducible refine gate_callee (f := 164) rfl ?_); refine gL (some 13) Try.func164 #[.slice Ao80 t336.length co80] ?_; (with_reducible refine (spec_l1Own.calls _ _ t336 t342 _ ?side1 ?side2 A4.out).mono ?_); (case side1 => refine (Kd.R_reads' (e := 3) (base := w.heap.size) (ok := fun k_ => True) (n := t336.length) (c := co80) ?_).2.2; exact (qR ((Kd.R_mono (Kd.R_far (p := ⟨gb341, 0, none⟩) (Kd.R_types HO338.out BK341.out (by decide)) (fun _ hk => hk.2) (.slice Ao80 t336.length co80)) (fun _ h_ => h_.1))))); (case side2 => exact (Kd.R_reads' HO338.out).2.1); rintro e w84 ⟨v343, rfl, ho0, hb⟩; refine ⟨_, rfl, ?_⟩; have n0_ := am (Kd.R_elder' (qR ((Kd.R_mono (Kd.R_far (p := ⟨gb341, 0, none⟩) (Kd.R_types HO338.out BK341.out (by decide)) (fun _ hk => hk.2) (.slice Ao80 t336.length co80)) (fun _ h_ => h_.1)))) (Kd.R_base ho0) hb); have HO344 := am (Kd.R_lower (Kd.R_new' ho0 (Kd.R_lt (qR ((Kd.R_mono (Kd.R_far (p := ⟨gb341, 0, none⟩) (Kd.R_types HO338.out BK341.out (by decide)) (fun _ hk => hk.2) (.slice Ao80 t336.length co80)) (fun _ h_ => h_.1)))))) (keep_size (w := w) (g := g) (row := none) qK)); have n2_ := am (IsS74.below (show IsS74 w0 (w79.setCell ⟨gb341, 0, none⟩ (.slice Ao80 t336.length co80)) g s0_0 t339 t340 from qI74) hb); replace BK335 := am (blk_below (g := gb335) (o := .cells #[.slice none 0 0] 28 (0, 0)) (by (with_reducible repeat (first | refine blk_drewN ?_ _ | refine blk_drew ?_ | refine blk_alloc ?_ _)); refine blk_far ?_ NB335_341.out _; refine qb ?_; exact BK335.out) hb); replace BK341 := am (blk_below (g := gb341) (o := .cells #[.slice Ao80 t336.length co80] 28 (0, 0)) (by (with_reducible repeat (first | refine blk_drewN ?_ _ | refine blk_drew ?_ | refine blk_alloc ?_ _)); refine blk_put (cs := #[.slice none 0 0]) ?_ 0 _ rfl; refine qb ?_; exact BK341.out) hb); have n5_ := am (KeepBut.trans qK (KeepBut.of_below hb g none) (.inl rfl)); replace HB := am (below_step qB hb); clear HO338 HI0 HK; have HO338 := n0_; have HI0 := n2_; have HK := n5_; clear n0_ n2_ n5_; (try clear hb); (try clear hb2); (try clear hk); (try clear hi); (try clear ho0); obtain ⟨Ao85, co85, eo85⟩ := Kd.R_slice HO344.out; subst eo85; have hcz86_0 := qz w84 BK341.out; have hfz86_0 := blk_frozen BK341.out 0) | ((with_reducible refine gate_callee (f := 115) rfl ?_); refine gL (some 16) Try.func115 #[.pointer (some ⟨g, 0, none⟩), .int .i64 20] ?_; (with_reducible refine (spec_l1Cur_pick.calls g s0_0 t339 t340 20 t345 t346 t347 w0 _ ?side1 ?side2 A5.out).mono ?_); (case side1 => exact qI74); (case side2 => exact qB); rintro e w87 ⟨rfl, hi, hb, hk⟩; refine ⟨_, rfl, ?_⟩; replace BK335 := am (KeepBut.blk hk (g' := gb335) (o := .cells #[.slice none 0 0] 28 (0, 0)) (by (with_reducible repeat (first | refine blk_drewN ?_ _ | refine blk_drew ?_ | refine blk_alloc ?_ _)); refine blk_far ?_ NB335_341.out _; refine qb ?_; exact BK335.out) NB335_0.out (by simp)); replace HO338 := am (Kd.R_mono (Kd.R_keep (IsS74.apart (show IsS74 w0 _ g s0_0 t339 t340 from qI74) (qR ((Kd.R_mono (Kd.R_far (p := ⟨gb341, 0, none⟩) (Kd.R_types HO338.out BK341.out (by decide)) (fun _ hk => hk.2) (.slice Ao85 t342.length co85)) (fun _ h_ => h_.1)))) (by decide)) hk (fun _ h => h.2)) (fun _ h => h.1)); have n2_ := am (KeepBut.blk hk (g' := gb341) (o := .cells #[.slice Ao85 t342.length co85] 28 (0, 0)) (by (with_reducible repeat (first | refine blk_drewN ?_ _ | refine blk_drew ?_ | refine blk_alloc ?_ _)); refine blk_put (cs := #[.slice Ao80 t336.length co80]) ?_ 0 _ rfl; refine qb ?_; exact BK341.out) NB341_0.out (by simp)); replace HO344 := am (Kd.R_mono (Kd.R_keep (IsS74.apart (show IsS74 w0 _ g s0_0 t339 t340 from qI74) (qR ((Kd.R_mono (Kd.R_far (p := ⟨gb341, 0, none⟩) (Kd.R_types HO344.out BK341.out (by decide)) (fun _ hk => hk.2) (.slice Ao85 t342.length co85)) (fun _ h_ => h_.1)))) (by decide)) hk (fun _ h => h.2)) (fun _ h => h.1)); have n4_ := am (KeepBut.trans qK hk (.inl rfl)); have n5_ := am (hb); replace HI0 := am (hi); clear BK341 HK HB; have BK341 := n2_; have HK := n4_; have HB := n5_; clear n2_ n4_ n5_; (try clear hb); (try clear hb2); (try clear hk); (try clear hi); have hcz88_0 := qz w87 BK341.out; have hfz88_0 := blk_frozen BK341.out 0; have hnb89 := NB335_0.out; have hnc89 := NB0_335.out; have hcz90_0 := qz w87 BK335.out; have hfz90_0 := blk_frozen BK335.out 0))
    refine bodyPost_ret (results_cell_row rfl _ _ gb335 28 #[.slice Ao85 t342.length co85] (0, 0) _ rfl (by (with_reducible repeat (first | refine blk_drewN ?_ _ | refine blk_drew ?_ | refine blk_alloc ?_ _)); refine blk_put (cs := #[.slice none 0 0]) ?_ 0 _ rfl; refine qb ?_; exact BK335.out) Try.underlying28 rfl (by kernel_rfl)) rfl ?_
    exact ⟨_, qr, qR (Kd.R_mono (Kd.R_far (p := ⟨gb335, 0, none⟩) (Kd.R_types HO344.out BK335.out (by decide)) (fun _ hk => hk.2) (.slice Ao85 t342.length co85)) (fun _ hk => trivial)), qI74, qB, qK⟩
end Go.Proofs.Ytonfifhoklaliaa.F
end

section
namespace Go.Proofs.Ytonfifhoklaliaa.Q
open Go.RowKit Go.Proofs.YtonfifhoklaliaaW.PrintWords Go.Proofs.Ytonfifhoklaliaa.F
set_option linter.unusedVariables false
def okPo : Option (List Int) → Bool
 | some p => decide (1 ≤ p.length) && (decide (p.length ≤ 10) && p.all fun n => (Lit.int .i64 n).wf)
 | none => false
theorem okPo_parts {o : Option (List Int)} (h : okPo o = true) : ∃ p, o = some p ∧ 1 ≤ p.length ∧ p.length ≤ 10 ∧ wfL p := by
 cases o with
 | none => cases h
 | some p =>
  simp only [okPo, Bool.and_eq_true, decide_eq_true_eq, List.all_eq_true] at h
  exact ⟨p, rfl, h.1, h.2.1, h.2.2⟩
theorem allPoRect : (List.range 2).all (fun a => (List.range 5).all fun b => okPo (spec_poRectangle.f 200 ((a : Int) + 1) ((b : Int) + 1))) = true := by decide +kernel
theorem allPoStair : (List.range 2).all (fun a => okPo ((spec_Staircase.f 200 ((a : Int) + 1)).map Prod.fst)) = true := by decide +kernel
theorem allPoFence : (List.range 10).all (fun a => okPo ((spec_Fence.f 400 ((a : Int) + 1)).map Prod.fst)) = true := by decide +kernel
structure Drawn (p : List Int) (n : Nat) : Prop where
 len : p.length ≤ n
 wf : wfL p
theorem sure_loop {l : List Int} (hl : bytesL l) {n : Nat} (hn1 : 1 ≤ n) (hn : n ≤ 100) : ∀ (d : Nat) (ps : List (List Int)) (B : Nat) (a s : Int), d ≤ 200 → ps.length + d ≤ 400 → pairsOk n ps → cAt B a → B + 4 * d ≤ 100000 →
 ∃ p a' s', Ev (fun k => spec_l1Cur_surePoset.l0 k (n : Int) ps (d : Int) l a s) (p, a', s') ∧ p.length = n ∧ wfL p ∧ cAt (B + 4 * d) a' := by
 intro d
 induction d with
 | zero =>
  intro ps B a s _ _ hp ha hB
  obtain ⟨r, g1, g2, g3⟩ := poFrom_ok (by omega) hp
  refine ⟨r, a, s, Ev.step (by intro k; simp only [spec_l1Cur_surePoset.l0]; rfl) (Ev.no (by omega) (Ev.step (by intro k; simp only [spec_l1Cur_surePoset.j1]; rfl) (Ev.no (by simp) (Ev.bind g1 (Ev.now _))))), g2, g3, ha⟩
 | succ d ih =>
  intro ps B a s hd hps hp ha hB
  by_cases h1 : n = 1
  ·obtain ⟨r, g1, g2, g3⟩ := poFrom_ok (by omega) hp
   refine ⟨r, a, s, Ev.step (by intro k; simp only [spec_l1Cur_surePoset.l0]; rfl) (Ev.yes (by omega) ?_), g2, g3, cAt_mono ha (by omega)⟩
   rw [decide_eq_false (by omega)]
   exact Ev.step (by intro k; simp only [spec_l1Cur_surePoset.j1]; rfl) (Ev.no (by simp) (Ev.bind g1 (Ev.now _)))
  ·obtain ⟨x, a1, s1, e1, h2, x0, x1⟩ := cpick_ok hl s (wrap64 ((n : Int) - 1)) ha (by omega)
   have hw1 : wrap64 ((n : Int) - 1) = (n : Int) - 1 := wid (by omega) (by omega)
   rw [hw1] at x1
   have hxn : x < (n : Int) - 1 ∨ x = 0 := by omega
   have hxl : 0 ≤ x ∧ x + 1 < (n : Int) := by omega
   obtain ⟨y, a2, s2, e2, h3, y0, y1⟩ := cpick_ok hl s1 (wrap64 ((wrap64 ((n : Int) - 1)) - x)) h2 (by omega)
   have hrow : pairsOk n (ps ++ [([x, wrap64 ((wrap64 (x + 1)) + y)] : List Int)]) := by
    refine ⟨by rw [List.length_append, List.length_singleton]; omega, fun c hc => ?_⟩
    rcases List.mem_append.1 hc with h | h
    ·exact hp.2 c h
    ·rw [List.mem_singleton.1 h]
     exact ⟨rfl, by show 0 ≤ x; omega, by show x < _; omega⟩
   obtain ⟨p, a', s', g1, g2, g3, g4⟩ := ih _ (B + 2 + 2) a2 s2 (by omega) (by rw [List.length_append, List.length_singleton]; omega) hrow h3 (by omega)
   refine ⟨p, a', s', Ev.step (by intro k; simp only [spec_l1Cur_surePoset.l0]; rfl) (Ev.yes (by omega) ?_), g2, g3, cAt_mono g4 (by omega)⟩
   rw [decide_eq_true (by omega)]
   refine Ev.step (by intro k; simp only [spec_l1Cur_surePoset.j1]; rfl) (Ev.yes (show true = true from rfl) ?_)
   refine Ev.call e1 (Ev.call e2 (Ev.yes (by omega) ?_))
   rw [show wrap64 (((d + 1 : Nat) : Int) - 1) = (d : Int) by rw [wid (by omega) (by omega)]; omega]
   exact g1
theorem sure_ok {l : List Int} (hl : bytesL l) {B : Nat} {a : Int} (s : Int) {most : Nat} (h1 : 1 ≤ most) (h2 : most ≤ 10) (ha : cAt B a) (hB : B ≤ 10000) : ∃ p a' s', Ev (fun k => spec_l1Cur_surePoset.f k l a s (most : Int)) (p, a', s') ∧ 1 ≤ p.length ∧ p.length ≤ 10 ∧ wfL p ∧ cAt (B + 100) a' := by
 unfold spec_l1Cur_surePoset.f
 obtain ⟨c, a0, s0, e0, hc, c0, c1⟩ := cpick_ok hl s 5 ha (by omega)
 by_cases q0 : c = 0
 ·obtain ⟨x, a1, s1, e1, hx, x0, x1⟩ := cpick_ok hl s0 2 hc (by omega)
  obtain ⟨t, ht, t1, t5⟩ : ∃ t : Nat, spec_l1Most.f 1 (wrap64 (Int.tdiv (most : Int) 2)) = some (t : Int) ∧ 1 ≤ t ∧ t ≤ 5 := by
   have e : wrap64 (Int.tdiv (most : Int) 2) = ((most / 2 : Nat) : Int) := by
    rw [Int.tdiv_eq_ediv_of_nonneg (by omega), wid (by omega) (by omega)]; omega
   unfold spec_l1Most.f
   rw [e]
   by_cases h : (1 : Int) > ((most / 2 : Nat) : Int)
   ·rw [if_pos h]; exact ⟨1, rfl, by omega, by omega⟩
   ·rw [if_neg h]; exact ⟨most / 2, rfl, by omega, by omega⟩
  obtain ⟨y, a2, s2, e2, hy, y0, y1⟩ := cpick_ok hl s1 (t : Int) hx (by omega)
  obtain ⟨u, rfl⟩ := Int.eq_ofNat_of_zero_le x0
  obtain ⟨v, rfl⟩ := Int.eq_ofNat_of_zero_le y0
  have hk := List.all_eq_true.1 (List.all_eq_true.1 allPoRect u (List.mem_range.2 (by omega))) v (List.mem_range.2 (by omega))
  obtain ⟨p, g1, g2, g3, g4⟩ := okPo_parts hk
  refine ⟨p, a2, s2, Ev.call e0 (Ev.yes q0 (Ev.call e1 (Ev.call ht (Ev.call e2 ?_)))), g2, g3, g4, cAt_mono hy (by omega)⟩
  rw [show wrap64 (1 + (u : Int)) = (u : Int) + 1 by rw [wid (by omega) (by omega)]; omega, show wrap64 (1 + (v : Int)) = (v : Int) + 1 by rw [wid (by omega) (by omega)]; omega]
  exact Ev.bind (Ev.of (spec_poRectangle.mono _ _) g1) (Ev.now _)
 by_cases q1 : c = 1
 ·obtain ⟨x, a1, s1, e1, hx, x0, x1⟩ := cpick_ok hl s0 2 hc (by omega)
  obtain ⟨u, rfl⟩ := Int.eq_ofNat_of_zero_le x0
  have hk := List.all_eq_true.1 allPoStair u (List.mem_range.2 (by omega))
  obtain ⟨p, g1, g2, g3, g4⟩ := okPo_parts hk
  obtain ⟨⟨p2, b2⟩, g5, g6⟩ := Option.map_eq_some_iff.1 g1
  have g6 : p2 = p := g6
  subst g6
  refine ⟨p2, a1, s1, Ev.call e0 (Ev.no q0 (Ev.yes q1 (Ev.call e1 ?_))), g2, g3, g4, cAt_mono hx (by omega)⟩
  rw [show wrap64 (1 + (u : Int)) = (u : Int) + 1 by rw [wid (by omega) (by omega)]; omega]
  exact Ev.bind (Ev.of (spec_Staircase.mono _) g5) (Ev.now _)
 obtain ⟨x, a1, s1, e1, hx, x0, x1⟩ := cpick_ok hl s0 (most : Int) hc (by omega)
 obtain ⟨u, rfl⟩ := Int.eq_ofNat_of_zero_le x0
 have hu : u < 10 := by omega
 by_cases q2 : c = 2
 ·have hk := List.all_eq_true.1 allPoFence u (List.mem_range.2 hu)
  obtain ⟨p, g1, g2, g3, g4⟩ := okPo_parts hk
  obtain ⟨⟨p2, b2⟩, g5, g6⟩ := Option.map_eq_some_iff.1 g1
  have g6 : p2 = p := g6
  subst g6
  refine ⟨p2, a1, s1, Ev.call e0 (Ev.no q0 (Ev.no q1 (Ev.yes q2 (Ev.call e1 ?_)))), g2, g3, g4, cAt_mono hx (by omega)⟩
  rw [show wrap64 (1 + (u : Int)) = (u : Int) + 1 by rw [wid (by omega) (by omega)]; omega]
  exact Ev.bind (Ev.of (spec_Fence.mono _) g5) (Ev.now _)
 have hw : wrap64 (1 + (u : Int)) = ((u + 1 : Nat) : Int) := by rw [wid (by omega) (by omega)]; omega
 have hw2 : wrap64 (2 * (wrap64 (1 + (u : Int)))) = ((2 * (u + 1) : Nat) : Int) := by rw [hw, wid (by omega) (by omega)]; omega
 obtain ⟨y, a2, s2, e2, hy, y0, y1⟩ := cpick_ok hl s1 (wrap64 (2 * (wrap64 (1 + (u : Int))))) hx (by omega)
 rw [hw2] at y1
 obtain ⟨v, rfl⟩ := Int.eq_ofNat_of_zero_le y0
 obtain ⟨p, a', s', g1, g2, g3, g4⟩ := sure_loop hl (n := u + 1) (by omega) (by omega) v [] (B + 2 + 2 + 2) a2 s2 (by omega) (by simp; omega) ⟨by simp, fun c hc => by cases hc⟩ hy (by omega)
 refine ⟨p, a', s', Ev.call e0 (Ev.no q0 (Ev.no q1 (Ev.no q2 (Ev.call e1 (Ev.call e2 ?_))))), by omega, by omega, g3, cAt_mono g4 (by omega)⟩
 rw [hw]
 exact g1
theorem wfL_zeros {l : List Int} (hl : List Int) (h : wfL l) : wfL (l ++ [0]) := wfL_app h (fun x hx => by rw [List.mem_singleton.1 hx]; decide)
theorem zeros_run {l : List Int} (a s : Int) : ∀ d (x : Nat), x + d = 11 → ∀ p : List Int, p.length + d ≤ 1000 → wfL p → ∃ q, Ev (fun k => spec_l1Cur_poset.l0 k (x : Int) l a s p) (q, a, s) ∧ q.length = p.length + d ∧ wfL q
 | 0, x, hx, p, hp, hw => ⟨p, Ev.step (by intro k; simp only [spec_l1Cur_poset.l0]; rfl) (Ev.no (by omega) (Ev.now _)), rfl, hw⟩
 | d + 1, x, hx, p, hp, hw => by
  obtain ⟨q, g1, g2, g3⟩ := zeros_run a s d (x + 1) (by omega) (p ++ [0]) (by rw [List.length_append, List.length_singleton]; omega) (wfL_zeros [] hw)
  refine ⟨q, Ev.step (by intro k; simp only [spec_l1Cur_poset.l0]; rfl) (Ev.yes (by omega) (Ev.yes (by omega) ?_)), by rw [g2, List.length_append, List.length_singleton]; omega, g3⟩
  rw [show wrap64 ((x : Int) + 1) = ((x + 1 : Nat) : Int) by rw [wid (by omega) (by omega)]; omega]
  exact g1
theorem poset_ok {l : List Int} (hl : bytesL l) {B : Nat} {a : Int} (s : Int) {most : Nat} (h1 : 1 ≤ most) (h2 : most ≤ 10) (ha : cAt B a) (hB : B ≤ 10000) : ∃ p a' s', Ev (fun k => spec_l1Cur_poset.f k l a s (most : Int)) (p, a', s') ∧ p.length ≤ 21 ∧ wfL p ∧ cAt (B + 120) a' := by
 unfold spec_l1Cur_poset.f
 obtain ⟨p, a0, s0, e0, p1, p2, p3, hp⟩ := sure_ok hl s h1 h2 ha hB
 have hown : spec_l1Own.f p = some p := by
  unfold spec_l1Own.f
  rw [Option.bind_some, if_pos (by simp; omega), List.nil_append]
 obtain ⟨c, a1, s1, e1, hc, c0, c1⟩ := cpick_ok hl s0 20 hp (by omega)
 by_cases q0 : c = 0
 ·obtain ⟨x, a2, s2, e2, hx, x0, x1⟩ := cpick_ok hl s1 (p.length : Int) hc (by omega)
  obtain ⟨y, a3, s3, e3, hy, y1⟩ := among_ok hl s2 hx (by omega) (m := ([(-1), 1, 3, shl .i64 1 x, 4611686018427387904] : List Int)) (by simp)
  have hwf : (Lit.int .i64 y).wf = true := by
   simp only [List.mem_cons, List.mem_nil_iff, or_false] at y1
   rcases y1 with rfl | rfl | rfl | rfl | rfl
   ·decide
   ·decide
   ·decide
   ·exact wf_wrapI _
   ·decide
  refine ⟨p.set x.toNat y, a3, s3, Ev.bind e0 (Ev.call hown (Ev.call e1 (Ev.yes q0 (Ev.call e2 (Ev.yes x0 (Ev.call e3 (Ev.yes (by omega) (Ev.now _)))))))), by rw [List.length_set]; omega, wfL_set p3 hwf _, cAt_mono hy (by omega)⟩
 by_cases q1 : c = 1
 ·exact ⟨[], a1, s1, Ev.bind e0 (Ev.call hown (Ev.call e1 (Ev.no q0 (Ev.yes q1 (Ev.now _))))), by simp, (fun n hn => by cases hn), cAt_mono hc (by omega)⟩
 by_cases q2 : c = 2
 ·obtain ⟨q, g1, g2, g3⟩ := zeros_run (l := l) a1 s1 11 0 rfl p (by omega) p3
  exact ⟨q, a1, s1, Ev.bind e0 (Ev.call hown (Ev.call e1 (Ev.no q0 (Ev.no q1 (Ev.yes q2 g1))))), by omega, g3, cAt_mono hc (by omega)⟩
 ·exact ⟨p, a1, s1, Ev.bind e0 (Ev.call hown (Ev.call e1 (Ev.no q0 (Ev.no q1 (Ev.no q2 (Ev.now _)))))), by omega, p3, cAt_mono hc (by omega)⟩
end Go.Proofs.Ytonfifhoklaliaa.Q
end

section
namespace Go.Proofs.Ytonfifhoklaliaa.F
open Go.RowKit Go.Proofs.YtonfifhoklaliaaW.PrintWords Go.Proofs.YtonfifhoklaliaaW.PrintLast Go.Proofs.YtonfifhoklaliaaW.PrintMore
attribute [local go_sem] max2_int min2_int max_two min_two max_three min_three max_four min_four
set_option linter.unusedVariables false
set_option linter.unusedSimpArgs false
def spec_DrawIsPosetR.f (k : Nat) (s0_0 : List Int) (s0_1 : Int) (s0_2 : Int) : Option (List Int × Int × Int) := (spec_l1Cur_poset.f k s0_0 s0_1 s0_2 10).bind fun bt1608 => (some (bt1608.1, bt1608.2.1, bt1608.2.2))
theorem spec_DrawIsPosetR.mono : ∀ a0 a1 a2 k, LeO (spec_DrawIsPosetR.f k a0 a1 a2) (spec_DrawIsPosetR.f (k + 1) a0 a1 a2) := by
 intro a0 a1 a2 k
 unfold spec_DrawIsPosetR.f
 repeat' first
  | (with_reducible exact spec_l1Cur_poset.mono _ _ _ _ _)
  | (with_reducible exact LeO.refl _)
  | (with_reducible exact LeO.none _)
  | (with_reducible refine LeO.ite ?_ ?_)
  | (with_reducible refine LeO.bind ?_ (fun _ => ?_))
  | exact spec_l1Cur_poset.mono _ _ _ _ _
  | exact LeO.none _
  | refine LeO.ite ?_ ?_
  | refine LeO.bind ?_ (fun _ => ?_)
def spec_DrawIsPoset.f (k : Nat) (l0 : List Int) : Option ((List Int)) := (spec_DrawIsPosetR.f k l0 0 0).bind fun bt => some bt.1
theorem spec_DrawIsPoset.mono : ∀ a0 k, LeO (spec_DrawIsPoset.f k a0) (spec_DrawIsPoset.f (k + 1) a0) := fun a0 k => LeO.bind (spec_DrawIsPosetR.mono _ _ _ _) (fun _ => LeO.refl _)
set_option maxHeartbeats 8000000 in
set_option maxRecDepth 100000 in
theorem spec_DrawIsPoset.calls (k : Nat) (A0 : Option Addr) (c0 : Nat) (l0 : List Int) (r : List Int) (w : World) (hr0 : Kd.C (Kd.int .u8) w A0 l0.length l0) (hc0 : l0.length ≤ c0) (hf : spec_DrawIsPoset.f k l0 = some r) :
 Calls Try.prog 93 #[.slice A0 l0.length c0] w fun e w' => ∃ v0_ : Value, e = .returned (.agg #[v0_]) ∧ Kd.R (Kd.int .i64) 3 w' w.heap.size (fun _ => True) v0_ r ∧ Below w.heap.size w w' := by
 unfold spec_DrawIsPoset.f at hf
 obtain ⟨⟨r_, r2, r3⟩, h, hf⟩ := Option.bind_eq_some_iff.1 hf
 have hf := Option.some.inj hf
 have hf1 : r = r_ := hf.symm
 clear hf
 subst hf1
 have HR0 := am hr0
 have HC0 := am hc0
 clear hr0 hc0
 have hu28 := Try.underlying28
 have HL := am (Nat.le_refl w.heap.size)
 have HW0 := am (Nat.le_refl w.heap.size)
 have H : ((spec_l1Cur_poset.f k l0 0 0 10).bind fun bt1608 => (some (bt1608.1, bt1608.2.1, bt1608.2.2))) = some (r, r2, r3) := h
 clear h
 replace H := Option.bind_eq_some_iff.mp H
 obtain ⟨⟨t1608, t1611, t1612⟩, A20, H⟩ := H
 replace H : (some (t1608, t1611, t1612)) = some (r, r2, r3) := H
 have A2 := am A20
 clear A20
 simp only [Option.some.injEq, Prod.mk.injEq] at H
 obtain ⟨rfl, rfl, rfl⟩ := H
 go_enter Try.func93, Try.ntmps93
 go_wp2_with (first | ((with_reducible refine gate_dst (N := 2) rfl ?_); refine qx (N := 2) (cs := #[.slice none 0 0]) (t := 28) ?_; intro gb1607 hg wA hbox hb; have BKa := am hbox; have GE1607 : Aside0 (w.heap.size ≤ gb1607) := ⟨by rw [hg]; exact Nat.le_refl _⟩; have HBa := am hb; have HLa : Aside0 (gb1607 < wA.heap.size) := ⟨blk_lt hbox⟩; clear hbox hb hg) | ((with_reducible refine gate_dst (N := 6) rfl ?_); refine qx (N := 6) (cs := #[.slice A0 l0.length c0, .int .i64 0, .int .u64 0]) (t := 74) ?_; intro g hg w1_ hbox hb; have HBb := am (HBa.out.trans (hb.mono HBa.out.size)); have hge : w.heap.size ≤ g := (by rw [hg]; exact HBa.out.size); have HI0 : Aside0 (IsS74 w w1_ g l0 0 0) := ⟨A0, c0, hbox, hge, HR0.out⟩; have BK1607 := am (blk_below BKa.out hb); have NB1607_0 : Aside0 (gb1607 ≠ g) := ⟨by rw [hg]; exact Nat.ne_of_lt HLa.out⟩; have NB0_1607 : Aside0 (g ≠ gb1607) := ⟨fun e => NB1607_0.out e.symm⟩; have GW1607 := GE1607; have HK := am (KeepBut.of_below HBb.out g none); have HB := HBb; clear hbox hb hge hg BKa HBa HLa HBb) | ((with_reducible refine gate_callee (f := 155) rfl ?_); refine gL (some 8) Try.func155 #[.pointer (some ⟨g, 0, none⟩), .int .i64 10] ?_; (with_reducible refine (spec_l1Cur_poset.calls k g l0 0 0 10 t1608 t1611 t1612 w _ ?side1 ?side2 A2.out).mono ?_); (case side1 => exact qI74); (case side2 => exact qB); rintro e w4 ⟨v1609, rfl, ho0, hi, hb, hk⟩; refine ⟨_, rfl, ?_⟩; replace BK1607 := am (KeepBut.blk hk (g' := gb1607) (o := .cells #[.slice none 0 0] 28 (0, 0)) (qb BK1607.out) NB1607_0.out (by simp)); have HO1610 := am (Kd.R_lower ho0 (keep_size (w := w) (g := g) (row := none) qK)); have n2_ := am (KeepBut.trans qK hk (.inl rfl)); have n3_ := am (hb); replace HI0 := am (hi); clear HK HB; have HK := n2_; have HB := n3_; clear n2_ n3_; (try clear hb); (try clear hb2); (try clear hk); (try clear hi); (try clear ho0); obtain ⟨Ao5, co5, eo5⟩ := Kd.R_slice HO1610.out; subst eo5; have hnb6 := NB1607_0.out; have hnc6 := NB0_1607.out; have hcz7_0 := qz w4 BK1607.out; have hfz7_0 := blk_frozen BK1607.out 0))
 refine bodyPost_ret (results_cell_row rfl _ _ gb1607 28 #[.slice Ao5 t1608.length co5] (0, 0) _ rfl (by (with_reducible repeat (first | refine blk_drewN ?_ _ | refine blk_drew ?_ | refine blk_alloc ?_ _)); refine blk_put (cs := #[.slice none 0 0]) ?_ 0 _ rfl; refine qb ?_; exact BK1607.out) Try.underlying28 rfl (by kernel_rfl)) rfl ?_
 exact ⟨_, qr, qR (Kd.R_mono (Kd.R_far (p := ⟨gb1607, 0, none⟩) (Kd.R_types HO1610.out BK1607.out (by decide)) (fun _ hk => hk.2) (.slice Ao5 t1608.length co5)) (fun _ hk => trivial)), qB⟩
def spec_DrawHeightsOf.f (k : Nat) (l0 : List Int) : Option (List Int) := (spec_DrawIsPoset.f k l0).bind fun t362 => (some t362)
theorem spec_DrawHeightsOf.mono : ∀ a0 k, LeO (spec_DrawHeightsOf.f k a0) (spec_DrawHeightsOf.f (k + 1) a0) := by
 intro a0 k
 unfold spec_DrawHeightsOf.f
 repeat' first
  | (with_reducible exact spec_DrawIsPoset.mono _ _)
  | (with_reducible exact LeO.refl _)
  | (with_reducible exact LeO.none _)
  | (with_reducible refine LeO.ite ?_ ?_)
  | (with_reducible refine LeO.bind ?_ (fun _ => ?_))
  | exact spec_DrawIsPoset.mono _ _
  | exact LeO.none _
  | refine LeO.ite ?_ ?_
  | refine LeO.bind ?_ (fun _ => ?_)
set_option maxHeartbeats 8000000 in
set_option maxRecDepth 100000 in
theorem spec_DrawHeightsOf.calls (k : Nat) (A0 : Option Addr) (c0 : Nat) (l0 : List Int) (r : List Int) (w : World) (hr0 : Kd.C (Kd.int .u8) w A0 l0.length l0) (hc0 : l0.length ≤ c0) (h : spec_DrawHeightsOf.f k l0 = some r) :
 Calls Try.prog 21 #[.slice A0 l0.length c0] w fun e w' => ∃ v0_ : Value, e = .returned (.agg #[v0_]) ∧ Kd.R (Kd.int .i64) 3 w' w.heap.size (fun _ => True) v0_ r ∧ Below w.heap.size w w' := by
 have hu28 := Try.underlying28
 have HR0 := am hr0
 have HC0 := am hc0
 clear hr0 hc0
 have HB := am (Below.refl w.heap.size w)
 have H : ((spec_DrawIsPoset.f k l0).bind fun t362 => (some t362)) = some r := h
 clear h
 replace H := Option.bind_eq_some_iff.mp H
 obtain ⟨t362, A20, H⟩ := H
 replace H : (some t362) = some r := H
 have A2 := am A20
 clear A20
 obtain rfl := Option.some.inj H
 go_enter Try.func21, Try.ntmps21
 go_wp2_with (first | ((with_reducible refine gate_dst (N := 2) rfl ?_); refine qx (N := 2) (cs := #[.slice none 0 0]) (t := 28) ?_; intro gb361 hg w3 hbox hb; have n0_ := am (below_step qB hb); have BK361 := am (hbox); have GW361 := am (qg w hg); have GE361 := am (qg w hg); clear HB; have HB := n0_; clear n0_; clear hb hbox hg) | ((with_reducible refine gate_callee (f := 93) rfl ?_); refine gL (some 4) Try.func93 #[.slice A0 l0.length c0] ?_; (with_reducible refine (spec_DrawIsPoset.calls k _ _ l0 t362 _ ?side1 ?side2 A2.out).mono ?_); (case side1 => exact qC (Kd.C_below HR0.out HB.out)); (case side2 => exact HC0.out); rintro e w4 ⟨v363, rfl, ho0, hb⟩; refine ⟨_, rfl, ?_⟩; have HO364 := am (Kd.R_lower ho0 (below_size qB)); replace BK361 := am (blk_below (g := gb361) (o := .cells #[.slice none 0 0] 28 (0, 0)) (qb BK361.out) hb); replace HB := am (below_step qB hb); (try clear hb); (try clear hb2); (try clear hk); (try clear hi); (try clear ho0); obtain ⟨Ao5, co5, eo5⟩ := Kd.R_slice HO364.out; subst eo5; have hcz6_0 := qz w4 BK361.out; have hfz6_0 := blk_frozen BK361.out 0))
 refine bodyPost_ret (results_cell_row rfl _ _ gb361 28 #[.slice Ao5 t362.length co5] (0, 0) _ rfl (by (with_reducible repeat (first | refine blk_drewN ?_ _ | refine blk_drew ?_ | refine blk_alloc ?_ _)); refine blk_put (cs := #[.slice none 0 0]) ?_ 0 _ rfl; refine qb ?_; exact BK361.out) Try.underlying28 rfl (by kernel_rfl)) rfl ?_
 exact ⟨_, qr, qR (Kd.R_mono (Kd.R_far (p := ⟨gb361, 0, none⟩) (Kd.R_types HO364.out BK361.out (by decide)) (fun _ hk => hk.2) (.slice Ao5 t362.length co5)) (fun _ hk => trivial)), qB⟩
end Go.Proofs.Ytonfifhoklaliaa.F
end

section
namespace Go.Proofs.Ytonfifhoklaliaa.F
open Go.RowKit Go.Proofs.YtonfifhoklaliaaW.PrintWords Go.Proofs.YtonfifhoklaliaaW.PrintLast Go.Proofs.YtonfifhoklaliaaW.PrintMore
set_option linter.unusedVariables false
set_option linter.unusedSimpArgs false
abbrev kPr : Kd (Int × Int) := Kd.pair (Kd.int .i64) (Kd.int .i64)
def stA (ps : List (Int × Int)) (i : Int) : Int := (ps.getD i.toNat (0, 0)).1
def stB (ps : List (Int × Int)) (i : Int) : Int := (ps.getD i.toNat (0, 0)).2
/-- The literal: whether pair j lies within pair i. -/
def lit_staircase.f (ps : List (Int × Int)) (j i : Int) : Option Bool :=
 if 0 ≤ i ∧ i < (ps.length : Int) then if 0 ≤ j ∧ j < (ps.length : Int) then some (decide (stA ps i ≤ stA ps j) && decide (stB ps j ≤ stB ps i)) else none else none
theorem st_info : (Try.prog.info? 84).map (fun i => (i.zero, i.size, i.bytes)) = some (some (.agg #[.int .i64 0, .int .i64 0]), 2, 16) := by kernel_rfl
theorem st_read {w : World} {base : Nat} {ok : Nat → Prop} {g c : Nat} {ps : List (Int × Int)} (h : kPr.R 84 w base ok (.slice (some ⟨g, 0, none⟩) ps.length c) ps) (i : Int) (h0 : 0 ≤ i) (h1 : i < (ps.length : Int)) :
 w.cell? ⟨g, i.toNat * 2, none⟩ = some (.int .i64 (stA ps i)) ∧ w.cell? ⟨g, i.toNat * 2 + 1, none⟩ = some (.int .i64 (stB ps i)) := by
 obtain ⟨cs, hl, hM, hc⟩ := Kd.R_get h ((0, 0) : Int × Int) i h0 h1
 obtain ⟨c0, c1, rfl, e0, e1⟩ := hM
 have e0' : c0 = [.int .i64 (stA ps i)] := e0
 have e1' : c1 = [.int .i64 (stB ps i)] := e1
 subst e0'
 subst e1'
 have ha : ∀ n, Addr.add ⟨g, 0, none⟩ n = ⟨g, n, none⟩ := fun n => by unfold Addr.add; split <;> simp_all
 have q0 := hc 0 _ rfl
 have q1 := hc 1 _ rfl
 rw [ha] at q0 q1
 exact ⟨q0, q1⟩
set_option maxHeartbeats 8000000 in
set_option maxRecDepth 100000 in
theorem lit_staircase.calls (g0_ g c : Nat) (ps : List (Int × Int)) (j i : Int) (r : Bool) (w : World) (base : Nat) (ok : Nat → Prop) (hcap : w.cell? ⟨g0_, 0, none⟩ = some (.slice (some ⟨g, 0, none⟩) ps.length c)) (hr : kPr.R 84 w base ok (.slice (some ⟨g, 0, none⟩) ps.length c) ps) (h : lit_staircase.f ps j i = some r) :
 Calls Try.prog 89 #[.int .i64 j, .int .i64 i, .pointer (some ⟨g0_, 0, none⟩)] w fun e w' => e = .returned (.bool r) ∧ Drawn0 w w' := by
 unfold lit_staircase.f at h
 split at h
 rotate_left
 ·cases h
 rename_i hi
 split at h
 rotate_left
 ·cases h
 rename_i hj
 obtain ⟨i0, i1⟩ := st_read hr i hi.1 hi.2
 obtain ⟨j0, j1⟩ := st_read hr j hj.1 hj.2
 obtain rfl := Option.some.inj h
 obtain ⟨a1, a2⟩ := hi
 obtain ⟨b1, b2⟩ := hj
 have d1 : decide (i < (ps.length : Int)) = true := decide_eq_true a2
 have d2 : decide (j < (ps.length : Int)) = true := decide_eq_true b2
 have hu66 := Try.underlying83
 have hu67 := Try.underlying84
 clear h hr
 by_cases hc : stA ps i ≤ stA ps j
 ·have c1 : decide (stA ps i ≤ stA ps j) = true := decide_eq_true hc
  rw [c1, Bool.true_and]
  go_enter Try.func89, Try.ntmps89
  go_wp2_with (fail)
  go_quiet (fail)
  go_wp2
  go_ret
  exact ⟨rfl, by repeat (first | exact Drawn0.refl _ | apply Drawn0.step)⟩
 ·have c1 : decide (stA ps i ≤ stA ps j) = false := decide_eq_false hc
  rw [c1, Bool.false_and]
  go_enter Try.func89, Try.ntmps89
  go_wp2_with (fail)
  go_quiet (fail)
  go_wp2
  go_ret
  exact ⟨rfl, by repeat (first | exact Drawn0.refl _ | apply Drawn0.step)⟩
mutual
def stair.l0 (n : Int) : Nat → Int → List (Int × Int) → Option (List (Int × Int))
 | 0, _, _ => none
 | k + 1, d, ps => if d ≤ n then stair.l1 n k d 0 ps else some ps
def stair.l1 (n : Int) : Nat → Int → Int → List (Int × Int) → Option (List (Int × Int))
 | 0, _, _, _ => none
 | k + 1, d, i, ps => if wrap64 (i + d) ≤ n then (if ps.length ≤ 1000 then stair.l1 n k d (wrap64 (i + 1)) (ps ++ [(i, wrap64 (i + d))]) else none) else stair.l0 n k (wrap64 (d + 1)) ps
end
theorem stair_mono (n : Int) : ∀ k, (∀ d ps, LeO (stair.l0 n k d ps) (stair.l0 n (k + 1) d ps)) ∧ (∀ d i ps, LeO (stair.l1 n k d i ps) (stair.l1 n (k + 1) d i ps))
 | 0 => ⟨fun _ _ r h => by simp [stair.l0] at h, fun _ _ _ r h => by simp [stair.l1] at h⟩
 | k + 1 => by
  obtain ⟨ih0, ih1⟩ := stair_mono n k
  refine ⟨fun d ps => ?_, fun d i ps => ?_⟩
  ·unfold stair.l0; exact LeO.ite (ih1 _ _ _) (LeO.refl _)
  ·unfold stair.l1; exact LeO.ite (LeO.ite (ih1 _ _ _) (LeO.refl _)) (ih0 _ _)
def impl_Staircase.f (k : Nat) (a0 : Int) : Option (List Int × Bool) :=
 (impl_within.f a0 1 4).bind fun b => if b = true then (stair.l0 a0 k 1 []).bind fun ps => if 1 ≤ ps.length ∧ ps.length ≤ 1000 then (made_staircase.f (fun j i => lit_staircase.f ps j i) k (ps.length : Int)).bind fun r => some (r, true) else none else some ([], false)
theorem impl_Staircase.mono : ∀ a0 k, LeO (impl_Staircase.f k a0) (impl_Staircase.f (k + 1) a0) := fun a0 k => by
 unfold impl_Staircase.f
 exact LeO.bind (LeO.refl _) (fun b => LeO.ite (LeO.bind ((stair_mono a0 k).1 _ _) (fun ps => LeO.ite (LeO.bind (made_staircase.mono _ _ _) (fun _ => LeO.refl _)) (LeO.refl _))) (LeO.refl _))
theorem st_zero {X : World} {base n : Nat} {ok : Nat → Prop} (hn : base ≤ n) (ho : ok n) (hx : X.heap[n]? = some (.cells #[] 84 (0, 0))) : kPr.R 84 X base ok (.slice (some ⟨n, 0, none⟩) 0 0) [] := by
 refine ⟨fun k hk => ?_, [], ⟨rfl, .inr ⟨n, 0, #[], rfl, hn, hx, Nat.le_refl _, by first | simp | omega | decide, rfl, rfl⟩⟩, Reps.none _ _⟩
 have : k = n := by simpa [Value.ownBlock] using hk.symm
 rw [this]; exact ho
set_option maxHeartbeats 8000000 in
set_option maxRecDepth 100000 in
theorem impl_Staircase.calls (k : Nat) (a0 : Int) (r0 : List Int) (r1 : Bool) (w : World) (h : impl_Staircase.f k a0 = some (r0, r1)) :
 Calls Try.prog 16 #[.int .i64 a0] w fun e w' => ∃ v0_ : Value, e = .returned (.tuple #[.agg #[v0_], .bool r1]) ∧ Kd.R (Kd.int .i64) 3 w' w.heap.size (fun _ => True) v0_ r0 ∧ Below w.heap.size w w' := by
 have hu34 := Try.underlying28
 have hu66 := Try.underlying83
 have hu67 := Try.underlying84
 have hmf : ∀ (fn : Fn) (first cap : Array Value) (w : World), (Instr.makeFunc fn first cap).run Try.prog w = .ok (.func fn first cap) w := fun _ _ _ _ => rfl
 unfold impl_Staircase.f at h
 obtain ⟨b, hb, h⟩ := Option.bind_eq_some_iff.1 h
 have HI := am hb
 have HP0 : Aside0 ((w.alloc (.cells #[.slice none 0 0] 28 (0, 0))).heap[w.heap.size]? = some (.cells #[.slice none 0 0] 28 (0, 0))) := ⟨blk_new w _⟩
 have HB0 : Aside0 (Below w.heap.size w (w.alloc (.cells #[.slice none 0 0] 28 (0, 0)))) := ⟨below_alloc (Below.refl w.heap.size w) _⟩
 cases b with
 | false =>
  obtain ⟨rfl, rfl⟩ : [] = r0 ∧ false = r1 := by simpa using h
  clear h hb
  go_enter Try.func16, Try.ntmps16
  go_wp2_with (go_at_call 87; (with_reducible refine (impl_within.calls a0 1 4 false _ HI.out).mono ?_); rintro e w1 ⟨rfl, nd, rfl⟩)
  have HP1 := am (blk_drewN HP0.out nd)
  refine bodyPost_ret (results_ct rfl _ _ w.heap.size 28 #[.slice none 0 0] (0, 0) _ rfl (blk_put (cs := #[.slice none 0 0]) HP1.out 0 _ rfl) hu34 rfl (by kernel_rfl)) rfl ⟨_, rfl, Kd.R_nil _ _ _ _ _, (pw_below_drewN HB0.out nd).setCell (Nat.le_refl _) _⟩
 | true =>
  have h := (if_pos rfl).symm.trans h
  obtain ⟨ps, hps, h⟩ := Option.bind_eq_some_iff.1 h
  split at h
  rotate_left
  ·cases h
  rename_i hin
  obtain ⟨o, hmade, h⟩ := Option.bind_eq_some_iff.1 h
  obtain ⟨rfl, rfl⟩ : o = r0 ∧ true = r1 := by simpa using h
  have HPS := am hps
  have HIN := am hin
  have HM := am hmade
  clear h hb hps hin hmade
  go_enter Try.func16, Try.ntmps16
  go_wp2_with (go_at_call 87; (with_reducible refine (impl_within.calls a0 1 4 true _ HI.out).mono ?_); rintro e w1 ⟨rfl, nd, rfl⟩)
  obtain ⟨WB, hWB⟩ : ∃ x, x = (w.alloc (.cells #[.slice none 0 0] 28 (0, 0))).drewN nd := ⟨_, rfl⟩
  rw [← hWB]
  have hsz : WB.heap.size = w.heap.size + 1 := by rw [hWB]; simp [World.drewN]
  have HP1 : Aside0 (WB.heap[w.heap.size]? = some (.cells #[.slice none 0 0] 28 (0, 0))) := ⟨by rw [hWB]; exact blk_drewN HP0.out nd⟩
  have HB1 : Aside0 (Below w.heap.size w WB) := ⟨by rw [hWB]; exact pw_below_drewN HB0.out nd⟩
  have HSZ := am hsz
  have HN1 : Aside0 ((WB.alloc (.cells #[] 84 (0, 0))).heap[w.heap.size + 1]? = some (.cells #[] 84 (0, 0))) := ⟨by rw [← hsz]; exact blk_new WB _⟩
  have HN2 : Aside0 (((WB.alloc (.cells #[] 84 (0, 0))).alloc (.cells #[.slice (some ⟨w.heap.size + 1, 0, none⟩) 0 0] 83 (0, 0))).heap[w.heap.size + 1 + 1]? = some (.cells #[.slice (some ⟨w.heap.size + 1, 0, none⟩) 0 0] 83 (0, 0))) := ⟨by have := blk_new (WB.alloc (.cells #[] 84 (0, 0))) (.cells #[.slice (some ⟨w.heap.size + 1, 0, none⟩) 0 0] 83 (0, 0)); rw [show (WB.alloc (.cells #[] 84 (0, 0))).heap.size = w.heap.size + 1 + 1 by simp [hsz]] at this; exact this⟩
  have HN3 : Aside0 (kPr.R 84 ((WB.alloc (.cells #[] 84 (0, 0))).alloc (.cells #[.slice (some ⟨w.heap.size + 1, 0, none⟩) 0 0] 83 (0, 0))) (w.heap.size + 1) (fun k => k ≠ w.heap.size + 1 + 1) (.slice (some ⟨w.heap.size + 1, 0, none⟩) 0 0) []) := ⟨st_zero (Nat.le_refl _) (by omega) (blk_alloc HN1.out _)⟩
  have HN4 : Aside0 (Below (w.heap.size + 1) WB ((WB.alloc (.cells #[] 84 (0, 0))).alloc (.cells #[.slice (some ⟨w.heap.size + 1, 0, none⟩) 0 0] 83 (0, 0)))) := ⟨((Below.refl _ _).alloc (by omega) _).alloc (by simp; omega) _⟩
  clear hsz
  go_loopg [5] k (fun kq v5 w' => ∃ (d : Int) (qs : List (Int × Int)) (A : Option Addr) (c : Nat), v5 = .int .i64 d ∧ Aside0 (stair.l0 a0 kq d qs = some ps) ∧ Aside0 (kq ≤ k) ∧ Aside0 (w'.heap[w.heap.size + 1 + 1]? = some (.cells #[.slice A qs.length c] 83 (0, 0))) ∧ Aside0 (kPr.R 84 w' (w.heap.size + 1) (fun k => k ≠ w.heap.size + 1 + 1) (.slice A qs.length c) qs) ∧ Aside0 (Below (w.heap.size + 1) WB w'))
  case atStart => exact ⟨1, [], _, 0, rfl, HPS, ⟨Nat.le_refl _⟩, HN2, HN3, HN4⟩
  case round =>
   clear HPS HN1 HN2 HN3 HN4
   obtain ⟨d, qs, A, c, rfl, HS, HK, HC, HR, HBW⟩ := hrel
   cases gk with
   | zero => exact absurd HS.out (by simp [stair.l0])
   | succ k1 =>
    have hS := HS.out
    unfold stair.l0 at hS
    by_cases hd : d ≤ a0
    ·rw [if_pos hd] at hS
     have HS1 := am hS
     have d1 : decide (d ≤ a0) = true := decide_eq_true hd
     clear hS HS
     go_wp2_with (fail)
     go_loopg [6] k1 (fun kr v6 w' => ∃ (i : Int) (rs : List (Int × Int)) (A : Option Addr) (c : Nat), v6 = .int .i64 i ∧ Aside0 (stair.l1 a0 kr d i rs = some ps) ∧ Aside0 (kr ≤ k1) ∧ Aside0 (w'.heap[w.heap.size + 1 + 1]? = some (.cells #[.slice A rs.length c] 83 (0, 0))) ∧ Aside0 (kPr.R 84 w' (w.heap.size + 1) (fun k => k ≠ w.heap.size + 1 + 1) (.slice A rs.length c) rs) ∧ Aside0 (Below (w.heap.size + 1) WB w'))
     case atStart => exact ⟨0, qs, A, c, rfl, HS1, ⟨Nat.le_refl _⟩, HC, HR, HBW⟩
     case round =>
      clear HS1 HC HR HBW
      obtain ⟨i, rs, A2, c2, rfl, HS, HK2, HC, HR, HBW⟩ := hrel
      cases gk with
      | zero => exact absurd HS.out (by simp [stair.l1])
      | succ k2 =>
       have hS := HS.out
       unfold stair.l1 at hS
       by_cases hid : wrap64 (i + d) ≤ a0
       ·rw [if_pos hid] at hS
        split at hS
        rotate_left
        ·cases hS
        rename_i hle
        have HLE := am hle
        have HS2 := am hS
        have d2 : decide (wrap64 (i + d) ≤ a0) = true := decide_eq_true hid
        have hcp : wr.cell? ⟨w.heap.size + 1 + 1, 0, none⟩ = some (.slice A2 rs.length c2) := (blk_cell HC.out 0).trans rfl
        have HLT : Aside0 (w.heap.size + 1 + 1 < wr.heap.size) := ⟨blk_lt HC.out⟩
        clear hS HS hle
        go_wp2_with ((with_reducible refine gate_builtin (b := .append) (xs := #[.tmp 24, .tmp 30]) rfl ?_); at_builtin; refine Kd.R_append kPr (w0 := WB) (w.heap.size + 1) rfl (.tmp 24) (.tmp 30) 83 84 (.agg #[.int .i64 0, .int .i64 0]) 16 rfl Try.underlying83 st_info rfl (by show 0 < 2; omega) (by omega) (.slice A2 rs.length c2) rs (i, wrap64 (i + d)) [.int .i64 i, .int .i64 (wrap64 (i + d))] (fun k => k ≠ w.heap.size + 1 + 1) (fun _ => False) rfl rfl ?aP (fun _ hk => hk.elim) ?aF ?aO ?aB ?aS ?aL ?_; (case aP => exact ⟨[.int .i64 i], [.int .i64 (wrap64 (i + d))], rfl, rfl, rfl⟩); (case aF => exact fun k hk => by have := HLT.out; omega); (case aO => exact HR.out); (case aB => exact HBW.out); (case aS => have := HLT.out; omega); (case aL => have := HLE.out; omega); intro v7 w7 hr7 hb7 hg7 hat7; obtain ⟨A7, c7, rfl⟩ := Kd.R_slice hr7; have HV7 := am hr7; have HB7 := am hb7; have hc7 := blk_grown HC.out hg7 (fun e => HR.out.1 _ e.symm rfl); have HC7 := am hc7; have hd7 : w7.cell? ⟨w.heap.size + 1 + 1, 0, none⟩ = some (.slice A2 rs.length c2) := (blk_cell hc7 0).trans rfl; have hf7 := blk_frozen hc7 0; clear hr7 hb7 hg7 hat7 hc7)
        go_roundg k2
        case measure => omega
        case rel =>
         refine ⟨wrap64 (i + 1), rs ++ [(i, wrap64 (i + d))], A7, c7, rfl, HS2, ⟨by have := HK2.out; omega⟩, ⟨blk_put (cs := #[.slice A2 rs.length c2]) HC7.out 0 _ (by rw [List.length_append, List.length_singleton]; rfl)⟩, ⟨Kd.R_far (p := ⟨w.heap.size + 1 + 1, 0, none⟩) HV7.out (fun k hk => hk) _⟩, ⟨HB7.out.setCell (by show w.heap.size + 1 ≤ w.heap.size + 1 + 1; omega) _⟩⟩
       ·rw [if_neg hid] at hS
        have HS2 := am hS
        have d2 : decide (wrap64 (i + d) ≤ a0) = false := decide_eq_false hid
        clear hS HS
        go_wp2_with (fail)
        go_roundg k2
        case measure => have := HK2.out; omega
        case rel => exact ⟨wrap64 (d + 1), rs, A2, c2, rfl, HS2, ⟨by have := HK.out; have := HK2.out; omega⟩, HC, HR, HBW⟩
    ·rw [if_neg hd] at hS
     obtain rfl : qs = ps := Option.some.inj hS
     have d1 : decide (d ≤ a0) = false := decide_eq_false hd
     clear hS HS
     obtain ⟨WR, hWR⟩ : ∃ x, x = wr := ⟨wr, rfl⟩
     subst hWR
     have hcp : WR.cell? ⟨w.heap.size + 1 + 1, 0, none⟩ = some (.slice A qs.length c) := (blk_cell HC.out 0).trans rfl
     obtain ⟨g, c', ev, _⟩ := Kd.R_form HR.out (by have := HIN.out; omega)
     injection ev with e1 e2 e3
     subst e1; subst e3
     clear e2
     have hP : WR.heap[w.heap.size]? = some (.cells #[.slice none 0 0] 28 (0, 0)) := (HBW.out.block _ (by omega)).trans HP1.out
     have HP := am hP
     have HF : Aside0 (∀ (x0_ : Int) (x1_ : Int) (r_ : Bool) (W' : World), (fun j i => lit_staircase.f qs j i) x0_ x1_ = some r_ → Below WR.heap.size WR W' → Calls Try.prog 89 #[.int .i64 x0_, .int .i64 x1_, .pointer (some ⟨w.heap.size + 1 + 1, 0, none⟩)] W' fun e w' => e = .returned (.bool r_) ∧ Drawn0 W' w') :=
      ⟨fun x0_ x1_ r_ W' hF hb => lit_staircase.calls (w.heap.size + 1 + 1) g c qs x0_ x1_ r_ W' _ _ ((blk_cell (blk_below HC.out hb) 0).trans rfl) (Kd.R_below HR.out hb) hF⟩
     clear hP hd
     go_wp2_with (go_at_call 88; (with_reducible refine (made_staircase.calls (fun j i => lit_staircase.f qs j i) (w.heap.size + 1 + 1) k _ o _ HF HM.out).mono ?_); rintro e w3 ⟨v, rfl, ho, hb⟩; obtain ⟨Ao, co, eo⟩ := Kd.R_slice ho; subst eo; have HO := am ho; have HB3 := am hb; have hP3 := blk_below HP.out hb; have HP3 := am hP3; have hc3 : w3.cell? ⟨w.heap.size, 0, none⟩ = some (.slice none 0 0) := (blk_cell hP3 0).trans rfl; have hf3 := blk_frozen hP3 0; clear ho hb hP3)
     have HLT : Aside0 (w.heap.size + 1 + 1 < WR.heap.size) := ⟨blk_lt HC.out⟩
     refine bodyPost_ret (results_ct rfl _ _ w.heap.size 28 #[.slice Ao o.length co] (0, 0) _ rfl (blk_put (cs := #[.slice none 0 0]) HP3.out 0 _ rfl) hu34 rfl (by kernel_rfl)) rfl ⟨_, rfl, ?_, ?_⟩
     ·refine Kd.R_lower (base := WR.heap.size) ?_ (by have := HLT.out; omega)
      exact Kd.R_mono (Kd.R_far (p := ⟨w.heap.size, 0, none⟩) (Kd.R_bound HO.out) (fun k hk => by have := hk.2.1; have := HLT.out; show k ≠ w.heap.size; omega) _) (fun _ _ => trivial)
     ·exact ((HB1.out.trans (HBW.out.mono (by have := HSZ.out; omega))).trans (HB3.out.mono (by have := HLT.out; omega))).setCell (Nat.le_refl _) _
end Go.Proofs.Ytonfifhoklaliaa.F
end
