/- Part 5 of the texts below the row of FnLinearRanked: printed functions with their contracts, and plain lemmas. No condition. -/
import Derived.Test.YtmbojobkiainlaaZFnLinearRanked4
section
namespace Go.Proofs.Ytmbojobkiainlaa.F
open Go.RowKit Go.Proofs.YtmbojobkiainlaaW.PrintWords Go.Proofs.YtmbojobkiainlaaW.PrintLast Go.Proofs.YtmbojobkiainlaaW.PrintMore
attribute [local go_sem] max2_int min2_int max_two min_two max_three min_three max_four min_four
set_option linter.unusedVariables false
set_option linter.unusedSimpArgs false
mutual
def spec_l1Cur_surePoset.l0 : Nat → Int → List (List Int) → Int → List Int → Int → Int → Option (List Int × Int × Int)
 | 0, _, _, _, _, _, _ => none
 | k + 1, x9, x10, x11, x1000, x1001, x1002 => if x11 > 0 then (spec_l1Cur_surePoset.j1 k x9 x10 x11 (decide (x9 > 1)) x1000 x1001 x1002) else (spec_l1Cur_surePoset.j1 k x9 x10 x11 false x1000 x1001 x1002)
def spec_l1Cur_surePoset.j1 : Nat → Int → List (List Int) → Int → Bool → List Int → Int → Int → Option (List Int × Int × Int)
 | 0, _, _, _, _, _, _, _ => none
 | k + 1, x9, x10, x11, x61, x1000, x1001, x1002 => if x61 = true then ((spec_l1Cur_pick.f x1000 x1001 x1002 (wrap64 (x9 - 1))).bind fun bt213 => ((spec_l1Cur_pick.f x1000 bt213.2.1 bt213.2.2 (wrap64 ((wrap64 (x9 - 1)) - bt213.1))).bind fun bt216 => (if x10.length < 5864062014805 then (spec_l1Cur_surePoset.l0 k x9 (x10 ++ [(([bt213.1, wrap64 ((wrap64 (bt213.1 + 1)) + bt216.1)] : List Int))]) (wrap64 (x11 - 1)) x1000 bt216.2.1 bt216.2.2) else (none)))) else ((spec_poFrom.f k x9 x10).bind fun t225 => (some (t225, x1001, x1002)))
end
def spec_l1Cur_surePoset.f (k : Nat) (s0_0 : List Int) (s0_1 : Int) (s0_2 : Int) (a1 : Int) : Option (List Int × Int × Int) := (spec_l1Cur_pick.f s0_0 s0_1 s0_2 5).bind fun bt178 => (if bt178.1 = 0 then ((spec_l1Cur_pick.f s0_0 bt178.2.1 bt178.2.2 2).bind fun bt181 => ((spec_l1Most.f 1 (wrap64 (Int.tdiv a1 2))).bind fun t184 => ((spec_l1Cur_pick.f s0_0 bt181.2.1 bt181.2.2 t184).bind fun bt185 => ((spec_poRectangle.f k (wrap64 (1 + bt181.1)) (wrap64 (1 + bt185.1))).bind fun t188 => (some (t188, bt185.2.1, bt185.2.2)))))) else (if bt178.1 = 1 then ((spec_l1Cur_pick.f s0_0 bt178.2.1 bt178.2.2 2).bind fun bt191 => ((spec_Staircase.f k (wrap64 (1 + bt191.1))).bind fun bt194 => (some (bt194.1, bt191.2.1, bt191.2.2)))) else (if bt178.1 = 2 then ((spec_l1Cur_pick.f s0_0 bt178.2.1 bt178.2.2 a1).bind fun bt199 => ((spec_Fence.f k (wrap64 (1 + bt199.1))).bind fun bt202 => (some (bt202.1, bt199.2.1, bt199.2.2)))) else ((spec_l1Cur_pick.f s0_0 bt178.2.1 bt178.2.2 a1).bind fun bt207 => ((spec_l1Cur_pick.f s0_0 bt207.2.1 bt207.2.2 (wrap64 (2 * (wrap64 (1 + bt207.1))))).bind fun bt210 => (spec_l1Cur_surePoset.l0 k (wrap64 (1 + bt207.1)) ([] : List (List Int)) bt210.1 s0_0 bt210.2.1 bt210.2.2))))))
theorem spec_l1Cur_surePoset.mono_l : ∀ k, (∀ y0 y1 y2 y3 y4 y5, LeO (spec_l1Cur_surePoset.l0 k y0 y1 y2 y3 y4 y5) (spec_l1Cur_surePoset.l0 (k + 1) y0 y1 y2 y3 y4 y5)) ∧ (∀ y0 y1 y2 y3 y4 y5 y6, LeO (spec_l1Cur_surePoset.j1 k y0 y1 y2 y3 y4 y5 y6) (spec_l1Cur_surePoset.j1 (k + 1) y0 y1 y2 y3 y4 y5 y6))
 | 0 => ⟨fun _ _ _ _ _ _ r h => by simp [spec_l1Cur_surePoset.l0] at h, fun _ _ _ _ _ _ _ r h => by simp [spec_l1Cur_surePoset.j1] at h⟩
 | k + 1 => by
  obtain ⟨ih0, ih1⟩ := spec_l1Cur_surePoset.mono_l k
  refine ⟨?_, ?_⟩
  ·intro y0 y1 y2 y3 y4 y5
   unfold spec_l1Cur_surePoset.l0
   repeat' first
   | (with_reducible exact spec_Fence.mono _ _)
   | (with_reducible exact spec_Staircase.mono _ _)
   | (with_reducible exact spec_poFrom.mono _ _ _)
   | (with_reducible exact spec_poRectangle.mono _ _ _)
   | (with_reducible exact LeO.refl _)
   | (with_reducible exact LeO.none _)
   | (with_reducible refine LeO.ite ?_ ?_)
   | (with_reducible refine LeO.bind ?_ (fun _ => ?_))
   | exact ih0 _ _ _ _ _ _
   | exact ih1 _ _ _ _ _ _ _
   | exact spec_Fence.mono _ _
   | exact spec_Staircase.mono _ _
   | exact spec_poFrom.mono _ _ _
   | exact spec_poRectangle.mono _ _ _
   | exact LeO.none _
   | refine LeO.ite ?_ ?_
   | refine LeO.bind ?_ (fun _ => ?_)
  ·intro y0 y1 y2 y3 y4 y5 y6
   unfold spec_l1Cur_surePoset.j1
   repeat' first
   | (with_reducible exact spec_Fence.mono _ _)
   | (with_reducible exact spec_Staircase.mono _ _)
   | (with_reducible exact spec_poFrom.mono _ _ _)
   | (with_reducible exact spec_poRectangle.mono _ _ _)
   | (with_reducible exact LeO.refl _)
   | (with_reducible exact LeO.none _)
   | (with_reducible refine LeO.ite ?_ ?_)
   | (with_reducible refine LeO.bind ?_ (fun _ => ?_))
   | exact ih0 _ _ _ _ _ _
   | exact ih1 _ _ _ _ _ _ _
   | exact spec_Fence.mono _ _
   | exact spec_Staircase.mono _ _
   | exact spec_poFrom.mono _ _ _
   | exact spec_poRectangle.mono _ _ _
   | exact LeO.none _
   | refine LeO.ite ?_ ?_
   | refine LeO.bind ?_ (fun _ => ?_)
theorem spec_l1Cur_surePoset.mono : ∀ a0 a1 a2 a3 k, LeO (spec_l1Cur_surePoset.f k a0 a1 a2 a3) (spec_l1Cur_surePoset.f (k + 1) a0 a1 a2 a3) := by
 intro a0 a1 a2 a3 k
 obtain ⟨ih0, ih1⟩ := spec_l1Cur_surePoset.mono_l k
 unfold spec_l1Cur_surePoset.f
 repeat' first
  | (with_reducible exact spec_Fence.mono _ _)
  | (with_reducible exact spec_Staircase.mono _ _)
  | (with_reducible exact spec_poFrom.mono _ _ _)
  | (with_reducible exact spec_poRectangle.mono _ _ _)
  | (with_reducible exact LeO.refl _)
  | (with_reducible exact LeO.none _)
  | (with_reducible refine LeO.ite ?_ ?_)
  | (with_reducible refine LeO.bind ?_ (fun _ => ?_))
  | exact ih0 _ _ _ _ _ _
  | exact ih1 _ _ _ _ _ _ _
  | exact spec_Fence.mono _ _
  | exact spec_Staircase.mono _ _
  | exact spec_poFrom.mono _ _ _
  | exact spec_poRectangle.mono _ _ _
  | exact LeO.none _
  | refine LeO.ite ?_ ?_
  | refine LeO.bind ?_ (fun _ => ?_)
set_option maxHeartbeats 8000000 in
set_option maxRecDepth 100000 in
theorem spec_l1Cur_surePoset.calls (k : Nat) (g : Nat) (s0_0 : List Int) (s0_1 : Int) (s0_2 : Int) (a1 : Int) (r1 : List Int) (r2 : Int) (r3 : Int) (w0 w : World) (hI : IsS67 w0 w g s0_0 s0_1 s0_2) (hB : Below w0.heap.size w0 w) (h : spec_l1Cur_surePoset.f k s0_0 s0_1 s0_2 a1 = some (r1, r2, r3)) :
 Calls Try.prog 124 #[.pointer (some ⟨g, 0, none⟩), .int .i64 a1] w fun e w' => ∃ v0_ : Value, e = .returned (.agg #[v0_]) ∧ Kd.R (Kd.int .i64) 3 w' w.heap.size (fun _ => True) v0_ r1 ∧ IsS67 w0 w' g s0_0 r2 r3 ∧ Below w0.heap.size w0 w' ∧ KeepBut w w' g none := by
 have hu26 := Try.underlying26
 have HI0 := am hI
 have HK := am (KeepBut.refl w g none)
 have HL := am hB.size
 clear hI
 have HW0 := am hB.size
 have HB := am hB
 clear hB
 have H : ((spec_l1Cur_pick.f s0_0 s0_1 s0_2 5).bind fun bt178 => (if bt178.1 = 0 then ((spec_l1Cur_pick.f s0_0 bt178.2.1 bt178.2.2 2).bind fun bt181 => ((spec_l1Most.f 1 (wrap64 (Int.tdiv a1 2))).bind fun t184 => ((spec_l1Cur_pick.f s0_0 bt181.2.1 bt181.2.2 t184).bind fun bt185 => ((spec_poRectangle.f k (wrap64 (1 + bt181.1)) (wrap64 (1 + bt185.1))).bind fun t188 => (some (t188, bt185.2.1, bt185.2.2)))))) else (if bt178.1 = 1 then ((spec_l1Cur_pick.f s0_0 bt178.2.1 bt178.2.2 2).bind fun bt191 => ((spec_Staircase.f k (wrap64 (1 + bt191.1))).bind fun bt194 => (some (bt194.1, bt191.2.1, bt191.2.2)))) else (if bt178.1 = 2 then ((spec_l1Cur_pick.f s0_0 bt178.2.1 bt178.2.2 a1).bind fun bt199 => ((spec_Fence.f k (wrap64 (1 + bt199.1))).bind fun bt202 => (some (bt202.1, bt199.2.1, bt199.2.2)))) else ((spec_l1Cur_pick.f s0_0 bt178.2.1 bt178.2.2 a1).bind fun bt207 => ((spec_l1Cur_pick.f s0_0 bt207.2.1 bt207.2.2 (wrap64 (2 * (wrap64 (1 + bt207.1))))).bind fun bt210 => (spec_l1Cur_surePoset.l0 k (wrap64 (1 + bt207.1)) ([] : List (List Int)) bt210.1 s0_0 bt210.2.1 bt210.2.2))))))) = some (r1, r2, r3) := h
 clear h
 replace H := Option.bind_eq_some_iff.mp H
 obtain ⟨⟨t178, t179, t180⟩, A30, H⟩ := H
 replace H : (if t178 = 0 then ((spec_l1Cur_pick.f s0_0 t179 t180 2).bind fun bt181 => ((spec_l1Most.f 1 (wrap64 (Int.tdiv a1 2))).bind fun t184 => ((spec_l1Cur_pick.f s0_0 bt181.2.1 bt181.2.2 t184).bind fun bt185 => ((spec_poRectangle.f k (wrap64 (1 + bt181.1)) (wrap64 (1 + bt185.1))).bind fun t188 => (some (t188, bt185.2.1, bt185.2.2)))))) else (if t178 = 1 then ((spec_l1Cur_pick.f s0_0 t179 t180 2).bind fun bt191 => ((spec_Staircase.f k (wrap64 (1 + bt191.1))).bind fun bt194 => (some (bt194.1, bt191.2.1, bt191.2.2)))) else (if t178 = 2 then ((spec_l1Cur_pick.f s0_0 t179 t180 a1).bind fun bt199 => ((spec_Fence.f k (wrap64 (1 + bt199.1))).bind fun bt202 => (some (bt202.1, bt199.2.1, bt199.2.2)))) else ((spec_l1Cur_pick.f s0_0 t179 t180 a1).bind fun bt207 => ((spec_l1Cur_pick.f s0_0 bt207.2.1 bt207.2.2 (wrap64 (2 * (wrap64 (1 + bt207.1))))).bind fun bt210 => (spec_l1Cur_surePoset.l0 k (wrap64 (1 + bt207.1)) ([] : List (List Int)) bt210.1 s0_0 bt210.2.1 bt210.2.2)))))) = some (r1, r2, r3) := H
 have A3 := am A30
 clear A30
 by_cases c4 : t178 = 0
 ·rw [if_pos c4] at H
  have c4b0 : (t178 == 0) = true := beq_iff_eq.mpr c4
  have c4b1 : (t178 != 0) = false := bne_eq_false_iff_eq.mpr c4
  clear c4
  replace H := Option.bind_eq_some_iff.mp H
  obtain ⟨⟨t181, t182, t183⟩, A50, H⟩ := H
  replace H : ((spec_l1Most.f 1 (wrap64 (Int.tdiv a1 2))).bind fun t184 => ((spec_l1Cur_pick.f s0_0 t182 t183 t184).bind fun bt185 => ((spec_poRectangle.f k (wrap64 (1 + t181)) (wrap64 (1 + bt185.1))).bind fun t188 => (some (t188, bt185.2.1, bt185.2.2))))) = some (r1, r2, r3) := H
  have A5 := am A50
  clear A50
  replace H := Option.bind_eq_some_iff.mp H
  obtain ⟨t184, A60, H⟩ := H
  replace H : ((spec_l1Cur_pick.f s0_0 t182 t183 t184).bind fun bt185 => ((spec_poRectangle.f k (wrap64 (1 + t181)) (wrap64 (1 + bt185.1))).bind fun t188 => (some (t188, bt185.2.1, bt185.2.2)))) = some (r1, r2, r3) := H
  have A6 := am A60
  clear A60
  replace H := Option.bind_eq_some_iff.mp H
  obtain ⟨⟨t185, t186, t187⟩, A70, H⟩ := H
  replace H : ((spec_poRectangle.f k (wrap64 (1 + t181)) (wrap64 (1 + t185))).bind fun t188 => (some (t188, t186, t187))) = some (r1, r2, r3) := H
  have A7 := am A70
  clear A70
  replace H := Option.bind_eq_some_iff.mp H
  obtain ⟨t188, A80, H⟩ := H
  replace H : (some (t188, t186, t187)) = some (r1, r2, r3) := H
  have A8 := am A80
  clear A80
  simp only [Option.some.injEq, Prod.mk.injEq] at H
  obtain ⟨rfl, rfl, rfl⟩ := H
  go_enter Try.func124, Try.ntmps124
  go_wp2_with (first | ((with_reducible refine gate_dst (N := 4) rfl ?_); refine qx (N := 4) (cs := #[.slice none 0 0]) (t := 26) ?_; intro gb177 hg w9 hbox hb; have n0_ := am (IsS67.below qI67 hb); have n1_ := am (KeepBut.trans qK (KeepBut.of_below hb g none) (.inl rfl)); have n2_ := am (below_step qB hb); have BK177 := am (hbox); have GW177 := am ((by rw [hg]; exact (keep_size (w := w) (g := g) (row := none) qK) : w.heap.size ≤ gb177)); have GE177 := am ((Nat.le_trans HW0.out (by rw [hg]; exact (keep_size (w := w) (g := g) (row := none) qK) : w.heap.size ≤ gb177) : w0.heap.size ≤ gb177)); have NB0_177 := am ((by rw [hg]; exact Nat.ne_of_lt (IsS67.lt (show IsS67 w0 _ g s0_0 s0_1 s0_2 from qI67)) : g ≠ gb177)); have NB177_0 := am ((by rw [hg]; exact Nat.ne_of_gt (IsS67.lt (show IsS67 w0 _ g s0_0 s0_1 s0_2 from qI67)) : gb177 ≠ g)); clear HI0 HK HB; have HI0 := n0_; have HK := n1_; have HB := n2_; clear n0_ n1_ n2_; clear hb hbox hg) | ((with_reducible refine gate_callee (f := 68) rfl ?_); refine gL (some 14) Try.func68 #[.pointer (some ⟨g, 0, none⟩), .int .i64 5] ?_; (with_reducible refine (spec_l1Cur_pick.calls g s0_0 s0_1 s0_2 5 t178 t179 t180 w0 _ ?side1 ?side2 A3.out).mono ?_); (case side1 => exact qI67); (case side2 => exact qB); rintro e w10 ⟨rfl, hi, hb, hk⟩; refine ⟨_, rfl, ?_⟩; replace BK177 := am (KeepBut.blk hk (g' := gb177) (o := .cells #[.slice none 0 0] 26 (0, 0)) (qb BK177.out) NB177_0.out (by simp)); have n1_ := am (KeepBut.trans qK hk (.inl rfl)); have n2_ := am (hb); replace HI0 := am (hi); clear HK HB; have HK := n1_; have HB := n2_; clear n1_ n2_; (try clear hb); (try clear hb2); (try clear hk); (try clear hi)) | ((with_reducible refine gate_callee (f := 68) rfl ?_); refine gL (some 18) Try.func68 #[.pointer (some ⟨g, 0, none⟩), .int .i64 2] ?_; (with_reducible refine (spec_l1Cur_pick.calls g s0_0 t179 t180 2 t181 t182 t183 w0 _ ?side1 ?side2 A5.out).mono ?_); (case side1 => exact qI67); (case side2 => exact qB); rintro e w11 ⟨rfl, hi, hb, hk⟩; refine ⟨_, rfl, ?_⟩; replace BK177 := am (KeepBut.blk hk (g' := gb177) (o := .cells #[.slice none 0 0] 26 (0, 0)) (qb BK177.out) NB177_0.out (by simp)); have n1_ := am (KeepBut.trans qK hk (.inl rfl)); have n2_ := am (hb); replace HI0 := am (hi); clear HK HB; have HK := n1_; have HB := n2_; clear n1_ n2_; (try clear hb); (try clear hb2); (try clear hk); (try clear hi)) | ((with_reducible refine gate_callee (f := 95) rfl ?_); refine gL (some 23) Try.func95 #[.int .i64 1, .int .i64 (wrap64 (Int.tdiv a1 2))] ?_; (with_reducible refine (spec_l1Most.calls 1 (wrap64 (Int.tdiv a1 2)) t184 _ A6.out).mono ?_); rintro e w' ⟨rfl, ⟨nd, rfl⟩⟩; refine ⟨_, rfl, ?_⟩; (try (rw [drewN_self w11]; generalize hq_ : World.drewN w11 _ = w11; have n0_ : Aside0 (w11.heap[gb177]? = some (.cells #[.slice none 0 0] 26 (0, 0))) := ⟨by rw [← hq_]; exact (qb BK177.out)⟩; have n1_ : Aside0 (IsS67 w0 w11 g s0_0 t182 t183) := ⟨by rw [← hq_]; exact qI67⟩; have n2_ : Aside0 (KeepBut w w11 g none) := ⟨by rw [← hq_]; exact qK⟩; have n3_ : Aside0 (Below w0.heap.size w0 w11) := ⟨by rw [← hq_]; exact qB⟩; clear BK177 HI0 HK HB hq_; have BK177 := n0_; have HI0 := n1_; have HK := n2_; have HB := n3_; clear n0_ n1_ n2_ n3_))) | ((with_reducible refine gate_callee (f := 68) rfl ?_); refine gL (some 24) Try.func68 #[.pointer (some ⟨g, 0, none⟩), .int .i64 t184] ?_; (with_reducible refine (spec_l1Cur_pick.calls g s0_0 t182 t183 t184 t185 t186 t187 w0 _ ?side1 ?side2 A7.out).mono ?_); (case side1 => exact qI67); (case side2 => exact qB); rintro e w12 ⟨rfl, hi, hb, hk⟩; refine ⟨_, rfl, ?_⟩; replace BK177 := am (KeepBut.blk hk (g' := gb177) (o := .cells #[.slice none 0 0] 26 (0, 0)) (qb BK177.out) NB177_0.out (by simp)); have n1_ := am (KeepBut.trans qK hk (.inl rfl)); have n2_ := am (hb); replace HI0 := am (hi); clear HK HB; have HK := n1_; have HB := n2_; clear n1_ n2_; (try clear hb); (try clear hb2); (try clear hk); (try clear hi)) | ((with_reducible refine gate_callee (f := 151) rfl ?_); refine gL (some 26) Try.func151 #[.int .i64 (wrap64 (1 + t181)), .int .i64 (wrap64 (1 + t185))] ?_; (with_reducible refine (spec_poRectangle.calls k (wrap64 (1 + t181)) (wrap64 (1 + t185)) t188 _ A8.out).mono ?_); rintro e w13 ⟨v189, rfl, ho0, hb⟩; refine ⟨_, rfl, ?_⟩; have HO190 := am (Kd.R_lower ho0 (keep_size (w := w) (g := g) (row := none) qK)); have n1_ := am (IsS67.below qI67 hb); replace BK177 := am (blk_below (g := gb177) (o := .cells #[.slice none 0 0] 26 (0, 0)) (qb BK177.out) hb); have n3_ := am (KeepBut.trans qK (KeepBut.of_below hb g none) (.inl rfl)); replace HB := am (below_step qB hb); clear HI0 HK; have HI0 := n1_; have HK := n3_; clear n1_ n3_; (try clear hb); (try clear hb2); (try clear hk); (try clear hi); (try clear ho0); obtain ⟨Ao14, co14, eo14⟩ := Kd.R_slice HO190.out; subst eo14; have hnb15 := NB177_0.out; have hnc15 := NB0_177.out; have hcz16_0 := qz w13 BK177.out; have hfz16_0 := blk_frozen BK177.out 0))
  refine bodyPost_ret (results_cell_row rfl _ _ gb177 26 #[.slice Ao14 t188.length co14] (0, 0) _ rfl (by (with_reducible repeat (first | refine blk_drewN ?_ _ | refine blk_drew ?_ | refine blk_alloc ?_ _)); refine blk_put (cs := #[.slice none 0 0]) ?_ 0 _ rfl; refine qb ?_; exact BK177.out) Try.underlying26 rfl (by kernel_rfl)) rfl ?_
  exact ⟨_, qr, qR (Kd.R_mono (Kd.R_far (p := ⟨gb177, 0, none⟩) (Kd.R_types HO190.out BK177.out (by decide)) (fun _ hk => hk.2) (.slice Ao14 t188.length co14)) (fun _ hk => trivial)), qI67, qB, qK⟩
 ·rw [if_neg c4] at H
  have c4b0 : (t178 == 0) = false := beq_eq_false_iff_ne.mpr c4
  have c4b1 : (t178 != 0) = true := bne_iff_ne.mpr c4
  by_cases c17 : t178 = 1
  ·rw [if_pos c17] at H
   have c17b0 : (t178 == 1) = true := beq_iff_eq.mpr c17
   have c17b1 : (t178 != 1) = false := bne_eq_false_iff_eq.mpr c17
   clear c17
   replace H := Option.bind_eq_some_iff.mp H
   obtain ⟨⟨t191, t192, t193⟩, A180, H⟩ := H
   replace H : ((spec_Staircase.f k (wrap64 (1 + t191))).bind fun bt194 => (some (bt194.1, t192, t193))) = some (r1, r2, r3) := H
   have A18 := am A180
   clear A180
   replace H := Option.bind_eq_some_iff.mp H
   obtain ⟨⟨t194, t197⟩, A190, H⟩ := H
   replace H : (some (t194, t192, t193)) = some (r1, r2, r3) := H
   have A19 := am A190
   clear A190
   simp only [Option.some.injEq, Prod.mk.injEq] at H
   obtain ⟨rfl, rfl, rfl⟩ := H
   go_enter Try.func124, Try.ntmps124
   go_wp2_with (first | ((with_reducible refine gate_dst (N := 4) rfl ?_); refine qx (N := 4) (cs := #[.slice none 0 0]) (t := 26) ?_; intro gb177 hg w20 hbox hb; have n0_ := am (IsS67.below qI67 hb); have n1_ := am (KeepBut.trans qK (KeepBut.of_below hb g none) (.inl rfl)); have n2_ := am (below_step qB hb); have BK177 := am (hbox); have GW177 := am ((by rw [hg]; exact (keep_size (w := w) (g := g) (row := none) qK) : w.heap.size ≤ gb177)); have GE177 := am ((Nat.le_trans HW0.out (by rw [hg]; exact (keep_size (w := w) (g := g) (row := none) qK) : w.heap.size ≤ gb177) : w0.heap.size ≤ gb177)); have NB0_177 := am ((by rw [hg]; exact Nat.ne_of_lt (IsS67.lt (show IsS67 w0 _ g s0_0 s0_1 s0_2 from qI67)) : g ≠ gb177)); have NB177_0 := am ((by rw [hg]; exact Nat.ne_of_gt (IsS67.lt (show IsS67 w0 _ g s0_0 s0_1 s0_2 from qI67)) : gb177 ≠ g)); clear HI0 HK HB; have HI0 := n0_; have HK := n1_; have HB := n2_; clear n0_ n1_ n2_; clear hb hbox hg) | ((with_reducible refine gate_callee (f := 68) rfl ?_); refine gL (some 14) Try.func68 #[.pointer (some ⟨g, 0, none⟩), .int .i64 5] ?_; (with_reducible refine (spec_l1Cur_pick.calls g s0_0 s0_1 s0_2 5 t178 t179 t180 w0 _ ?side1 ?side2 A3.out).mono ?_); (case side1 => exact qI67); (case side2 => exact qB); rintro e w21 ⟨rfl, hi, hb, hk⟩; refine ⟨_, rfl, ?_⟩; replace BK177 := am (KeepBut.blk hk (g' := gb177) (o := .cells #[.slice none 0 0] 26 (0, 0)) (qb BK177.out) NB177_0.out (by simp)); have n1_ := am (KeepBut.trans qK hk (.inl rfl)); have n2_ := am (hb); replace HI0 := am (hi); clear HK HB; have HK := n1_; have HB := n2_; clear n1_ n2_; (try clear hb); (try clear hb2); (try clear hk); (try clear hi)) | ((with_reducible refine gate_callee (f := 68) rfl ?_); refine gL (some 31) Try.func68 #[.pointer (some ⟨g, 0, none⟩), .int .i64 2] ?_; (with_reducible refine (spec_l1Cur_pick.calls g s0_0 t179 t180 2 t191 t192 t193 w0 _ ?side1 ?side2 A18.out).mono ?_); (case side1 => exact qI67); (case side2 => exact qB); rintro e w22 ⟨rfl, hi, hb, hk⟩; refine ⟨_, rfl, ?_⟩; replace BK177 := am (KeepBut.blk hk (g' := gb177) (o := .cells #[.slice none 0 0] 26 (0, 0)) (qb BK177.out) NB177_0.out (by simp)); have n1_ := am (KeepBut.trans qK hk (.inl rfl)); have n2_ := am (hb); replace HI0 := am (hi); clear HK HB; have HK := n1_; have HB := n2_; clear n1_ n2_; (try clear hb); (try clear hb2); (try clear hk); (try clear hi)) | ((with_reducible refine gate_callee (f := 152) rfl ?_); refine gL (some 33) Try.func152 #[.int .i64 (wrap64 (1 + t191))] ?_; (with_reducible refine (spec_Staircase.calls k (wrap64 (1 + t191)) t194 t197 _ A19.out).mono ?_); rintro e w23 ⟨v195, rfl, ho0, hb⟩; refine ⟨_, rfl, ?_⟩; have HO196 := am (Kd.R_lower ho0 (keep_size (w := w) (g := g) (row := none) qK)); have n1_ := am (IsS67.below qI67 hb); replace BK177 := am (blk_below (g := gb177) (o := .cells #[.slice none 0 0] 26 (0, 0)) (qb BK177.out) hb); have n3_ := am (KeepBut.trans qK (KeepBut.of_below hb g none) (.inl rfl)); replace HB := am (below_step qB hb); clear HI0 HK; have HI0 := n1_; have HK := n3_; clear n1_ n3_; (try clear hb); (try clear hb2); (try clear hk); (try clear hi); (try clear ho0)) | ((with_reducible refine gate_dst (N := 5) rfl ?_); refine qx (N := 5) (cs := #[.slice none 0 0]) (t := 26) ?_; intro gb198 hg w24 hbox hb; replace HO196 := am (Kd.R_below (qR HO196.out) hb); have n1_ := am (IsS67.below qI67 hb); have n2_ := am (blk_below (g := gb177) (o := .cells #[.slice none 0 0] 26 (0, 0)) (qb BK177.out) hb); have n3_ := am (KeepBut.trans qK (KeepBut.of_below hb g none) (.inl rfl)); have n4_ := am (below_step qB hb); have BK198 := am (hbox); have GW198 := am ((by rw [hg]; exact (keep_size (w := w) (g := g) (row := none) qK) : w.heap.size ≤ gb198)); have GE198 := am ((Nat.le_trans HW0.out (by rw [hg]; exact (keep_size (w := w) (g := g) (row := none) qK) : w.heap.size ≤ gb198) : w0.heap.size ≤ gb198)); have NB177_198 := am ((by rw [hg]; exact Nat.ne_of_lt (blk_lt (g := gb177) (o := .cells #[.slice none 0 0] 26 (0, 0)) (qb BK177.out)) : gb177 ≠ gb198)); have NB198_177 := am ((by rw [hg]; exact Nat.ne_of_gt (blk_lt (g := gb177) (o := .cells #[.slice none 0 0] 26 (0, 0)) (qb BK177.out)) : gb198 ≠ gb177)); have NB0_198 := am ((by rw [hg]; exact Nat.ne_of_lt (IsS67.lt (show IsS67 w0 _ g s0_0 t192 t193 from qI67)) : g ≠ gb198)); have NB198_0 := am ((by rw [hg]; exact Nat.ne_of_gt (IsS67.lt (show IsS67 w0 _ g s0_0 t192 t193 from qI67)) : gb198 ≠ g)); clear HI0 BK177 HK HB; have HI0 := n1_; have BK177 := n2_; have HK := n3_; have HB := n4_; clear n1_ n2_ n3_ n4_; clear hb hbox hg; obtain ⟨Ao25, co25, eo25⟩ := Kd.R_slice HO196.out; subst eo25; have hnb26 := NB198_177.out; have hnc26 := NB177_198.out; have hnb27 := NB198_0.out; have hnc27 := NB0_198.out; have hcz28_0 := qz w24 BK198.out; have hfz28_0 := blk_frozen BK198.out 0; have hnb29 := NB177_0.out; have hnc29 := NB0_177.out; have hcz30_0 := qz w24 BK177.out; have hfz30_0 := blk_frozen BK177.out 0))
   refine bodyPost_ret (results_cell_row rfl _ _ gb177 26 #[.slice Ao25 t194.length co25] (0, 0) _ rfl (by (with_reducible repeat (first | refine blk_drewN ?_ _ | refine blk_drew ?_ | refine blk_alloc ?_ _)); refine blk_put (cs := #[.slice none 0 0]) ?_ 0 _ rfl; (with_reducible repeat (first | refine blk_drewN ?_ _ | refine blk_drew ?_ | refine blk_alloc ?_ _)); refine blk_far ?_ NB177_198.out _; refine qb ?_; exact BK177.out) Try.underlying26 rfl (by kernel_rfl)) rfl ?_
   exact ⟨_, qr, qR (Kd.R_mono (Kd.R_far (p := ⟨gb177, 0, none⟩) (Kd.R_far (p := ⟨gb198, 0, none⟩) (Kd.R_types (Kd.R_types HO196.out BK198.out (by decide)) BK177.out (by decide)) (fun _ hk => hk.1.2) (.slice Ao25 t194.length co25)) (fun _ hk => hk.2) (.slice Ao25 t194.length co25)) (fun _ hk => trivial)), qI67, qB, qK⟩
  ·rw [if_neg c17] at H
   have c17b0 : (t178 == 1) = false := beq_eq_false_iff_ne.mpr c17
   have c17b1 : (t178 != 1) = true := bne_iff_ne.mpr c17
   by_cases c31 : t178 = 2
   ·rw [if_pos c31] at H
    have c31b0 : (t178 == 2) = true := beq_iff_eq.mpr c31
    have c31b1 : (t178 != 2) = false := bne_eq_false_iff_eq.mpr c31
    clear c31
    replace H := Option.bind_eq_some_iff.mp H
    obtain ⟨⟨t199, t200, t201⟩, A320, H⟩ := H
    replace H : ((spec_Fence.f k (wrap64 (1 + t199))).bind fun bt202 => (some (bt202.1, t200, t201))) = some (r1, r2, r3) := H
    have A32 := am A320
    clear A320
    replace H := Option.bind_eq_some_iff.mp H
    obtain ⟨⟨t202, t205⟩, A330, H⟩ := H
    replace H : (some (t202, t200, t201)) = some (r1, r2, r3) := H
    have A33 := am A330
    clear A330
    simp only [Option.some.injEq, Prod.mk.injEq] at H
    obtain ⟨rfl, rfl, rfl⟩ := H
    go_enter Try.func124, Try.ntmps124
    go_wp2_with (first | ((with_reducible refine gate_dst (N := 4) rfl ?_); refine qx (N := 4) (cs := #[.slice none 0 0]) (t := 26) ?_; intro gb177 hg w34 hbox hb; have n0_ := am (IsS67.below qI67 hb); have n1_ := am (KeepBut.trans qK (KeepBut.of_below hb g none) (.inl rfl)); have n2_ := am (below_step qB hb); have BK177 := am (hbox); have GW177 := am ((by rw [hg]; exact (keep_size (w := w) (g := g) (row := none) qK) : w.heap.size ≤ gb177)); have GE177 := am ((Nat.le_trans HW0.out (by rw [hg]; exact (keep_size (w := w) (g := g) (row := none) qK) : w.heap.size ≤ gb177) : w0.heap.size ≤ gb177)); have NB0_177 := am ((by rw [hg]; exact Nat.ne_of_lt (IsS67.lt (show IsS67 w0 _ g s0_0 s0_1 s0_2 from qI67)) : g ≠ gb177)); have NB177_0 := am ((by rw [hg]; exact Nat.ne_of_gt (IsS67.lt (show IsS67 w0 _ g s0_0 s0_1 s0_2 from qI67)) : gb177 ≠ g)); clear HI0 HK HB; have HI0 := n0_; have HK := n1_; have HB := n2_; clear n0_ n1_ n2_; clear hb hbox hg) | ((with_reducible refine gate_callee (f := 68) rfl ?_); refine gL (some 14) Try.func68 #[.pointer (some ⟨g, 0, none⟩), .int .i64 5] ?_; (with_reducible refine (spec_l1Cur_pick.calls g s0_0 s0_1 s0_2 5 t178 t179 t180 w0 _ ?side1 ?side2 A3.out).mono ?_); (case side1 => exact qI67); (case side2 => exact qB); rintro e w35 ⟨rfl, hi, hb, hk⟩; refine ⟨_, rfl, ?_⟩; replace BK177 := am (KeepBut.blk hk (g' := gb177) (o := .cells #[.slice none 0 0] 26 (0, 0)) (qb BK177.out) NB177_0.out (by simp)); have n1_ := am (KeepBut.trans qK hk (.inl rfl)); have n2_ := am (hb); replace HI0 := am (hi); clear HK HB; have HK := n1_; have HB := n2_; clear n1_ n2_; (try clear hb); (try clear hb2); (try clear hk); (try clear hi)) | ((with_reducible refine gate_callee (f := 68) rfl ?_); refine gL (some 42) Try.func68 #[.pointer (some ⟨g, 0, none⟩), .int .i64 a1] ?_; (with_reducible refine (spec_l1Cur_pick.calls g s0_0 t179 t180 a1 t199 t200 t201 w0 _ ?side1 ?side2 A32.out).mono ?_); (case side1 => exact qI67); (case side2 => exact qB); rintro e w36 ⟨rfl, hi, hb, hk⟩; refine ⟨_, rfl, ?_⟩; replace BK177 := am (KeepBut.blk hk (g' := gb177) (o := .cells #[.slice none 0 0] 26 (0, 0)) (qb BK177.out) NB177_0.out (by simp)); have n1_ := am (KeepBut.trans qK hk (.inl rfl)); have n2_ := am (hb); replace HI0 := am (hi); clear HK HB; have HK := n1_; have HB := n2_; clear n1_ n2_; (try clear hb); (try clear hb2); (try clear hk); (try clear hi)) | ((with_reducible refine gate_callee (f := 153) rfl ?_); refine gL (some 44) Try.func153 #[.int .i64 (wrap64 (1 + t199))] ?_; (with_reducible refine (spec_Fence.calls k (wrap64 (1 + t199)) t202 t205 _ A33.out).mono ?_); rintro e w37 ⟨v203, rfl, ho0, hb⟩; refine ⟨_, rfl, ?_⟩; have HO204 := am (Kd.R_lower ho0 (keep_size (w := w) (g := g) (row := none) qK)); have n1_ := am (IsS67.below qI67 hb); replace BK177 := am (blk_below (g := gb177) (o := .cells #[.slice none 0 0] 26 (0, 0)) (qb BK177.out) hb); have n3_ := am (KeepBut.trans qK (KeepBut.of_below hb g none) (.inl rfl)); replace HB := am (below_step qB hb); clear HI0 HK; have HI0 := n1_; have HK := n3_; clear n1_ n3_; (try clear hb); (try clear hb2); (try clear hk); (try clear hi); (try clear ho0)) | ((with_reducible refine gate_dst (N := 7) rfl ?_); refine qx (N := 7) (cs := #[.slice none 0 0]) (t := 26) ?_; intro gb206 hg w38 hbox hb; replace HO204 := am (Kd.R_below (qR HO204.out) hb); have n1_ := am (IsS67.below qI67 hb); have n2_ := am (blk_below (g := gb177) (o := .cells #[.slice none 0 0] 26 (0, 0)) (qb BK177.out) hb); have n3_ := am (KeepBut.trans qK (KeepBut.of_below hb g none) (.inl rfl)); have n4_ := am (below_step qB hb); have BK206 := am (hbox); have GW206 := am ((by rw [hg]; exact (keep_size (w := w) (g := g) (row := none) qK) : w.heap.size ≤ gb206)); have GE206 := am ((Nat.le_trans HW0.out (by rw [hg]; exact (keep_size (w := w) (g := g) (row := none) qK) : w.heap.size ≤ gb206) : w0.heap.size ≤ gb206)); have NB177_206 := am ((by rw [hg]; exact Nat.ne_of_lt (blk_lt (g := gb177) (o := .cells #[.slice none 0 0] 26 (0, 0)) (qb BK177.out)) : gb177 ≠ gb206)); have NB206_177 := am ((by rw [hg]; exact Nat.ne_of_gt (blk_lt (g := gb177) (o := .cells #[.slice none 0 0] 26 (0, 0)) (qb BK177.out)) : gb206 ≠ gb177)); have NB0_206 := am ((by rw [hg]; exact Nat.ne_of_lt (IsS67.lt (show IsS67 w0 _ g s0_0 t200 t201 from qI67)) : g ≠ gb206)); have NB206_0 := am ((by rw [hg]; exact Nat.ne_of_gt (IsS67.lt (show IsS67 w0 _ g s0_0 t200 t201 from qI67)) : gb206 ≠ g)); clear HI0 BK177 HK HB; have HI0 := n1_; have BK177 := n2_; have HK := n3_; have HB := n4_; clear n1_ n2_ n3_ n4_; clear hb hbox hg; obtain ⟨Ao39, co39, eo39⟩ := Kd.R_slice HO204.out; subst eo39; have hnb40 := NB206_177.out; have hnc40 := NB177_206.out; have hnb41 := NB206_0.out; have hnc41 := NB0_206.out; have hcz42_0 := qz w38 BK206.out; have hfz42_0 := blk_frozen BK206.out 0; have hnb43 := NB177_0.out; have hnc43 := NB0_177.out; have hcz44_0 := qz w38 BK177.out; have hfz44_0 := blk_frozen BK177.out 0))
    refine bodyPost_ret (results_cell_row rfl _ _ gb177 26 #[.slice Ao39 t202.length co39] (0, 0) _ rfl (by (with_reducible repeat (first | refine blk_drewN ?_ _ | refine blk_drew ?_ | refine blk_alloc ?_ _)); refine blk_put (cs := #[.slice none 0 0]) ?_ 0 _ rfl; (with_reducible repeat (first | refine blk_drewN ?_ _ | refine blk_drew ?_ | refine blk_alloc ?_ _)); refine blk_far ?_ NB177_206.out _; refine qb ?_; exact BK177.out) Try.underlying26 rfl (by kernel_rfl)) rfl ?_
    exact ⟨_, qr, qR (Kd.R_mono (Kd.R_far (p := ⟨gb177, 0, none⟩) (Kd.R_far (p := ⟨gb206, 0, none⟩) (Kd.R_types (Kd.R_types HO204.out BK206.out (by decide)) BK177.out (by decide)) (fun _ hk => hk.1.2) (.slice Ao39 t202.length co39)) (fun _ hk => hk.2) (.slice Ao39 t202.length co39)) (fun _ hk => trivial)), qI67, qB, qK⟩
   ·rw [if_neg c31] at H
    have c31b0 : (t178 == 2) = false := beq_eq_false_iff_ne.mpr c31
    have c31b1 : (t178 != 2) = true := bne_iff_ne.mpr c31
    replace H := Option.bind_eq_some_iff.mp H
    obtain ⟨⟨t207, t208, t209⟩, A450, H⟩ := H
    replace H : ((spec_l1Cur_pick.f s0_0 t208 t209 (wrap64 (2 * (wrap64 (1 + t207))))).bind fun bt210 => (spec_l1Cur_surePoset.l0 k (wrap64 (1 + t207)) ([] : List (List Int)) bt210.1 s0_0 bt210.2.1 bt210.2.2)) = some (r1, r2, r3) := H
    have A45 := am A450
    clear A450
    replace H := Option.bind_eq_some_iff.mp H
    obtain ⟨⟨t210, t211, t212⟩, A460, H⟩ := H
    replace H : (spec_l1Cur_surePoset.l0 k (wrap64 (1 + t207)) ([] : List (List Int)) t210 s0_0 t211 t212) = some (r1, r2, r3) := H
    have A46 := am A460
    clear A460
    have H' := am H
    clear H
    go_enter Try.func124, Try.ntmps124
    go_wp2_with (first | ((with_reducible refine gate_dst (N := 4) rfl ?_); refine qx (N := 4) (cs := #[.slice none 0 0]) (t := 26) ?_; intro gb177 hg w47 hbox hb; have n0_ := am (IsS67.below qI67 hb); have n1_ := am (KeepBut.trans qK (KeepBut.of_below hb g none) (.inl rfl)); have n2_ := am (below_step qB hb); have BK177 := am (hbox); have GW177 := am ((by rw [hg]; exact (keep_size (w := w) (g := g) (row := none) qK) : w.heap.size ≤ gb177)); have GE177 := am ((Nat.le_trans HW0.out (by rw [hg]; exact (keep_size (w := w) (g := g) (row := none) qK) : w.heap.size ≤ gb177) : w0.heap.size ≤ gb177)); have NB0_177 := am ((by rw [hg]; exact Nat.ne_of_lt (IsS67.lt (show IsS67 w0 _ g s0_0 s0_1 s0_2 from qI67)) : g ≠ gb177)); have NB177_0 := am ((by rw [hg]; exact Nat.ne_of_gt (IsS67.lt (show IsS67 w0 _ g s0_0 s0_1 s0_2 from qI67)) : gb177 ≠ g)); clear HI0 HK HB; have HI0 := n0_; have HK := n1_; have HB := n2_; clear n0_ n1_ n2_; clear hb hbox hg) | ((with_reducible refine gate_callee (f := 68) rfl ?_); refine gL (some 14) Try.func68 #[.pointer (some ⟨g, 0, none⟩), .int .i64 5] ?_; (with_reducible refine (spec_l1Cur_pick.calls g s0_0 s0_1 s0_2 5 t178 t179 t180 w0 _ ?side1 ?side2 A3.out).mono ?_); (case side1 => exact qI67); (case side2 => exact qB); rintro e w48 ⟨rfl, hi, hb, hk⟩; refine ⟨_, rfl, ?_⟩; replace BK177 := am (KeepBut.blk hk (g' := gb177) (o := .cells #[.slice none 0 0] 26 (0, 0)) (qb BK177.out) NB177_0.out (by simp)); have n1_ := am (KeepBut.trans qK hk (.inl rfl)); have n2_ := am (hb); replace HI0 := am (hi); clear HK HB; have HK := n1_; have HB := n2_; clear n1_ n2_; (try clear hb); (try clear hb2); (try clear hk); (try clear hi)) | ((with_reducible refine gate_callee (f := 68) rfl ?_); refine gL (some 50) Try.func68 #[.pointer (some ⟨g, 0, none⟩), .int .i64 a1] ?_; (with_reducible refine (spec_l1Cur_pick.calls g s0_0 t179 t180 a1 t207 t208 t209 w0 _ ?side1 ?side2 A45.out).mono ?_); (case side1 => exact qI67); (case side2 => exact qB); rintro e w49 ⟨rfl, hi, hb, hk⟩; refine ⟨_, rfl, ?_⟩; replace BK177 := am (KeepBut.blk hk (g' := gb177) (o := .cells #[.slice none 0 0] 26 (0, 0)) (qb BK177.out) NB177_0.out (by simp)); have n1_ := am (KeepBut.trans qK hk (.inl rfl)); have n2_ := am (hb); replace HI0 := am (hi); clear HK HB; have HK := n1_; have HB := n2_; clear n1_ n2_; (try clear hb); (try clear hb2); (try clear hk); (try clear hi)) | ((with_reducible refine gate_callee (f := 68) rfl ?_); refine gL (some 55) Try.func68 #[.pointer (some ⟨g, 0, none⟩), .int .i64 (wrap64 (2 * (wrap64 (1 + t207))))] ?_; (with_reducible refine (spec_l1Cur_pick.calls g s0_0 t208 t209 (wrap64 (2 * (wrap64 (1 + t207)))) t210 t211 t212 w0 _ ?side1 ?side2 A46.out).mono ?_); (case side1 => exact qI67); (case side2 => exact qB); rintro e w50 ⟨rfl, hi, hb, hk⟩; refine ⟨_, rfl, ?_⟩; replace BK177 := am (KeepBut.blk hk (g' := gb177) (o := .cells #[.slice none 0 0] 26 (0, 0)) (qb BK177.out) NB177_0.out (by simp)); have n1_ := am (KeepBut.trans qK hk (.inl rfl)); have n2_ := am (hb); replace HI0 := am (hi); clear HK HB; have HK := n1_; have HB := n2_; clear n1_ n2_; (try clear hb); (try clear hb2); (try clear hk); (try clear hi)))
    go_loopg [10, 11] k (fun kq v10 v11 w' => ∃ (x10_1 : List (List Int)) (x11_1 : Int) (x1001_1 : Int) (x1002_1 : Int), v11 = .int .i64 x11_1 ∧ Aside0 (spec_l1Cur_surePoset.l0 kq (wrap64 (1 + t207)) x10_1 x11_1 s0_0 x1001_1 x1002_1 = some (r1, r2, r3)) ∧ Aside0 (kq ≤ k) ∧ Aside0 (Kd.S (Kd.slice 3 (Kd.int .i64)) 24 w' w.heap.size (fun _ => True) v10 x10_1) ∧ Aside0 (w'.heap[gb177]? = some (.cells #[(.slice none 0 0)] 26 (0, 0))) ∧ Aside0 (IsS67 w0 w' g s0_0 x1001_1 x1002_1) ∧ Aside0 (KeepBut w w' g none) ∧ Aside0 (Below w0.heap.size w0 w'))
    case atStart => exact ⟨(([] : List (List Int))), (t210), (t211), (t212), qe, H', ⟨Nat.le_refl _⟩, ⟨by first | exact Kd.S_nil _ _ _ _ _ | exact Kd.N_nil _ _ _ _ _ | exact Kd.V_nil _ _ _ _ _ | exact Kd.Q_nil _ _ _ _ _ | exact Kd.R_nil _ _ _ _ _⟩, ⟨qb BK177.out⟩, ⟨qI67⟩, ⟨qK⟩, ⟨qB⟩⟩
    case round =>
     clear H'
     try clear c1
     try clear c2
     try clear p2
     try clear c3
     try clear c4
     try clear c4b0
     try clear c4b1
     try clear c6
     try clear p6
     try clear c9
     try clear c12
     try clear c15
     try clear c17
     try clear c17b0
     try clear c17b1
     try clear c26
     try clear c27
     try clear c29
     try clear c31
     try clear c31b0
     try clear c31b1
     try clear c40
     try clear c41
     try clear c43
     try clear hcz16_0
     try clear hcz28_0
     try clear hcz30_0
     try clear hcz42_0
     try clear hcz44_0
     try clear hfz16_0
     try clear hfz28_0
     try clear hfz30_0
     try clear hfz42_0
     try clear hfz44_0
     obtain ⟨x10_1, x11_1, x1001_1, x1002_1, rfl, HA, HK1, HO_10, BK177, HI0, HK, HB⟩ := hrel
     cases gk with
     | zero => exact absurd HA.out (by simp [spec_l1Cur_surePoset.l0])
     | succ k1 =>
      have H := HA.out
      clear HA
      simp only [spec_l1Cur_surePoset.l0] at H
      have HC51 := am H
      clear H
      go_upto_region 13 with (fail)
      go_cut [61] (fun v61 wc => ∃ (kq : Nat) (x61_50 : Bool), v61 = .bool x61_50 ∧ Aside0 (spec_l1Cur_surePoset.j1 kq (wrap64 (1 + t207)) x10_1 x11_1 x61_50 s0_0 x1001_1 x1002_1 = some (r1, r2, r3)) ∧ Aside0 (kq ≤ k1) ∧ Aside0 (Kd.S (Kd.slice 3 (Kd.int .i64)) 24 wc w.heap.size (fun _ => True) u10 x10_1) ∧ Aside0 (wc.heap[gb177]? = some (.cells #[(.slice none 0 0)] 26 (0, 0))) ∧ Aside0 (IsS67 w0 wc g s0_0 x1001_1 x1002_1) ∧ Aside0 (KeepBut w wc g none) ∧ Aside0 (Below w0.heap.size w0 wc))
      case first =>
       have H := HC51.out
       clear HC51
       by_cases c52 : x11_1 > 0
       ·rw [if_pos c52] at H
        have c52b0 : decide (0 < x11_1) = true := decide_eq_true c52
        clear c52
        (first | rw [c52b0] | (simp only [i64_w, i32_w]; rw [c52b0]) | skip)
        have H' := am H
        clear H
        go_wp2
        go_meet
        case rel => exact ⟨_, (decide ((wrap64 (1 + t207)) > 1)), qe, H', ⟨by have := HK1.out; first | omega | exact Nat.le_refl _⟩, ⟨qS HO_10.out⟩, ⟨qb BK177.out⟩, ⟨qI67⟩, ⟨qK⟩, ⟨qB⟩⟩
       ·rw [if_neg c52] at H
        have c52b0 : decide (0 < x11_1) = false := decide_eq_false c52
        clear c52
        (first | rw [c52b0] | (simp only [i64_w, i32_w]; rw [c52b0]) | skip)
        have H' := am H
        clear H
        go_wp2
        go_meet
        case rel => exact ⟨_, (false), qe, H', ⟨by have := HK1.out; first | omega | exact Nat.le_refl _⟩, ⟨qS HO_10.out⟩, ⟨qb BK177.out⟩, ⟨qI67⟩, ⟨qK⟩, ⟨qB⟩⟩
      case rest =>
       clear HC51
       try clear c1
       try clear c2
       try clear p2
       try clear c3
       try clear c4
       try clear c4b0
       try clear c4b1
       try clear c5
       try clear c6
       try clear p6
       try clear c9
       try clear c12
       try clear c15
       try clear c17
       try clear c17b0
       try clear c17b1
       try clear c26
       try clear c27
       try clear c29
       try clear c31
       try clear c31b0
       try clear c31b1
       try clear c40
       try clear c41
       try clear c43
       try clear c52
       try clear c52b0
       try clear hcz16_0
       try clear hcz28_0
       try clear hcz30_0
       try clear hcz42_0
       try clear hcz44_0
       try clear hfz16_0
       try clear hfz28_0
       try clear hfz30_0
       try clear hfz42_0
       try clear hfz44_0
       try clear p2
       try clear p6
       obtain ⟨kq, x61_50, rfl, HA, HJ50, HO_10, BK177, HI0, HK, HB⟩ := hcut
       cases kq with
       | zero => exact absurd HA.out (by simp [spec_l1Cur_surePoset.j1])
       | succ kj50 =>
        have H := HA.out
        clear HA
        simp only [spec_l1Cur_surePoset.j1] at H
        by_cases c53 : x61_50 = true
        ·subst c53
         have H1 : ((spec_l1Cur_pick.f s0_0 x1001_1 x1002_1 (wrap64 ((wrap64 (1 + t207)) - 1))).bind fun bt213 => ((spec_l1Cur_pick.f s0_0 bt213.2.1 bt213.2.2 (wrap64 ((wrap64 ((wrap64 (1 + t207)) - 1)) - bt213.1))).bind fun bt216 => (if x10_1.length < 5864062014805 then (spec_l1Cur_surePoset.l0 kj50 (wrap64 (1 + t207)) (x10_1 ++ [(([bt213.1, wrap64 ((wrap64 (bt213.1 + 1)) + bt216.1)] : List Int))]) (wrap64 (x11_1 - 1)) s0_0 bt216.2.1 bt216.2.2) else (none)))) = some (r1, r2, r3) := by rw [if_pos rfl] at H; exact H
         clear H
         have H := H1
         clear H1
         replace H := Option.bind_eq_some_iff.mp H
         obtain ⟨⟨t213, t214, t215⟩, A540, H⟩ := H
         replace H : ((spec_l1Cur_pick.f s0_0 t214 t215 (wrap64 ((wrap64 ((wrap64 (1 + t207)) - 1)) - t213))).bind fun bt216 => (if x10_1.length < 5864062014805 then (spec_l1Cur_surePoset.l0 kj50 (wrap64 (1 + t207)) (x10_1 ++ [(([t213, wrap64 ((wrap64 (t213 + 1)) + bt216.1)] : List Int))]) (wrap64 (x11_1 - 1)) s0_0 bt216.2.1 bt216.2.2) else (none))) = some (r1, r2, r3) := H
         have A54 := am A540
         clear A540
         replace H := Option.bind_eq_some_iff.mp H
         obtain ⟨⟨t216, t217, t218⟩, A550, H⟩ := H
         replace H : (if x10_1.length < 5864062014805 then (spec_l1Cur_surePoset.l0 kj50 (wrap64 (1 + t207)) (x10_1 ++ [(([t213, wrap64 ((wrap64 (t213 + 1)) + t216)] : List Int))]) (wrap64 (x11_1 - 1)) s0_0 t217 t218) else (none)) = some (r1, r2, r3) := H
         have A55 := am A550
         clear A550
         obtain ⟨y219, hy219⟩ : ∃ y_ : List Int, y_ = (([t213, wrap64 ((wrap64 (t213 + 1)) + t216)] : List Int)) := ⟨_, rfl⟩
         replace H : (if x10_1.length < 5864062014805 then (spec_l1Cur_surePoset.l0 kj50 (wrap64 (1 + t207)) (x10_1 ++ [y219]) (wrap64 (x11_1 - 1)) s0_0 t217 t218) else (none)) = some (r1, r2, r3) := by first | (rw [hy219]; with_reducible exact H) | (have H2_ := (Option.bind_some _ _).symm.trans H; rw [hy219]; with_reducible exact H2_) | (have H2_ := (Option.bind_some _ _).symm.trans H; with_reducible exact H2_) | with_reducible exact H | (rw [hy219]; exact H) | exact H
         have Ny219 := am hy219
         clear hy219
         by_cases c56 : x10_1.length < 5864062014805
         rotate_left
         ·rw [if_neg c56] at H
          exact absurd H (by simp)
         rw [if_pos c56] at H
         have LMc56 := am c56
         clear c56
         obtain ⟨y222, hy222⟩ : ∃ y_ : List (List Int), y_ = (x10_1 ++ [y219]) := ⟨_, rfl⟩
         replace H : (spec_l1Cur_surePoset.l0 kj50 (wrap64 (1 + t207)) y222 (wrap64 (x11_1 - 1)) s0_0 t217 t218) = some (r1, r2, r3) := by first | (rw [hy222]; with_reducible exact H) | (have H2_ := (Option.bind_some _ _).symm.trans H; rw [hy222]; with_reducible exact H2_) | (have H2_ := (Option.bind_some _ _).symm.trans H; with_reducible exact H2_) | with_reducible exact H | (rw [hy222]; exact H) | exact H
         have Ny222 := am hy222
         clear hy222
         have H' := am H
         clear H
         go_wp2_with (first | ((with_reducible refine gate_callee (f := 68) rfl ?_); refine gL (some 67) Try.func68 #[.pointer (some ⟨g, 0, none⟩), .int .i64 (wrap64 ((wrap64 (1 + t207)) - 1))] ?_; (with_reducible refine (spec_l1Cur_pick.calls g s0_0 x1001_1 x1002_1 (wrap64 ((wrap64 (1 + t207)) - 1)) t213 t214 t215 w0 _ ?side1 ?side2 A54.out).mono ?_); (case side1 => exact qI67); (case side2 => exact qB); rintro e w57 ⟨rfl, hi, hb, hk⟩; refine ⟨_, rfl, ?_⟩; replace HO_10 := am (Kd.S_mono (Kd.S_keep (IsS67.apartS (show IsS67 w0 _ g s0_0 x1001_1 x1002_1 from qI67) (qS HO_10.out) (by decide)) hk (fun _ h => h.2)) (fun _ h => h.1)); replace BK177 := am (KeepBut.blk hk (g' := gb177) (o := .cells #[.slice none 0 0] 26 (0, 0)) (qb BK177.out) NB177_0.out (by simp)); have n2_ := am (KeepBut.trans qK hk (.inl rfl)); have n3_ := am (hb); replace HI0 := am (hi); clear HK HB; have HK := n2_; have HB := n3_; clear n2_ n3_; (try clear hb); (try clear hb2); (try clear hk); (try clear hi)) | ((with_reducible refine gate_callee (f := 68) rfl ?_); refine gL (some 77) Try.func68 #[.pointer (some ⟨g, 0, none⟩), .int .i64 (wrap64 ((wrap64 ((wrap64 (1 + t207)) - 1)) - t213))] ?_; (with_reducible refine (spec_l1Cur_pick.calls g s0_0 t214 t215 (wrap64 ((wrap64 ((wrap64 (1 + t207)) - 1)) - t213)) t216 t217 t218 w0 _ ?side1 ?side2 A55.out).mono ?_); (case side1 => exact qI67); (case side2 => exact qB); rintro e w58 ⟨rfl, hi, hb, hk⟩; refine ⟨_, rfl, ?_⟩; replace HO_10 := am (Kd.S_mono (Kd.S_keep (IsS67.apartS (show IsS67 w0 _ g s0_0 t214 t215 from qI67) (qS HO_10.out) (by decide)) hk (fun _ h => h.2)) (fun _ h => h.1)); replace BK177 := am (KeepBut.blk hk (g' := gb177) (o := .cells #[.slice none 0 0] 26 (0, 0)) (qb BK177.out) NB177_0.out (by simp)); have n2_ := am (KeepBut.trans qK hk (.inl rfl)); have n3_ := am (hb); replace HI0 := am (hi); clear HK HB; have HK := n2_; have HB := n3_; clear n2_ n3_; (try clear hb); (try clear hb2); (try clear hk); (try clear hi)) | ((with_reducible refine gate_dst (N := 79) rfl ?_); refine Kd.R_lit (Kd.int .i64) _ 3 ?hg (N := 79) ?hd (xs := ([t213, wrap64 ((wrap64 (t213 + 1)) + t216)] : List Int)) (inner := [.int .i64 t213, .int .i64 (wrap64 ((wrap64 (t213 + 1)) + t216))]) (ok := fun _ => True) (okp := fun _ => True) ?hr ?hp (fun _ hk => hk) trivial (Below.refl _ _) (Nat.le_refl _) (by simp) ?_; (case hd => rfl); (case hg => rfl); (case hr => first | (go_simp; done) | (go_simp; rfl)); (case hp => exact (Reps.one (show Kd.M (Kd.int .i64) _ _ _ t213 [.int .i64 t213] from rfl) (Reps.one (show Kd.M (Kd.int .i64) _ _ _ (wrap64 ((wrap64 (t213 + 1)) + t216)) [.int .i64 (wrap64 ((wrap64 (t213 + 1)) + t216))] from rfl) (Reps.none _ _)))); intro v220 w59 ho60 hb hg_ hnew_; clear hg_ hnew_; (first | rw [← Ny219.out] at ho60 | (simp only [Int.reduceToNat] at ho60; rw [← Ny219.out] at ho60)); replace HO_10 := am (Kd.S_elder' (qS HO_10.out) (Kd.R_base ho60) hb); have HO221 := am (Kd.R_lower ho60 (keep_size (w := w) (g := g) (row := none) qK)); replace BK177 := am (blk_below (g := gb177) (o := .cells #[.slice none 0 0] 26 (0, 0)) (qb BK177.out) hb); have n3_ := am (IsS67.below qI67 hb); have n4_ := am (KeepBut.trans qK (KeepBut.of_below hb g none) (.inl rfl)); replace HB := am (below_step qB hb); clear HI0 HK; have HI0 := n3_; have HK := n4_; clear n3_ n4_; clear hb ho60; obtain ⟨Ao62, co62, eo62⟩ := Kd.R_slice HO221.out; subst eo62) | ((with_reducible refine gate_builtin (b := .append) (xs := #[.tmp 68, .tmp 80]) rfl ?_); at_builtin; refine Kd.S_append (Kd.slice 3 (Kd.int .i64)) w.heap.size rfl (.tmp 68) (.tmp 80) 58 24 (.slice none 0 0) 24 rfl Try.underlying58 info24 rfl (by decide) (by omega) u10 x10_1 y219 [.slice Ao62 y219.length co62] (fun _ => True) (fun k_ => some k_ = (.slice Ao62 y219.length co62 : Value).ownBlock) rfl rfl ?aP (fun k_ hk_ => ((Kd.R_mono (ok' := fun k_ => ((fun _ => True)) k_ ∧ some k_ ≠ (u10 : Value).ownBlock) (Kd.R_apart' (HO221.out) (Kd.S_typed HO_10.out) (by decide)) (fun k_ hk => ⟨trivial, hk.2⟩))).1 k_ hk_.symm) ?aF ?aO (Below.refl _ _) ?aS ?aL ?_; (case aP => exact Kd.M_row (Kd.R_mono (Kd.R_tight rfl (Kd.R_mono (ok' := fun k_ => ((fun _ => True)) k_ ∧ some k_ ≠ (u10 : Value).ownBlock) (Kd.R_apart' (HO221.out) (Kd.S_typed HO_10.out) (by decide)) (fun k_ hk => ⟨trivial, hk.2⟩))) (fun _ h_ => h_))); (case aF => exact (fun _ _ => trivial)); (case aO => exact (qS (Kd.S_mono HO_10.out (fun k_ hk => ⟨trivial, fun e_ => hk.2 e_⟩)))); (case aS => exact (keep_size (w := w) (g := g) (row := none) qK)); (case aL => have := LMc56.out; omega); intro v223 w61 ho hb hg hat; rw [← Ny222.out] at ho; replace BK177 := am (blk_grown (g := gb177) (o := .cells #[.slice none 0 0] 26 (0, 0)) (qb BK177.out) hg (Kd.S_ne HO_10.out BK177.out (by decide))); have n1_ := am (IsS67.grown qI67 hg (IsS67.own_neS HI0.out HO_10.out (by decide))); have n2_ := am (below_weaken qB HL.out hb); have n3_ := am (KeepBut.trans qK (KeepBut.of_grown hg g) (Kd.S_base2 HO_10.out)); have HO224 := am (ho); clear HI0 HB HK HO_10 HO221; have HI0 := n1_; have HB := n2_; have HK := n3_; clear n1_ n2_ n3_; clear ho hb hg hat))
         go_roundg kj50
         case measure => have := HK1.out; have := HJ50.out; omega
         case rel => exact ⟨(y222), (wrap64 (x11_1 - 1)), (t217), (t218), qe, H', ⟨by have := HK1.out; have := HJ50.out; omega⟩, ⟨qS HO224.out⟩, ⟨qb BK177.out⟩, ⟨qI67⟩, ⟨qK⟩, ⟨qB⟩⟩
        ·replace c53 := Bool.eq_false_iff.mpr c53
         subst c53
         have H1 : ((spec_poFrom.f kj50 (wrap64 (1 + t207)) x10_1).bind fun t225 => (some (t225, x1001_1, x1002_1))) = some (r1, r2, r3) := by rw [if_neg (show ¬ (false = true) by decide)] at H; exact H
         clear H
         have H := H1
         clear H1
         replace H := Option.bind_eq_some_iff.mp H
         obtain ⟨t225, A630, H⟩ := H
         replace H : (some (t225, x1001_1, x1002_1)) = some (r1, r2, r3) := H
         have A63 := am A630
         clear A630
         simp only [Option.some.injEq, Prod.mk.injEq] at H
         obtain ⟨rfl, rfl, rfl⟩ := H
         obtain ⟨Ao64, co64, eo64⟩ := Kd.S_slice HO_10.out
         subst eo64
         go_wp2_with (first | ((with_reducible refine gate_callee (f := 154) rfl ?_); refine gL (some 84) Try.func154 #[.int .i64 (wrap64 (1 + t207)), .slice Ao64 x10_1.length co64] ?_; (with_reducible refine (spec_poFrom.calls kj50 (wrap64 (1 + t207)) _ _ x10_1 t225 _ ?side1 ?side2 A63.out).mono ?_); (case side1 => exact qC (Kd.S_reads' HO_10.out).2.2); (case side2 => exact (Kd.S_reads' HO_10.out).2.1); rintro e w65 ⟨v226, rfl, ho0, hb⟩; refine ⟨_, rfl, ?_⟩; replace HO_10 := am (Kd.S_elder' (qS HO_10.out) (Kd.R_base ho0) hb); have HO227 := am (Kd.R_lower ho0 (keep_size (w := w) (g := g) (row := none) qK)); replace BK177 := am (blk_below (g := gb177) (o := .cells #[.slice none 0 0] 26 (0, 0)) (qb BK177.out) hb); have n3_ := am (IsS67.below qI67 hb); have n4_ := am (KeepBut.trans qK (KeepBut.of_below hb g none) (.inl rfl)); replace HB := am (below_step qB hb); clear HI0 HK; have HI0 := n3_; have HK := n4_; clear n3_ n4_; (try clear hb); (try clear hb2); (try clear hk); (try clear hi); (try clear ho0); obtain ⟨Ao66, co66, eo66⟩ := Kd.R_slice HO227.out; subst eo66; have hnb67 := NB177_0.out; have hnc67 := NB0_177.out; have hcz68_0 := qz w65 BK177.out; have hfz68_0 := blk_frozen BK177.out 0))
         refine bodyPost_ret (results_cell_row rfl _ _ gb177 26 #[.slice Ao66 t225.length co66] (0, 0) _ rfl (by (with_reducible repeat (first | refine blk_drewN ?_ _ | refine blk_drew ?_ | refine blk_alloc ?_ _)); refine blk_put (cs := #[.slice none 0 0]) ?_ 0 _ rfl; refine qb ?_; exact BK177.out) Try.underlying26 rfl (by kernel_rfl)) rfl ?_
         exact ⟨_, qr, qR (Kd.R_mono (Kd.R_far (p := ⟨gb177, 0, none⟩) (Kd.R_types HO227.out BK177.out (by decide)) (fun _ hk => hk.2) (.slice Ao66 t225.length co66)) (fun _ hk => trivial)), qI67, qB, qK⟩
def spec_l1Cur_poset.l0 : Nat → Int → List Int → Int → Int → List Int → Option (List Int × Int × Int)
 | 0, _, _, _, _, _ => none
 | k + 1, x7, x1000, x1001, x1002, x241000 => if x7 < 11 then (if x241000.length < 17592186044416 then (spec_l1Cur_poset.l0 k (wrap64 (x7 + 1)) x1000 x1001 x1002 (x241000 ++ [0])) else (none)) else (some (x241000, x1001, x1002))
def spec_l1Cur_poset.f (k : Nat) (s0_0 : List Int) (s0_1 : Int) (s0_2 : Int) (a1 : Int) : Option (List Int × Int × Int) := (spec_l1Cur_surePoset.f k s0_0 s0_1 s0_2 a1).bind fun bt235 => ((spec_l1Own.f bt235.1).bind fun t241 => ((spec_l1Cur_pick.f s0_0 bt235.2.1 bt235.2.2 20).bind fun bt244 => (if bt244.1 = 0 then ((spec_l1Cur_pick.f s0_0 bt244.2.1 bt244.2.2 (t241.length : Int)).bind fun bt247 => (if 0 ≤ bt247.1 then ((spec_l1Cur_among.f s0_0 bt247.2.1 bt247.2.2 (([(-1), 1, 3, shl .i64 1 bt247.1, 4611686018427387904] : List Int))).bind fun bt253 => (if bt247.1 < (t241.length : Int) then (some ((t241.set (bt247.1 : Int).toNat bt253.1), bt253.2.1, bt253.2.2)) else (none))) else (none))) else (if bt244.1 = 1 then (some (([] : List Int), bt244.2.1, bt244.2.2)) else (if bt244.1 = 2 then (spec_l1Cur_poset.l0 k 0 s0_0 bt244.2.1 bt244.2.2 t241) else (some (t241, bt244.2.1, bt244.2.2)))))))
theorem spec_l1Cur_poset.mono_l : ∀ k, (∀ y0 y1 y2 y3 y4, LeO (spec_l1Cur_poset.l0 k y0 y1 y2 y3 y4) (spec_l1Cur_poset.l0 (k + 1) y0 y1 y2 y3 y4))
 | 0 => fun _ _ _ _ _ r h => by simp [spec_l1Cur_poset.l0] at h
 | k + 1 => by
  have ih0 := spec_l1Cur_poset.mono_l k
  ·intro y0 y1 y2 y3 y4
   unfold spec_l1Cur_poset.l0
   repeat' first
   | (with_reducible exact spec_l1Cur_surePoset.mono _ _ _ _ _)
   | (with_reducible exact LeO.refl _)
   | (with_reducible exact LeO.none _)
   | (with_reducible refine LeO.ite ?_ ?_)
   | (with_reducible refine LeO.bind ?_ (fun _ => ?_))
   | exact ih0 _ _ _ _ _
   | exact spec_l1Cur_surePoset.mono _ _ _ _ _
   | exact LeO.none _
   | refine LeO.ite ?_ ?_
   | refine LeO.bind ?_ (fun _ => ?_)
theorem spec_l1Cur_poset.mono : ∀ a0 a1 a2 a3 k, LeO (spec_l1Cur_poset.f k a0 a1 a2 a3) (spec_l1Cur_poset.f (k + 1) a0 a1 a2 a3) := by
 intro a0 a1 a2 a3 k
 have ih0 := spec_l1Cur_poset.mono_l k
 unfold spec_l1Cur_poset.f
 repeat' first
  | (with_reducible exact spec_l1Cur_surePoset.mono _ _ _ _ _)
  | (with_reducible exact LeO.refl _)
  | (with_reducible exact LeO.none _)
  | (with_reducible refine LeO.ite ?_ ?_)
  | (with_reducible refine LeO.bind ?_ (fun _ => ?_))
  | exact ih0 _ _ _ _ _
  | exact spec_l1Cur_surePoset.mono _ _ _ _ _
  | exact LeO.none _
  | refine LeO.ite ?_ ?_
  | refine LeO.bind ?_ (fun _ => ?_)
def spec_l1Cur_poset.T6 : Bool × List (List Nat × List Nat) := (true, [([], []), ([0], [0]), ([], []), ([], []), ([], []), ([4], [4]), ([5], [5]), ([3, 6], [3, 6]), ([1, 2, 0, 1, 2, 3, 4, 5, 6, 7], [1, 2]), ([8, 7, 7, 0, 1, 2, 3, 4, 5, 6, 7], [7, 8])])
def spec_l1Cur_poset.B6 : List Nat := [0, 1, 0, 0, 0, 16, 48, 120, 255, 511]
theorem spec_l1Cur_poset.tab6 : rtab .any (opsOf Try.f64 6) = spec_l1Cur_poset.T6 := by kernel_rfl
theorem spec_l1Cur_poset.bits6 : waitsOk spec_l1Cur_poset.T6.2 spec_l1Cur_poset.B6 = true := by kernel_rfl
set_option maxHeartbeats 8000000 in
set_option maxRecDepth 100000 in
theorem spec_l1Cur_poset.calls (k : Nat) (g : Nat) (s0_0 : List Int) (s0_1 : Int) (s0_2 : Int) (a1 : Int) (r1 : List Int) (r2 : Int) (r3 : Int) (w0 w : World) (hI : IsS67 w0 w g s0_0 s0_1 s0_2) (hB : Below w0.heap.size w0 w) (h : spec_l1Cur_poset.f k s0_0 s0_1 s0_2 a1 = some (r1, r2, r3)) :
 Calls Try.prog 64 #[.pointer (some ⟨g, 0, none⟩), .int .i64 a1] w fun e w' => ∃ v0_ : Value, e = .returned (.agg #[v0_]) ∧ Kd.R (Kd.int .i64) 3 w' w.heap.size (fun _ => True) v0_ r1 ∧ IsS67 w0 w' g s0_0 r2 r3 ∧ Below w0.heap.size w0 w' ∧ KeepBut w w' g none := by
 have hu26 := Try.underlying26
 have HI0 := am hI
 have HK := am (KeepBut.refl w g none)
 have HL := am hB.size
 clear hI
 have HW0 := am hB.size
 have HB := am hB
 clear hB
 have H : ((spec_l1Cur_surePoset.f k s0_0 s0_1 s0_2 a1).bind fun bt235 => ((spec_l1Own.f bt235.1).bind fun t241 => ((spec_l1Cur_pick.f s0_0 bt235.2.1 bt235.2.2 20).bind fun bt244 => (if bt244.1 = 0 then ((spec_l1Cur_pick.f s0_0 bt244.2.1 bt244.2.2 (t241.length : Int)).bind fun bt247 => (if 0 ≤ bt247.1 then ((spec_l1Cur_among.f s0_0 bt247.2.1 bt247.2.2 (([(-1), 1, 3, shl .i64 1 bt247.1, 4611686018427387904] : List Int))).bind fun bt253 => (if bt247.1 < (t241.length : Int) then (some ((t241.set (bt247.1 : Int).toNat bt253.1), bt253.2.1, bt253.2.2)) else (none))) else (none))) else (if bt244.1 = 1 then (some (([] : List Int), bt244.2.1, bt244.2.2)) else (if bt244.1 = 2 then (spec_l1Cur_poset.l0 k 0 s0_0 bt244.2.1 bt244.2.2 t241) else (some (t241, bt244.2.1, bt244.2.2)))))))) = some (r1, r2, r3) := h
 clear h
 replace H := Option.bind_eq_some_iff.mp H
 obtain ⟨⟨t235, t238, t239⟩, A30, H⟩ := H
 replace H : ((spec_l1Own.f t235).bind fun t241 => ((spec_l1Cur_pick.f s0_0 t238 t239 20).bind fun bt244 => (if bt244.1 = 0 then ((spec_l1Cur_pick.f s0_0 bt244.2.1 bt244.2.2 (t241.length : Int)).bind fun bt247 => (if 0 ≤ bt247.1 then ((spec_l1Cur_among.f s0_0 bt247.2.1 bt247.2.2 (([(-1), 1, 3, shl .i64 1 bt247.1, 4611686018427387904] : List Int))).bind fun bt253 => (if bt247.1 < (t241.length : Int) then (some ((t241.set (bt247.1 : Int).toNat bt253.1), bt253.2.1, bt253.2.2)) else (none))) else (none))) else (if bt244.1 = 1 then (some (([] : List Int), bt244.2.1, bt244.2.2)) else (if bt244.1 = 2 then (spec_l1Cur_poset.l0 k 0 s0_0 bt244.2.1 bt244.2.2 t241) else (some (t241, bt244.2.1, bt244.2.2))))))) = some (r1, r2, r3) := H
 have A3 := am A30
 clear A30
 replace H := Option.bind_eq_some_iff.mp H
 obtain ⟨t241, A40, H⟩ := H
 replace H : ((spec_l1Cur_pick.f s0_0 t238 t239 20).bind fun bt244 => (if bt244.1 = 0 then ((spec_l1Cur_pick.f s0_0 bt244.2.1 bt244.2.2 (t241.length : Int)).bind fun bt247 => (if 0 ≤ bt247.1 then ((spec_l1Cur_among.f s0_0 bt247.2.1 bt247.2.2 (([(-1), 1, 3, shl .i64 1 bt247.1, 4611686018427387904] : List Int))).bind fun bt253 => (if bt247.1 < (t241.length : Int) then (some ((t241.set (bt247.1 : Int).toNat bt253.1), bt253.2.1, bt253.2.2)) else (none))) else (none))) else (if bt244.1 = 1 then (some (([] : List Int), bt244.2.1, bt244.2.2)) else (if bt244.1 = 2 then (spec_l1Cur_poset.l0 k 0 s0_0 bt244.2.1 bt244.2.2 t241) else (some (t241, bt244.2.1, bt244.2.2)))))) = some (r1, r2, r3) := H
 have A4 := am A40
 clear A40
 replace H := Option.bind_eq_some_iff.mp H
 obtain ⟨⟨t244, t245, t246⟩, A50, H⟩ := H
 replace H : (if t244 = 0 then ((spec_l1Cur_pick.f s0_0 t245 t246 (t241.length : Int)).bind fun bt247 => (if 0 ≤ bt247.1 then ((spec_l1Cur_among.f s0_0 bt247.2.1 bt247.2.2 (([(-1), 1, 3, shl .i64 1 bt247.1, 4611686018427387904] : List Int))).bind fun bt253 => (if bt247.1 < (t241.length : Int) then (some ((t241.set (bt247.1 : Int).toNat bt253.1), bt253.2.1, bt253.2.2)) else (none))) else (none))) else (if t244 = 1 then (some (([] : List Int), t245, t246)) else (if t244 = 2 then (spec_l1Cur_poset.l0 k 0 s0_0 t245 t246 t241) else (some (t241, t245, t246))))) = some (r1, r2, r3) := H
 have A5 := am A50
 clear A50
 by_cases c6 : t244 = 0
 ·rw [if_pos c6] at H
  have c6b0 : (t244 == 0) = true := beq_iff_eq.mpr c6
  have c6b1 : (t244 != 0) = false := bne_eq_false_iff_eq.mpr c6
  clear c6
  replace H := Option.bind_eq_some_iff.mp H
  obtain ⟨⟨t247, t248, t249⟩, A70, H⟩ := H
  replace H : (if 0 ≤ t247 then ((spec_l1Cur_among.f s0_0 t248 t249 (([(-1), 1, 3, shl .i64 1 t247, 4611686018427387904] : List Int))).bind fun bt253 => (if t247 < (t241.length : Int) then (some ((t241.set (t247 : Int).toNat bt253.1), bt253.2.1, bt253.2.2)) else (none))) else (none)) = some (r1, r2, r3) := H
  have A7 := am A70
  clear A70
  by_cases c8 : 0 ≤ t247
  rotate_left
  ·rw [if_neg c8] at H
   exact absurd H (by simp)
  rw [if_pos c8] at H
  have c8b0 := eq_true c8
  have c8b1 := decide_eq_true c8
  clear c8
  obtain ⟨ji9, hji9⟩ : ∃ j_ : Int, (shl .i64 1 t247) = j_ := ⟨_, rfl⟩
  replace H : ((spec_l1Cur_among.f s0_0 t248 t249 (([(-1), 1, 3, ji9, 4611686018427387904] : List Int))).bind fun bt253 => (if t247 < (t241.length : Int) then (some ((t241.set (t247 : Int).toNat bt253.1), bt253.2.1, bt253.2.2)) else (none))) = some (r1, r2, r3) := by first | (rw [hji9] at H; exact H) | (simp only [hji9] at H ⊢; exact H)
  (try rw [hji9] at A3)
  (try rw [hji9] at A4)
  (try rw [hji9] at A5)
  (try rw [hji9] at A7)
  have hji9_ : (IntKind.i64.wrap (1 * 2 ^ min t247.toNat 64)) = ji9 := hji9
  have hji9z : t247 ≤ 64 → (IntKind.i64.wrap (1 * 2 ^ t247.toNat)) = ji9 := shl_small hji9
  have hji9u : (IntKind.i64.wrap (2 ^ min t247.toNat 64)) = ji9 := by have h_ := hji9_; rw [Int.one_mul] at h_; exact h_
  have hji9v : t247 ≤ 64 → (IntKind.i64.wrap (2 ^ t247.toNat)) = ji9 := fun hle_ => by have h_ := hji9z hle_; rw [Int.one_mul] at h_; exact h_
  have hji9y : (wrap64 (1 * 2 ^ min t247.toNat 64)) = ji9 := (i64_w _).symm.trans hji9_
  have hji9x : t247 ≤ 64 → (wrap64 (1 * 2 ^ t247.toNat)) = ji9 := fun h_ => (i64_w _).symm.trans (hji9z h_)
  obtain ⟨y250, hy250⟩ : ∃ y_ : List Int, y_ = (([(-1), 1, 3, ji9, 4611686018427387904] : List Int)) := ⟨_, rfl⟩
  replace H : ((spec_l1Cur_among.f s0_0 t248 t249 y250).bind fun bt253 => (if t247 < (t241.length : Int) then (some ((t241.set (t247 : Int).toNat bt253.1), bt253.2.1, bt253.2.2)) else (none))) = some (r1, r2, r3) := by first | (rw [hy250]; with_reducible exact H) | (have H2_ := (Option.bind_some _ _).symm.trans H; rw [hy250]; with_reducible exact H2_) | (have H2_ := (Option.bind_some _ _).symm.trans H; with_reducible exact H2_) | with_reducible exact H | (rw [hy250]; exact H) | exact H
  have Ny250 := am hy250
  clear hy250
  replace H := Option.bind_eq_some_iff.mp H
  obtain ⟨⟨t253, t254, t255⟩, A100, H⟩ := H
  replace H : (if t247 < (t241.length : Int) then (some ((t241.set (t247 : Int).toNat t253), t254, t255)) else (none)) = some (r1, r2, r3) := H
  have A10 := am A100
  clear A100
  by_cases c11 : t247 < (t241.length : Int)
  rotate_left
  ·rw [if_neg c11] at H
   exact absurd H (by simp)
  rw [if_pos c11] at H
  have c11b0 := decide_eq_true c11
  clear c11
  obtain ⟨y256, hy256⟩ : ∃ y_ : List Int, y_ = (t241.set (t247 : Int).toNat t253) := ⟨_, rfl⟩
  replace H : (some (y256, t254, t255)) = some (r1, r2, r3) := by first | (rw [hy256]; with_reducible exact H) | (have H2_ := (Option.bind_some _ _).symm.trans H; rw [hy256]; with_reducible exact H2_) | (have H2_ := (Option.bind_some _ _).symm.trans H; with_reducible exact H2_) | with_reducible exact H | (rw [hy256]; exact H) | exact H
  have Ny256 := am hy256
  clear hy256
  simp only [Option.some.injEq, Prod.mk.injEq] at H
  obtain ⟨rfl, rfl, rfl⟩ := H
  go_enter Try.func64, Try.ntmps64
  try go_wp2_with (first | ((with_reducible refine gate_dst (N := 4) rfl ?_); refine qx (N := 4) (cs := #[.slice none 0 0]) (t := 26) ?_; intro gb234 hg w13 hbox hb; have n0_ := am (IsS67.below qI67 hb); have n1_ := am (KeepBut.trans qK (KeepBut.of_below hb g none) (.inl rfl)); have n2_ := am (below_step qB hb); have BK234 := am (hbox); have GW234 := am ((by rw [hg]; exact (keep_size (w := w) (g := g) (row := none) qK) : w.heap.size ≤ gb234)); have GE234 := am ((Nat.le_trans HW0.out (by rw [hg]; exact (keep_size (w := w) (g := g) (row := none) qK) : w.heap.size ≤ gb234) : w0.heap.size ≤ gb234)); have NB0_234 := am ((by rw [hg]; exact Nat.ne_of_lt (IsS67.lt (show IsS67 w0 _ g s0_0 s0_1 s0_2 from qI67)) : g ≠ gb234)); have NB234_0 := am ((by rw [hg]; exact Nat.ne_of_gt (IsS67.lt (show IsS67 w0 _ g s0_0 s0_1 s0_2 from qI67)) : gb234 ≠ g)); clear HI0 HK HB; have HI0 := n0_; have HK := n1_; have HB := n2_; clear n0_ n1_ n2_; clear hb hbox hg) | ((with_reducible refine gate_callee (f := 124) rfl ?_); refine gL (some 10) Try.func124 #[.pointer (some ⟨g, 0, none⟩), .int .i64 a1] ?_; (with_reducible refine (spec_l1Cur_surePoset.calls k g s0_0 s0_1 s0_2 a1 t235 t238 t239 w0 _ ?side1 ?side2 A3.out).mono ?_); (case side1 => exact qI67); (case side2 => exact qB); rintro e w14 ⟨v236, rfl, ho0, hi, hb, hk⟩; refine ⟨_, rfl, ?_⟩; replace BK234 := am (KeepBut.blk hk (g' := gb234) (o := .cells #[.slice none 0 0] 26 (0, 0)) (qb BK234.out) NB234_0.out (by simp)); have HO237 := am (Kd.R_lower ho0 (keep_size (w := w) (g := g) (row := none) qK)); have n2_ := am (KeepBut.trans qK hk (.inl rfl)); have n3_ := am (hb); replace HI0 := am (hi); clear HK HB; have HK := n2_; have HB := n3_; clear n2_ n3_; (try clear hb); (try clear hb2); (try clear hk); (try clear hi); (try clear ho0)) | ((with_reducible refine gate_dst (N := 5) rfl ?_); refine qx (N := 5) (cs := #[.slice none 0 0]) (t := 26) ?_; intro gb240 hg w15 hbox hb; replace HO237 := am (Kd.R_below (qR HO237.out) hb); have n1_ := am (IsS67.below qI67 hb); have n2_ := am (blk_below (g := gb234) (o := .cells #[.slice none 0 0] 26 (0, 0)) (qb BK234.out) hb); have n3_ := am (KeepBut.trans qK (KeepBut.of_below hb g none) (.inl rfl)); have n4_ := am (below_step qB hb); have BK240 := am (hbox); have GW240 := am ((by rw [hg]; exact (keep_size (w := w) (g := g) (row := none) qK) : w.heap.size ≤ gb240)); have GE240 := am ((Nat.le_trans HW0.out (by rw [hg]; exact (keep_size (w := w) (g := g) (row := none) qK) : w.heap.size ≤ gb240) : w0.heap.size ≤ gb240)); have NB234_240 := am ((by rw [hg]; exact Nat.ne_of_lt (blk_lt (g := gb234) (o := .cells #[.slice none 0 0] 26 (0, 0)) (qb BK234.out)) : gb234 ≠ gb240)); have NB240_234 := am ((by rw [hg]; exact Nat.ne_of_gt (blk_lt (g := gb234) (o := .cells #[.slice none 0 0] 26 (0, 0)) (qb BK234.out)) : gb240 ≠ gb234)); have NB0_240 := am ((by rw [hg]; exact Nat.ne_of_lt (IsS67.lt (show IsS67 w0 _ g s0_0 t238 t239 from qI67)) : g ≠ gb240)); have NB240_0 := am ((by rw [hg]; exact Nat.ne_of_gt (IsS67.lt (show IsS67 w0 _ g s0_0 t238 t239 from qI67)) : gb240 ≠ g)); clear HI0 BK234 HK HB; have HI0 := n1_; have BK234 := n2_; have HK := n3_; have HB := n4_; clear n1_ n2_ n3_ n4_; clear hb hbox hg; obtain ⟨Ao16, co16, eo16⟩ := Kd.R_slice HO237.out; subst eo16; have hnb17 := NB240_234.out; have hnc17 := NB234_240.out; have hnb18 := NB240_0.out; have hnc18 := NB0_240.out; have hcz19_0 := qz w15 BK240.out; have hfz19_0 := blk_frozen BK240.out 0) | ((with_reducible refine gate_callee (f := 125) rfl ?_); refine gL (some 13) Try.func125 #[.slice Ao16 t235.length co16] ?_; (with_reducible refine (spec_l1Own.calls _ _ t235 t241 _ ?side1 ?side2 A4.out).mono ?_); (case side1 => refine (Kd.R_reads' (e := 3) (base := w.heap.size) (ok := fun k_ => True) (n := t235.length) (c := co16) ?_).2.2; exact (qR ((Kd.R_mono (Kd.R_far (p := ⟨gb240, 0, none⟩) (Kd.R_types HO237.out BK240.out (by decide)) (fun _ hk => hk.2) (.slice Ao16 t235.length co16)) (fun _ h_ => h_.1))))); (case side2 => exact (Kd.R_reads' HO237.out).2.1); rintro e w20 ⟨v242, rfl, ho0, hb⟩; refine ⟨_, rfl, ?_⟩; have n0_ := am (Kd.R_elder' (qR ((Kd.R_mono (Kd.R_far (p := ⟨gb240, 0, none⟩) (Kd.R_types HO237.out BK240.out (by decide)) (fun _ hk => hk.2) (.slice Ao16 t235.length co16)) (fun _ h_ => h_.1)))) (Kd.R_base ho0) hb); have HO243 := am (Kd.R_lower (Kd.R_new' ho0 (Kd.R_lt (qR ((Kd.R_mono (Kd.R_far (p := ⟨gb240, 0, none⟩) (Kd.R_types HO237.out BK240.out (by decide)) (fun _ hk => hk.2) (.slice Ao16 t235.length co16)) (fun _ h_ => h_.1)))))) (keep_size (w := w) (g := g) (row := none) qK)); have n2_ := am (IsS67.below (show IsS67 w0 (w15.setCell ⟨gb240, 0, none⟩ (.slice Ao16 t235.length co16)) g s0_0 t238 t239 from qI67) hb); replace BK234 := am (blk_below (g := gb234) (o := .cells #[.slice none 0 0] 26 (0, 0)) (by (with_reducible repeat (first | refine blk_drewN ?_ _ | refine blk_drew ?_ | refine blk_alloc ?_ _)); refine blk_far ?_ NB234_240.out _; refine qb ?_; exact BK234.out) hb); replace BK240 := am (blk_below (g := gb240) (o := .cells #[.slice Ao16 t235.length co16] 26 (0, 0)) (by (with_reducible repeat (first | refine blk_drewN ?_ _ | refine blk_drew ?_ | refine blk_alloc ?_ _)); refine blk_put (cs := #[.slice none 0 0]) ?_ 0 _ rfl; refine qb ?_; exact BK240.out) hb); have n5_ := am (KeepBut.trans qK (KeepBut.of_below hb g none) (.inl rfl)); replace HB := am (below_step qB hb); clear HO237 HI0 HK; have HO237 := n0_; have HI0 := n2_; have HK := n5_; clear n0_ n2_ n5_; (try clear hb); (try clear hb2); (try clear hk); (try clear hi); (try clear ho0); obtain ⟨Ao21, co21, eo21⟩ := Kd.R_slice HO243.out; subst eo21; have hcz22_0 := qz w20 BK240.out; have hfz22_0 := blk_frozen BK240.out 0) | ((with_reducible refine gate_callee (f := 68) rfl ?_); refine gL (some 16) Try.func68 #[.pointer (some ⟨g, 0, none⟩), .int .i64 20] ?_; (with_reducible refine (spec_l1Cur_pick.calls g s0_0 t238 t239 20 t244 t245 t246 w0 _ ?side1 ?side2 A5.out).mono ?_); (case side1 => exact qI67); (case side2 => exact qB); rintro e w23 ⟨rfl, hi, hb, hk⟩; refine ⟨_, rfl, ?_⟩; replace BK234 := am (KeepBut.blk hk (g' := gb234) (o := .cells #[.slice none 0 0] 26 (0, 0)) (by (with_reducible repeat (first | refine blk_drewN ?_ _ | refine blk_drew ?_ | refine blk_alloc ?_ _)); refine blk_far ?_ NB234_240.out _; refine qb ?_; exact BK234.out) NB234_0.out (by simp)); replace HO237 := am (Kd.R_mono (Kd.R_keep (IsS67.apart (show IsS67 w0 _ g s0_0 t238 t239 from qI67) (qR ((Kd.R_mono (Kd.R_far (p := ⟨gb240, 0, none⟩) (Kd.R_types HO237.out BK240.out (by decide)) (fun _ hk => hk.2) (.slice Ao21 t241.length co21)) (fun _ h_ => h_.1)))) (by decide)) hk (fun _ h => h.2)) (fun _ h => h.1)); have n2_ := am (KeepBut.blk hk (g' := gb240) (o := .cells #[.slice Ao21 t241.length co21] 26 (0, 0)) (by (with_reducible repeat (first | refine blk_drewN ?_ _ | refine blk_drew ?_ | refine blk_alloc ?_ _)); refine blk_put (cs := #[.slice Ao16 t235.length co16]) ?_ 0 _ rfl; refine qb ?_; exact BK240.out) NB240_0.out (by simp)); replace HO243 := am (Kd.R_mono (Kd.R_keep (IsS67.apart (show IsS67 w0 _ g s0_0 t238 t239 from qI67) (qR ((Kd.R_mono (Kd.R_far (p := ⟨gb240, 0, none⟩) (Kd.R_types HO243.out BK240.out (by decide)) (fun _ hk => hk.2) (.slice Ao21 t241.length co21)) (fun _ h_ => h_.1)))) (by decide)) hk (fun _ h => h.2)) (fun _ h => h.1)); have n4_ := am (KeepBut.trans qK hk (.inl rfl)); have n5_ := am (hb); replace HI0 := am (hi); clear BK240 HK HB; have BK240 := n2_; have HK := n4_; have HB := n5_; clear n2_ n4_ n5_; (try clear hb); (try clear hb2); (try clear hk); (try clear hi); have hcz24_0 := qz w23 BK240.out; have hfz24_0 := blk_frozen BK240.out 0) | ((with_reducible refine gate_callee (f := 68) rfl ?_); refine gL (some 23) Try.func68 #[.pointer (some ⟨g, 0, none⟩), .int .i64 (t241.length : Int)] ?_; (with_reducible refine (spec_l1Cur_pick.calls g s0_0 t245 t246 (t241.length : Int) t247 t248 t249 w0 _ ?side1 ?side2 A7.out).mono ?_); (case side1 => exact qI67); (case side2 => exact qB); rintro e w25 ⟨rfl, hi, hb, hk⟩; refine ⟨_, rfl, ?_⟩; replace BK234 := am (KeepBut.blk hk (g' := gb234) (o := .cells #[.slice none 0 0] 26 (0, 0)) (qb BK234.out) NB234_0.out (by simp)); replace HO237 := am (Kd.R_mono (Kd.R_keep (IsS67.apart (show IsS67 w0 _ g s0_0 t245 t246 from qI67) (qR HO237.out) (by decide)) hk (fun _ h => h.2)) (fun _ h => h.1)); replace BK240 := am (KeepBut.blk hk (g' := gb240) (o := .cells #[.slice Ao21 t241.length co21] 26 (0, 0)) (qb BK240.out) NB240_0.out (by simp)); replace HO243 := am (Kd.R_mono (Kd.R_keep (IsS67.apart (show IsS67 w0 _ g s0_0 t245 t246 from qI67) (qR HO243.out) (by decide)) hk (fun _ h => h.2)) (fun _ h => h.1)); have n4_ := am (KeepBut.trans qK hk (.inl rfl)); have n5_ := am (hb); replace HI0 := am (hi); clear HK HB; have HK := n4_; have HB := n5_; clear n4_ n5_; (try clear hb); (try clear hb2); (try clear hk); (try clear hi)))
  have n0_ := am (Kd.R_drew HO237.out)
  have n1_ := am (Kd.R_drew HO243.out)
  have n2_ := am (blk_drew BK234.out)
  have n3_ := am (blk_drew BK240.out)
  have n4_ := am (IsS67.drew HI0.out)
  have n5_ := am (keep_drew HK.out)
  have n6_ := am (below_drew1 HB.out)
  clear HO237
  clear HO243
  clear BK234
  clear BK240
  clear HI0
  clear HK
  clear HB
  have HO237 := n0_
  have HO243 := n1_
  have BK234 := n2_
  have BK240 := n3_
  have HI0 := n4_
  have HK := n5_
  have HB := n6_
  clear n0_ n1_ n2_ n3_ n4_ n5_ n6_
  refine start_ (n := 10) (S := fun w' => w'.cell? ⟨gb240, 0, none⟩ = some (.slice Ao21 t241.length co21)) (ds := [9]) #[false, false, false, false, false, false, false, false, false, false] (by kernel_rfl) rfl rfl ((blk_cell BK240.out 0).trans rfl) (fun hHeld => ?_); refine with_tabW spec_l1Cur_poset.tab6 spec_l1Cur_poset.bits6 (fun HT_ HW_ => ?_)
  generalize w25.drew = w26 at HO237 HO243 BK234 BK240 HI0 HK HB hHeld ⊢
  refine pure_ (i := 0) (N := some 24) (v := ?_) (a' := ?_) #[true, false, false, false, false, false, false, false, false, false] rfl rfl (any_of HT_.out (by kernel_rfl)) (fun _ _ _ h => h) (Or.inl ⟨by rfl, ?_⟩) ?_ ?_
  rotate_left
  ·intro w'
   go_simp
   with_reducible rfl
  rotate_left
  ·exact qP
  refine pure_ (i := 2) (N := some 26) (v := ?_) (a' := ?_) #[true, false, true, false, false, false, false, false, false, false] rfl rfl (any_of HT_.out (by kernel_rfl)) (fun _ _ _ h => h) (Or.inl ⟨by rfl, ?_⟩) ?_ ?_
  rotate_left
  ·intro w'
   go_simp
   with_reducible rfl
  rotate_left
  ·exact qP
  refine pure_ (i := 3) (N := some 27) (v := ?_) (a' := ?_) #[true, false, true, true, false, false, false, false, false, false] rfl rfl (any_of HT_.out (by kernel_rfl)) (fun _ _ _ h => h) (Or.inl ⟨by rfl, ?_⟩) ?_ ?_
  rotate_left
  ·intro w'
   go_simp
   with_reducible rfl
  rotate_left
  ·exact qP
  refine pure_ (i := 4) (N := some 28) (v := ?_) (a' := ?_) #[true, false, true, true, true, false, false, false, false, false] rfl rfl (any_of HT_.out (by kernel_rfl)) (fun _ _ _ h => h) (Or.inl ⟨by rfl, ?_⟩) ?_ ?_
  rotate_left
  ·intro w'
   go_simp
   with_reducible rfl
  rotate_left
  ·exact qP
  refine pure_ (i := 5) (N := some 29) (v := ?_) (a' := ?_) #[true, false, true, true, true, true, false, false, false, false] rfl rfl (any_of HT_.out (by kernel_rfl)) (fun _ _ _ h => h) (Or.inl ⟨by rfl, ?_⟩) ?_ ?_
  rotate_left
  ·intro w'
   go_simp
   with_reducible rfl
  rotate_left
  ·exact qP
  refine take_ (i := 1) (N := some 25) (v := ?_) (a' := ?_) #[true, true, true, true, true, true, false, false, false, false] rfl rfl (take_ofW HT_.out HW_.out (by kernel_rfl)) (fun _ _ _ h => h) (Or.inl ⟨by rfl, ?_⟩) hHeld ?_ ?_
  rotate_left
  ·intro w' s0
   go_simp
   with_reducible rfl
  rotate_left
  ·exact qP
  refine one_ (i := 6) (N := some 30) #[true, true, true, true, true, true, true, false, false, false] rfl rfl (one_of HT_.out (by kernel_rfl)) (by decide) (fun K hK => ?_)
  refine Kd.R_lit_step (Kd.int .i64) _ 3 ?hg (N := 30) ?hd (xs := ([(-1), 1, 3, ji9, 4611686018427387904] : List Int)) (inner := [.int .i64 (-1), .int .i64 1, .int .i64 3, .int .i64 ji9, .int .i64 4611686018427387904]) (ok := fun _ => True) (okp := fun _ => True) ?hr ?hp (fun _ hk => hk) trivial (Below.refl _ _) (Nat.le_refl _) (by simp) ?_; (case hd => rfl); (case hg => rfl); (case hr => first | (go_simp; done) | (go_simp; rfl)); (case hp => exact (Reps.one (show Kd.M (Kd.int .i64) _ _ _ (-1) [.int .i64 (-1)] from rfl) (Reps.one (show Kd.M (Kd.int .i64) _ _ _ 1 [.int .i64 1] from rfl) (Reps.one (show Kd.M (Kd.int .i64) _ _ _ 3 [.int .i64 3] from rfl) (Reps.one (show Kd.M (Kd.int .i64) _ _ _ ji9 [.int .i64 ji9] from rfl) (Reps.one (show Kd.M (Kd.int .i64) _ _ _ 4611686018427387904 [.int .i64 4611686018427387904] from rfl) (Reps.none _ _)))))))
  intro v251 w27 ho28 hb hg_ hnew_
  clear hg_ hnew_
  (first | rw [← Ny250.out] at ho28 | (simp only [Int.reduceToNat] at ho28; rw [← Ny250.out] at ho28))
  have n0_ := am (Kd.R_elder' (qR HO237.out) (Kd.R_base ho28) hb)
  have n1_ := am (Kd.R_elder' (qR HO243.out) (Kd.R_base ho28) hb)
  have n2_ := am (Kd.R_lower (Kd.R_new' (Kd.R_new' ho28 (Kd.R_lt (qR HO237.out))) (Kd.R_lt (qR HO243.out))) (keep_size (w := w) (g := g) (row := none) qK))
  have n3_ := am (IsS67.below qI67 hb)
  have n4_ := am (blk_below (g := gb234) (o := .cells #[.slice none 0 0] 26 (0, 0)) (qb BK234.out) hb)
  have n5_ := am (blk_below (g := gb240) (o := .cells #[.slice Ao21 t241.length co21] 26 (0, 0)) (qb BK240.out) hb)
  have n6_ := am (KeepBut.trans qK (KeepBut.of_below hb g none) (.inl rfl))
  have n7_ := am (below_step qB hb)
  clear HO237
  clear HO243
  clear HI0
  clear BK234
  clear BK240
  clear HK
  clear HB
  have HO237 := n0_
  have HO243 := n1_
  have HO252 := n2_
  have HI0 := n3_
  have BK234 := n4_
  have BK240 := n5_
  have HK := n6_
  have HB := n7_
  clear n0_ n1_ n2_ n3_ n4_ n5_ n6_ n7_
  clear hb ho28
  obtain ⟨Ao29, co29, eo29⟩ := Kd.R_slice HO252.out
  (first | subst eo29 | (injection eo29 with f1_ f2_ f3_; have f4_ := f1_.symm; have f5_ := f3_.symm; clear f1_ f2_ f3_; subst f4_; subst f5_))
  refine hK.out _ _ ((blk_cell BK240.out 0).trans rfl) (fun hHeld => ?_)
  clear hK K
  refine norm_ (a' := ?_) ?_ ?_
  rotate_left
  ·show Act.put _ (some 30) _ = _
   simp only [Act.put, List.setIfInBounds_toArray, List.set_cons_zero, List.set_cons_succ, i64_w, i32_w]
   rfl
  refine one_ (i := 7) (N := some 31) #[true, true, true, true, true, true, true, true, false, false] rfl rfl (one_of HT_.out (by kernel_rfl)) (by decide) (fun K hK => ?_)
  refine goes_ Try.func67 (by kernel_rfl) rfl #[.pointer (some ⟨g, 0, none⟩), .slice Ao29 y250.length co29] (by rfl) rfl rfl qA ?_
  with_reducible refine (spec_l1Cur_among.calls g s0_0 t248 t249 _ _ y250 t253 t254 t255 w0 _ ?side1 ?side2 ?side3 ?side4 ?side5 A10.out).mono ?_
  (case side1 => exact qI67)
  (case side2 => exact qB)
  (case side3 => exact qC (Kd.R_reads' HO252.out).2.2)
  (case side4 => exact (Kd.R_reads' HO252.out).2.1)
  (case side5 => exact far_slice (IsS67.own_ne HI0.out HO252.out (by decide)))
  rintro e w30 ⟨rfl, hi, hb, hk⟩
  refine ⟨_, rfl, ?_⟩
  have n0_ := am (KeepBut.blk hk (g' := gb234) (o := .cells #[.slice none 0 0] 26 (0, 0)) (qb BK234.out) NB234_0.out (by simp))
  have n1_ := am (Kd.R_mono (Kd.R_keep (IsS67.apart (show IsS67 w0 _ g s0_0 t248 t249 from qI67) (qR HO237.out) (by decide)) hk (fun _ h => h.2)) (fun _ h => h.1))
  have n2_ := am (KeepBut.blk hk (g' := gb240) (o := .cells #[.slice Ao21 t241.length co21] 26 (0, 0)) (qb BK240.out) NB240_0.out (by simp))
  have n3_ := am (Kd.R_mono (Kd.R_keep (IsS67.apart (show IsS67 w0 _ g s0_0 t248 t249 from qI67) (qR HO243.out) (by decide)) hk (fun _ h => h.2)) (fun _ h => h.1))
  have n4_ := am (Kd.R_mono (Kd.R_keep (IsS67.apart (show IsS67 w0 _ g s0_0 t248 t249 from qI67) (qR HO252.out) (by decide)) hk (fun _ h => h.2)) (fun _ h => h.1))
  have n5_ := am (KeepBut.trans qK hk (.inl rfl))
  have n6_ := am (hb)
  have n7_ := am (hi)
  clear BK234
  clear HO237
  clear BK240
  clear HO243
  clear HO252
  clear HK
  clear HB
  clear HI0
  have BK234 := n0_
  have HO237 := n1_
  have BK240 := n2_
  have HO243 := n3_
  have HO252 := n4_
  have HK := n5_
  have HB := n6_
  have HI0 := n7_
  clear n0_ n1_ n2_ n3_ n4_ n5_ n6_ n7_
  (try clear hb)
  (try clear hb2)
  (try clear hk)
  (try clear hi)
  have p12 : 0 ≤ (t247 : Int) := qd
  have q12 : (t247 : Int) < ((t241.length : Int) : Int) := qd
  obtain ⟨go12, co12, eo12, gb12, gl12, cl12, HG12⟩ := Kd.R_form HO243.out (by omega)
  (first | cases eo12 | (injection eo12 with ea_ en_ ec_; (first | subst ea_ | (injection ea_ with ea_; subst ea_)); subst ec_; clear en_))
  have GB12 := am gb12
  have GG12 := am HG12
  clear gb12 gl12 HG12
  obtain ⟨hx12_0, hf12_0⟩ := Kd.R_celln 0 HO243.out (t247 : Int) p12 q12
  replace p12 := eq_true p12
  replace q12 := eq_true q12
  have HN0_go12 := am (show g ≠ go12 from by have h_ := IsS67.own_ne HI0.out HO243.out (by decide); intro e_; exact h_ (by rw [e_]; rfl))
  have HP31 := Kd.R_putn HO243.out (t247 : Int) t253
  rw [← Ny256.out] at HP31
  have HQ31 := am HP31
  clear HP31
  refine hK.out _ _ ((blk_cell BK240.out 0).trans rfl) (fun hHeld => ?_)
  clear hK K
  refine norm_ (a' := ?_) ?_ ?_
  rotate_left
  ·show Act.put _ (some 31) _ = _
   simp only [Act.put, List.setIfInBounds_toArray, List.set_cons_zero, List.set_cons_succ, i64_w, i32_w]
   rfl
  refine pure_ (i := 8) (N := some 32) (v := ?_) (a' := ?_) #[true, true, true, true, true, true, true, true, true, false] rfl rfl (any_of HT_.out (by kernel_rfl)) (fun _ _ _ h => h) (Or.inl ⟨by rfl, ?_⟩) ?_ ?_
  rotate_left
  ·intro w'
   go_simp
   with_reducible rfl
  rotate_left
  ·exact qP
  refine last_ (i := 9) (N := none) #[true, true, true, true, true, true, true, true, true, true] rfl rfl (one_of HT_.out (by kernel_rfl)) (by decide) (fun K hK => ?_)
  refine skip_ (w1 := ?_) (by rfl) rfl ?_ ?_
  rotate_left
  ·go_simp
   rfl
  refine hK.out _ _ ?_
  clear hK K
  refine done_ (done_of HT_.out (by kernel_rfl)) ?_
  have n0_ : Aside0 (Kd.R (Kd.int .i64) 3 (w30.setCell ⟨go12, (t247 : Int).toNat, none⟩ (.int .i64 t253)) w.heap.size (fun k_ => some k_ ≠ (.slice (some ⟨go12, 0, none⟩) t241.length co21 : Value).ownBlock ∧ some k_ ≠ (.slice Ao29 y250.length co29 : Value).ownBlock) (.slice Ao16 t235.length co16) t235) := ⟨qR (Kd.R_mono (Kd.R_far (p := ⟨go12, (t247 : Int).toNat, none⟩) (Kd.R_mono HO237.out (fun k_ hk => (⟨hk, fun e_ => hk.1.2 (by rw [e_]; rfl)⟩ : _ ∧ k_ ≠ go12))) (fun _ hk => hk.2) (.int .i64 t253)) (fun _ hk => ⟨hk.1.1.2, hk.1.2⟩))⟩
  have n1_ : Aside0 (Kd.R (Kd.int .i64) 3 (w30.setCell ⟨go12, (t247 : Int).toNat, none⟩ (.int .i64 t253)) w.heap.size (fun k_ => some k_ ≠ (.slice Ao16 t235.length co16 : Value).ownBlock ∧ some k_ ≠ (.slice Ao29 y250.length co29 : Value).ownBlock) (.slice (some ⟨go12, 0, none⟩) t241.length co21) y256) := ⟨qR (Kd.R_mono HQ31.out (fun _ hk => ⟨hk.1.2, hk.2⟩))⟩
  have n2_ : Aside0 (Kd.R (Kd.int .i64) 3 (w30.setCell ⟨go12, (t247 : Int).toNat, none⟩ (.int .i64 t253)) w.heap.size (fun k_ => some k_ ≠ (.slice Ao16 t235.length co16 : Value).ownBlock ∧ some k_ ≠ (.slice (some ⟨go12, 0, none⟩) t241.length co21 : Value).ownBlock) (.slice Ao29 y250.length co29) y250) := ⟨qR (Kd.R_mono (Kd.R_far (p := ⟨go12, (t247 : Int).toNat, none⟩) (Kd.R_mono HO252.out (fun k_ hk => (⟨hk, fun e_ => hk.2 (by rw [e_]; rfl)⟩ : _ ∧ k_ ≠ go12))) (fun _ hk => hk.2) (.int .i64 t253)) (fun _ hk => ⟨hk.1.1.2, hk.1.2⟩))⟩
  have n3_ : Aside0 ((w30.setCell ⟨go12, (t247 : Int).toNat, none⟩ (.int .i64 t253)).heap[gb234]? = some (.cells #[.slice none 0 0] 26 (0, 0))) := ⟨by (with_reducible repeat (first | refine blk_drewN ?_ _ | refine blk_drew ?_ | refine blk_alloc ?_ _)); refine blk_far ?_ (by have h_ := Kd.R_ne HO243.out BK234.out (by decide); intro e_; exact h_ (by rw [e_]; rfl)) _; refine qb ?_; exact BK234.out⟩
  have n4_ : Aside0 ((w30.setCell ⟨go12, (t247 : Int).toNat, none⟩ (.int .i64 t253)).heap[gb240]? = some (.cells #[.slice (some ⟨go12, 0, none⟩) t241.length co21] 26 (0, 0))) := ⟨by (with_reducible repeat (first | refine blk_drewN ?_ _ | refine blk_drew ?_ | refine blk_alloc ?_ _)); refine blk_far ?_ (by have h_ := Kd.R_ne HO243.out BK240.out (by decide); intro e_; exact h_ (by rw [e_]; rfl)) _; refine qb ?_; exact BK240.out⟩
  have n5_ : Aside0 (IsS67 w0 (w30.setCell ⟨go12, (t247 : Int).toNat, none⟩ (.int .i64 t253)) g s0_0 t254 t255) := ⟨qI67⟩
  have n6_ : Aside0 (KeepBut w (w30.setCell ⟨go12, (t247 : Int).toNat, none⟩ (.int .i64 t253)) g none) := ⟨qK⟩
  have n7_ : Aside0 (Below w0.heap.size w0 (w30.setCell ⟨go12, (t247 : Int).toNat, none⟩ (.int .i64 t253))) := ⟨qB⟩
  (try clear HO237)
  (try clear HO243)
  (try clear HO252)
  (try clear BK234)
  (try clear BK240)
  (try clear HI0)
  (try clear HK)
  (try clear HB)
  generalize (w30.setCell ⟨go12, (t247 : Int).toNat, none⟩ (.int .i64 t253)) = w32 at n0_ n1_ n2_ n3_ n4_ n5_ n6_ n7_ ⊢
  have HO237 := n0_
  have HO243 := n1_
  have HO252 := n2_
  have BK234 := n3_
  have BK240 := n4_
  have HI0 := n5_
  have HK := n6_
  have HB := n7_
  clear n0_ n1_ n2_ n3_ n4_ n5_ n6_ n7_
  have hcz33_0 := qz w32 BK240.out
  have hfz33_0 := blk_frozen BK240.out 0
  have hnb34 := NB234_0.out
  have hnc34 := NB0_234.out
  have hcz35_0 := qz w32 BK234.out
  have hfz35_0 := blk_frozen BK234.out 0
  try go_wp2
  refine bodyPost_ret (results_cell_row rfl _ _ gb234 26 #[.slice (some ⟨go12, 0, none⟩) t241.length co21] (0, 0) _ rfl (by (with_reducible repeat (first | refine blk_drewN ?_ _ | refine blk_drew ?_ | refine blk_alloc ?_ _)); refine blk_put (cs := #[.slice none 0 0]) ?_ 0 _ rfl; refine qb ?_; exact BK234.out) Try.underlying26 rfl (by kernel_rfl)) rfl ?_
  exact ⟨_, by first | rfl | (simp [errW_none, errW_some] <;> rfl) | (simp only [← hji9]; first | rfl | (simp [errW_none, errW_some] <;> rfl)) | (simp [*, errW_none, errW_some] <;> rfl), qR (Kd.R_mono (Kd.R_far (p := ⟨gb234, 0, none⟩) (Kd.R_types HO243.out BK234.out (by decide)) (fun _ hk => hk.2) (.slice (some ⟨go12, 0, none⟩) t241.length co21)) (fun _ hk => trivial)), qI67, qB, qK⟩
 ·rw [if_neg c6] at H
  have c6b0 : (t244 == 0) = false := beq_eq_false_iff_ne.mpr c6
  have c6b1 : (t244 != 0) = true := bne_iff_ne.mpr c6
  by_cases c36 : t244 = 1
  ·rw [if_pos c36] at H
   have c36b0 : (t244 == 1) = true := beq_iff_eq.mpr c36
   have c36b1 : (t244 != 1) = false := bne_eq_false_iff_eq.mpr c36
   clear c36
   simp only [Option.some.injEq, Prod.mk.injEq] at H
   obtain ⟨rfl, rfl, rfl⟩ := H
   go_enter Try.func64, Try.ntmps64
   go_wp2_with (first | ((with_reducible refine gate_dst (N := 4) rfl ?_); refine qx (N := 4) (cs := #[.slice none 0 0]) (t := 26) ?_; intro gb234 hg w37 hbox hb; have n0_ := am (IsS67.below qI67 hb); have n1_ := am (KeepBut.trans qK (KeepBut.of_below hb g none) (.inl rfl)); have n2_ := am (below_step qB hb); have BK234 := am (hbox); have GW234 := am ((by rw [hg]; exact (keep_size (w := w) (g := g) (row := none) qK) : w.heap.size ≤ gb234)); have GE234 := am ((Nat.le_trans HW0.out (by rw [hg]; exact (keep_size (w := w) (g := g) (row := none) qK) : w.heap.size ≤ gb234) : w0.heap.size ≤ gb234)); have NB0_234 := am ((by rw [hg]; exact Nat.ne_of_lt (IsS67.lt (show IsS67 w0 _ g s0_0 s0_1 s0_2 from qI67)) : g ≠ gb234)); have NB234_0 := am ((by rw [hg]; exact Nat.ne_of_gt (IsS67.lt (show IsS67 w0 _ g s0_0 s0_1 s0_2 from qI67)) : gb234 ≠ g)); clear HI0 HK HB; have HI0 := n0_; have HK := n1_; have HB := n2_; clear n0_ n1_ n2_; clear hb hbox hg) | ((with_reducible refine gate_callee (f := 124) rfl ?_); refine gL (some 10) Try.func124 #[.pointer (some ⟨g, 0, none⟩), .int .i64 a1] ?_; (with_reducible refine (spec_l1Cur_surePoset.calls k g s0_0 s0_1 s0_2 a1 t235 t238 t239 w0 _ ?side1 ?side2 A3.out).mono ?_); (case side1 => exact qI67); (case side2 => exact qB); rintro e w38 ⟨v236, rfl, ho0, hi, hb, hk⟩; refine ⟨_, rfl, ?_⟩; replace BK234 := am (KeepBut.blk hk (g' := gb234) (o := .cells #[.slice none 0 0] 26 (0, 0)) (qb BK234.out) NB234_0.out (by simp)); have HO237 := am (Kd.R_lower ho0 (keep_size (w := w) (g := g) (row := none) qK)); have n2_ := am (KeepBut.trans qK hk (.inl rfl)); have n3_ := am (hb); replace HI0 := am (hi); clear HK HB; have HK := n2_; have HB := n3_; clear n2_ n3_; (try clear hb); (try clear hb2); (try clear hk); (try clear hi); (try clear ho0)) | ((with_reducible refine gate_dst (N := 5) rfl ?_); refine qx (N := 5) (cs := #[.slice none 0 0]) (t := 26) ?_; intro gb240 hg w39 hbox hb; replace HO237 := am (Kd.R_below (qR HO237.out) hb); have n1_ := am (IsS67.below qI67 hb); have n2_ := am (blk_below (g := gb234) (o := .cells #[.slice none 0 0] 26 (0, 0)) (qb BK234.out) hb); have n3_ := am (KeepBut.trans qK (KeepBut.of_below hb g none) (.inl rfl)); have n4_ := am (below_step qB hb); have BK240 := am (hbox); have GW240 := am ((by rw [hg]; exact (keep_size (w := w) (g := g) (row := none) qK) : w.heap.size ≤ gb240)); have GE240 := am ((Nat.le_trans HW0.out (by rw [hg]; exact (keep_size (w := w) (g := g) (row := none) qK) : w.heap.size ≤ gb240) : w0.heap.size ≤ gb240)); have NB234_240 := am ((by rw [hg]; exact Nat.ne_of_lt (blk_lt (g := gb234) (o := .cells #[.slice none 0 0] 26 (0, 0)) (qb BK234.out)) : gb234 ≠ gb240)); have NB240_234 := am ((by rw [hg]; exact Nat.ne_of_gt (blk_lt (g := gb234) (o := .cells #[.slice none 0 0] 26 (0, 0)) (qb BK234.out)) : gb240 ≠ gb234)); have NB0_240 := am ((by rw [hg]; exact Nat.ne_of_lt (IsS67.lt (show IsS67 w0 _ g s0_0 t238 t239 from qI67)) : g ≠ gb240)); have NB240_0 := am ((by rw [hg]; exact Nat.ne_of_gt (IsS67.lt (show IsS67 w0 _ g s0_0 t238 t239 from qI67)) : gb240 ≠ g)); clear HI0 BK234 HK HB; have HI0 := n1_; have BK234 := n2_; have HK := n3_; have HB := n4_; clear n1_ n2_ n3_ n4_; clear hb hbox hg; obtain ⟨Ao40, co40, eo40⟩ := Kd.R_slice HO237.out; subst eo40; have hnb41 := NB240_234.out; have hnc41 := NB234_240.out; have hnb42 := NB240_0.out; have hnc42 := NB0_240.out; have hcz43_0 := qz w39 BK240.out; have hfz43_0 := blk_frozen BK240.out 0) | ((with_reducible refine gate_callee (f := 125) rfl ?_); refine gL (some 13) Try.func125 #[.slice Ao40 t235.length co40] ?_; (with_reducible refine (spec_l1Own.calls _ _ t235 t241 _ ?side1 ?side2 A4.out).mono ?_); (case side1 => refine (Kd.R_reads' (e := 3) (base := w.heap.size) (ok := fun k_ => True) (n := t235.length) (c := co40) ?_).2.2; exact (qR ((Kd.R_mono (Kd.R_far (p := ⟨gb240, 0, none⟩) (Kd.R_types HO237.out BK240.out (by decide)) (fun _ hk => hk.2) (.slice Ao40 t235.length co40)) (fun _ h_ => h_.1))))); (case side2 => exact (Kd.R_reads' HO237.out).2.1); rintro e w44 ⟨v242, rfl, ho0, hb⟩; refine ⟨_, rfl, ?_⟩; have n0_ := am (Kd.R_elder' (qR ((Kd.R_mono (Kd.R_far (p := ⟨gb240, 0, none⟩) (Kd.R_types HO237.out BK240.out (by decide)) (fun _ hk => hk.2) (.slice Ao40 t235.length co40)) (fun _ h_ => h_.1)))) (Kd.R_base ho0) hb); have HO243 := am (Kd.R_lower (Kd.R_new' ho0 (Kd.R_lt (qR ((Kd.R_mono (Kd.R_far (p := ⟨gb240, 0, none⟩) (Kd.R_types HO237.out BK240.out (by decide)) (fun _ hk => hk.2) (.slice Ao40 t235.length co40)) (fun _ h_ => h_.1)))))) (keep_size (w := w) (g := g) (row := none) qK)); have n2_ := am (IsS67.below (show IsS67 w0 (w39.setCell ⟨gb240, 0, none⟩ (.slice Ao40 t235.length co40)) g s0_0 t238 t239 from qI67) hb); replace BK234 := am (blk_below (g := gb234) (o := .cells #[.slice none 0 0] 26 (0, 0)) (by (with_reducible repeat (first | refine blk_drewN ?_ _ | refine blk_drew ?_ | refine blk_alloc ?_ _)); refine blk_far ?_ NB234_240.out _; refine qb ?_; exact BK234.out) hb); replace BK240 := am (blk_below (g := gb240) (o := .cells #[.slice Ao40 t235.length co40] 26 (0, 0)) (by (with_reducible repeat (first | refine blk_drewN ?_ _ | refine blk_drew ?_ | refine blk_alloc ?_ _)); refine blk_put (cs := #[.slice none 0 0]) ?_ 0 _ rfl; refine qb ?_; exact BK240.out) hb); have n5_ := am (KeepBut.trans qK (KeepBut.of_below hb g none) (.inl rfl)); replace HB := am (below_step qB hb); clear HO237 HI0 HK; have HO237 := n0_; have HI0 := n2_; have HK := n5_; clear n0_ n2_ n5_; (try clear hb); (try clear hb2); (try clear hk); (try clear hi); (try clear ho0); obtain ⟨Ao45, co45, eo45⟩ := Kd.R_slice HO243.out; subst eo45; have hcz46_0 := qz w44 BK240.out; have hfz46_0 := blk_frozen BK240.out 0) | ((with_reducible refine gate_callee (f := 68) rfl ?_); refine gL (some 16) Try.func68 #[.pointer (some ⟨g, 0, none⟩), .int .i64 20] ?_; (with_reducible refine (spec_l1Cur_pick.calls g s0_0 t238 t239 20 t244 t245 t246 w0 _ ?side1 ?side2 A5.out).mono ?_); (case side1 => exact qI67); (case side2 => exact qB); rintro e w47 ⟨rfl, hi, hb, hk⟩; refine ⟨_, rfl, ?_⟩; replace BK234 := am (KeepBut.blk hk (g' := gb234) (o := .cells #[.slice none 0 0] 26 (0, 0)) (by (with_reducible repeat (first | refine blk_drewN ?_ _ | refine blk_drew ?_ | refine blk_alloc ?_ _)); refine blk_far ?_ NB234_240.out _; refine qb ?_; exact BK234.out) NB234_0.out (by simp)); replace HO237 := am (Kd.R_mono (Kd.R_keep (IsS67.apart (show IsS67 w0 _ g s0_0 t238 t239 from qI67) (qR ((Kd.R_mono (Kd.R_far (p := ⟨gb240, 0, none⟩) (Kd.R_types HO237.out BK240.out (by decide)) (fun _ hk => hk.2) (.slice Ao45 t241.length co45)) (fun _ h_ => h_.1)))) (by decide)) hk (fun _ h => h.2)) (fun _ h => h.1)); have n2_ := am (KeepBut.blk hk (g' := gb240) (o := .cells #[.slice Ao45 t241.length co45] 26 (0, 0)) (by (with_reducible repeat (first | refine blk_drewN ?_ _ | refine blk_drew ?_ | refine blk_alloc ?_ _)); refine blk_put (cs := #[.slice Ao40 t235.length co40]) ?_ 0 _ rfl; refine qb ?_; exact BK240.out) NB240_0.out (by simp)); replace HO243 := am (Kd.R_mono (Kd.R_keep (IsS67.apart (show IsS67 w0 _ g s0_0 t238 t239 from qI67) (qR ((Kd.R_mono (Kd.R_far (p := ⟨gb240, 0, none⟩) (Kd.R_types HO243.out BK240.out (by decide)) (fun _ hk => hk.2) (.slice Ao45 t241.length co45)) (fun _ h_ => h_.1)))) (by decide)) hk (fun _ h => h.2)) (fun _ h => h.1)); have n4_ := am (KeepBut.trans qK hk (.inl rfl)); have n5_ := am (hb); replace HI0 := am (hi); clear BK240 HK HB; have BK240 := n2_; have HK := n4_; have HB := n5_; clear n2_ n4_ n5_; (try clear hb); (try clear hb2); (try clear hk); (try clear hi); have hcz48_0 := qz w47 BK240.out; have hfz48_0 := blk_frozen BK240.out 0; have hnb49 := NB234_0.out; have hnc49 := NB0_234.out; have hcz50_0 := qz w47 BK234.out; have hfz50_0 := blk_frozen BK234.out 0))
   refine bodyPost_ret (results_cell_row rfl _ _ gb234 26 #[.slice none 0 0] (0, 0) _ rfl (by (with_reducible repeat (first | refine blk_drewN ?_ _ | refine blk_drew ?_ | refine blk_alloc ?_ _)); refine blk_put (cs := #[.slice none 0 0]) ?_ 0 _ rfl; (with_reducible repeat (first | refine blk_drewN ?_ _ | refine blk_drew ?_ | refine blk_alloc ?_ _)); refine blk_far ?_ NB234_240.out _; refine qb ?_; exact BK234.out) Try.underlying26 rfl (by kernel_rfl)) rfl ?_
   exact ⟨_, qr, by first | exact Kd.R_nil _ _ _ _ _ | exact Kd.N_nil _ _ _ _ _ | exact Kd.V_nil _ _ _ _ _ | exact Kd.Q_nil _ _ _ _ _ | exact Kd.S_nil _ _ _ _ _, qI67, qB, qK⟩
  ·rw [if_neg c36] at H
   have c36b0 : (t244 == 1) = false := beq_eq_false_iff_ne.mpr c36
   have c36b1 : (t244 != 1) = true := bne_iff_ne.mpr c36
   by_cases c51 : t244 = 2
   ·rw [if_pos c51] at H
    have c51b0 : (t244 == 2) = true := beq_iff_eq.mpr c51
    have c51b1 : (t244 != 2) = false := bne_eq_false_iff_eq.mpr c51
    clear c51
    have H' := am H
    clear H
    go_enter Try.func64, Try.ntmps64
    go_wp2_with (first | ((with_reducible refine gate_dst (N := 4) rfl ?_); refine qx (N := 4) (cs := #[.slice none 0 0]) (t := 26) ?_; intro gb234 hg w52 hbox hb; have n0_ := am (IsS67.below qI67 hb); have n1_ := am (KeepBut.trans qK (KeepBut.of_below hb g none) (.inl rfl)); have n2_ := am (below_step qB hb); have BK234 := am (hbox); have GW234 := am ((by rw [hg]; exact (keep_size (w := w) (g := g) (row := none) qK) : w.heap.size ≤ gb234)); have GE234 := am ((Nat.le_trans HW0.out (by rw [hg]; exact (keep_size (w := w) (g := g) (row := none) qK) : w.heap.size ≤ gb234) : w0.heap.size ≤ gb234)); have NB0_234 := am ((by rw [hg]; exact Nat.ne_of_lt (IsS67.lt (show IsS67 w0 _ g s0_0 s0_1 s0_2 from qI67)) : g ≠ gb234)); have NB234_0 := am ((by rw [hg]; exact Nat.ne_of_gt (IsS67.lt (show IsS67 w0 _ g s0_0 s0_1 s0_2 from qI67)) : gb234 ≠ g)); clear HI0 HK HB; have HI0 := n0_; have HK := n1_; have HB := n2_; clear n0_ n1_ n2_; clear hb hbox hg) | ((with_reducible refine gate_callee (f := 124) rfl ?_); refine gL (some 10) Try.func124 #[.pointer (some ⟨g, 0, none⟩), .int .i64 a1] ?_; (with_reducible refine (spec_l1Cur_surePoset.calls k g s0_0 s0_1 s0_2 a1 t235 t238 t239 w0 _ ?side1 ?side2 A3.out).mono ?_); (case side1 => exact qI67); (case side2 => exact qB); rintro e w53 ⟨v236, rfl, ho0, hi, hb, hk⟩; refine ⟨_, rfl, ?_⟩; replace BK234 := am (KeepBut.blk hk (g' := gb234) (o := .cells #[.slice none 0 0] 26 (0, 0)) (qb BK234.out) NB234_0.out (by simp)); have HO237 := am (Kd.R_lower ho0 (keep_size (w := w) (g := g) (row := none) qK)); have n2_ := am (KeepBut.trans qK hk (.inl rfl)); have n3_ := am (hb); replace HI0 := am (hi); clear HK HB; have HK := n2_; have HB := n3_; clear n2_ n3_; (try clear hb); (try clear hb2); (try clear hk); (try clear hi); (try clear ho0)) | ((with_reducible refine gate_dst (N := 5) rfl ?_); refine qx (N := 5) (cs := #[.slice none 0 0]) (t := 26) ?_; intro gb240 hg w54 hbox hb; replace HO237 := am (Kd.R_below (qR HO237.out) hb); have n1_ := am (IsS67.below qI67 hb); have n2_ := am (blk_below (g := gb234) (o := .cells #[.slice none 0 0] 26 (0, 0)) (qb BK234.out) hb); have n3_ := am (KeepBut.trans qK (KeepBut.of_below hb g none) (.inl rfl)); have n4_ := am (below_step qB hb); have BK240 := am (hbox); have GW240 := am ((by rw [hg]; exact (keep_size (w := w) (g := g) (row := none) qK) : w.heap.size ≤ gb240)); have GE240 := am ((Nat.le_trans HW0.out (by rw [hg]; exact (keep_size (w := w) (g := g) (row := none) qK) : w.heap.size ≤ gb240) : w0.heap.size ≤ gb240)); have NB234_240 := am ((by rw [hg]; exact Nat.ne_of_lt (blk_lt (g := gb234) (o := .cells #[.slice none 0 0] 26 (0, 0)) (qb BK234.out)) : gb234 ≠ gb240)); have NB240_234 := am ((by rw [hg]; exact Nat.ne_of_gt (blk_lt (g := gb234) (o := .cells #[.slice none 0 0] 26 (0, 0)) (qb BK234.out)) : gb240 ≠ gb234)); have NB0_240 := am ((by rw [hg]; exact Nat.ne_of_lt (IsS67.lt (show IsS67 w0 _ g s0_0 t238 t239 from qI67)) : g ≠ gb240)); have NB240_0 := am ((by rw [hg]; exact Nat.ne_of_gt (IsS67.lt (show IsS67 w0 _ g s0_0 t238 t239 from qI67)) : gb240 ≠ g)); clear HI0 BK234 HK HB; have HI0 := n1_; have BK234 := n2_; have HK := n3_; have HB := n4_; clear n1_ n2_ n3_ n4_; clear hb hbox hg; obtain ⟨Ao55, co55, eo55⟩ := Kd.R_slice HO237.out; subst eo55; have hnb56 := NB240_234.out; have hnc56 := NB234_240.out; have hnb57 := NB240_0.out; have hnc57 := NB0_240.out; have hcz58_0 := qz w54 BK240.out; have hfz58_0 := blk_frozen BK240.out 0) | ((with_reducible refine gate_callee (f := 125) rfl ?_); refine gL (some 13) Try.func125 #[.slice Ao55 t235.length co55] ?_; (with_reducible refine (spec_l1Own.calls _ _ t235 t241 _ ?side1 ?side2 A4.out).mono ?_); (case side1 => refine (Kd.R_reads' (e := 3) (base := w.heap.size) (ok := fun k_ => True) (n := t235.length) (c := co55) ?_).2.2; exact (qR ((Kd.R_mono (Kd.R_far (p := ⟨gb240, 0, none⟩) (Kd.R_types HO237.out BK240.out (by decide)) (fun _ hk => hk.2) (.slice Ao55 t235.length co55)) (fun _ h_ => h_.1))))); (case side2 => exact (Kd.R_reads' HO237.out).2.1); rintro e w59 ⟨v242, rfl, ho0, hb⟩; refine ⟨_, rfl, ?_⟩; have n0_ := am (Kd.R_elder' (qR ((Kd.R_mono (Kd.R_far (p := ⟨gb240, 0, none⟩) (Kd.R_types HO237.out BK240.out (by decide)) (fun _ hk => hk.2) (.slice Ao55 t235.length co55)) (fun _ h_ => h_.1)))) (Kd.R_base ho0) hb); have HO243 := am (Kd.R_lower (Kd.R_new' ho0 (Kd.R_lt (qR ((Kd.R_mono (Kd.R_far (p := ⟨gb240, 0, none⟩) (Kd.R_types HO237.out BK240.out (by decide)) (fun _ hk => hk.2) (.slice Ao55 t235.length co55)) (fun _ h_ => h_.1)))))) (keep_size (w := w) (g := g) (row := none) qK)); have n2_ := am (IsS67.below (show IsS67 w0 (w54.setCell ⟨gb240, 0, none⟩ (.slice Ao55 t235.length co55)) g s0_0 t238 t239 from qI67) hb); replace BK234 := am (blk_below (g := gb234) (o := .cells #[.slice none 0 0] 26 (0, 0)) (by (with_reducible repeat (first | refine blk_drewN ?_ _ | refine blk_drew ?_ | refine blk_alloc ?_ _)); refine blk_far ?_ NB234_240.out _; refine qb ?_; exact BK234.out) hb); replace BK240 := am (blk_below (g := gb240) (o := .cells #[.slice Ao55 t235.length co55] 26 (0, 0)) (by (with_reducible repeat (first | refine blk_drewN ?_ _ | refine blk_drew ?_ | refine blk_alloc ?_ _)); refine blk_put (cs := #[.slice none 0 0]) ?_ 0 _ rfl; refine qb ?_; exact BK240.out) hb); have n5_ := am (KeepBut.trans qK (KeepBut.of_below hb g none) (.inl rfl)); replace HB := am (below_step qB hb); clear HO237 HI0 HK; have HO237 := n0_; have HI0 := n2_; have HK := n5_; clear n0_ n2_ n5_; (try clear hb); (try clear hb2); (try clear hk); (try clear hi); (try clear ho0); obtain ⟨Ao60, co60, eo60⟩ := Kd.R_slice HO243.out; subst eo60; have hcz61_0 := qz w59 BK240.out; have hfz61_0 := blk_frozen BK240.out 0) | ((with_reducible refine gate_callee (f := 68) rfl ?_); refine gL (some 16) Try.func68 #[.pointer (some ⟨g, 0, none⟩), .int .i64 20] ?_; (with_reducible refine (spec_l1Cur_pick.calls g s0_0 t238 t239 20 t244 t245 t246 w0 _ ?side1 ?side2 A5.out).mono ?_); (case side1 => exact qI67); (case side2 => exact qB); rintro e w62 ⟨rfl, hi, hb, hk⟩; refine ⟨_, rfl, ?_⟩; replace BK234 := am (KeepBut.blk hk (g' := gb234) (o := .cells #[.slice none 0 0] 26 (0, 0)) (by (with_reducible repeat (first | refine blk_drewN ?_ _ | refine blk_drew ?_ | refine blk_alloc ?_ _)); refine blk_far ?_ NB234_240.out _; refine qb ?_; exact BK234.out) NB234_0.out (by simp)); replace HO237 := am (Kd.R_mono (Kd.R_keep (IsS67.apart (show IsS67 w0 _ g s0_0 t238 t239 from qI67) (qR ((Kd.R_mono (Kd.R_far (p := ⟨gb240, 0, none⟩) (Kd.R_types HO237.out BK240.out (by decide)) (fun _ hk => hk.2) (.slice Ao60 t241.length co60)) (fun _ h_ => h_.1)))) (by decide)) hk (fun _ h => h.2)) (fun _ h => h.1)); have n2_ := am (KeepBut.blk hk (g' := gb240) (o := .cells #[.slice Ao60 t241.length co60] 26 (0, 0)) (by (with_reducible repeat (first | refine blk_drewN ?_ _ | refine blk_drew ?_ | refine blk_alloc ?_ _)); refine blk_put (cs := #[.slice Ao55 t235.length co55]) ?_ 0 _ rfl; refine qb ?_; exact BK240.out) NB240_0.out (by simp)); replace HO243 := am (Kd.R_mono (Kd.R_keep (IsS67.apart (show IsS67 w0 _ g s0_0 t238 t239 from qI67) (qR ((Kd.R_mono (Kd.R_far (p := ⟨gb240, 0, none⟩) (Kd.R_types HO243.out BK240.out (by decide)) (fun _ hk => hk.2) (.slice Ao60 t241.length co60)) (fun _ h_ => h_.1)))) (by decide)) hk (fun _ h => h.2)) (fun _ h => h.1)); have n4_ := am (KeepBut.trans qK hk (.inl rfl)); have n5_ := am (hb); replace HI0 := am (hi); clear BK240 HK HB; have BK240 := n2_; have HK := n4_; have HB := n5_; clear n2_ n4_ n5_; (try clear hb); (try clear hb2); (try clear hk); (try clear hi)))
    go_loopg [7] k (fun kq v7 w' => ∃ (x7_1 : Int) (x241000_1 : List Int) (u241000 : Value), v7 = .int .i64 x7_1 ∧ Aside0 (spec_l1Cur_poset.l0 kq x7_1 s0_0 t245 t246 x241000_1 = some (r1, r2, r3)) ∧ Aside0 (kq ≤ k) ∧ Aside0 (Kd.R (Kd.int .i64) 3 w' w.heap.size (fun _ => True) u241000 x241000_1) ∧ Aside0 (w'.heap[gb234]? = some (.cells #[(.slice none 0 0)] 26 (0, 0))) ∧ Aside0 (w'.heap[gb240]? = some (.cells #[u241000] 26 (0, 0))) ∧ Aside0 (IsS67 w0 w' g s0_0 t245 t246) ∧ Aside0 (KeepBut w w' g none) ∧ Aside0 (Below w0.heap.size w0 w'))
    case atStart => exact ⟨(0), (t241), (.slice Ao60 t241.length co60), qe, H', ⟨Nat.le_refl _⟩, ⟨qR (Kd.R_mono HO243.out (fun _ hk => trivial))⟩, ⟨qb BK234.out⟩, ⟨qb BK240.out⟩, ⟨qI67⟩, ⟨qK⟩, ⟨qB⟩⟩
    case round =>
     clear H'
     try clear c1
     try clear p1
     try clear q1
     try clear hx1
     try clear p2
     try clear c3
     try clear c4
     try clear c5
     try clear c6
     try clear c6b0
     try clear c6b1
     try clear p6
     try clear c8
     try clear c8b0
     try clear c8b1
     try clear c11
     try clear c11b0
     try clear c12
     try clear p12
     try clear q12
     try clear hx12
     try clear hf12
     try clear c17
     try clear c18
     try clear c34
     try clear c36
     try clear c36b0
     try clear c36b1
     try clear c41
     try clear c42
     try clear c49
     try clear c51
     try clear c51b0
     try clear c51b1
     try clear c56
     try clear c57
     try clear hcz19_0
     try clear hcz22_0
     try clear hcz24_0
     try clear hcz33_0
     try clear hcz35_0
     try clear hcz43_0
     try clear hcz46_0
     try clear hcz48_0
     try clear hcz50_0
     try clear hcz58_0
     try clear hcz61_0
     try clear hfz19_0
     try clear hfz22_0
     try clear hfz24_0
     try clear hfz33_0
     try clear hfz35_0
     try clear hfz43_0
     try clear hfz46_0
     try clear hfz48_0
     try clear hfz50_0
     try clear hfz58_0
     try clear hfz61_0
     try clear hx12_0
     try clear p12
     try clear q12
     obtain ⟨x7_1, x241000_1, u241000, rfl, HA, HK1, HO_241000, BK234, BK240, HI0, HK, HB⟩ := hrel
     cases gk with
     | zero => exact absurd HA.out (by simp [spec_l1Cur_poset.l0])
     | succ k1 =>
      have H := HA.out
      clear HA
      simp only [spec_l1Cur_poset.l0] at H
      by_cases c63 : x7_1 < 11
      ·rw [if_pos c63] at H
       have c63b0 := decide_eq_true c63
       clear c63
       by_cases c64 : x241000_1.length < 17592186044416
       rotate_left
       ·rw [if_neg c64] at H
        exact absurd H (by simp)
       rw [if_pos c64] at H
       have LMc64 := am c64
       clear c64
       obtain ⟨y257, hy257⟩ : ∃ y_ : List Int, y_ = (x241000_1 ++ [0]) := ⟨_, rfl⟩
       replace H : (spec_l1Cur_poset.l0 k1 (wrap64 (x7_1 + 1)) s0_0 t245 t246 y257) = some (r1, r2, r3) := by first | (rw [hy257]; with_reducible exact H) | (have H2_ := (Option.bind_some _ _).symm.trans H; rw [hy257]; with_reducible exact H2_) | (have H2_ := (Option.bind_some _ _).symm.trans H; with_reducible exact H2_) | with_reducible exact H | (rw [hy257]; exact H) | exact H
       have Ny257 := am hy257
       clear hy257
       have H' := am H
       clear H
       have hnb65 := NB240_234.out
       have hnc65 := NB234_240.out
       have hnb66 := NB240_0.out
       have hnc66 := NB0_240.out
       have hcz67_0 := qz wr BK240.out
       have hfz67_0 := blk_frozen BK240.out 0
       go_wp2_with (first | ((with_reducible refine gate_builtin (b := .append) (xs := #[.tmp 43, .tmp 44]) rfl ?_); at_builtin; refine Kd.R_append (Kd.int .i64) w.heap.size rfl (.tmp 43) (.tmp 44) 24 3 (.int .i64 0) 8 rfl Try.underlying24 info3 rfl (by decide) (by omega) u241000 x241000_1 0 [.int .i64 0] (fun _ => True) (fun _ => False) rfl rfl ?aP (fun _ hk => hk.elim) ?aF ?aO (Below.refl _ _) ?aS ?aL ?_; (case aP => exact rfl); (case aF => exact (fun _ _ => trivial)); (case aO => exact (qR HO_241000.out)); (case aS => exact (keep_size (w := w) (g := g) (row := none) qK)); (case aL => have := LMc64.out; omega); intro v258 w68 ho hb hg hat; rw [← Ny257.out] at ho; replace BK234 := am (blk_grown (g := gb234) (o := .cells #[.slice none 0 0] 26 (0, 0)) (qb BK234.out) hg (Kd.R_ne HO_241000.out BK234.out (by decide))); replace BK240 := am (blk_grown (g := gb240) (o := .cells #[u241000] 26 (0, 0)) (qb BK240.out) hg (Kd.R_ne HO_241000.out BK240.out (by decide))); have n2_ := am (IsS67.grown qI67 hg (IsS67.own_ne HI0.out HO_241000.out (by decide))); have n3_ := am (below_weaken qB HL.out hb); have n4_ := am (KeepBut.trans qK (KeepBut.of_grown hg g) (Kd.R_base2 HO_241000.out)); have HO259 := am (ho); clear HI0 HB HK HO_241000; have HI0 := n2_; have HB := n3_; have HK := n4_; clear n2_ n3_ n4_; clear ho hb hg hat; obtain ⟨Ao69, co69, eo69⟩ := Kd.R_slice HO259.out; subst eo69; have hcz70_0 := qz w68 BK240.out; have hfz70_0 := blk_frozen BK240.out 0))
       go_roundg k1
       case measure => have := HK1.out; omega
       case rel => exact ⟨(wrap64 (x7_1 + 1)), (y257), (.slice Ao69 y257.length co69), qe, H', ⟨by have := HK1.out; omega⟩, ⟨qR (Kd.R_mono (Kd.R_far (p := ⟨gb240, 0, none⟩) (Kd.R_types HO259.out BK240.out (by decide)) (fun _ hk => hk.2) (.slice Ao69 y257.length co69)) (fun _ hk => trivial))⟩, ⟨by (with_reducible repeat (first | refine blk_drewN ?_ _ | refine blk_drew ?_ | refine blk_alloc ?_ _)); refine blk_far ?_ NB234_240.out _; refine qb ?_; exact BK234.out⟩, ⟨by (with_reducible repeat (first | refine blk_drewN ?_ _ | refine blk_drew ?_ | refine blk_alloc ?_ _)); refine blk_put (cs := #[u241000]) ?_ 0 _ rfl; refine qb ?_; exact BK240.out⟩, ⟨qI67⟩, ⟨qK⟩, ⟨qB⟩⟩
      ·rw [if_neg c63] at H
       have c63b0 := decide_eq_false c63
       clear c63
       simp only [Option.some.injEq, Prod.mk.injEq] at H
       obtain ⟨rfl, rfl, rfl⟩ := H
       have hnb71 := NB240_234.out
       have hnc71 := NB234_240.out
       have hnb72 := NB240_0.out
       have hnc72 := NB0_240.out
       have hcz73_0 := qz wr BK240.out
       have hfz73_0 := blk_frozen BK240.out 0
       obtain ⟨Ao74, co74, eo74⟩ := Kd.R_slice HO_241000.out
       subst eo74
       have hnb75 := NB234_0.out
       have hnc75 := NB0_234.out
       have hcz76_0 := qz wr BK234.out
       have hfz76_0 := blk_frozen BK234.out 0
       go_wp2
       refine bodyPost_ret (results_cell_row rfl _ _ gb234 26 #[.slice Ao74 x241000_1.length co74] (0, 0) _ rfl (by (with_reducible repeat (first | refine blk_drewN ?_ _ | refine blk_drew ?_ | refine blk_alloc ?_ _)); refine blk_put (cs := #[.slice none 0 0]) ?_ 0 _ rfl; refine qb ?_; exact BK234.out) Try.underlying26 rfl (by kernel_rfl)) rfl ?_
       exact ⟨_, qr, qR (Kd.R_mono (Kd.R_far (p := ⟨gb234, 0, none⟩) (Kd.R_types HO_241000.out BK234.out (by decide)) (fun _ hk => hk.2) (.slice Ao74 x241000_1.length co74)) (fun _ hk => trivial)), qI67, qB, qK⟩
   ·rw [if_neg c51] at H
    have c51b0 : (t244 == 2) = false := beq_eq_false_iff_ne.mpr c51
    have c51b1 : (t244 != 2) = true := bne_iff_ne.mpr c51
    simp only [Option.some.injEq, Prod.mk.injEq] at H
    obtain ⟨rfl, rfl, rfl⟩ := H
    go_enter Try.func64, Try.ntmps64
    go_wp2_with (first | ((with_reducible refine gate_dst (N := 4) rfl ?_); refine qx (N := 4) (cs := #[.slice none 0 0]) (t := 26) ?_; intro gb234 hg w77 hbox hb; have n0_ := am (IsS67.below qI67 hb); have n1_ := am (KeepBut.trans qK (KeepBut.of_below hb g none) (.inl rfl)); have n2_ := am (below_step qB hb); have BK234 := am (hbox); have GW234 := am ((by rw [hg]; exact (keep_size (w := w) (g := g) (row := none) qK) : w.heap.size ≤ gb234)); have GE234 := am ((Nat.le_trans HW0.out (by rw [hg]; exact (keep_size (w := w) (g := g) (row := none) qK) : w.heap.size ≤ gb234) : w0.heap.size ≤ gb234)); have NB0_234 := am ((by rw [hg]; exact Nat.ne_of_lt (IsS67.lt (show IsS67 w0 _ g s0_0 s0_1 s0_2 from qI67)) : g ≠ gb234)); have NB234_0 := am ((by rw [hg]; exact Nat.ne_of_gt (IsS67.lt (show IsS67 w0 _ g s0_0 s0_1 s0_2 from qI67)) : gb234 ≠ g)); clear HI0 HK HB; have HI0 := n0_; have HK := n1_; have HB := n2_; clear n0_ n1_ n2_; clear hb hbox hg) | ((with_reducible refine gate_callee (f := 124) rfl ?_); refine gL (some 10) Try.func124 #[.pointer (some ⟨g, 0, none⟩), .int .i64 a1] ?_; (with_reducible refine (spec_l1Cur_surePoset.calls k g s0_0 s0_1 s0_2 a1 t235 t238 t239 w0 _ ?side1 ?side2 A3.out).mono ?_); (case side1 => exact qI67); (case side2 => exact qB); rintro e w78 ⟨v236, rfl, ho0, hi, hb, hk⟩; refine ⟨_, rfl, ?_⟩; replace BK234 := am (KeepBut.blk hk (g' := gb234) (o := .cells #[.slice none 0 0] 26 (0, 0)) (qb BK234.out) NB234_0.out (by simp)); have HO237 := am (Kd.R_lower ho0 (keep_size (w := w) (g := g) (row := none) qK)); have n2_ := am (KeepBut.trans qK hk (.inl rfl)); have n3_ := am (hb); replace HI0 := am (hi); clear HK HB; have HK := n2_; have HB := n3_; clear n2_ n3_; (try clear hb); (try clear hb2); (try clear hk); (try clear hi); (try clear ho0)) | ((with_reducible refine gate_dst (N := 5) rfl ?_); refine qx (N := 5) (cs := #[.slice none 0 0]) (t := 26) ?_; intro gb240 hg w79 hbox hb; replace HO237 := am (Kd.R_below (qR HO237.out) hb); have n1_ := am (IsS67.below qI67 hb); have n2_ := am (blk_below (g := gb234) (o := .cells #[.slice none 0 0] 26 (0, 0)) (qb BK234.out) hb); have n3_ := am (KeepBut.trans qK (KeepBut.of_below hb g none) (.inl rfl)); have n4_ := am (below_step qB hb); have BK240 := am (hbox); have GW240 := am ((by rw [hg]; exact (keep_size (w := w) (g := g) (row := none) qK) : w.heap.size ≤ gb240)); have GE240 := am ((Nat.le_trans HW0.out (by rw [hg]; exact (keep_size (w := w) (g := g) (row := none) qK) : w.heap.size ≤ gb240) : w0.heap.size ≤ gb240)); have NB234_240 := am ((by rw [hg]; exact Nat.ne_of_lt (blk_lt (g := gb234) (o := .cells #[.slice none 0 0] 26 (0, 0)) (qb BK234.out)) : gb234 ≠ gb240)); have NB240_234 := am ((by rw [hg]; exact Nat.ne_of_gt (blk_lt (g := gb234) (o := .cells #[.slice none 0 0] 26 (0, 0)) (qb BK234.out)) : gb240 ≠ gb234)); have NB0_240 := am ((by rw [hg]; exact Nat.ne_of_lt (IsS67.lt (show IsS67 w0 _ g s0_0 t238 t239 from qI67)) : g ≠ gb240)); have NB240_0 := am ((by rw [hg]; exact Nat.ne_of_gt (IsS67.lt (show IsS67 w0 _ g s0_0 t238 t239 from qI67)) : gb240 ≠ g)); clear HI0 BK234 HK HB; have HI0 := n1_; have BK234 := n2_; have HK := n3_; have HB := n4_; clear n1_ n2_ n3_ n4_; clear hb hbox hg; obtain ⟨Ao80, co80, eo80⟩ := Kd.R_slice HO237.out; subst eo80; have hnb81 := NB240_234.out; have hnc81 := NB234_240.out; have hnb82 := NB240_0.out; have hnc82 := NB0_240.out; have hcz83_0 := qz w79 BK240.out; have hfz83_0 := blk_frozen BK240.out 0) | ((with_reducible refine gate_callee (f := 125) rfl ?_); refine gL (some 13) Try.func125 #[.slice Ao80 t235.length co80] ?_; (with_reducible refine (spec_l1Own.calls _ _ t235 t241 _ ?side1 ?side2 A4.out).mono ?_); (case side1 => refine (Kd.R_reads' (e := 3) (base := w.heap.size) (ok := fun k_ => True) (n := t235.length) (c := co80) ?_).2.2; exact (qR ((Kd.R_mono (Kd.R_far (p := ⟨gb240, 0, none⟩) (Kd.R_types HO237.out BK240.out (by decide)) (fun _ hk => hk.2) (.slice Ao80 t235.length co80)) (fun _ h_ => h_.1))))); (case side2 => exact (Kd.R_reads' HO237.out).2.1); rintro e w84 ⟨v242, rfl, ho0, hb⟩; refine ⟨_, rfl, ?_⟩; have n0_ := am (Kd.R_elder' (qR ((Kd.R_mono (Kd.R_far (p := ⟨gb240, 0, none⟩) (Kd.R_types HO237.out BK240.out (by decide)) (fun _ hk => hk.2) (.slice Ao80 t235.length co80)) (fun _ h_ => h_.1)))) (Kd.R_base ho0) hb); have HO243 := am (Kd.R_lower (Kd.R_new' ho0 (Kd.R_lt (qR ((Kd.R_mono (Kd.R_far (p := ⟨gb240, 0, none⟩) (Kd.R_types HO237.out BK240.out (by decide)) (fun _ hk => hk.2) (.slice Ao80 t235.length co80)) (fun _ h_ => h_.1)))))) (keep_size (w := w) (g := g) (row := none) qK)); have n2_ := am (IsS67.below (show IsS67 w0 (w79.setCell ⟨gb240, 0, none⟩ (.slice Ao80 t235.length co80)) g s0_0 t238 t239 from qI67) hb); replace BK234 := am (blk_below (g := gb234) (o := .cells #[.slice none 0 0] 26 (0, 0)) (by (with_reducible repeat (first | refine blk_drewN ?_ _ | refine blk_drew ?_ | refine blk_alloc ?_ _)); refine blk_far ?_ NB234_240.out _; refine qb ?_; exact BK234.out) hb); replace BK240 := am (blk_below (g := gb240) (o := .cells #[.slice Ao80 t235.length co80] 26 (0, 0)) (by (with_reducible repeat (first | refine blk_drewN ?_ _ | refine blk_drew ?_ | refine blk_alloc ?_ _)); refine blk_put (cs := #[.slice none 0 0]) ?_ 0 _ rfl; refine qb ?_; exact BK240.out) hb); have n5_ := am (KeepBut.trans qK (KeepBut.of_below hb g none) (.inl rfl)); replace HB := am (below_step qB hb); clear HO237 HI0 HK; have HO237 := n0_; have HI0 := n2_; have HK := n5_; clear n0_ n2_ n5_; (try clear hb); (try clear hb2); (try clear hk); (try clear hi); (try clear ho0); obtain ⟨Ao85, co85, eo85⟩ := Kd.R_slice HO243.out; subst eo85; have hcz86_0 := qz w84 BK240.out; have hfz86_0 := blk_frozen BK240.out 0) | ((with_reducible refine gate_callee (f := 68) rfl ?_); refine gL (some 16) Try.func68 #[.pointer (some ⟨g, 0, none⟩), .int .i64 20] ?_; (with_reducible refine (spec_l1Cur_pick.calls g s0_0 t238 t239 20 t244 t245 t246 w0 _ ?side1 ?side2 A5.out).mono ?_); (case side1 => exact qI67); (case side2 => exact qB); rintro e w87 ⟨rfl, hi, hb, hk⟩; refine ⟨_, rfl, ?_⟩; replace BK234 := am (KeepBut.blk hk (g' := gb234) (o := .cells #[.slice none 0 0] 26 (0, 0)) (by (with_reducible repeat (first | refine blk_drewN ?_ _ | refine blk_drew ?_ | refine blk_alloc ?_ _)); refine blk_far ?_ NB234_240.out _; refine qb ?_; exact BK234.out) NB234_0.out (by simp)); replace HO237 := am (Kd.R_mono (Kd.R_keep (IsS67.apart (show IsS67 w0 _ g s0_0 t238 t239 from qI67) (qR ((Kd.R_mono (Kd.R_far (p := ⟨gb240, 0, none⟩) (Kd.R_types HO237.out BK240.out (by decide)) (fun _ hk => hk.2) (.slice Ao85 t241.length co85)) (fun _ h_ => h_.1)))) (by decide)) hk (fun _ h => h.2)) (fun _ h => h.1)); have n2_ := am (KeepBut.blk hk (g' := gb240) (o := .cells #[.slice Ao85 t241.length co85] 26 (0, 0)) (by (with_reducible repeat (first | refine blk_drewN ?_ _ | refine blk_drew ?_ | refine blk_alloc ?_ _)); refine blk_put (cs := #[.slice Ao80 t235.length co80]) ?_ 0 _ rfl; refine qb ?_; exact BK240.out) NB240_0.out (by simp)); replace HO243 := am (Kd.R_mono (Kd.R_keep (IsS67.apart (show IsS67 w0 _ g s0_0 t238 t239 from qI67) (qR ((Kd.R_mono (Kd.R_far (p := ⟨gb240, 0, none⟩) (Kd.R_types HO243.out BK240.out (by decide)) (fun _ hk => hk.2) (.slice Ao85 t241.length co85)) (fun _ h_ => h_.1)))) (by decide)) hk (fun _ h => h.2)) (fun _ h => h.1)); have n4_ := am (KeepBut.trans qK hk (.inl rfl)); have n5_ := am (hb); replace HI0 := am (hi); clear BK240 HK HB; have BK240 := n2_; have HK := n4_; have HB := n5_; clear n2_ n4_ n5_; (try clear hb); (try clear hb2); (try clear hk); (try clear hi); have hcz88_0 := qz w87 BK240.out; have hfz88_0 := blk_frozen BK240.out 0; have hnb89 := NB234_0.out; have hnc89 := NB0_234.out; have hcz90_0 := qz w87 BK234.out; have hfz90_0 := blk_frozen BK234.out 0))
    refine bodyPost_ret (results_cell_row rfl _ _ gb234 26 #[.slice Ao85 t241.length co85] (0, 0) _ rfl (by (with_reducible repeat (first | refine blk_drewN ?_ _ | refine blk_drew ?_ | refine blk_alloc ?_ _)); refine blk_put (cs := #[.slice none 0 0]) ?_ 0 _ rfl; refine qb ?_; exact BK234.out) Try.underlying26 rfl (by kernel_rfl)) rfl ?_
    exact ⟨_, qr, qR (Kd.R_mono (Kd.R_far (p := ⟨gb234, 0, none⟩) (Kd.R_types HO243.out BK234.out (by decide)) (fun _ hk => hk.2) (.slice Ao85 t241.length co85)) (fun _ hk => trivial)), qI67, qB, qK⟩
def spec_l1Cur_linear.f (k : Nat) (s0_0 : List Int) (s0_1 : Int) (s0_2 : Int) (a1 : Int) : Option (List Int × List Int × Int × Int) := (spec_l1Cur_poset.f k s0_0 s0_1 s0_2 a1).bind fun bt1071 => ((spec_poGood.f k bt1071.1).bind fun t1077 => (if t1077 = true then ((spec_liCounts.f k bt1071.1).bind fun t1081 => (if 0 < (t1081.length : Int) then ((spec_l1Least.f (rd t1081 0) 100000).bind fun t1085 => ((spec_l1Cur_pick.f s0_0 bt1071.2.1 bt1071.2.2 t1085).bind fun bt1086 => ((spec_liWith.f k bt1071.1 t1081 bt1086.1).bind fun t1089 => ((spec_l1Cur_pick.f s0_0 bt1086.2.1 bt1086.2.2 14).bind fun bt1092 => (if bt1092.1 = 0 then ((spec_l1Cur_pick.f s0_0 bt1092.2.1 bt1092.2.2 (t1089.length : Int)).bind fun bt1095 => ((spec_l1Cur_pick.f s0_0 bt1095.2.1 bt1095.2.2 (wrap64 ((t1089.length : Int) + 2))).bind fun bt1098 => (if 0 ≤ bt1095.1 then (if bt1095.1 < (t1089.length : Int) then (some (bt1071.1, (t1089.set (bt1095.1 : Int).toNat (wrap64 (bt1098.1 - 1))), bt1098.2.1, bt1098.2.2)) else (none)) else (none)))) else (if bt1092.1 = 1 then (if t1089.length < 17592186044416 then (some (bt1071.1, (t1089 ++ [0]), bt1092.2.1, bt1092.2.2)) else (none)) else (some (bt1071.1, t1089, bt1092.2.1, bt1092.2.2)))))))) else (none))) else (some (bt1071.1, (([0] : List Int)), bt1071.2.1, bt1071.2.2))))
theorem spec_l1Cur_linear.mono : ∀ a0 a1 a2 a3 k, LeO (spec_l1Cur_linear.f k a0 a1 a2 a3) (spec_l1Cur_linear.f (k + 1) a0 a1 a2 a3) := by
 intro a0 a1 a2 a3 k
 unfold spec_l1Cur_linear.f
 repeat' first
  | (with_reducible exact spec_l1Cur_poset.mono _ _ _ _ _)
  | (with_reducible exact spec_liCounts.mono _ _)
  | (with_reducible exact spec_liWith.mono _ _ _ _)
  | (with_reducible exact spec_poGood.mono _ _)
  | (with_reducible exact LeO.refl _)
  | (with_reducible exact LeO.none _)
  | (with_reducible refine LeO.ite ?_ ?_)
  | (with_reducible refine LeO.bind ?_ (fun _ => ?_))
  | exact spec_l1Cur_poset.mono _ _ _ _ _
  | exact spec_liCounts.mono _ _
  | exact spec_liWith.mono _ _ _ _
  | exact spec_poGood.mono _ _
  | exact LeO.none _
  | refine LeO.ite ?_ ?_
  | refine LeO.bind ?_ (fun _ => ?_)
def spec_l1Cur_linear.T5 : Bool × List (List Nat × List Nat) := (true, [([], []), ([], []), ([], []), ([], []), ([3], [3]), ([4], [4]), ([5], [5]), ([2, 6, 6], [2, 6]), ([0, 1, 7, 7], [0, 1, 7]), ([8, 8, 0, 1, 2, 3, 4, 5, 6, 7, 8], [8])])
def spec_l1Cur_linear.B5 : List Nat := [0, 0, 0, 0, 8, 24, 56, 124, 255, 511]
theorem spec_l1Cur_linear.tab5 : rtab .any (opsOf Try.f149 5) = spec_l1Cur_linear.T5 := by kernel_rfl
theorem spec_l1Cur_linear.bits5 : waitsOk spec_l1Cur_linear.T5.2 spec_l1Cur_linear.B5 = true := by kernel_rfl
set_option maxHeartbeats 8000000 in
set_option maxRecDepth 100000 in
theorem spec_l1Cur_linear.calls (k : Nat) (g : Nat) (s0_0 : List Int) (s0_1 : Int) (s0_2 : Int) (a1 : Int) (r1 : List Int) (r2 : List Int) (r3 : Int) (r4 : Int) (w0 w : World) (hI : IsS67 w0 w g s0_0 s0_1 s0_2) (hB : Below w0.heap.size w0 w) (h : spec_l1Cur_linear.f k s0_0 s0_1 s0_2 a1 = some (r1, r2, r3, r4)) :
 Calls Try.prog 149 #[.pointer (some ⟨g, 0, none⟩), .int .i64 a1] w fun e w' => ∃ v0_ v1_ : Value, e = .returned (.tuple #[.agg #[v0_], v1_]) ∧ Kd.R (Kd.int .i64) 3 w' w.heap.size (fun k_ => some k_ ≠ (v1_ : Value).ownBlock) v0_ r1 ∧ Kd.R (Kd.int .i64) 3 w' w.heap.size (fun k_ => some k_ ≠ (v0_ : Value).ownBlock) v1_ r2 ∧ IsS67 w0 w' g s0_0 r3 r4 ∧ Below w0.heap.size w0 w' ∧ KeepBut w w' g none := by
 have hu26 := Try.underlying26
 have HI0 := am hI
 have HK := am (KeepBut.refl w g none)
 have HL := am hB.size
 clear hI
 have HW0 := am hB.size
 have HB := am hB
 clear hB
 have H : ((spec_l1Cur_poset.f k s0_0 s0_1 s0_2 a1).bind fun bt1071 => ((spec_poGood.f k bt1071.1).bind fun t1077 => (if t1077 = true then ((spec_liCounts.f k bt1071.1).bind fun t1081 => (if 0 < (t1081.length : Int) then ((spec_l1Least.f (rd t1081 0) 100000).bind fun t1085 => ((spec_l1Cur_pick.f s0_0 bt1071.2.1 bt1071.2.2 t1085).bind fun bt1086 => ((spec_liWith.f k bt1071.1 t1081 bt1086.1).bind fun t1089 => ((spec_l1Cur_pick.f s0_0 bt1086.2.1 bt1086.2.2 14).bind fun bt1092 => (if bt1092.1 = 0 then ((spec_l1Cur_pick.f s0_0 bt1092.2.1 bt1092.2.2 (t1089.length : Int)).bind fun bt1095 => ((spec_l1Cur_pick.f s0_0 bt1095.2.1 bt1095.2.2 (wrap64 ((t1089.length : Int) + 2))).bind fun bt1098 => (if 0 ≤ bt1095.1 then (if bt1095.1 < (t1089.length : Int) then (some (bt1071.1, (t1089.set (bt1095.1 : Int).toNat (wrap64 (bt1098.1 - 1))), bt1098.2.1, bt1098.2.2)) else (none)) else (none)))) else (if bt1092.1 = 1 then (if t1089.length < 17592186044416 then (some (bt1071.1, (t1089 ++ [0]), bt1092.2.1, bt1092.2.2)) else (none)) else (some (bt1071.1, t1089, bt1092.2.1, bt1092.2.2)))))))) else (none))) else (some (bt1071.1, (([0] : List Int)), bt1071.2.1, bt1071.2.2))))) = some (r1, r2, r3, r4) := h
 clear h
 replace H := Option.bind_eq_some_iff.mp H
 obtain ⟨⟨t1071, t1074, t1075⟩, A30, H⟩ := H
 replace H : ((spec_poGood.f k t1071).bind fun t1077 => (if t1077 = true then ((spec_liCounts.f k t1071).bind fun t1081 => (if 0 < (t1081.length : Int) then ((spec_l1Least.f (rd t1081 0) 100000).bind fun t1085 => ((spec_l1Cur_pick.f s0_0 t1074 t1075 t1085).bind fun bt1086 => ((spec_liWith.f k t1071 t1081 bt1086.1).bind fun t1089 => ((spec_l1Cur_pick.f s0_0 bt1086.2.1 bt1086.2.2 14).bind fun bt1092 => (if bt1092.1 = 0 then ((spec_l1Cur_pick.f s0_0 bt1092.2.1 bt1092.2.2 (t1089.length : Int)).bind fun bt1095 => ((spec_l1Cur_pick.f s0_0 bt1095.2.1 bt1095.2.2 (wrap64 ((t1089.length : Int) + 2))).bind fun bt1098 => (if 0 ≤ bt1095.1 then (if bt1095.1 < (t1089.length : Int) then (some (t1071, (t1089.set (bt1095.1 : Int).toNat (wrap64 (bt1098.1 - 1))), bt1098.2.1, bt1098.2.2)) else (none)) else (none)))) else (if bt1092.1 = 1 then (if t1089.length < 17592186044416 then (some (t1071, (t1089 ++ [0]), bt1092.2.1, bt1092.2.2)) else (none)) else (some (t1071, t1089, bt1092.2.1, bt1092.2.2)))))))) else (none))) else (some (t1071, (([0] : List Int)), t1074, t1075)))) = some (r1, r2, r3, r4) := H
 have A3 := am A30
 clear A30
 replace H := Option.bind_eq_some_iff.mp H
 obtain ⟨t1077, A40, H⟩ := H
 replace H : (if t1077 = true then ((spec_liCounts.f k t1071).bind fun t1081 => (if 0 < (t1081.length : Int) then ((spec_l1Least.f (rd t1081 0) 100000).bind fun t1085 => ((spec_l1Cur_pick.f s0_0 t1074 t1075 t1085).bind fun bt1086 => ((spec_liWith.f k t1071 t1081 bt1086.1).bind fun t1089 => ((spec_l1Cur_pick.f s0_0 bt1086.2.1 bt1086.2.2 14).bind fun bt1092 => (if bt1092.1 = 0 then ((spec_l1Cur_pick.f s0_0 bt1092.2.1 bt1092.2.2 (t1089.length : Int)).bind fun bt1095 => ((spec_l1Cur_pick.f s0_0 bt1095.2.1 bt1095.2.2 (wrap64 ((t1089.length : Int) + 2))).bind fun bt1098 => (if 0 ≤ bt1095.1 then (if bt1095.1 < (t1089.length : Int) then (some (t1071, (t1089.set (bt1095.1 : Int).toNat (wrap64 (bt1098.1 - 1))), bt1098.2.1, bt1098.2.2)) else (none)) else (none)))) else (if bt1092.1 = 1 then (if t1089.length < 17592186044416 then (some (t1071, (t1089 ++ [0]), bt1092.2.1, bt1092.2.2)) else (none)) else (some (t1071, t1089, bt1092.2.1, bt1092.2.2)))))))) else (none))) else (some (t1071, (([0] : List Int)), t1074, t1075))) = some (r1, r2, r3, r4) := H
 have A4 := am A40
 clear A40
 by_cases c5 : t1077 = true
 ·subst c5
  have H1 : ((spec_liCounts.f k t1071).bind fun t1081 => (if 0 < (t1081.length : Int) then ((spec_l1Least.f (rd t1081 0) 100000).bind fun t1085 => ((spec_l1Cur_pick.f s0_0 t1074 t1075 t1085).bind fun bt1086 => ((spec_liWith.f k t1071 t1081 bt1086.1).bind fun t1089 => ((spec_l1Cur_pick.f s0_0 bt1086.2.1 bt1086.2.2 14).bind fun bt1092 => (if bt1092.1 = 0 then ((spec_l1Cur_pick.f s0_0 bt1092.2.1 bt1092.2.2 (t1089.length : Int)).bind fun bt1095 => ((spec_l1Cur_pick.f s0_0 bt1095.2.1 bt1095.2.2 (wrap64 ((t1089.length : Int) + 2))).bind fun bt1098 => (if 0 ≤ bt1095.1 then (if bt1095.1 < (t1089.length : Int) then (some (t1071, (t1089.set (bt1095.1 : Int).toNat (wrap64 (bt1098.1 - 1))), bt1098.2.1, bt1098.2.2)) else (none)) else (none)))) else (if bt1092.1 = 1 then (if t1089.length < 17592186044416 then (some (t1071, (t1089 ++ [0]), bt1092.2.1, bt1092.2.2)) else (none)) else (some (t1071, t1089, bt1092.2.1, bt1092.2.2)))))))) else (none))) = some (r1, r2, r3, r4) := by rw [if_pos rfl] at H; exact H
  clear H
  have H := H1
  clear H1
  replace H := Option.bind_eq_some_iff.mp H
  obtain ⟨t1081, A60, H⟩ := H
  replace H : (if 0 < (t1081.length : Int) then ((spec_l1Least.f (rd t1081 0) 100000).bind fun t1085 => ((spec_l1Cur_pick.f s0_0 t1074 t1075 t1085).bind fun bt1086 => ((spec_liWith.f k t1071 t1081 bt1086.1).bind fun t1089 => ((spec_l1Cur_pick.f s0_0 bt1086.2.1 bt1086.2.2 14).bind fun bt1092 => (if bt1092.1 = 0 then ((spec_l1Cur_pick.f s0_0 bt1092.2.1 bt1092.2.2 (t1089.length : Int)).bind fun bt1095 => ((spec_l1Cur_pick.f s0_0 bt1095.2.1 bt1095.2.2 (wrap64 ((t1089.length : Int) + 2))).bind fun bt1098 => (if 0 ≤ bt1095.1 then (if bt1095.1 < (t1089.length : Int) then (some (t1071, (t1089.set (bt1095.1 : Int).toNat (wrap64 (bt1098.1 - 1))), bt1098.2.1, bt1098.2.2)) else (none)) else (none)))) else (if bt1092.1 = 1 then (if t1089.length < 17592186044416 then (some (t1071, (t1089 ++ [0]), bt1092.2.1, bt1092.2.2)) else (none)) else (some (t1071, t1089, bt1092.2.1, bt1092.2.2)))))))) else (none)) = some (r1, r2, r3, r4) := H
  have A6 := am A60
  clear A60
  by_cases c7 : 0 < (t1081.length : Int)
  rotate_left
  ·rw [if_neg c7] at H
   exact absurd H (by simp)
  rw [if_pos c7] at H
  have c7b0 := decide_eq_true c7
  have c7b1 : decide (0 < t1081.length) = true := decide_eq_true (by omega)
  clear c7
  replace H := Option.bind_eq_some_iff.mp H
  obtain ⟨t1085, A80, H⟩ := H
  replace H : ((spec_l1Cur_pick.f s0_0 t1074 t1075 t1085).bind fun bt1086 => ((spec_liWith.f k t1071 t1081 bt1086.1).bind fun t1089 => ((spec_l1Cur_pick.f s0_0 bt1086.2.1 bt1086.2.2 14).bind fun bt1092 => (if bt1092.1 = 0 then ((spec_l1Cur_pick.f s0_0 bt1092.2.1 bt1092.2.2 (t1089.length : Int)).bind fun bt1095 => ((spec_l1Cur_pick.f s0_0 bt1095.2.1 bt1095.2.2 (wrap64 ((t1089.length : Int) + 2))).bind fun bt1098 => (if 0 ≤ bt1095.1 then (if bt1095.1 < (t1089.length : Int) then (some (t1071, (t1089.set (bt1095.1 : Int).toNat (wrap64 (bt1098.1 - 1))), bt1098.2.1, bt1098.2.2)) else (none)) else (none)))) else (if bt1092.1 = 1 then (if t1089.length < 17592186044416 then (some (t1071, (t1089 ++ [0]), bt1092.2.1, bt1092.2.2)) else (none)) else (some (t1071, t1089, bt1092.2.1, bt1092.2.2))))))) = some (r1, r2, r3, r4) := H
  have A8 := am A80
  clear A80
  replace H := Option.bind_eq_some_iff.mp H
  obtain ⟨⟨t1086, t1087, t1088⟩, A90, H⟩ := H
  replace H : ((spec_liWith.f k t1071 t1081 t1086).bind fun t1089 => ((spec_l1Cur_pick.f s0_0 t1087 t1088 14).bind fun bt1092 => (if bt1092.1 = 0 then ((spec_l1Cur_pick.f s0_0 bt1092.2.1 bt1092.2.2 (t1089.length : Int)).bind fun bt1095 => ((spec_l1Cur_pick.f s0_0 bt1095.2.1 bt1095.2.2 (wrap64 ((t1089.length : Int) + 2))).bind fun bt1098 => (if 0 ≤ bt1095.1 then (if bt1095.1 < (t1089.length : Int) then (some (t1071, (t1089.set (bt1095.1 : Int).toNat (wrap64 (bt1098.1 - 1))), bt1098.2.1, bt1098.2.2)) else (none)) else (none)))) else (if bt1092.1 = 1 then (if t1089.length < 17592186044416 then (some (t1071, (t1089 ++ [0]), bt1092.2.1, bt1092.2.2)) else (none)) else (some (t1071, t1089, bt1092.2.1, bt1092.2.2)))))) = some (r1, r2, r3, r4) := H
  have A9 := am A90
  clear A90
  replace H := Option.bind_eq_some_iff.mp H
  obtain ⟨t1089, A100, H⟩ := H
  replace H : ((spec_l1Cur_pick.f s0_0 t1087 t1088 14).bind fun bt1092 => (if bt1092.1 = 0 then ((spec_l1Cur_pick.f s0_0 bt1092.2.1 bt1092.2.2 (t1089.length : Int)).bind fun bt1095 => ((spec_l1Cur_pick.f s0_0 bt1095.2.1 bt1095.2.2 (wrap64 ((t1089.length : Int) + 2))).bind fun bt1098 => (if 0 ≤ bt1095.1 then (if bt1095.1 < (t1089.length : Int) then (some (t1071, (t1089.set (bt1095.1 : Int).toNat (wrap64 (bt1098.1 - 1))), bt1098.2.1, bt1098.2.2)) else (none)) else (none)))) else (if bt1092.1 = 1 then (if t1089.length < 17592186044416 then (some (t1071, (t1089 ++ [0]), bt1092.2.1, bt1092.2.2)) else (none)) else (some (t1071, t1089, bt1092.2.1, bt1092.2.2))))) = some (r1, r2, r3, r4) := H
  have A10 := am A100
  clear A100
  replace H := Option.bind_eq_some_iff.mp H
  obtain ⟨⟨t1092, t1093, t1094⟩, A110, H⟩ := H
  replace H : (if t1092 = 0 then ((spec_l1Cur_pick.f s0_0 t1093 t1094 (t1089.length : Int)).bind fun bt1095 => ((spec_l1Cur_pick.f s0_0 bt1095.2.1 bt1095.2.2 (wrap64 ((t1089.length : Int) + 2))).bind fun bt1098 => (if 0 ≤ bt1095.1 then (if bt1095.1 < (t1089.length : Int) then (some (t1071, (t1089.set (bt1095.1 : Int).toNat (wrap64 (bt1098.1 - 1))), bt1098.2.1, bt1098.2.2)) else (none)) else (none)))) else (if t1092 = 1 then (if t1089.length < 17592186044416 then (some (t1071, (t1089 ++ [0]), t1093, t1094)) else (none)) else (some (t1071, t1089, t1093, t1094)))) = some (r1, r2, r3, r4) := H
  have A11 := am A110
  clear A110
  by_cases c12 : t1092 = 0
  ·rw [if_pos c12] at H
   have c12b0 : (t1092 == 0) = true := beq_iff_eq.mpr c12
   have c12b1 : (t1092 != 0) = false := bne_eq_false_iff_eq.mpr c12
   clear c12
   replace H := Option.bind_eq_some_iff.mp H
   obtain ⟨⟨t1095, t1096, t1097⟩, A130, H⟩ := H
   replace H : ((spec_l1Cur_pick.f s0_0 t1096 t1097 (wrap64 ((t1089.length : Int) + 2))).bind fun bt1098 => (if 0 ≤ t1095 then (if t1095 < (t1089.length : Int) then (some (t1071, (t1089.set (t1095 : Int).toNat (wrap64 (bt1098.1 - 1))), bt1098.2.1, bt1098.2.2)) else (none)) else (none))) = some (r1, r2, r3, r4) := H
   have A13 := am A130
   clear A130
   replace H := Option.bind_eq_some_iff.mp H
   obtain ⟨⟨t1098, t1099, t1100⟩, A140, H⟩ := H
   replace H : (if 0 ≤ t1095 then (if t1095 < (t1089.length : Int) then (some (t1071, (t1089.set (t1095 : Int).toNat (wrap64 (t1098 - 1))), t1099, t1100)) else (none)) else (none)) = some (r1, r2, r3, r4) := H
   have A14 := am A140
   clear A140
   by_cases c15 : 0 ≤ t1095
   rotate_left
   ·rw [if_neg c15] at H
    exact absurd H (by simp)
   rw [if_pos c15] at H
   have c15b0 := decide_eq_true c15
   clear c15
   by_cases c16 : t1095 < (t1089.length : Int)
   rotate_left
   ·rw [if_neg c16] at H
    exact absurd H (by simp)
   rw [if_pos c16] at H
   have c16b0 := decide_eq_true c16
   clear c16
   obtain ⟨y1101, hy1101⟩ : ∃ y_ : List Int, y_ = (t1089.set (t1095 : Int).toNat (wrap64 (t1098 - 1))) := ⟨_, rfl⟩
   replace H : (some (t1071, y1101, t1099, t1100)) = some (r1, r2, r3, r4) := by first | (rw [hy1101]; with_reducible exact H) | (have H2_ := (Option.bind_some _ _).symm.trans H; rw [hy1101]; with_reducible exact H2_) | (have H2_ := (Option.bind_some _ _).symm.trans H; with_reducible exact H2_) | with_reducible exact H | (rw [hy1101]; exact H) | exact H
   have Ny1101 := am hy1101
   clear hy1101
   simp only [Option.some.injEq, Prod.mk.injEq] at H
   obtain ⟨rfl, rfl, rfl, rfl⟩ := H
   go_enter Try.func149, Try.ntmps149
   try go_wp2_with (first | ((with_reducible refine gate_dst (N := 4) rfl ?_); refine qx (N := 4) (cs := #[.slice none 0 0]) (t := 26) ?_; intro gb1070 hg w18 hbox hb; have n0_ := am (IsS67.below qI67 hb); have n1_ := am (KeepBut.trans qK (KeepBut.of_below hb g none) (.inl rfl)); have n2_ := am (below_step qB hb); have BK1070 := am (hbox); have GW1070 := am ((by rw [hg]; exact (keep_size (w := w) (g := g) (row := none) qK) : w.heap.size ≤ gb1070)); have GE1070 := am ((Nat.le_trans HW0.out (by rw [hg]; exact (keep_size (w := w) (g := g) (row := none) qK) : w.heap.size ≤ gb1070) : w0.heap.size ≤ gb1070)); have NB0_1070 := am ((by rw [hg]; exact Nat.ne_of_lt (IsS67.lt (show IsS67 w0 _ g s0_0 s0_1 s0_2 from qI67)) : g ≠ gb1070)); have NB1070_0 := am ((by rw [hg]; exact Nat.ne_of_gt (IsS67.lt (show IsS67 w0 _ g s0_0 s0_1 s0_2 from qI67)) : gb1070 ≠ g)); clear HI0 HK HB; have HI0 := n0_; have HK := n1_; have HB := n2_; clear n0_ n1_ n2_; clear hb hbox hg) | ((with_reducible refine gate_callee (f := 64) rfl ?_); refine gL (some 11) Try.func64 #[.pointer (some ⟨g, 0, none⟩), .int .i64 a1] ?_; (with_reducible refine (spec_l1Cur_poset.calls k g s0_0 s0_1 s0_2 a1 t1071 t1074 t1075 w0 _ ?side1 ?side2 A3.out).mono ?_); (case side1 => exact qI67); (case side2 => exact qB); rintro e w19 ⟨v1072, rfl, ho0, hi, hb, hk⟩; refine ⟨_, rfl, ?_⟩; replace BK1070 := am (KeepBut.blk hk (g' := gb1070) (o := .cells #[.slice none 0 0] 26 (0, 0)) (qb BK1070.out) NB1070_0.out (by simp)); have HO1073 := am (Kd.R_lower ho0 (keep_size (w := w) (g := g) (row := none) qK)); have n2_ := am (KeepBut.trans qK hk (.inl rfl)); have n3_ := am (hb); replace HI0 := am (hi); clear HK HB; have HK := n2_; have HB := n3_; clear n2_ n3_; (try clear hb); (try clear hb2); (try clear hk); (try clear hi); (try clear ho0)) | ((with_reducible refine gate_dst (N := 6) rfl ?_); refine qx (N := 6) (cs := #[.slice none 0 0]) (t := 26) ?_; intro gb1076 hg w20 hbox hb; replace HO1073 := am (Kd.R_below (qR HO1073.out) hb); have n1_ := am (IsS67.below qI67 hb); have n2_ := am (blk_below (g := gb1070) (o := .cells #[.slice none 0 0] 26 (0, 0)) (qb BK1070.out) hb); have n3_ := am (KeepBut.trans qK (KeepBut.of_below hb g none) (.inl rfl)); have n4_ := am (below_step qB hb); have BK1076 := am (hbox); have GW1076 := am ((by rw [hg]; exact (keep_size (w := w) (g := g) (row := none) qK) : w.heap.size ≤ gb1076)); have GE1076 := am ((Nat.le_trans HW0.out (by rw [hg]; exact (keep_size (w := w) (g := g) (row := none) qK) : w.heap.size ≤ gb1076) : w0.heap.size ≤ gb1076)); have NB1070_1076 := am ((by rw [hg]; exact Nat.ne_of_lt (blk_lt (g := gb1070) (o := .cells #[.slice none 0 0] 26 (0, 0)) (qb BK1070.out)) : gb1070 ≠ gb1076)); have NB1076_1070 := am ((by rw [hg]; exact Nat.ne_of_gt (blk_lt (g := gb1070) (o := .cells #[.slice none 0 0] 26 (0, 0)) (qb BK1070.out)) : gb1076 ≠ gb1070)); have NB0_1076 := am ((by rw [hg]; exact Nat.ne_of_lt (IsS67.lt (show IsS67 w0 _ g s0_0 t1074 t1075 from qI67)) : g ≠ gb1076)); have NB1076_0 := am ((by rw [hg]; exact Nat.ne_of_gt (IsS67.lt (show IsS67 w0 _ g s0_0 t1074 t1075 from qI67)) : gb1076 ≠ g)); clear HI0 BK1070 HK HB; have HI0 := n1_; have BK1070 := n2_; have HK := n3_; have HB := n4_; clear n1_ n2_ n3_ n4_; clear hb hbox hg; obtain ⟨Ao21, co21, eo21⟩ := Kd.R_slice HO1073.out; subst eo21; have hnb22 := NB1076_1070.out; have hnc22 := NB1070_1076.out; have hnb23 := NB1076_0.out; have hnc23 := NB0_1076.out; have hcz24_0 := qz w20 BK1076.out; have hfz24_0 := blk_frozen BK1076.out 0) | ((with_reducible refine gate_callee (f := 82) rfl ?_); refine gL (some 13) Try.func82 #[.agg #[.slice Ao21 t1071.length co21]] ?_; (with_reducible refine (spec_poGood.calls k _ _ t1071 true _ ?side1 ?side2 A4.out).mono ?_); (case side1 => refine (Kd.R_reads' (e := 3) (base := w.heap.size) (ok := fun k_ => True) (n := t1071.length) (c := co21) ?_).2.2; exact (qR ((Kd.R_mono (Kd.R_far (p := ⟨gb1076, 0, none⟩) (Kd.R_types HO1073.out BK1076.out (by decide)) (fun _ hk => hk.2) (.slice Ao21 t1071.length co21)) (fun _ h_ => h_.1))))); (case side2 => exact (Kd.R_reads' HO1073.out).2.1); rintro e w25 ⟨rfl, hb⟩; refine ⟨_, rfl, ?_⟩; replace HO1073 := am (Kd.R_below (qR ((Kd.R_mono (Kd.R_far (p := ⟨gb1076, 0, none⟩) (Kd.R_types HO1073.out BK1076.out (by decide)) (fun _ hk => hk.2) (.slice Ao21 t1071.length co21)) (fun _ h_ => h_.1)))) hb); have n1_ := am (IsS67.below (show IsS67 w0 (w20.setCell ⟨gb1076, 0, none⟩ (.slice Ao21 t1071.length co21)) g s0_0 t1074 t1075 from qI67) hb); replace BK1070 := am (blk_below (g := gb1070) (o := .cells #[.slice none 0 0] 26 (0, 0)) (by (with_reducible repeat (first | refine blk_drewN ?_ _ | refine blk_drew ?_ | refine blk_alloc ?_ _)); refine blk_far ?_ NB1070_1076.out _; refine qb ?_; exact BK1070.out) hb); replace BK1076 := am (blk_below (g := gb1076) (o := .cells #[.slice Ao21 t1071.length co21] 26 (0, 0)) (by (with_reducible repeat (first | refine blk_drewN ?_ _ | refine blk_drew ?_ | refine blk_alloc ?_ _)); refine blk_put (cs := #[.slice none 0 0]) ?_ 0 _ rfl; refine qb ?_; exact BK1076.out) hb); have n4_ := am (KeepBut.trans qK (KeepBut.of_below hb g none) (.inl rfl)); replace HB := am (below_step qB hb); clear HI0 HK; have HI0 := n1_; have HK := n4_; clear n1_ n4_; (try clear hb); (try clear hb2); (try clear hk); (try clear hi); have hcz26_0 := qz w25 BK1076.out; have hfz26_0 := blk_frozen BK1076.out 0) | ((with_reducible refine gate_callee (f := 111) rfl ?_); refine gL (some 18) Try.func111 #[.agg #[.slice Ao21 t1071.length co21]] ?_; (with_reducible refine (spec_liCounts.calls k _ _ t1071 t1081 _ ?side1 ?side2 A6.out).mono ?_); (case side1 => exact qC (Kd.R_reads' HO1073.out).2.2); (case side2 => exact (Kd.R_reads' HO1073.out).2.1); rintro e w27 ⟨v1082, rfl, ho0, hb⟩; refine ⟨_, rfl, ?_⟩; have n0_ := am (Kd.R_elder' (qR HO1073.out) (Kd.R_base ho0) hb); have HO1083 := am (Kd.R_lower (Kd.R_new' ho0 (Kd.R_lt (qR HO1073.out))) (keep_size (w := w) (g := g) (row := none) qK)); have n2_ := am (IsS67.below qI67 hb); replace BK1070 := am (blk_below (g := gb1070) (o := .cells #[.slice none 0 0] 26 (0, 0)) (qb BK1070.out) hb); replace BK1076 := am (blk_below (g := gb1076) (o := .cells #[.slice Ao21 t1071.length co21] 26 (0, 0)) (qb BK1076.out) hb); have n5_ := am (KeepBut.trans qK (KeepBut.of_below hb g none) (.inl rfl)); replace HB := am (below_step qB hb); clear HO1073 HI0 HK; have HO1073 := n0_; have HI0 := n2_; have HK := n5_; clear n0_ n2_ n5_; (try clear hb); (try clear hb2); (try clear hk); (try clear hi); (try clear ho0)))
   have n0_ := am (Kd.R_drew HO1073.out)
   have n1_ := am (Kd.R_drew HO1083.out)
   have n2_ := am (blk_drew BK1070.out)
   have n3_ := am (blk_drew BK1076.out)
   have n4_ := am (IsS67.drew HI0.out)
   have n5_ := am (keep_drew HK.out)
   have n6_ := am (below_drew1 HB.out)
   clear HO1073
   clear HO1083
   clear BK1070
   clear BK1076
   clear HI0
   clear HK
   clear HB
   have HO1073 := n0_
   have HO1083 := n1_
   have BK1070 := n2_
   have BK1076 := n3_
   have HI0 := n4_
   have HK := n5_
   have HB := n6_
   clear n0_ n1_ n2_ n3_ n4_ n5_ n6_
   obtain ⟨Ao29, co29, eo29⟩ := Kd.R_slice HO1083.out
   (first | subst eo29 | (injection eo29 with f1_ f2_ f3_; have f4_ := f1_.symm; have f5_ := f3_.symm; clear f1_ f2_ f3_; subst f4_; subst f5_))
   have p1084 : 0 ≤ (0 : Int) := (by omega)
   have q1084 : 0 < (t1081.length : Int) := qd
   obtain ⟨ad1084, e1084, hx1084_0⟩ := Kd.at_int (Kd.R_reads' HO1083.out).2.2 0 p1084 q1084
   cases e1084
   have qi1084 : (0 < t1081.length) = True := eq_true (by omega)
   (try rw [show ((0 : Int)).toNat = 0 from rfl] at hx1084_0)
   (try rw [Addr.add_zero'] at hx1084_0)
   replace p1084 := eq_true p1084
   replace q1084 := eq_true q1084
   refine start_ (n := 10) (S := fun w' => w'.cell? ⟨gb1076, 0, none⟩ = some (.slice Ao21 t1071.length co21) ∧ w'.cell? ad1084 = some (.int .i64 (rd t1081 0))) (ds := []) #[false, false, false, false, false, false, false, false, false, false] (by kernel_rfl) rfl rfl ⟨(blk_cell BK1076.out 0).trans rfl, hx1084_0⟩ (fun hHeld => ?_); refine with_tabW spec_l1Cur_linear.tab5 spec_l1Cur_linear.bits5 (fun HT_ HW_ => ?_)
   generalize w27.drew = w28 at HO1073 HO1083 BK1070 BK1076 HI0 HK HB hx1084_0 hHeld ⊢
   refine pure_ (i := 1) (N := some 20) (v := ?_) (a' := ?_) #[false, true, false, false, false, false, false, false, false, false] rfl rfl (any_of HT_.out (by kernel_rfl)) (fun _ _ _ h => h) (Or.inl ⟨by rfl, ?_⟩) ?_ ?_
   rotate_left
   ·intro w'
    go_simp
    with_reducible rfl
   rotate_left
   ·exact qP
   refine pure_ (i := 2) (N := some 21) (v := ?_) (a' := ?_) #[false, true, true, false, false, false, false, false, false, false] rfl rfl (any_of HT_.out (by kernel_rfl)) (fun _ _ _ h => h) (Or.inl ⟨by rfl, ?_⟩) ?_ ?_
   rotate_left
   ·intro w'
    go_simp
    with_reducible rfl
   rotate_left
   ·exact qP
   refine pure_ (i := 3) (N := some 22) (v := ?_) (a' := ?_) #[false, true, true, true, false, false, false, false, false, false] rfl rfl (any_of HT_.out (by kernel_rfl)) (fun _ _ _ h => h) (Or.inl ⟨by rfl, ?_⟩) ?_ ?_
   rotate_left
   ·intro w'
    go_simp
    with_reducible rfl
   rotate_left
   ·exact qP
   refine pure_ (i := 4) (N := some 23) (v := ?_) (a' := ?_) #[false, true, true, true, true, false, false, false, false, false] rfl rfl (any_of HT_.out (by kernel_rfl)) (fun _ _ _ h => h) (Or.inl ⟨by rfl, ?_⟩) ?_ ?_
   rotate_left
   ·intro w'
    go_simp
    with_reducible rfl
   rotate_left
   ·exact qP
   refine take_ (i := 0) (N := some 19) (v := ?_) (a' := ?_) #[true, true, true, true, true, false, false, false, false, false] rfl rfl (take_ofW HT_.out HW_.out (by kernel_rfl)) (fun _ _ _ h => h) (Or.inl ⟨by rfl, ?_⟩) hHeld ?_ ?_
   rotate_left
   ·rintro w' ⟨s0, s1⟩
    go_simp
    with_reducible rfl
   rotate_left
   ·exact qP
   refine take_ (i := 5) (N := some 24) (v := ?_) (a' := ?_) #[true, true, true, true, true, true, false, false, false, false] rfl rfl (take_ofW HT_.out HW_.out (by kernel_rfl)) (fun _ _ _ h => h) (Or.inl ⟨by rfl, ?_⟩) hHeld ?_ ?_
   rotate_left
   ·rintro w' ⟨s0, s1⟩
    go_simp
    with_reducible rfl
   rotate_left
   ·exact qP
   refine one_ (i := 6) (N := some 25) #[true, true, true, true, true, true, true, false, false, false] rfl rfl (one_of HT_.out (by kernel_rfl)) (by decide) (fun K hK => ?_)
   refine goes_ Try.func112 (by kernel_rfl) rfl #[.int .i64 (rd t1081 0), .int .i64 100000] (by rfl) rfl rfl qA ?_
   with_reducible refine (spec_l1Least.calls (rd t1081 0) 100000 t1085 _ A8.out).mono ?_
   rintro e w' ⟨rfl, ⟨nd, rfl⟩⟩
   refine ⟨_, rfl, ?_⟩
   refine hK.out _ _ ⟨(blk_cell BK1076.out 0).trans rfl, hHeld.2⟩ (fun hHeld => ?_)
   clear hK K
   refine norm_ (a' := ?_) ?_ ?_
   rotate_left
   ·show Act.put _ (some 25) _ = _
    simp only [Act.put, List.setIfInBounds_toArray, List.set_cons_zero, List.set_cons_succ, i64_w, i32_w]
    rfl
   refine one_ (i := 7) (N := some 26) #[true, true, true, true, true, true, true, true, false, false] rfl rfl (one_of HT_.out (by kernel_rfl)) (by decide) (fun K hK => ?_)
   refine goes_ Try.func68 (by kernel_rfl) rfl #[.pointer (some ⟨g, 0, none⟩), .int .i64 t1085] (by rfl) rfl rfl qA ?_
   with_reducible refine (spec_l1Cur_pick.calls g s0_0 t1074 t1075 t1085 t1086 t1087 t1088 w0 _ ?side1 ?side2 A9.out).mono ?_
   (case side1 => exact qI67)
   (case side2 => exact qB)
   rintro e w30 ⟨rfl, hi, hb, hk⟩
   have HS1_ := keep_cell hk (hHeld.2) (by first | (rw [add_block]; exact Kd.own_blk (IsS67.own_ne HI0.out HO1083.out (by decide))) | (show (Addr.add _ _).block ≠ _; rw [add_block]; exact Kd.own_blk (IsS67.own_ne HI0.out HO1083.out (by decide))) | exact Kd.own_blk (IsS67.own_ne HI0.out HO1083.out (by decide)))
   refine ⟨_, rfl, ?_⟩
   have n0_ := am (KeepBut.blk hk (g' := gb1070) (o := .cells #[.slice none 0 0] 26 (0, 0)) (qb BK1070.out) NB1070_0.out (by simp))
   have n1_ := am (Kd.R_mono (Kd.R_keep (IsS67.apart (show IsS67 w0 _ g s0_0 t1074 t1075 from qI67) (qR HO1073.out) (by decide)) hk (fun _ h => h.2)) (fun _ h => h.1))
   have n2_ := am (KeepBut.blk hk (g' := gb1076) (o := .cells #[.slice Ao21 t1071.length co21] 26 (0, 0)) (qb BK1076.out) NB1076_0.out (by simp))
   have n3_ := am (Kd.R_mono (Kd.R_keep (IsS67.apart (show IsS67 w0 _ g s0_0 t1074 t1075 from qI67) (qR HO1083.out) (by decide)) hk (fun _ h => h.2)) (fun _ h => h.1))
   have n4_ := am (KeepBut.trans qK hk (.inl rfl))
   have n5_ := am (hb)
   have n6_ := am (hi)
   clear BK1070
   clear HO1073
   clear BK1076
   clear HO1083
   clear HK
   clear HB
   clear HI0
   have BK1070 := n0_
   have HO1073 := n1_
   have BK1076 := n2_
   have HO1083 := n3_
   have HK := n4_
   have HB := n5_
   have HI0 := n6_
   clear n0_ n1_ n2_ n3_ n4_ n5_ n6_
   (try clear hb)
   (try clear hb2)
   (try clear hk)
   (try clear hi)
   refine hK.out _ _ ⟨(blk_cell BK1076.out 0).trans rfl, HS1_⟩ (fun hHeld => ?_)
   clear hK K
   refine norm_ (a' := ?_) ?_ ?_
   rotate_left
   ·show Act.put _ (some 26) _ = _
    simp only [Act.put, List.setIfInBounds_toArray, List.set_cons_zero, List.set_cons_succ, i64_w, i32_w]
    rfl
   refine one_ (i := 8) (N := some 27) #[true, true, true, true, true, true, true, true, true, false] rfl rfl (one_of HT_.out (by kernel_rfl)) (by decide) (fun K hK => ?_)
   refine goes_ Try.func116 (by kernel_rfl) rfl #[.agg #[.slice Ao21 t1071.length co21], .slice (some ad1084) t1081.length co29, .int .i64 t1086] (by rfl) rfl rfl qA ?_
   with_reducible refine (spec_liWith.calls k _ _ t1071 _ _ t1081 t1086 t1089 _ ?side1 ?side2 ?side3 ?side4 A10.out).mono ?_
   (case side1 => exact qC (Kd.R_reads' HO1073.out).2.2)
   (case side2 => exact (Kd.R_reads' HO1073.out).2.1)
   (case side3 => exact qC (Kd.R_reads' HO1083.out).2.2)
   (case side4 => exact (Kd.R_reads' HO1083.out).2.1)
   rintro e w31 ⟨v1090, rfl, ho0, hb⟩
   have HS1_ := (hb.cell (World.block_lt_of_cell? _ _ (hHeld.2))).trans (hHeld.2)
   refine ⟨_, rfl, ?_⟩
   have n0_ := am (Kd.R_elder' (qR HO1073.out) (Kd.R_base ho0) hb)
   have n1_ := am (Kd.R_elder' (qR HO1083.out) (Kd.R_base ho0) hb)
   have n2_ := am (Kd.R_lower (Kd.R_new' (Kd.R_new' ho0 (Kd.R_lt (qR HO1073.out))) (Kd.R_lt (qR HO1083.out))) (keep_size (w := w) (g := g) (row := none) qK))
   have n3_ := am (IsS67.below qI67 hb)
   have n4_ := am (blk_below (g := gb1070) (o := .cells #[.slice none 0 0] 26 (0, 0)) (qb BK1070.out) hb)
   have n5_ := am (blk_below (g := gb1076) (o := .cells #[.slice Ao21 t1071.length co21] 26 (0, 0)) (qb BK1076.out) hb)
   have n6_ := am (KeepBut.trans qK (KeepBut.of_below hb g none) (.inl rfl))
   have n7_ := am (below_step qB hb)
   clear HO1073
   clear HO1083
   clear HI0
   clear BK1070
   clear BK1076
   clear HK
   clear HB
   have HO1073 := n0_
   have HO1083 := n1_
   have HO1091 := n2_
   have HI0 := n3_
   have BK1070 := n4_
   have BK1076 := n5_
   have HK := n6_
   have HB := n7_
   clear n0_ n1_ n2_ n3_ n4_ n5_ n6_ n7_
   (try clear hb)
   (try clear hb2)
   (try clear hk)
   (try clear hi)
   (try clear ho0)
   refine hK.out _ _ ⟨(blk_cell BK1076.out 0).trans rfl, HS1_⟩ (fun hHeld => ?_)
   clear hK K
   refine norm_ (a' := ?_) ?_ ?_
   rotate_left
   ·show Act.put _ (some 27) _ = _
    simp only [Act.put, List.setIfInBounds_toArray, List.set_cons_zero, List.set_cons_succ, i64_w, i32_w]
    rfl
   refine pure_ (i := 9) (N := some 8) (v := ?_) (a' := ?_) #[true, true, true, true, true, true, true, true, true, true] rfl rfl (any_of HT_.out (by kernel_rfl)) (fun _ _ _ h => h) (Or.inl ⟨by rfl, ?_⟩) ?_ ?_
   rotate_left
   ·intro w'
    go_simp
    with_reducible rfl
   rotate_left
   ·exact qP
   refine done_ (done_of HT_.out (by kernel_rfl)) ?_
   try go_wp2_with (first | ((with_reducible refine gate_callee (f := 68) rfl ?_); refine gL (some 29) Try.func68 #[.pointer (some ⟨g, 0, none⟩), .int .i64 14] ?_; (with_reducible refine (spec_l1Cur_pick.calls g s0_0 t1087 t1088 14 t1092 t1093 t1094 w0 _ ?side1 ?side2 A11.out).mono ?_); (case side1 => exact qI67); (case side2 => exact qB); rintro e w32 ⟨rfl, hi, hb, hk⟩; refine ⟨_, rfl, ?_⟩; replace BK1070 := am (KeepBut.blk hk (g' := gb1070) (o := .cells #[.slice none 0 0] 26 (0, 0)) (qb BK1070.out) NB1070_0.out (by simp)); replace HO1073 := am (Kd.R_mono (Kd.R_keep (IsS67.apart (show IsS67 w0 _ g s0_0 t1087 t1088 from qI67) (qR HO1073.out) (by decide)) hk (fun _ h => h.2)) (fun _ h => h.1)); replace BK1076 := am (KeepBut.blk hk (g' := gb1076) (o := .cells #[.slice Ao21 t1071.length co21] 26 (0, 0)) (qb BK1076.out) NB1076_0.out (by simp)); replace HO1083 := am (Kd.R_mono (Kd.R_keep (IsS67.apart (show IsS67 w0 _ g s0_0 t1087 t1088 from qI67) (qR HO1083.out) (by decide)) hk (fun _ h => h.2)) (fun _ h => h.1)); replace HO1091 := am (Kd.R_mono (Kd.R_keep (IsS67.apart (show IsS67 w0 _ g s0_0 t1087 t1088 from qI67) (qR HO1091.out) (by decide)) hk (fun _ h => h.2)) (fun _ h => h.1)); have n5_ := am (KeepBut.trans qK hk (.inl rfl)); have n6_ := am (hb); replace HI0 := am (hi); clear HK HB; have HK := n5_; have HB := n6_; clear n5_ n6_; (try clear hb); (try clear hb2); (try clear hk); (try clear hi); obtain ⟨Ao33, co33, eo33⟩ := Kd.R_slice HO1091.out; subst eo33) | ((with_reducible refine gate_callee (f := 68) rfl ?_); refine gL (some 36) Try.func68 #[.pointer (some ⟨g, 0, none⟩), .int .i64 (t1089.length : Int)] ?_; (with_reducible refine (spec_l1Cur_pick.calls g s0_0 t1093 t1094 (t1089.length : Int) t1095 t1096 t1097 w0 _ ?side1 ?side2 A13.out).mono ?_); (case side1 => exact qI67); (case side2 => exact qB); rintro e w34 ⟨rfl, hi, hb, hk⟩; refine ⟨_, rfl, ?_⟩; replace BK1070 := am (KeepBut.blk hk (g' := gb1070) (o := .cells #[.slice none 0 0] 26 (0, 0)) (qb BK1070.out) NB1070_0.out (by simp)); replace HO1073 := am (Kd.R_mono (Kd.R_keep (IsS67.apart (show IsS67 w0 _ g s0_0 t1093 t1094 from qI67) (qR HO1073.out) (by decide)) hk (fun _ h => h.2)) (fun _ h => h.1)); replace BK1076 := am (KeepBut.blk hk (g' := gb1076) (o := .cells #[.slice Ao21 t1071.length co21] 26 (0, 0)) (qb BK1076.out) NB1076_0.out (by simp)); replace HO1083 := am (Kd.R_mono (Kd.R_keep (IsS67.apart (show IsS67 w0 _ g s0_0 t1093 t1094 from qI67) (qR HO1083.out) (by decide)) hk (fun _ h => h.2)) (fun _ h => h.1)); replace HO1091 := am (Kd.R_mono (Kd.R_keep (IsS67.apart (show IsS67 w0 _ g s0_0 t1093 t1094 from qI67) (qR HO1091.out) (by decide)) hk (fun _ h => h.2)) (fun _ h => h.1)); have n5_ := am (KeepBut.trans qK hk (.inl rfl)); have n6_ := am (hb); replace HI0 := am (hi); clear HK HB; have HK := n5_; have HB := n6_; clear n5_ n6_; (try clear hb); (try clear hb2); (try clear hk); (try clear hi)) | ((with_reducible refine gate_callee (f := 68) rfl ?_); refine gL (some 41) Try.func68 #[.pointer (some ⟨g, 0, none⟩), .int .i64 (wrap64 ((t1089.length : Int) + 2))] ?_; (with_reducible refine (spec_l1Cur_pick.calls g s0_0 t1096 t1097 (wrap64 ((t1089.length : Int) + 2)) t1098 t1099 t1100 w0 _ ?side1 ?side2 A14.out).mono ?_); (case side1 => exact qI67); (case side2 => exact qB); rintro e w35 ⟨rfl, hi, hb, hk⟩; refine ⟨_, rfl, ?_⟩; replace BK1070 := am (KeepBut.blk hk (g' := gb1070) (o := .cells #[.slice none 0 0] 26 (0, 0)) (qb BK1070.out) NB1070_0.out (by simp)); replace HO1073 := am (Kd.R_mono (Kd.R_keep (IsS67.apart (show IsS67 w0 _ g s0_0 t1096 t1097 from qI67) (qR HO1073.out) (by decide)) hk (fun _ h => h.2)) (fun _ h => h.1)); replace BK1076 := am (KeepBut.blk hk (g' := gb1076) (o := .cells #[.slice Ao21 t1071.length co21] 26 (0, 0)) (qb BK1076.out) NB1076_0.out (by simp)); replace HO1083 := am (Kd.R_mono (Kd.R_keep (IsS67.apart (show IsS67 w0 _ g s0_0 t1096 t1097 from qI67) (qR HO1083.out) (by decide)) hk (fun _ h => h.2)) (fun _ h => h.1)); replace HO1091 := am (Kd.R_mono (Kd.R_keep (IsS67.apart (show IsS67 w0 _ g s0_0 t1096 t1097 from qI67) (qR HO1091.out) (by decide)) hk (fun _ h => h.2)) (fun _ h => h.1)); have n5_ := am (KeepBut.trans qK hk (.inl rfl)); have n6_ := am (hb); replace HI0 := am (hi); clear HK HB; have HK := n5_; have HB := n6_; clear n5_ n6_; (try clear hb); (try clear hb2); (try clear hk); (try clear hi); have p17 : 0 ≤ (t1095 : Int) := qd; have q17 : (t1095 : Int) < ((t1089.length : Int) : Int) := qd; obtain ⟨go17, co17, eo17, gb17, gl17, cl17, HG17⟩ := Kd.R_form HO1091.out (by omega); (first | cases eo17 | (injection eo17 with ea_ en_ ec_; (first | subst ea_ | (injection ea_ with ea_; subst ea_)); subst ec_; clear en_)); have GB17 := am gb17; have GG17 := am HG17; clear gb17 gl17 HG17; obtain ⟨hx17_0, hf17_0⟩ := Kd.R_celln 0 HO1091.out (t1095 : Int) p17 q17; replace p17 := eq_true p17; replace q17 := eq_true q17; have n_ := am (Kd.R_mono (ok' := (fun k_ => some k_ ≠ (.slice Ao21 t1071.length co21 : Value).ownBlock ∧ some k_ ≠ (.slice (some ad1084) t1081.length co29 : Value).ownBlock)) HO1091.out (fun k_ hk => ⟨hk.1.2, hk.2⟩)); clear HO1091; have HO1091 := n_; clear n_; obtain ⟨hy36_, hz36_⟩ := Kd.R_celln 0 HO1091.out (t1095 : Int) (qd) (qd); have HP36 := Kd.R_putg HO1091.out (t1095 : Int) (wrap64 (t1098 - 1))) | ((with_reducible refine gate_store (t := 3) (p := 43) rfl ?_); refine store_event (t := 3) (p := 43) (v := ?vo_w37) (w1 := (w35.setCell ⟨go17, (t1095 : Int).toNat, none⟩ (.int .i64 (wrap64 (t1098 - 1))))) ?hg ?ho ?hn ?hr ?_; (case ho => rfl); (case hg => rfl); (case hn => rfl); (case hr => first | (go_simp; done) | (go_simp; rfl) | (obtain ⟨Av_, cv_, ev_⟩ := Kd.R_slice HO1073.out; subst ev_; go_simp; done) | (obtain ⟨Av_, cv_, ev_⟩ := Kd.R_slice HO1073.out; subst ev_; go_simp; rfl) | (obtain ⟨Av_, cv_, ev_⟩ := Kd.R_slice HO1080.out; subst ev_; go_simp; done) | (obtain ⟨Av_, cv_, ev_⟩ := Kd.R_slice HO1080.out; subst ev_; go_simp; rfl) | (obtain ⟨Av_, cv_, ev_⟩ := Kd.R_slice HO1083.out; subst ev_; go_simp; done) | (obtain ⟨Av_, cv_, ev_⟩ := Kd.R_slice HO1083.out; subst ev_; go_simp; rfl) | (obtain ⟨Av_, cv_, ev_⟩ := Kd.R_slice HO1091.out; subst ev_; go_simp; done) | (obtain ⟨Av_, cv_, ev_⟩ := Kd.R_slice HO1091.out; subst ev_; go_simp; rfl) | (obtain ⟨Av_, cv_, ev_⟩ := Kd.R_slice HO1104.out; subst ev_; go_simp; done) | (obtain ⟨Av_, cv_, ev_⟩ := Kd.R_slice HO1104.out; subst ev_; go_simp; rfl)); intro w37 hw; have hg : w35.grownBy w37 (some go17) := (by rw [hw]; exact HP36.2); have hp_ : Kd.R (Kd.int .i64) 3 w37 w.heap.size (fun k_ => some k_ ≠ (.slice Ao21 t1071.length co21 : Value).ownBlock ∧ some k_ ≠ (.slice (some ad1084) t1081.length co29 : Value).ownBlock) (.slice (some ⟨go17, 0, none⟩) t1089.length co33) y1101 := (by rw [hw, Ny1101.out]; exact HP36.1); clear HP36; have n0_ := am (IsS67.grown qI67 hg (IsS67.own_ne HI0.out HO1091.out (by decide))); replace BK1070 := am (blk_grown (g := gb1070) (o := .cells #[.slice none 0 0] 26 (0, 0)) (qb BK1070.out) hg (Kd.R_ne HO1091.out BK1070.out (by decide))); replace HO1073 := am (Kd.R_after (v := (.slice (some ⟨go17, 0, none⟩) t1089.length co33)) (v1 := (.slice (some ⟨go17, 0, none⟩) t1089.length co33)) (ok := (fun k_ => some k_ ≠ (.slice (some ad1084) t1081.length co29 : Value).ownBlock)) (qR (Kd.R_mono HO1073.out (fun _ hk => ⟨hk.1.2, hk.2⟩))) hg (.inl rfl)); replace BK1076 := am (blk_grown (g := gb1076) (o := .cells #[.slice Ao21 t1071.length co21] 26 (0, 0)) (qb BK1076.out) hg (Kd.R_ne HO1091.out BK1076.out (by decide))); replace HO1083 := am (Kd.R_after (v := (.slice (some ⟨go17, 0, none⟩) t1089.length co33)) (v1 := (.slice (some ⟨go17, 0, none⟩) t1089.length co33)) (ok := (fun k_ => some k_ ≠ (.slice Ao21 t1071.length co21 : Value).ownBlock)) (qR (Kd.R_mono HO1083.out (fun _ hk => ⟨hk.1.2, hk.2⟩))) hg (.inl rfl)); have n5_ := am (hp_); have n6_ := am ((by rw [hw]; exact below_set (HB.out) (Nat.le_trans HL.out GB17.out) : Below w0.heap.size w0 w37)); replace HK := am (KeepBut.trans qK (KeepBut.of_grown hg g) (Kd.R_base2 HO1091.out)); clear HI0 HO1091 HB; have HI0 := n0_; have HO1091 := n5_; have HB := n6_; clear n0_ n5_ n6_; clear hg hw hp_; have hcz38_0 := qz w37 BK1076.out; have hfz38_0 := blk_frozen BK1076.out 0; have hnb39 := NB1070_0.out; have hnc39 := NB0_1070.out; have hcz40_0 := qz w37 BK1070.out; have hfz40_0 := blk_frozen BK1070.out 0))
   refine bodyPost_ret (results_ct rfl _ _ gb1070 26 #[.slice Ao21 t1071.length co21] (0, 0) _ rfl (by (with_reducible repeat (first | refine blk_drewN ?_ _ | refine blk_drew ?_ | refine blk_alloc ?_ _)); refine blk_put (cs := #[.slice none 0 0]) ?_ 0 _ rfl; refine qb ?_; exact BK1070.out) Try.underlying26 rfl (by kernel_rfl)) rfl ?_
   exact ⟨_, _, qr, qR (Kd.R_mono (Kd.R_far (p := ⟨gb1070, 0, none⟩) (Kd.R_types HO1073.out BK1070.out (by decide)) (fun _ hk => hk.2) (.slice Ao21 t1071.length co21)) (fun _ hk => hk.1.2)), qR (Kd.R_mono (Kd.R_far (p := ⟨gb1070, 0, none⟩) (Kd.R_types HO1091.out BK1070.out (by decide)) (fun _ hk => hk.2) (.slice Ao21 t1071.length co21)) (fun _ hk => hk.1.1)), qI67, qB, qK⟩
  ·rw [if_neg c12] at H
   have c12b0 : (t1092 == 0) = false := beq_eq_false_iff_ne.mpr c12
   have c12b1 : (t1092 != 0) = true := bne_iff_ne.mpr c12
   by_cases c41 : t1092 = 1
   ·rw [if_pos c41] at H
    have c41b0 : (t1092 == 1) = true := beq_iff_eq.mpr c41
    have c41b1 : (t1092 != 1) = false := bne_eq_false_iff_eq.mpr c41
    clear c41
    by_cases c42 : t1089.length < 17592186044416
    rotate_left
    ·rw [if_neg c42] at H
     exact absurd H (by simp)
    rw [if_pos c42] at H
    have LMc42 := am c42
    clear c42
    obtain ⟨y1102, hy1102⟩ : ∃ y_ : List Int, y_ = (t1089 ++ [0]) := ⟨_, rfl⟩
    replace H : (some (t1071, y1102, t1093, t1094)) = some (r1, r2, r3, r4) := by first | (rw [hy1102]; with_reducible exact H) | (have H2_ := (Option.bind_some _ _).symm.trans H; rw [hy1102]; with_reducible exact H2_) | (have H2_ := (Option.bind_some _ _).symm.trans H; with_reducible exact H2_) | with_reducible exact H | (rw [hy1102]; exact H) | exact H
    have Ny1102 := am hy1102
    clear hy1102
    simp only [Option.some.injEq, Prod.mk.injEq] at H
    obtain ⟨rfl, rfl, rfl, rfl⟩ := H
    go_enter Try.func149, Try.ntmps149
    try go_wp2_with (first | ((with_reducible refine gate_dst (N := 4) rfl ?_); refine qx (N := 4) (cs := #[.slice none 0 0]) (t := 26) ?_; intro gb1070 hg w43 hbox hb; have n0_ := am (IsS67.below qI67 hb); have n1_ := am (KeepBut.trans qK (KeepBut.of_below hb g none) (.inl rfl)); have n2_ := am (below_step qB hb); have BK1070 := am (hbox); have GW1070 := am ((by rw [hg]; exact (keep_size (w := w) (g := g) (row := none) qK) : w.heap.size ≤ gb1070)); have GE1070 := am ((Nat.le_trans HW0.out (by rw [hg]; exact (keep_size (w := w) (g := g) (row := none) qK) : w.heap.size ≤ gb1070) : w0.heap.size ≤ gb1070)); have NB0_1070 := am ((by rw [hg]; exact Nat.ne_of_lt (IsS67.lt (show IsS67 w0 _ g s0_0 s0_1 s0_2 from qI67)) : g ≠ gb1070)); have NB1070_0 := am ((by rw [hg]; exact Nat.ne_of_gt (IsS67.lt (show IsS67 w0 _ g s0_0 s0_1 s0_2 from qI67)) : gb1070 ≠ g)); clear HI0 HK HB; have HI0 := n0_; have HK := n1_; have HB := n2_; clear n0_ n1_ n2_; clear hb hbox hg) | ((with_reducible refine gate_callee (f := 64) rfl ?_); refine gL (some 11) Try.func64 #[.pointer (some ⟨g, 0, none⟩), .int .i64 a1] ?_; (with_reducible refine (spec_l1Cur_poset.calls k g s0_0 s0_1 s0_2 a1 t1071 t1074 t1075 w0 _ ?side1 ?side2 A3.out).mono ?_); (case side1 => exact qI67); (case side2 => exact qB); rintro e w44 ⟨v1072, rfl, ho0, hi, hb, hk⟩; refine ⟨_, rfl, ?_⟩; replace BK1070 := am (KeepBut.blk hk (g' := gb1070) (o := .cells #[.slice none 0 0] 26 (0, 0)) (qb BK1070.out) NB1070_0.out (by simp)); have HO1073 := am (Kd.R_lower ho0 (keep_size (w := w) (g := g) (row := none) qK)); have n2_ := am (KeepBut.trans qK hk (.inl rfl)); have n3_ := am (hb); replace HI0 := am (hi); clear HK HB; have HK := n2_; have HB := n3_; clear n2_ n3_; (try clear hb); (try clear hb2); (try clear hk); (try clear hi); (try clear ho0)) | ((with_reducible refine gate_dst (N := 6) rfl ?_); refine qx (N := 6) (cs := #[.slice none 0 0]) (t := 26) ?_; intro gb1076 hg w45 hbox hb; replace HO1073 := am (Kd.R_below (qR HO1073.out) hb); have n1_ := am (IsS67.below qI67 hb); have n2_ := am (blk_below (g := gb1070) (o := .cells #[.slice none 0 0] 26 (0, 0)) (qb BK1070.out) hb); have n3_ := am (KeepBut.trans qK (KeepBut.of_below hb g none) (.inl rfl)); have n4_ := am (below_step qB hb); have BK1076 := am (hbox); have GW1076 := am ((by rw [hg]; exact (keep_size (w := w) (g := g) (row := none) qK) : w.heap.size ≤ gb1076)); have GE1076 := am ((Nat.le_trans HW0.out (by rw [hg]; exact (keep_size (w := w) (g := g) (row := none) qK) : w.heap.size ≤ gb1076) : w0.heap.size ≤ gb1076)); have NB1070_1076 := am ((by rw [hg]; exact Nat.ne_of_lt (blk_lt (g := gb1070) (o := .cells #[.slice none 0 0] 26 (0, 0)) (qb BK1070.out)) : gb1070 ≠ gb1076)); have NB1076_1070 := am ((by rw [hg]; exact Nat.ne_of_gt (blk_lt (g := gb1070) (o := .cells #[.slice none 0 0] 26 (0, 0)) (qb BK1070.out)) : gb1076 ≠ gb1070)); have NB0_1076 := am ((by rw [hg]; exact Nat.ne_of_lt (IsS67.lt (show IsS67 w0 _ g s0_0 t1074 t1075 from qI67)) : g ≠ gb1076)); have NB1076_0 := am ((by rw [hg]; exact Nat.ne_of_gt (IsS67.lt (show IsS67 w0 _ g s0_0 t1074 t1075 from qI67)) : gb1076 ≠ g)); clear HI0 BK1070 HK HB; have HI0 := n1_; have BK1070 := n2_; have HK := n3_; have HB := n4_; clear n1_ n2_ n3_ n4_; clear hb hbox hg; obtain ⟨Ao46, co46, eo46⟩ := Kd.R_slice HO1073.out; subst eo46; have hnb47 := NB1076_1070.out; have hnc47 := NB1070_1076.out; have hnb48 := NB1076_0.out; have hnc48 := NB0_1076.out; have hcz49_0 := qz w45 BK1076.out; have hfz49_0 := blk_frozen BK1076.out 0) | ((with_reducible refine gate_callee (f := 82) rfl ?_); refine gL (some 13) Try.func82 #[.agg #[.slice Ao46 t1071.length co46]] ?_; (with_reducible refine (spec_poGood.calls k _ _ t1071 true _ ?side1 ?side2 A4.out).mono ?_); (case side1 => refine (Kd.R_reads' (e := 3) (base := w.heap.size) (ok := fun k_ => True) (n := t1071.length) (c := co46) ?_).2.2; exact (qR ((Kd.R_mono (Kd.R_far (p := ⟨gb1076, 0, none⟩) (Kd.R_types HO1073.out BK1076.out (by decide)) (fun _ hk => hk.2) (.slice Ao46 t1071.length co46)) (fun _ h_ => h_.1))))); (case side2 => exact (Kd.R_reads' HO1073.out).2.1); rintro e w50 ⟨rfl, hb⟩; refine ⟨_, rfl, ?_⟩; replace HO1073 := am (Kd.R_below (qR ((Kd.R_mono (Kd.R_far (p := ⟨gb1076, 0, none⟩) (Kd.R_types HO1073.out BK1076.out (by decide)) (fun _ hk => hk.2) (.slice Ao46 t1071.length co46)) (fun _ h_ => h_.1)))) hb); have n1_ := am (IsS67.below (show IsS67 w0 (w45.setCell ⟨gb1076, 0, none⟩ (.slice Ao46 t1071.length co46)) g s0_0 t1074 t1075 from qI67) hb); replace BK1070 := am (blk_below (g := gb1070) (o := .cells #[.slice none 0 0] 26 (0, 0)) (by (with_reducible repeat (first | refine blk_drewN ?_ _ | refine blk_drew ?_ | refine blk_alloc ?_ _)); refine blk_far ?_ NB1070_1076.out _; refine qb ?_; exact BK1070.out) hb); replace BK1076 := am (blk_below (g := gb1076) (o := .cells #[.slice Ao46 t1071.length co46] 26 (0, 0)) (by (with_reducible repeat (first | refine blk_drewN ?_ _ | refine blk_drew ?_ | refine blk_alloc ?_ _)); refine blk_put (cs := #[.slice none 0 0]) ?_ 0 _ rfl; refine qb ?_; exact BK1076.out) hb); have n4_ := am (KeepBut.trans qK (KeepBut.of_below hb g none) (.inl rfl)); replace HB := am (below_step qB hb); clear HI0 HK; have HI0 := n1_; have HK := n4_; clear n1_ n4_; (try clear hb); (try clear hb2); (try clear hk); (try clear hi); have hcz51_0 := qz w50 BK1076.out; have hfz51_0 := blk_frozen BK1076.out 0) | ((with_reducible refine gate_callee (f := 111) rfl ?_); refine gL (some 18) Try.func111 #[.agg #[.slice Ao46 t1071.length co46]] ?_; (with_reducible refine (spec_liCounts.calls k _ _ t1071 t1081 _ ?side1 ?side2 A6.out).mono ?_); (case side1 => exact qC (Kd.R_reads' HO1073.out).2.2); (case side2 => exact (Kd.R_reads' HO1073.out).2.1); rintro e w52 ⟨v1082, rfl, ho0, hb⟩; refine ⟨_, rfl, ?_⟩; have n0_ := am (Kd.R_elder' (qR HO1073.out) (Kd.R_base ho0) hb); have HO1083 := am (Kd.R_lower (Kd.R_new' ho0 (Kd.R_lt (qR HO1073.out))) (keep_size (w := w) (g := g) (row := none) qK)); have n2_ := am (IsS67.below qI67 hb); replace BK1070 := am (blk_below (g := gb1070) (o := .cells #[.slice none 0 0] 26 (0, 0)) (qb BK1070.out) hb); replace BK1076 := am (blk_below (g := gb1076) (o := .cells #[.slice Ao46 t1071.length co46] 26 (0, 0)) (qb BK1076.out) hb); have n5_ := am (KeepBut.trans qK (KeepBut.of_below hb g none) (.inl rfl)); replace HB := am (below_step qB hb); clear HO1073 HI0 HK; have HO1073 := n0_; have HI0 := n2_; have HK := n5_; clear n0_ n2_ n5_; (try clear hb); (try clear hb2); (try clear hk); (try clear hi); (try clear ho0)))
    have n0_ := am (Kd.R_drew HO1073.out)
    have n1_ := am (Kd.R_drew HO1083.out)
    have n2_ := am (blk_drew BK1070.out)
    have n3_ := am (blk_drew BK1076.out)
    have n4_ := am (IsS67.drew HI0.out)
    have n5_ := am (keep_drew HK.out)
    have n6_ := am (below_drew1 HB.out)
    clear HO1073
    clear HO1083
    clear BK1070
    clear BK1076
    clear HI0
    clear HK
    clear HB
    have HO1073 := n0_
    have HO1083 := n1_
    have BK1070 := n2_
    have BK1076 := n3_
    have HI0 := n4_
    have HK := n5_
    have HB := n6_
    clear n0_ n1_ n2_ n3_ n4_ n5_ n6_
    obtain ⟨Ao54, co54, eo54⟩ := Kd.R_slice HO1083.out
    (first | subst eo54 | (injection eo54 with f1_ f2_ f3_; have f4_ := f1_.symm; have f5_ := f3_.symm; clear f1_ f2_ f3_; subst f4_; subst f5_))
    have p1084 : 0 ≤ (0 : Int) := (by omega)
    have q1084 : 0 < (t1081.length : Int) := qd
    obtain ⟨ad1084, e1084, hx1084_0⟩ := Kd.at_int (Kd.R_reads' HO1083.out).2.2 0 p1084 q1084
    cases e1084
    have qi1084 : (0 < t1081.length) = True := eq_true (by omega)
    (try rw [show ((0 : Int)).toNat = 0 from rfl] at hx1084_0)
    (try rw [Addr.add_zero'] at hx1084_0)
    replace p1084 := eq_true p1084
    replace q1084 := eq_true q1084
    refine start_ (n := 10) (S := fun w' => w'.cell? ⟨gb1076, 0, none⟩ = some (.slice Ao46 t1071.length co46) ∧ w'.cell? ad1084 = some (.int .i64 (rd t1081 0))) (ds := []) #[false, false, false, false, false, false, false, false, false, false] (by kernel_rfl) rfl rfl ⟨(blk_cell BK1076.out 0).trans rfl, hx1084_0⟩ (fun hHeld => ?_); refine with_tabW spec_l1Cur_linear.tab5 spec_l1Cur_linear.bits5 (fun HT_ HW_ => ?_)
    generalize w52.drew = w53 at HO1073 HO1083 BK1070 BK1076 HI0 HK HB hx1084_0 hHeld ⊢
    refine pure_ (i := 1) (N := some 20) (v := ?_) (a' := ?_) #[false, true, false, false, false, false, false, false, false, false] rfl rfl (any_of HT_.out (by kernel_rfl)) (fun _ _ _ h => h) (Or.inl ⟨by rfl, ?_⟩) ?_ ?_
    rotate_left
    ·intro w'
     go_simp
     with_reducible rfl
    rotate_left
    ·exact qP
    refine pure_ (i := 2) (N := some 21) (v := ?_) (a' := ?_) #[false, true, true, false, false, false, false, false, false, false] rfl rfl (any_of HT_.out (by kernel_rfl)) (fun _ _ _ h => h) (Or.inl ⟨by rfl, ?_⟩) ?_ ?_
    rotate_left
    ·intro w'
     go_simp
     with_reducible rfl
    rotate_left
    ·exact qP
    refine pure_ (i := 3) (N := some 22) (v := ?_) (a' := ?_) #[false, true, true, true, false, false, false, false, false, false] rfl rfl (any_of HT_.out (by kernel_rfl)) (fun _ _ _ h => h) (Or.inl ⟨by rfl, ?_⟩) ?_ ?_
    rotate_left
    ·intro w'
     go_simp
     with_reducible rfl
    rotate_left
    ·exact qP
    refine pure_ (i := 4) (N := some 23) (v := ?_) (a' := ?_) #[false, true, true, true, true, false, false, false, false, false] rfl rfl (any_of HT_.out (by kernel_rfl)) (fun _ _ _ h => h) (Or.inl ⟨by rfl, ?_⟩) ?_ ?_
    rotate_left
    ·intro w'
     go_simp
     with_reducible rfl
    rotate_left
    ·exact qP
    refine take_ (i := 0) (N := some 19) (v := ?_) (a' := ?_) #[true, true, true, true, true, false, false, false, false, false] rfl rfl (take_ofW HT_.out HW_.out (by kernel_rfl)) (fun _ _ _ h => h) (Or.inl ⟨by rfl, ?_⟩) hHeld ?_ ?_
    rotate_left
    ·rintro w' ⟨s0, s1⟩
     go_simp
     with_reducible rfl
    rotate_left
    ·exact qP
    refine take_ (i := 5) (N := some 24) (v := ?_) (a' := ?_) #[true, true, true, true, true, true, false, false, false, false] rfl rfl (take_ofW HT_.out HW_.out (by kernel_rfl)) (fun _ _ _ h => h) (Or.inl ⟨by rfl, ?_⟩) hHeld ?_ ?_
    rotate_left
    ·rintro w' ⟨s0, s1⟩
     go_simp
     with_reducible rfl
    rotate_left
    ·exact qP
    refine one_ (i := 6) (N := some 25) #[true, true, true, true, true, true, true, false, false, false] rfl rfl (one_of HT_.out (by kernel_rfl)) (by decide) (fun K hK => ?_)
    refine goes_ Try.func112 (by kernel_rfl) rfl #[.int .i64 (rd t1081 0), .int .i64 100000] (by rfl) rfl rfl qA ?_
    with_reducible refine (spec_l1Least.calls (rd t1081 0) 100000 t1085 _ A8.out).mono ?_
    rintro e w' ⟨rfl, ⟨nd, rfl⟩⟩
    refine ⟨_, rfl, ?_⟩
    refine hK.out _ _ ⟨(blk_cell BK1076.out 0).trans rfl, hHeld.2⟩ (fun hHeld => ?_)
    clear hK K
    refine norm_ (a' := ?_) ?_ ?_
    rotate_left
    ·show Act.put _ (some 25) _ = _
     simp only [Act.put, List.setIfInBounds_toArray, List.set_cons_zero, List.set_cons_succ, i64_w, i32_w]
     rfl
    refine one_ (i := 7) (N := some 26) #[true, true, true, true, true, true, true, true, false, false] rfl rfl (one_of HT_.out (by kernel_rfl)) (by decide) (fun K hK => ?_)
    refine goes_ Try.func68 (by kernel_rfl) rfl #[.pointer (some ⟨g, 0, none⟩), .int .i64 t1085] (by rfl) rfl rfl qA ?_
    with_reducible refine (spec_l1Cur_pick.calls g s0_0 t1074 t1075 t1085 t1086 t1087 t1088 w0 _ ?side1 ?side2 A9.out).mono ?_
    (case side1 => exact qI67)
    (case side2 => exact qB)
    rintro e w55 ⟨rfl, hi, hb, hk⟩
    have HS1_ := keep_cell hk (hHeld.2) (by first | (rw [add_block]; exact Kd.own_blk (IsS67.own_ne HI0.out HO1083.out (by decide))) | (show (Addr.add _ _).block ≠ _; rw [add_block]; exact Kd.own_blk (IsS67.own_ne HI0.out HO1083.out (by decide))) | exact Kd.own_blk (IsS67.own_ne HI0.out HO1083.out (by decide)))
    refine ⟨_, rfl, ?_⟩
    have n0_ := am (KeepBut.blk hk (g' := gb1070) (o := .cells #[.slice none 0 0] 26 (0, 0)) (qb BK1070.out) NB1070_0.out (by simp))
    have n1_ := am (Kd.R_mono (Kd.R_keep (IsS67.apart (show IsS67 w0 _ g s0_0 t1074 t1075 from qI67) (qR HO1073.out) (by decide)) hk (fun _ h => h.2)) (fun _ h => h.1))
    have n2_ := am (KeepBut.blk hk (g' := gb1076) (o := .cells #[.slice Ao46 t1071.length co46] 26 (0, 0)) (qb BK1076.out) NB1076_0.out (by simp))
    have n3_ := am (Kd.R_mono (Kd.R_keep (IsS67.apart (show IsS67 w0 _ g s0_0 t1074 t1075 from qI67) (qR HO1083.out) (by decide)) hk (fun _ h => h.2)) (fun _ h => h.1))
    have n4_ := am (KeepBut.trans qK hk (.inl rfl))
    have n5_ := am (hb)
    have n6_ := am (hi)
    clear BK1070
    clear HO1073
    clear BK1076
    clear HO1083
    clear HK
    clear HB
    clear HI0
    have BK1070 := n0_
    have HO1073 := n1_
    have BK1076 := n2_
    have HO1083 := n3_
    have HK := n4_
    have HB := n5_
    have HI0 := n6_
    clear n0_ n1_ n2_ n3_ n4_ n5_ n6_
    (try clear hb)
    (try clear hb2)
    (try clear hk)
    (try clear hi)
    refine hK.out _ _ ⟨(blk_cell BK1076.out 0).trans rfl, HS1_⟩ (fun hHeld => ?_)
    clear hK K
    refine norm_ (a' := ?_) ?_ ?_
    rotate_left
    ·show Act.put _ (some 26) _ = _
     simp only [Act.put, List.setIfInBounds_toArray, List.set_cons_zero, List.set_cons_succ, i64_w, i32_w]
     rfl
    refine one_ (i := 8) (N := some 27) #[true, true, true, true, true, true, true, true, true, false] rfl rfl (one_of HT_.out (by kernel_rfl)) (by decide) (fun K hK => ?_)
    refine goes_ Try.func116 (by kernel_rfl) rfl #[.agg #[.slice Ao46 t1071.length co46], .slice (some ad1084) t1081.length co54, .int .i64 t1086] (by rfl) rfl rfl qA ?_
    with_reducible refine (spec_liWith.calls k _ _ t1071 _ _ t1081 t1086 t1089 _ ?side1 ?side2 ?side3 ?side4 A10.out).mono ?_
    (case side1 => exact qC (Kd.R_reads' HO1073.out).2.2)
    (case side2 => exact (Kd.R_reads' HO1073.out).2.1)
    (case side3 => exact qC (Kd.R_reads' HO1083.out).2.2)
    (case side4 => exact (Kd.R_reads' HO1083.out).2.1)
    rintro e w56 ⟨v1090, rfl, ho0, hb⟩
    have HS1_ := (hb.cell (World.block_lt_of_cell? _ _ (hHeld.2))).trans (hHeld.2)
    refine ⟨_, rfl, ?_⟩
    have n0_ := am (Kd.R_elder' (qR HO1073.out) (Kd.R_base ho0) hb)
    have n1_ := am (Kd.R_elder' (qR HO1083.out) (Kd.R_base ho0) hb)
    have n2_ := am (Kd.R_lower (Kd.R_new' (Kd.R_new' ho0 (Kd.R_lt (qR HO1073.out))) (Kd.R_lt (qR HO1083.out))) (keep_size (w := w) (g := g) (row := none) qK))
    have n3_ := am (IsS67.below qI67 hb)
    have n4_ := am (blk_below (g := gb1070) (o := .cells #[.slice none 0 0] 26 (0, 0)) (qb BK1070.out) hb)
    have n5_ := am (blk_below (g := gb1076) (o := .cells #[.slice Ao46 t1071.length co46] 26 (0, 0)) (qb BK1076.out) hb)
    have n6_ := am (KeepBut.trans qK (KeepBut.of_below hb g none) (.inl rfl))
    have n7_ := am (below_step qB hb)
    clear HO1073
    clear HO1083
    clear HI0
    clear BK1070
    clear BK1076
    clear HK
    clear HB
    have HO1073 := n0_
    have HO1083 := n1_
    have HO1091 := n2_
    have HI0 := n3_
    have BK1070 := n4_
    have BK1076 := n5_
    have HK := n6_
    have HB := n7_
    clear n0_ n1_ n2_ n3_ n4_ n5_ n6_ n7_
    (try clear hb)
    (try clear hb2)
    (try clear hk)
    (try clear hi)
    (try clear ho0)
    refine hK.out _ _ ⟨(blk_cell BK1076.out 0).trans rfl, HS1_⟩ (fun hHeld => ?_)
    clear hK K
    refine norm_ (a' := ?_) ?_ ?_
    rotate_left
    ·show Act.put _ (some 27) _ = _
     simp only [Act.put, List.setIfInBounds_toArray, List.set_cons_zero, List.set_cons_succ, i64_w, i32_w]
     rfl
    refine pure_ (i := 9) (N := some 8) (v := ?_) (a' := ?_) #[true, true, true, true, true, true, true, true, true, true] rfl rfl (any_of HT_.out (by kernel_rfl)) (fun _ _ _ h => h) (Or.inl ⟨by rfl, ?_⟩) ?_ ?_
    rotate_left
    ·intro w'
     go_simp
     with_reducible rfl
    rotate_left
    ·exact qP
    refine done_ (done_of HT_.out (by kernel_rfl)) ?_
    try go_wp2_with (first | ((with_reducible refine gate_callee (f := 68) rfl ?_); refine gL (some 29) Try.func68 #[.pointer (some ⟨g, 0, none⟩), .int .i64 14] ?_; (with_reducible refine (spec_l1Cur_pick.calls g s0_0 t1087 t1088 14 t1092 t1093 t1094 w0 _ ?side1 ?side2 A11.out).mono ?_); (case side1 => exact qI67); (case side2 => exact qB); rintro e w57 ⟨rfl, hi, hb, hk⟩; refine ⟨_, rfl, ?_⟩; replace BK1070 := am (KeepBut.blk hk (g' := gb1070) (o := .cells #[.slice none 0 0] 26 (0, 0)) (qb BK1070.out) NB1070_0.out (by simp)); replace HO1073 := am (Kd.R_mono (Kd.R_keep (IsS67.apart (show IsS67 w0 _ g s0_0 t1087 t1088 from qI67) (qR HO1073.out) (by decide)) hk (fun _ h => h.2)) (fun _ h => h.1)); replace BK1076 := am (KeepBut.blk hk (g' := gb1076) (o := .cells #[.slice Ao46 t1071.length co46] 26 (0, 0)) (qb BK1076.out) NB1076_0.out (by simp)); replace HO1083 := am (Kd.R_mono (Kd.R_keep (IsS67.apart (show IsS67 w0 _ g s0_0 t1087 t1088 from qI67) (qR HO1083.out) (by decide)) hk (fun _ h => h.2)) (fun _ h => h.1)); replace HO1091 := am (Kd.R_mono (Kd.R_keep (IsS67.apart (show IsS67 w0 _ g s0_0 t1087 t1088 from qI67) (qR HO1091.out) (by decide)) hk (fun _ h => h.2)) (fun _ h => h.1)); have n5_ := am (KeepBut.trans qK hk (.inl rfl)); have n6_ := am (hb); replace HI0 := am (hi); clear HK HB; have HK := n5_; have HB := n6_; clear n5_ n6_; (try clear hb); (try clear hb2); (try clear hk); (try clear hi)) | ((with_reducible refine gate_builtin (b := .append) (xs := #[.tmp 46, .tmp 47]) rfl ?_); at_builtin; refine Kd.R_append (Kd.int .i64) w.heap.size rfl (.tmp 46) (.tmp 47) 24 3 (.int .i64 0) 8 rfl Try.underlying24 info3 rfl (by decide) (by omega) v1090 t1089 0 [.int .i64 0] (fun k_ => some k_ ≠ (.slice Ao46 t1071.length co46 : Value).ownBlock ∧ some k_ ≠ (.slice (some ad1084) t1081.length co54 : Value).ownBlock) (fun _ => False) rfl rfl ?aP (fun _ hk => hk.elim) ?aF ?aO (Below.refl _ _) ?aS ?aL ?_; (case aP => exact rfl); (case aF => exact (fun k_ hk => ⟨Kd.fresh' (Kd.R_lt (qR HO1073.out)) k_ hk, Kd.fresh' (Kd.R_lt (qR HO1083.out)) k_ hk⟩)); (case aO => exact (qR (Kd.R_mono HO1091.out (fun _ hk => ⟨hk.1.2, hk.2⟩)))); (case aS => exact (keep_size (w := w) (g := g) (row := none) qK)); (case aL => have := LMc42.out; omega); intro v1103 w58 ho hb hg hat; rw [← Ny1102.out] at ho; have n0_ := am (IsS67.grown qI67 hg (IsS67.own_ne HI0.out HO1091.out (by decide))); replace BK1070 := am (blk_grown (g := gb1070) (o := .cells #[.slice none 0 0] 26 (0, 0)) (qb BK1070.out) hg (Kd.R_ne HO1091.out BK1070.out (by decide))); replace HO1073 := am (Kd.R_after (ok := (fun k_ => some k_ ≠ (.slice (some ad1084) t1081.length co54 : Value).ownBlock)) (qR (Kd.R_mono HO1073.out (fun _ hk => ⟨hk.1.2, hk.2⟩))) hg hat); replace BK1076 := am (blk_grown (g := gb1076) (o := .cells #[.slice Ao46 t1071.length co46] 26 (0, 0)) (qb BK1076.out) hg (Kd.R_ne HO1091.out BK1076.out (by decide))); replace HO1083 := am (Kd.R_after (ok := (fun k_ => some k_ ≠ (.slice Ao46 t1071.length co46 : Value).ownBlock)) (qR (Kd.R_mono HO1083.out (fun _ hk => ⟨hk.1.2, hk.2⟩))) hg hat); have n5_ := am (below_weaken qB HL.out hb); have n6_ := am (KeepBut.trans qK (KeepBut.of_grown hg g) (Kd.R_base2 HO1091.out)); have HO1104 := am (ho); clear HI0 HB HK HO1091; have HI0 := n0_; have HB := n5_; have HK := n6_; clear n0_ n5_ n6_; clear ho hb hg hat; have hcz59_0 := qz w58 BK1076.out; have hfz59_0 := blk_frozen BK1076.out 0; have hnb60 := NB1070_0.out; have hnc60 := NB0_1070.out; have hcz61_0 := qz w58 BK1070.out; have hfz61_0 := blk_frozen BK1070.out 0))
    refine bodyPost_ret (results_ct rfl _ _ gb1070 26 #[.slice Ao46 t1071.length co46] (0, 0) _ rfl (by (with_reducible repeat (first | refine blk_drewN ?_ _ | refine blk_drew ?_ | refine blk_alloc ?_ _)); refine blk_put (cs := #[.slice none 0 0]) ?_ 0 _ rfl; refine qb ?_; exact BK1070.out) Try.underlying26 rfl (by kernel_rfl)) rfl ?_
    exact ⟨_, _, qr, qR (Kd.R_mono (Kd.R_far (p := ⟨gb1070, 0, none⟩) (Kd.R_types HO1073.out BK1070.out (by decide)) (fun _ hk => hk.2) (.slice Ao46 t1071.length co46)) (fun _ hk => hk.1.2)), qR (Kd.R_mono (Kd.R_far (p := ⟨gb1070, 0, none⟩) (Kd.R_types HO1104.out BK1070.out (by decide)) (fun _ hk => hk.2) (.slice Ao46 t1071.length co46)) (fun _ hk => hk.1.1)), qI67, qB, qK⟩
   ·rw [if_neg c41] at H
    have c41b0 : (t1092 == 1) = false := beq_eq_false_iff_ne.mpr c41
    have c41b1 : (t1092 != 1) = true := bne_iff_ne.mpr c41
    simp only [Option.some.injEq, Prod.mk.injEq] at H
    obtain ⟨rfl, rfl, rfl, rfl⟩ := H
    go_enter Try.func149, Try.ntmps149
    try go_wp2_with (first | ((with_reducible refine gate_dst (N := 4) rfl ?_); refine qx (N := 4) (cs := #[.slice none 0 0]) (t := 26) ?_; intro gb1070 hg w62 hbox hb; have n0_ := am (IsS67.below qI67 hb); have n1_ := am (KeepBut.trans qK (KeepBut.of_below hb g none) (.inl rfl)); have n2_ := am (below_step qB hb); have BK1070 := am (hbox); have GW1070 := am ((by rw [hg]; exact (keep_size (w := w) (g := g) (row := none) qK) : w.heap.size ≤ gb1070)); have GE1070 := am ((Nat.le_trans HW0.out (by rw [hg]; exact (keep_size (w := w) (g := g) (row := none) qK) : w.heap.size ≤ gb1070) : w0.heap.size ≤ gb1070)); have NB0_1070 := am ((by rw [hg]; exact Nat.ne_of_lt (IsS67.lt (show IsS67 w0 _ g s0_0 s0_1 s0_2 from qI67)) : g ≠ gb1070)); have NB1070_0 := am ((by rw [hg]; exact Nat.ne_of_gt (IsS67.lt (show IsS67 w0 _ g s0_0 s0_1 s0_2 from qI67)) : gb1070 ≠ g)); clear HI0 HK HB; have HI0 := n0_; have HK := n1_; have HB := n2_; clear n0_ n1_ n2_; clear hb hbox hg) | ((with_reducible refine gate_callee (f := 64) rfl ?_); refine gL (some 11) Try.func64 #[.pointer (some ⟨g, 0, none⟩), .int .i64 a1] ?_; (with_reducible refine (spec_l1Cur_poset.calls k g s0_0 s0_1 s0_2 a1 t1071 t1074 t1075 w0 _ ?side1 ?side2 A3.out).mono ?_); (case side1 => exact qI67); (case side2 => exact qB); rintro e w63 ⟨v1072, rfl, ho0, hi, hb, hk⟩; refine ⟨_, rfl, ?_⟩; replace BK1070 := am (KeepBut.blk hk (g' := gb1070) (o := .cells #[.slice none 0 0] 26 (0, 0)) (qb BK1070.out) NB1070_0.out (by simp)); have HO1073 := am (Kd.R_lower ho0 (keep_size (w := w) (g := g) (row := none) qK)); have n2_ := am (KeepBut.trans qK hk (.inl rfl)); have n3_ := am (hb); replace HI0 := am (hi); clear HK HB; have HK := n2_; have HB := n3_; clear n2_ n3_; (try clear hb); (try clear hb2); (try clear hk); (try clear hi); (try clear ho0)) | ((with_reducible refine gate_dst (N := 6) rfl ?_); refine qx (N := 6) (cs := #[.slice none 0 0]) (t := 26) ?_; intro gb1076 hg w64 hbox hb; replace HO1073 := am (Kd.R_below (qR HO1073.out) hb); have n1_ := am (IsS67.below qI67 hb); have n2_ := am (blk_below (g := gb1070) (o := .cells #[.slice none 0 0] 26 (0, 0)) (qb BK1070.out) hb); have n3_ := am (KeepBut.trans qK (KeepBut.of_below hb g none) (.inl rfl)); have n4_ := am (below_step qB hb); have BK1076 := am (hbox); have GW1076 := am ((by rw [hg]; exact (keep_size (w := w) (g := g) (row := none) qK) : w.heap.size ≤ gb1076)); have GE1076 := am ((Nat.le_trans HW0.out (by rw [hg]; exact (keep_size (w := w) (g := g) (row := none) qK) : w.heap.size ≤ gb1076) : w0.heap.size ≤ gb1076)); have NB1070_1076 := am ((by rw [hg]; exact Nat.ne_of_lt (blk_lt (g := gb1070) (o := .cells #[.slice none 0 0] 26 (0, 0)) (qb BK1070.out)) : gb1070 ≠ gb1076)); have NB1076_1070 := am ((by rw [hg]; exact Nat.ne_of_gt (blk_lt (g := gb1070) (o := .cells #[.slice none 0 0] 26 (0, 0)) (qb BK1070.out)) : gb1076 ≠ gb1070)); have NB0_1076 := am ((by rw [hg]; exact Nat.ne_of_lt (IsS67.lt (show IsS67 w0 _ g s0_0 t1074 t1075 from qI67)) : g ≠ gb1076)); have NB1076_0 := am ((by rw [hg]; exact Nat.ne_of_gt (IsS67.lt (show IsS67 w0 _ g s0_0 t1074 t1075 from qI67)) : gb1076 ≠ g)); clear HI0 BK1070 HK HB; have HI0 := n1_; have BK1070 := n2_; have HK := n3_; have HB := n4_; clear n1_ n2_ n3_ n4_; clear hb hbox hg; obtain ⟨Ao65, co65, eo65⟩ := Kd.R_slice HO1073.out; subst eo65; have hnb66 := NB1076_1070.out; have hnc66 := NB1070_1076.out; have hnb67 := NB1076_0.out; have hnc67 := NB0_1076.out; have hcz68_0 := qz w64 BK1076.out; have hfz68_0 := blk_frozen BK1076.out 0) | ((with_reducible refine gate_callee (f := 82) rfl ?_); refine gL (some 13) Try.func82 #[.agg #[.slice Ao65 t1071.length co65]] ?_; (with_reducible refine (spec_poGood.calls k _ _ t1071 true _ ?side1 ?side2 A4.out).mono ?_); (case side1 => refine (Kd.R_reads' (e := 3) (base := w.heap.size) (ok := fun k_ => True) (n := t1071.length) (c := co65) ?_).2.2; exact (qR ((Kd.R_mono (Kd.R_far (p := ⟨gb1076, 0, none⟩) (Kd.R_types HO1073.out BK1076.out (by decide)) (fun _ hk => hk.2) (.slice Ao65 t1071.length co65)) (fun _ h_ => h_.1))))); (case side2 => exact (Kd.R_reads' HO1073.out).2.1); rintro e w69 ⟨rfl, hb⟩; refine ⟨_, rfl, ?_⟩; replace HO1073 := am (Kd.R_below (qR ((Kd.R_mono (Kd.R_far (p := ⟨gb1076, 0, none⟩) (Kd.R_types HO1073.out BK1076.out (by decide)) (fun _ hk => hk.2) (.slice Ao65 t1071.length co65)) (fun _ h_ => h_.1)))) hb); have n1_ := am (IsS67.below (show IsS67 w0 (w64.setCell ⟨gb1076, 0, none⟩ (.slice Ao65 t1071.length co65)) g s0_0 t1074 t1075 from qI67) hb); replace BK1070 := am (blk_below (g := gb1070) (o := .cells #[.slice none 0 0] 26 (0, 0)) (by (with_reducible repeat (first | refine blk_drewN ?_ _ | refine blk_drew ?_ | refine blk_alloc ?_ _)); refine blk_far ?_ NB1070_1076.out _; refine qb ?_; exact BK1070.out) hb); replace BK1076 := am (blk_below (g := gb1076) (o := .cells #[.slice Ao65 t1071.length co65] 26 (0, 0)) (by (with_reducible repeat (first | refine blk_drewN ?_ _ | refine blk_drew ?_ | refine blk_alloc ?_ _)); refine blk_put (cs := #[.slice none 0 0]) ?_ 0 _ rfl; refine qb ?_; exact BK1076.out) hb); have n4_ := am (KeepBut.trans qK (KeepBut.of_below hb g none) (.inl rfl)); replace HB := am (below_step qB hb); clear HI0 HK; have HI0 := n1_; have HK := n4_; clear n1_ n4_; (try clear hb); (try clear hb2); (try clear hk); (try clear hi); have hcz70_0 := qz w69 BK1076.out; have hfz70_0 := blk_frozen BK1076.out 0) | ((with_reducible refine gate_callee (f := 111) rfl ?_); refine gL (some 18) Try.func111 #[.agg #[.slice Ao65 t1071.length co65]] ?_; (with_reducible refine (spec_liCounts.calls k _ _ t1071 t1081 _ ?side1 ?side2 A6.out).mono ?_); (case side1 => exact qC (Kd.R_reads' HO1073.out).2.2); (case side2 => exact (Kd.R_reads' HO1073.out).2.1); rintro e w71 ⟨v1082, rfl, ho0, hb⟩; refine ⟨_, rfl, ?_⟩; have n0_ := am (Kd.R_elder' (qR HO1073.out) (Kd.R_base ho0) hb); have HO1083 := am (Kd.R_lower (Kd.R_new' ho0 (Kd.R_lt (qR HO1073.out))) (keep_size (w := w) (g := g) (row := none) qK)); have n2_ := am (IsS67.below qI67 hb); replace BK1070 := am (blk_below (g := gb1070) (o := .cells #[.slice none 0 0] 26 (0, 0)) (qb BK1070.out) hb); replace BK1076 := am (blk_below (g := gb1076) (o := .cells #[.slice Ao65 t1071.length co65] 26 (0, 0)) (qb BK1076.out) hb); have n5_ := am (KeepBut.trans qK (KeepBut.of_below hb g none) (.inl rfl)); replace HB := am (below_step qB hb); clear HO1073 HI0 HK; have HO1073 := n0_; have HI0 := n2_; have HK := n5_; clear n0_ n2_ n5_; (try clear hb); (try clear hb2); (try clear hk); (try clear hi); (try clear ho0)))
    have n0_ := am (Kd.R_drew HO1073.out)
    have n1_ := am (Kd.R_drew HO1083.out)
    have n2_ := am (blk_drew BK1070.out)
    have n3_ := am (blk_drew BK1076.out)
    have n4_ := am (IsS67.drew HI0.out)
    have n5_ := am (keep_drew HK.out)
    have n6_ := am (below_drew1 HB.out)
    clear HO1073
    clear HO1083
    clear BK1070
    clear BK1076
    clear HI0
    clear HK
    clear HB
    have HO1073 := n0_
    have HO1083 := n1_
    have BK1070 := n2_
    have BK1076 := n3_
    have HI0 := n4_
    have HK := n5_
    have HB := n6_
    clear n0_ n1_ n2_ n3_ n4_ n5_ n6_
    obtain ⟨Ao73, co73, eo73⟩ := Kd.R_slice HO1083.out
    (first | subst eo73 | (injection eo73 with f1_ f2_ f3_; have f4_ := f1_.symm; have f5_ := f3_.symm; clear f1_ f2_ f3_; subst f4_; subst f5_))
    have p1084 : 0 ≤ (0 : Int) := (by omega)
    have q1084 : 0 < (t1081.length : Int) := qd
    obtain ⟨ad1084, e1084, hx1084_0⟩ := Kd.at_int (Kd.R_reads' HO1083.out).2.2 0 p1084 q1084
    cases e1084
    have qi1084 : (0 < t1081.length) = True := eq_true (by omega)
    (try rw [show ((0 : Int)).toNat = 0 from rfl] at hx1084_0)
    (try rw [Addr.add_zero'] at hx1084_0)
    replace p1084 := eq_true p1084
    replace q1084 := eq_true q1084
    refine start_ (n := 10) (S := fun w' => w'.cell? ⟨gb1076, 0, none⟩ = some (.slice Ao65 t1071.length co65) ∧ w'.cell? ad1084 = some (.int .i64 (rd t1081 0))) (ds := []) #[false, false, false, false, false, false, false, false, false, false] (by kernel_rfl) rfl rfl ⟨(blk_cell BK1076.out 0).trans rfl, hx1084_0⟩ (fun hHeld => ?_); refine with_tabW spec_l1Cur_linear.tab5 spec_l1Cur_linear.bits5 (fun HT_ HW_ => ?_)
    generalize w71.drew = w72 at HO1073 HO1083 BK1070 BK1076 HI0 HK HB hx1084_0 hHeld ⊢
    refine pure_ (i := 1) (N := some 20) (v := ?_) (a' := ?_) #[false, true, false, false, false, false, false, false, false, false] rfl rfl (any_of HT_.out (by kernel_rfl)) (fun _ _ _ h => h) (Or.inl ⟨by rfl, ?_⟩) ?_ ?_
    rotate_left
    ·intro w'
     go_simp
     with_reducible rfl
    rotate_left
    ·exact qP
    refine pure_ (i := 2) (N := some 21) (v := ?_) (a' := ?_) #[false, true, true, false, false, false, false, false, false, false] rfl rfl (any_of HT_.out (by kernel_rfl)) (fun _ _ _ h => h) (Or.inl ⟨by rfl, ?_⟩) ?_ ?_
    rotate_left
    ·intro w'
     go_simp
     with_reducible rfl
    rotate_left
    ·exact qP
    refine pure_ (i := 3) (N := some 22) (v := ?_) (a' := ?_) #[false, true, true, true, false, false, false, false, false, false] rfl rfl (any_of HT_.out (by kernel_rfl)) (fun _ _ _ h => h) (Or.inl ⟨by rfl, ?_⟩) ?_ ?_
    rotate_left
    ·intro w'
     go_simp
     with_reducible rfl
    rotate_left
    ·exact qP
    refine pure_ (i := 4) (N := some 23) (v := ?_) (a' := ?_) #[false, true, true, true, true, false, false, false, false, false] rfl rfl (any_of HT_.out (by kernel_rfl)) (fun _ _ _ h => h) (Or.inl ⟨by rfl, ?_⟩) ?_ ?_
    rotate_left
    ·intro w'
     go_simp
     with_reducible rfl
    rotate_left
    ·exact qP
    refine take_ (i := 0) (N := some 19) (v := ?_) (a' := ?_) #[true, true, true, true, true, false, false, false, false, false] rfl rfl (take_ofW HT_.out HW_.out (by kernel_rfl)) (fun _ _ _ h => h) (Or.inl ⟨by rfl, ?_⟩) hHeld ?_ ?_
    rotate_left
    ·rintro w' ⟨s0, s1⟩
     go_simp
     with_reducible rfl
    rotate_left
    ·exact qP
    refine take_ (i := 5) (N := some 24) (v := ?_) (a' := ?_) #[true, true, true, true, true, true, false, false, false, false] rfl rfl (take_ofW HT_.out HW_.out (by kernel_rfl)) (fun _ _ _ h => h) (Or.inl ⟨by rfl, ?_⟩) hHeld ?_ ?_
    rotate_left
    ·rintro w' ⟨s0, s1⟩
     go_simp
     with_reducible rfl
    rotate_left
    ·exact qP
    refine one_ (i := 6) (N := some 25) #[true, true, true, true, true, true, true, false, false, false] rfl rfl (one_of HT_.out (by kernel_rfl)) (by decide) (fun K hK => ?_)
    refine goes_ Try.func112 (by kernel_rfl) rfl #[.int .i64 (rd t1081 0), .int .i64 100000] (by rfl) rfl rfl qA ?_
    with_reducible refine (spec_l1Least.calls (rd t1081 0) 100000 t1085 _ A8.out).mono ?_
    rintro e w' ⟨rfl, ⟨nd, rfl⟩⟩
    refine ⟨_, rfl, ?_⟩
    refine hK.out _ _ ⟨(blk_cell BK1076.out 0).trans rfl, hHeld.2⟩ (fun hHeld => ?_)
    clear hK K
    refine norm_ (a' := ?_) ?_ ?_
    rotate_left
    ·show Act.put _ (some 25) _ = _
     simp only [Act.put, List.setIfInBounds_toArray, List.set_cons_zero, List.set_cons_succ, i64_w, i32_w]
     rfl
    refine one_ (i := 7) (N := some 26) #[true, true, true, true, true, true, true, true, false, false] rfl rfl (one_of HT_.out (by kernel_rfl)) (by decide) (fun K hK => ?_)
    refine goes_ Try.func68 (by kernel_rfl) rfl #[.pointer (some ⟨g, 0, none⟩), .int .i64 t1085] (by rfl) rfl rfl qA ?_
    with_reducible refine (spec_l1Cur_pick.calls g s0_0 t1074 t1075 t1085 t1086 t1087 t1088 w0 _ ?side1 ?side2 A9.out).mono ?_
    (case side1 => exact qI67)
    (case side2 => exact qB)
    rintro e w74 ⟨rfl, hi, hb, hk⟩
    have HS1_ := keep_cell hk (hHeld.2) (by first | (rw [add_block]; exact Kd.own_blk (IsS67.own_ne HI0.out HO1083.out (by decide))) | (show (Addr.add _ _).block ≠ _; rw [add_block]; exact Kd.own_blk (IsS67.own_ne HI0.out HO1083.out (by decide))) | exact Kd.own_blk (IsS67.own_ne HI0.out HO1083.out (by decide)))
    refine ⟨_, rfl, ?_⟩
    have n0_ := am (KeepBut.blk hk (g' := gb1070) (o := .cells #[.slice none 0 0] 26 (0, 0)) (qb BK1070.out) NB1070_0.out (by simp))
    have n1_ := am (Kd.R_mono (Kd.R_keep (IsS67.apart (show IsS67 w0 _ g s0_0 t1074 t1075 from qI67) (qR HO1073.out) (by decide)) hk (fun _ h => h.2)) (fun _ h => h.1))
    have n2_ := am (KeepBut.blk hk (g' := gb1076) (o := .cells #[.slice Ao65 t1071.length co65] 26 (0, 0)) (qb BK1076.out) NB1076_0.out (by simp))
    have n3_ := am (Kd.R_mono (Kd.R_keep (IsS67.apart (show IsS67 w0 _ g s0_0 t1074 t1075 from qI67) (qR HO1083.out) (by decide)) hk (fun _ h => h.2)) (fun _ h => h.1))
    have n4_ := am (KeepBut.trans qK hk (.inl rfl))
    have n5_ := am (hb)
    have n6_ := am (hi)
    clear BK1070
    clear HO1073
    clear BK1076
    clear HO1083
    clear HK
    clear HB
    clear HI0
    have BK1070 := n0_
    have HO1073 := n1_
    have BK1076 := n2_
    have HO1083 := n3_
    have HK := n4_
    have HB := n5_
    have HI0 := n6_
    clear n0_ n1_ n2_ n3_ n4_ n5_ n6_
    (try clear hb)
    (try clear hb2)
    (try clear hk)
    (try clear hi)
    refine hK.out _ _ ⟨(blk_cell BK1076.out 0).trans rfl, HS1_⟩ (fun hHeld => ?_)
    clear hK K
    refine norm_ (a' := ?_) ?_ ?_
    rotate_left
    ·show Act.put _ (some 26) _ = _
     simp only [Act.put, List.setIfInBounds_toArray, List.set_cons_zero, List.set_cons_succ, i64_w, i32_w]
     rfl
    refine one_ (i := 8) (N := some 27) #[true, true, true, true, true, true, true, true, true, false] rfl rfl (one_of HT_.out (by kernel_rfl)) (by decide) (fun K hK => ?_)
    refine goes_ Try.func116 (by kernel_rfl) rfl #[.agg #[.slice Ao65 t1071.length co65], .slice (some ad1084) t1081.length co73, .int .i64 t1086] (by rfl) rfl rfl qA ?_
    with_reducible refine (spec_liWith.calls k _ _ t1071 _ _ t1081 t1086 t1089 _ ?side1 ?side2 ?side3 ?side4 A10.out).mono ?_
    (case side1 => exact qC (Kd.R_reads' HO1073.out).2.2)
    (case side2 => exact (Kd.R_reads' HO1073.out).2.1)
    (case side3 => exact qC (Kd.R_reads' HO1083.out).2.2)
    (case side4 => exact (Kd.R_reads' HO1083.out).2.1)
    rintro e w75 ⟨v1090, rfl, ho0, hb⟩
    have HS1_ := (hb.cell (World.block_lt_of_cell? _ _ (hHeld.2))).trans (hHeld.2)
    refine ⟨_, rfl, ?_⟩
    have n0_ := am (Kd.R_elder' (qR HO1073.out) (Kd.R_base ho0) hb)
    have n1_ := am (Kd.R_elder' (qR HO1083.out) (Kd.R_base ho0) hb)
    have n2_ := am (Kd.R_lower (Kd.R_new' (Kd.R_new' ho0 (Kd.R_lt (qR HO1073.out))) (Kd.R_lt (qR HO1083.out))) (keep_size (w := w) (g := g) (row := none) qK))
    have n3_ := am (IsS67.below qI67 hb)
    have n4_ := am (blk_below (g := gb1070) (o := .cells #[.slice none 0 0] 26 (0, 0)) (qb BK1070.out) hb)
    have n5_ := am (blk_below (g := gb1076) (o := .cells #[.slice Ao65 t1071.length co65] 26 (0, 0)) (qb BK1076.out) hb)
    have n6_ := am (KeepBut.trans qK (KeepBut.of_below hb g none) (.inl rfl))
    have n7_ := am (below_step qB hb)
    clear HO1073
    clear HO1083
    clear HI0
    clear BK1070
    clear BK1076
    clear HK
    clear HB
    have HO1073 := n0_
    have HO1083 := n1_
    have HO1091 := n2_
    have HI0 := n3_
    have BK1070 := n4_
    have BK1076 := n5_
    have HK := n6_
    have HB := n7_
    clear n0_ n1_ n2_ n3_ n4_ n5_ n6_ n7_
    (try clear hb)
    (try clear hb2)
    (try clear hk)
    (try clear hi)
    (try clear ho0)
    refine hK.out _ _ ⟨(blk_cell BK1076.out 0).trans rfl, HS1_⟩ (fun hHeld => ?_)
    clear hK K
    refine norm_ (a' := ?_) ?_ ?_
    rotate_left
    ·show Act.put _ (some 27) _ = _
     simp only [Act.put, List.setIfInBounds_toArray, List.set_cons_zero, List.set_cons_succ, i64_w, i32_w]
     rfl
    refine pure_ (i := 9) (N := some 8) (v := ?_) (a' := ?_) #[true, true, true, true, true, true, true, true, true, true] rfl rfl (any_of HT_.out (by kernel_rfl)) (fun _ _ _ h => h) (Or.inl ⟨by rfl, ?_⟩) ?_ ?_
    rotate_left
    ·intro w'
     go_simp
     with_reducible rfl
    rotate_left
    ·exact qP
    refine done_ (done_of HT_.out (by kernel_rfl)) ?_
    try go_wp2_with (first | ((with_reducible refine gate_callee (f := 68) rfl ?_); refine gL (some 29) Try.func68 #[.pointer (some ⟨g, 0, none⟩), .int .i64 14] ?_; (with_reducible refine (spec_l1Cur_pick.calls g s0_0 t1087 t1088 14 t1092 t1093 t1094 w0 _ ?side1 ?side2 A11.out).mono ?_); (case side1 => exact qI67); (case side2 => exact qB); rintro e w76 ⟨rfl, hi, hb, hk⟩; refine ⟨_, rfl, ?_⟩; replace BK1070 := am (KeepBut.blk hk (g' := gb1070) (o := .cells #[.slice none 0 0] 26 (0, 0)) (qb BK1070.out) NB1070_0.out (by simp)); replace HO1073 := am (Kd.R_mono (Kd.R_keep (IsS67.apart (show IsS67 w0 _ g s0_0 t1087 t1088 from qI67) (qR HO1073.out) (by decide)) hk (fun _ h => h.2)) (fun _ h => h.1)); replace BK1076 := am (KeepBut.blk hk (g' := gb1076) (o := .cells #[.slice Ao65 t1071.length co65] 26 (0, 0)) (qb BK1076.out) NB1076_0.out (by simp)); replace HO1083 := am (Kd.R_mono (Kd.R_keep (IsS67.apart (show IsS67 w0 _ g s0_0 t1087 t1088 from qI67) (qR HO1083.out) (by decide)) hk (fun _ h => h.2)) (fun _ h => h.1)); replace HO1091 := am (Kd.R_mono (Kd.R_keep (IsS67.apart (show IsS67 w0 _ g s0_0 t1087 t1088 from qI67) (qR HO1091.out) (by decide)) hk (fun _ h => h.2)) (fun _ h => h.1)); have n5_ := am (KeepBut.trans qK hk (.inl rfl)); have n6_ := am (hb); replace HI0 := am (hi); clear HK HB; have HK := n5_; have HB := n6_; clear n5_ n6_; (try clear hb); (try clear hb2); (try clear hk); (try clear hi); have hcz77_0 := qz w76 BK1076.out; have hfz77_0 := blk_frozen BK1076.out 0; have hnb78 := NB1070_0.out; have hnc78 := NB0_1070.out; have hcz79_0 := qz w76 BK1070.out; have hfz79_0 := blk_frozen BK1070.out 0))
    refine bodyPost_ret (results_ct rfl _ _ gb1070 26 #[.slice Ao65 t1071.length co65] (0, 0) _ rfl (by (with_reducible repeat (first | refine blk_drewN ?_ _ | refine blk_drew ?_ | refine blk_alloc ?_ _)); refine blk_put (cs := #[.slice none 0 0]) ?_ 0 _ rfl; refine qb ?_; exact BK1070.out) Try.underlying26 rfl (by kernel_rfl)) rfl ?_
    exact ⟨_, _, qr, qR (Kd.R_mono (Kd.R_far (p := ⟨gb1070, 0, none⟩) (Kd.R_types HO1073.out BK1070.out (by decide)) (fun _ hk => hk.2) (.slice Ao65 t1071.length co65)) (fun _ hk => hk.1.2)), qR (Kd.R_mono (Kd.R_far (p := ⟨gb1070, 0, none⟩) (Kd.R_types HO1091.out BK1070.out (by decide)) (fun _ hk => hk.2) (.slice Ao65 t1071.length co65)) (fun _ hk => hk.1.1.2)), qI67, qB, qK⟩
 ·replace c5 := Bool.eq_false_iff.mpr c5
  subst c5
  have H1 : (some (t1071, (([0] : List Int)), t1074, t1075)) = some (r1, r2, r3, r4) := by rw [if_neg (show ¬ (false = true) by decide)] at H; exact H
  clear H
  have H := H1
  clear H1
  obtain ⟨y1078, hy1078⟩ : ∃ y_ : List Int, y_ = (([0] : List Int)) := ⟨_, rfl⟩
  replace H : (some (t1071, y1078, t1074, t1075)) = some (r1, r2, r3, r4) := by first | (rw [hy1078]; with_reducible exact H) | (have H2_ := (Option.bind_some _ _).symm.trans H; rw [hy1078]; with_reducible exact H2_) | (have H2_ := (Option.bind_some _ _).symm.trans H; with_reducible exact H2_) | with_reducible exact H | (rw [hy1078]; exact H) | exact H
  have Ny1078 := am hy1078
  clear hy1078
  simp only [Option.some.injEq, Prod.mk.injEq] at H
  obtain ⟨rfl, rfl, rfl, rfl⟩ := H
  go_enter Try.func149, Try.ntmps149
  go_wp2_with (first | ((with_reducible refine gate_dst (N := 4) rfl ?_); refine qx (N := 4) (cs := #[.slice none 0 0]) (t := 26) ?_; intro gb1070 hg w80 hbox hb; have n0_ := am (IsS67.below qI67 hb); have n1_ := am (KeepBut.trans qK (KeepBut.of_below hb g none) (.inl rfl)); have n2_ := am (below_step qB hb); have BK1070 := am (hbox); have GW1070 := am ((by rw [hg]; exact (keep_size (w := w) (g := g) (row := none) qK) : w.heap.size ≤ gb1070)); have GE1070 := am ((Nat.le_trans HW0.out (by rw [hg]; exact (keep_size (w := w) (g := g) (row := none) qK) : w.heap.size ≤ gb1070) : w0.heap.size ≤ gb1070)); have NB0_1070 := am ((by rw [hg]; exact Nat.ne_of_lt (IsS67.lt (show IsS67 w0 _ g s0_0 s0_1 s0_2 from qI67)) : g ≠ gb1070)); have NB1070_0 := am ((by rw [hg]; exact Nat.ne_of_gt (IsS67.lt (show IsS67 w0 _ g s0_0 s0_1 s0_2 from qI67)) : gb1070 ≠ g)); clear HI0 HK HB; have HI0 := n0_; have HK := n1_; have HB := n2_; clear n0_ n1_ n2_; clear hb hbox hg) | ((with_reducible refine gate_callee (f := 64) rfl ?_); refine gL (some 11) Try.func64 #[.pointer (some ⟨g, 0, none⟩), .int .i64 a1] ?_; (with_reducible refine (spec_l1Cur_poset.calls k g s0_0 s0_1 s0_2 a1 t1071 t1074 t1075 w0 _ ?side1 ?side2 A3.out).mono ?_); (case side1 => exact qI67); (case side2 => exact qB); rintro e w81 ⟨v1072, rfl, ho0, hi, hb, hk⟩; refine ⟨_, rfl, ?_⟩; replace BK1070 := am (KeepBut.blk hk (g' := gb1070) (o := .cells #[.slice none 0 0] 26 (0, 0)) (qb BK1070.out) NB1070_0.out (by simp)); have HO1073 := am (Kd.R_lower ho0 (keep_size (w := w) (g := g) (row := none) qK)); have n2_ := am (KeepBut.trans qK hk (.inl rfl)); have n3_ := am (hb); replace HI0 := am (hi); clear HK HB; have HK := n2_; have HB := n3_; clear n2_ n3_; (try clear hb); (try clear hb2); (try clear hk); (try clear hi); (try clear ho0)) | ((with_reducible refine gate_dst (N := 6) rfl ?_); refine qx (N := 6) (cs := #[.slice none 0 0]) (t := 26) ?_; intro gb1076 hg w82 hbox hb; replace HO1073 := am (Kd.R_below (qR HO1073.out) hb); have n1_ := am (IsS67.below qI67 hb); have n2_ := am (blk_below (g := gb1070) (o := .cells #[.slice none 0 0] 26 (0, 0)) (qb BK1070.out) hb); have n3_ := am (KeepBut.trans qK (KeepBut.of_below hb g none) (.inl rfl)); have n4_ := am (below_step qB hb); have BK1076 := am (hbox); have GW1076 := am ((by rw [hg]; exact (keep_size (w := w) (g := g) (row := none) qK) : w.heap.size ≤ gb1076)); have GE1076 := am ((Nat.le_trans HW0.out (by rw [hg]; exact (keep_size (w := w) (g := g) (row := none) qK) : w.heap.size ≤ gb1076) : w0.heap.size ≤ gb1076)); have NB1070_1076 := am ((by rw [hg]; exact Nat.ne_of_lt (blk_lt (g := gb1070) (o := .cells #[.slice none 0 0] 26 (0, 0)) (qb BK1070.out)) : gb1070 ≠ gb1076)); have NB1076_1070 := am ((by rw [hg]; exact Nat.ne_of_gt (blk_lt (g := gb1070) (o := .cells #[.slice none 0 0] 26 (0, 0)) (qb BK1070.out)) : gb1076 ≠ gb1070)); have NB0_1076 := am ((by rw [hg]; exact Nat.ne_of_lt (IsS67.lt (show IsS67 w0 _ g s0_0 t1074 t1075 from qI67)) : g ≠ gb1076)); have NB1076_0 := am ((by rw [hg]; exact Nat.ne_of_gt (IsS67.lt (show IsS67 w0 _ g s0_0 t1074 t1075 from qI67)) : gb1076 ≠ g)); clear HI0 BK1070 HK HB; have HI0 := n1_; have BK1070 := n2_; have HK := n3_; have HB := n4_; clear n1_ n2_ n3_ n4_; clear hb hbox hg; obtain ⟨Ao83, co83, eo83⟩ := Kd.R_slice HO1073.out; subst eo83; have hnb84 := NB1076_1070.out; have hnc84 := NB1070_1076.out; have hnb85 := NB1076_0.out; have hnc85 := NB0_1076.out; have hcz86_0 := qz w82 BK1076.out; have hfz86_0 := blk_frozen BK1076.out 0) | ((with_reducible refine gate_callee (f := 82) rfl ?_); refine gL (some 13) Try.func82 #[.agg #[.slice Ao83 t1071.length co83]] ?_; (with_reducible refine (spec_poGood.calls k _ _ t1071 false _ ?side1 ?side2 A4.out).mono ?_); (case side1 => refine (Kd.R_reads' (e := 3) (base := w.heap.size) (ok := fun k_ => True) (n := t1071.length) (c := co83) ?_).2.2; exact (qR ((Kd.R_mono (Kd.R_far (p := ⟨gb1076, 0, none⟩) (Kd.R_types HO1073.out BK1076.out (by decide)) (fun _ hk => hk.2) (.slice Ao83 t1071.length co83)) (fun _ h_ => h_.1))))); (case side2 => exact (Kd.R_reads' HO1073.out).2.1); rintro e w87 ⟨rfl, hb⟩; refine ⟨_, rfl, ?_⟩; replace HO1073 := am (Kd.R_below (qR ((Kd.R_mono (Kd.R_far (p := ⟨gb1076, 0, none⟩) (Kd.R_types HO1073.out BK1076.out (by decide)) (fun _ hk => hk.2) (.slice Ao83 t1071.length co83)) (fun _ h_ => h_.1)))) hb); have n1_ := am (IsS67.below (show IsS67 w0 (w82.setCell ⟨gb1076, 0, none⟩ (.slice Ao83 t1071.length co83)) g s0_0 t1074 t1075 from qI67) hb); replace BK1070 := am (blk_below (g := gb1070) (o := .cells #[.slice none 0 0] 26 (0, 0)) (by (with_reducible repeat (first | refine blk_drewN ?_ _ | refine blk_drew ?_ | refine blk_alloc ?_ _)); refine blk_far ?_ NB1070_1076.out _; refine qb ?_; exact BK1070.out) hb); replace BK1076 := am (blk_below (g := gb1076) (o := .cells #[.slice Ao83 t1071.length co83] 26 (0, 0)) (by (with_reducible repeat (first | refine blk_drewN ?_ _ | refine blk_drew ?_ | refine blk_alloc ?_ _)); refine blk_put (cs := #[.slice none 0 0]) ?_ 0 _ rfl; refine qb ?_; exact BK1076.out) hb); have n4_ := am (KeepBut.trans qK (KeepBut.of_below hb g none) (.inl rfl)); replace HB := am (below_step qB hb); clear HI0 HK; have HI0 := n1_; have HK := n4_; clear n1_ n4_; (try clear hb); (try clear hb2); (try clear hk); (try clear hi); have hcz88_0 := qz w87 BK1076.out; have hfz88_0 := blk_frozen BK1076.out 0) | ((with_reducible refine gate_dst (N := 16) rfl ?_); refine Kd.R_lit (Kd.int .i64) _ 3 ?hg (N := 16) ?hd (xs := ([0] : List Int)) (inner := [.int .i64 0]) (ok := fun _ => True) (okp := fun _ => True) ?hr ?hp (fun _ hk => hk) trivial (Below.refl _ _) (Nat.le_refl _) (by simp) ?_; (case hd => rfl); (case hg => rfl); (case hr => first | (go_simp; done) | (go_simp; rfl)); (case hp => exact (Reps.one (show Kd.M (Kd.int .i64) _ _ _ 0 [.int .i64 0] from rfl) (Reps.none _ _))); intro v1079 w89 ho90 hb hg_ hnew_; clear hg_ hnew_; (first | rw [← Ny1078.out] at ho90 | (simp only [Int.reduceToNat] at ho90; rw [← Ny1078.out] at ho90)); have n0_ := am (Kd.R_elder' (qR HO1073.out) (Kd.R_base ho90) hb); have HO1080 := am (Kd.R_lower (Kd.R_new' ho90 (Kd.R_lt (qR HO1073.out))) (keep_size (w := w) (g := g) (row := none) qK)); have n2_ := am (IsS67.below qI67 hb); replace BK1070 := am (blk_below (g := gb1070) (o := .cells #[.slice none 0 0] 26 (0, 0)) (qb BK1070.out) hb); replace BK1076 := am (blk_below (g := gb1076) (o := .cells #[.slice Ao83 t1071.length co83] 26 (0, 0)) (qb BK1076.out) hb); have n5_ := am (KeepBut.trans qK (KeepBut.of_below hb g none) (.inl rfl)); replace HB := am (below_step qB hb); clear HO1073 HI0 HK; have HO1073 := n0_; have HI0 := n2_; have HK := n5_; clear n0_ n2_ n5_; clear hb ho90; have hnb91 := NB1070_0.out; have hnc91 := NB0_1070.out; have hcz92_0 := qz w89 BK1070.out; have hfz92_0 := blk_frozen BK1070.out 0))
  refine bodyPost_ret (results_ct rfl _ _ gb1070 26 #[.slice Ao83 t1071.length co83] (0, 0) _ rfl (by (with_reducible repeat (first | refine blk_drewN ?_ _ | refine blk_drew ?_ | refine blk_alloc ?_ _)); refine blk_put (cs := #[.slice none 0 0]) ?_ 0 _ rfl; refine qb ?_; exact BK1070.out) Try.underlying26 rfl (by kernel_rfl)) rfl ?_
  exact ⟨_, _, qr, qR (Kd.R_mono (Kd.R_far (p := ⟨gb1070, 0, none⟩) (Kd.R_types HO1073.out BK1070.out (by decide)) (fun _ hk => hk.2) (.slice Ao83 t1071.length co83)) (fun _ hk => hk.1.2)), qR (Kd.R_mono (Kd.R_far (p := ⟨gb1070, 0, none⟩) (Kd.R_types HO1080.out BK1070.out (by decide)) (fun _ hk => hk.2) (.slice Ao83 t1071.length co83)) (fun _ hk => hk.1.2)), qI67, qB, qK⟩
def spec_l1Cur_small.f (k : Nat) (s0_0 : List Int) (s0_1 : Int) (s0_2 : Int) : Option (List Int × Int × Int) := (spec_l1Cur_one.f s0_0 s0_1 s0_2 10).bind fun bt1009 => (if bt1009.1 = true then ((spec_l1Cur_poset.f k s0_0 bt1009.2.1 bt1009.2.2 8).bind fun bt1012 => (some (bt1012.1, bt1012.2.1, bt1012.2.2))) else ((spec_l1Cur_poset.f k s0_0 bt1009.2.1 bt1009.2.2 5).bind fun bt1017 => (some (bt1017.1, bt1017.2.1, bt1017.2.2))))
theorem spec_l1Cur_small.mono : ∀ a0 a1 a2 k, LeO (spec_l1Cur_small.f k a0 a1 a2) (spec_l1Cur_small.f (k + 1) a0 a1 a2) := by
 intro a0 a1 a2 k
 unfold spec_l1Cur_small.f
 repeat' first
  | (with_reducible exact spec_l1Cur_poset.mono _ _ _ _ _)
  | (with_reducible exact LeO.refl _)
  | (with_reducible exact LeO.none _)
  | (with_reducible refine LeO.ite ?_ ?_)
  | (with_reducible refine LeO.bind ?_ (fun _ => ?_))
  | exact spec_l1Cur_poset.mono _ _ _ _ _
  | exact LeO.none _
  | refine LeO.ite ?_ ?_
  | refine LeO.bind ?_ (fun _ => ?_)
set_option maxHeartbeats 8000000 in
set_option maxRecDepth 100000 in
theorem spec_l1Cur_small.calls (k : Nat) (g : Nat) (s0_0 : List Int) (s0_1 : Int) (s0_2 : Int) (r1 : List Int) (r2 : Int) (r3 : Int) (w0 w : World) (hI : IsS67 w0 w g s0_0 s0_1 s0_2) (hB : Below w0.heap.size w0 w) (h : spec_l1Cur_small.f k s0_0 s0_1 s0_2 = some (r1, r2, r3)) :
 Calls Try.prog 117 #[.pointer (some ⟨g, 0, none⟩)] w fun e w' => ∃ v0_ : Value, e = .returned (.agg #[v0_]) ∧ Kd.R (Kd.int .i64) 3 w' w.heap.size (fun _ => True) v0_ r1 ∧ IsS67 w0 w' g s0_0 r2 r3 ∧ Below w0.heap.size w0 w' ∧ KeepBut w w' g none := by
 have hu26 := Try.underlying26
 have HI0 := am hI
 have HK := am (KeepBut.refl w g none)
 have HL := am hB.size
 clear hI
 have HW0 := am hB.size
 have HB := am hB
 clear hB
 have H : ((spec_l1Cur_one.f s0_0 s0_1 s0_2 10).bind fun bt1009 => (if bt1009.1 = true then ((spec_l1Cur_poset.f k s0_0 bt1009.2.1 bt1009.2.2 8).bind fun bt1012 => (some (bt1012.1, bt1012.2.1, bt1012.2.2))) else ((spec_l1Cur_poset.f k s0_0 bt1009.2.1 bt1009.2.2 5).bind fun bt1017 => (some (bt1017.1, bt1017.2.1, bt1017.2.2))))) = some (r1, r2, r3) := h
 clear h
 replace H := Option.bind_eq_some_iff.mp H
 obtain ⟨⟨t1009, t1010, t1011⟩, A20, H⟩ := H
 replace H : (if t1009 = true then ((spec_l1Cur_poset.f k s0_0 t1010 t1011 8).bind fun bt1012 => (some (bt1012.1, bt1012.2.1, bt1012.2.2))) else ((spec_l1Cur_poset.f k s0_0 t1010 t1011 5).bind fun bt1017 => (some (bt1017.1, bt1017.2.1, bt1017.2.2)))) = some (r1, r2, r3) := H
 have A2 := am A20
 clear A20
 by_cases c3 : t1009 = true
 ·subst c3
  have H1 : ((spec_l1Cur_poset.f k s0_0 t1010 t1011 8).bind fun bt1012 => (some (bt1012.1, bt1012.2.1, bt1012.2.2))) = some (r1, r2, r3) := by rw [if_pos rfl] at H; exact H
  clear H
  have H := H1
  clear H1
  replace H := Option.bind_eq_some_iff.mp H
  obtain ⟨⟨t1012, t1015, t1016⟩, A40, H⟩ := H
  replace H : (some (t1012, t1015, t1016)) = some (r1, r2, r3) := H
  have A4 := am A40
  clear A40
  simp only [Option.some.injEq, Prod.mk.injEq] at H
  obtain ⟨rfl, rfl, rfl⟩ := H
  go_enter Try.func117, Try.ntmps117
  go_wp2_with (first | ((with_reducible refine gate_dst (N := 2) rfl ?_); refine qx (N := 2) (cs := #[.slice none 0 0]) (t := 26) ?_; intro gb1008 hg w5 hbox hb; have n0_ := am (IsS67.below qI67 hb); have n1_ := am (KeepBut.trans qK (KeepBut.of_below hb g none) (.inl rfl)); have n2_ := am (below_step qB hb); have BK1008 := am (hbox); have GW1008 := am ((by rw [hg]; exact (keep_size (w := w) (g := g) (row := none) qK) : w.heap.size ≤ gb1008)); have GE1008 := am ((Nat.le_trans HW0.out (by rw [hg]; exact (keep_size (w := w) (g := g) (row := none) qK) : w.heap.size ≤ gb1008) : w0.heap.size ≤ gb1008)); have NB0_1008 := am ((by rw [hg]; exact Nat.ne_of_lt (IsS67.lt (show IsS67 w0 _ g s0_0 s0_1 s0_2 from qI67)) : g ≠ gb1008)); have NB1008_0 := am ((by rw [hg]; exact Nat.ne_of_gt (IsS67.lt (show IsS67 w0 _ g s0_0 s0_1 s0_2 from qI67)) : gb1008 ≠ g)); clear HI0 HK HB; have HI0 := n0_; have HK := n1_; have HB := n2_; clear n0_ n1_ n2_; clear hb hbox hg) | ((with_reducible refine gate_callee (f := 66) rfl ?_); refine gL (some 4) Try.func66 #[.pointer (some ⟨g, 0, none⟩), .int .i64 10] ?_; (with_reducible refine (spec_l1Cur_one.calls g s0_0 s0_1 s0_2 10 true t1010 t1011 w0 _ ?side1 ?side2 A2.out).mono ?_); (case side1 => exact qI67); (case side2 => exact qB); rintro e w6 ⟨rfl, hi, hb, hk⟩; refine ⟨_, rfl, ?_⟩; replace BK1008 := am (KeepBut.blk hk (g' := gb1008) (o := .cells #[.slice none 0 0] 26 (0, 0)) (qb BK1008.out) NB1008_0.out (by simp)); have n1_ := am (KeepBut.trans qK hk (.inl rfl)); have n2_ := am (hb); replace HI0 := am (hi); clear HK HB; have HK := n1_; have HB := n2_; clear n1_ n2_; (try clear hb); (try clear hb2); (try clear hk); (try clear hi)) | ((with_reducible refine gate_callee (f := 64) rfl ?_); refine gL (some 6) Try.func64 #[.pointer (some ⟨g, 0, none⟩), .int .i64 8] ?_; (with_reducible refine (spec_l1Cur_poset.calls k g s0_0 t1010 t1011 8 t1012 t1015 t1016 w0 _ ?side1 ?side2 A4.out).mono ?_); (case side1 => exact qI67); (case side2 => exact qB); rintro e w7 ⟨v1013, rfl, ho0, hi, hb, hk⟩; refine ⟨_, rfl, ?_⟩; replace BK1008 := am (KeepBut.blk hk (g' := gb1008) (o := .cells #[.slice none 0 0] 26 (0, 0)) (qb BK1008.out) NB1008_0.out (by simp)); have HO1014 := am (Kd.R_lower ho0 (keep_size (w := w) (g := g) (row := none) qK)); have n2_ := am (KeepBut.trans qK hk (.inl rfl)); have n3_ := am (hb); replace HI0 := am (hi); clear HK HB; have HK := n2_; have HB := n3_; clear n2_ n3_; (try clear hb); (try clear hb2); (try clear hk); (try clear hi); (try clear ho0); obtain ⟨Ao8, co8, eo8⟩ := Kd.R_slice HO1014.out; subst eo8; have hnb9 := NB1008_0.out; have hnc9 := NB0_1008.out; have hcz10_0 := qz w7 BK1008.out; have hfz10_0 := blk_frozen BK1008.out 0))
  refine bodyPost_ret (results_cell_row rfl _ _ gb1008 26 #[.slice Ao8 t1012.length co8] (0, 0) _ rfl (by (with_reducible repeat (first | refine blk_drewN ?_ _ | refine blk_drew ?_ | refine blk_alloc ?_ _)); refine blk_put (cs := #[.slice none 0 0]) ?_ 0 _ rfl; refine qb ?_; exact BK1008.out) Try.underlying26 rfl (by kernel_rfl)) rfl ?_
  exact ⟨_, qr, qR (Kd.R_mono (Kd.R_far (p := ⟨gb1008, 0, none⟩) (Kd.R_types HO1014.out BK1008.out (by decide)) (fun _ hk => hk.2) (.slice Ao8 t1012.length co8)) (fun _ hk => trivial)), qI67, qB, qK⟩
 ·replace c3 := Bool.eq_false_iff.mpr c3
  subst c3
  have H1 : ((spec_l1Cur_poset.f k s0_0 t1010 t1011 5).bind fun bt1017 => (some (bt1017.1, bt1017.2.1, bt1017.2.2))) = some (r1, r2, r3) := by rw [if_neg (show ¬ (false = true) by decide)] at H; exact H
  clear H
  have H := H1
  clear H1
  replace H := Option.bind_eq_some_iff.mp H
  obtain ⟨⟨t1017, t1020, t1021⟩, A110, H⟩ := H
  replace H : (some (t1017, t1020, t1021)) = some (r1, r2, r3) := H
  have A11 := am A110
  clear A110
  simp only [Option.some.injEq, Prod.mk.injEq] at H
  obtain ⟨rfl, rfl, rfl⟩ := H
  go_enter Try.func117, Try.ntmps117
  go_wp2_with (first | ((with_reducible refine gate_dst (N := 2) rfl ?_); refine qx (N := 2) (cs := #[.slice none 0 0]) (t := 26) ?_; intro gb1008 hg w12 hbox hb; have n0_ := am (IsS67.below qI67 hb); have n1_ := am (KeepBut.trans qK (KeepBut.of_below hb g none) (.inl rfl)); have n2_ := am (below_step qB hb); have BK1008 := am (hbox); have GW1008 := am ((by rw [hg]; exact (keep_size (w := w) (g := g) (row := none) qK) : w.heap.size ≤ gb1008)); have GE1008 := am ((Nat.le_trans HW0.out (by rw [hg]; exact (keep_size (w := w) (g := g) (row := none) qK) : w.heap.size ≤ gb1008) : w0.heap.size ≤ gb1008)); have NB0_1008 := am ((by rw [hg]; exact Nat.ne_of_lt (IsS67.lt (show IsS67 w0 _ g s0_0 s0_1 s0_2 from qI67)) : g ≠ gb1008)); have NB1008_0 := am ((by rw [hg]; exact Nat.ne_of_gt (IsS67.lt (show IsS67 w0 _ g s0_0 s0_1 s0_2 from qI67)) : gb1008 ≠ g)); clear HI0 HK HB; have HI0 := n0_; have HK := n1_; have HB := n2_; clear n0_ n1_ n2_; clear hb hbox hg) | ((with_reducible refine gate_callee (f := 66) rfl ?_); refine gL (some 4) Try.func66 #[.pointer (some ⟨g, 0, none⟩), .int .i64 10] ?_; (with_reducible refine (spec_l1Cur_one.calls g s0_0 s0_1 s0_2 10 false t1010 t1011 w0 _ ?side1 ?side2 A2.out).mono ?_); (case side1 => exact qI67); (case side2 => exact qB); rintro e w13 ⟨rfl, hi, hb, hk⟩; refine ⟨_, rfl, ?_⟩; replace BK1008 := am (KeepBut.blk hk (g' := gb1008) (o := .cells #[.slice none 0 0] 26 (0, 0)) (qb BK1008.out) NB1008_0.out (by simp)); have n1_ := am (KeepBut.trans qK hk (.inl rfl)); have n2_ := am (hb); replace HI0 := am (hi); clear HK HB; have HK := n1_; have HB := n2_; clear n1_ n2_; (try clear hb); (try clear hb2); (try clear hk); (try clear hi)) | ((with_reducible refine gate_callee (f := 64) rfl ?_); refine gL (some 8) Try.func64 #[.pointer (some ⟨g, 0, none⟩), .int .i64 5] ?_; (with_reducible refine (spec_l1Cur_poset.calls k g s0_0 t1010 t1011 5 t1017 t1020 t1021 w0 _ ?side1 ?side2 A11.out).mono ?_); (case side1 => exact qI67); (case side2 => exact qB); rintro e w14 ⟨v1018, rfl, ho0, hi, hb, hk⟩; refine ⟨_, rfl, ?_⟩; replace BK1008 := am (KeepBut.blk hk (g' := gb1008) (o := .cells #[.slice none 0 0] 26 (0, 0)) (qb BK1008.out) NB1008_0.out (by simp)); have HO1019 := am (Kd.R_lower ho0 (keep_size (w := w) (g := g) (row := none) qK)); have n2_ := am (KeepBut.trans qK hk (.inl rfl)); have n3_ := am (hb); replace HI0 := am (hi); clear HK HB; have HK := n2_; have HB := n3_; clear n2_ n3_; (try clear hb); (try clear hb2); (try clear hk); (try clear hi); (try clear ho0); obtain ⟨Ao15, co15, eo15⟩ := Kd.R_slice HO1019.out; subst eo15; have hnb16 := NB1008_0.out; have hnc16 := NB0_1008.out; have hcz17_0 := qz w14 BK1008.out; have hfz17_0 := blk_frozen BK1008.out 0))
  refine bodyPost_ret (results_cell_row rfl _ _ gb1008 26 #[.slice Ao15 t1017.length co15] (0, 0) _ rfl (by (with_reducible repeat (first | refine blk_drewN ?_ _ | refine blk_drew ?_ | refine blk_alloc ?_ _)); refine blk_put (cs := #[.slice none 0 0]) ?_ 0 _ rfl; refine qb ?_; exact BK1008.out) Try.underlying26 rfl (by kernel_rfl)) rfl ?_
  exact ⟨_, qr, qR (Kd.R_mono (Kd.R_far (p := ⟨gb1008, 0, none⟩) (Kd.R_types HO1019.out BK1008.out (by decide)) (fun _ hk => hk.2) (.slice Ao15 t1017.length co15)) (fun _ hk => trivial)), qI67, qB, qK⟩
end Go.Proofs.Ytmbojobkiainlaa.F
end

section
namespace Go.Proofs.Ytmbojobkiainlaa.Q
open Go.RowKit Go.Proofs.YtmbojobkiainlaaW.PrintWords Go.Proofs.Ytmbojobkiainlaa.F
set_option linter.unusedVariables false
def okPo : Option (List Int) → Bool
 | some p => decide (1 ≤ p.length) && (decide (p.length ≤ 10) && p.all fun n => (Lit.int .i64 n).wf)
 | none => false
theorem okPo_parts {o : Option (List Int)} (h : okPo o = true) : ∃ p, o = some p ∧ 1 ≤ p.length ∧ p.length ≤ 10 ∧ wfL p := by
 cases o with
 | none => cases h
 | some p =>
  simp only [okPo, Bool.and_eq_true, decide_eq_true_eq, List.all_eq_true] at h
  exact ⟨p, rfl, h.1, h.2.1, h.2.2⟩
theorem allPoRect : (List.range 2).all (fun a => (List.range 5).all fun b => okPo (spec_poRectangle.f 200 ((a : Int) + 1) ((b : Int) + 1))) = true := by decide +kernel
theorem allPoStair : (List.range 2).all (fun a => okPo ((spec_Staircase.f 200 ((a : Int) + 1)).map Prod.fst)) = true := by decide +kernel
theorem allPoFence : (List.range 10).all (fun a => okPo ((spec_Fence.f 400 ((a : Int) + 1)).map Prod.fst)) = true := by decide +kernel
structure Drawn (p : List Int) (n : Nat) : Prop where
 len : p.length ≤ n
 wf : wfL p
theorem sure_loop {l : List Int} (hl : bytesL l) {n : Nat} (hn1 : 1 ≤ n) (hn : n ≤ 100) : ∀ (d : Nat) (ps : List (List Int)) (B : Nat) (a s : Int), d ≤ 200 → ps.length + d ≤ 400 → pairsOk n ps → cAt B a → B + 4 * d ≤ 100000 →
 ∃ p a' s', Ev (fun k => spec_l1Cur_surePoset.l0 k (n : Int) ps (d : Int) l a s) (p, a', s') ∧ p.length = n ∧ wfL p ∧ cAt (B + 4 * d) a' := by
 intro d
 induction d with
 | zero =>
  intro ps B a s _ _ hp ha hB
  obtain ⟨r, g1, g2, g3⟩ := poFrom_ok (by omega) hp
  refine ⟨r, a, s, Ev.step (by intro k; simp only [spec_l1Cur_surePoset.l0]; rfl) (Ev.no (by omega) (Ev.step (by intro k; simp only [spec_l1Cur_surePoset.j1]; rfl) (Ev.no (by simp) (Ev.bind g1 (Ev.now _))))), g2, g3, ha⟩
 | succ d ih =>
  intro ps B a s hd hps hp ha hB
  by_cases h1 : n = 1
  ·obtain ⟨r, g1, g2, g3⟩ := poFrom_ok (by omega) hp
   refine ⟨r, a, s, Ev.step (by intro k; simp only [spec_l1Cur_surePoset.l0]; rfl) (Ev.yes (by omega) ?_), g2, g3, cAt_mono ha (by omega)⟩
   rw [decide_eq_false (by omega)]
   exact Ev.step (by intro k; simp only [spec_l1Cur_surePoset.j1]; rfl) (Ev.no (by simp) (Ev.bind g1 (Ev.now _)))
  ·obtain ⟨x, a1, s1, e1, h2, x0, x1⟩ := cpick_ok hl s (wrap64 ((n : Int) - 1)) ha (by omega)
   have hw1 : wrap64 ((n : Int) - 1) = (n : Int) - 1 := wid (by omega) (by omega)
   rw [hw1] at x1
   have hxn : x < (n : Int) - 1 ∨ x = 0 := by omega
   have hxl : 0 ≤ x ∧ x + 1 < (n : Int) := by omega
   obtain ⟨y, a2, s2, e2, h3, y0, y1⟩ := cpick_ok hl s1 (wrap64 ((wrap64 ((n : Int) - 1)) - x)) h2 (by omega)
   have hrow : pairsOk n (ps ++ [([x, wrap64 ((wrap64 (x + 1)) + y)] : List Int)]) := by
    refine ⟨by rw [List.length_append, List.length_singleton]; omega, fun c hc => ?_⟩
    rcases List.mem_append.1 hc with h | h
    ·exact hp.2 c h
    ·rw [List.mem_singleton.1 h]
     exact ⟨rfl, by show 0 ≤ x; omega, by show x < _; omega⟩
   obtain ⟨p, a', s', g1, g2, g3, g4⟩ := ih _ (B + 2 + 2) a2 s2 (by omega) (by rw [List.length_append, List.length_singleton]; omega) hrow h3 (by omega)
   refine ⟨p, a', s', Ev.step (by intro k; simp only [spec_l1Cur_surePoset.l0]; rfl) (Ev.yes (by omega) ?_), g2, g3, cAt_mono g4 (by omega)⟩
   rw [decide_eq_true (by omega)]
   refine Ev.step (by intro k; simp only [spec_l1Cur_surePoset.j1]; rfl) (Ev.yes (show true = true from rfl) ?_)
   refine Ev.call e1 (Ev.call e2 (Ev.yes (by omega) ?_))
   rw [show wrap64 (((d + 1 : Nat) : Int) - 1) = (d : Int) by rw [wid (by omega) (by omega)]; omega]
   exact g1
theorem sure_ok {l : List Int} (hl : bytesL l) {B : Nat} {a : Int} (s : Int) {most : Nat} (h1 : 1 ≤ most) (h2 : most ≤ 10) (ha : cAt B a) (hB : B ≤ 10000) : ∃ p a' s', Ev (fun k => spec_l1Cur_surePoset.f k l a s (most : Int)) (p, a', s') ∧ 1 ≤ p.length ∧ p.length ≤ 10 ∧ wfL p ∧ cAt (B + 100) a' := by
 unfold spec_l1Cur_surePoset.f
 obtain ⟨c, a0, s0, e0, hc, c0, c1⟩ := cpick_ok hl s 5 ha (by omega)
 by_cases q0 : c = 0
 ·obtain ⟨x, a1, s1, e1, hx, x0, x1⟩ := cpick_ok hl s0 2 hc (by omega)
  obtain ⟨t, ht, t1, t5⟩ : ∃ t : Nat, spec_l1Most.f 1 (wrap64 (Int.tdiv (most : Int) 2)) = some (t : Int) ∧ 1 ≤ t ∧ t ≤ 5 := by
   have e : wrap64 (Int.tdiv (most : Int) 2) = ((most / 2 : Nat) : Int) := by
    rw [Int.tdiv_eq_ediv_of_nonneg (by omega), wid (by omega) (by omega)]; omega
   unfold spec_l1Most.f
   rw [e]
   by_cases h : (1 : Int) > ((most / 2 : Nat) : Int)
   ·rw [if_pos h]; exact ⟨1, rfl, by omega, by omega⟩
   ·rw [if_neg h]; exact ⟨most / 2, rfl, by omega, by omega⟩
  obtain ⟨y, a2, s2, e2, hy, y0, y1⟩ := cpick_ok hl s1 (t : Int) hx (by omega)
  obtain ⟨u, rfl⟩ := Int.eq_ofNat_of_zero_le x0
  obtain ⟨v, rfl⟩ := Int.eq_ofNat_of_zero_le y0
  have hk := List.all_eq_true.1 (List.all_eq_true.1 allPoRect u (List.mem_range.2 (by omega))) v (List.mem_range.2 (by omega))
  obtain ⟨p, g1, g2, g3, g4⟩ := okPo_parts hk
  refine ⟨p, a2, s2, Ev.call e0 (Ev.yes q0 (Ev.call e1 (Ev.call ht (Ev.call e2 ?_)))), g2, g3, g4, cAt_mono hy (by omega)⟩
  rw [show wrap64 (1 + (u : Int)) = (u : Int) + 1 by rw [wid (by omega) (by omega)]; omega, show wrap64 (1 + (v : Int)) = (v : Int) + 1 by rw [wid (by omega) (by omega)]; omega]
  exact Ev.bind (Ev.of (spec_poRectangle.mono _ _) g1) (Ev.now _)
 by_cases q1 : c = 1
 ·obtain ⟨x, a1, s1, e1, hx, x0, x1⟩ := cpick_ok hl s0 2 hc (by omega)
  obtain ⟨u, rfl⟩ := Int.eq_ofNat_of_zero_le x0
  have hk := List.all_eq_true.1 allPoStair u (List.mem_range.2 (by omega))
  obtain ⟨p, g1, g2, g3, g4⟩ := okPo_parts hk
  obtain ⟨⟨p2, b2⟩, g5, g6⟩ := Option.map_eq_some_iff.1 g1
  have g6 : p2 = p := g6
  subst g6
  refine ⟨p2, a1, s1, Ev.call e0 (Ev.no q0 (Ev.yes q1 (Ev.call e1 ?_))), g2, g3, g4, cAt_mono hx (by omega)⟩
  rw [show wrap64 (1 + (u : Int)) = (u : Int) + 1 by rw [wid (by omega) (by omega)]; omega]
  exact Ev.bind (Ev.of (spec_Staircase.mono _) g5) (Ev.now _)
 obtain ⟨x, a1, s1, e1, hx, x0, x1⟩ := cpick_ok hl s0 (most : Int) hc (by omega)
 obtain ⟨u, rfl⟩ := Int.eq_ofNat_of_zero_le x0
 have hu : u < 10 := by omega
 by_cases q2 : c = 2
 ·have hk := List.all_eq_true.1 allPoFence u (List.mem_range.2 hu)
  obtain ⟨p, g1, g2, g3, g4⟩ := okPo_parts hk
  obtain ⟨⟨p2, b2⟩, g5, g6⟩ := Option.map_eq_some_iff.1 g1
  have g6 : p2 = p := g6
  subst g6
  refine ⟨p2, a1, s1, Ev.call e0 (Ev.no q0 (Ev.no q1 (Ev.yes q2 (Ev.call e1 ?_)))), g2, g3, g4, cAt_mono hx (by omega)⟩
  rw [show wrap64 (1 + (u : Int)) = (u : Int) + 1 by rw [wid (by omega) (by omega)]; omega]
  exact Ev.bind (Ev.of (spec_Fence.mono _) g5) (Ev.now _)
 have hw : wrap64 (1 + (u : Int)) = ((u + 1 : Nat) : Int) := by rw [wid (by omega) (by omega)]; omega
 have hw2 : wrap64 (2 * (wrap64 (1 + (u : Int)))) = ((2 * (u + 1) : Nat) : Int) := by rw [hw, wid (by omega) (by omega)]; omega
 obtain ⟨y, a2, s2, e2, hy, y0, y1⟩ := cpick_ok hl s1 (wrap64 (2 * (wrap64 (1 + (u : Int))))) hx (by omega)
 rw [hw2] at y1
 obtain ⟨v, rfl⟩ := Int.eq_ofNat_of_zero_le y0
 obtain ⟨p, a', s', g1, g2, g3, g4⟩ := sure_loop hl (n := u + 1) (by omega) (by omega) v [] (B + 2 + 2 + 2) a2 s2 (by omega) (by simp; omega) ⟨by simp, fun c hc => by cases hc⟩ hy (by omega)
 refine ⟨p, a', s', Ev.call e0 (Ev.no q0 (Ev.no q1 (Ev.no q2 (Ev.call e1 (Ev.call e2 ?_))))), by omega, by omega, g3, cAt_mono g4 (by omega)⟩
 rw [hw]
 exact g1
theorem wfL_zeros {l : List Int} (hl : List Int) (h : wfL l) : wfL (l ++ [0]) := wfL_app h (fun x hx => by rw [List.mem_singleton.1 hx]; decide)
theorem zeros_run {l : List Int} (a s : Int) : ∀ d (x : Nat), x + d = 11 → ∀ p : List Int, p.length + d ≤ 1000 → wfL p → ∃ q, Ev (fun k => spec_l1Cur_poset.l0 k (x : Int) l a s p) (q, a, s) ∧ q.length = p.length + d ∧ wfL q
 | 0, x, hx, p, hp, hw => ⟨p, Ev.step (by intro k; simp only [spec_l1Cur_poset.l0]; rfl) (Ev.no (by omega) (Ev.now _)), rfl, hw⟩
 | d + 1, x, hx, p, hp, hw => by
  obtain ⟨q, g1, g2, g3⟩ := zeros_run a s d (x + 1) (by omega) (p ++ [0]) (by rw [List.length_append, List.length_singleton]; omega) (wfL_zeros [] hw)
  refine ⟨q, Ev.step (by intro k; simp only [spec_l1Cur_poset.l0]; rfl) (Ev.yes (by omega) (Ev.yes (by omega) ?_)), by rw [g2, List.length_append, List.length_singleton]; omega, g3⟩
  rw [show wrap64 ((x : Int) + 1) = ((x + 1 : Nat) : Int) by rw [wid (by omega) (by omega)]; omega]
  exact g1
theorem poset_ok {l : List Int} (hl : bytesL l) {B : Nat} {a : Int} (s : Int) {most : Nat} (h1 : 1 ≤ most) (h2 : most ≤ 10) (ha : cAt B a) (hB : B ≤ 10000) : ∃ p a' s', Ev (fun k => spec_l1Cur_poset.f k l a s (most : Int)) (p, a', s') ∧ p.length ≤ 21 ∧ wfL p ∧ cAt (B + 120) a' := by
 unfold spec_l1Cur_poset.f
 obtain ⟨p, a0, s0, e0, p1, p2, p3, hp⟩ := sure_ok hl s h1 h2 ha hB
 have hown : spec_l1Own.f p = some p := by
  unfold spec_l1Own.f
  rw [Option.bind_some, if_pos (by simp; omega), List.nil_append]
 obtain ⟨c, a1, s1, e1, hc, c0, c1⟩ := cpick_ok hl s0 20 hp (by omega)
 by_cases q0 : c = 0
 ·obtain ⟨x, a2, s2, e2, hx, x0, x1⟩ := cpick_ok hl s1 (p.length : Int) hc (by omega)
  obtain ⟨y, a3, s3, e3, hy, y1⟩ := among_ok hl s2 hx (by omega) (m := ([(-1), 1, 3, shl .i64 1 x, 4611686018427387904] : List Int)) (by simp)
  have hwf : (Lit.int .i64 y).wf = true := by
   simp only [List.mem_cons, List.mem_nil_iff, or_false] at y1
   rcases y1 with rfl | rfl | rfl | rfl | rfl
   ·decide
   ·decide
   ·decide
   ·exact wf_wrapI _
   ·decide
  refine ⟨p.set x.toNat y, a3, s3, Ev.bind e0 (Ev.call hown (Ev.call e1 (Ev.yes q0 (Ev.call e2 (Ev.yes x0 (Ev.call e3 (Ev.yes (by omega) (Ev.now _)))))))), by rw [List.length_set]; omega, wfL_set p3 hwf _, cAt_mono hy (by omega)⟩
 by_cases q1 : c = 1
 ·exact ⟨[], a1, s1, Ev.bind e0 (Ev.call hown (Ev.call e1 (Ev.no q0 (Ev.yes q1 (Ev.now _))))), by simp, (fun n hn => by cases hn), cAt_mono hc (by omega)⟩
 by_cases q2 : c = 2
 ·obtain ⟨q, g1, g2, g3⟩ := zeros_run (l := l) a1 s1 11 0 rfl p (by omega) p3
  exact ⟨q, a1, s1, Ev.bind e0 (Ev.call hown (Ev.call e1 (Ev.no q0 (Ev.no q1 (Ev.yes q2 g1))))), by omega, g3, cAt_mono hc (by omega)⟩
 ·exact ⟨p, a1, s1, Ev.bind e0 (Ev.call hown (Ev.call e1 (Ev.no q0 (Ev.no q1 (Ev.no q2 (Ev.now _)))))), by omega, p3, cAt_mono hc (by omega)⟩
theorem wf_small {n : Int} (h0 : -1000000 ≤ n) (h1 : n ≤ 10000000000) : (Lit.int .i64 n).wf = true := WalkArith.wf_i64 (by omega)
theorem linear_ok {l : List Int} (hl : bytesL l) {B : Nat} {a : Int} (s : Int) {most : Nat} (h1 : 1 ≤ most) (h2 : most ≤ 10) (ha : cAt B a) (hB : B ≤ 10000) : ∃ p w a' s', Ev (fun k => spec_l1Cur_linear.f k l a s (most : Int)) (p, w, a', s') ∧ p.length ≤ 21 ∧ wfL p ∧ w.length ≤ 21 ∧ wfL w ∧ cAt (B + 200) a' := by
 unfold spec_l1Cur_linear.f
 obtain ⟨p, a0, s0, e0, p1, p2, hp⟩ := poset_ok hl s h1 h2 ha hB
 cases hpo : isPo p with
 | false =>
  refine ⟨p, [0], a0, s0, Ev.bind e0 (Ev.bind (poGood_ev p) ?_), p1, p2, by simp, (fun x hx => by rw [List.mem_singleton.1 hx]; decide), cAt_mono hp (by omega)⟩
  rw [hpo]; exact Ev.no Bool.false_ne_true (Ev.now _)
 | true =>
  have hP := (isPo_iff p).1 hpo
  have hn := hP.small
  have hw := ways_le hn 0
  have hpos : 0 < 2 ^ p.length := Nat.two_pow_pos _
  have hex : 0 < ways p 0 := ways_pos hP
  have hcl : 0 < ((Cl p 0).length : Int) := by rw [Cl_len]; omega
  obtain ⟨t, ht, t1, t2⟩ : ∃ t : Nat, spec_l1Least.f ((ways p 0 : Nat) : Int) 100000 = some (t : Int) ∧ 1 ≤ t ∧ t ≤ ways p 0 := by
   unfold spec_l1Least.f
   by_cases h : ((ways p 0 : Nat) : Int) < 100000
   ·rw [if_pos h]; exact ⟨_, rfl, hex, Nat.le_refl _⟩
   ·rw [if_neg h]; exact ⟨100000, rfl, by omega, by omega⟩
  obtain ⟨x, a1, s1, e1, hx, x0, x1⟩ := cpick_ok hl s0 (t : Int) hp (by omega)
  obtain ⟨r, rfl⟩ := Int.eq_ofNat_of_zero_le x0
  have hr : r < ways p 0 := by omega
  obtain ⟨c, a2, s2, e2, hc, c0, c1⟩ := cpick_ok hl s1 14 hx (by omega)
  have hlw : (ints (linW p p.length 0 r)).length = p.length := by rw [ints_len, linW_len]
  have hwl : wfL (ints (linW p p.length 0 r)) := fun n hn2 => by
   have ho : ordB p (ints (linW p p.length 0 r)) = true := (mem_rows hP _).1 (List.mem_map.2 ⟨r, List.mem_range.2 hr, rfl⟩)
   have := ordB_range ho n hn2
   exact wf_small (by omega) (by omega)
  by_cases q0 : c = 0
  ·obtain ⟨y, a3, s3, e3, hy, y0, y1⟩ := cpick_ok hl s2 ((ints (linW p p.length 0 r)).length : Int) hc (by omega)
   obtain ⟨z, a4, s4, e4, hz, z0, z1⟩ := cpick_ok hl s3 (wrap64 (((ints (linW p p.length 0 r)).length : Int) + 2)) hy (by omega)
   have hpp := hP.pos
   refine ⟨p, (ints (linW p p.length 0 r)).set y.toNat (wrap64 (z - 1)), a4, s4, Ev.bind e0 (Ev.bind (poGood_ev p) ?_), p1, p2, by rw [List.length_set]; omega, wfL_set hwl (wf_wrap64 _) _, cAt_mono hz (by omega)⟩
   rw [hpo]
   refine Ev.yes rfl (Ev.bind (liCounts_ev hP) (Ev.yes hcl ?_))
   rw [first_cnt hP]
   exact Ev.call ht (Ev.call e1 (Ev.bind (liWith_ev hP hr) (Ev.call e2 (Ev.yes q0 (Ev.call e3 (Ev.call e4 (Ev.yes y0 (Ev.yes (by omega) (Ev.now _)))))))))
  by_cases q1 : c = 1
  ·refine ⟨p, ints (linW p p.length 0 r) ++ [0], a2, s2, Ev.bind e0 (Ev.bind (poGood_ev p) ?_), p1, p2, by rw [List.length_append, List.length_singleton]; omega, wfL_zeros [] hwl, cAt_mono hc (by omega)⟩
   rw [hpo]
   refine Ev.yes rfl (Ev.bind (liCounts_ev hP) (Ev.yes hcl ?_))
   rw [first_cnt hP]
   exact Ev.call ht (Ev.call e1 (Ev.bind (liWith_ev hP hr) (Ev.call e2 (Ev.no q0 (Ev.yes q1 (Ev.yes (by omega) (Ev.now _)))))))
  ·refine ⟨p, ints (linW p p.length 0 r), a2, s2, Ev.bind e0 (Ev.bind (poGood_ev p) ?_), p1, p2, by omega, hwl, cAt_mono hc (by omega)⟩
   rw [hpo]
   refine Ev.yes rfl (Ev.bind (liCounts_ev hP) (Ev.yes hcl ?_))
   rw [first_cnt hP]
   exact Ev.call ht (Ev.call e1 (Ev.bind (liWith_ev hP hr) (Ev.call e2 (Ev.no q0 (Ev.no q1 (Ev.now _))))))
end Go.Proofs.Ytmbojobkiainlaa.Q
end

section
namespace Go.Proofs.Ytmbojobkiainlaa.F
open Go.RowKit Go.Proofs.YtmbojobkiainlaaW.PrintWords Go.Proofs.YtmbojobkiainlaaW.PrintLast Go.Proofs.YtmbojobkiainlaaW.PrintMore
attribute [local go_sem] max2_int min2_int max_two min_two max_three min_three max_four min_four
set_option linter.unusedVariables false
set_option linter.unusedSimpArgs false
def spec_DrawAllLinearR.f (k : Nat) (s0_0 : List Int) (s0_1 : Int) (s0_2 : Int) : Option (List Int × Int × Int) := (spec_l1Cur_small.f k s0_0 s0_1 s0_2).bind fun bt1378 => (some (bt1378.1, bt1378.2.1, bt1378.2.2))
theorem spec_DrawAllLinearR.mono : ∀ a0 a1 a2 k, LeO (spec_DrawAllLinearR.f k a0 a1 a2) (spec_DrawAllLinearR.f (k + 1) a0 a1 a2) := by
 intro a0 a1 a2 k
 unfold spec_DrawAllLinearR.f
 repeat' first
  | (with_reducible exact spec_l1Cur_small.mono _ _ _ _)
  | (with_reducible exact LeO.refl _)
  | (with_reducible exact LeO.none _)
  | (with_reducible refine LeO.ite ?_ ?_)
  | (with_reducible refine LeO.bind ?_ (fun _ => ?_))
  | exact spec_l1Cur_small.mono _ _ _ _
  | exact LeO.none _
  | refine LeO.ite ?_ ?_
  | refine LeO.bind ?_ (fun _ => ?_)
def spec_DrawAllLinear.f (k : Nat) (l0 : List Int) : Option ((List Int)) := (spec_DrawAllLinearR.f k l0 0 0).bind fun bt => some bt.1
theorem spec_DrawAllLinear.mono : ∀ a0 k, LeO (spec_DrawAllLinear.f k a0) (spec_DrawAllLinear.f (k + 1) a0) := fun a0 k => LeO.bind (spec_DrawAllLinearR.mono _ _ _ _) (fun _ => LeO.refl _)
set_option maxHeartbeats 8000000 in
set_option maxRecDepth 100000 in
theorem spec_DrawAllLinear.calls (k : Nat) (A0 : Option Addr) (c0 : Nat) (l0 : List Int) (r : List Int) (w : World) (hr0 : Kd.C (Kd.int .u8) w A0 l0.length l0) (hc0 : l0.length ≤ c0) (hf : spec_DrawAllLinear.f k l0 = some r) :
 Calls Try.prog 55 #[.slice A0 l0.length c0] w fun e w' => ∃ v0_ : Value, e = .returned (.agg #[v0_]) ∧ Kd.R (Kd.int .i64) 3 w' w.heap.size (fun _ => True) v0_ r ∧ Below w.heap.size w w' := by
 unfold spec_DrawAllLinear.f at hf
 obtain ⟨⟨r_, r2, r3⟩, h, hf⟩ := Option.bind_eq_some_iff.1 hf
 have hf := Option.some.inj hf
 have hf1 : r = r_ := hf.symm
 clear hf
 subst hf1
 have HR0 := am hr0
 have HC0 := am hc0
 clear hr0 hc0
 have hu26 := Try.underlying26
 have HL := am (Nat.le_refl w.heap.size)
 have HW0 := am (Nat.le_refl w.heap.size)
 have H : ((spec_l1Cur_small.f k l0 0 0).bind fun bt1378 => (some (bt1378.1, bt1378.2.1, bt1378.2.2))) = some (r, r2, r3) := h
 clear h
 replace H := Option.bind_eq_some_iff.mp H
 obtain ⟨⟨t1378, t1381, t1382⟩, A20, H⟩ := H
 replace H : (some (t1378, t1381, t1382)) = some (r, r2, r3) := H
 have A2 := am A20
 clear A20
 simp only [Option.some.injEq, Prod.mk.injEq] at H
 obtain ⟨rfl, rfl, rfl⟩ := H
 go_enter Try.func55, Try.ntmps55
 go_wp2_with (first | ((with_reducible refine gate_dst (N := 2) rfl ?_); refine qx (N := 2) (cs := #[.slice none 0 0]) (t := 26) ?_; intro gb1377 hg wA hbox hb; have BKa := am hbox; have GE1377 : Aside0 (w.heap.size ≤ gb1377) := ⟨by rw [hg]; exact Nat.le_refl _⟩; have HBa := am hb; have HLa : Aside0 (gb1377 < wA.heap.size) := ⟨blk_lt hbox⟩; clear hbox hb hg) | ((with_reducible refine gate_dst (N := 6) rfl ?_); refine qx (N := 6) (cs := #[.slice A0 l0.length c0, .int .i64 0, .int .u64 0]) (t := 67) ?_; intro g hg w1_ hbox hb; have HBb := am (HBa.out.trans (hb.mono HBa.out.size)); have hge : w.heap.size ≤ g := (by rw [hg]; exact HBa.out.size); have HI0 : Aside0 (IsS67 w w1_ g l0 0 0) := ⟨A0, c0, hbox, hge, HR0.out⟩; have BK1377 := am (blk_below BKa.out hb); have NB1377_0 : Aside0 (gb1377 ≠ g) := ⟨by rw [hg]; exact Nat.ne_of_lt HLa.out⟩; have NB0_1377 : Aside0 (g ≠ gb1377) := ⟨fun e => NB1377_0.out e.symm⟩; have GW1377 := GE1377; have HK := am (KeepBut.of_below HBb.out g none); have HB := HBb; clear hbox hb hge hg BKa HBa HLa HBb) | ((with_reducible refine gate_callee (f := 117) rfl ?_); refine gL (some 8) Try.func117 #[.pointer (some ⟨g, 0, none⟩)] ?_; (with_reducible refine (spec_l1Cur_small.calls k g l0 0 0 t1378 t1381 t1382 w _ ?side1 ?side2 A2.out).mono ?_); (case side1 => exact qI67); (case side2 => exact qB); rintro e w4 ⟨v1379, rfl, ho0, hi, hb, hk⟩; refine ⟨_, rfl, ?_⟩; replace BK1377 := am (KeepBut.blk hk (g' := gb1377) (o := .cells #[.slice none 0 0] 26 (0, 0)) (qb BK1377.out) NB1377_0.out (by simp)); have HO1380 := am (Kd.R_lower ho0 (keep_size (w := w) (g := g) (row := none) qK)); have n2_ := am (KeepBut.trans qK hk (.inl rfl)); have n3_ := am (hb); replace HI0 := am (hi); clear HK HB; have HK := n2_; have HB := n3_; clear n2_ n3_; (try clear hb); (try clear hb2); (try clear hk); (try clear hi); (try clear ho0); obtain ⟨Ao5, co5, eo5⟩ := Kd.R_slice HO1380.out; subst eo5; have hnb6 := NB1377_0.out; have hnc6 := NB0_1377.out; have hcz7_0 := qz w4 BK1377.out; have hfz7_0 := blk_frozen BK1377.out 0))
 refine bodyPost_ret (results_cell_row rfl _ _ gb1377 26 #[.slice Ao5 t1378.length co5] (0, 0) _ rfl (by (with_reducible repeat (first | refine blk_drewN ?_ _ | refine blk_drew ?_ | refine blk_alloc ?_ _)); refine blk_put (cs := #[.slice none 0 0]) ?_ 0 _ rfl; refine qb ?_; exact BK1377.out) Try.underlying26 rfl (by kernel_rfl)) rfl ?_
 exact ⟨_, qr, qR (Kd.R_mono (Kd.R_far (p := ⟨gb1377, 0, none⟩) (Kd.R_types HO1380.out BK1377.out (by decide)) (fun _ hk => hk.2) (.slice Ao5 t1378.length co5)) (fun _ hk => trivial)), qB⟩
def spec_DrawIsLinearR.f (k : Nat) (s0_0 : List Int) (s0_1 : Int) (s0_2 : Int) : Option (List Int × List Int × Int × Int) := (spec_l1Cur_linear.f k s0_0 s0_1 s0_2 8).bind fun bt1324 => (some (bt1324.1, bt1324.2.1, bt1324.2.2.1, bt1324.2.2.2))
theorem spec_DrawIsLinearR.mono : ∀ a0 a1 a2 k, LeO (spec_DrawIsLinearR.f k a0 a1 a2) (spec_DrawIsLinearR.f (k + 1) a0 a1 a2) := by
 intro a0 a1 a2 k
 unfold spec_DrawIsLinearR.f
 repeat' first
  | (with_reducible exact spec_l1Cur_linear.mono _ _ _ _ _)
  | (with_reducible exact LeO.refl _)
  | (with_reducible exact LeO.none _)
  | (with_reducible refine LeO.ite ?_ ?_)
  | (with_reducible refine LeO.bind ?_ (fun _ => ?_))
  | exact spec_l1Cur_linear.mono _ _ _ _ _
  | exact LeO.none _
  | refine LeO.ite ?_ ?_
  | refine LeO.bind ?_ (fun _ => ?_)
def spec_DrawIsLinear.f (k : Nat) (l0 : List Int) : Option ((List Int) × (List Int)) := (spec_DrawIsLinearR.f k l0 0 0).bind fun bt => some (bt.1, bt.2.1)
theorem spec_DrawIsLinear.mono : ∀ a0 k, LeO (spec_DrawIsLinear.f k a0) (spec_DrawIsLinear.f (k + 1) a0) := fun a0 k => LeO.bind (spec_DrawIsLinearR.mono _ _ _ _) (fun _ => LeO.refl _)
set_option maxHeartbeats 8000000 in
set_option maxRecDepth 100000 in
theorem spec_DrawIsLinear.calls (k : Nat) (A0 : Option Addr) (c0 : Nat) (l0 : List Int) (r1 : List Int) (r2 : List Int) (w : World) (hr0 : Kd.C (Kd.int .u8) w A0 l0.length l0) (hc0 : l0.length ≤ c0) (hf : spec_DrawIsLinear.f k l0 = some (r1, r2)) :
 Calls Try.prog 121 #[.slice A0 l0.length c0] w fun e w' => ∃ v0_ v1_ : Value, e = .returned (.tuple #[.agg #[v0_], v1_]) ∧ Kd.R (Kd.int .i64) 3 w' w.heap.size (fun k_ => some k_ ≠ (v1_ : Value).ownBlock) v0_ r1 ∧ Kd.R (Kd.int .i64) 3 w' w.heap.size (fun k_ => some k_ ≠ (v0_ : Value).ownBlock) v1_ r2 ∧ Below w.heap.size w w' := by
 unfold spec_DrawIsLinear.f at hf
 obtain ⟨⟨r1_, r2_, r3, r4⟩, h, hf⟩ := Option.bind_eq_some_iff.1 hf
 have hf := Option.some.inj hf
 simp only [Prod.mk.injEq] at hf
 obtain ⟨hf0, hf1⟩ := hf
 replace hf0 := hf0.symm
 subst hf0
 replace hf1 := hf1.symm
 subst hf1
 have HR0 := am hr0
 have HC0 := am hc0
 clear hr0 hc0
 have hu26 := Try.underlying26
 have HL := am (Nat.le_refl w.heap.size)
 have HW0 := am (Nat.le_refl w.heap.size)
 have H : ((spec_l1Cur_linear.f k l0 0 0 8).bind fun bt1324 => (some (bt1324.1, bt1324.2.1, bt1324.2.2.1, bt1324.2.2.2))) = some (r1, r2, r3, r4) := h
 clear h
 replace H := Option.bind_eq_some_iff.mp H
 obtain ⟨⟨t1324, t1327, t1330, t1331⟩, A20, H⟩ := H
 replace H : (some (t1324, t1327, t1330, t1331)) = some (r1, r2, r3, r4) := H
 have A2 := am A20
 clear A20
 simp only [Option.some.injEq, Prod.mk.injEq] at H
 obtain ⟨rfl, rfl, rfl, rfl⟩ := H
 go_enter Try.func121, Try.ntmps121
 go_wp2_with (first | ((with_reducible refine gate_dst (N := 2) rfl ?_); refine qx (N := 2) (cs := #[.slice none 0 0]) (t := 26) ?_; intro gb1323 hg wA hbox hb; have BKa := am hbox; have GE1323 : Aside0 (w.heap.size ≤ gb1323) := ⟨by rw [hg]; exact Nat.le_refl _⟩; have HBa := am hb; have HLa : Aside0 (gb1323 < wA.heap.size) := ⟨blk_lt hbox⟩; clear hbox hb hg) | ((with_reducible refine gate_dst (N := 7) rfl ?_); refine qx (N := 7) (cs := #[.slice A0 l0.length c0, .int .i64 0, .int .u64 0]) (t := 67) ?_; intro g hg w1_ hbox hb; have HBb := am (HBa.out.trans (hb.mono HBa.out.size)); have hge : w.heap.size ≤ g := (by rw [hg]; exact HBa.out.size); have HI0 : Aside0 (IsS67 w w1_ g l0 0 0) := ⟨A0, c0, hbox, hge, HR0.out⟩; have BK1323 := am (blk_below BKa.out hb); have NB1323_0 : Aside0 (gb1323 ≠ g) := ⟨by rw [hg]; exact Nat.ne_of_lt HLa.out⟩; have NB0_1323 : Aside0 (g ≠ gb1323) := ⟨fun e => NB1323_0.out e.symm⟩; have GW1323 := GE1323; have HK := am (KeepBut.of_below HBb.out g none); have HB := HBb; clear hbox hb hge hg BKa HBa HLa HBb) | ((with_reducible refine gate_callee (f := 149) rfl ?_); refine gL (some 9) Try.func149 #[.pointer (some ⟨g, 0, none⟩), .int .i64 8] ?_; (with_reducible refine (spec_l1Cur_linear.calls k g l0 0 0 8 t1324 t1327 t1330 t1331 w _ ?side1 ?side2 A2.out).mono ?_); (case side1 => exact qI67); (case side2 => exact qB); rintro e w4 ⟨v1325, v1328, rfl, ho0, ho1, hi, hb, hk⟩; refine ⟨_, rfl, ?_⟩; replace BK1323 := am (KeepBut.blk hk (g' := gb1323) (o := .cells #[.slice none 0 0] 26 (0, 0)) (qb BK1323.out) NB1323_0.out (by simp)); have HO1326 := am (Kd.R_lower ho0 (keep_size (w := w) (g := g) (row := none) qK)); have HO1329 := am (Kd.R_lower ho1 (keep_size (w := w) (g := g) (row := none) qK)); have n3_ := am (KeepBut.trans qK hk (.inl rfl)); have n4_ := am (hb); replace HI0 := am (hi); clear HK HB; have HK := n3_; have HB := n4_; clear n3_ n4_; (try clear hb); (try clear hb2); (try clear hk); (try clear hi); (try clear ho0); (try clear ho1); obtain ⟨Ao5, co5, eo5⟩ := Kd.R_slice HO1326.out; subst eo5; have hnb6 := NB1323_0.out; have hnc6 := NB0_1323.out; have hcz7_0 := qz w4 BK1323.out; have hfz7_0 := blk_frozen BK1323.out 0))
 refine bodyPost_ret (results_ct rfl _ _ gb1323 26 #[.slice Ao5 t1324.length co5] (0, 0) _ rfl (by (with_reducible repeat (first | refine blk_drewN ?_ _ | refine blk_drew ?_ | refine blk_alloc ?_ _)); refine blk_put (cs := #[.slice none 0 0]) ?_ 0 _ rfl; refine qb ?_; exact BK1323.out) Try.underlying26 rfl (by kernel_rfl)) rfl ?_
 exact ⟨_, _, qr, qR (Kd.R_mono (Kd.R_far (p := ⟨gb1323, 0, none⟩) (Kd.R_types HO1326.out BK1323.out (by decide)) (fun _ hk => hk.2) (.slice Ao5 t1324.length co5)) (fun _ hk => hk.1)), qR (Kd.R_mono (Kd.R_far (p := ⟨gb1323, 0, none⟩) (Kd.R_types HO1329.out BK1323.out (by decide)) (fun _ hk => hk.2) (.slice Ao5 t1324.length co5)) (fun _ hk => hk.1)), qB⟩
def spec_DrawRankLinear.f (k : Nat) (l0 : List Int) : Option (List Int × List Int) := (spec_DrawIsLinear.f k l0).bind fun bt1106 => (some (bt1106.1, bt1106.2))
theorem spec_DrawRankLinear.mono : ∀ a0 k, LeO (spec_DrawRankLinear.f k a0) (spec_DrawRankLinear.f (k + 1) a0) := by
 intro a0 k
 unfold spec_DrawRankLinear.f
 repeat' first
  | (with_reducible exact spec_DrawIsLinear.mono _ _)
  | (with_reducible exact LeO.refl _)
  | (with_reducible exact LeO.none _)
  | (with_reducible refine LeO.ite ?_ ?_)
  | (with_reducible refine LeO.bind ?_ (fun _ => ?_))
  | exact spec_DrawIsLinear.mono _ _
  | exact LeO.none _
  | refine LeO.ite ?_ ?_
  | refine LeO.bind ?_ (fun _ => ?_)
set_option maxHeartbeats 8000000 in
set_option maxRecDepth 100000 in
theorem spec_DrawRankLinear.calls (k : Nat) (A0 : Option Addr) (c0 : Nat) (l0 : List Int) (r1 : List Int) (r2 : List Int) (w : World) (hr0 : Kd.C (Kd.int .u8) w A0 l0.length l0) (hc0 : l0.length ≤ c0) (h : spec_DrawRankLinear.f k l0 = some (r1, r2)) :
 Calls Try.prog 61 #[.slice A0 l0.length c0] w fun e w' => ∃ v0_ v1_ : Value, e = .returned (.tuple #[.agg #[v0_], v1_]) ∧ Kd.R (Kd.int .i64) 3 w' w.heap.size (fun k_ => some k_ ≠ (v1_ : Value).ownBlock) v0_ r1 ∧ Kd.R (Kd.int .i64) 3 w' w.heap.size (fun k_ => some k_ ≠ (v0_ : Value).ownBlock) v1_ r2 ∧ Below w.heap.size w w' := by
 have hu26 := Try.underlying26
 have HR0 := am hr0
 have HC0 := am hc0
 clear hr0 hc0
 have HB := am (Below.refl w.heap.size w)
 have H : ((spec_DrawIsLinear.f k l0).bind fun bt1106 => (some (bt1106.1, bt1106.2))) = some (r1, r2) := h
 clear h
 replace H := Option.bind_eq_some_iff.mp H
 obtain ⟨⟨t1106, t1109⟩, A20, H⟩ := H
 replace H : (some (t1106, t1109)) = some (r1, r2) := H
 have A2 := am A20
 clear A20
 simp only [Option.some.injEq, Prod.mk.injEq] at H
 obtain ⟨rfl, rfl⟩ := H
 go_enter Try.func61, Try.ntmps61
 go_wp2_with (first | ((with_reducible refine gate_dst (N := 2) rfl ?_); refine qx (N := 2) (cs := #[.slice none 0 0]) (t := 26) ?_; intro gb1105 hg w3 hbox hb; have n0_ := am (below_step qB hb); have BK1105 := am (hbox); have GW1105 := am (qg w hg); have GE1105 := am (qg w hg); clear HB; have HB := n0_; clear n0_; clear hb hbox hg) | ((with_reducible refine gate_callee (f := 121) rfl ?_); refine gL (some 5) Try.func121 #[.slice A0 l0.length c0] ?_; (with_reducible refine (spec_DrawIsLinear.calls k _ _ l0 t1106 t1109 _ ?side1 ?side2 A2.out).mono ?_); (case side1 => exact qC (Kd.C_below HR0.out HB.out)); (case side2 => exact HC0.out); rintro e w4 ⟨v1107, v1110, rfl, ho0, ho1, hb⟩; refine ⟨_, rfl, ?_⟩; have HO1108 := am (Kd.R_lower ho0 (below_size qB)); have HO1111 := am (Kd.R_lower ho1 (below_size qB)); replace BK1105 := am (blk_below (g := gb1105) (o := .cells #[.slice none 0 0] 26 (0, 0)) (qb BK1105.out) hb); replace HB := am (below_step qB hb); (try clear hb); (try clear hb2); (try clear hk); (try clear hi); (try clear ho0); (try clear ho1); obtain ⟨Ao5, co5, eo5⟩ := Kd.R_slice HO1108.out; subst eo5; have hcz6_0 := qz w4 BK1105.out; have hfz6_0 := blk_frozen BK1105.out 0))
 refine bodyPost_ret (results_ct rfl _ _ gb1105 26 #[.slice Ao5 t1106.length co5] (0, 0) _ rfl (by (with_reducible repeat (first | refine blk_drewN ?_ _ | refine blk_drew ?_ | refine blk_alloc ?_ _)); refine blk_put (cs := #[.slice none 0 0]) ?_ 0 _ rfl; refine qb ?_; exact BK1105.out) Try.underlying26 rfl (by kernel_rfl)) rfl ?_
 exact ⟨_, _, qr, qR (Kd.R_mono (Kd.R_far (p := ⟨gb1105, 0, none⟩) (Kd.R_types HO1108.out BK1105.out (by decide)) (fun _ hk => hk.2) (.slice Ao5 t1106.length co5)) (fun _ hk => hk.1)), qR (Kd.R_mono (Kd.R_far (p := ⟨gb1105, 0, none⟩) (Kd.R_types HO1111.out BK1105.out (by decide)) (fun _ hk => hk.2) (.slice Ao5 t1106.length co5)) (fun _ hk => hk.1)), qB⟩
end Go.Proofs.Ytmbojobkiainlaa.F
end
