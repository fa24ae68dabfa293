/- Part 6 of the texts below the row of FnLinearRanked: printed functions with their contracts, and plain lemmas. No condition. -/
import Derived.Test.YtmbojobkiainlaaZFnLinearRanked5
section
namespace Go.Proofs.Ytmbojobkiainlaa.F
open Go.RowKit Go.Proofs.YtmbojobkiainlaaW.PrintWords Go.Proofs.YtmbojobkiainlaaW.PrintLast Go.Proofs.YtmbojobkiainlaaW.PrintMore
attribute [local go_sem] max2_int min2_int max_two min_two max_three min_three max_four min_four
set_option linter.unusedVariables false
set_option linter.unusedSimpArgs false
def spec_DrawLinearWithR.f (k : Nat) (s0_0 : List Int) (s0_1 : Int) (s0_2 : Int) : Option (List Int × Int × Int × Int) := (spec_l1Cur_poset.f k s0_0 s0_1 s0_2 8).bind fun bt1229 => ((spec_poGood.f k bt1229.1).bind fun t1235 => (if t1235 = true then ((spec_liCounts.f k bt1229.1).bind fun t1236 => (if 0 < (t1236.length : Int) then ((spec_l1Cur_one.f s0_0 bt1229.2.1 bt1229.2.2 5).bind fun bt1240 => (if bt1240.1 = true then ((spec_l1Cur_among.f s0_0 bt1240.2.1 bt1240.2.2 (([(-1), 0, wrap64 ((rd t1236 0) - 1), rd t1236 0] : List Int))).bind fun bt1246 => (some (bt1229.1, bt1246.1, bt1246.2.1, bt1246.2.2))) else ((spec_l1Least.f (rd t1236 0) 60000).bind fun t1249 => ((spec_l1Cur_pick.f s0_0 bt1240.2.1 bt1240.2.2 t1249).bind fun bt1250 => (some (bt1229.1, bt1250.1, bt1250.2.1, bt1250.2.2)))))) else (none))) else (some (bt1229.1, 0, bt1229.2.1, bt1229.2.2))))
theorem spec_DrawLinearWithR.mono : ∀ a0 a1 a2 k, LeO (spec_DrawLinearWithR.f k a0 a1 a2) (spec_DrawLinearWithR.f (k + 1) a0 a1 a2) := by
 intro a0 a1 a2 k
 unfold spec_DrawLinearWithR.f
 repeat' first
  | (with_reducible exact spec_l1Cur_poset.mono _ _ _ _ _)
  | (with_reducible exact spec_liCounts.mono _ _)
  | (with_reducible exact spec_poGood.mono _ _)
  | (with_reducible exact LeO.refl _)
  | (with_reducible exact LeO.none _)
  | (with_reducible refine LeO.ite ?_ ?_)
  | (with_reducible refine LeO.bind ?_ (fun _ => ?_))
  | exact spec_l1Cur_poset.mono _ _ _ _ _
  | exact spec_liCounts.mono _ _
  | exact spec_poGood.mono _ _
  | exact LeO.none _
  | refine LeO.ite ?_ ?_
  | refine LeO.bind ?_ (fun _ => ?_)
def spec_DrawLinearWithR.T7 : Bool × List (List Nat × List Nat) := (true, [([], []), ([], []), ([], []), ([2], [2]), ([], []), ([3, 4], [3, 4]), ([1, 5], [1, 5]), ([0, 6, 0], [0]), ([6, 7, 0, 1, 2, 3, 4, 5, 6, 7], [6])])
def spec_DrawLinearWithR.B7 : List Nat := [0, 0, 0, 4, 0, 28, 62, 127, 255]
theorem spec_DrawLinearWithR.tab7 : rtab .any (opsOf Try.f52 7) = spec_DrawLinearWithR.T7 := by kernel_rfl
theorem spec_DrawLinearWithR.bits7 : waitsOk spec_DrawLinearWithR.T7.2 spec_DrawLinearWithR.B7 = true := by kernel_rfl
def spec_DrawLinearWith.f (k : Nat) (l0 : List Int) : Option ((List Int) × (Int)) := (spec_DrawLinearWithR.f k l0 0 0).bind fun bt => some (bt.1, bt.2.1)
theorem spec_DrawLinearWith.mono : ∀ a0 k, LeO (spec_DrawLinearWith.f k a0) (spec_DrawLinearWith.f (k + 1) a0) := fun a0 k => LeO.bind (spec_DrawLinearWithR.mono _ _ _ _) (fun _ => LeO.refl _)
set_option maxHeartbeats 8000000 in
set_option maxRecDepth 100000 in
theorem spec_DrawLinearWith.calls (k : Nat) (A0 : Option Addr) (c0 : Nat) (l0 : List Int) (r1 : List Int) (r2 : Int) (w : World) (hr0 : Kd.C (Kd.int .u8) w A0 l0.length l0) (hc0 : l0.length ≤ c0) (hf : spec_DrawLinearWith.f k l0 = some (r1, r2)) :
 Calls Try.prog 52 #[.slice A0 l0.length c0] w fun e w' => ∃ v0_ : Value, e = .returned (.tuple #[.agg #[v0_], .int .i64 r2]) ∧ Kd.R (Kd.int .i64) 3 w' w.heap.size (fun _ => True) v0_ r1 ∧ Below w.heap.size w w' := by
 unfold spec_DrawLinearWith.f at hf
 obtain ⟨⟨r1_, r2_, r3, r4⟩, h, hf⟩ := Option.bind_eq_some_iff.1 hf
 have hf := Option.some.inj hf
 simp only [Prod.mk.injEq] at hf
 obtain ⟨hf0, hf1⟩ := hf
 replace hf0 := hf0.symm
 subst hf0
 replace hf1 := hf1.symm
 subst hf1
 have HR0 := am hr0
 have HC0 := am hc0
 clear hr0 hc0
 have hu26 := Try.underlying26
 have HL := am (Nat.le_refl w.heap.size)
 have HW0 := am (Nat.le_refl w.heap.size)
 have H : ((spec_l1Cur_poset.f k l0 0 0 8).bind fun bt1229 => ((spec_poGood.f k bt1229.1).bind fun t1235 => (if t1235 = true then ((spec_liCounts.f k bt1229.1).bind fun t1236 => (if 0 < (t1236.length : Int) then ((spec_l1Cur_one.f l0 bt1229.2.1 bt1229.2.2 5).bind fun bt1240 => (if bt1240.1 = true then ((spec_l1Cur_among.f l0 bt1240.2.1 bt1240.2.2 (([(-1), 0, wrap64 ((rd t1236 0) - 1), rd t1236 0] : List Int))).bind fun bt1246 => (some (bt1229.1, bt1246.1, bt1246.2.1, bt1246.2.2))) else ((spec_l1Least.f (rd t1236 0) 60000).bind fun t1249 => ((spec_l1Cur_pick.f l0 bt1240.2.1 bt1240.2.2 t1249).bind fun bt1250 => (some (bt1229.1, bt1250.1, bt1250.2.1, bt1250.2.2)))))) else (none))) else (some (bt1229.1, 0, bt1229.2.1, bt1229.2.2))))) = some (r1, r2, r3, r4) := h
 clear h
 replace H := Option.bind_eq_some_iff.mp H
 obtain ⟨⟨t1229, t1232, t1233⟩, A20, H⟩ := H
 replace H : ((spec_poGood.f k t1229).bind fun t1235 => (if t1235 = true then ((spec_liCounts.f k t1229).bind fun t1236 => (if 0 < (t1236.length : Int) then ((spec_l1Cur_one.f l0 t1232 t1233 5).bind fun bt1240 => (if bt1240.1 = true then ((spec_l1Cur_among.f l0 bt1240.2.1 bt1240.2.2 (([(-1), 0, wrap64 ((rd t1236 0) - 1), rd t1236 0] : List Int))).bind fun bt1246 => (some (t1229, bt1246.1, bt1246.2.1, bt1246.2.2))) else ((spec_l1Least.f (rd t1236 0) 60000).bind fun t1249 => ((spec_l1Cur_pick.f l0 bt1240.2.1 bt1240.2.2 t1249).bind fun bt1250 => (some (t1229, bt1250.1, bt1250.2.1, bt1250.2.2)))))) else (none))) else (some (t1229, 0, t1232, t1233)))) = some (r1, r2, r3, r4) := H
 have A2 := am A20
 clear A20
 replace H := Option.bind_eq_some_iff.mp H
 obtain ⟨t1235, A30, H⟩ := H
 replace H : (if t1235 = true then ((spec_liCounts.f k t1229).bind fun t1236 => (if 0 < (t1236.length : Int) then ((spec_l1Cur_one.f l0 t1232 t1233 5).bind fun bt1240 => (if bt1240.1 = true then ((spec_l1Cur_among.f l0 bt1240.2.1 bt1240.2.2 (([(-1), 0, wrap64 ((rd t1236 0) - 1), rd t1236 0] : List Int))).bind fun bt1246 => (some (t1229, bt1246.1, bt1246.2.1, bt1246.2.2))) else ((spec_l1Least.f (rd t1236 0) 60000).bind fun t1249 => ((spec_l1Cur_pick.f l0 bt1240.2.1 bt1240.2.2 t1249).bind fun bt1250 => (some (t1229, bt1250.1, bt1250.2.1, bt1250.2.2)))))) else (none))) else (some (t1229, 0, t1232, t1233))) = some (r1, r2, r3, r4) := H
 have A3 := am A30
 clear A30
 by_cases c4 : t1235 = true
 ·subst c4
  have H1 : ((spec_liCounts.f k t1229).bind fun t1236 => (if 0 < (t1236.length : Int) then ((spec_l1Cur_one.f l0 t1232 t1233 5).bind fun bt1240 => (if bt1240.1 = true then ((spec_l1Cur_among.f l0 bt1240.2.1 bt1240.2.2 (([(-1), 0, wrap64 ((rd t1236 0) - 1), rd t1236 0] : List Int))).bind fun bt1246 => (some (t1229, bt1246.1, bt1246.2.1, bt1246.2.2))) else ((spec_l1Least.f (rd t1236 0) 60000).bind fun t1249 => ((spec_l1Cur_pick.f l0 bt1240.2.1 bt1240.2.2 t1249).bind fun bt1250 => (some (t1229, bt1250.1, bt1250.2.1, bt1250.2.2)))))) else (none))) = some (r1, r2, r3, r4) := by rw [if_pos rfl] at H; exact H
  clear H
  have H := H1
  clear H1
  replace H := Option.bind_eq_some_iff.mp H
  obtain ⟨t1236, A50, H⟩ := H
  replace H : (if 0 < (t1236.length : Int) then ((spec_l1Cur_one.f l0 t1232 t1233 5).bind fun bt1240 => (if bt1240.1 = true then ((spec_l1Cur_among.f l0 bt1240.2.1 bt1240.2.2 (([(-1), 0, wrap64 ((rd t1236 0) - 1), rd t1236 0] : List Int))).bind fun bt1246 => (some (t1229, bt1246.1, bt1246.2.1, bt1246.2.2))) else ((spec_l1Least.f (rd t1236 0) 60000).bind fun t1249 => ((spec_l1Cur_pick.f l0 bt1240.2.1 bt1240.2.2 t1249).bind fun bt1250 => (some (t1229, bt1250.1, bt1250.2.1, bt1250.2.2)))))) else (none)) = some (r1, r2, r3, r4) := H
  have A5 := am A50
  clear A50
  by_cases c6 : 0 < (t1236.length : Int)
  rotate_left
  ·rw [if_neg c6] at H
   exact absurd H (by simp)
  rw [if_pos c6] at H
  have c6b0 := decide_eq_true c6
  have c6b1 : decide (0 < t1236.length) = true := decide_eq_true (by omega)
  clear c6
  replace H := Option.bind_eq_some_iff.mp H
  obtain ⟨⟨t1240, t1241, t1242⟩, A70, H⟩ := H
  replace H : (if t1240 = true then ((spec_l1Cur_among.f l0 t1241 t1242 (([(-1), 0, wrap64 ((rd t1236 0) - 1), rd t1236 0] : List Int))).bind fun bt1246 => (some (t1229, bt1246.1, bt1246.2.1, bt1246.2.2))) else ((spec_l1Least.f (rd t1236 0) 60000).bind fun t1249 => ((spec_l1Cur_pick.f l0 t1241 t1242 t1249).bind fun bt1250 => (some (t1229, bt1250.1, bt1250.2.1, bt1250.2.2))))) = some (r1, r2, r3, r4) := H
  have A7 := am A70
  clear A70
  by_cases c8 : t1240 = true
  ·subst c8
   have H1 : ((spec_l1Cur_among.f l0 t1241 t1242 (([(-1), 0, wrap64 ((rd t1236 0) - 1), rd t1236 0] : List Int))).bind fun bt1246 => (some (t1229, bt1246.1, bt1246.2.1, bt1246.2.2))) = some (r1, r2, r3, r4) := by rw [if_pos rfl] at H; exact H
   clear H
   have H := H1
   clear H1
   obtain ⟨y1243, hy1243⟩ : ∃ y_ : List Int, y_ = (([(-1), 0, wrap64 ((rd t1236 0) - 1), rd t1236 0] : List Int)) := ⟨_, rfl⟩
   replace H : ((spec_l1Cur_among.f l0 t1241 t1242 y1243).bind fun bt1246 => (some (t1229, bt1246.1, bt1246.2.1, bt1246.2.2))) = some (r1, r2, r3, r4) := by first | (rw [hy1243]; with_reducible exact H) | (have H2_ := (Option.bind_some _ _).symm.trans H; rw [hy1243]; with_reducible exact H2_) | (have H2_ := (Option.bind_some _ _).symm.trans H; with_reducible exact H2_) | with_reducible exact H | (rw [hy1243]; exact H) | exact H
   have Ny1243 := am hy1243
   clear hy1243
   replace H := Option.bind_eq_some_iff.mp H
   obtain ⟨⟨t1246, t1247, t1248⟩, A90, H⟩ := H
   replace H : (some (t1229, t1246, t1247, t1248)) = some (r1, r2, r3, r4) := H
   have A9 := am A90
   clear A90
   simp only [Option.some.injEq, Prod.mk.injEq] at H
   obtain ⟨rfl, rfl, rfl, rfl⟩ := H
   go_enter Try.func52, Try.ntmps52
   try go_wp2_with (first | ((with_reducible refine gate_dst (N := 2) rfl ?_); refine qx (N := 2) (cs := #[.slice none 0 0]) (t := 26) ?_; intro gb1228 hg wA hbox hb; have BKa := am hbox; have GE1228 : Aside0 (w.heap.size ≤ gb1228) := ⟨by rw [hg]; exact Nat.le_refl _⟩; have HBa := am hb; have HLa : Aside0 (gb1228 < wA.heap.size) := ⟨blk_lt hbox⟩; clear hbox hb hg) | ((with_reducible refine gate_dst (N := 9) rfl ?_); refine qx (N := 9) (cs := #[.slice A0 l0.length c0, .int .i64 0, .int .u64 0]) (t := 67) ?_; intro g hg w1_ hbox hb; have HBb := am (HBa.out.trans (hb.mono HBa.out.size)); have hge : w.heap.size ≤ g := (by rw [hg]; exact HBa.out.size); have HI0 : Aside0 (IsS67 w w1_ g l0 0 0) := ⟨A0, c0, hbox, hge, HR0.out⟩; have BK1228 := am (blk_below BKa.out hb); have NB1228_0 : Aside0 (gb1228 ≠ g) := ⟨by rw [hg]; exact Nat.ne_of_lt HLa.out⟩; have NB0_1228 : Aside0 (g ≠ gb1228) := ⟨fun e => NB1228_0.out e.symm⟩; have GW1228 := GE1228; have HK := am (KeepBut.of_below HBb.out g none); have HB := HBb; clear hbox hb hge hg BKa HBa HLa HBb) | ((with_reducible refine gate_callee (f := 64) rfl ?_); refine gL (some 11) Try.func64 #[.pointer (some ⟨g, 0, none⟩), .int .i64 8] ?_; (with_reducible refine (spec_l1Cur_poset.calls k g l0 0 0 8 t1229 t1232 t1233 w _ ?side1 ?side2 A2.out).mono ?_); (case side1 => exact qI67); (case side2 => exact qB); rintro e w11 ⟨v1230, rfl, ho0, hi, hb, hk⟩; refine ⟨_, rfl, ?_⟩; replace BK1228 := am (KeepBut.blk hk (g' := gb1228) (o := .cells #[.slice none 0 0] 26 (0, 0)) (qb BK1228.out) NB1228_0.out (by simp)); have HO1231 := am (Kd.R_lower ho0 (keep_size (w := w) (g := g) (row := none) qK)); have n2_ := am (KeepBut.trans qK hk (.inl rfl)); have n3_ := am (hb); replace HI0 := am (hi); clear HK HB; have HK := n2_; have HB := n3_; clear n2_ n3_; (try clear hb); (try clear hb2); (try clear hk); (try clear hi); (try clear ho0)) | ((with_reducible refine gate_dst (N := 5) rfl ?_); refine qx (N := 5) (cs := #[.slice none 0 0]) (t := 26) ?_; intro gb1234 hg w12 hbox hb; replace HO1231 := am (Kd.R_below (qR HO1231.out) hb); have n1_ := am (IsS67.below qI67 hb); have n2_ := am (blk_below (g := gb1228) (o := .cells #[.slice none 0 0] 26 (0, 0)) (qb BK1228.out) hb); have n3_ := am (KeepBut.trans qK (KeepBut.of_below hb g none) (.inl rfl)); have n4_ := am (below_step qB hb); have BK1234 := am (hbox); have GW1234 := am ((by rw [hg]; exact (keep_size (w := w) (g := g) (row := none) qK) : w.heap.size ≤ gb1234)); have GE1234 := am ((Nat.le_trans HW0.out (by rw [hg]; exact (keep_size (w := w) (g := g) (row := none) qK) : w.heap.size ≤ gb1234) : w.heap.size ≤ gb1234)); have NB1228_1234 := am ((by rw [hg]; exact Nat.ne_of_lt (blk_lt (g := gb1228) (o := .cells #[.slice none 0 0] 26 (0, 0)) (qb BK1228.out)) : gb1228 ≠ gb1234)); have NB1234_1228 := am ((by rw [hg]; exact Nat.ne_of_gt (blk_lt (g := gb1228) (o := .cells #[.slice none 0 0] 26 (0, 0)) (qb BK1228.out)) : gb1234 ≠ gb1228)); have NB0_1234 := am ((by rw [hg]; exact Nat.ne_of_lt (IsS67.lt (show IsS67 w _ g l0 t1232 t1233 from qI67)) : g ≠ gb1234)); have NB1234_0 := am ((by rw [hg]; exact Nat.ne_of_gt (IsS67.lt (show IsS67 w _ g l0 t1232 t1233 from qI67)) : gb1234 ≠ g)); clear HI0 BK1228 HK HB; have HI0 := n1_; have BK1228 := n2_; have HK := n3_; have HB := n4_; clear n1_ n2_ n3_ n4_; clear hb hbox hg; obtain ⟨Ao13, co13, eo13⟩ := Kd.R_slice HO1231.out; subst eo13; have hnb14 := NB1234_1228.out; have hnc14 := NB1228_1234.out; have hnb15 := NB1234_0.out; have hnc15 := NB0_1234.out; have hcz16_0 := qz w12 BK1234.out; have hfz16_0 := blk_frozen BK1234.out 0) | ((with_reducible refine gate_callee (f := 82) rfl ?_); refine gL (some 13) Try.func82 #[.agg #[.slice Ao13 t1229.length co13]] ?_; (with_reducible refine (spec_poGood.calls k _ _ t1229 true _ ?side1 ?side2 A3.out).mono ?_); (case side1 => refine (Kd.R_reads' (e := 3) (base := w.heap.size) (ok := fun k_ => True) (n := t1229.length) (c := co13) ?_).2.2; exact (qR ((Kd.R_mono (Kd.R_far (p := ⟨gb1234, 0, none⟩) (Kd.R_types HO1231.out BK1234.out (by decide)) (fun _ hk => hk.2) (.slice Ao13 t1229.length co13)) (fun _ h_ => h_.1))))); (case side2 => exact (Kd.R_reads' HO1231.out).2.1); rintro e w17 ⟨rfl, hb⟩; refine ⟨_, rfl, ?_⟩; replace HO1231 := am (Kd.R_below (qR ((Kd.R_mono (Kd.R_far (p := ⟨gb1234, 0, none⟩) (Kd.R_types HO1231.out BK1234.out (by decide)) (fun _ hk => hk.2) (.slice Ao13 t1229.length co13)) (fun _ h_ => h_.1)))) hb); have n1_ := am (IsS67.below (show IsS67 w (w12.setCell ⟨gb1234, 0, none⟩ (.slice Ao13 t1229.length co13)) g l0 t1232 t1233 from qI67) hb); replace BK1228 := am (blk_below (g := gb1228) (o := .cells #[.slice none 0 0] 26 (0, 0)) (by (with_reducible repeat (first | refine blk_drewN ?_ _ | refine blk_drew ?_ | refine blk_alloc ?_ _)); refine blk_far ?_ NB1228_1234.out _; refine qb ?_; exact BK1228.out) hb); replace BK1234 := am (blk_below (g := gb1234) (o := .cells #[.slice Ao13 t1229.length co13] 26 (0, 0)) (by (with_reducible repeat (first | refine blk_drewN ?_ _ | refine blk_drew ?_ | refine blk_alloc ?_ _)); refine blk_put (cs := #[.slice none 0 0]) ?_ 0 _ rfl; refine qb ?_; exact BK1234.out) hb); have n4_ := am (KeepBut.trans qK (KeepBut.of_below hb g none) (.inl rfl)); replace HB := am (below_step qB hb); clear HI0 HK; have HI0 := n1_; have HK := n4_; clear n1_ n4_; (try clear hb); (try clear hb2); (try clear hk); (try clear hi); have hcz18_0 := qz w17 BK1234.out; have hfz18_0 := blk_frozen BK1234.out 0) | ((with_reducible refine gate_callee (f := 111) rfl ?_); refine gL (some 17) Try.func111 #[.agg #[.slice Ao13 t1229.length co13]] ?_; (with_reducible refine (spec_liCounts.calls k _ _ t1229 t1236 _ ?side1 ?side2 A5.out).mono ?_); (case side1 => exact qC (Kd.R_reads' HO1231.out).2.2); (case side2 => exact (Kd.R_reads' HO1231.out).2.1); rintro e w19 ⟨v1237, rfl, ho0, hb⟩; refine ⟨_, rfl, ?_⟩; have n0_ := am (Kd.R_elder' (qR HO1231.out) (Kd.R_base ho0) hb); have HO1238 := am (Kd.R_lower (Kd.R_new' ho0 (Kd.R_lt (qR HO1231.out))) (keep_size (w := w) (g := g) (row := none) qK)); have n2_ := am (IsS67.below qI67 hb); replace BK1228 := am (blk_below (g := gb1228) (o := .cells #[.slice none 0 0] 26 (0, 0)) (qb BK1228.out) hb); replace BK1234 := am (blk_below (g := gb1234) (o := .cells #[.slice Ao13 t1229.length co13] 26 (0, 0)) (qb BK1234.out) hb); have n5_ := am (KeepBut.trans qK (KeepBut.of_below hb g none) (.inl rfl)); replace HB := am (below_step qB hb); clear HO1231 HI0 HK; have HO1231 := n0_; have HI0 := n2_; have HK := n5_; clear n0_ n2_ n5_; (try clear hb); (try clear hb2); (try clear hk); (try clear hi); (try clear ho0); obtain ⟨Ao20, co20, eo20⟩ := Kd.R_slice HO1238.out; subst eo20; have p1239 : 0 ≤ (0 : Int) := (by omega); have q1239 : 0 < (t1236.length : Int) := qd; obtain ⟨ad1239, e1239, hx1239_0⟩ := Kd.at_int (Kd.R_reads' HO1238.out).2.2 0 p1239 q1239; cases e1239; have qi1239 : (0 < t1236.length) = True := eq_true (by omega); (try rw [show ((0 : Int)).toNat = 0 from rfl] at hx1239_0); (try rw [Addr.add_zero'] at hx1239_0); replace p1239 := eq_true p1239; replace q1239 := eq_true q1239) | ((with_reducible refine gate_callee (f := 66) rfl ?_); refine gL (some 21) Try.func66 #[.pointer (some ⟨g, 0, none⟩), .int .i64 5] ?_; (with_reducible refine (spec_l1Cur_one.calls g l0 t1232 t1233 5 true t1241 t1242 w _ ?side1 ?side2 A7.out).mono ?_); (case side1 => exact qI67); (case side2 => exact qB); rintro e w21 ⟨rfl, hi, hb, hk⟩; refine ⟨_, rfl, ?_⟩; replace BK1228 := am (KeepBut.blk hk (g' := gb1228) (o := .cells #[.slice none 0 0] 26 (0, 0)) (qb BK1228.out) NB1228_0.out (by simp)); replace HO1231 := am (Kd.R_mono (Kd.R_keep (IsS67.apart (show IsS67 w _ g l0 t1232 t1233 from qI67) (qR HO1231.out) (by decide)) hk (fun _ h => h.2)) (fun _ h => h.1)); replace BK1234 := am (KeepBut.blk hk (g' := gb1234) (o := .cells #[.slice Ao13 t1229.length co13] 26 (0, 0)) (qb BK1234.out) NB1234_0.out (by simp)); replace HO1238 := am (Kd.R_mono (Kd.R_keep (IsS67.apart (show IsS67 w _ g l0 t1232 t1233 from qI67) (qR HO1238.out) (by decide)) hk (fun _ h => h.2)) (fun _ h => h.1)); have n4_ := am (KeepBut.trans qK hk (.inl rfl)); have n5_ := am (hb); replace HI0 := am (hi); clear HK HB; have HK := n4_; have HB := n5_; clear n4_ n5_; (try clear hb); (try clear hb2); (try clear hk); (try clear hi)))
   have n0_ := am (Kd.R_drew HO1231.out)
   have n1_ := am (Kd.R_drew HO1238.out)
   have n2_ := am (blk_drew BK1228.out)
   have n3_ := am (blk_drew BK1234.out)
   have n4_ := am (IsS67.drew HI0.out)
   have n5_ := am (keep_drew HK.out)
   have n6_ := am (below_drew1 HB.out)
   clear HO1231
   clear HO1238
   clear BK1228
   clear BK1234
   clear HI0
   clear HK
   clear HB
   have HO1231 := n0_
   have HO1238 := n1_
   have BK1228 := n2_
   have BK1234 := n3_
   have HI0 := n4_
   have HK := n5_
   have HB := n6_
   clear n0_ n1_ n2_ n3_ n4_ n5_ n6_
   refine start_ (n := 9) (S := fun w' => w'.cell? ⟨gb1234, 0, none⟩ = some (.slice Ao13 t1229.length co13)) (ds := []) #[false, false, false, false, false, false, false, false, false] (by kernel_rfl) rfl rfl ((blk_cell BK1234.out 0).trans rfl) (fun hHeld => ?_); refine with_tabW spec_DrawLinearWithR.tab7 spec_DrawLinearWithR.bits7 (fun HT_ HW_ => ?_)
   generalize w21.drew = w22 at HO1231 HO1238 BK1228 BK1234 HI0 HK HB hHeld ⊢
   refine pure_ (i := 1) (N := some 23) (v := ?_) (a' := ?_) #[false, true, false, false, false, false, false, false, false] rfl rfl (any_of HT_.out (by kernel_rfl)) (fun _ _ _ h => h) (Or.inl ⟨by rfl, ?_⟩) ?_ ?_
   rotate_left
   ·intro w'
    go_simp
    with_reducible rfl
   rotate_left
   ·exact qP
   refine pure_ (i := 2) (N := some 24) (v := ?_) (a' := ?_) #[false, true, true, false, false, false, false, false, false] rfl rfl (any_of HT_.out (by kernel_rfl)) (fun _ _ _ h => h) (Or.inl ⟨by rfl, ?_⟩) ?_ ?_
   rotate_left
   ·intro w'
    go_simp
    with_reducible rfl
   rotate_left
   ·exact qP
   refine pure_ (i := 3) (N := some 25) (v := ?_) (a' := ?_) #[false, true, true, true, false, false, false, false, false] rfl rfl (any_of HT_.out (by kernel_rfl)) (fun _ _ _ h => h) (Or.inl ⟨by rfl, ?_⟩) ?_ ?_
   rotate_left
   ·intro w'
    go_simp
    with_reducible rfl
   rotate_left
   ·exact qP
   refine pure_ (i := 4) (N := some 26) (v := ?_) (a' := ?_) #[false, true, true, true, true, false, false, false, false] rfl rfl (any_of HT_.out (by kernel_rfl)) (fun _ _ _ h => h) (Or.inl ⟨by rfl, ?_⟩) ?_ ?_
   rotate_left
   ·intro w'
    go_simp
    with_reducible rfl
   rotate_left
   ·exact qP
   refine take_ (i := 0) (N := some 22) (v := ?_) (a' := ?_) #[true, true, true, true, true, false, false, false, false] rfl rfl (take_ofW HT_.out HW_.out (by kernel_rfl)) (fun _ _ _ h => h) (Or.inl ⟨by rfl, ?_⟩) hHeld ?_ ?_
   rotate_left
   ·intro w' s0
    go_simp
    with_reducible rfl
   rotate_left
   ·exact qP
   refine one_ (i := 5) (N := some 27) #[true, true, true, true, true, true, false, false, false] rfl rfl (one_of HT_.out (by kernel_rfl)) (by decide) (fun K hK => ?_)
   refine Kd.R_lit_step (Kd.int .i64) _ 3 ?hg (N := 27) ?hd (xs := ([(-1), 0, wrap64 ((rd t1236 0) - 1), rd t1236 0] : List Int)) (inner := [.int .i64 (-1), .int .i64 0, .int .i64 (wrap64 ((rd t1236 0) - 1)), .int .i64 (rd t1236 0)]) (ok := fun _ => True) (okp := fun _ => True) ?hr ?hp (fun _ hk => hk) trivial (Below.refl _ _) (Nat.le_refl _) (by simp) ?_; (case hd => rfl); (case hg => rfl); (case hr => first | (go_simp; done) | (go_simp; rfl)); (case hp => exact (Reps.one (show Kd.M (Kd.int .i64) _ _ _ (-1) [.int .i64 (-1)] from rfl) (Reps.one (show Kd.M (Kd.int .i64) _ _ _ 0 [.int .i64 0] from rfl) (Reps.one (show Kd.M (Kd.int .i64) _ _ _ (wrap64 ((rd t1236 0) - 1)) [.int .i64 (wrap64 ((rd t1236 0) - 1))] from rfl) (Reps.one (show Kd.M (Kd.int .i64) _ _ _ (rd t1236 0) [.int .i64 (rd t1236 0)] from rfl) (Reps.none _ _))))))
   intro v1244 w23 ho24 hb hg_ hnew_
   clear hg_ hnew_
   (first | rw [← Ny1243.out] at ho24 | (simp only [Int.reduceToNat] at ho24; rw [← Ny1243.out] at ho24))
   have n0_ := am (Kd.R_elder' (qR HO1231.out) (Kd.R_base ho24) hb)
   have n1_ := am (Kd.R_elder' (qR HO1238.out) (Kd.R_base ho24) hb)
   have n2_ := am (Kd.R_lower (Kd.R_new' (Kd.R_new' ho24 (Kd.R_lt (qR HO1231.out))) (Kd.R_lt (qR HO1238.out))) (keep_size (w := w) (g := g) (row := none) qK))
   have n3_ := am (IsS67.below qI67 hb)
   have n4_ := am (blk_below (g := gb1228) (o := .cells #[.slice none 0 0] 26 (0, 0)) (qb BK1228.out) hb)
   have n5_ := am (blk_below (g := gb1234) (o := .cells #[.slice Ao13 t1229.length co13] 26 (0, 0)) (qb BK1234.out) hb)
   have n6_ := am (KeepBut.trans qK (KeepBut.of_below hb g none) (.inl rfl))
   have n7_ := am (below_step qB hb)
   clear HO1231
   clear HO1238
   clear HI0
   clear BK1228
   clear BK1234
   clear HK
   clear HB
   have HO1231 := n0_
   have HO1238 := n1_
   have HO1245 := n2_
   have HI0 := n3_
   have BK1228 := n4_
   have BK1234 := n5_
   have HK := n6_
   have HB := n7_
   clear n0_ n1_ n2_ n3_ n4_ n5_ n6_ n7_
   clear hb ho24
   obtain ⟨Ao25, co25, eo25⟩ := Kd.R_slice HO1245.out
   (first | subst eo25 | (injection eo25 with f1_ f2_ f3_; have f4_ := f1_.symm; have f5_ := f3_.symm; clear f1_ f2_ f3_; subst f4_; subst f5_))
   refine hK.out _ _ ((blk_cell BK1234.out 0).trans rfl) (fun hHeld => ?_)
   clear hK K
   refine norm_ (a' := ?_) ?_ ?_
   rotate_left
   ·show Act.put _ (some 27) _ = _
    simp only [Act.put, List.setIfInBounds_toArray, List.set_cons_zero, List.set_cons_succ, i64_w, i32_w]
    rfl
   refine one_ (i := 6) (N := some 28) #[true, true, true, true, true, true, true, false, false] rfl rfl (one_of HT_.out (by kernel_rfl)) (by decide) (fun K hK => ?_)
   refine goes_ Try.func67 (by kernel_rfl) rfl #[.pointer (some ⟨g, 0, none⟩), .slice Ao25 y1243.length co25] (by rfl) rfl rfl qA ?_
   with_reducible refine (spec_l1Cur_among.calls g l0 t1241 t1242 _ _ y1243 t1246 t1247 t1248 w _ ?side1 ?side2 ?side3 ?side4 ?side5 A9.out).mono ?_
   (case side1 => exact qI67)
   (case side2 => exact qB)
   (case side3 => exact qC (Kd.R_reads' HO1245.out).2.2)
   (case side4 => exact (Kd.R_reads' HO1245.out).2.1)
   (case side5 => exact far_slice (IsS67.own_ne HI0.out HO1245.out (by decide)))
   rintro e w26 ⟨rfl, hi, hb, hk⟩
   refine ⟨_, rfl, ?_⟩
   have n0_ := am (KeepBut.blk hk (g' := gb1228) (o := .cells #[.slice none 0 0] 26 (0, 0)) (qb BK1228.out) NB1228_0.out (by simp))
   have n1_ := am (Kd.R_mono (Kd.R_keep (IsS67.apart (show IsS67 w _ g l0 t1241 t1242 from qI67) (qR HO1231.out) (by decide)) hk (fun _ h => h.2)) (fun _ h => h.1))
   have n2_ := am (KeepBut.blk hk (g' := gb1234) (o := .cells #[.slice Ao13 t1229.length co13] 26 (0, 0)) (qb BK1234.out) NB1234_0.out (by simp))
   have n3_ := am (Kd.R_mono (Kd.R_keep (IsS67.apart (show IsS67 w _ g l0 t1241 t1242 from qI67) (qR HO1238.out) (by decide)) hk (fun _ h => h.2)) (fun _ h => h.1))
   have n4_ := am (Kd.R_mono (Kd.R_keep (IsS67.apart (show IsS67 w _ g l0 t1241 t1242 from qI67) (qR HO1245.out) (by decide)) hk (fun _ h => h.2)) (fun _ h => h.1))
   have n5_ := am (KeepBut.trans qK hk (.inl rfl))
   have n6_ := am (hb)
   have n7_ := am (hi)
   clear BK1228
   clear HO1231
   clear BK1234
   clear HO1238
   clear HO1245
   clear HK
   clear HB
   clear HI0
   have BK1228 := n0_
   have HO1231 := n1_
   have BK1234 := n2_
   have HO1238 := n3_
   have HO1245 := n4_
   have HK := n5_
   have HB := n6_
   have HI0 := n7_
   clear n0_ n1_ n2_ n3_ n4_ n5_ n6_ n7_
   (try clear hb)
   (try clear hb2)
   (try clear hk)
   (try clear hi)
   refine hK.out _ _ ((blk_cell BK1234.out 0).trans rfl) (fun hHeld => ?_)
   clear hK K
   refine norm_ (a' := ?_) ?_ ?_
   rotate_left
   ·show Act.put _ (some 28) _ = _
    simp only [Act.put, List.setIfInBounds_toArray, List.set_cons_zero, List.set_cons_succ, i64_w, i32_w]
    rfl
   refine one_ (i := 7) (N := none) #[true, true, true, true, true, true, true, true, false] rfl rfl (one_of HT_.out (by kernel_rfl)) (by decide) (fun K hK => ?_)
   have hs27 : w26.cell? ⟨gb1228, 0, none⟩ = some (.slice none 0 0) := (blk_cell BK1228.out 0).trans rfl
   have hfs27 := blk_frozen BK1228.out 0
   have hns27_1 := NB1234_1228.out
   have hms27_1 := NB1228_1234.out
   refine skip_ (w1 := ?_) (by rfl) rfl ?_ ?_
   rotate_left
   ·go_simp
    rfl
   refine hK.out _ _ (((cell_far (p := ⟨gb1228, _, none⟩) NB1234_1228.out _).trans (hHeld))) (fun hHeld => ?_)
   clear hK K
   refine pure_ (i := 8) (N := some 3) (v := ?_) (a' := ?_) #[true, true, true, true, true, true, true, true, true] rfl rfl (any_of HT_.out (by kernel_rfl)) (fun _ _ _ h => h) (Or.inl ⟨by rfl, ?_⟩) ?_ ?_
   rotate_left
   ·intro w'
    go_simp
    with_reducible rfl
   rotate_left
   ·exact qP
   refine done_ (done_of HT_.out (by kernel_rfl)) ?_
   try go_wp2
   refine bodyPost_ret (results_ct rfl _ _ gb1228 26 #[.slice Ao13 t1229.length co13] (0, 0) _ rfl (by (with_reducible repeat (first | refine blk_drewN ?_ _ | refine blk_drew ?_ | refine blk_alloc ?_ _)); refine blk_put (cs := #[.slice none 0 0]) ?_ 0 _ rfl; refine qb ?_; exact BK1228.out) Try.underlying26 rfl (by kernel_rfl)) rfl ?_
   exact ⟨_, qr, qR (Kd.R_mono (Kd.R_far (p := ⟨gb1228, 0, none⟩) (Kd.R_types HO1231.out BK1228.out (by decide)) (fun _ hk => hk.2) (.slice Ao13 t1229.length co13)) (fun _ hk => trivial)), qB⟩
  ·replace c8 := Bool.eq_false_iff.mpr c8
   subst c8
   have H1 : ((spec_l1Least.f (rd t1236 0) 60000).bind fun t1249 => ((spec_l1Cur_pick.f l0 t1241 t1242 t1249).bind fun bt1250 => (some (t1229, bt1250.1, bt1250.2.1, bt1250.2.2)))) = some (r1, r2, r3, r4) := by rw [if_neg (show ¬ (false = true) by decide)] at H; exact H
   clear H
   have H := H1
   clear H1
   replace H := Option.bind_eq_some_iff.mp H
   obtain ⟨t1249, A280, H⟩ := H
   replace H : ((spec_l1Cur_pick.f l0 t1241 t1242 t1249).bind fun bt1250 => (some (t1229, bt1250.1, bt1250.2.1, bt1250.2.2))) = some (r1, r2, r3, r4) := H
   have A28 := am A280
   clear A280
   replace H := Option.bind_eq_some_iff.mp H
   obtain ⟨⟨t1250, t1251, t1252⟩, A290, H⟩ := H
   replace H : (some (t1229, t1250, t1251, t1252)) = some (r1, r2, r3, r4) := H
   have A29 := am A290
   clear A290
   simp only [Option.some.injEq, Prod.mk.injEq] at H
   obtain ⟨rfl, rfl, rfl, rfl⟩ := H
   go_enter Try.func52, Try.ntmps52
   try go_wp2_with (first | ((with_reducible refine gate_dst (N := 2) rfl ?_); refine qx (N := 2) (cs := #[.slice none 0 0]) (t := 26) ?_; intro gb1228 hg wA hbox hb; have BKa := am hbox; have GE1228 : Aside0 (w.heap.size ≤ gb1228) := ⟨by rw [hg]; exact Nat.le_refl _⟩; have HBa := am hb; have HLa : Aside0 (gb1228 < wA.heap.size) := ⟨blk_lt hbox⟩; clear hbox hb hg) | ((with_reducible refine gate_dst (N := 9) rfl ?_); refine qx (N := 9) (cs := #[.slice A0 l0.length c0, .int .i64 0, .int .u64 0]) (t := 67) ?_; intro g hg w1_ hbox hb; have HBb := am (HBa.out.trans (hb.mono HBa.out.size)); have hge : w.heap.size ≤ g := (by rw [hg]; exact HBa.out.size); have HI0 : Aside0 (IsS67 w w1_ g l0 0 0) := ⟨A0, c0, hbox, hge, HR0.out⟩; have BK1228 := am (blk_below BKa.out hb); have NB1228_0 : Aside0 (gb1228 ≠ g) := ⟨by rw [hg]; exact Nat.ne_of_lt HLa.out⟩; have NB0_1228 : Aside0 (g ≠ gb1228) := ⟨fun e => NB1228_0.out e.symm⟩; have GW1228 := GE1228; have HK := am (KeepBut.of_below HBb.out g none); have HB := HBb; clear hbox hb hge hg BKa HBa HLa HBb) | ((with_reducible refine gate_callee (f := 64) rfl ?_); refine gL (some 11) Try.func64 #[.pointer (some ⟨g, 0, none⟩), .int .i64 8] ?_; (with_reducible refine (spec_l1Cur_poset.calls k g l0 0 0 8 t1229 t1232 t1233 w _ ?side1 ?side2 A2.out).mono ?_); (case side1 => exact qI67); (case side2 => exact qB); rintro e w31 ⟨v1230, rfl, ho0, hi, hb, hk⟩; refine ⟨_, rfl, ?_⟩; replace BK1228 := am (KeepBut.blk hk (g' := gb1228) (o := .cells #[.slice none 0 0] 26 (0, 0)) (qb BK1228.out) NB1228_0.out (by simp)); have HO1231 := am (Kd.R_lower ho0 (keep_size (w := w) (g := g) (row := none) qK)); have n2_ := am (KeepBut.trans qK hk (.inl rfl)); have n3_ := am (hb); replace HI0 := am (hi); clear HK HB; have HK := n2_; have HB := n3_; clear n2_ n3_; (try clear hb); (try clear hb2); (try clear hk); (try clear hi); (try clear ho0)) | ((with_reducible refine gate_dst (N := 5) rfl ?_); refine qx (N := 5) (cs := #[.slice none 0 0]) (t := 26) ?_; intro gb1234 hg w32 hbox hb; replace HO1231 := am (Kd.R_below (qR HO1231.out) hb); have n1_ := am (IsS67.below qI67 hb); have n2_ := am (blk_below (g := gb1228) (o := .cells #[.slice none 0 0] 26 (0, 0)) (qb BK1228.out) hb); have n3_ := am (KeepBut.trans qK (KeepBut.of_below hb g none) (.inl rfl)); have n4_ := am (below_step qB hb); have BK1234 := am (hbox); have GW1234 := am ((by rw [hg]; exact (keep_size (w := w) (g := g) (row := none) qK) : w.heap.size ≤ gb1234)); have GE1234 := am ((Nat.le_trans HW0.out (by rw [hg]; exact (keep_size (w := w) (g := g) (row := none) qK) : w.heap.size ≤ gb1234) : w.heap.size ≤ gb1234)); have NB1228_1234 := am ((by rw [hg]; exact Nat.ne_of_lt (blk_lt (g := gb1228) (o := .cells #[.slice none 0 0] 26 (0, 0)) (qb BK1228.out)) : gb1228 ≠ gb1234)); have NB1234_1228 := am ((by rw [hg]; exact Nat.ne_of_gt (blk_lt (g := gb1228) (o := .cells #[.slice none 0 0] 26 (0, 0)) (qb BK1228.out)) : gb1234 ≠ gb1228)); have NB0_1234 := am ((by rw [hg]; exact Nat.ne_of_lt (IsS67.lt (show IsS67 w _ g l0 t1232 t1233 from qI67)) : g ≠ gb1234)); have NB1234_0 := am ((by rw [hg]; exact Nat.ne_of_gt (IsS67.lt (show IsS67 w _ g l0 t1232 t1233 from qI67)) : gb1234 ≠ g)); clear HI0 BK1228 HK HB; have HI0 := n1_; have BK1228 := n2_; have HK := n3_; have HB := n4_; clear n1_ n2_ n3_ n4_; clear hb hbox hg; obtain ⟨Ao33, co33, eo33⟩ := Kd.R_slice HO1231.out; subst eo33; have hnb34 := NB1234_1228.out; have hnc34 := NB1228_1234.out; have hnb35 := NB1234_0.out; have hnc35 := NB0_1234.out; have hcz36_0 := qz w32 BK1234.out; have hfz36_0 := blk_frozen BK1234.out 0) | ((with_reducible refine gate_callee (f := 82) rfl ?_); refine gL (some 13) Try.func82 #[.agg #[.slice Ao33 t1229.length co33]] ?_; (with_reducible refine (spec_poGood.calls k _ _ t1229 true _ ?side1 ?side2 A3.out).mono ?_); (case side1 => refine (Kd.R_reads' (e := 3) (base := w.heap.size) (ok := fun k_ => True) (n := t1229.length) (c := co33) ?_).2.2; exact (qR ((Kd.R_mono (Kd.R_far (p := ⟨gb1234, 0, none⟩) (Kd.R_types HO1231.out BK1234.out (by decide)) (fun _ hk => hk.2) (.slice Ao33 t1229.length co33)) (fun _ h_ => h_.1))))); (case side2 => exact (Kd.R_reads' HO1231.out).2.1); rintro e w37 ⟨rfl, hb⟩; refine ⟨_, rfl, ?_⟩; replace HO1231 := am (Kd.R_below (qR ((Kd.R_mono (Kd.R_far (p := ⟨gb1234, 0, none⟩) (Kd.R_types HO1231.out BK1234.out (by decide)) (fun _ hk => hk.2) (.slice Ao33 t1229.length co33)) (fun _ h_ => h_.1)))) hb); have n1_ := am (IsS67.below (show IsS67 w (w32.setCell ⟨gb1234, 0, none⟩ (.slice Ao33 t1229.length co33)) g l0 t1232 t1233 from qI67) hb); replace BK1228 := am (blk_below (g := gb1228) (o := .cells #[.slice none 0 0] 26 (0, 0)) (by (with_reducible repeat (first | refine blk_drewN ?_ _ | refine blk_drew ?_ | refine blk_alloc ?_ _)); refine blk_far ?_ NB1228_1234.out _; refine qb ?_; exact BK1228.out) hb); replace BK1234 := am (blk_below (g := gb1234) (o := .cells #[.slice Ao33 t1229.length co33] 26 (0, 0)) (by (with_reducible repeat (first | refine blk_drewN ?_ _ | refine blk_drew ?_ | refine blk_alloc ?_ _)); refine blk_put (cs := #[.slice none 0 0]) ?_ 0 _ rfl; refine qb ?_; exact BK1234.out) hb); have n4_ := am (KeepBut.trans qK (KeepBut.of_below hb g none) (.inl rfl)); replace HB := am (below_step qB hb); clear HI0 HK; have HI0 := n1_; have HK := n4_; clear n1_ n4_; (try clear hb); (try clear hb2); (try clear hk); (try clear hi); have hcz38_0 := qz w37 BK1234.out; have hfz38_0 := blk_frozen BK1234.out 0) | ((with_reducible refine gate_callee (f := 111) rfl ?_); refine gL (some 17) Try.func111 #[.agg #[.slice Ao33 t1229.length co33]] ?_; (with_reducible refine (spec_liCounts.calls k _ _ t1229 t1236 _ ?side1 ?side2 A5.out).mono ?_); (case side1 => exact qC (Kd.R_reads' HO1231.out).2.2); (case side2 => exact (Kd.R_reads' HO1231.out).2.1); rintro e w39 ⟨v1237, rfl, ho0, hb⟩; refine ⟨_, rfl, ?_⟩; have n0_ := am (Kd.R_elder' (qR HO1231.out) (Kd.R_base ho0) hb); have HO1238 := am (Kd.R_lower (Kd.R_new' ho0 (Kd.R_lt (qR HO1231.out))) (keep_size (w := w) (g := g) (row := none) qK)); have n2_ := am (IsS67.below qI67 hb); replace BK1228 := am (blk_below (g := gb1228) (o := .cells #[.slice none 0 0] 26 (0, 0)) (qb BK1228.out) hb); replace BK1234 := am (blk_below (g := gb1234) (o := .cells #[.slice Ao33 t1229.length co33] 26 (0, 0)) (qb BK1234.out) hb); have n5_ := am (KeepBut.trans qK (KeepBut.of_below hb g none) (.inl rfl)); replace HB := am (below_step qB hb); clear HO1231 HI0 HK; have HO1231 := n0_; have HI0 := n2_; have HK := n5_; clear n0_ n2_ n5_; (try clear hb); (try clear hb2); (try clear hk); (try clear hi); (try clear ho0); obtain ⟨Ao40, co40, eo40⟩ := Kd.R_slice HO1238.out; subst eo40; have p1239 : 0 ≤ (0 : Int) := (by omega); have q1239 : 0 < (t1236.length : Int) := qd; obtain ⟨ad1239, e1239, hx1239_0⟩ := Kd.at_int (Kd.R_reads' HO1238.out).2.2 0 p1239 q1239; cases e1239; have qi1239 : (0 < t1236.length) = True := eq_true (by omega); (try rw [show ((0 : Int)).toNat = 0 from rfl] at hx1239_0); (try rw [Addr.add_zero'] at hx1239_0); replace p1239 := eq_true p1239; replace q1239 := eq_true q1239) | ((with_reducible refine gate_callee (f := 66) rfl ?_); refine gL (some 21) Try.func66 #[.pointer (some ⟨g, 0, none⟩), .int .i64 5] ?_; (with_reducible refine (spec_l1Cur_one.calls g l0 t1232 t1233 5 false t1241 t1242 w _ ?side1 ?side2 A7.out).mono ?_); (case side1 => exact qI67); (case side2 => exact qB); rintro e w41 ⟨rfl, hi, hb, hk⟩; refine ⟨_, rfl, ?_⟩; replace BK1228 := am (KeepBut.blk hk (g' := gb1228) (o := .cells #[.slice none 0 0] 26 (0, 0)) (qb BK1228.out) NB1228_0.out (by simp)); replace HO1231 := am (Kd.R_mono (Kd.R_keep (IsS67.apart (show IsS67 w _ g l0 t1232 t1233 from qI67) (qR HO1231.out) (by decide)) hk (fun _ h => h.2)) (fun _ h => h.1)); replace BK1234 := am (KeepBut.blk hk (g' := gb1234) (o := .cells #[.slice Ao33 t1229.length co33] 26 (0, 0)) (qb BK1234.out) NB1234_0.out (by simp)); replace HO1238 := am (Kd.R_mono (Kd.R_keep (IsS67.apart (show IsS67 w _ g l0 t1232 t1233 from qI67) (qR HO1238.out) (by decide)) hk (fun _ h => h.2)) (fun _ h => h.1)); have n4_ := am (KeepBut.trans qK hk (.inl rfl)); have n5_ := am (hb); replace HI0 := am (hi); clear HK HB; have HK := n4_; have HB := n5_; clear n4_ n5_; (try clear hb); (try clear hb2); (try clear hk); (try clear hi)))
   have n0_ := am (Kd.R_drew HO1231.out)
   have n1_ := am (Kd.R_drew HO1238.out)
   have n2_ := am (blk_drew BK1228.out)
   have n3_ := am (blk_drew BK1234.out)
   have n4_ := am (IsS67.drew HI0.out)
   have n5_ := am (keep_drew HK.out)
   have n6_ := am (below_drew1 HB.out)
   clear HO1231
   clear HO1238
   clear BK1228
   clear BK1234
   clear HI0
   clear HK
   clear HB
   have HO1231 := n0_
   have HO1238 := n1_
   have BK1228 := n2_
   have BK1234 := n3_
   have HI0 := n4_
   have HK := n5_
   have HB := n6_
   clear n0_ n1_ n2_ n3_ n4_ n5_ n6_
   refine start_ (n := 7) (S := fun w' => w'.cell? ⟨gb1234, 0, none⟩ = some (.slice Ao33 t1229.length co33)) (ds := []) #[false, false, false, false, false, false, false] (by kernel_rfl) rfl rfl ((blk_cell BK1234.out 0).trans rfl) (fun hHeld => ?_)
   generalize w41.drew = w42 at HO1231 HO1238 BK1228 BK1234 HI0 HK HB hHeld ⊢
   refine pure_ (i := 1) (N := some 30) (v := ?_) (a' := ?_) #[false, true, false, false, false, false, false] rfl rfl (by kernel_rfl) (fun _ _ _ h => h) (Or.inl ⟨by rfl, ?_⟩) ?_ ?_
   rotate_left
   ·intro w'
    go_simp
    with_reducible rfl
   rotate_left
   ·exact qP
   refine pure_ (i := 2) (N := some 31) (v := ?_) (a' := ?_) #[false, true, true, false, false, false, false] rfl rfl (by kernel_rfl) (fun _ _ _ h => h) (Or.inl ⟨by rfl, ?_⟩) ?_ ?_
   rotate_left
   ·intro w'
    go_simp
    with_reducible rfl
   rotate_left
   ·exact qP
   refine take_ (i := 0) (N := some 29) (v := ?_) (a' := ?_) #[true, true, true, false, false, false, false] rfl rfl (by kernel_rfl) (fun _ _ _ h => h) (Or.inl ⟨by rfl, ?_⟩) hHeld ?_ ?_
   rotate_left
   ·intro w' s0
    go_simp
    with_reducible rfl
   rotate_left
   ·exact qP
   refine one_ (i := 3) (N := some 32) #[true, true, true, true, false, false, false] rfl rfl (by kernel_rfl) (by decide) (fun K hK => ?_)
   refine goes_ Try.func112 (by kernel_rfl) rfl #[.int .i64 (rd t1236 0), .int .i64 60000] (by rfl) rfl rfl qA ?_
   with_reducible refine (spec_l1Least.calls (rd t1236 0) 60000 t1249 _ A28.out).mono ?_
   rintro e w' ⟨rfl, ⟨nd, rfl⟩⟩
   refine ⟨_, rfl, ?_⟩
   refine hK.out _ _ ((blk_cell BK1234.out 0).trans rfl) (fun hHeld => ?_)
   clear hK K
   refine norm_ (a' := ?_) ?_ ?_
   rotate_left
   ·show Act.put _ (some 32) _ = _
    simp only [Act.put, List.setIfInBounds_toArray, List.set_cons_zero, List.set_cons_succ, i64_w, i32_w]
    rfl
   refine one_ (i := 4) (N := some 33) #[true, true, true, true, true, false, false] rfl rfl (by kernel_rfl) (by decide) (fun K hK => ?_)
   refine goes_ Try.func68 (by kernel_rfl) rfl #[.pointer (some ⟨g, 0, none⟩), .int .i64 t1249] (by rfl) rfl rfl qA ?_
   with_reducible refine (spec_l1Cur_pick.calls g l0 t1241 t1242 t1249 t1250 t1251 t1252 w _ ?side1 ?side2 A29.out).mono ?_
   (case side1 => exact qI67)
   (case side2 => exact qB)
   rintro e w43 ⟨rfl, hi, hb, hk⟩
   refine ⟨_, rfl, ?_⟩
   have n0_ := am (KeepBut.blk hk (g' := gb1228) (o := .cells #[.slice none 0 0] 26 (0, 0)) (qb BK1228.out) NB1228_0.out (by simp))
   have n1_ := am (Kd.R_mono (Kd.R_keep (IsS67.apart (show IsS67 w _ g l0 t1241 t1242 from qI67) (qR HO1231.out) (by decide)) hk (fun _ h => h.2)) (fun _ h => h.1))
   have n2_ := am (KeepBut.blk hk (g' := gb1234) (o := .cells #[.slice Ao33 t1229.length co33] 26 (0, 0)) (qb BK1234.out) NB1234_0.out (by simp))
   have n3_ := am (Kd.R_mono (Kd.R_keep (IsS67.apart (show IsS67 w _ g l0 t1241 t1242 from qI67) (qR HO1238.out) (by decide)) hk (fun _ h => h.2)) (fun _ h => h.1))
   have n4_ := am (KeepBut.trans qK hk (.inl rfl))
   have n5_ := am (hb)
   have n6_ := am (hi)
   clear BK1228
   clear HO1231
   clear BK1234
   clear HO1238
   clear HK
   clear HB
   clear HI0
   have BK1228 := n0_
   have HO1231 := n1_
   have BK1234 := n2_
   have HO1238 := n3_
   have HK := n4_
   have HB := n5_
   have HI0 := n6_
   clear n0_ n1_ n2_ n3_ n4_ n5_ n6_
   (try clear hb)
   (try clear hb2)
   (try clear hk)
   (try clear hi)
   refine hK.out _ _ ((blk_cell BK1234.out 0).trans rfl) (fun hHeld => ?_)
   clear hK K
   refine norm_ (a' := ?_) ?_ ?_
   rotate_left
   ·show Act.put _ (some 33) _ = _
    simp only [Act.put, List.setIfInBounds_toArray, List.set_cons_zero, List.set_cons_succ, i64_w, i32_w]
    rfl
   refine one_ (i := 5) (N := none) #[true, true, true, true, true, true, false] rfl rfl (by kernel_rfl) (by decide) (fun K hK => ?_)
   have hs44 : w43.cell? ⟨gb1228, 0, none⟩ = some (.slice none 0 0) := (blk_cell BK1228.out 0).trans rfl
   have hfs44 := blk_frozen BK1228.out 0
   have hns44_1 := NB1234_1228.out
   have hms44_1 := NB1228_1234.out
   refine skip_ (w1 := ?_) (by rfl) rfl ?_ ?_
   rotate_left
   ·go_simp
    rfl
   refine hK.out _ _ (((cell_far (p := ⟨gb1228, _, none⟩) NB1234_1228.out _).trans (hHeld))) (fun hHeld => ?_)
   clear hK K
   refine pure_ (i := 6) (N := some 3) (v := ?_) (a' := ?_) #[true, true, true, true, true, true, true] rfl rfl (by kernel_rfl) (fun _ _ _ h => h) (Or.inl ⟨by rfl, ?_⟩) ?_ ?_
   rotate_left
   ·intro w'
    go_simp
    with_reducible rfl
   rotate_left
   ·exact qP
   refine done_ (by kernel_rfl) ?_
   try go_wp2
   refine bodyPost_ret (results_ct rfl _ _ gb1228 26 #[.slice Ao33 t1229.length co33] (0, 0) _ rfl (by (with_reducible repeat (first | refine blk_drewN ?_ _ | refine blk_drew ?_ | refine blk_alloc ?_ _)); refine blk_put (cs := #[.slice none 0 0]) ?_ 0 _ rfl; refine qb ?_; exact BK1228.out) Try.underlying26 rfl (by kernel_rfl)) rfl ?_
   exact ⟨_, qr, qR (Kd.R_mono (Kd.R_far (p := ⟨gb1228, 0, none⟩) (Kd.R_types HO1231.out BK1228.out (by decide)) (fun _ hk => hk.2) (.slice Ao33 t1229.length co33)) (fun _ hk => trivial)), qB⟩
 ·replace c4 := Bool.eq_false_iff.mpr c4
  subst c4
  have H1 : (some (t1229, 0, t1232, t1233)) = some (r1, r2, r3, r4) := by rw [if_neg (show ¬ (false = true) by decide)] at H; exact H
  clear H
  have H := H1
  clear H1
  simp only [Option.some.injEq, Prod.mk.injEq] at H
  obtain ⟨rfl, rfl, rfl, rfl⟩ := H
  go_enter Try.func52, Try.ntmps52
  go_wp2_with (first | ((with_reducible refine gate_dst (N := 2) rfl ?_); refine qx (N := 2) (cs := #[.slice none 0 0]) (t := 26) ?_; intro gb1228 hg wA hbox hb; have BKa := am hbox; have GE1228 : Aside0 (w.heap.size ≤ gb1228) := ⟨by rw [hg]; exact Nat.le_refl _⟩; have HBa := am hb; have HLa : Aside0 (gb1228 < wA.heap.size) := ⟨blk_lt hbox⟩; clear hbox hb hg) | ((with_reducible refine gate_dst (N := 9) rfl ?_); refine qx (N := 9) (cs := #[.slice A0 l0.length c0, .int .i64 0, .int .u64 0]) (t := 67) ?_; intro g hg w1_ hbox hb; have HBb := am (HBa.out.trans (hb.mono HBa.out.size)); have hge : w.heap.size ≤ g := (by rw [hg]; exact HBa.out.size); have HI0 : Aside0 (IsS67 w w1_ g l0 0 0) := ⟨A0, c0, hbox, hge, HR0.out⟩; have BK1228 := am (blk_below BKa.out hb); have NB1228_0 : Aside0 (gb1228 ≠ g) := ⟨by rw [hg]; exact Nat.ne_of_lt HLa.out⟩; have NB0_1228 : Aside0 (g ≠ gb1228) := ⟨fun e => NB1228_0.out e.symm⟩; have GW1228 := GE1228; have HK := am (KeepBut.of_below HBb.out g none); have HB := HBb; clear hbox hb hge hg BKa HBa HLa HBb) | ((with_reducible refine gate_callee (f := 64) rfl ?_); refine gL (some 11) Try.func64 #[.pointer (some ⟨g, 0, none⟩), .int .i64 8] ?_; (with_reducible refine (spec_l1Cur_poset.calls k g l0 0 0 8 t1229 t1232 t1233 w _ ?side1 ?side2 A2.out).mono ?_); (case side1 => exact qI67); (case side2 => exact qB); rintro e w46 ⟨v1230, rfl, ho0, hi, hb, hk⟩; refine ⟨_, rfl, ?_⟩; replace BK1228 := am (KeepBut.blk hk (g' := gb1228) (o := .cells #[.slice none 0 0] 26 (0, 0)) (qb BK1228.out) NB1228_0.out (by simp)); have HO1231 := am (Kd.R_lower ho0 (keep_size (w := w) (g := g) (row := none) qK)); have n2_ := am (KeepBut.trans qK hk (.inl rfl)); have n3_ := am (hb); replace HI0 := am (hi); clear HK HB; have HK := n2_; have HB := n3_; clear n2_ n3_; (try clear hb); (try clear hb2); (try clear hk); (try clear hi); (try clear ho0)) | ((with_reducible refine gate_dst (N := 5) rfl ?_); refine qx (N := 5) (cs := #[.slice none 0 0]) (t := 26) ?_; intro gb1234 hg w47 hbox hb; replace HO1231 := am (Kd.R_below (qR HO1231.out) hb); have n1_ := am (IsS67.below qI67 hb); have n2_ := am (blk_below (g := gb1228) (o := .cells #[.slice none 0 0] 26 (0, 0)) (qb BK1228.out) hb); have n3_ := am (KeepBut.trans qK (KeepBut.of_below hb g none) (.inl rfl)); have n4_ := am (below_step qB hb); have BK1234 := am (hbox); have GW1234 := am ((by rw [hg]; exact (keep_size (w := w) (g := g) (row := none) qK) : w.heap.size ≤ gb1234)); have GE1234 := am ((Nat.le_trans HW0.out (by rw [hg]; exact (keep_size (w := w) (g := g) (row := none) qK) : w.heap.size ≤ gb1234) : w.heap.size ≤ gb1234)); have NB1228_1234 := am ((by rw [hg]; exact Nat.ne_of_lt (blk_lt (g := gb1228) (o := .cells #[.slice none 0 0] 26 (0, 0)) (qb BK1228.out)) : gb1228 ≠ gb1234)); have NB1234_1228 := am ((by rw [hg]; exact Nat.ne_of_gt (blk_lt (g := gb1228) (o := .cells #[.slice none 0 0] 26 (0, 0)) (qb BK1228.out)) : gb1234 ≠ gb1228)); have NB0_1234 := am ((by rw [hg]; exact Nat.ne_of_lt (IsS67.lt (show IsS67 w _ g l0 t1232 t1233 from qI67)) : g ≠ gb1234)); have NB1234_0 := am ((by rw [hg]; exact Nat.ne_of_gt (IsS67.lt (show IsS67 w _ g l0 t1232 t1233 from qI67)) : gb1234 ≠ g)); clear HI0 BK1228 HK HB; have HI0 := n1_; have BK1228 := n2_; have HK := n3_; have HB := n4_; clear n1_ n2_ n3_ n4_; clear hb hbox hg; obtain ⟨Ao48, co48, eo48⟩ := Kd.R_slice HO1231.out; subst eo48; have hnb49 := NB1234_1228.out; have hnc49 := NB1228_1234.out; have hnb50 := NB1234_0.out; have hnc50 := NB0_1234.out; have hcz51_0 := qz w47 BK1234.out; have hfz51_0 := blk_frozen BK1234.out 0) | ((with_reducible refine gate_callee (f := 82) rfl ?_); refine gL (some 13) Try.func82 #[.agg #[.slice Ao48 t1229.length co48]] ?_; (with_reducible refine (spec_poGood.calls k _ _ t1229 false _ ?side1 ?side2 A3.out).mono ?_); (case side1 => refine (Kd.R_reads' (e := 3) (base := w.heap.size) (ok := fun k_ => True) (n := t1229.length) (c := co48) ?_).2.2; exact (qR ((Kd.R_mono (Kd.R_far (p := ⟨gb1234, 0, none⟩) (Kd.R_types HO1231.out BK1234.out (by decide)) (fun _ hk => hk.2) (.slice Ao48 t1229.length co48)) (fun _ h_ => h_.1))))); (case side2 => exact (Kd.R_reads' HO1231.out).2.1); rintro e w52 ⟨rfl, hb⟩; refine ⟨_, rfl, ?_⟩; replace HO1231 := am (Kd.R_below (qR ((Kd.R_mono (Kd.R_far (p := ⟨gb1234, 0, none⟩) (Kd.R_types HO1231.out BK1234.out (by decide)) (fun _ hk => hk.2) (.slice Ao48 t1229.length co48)) (fun _ h_ => h_.1)))) hb); have n1_ := am (IsS67.below (show IsS67 w (w47.setCell ⟨gb1234, 0, none⟩ (.slice Ao48 t1229.length co48)) g l0 t1232 t1233 from qI67) hb); replace BK1228 := am (blk_below (g := gb1228) (o := .cells #[.slice none 0 0] 26 (0, 0)) (by (with_reducible repeat (first | refine blk_drewN ?_ _ | refine blk_drew ?_ | refine blk_alloc ?_ _)); refine blk_far ?_ NB1228_1234.out _; refine qb ?_; exact BK1228.out) hb); replace BK1234 := am (blk_below (g := gb1234) (o := .cells #[.slice Ao48 t1229.length co48] 26 (0, 0)) (by (with_reducible repeat (first | refine blk_drewN ?_ _ | refine blk_drew ?_ | refine blk_alloc ?_ _)); refine blk_put (cs := #[.slice none 0 0]) ?_ 0 _ rfl; refine qb ?_; exact BK1234.out) hb); have n4_ := am (KeepBut.trans qK (KeepBut.of_below hb g none) (.inl rfl)); replace HB := am (below_step qB hb); clear HI0 HK; have HI0 := n1_; have HK := n4_; clear n1_ n4_; (try clear hb); (try clear hb2); (try clear hk); (try clear hi); have hcz53_0 := qz w52 BK1234.out; have hfz53_0 := blk_frozen BK1234.out 0; have hnb54 := NB1228_0.out; have hnc54 := NB0_1228.out; have hcz55_0 := qz w52 BK1228.out; have hfz55_0 := blk_frozen BK1228.out 0))
  refine bodyPost_ret (results_ct rfl _ _ gb1228 26 #[.slice Ao48 t1229.length co48] (0, 0) _ rfl (by (with_reducible repeat (first | refine blk_drewN ?_ _ | refine blk_drew ?_ | refine blk_alloc ?_ _)); refine blk_put (cs := #[.slice none 0 0]) ?_ 0 _ rfl; refine qb ?_; exact BK1228.out) Try.underlying26 rfl (by kernel_rfl)) rfl ?_
  exact ⟨_, qr, qR (Kd.R_mono (Kd.R_far (p := ⟨gb1228, 0, none⟩) (Kd.R_types HO1231.out BK1228.out (by decide)) (fun _ hk => hk.2) (.slice Ao48 t1229.length co48)) (fun _ hk => trivial)), qB⟩
mutual
def laws_FnLinearRanked.j0 : Nat → List Int → Int → List Int → Bool → Bool → List Int → Option (Bool)
 | 0, _, _, _, _, _, _ => none
 | k + 1, x1, x6, x7, x10, x60, x1147000 => if x60 = true then (some false) else ((spec_DrawAllLinear.f k x1).bind fun t1156 => ((impl_AllLinear.f k t1156).bind fun bt1160 => ((spec_AllLinear.f k t1156).bind fun bt1164 => ((impl_CountLinear.f k t1156).bind fun bt1168 => ((spec_CountLinear.f k t1156).bind fun bt1170 => (if (bt1160.2 != bt1164.2) = true then (laws_FnLinearRanked.j1 k x1 x6 x7 x10 bt1160.1 true x1147000 t1156) else ((laws_oSameRows.f k bt1160.1 bt1164.1).bind fun t1172 => (if t1172 = true then (if (bt1168.2 != bt1170.2) = true then (laws_FnLinearRanked.j1 k x1 x6 x7 x10 bt1160.1 true x1147000 t1156) else (if bt1168.1 = bt1170.1 then (if bt1168.2 = true then (if (bt1160.2 != (decide (bt1168.1 ≤ 500))) = true then (laws_FnLinearRanked.j1 k x1 x6 x7 x10 bt1160.1 true x1147000 t1156) else (if bt1160.2 = true then (laws_FnLinearRanked.j1 k x1 x6 x7 x10 bt1160.1 ((bt1160.1.length : Int) != bt1168.1) x1147000 t1156) else (laws_FnLinearRanked.j1 k x1 x6 x7 x10 bt1160.1 false x1147000 t1156))) else (if (bt1160.2 != false) = true then (laws_FnLinearRanked.j1 k x1 x6 x7 x10 bt1160.1 true x1147000 t1156) else (if bt1160.2 = true then (laws_FnLinearRanked.j1 k x1 x6 x7 x10 bt1160.1 ((bt1160.1.length : Int) != bt1168.1) x1147000 t1156) else (laws_FnLinearRanked.j1 k x1 x6 x7 x10 bt1160.1 false x1147000 t1156)))) else (laws_FnLinearRanked.j1 k x1 x6 x7 x10 bt1160.1 true x1147000 t1156))) else (laws_FnLinearRanked.j1 k x1 x6 x7 x10 bt1160.1 true x1147000 t1156)))))))))
def laws_FnLinearRanked.j1 : Nat → List Int → Int → List Int → Bool → List (List Int) → Bool → List Int → List Int → Option (Bool)
 | 0, _, _, _, _, _, _, _, _ => none
 | k + 1, x1, x6, x7, x10, x12, x119, x1147000, x1160000 => if x119 = true then (some false) else (laws_FnLinearRanked.l0 k x1 x6 x7 x10 x12 x12 (x12.length : Int) 0 x1147000 x1160000)
def laws_FnLinearRanked.l0 : Nat → List Int → Int → List Int → Bool → List (List Int) → List (List Int) → Int → Int → List Int → List Int → Option (Bool)
 | 0, _, _, _, _, _, _, _, _, _, _ => none
 | k + 1, x1, x6, x7, x10, x12, x120, x121, x122, x1147000, x1160000 => if x122 < x121 then (if 0 ≤ x122 then (if x122 < (x120.length : Int) then ((laws_oLinear.f k x1160000 (rd_L1 x120 x122)).bind fun t1174 => (if t1174 = true then (if x122 > 0 then (if 0 ≤ (wrap64 (x122 - 1)) then (if (wrap64 (x122 - 1)) < (x12.length : Int) then ((laws_oLess.f k (rd_L1 x12 (wrap64 (x122 - 1))) (rd_L1 x120 x122)).bind fun t1176 => (if t1176 = true then (laws_FnLinearRanked.l0 k x1 x6 x7 x10 x12 x120 x121 (wrap64 (x122 + 1)) x1147000 x1160000) else (some false))) else (none)) else (none)) else (laws_FnLinearRanked.l0 k x1 x6 x7 x10 x12 x120 x121 (wrap64 (x122 + 1)) x1147000 x1160000)) else (some false))) else (none)) else (none)) else ((spec_DrawRankLinear.f k x1).bind fun bt1177 => ((impl_RankLinear.f k bt1177.1 bt1177.2).bind fun bt1184 => ((spec_RankLinear.f k bt1177.1 bt1177.2).bind fun bt1186 => (if (bt1184.2 != bt1186.2) = true then (laws_FnLinearRanked.j3 k x6 x7 x10 bt1177.2 bt1184.1 bt1184.2 true x1147000 bt1177.1) else (if bt1184.1 = bt1186.1 then ((laws_oLinear.f k bt1177.1 bt1177.2).bind fun t1188 => (laws_FnLinearRanked.j3 k x6 x7 x10 bt1177.2 bt1184.1 bt1184.2 (bt1184.2 != t1188) x1147000 bt1177.1)) else (laws_FnLinearRanked.j3 k x6 x7 x10 bt1177.2 bt1184.1 bt1184.2 true x1147000 bt1177.1))))))
def laws_FnLinearRanked.j3 : Nat → Int → List Int → Bool → List Int → Int → Bool → Bool → List Int → List Int → Option (Bool)
 | 0, _, _, _, _, _, _, _, _, _ => none
 | k + 1, x6, x7, x10, x23, x24, x25, x177, x1147000, x1184000 => if x177 = true then (some false) else (if x25 = true then ((impl_LinearWith.f k x1184000 x24).bind fun bt1189 => (if bt1189.2 = true then ((laws_oSame.f k bt1189.1 x23).bind fun t1193 => (if t1193 = true then (laws_FnLinearRanked.j4 k x6 x7 x10 x1147000) else (some false))) else (some false))) else (laws_FnLinearRanked.j4 k x6 x7 x10 x1147000))
def laws_FnLinearRanked.j4 : Nat → Int → List Int → Bool → List Int → Option (Bool)
 | 0, _, _, _, _ => none
 | k + 1, x6, x7, x10, x1147000 => if x10 = true then ((impl_RankLinear.f k x1147000 x7).bind fun bt1194 => (if bt1194.2 = true then (if bt1194.1 = x6 then ((laws_oLinear.f k x1147000 x7).bind fun t1196 => (some t1196)) else (some false)) else (some false))) else (some true)
end
def laws_FnLinearRanked.f (k : Nat) (l0 : List Int) (l1 : List Int) : Option (Bool) := (laws_big.f l0 l1).bind fun t1141 => (if t1141 = true then (some true) else ((spec_DrawLinearWith.f k l0).bind fun bt1142 => ((impl_LinearWith.f k bt1142.1 bt1142.2).bind fun bt1147 => ((spec_LinearWith.f k bt1142.1 bt1142.2).bind fun bt1151 => (if (bt1147.2 != bt1151.2) = true then (laws_FnLinearRanked.j0 k l1 bt1142.2 bt1147.1 bt1151.2 true bt1142.1) else ((laws_oSame.f k bt1147.1 bt1151.1).bind fun t1155 => (laws_FnLinearRanked.j0 k l1 bt1142.2 bt1147.1 bt1151.2 (!t1155) bt1142.1)))))))
theorem laws_FnLinearRanked.mono_l : ∀ k, (∀ y0 y1 y2 y3 y4 y5, LeO (laws_FnLinearRanked.j0 k y0 y1 y2 y3 y4 y5) (laws_FnLinearRanked.j0 (k + 1) y0 y1 y2 y3 y4 y5)) ∧ (∀ y0 y1 y2 y3 y4 y5 y6 y7, LeO (laws_FnLinearRanked.j1 k y0 y1 y2 y3 y4 y5 y6 y7) (laws_FnLinearRanked.j1 (k + 1) y0 y1 y2 y3 y4 y5 y6 y7)) ∧ (∀ y0 y1 y2 y3 y4 y5 y6 y7 y8 y9, LeO (laws_FnLinearRanked.l0 k y0 y1 y2 y3 y4 y5 y6 y7 y8 y9) (laws_FnLinearRanked.l0 (k + 1) y0 y1 y2 y3 y4 y5 y6 y7 y8 y9)) ∧ (∀ y0 y1 y2 y3 y4 y5 y6 y7 y8, LeO (laws_FnLinearRanked.j3 k y0 y1 y2 y3 y4 y5 y6 y7 y8) (laws_FnLinearRanked.j3 (k + 1) y0 y1 y2 y3 y4 y5 y6 y7 y8)) ∧ (∀ y0 y1 y2 y3, LeO (laws_FnLinearRanked.j4 k y0 y1 y2 y3) (laws_FnLinearRanked.j4 (k + 1) y0 y1 y2 y3))
 | 0 => ⟨fun _ _ _ _ _ _ r h => by simp [laws_FnLinearRanked.j0] at h, fun _ _ _ _ _ _ _ _ r h => by simp [laws_FnLinearRanked.j1] at h, fun _ _ _ _ _ _ _ _ _ _ r h => by simp [laws_FnLinearRanked.l0] at h, fun _ _ _ _ _ _ _ _ _ r h => by simp [laws_FnLinearRanked.j3] at h, fun _ _ _ _ r h => by simp [laws_FnLinearRanked.j4] at h⟩
 | k + 1 => by
  obtain ⟨ih0, ih1, ih2, ih3, ih4⟩ := laws_FnLinearRanked.mono_l k
  refine ⟨?_, ?_, ?_, ?_, ?_⟩
  ·intro y0 y1 y2 y3 y4 y5
   unfold laws_FnLinearRanked.j0
   repeat' first
   | (with_reducible exact impl_AllLinear.mono _ _)
   | (with_reducible exact impl_CountLinear.mono _ _)
   | (with_reducible exact impl_LinearWith.mono _ _ _)
   | (with_reducible exact impl_RankLinear.mono _ _ _)
   | (with_reducible exact laws_oLess.mono _ _ _)
   | (with_reducible exact laws_oLinear.mono _ _ _)
   | (with_reducible exact laws_oSame.mono _ _ _)
   | (with_reducible exact laws_oSameRows.mono _ _ _)
   | (with_reducible exact spec_AllLinear.mono _ _)
   | (with_reducible exact spec_CountLinear.mono _ _)
   | (with_reducible exact spec_DrawAllLinear.mono _ _)
   | (with_reducible exact spec_DrawLinearWith.mono _ _)
   | (with_reducible exact spec_DrawRankLinear.mono _ _)
   | (with_reducible exact spec_LinearWith.mono _ _ _)
   | (with_reducible exact spec_RankLinear.mono _ _ _)
   | (with_reducible exact LeO.refl _)
   | (with_reducible exact LeO.none _)
   | (with_reducible refine LeO.ite ?_ ?_)
   | (with_reducible refine LeO.bind ?_ (fun _ => ?_))
   | exact ih0 _ _ _ _ _ _
   | exact ih1 _ _ _ _ _ _ _ _
   | exact ih2 _ _ _ _ _ _ _ _ _ _
   | exact ih3 _ _ _ _ _ _ _ _ _
   | exact ih4 _ _ _ _
   | exact impl_AllLinear.mono _ _
   | exact impl_CountLinear.mono _ _
   | exact impl_LinearWith.mono _ _ _
   | exact impl_RankLinear.mono _ _ _
   | exact laws_oLess.mono _ _ _
   | exact laws_oLinear.mono _ _ _
   | exact laws_oSame.mono _ _ _
   | exact laws_oSameRows.mono _ _ _
   | exact spec_AllLinear.mono _ _
   | exact spec_CountLinear.mono _ _
   | exact spec_DrawAllLinear.mono _ _
   | exact spec_DrawLinearWith.mono _ _
   | exact spec_DrawRankLinear.mono _ _
   | exact spec_LinearWith.mono _ _ _
   | exact spec_RankLinear.mono _ _ _
   | exact LeO.none _
   | refine LeO.ite ?_ ?_
   | refine LeO.bind ?_ (fun _ => ?_)
  ·intro y0 y1 y2 y3 y4 y5 y6 y7
   unfold laws_FnLinearRanked.j1
   repeat' first
   | (with_reducible exact impl_AllLinear.mono _ _)
   | (with_reducible exact impl_CountLinear.mono _ _)
   | (with_reducible exact impl_LinearWith.mono _ _ _)
   | (with_reducible exact impl_RankLinear.mono _ _ _)
   | (with_reducible exact laws_oLess.mono _ _ _)
   | (with_reducible exact laws_oLinear.mono _ _ _)
   | (with_reducible exact laws_oSame.mono _ _ _)
   | (with_reducible exact laws_oSameRows.mono _ _ _)
   | (with_reducible exact spec_AllLinear.mono _ _)
   | (with_reducible exact spec_CountLinear.mono _ _)
   | (with_reducible exact spec_DrawAllLinear.mono _ _)
   | (with_reducible exact spec_DrawLinearWith.mono _ _)
   | (with_reducible exact spec_DrawRankLinear.mono _ _)
   | (with_reducible exact spec_LinearWith.mono _ _ _)
   | (with_reducible exact spec_RankLinear.mono _ _ _)
   | (with_reducible exact LeO.refl _)
   | (with_reducible exact LeO.none _)
   | (with_reducible refine LeO.ite ?_ ?_)
   | (with_reducible refine LeO.bind ?_ (fun _ => ?_))
   | exact ih0 _ _ _ _ _ _
   | exact ih1 _ _ _ _ _ _ _ _
   | exact ih2 _ _ _ _ _ _ _ _ _ _
   | exact ih3 _ _ _ _ _ _ _ _ _
   | exact ih4 _ _ _ _
   | exact impl_AllLinear.mono _ _
   | exact impl_CountLinear.mono _ _
   | exact impl_LinearWith.mono _ _ _
   | exact impl_RankLinear.mono _ _ _
   | exact laws_oLess.mono _ _ _
   | exact laws_oLinear.mono _ _ _
   | exact laws_oSame.mono _ _ _
   | exact laws_oSameRows.mono _ _ _
   | exact spec_AllLinear.mono _ _
   | exact spec_CountLinear.mono _ _
   | exact spec_DrawAllLinear.mono _ _
   | exact spec_DrawLinearWith.mono _ _
   | exact spec_DrawRankLinear.mono _ _
   | exact spec_LinearWith.mono _ _ _
   | exact spec_RankLinear.mono _ _ _
   | exact LeO.none _
   | refine LeO.ite ?_ ?_
   | refine LeO.bind ?_ (fun _ => ?_)
  ·intro y0 y1 y2 y3 y4 y5 y6 y7 y8 y9
   unfold laws_FnLinearRanked.l0
   repeat' first
   | (with_reducible exact impl_AllLinear.mono _ _)
   | (with_reducible exact impl_CountLinear.mono _ _)
   | (with_reducible exact impl_LinearWith.mono _ _ _)
   | (with_reducible exact impl_RankLinear.mono _ _ _)
   | (with_reducible exact laws_oLess.mono _ _ _)
   | (with_reducible exact laws_oLinear.mono _ _ _)
   | (with_reducible exact laws_oSame.mono _ _ _)
   | (with_reducible exact laws_oSameRows.mono _ _ _)
   | (with_reducible exact spec_AllLinear.mono _ _)
   | (with_reducible exact spec_CountLinear.mono _ _)
   | (with_reducible exact spec_DrawAllLinear.mono _ _)
   | (with_reducible exact spec_DrawLinearWith.mono _ _)
   | (with_reducible exact spec_DrawRankLinear.mono _ _)
   | (with_reducible exact spec_LinearWith.mono _ _ _)
   | (with_reducible exact spec_RankLinear.mono _ _ _)
   | (with_reducible exact LeO.refl _)
   | (with_reducible exact LeO.none _)
   | (with_reducible refine LeO.ite ?_ ?_)
   | (with_reducible refine LeO.bind ?_ (fun _ => ?_))
   | exact ih0 _ _ _ _ _ _
   | exact ih1 _ _ _ _ _ _ _ _
   | exact ih2 _ _ _ _ _ _ _ _ _ _
   | exact ih3 _ _ _ _ _ _ _ _ _
   | exact ih4 _ _ _ _
   | exact impl_AllLinear.mono _ _
   | exact impl_CountLinear.mono _ _
   | exact impl_LinearWith.mono _ _ _
   | exact impl_RankLinear.mono _ _ _
   | exact laws_oLess.mono _ _ _
   | exact laws_oLinear.mono _ _ _
   | exact laws_oSame.mono _ _ _
   | exact laws_oSameRows.mono _ _ _
   | exact spec_AllLinear.mono _ _
   | exact spec_CountLinear.mono _ _
   | exact spec_DrawAllLinear.mono _ _
   | exact spec_DrawLinearWith.mono _ _
   | exact spec_DrawRankLinear.mono _ _
   | exact spec_LinearWith.mono _ _ _
   | exact spec_RankLinear.mono _ _ _
   | exact LeO.none _
   | refine LeO.ite ?_ ?_
   | refine LeO.bind ?_ (fun _ => ?_)
  ·intro y0 y1 y2 y3 y4 y5 y6 y7 y8
   unfold laws_FnLinearRanked.j3
   repeat' first
   | (with_reducible exact impl_AllLinear.mono _ _)
   | (with_reducible exact impl_CountLinear.mono _ _)
   | (with_reducible exact impl_LinearWith.mono _ _ _)
   | (with_reducible exact impl_RankLinear.mono _ _ _)
   | (with_reducible exact laws_oLess.mono _ _ _)
   | (with_reducible exact laws_oLinear.mono _ _ _)
   | (with_reducible exact laws_oSame.mono _ _ _)
   | (with_reducible exact laws_oSameRows.mono _ _ _)
   | (with_reducible exact spec_AllLinear.mono _ _)
   | (with_reducible exact spec_CountLinear.mono _ _)
   | (with_reducible exact spec_DrawAllLinear.mono _ _)
   | (with_reducible exact spec_DrawLinearWith.mono _ _)
   | (with_reducible exact spec_DrawRankLinear.mono _ _)
   | (with_reducible exact spec_LinearWith.mono _ _ _)
   | (with_reducible exact spec_RankLinear.mono _ _ _)
   | (with_reducible exact LeO.refl _)
   | (with_reducible exact LeO.none _)
   | (with_reducible refine LeO.ite ?_ ?_)
   | (with_reducible refine LeO.bind ?_ (fun _ => ?_))
   | exact ih0 _ _ _ _ _ _
   | exact ih1 _ _ _ _ _ _ _ _
   | exact ih2 _ _ _ _ _ _ _ _ _ _
   | exact ih3 _ _ _ _ _ _ _ _ _
   | exact ih4 _ _ _ _
   | exact impl_AllLinear.mono _ _
   | exact impl_CountLinear.mono _ _
   | exact impl_LinearWith.mono _ _ _
   | exact impl_RankLinear.mono _ _ _
   | exact laws_oLess.mono _ _ _
   | exact laws_oLinear.mono _ _ _
   | exact laws_oSame.mono _ _ _
   | exact laws_oSameRows.mono _ _ _
   | exact spec_AllLinear.mono _ _
   | exact spec_CountLinear.mono _ _
   | exact spec_DrawAllLinear.mono _ _
   | exact spec_DrawLinearWith.mono _ _
   | exact spec_DrawRankLinear.mono _ _
   | exact spec_LinearWith.mono _ _ _
   | exact spec_RankLinear.mono _ _ _
   | exact LeO.none _
   | refine LeO.ite ?_ ?_
   | refine LeO.bind ?_ (fun _ => ?_)
  ·intro y0 y1 y2 y3
   unfold laws_FnLinearRanked.j4
   repeat' first
   | (with_reducible exact impl_AllLinear.mono _ _)
   | (with_reducible exact impl_CountLinear.mono _ _)
   | (with_reducible exact impl_LinearWith.mono _ _ _)
   | (with_reducible exact impl_RankLinear.mono _ _ _)
   | (with_reducible exact laws_oLess.mono _ _ _)
   | (with_reducible exact laws_oLinear.mono _ _ _)
   | (with_reducible exact laws_oSame.mono _ _ _)
   | (with_reducible exact laws_oSameRows.mono _ _ _)
   | (with_reducible exact spec_AllLinear.mono _ _)
   | (with_reducible exact spec_CountLinear.mono _ _)
   | (with_reducible exact spec_DrawAllLinear.mono _ _)
   | (with_reducible exact spec_DrawLinearWith.mono _ _)
   | (with_reducible exact spec_DrawRankLinear.mono _ _)
   | (with_reducible exact spec_LinearWith.mono _ _ _)
   | (with_reducible exact spec_RankLinear.mono _ _ _)
   | (with_reducible exact LeO.refl _)
   | (with_reducible exact LeO.none _)
   | (with_reducible refine LeO.ite ?_ ?_)
   | (with_reducible refine LeO.bind ?_ (fun _ => ?_))
   | exact ih0 _ _ _ _ _ _
   | exact ih1 _ _ _ _ _ _ _ _
   | exact ih2 _ _ _ _ _ _ _ _ _ _
   | exact ih3 _ _ _ _ _ _ _ _ _
   | exact ih4 _ _ _ _
   | exact impl_AllLinear.mono _ _
   | exact impl_CountLinear.mono _ _
   | exact impl_LinearWith.mono _ _ _
   | exact impl_RankLinear.mono _ _ _
   | exact laws_oLess.mono _ _ _
   | exact laws_oLinear.mono _ _ _
   | exact laws_oSame.mono _ _ _
   | exact laws_oSameRows.mono _ _ _
   | exact spec_AllLinear.mono _ _
   | exact spec_CountLinear.mono _ _
   | exact spec_DrawAllLinear.mono _ _
   | exact spec_DrawLinearWith.mono _ _
   | exact spec_DrawRankLinear.mono _ _
   | exact spec_LinearWith.mono _ _ _
   | exact spec_RankLinear.mono _ _ _
   | exact LeO.none _
   | refine LeO.ite ?_ ?_
   | refine LeO.bind ?_ (fun _ => ?_)
theorem laws_FnLinearRanked.mono : ∀ a0 a1 k, LeO (laws_FnLinearRanked.f k a0 a1) (laws_FnLinearRanked.f (k + 1) a0 a1) := by
 intro a0 a1 k
 obtain ⟨ih0, ih1, ih2, ih3, ih4⟩ := laws_FnLinearRanked.mono_l k
 unfold laws_FnLinearRanked.f
 repeat' first
  | (with_reducible exact impl_AllLinear.mono _ _)
  | (with_reducible exact impl_CountLinear.mono _ _)
  | (with_reducible exact impl_LinearWith.mono _ _ _)
  | (with_reducible exact impl_RankLinear.mono _ _ _)
  | (with_reducible exact laws_oLess.mono _ _ _)
  | (with_reducible exact laws_oLinear.mono _ _ _)
  | (with_reducible exact laws_oSame.mono _ _ _)
  | (with_reducible exact laws_oSameRows.mono _ _ _)
  | (with_reducible exact spec_AllLinear.mono _ _)
  | (with_reducible exact spec_CountLinear.mono _ _)
  | (with_reducible exact spec_DrawAllLinear.mono _ _)
  | (with_reducible exact spec_DrawLinearWith.mono _ _)
  | (with_reducible exact spec_DrawRankLinear.mono _ _)
  | (with_reducible exact spec_LinearWith.mono _ _ _)
  | (with_reducible exact spec_RankLinear.mono _ _ _)
  | (with_reducible exact LeO.refl _)
  | (with_reducible exact LeO.none _)
  | (with_reducible refine LeO.ite ?_ ?_)
  | (with_reducible refine LeO.bind ?_ (fun _ => ?_))
  | exact ih0 _ _ _ _ _ _
  | exact ih1 _ _ _ _ _ _ _ _
  | exact ih2 _ _ _ _ _ _ _ _ _ _
  | exact ih3 _ _ _ _ _ _ _ _ _
  | exact ih4 _ _ _ _
  | exact impl_AllLinear.mono _ _
  | exact impl_CountLinear.mono _ _
  | exact impl_LinearWith.mono _ _ _
  | exact impl_RankLinear.mono _ _ _
  | exact laws_oLess.mono _ _ _
  | exact laws_oLinear.mono _ _ _
  | exact laws_oSame.mono _ _ _
  | exact laws_oSameRows.mono _ _ _
  | exact spec_AllLinear.mono _ _
  | exact spec_CountLinear.mono _ _
  | exact spec_DrawAllLinear.mono _ _
  | exact spec_DrawLinearWith.mono _ _
  | exact spec_DrawRankLinear.mono _ _
  | exact spec_LinearWith.mono _ _ _
  | exact spec_RankLinear.mono _ _ _
  | exact LeO.none _
  | refine LeO.ite ?_ ?_
  | refine LeO.bind ?_ (fun _ => ?_)
set_option maxHeartbeats 8000000 in
set_option maxRecDepth 100000 in
theorem laws_FnLinearRanked.calls (k : Nat) (A0 : Option Addr) (c0 : Nat) (l0 : List Int) (A1 : Option Addr) (c1 : Nat) (l1 : List Int) (r : Bool) (w : World) (hr0 : Kd.C (Kd.int .u8) w A0 l0.length l0) (hc0 : l0.length ≤ c0) (hr1 : Kd.C (Kd.int .u8) w A1 l1.length l1) (hc1 : l1.length ≤ c1) (h : laws_FnLinearRanked.f k l0 l1 = some r) :
 Calls Try.prog 6 #[.slice A0 l0.length c0, .slice A1 l1.length c1] w fun e w' => e = .returned (.bool r) ∧ Below w.heap.size w w' := by
 have hu26 := Try.underlying26
 have HR0 := am hr0
 have HC0 := am hc0
 clear hr0 hc0
 have HR1 := am hr1
 have HC1 := am hc1
 clear hr1 hc1
 have HB := am (Below.refl w.heap.size w)
 have H : ((laws_big.f l0 l1).bind fun t1141 => (if t1141 = true then (some true) else ((spec_DrawLinearWith.f k l0).bind fun bt1142 => ((impl_LinearWith.f k bt1142.1 bt1142.2).bind fun bt1147 => ((spec_LinearWith.f k bt1142.1 bt1142.2).bind fun bt1151 => (if (bt1147.2 != bt1151.2) = true then (laws_FnLinearRanked.j0 k l1 bt1142.2 bt1147.1 bt1151.2 true bt1142.1) else ((laws_oSame.f k bt1147.1 bt1151.1).bind fun t1155 => (laws_FnLinearRanked.j0 k l1 bt1142.2 bt1147.1 bt1151.2 (!t1155) bt1142.1)))))))) = some r := h
 clear h
 replace H := Option.bind_eq_some_iff.mp H
 obtain ⟨t1141, A30, H⟩ := H
 replace H : (if t1141 = true then (some true) else ((spec_DrawLinearWith.f k l0).bind fun bt1142 => ((impl_LinearWith.f k bt1142.1 bt1142.2).bind fun bt1147 => ((spec_LinearWith.f k bt1142.1 bt1142.2).bind fun bt1151 => (if (bt1147.2 != bt1151.2) = true then (laws_FnLinearRanked.j0 k l1 bt1142.2 bt1147.1 bt1151.2 true bt1142.1) else ((laws_oSame.f k bt1147.1 bt1151.1).bind fun t1155 => (laws_FnLinearRanked.j0 k l1 bt1142.2 bt1147.1 bt1151.2 (!t1155) bt1142.1))))))) = some r := H
 have A3 := am A30
 clear A30
 by_cases c4 : t1141 = true
 ·subst c4
  have H1 : (some true) = some r := by rw [if_pos rfl] at H; exact H
  clear H
  have H := H1
  clear H1
  obtain rfl := Option.some.inj H
  go_enter Try.func6, Try.ntmps6
  go_wp2_with (first | ((with_reducible refine gate_callee (f := 7) rfl ?_); refine gL (some 34) Try.func7 #[.slice A0 l0.length c0, .slice A1 l1.length c1] ?_; (with_reducible refine (laws_big.calls _ _ l0 _ _ l1 true _ ?side1 ?side2 ?side3 ?side4 A3.out).mono ?_); (case side1 => exact qC HR0.out); (case side2 => exact HC0.out); (case side3 => exact qC HR1.out); (case side4 => exact HC1.out); rintro e w' ⟨rfl, ⟨nd, rfl⟩⟩; refine ⟨_, rfl, ?_⟩))
  go_ret
  exact ⟨qr, qB⟩
 ·as_aux_lemma =>
    replace c4 := Bool.eq_false_iff.mpr c4
    subst c4
    have H1 : ((spec_DrawLinearWith.f k l0).bind fun bt1142 => ((impl_LinearWith.f k bt1142.1 bt1142.2).bind fun bt1147 => ((spec_LinearWith.f k bt1142.1 bt1142.2).bind fun bt1151 => (if (bt1147.2 != bt1151.2) = true then (laws_FnLinearRanked.j0 k l1 bt1142.2 bt1147.1 bt1151.2 true bt1142.1) else ((laws_oSame.f k bt1147.1 bt1151.1).bind fun t1155 => (laws_FnLinearRanked.j0 k l1 bt1142.2 bt1147.1 bt1151.2 (!t1155) bt1142.1)))))) = some r := by rw [if_neg (show ¬ (false = true) by decide)] at H; exact H
    clear H
    have H := H1
    clear H1
    replace H := Option.bind_eq_some_iff.mp H
    obtain ⟨⟨t1142, t1145⟩, A50, H⟩ := H
    replace H : ((impl_LinearWith.f k t1142 t1145).bind fun bt1147 => ((spec_LinearWith.f k t1142 t1145).bind fun bt1151 => (if (bt1147.2 != bt1151.2) = true then (laws_FnLinearRanked.j0 k l1 t1145 bt1147.1 bt1151.2 true t1142) else ((laws_oSame.f k bt1147.1 bt1151.1).bind fun t1155 => (laws_FnLinearRanked.j0 k l1 t1145 bt1147.1 bt1151.2 (!t1155) t1142))))) = some r := H
    have A5 := am A50
    clear A50
    replace H := Option.bind_eq_some_iff.mp H
    obtain ⟨⟨t1147, t1150⟩, A60, H⟩ := H
    replace H : ((spec_LinearWith.f k t1142 t1145).bind fun bt1151 => (if (t1150 != bt1151.2) = true then (laws_FnLinearRanked.j0 k l1 t1145 t1147 bt1151.2 true t1142) else ((laws_oSame.f k t1147 bt1151.1).bind fun t1155 => (laws_FnLinearRanked.j0 k l1 t1145 t1147 bt1151.2 (!t1155) t1142)))) = some r := H
    have A6 := am A60
    clear A60
    replace H := Option.bind_eq_some_iff.mp H
    obtain ⟨⟨t1151, t1154⟩, A70, H⟩ := H
    replace H : (if (t1150 != t1154) = true then (laws_FnLinearRanked.j0 k l1 t1145 t1147 t1154 true t1142) else ((laws_oSame.f k t1147 t1151).bind fun t1155 => (laws_FnLinearRanked.j0 k l1 t1145 t1147 t1154 (!t1155) t1142))) = some r := H
    have A7 := am A70
    clear A70
    have HC8 := am H
    clear H
    go_enter Try.func6, Try.ntmps6
    go_upto_region 6 with (first | ((with_reducible refine gate_callee (f := 7) rfl ?_); refine gL (some 34) Try.func7 #[.slice A0 l0.length c0, .slice A1 l1.length c1] ?_; (with_reducible refine (laws_big.calls _ _ l0 _ _ l1 false _ ?side1 ?side2 ?side3 ?side4 A3.out).mono ?_); (case side1 => exact qC HR0.out); (case side2 => exact HC0.out); (case side3 => exact qC HR1.out); (case side4 => exact HC1.out); rintro e w' ⟨rfl, ⟨nd, rfl⟩⟩; refine ⟨_, rfl, ?_⟩) | ((with_reducible refine gate_callee (f := 52) rfl ?_); refine gL (some 37) Try.func52 #[.slice A0 l0.length c0] ?_; (with_reducible refine (spec_DrawLinearWith.calls k _ _ l0 t1142 t1145 _ ?side1 ?side2 A5.out).mono ?_); (case side1 => exact qC HR0.out); (case side2 => exact HC0.out); rintro e w9 ⟨v1143, rfl, ho0, hb⟩; refine ⟨_, rfl, ?_⟩; have HO1144 := am (Kd.R_lower ho0 (below_size qB)); replace HB := am (below_step qB hb); (try clear hb); (try clear hb2); (try clear hk); (try clear hi); (try clear ho0)) | ((with_reducible refine gate_dst (N := 5) rfl ?_); refine qx (N := 5) (cs := #[.slice none 0 0]) (t := 26) ?_; intro gb1146 hg w10 hbox hb; replace HO1144 := am (Kd.R_below (qR HO1144.out) hb); have n1_ := am (below_step qB hb); have BK1146 := am (hbox); have GW1146 := am (qg w hg); have GE1146 := am (qg w hg); clear HB; have HB := n1_; clear n1_; clear hb hbox hg; obtain ⟨Ao11, co11, eo11⟩ := Kd.R_slice HO1144.out; subst eo11; have hcz12_0 := qz w10 BK1146.out; have hfz12_0 := blk_frozen BK1146.out 0) | ((with_reducible refine gate_callee (f := 53) rfl ?_); refine gL (some 43) Try.func53 #[.agg #[.slice Ao11 t1142.length co11], .int .i64 t1145] ?_; (with_reducible refine (impl_LinearWith.calls k _ _ t1142 t1145 t1147 t1150 _ ?side1 ?side2 A6.out).mono ?_); (case side1 => refine (Kd.R_reads' (e := 3) (base := w.heap.size) (ok := fun k_ => True) (n := t1142.length) (c := co11) ?_).2.2; exact (qR ((Kd.R_mono (Kd.R_far (p := ⟨gb1146, 0, none⟩) (Kd.R_types HO1144.out BK1146.out (by decide)) (fun _ hk => hk.2) (.slice Ao11 t1142.length co11)) (fun _ h_ => h_.1))))); (case side2 => exact (Kd.R_reads' HO1144.out).2.1); rintro e w13 ⟨v1148, rfl, ho0, hb⟩; refine ⟨_, rfl, ?_⟩; have n0_ := am (Kd.R_elder' (qR ((Kd.R_mono (Kd.R_far (p := ⟨gb1146, 0, none⟩) (Kd.R_types HO1144.out BK1146.out (by decide)) (fun _ hk => hk.2) (.slice Ao11 t1142.length co11)) (fun _ h_ => h_.1)))) (Kd.R_base ho0) hb); have HO1149 := am (Kd.R_lower (Kd.R_new' ho0 (Kd.R_lt (qR ((Kd.R_mono (Kd.R_far (p := ⟨gb1146, 0, none⟩) (Kd.R_types HO1144.out BK1146.out (by decide)) (fun _ hk => hk.2) (.slice Ao11 t1142.length co11)) (fun _ h_ => h_.1)))))) (below_size qB)); replace BK1146 := am (blk_below (g := gb1146) (o := .cells #[.slice Ao11 t1142.length co11] 26 (0, 0)) (by (with_reducible repeat (first | refine blk_drewN ?_ _ | refine blk_drew ?_ | refine blk_alloc ?_ _)); refine blk_put (cs := #[.slice none 0 0]) ?_ 0 _ rfl; refine qb ?_; exact BK1146.out) hb); replace HB := am (below_step qB hb); clear HO1144; have HO1144 := n0_; clear n0_; (try clear hb); (try clear hb2); (try clear hk); (try clear hi); (try clear ho0); have hcz14_0 := qz w13 BK1146.out; have hfz14_0 := blk_frozen BK1146.out 0) | ((with_reducible refine gate_callee (f := 54) rfl ?_); refine gL (some 49) Try.func54 #[.agg #[.slice Ao11 t1142.length co11], .int .i64 t1145] ?_; (with_reducible refine (spec_LinearWith.calls k _ _ t1142 t1145 t1151 t1154 _ ?side1 ?side2 A7.out).mono ?_); (case side1 => exact qC (Kd.R_reads' HO1144.out).2.2); (case side2 => exact (Kd.R_reads' HO1144.out).2.1); rintro e w15 ⟨v1152, rfl, ho0, hb⟩; refine ⟨_, rfl, ?_⟩; have n0_ := am (Kd.R_elder' (qR HO1144.out) (Kd.R_base ho0) hb); have n1_ := am (Kd.R_elder' (qR HO1149.out) (Kd.R_base ho0) hb); have HO1153 := am (Kd.R_lower (Kd.R_new' (Kd.R_new' ho0 (Kd.R_lt (qR HO1144.out))) (Kd.R_lt (qR HO1149.out))) (below_size qB)); replace BK1146 := am (blk_below (g := gb1146) (o := .cells #[.slice Ao11 t1142.length co11] 26 (0, 0)) (qb BK1146.out) hb); replace HB := am (below_step qB hb); clear HO1144 HO1149; have HO1144 := n0_; have HO1149 := n1_; clear n0_ n1_; (try clear hb); (try clear hb2); (try clear hk); (try clear hi); (try clear ho0)))
    (try simp only [Act.put, List.setIfInBounds_toArray, List.set_cons_zero, List.set_cons_succ])
    go_cut [60] (fun v60 wc => ∃ (kq : Nat) (x60_7 : Bool), v60 = .bool x60_7 ∧ Aside0 (laws_FnLinearRanked.j0 kq l1 t1145 t1147 t1154 x60_7 t1142 = some r) ∧ Aside0 (kq ≤ k) ∧ Aside0 (Kd.R (Kd.int .i64) 3 wc w.heap.size (fun k_ => some k_ ≠ ((.slice Ao11 t1142.length co11) : Value).ownBlock) v1148 t1147) ∧ Aside0 (Kd.R (Kd.int .i64) 3 wc w.heap.size (fun k_ => some k_ ≠ (v1148 : Value).ownBlock) (.slice Ao11 t1142.length co11) t1142) ∧ Aside0 (wc.heap[gb1146]? = some (.cells #[(.slice Ao11 t1142.length co11)] 26 (0, 0))) ∧ Aside0 (Below w.heap.size w wc))
    case first =>
     have H := HC8.out
     clear HC8
     by_cases c16 : (t1150 != t1154) = true
     ·as_aux_lemma =>
        rw [if_pos c16] at H
        have c16b0 : (t1150 != t1154) = true := c16
        (try (have c16b1 : decide (t1150 = t1154) = false := by simpa using c16))
        (try (have c16b2 : (t1150 == t1154) = false := by simpa using c16))
        (try (have c16b3 : ¬ (t1150 = t1154) := by simpa using c16))
        clear c16
        (first | rw [c16b0] | (simp only [i64_w, i32_w]; rw [c16b0]) | skip)
        have H' := am H
        clear H
        go_wp2
        go_meet
        case rel => exact ⟨_, (true), qe, H', ⟨by first | omega | exact Nat.le_refl _⟩, ⟨qR (Kd.R_mono HO1149.out (fun _ hk => hk.1.2))⟩, ⟨qR (Kd.R_mono HO1144.out (fun _ hk => hk.1.2))⟩, ⟨qb BK1146.out⟩, ⟨qB⟩⟩
     ·as_aux_lemma =>
        rw [if_neg c16] at H
        have c16b0 : (t1150 != t1154) = false := by simpa using c16
        (try (have c16b1 : decide (t1150 = t1154) = true := by simpa using c16))
        (try (have c16b2 : (t1150 == t1154) = true := by simpa using c16))
        clear c16
        (first | rw [c16b0] | (simp only [i64_w, i32_w]; rw [c16b0]) | skip)
        replace H := Option.bind_eq_some_iff.mp H
        obtain ⟨t1155, A170, H⟩ := H
        replace H : (laws_FnLinearRanked.j0 k l1 t1145 t1147 t1154 (!t1155) t1142) = some r := H
        have A17 := am A170
        clear A170
        have H' := am H
        clear H
        obtain ⟨Ao18, co18, eo18⟩ := Kd.R_slice HO1149.out
        subst eo18
        obtain ⟨Ao19, co19, eo19⟩ := Kd.R_slice HO1153.out
        subst eo19
        go_wp2_with (first | (go_at_call 11; (with_reducible refine (laws_oSame.calls k _ _ t1147 _ _ t1151 t1155 _ ?side1 ?side2 ?side3 ?side4 A17.out).mono ?_); (case side1 => exact qC (Kd.R_reads' HO1149.out).2.2); (case side2 => exact (Kd.R_reads' HO1149.out).2.1); (case side3 => exact qC (Kd.R_reads' HO1153.out).2.2); (case side4 => exact (Kd.R_reads' HO1153.out).2.1); rintro e w' ⟨rfl, ⟨nd, rfl⟩⟩))
        go_meet
        case rel => exact ⟨_, (!t1155), qe, H', ⟨by first | omega | exact Nat.le_refl _⟩, ⟨qR (Kd.R_mono HO1149.out (fun _ hk => hk.1.2))⟩, ⟨qR (Kd.R_mono HO1144.out (fun _ hk => hk.1.2))⟩, ⟨qb BK1146.out⟩, ⟨qB⟩⟩
    case rest =>
     clear HC8
     try clear c1
     try clear p2
     try clear c4
     try clear c5
     try clear c6
     try clear c7
     try clear c16
     try clear c16b0
     try clear c16b1
     try clear c16b2
     try clear hcz12_0
     try clear hcz14_0
     try clear hfz12_0
     try clear hfz14_0
     obtain ⟨kq, x60_7, rfl, HA, HJ7, HO_7, HO_1147000, BK1146, HB⟩ := hcut
     cases kq with
     | zero => exact absurd HA.out (by simp [laws_FnLinearRanked.j0])
     | succ kj7 =>
      have H := HA.out
      clear HA
      simp only [laws_FnLinearRanked.j0] at H
      by_cases c20 : x60_7 = true
      ·subst c20
       have H1 : (some false) = some r := by rw [if_pos rfl] at H; exact H
       clear H
       have H := H1
       clear H1
       obtain rfl := Option.some.inj H
       go_wp2
       go_ret
       exact ⟨qr, qB⟩
      ·as_aux_lemma =>
         replace c20 := Bool.eq_false_iff.mpr c20
         subst c20
         have H1 : ((spec_DrawAllLinear.f kj7 l1).bind fun t1156 => ((impl_AllLinear.f kj7 t1156).bind fun bt1160 => ((spec_AllLinear.f kj7 t1156).bind fun bt1164 => ((impl_CountLinear.f kj7 t1156).bind fun bt1168 => ((spec_CountLinear.f kj7 t1156).bind fun bt1170 => (if (bt1160.2 != bt1164.2) = true then (laws_FnLinearRanked.j1 kj7 l1 t1145 t1147 t1154 bt1160.1 true t1142 t1156) else ((laws_oSameRows.f kj7 bt1160.1 bt1164.1).bind fun t1172 => (if t1172 = true then (if (bt1168.2 != bt1170.2) = true then (laws_FnLinearRanked.j1 kj7 l1 t1145 t1147 t1154 bt1160.1 true t1142 t1156) else (if bt1168.1 = bt1170.1 then (if bt1168.2 = true then (if (bt1160.2 != (decide (bt1168.1 ≤ 500))) = true then (laws_FnLinearRanked.j1 kj7 l1 t1145 t1147 t1154 bt1160.1 true t1142 t1156) else (if bt1160.2 = true then (laws_FnLinearRanked.j1 kj7 l1 t1145 t1147 t1154 bt1160.1 ((bt1160.1.length : Int) != bt1168.1) t1142 t1156) else (laws_FnLinearRanked.j1 kj7 l1 t1145 t1147 t1154 bt1160.1 false t1142 t1156))) else (if (bt1160.2 != false) = true then (laws_FnLinearRanked.j1 kj7 l1 t1145 t1147 t1154 bt1160.1 true t1142 t1156) else (if bt1160.2 = true then (laws_FnLinearRanked.j1 kj7 l1 t1145 t1147 t1154 bt1160.1 ((bt1160.1.length : Int) != bt1168.1) t1142 t1156) else (laws_FnLinearRanked.j1 kj7 l1 t1145 t1147 t1154 bt1160.1 false t1142 t1156)))) else (laws_FnLinearRanked.j1 kj7 l1 t1145 t1147 t1154 bt1160.1 true t1142 t1156))) else (laws_FnLinearRanked.j1 kj7 l1 t1145 t1147 t1154 bt1160.1 true t1142 t1156))))))))) = some r := by rw [if_neg (show ¬ (false = true) by decide)] at H; exact H
         clear H
         have H := H1
         clear H1
         replace H := Option.bind_eq_some_iff.mp H
         obtain ⟨t1156, A210, H⟩ := H
         replace H : ((impl_AllLinear.f kj7 t1156).bind fun bt1160 => ((spec_AllLinear.f kj7 t1156).bind fun bt1164 => ((impl_CountLinear.f kj7 t1156).bind fun bt1168 => ((spec_CountLinear.f kj7 t1156).bind fun bt1170 => (if (bt1160.2 != bt1164.2) = true then (laws_FnLinearRanked.j1 kj7 l1 t1145 t1147 t1154 bt1160.1 true t1142 t1156) else ((laws_oSameRows.f kj7 bt1160.1 bt1164.1).bind fun t1172 => (if t1172 = true then (if (bt1168.2 != bt1170.2) = true then (laws_FnLinearRanked.j1 kj7 l1 t1145 t1147 t1154 bt1160.1 true t1142 t1156) else (if bt1168.1 = bt1170.1 then (if bt1168.2 = true then (if (bt1160.2 != (decide (bt1168.1 ≤ 500))) = true then (laws_FnLinearRanked.j1 kj7 l1 t1145 t1147 t1154 bt1160.1 true t1142 t1156) else (if bt1160.2 = true then (laws_FnLinearRanked.j1 kj7 l1 t1145 t1147 t1154 bt1160.1 ((bt1160.1.length : Int) != bt1168.1) t1142 t1156) else (laws_FnLinearRanked.j1 kj7 l1 t1145 t1147 t1154 bt1160.1 false t1142 t1156))) else (if (bt1160.2 != false) = true then (laws_FnLinearRanked.j1 kj7 l1 t1145 t1147 t1154 bt1160.1 true t1142 t1156) else (if bt1160.2 = true then (laws_FnLinearRanked.j1 kj7 l1 t1145 t1147 t1154 bt1160.1 ((bt1160.1.length : Int) != bt1168.1) t1142 t1156) else (laws_FnLinearRanked.j1 kj7 l1 t1145 t1147 t1154 bt1160.1 false t1142 t1156)))) else (laws_FnLinearRanked.j1 kj7 l1 t1145 t1147 t1154 bt1160.1 true t1142 t1156))) else (laws_FnLinearRanked.j1 kj7 l1 t1145 t1147 t1154 bt1160.1 true t1142 t1156)))))))) = some r := H
         have A21 := am A210
         clear A210
         replace H := Option.bind_eq_some_iff.mp H
         obtain ⟨⟨t1160, t1163⟩, A220, H⟩ := H
         replace H : ((spec_AllLinear.f kj7 t1156).bind fun bt1164 => ((impl_CountLinear.f kj7 t1156).bind fun bt1168 => ((spec_CountLinear.f kj7 t1156).bind fun bt1170 => (if (t1163 != bt1164.2) = true then (laws_FnLinearRanked.j1 kj7 l1 t1145 t1147 t1154 t1160 true t1142 t1156) else ((laws_oSameRows.f kj7 t1160 bt1164.1).bind fun t1172 => (if t1172 = true then (if (bt1168.2 != bt1170.2) = true then (laws_FnLinearRanked.j1 kj7 l1 t1145 t1147 t1154 t1160 true t1142 t1156) else (if bt1168.1 = bt1170.1 then (if bt1168.2 = true then (if (t1163 != (decide (bt1168.1 ≤ 500))) = true then (laws_FnLinearRanked.j1 kj7 l1 t1145 t1147 t1154 t1160 true t1142 t1156) else (if t1163 = true then (laws_FnLinearRanked.j1 kj7 l1 t1145 t1147 t1154 t1160 ((t1160.length : Int) != bt1168.1) t1142 t1156) else (laws_FnLinearRanked.j1 kj7 l1 t1145 t1147 t1154 t1160 false t1142 t1156))) else (if (t1163 != false) = true then (laws_FnLinearRanked.j1 kj7 l1 t1145 t1147 t1154 t1160 true t1142 t1156) else (if t1163 = true then (laws_FnLinearRanked.j1 kj7 l1 t1145 t1147 t1154 t1160 ((t1160.length : Int) != bt1168.1) t1142 t1156) else (laws_FnLinearRanked.j1 kj7 l1 t1145 t1147 t1154 t1160 false t1142 t1156)))) else (laws_FnLinearRanked.j1 kj7 l1 t1145 t1147 t1154 t1160 true t1142 t1156))) else (laws_FnLinearRanked.j1 kj7 l1 t1145 t1147 t1154 t1160 true t1142 t1156))))))) = some r := H
         have A22 := am A220
         clear A220
         replace H := Option.bind_eq_some_iff.mp H
         obtain ⟨⟨t1164, t1167⟩, A230, H⟩ := H
         replace H : ((impl_CountLinear.f kj7 t1156).bind fun bt1168 => ((spec_CountLinear.f kj7 t1156).bind fun bt1170 => (if (t1163 != t1167) = true then (laws_FnLinearRanked.j1 kj7 l1 t1145 t1147 t1154 t1160 true t1142 t1156) else ((laws_oSameRows.f kj7 t1160 t1164).bind fun t1172 => (if t1172 = true then (if (bt1168.2 != bt1170.2) = true then (laws_FnLinearRanked.j1 kj7 l1 t1145 t1147 t1154 t1160 true t1142 t1156) else (if bt1168.1 = bt1170.1 then (if bt1168.2 = true then (if (t1163 != (decide (bt1168.1 ≤ 500))) = true then (laws_FnLinearRanked.j1 kj7 l1 t1145 t1147 t1154 t1160 true t1142 t1156) else (if t1163 = true then (laws_FnLinearRanked.j1 kj7 l1 t1145 t1147 t1154 t1160 ((t1160.length : Int) != bt1168.1) t1142 t1156) else (laws_FnLinearRanked.j1 kj7 l1 t1145 t1147 t1154 t1160 false t1142 t1156))) else (if (t1163 != false) = true then (laws_FnLinearRanked.j1 kj7 l1 t1145 t1147 t1154 t1160 true t1142 t1156) else (if t1163 = true then (laws_FnLinearRanked.j1 kj7 l1 t1145 t1147 t1154 t1160 ((t1160.length : Int) != bt1168.1) t1142 t1156) else (laws_FnLinearRanked.j1 kj7 l1 t1145 t1147 t1154 t1160 false t1142 t1156)))) else (laws_FnLinearRanked.j1 kj7 l1 t1145 t1147 t1154 t1160 true t1142 t1156))) else (laws_FnLinearRanked.j1 kj7 l1 t1145 t1147 t1154 t1160 true t1142 t1156)))))) = some r := H
         have A23 := am A230
         clear A230
         replace H := Option.bind_eq_some_iff.mp H
         obtain ⟨⟨t1168, t1169⟩, A240, H⟩ := H
         replace H : ((spec_CountLinear.f kj7 t1156).bind fun bt1170 => (if (t1163 != t1167) = true then (laws_FnLinearRanked.j1 kj7 l1 t1145 t1147 t1154 t1160 true t1142 t1156) else ((laws_oSameRows.f kj7 t1160 t1164).bind fun t1172 => (if t1172 = true then (if (t1169 != bt1170.2) = true then (laws_FnLinearRanked.j1 kj7 l1 t1145 t1147 t1154 t1160 true t1142 t1156) else (if t1168 = bt1170.1 then (if t1169 = true then (if (t1163 != (decide (t1168 ≤ 500))) = true then (laws_FnLinearRanked.j1 kj7 l1 t1145 t1147 t1154 t1160 true t1142 t1156) else (if t1163 = true then (laws_FnLinearRanked.j1 kj7 l1 t1145 t1147 t1154 t1160 ((t1160.length : Int) != t1168) t1142 t1156) else (laws_FnLinearRanked.j1 kj7 l1 t1145 t1147 t1154 t1160 false t1142 t1156))) else (if (t1163 != false) = true then (laws_FnLinearRanked.j1 kj7 l1 t1145 t1147 t1154 t1160 true t1142 t1156) else (if t1163 = true then (laws_FnLinearRanked.j1 kj7 l1 t1145 t1147 t1154 t1160 ((t1160.length : Int) != t1168) t1142 t1156) else (laws_FnLinearRanked.j1 kj7 l1 t1145 t1147 t1154 t1160 false t1142 t1156)))) else (laws_FnLinearRanked.j1 kj7 l1 t1145 t1147 t1154 t1160 true t1142 t1156))) else (laws_FnLinearRanked.j1 kj7 l1 t1145 t1147 t1154 t1160 true t1142 t1156))))) = some r := H
         have A24 := am A240
         clear A240
         replace H := Option.bind_eq_some_iff.mp H
         obtain ⟨⟨t1170, t1171⟩, A250, H⟩ := H
         replace H : (if (t1163 != t1167) = true then (laws_FnLinearRanked.j1 kj7 l1 t1145 t1147 t1154 t1160 true t1142 t1156) else ((laws_oSameRows.f kj7 t1160 t1164).bind fun t1172 => (if t1172 = true then (if (t1169 != t1171) = true then (laws_FnLinearRanked.j1 kj7 l1 t1145 t1147 t1154 t1160 true t1142 t1156) else (if t1168 = t1170 then (if t1169 = true then (if (t1163 != (decide (t1168 ≤ 500))) = true then (laws_FnLinearRanked.j1 kj7 l1 t1145 t1147 t1154 t1160 true t1142 t1156) else (if t1163 = true then (laws_FnLinearRanked.j1 kj7 l1 t1145 t1147 t1154 t1160 ((t1160.length : Int) != t1168) t1142 t1156) else (laws_FnLinearRanked.j1 kj7 l1 t1145 t1147 t1154 t1160 false t1142 t1156))) else (if (t1163 != false) = true then (laws_FnLinearRanked.j1 kj7 l1 t1145 t1147 t1154 t1160 true t1142 t1156) else (if t1163 = true then (laws_FnLinearRanked.j1 kj7 l1 t1145 t1147 t1154 t1160 ((t1160.length : Int) != t1168) t1142 t1156) else (laws_FnLinearRanked.j1 kj7 l1 t1145 t1147 t1154 t1160 false t1142 t1156)))) else (laws_FnLinearRanked.j1 kj7 l1 t1145 t1147 t1154 t1160 true t1142 t1156))) else (laws_FnLinearRanked.j1 kj7 l1 t1145 t1147 t1154 t1160 true t1142 t1156)))) = some r := H
         have A25 := am A250
         clear A250
         have HC26 := am H
         clear H
         go_upto_region 13 with (first | ((with_reducible refine gate_callee (f := 55) rfl ?_); refine gL (some 62) Try.func55 #[.slice A1 l1.length c1] ?_; (with_reducible refine (spec_DrawAllLinear.calls kj7 _ _ l1 t1156 _ ?side1 ?side2 A21.out).mono ?_); (case side1 => exact qC (Kd.C_below HR1.out HB.out)); (case side2 => exact HC1.out); rintro e w27 ⟨v1157, rfl, ho0, hb⟩; refine ⟨_, rfl, ?_⟩; have n0_ := am (Kd.R_elder' (qR HO_7.out) (Kd.R_base ho0) hb); have n1_ := am (Kd.R_elder' (qR HO_1147000.out) (Kd.R_base ho0) hb); have HO1158 := am (Kd.R_lower (Kd.R_new' (Kd.R_new' ho0 (Kd.R_lt (qR HO_7.out))) (Kd.R_lt (qR HO_1147000.out))) (below_size qB)); replace BK1146 := am (blk_below (g := gb1146) (o := .cells #[.slice Ao11 t1142.length co11] 26 (0, 0)) (qb BK1146.out) hb); replace HB := am (below_step qB hb); clear HO_7 HO_1147000; have HO_7 := n0_; have HO_1147000 := n1_; clear n0_ n1_; (try clear hb); (try clear hb2); (try clear hk); (try clear hi); (try clear ho0)) | ((with_reducible refine gate_dst (N := 11) rfl ?_); refine qx (N := 11) (cs := #[.slice none 0 0]) (t := 26) ?_; intro gb1159 hg w28 hbox hb; replace HO_7 := am (Kd.R_below (qR HO_7.out) hb); replace HO_1147000 := am (Kd.R_below (qR HO_1147000.out) hb); replace HO1158 := am (Kd.R_below (qR HO1158.out) hb); have n3_ := am (blk_below (g := gb1146) (o := .cells #[.slice Ao11 t1142.length co11] 26 (0, 0)) (qb BK1146.out) hb); have n4_ := am (below_step qB hb); have BK1159 := am (hbox); have GW1159 := am (qg w hg); have GE1159 := am (qg w hg); have NB1146_1159 := am ((by rw [hg]; exact Nat.ne_of_lt (blk_lt (g := gb1146) (o := .cells #[.slice Ao11 t1142.length co11] 26 (0, 0)) (qb BK1146.out)) : gb1146 ≠ gb1159)); have NB1159_1146 := am ((by rw [hg]; exact Nat.ne_of_gt (blk_lt (g := gb1146) (o := .cells #[.slice Ao11 t1142.length co11] 26 (0, 0)) (qb BK1146.out)) : gb1159 ≠ gb1146)); clear BK1146 HB; have BK1146 := n3_; have HB := n4_; clear n3_ n4_; clear hb hbox hg; obtain ⟨Ao29, co29, eo29⟩ := Kd.R_slice HO1158.out; subst eo29; have hnb30 := NB1159_1146.out; have hnc30 := NB1146_1159.out; have hcz31_0 := qz w28 BK1159.out; have hfz31_0 := blk_frozen BK1159.out 0) | ((with_reducible refine gate_callee (f := 56) rfl ?_); refine gL (some 65) Try.func56 #[.agg #[.slice Ao29 t1156.length co29]] ?_; (with_reducible refine (impl_AllLinear.calls kj7 _ _ t1156 t1160 t1163 _ ?side1 ?side2 A22.out).mono ?_); (case side1 => refine (Kd.R_reads' (e := 3) (base := w.heap.size) (ok := fun k_ => ((True ∧ some k_ ≠ (v1148 : Value).ownBlock) ∧ some k_ ≠ (.slice Ao11 t1142.length co11 : Value).ownBlock)) (n := t1156.length) (c := co29) ?_).2.2; exact (qR ((Kd.R_mono (Kd.R_far (p := ⟨gb1159, 0, none⟩) (Kd.R_types HO1158.out BK1159.out (by decide)) (fun _ hk => hk.2) (.slice Ao29 t1156.length co29)) (fun _ h_ => h_.1))))); (case side2 => exact (Kd.R_reads' HO1158.out).2.1); rintro e w32 ⟨v1161, rfl, ho0, hb⟩; refine ⟨_, rfl, ?_⟩; have n0_ := am (Kd.R_below (qR ((Kd.R_mono (Kd.R_far (p := ⟨gb1159, 0, none⟩) (Kd.R_types HO_7.out BK1159.out (by decide)) (fun _ hk => hk.2) (.slice Ao29 t1156.length co29)) (fun _ h_ => h_.1)))) hb); have n1_ := am (Kd.R_below (qR ((Kd.R_mono (Kd.R_far (p := ⟨gb1159, 0, none⟩) (Kd.R_types HO_1147000.out BK1159.out (by decide)) (fun _ hk => hk.2) (.slice Ao29 t1156.length co29)) (fun _ h_ => h_.1)))) hb); have n2_ := am (Kd.R_below (qR ((Kd.R_mono (Kd.R_far (p := ⟨gb1159, 0, none⟩) (Kd.R_types HO1158.out BK1159.out (by decide)) (fun _ hk => hk.2) (.slice Ao29 t1156.length co29)) (fun _ h_ => h_.1)))) hb); have HO1162 := am (Kd.S_lower (Kd.S_new' (Kd.S_new' (Kd.S_new' ho0 (Kd.R_lt (qR ((Kd.R_mono (Kd.R_far (p := ⟨gb1159, 0, none⟩) (Kd.R_types HO_7.out BK1159.out (by decide)) (fun _ hk => hk.2) (.slice Ao29 t1156.length co29)) (fun _ h_ => h_.1)))))) (Kd.R_lt (qR ((Kd.R_mono (Kd.R_far (p := ⟨gb1159, 0, none⟩) (Kd.R_types HO_1147000.out BK1159.out (by decide)) (fun _ hk => hk.2) (.slice Ao29 t1156.length co29)) (fun _ h_ => h_.1)))))) (Kd.R_lt (qR ((Kd.R_mono (Kd.R_far (p := ⟨gb1159, 0, none⟩) (Kd.R_types HO1158.out BK1159.out (by decide)) (fun _ hk => hk.2) (.slice Ao29 t1156.length co29)) (fun _ h_ => h_.1)))))) (below_size qB)); replace BK1146 := am (blk_below (g := gb1146) (o := .cells #[.slice Ao11 t1142.length co11] 26 (0, 0)) (by (with_reducible repeat (first | refine blk_drewN ?_ _ | refine blk_drew ?_ | refine blk_alloc ?_ _)); refine blk_far ?_ NB1146_1159.out _; refine qb ?_; exact BK1146.out) hb); replace BK1159 := am (blk_below (g := gb1159) (o := .cells #[.slice Ao29 t1156.length co29] 26 (0, 0)) (by (with_reducible repeat (first | refine blk_drewN ?_ _ | refine blk_drew ?_ | refine blk_alloc ?_ _)); refine blk_put (cs := #[.slice none 0 0]) ?_ 0 _ rfl; refine qb ?_; exact BK1159.out) hb); replace HB := am (below_step qB hb); clear HO_7 HO_1147000 HO1158; have HO_7 := n0_; have HO_1147000 := n1_; have HO1158 := n2_; clear n0_ n1_ n2_; (try clear hb); (try clear hb2); (try clear hk); (try clear hi); (try clear ho0); have hcz33_0 := qz w32 BK1159.out; have hfz33_0 := blk_frozen BK1159.out 0) | ((with_reducible refine gate_callee (f := 57) rfl ?_); refine gL (some 70) Try.func57 #[.agg #[.slice Ao29 t1156.length co29]] ?_; (with_reducible refine (spec_AllLinear.calls kj7 _ _ t1156 t1164 t1167 _ ?side1 ?side2 A23.out).mono ?_); (case side1 => exact qC (Kd.R_reads' HO1158.out).2.2); (case side2 => exact (Kd.R_reads' HO1158.out).2.1); rintro e w34 ⟨v1165, rfl, ho0, hb⟩; refine ⟨_, rfl, ?_⟩; have n0_ := am (Kd.R_below (qR HO_7.out) hb); have n1_ := am (Kd.R_below (qR HO_1147000.out) hb); have n2_ := am (Kd.R_below (qR HO1158.out) hb); have n3_ := am (Kd.S_elder' (qS HO1162.out) (Kd.S_base ho0) hb); have HO1166 := am (Kd.S_lower (Kd.S_new' (Kd.S_new' (Kd.S_new' (Kd.S_new' ho0 (Kd.R_lt (qR HO_7.out))) (Kd.R_lt (qR HO_1147000.out))) (Kd.R_lt (qR HO1158.out))) (Kd.S_lt (qS HO1162.out))) (below_size qB)); replace BK1146 := am (blk_below (g := gb1146) (o := .cells #[.slice Ao11 t1142.length co11] 26 (0, 0)) (qb BK1146.out) hb); replace BK1159 := am (blk_below (g := gb1159) (o := .cells #[.slice Ao29 t1156.length co29] 26 (0, 0)) (qb BK1159.out) hb); replace HB := am (below_step qB hb); clear HO_7 HO_1147000 HO1158 HO1162; have HO_7 := n0_; have HO_1147000 := n1_; have HO1158 := n2_; have HO1162 := n3_; clear n0_ n1_ n2_ n3_; (try clear hb); (try clear hb2); (try clear hk); (try clear hi); (try clear ho0); have hcz35_0 := qz w34 BK1159.out; have hfz35_0 := blk_frozen BK1159.out 0) | ((with_reducible refine gate_callee (f := 41) rfl ?_); refine gL (some 75) Try.func41 #[.agg #[.slice Ao29 t1156.length co29]] ?_; (with_reducible refine (impl_CountLinear.calls kj7 _ _ t1156 t1168 t1169 _ ?side1 ?side2 A24.out).mono ?_); (case side1 => exact qC (Kd.R_reads' HO1158.out).2.2); (case side2 => exact (Kd.R_reads' HO1158.out).2.1); rintro e w36 ⟨rfl, hb⟩; refine ⟨_, rfl, ?_⟩; replace HO_7 := am (Kd.R_below (qR HO_7.out) hb); replace HO_1147000 := am (Kd.R_below (qR HO_1147000.out) hb); replace HO1158 := am (Kd.R_below (qR HO1158.out) hb); replace HO1162 := am (Kd.S_below (qS HO1162.out) hb); replace HO1166 := am (Kd.S_below (qS HO1166.out) hb); replace BK1146 := am (blk_below (g := gb1146) (o := .cells #[.slice Ao11 t1142.length co11] 26 (0, 0)) (qb BK1146.out) hb); replace BK1159 := am (blk_below (g := gb1159) (o := .cells #[.slice Ao29 t1156.length co29] 26 (0, 0)) (qb BK1159.out) hb); replace HB := am (below_step qB hb); (try clear hb); (try clear hb2); (try clear hk); (try clear hi); have hcz37_0 := qz w36 BK1159.out; have hfz37_0 := blk_frozen BK1159.out 0) | ((with_reducible refine gate_callee (f := 58) rfl ?_); refine gL (some 80) Try.func58 #[.agg #[.slice Ao29 t1156.length co29]] ?_; (with_reducible refine (spec_CountLinear.calls kj7 _ _ t1156 t1170 t1171 _ ?side1 ?side2 A25.out).mono ?_); (case side1 => exact qC (Kd.R_reads' HO1158.out).2.2); (case side2 => exact (Kd.R_reads' HO1158.out).2.1); rintro e w38 ⟨rfl, hb⟩; refine ⟨_, rfl, ?_⟩; replace HO_7 := am (Kd.R_below (qR HO_7.out) hb); replace HO_1147000 := am (Kd.R_below (qR HO_1147000.out) hb); replace HO1158 := am (Kd.R_below (qR HO1158.out) hb); replace HO1162 := am (Kd.S_below (qS HO1162.out) hb); replace HO1166 := am (Kd.S_below (qS HO1166.out) hb); replace BK1146 := am (blk_below (g := gb1146) (o := .cells #[.slice Ao11 t1142.length co11] 26 (0, 0)) (qb BK1146.out) hb); replace BK1159 := am (blk_below (g := gb1159) (o := .cells #[.slice Ao29 t1156.length co29] 26 (0, 0)) (qb BK1159.out) hb); replace HB := am (below_step qB hb); (try clear hb); (try clear hb2); (try clear hk); (try clear hi)))
         (try simp only [Act.put, List.setIfInBounds_toArray, List.set_cons_zero, List.set_cons_succ])
         go_cut [119] (fun v119 wc => ∃ (kq : Nat) (x119_25 : Bool), v119 = .bool x119_25 ∧ Aside0 (laws_FnLinearRanked.j1 kq l1 t1145 t1147 t1154 t1160 x119_25 t1142 t1156 = some r) ∧ Aside0 (kq ≤ kj7) ∧ Aside0 (Kd.R (Kd.int .i64) 3 wc w.heap.size (fun k_ => some k_ ≠ ((.slice Ao11 t1142.length co11) : Value).ownBlock ∧ some k_ ≠ ((.slice Ao29 t1156.length co29) : Value).ownBlock) v1148 t1147) ∧ Aside0 (Kd.S (Kd.slice 3 (Kd.int .i64)) 24 wc w.heap.size (fun k_ => some k_ ≠ (v1148 : Value).ownBlock ∧ some k_ ≠ ((.slice Ao11 t1142.length co11) : Value).ownBlock ∧ some k_ ≠ ((.slice Ao29 t1156.length co29) : Value).ownBlock) v1161 t1160) ∧ Aside0 (Kd.R (Kd.int .i64) 3 wc w.heap.size (fun k_ => some k_ ≠ (v1148 : Value).ownBlock ∧ some k_ ≠ ((.slice Ao29 t1156.length co29) : Value).ownBlock) (.slice Ao11 t1142.length co11) t1142) ∧ Aside0 (Kd.R (Kd.int .i64) 3 wc w.heap.size (fun k_ => some k_ ≠ (v1148 : Value).ownBlock ∧ some k_ ≠ ((.slice Ao11 t1142.length co11) : Value).ownBlock) (.slice Ao29 t1156.length co29) t1156) ∧ Aside0 (wc.heap[gb1146]? = some (.cells #[(.slice Ao11 t1142.length co11)] 26 (0, 0))) ∧ Aside0 (wc.heap[gb1159]? = some (.cells #[(.slice Ao29 t1156.length co29)] 26 (0, 0))) ∧ Aside0 (Below w.heap.size w wc))
         case first =>
          have H := HC26.out
          clear HC26
          by_cases c39 : (t1163 != t1167) = true
          ·as_aux_lemma =>
             rw [if_pos c39] at H
             have c39b0 : (t1163 != t1167) = true := c39
             (try (have c39b1 : decide (t1163 = t1167) = false := by simpa using c39))
             (try (have c39b2 : (t1163 == t1167) = false := by simpa using c39))
             (try (have c39b3 : ¬ (t1163 = t1167) := by simpa using c39))
             clear c39
             (first | rw [c39b0] | (simp only [i64_w, i32_w]; rw [c39b0]) | skip)
             have H' := am H
             clear H
             go_wp2
             go_meet
             case rel => exact ⟨_, (true), qe, H', ⟨by have := HJ7.out; first | omega | exact Nat.le_refl _⟩, ⟨qR HO_7.out⟩, ⟨qS (Kd.S_mono HO1162.out (fun _ hk => ⟨hk.1.1.1.2, ⟨hk.1.1.2, hk.1.2⟩⟩))⟩, ⟨qR HO_1147000.out⟩, ⟨qR (Kd.R_mono HO1158.out (fun _ hk => ⟨hk.1.2, hk.2⟩))⟩, ⟨qb BK1146.out⟩, ⟨qb BK1159.out⟩, ⟨qB⟩⟩
          ·as_aux_lemma =>
             rw [if_neg c39] at H
             have c39b0 : (t1163 != t1167) = false := by simpa using c39
             (try (have c39b1 : decide (t1163 = t1167) = true := by simpa using c39))
             (try (have c39b2 : (t1163 == t1167) = true := by simpa using c39))
             clear c39
             (first | rw [c39b0] | (simp only [i64_w, i32_w]; rw [c39b0]) | skip)
             replace H := Option.bind_eq_some_iff.mp H
             obtain ⟨t1172, A400, H⟩ := H
             replace H : (if t1172 = true then (if (t1169 != t1171) = true then (laws_FnLinearRanked.j1 kj7 l1 t1145 t1147 t1154 t1160 true t1142 t1156) else (if t1168 = t1170 then (if t1169 = true then (if (t1163 != (decide (t1168 ≤ 500))) = true then (laws_FnLinearRanked.j1 kj7 l1 t1145 t1147 t1154 t1160 true t1142 t1156) else (if t1163 = true then (laws_FnLinearRanked.j1 kj7 l1 t1145 t1147 t1154 t1160 ((t1160.length : Int) != t1168) t1142 t1156) else (laws_FnLinearRanked.j1 kj7 l1 t1145 t1147 t1154 t1160 false t1142 t1156))) else (if (t1163 != false) = true then (laws_FnLinearRanked.j1 kj7 l1 t1145 t1147 t1154 t1160 true t1142 t1156) else (if t1163 = true then (laws_FnLinearRanked.j1 kj7 l1 t1145 t1147 t1154 t1160 ((t1160.length : Int) != t1168) t1142 t1156) else (laws_FnLinearRanked.j1 kj7 l1 t1145 t1147 t1154 t1160 false t1142 t1156)))) else (laws_FnLinearRanked.j1 kj7 l1 t1145 t1147 t1154 t1160 true t1142 t1156))) else (laws_FnLinearRanked.j1 kj7 l1 t1145 t1147 t1154 t1160 true t1142 t1156)) = some r := H
             have A40 := am A400
             clear A400
             by_cases c41 : t1172 = true
             ·as_aux_lemma =>
                subst c41
                have H1 : (if (t1169 != t1171) = true then (laws_FnLinearRanked.j1 kj7 l1 t1145 t1147 t1154 t1160 true t1142 t1156) else (if t1168 = t1170 then (if t1169 = true then (if (t1163 != (decide (t1168 ≤ 500))) = true then (laws_FnLinearRanked.j1 kj7 l1 t1145 t1147 t1154 t1160 true t1142 t1156) else (if t1163 = true then (laws_FnLinearRanked.j1 kj7 l1 t1145 t1147 t1154 t1160 ((t1160.length : Int) != t1168) t1142 t1156) else (laws_FnLinearRanked.j1 kj7 l1 t1145 t1147 t1154 t1160 false t1142 t1156))) else (if (t1163 != false) = true then (laws_FnLinearRanked.j1 kj7 l1 t1145 t1147 t1154 t1160 true t1142 t1156) else (if t1163 = true then (laws_FnLinearRanked.j1 kj7 l1 t1145 t1147 t1154 t1160 ((t1160.length : Int) != t1168) t1142 t1156) else (laws_FnLinearRanked.j1 kj7 l1 t1145 t1147 t1154 t1160 false t1142 t1156)))) else (laws_FnLinearRanked.j1 kj7 l1 t1145 t1147 t1154 t1160 true t1142 t1156))) = some r := by rw [if_pos rfl] at H; exact H
                clear H
                have H := H1
                clear H1
                by_cases c42 : (t1169 != t1171) = true
                ·as_aux_lemma =>
                   rw [if_pos c42] at H
                   have c42b0 : (t1169 != t1171) = true := c42
                   (try (have c42b1 : decide (t1169 = t1171) = false := by simpa using c42))
                   (try (have c42b2 : (t1169 == t1171) = false := by simpa using c42))
                   (try (have c42b3 : ¬ (t1169 = t1171) := by simpa using c42))
                   clear c42
                   have H' := am H
                   clear H
                   obtain ⟨Ao43, co43, eo43⟩ := Kd.S_slice HO1162.out
                   subst eo43
                   obtain ⟨Ao44, co44, eo44⟩ := Kd.S_slice HO1166.out
                   subst eo44
                   go_wp2_with (first | (go_at_call 59; (with_reducible refine (laws_oSameRows.calls kj7 _ _ t1160 _ _ t1164 true _ ?side1 ?side2 ?side3 ?side4 A40.out).mono ?_); (case side1 => exact qC (Kd.S_reads' HO1162.out).2.2); (case side2 => exact (Kd.S_reads' HO1162.out).2.1); (case side3 => exact qC (Kd.S_reads' HO1166.out).2.2); (case side4 => exact (Kd.S_reads' HO1166.out).2.1); rintro e w' ⟨rfl, ⟨nd, rfl⟩⟩))
                   go_meet
                   case rel => exact ⟨_, (true), qe, H', ⟨by have := HJ7.out; first | omega | exact Nat.le_refl _⟩, ⟨qR HO_7.out⟩, ⟨qS (Kd.S_mono HO1162.out (fun _ hk => ⟨hk.1.1.1.2, ⟨hk.1.1.2, hk.1.2⟩⟩))⟩, ⟨qR HO_1147000.out⟩, ⟨qR (Kd.R_mono HO1158.out (fun _ hk => ⟨hk.1.2, hk.2⟩))⟩, ⟨qb BK1146.out⟩, ⟨qb BK1159.out⟩, ⟨qB⟩⟩
                ·as_aux_lemma =>
                   rw [if_neg c42] at H
                   have c42b0 : (t1169 != t1171) = false := by simpa using c42
                   (try (have c42b1 : decide (t1169 = t1171) = true := by simpa using c42))
                   (try (have c42b2 : (t1169 == t1171) = true := by simpa using c42))
                   clear c42
                   by_cases c45 : t1168 = t1170
                   ·as_aux_lemma =>
                      rw [if_pos c45] at H
                      have c45b0 : (t1168 == t1170) = true := beq_iff_eq.mpr c45
                      have c45b1 : (t1168 != t1170) = false := bne_eq_false_iff_eq.mpr c45
                      clear c45
                      by_cases c46 : t1169 = true
                      ·as_aux_lemma =>
                         subst c46
                         have H1 : (if (t1163 != (decide (t1168 ≤ 500))) = true then (laws_FnLinearRanked.j1 kj7 l1 t1145 t1147 t1154 t1160 true t1142 t1156) else (if t1163 = true then (laws_FnLinearRanked.j1 kj7 l1 t1145 t1147 t1154 t1160 ((t1160.length : Int) != t1168) t1142 t1156) else (laws_FnLinearRanked.j1 kj7 l1 t1145 t1147 t1154 t1160 false t1142 t1156))) = some r := by rw [if_pos rfl] at H; exact H
                         clear H
                         have H := H1
                         clear H1
                         by_cases c47 : (t1163 != (decide (t1168 ≤ 500))) = true
                         ·as_aux_lemma =>
                            rw [if_pos c47] at H
                            have c47b0 : (t1163 != (decide (t1168 ≤ 500))) = true := c47
                            (try (have c47b1 : decide (t1163 = (decide (t1168 ≤ 500))) = false := by simpa using c47))
                            (try (have c47b2 : (t1163 == (decide (t1168 ≤ 500))) = false := by simpa using c47))
                            (try (have c47b3 : ¬ (t1163 = (decide (t1168 ≤ 500))) := by simpa using c47))
                            clear c47
                            have H' := am H
                            clear H
                            obtain ⟨Ao48, co48, eo48⟩ := Kd.S_slice HO1162.out
                            subst eo48
                            obtain ⟨Ao49, co49, eo49⟩ := Kd.S_slice HO1166.out
                            subst eo49
                            go_wp2_with (first | (go_at_call 59; (with_reducible refine (laws_oSameRows.calls kj7 _ _ t1160 _ _ t1164 true _ ?side1 ?side2 ?side3 ?side4 A40.out).mono ?_); (case side1 => exact qC (Kd.S_reads' HO1162.out).2.2); (case side2 => exact (Kd.S_reads' HO1162.out).2.1); (case side3 => exact qC (Kd.S_reads' HO1166.out).2.2); (case side4 => exact (Kd.S_reads' HO1166.out).2.1); rintro e w' ⟨rfl, ⟨nd, rfl⟩⟩))
                            go_meet
                            case rel => exact ⟨_, (true), qe, H', ⟨by have := HJ7.out; first | omega | exact Nat.le_refl _⟩, ⟨qR HO_7.out⟩, ⟨qS (Kd.S_mono HO1162.out (fun _ hk => ⟨hk.1.1.1.2, ⟨hk.1.1.2, hk.1.2⟩⟩))⟩, ⟨qR HO_1147000.out⟩, ⟨qR (Kd.R_mono HO1158.out (fun _ hk => ⟨hk.1.2, hk.2⟩))⟩, ⟨qb BK1146.out⟩, ⟨qb BK1159.out⟩, ⟨qB⟩⟩
                         ·as_aux_lemma =>
                            rw [if_neg c47] at H
                            have c47b0 : (t1163 != (decide (t1168 ≤ 500))) = false := by simpa using c47
                            (try (have c47b1 : decide (t1163 = (decide (t1168 ≤ 500))) = true := by simpa using c47))
                            (try (have c47b2 : (t1163 == (decide (t1168 ≤ 500))) = true := by simpa using c47))
                            clear c47
                            by_cases c50 : t1163 = true
                            ·as_aux_lemma =>
                               subst c50
                               have H1 : (laws_FnLinearRanked.j1 kj7 l1 t1145 t1147 t1154 t1160 ((t1160.length : Int) != t1168) t1142 t1156) = some r := by rw [if_pos rfl] at H; exact H
                               clear H
                               have H := H1
                               clear H1
                               have H' := am H
                               clear H
                               obtain ⟨Ao51, co51, eo51⟩ := Kd.S_slice HO1162.out
                               subst eo51
                               obtain ⟨Ao52, co52, eo52⟩ := Kd.S_slice HO1166.out
                               subst eo52
                               go_wp2_with (first | (go_at_call 59; (with_reducible refine (laws_oSameRows.calls kj7 _ _ t1160 _ _ t1164 true _ ?side1 ?side2 ?side3 ?side4 A40.out).mono ?_); (case side1 => exact qC (Kd.S_reads' HO1162.out).2.2); (case side2 => exact (Kd.S_reads' HO1162.out).2.1); (case side3 => exact qC (Kd.S_reads' HO1166.out).2.2); (case side4 => exact (Kd.S_reads' HO1166.out).2.1); rintro e w' ⟨rfl, ⟨nd, rfl⟩⟩))
                               go_meet
                               case rel => exact ⟨_, (((t1160.length : Int) != t1168)), qe, H', ⟨by have := HJ7.out; first | omega | exact Nat.le_refl _⟩, ⟨qR HO_7.out⟩, ⟨qS (Kd.S_mono HO1162.out (fun _ hk => ⟨hk.1.1.1.2, ⟨hk.1.1.2, hk.1.2⟩⟩))⟩, ⟨qR HO_1147000.out⟩, ⟨qR (Kd.R_mono HO1158.out (fun _ hk => ⟨hk.1.2, hk.2⟩))⟩, ⟨qb BK1146.out⟩, ⟨qb BK1159.out⟩, ⟨qB⟩⟩
                            ·as_aux_lemma =>
                               replace c50 := Bool.eq_false_iff.mpr c50
                               subst c50
                               have H1 : (laws_FnLinearRanked.j1 kj7 l1 t1145 t1147 t1154 t1160 false t1142 t1156) = some r := by rw [if_neg (show ¬ (false = true) by decide)] at H; exact H
                               clear H
                               have H := H1
                               clear H1
                               have H' := am H
                               clear H
                               obtain ⟨Ao53, co53, eo53⟩ := Kd.S_slice HO1162.out
                               subst eo53
                               obtain ⟨Ao54, co54, eo54⟩ := Kd.S_slice HO1166.out
                               subst eo54
                               go_wp2_with (first | (go_at_call 59; (with_reducible refine (laws_oSameRows.calls kj7 _ _ t1160 _ _ t1164 true _ ?side1 ?side2 ?side3 ?side4 A40.out).mono ?_); (case side1 => exact qC (Kd.S_reads' HO1162.out).2.2); (case side2 => exact (Kd.S_reads' HO1162.out).2.1); (case side3 => exact qC (Kd.S_reads' HO1166.out).2.2); (case side4 => exact (Kd.S_reads' HO1166.out).2.1); rintro e w' ⟨rfl, ⟨nd, rfl⟩⟩))
                               go_meet
                               case rel => exact ⟨_, (false), qe, H', ⟨by have := HJ7.out; first | omega | exact Nat.le_refl _⟩, ⟨qR HO_7.out⟩, ⟨qS (Kd.S_mono HO1162.out (fun _ hk => ⟨hk.1.1.1.2, ⟨hk.1.1.2, hk.1.2⟩⟩))⟩, ⟨qR HO_1147000.out⟩, ⟨qR (Kd.R_mono HO1158.out (fun _ hk => ⟨hk.1.2, hk.2⟩))⟩, ⟨qb BK1146.out⟩, ⟨qb BK1159.out⟩, ⟨qB⟩⟩
                      ·as_aux_lemma =>
                         replace c46 := Bool.eq_false_iff.mpr c46
                         subst c46
                         have H1 : (if (t1163 != false) = true then (laws_FnLinearRanked.j1 kj7 l1 t1145 t1147 t1154 t1160 true t1142 t1156) else (if t1163 = true then (laws_FnLinearRanked.j1 kj7 l1 t1145 t1147 t1154 t1160 ((t1160.length : Int) != t1168) t1142 t1156) else (laws_FnLinearRanked.j1 kj7 l1 t1145 t1147 t1154 t1160 false t1142 t1156))) = some r := by rw [if_neg (show ¬ (false = true) by decide)] at H; exact H
                         clear H
                         have H := H1
                         clear H1
                         by_cases c55 : (t1163 != false) = true
                         ·as_aux_lemma =>
                            rw [if_pos c55] at H
                            have c55b0 : (t1163 != false) = true := c55
                            (try (have c55b1 : decide (t1163 = false) = false := by simpa using c55))
                            (try (have c55b2 : (t1163 == false) = false := by simpa using c55))
                            (try (have c55b3 : ¬ (t1163 = false) := by simpa using c55))
                            clear c55
                            have H' := am H
                            clear H
                            obtain ⟨Ao56, co56, eo56⟩ := Kd.S_slice HO1162.out
                            subst eo56
                            obtain ⟨Ao57, co57, eo57⟩ := Kd.S_slice HO1166.out
                            subst eo57
                            (try (have hs_ : t1163 = true := (by simpa using c55b3); subst hs_))
                            go_wp2_with (first | (go_at_call 59; (with_reducible refine (laws_oSameRows.calls kj7 _ _ t1160 _ _ t1164 true _ ?side1 ?side2 ?side3 ?side4 A40.out).mono ?_); (case side1 => exact qC (Kd.S_reads' HO1162.out).2.2); (case side2 => exact (Kd.S_reads' HO1162.out).2.1); (case side3 => exact qC (Kd.S_reads' HO1166.out).2.2); (case side4 => exact (Kd.S_reads' HO1166.out).2.1); rintro e w' ⟨rfl, ⟨nd, rfl⟩⟩))
                            go_meet
                            case rel => exact ⟨_, (true), qe, H', ⟨by have := HJ7.out; first | omega | exact Nat.le_refl _⟩, ⟨qR HO_7.out⟩, ⟨qS (Kd.S_mono HO1162.out (fun _ hk => ⟨hk.1.1.1.2, ⟨hk.1.1.2, hk.1.2⟩⟩))⟩, ⟨qR HO_1147000.out⟩, ⟨qR (Kd.R_mono HO1158.out (fun _ hk => ⟨hk.1.2, hk.2⟩))⟩, ⟨qb BK1146.out⟩, ⟨qb BK1159.out⟩, ⟨qB⟩⟩
                         ·as_aux_lemma =>
                            rw [if_neg c55] at H
                            have c55b0 : (t1163 != false) = false := by simpa using c55
                            (try (have c55b1 : decide (t1163 = false) = true := by simpa using c55))
                            (try (have c55b2 : (t1163 == false) = true := by simpa using c55))
                            clear c55
                            by_cases c58 : t1163 = true
                            ·as_aux_lemma =>
                               subst c58
                               have H1 : (laws_FnLinearRanked.j1 kj7 l1 t1145 t1147 t1154 t1160 ((t1160.length : Int) != t1168) t1142 t1156) = some r := by rw [if_pos rfl] at H; exact H
                               clear H
                               have H := H1
                               clear H1
                               have H' := am H
                               clear H
                               obtain ⟨Ao59, co59, eo59⟩ := Kd.S_slice HO1162.out
                               subst eo59
                               obtain ⟨Ao60, co60, eo60⟩ := Kd.S_slice HO1166.out
                               subst eo60
                               go_wp2_with (first | (go_at_call 59; (with_reducible refine (laws_oSameRows.calls kj7 _ _ t1160 _ _ t1164 true _ ?side1 ?side2 ?side3 ?side4 A40.out).mono ?_); (case side1 => exact qC (Kd.S_reads' HO1162.out).2.2); (case side2 => exact (Kd.S_reads' HO1162.out).2.1); (case side3 => exact qC (Kd.S_reads' HO1166.out).2.2); (case side4 => exact (Kd.S_reads' HO1166.out).2.1); rintro e w' ⟨rfl, ⟨nd, rfl⟩⟩))
                               go_meet
                               case rel => exact ⟨_, (((t1160.length : Int) != t1168)), qe, H', ⟨by have := HJ7.out; first | omega | exact Nat.le_refl _⟩, ⟨qR HO_7.out⟩, ⟨qS (Kd.S_mono HO1162.out (fun _ hk => ⟨hk.1.1.1.2, ⟨hk.1.1.2, hk.1.2⟩⟩))⟩, ⟨qR HO_1147000.out⟩, ⟨qR (Kd.R_mono HO1158.out (fun _ hk => ⟨hk.1.2, hk.2⟩))⟩, ⟨qb BK1146.out⟩, ⟨qb BK1159.out⟩, ⟨qB⟩⟩
                            ·as_aux_lemma =>
                               replace c58 := Bool.eq_false_iff.mpr c58
                               subst c58
                               have H1 : (laws_FnLinearRanked.j1 kj7 l1 t1145 t1147 t1154 t1160 false t1142 t1156) = some r := by rw [if_neg (show ¬ (false = true) by decide)] at H; exact H
                               clear H
                               have H := H1
                               clear H1
                               have H' := am H
                               clear H
                               obtain ⟨Ao61, co61, eo61⟩ := Kd.S_slice HO1162.out
                               subst eo61
                               obtain ⟨Ao62, co62, eo62⟩ := Kd.S_slice HO1166.out
                               subst eo62
                               go_wp2_with (first | (go_at_call 59; (with_reducible refine (laws_oSameRows.calls kj7 _ _ t1160 _ _ t1164 true _ ?side1 ?side2 ?side3 ?side4 A40.out).mono ?_); (case side1 => exact qC (Kd.S_reads' HO1162.out).2.2); (case side2 => exact (Kd.S_reads' HO1162.out).2.1); (case side3 => exact qC (Kd.S_reads' HO1166.out).2.2); (case side4 => exact (Kd.S_reads' HO1166.out).2.1); rintro e w' ⟨rfl, ⟨nd, rfl⟩⟩))
                               go_meet
                               case rel => exact ⟨_, (false), qe, H', ⟨by have := HJ7.out; first | omega | exact Nat.le_refl _⟩, ⟨qR HO_7.out⟩, ⟨qS (Kd.S_mono HO1162.out (fun _ hk => ⟨hk.1.1.1.2, ⟨hk.1.1.2, hk.1.2⟩⟩))⟩, ⟨qR HO_1147000.out⟩, ⟨qR (Kd.R_mono HO1158.out (fun _ hk => ⟨hk.1.2, hk.2⟩))⟩, ⟨qb BK1146.out⟩, ⟨qb BK1159.out⟩, ⟨qB⟩⟩
                   ·as_aux_lemma =>
                      rw [if_neg c45] at H
                      have c45b0 : (t1168 == t1170) = false := beq_eq_false_iff_ne.mpr c45
                      have c45b1 : (t1168 != t1170) = true := bne_iff_ne.mpr c45
                      have H' := am H
                      clear H
                      obtain ⟨Ao63, co63, eo63⟩ := Kd.S_slice HO1162.out
                      subst eo63
                      obtain ⟨Ao64, co64, eo64⟩ := Kd.S_slice HO1166.out
                      subst eo64
                      go_wp2_with (first | (go_at_call 59; (with_reducible refine (laws_oSameRows.calls kj7 _ _ t1160 _ _ t1164 true _ ?side1 ?side2 ?side3 ?side4 A40.out).mono ?_); (case side1 => exact qC (Kd.S_reads' HO1162.out).2.2); (case side2 => exact (Kd.S_reads' HO1162.out).2.1); (case side3 => exact qC (Kd.S_reads' HO1166.out).2.2); (case side4 => exact (Kd.S_reads' HO1166.out).2.1); rintro e w' ⟨rfl, ⟨nd, rfl⟩⟩))
                      go_meet
                      case rel => exact ⟨_, (true), qe, H', ⟨by have := HJ7.out; first | omega | exact Nat.le_refl _⟩, ⟨qR HO_7.out⟩, ⟨qS (Kd.S_mono HO1162.out (fun _ hk => ⟨hk.1.1.1.2, ⟨hk.1.1.2, hk.1.2⟩⟩))⟩, ⟨qR HO_1147000.out⟩, ⟨qR (Kd.R_mono HO1158.out (fun _ hk => ⟨hk.1.2, hk.2⟩))⟩, ⟨qb BK1146.out⟩, ⟨qb BK1159.out⟩, ⟨qB⟩⟩
             ·as_aux_lemma =>
                replace c41 := Bool.eq_false_iff.mpr c41
                subst c41
                have H1 : (laws_FnLinearRanked.j1 kj7 l1 t1145 t1147 t1154 t1160 true t1142 t1156) = some r := by rw [if_neg (show ¬ (false = true) by decide)] at H; exact H
                clear H
                have H := H1
                clear H1
                have H' := am H
                clear H
                obtain ⟨Ao65, co65, eo65⟩ := Kd.S_slice HO1162.out
                subst eo65
                obtain ⟨Ao66, co66, eo66⟩ := Kd.S_slice HO1166.out
                subst eo66
                go_wp2_with (first | (go_at_call 59; (with_reducible refine (laws_oSameRows.calls kj7 _ _ t1160 _ _ t1164 false _ ?side1 ?side2 ?side3 ?side4 A40.out).mono ?_); (case side1 => exact qC (Kd.S_reads' HO1162.out).2.2); (case side2 => exact (Kd.S_reads' HO1162.out).2.1); (case side3 => exact qC (Kd.S_reads' HO1166.out).2.2); (case side4 => exact (Kd.S_reads' HO1166.out).2.1); rintro e w' ⟨rfl, ⟨nd, rfl⟩⟩))
                go_meet
                case rel => exact ⟨_, (true), qe, H', ⟨by have := HJ7.out; first | omega | exact Nat.le_refl _⟩, ⟨qR HO_7.out⟩, ⟨qS (Kd.S_mono HO1162.out (fun _ hk => ⟨hk.1.1.1.2, ⟨hk.1.1.2, hk.1.2⟩⟩))⟩, ⟨qR HO_1147000.out⟩, ⟨qR (Kd.R_mono HO1158.out (fun _ hk => ⟨hk.1.2, hk.2⟩))⟩, ⟨qb BK1146.out⟩, ⟨qb BK1159.out⟩, ⟨qB⟩⟩
         case rest =>
          clear HC26
          try clear c1
          try clear c2
          try clear p2
          try clear c3
          try clear c4
          try clear c5
          try clear c6
          try clear c7
          try clear c16
          try clear c16b0
          try clear c16b1
          try clear c16b2
          try clear c20
          try clear c30
          try clear c39
          try clear c39b0
          try clear c39b1
          try clear c39b2
          try clear c41
          try clear c42
          try clear c42b0
          try clear c42b1
          try clear c42b2
          try clear c45
          try clear c45b0
          try clear c45b1
          try clear c46
          try clear c47
          try clear c47b0
          try clear c47b1
          try clear c47b2
          try clear c50
          try clear c52
          try clear c53
          try clear c54
          try clear c55
          try clear c55b0
          try clear c55b1
          try clear c55b2
          try clear c56
          try clear c57
          try clear c58
          try clear hcz12_0
          try clear hcz14_0
          try clear hcz31_0
          try clear hcz33_0
          try clear hcz35_0
          try clear hcz37_0
          try clear hfz12_0
          try clear hfz14_0
          try clear hfz31_0
          try clear hfz33_0
          try clear hfz35_0
          try clear hfz37_0
          try clear p2
          obtain ⟨kq, x119_25, rfl, HA, HJ25, HO_7, HO_12, HO_1147000, HO_1160000, BK1146, BK1159, HB⟩ := hcut
          cases kq with
          | zero => exact absurd HA.out (by simp [laws_FnLinearRanked.j1])
          | succ kj25 =>
           have H := HA.out
           clear HA
           simp only [laws_FnLinearRanked.j1] at H
           by_cases c67 : x119_25 = true
           ·subst c67
            have H1 : (some false) = some r := by rw [if_pos rfl] at H; exact H
            clear H
            have H := H1
            clear H1
            obtain rfl := Option.some.inj H
            go_wp2
            go_ret
            exact ⟨qr, qB⟩
           ·as_aux_lemma =>
              replace c67 := Bool.eq_false_iff.mpr c67
              subst c67
              have H1 : (laws_FnLinearRanked.l0 kj25 l1 t1145 t1147 t1154 t1160 t1160 (t1160.length : Int) 0 t1142 t1156) = some r := by rw [if_neg (show ¬ (false = true) by decide)] at H; exact H
              clear H
              have H := H1
              clear H1
              have H' := am H
              clear H
              obtain ⟨Ao68, co68, eo68⟩ := Kd.S_slice HO_12.out
              subst eo68
              go_wp2
              go_loopg [122] kj25 (fun kq v122 w' => ∃ (x122_3 : Int), v122 = .int .i64 x122_3 ∧ Aside0 (laws_FnLinearRanked.l0 kq l1 t1145 t1147 t1154 t1160 t1160 (t1160.length : Int) x122_3 t1142 t1156 = some r) ∧ Aside0 (kq ≤ kj25) ∧ Aside0 (Kd.R (Kd.int .i64) 3 w' w.heap.size (fun k_ => some k_ ≠ ((.slice Ao11 t1142.length co11) : Value).ownBlock ∧ some k_ ≠ ((.slice Ao29 t1156.length co29) : Value).ownBlock) v1148 t1147) ∧ Aside0 (Kd.S (Kd.slice 3 (Kd.int .i64)) 24 w' w.heap.size (fun k_ => some k_ ≠ (v1148 : Value).ownBlock ∧ some k_ ≠ ((.slice Ao11 t1142.length co11) : Value).ownBlock ∧ some k_ ≠ ((.slice Ao29 t1156.length co29) : Value).ownBlock) (.slice Ao68 t1160.length co68) t1160) ∧ Aside0 (Kd.S (Kd.slice 3 (Kd.int .i64)) 24 w' w.heap.size (fun k_ => some k_ ≠ (v1148 : Value).ownBlock ∧ some k_ ≠ ((.slice Ao11 t1142.length co11) : Value).ownBlock ∧ some k_ ≠ ((.slice Ao29 t1156.length co29) : Value).ownBlock) (.slice Ao68 t1160.length co68) t1160) ∧ Aside0 (Kd.R (Kd.int .i64) 3 w' w.heap.size (fun k_ => some k_ ≠ (v1148 : Value).ownBlock ∧ some k_ ≠ ((.slice Ao29 t1156.length co29) : Value).ownBlock) (.slice Ao11 t1142.length co11) t1142) ∧ Aside0 (Kd.R (Kd.int .i64) 3 w' w.heap.size (fun k_ => some k_ ≠ (v1148 : Value).ownBlock ∧ some k_ ≠ ((.slice Ao11 t1142.length co11) : Value).ownBlock) (.slice Ao29 t1156.length co29) t1156) ∧ Aside0 (w'.heap[gb1146]? = some (.cells #[(.slice Ao11 t1142.length co11)] 26 (0, 0))) ∧ Aside0 (w'.heap[gb1159]? = some (.cells #[(.slice Ao29 t1156.length co29)] 26 (0, 0))) ∧ Aside0 (Below w.heap.size w w'))
              case atStart => exact ⟨(0), qe, H', ⟨Nat.le_refl _⟩, ⟨qR HO_7.out⟩, ⟨qS HO_12.out⟩, ⟨qS HO_12.out⟩, ⟨qR HO_1147000.out⟩, ⟨qR HO_1160000.out⟩, ⟨qb BK1146.out⟩, ⟨qb BK1159.out⟩, ⟨qB⟩⟩
              case round =>
               clear H'
               try clear c1
               try clear c2
               try clear p2
               try clear c3
               try clear c4
               try clear c5
               try clear c6
               try clear c7
               try clear c16
               try clear c16b0
               try clear c16b1
               try clear c16b2
               try clear c20
               try clear c30
               try clear c39
               try clear c39b0
               try clear c39b1
               try clear c39b2
               try clear c41
               try clear c42
               try clear c42b0
               try clear c42b1
               try clear c42b2
               try clear c45
               try clear c45b0
               try clear c45b1
               try clear c46
               try clear c47
               try clear c47b0
               try clear c47b1
               try clear c47b2
               try clear c50
               try clear c52
               try clear c53
               try clear c54
               try clear c55
               try clear c55b0
               try clear c55b1
               try clear c55b2
               try clear c56
               try clear c57
               try clear c58
               try clear c67
               try clear hcz12_0
               try clear hcz14_0
               try clear hcz31_0
               try clear hcz33_0
               try clear hcz35_0
               try clear hcz37_0
               try clear hfz12_0
               try clear hfz14_0
               try clear hfz31_0
               try clear hfz33_0
               try clear hfz35_0
               try clear hfz37_0
               try clear p2
               obtain ⟨x122_3, rfl, HA, HK3, HO_7, HO_12, HO_120, HO_1147000, HO_1160000, BK1146, BK1159, HB⟩ := hrel
               cases gk with
               | zero => exact absurd HA.out (by simp [laws_FnLinearRanked.l0])
               | succ k3 =>
                have H := HA.out
                clear HA
                simp only [laws_FnLinearRanked.l0] at H
                by_cases c69 : x122_3 < (t1160.length : Int)
                ·as_aux_lemma =>
                   rw [if_pos c69] at H
                   have c69b0 := decide_eq_true c69
                   clear c69
                   by_cases c70 : 0 ≤ x122_3
                   ·as_aux_lemma =>
                      rw [if_pos c70] at H
                      have c70b0 := decide_eq_true c70
                      clear c70
                      by_cases c71 : x122_3 < (t1160.length : Int)
                      ·as_aux_lemma =>
                         rw [if_pos c71] at H
                         have c71b0 := decide_eq_true c71
                         clear c71
                         replace H := Option.bind_eq_some_iff.mp H
                         obtain ⟨t1174, A720, H⟩ := H
                         replace H : (if t1174 = true then (if x122_3 > 0 then (if 0 ≤ (wrap64 (x122_3 - 1)) then (if (wrap64 (x122_3 - 1)) < (t1160.length : Int) then ((laws_oLess.f k3 (rd_L1 t1160 (wrap64 (x122_3 - 1))) (rd_L1 t1160 x122_3)).bind fun t1176 => (if t1176 = true then (laws_FnLinearRanked.l0 k3 l1 t1145 t1147 t1154 t1160 t1160 (t1160.length : Int) (wrap64 (x122_3 + 1)) t1142 t1156) else (some false))) else (none)) else (none)) else (laws_FnLinearRanked.l0 k3 l1 t1145 t1147 t1154 t1160 t1160 (t1160.length : Int) (wrap64 (x122_3 + 1)) t1142 t1156)) else (some false)) = some r := H
                         have A72 := am A720
                         clear A720
                         by_cases c73 : t1174 = true
                         ·as_aux_lemma =>
                            subst c73
                            have H1 : (if x122_3 > 0 then (if 0 ≤ (wrap64 (x122_3 - 1)) then (if (wrap64 (x122_3 - 1)) < (t1160.length : Int) then ((laws_oLess.f k3 (rd_L1 t1160 (wrap64 (x122_3 - 1))) (rd_L1 t1160 x122_3)).bind fun t1176 => (if t1176 = true then (laws_FnLinearRanked.l0 k3 l1 t1145 t1147 t1154 t1160 t1160 (t1160.length : Int) (wrap64 (x122_3 + 1)) t1142 t1156) else (some false))) else (none)) else (none)) else (laws_FnLinearRanked.l0 k3 l1 t1145 t1147 t1154 t1160 t1160 (t1160.length : Int) (wrap64 (x122_3 + 1)) t1142 t1156)) = some r := by rw [if_pos rfl] at H; exact H
                            clear H
                            have H := H1
                            clear H1
                            by_cases c74 : x122_3 > 0
                            ·as_aux_lemma =>
                               rw [if_pos c74] at H
                               have c74b0 : decide (0 < x122_3) = true := decide_eq_true c74
                               clear c74
                               obtain ⟨ji75, hji75⟩ : ∃ j_ : Int, (wrap64 (x122_3 - 1)) = j_ := ⟨_, rfl⟩
                               replace H : (if 0 ≤ (ji75) then (if (ji75) < (t1160.length : Int) then ((laws_oLess.f k3 (rd_L1 t1160 (ji75)) (rd_L1 t1160 x122_3)).bind fun t1176 => (if t1176 = true then (laws_FnLinearRanked.l0 k3 l1 t1145 t1147 t1154 t1160 t1160 (t1160.length : Int) (wrap64 (x122_3 + 1)) t1142 t1156) else (some false))) else (none)) else (none)) = some r := by first | (rw [hji75] at H; exact H) | (simp only [hji75] at H ⊢; exact H)
                               (try rw [hji75] at A72)
                               have hji75w : (IntKind.i64.wrap (x122_3 - 1)) = ji75 := (i64_w _).trans hji75
                               by_cases c76 : 0 ≤ (ji75)
                               ·as_aux_lemma =>
                                  rw [if_pos c76] at H
                                  have c76b0 := decide_eq_true c76
                                  clear c76
                                  by_cases c77 : (ji75) < (t1160.length : Int)
                                  ·as_aux_lemma =>
                                     rw [if_pos c77] at H
                                     have c77b0 := decide_eq_true c77
                                     clear c77
                                     replace H := Option.bind_eq_some_iff.mp H
                                     obtain ⟨t1176, A780, H⟩ := H
                                     replace H : (if t1176 = true then (laws_FnLinearRanked.l0 k3 l1 t1145 t1147 t1154 t1160 t1160 (t1160.length : Int) (wrap64 (x122_3 + 1)) t1142 t1156) else (some false)) = some r := H
                                     have A78 := am A780
                                     clear A780
                                     by_cases c79 : t1176 = true
                                     ·as_aux_lemma =>
                                        subst c79
                                        have H1 : (laws_FnLinearRanked.l0 k3 l1 t1145 t1147 t1154 t1160 t1160 (t1160.length : Int) (wrap64 (x122_3 + 1)) t1142 t1156) = some r := by rw [if_pos rfl] at H; exact H
                                        clear H
                                        have H := H1
                                        clear H1
                                        have H' := am H
                                        clear H
                                        have p1173 : 0 ≤ (x122_3 : Int) := qd
                                        have q1173 : x122_3 < (t1160.length : Int) := qd
                                        obtain ⟨ad1173, A1173_0, c1173_0, e1173, hx1173_0, hl1173_0, hi1173_0⟩ := at_L1 (Kd.S_reads' HO_120.out).2.2 x122_3 p1173 q1173
                                        cases e1173
                                        obtain ⟨ce1173, hce1173, hMe1173, hcc1173⟩ := Kd.S_get HO_120.out [] x122_3 p1173 (by first | exact q1173 | exact qd | (have e_ := (Kd.S_reads' HO_120.out).1; omega))
                                        obtain ⟨ve1173_0, rfl, ge1173_0⟩ := hMe1173
                                        have hv1173_0 := hcc1173 0 _ rfl
                                        rw [Nat.add_zero, show ((Kd.slice 3 (Kd.int .i64))).sz = 1 from rfl, Nat.mul_one] at hv1173_0
                                        replace hv1173_0 := Option.some.inj (hv1173_0.symm.trans hx1173_0)
                                        rw [hv1173_0] at ge1173_0
                                        have HL1173_0 := am (show Kd.R (Kd.int .i64) 3 _ _ _ _ (rd_L1 t1160 x122_3) from ge1173_0)
                                        clear hv1173_0 ge1173_0
                                        clear hcc1173 hce1173
                                        have HR1173_0 := am hi1173_0
                                        have HC1173_0 := am hl1173_0
                                        clear hi1173_0 hl1173_0
                                        replace p1173 := eq_true p1173
                                        replace q1173 := eq_true q1173
                                        have hnb80 := NB1159_1146.out
                                        have hnc80 := NB1146_1159.out
                                        have hcz81_0 := qz wr BK1159.out
                                        have hfz81_0 := blk_frozen BK1159.out 0
                                        go_wp2_with (first | ((with_reducible refine gate_callee (f := 60) rfl ?_); refine gL (some 129) Try.func60 #[.agg #[.slice Ao29 t1156.length co29], .slice A1173_0 (rd_L1 t1160 x122_3).length c1173_0] ?_; (with_reducible refine (laws_oLinear.calls k3 _ _ t1156 _ _ (rd_L1 t1160 x122_3) true _ ?side1 ?side2 ?side3 ?side4 A72.out).mono ?_); (case side1 => exact qC (Kd.R_reads' HO_1160000.out).2.2); (case side2 => exact (Kd.R_reads' HO_1160000.out).2.1); (case side3 => exact qC (by repeat (first | (with_reducible exact HR1173_0.out) | (with_reducible refine Kd.C_alloc ?_ _) | (with_reducible refine Kd.C_drewN ?_ _) | (with_reducible refine Kd.C_drew ?_) | exact HR1173_0.out))); (case side4 => exact HC1173_0.out); rintro e w82 ⟨rfl, hb⟩; refine ⟨_, rfl, ?_⟩; replace HO_7 := am (Kd.R_below (qR HO_7.out) hb); replace HO_12 := am (Kd.S_below (qS HO_12.out) hb); replace HO_120 := am (Kd.S_below (qS HO_120.out) hb); replace HO_1147000 := am (Kd.R_below (qR HO_1147000.out) hb); replace HO_1160000 := am (Kd.R_below (qR HO_1160000.out) hb); replace HL1173_0 := am (Kd.R_below (qR HL1173_0.out) hb); replace BK1146 := am (blk_below (g := gb1146) (o := .cells #[.slice Ao11 t1142.length co11] 26 (0, 0)) (qb BK1146.out) hb); replace BK1159 := am (blk_below (g := gb1159) (o := .cells #[.slice Ao29 t1156.length co29] 26 (0, 0)) (qb BK1159.out) hb); replace HR1173_0 := am (Kd.C_below (by repeat (first | (with_reducible exact HR1173_0.out) | (with_reducible refine Kd.C_alloc ?_ _) | (with_reducible refine Kd.C_drewN ?_ _) | (with_reducible refine Kd.C_drew ?_) | exact HR1173_0.out)) hb); replace HB := am (below_step qB hb); (try clear hb); (try clear hb2); (try clear hk); (try clear hi); have p1175 : 0 ≤ ((ji75) : Int) := qd; have q1175 : (ji75) < (t1160.length : Int) := qd; obtain ⟨ad1175, A1175_0, c1175_0, e1175, hx1175_0, hl1175_0, hi1175_0⟩ := at_L1 (Kd.S_reads' HO_12.out).2.2 (ji75) p1175 q1175; obtain rfl : ad1173 = ad1175 := (by injection e1175); obtain ⟨ce1175, hce1175, hMe1175, hcc1175⟩ := Kd.S_get HO_12.out [] (ji75) p1175 (by first | exact q1175 | exact qd | (have e_ := (Kd.S_reads' HO_12.out).1; omega)); obtain ⟨ve1175_0, rfl, ge1175_0⟩ := hMe1175; have hv1175_0 := hcc1175 0 _ rfl; rw [Nat.add_zero, show ((Kd.slice 3 (Kd.int .i64))).sz = 1 from rfl, Nat.mul_one] at hv1175_0; replace hv1175_0 := Option.some.inj (hv1175_0.symm.trans hx1175_0); rw [hv1175_0] at ge1175_0; have HL1175_0 := am (show Kd.R (Kd.int .i64) 3 _ _ _ _ (rd_L1 t1160 (ji75)) from ge1175_0); clear hv1175_0 ge1175_0; clear hcc1175 hce1175; have HR1175_0 := am hi1175_0; have HC1175_0 := am hl1175_0; clear hi1175_0 hl1175_0; replace p1175 := eq_true p1175; replace q1175 := eq_true q1175) | (go_at_call 14; (with_reducible refine (laws_oLess.calls k3 _ _ (rd_L1 t1160 (ji75)) _ _ (rd_L1 t1160 x122_3) true _ ?side1 ?side2 ?side3 ?side4 A78.out).mono ?_); (case side1 => exact qC (by repeat (first | (with_reducible exact HR1175_0.out) | (with_reducible refine Kd.C_alloc ?_ _) | (with_reducible refine Kd.C_drewN ?_ _) | (with_reducible refine Kd.C_drew ?_) | exact HR1175_0.out))); (case side2 => exact HC1175_0.out); (case side3 => exact qC (by repeat (first | (with_reducible exact HR1173_0.out) | (with_reducible refine Kd.C_alloc ?_ _) | (with_reducible refine Kd.C_drewN ?_ _) | (with_reducible refine Kd.C_drew ?_) | exact HR1173_0.out))); (case side4 => exact HC1173_0.out); rintro e w' ⟨rfl, ⟨nd, rfl⟩⟩))
                                        go_roundg k3
                                        case measure => have := HJ7.out; have := HJ25.out; have := HK3.out; omega
                                        case rel => exact ⟨(wrap64 (x122_3 + 1)), qe, H', ⟨by have := HJ7.out; have := HJ25.out; have := HK3.out; omega⟩, ⟨qR HO_7.out⟩, ⟨qS HO_12.out⟩, ⟨qS HO_120.out⟩, ⟨qR HO_1147000.out⟩, ⟨qR HO_1160000.out⟩, ⟨qb BK1146.out⟩, ⟨qb BK1159.out⟩, ⟨qB⟩⟩
                                     ·as_aux_lemma =>
                                        replace c79 := Bool.eq_false_iff.mpr c79
                                        subst c79
                                        have H1 : (some false) = some r := by rw [if_neg (show ¬ (false = true) by decide)] at H; exact H
                                        clear H
                                        have H := H1
                                        clear H1
                                        obtain rfl := Option.some.inj H
                                        have p1173 : 0 ≤ (x122_3 : Int) := qd
                                        have q1173 : x122_3 < (t1160.length : Int) := qd
                                        obtain ⟨ad1173, A1173_0, c1173_0, e1173, hx1173_0, hl1173_0, hi1173_0⟩ := at_L1 (Kd.S_reads' HO_120.out).2.2 x122_3 p1173 q1173
                                        cases e1173
                                        obtain ⟨ce1173, hce1173, hMe1173, hcc1173⟩ := Kd.S_get HO_120.out [] x122_3 p1173 (by first | exact q1173 | exact qd | (have e_ := (Kd.S_reads' HO_120.out).1; omega))
                                        obtain ⟨ve1173_0, rfl, ge1173_0⟩ := hMe1173
                                        have hv1173_0 := hcc1173 0 _ rfl
                                        rw [Nat.add_zero, show ((Kd.slice 3 (Kd.int .i64))).sz = 1 from rfl, Nat.mul_one] at hv1173_0
                                        replace hv1173_0 := Option.some.inj (hv1173_0.symm.trans hx1173_0)
                                        rw [hv1173_0] at ge1173_0
                                        have HL1173_0 := am (show Kd.R (Kd.int .i64) 3 _ _ _ _ (rd_L1 t1160 x122_3) from ge1173_0)
                                        clear hv1173_0 ge1173_0
                                        clear hcc1173 hce1173
                                        have HR1173_0 := am hi1173_0
                                        have HC1173_0 := am hl1173_0
                                        clear hi1173_0 hl1173_0
                                        replace p1173 := eq_true p1173
                                        replace q1173 := eq_true q1173
                                        have hnb83 := NB1159_1146.out
                                        have hnc83 := NB1146_1159.out
                                        have hcz84_0 := qz wr BK1159.out
                                        have hfz84_0 := blk_frozen BK1159.out 0
                                        go_wp2_with (first | ((with_reducible refine gate_callee (f := 60) rfl ?_); refine gL (some 129) Try.func60 #[.agg #[.slice Ao29 t1156.length co29], .slice A1173_0 (rd_L1 t1160 x122_3).length c1173_0] ?_; (with_reducible refine (laws_oLinear.calls k3 _ _ t1156 _ _ (rd_L1 t1160 x122_3) true _ ?side1 ?side2 ?side3 ?side4 A72.out).mono ?_); (case side1 => exact qC (Kd.R_reads' HO_1160000.out).2.2); (case side2 => exact (Kd.R_reads' HO_1160000.out).2.1); (case side3 => exact qC (by repeat (first | (with_reducible exact HR1173_0.out) | (with_reducible refine Kd.C_alloc ?_ _) | (with_reducible refine Kd.C_drewN ?_ _) | (with_reducible refine Kd.C_drew ?_) | exact HR1173_0.out))); (case side4 => exact HC1173_0.out); rintro e w85 ⟨rfl, hb⟩; refine ⟨_, rfl, ?_⟩; replace HO_7 := am (Kd.R_below (qR HO_7.out) hb); replace HO_12 := am (Kd.S_below (qS HO_12.out) hb); replace HO_120 := am (Kd.S_below (qS HO_120.out) hb); replace HO_1147000 := am (Kd.R_below (qR HO_1147000.out) hb); replace HO_1160000 := am (Kd.R_below (qR HO_1160000.out) hb); replace HL1173_0 := am (Kd.R_below (qR HL1173_0.out) hb); replace BK1146 := am (blk_below (g := gb1146) (o := .cells #[.slice Ao11 t1142.length co11] 26 (0, 0)) (qb BK1146.out) hb); replace BK1159 := am (blk_below (g := gb1159) (o := .cells #[.slice Ao29 t1156.length co29] 26 (0, 0)) (qb BK1159.out) hb); replace HR1173_0 := am (Kd.C_below (by repeat (first | (with_reducible exact HR1173_0.out) | (with_reducible refine Kd.C_alloc ?_ _) | (with_reducible refine Kd.C_drewN ?_ _) | (with_reducible refine Kd.C_drew ?_) | exact HR1173_0.out)) hb); replace HB := am (below_step qB hb); (try clear hb); (try clear hb2); (try clear hk); (try clear hi); have p1175 : 0 ≤ ((ji75) : Int) := qd; have q1175 : (ji75) < (t1160.length : Int) := qd; obtain ⟨ad1175, A1175_0, c1175_0, e1175, hx1175_0, hl1175_0, hi1175_0⟩ := at_L1 (Kd.S_reads' HO_12.out).2.2 (ji75) p1175 q1175; obtain rfl : ad1173 = ad1175 := (by injection e1175); obtain ⟨ce1175, hce1175, hMe1175, hcc1175⟩ := Kd.S_get HO_12.out [] (ji75) p1175 (by first | exact q1175 | exact qd | (have e_ := (Kd.S_reads' HO_12.out).1; omega)); obtain ⟨ve1175_0, rfl, ge1175_0⟩ := hMe1175; have hv1175_0 := hcc1175 0 _ rfl; rw [Nat.add_zero, show ((Kd.slice 3 (Kd.int .i64))).sz = 1 from rfl, Nat.mul_one] at hv1175_0; replace hv1175_0 := Option.some.inj (hv1175_0.symm.trans hx1175_0); rw [hv1175_0] at ge1175_0; have HL1175_0 := am (show Kd.R (Kd.int .i64) 3 _ _ _ _ (rd_L1 t1160 (ji75)) from ge1175_0); clear hv1175_0 ge1175_0; clear hcc1175 hce1175; have HR1175_0 := am hi1175_0; have HC1175_0 := am hl1175_0; clear hi1175_0 hl1175_0; replace p1175 := eq_true p1175; replace q1175 := eq_true q1175) | (go_at_call 14; (with_reducible refine (laws_oLess.calls k3 _ _ (rd_L1 t1160 (ji75)) _ _ (rd_L1 t1160 x122_3) false _ ?side1 ?side2 ?side3 ?side4 A78.out).mono ?_); (case side1 => exact qC (by repeat (first | (with_reducible exact HR1175_0.out) | (with_reducible refine Kd.C_alloc ?_ _) | (with_reducible refine Kd.C_drewN ?_ _) | (with_reducible refine Kd.C_drew ?_) | exact HR1175_0.out))); (case side2 => exact HC1175_0.out); (case side3 => exact qC (by repeat (first | (with_reducible exact HR1173_0.out) | (with_reducible refine Kd.C_alloc ?_ _) | (with_reducible refine Kd.C_drewN ?_ _) | (with_reducible refine Kd.C_drew ?_) | exact HR1173_0.out))); (case side4 => exact HC1173_0.out); rintro e w' ⟨rfl, ⟨nd, rfl⟩⟩))
                                        go_ret
                                        exact ⟨by first | rfl | (simp [errW_none, errW_some] <;> rfl) | (simp only [← hji75]; first | rfl | (simp [errW_none, errW_some] <;> rfl)) | (simp [*, errW_none, errW_some] <;> rfl), qB⟩
                                  ·rw [if_neg c77] at H
                                   exact absurd H (by simp)
                               ·rw [if_neg c76] at H
                                exact absurd H (by simp)
                            ·as_aux_lemma =>
                               rw [if_neg c74] at H
                               have c74b0 : decide (0 < x122_3) = false := decide_eq_false c74
                               clear c74
                               have H' := am H
                               clear H
                               have p1173 : 0 ≤ (x122_3 : Int) := qd
                               have q1173 : x122_3 < (t1160.length : Int) := qd
                               obtain ⟨ad1173, A1173_0, c1173_0, e1173, hx1173_0, hl1173_0, hi1173_0⟩ := at_L1 (Kd.S_reads' HO_120.out).2.2 x122_3 p1173 q1173
                               cases e1173
                               obtain ⟨ce1173, hce1173, hMe1173, hcc1173⟩ := Kd.S_get HO_120.out [] x122_3 p1173 (by first | exact q1173 | exact qd | (have e_ := (Kd.S_reads' HO_120.out).1; omega))
                               obtain ⟨ve1173_0, rfl, ge1173_0⟩ := hMe1173
                               have hv1173_0 := hcc1173 0 _ rfl
                               rw [Nat.add_zero, show ((Kd.slice 3 (Kd.int .i64))).sz = 1 from rfl, Nat.mul_one] at hv1173_0
                               replace hv1173_0 := Option.some.inj (hv1173_0.symm.trans hx1173_0)
                               rw [hv1173_0] at ge1173_0
                               have HL1173_0 := am (show Kd.R (Kd.int .i64) 3 _ _ _ _ (rd_L1 t1160 x122_3) from ge1173_0)
                               clear hv1173_0 ge1173_0
                               clear hcc1173 hce1173
                               have HR1173_0 := am hi1173_0
                               have HC1173_0 := am hl1173_0
                               clear hi1173_0 hl1173_0
                               replace p1173 := eq_true p1173
                               replace q1173 := eq_true q1173
                               have hnb86 := NB1159_1146.out
                               have hnc86 := NB1146_1159.out
                               have hcz87_0 := qz wr BK1159.out
                               have hfz87_0 := blk_frozen BK1159.out 0
                               go_wp2_with (first | ((with_reducible refine gate_callee (f := 60) rfl ?_); refine gL (some 129) Try.func60 #[.agg #[.slice Ao29 t1156.length co29], .slice A1173_0 (rd_L1 t1160 x122_3).length c1173_0] ?_; (with_reducible refine (laws_oLinear.calls k3 _ _ t1156 _ _ (rd_L1 t1160 x122_3) true _ ?side1 ?side2 ?side3 ?side4 A72.out).mono ?_); (case side1 => exact qC (Kd.R_reads' HO_1160000.out).2.2); (case side2 => exact (Kd.R_reads' HO_1160000.out).2.1); (case side3 => exact qC (by repeat (first | (with_reducible exact HR1173_0.out) | (with_reducible refine Kd.C_alloc ?_ _) | (with_reducible refine Kd.C_drewN ?_ _) | (with_reducible refine Kd.C_drew ?_) | exact HR1173_0.out))); (case side4 => exact HC1173_0.out); rintro e w88 ⟨rfl, hb⟩; refine ⟨_, rfl, ?_⟩; replace HO_7 := am (Kd.R_below (qR HO_7.out) hb); replace HO_12 := am (Kd.S_below (qS HO_12.out) hb); replace HO_120 := am (Kd.S_below (qS HO_120.out) hb); replace HO_1147000 := am (Kd.R_below (qR HO_1147000.out) hb); replace HO_1160000 := am (Kd.R_below (qR HO_1160000.out) hb); replace HL1173_0 := am (Kd.R_below (qR HL1173_0.out) hb); replace BK1146 := am (blk_below (g := gb1146) (o := .cells #[.slice Ao11 t1142.length co11] 26 (0, 0)) (qb BK1146.out) hb); replace BK1159 := am (blk_below (g := gb1159) (o := .cells #[.slice Ao29 t1156.length co29] 26 (0, 0)) (qb BK1159.out) hb); replace HR1173_0 := am (Kd.C_below (by repeat (first | (with_reducible exact HR1173_0.out) | (with_reducible refine Kd.C_alloc ?_ _) | (with_reducible refine Kd.C_drewN ?_ _) | (with_reducible refine Kd.C_drew ?_) | exact HR1173_0.out)) hb); replace HB := am (below_step qB hb); (try clear hb); (try clear hb2); (try clear hk); (try clear hi)))
                               go_roundg k3
                               case measure => have := HJ7.out; have := HJ25.out; have := HK3.out; omega
                               case rel => exact ⟨(wrap64 (x122_3 + 1)), qe, H', ⟨by have := HJ7.out; have := HJ25.out; have := HK3.out; omega⟩, ⟨qR HO_7.out⟩, ⟨qS HO_12.out⟩, ⟨qS HO_120.out⟩, ⟨qR HO_1147000.out⟩, ⟨qR HO_1160000.out⟩, ⟨qb BK1146.out⟩, ⟨qb BK1159.out⟩, ⟨qB⟩⟩
                         ·as_aux_lemma =>
                            replace c73 := Bool.eq_false_iff.mpr c73
                            subst c73
                            have H1 : (some false) = some r := by rw [if_neg (show ¬ (false = true) by decide)] at H; exact H
                            clear H
                            have H := H1
                            clear H1
                            obtain rfl := Option.some.inj H
                            have p1173 : 0 ≤ (x122_3 : Int) := qd
                            have q1173 : x122_3 < (t1160.length : Int) := qd
                            obtain ⟨ad1173, A1173_0, c1173_0, e1173, hx1173_0, hl1173_0, hi1173_0⟩ := at_L1 (Kd.S_reads' HO_120.out).2.2 x122_3 p1173 q1173
                            cases e1173
                            obtain ⟨ce1173, hce1173, hMe1173, hcc1173⟩ := Kd.S_get HO_120.out [] x122_3 p1173 (by first | exact q1173 | exact qd | (have e_ := (Kd.S_reads' HO_120.out).1; omega))
                            obtain ⟨ve1173_0, rfl, ge1173_0⟩ := hMe1173
                            have hv1173_0 := hcc1173 0 _ rfl
                            rw [Nat.add_zero, show ((Kd.slice 3 (Kd.int .i64))).sz = 1 from rfl, Nat.mul_one] at hv1173_0
                            replace hv1173_0 := Option.some.inj (hv1173_0.symm.trans hx1173_0)
                            rw [hv1173_0] at ge1173_0
                            have HL1173_0 := am (show Kd.R (Kd.int .i64) 3 _ _ _ _ (rd_L1 t1160 x122_3) from ge1173_0)
                            clear hv1173_0 ge1173_0
                            clear hcc1173 hce1173
                            have HR1173_0 := am hi1173_0
                            have HC1173_0 := am hl1173_0
                            clear hi1173_0 hl1173_0
                            replace p1173 := eq_true p1173
                            replace q1173 := eq_true q1173
                            have hnb89 := NB1159_1146.out
                            have hnc89 := NB1146_1159.out
                            have hcz90_0 := qz wr BK1159.out
                            have hfz90_0 := blk_frozen BK1159.out 0
                            go_wp2_with (first | ((with_reducible refine gate_callee (f := 60) rfl ?_); refine gL (some 129) Try.func60 #[.agg #[.slice Ao29 t1156.length co29], .slice A1173_0 (rd_L1 t1160 x122_3).length c1173_0] ?_; (with_reducible refine (laws_oLinear.calls k3 _ _ t1156 _ _ (rd_L1 t1160 x122_3) false _ ?side1 ?side2 ?side3 ?side4 A72.out).mono ?_); (case side1 => exact qC (Kd.R_reads' HO_1160000.out).2.2); (case side2 => exact (Kd.R_reads' HO_1160000.out).2.1); (case side3 => exact qC (by repeat (first | (with_reducible exact HR1173_0.out) | (with_reducible refine Kd.C_alloc ?_ _) | (with_reducible refine Kd.C_drewN ?_ _) | (with_reducible refine Kd.C_drew ?_) | exact HR1173_0.out))); (case side4 => exact HC1173_0.out); rintro e w91 ⟨rfl, hb⟩; refine ⟨_, rfl, ?_⟩; replace HO_7 := am (Kd.R_below (qR HO_7.out) hb); replace HO_12 := am (Kd.S_below (qS HO_12.out) hb); replace HO_120 := am (Kd.S_below (qS HO_120.out) hb); replace HO_1147000 := am (Kd.R_below (qR HO_1147000.out) hb); replace HO_1160000 := am (Kd.R_below (qR HO_1160000.out) hb); replace HL1173_0 := am (Kd.R_below (qR HL1173_0.out) hb); replace BK1146 := am (blk_below (g := gb1146) (o := .cells #[.slice Ao11 t1142.length co11] 26 (0, 0)) (qb BK1146.out) hb); replace BK1159 := am (blk_below (g := gb1159) (o := .cells #[.slice Ao29 t1156.length co29] 26 (0, 0)) (qb BK1159.out) hb); replace HR1173_0 := am (Kd.C_below (by repeat (first | (with_reducible exact HR1173_0.out) | (with_reducible refine Kd.C_alloc ?_ _) | (with_reducible refine Kd.C_drewN ?_ _) | (with_reducible refine Kd.C_drew ?_) | exact HR1173_0.out)) hb); replace HB := am (below_step qB hb); (try clear hb); (try clear hb2); (try clear hk); (try clear hi)))
                            go_ret
                            exact ⟨qr, qB⟩
                      ·rw [if_neg c71] at H
                       exact absurd H (by simp)
                   ·rw [if_neg c70] at H
                    exact absurd H (by simp)
                ·as_aux_lemma =>
                   rw [if_neg c69] at H
                   have c69b0 := decide_eq_false c69
                   clear c69
                   replace H := Option.bind_eq_some_iff.mp H
                   obtain ⟨⟨t1177, t1180⟩, A920, H⟩ := H
                   replace H : ((impl_RankLinear.f k3 t1177 t1180).bind fun bt1184 => ((spec_RankLinear.f k3 t1177 t1180).bind fun bt1186 => (if (bt1184.2 != bt1186.2) = true then (laws_FnLinearRanked.j3 k3 t1145 t1147 t1154 t1180 bt1184.1 bt1184.2 true t1142 t1177) else (if bt1184.1 = bt1186.1 then ((laws_oLinear.f k3 t1177 t1180).bind fun t1188 => (laws_FnLinearRanked.j3 k3 t1145 t1147 t1154 t1180 bt1184.1 bt1184.2 (bt1184.2 != t1188) t1142 t1177)) else (laws_FnLinearRanked.j3 k3 t1145 t1147 t1154 t1180 bt1184.1 bt1184.2 true t1142 t1177))))) = some r := H
                   have A92 := am A920
                   clear A920
                   replace H := Option.bind_eq_some_iff.mp H
                   obtain ⟨⟨t1184, t1185⟩, A930, H⟩ := H
                   replace H : ((spec_RankLinear.f k3 t1177 t1180).bind fun bt1186 => (if (t1185 != bt1186.2) = true then (laws_FnLinearRanked.j3 k3 t1145 t1147 t1154 t1180 t1184 t1185 true t1142 t1177) else (if t1184 = bt1186.1 then ((laws_oLinear.f k3 t1177 t1180).bind fun t1188 => (laws_FnLinearRanked.j3 k3 t1145 t1147 t1154 t1180 t1184 t1185 (t1185 != t1188) t1142 t1177)) else (laws_FnLinearRanked.j3 k3 t1145 t1147 t1154 t1180 t1184 t1185 true t1142 t1177)))) = some r := H
                   have A93 := am A930
                   clear A930
                   replace H := Option.bind_eq_some_iff.mp H
                   obtain ⟨⟨t1186, t1187⟩, A940, H⟩ := H
                   replace H : (if (t1185 != t1187) = true then (laws_FnLinearRanked.j3 k3 t1145 t1147 t1154 t1180 t1184 t1185 true t1142 t1177) else (if t1184 = t1186 then ((laws_oLinear.f k3 t1177 t1180).bind fun t1188 => (laws_FnLinearRanked.j3 k3 t1145 t1147 t1154 t1180 t1184 t1185 (t1185 != t1188) t1142 t1177)) else (laws_FnLinearRanked.j3 k3 t1145 t1147 t1154 t1180 t1184 t1185 true t1142 t1177))) = some r := H
                   have A94 := am A940
                   clear A940
                   have HC95 := am H
                   clear H
                   go_upto_region 24 with (first | ((with_reducible refine gate_callee (f := 61) rfl ?_); refine gL (some 148) Try.func61 #[.slice A1 l1.length c1] ?_; (with_reducible refine (spec_DrawRankLinear.calls k3 _ _ l1 t1177 t1180 _ ?side1 ?side2 A92.out).mono ?_); (case side1 => exact qC (Kd.C_below HR1.out HB.out)); (case side2 => exact HC1.out); rintro e w96 ⟨v1178, v1181, rfl, ho0, ho1, hb⟩; refine ⟨_, rfl, ?_⟩; have n0_ := am (Kd.R_mono (Kd.R_told (Kd.R_told (Kd.R_old (qR HO_7.out) hb) (Kd.R_base ho0)) (Kd.R_base ho1)) (fun _ h_ => h_.1)); replace HO_12 := am (Kd.S_mono (Kd.S_told (Kd.S_told (Kd.S_old (qS HO_12.out) hb) (Kd.R_base ho0)) (Kd.R_base ho1)) (fun _ h_ => h_.1)); replace HO_120 := am (Kd.S_mono (Kd.S_told (Kd.S_told (Kd.S_old (qS HO_120.out) hb) (Kd.R_base ho0)) (Kd.R_base ho1)) (fun _ h_ => h_.1)); have n3_ := am (Kd.R_mono (Kd.R_told (Kd.R_told (Kd.R_old (qR HO_1147000.out) hb) (Kd.R_base ho0)) (Kd.R_base ho1)) (fun _ h_ => h_.1)); have n4_ := am (Kd.R_mono (Kd.R_told (Kd.R_told (Kd.R_old (qR HO_1160000.out) hb) (Kd.R_base ho0)) (Kd.R_base ho1)) (fun _ h_ => h_.1)); have HO1179 := am (Kd.R_lower (Kd.R_new' (Kd.R_new' (Kd.R_new' ho0 (Kd.R_lt (qR HO_7.out))) (Kd.R_lt (qR HO_1147000.out))) (Kd.R_lt (qR HO_1160000.out))) (below_size qB)); have HO1182 := am (Kd.R_lower (Kd.R_new' (Kd.R_new' (Kd.R_new' ho1 (Kd.R_lt (qR HO_7.out))) (Kd.R_lt (qR HO_1147000.out))) (Kd.R_lt (qR HO_1160000.out))) (below_size qB)); replace BK1146 := am (blk_below (g := gb1146) (o := .cells #[.slice Ao11 t1142.length co11] 26 (0, 0)) (qb BK1146.out) hb); replace BK1159 := am (blk_below (g := gb1159) (o := .cells #[.slice Ao29 t1156.length co29] 26 (0, 0)) (qb BK1159.out) hb); replace HB := am (below_step qB hb); clear HO_7 HO_1147000 HO_1160000; have HO_7 := n0_; have HO_1147000 := n3_; have HO_1160000 := n4_; clear n0_ n3_ n4_; (try clear hb); (try clear hb2); (try clear hk); (try clear hi); (try clear ho0); (try clear ho1)) | ((with_reducible refine gate_dst (N := 22) rfl ?_); refine qx (N := 22) (cs := #[.slice none 0 0]) (t := 26) ?_; intro gb1183 hg w97 hbox hb; replace HO_7 := am (Kd.R_below (qR HO_7.out) hb); replace HO_12 := am (Kd.S_below (qS HO_12.out) hb); replace HO_120 := am (Kd.S_below (qS HO_120.out) hb); replace HO_1147000 := am (Kd.R_below (qR HO_1147000.out) hb); replace HO_1160000 := am (Kd.R_below (qR HO_1160000.out) hb); replace HO1179 := am (Kd.R_below (qR HO1179.out) hb); replace HO1182 := am (Kd.R_below (qR HO1182.out) hb); have n7_ := am (blk_below (g := gb1146) (o := .cells #[.slice Ao11 t1142.length co11] 26 (0, 0)) (qb BK1146.out) hb); have n8_ := am (blk_below (g := gb1159) (o := .cells #[.slice Ao29 t1156.length co29] 26 (0, 0)) (qb BK1159.out) hb); have n9_ := am (below_step qB hb); have BK1183 := am (hbox); have GW1183 := am (qg w hg); have GE1183 := am (qg w hg); have NB1146_1183 := am ((by rw [hg]; exact Nat.ne_of_lt (blk_lt (g := gb1146) (o := .cells #[.slice Ao11 t1142.length co11] 26 (0, 0)) (qb BK1146.out)) : gb1146 ≠ gb1183)); have NB1183_1146 := am ((by rw [hg]; exact Nat.ne_of_gt (blk_lt (g := gb1146) (o := .cells #[.slice Ao11 t1142.length co11] 26 (0, 0)) (qb BK1146.out)) : gb1183 ≠ gb1146)); have NB1159_1183 := am ((by rw [hg]; exact Nat.ne_of_lt (blk_lt (g := gb1159) (o := .cells #[.slice Ao29 t1156.length co29] 26 (0, 0)) (qb BK1159.out)) : gb1159 ≠ gb1183)); have NB1183_1159 := am ((by rw [hg]; exact Nat.ne_of_gt (blk_lt (g := gb1159) (o := .cells #[.slice Ao29 t1156.length co29] 26 (0, 0)) (qb BK1159.out)) : gb1183 ≠ gb1159)); clear BK1146 BK1159 HB; have BK1146 := n7_; have BK1159 := n8_; have HB := n9_; clear n7_ n8_ n9_; clear hb hbox hg; obtain ⟨Ao98, co98, eo98⟩ := Kd.R_slice HO1179.out; subst eo98; have hnb99 := NB1183_1146.out; have hnc99 := NB1146_1183.out; have hnb100 := NB1183_1159.out; have hnc100 := NB1159_1183.out; have hcz101_0 := qz w97 BK1183.out; have hfz101_0 := blk_frozen BK1183.out 0; obtain ⟨Ao102, co102, eo102⟩ := Kd.R_slice HO1182.out; subst eo102) | ((with_reducible refine gate_callee (f := 62) rfl ?_); refine gL (some 154) Try.func62 #[.agg #[.slice Ao98 t1177.length co98], .slice Ao102 t1180.length co102] ?_; (with_reducible refine (impl_RankLinear.calls k3 _ _ t1177 _ _ t1180 t1184 t1185 _ ?side1 ?side2 ?side3 ?side4 A93.out).mono ?_); (case side1 => refine (Kd.R_reads' (e := 3) (base := w.heap.size) (ok := fun k_ => (((some k_ ≠ (.slice Ao102 t1180.length co102 : Value).ownBlock ∧ some k_ ≠ (v1148 : Value).ownBlock) ∧ some k_ ≠ (.slice Ao11 t1142.length co11 : Value).ownBlock) ∧ some k_ ≠ (.slice Ao29 t1156.length co29 : Value).ownBlock)) (n := t1177.length) (c := co98) ?_).2.2; exact (qR ((Kd.R_mono (Kd.R_far (p := ⟨gb1183, 0, none⟩) (Kd.R_types HO1179.out BK1183.out (by decide)) (fun _ hk => hk.2) (.slice Ao98 t1177.length co98)) (fun _ h_ => h_.1))))); (case side2 => exact (Kd.R_reads' HO1179.out).2.1); (case side3 => refine (Kd.R_reads' (e := 3) (base := w.heap.size) (ok := fun k_ => (((some k_ ≠ (.slice Ao98 t1177.length co98 : Value).ownBlock ∧ some k_ ≠ (v1148 : Value).ownBlock) ∧ some k_ ≠ (.slice Ao11 t1142.length co11 : Value).ownBlock) ∧ some k_ ≠ (.slice Ao29 t1156.length co29 : Value).ownBlock)) (n := t1180.length) (c := co102) ?_).2.2; exact (qR ((Kd.R_mono (Kd.R_far (p := ⟨gb1183, 0, none⟩) (Kd.R_types HO1182.out BK1183.out (by decide)) (fun _ hk => hk.2) (.slice Ao98 t1177.length co98)) (fun _ h_ => h_.1))))); (case side4 => exact (Kd.R_reads' HO1182.out).2.1); rintro e w103 ⟨rfl, hb⟩; refine ⟨_, rfl, ?_⟩; replace HO_7 := am (Kd.R_below (qR ((Kd.R_mono (Kd.R_far (p := ⟨gb1183, 0, none⟩) (Kd.R_types HO_7.out BK1183.out (by decide)) (fun _ hk => hk.2) (.slice Ao98 t1177.length co98)) (fun _ h_ => h_.1)))) hb); replace HO_12 := am (Kd.S_below (qS ((Kd.S_mono (Kd.S_far (p := ⟨gb1183, 0, none⟩) (Kd.S_types HO_12.out BK1183.out (by decide)) (fun _ hk => hk.2) (.slice Ao98 t1177.length co98)) (fun _ h_ => h_.1)))) hb); replace HO_120 := am (Kd.S_below (qS ((Kd.S_mono (Kd.S_far (p := ⟨gb1183, 0, none⟩) (Kd.S_types HO_120.out BK1183.out (by decide)) (fun _ hk => hk.2) (.slice Ao98 t1177.length co98)) (fun _ h_ => h_.1)))) hb); replace HO_1147000 := am (Kd.R_below (qR ((Kd.R_mono (Kd.R_far (p := ⟨gb1183, 0, none⟩) (Kd.R_types HO_1147000.out BK1183.out (by decide)) (fun _ hk => hk.2) (.slice Ao98 t1177.length co98)) (fun _ h_ => h_.1)))) hb); replace HO_1160000 := am (Kd.R_below (qR ((Kd.R_mono (Kd.R_far (p := ⟨gb1183, 0, none⟩) (Kd.R_types HO_1160000.out BK1183.out (by decide)) (fun _ hk => hk.2) (.slice Ao98 t1177.length co98)) (fun _ h_ => h_.1)))) hb); replace HO1179 := am (Kd.R_below (qR ((Kd.R_mono (Kd.R_far (p := ⟨gb1183, 0, none⟩) (Kd.R_types HO1179.out BK1183.out (by decide)) (fun _ hk => hk.2) (.slice Ao98 t1177.length co98)) (fun _ h_ => h_.1)))) hb); replace HO1182 := am (Kd.R_below (qR ((Kd.R_mono (Kd.R_far (p := ⟨gb1183, 0, none⟩) (Kd.R_types HO1182.out BK1183.out (by decide)) (fun _ hk => hk.2) (.slice Ao98 t1177.length co98)) (fun _ h_ => h_.1)))) hb); replace BK1146 := am (blk_below (g := gb1146) (o := .cells #[.slice Ao11 t1142.length co11] 26 (0, 0)) (by (with_reducible repeat (first | refine blk_drewN ?_ _ | refine blk_drew ?_ | refine blk_alloc ?_ _)); refine blk_far ?_ NB1146_1183.out _; refine qb ?_; exact BK1146.out) hb); replace BK1159 := am (blk_below (g := gb1159) (o := .cells #[.slice Ao29 t1156.length co29] 26 (0, 0)) (by (with_reducible repeat (first | refine blk_drewN ?_ _ | refine blk_drew ?_ | refine blk_alloc ?_ _)); refine blk_far ?_ NB1159_1183.out _; refine qb ?_; exact BK1159.out) hb); replace BK1183 := am (blk_below (g := gb1183) (o := .cells #[.slice Ao98 t1177.length co98] 26 (0, 0)) (by (with_reducible repeat (first | refine blk_drewN ?_ _ | refine blk_drew ?_ | refine blk_alloc ?_ _)); refine blk_put (cs := #[.slice none 0 0]) ?_ 0 _ rfl; refine qb ?_; exact BK1183.out) hb); replace HB := am (below_step qB hb); (try clear hb); (try clear hb2); (try clear hk); (try clear hi); have hcz104_0 := qz w103 BK1183.out; have hfz104_0 := blk_frozen BK1183.out 0) | ((with_reducible refine gate_callee (f := 63) rfl ?_); refine gL (some 160) Try.func63 #[.agg #[.slice Ao98 t1177.length co98], .slice Ao102 t1180.length co102] ?_; (with_reducible refine (spec_RankLinear.calls k3 _ _ t1177 _ _ t1180 t1186 t1187 _ ?side1 ?side2 ?side3 ?side4 A94.out).mono ?_); (case side1 => exact qC (Kd.R_reads' HO1179.out).2.2); (case side2 => exact (Kd.R_reads' HO1179.out).2.1); (case side3 => exact qC (Kd.R_reads' HO1182.out).2.2); (case side4 => exact (Kd.R_reads' HO1182.out).2.1); rintro e w105 ⟨rfl, hb⟩; refine ⟨_, rfl, ?_⟩; replace HO_7 := am (Kd.R_below (qR HO_7.out) hb); replace HO_12 := am (Kd.S_below (qS HO_12.out) hb); replace HO_120 := am (Kd.S_below (qS HO_120.out) hb); replace HO_1147000 := am (Kd.R_below (qR HO_1147000.out) hb); replace HO_1160000 := am (Kd.R_below (qR HO_1160000.out) hb); replace HO1179 := am (Kd.R_below (qR HO1179.out) hb); replace HO1182 := am (Kd.R_below (qR HO1182.out) hb); replace BK1146 := am (blk_below (g := gb1146) (o := .cells #[.slice Ao11 t1142.length co11] 26 (0, 0)) (qb BK1146.out) hb); replace BK1159 := am (blk_below (g := gb1159) (o := .cells #[.slice Ao29 t1156.length co29] 26 (0, 0)) (qb BK1159.out) hb); replace BK1183 := am (blk_below (g := gb1183) (o := .cells #[.slice Ao98 t1177.length co98] 26 (0, 0)) (qb BK1183.out) hb); replace HB := am (below_step qB hb); (try clear hb); (try clear hb2); (try clear hk); (try clear hi)))
                   (try simp only [Act.put, List.setIfInBounds_toArray, List.set_cons_zero, List.set_cons_succ])
                   go_cut [177] (fun v177 wc => ∃ (kq : Nat) (x177_94 : Bool), v177 = .bool x177_94 ∧ Aside0 (laws_FnLinearRanked.j3 kq t1145 t1147 t1154 t1180 t1184 t1185 x177_94 t1142 t1177 = some r) ∧ Aside0 (kq ≤ k3) ∧ Aside0 (Kd.R (Kd.int .i64) 3 wc w.heap.size (fun k_ => some k_ ≠ ((.slice Ao102 t1180.length co102) : Value).ownBlock ∧ some k_ ≠ ((.slice Ao11 t1142.length co11) : Value).ownBlock ∧ some k_ ≠ ((.slice Ao29 t1156.length co29) : Value).ownBlock ∧ some k_ ≠ ((.slice Ao98 t1177.length co98) : Value).ownBlock) v1148 t1147) ∧ Aside0 (Kd.R (Kd.int .i64) 3 wc w.heap.size (fun k_ => some k_ ≠ (v1148 : Value).ownBlock ∧ some k_ ≠ ((.slice Ao11 t1142.length co11) : Value).ownBlock ∧ some k_ ≠ ((.slice Ao29 t1156.length co29) : Value).ownBlock ∧ some k_ ≠ ((.slice Ao98 t1177.length co98) : Value).ownBlock) (.slice Ao102 t1180.length co102) t1180) ∧ Aside0 (Kd.R (Kd.int .i64) 3 wc w.heap.size (fun k_ => some k_ ≠ (v1148 : Value).ownBlock ∧ some k_ ≠ ((.slice Ao102 t1180.length co102) : Value).ownBlock ∧ some k_ ≠ ((.slice Ao29 t1156.length co29) : Value).ownBlock ∧ some k_ ≠ ((.slice Ao98 t1177.length co98) : Value).ownBlock) (.slice Ao11 t1142.length co11) t1142) ∧ Aside0 (Kd.R (Kd.int .i64) 3 wc w.heap.size (fun k_ => some k_ ≠ (v1148 : Value).ownBlock ∧ some k_ ≠ ((.slice Ao102 t1180.length co102) : Value).ownBlock ∧ some k_ ≠ ((.slice Ao11 t1142.length co11) : Value).ownBlock ∧ some k_ ≠ ((.slice Ao98 t1177.length co98) : Value).ownBlock) (.slice Ao29 t1156.length co29) t1156) ∧ Aside0 (Kd.R (Kd.int .i64) 3 wc w.heap.size (fun k_ => some k_ ≠ (v1148 : Value).ownBlock ∧ some k_ ≠ ((.slice Ao102 t1180.length co102) : Value).ownBlock ∧ some k_ ≠ ((.slice Ao11 t1142.length co11) : Value).ownBlock ∧ some k_ ≠ ((.slice Ao29 t1156.length co29) : Value).ownBlock) (.slice Ao98 t1177.length co98) t1177) ∧ Aside0 (wc.heap[gb1146]? = some (.cells #[(.slice Ao11 t1142.length co11)] 26 (0, 0))) ∧ Aside0 (wc.heap[gb1159]? = some (.cells #[(.slice Ao29 t1156.length co29)] 26 (0, 0))) ∧ Aside0 (wc.heap[gb1183]? = some (.cells #[(.slice Ao98 t1177.length co98)] 26 (0, 0))) ∧ Aside0 (Below w.heap.size w wc))
                   case first =>
                    have H := HC95.out
                    clear HC95
                    by_cases c106 : (t1185 != t1187) = true
                    ·as_aux_lemma =>
                       rw [if_pos c106] at H
                       have c106b0 : (t1185 != t1187) = true := c106
                       (try (have c106b1 : decide (t1185 = t1187) = false := by simpa using c106))
                       (try (have c106b2 : (t1185 == t1187) = false := by simpa using c106))
                       (try (have c106b3 : ¬ (t1185 = t1187) := by simpa using c106))
                       clear c106
                       (first | rw [c106b0] | (simp only [i64_w, i32_w]; rw [c106b0]) | skip)
                       have H' := am H
                       clear H
                       go_wp2
                       go_meet
                       case rel => exact ⟨_, (true), qe, H', ⟨by have := HJ7.out; have := HJ25.out; have := HK3.out; first | omega | exact Nat.le_refl _⟩, ⟨qR (Kd.R_mono HO_7.out (fun _ hk => ⟨hk.2, ⟨hk.1.1.1, ⟨hk.1.1.2, hk.1.2⟩⟩⟩))⟩, ⟨qR (Kd.R_mono HO1182.out (fun _ hk => ⟨hk.1.1.2, ⟨hk.1.2, ⟨hk.2, hk.1.1.1⟩⟩⟩))⟩, ⟨qR (Kd.R_mono HO_1147000.out (fun _ hk => ⟨hk.1.1.1, ⟨hk.2, ⟨hk.1.1.2, hk.1.2⟩⟩⟩))⟩, ⟨qR (Kd.R_mono HO_1160000.out (fun _ hk => ⟨hk.1.1.1, ⟨hk.2, ⟨hk.1.1.2, hk.1.2⟩⟩⟩))⟩, ⟨qR (Kd.R_mono HO1179.out (fun _ hk => ⟨hk.1.1.2, ⟨hk.1.1.1, ⟨hk.1.2, hk.2⟩⟩⟩))⟩, ⟨qb BK1146.out⟩, ⟨qb BK1159.out⟩, ⟨qb BK1183.out⟩, ⟨qB⟩⟩
                    ·as_aux_lemma =>
                       rw [if_neg c106] at H
                       have c106b0 : (t1185 != t1187) = false := by simpa using c106
                       (try (have c106b1 : decide (t1185 = t1187) = true := by simpa using c106))
                       (try (have c106b2 : (t1185 == t1187) = true := by simpa using c106))
                       clear c106
                       (first | rw [c106b0] | (simp only [i64_w, i32_w]; rw [c106b0]) | skip)
                       by_cases c107 : t1184 = t1186
                       ·as_aux_lemma =>
                          rw [if_pos c107] at H
                          have c107b0 : (t1184 == t1186) = true := beq_iff_eq.mpr c107
                          have c107b1 : (t1184 != t1186) = false := bne_eq_false_iff_eq.mpr c107
                          clear c107
                          replace H := Option.bind_eq_some_iff.mp H
                          obtain ⟨t1188, A1080, H⟩ := H
                          replace H : (laws_FnLinearRanked.j3 k3 t1145 t1147 t1154 t1180 t1184 t1185 (t1185 != t1188) t1142 t1177) = some r := H
                          have A108 := am A1080
                          clear A1080
                          have H' := am H
                          clear H
                          have hnb109 := NB1183_1146.out
                          have hnc109 := NB1146_1183.out
                          have hnb110 := NB1183_1159.out
                          have hnc110 := NB1159_1183.out
                          have hcz111_0 := qz w105 BK1183.out
                          have hfz111_0 := blk_frozen BK1183.out 0
                          go_wp2_with (first | (go_at_call 60; (with_reducible refine (laws_oLinear.calls k3 _ _ t1177 _ _ t1180 t1188 _ ?side1 ?side2 ?side3 ?side4 A108.out).mono ?_); (case side1 => exact qC (Kd.R_reads' HO1179.out).2.2); (case side2 => exact (Kd.R_reads' HO1179.out).2.1); (case side3 => exact qC (Kd.R_reads' HO1182.out).2.2); (case side4 => exact (Kd.R_reads' HO1182.out).2.1); rintro e w112 ⟨rfl, hb⟩; replace HO_7 := am (Kd.R_below (qR HO_7.out) hb); replace HO_12 := am (Kd.S_below (qS HO_12.out) hb); replace HO_120 := am (Kd.S_below (qS HO_120.out) hb); replace HO_1147000 := am (Kd.R_below (qR HO_1147000.out) hb); replace HO_1160000 := am (Kd.R_below (qR HO_1160000.out) hb); replace HO1179 := am (Kd.R_below (qR HO1179.out) hb); replace HO1182 := am (Kd.R_below (qR HO1182.out) hb); replace BK1146 := am (blk_below (g := gb1146) (o := .cells #[.slice Ao11 t1142.length co11] 26 (0, 0)) (qb BK1146.out) hb); replace BK1159 := am (blk_below (g := gb1159) (o := .cells #[.slice Ao29 t1156.length co29] 26 (0, 0)) (qb BK1159.out) hb); replace BK1183 := am (blk_below (g := gb1183) (o := .cells #[.slice Ao98 t1177.length co98] 26 (0, 0)) (qb BK1183.out) hb); replace HB := am (below_step qB hb); (try clear hb); (try clear hb2); (try clear hk); (try clear hi)))
                          go_meet
                          case rel => exact ⟨_, ((t1185 != t1188)), qe, H', ⟨by have := HJ7.out; have := HJ25.out; have := HK3.out; first | omega | exact Nat.le_refl _⟩, ⟨qR (Kd.R_mono HO_7.out (fun _ hk => ⟨hk.2, ⟨hk.1.1.1, ⟨hk.1.1.2, hk.1.2⟩⟩⟩))⟩, ⟨qR (Kd.R_mono HO1182.out (fun _ hk => ⟨hk.1.1.2, ⟨hk.1.2, ⟨hk.2, hk.1.1.1⟩⟩⟩))⟩, ⟨qR (Kd.R_mono HO_1147000.out (fun _ hk => ⟨hk.1.1.1, ⟨hk.2, ⟨hk.1.1.2, hk.1.2⟩⟩⟩))⟩, ⟨qR (Kd.R_mono HO_1160000.out (fun _ hk => ⟨hk.1.1.1, ⟨hk.2, ⟨hk.1.1.2, hk.1.2⟩⟩⟩))⟩, ⟨qR (Kd.R_mono HO1179.out (fun _ hk => ⟨hk.1.1.2, ⟨hk.1.1.1, ⟨hk.1.2, hk.2⟩⟩⟩))⟩, ⟨qb BK1146.out⟩, ⟨qb BK1159.out⟩, ⟨qb BK1183.out⟩, ⟨qB⟩⟩
                       ·rw [if_neg c107] at H
                        have c107b0 : (t1184 == t1186) = false := beq_eq_false_iff_ne.mpr c107
                        have c107b1 : (t1184 != t1186) = true := bne_iff_ne.mpr c107
                        have H' := am H
                        clear H
                        go_wp2
                        go_meet
                        case rel => exact ⟨_, (true), qe, H', ⟨by have := HJ7.out; have := HJ25.out; have := HK3.out; first | omega | exact Nat.le_refl _⟩, ⟨qR (Kd.R_mono HO_7.out (fun _ hk => ⟨hk.2, ⟨hk.1.1.1, ⟨hk.1.1.2, hk.1.2⟩⟩⟩))⟩, ⟨qR (Kd.R_mono HO1182.out (fun _ hk => ⟨hk.1.1.2, ⟨hk.1.2, ⟨hk.2, hk.1.1.1⟩⟩⟩))⟩, ⟨qR (Kd.R_mono HO_1147000.out (fun _ hk => ⟨hk.1.1.1, ⟨hk.2, ⟨hk.1.1.2, hk.1.2⟩⟩⟩))⟩, ⟨qR (Kd.R_mono HO_1160000.out (fun _ hk => ⟨hk.1.1.1, ⟨hk.2, ⟨hk.1.1.2, hk.1.2⟩⟩⟩))⟩, ⟨qR (Kd.R_mono HO1179.out (fun _ hk => ⟨hk.1.1.2, ⟨hk.1.1.1, ⟨hk.1.2, hk.2⟩⟩⟩))⟩, ⟨qb BK1146.out⟩, ⟨qb BK1159.out⟩, ⟨qb BK1183.out⟩, ⟨qB⟩⟩
                   case rest =>
                    clear HC95
                    try clear c1
                    try clear p1
                    try clear q1
                    try clear hx1
                    try clear c2
                    try clear p2
                    try clear c3
                    try clear c4
                    try clear c5
                    try clear c6
                    try clear p6
                    try clear c7
                    try clear c8
                    try clear c9
                    try clear c10
                    try clear c11
                    try clear p11
                    try clear q11
                    try clear hx11
                    try clear c16
                    try clear c16b0
                    try clear c16b1
                    try clear c16b2
                    try clear c20
                    try clear c30
                    try clear c39
                    try clear c39b0
                    try clear c39b1
                    try clear c39b2
                    try clear c41
                    try clear c42
                    try clear c42b0
                    try clear c42b1
                    try clear c42b2
                    try clear c45
                    try clear c45b0
                    try clear c45b1
                    try clear c46
                    try clear c47
                    try clear c47b0
                    try clear c47b1
                    try clear c47b2
                    try clear c50
                    try clear c52
                    try clear c53
                    try clear c54
                    try clear c55
                    try clear c55b0
                    try clear c55b1
                    try clear c55b2
                    try clear c56
                    try clear c57
                    try clear c58
                    try clear c60
                    try clear c61
                    try clear c62
                    try clear c63
                    try clear p64
                    try clear c67
                    try clear c69
                    try clear c69b0
                    try clear c70
                    try clear c70b0
                    try clear c71
                    try clear c71b0
                    try clear c73
                    try clear c74
                    try clear c74b0
                    try clear c76
                    try clear c76b0
                    try clear c77
                    try clear c77b0
                    try clear c79
                    try clear c80
                    try clear c83
                    try clear c86
                    try clear c89
                    try clear c99
                    try clear c100
                    try clear c106
                    try clear c106b0
                    try clear c106b1
                    try clear c106b2
                    try clear c107
                    try clear c107b0
                    try clear c107b1
                    try clear c109
                    try clear c110
                    try clear hcz101_0
                    try clear hcz104_0
                    try clear hcz111_0
                    try clear hcz12_0
                    try clear hcz14_0
                    try clear hcz31_0
                    try clear hcz33_0
                    try clear hcz35_0
                    try clear hcz37_0
                    try clear hcz81_0
                    try clear hcz84_0
                    try clear hcz87_0
                    try clear hcz90_0
                    try clear hfz101_0
                    try clear hfz104_0
                    try clear hfz111_0
                    try clear hfz12_0
                    try clear hfz14_0
                    try clear hfz31_0
                    try clear hfz33_0
                    try clear hfz35_0
                    try clear hfz37_0
                    try clear hfz81_0
                    try clear hfz84_0
                    try clear hfz87_0
                    try clear hfz90_0
                    try clear hx1173_0
                    try clear hx1175_0
                    try clear p1173
                    try clear p1175
                    try clear p2
                    try clear q1173
                    try clear q1175
                    obtain ⟨kq, x177_94, rfl, HA, HJ94, HO_7, HO_23, HO_1147000, HO_1160000, HO_1184000, BK1146, BK1159, BK1183, HB⟩ := hcut
                    cases kq with
                    | zero => exact absurd HA.out (by simp [laws_FnLinearRanked.j3])
                    | succ kj94 =>
                     have H := HA.out
                     clear HA
                     simp only [laws_FnLinearRanked.j3] at H
                     by_cases c113 : x177_94 = true
                     ·subst c113
                      have H1 : (some false) = some r := by rw [if_pos rfl] at H; exact H
                      clear H
                      have H := H1
                      clear H1
                      obtain rfl := Option.some.inj H
                      go_wp2
                      go_ret
                      exact ⟨qr, qB⟩
                     ·as_aux_lemma =>
                        replace c113 := Bool.eq_false_iff.mpr c113
                        subst c113
                        have H1 : (if t1185 = true then ((impl_LinearWith.f kj94 t1177 t1184).bind fun bt1189 => (if bt1189.2 = true then ((laws_oSame.f kj94 bt1189.1 t1180).bind fun t1193 => (if t1193 = true then (laws_FnLinearRanked.j4 kj94 t1145 t1147 t1154 t1142) else (some false))) else (some false))) else (laws_FnLinearRanked.j4 kj94 t1145 t1147 t1154 t1142)) = some r := by rw [if_neg (show ¬ (false = true) by decide)] at H; exact H
                        clear H
                        have H := H1
                        clear H1
                        have HC114 := am H
                        clear H
                        go_upto_if 178 with (fail)
                        go_cut [] (fun wc => ∃ (kq : Nat), Aside0 (laws_FnLinearRanked.j4 kq t1145 t1147 t1154 t1142 = some r) ∧ Aside0 (kq ≤ kj94) ∧ Aside0 (Kd.R (Kd.int .i64) 3 wc w.heap.size (fun k_ => some k_ ≠ ((.slice Ao11 t1142.length co11) : Value).ownBlock ∧ some k_ ≠ ((.slice Ao29 t1156.length co29) : Value).ownBlock ∧ some k_ ≠ ((.slice Ao98 t1177.length co98) : Value).ownBlock) v1148 t1147) ∧ Aside0 (Kd.R (Kd.int .i64) 3 wc w.heap.size (fun k_ => some k_ ≠ (v1148 : Value).ownBlock ∧ some k_ ≠ ((.slice Ao29 t1156.length co29) : Value).ownBlock ∧ some k_ ≠ ((.slice Ao98 t1177.length co98) : Value).ownBlock) (.slice Ao11 t1142.length co11) t1142) ∧ Aside0 (Kd.R (Kd.int .i64) 3 wc w.heap.size (fun k_ => some k_ ≠ (v1148 : Value).ownBlock ∧ some k_ ≠ ((.slice Ao11 t1142.length co11) : Value).ownBlock ∧ some k_ ≠ ((.slice Ao98 t1177.length co98) : Value).ownBlock) (.slice Ao29 t1156.length co29) t1156) ∧ Aside0 (Kd.R (Kd.int .i64) 3 wc w.heap.size (fun k_ => some k_ ≠ (v1148 : Value).ownBlock ∧ some k_ ≠ ((.slice Ao11 t1142.length co11) : Value).ownBlock ∧ some k_ ≠ ((.slice Ao29 t1156.length co29) : Value).ownBlock) (.slice Ao98 t1177.length co98) t1177) ∧ Aside0 (wc.heap[gb1146]? = some (.cells #[(.slice Ao11 t1142.length co11)] 26 (0, 0))) ∧ Aside0 (wc.heap[gb1159]? = some (.cells #[(.slice Ao29 t1156.length co29)] 26 (0, 0))) ∧ Aside0 (wc.heap[gb1183]? = some (.cells #[(.slice Ao98 t1177.length co98)] 26 (0, 0))) ∧ Aside0 (Below w.heap.size w wc))
                        case first =>
                         have H := HC114.out
                         clear HC114
                         by_cases c115 : t1185 = true
                         ·as_aux_lemma =>
                            subst c115
                            have H1 : ((impl_LinearWith.f kj94 t1177 t1184).bind fun bt1189 => (if bt1189.2 = true then ((laws_oSame.f kj94 bt1189.1 t1180).bind fun t1193 => (if t1193 = true then (laws_FnLinearRanked.j4 kj94 t1145 t1147 t1154 t1142) else (some false))) else (some false))) = some r := by rw [if_pos rfl] at H; exact H
                            clear H
                            have H := H1
                            clear H1
                            replace H := Option.bind_eq_some_iff.mp H
                            obtain ⟨⟨t1189, t1192⟩, A1160, H⟩ := H
                            replace H : (if t1192 = true then ((laws_oSame.f kj94 t1189 t1180).bind fun t1193 => (if t1193 = true then (laws_FnLinearRanked.j4 kj94 t1145 t1147 t1154 t1142) else (some false))) else (some false)) = some r := H
                            have A116 := am A1160
                            clear A1160
                            by_cases c117 : t1192 = true
                            ·as_aux_lemma =>
                               subst c117
                               have H1 : ((laws_oSame.f kj94 t1189 t1180).bind fun t1193 => (if t1193 = true then (laws_FnLinearRanked.j4 kj94 t1145 t1147 t1154 t1142) else (some false))) = some r := by rw [if_pos rfl] at H; exact H
                               clear H
                               have H := H1
                               clear H1
                               replace H := Option.bind_eq_some_iff.mp H
                               obtain ⟨t1193, A1180, H⟩ := H
                               replace H : (if t1193 = true then (laws_FnLinearRanked.j4 kj94 t1145 t1147 t1154 t1142) else (some false)) = some r := H
                               have A118 := am A1180
                               clear A1180
                               by_cases c119 : t1193 = true
                               ·as_aux_lemma =>
                                  subst c119
                                  have H1 : (laws_FnLinearRanked.j4 kj94 t1145 t1147 t1154 t1142) = some r := by rw [if_pos rfl] at H; exact H
                                  clear H
                                  have H := H1
                                  clear H1
                                  have H' := am H
                                  clear H
                                  have hnb120 := NB1183_1146.out
                                  have hnc120 := NB1146_1183.out
                                  have hnb121 := NB1183_1159.out
                                  have hnc121 := NB1159_1183.out
                                  have hcz122_0 := qz wc BK1183.out
                                  have hfz122_0 := blk_frozen BK1183.out 0
                                  go_wp2_with (first | ((with_reducible refine gate_callee (f := 53) rfl ?_); refine gL (some 182) Try.func53 #[.agg #[.slice Ao98 t1177.length co98], .int .i64 t1184] ?_; (with_reducible refine (impl_LinearWith.calls kj94 _ _ t1177 t1184 t1189 true _ ?side1 ?side2 A116.out).mono ?_); (case side1 => exact qC (Kd.R_reads' HO_1184000.out).2.2); (case side2 => exact (Kd.R_reads' HO_1184000.out).2.1); rintro e w123 ⟨v1190, rfl, ho0, hb⟩; refine ⟨_, rfl, ?_⟩; have n0_ := am (Kd.R_elder' (qR HO_7.out) (Kd.R_base ho0) hb); have n1_ := am (Kd.R_elder' (qR HO_23.out) (Kd.R_base ho0) hb); have n2_ := am (Kd.R_elder' (qR HO_1147000.out) (Kd.R_base ho0) hb); have n3_ := am (Kd.R_elder' (qR HO_1160000.out) (Kd.R_base ho0) hb); have n4_ := am (Kd.R_elder' (qR HO_1184000.out) (Kd.R_base ho0) hb); have HO1191 := am (Kd.R_lower (Kd.R_new' (Kd.R_new' (Kd.R_new' (Kd.R_new' (Kd.R_new' ho0 (Kd.R_lt (qR HO_7.out))) (Kd.R_lt (qR HO_23.out))) (Kd.R_lt (qR HO_1147000.out))) (Kd.R_lt (qR HO_1160000.out))) (Kd.R_lt (qR HO_1184000.out))) (below_size qB)); replace BK1146 := am (blk_below (g := gb1146) (o := .cells #[.slice Ao11 t1142.length co11] 26 (0, 0)) (qb BK1146.out) hb); replace BK1159 := am (blk_below (g := gb1159) (o := .cells #[.slice Ao29 t1156.length co29] 26 (0, 0)) (qb BK1159.out) hb); replace BK1183 := am (blk_below (g := gb1183) (o := .cells #[.slice Ao98 t1177.length co98] 26 (0, 0)) (qb BK1183.out) hb); replace HB := am (below_step qB hb); clear HO_7 HO_23 HO_1147000 HO_1160000 HO_1184000; have HO_7 := n0_; have HO_23 := n1_; have HO_1147000 := n2_; have HO_1160000 := n3_; have HO_1184000 := n4_; clear n0_ n1_ n2_ n3_ n4_; (try clear hb); (try clear hb2); (try clear hk); (try clear hi); (try clear ho0); obtain ⟨Ao124, co124, eo124⟩ := Kd.R_slice HO1191.out; subst eo124) | (go_at_call 11; (with_reducible refine (laws_oSame.calls kj94 _ _ t1189 _ _ t1180 true _ ?side1 ?side2 ?side3 ?side4 A118.out).mono ?_); (case side1 => exact qC (Kd.R_reads' HO1191.out).2.2); (case side2 => exact (Kd.R_reads' HO1191.out).2.1); (case side3 => exact qC (Kd.R_reads' HO_23.out).2.2); (case side4 => exact (Kd.R_reads' HO_23.out).2.1); rintro e w' ⟨rfl, ⟨nd, rfl⟩⟩))
                                  go_meet
                                  case rel => exact ⟨_, H', ⟨by have := HJ7.out; have := HJ25.out; have := HK3.out; have := HJ94.out; first | omega | exact Nat.le_refl _⟩, ⟨qR (Kd.R_mono HO_7.out (fun _ hk => ⟨hk.1.2.1, ⟨hk.1.2.2.1, hk.1.2.2.2⟩⟩))⟩, ⟨qR (Kd.R_mono HO_1147000.out (fun _ hk => ⟨hk.1.1, ⟨hk.1.2.2.1, hk.1.2.2.2⟩⟩))⟩, ⟨qR (Kd.R_mono HO_1160000.out (fun _ hk => ⟨hk.1.1, ⟨hk.1.2.2.1, hk.1.2.2.2⟩⟩))⟩, ⟨qR (Kd.R_mono HO_1184000.out (fun _ hk => ⟨hk.1.1, ⟨hk.1.2.2.1, hk.1.2.2.2⟩⟩))⟩, ⟨qb BK1146.out⟩, ⟨qb BK1159.out⟩, ⟨qb BK1183.out⟩, ⟨qB⟩⟩
                               ·as_aux_lemma =>
                                  replace c119 := Bool.eq_false_iff.mpr c119
                                  subst c119
                                  have H1 : (some false) = some r := by rw [if_neg (show ¬ (false = true) by decide)] at H; exact H
                                  clear H
                                  have H := H1
                                  clear H1
                                  obtain rfl := Option.some.inj H
                                  have hnb125 := NB1183_1146.out
                                  have hnc125 := NB1146_1183.out
                                  have hnb126 := NB1183_1159.out
                                  have hnc126 := NB1159_1183.out
                                  have hcz127_0 := qz wc BK1183.out
                                  have hfz127_0 := blk_frozen BK1183.out 0
                                  go_wp2_with (first | ((with_reducible refine gate_callee (f := 53) rfl ?_); refine gL (some 182) Try.func53 #[.agg #[.slice Ao98 t1177.length co98], .int .i64 t1184] ?_; (with_reducible refine (impl_LinearWith.calls kj94 _ _ t1177 t1184 t1189 true _ ?side1 ?side2 A116.out).mono ?_); (case side1 => exact qC (Kd.R_reads' HO_1184000.out).2.2); (case side2 => exact (Kd.R_reads' HO_1184000.out).2.1); rintro e w128 ⟨v1190, rfl, ho0, hb⟩; refine ⟨_, rfl, ?_⟩; have n0_ := am (Kd.R_elder' (qR HO_7.out) (Kd.R_base ho0) hb); have n1_ := am (Kd.R_elder' (qR HO_23.out) (Kd.R_base ho0) hb); have n2_ := am (Kd.R_elder' (qR HO_1147000.out) (Kd.R_base ho0) hb); have n3_ := am (Kd.R_elder' (qR HO_1160000.out) (Kd.R_base ho0) hb); have n4_ := am (Kd.R_elder' (qR HO_1184000.out) (Kd.R_base ho0) hb); have HO1191 := am (Kd.R_lower (Kd.R_new' (Kd.R_new' (Kd.R_new' (Kd.R_new' (Kd.R_new' ho0 (Kd.R_lt (qR HO_7.out))) (Kd.R_lt (qR HO_23.out))) (Kd.R_lt (qR HO_1147000.out))) (Kd.R_lt (qR HO_1160000.out))) (Kd.R_lt (qR HO_1184000.out))) (below_size qB)); replace BK1146 := am (blk_below (g := gb1146) (o := .cells #[.slice Ao11 t1142.length co11] 26 (0, 0)) (qb BK1146.out) hb); replace BK1159 := am (blk_below (g := gb1159) (o := .cells #[.slice Ao29 t1156.length co29] 26 (0, 0)) (qb BK1159.out) hb); replace BK1183 := am (blk_below (g := gb1183) (o := .cells #[.slice Ao98 t1177.length co98] 26 (0, 0)) (qb BK1183.out) hb); replace HB := am (below_step qB hb); clear HO_7 HO_23 HO_1147000 HO_1160000 HO_1184000; have HO_7 := n0_; have HO_23 := n1_; have HO_1147000 := n2_; have HO_1160000 := n3_; have HO_1184000 := n4_; clear n0_ n1_ n2_ n3_ n4_; (try clear hb); (try clear hb2); (try clear hk); (try clear hi); (try clear ho0); obtain ⟨Ao129, co129, eo129⟩ := Kd.R_slice HO1191.out; subst eo129) | (go_at_call 11; (with_reducible refine (laws_oSame.calls kj94 _ _ t1189 _ _ t1180 false _ ?side1 ?side2 ?side3 ?side4 A118.out).mono ?_); (case side1 => exact qC (Kd.R_reads' HO1191.out).2.2); (case side2 => exact (Kd.R_reads' HO1191.out).2.1); (case side3 => exact qC (Kd.R_reads' HO_23.out).2.2); (case side4 => exact (Kd.R_reads' HO_23.out).2.1); rintro e w' ⟨rfl, ⟨nd, rfl⟩⟩))
                                  go_ret
                                  exact ⟨qr, qB⟩
                            ·as_aux_lemma =>
                               replace c117 := Bool.eq_false_iff.mpr c117
                               subst c117
                               have H1 : (some false) = some r := by rw [if_neg (show ¬ (false = true) by decide)] at H; exact H
                               clear H
                               have H := H1
                               clear H1
                               obtain rfl := Option.some.inj H
                               have hnb130 := NB1183_1146.out
                               have hnc130 := NB1146_1183.out
                               have hnb131 := NB1183_1159.out
                               have hnc131 := NB1159_1183.out
                               have hcz132_0 := qz wc BK1183.out
                               have hfz132_0 := blk_frozen BK1183.out 0
                               go_wp2_with (first | ((with_reducible refine gate_callee (f := 53) rfl ?_); refine gL (some 182) Try.func53 #[.agg #[.slice Ao98 t1177.length co98], .int .i64 t1184] ?_; (with_reducible refine (impl_LinearWith.calls kj94 _ _ t1177 t1184 t1189 false _ ?side1 ?side2 A116.out).mono ?_); (case side1 => exact qC (Kd.R_reads' HO_1184000.out).2.2); (case side2 => exact (Kd.R_reads' HO_1184000.out).2.1); rintro e w133 ⟨v1190, rfl, ho0, hb⟩; refine ⟨_, rfl, ?_⟩; have n0_ := am (Kd.R_elder' (qR HO_7.out) (Kd.R_base ho0) hb); have n1_ := am (Kd.R_elder' (qR HO_23.out) (Kd.R_base ho0) hb); have n2_ := am (Kd.R_elder' (qR HO_1147000.out) (Kd.R_base ho0) hb); have n3_ := am (Kd.R_elder' (qR HO_1160000.out) (Kd.R_base ho0) hb); have n4_ := am (Kd.R_elder' (qR HO_1184000.out) (Kd.R_base ho0) hb); have HO1191 := am (Kd.R_lower (Kd.R_new' (Kd.R_new' (Kd.R_new' (Kd.R_new' (Kd.R_new' ho0 (Kd.R_lt (qR HO_7.out))) (Kd.R_lt (qR HO_23.out))) (Kd.R_lt (qR HO_1147000.out))) (Kd.R_lt (qR HO_1160000.out))) (Kd.R_lt (qR HO_1184000.out))) (below_size qB)); replace BK1146 := am (blk_below (g := gb1146) (o := .cells #[.slice Ao11 t1142.length co11] 26 (0, 0)) (qb BK1146.out) hb); replace BK1159 := am (blk_below (g := gb1159) (o := .cells #[.slice Ao29 t1156.length co29] 26 (0, 0)) (qb BK1159.out) hb); replace BK1183 := am (blk_below (g := gb1183) (o := .cells #[.slice Ao98 t1177.length co98] 26 (0, 0)) (qb BK1183.out) hb); replace HB := am (below_step qB hb); clear HO_7 HO_23 HO_1147000 HO_1160000 HO_1184000; have HO_7 := n0_; have HO_23 := n1_; have HO_1147000 := n2_; have HO_1160000 := n3_; have HO_1184000 := n4_; clear n0_ n1_ n2_ n3_ n4_; (try clear hb); (try clear hb2); (try clear hk); (try clear hi); (try clear ho0)))
                               go_ret
                               exact ⟨qr, qB⟩
                         ·replace c115 := Bool.eq_false_iff.mpr c115
                          subst c115
                          have H1 : (laws_FnLinearRanked.j4 kj94 t1145 t1147 t1154 t1142) = some r := by rw [if_neg (show ¬ (false = true) by decide)] at H; exact H
                          clear H
                          have H := H1
                          clear H1
                          have H' := am H
                          clear H
                          go_wp2
                          go_meet
                          case rel => exact ⟨_, H', ⟨by have := HJ7.out; have := HJ25.out; have := HK3.out; have := HJ94.out; first | omega | exact Nat.le_refl _⟩, ⟨qR (Kd.R_mono HO_7.out (fun _ hk => ⟨hk.2.1, ⟨hk.2.2.1, hk.2.2.2⟩⟩))⟩, ⟨qR (Kd.R_mono HO_1147000.out (fun _ hk => ⟨hk.1, ⟨hk.2.2.1, hk.2.2.2⟩⟩))⟩, ⟨qR (Kd.R_mono HO_1160000.out (fun _ hk => ⟨hk.1, ⟨hk.2.2.1, hk.2.2.2⟩⟩))⟩, ⟨qR (Kd.R_mono HO_1184000.out (fun _ hk => ⟨hk.1, ⟨hk.2.2.1, hk.2.2.2⟩⟩))⟩, ⟨qb BK1146.out⟩, ⟨qb BK1159.out⟩, ⟨qb BK1183.out⟩, ⟨qB⟩⟩
                        case rest =>
                         clear HC114
                         try clear c1
                         try clear p1
                         try clear q1
                         try clear hx1
                         try clear c2
                         try clear p2
                         try clear c3
                         try clear c4
                         try clear c5
                         try clear c6
                         try clear p6
                         try clear c7
                         try clear c8
                         try clear c9
                         try clear c10
                         try clear c11
                         try clear p11
                         try clear q11
                         try clear hx11
                         try clear c12
                         try clear c13
                         try clear c16
                         try clear c16b0
                         try clear c16b1
                         try clear c16b2
                         try clear c20
                         try clear c30
                         try clear c39
                         try clear c39b0
                         try clear c39b1
                         try clear c39b2
                         try clear c41
                         try clear c42
                         try clear c42b0
                         try clear c42b1
                         try clear c42b2
                         try clear c45
                         try clear c45b0
                         try clear c45b1
                         try clear c46
                         try clear c47
                         try clear c47b0
                         try clear c47b1
                         try clear c47b2
                         try clear c50
                         try clear c52
                         try clear c53
                         try clear c54
                         try clear c55
                         try clear c55b0
                         try clear c55b1
                         try clear c55b2
                         try clear c56
                         try clear c57
                         try clear c58
                         try clear c60
                         try clear c61
                         try clear c62
                         try clear c63
                         try clear p64
                         try clear c67
                         try clear c69
                         try clear c69b0
                         try clear c70
                         try clear c70b0
                         try clear c71
                         try clear c71b0
                         try clear c73
                         try clear c74
                         try clear c74b0
                         try clear c76
                         try clear c76b0
                         try clear c77
                         try clear c77b0
                         try clear c79
                         try clear c80
                         try clear c83
                         try clear c86
                         try clear c89
                         try clear c99
                         try clear c100
                         try clear c106
                         try clear c106b0
                         try clear c106b1
                         try clear c106b2
                         try clear c107
                         try clear c107b0
                         try clear c107b1
                         try clear c109
                         try clear c110
                         try clear c113
                         try clear c115
                         try clear c117
                         try clear p117
                         try clear q117
                         try clear hx117
                         try clear c119
                         try clear c120
                         try clear c121
                         try clear c125
                         try clear c126
                         try clear c130
                         try clear c131
                         try clear hcz101_0
                         try clear hcz104_0
                         try clear hcz111_0
                         try clear hcz122_0
                         try clear hcz127_0
                         try clear hcz12_0
                         try clear hcz132_0
                         try clear hcz14_0
                         try clear hcz31_0
                         try clear hcz33_0
                         try clear hcz35_0
                         try clear hcz37_0
                         try clear hcz81_0
                         try clear hcz84_0
                         try clear hcz87_0
                         try clear hcz90_0
                         try clear hfz101_0
                         try clear hfz104_0
                         try clear hfz111_0
                         try clear hfz122_0
                         try clear hfz127_0
                         try clear hfz12_0
                         try clear hfz132_0
                         try clear hfz14_0
                         try clear hfz31_0
                         try clear hfz33_0
                         try clear hfz35_0
                         try clear hfz37_0
                         try clear hfz81_0
                         try clear hfz84_0
                         try clear hfz87_0
                         try clear hfz90_0
                         try clear hx1173_0
                         try clear hx1175_0
                         try clear p1
                         try clear p11
                         try clear p1173
                         try clear p1175
                         try clear p2
                         try clear p6
                         try clear p64
                         try clear q1
                         try clear q11
                         try clear q1173
                         try clear q1175
                         obtain ⟨kq, HA, HJ113, HO_7, HO_1147000, HO_1160000, HO_1184000, BK1146, BK1159, BK1183, HB⟩ := hcut
                         cases kq with
                         | zero => exact absurd HA.out (by simp [laws_FnLinearRanked.j4])
                         | succ kj113 =>
                          have H := HA.out
                          clear HA
                          simp only [laws_FnLinearRanked.j4] at H
                          by_cases c134 : t1154 = true
                          ·as_aux_lemma =>
                             subst c134
                             have H1 : ((impl_RankLinear.f kj113 t1142 t1147).bind fun bt1194 => (if bt1194.2 = true then (if bt1194.1 = t1145 then ((laws_oLinear.f kj113 t1142 t1147).bind fun t1196 => (some t1196)) else (some false)) else (some false))) = some r := by rw [if_pos rfl] at H; exact H
                             clear H
                             have H := H1
                             clear H1
                             replace H := Option.bind_eq_some_iff.mp H
                             obtain ⟨⟨t1194, t1195⟩, A1350, H⟩ := H
                             replace H : (if t1195 = true then (if t1194 = t1145 then ((laws_oLinear.f kj113 t1142 t1147).bind fun t1196 => (some t1196)) else (some false)) else (some false)) = some r := H
                             have A135 := am A1350
                             clear A1350
                             by_cases c136 : t1195 = true
                             ·as_aux_lemma =>
                                subst c136
                                have H1 : (if t1194 = t1145 then ((laws_oLinear.f kj113 t1142 t1147).bind fun t1196 => (some t1196)) else (some false)) = some r := by rw [if_pos rfl] at H; exact H
                                clear H
                                have H := H1
                                clear H1
                                by_cases c137 : t1194 = t1145
                                ·as_aux_lemma =>
                                   rw [if_pos c137] at H
                                   have c137b0 : (t1194 == t1145) = true := beq_iff_eq.mpr c137
                                   have c137b1 : (t1194 != t1145) = false := bne_eq_false_iff_eq.mpr c137
                                   clear c137
                                   replace H := Option.bind_eq_some_iff.mp H
                                   obtain ⟨t1196, A1380, H⟩ := H
                                   replace H : (some t1196) = some r := H
                                   have A138 := am A1380
                                   clear A1380
                                   obtain rfl := Option.some.inj H
                                   have hnb139 := NB1146_1159.out
                                   have hnc139 := NB1159_1146.out
                                   have hnb140 := NB1146_1183.out
                                   have hnc140 := NB1183_1146.out
                                   have hcz141_0 := qz wc BK1146.out
                                   have hfz141_0 := blk_frozen BK1146.out 0
                                   obtain ⟨Ao142, co142, eo142⟩ := Kd.R_slice HO_7.out
                                   subst eo142
                                   go_wp2_with (first | ((with_reducible refine gate_callee (f := 62) rfl ?_); refine gL (some 198) Try.func62 #[.agg #[.slice Ao11 t1142.length co11], .slice Ao142 t1147.length co142] ?_; (with_reducible refine (impl_RankLinear.calls kj113 _ _ t1142 _ _ t1147 t1194 true _ ?side1 ?side2 ?side3 ?side4 A135.out).mono ?_); (case side1 => exact qC (Kd.R_reads' HO_1147000.out).2.2); (case side2 => exact (Kd.R_reads' HO_1147000.out).2.1); (case side3 => exact qC (Kd.R_reads' HO_7.out).2.2); (case side4 => exact (Kd.R_reads' HO_7.out).2.1); rintro e w143 ⟨rfl, hb⟩; refine ⟨_, rfl, ?_⟩; replace HO_7 := am (Kd.R_below (qR HO_7.out) hb); replace HO_1147000 := am (Kd.R_below (qR HO_1147000.out) hb); replace HO_1160000 := am (Kd.R_below (qR HO_1160000.out) hb); replace HO_1184000 := am (Kd.R_below (qR HO_1184000.out) hb); replace BK1146 := am (blk_below (g := gb1146) (o := .cells #[.slice Ao11 t1142.length co11] 26 (0, 0)) (qb BK1146.out) hb); replace BK1159 := am (blk_below (g := gb1159) (o := .cells #[.slice Ao29 t1156.length co29] 26 (0, 0)) (qb BK1159.out) hb); replace BK1183 := am (blk_below (g := gb1183) (o := .cells #[.slice Ao98 t1177.length co98] 26 (0, 0)) (qb BK1183.out) hb); replace HB := am (below_step qB hb); (try clear hb); (try clear hb2); (try clear hk); (try clear hi); have hcz144_0 := qz w143 BK1146.out; have hfz144_0 := blk_frozen BK1146.out 0) | (go_at_call 60; (with_reducible refine (laws_oLinear.calls kj113 _ _ t1142 _ _ t1147 t1196 _ ?side1 ?side2 ?side3 ?side4 A138.out).mono ?_); (case side1 => exact qC (Kd.R_reads' HO_1147000.out).2.2); (case side2 => exact (Kd.R_reads' HO_1147000.out).2.1); (case side3 => exact qC (Kd.R_reads' HO_7.out).2.2); (case side4 => exact (Kd.R_reads' HO_7.out).2.1); rintro e w145 ⟨rfl, hb⟩; replace HO_7 := am (Kd.R_below (qR HO_7.out) hb); replace HO_1147000 := am (Kd.R_below (qR HO_1147000.out) hb); replace HO_1160000 := am (Kd.R_below (qR HO_1160000.out) hb); replace HO_1184000 := am (Kd.R_below (qR HO_1184000.out) hb); replace BK1146 := am (blk_below (g := gb1146) (o := .cells #[.slice Ao11 t1142.length co11] 26 (0, 0)) (qb BK1146.out) hb); replace BK1159 := am (blk_below (g := gb1159) (o := .cells #[.slice Ao29 t1156.length co29] 26 (0, 0)) (qb BK1159.out) hb); replace BK1183 := am (blk_below (g := gb1183) (o := .cells #[.slice Ao98 t1177.length co98] 26 (0, 0)) (qb BK1183.out) hb); replace HB := am (below_step qB hb); (try clear hb); (try clear hb2); (try clear hk); (try clear hi)))
                                   go_ret
                                   exact ⟨qr, qB⟩
                                ·as_aux_lemma =>
                                   rw [if_neg c137] at H
                                   have c137b0 : (t1194 == t1145) = false := beq_eq_false_iff_ne.mpr c137
                                   have c137b1 : (t1194 != t1145) = true := bne_iff_ne.mpr c137
                                   obtain rfl := Option.some.inj H
                                   have hnb146 := NB1146_1159.out
                                   have hnc146 := NB1159_1146.out
                                   have hnb147 := NB1146_1183.out
                                   have hnc147 := NB1183_1146.out
                                   have hcz148_0 := qz wc BK1146.out
                                   have hfz148_0 := blk_frozen BK1146.out 0
                                   obtain ⟨Ao149, co149, eo149⟩ := Kd.R_slice HO_7.out
                                   subst eo149
                                   go_wp2_with (first | ((with_reducible refine gate_callee (f := 62) rfl ?_); refine gL (some 198) Try.func62 #[.agg #[.slice Ao11 t1142.length co11], .slice Ao149 t1147.length co149] ?_; (with_reducible refine (impl_RankLinear.calls kj113 _ _ t1142 _ _ t1147 t1194 true _ ?side1 ?side2 ?side3 ?side4 A135.out).mono ?_); (case side1 => exact qC (Kd.R_reads' HO_1147000.out).2.2); (case side2 => exact (Kd.R_reads' HO_1147000.out).2.1); (case side3 => exact qC (Kd.R_reads' HO_7.out).2.2); (case side4 => exact (Kd.R_reads' HO_7.out).2.1); rintro e w150 ⟨rfl, hb⟩; refine ⟨_, rfl, ?_⟩; replace HO_7 := am (Kd.R_below (qR HO_7.out) hb); replace HO_1147000 := am (Kd.R_below (qR HO_1147000.out) hb); replace HO_1160000 := am (Kd.R_below (qR HO_1160000.out) hb); replace HO_1184000 := am (Kd.R_below (qR HO_1184000.out) hb); replace BK1146 := am (blk_below (g := gb1146) (o := .cells #[.slice Ao11 t1142.length co11] 26 (0, 0)) (qb BK1146.out) hb); replace BK1159 := am (blk_below (g := gb1159) (o := .cells #[.slice Ao29 t1156.length co29] 26 (0, 0)) (qb BK1159.out) hb); replace BK1183 := am (blk_below (g := gb1183) (o := .cells #[.slice Ao98 t1177.length co98] 26 (0, 0)) (qb BK1183.out) hb); replace HB := am (below_step qB hb); (try clear hb); (try clear hb2); (try clear hk); (try clear hi)))
                                   go_ret
                                   exact ⟨qr, qB⟩
                             ·as_aux_lemma =>
                                replace c136 := Bool.eq_false_iff.mpr c136
                                subst c136
                                have H1 : (some false) = some r := by rw [if_neg (show ¬ (false = true) by decide)] at H; exact H
                                clear H
                                have H := H1
                                clear H1
                                obtain rfl := Option.some.inj H
                                have hnb151 := NB1146_1159.out
                                have hnc151 := NB1159_1146.out
                                have hnb152 := NB1146_1183.out
                                have hnc152 := NB1183_1146.out
                                have hcz153_0 := qz wc BK1146.out
                                have hfz153_0 := blk_frozen BK1146.out 0
                                obtain ⟨Ao154, co154, eo154⟩ := Kd.R_slice HO_7.out
                                subst eo154
                                go_wp2_with (first | ((with_reducible refine gate_callee (f := 62) rfl ?_); refine gL (some 198) Try.func62 #[.agg #[.slice Ao11 t1142.length co11], .slice Ao154 t1147.length co154] ?_; (with_reducible refine (impl_RankLinear.calls kj113 _ _ t1142 _ _ t1147 t1194 false _ ?side1 ?side2 ?side3 ?side4 A135.out).mono ?_); (case side1 => exact qC (Kd.R_reads' HO_1147000.out).2.2); (case side2 => exact (Kd.R_reads' HO_1147000.out).2.1); (case side3 => exact qC (Kd.R_reads' HO_7.out).2.2); (case side4 => exact (Kd.R_reads' HO_7.out).2.1); rintro e w155 ⟨rfl, hb⟩; refine ⟨_, rfl, ?_⟩; replace HO_7 := am (Kd.R_below (qR HO_7.out) hb); replace HO_1147000 := am (Kd.R_below (qR HO_1147000.out) hb); replace HO_1160000 := am (Kd.R_below (qR HO_1160000.out) hb); replace HO_1184000 := am (Kd.R_below (qR HO_1184000.out) hb); replace BK1146 := am (blk_below (g := gb1146) (o := .cells #[.slice Ao11 t1142.length co11] 26 (0, 0)) (qb BK1146.out) hb); replace BK1159 := am (blk_below (g := gb1159) (o := .cells #[.slice Ao29 t1156.length co29] 26 (0, 0)) (qb BK1159.out) hb); replace BK1183 := am (blk_below (g := gb1183) (o := .cells #[.slice Ao98 t1177.length co98] 26 (0, 0)) (qb BK1183.out) hb); replace HB := am (below_step qB hb); (try clear hb); (try clear hb2); (try clear hk); (try clear hi)))
                                go_ret
                                exact ⟨qr, qB⟩
                          ·as_aux_lemma =>
                             replace c134 := Bool.eq_false_iff.mpr c134
                             subst c134
                             have H1 : (some true) = some r := by rw [if_neg (show ¬ (false = true) by decide)] at H; exact H
                             clear H
                             have H := H1
                             clear H1
                             obtain rfl := Option.some.inj H
                             go_wp2
                             go_ret
                             exact ⟨qr, qB⟩
end Go.Proofs.Ytmbojobkiainlaa.F
end
