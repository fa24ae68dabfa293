/- Part 5 of the texts below the row of FnIdealsAndAntichains: printed functions with their contracts, and plain lemmas. No condition. -/
import Derived.Test.YtonfifhoklaliaaZFnIdealsAndAntichains4
section
namespace Go.Proofs.Ytonfifhoklaliaa.F
open Go.RowKit Go.Proofs.YtonfifhoklaliaaW.PrintWords Go.Proofs.YtonfifhoklaliaaW.PrintLast Go.Proofs.YtonfifhoklaliaaW.PrintMore
attribute [local go_sem] max2_int min2_int max_two min_two max_three min_three max_four min_four
set_option linter.unusedVariables false
set_option linter.unusedSimpArgs false
def spec_DrawIsIdealR.f (k : Nat) (s0_0 : List Int) (s0_1 : Int) (s0_2 : Int) : Option (List Int × Int × Int × Int) := (spec_l1Cur_poset.f k s0_0 s0_1 s0_2 10).bind fun bt1548 => ((spec_l1Cur_setOf.f s0_0 bt1548.2.1 bt1548.2.2 bt1548.1).bind fun bt1554 => ((spec_poGood.f k bt1548.1).bind fun t1557 => (if t1557 = true then ((spec_poSet.f bt1548.1 bt1554.1).bind fun t1558 => (if t1558 = true then ((spec_l1Cur_one.f s0_0 bt1554.2.1 bt1554.2.2 2).bind fun bt1559 => (if bt1559.1 = true then ((spec_poDown.f k bt1548.1 bt1554.1).bind fun t1562 => (some (bt1548.1, t1562, bt1559.2.1, bt1559.2.2))) else (some (bt1548.1, bt1554.1, bt1559.2.1, bt1559.2.2)))) else (some (bt1548.1, bt1554.1, bt1554.2.1, bt1554.2.2)))) else (some (bt1548.1, bt1554.1, bt1554.2.1, bt1554.2.2)))))
theorem spec_DrawIsIdealR.mono : ∀ a0 a1 a2 k, LeO (spec_DrawIsIdealR.f k a0 a1 a2) (spec_DrawIsIdealR.f (k + 1) a0 a1 a2) := by
 intro a0 a1 a2 k
 unfold spec_DrawIsIdealR.f
 repeat' first
  | (with_reducible exact spec_l1Cur_poset.mono _ _ _ _ _)
  | (with_reducible exact spec_poDown.mono _ _ _)
  | (with_reducible exact spec_poGood.mono _ _)
  | (with_reducible exact LeO.refl _)
  | (with_reducible exact LeO.none _)
  | (with_reducible refine LeO.ite ?_ ?_)
  | (with_reducible refine LeO.bind ?_ (fun _ => ?_))
  | exact spec_l1Cur_poset.mono _ _ _ _ _
  | exact spec_poDown.mono _ _ _
  | exact spec_poGood.mono _ _
  | exact LeO.none _
  | refine LeO.ite ?_ ?_
  | refine LeO.bind ?_ (fun _ => ?_)
def spec_DrawIsIdeal.f (k : Nat) (l0 : List Int) : Option ((List Int) × (Int)) := (spec_DrawIsIdealR.f k l0 0 0).bind fun bt => some (bt.1, bt.2.1)
theorem spec_DrawIsIdeal.mono : ∀ a0 k, LeO (spec_DrawIsIdeal.f k a0) (spec_DrawIsIdeal.f (k + 1) a0) := fun a0 k => LeO.bind (spec_DrawIsIdealR.mono _ _ _ _) (fun _ => LeO.refl _)
set_option maxHeartbeats 8000000 in
set_option maxRecDepth 100000 in
theorem spec_DrawIsIdeal.calls (k : Nat) (A0 : Option Addr) (c0 : Nat) (l0 : List Int) (r1 : List Int) (r2 : Int) (w : World) (hr0 : Kd.C (Kd.int .u8) w A0 l0.length l0) (hc0 : l0.length ≤ c0) (hf : spec_DrawIsIdeal.f k l0 = some (r1, r2)) :
 Calls Try.prog 107 #[.slice A0 l0.length c0] w fun e w' => ∃ v0_ : Value, e = .returned (.tuple #[.agg #[v0_], .int .i64 r2]) ∧ Kd.R (Kd.int .i64) 3 w' w.heap.size (fun _ => True) v0_ r1 ∧ Below w.heap.size w w' := by
 unfold spec_DrawIsIdeal.f at hf
 obtain ⟨⟨r1_, r2_, r3, r4⟩, h, hf⟩ := Option.bind_eq_some_iff.1 hf
 have hf := Option.some.inj hf
 simp only [Prod.mk.injEq] at hf
 obtain ⟨hf0, hf1⟩ := hf
 replace hf0 := hf0.symm
 subst hf0
 replace hf1 := hf1.symm
 subst hf1
 have HR0 := am hr0
 have HC0 := am hc0
 clear hr0 hc0
 have hu28 := Try.underlying28
 have HL := am (Nat.le_refl w.heap.size)
 have HW0 := am (Nat.le_refl w.heap.size)
 have H : ((spec_l1Cur_poset.f k l0 0 0 10).bind fun bt1548 => ((spec_l1Cur_setOf.f l0 bt1548.2.1 bt1548.2.2 bt1548.1).bind fun bt1554 => ((spec_poGood.f k bt1548.1).bind fun t1557 => (if t1557 = true then ((spec_poSet.f bt1548.1 bt1554.1).bind fun t1558 => (if t1558 = true then ((spec_l1Cur_one.f l0 bt1554.2.1 bt1554.2.2 2).bind fun bt1559 => (if bt1559.1 = true then ((spec_poDown.f k bt1548.1 bt1554.1).bind fun t1562 => (some (bt1548.1, t1562, bt1559.2.1, bt1559.2.2))) else (some (bt1548.1, bt1554.1, bt1559.2.1, bt1559.2.2)))) else (some (bt1548.1, bt1554.1, bt1554.2.1, bt1554.2.2)))) else (some (bt1548.1, bt1554.1, bt1554.2.1, bt1554.2.2)))))) = some (r1, r2, r3, r4) := h
 clear h
 replace H := Option.bind_eq_some_iff.mp H
 obtain ⟨⟨t1548, t1551, t1552⟩, A20, H⟩ := H
 replace H : ((spec_l1Cur_setOf.f l0 t1551 t1552 t1548).bind fun bt1554 => ((spec_poGood.f k t1548).bind fun t1557 => (if t1557 = true then ((spec_poSet.f t1548 bt1554.1).bind fun t1558 => (if t1558 = true then ((spec_l1Cur_one.f l0 bt1554.2.1 bt1554.2.2 2).bind fun bt1559 => (if bt1559.1 = true then ((spec_poDown.f k t1548 bt1554.1).bind fun t1562 => (some (t1548, t1562, bt1559.2.1, bt1559.2.2))) else (some (t1548, bt1554.1, bt1559.2.1, bt1559.2.2)))) else (some (t1548, bt1554.1, bt1554.2.1, bt1554.2.2)))) else (some (t1548, bt1554.1, bt1554.2.1, bt1554.2.2))))) = some (r1, r2, r3, r4) := H
 have A2 := am A20
 clear A20
 replace H := Option.bind_eq_some_iff.mp H
 obtain ⟨⟨t1554, t1555, t1556⟩, A30, H⟩ := H
 replace H : ((spec_poGood.f k t1548).bind fun t1557 => (if t1557 = true then ((spec_poSet.f t1548 t1554).bind fun t1558 => (if t1558 = true then ((spec_l1Cur_one.f l0 t1555 t1556 2).bind fun bt1559 => (if bt1559.1 = true then ((spec_poDown.f k t1548 t1554).bind fun t1562 => (some (t1548, t1562, bt1559.2.1, bt1559.2.2))) else (some (t1548, t1554, bt1559.2.1, bt1559.2.2)))) else (some (t1548, t1554, t1555, t1556)))) else (some (t1548, t1554, t1555, t1556)))) = some (r1, r2, r3, r4) := H
 have A3 := am A30
 clear A30
 replace H := Option.bind_eq_some_iff.mp H
 obtain ⟨t1557, A40, H⟩ := H
 replace H : (if t1557 = true then ((spec_poSet.f t1548 t1554).bind fun t1558 => (if t1558 = true then ((spec_l1Cur_one.f l0 t1555 t1556 2).bind fun bt1559 => (if bt1559.1 = true then ((spec_poDown.f k t1548 t1554).bind fun t1562 => (some (t1548, t1562, bt1559.2.1, bt1559.2.2))) else (some (t1548, t1554, bt1559.2.1, bt1559.2.2)))) else (some (t1548, t1554, t1555, t1556)))) else (some (t1548, t1554, t1555, t1556))) = some (r1, r2, r3, r4) := H
 have A4 := am A40
 clear A40
 by_cases c5 : t1557 = true
 ·subst c5
  have H1 : ((spec_poSet.f t1548 t1554).bind fun t1558 => (if t1558 = true then ((spec_l1Cur_one.f l0 t1555 t1556 2).bind fun bt1559 => (if bt1559.1 = true then ((spec_poDown.f k t1548 t1554).bind fun t1562 => (some (t1548, t1562, bt1559.2.1, bt1559.2.2))) else (some (t1548, t1554, bt1559.2.1, bt1559.2.2)))) else (some (t1548, t1554, t1555, t1556)))) = some (r1, r2, r3, r4) := by rw [if_pos rfl] at H; exact H
  clear H
  have H := H1
  clear H1
  replace H := Option.bind_eq_some_iff.mp H
  obtain ⟨t1558, A60, H⟩ := H
  replace H : (if t1558 = true then ((spec_l1Cur_one.f l0 t1555 t1556 2).bind fun bt1559 => (if bt1559.1 = true then ((spec_poDown.f k t1548 t1554).bind fun t1562 => (some (t1548, t1562, bt1559.2.1, bt1559.2.2))) else (some (t1548, t1554, bt1559.2.1, bt1559.2.2)))) else (some (t1548, t1554, t1555, t1556))) = some (r1, r2, r3, r4) := H
  have A6 := am A60
  clear A60
  by_cases c7 : t1558 = true
  ·subst c7
   have H1 : ((spec_l1Cur_one.f l0 t1555 t1556 2).bind fun bt1559 => (if bt1559.1 = true then ((spec_poDown.f k t1548 t1554).bind fun t1562 => (some (t1548, t1562, bt1559.2.1, bt1559.2.2))) else (some (t1548, t1554, bt1559.2.1, bt1559.2.2)))) = some (r1, r2, r3, r4) := by rw [if_pos rfl] at H; exact H
   clear H
   have H := H1
   clear H1
   replace H := Option.bind_eq_some_iff.mp H
   obtain ⟨⟨t1559, t1560, t1561⟩, A80, H⟩ := H
   replace H : (if t1559 = true then ((spec_poDown.f k t1548 t1554).bind fun t1562 => (some (t1548, t1562, t1560, t1561))) else (some (t1548, t1554, t1560, t1561))) = some (r1, r2, r3, r4) := H
   have A8 := am A80
   clear A80
   by_cases c9 : t1559 = true
   ·subst c9
    have H1 : ((spec_poDown.f k t1548 t1554).bind fun t1562 => (some (t1548, t1562, t1560, t1561))) = some (r1, r2, r3, r4) := by rw [if_pos rfl] at H; exact H
    clear H
    have H := H1
    clear H1
    replace H := Option.bind_eq_some_iff.mp H
    obtain ⟨t1562, A100, H⟩ := H
    replace H : (some (t1548, t1562, t1560, t1561)) = some (r1, r2, r3, r4) := H
    have A10 := am A100
    clear A100
    simp only [Option.some.injEq, Prod.mk.injEq] at H
    obtain ⟨rfl, rfl, rfl, rfl⟩ := H
    go_enter Try.func107, Try.ntmps107
    go_wp2_with (first | ((with_reducible refine gate_dst (N := 2) rfl ?_); refine qx (N := 2) (cs := #[.slice none 0 0]) (t := 28) ?_; intro gb1547 hg wA hbox hb; have BKa := am hbox; have GE1547 : Aside0 (w.heap.size ≤ gb1547) := ⟨by rw [hg]; exact Nat.le_refl _⟩; have HBa := am hb; have HLa : Aside0 (gb1547 < wA.heap.size) := ⟨blk_lt hbox⟩; clear hbox hb hg) | ((with_reducible refine gate_dst (N := 9) rfl ?_); refine qx (N := 9) (cs := #[.slice A0 l0.length c0, .int .i64 0, .int .u64 0]) (t := 74) ?_; intro g hg w1_ hbox hb; have HBb := am (HBa.out.trans (hb.mono HBa.out.size)); have hge : w.heap.size ≤ g := (by rw [hg]; exact HBa.out.size); have HI0 : Aside0 (IsS74 w w1_ g l0 0 0) := ⟨A0, c0, hbox, hge, HR0.out⟩; have BK1547 := am (blk_below BKa.out hb); have NB1547_0 : Aside0 (gb1547 ≠ g) := ⟨by rw [hg]; exact Nat.ne_of_lt HLa.out⟩; have NB0_1547 : Aside0 (g ≠ gb1547) := ⟨fun e => NB1547_0.out e.symm⟩; have GW1547 := GE1547; have HK := am (KeepBut.of_below HBb.out g none); have HB := HBb; clear hbox hb hge hg BKa HBa HLa HBb) | ((with_reducible refine gate_callee (f := 155) rfl ?_); refine gL (some 11) Try.func155 #[.pointer (some ⟨g, 0, none⟩), .int .i64 10] ?_; (with_reducible refine (spec_l1Cur_poset.calls k g l0 0 0 10 t1548 t1551 t1552 w _ ?side1 ?side2 A2.out).mono ?_); (case side1 => exact qI74); (case side2 => exact qB); rintro e w12 ⟨v1549, rfl, ho0, hi, hb, hk⟩; refine ⟨_, rfl, ?_⟩; replace BK1547 := am (KeepBut.blk hk (g' := gb1547) (o := .cells #[.slice none 0 0] 28 (0, 0)) (qb BK1547.out) NB1547_0.out (by simp)); have HO1550 := am (Kd.R_lower ho0 (keep_size (w := w) (g := g) (row := none) qK)); have n2_ := am (KeepBut.trans qK hk (.inl rfl)); have n3_ := am (hb); replace HI0 := am (hi); clear HK HB; have HK := n2_; have HB := n3_; clear n2_ n3_; (try clear hb); (try clear hb2); (try clear hk); (try clear hi); (try clear ho0)) | ((with_reducible refine gate_dst (N := 5) rfl ?_); refine qx (N := 5) (cs := #[.slice none 0 0]) (t := 28) ?_; intro gb1553 hg w13 hbox hb; replace HO1550 := am (Kd.R_below (qR HO1550.out) hb); have n1_ := am (IsS74.below qI74 hb); have n2_ := am (blk_below (g := gb1547) (o := .cells #[.slice none 0 0] 28 (0, 0)) (qb BK1547.out) hb); have n3_ := am (KeepBut.trans qK (KeepBut.of_below hb g none) (.inl rfl)); have n4_ := am (below_step qB hb); have BK1553 := am (hbox); have GW1553 := am ((by rw [hg]; exact (keep_size (w := w) (g := g) (row := none) qK) : w.heap.size ≤ gb1553)); have GE1553 := am ((Nat.le_trans HW0.out (by rw [hg]; exact (keep_size (w := w) (g := g) (row := none) qK) : w.heap.size ≤ gb1553) : w.heap.size ≤ gb1553)); have NB1547_1553 := am ((by rw [hg]; exact Nat.ne_of_lt (blk_lt (g := gb1547) (o := .cells #[.slice none 0 0] 28 (0, 0)) (qb BK1547.out)) : gb1547 ≠ gb1553)); have NB1553_1547 := am ((by rw [hg]; exact Nat.ne_of_gt (blk_lt (g := gb1547) (o := .cells #[.slice none 0 0] 28 (0, 0)) (qb BK1547.out)) : gb1553 ≠ gb1547)); have NB0_1553 := am ((by rw [hg]; exact Nat.ne_of_lt (IsS74.lt (show IsS74 w _ g l0 t1551 t1552 from qI74)) : g ≠ gb1553)); have NB1553_0 := am ((by rw [hg]; exact Nat.ne_of_gt (IsS74.lt (show IsS74 w _ g l0 t1551 t1552 from qI74)) : gb1553 ≠ g)); clear HI0 BK1547 HK HB; have HI0 := n1_; have BK1547 := n2_; have HK := n3_; have HB := n4_; clear n1_ n2_ n3_ n4_; clear hb hbox hg; obtain ⟨Ao14, co14, eo14⟩ := Kd.R_slice HO1550.out; subst eo14; have hnb15 := NB1553_1547.out; have hnc15 := NB1547_1553.out; have hnb16 := NB1553_0.out; have hnc16 := NB0_1553.out; have hcz17_0 := qz w13 BK1553.out; have hfz17_0 := blk_frozen BK1553.out 0) | ((with_reducible refine gate_callee (f := 160) rfl ?_); refine gL (some 14) Try.func160 #[.pointer (some ⟨g, 0, none⟩), .agg #[.slice Ao14 t1548.length co14]] ?_; (with_reducible refine (spec_l1Cur_setOf.calls g l0 t1551 t1552 _ _ t1548 t1554 t1555 t1556 w _ ?side1 ?side2 ?side3 ?side4 ?side5 A3.out).mono ?_); (case side1 => exact qI74); (case side2 => exact qB); (case side3 => refine (Kd.R_reads' (e := 3) (base := w.heap.size) (ok := fun k_ => True) (n := t1548.length) (c := co14) ?_).2.2; exact (qR ((Kd.R_mono (Kd.R_far (p := ⟨gb1553, 0, none⟩) (Kd.R_types HO1550.out BK1553.out (by decide)) (fun _ hk => hk.2) (.slice Ao14 t1548.length co14)) (fun _ h_ => h_.1))))); (case side4 => exact (Kd.R_reads' HO1550.out).2.1); (case side5 => exact far_slice (IsS74.own_ne HI0.out HO1550.out (by decide))); rintro e w18 ⟨rfl, hi, hb, hk⟩; refine ⟨_, rfl, ?_⟩; replace BK1547 := am (KeepBut.blk hk (g' := gb1547) (o := .cells #[.slice none 0 0] 28 (0, 0)) (by (with_reducible repeat (first | refine blk_drewN ?_ _ | refine blk_drew ?_ | refine blk_alloc ?_ _)); refine blk_far ?_ NB1547_1553.out _; refine qb ?_; exact BK1547.out) NB1547_0.out (by simp)); replace HO1550 := am (Kd.R_mono (Kd.R_keep (IsS74.apart (show IsS74 w _ g l0 t1551 t1552 from qI74) (qR ((Kd.R_mono (Kd.R_far (p := ⟨gb1553, 0, none⟩) (Kd.R_types HO1550.out BK1553.out (by decide)) (fun _ hk => hk.2) (.slice Ao14 t1548.length co14)) (fun _ h_ => h_.1)))) (by decide)) hk (fun _ h => h.2)) (fun _ h => h.1)); replace BK1553 := am (KeepBut.blk hk (g' := gb1553) (o := .cells #[.slice Ao14 t1548.length co14] 28 (0, 0)) (by (with_reducible repeat (first | refine blk_drewN ?_ _ | refine blk_drew ?_ | refine blk_alloc ?_ _)); refine blk_put (cs := #[.slice none 0 0]) ?_ 0 _ rfl; refine qb ?_; exact BK1553.out) NB1553_0.out (by simp)); have n3_ := am (KeepBut.trans qK hk (.inl rfl)); have n4_ := am (hb); replace HI0 := am (hi); clear HK HB; have HK := n3_; have HB := n4_; clear n3_ n4_; (try clear hb); (try clear hb2); (try clear hk); (try clear hi); have hcz19_0 := qz w18 BK1553.out; have hfz19_0 := blk_frozen BK1553.out 0) | ((with_reducible refine gate_callee (f := 94) rfl ?_); refine gL (some 16) Try.func94 #[.agg #[.slice Ao14 t1548.length co14]] ?_; (with_reducible refine (spec_poGood.calls k _ _ t1548 true _ ?side1 ?side2 A4.out).mono ?_); (case side1 => exact qC (Kd.R_reads' HO1550.out).2.2); (case side2 => exact (Kd.R_reads' HO1550.out).2.1); rintro e w20 ⟨rfl, hb⟩; refine ⟨_, rfl, ?_⟩; replace HO1550 := am (Kd.R_below (qR HO1550.out) hb); have n1_ := am (IsS74.below qI74 hb); replace BK1547 := am (blk_below (g := gb1547) (o := .cells #[.slice none 0 0] 28 (0, 0)) (qb BK1547.out) hb); replace BK1553 := am (blk_below (g := gb1553) (o := .cells #[.slice Ao14 t1548.length co14] 28 (0, 0)) (qb BK1553.out) hb); have n4_ := am (KeepBut.trans qK (KeepBut.of_below hb g none) (.inl rfl)); replace HB := am (below_step qB hb); clear HI0 HK; have HI0 := n1_; have HK := n4_; clear n1_ n4_; (try clear hb); (try clear hb2); (try clear hk); (try clear hi); have hcz21_0 := qz w20 BK1553.out; have hfz21_0 := blk_frozen BK1553.out 0) | (go_at_call 108; (with_reducible refine (spec_poSet.calls _ _ t1548 t1554 true _ ?side1 ?side2 A6.out).mono ?_); (case side1 => exact qC (Kd.R_reads' HO1550.out).2.2); (case side2 => exact (Kd.R_reads' HO1550.out).2.1); rintro e w22 ⟨rfl, hb⟩; replace HO1550 := am (Kd.R_below (qR HO1550.out) hb); have n1_ := am (IsS74.below qI74 hb); replace BK1547 := am (blk_below (g := gb1547) (o := .cells #[.slice none 0 0] 28 (0, 0)) (qb BK1547.out) hb); replace BK1553 := am (blk_below (g := gb1553) (o := .cells #[.slice Ao14 t1548.length co14] 28 (0, 0)) (qb BK1553.out) hb); have n4_ := am (KeepBut.trans qK (KeepBut.of_below hb g none) (.inl rfl)); replace HB := am (below_step qB hb); clear HI0 HK; have HI0 := n1_; have HK := n4_; clear n1_ n4_; (try clear hb); (try clear hb2); (try clear hk); (try clear hi)) | (go_at_call 113; (with_reducible refine (spec_l1Cur_one.calls g l0 t1555 t1556 2 true t1560 t1561 w _ ?side1 ?side2 A8.out).mono ?_); (case side1 => exact qI74); (case side2 => exact qB); rintro e w23 ⟨rfl, hi, hb, hk⟩; replace BK1547 := am (KeepBut.blk hk (g' := gb1547) (o := .cells #[.slice none 0 0] 28 (0, 0)) (qb BK1547.out) NB1547_0.out (by simp)); replace HO1550 := am (Kd.R_mono (Kd.R_keep (IsS74.apart (show IsS74 w _ g l0 t1555 t1556 from qI74) (qR HO1550.out) (by decide)) hk (fun _ h => h.2)) (fun _ h => h.1)); replace BK1553 := am (KeepBut.blk hk (g' := gb1553) (o := .cells #[.slice Ao14 t1548.length co14] 28 (0, 0)) (qb BK1553.out) NB1553_0.out (by simp)); have n3_ := am (KeepBut.trans qK hk (.inl rfl)); have n4_ := am (hb); replace HI0 := am (hi); clear HK HB; have HK := n3_; have HB := n4_; clear n3_ n4_; (try clear hb); (try clear hb2); (try clear hk); (try clear hi); have hcz24_0 := qz w23 BK1553.out; have hfz24_0 := blk_frozen BK1553.out 0) | ((with_reducible refine gate_callee (f := 109) rfl ?_); refine gL (some 28) Try.func109 #[.agg #[.slice Ao14 t1548.length co14], .int .i64 t1554] ?_; (with_reducible refine (spec_poDown.calls k _ _ t1548 t1554 t1562 _ ?side1 ?side2 A10.out).mono ?_); (case side1 => exact qC (Kd.R_reads' HO1550.out).2.2); (case side2 => exact (Kd.R_reads' HO1550.out).2.1); rintro e w25 ⟨rfl, hb⟩; refine ⟨_, rfl, ?_⟩; replace HO1550 := am (Kd.R_below (qR HO1550.out) hb); have n1_ := am (IsS74.below qI74 hb); replace BK1547 := am (blk_below (g := gb1547) (o := .cells #[.slice none 0 0] 28 (0, 0)) (qb BK1547.out) hb); replace BK1553 := am (blk_below (g := gb1553) (o := .cells #[.slice Ao14 t1548.length co14] 28 (0, 0)) (qb BK1553.out) hb); have n4_ := am (KeepBut.trans qK (KeepBut.of_below hb g none) (.inl rfl)); replace HB := am (below_step qB hb); clear HI0 HK; have HI0 := n1_; have HK := n4_; clear n1_ n4_; (try clear hb); (try clear hb2); (try clear hk); (try clear hi); have hcz26_0 := qz w25 BK1553.out; have hfz26_0 := blk_frozen BK1553.out 0; have hnb27 := NB1547_0.out; have hnc27 := NB0_1547.out; have hcz28_0 := qz w25 BK1547.out; have hfz28_0 := blk_frozen BK1547.out 0))
    refine bodyPost_ret (results_ct rfl _ _ gb1547 28 #[.slice Ao14 t1548.length co14] (0, 0) _ rfl (by (with_reducible repeat (first | refine blk_drewN ?_ _ | refine blk_drew ?_ | refine blk_alloc ?_ _)); refine blk_put (cs := #[.slice none 0 0]) ?_ 0 _ rfl; refine qb ?_; exact BK1547.out) Try.underlying28 rfl (by kernel_rfl)) rfl ?_
    exact ⟨_, qr, qR (Kd.R_mono (Kd.R_far (p := ⟨gb1547, 0, none⟩) (Kd.R_types HO1550.out BK1547.out (by decide)) (fun _ hk => hk.2) (.slice Ao14 t1548.length co14)) (fun _ hk => trivial)), qB⟩
   ·replace c9 := Bool.eq_false_iff.mpr c9
    subst c9
    have H1 : (some (t1548, t1554, t1560, t1561)) = some (r1, r2, r3, r4) := by rw [if_neg (show ¬ (false = true) by decide)] at H; exact H
    clear H
    have H := H1
    clear H1
    simp only [Option.some.injEq, Prod.mk.injEq] at H
    obtain ⟨rfl, rfl, rfl, rfl⟩ := H
    go_enter Try.func107, Try.ntmps107
    go_wp2_with (first | ((with_reducible refine gate_dst (N := 2) rfl ?_); refine qx (N := 2) (cs := #[.slice none 0 0]) (t := 28) ?_; intro gb1547 hg wA hbox hb; have BKa := am hbox; have GE1547 : Aside0 (w.heap.size ≤ gb1547) := ⟨by rw [hg]; exact Nat.le_refl _⟩; have HBa := am hb; have HLa : Aside0 (gb1547 < wA.heap.size) := ⟨blk_lt hbox⟩; clear hbox hb hg) | ((with_reducible refine gate_dst (N := 9) rfl ?_); refine qx (N := 9) (cs := #[.slice A0 l0.length c0, .int .i64 0, .int .u64 0]) (t := 74) ?_; intro g hg w1_ hbox hb; have HBb := am (HBa.out.trans (hb.mono HBa.out.size)); have hge : w.heap.size ≤ g := (by rw [hg]; exact HBa.out.size); have HI0 : Aside0 (IsS74 w w1_ g l0 0 0) := ⟨A0, c0, hbox, hge, HR0.out⟩; have BK1547 := am (blk_below BKa.out hb); have NB1547_0 : Aside0 (gb1547 ≠ g) := ⟨by rw [hg]; exact Nat.ne_of_lt HLa.out⟩; have NB0_1547 : Aside0 (g ≠ gb1547) := ⟨fun e => NB1547_0.out e.symm⟩; have GW1547 := GE1547; have HK := am (KeepBut.of_below HBb.out g none); have HB := HBb; clear hbox hb hge hg BKa HBa HLa HBb) | ((with_reducible refine gate_callee (f := 155) rfl ?_); refine gL (some 11) Try.func155 #[.pointer (some ⟨g, 0, none⟩), .int .i64 10] ?_; (with_reducible refine (spec_l1Cur_poset.calls k g l0 0 0 10 t1548 t1551 t1552 w _ ?side1 ?side2 A2.out).mono ?_); (case side1 => exact qI74); (case side2 => exact qB); rintro e w30 ⟨v1549, rfl, ho0, hi, hb, hk⟩; refine ⟨_, rfl, ?_⟩; replace BK1547 := am (KeepBut.blk hk (g' := gb1547) (o := .cells #[.slice none 0 0] 28 (0, 0)) (qb BK1547.out) NB1547_0.out (by simp)); have HO1550 := am (Kd.R_lower ho0 (keep_size (w := w) (g := g) (row := none) qK)); have n2_ := am (KeepBut.trans qK hk (.inl rfl)); have n3_ := am (hb); replace HI0 := am (hi); clear HK HB; have HK := n2_; have HB := n3_; clear n2_ n3_; (try clear hb); (try clear hb2); (try clear hk); (try clear hi); (try clear ho0)) | ((with_reducible refine gate_dst (N := 5) rfl ?_); refine qx (N := 5) (cs := #[.slice none 0 0]) (t := 28) ?_; intro gb1553 hg w31 hbox hb; replace HO1550 := am (Kd.R_below (qR HO1550.out) hb); have n1_ := am (IsS74.below qI74 hb); have n2_ := am (blk_below (g := gb1547) (o := .cells #[.slice none 0 0] 28 (0, 0)) (qb BK1547.out) hb); have n3_ := am (KeepBut.trans qK (KeepBut.of_below hb g none) (.inl rfl)); have n4_ := am (below_step qB hb); have BK1553 := am (hbox); have GW1553 := am ((by rw [hg]; exact (keep_size (w := w) (g := g) (row := none) qK) : w.heap.size ≤ gb1553)); have GE1553 := am ((Nat.le_trans HW0.out (by rw [hg]; exact (keep_size (w := w) (g := g) (row := none) qK) : w.heap.size ≤ gb1553) : w.heap.size ≤ gb1553)); have NB1547_1553 := am ((by rw [hg]; exact Nat.ne_of_lt (blk_lt (g := gb1547) (o := .cells #[.slice none 0 0] 28 (0, 0)) (qb BK1547.out)) : gb1547 ≠ gb1553)); have NB1553_1547 := am ((by rw [hg]; exact Nat.ne_of_gt (blk_lt (g := gb1547) (o := .cells #[.slice none 0 0] 28 (0, 0)) (qb BK1547.out)) : gb1553 ≠ gb1547)); have NB0_1553 := am ((by rw [hg]; exact Nat.ne_of_lt (IsS74.lt (show IsS74 w _ g l0 t1551 t1552 from qI74)) : g ≠ gb1553)); have NB1553_0 := am ((by rw [hg]; exact Nat.ne_of_gt (IsS74.lt (show IsS74 w _ g l0 t1551 t1552 from qI74)) : gb1553 ≠ g)); clear HI0 BK1547 HK HB; have HI0 := n1_; have BK1547 := n2_; have HK := n3_; have HB := n4_; clear n1_ n2_ n3_ n4_; clear hb hbox hg; obtain ⟨Ao32, co32, eo32⟩ := Kd.R_slice HO1550.out; subst eo32; have hnb33 := NB1553_1547.out; have hnc33 := NB1547_1553.out; have hnb34 := NB1553_0.out; have hnc34 := NB0_1553.out; have hcz35_0 := qz w31 BK1553.out; have hfz35_0 := blk_frozen BK1553.out 0) | ((with_reducible refine gate_callee (f := 160) rfl ?_); refine gL (some 14) Try.func160 #[.pointer (some ⟨g, 0, none⟩), .agg #[.slice Ao32 t1548.length co32]] ?_; (with_reducible refine (spec_l1Cur_setOf.calls g l0 t1551 t1552 _ _ t1548 t1554 t1555 t1556 w _ ?side1 ?side2 ?side3 ?side4 ?side5 A3.out).mono ?_); (case side1 => exact qI74); (case side2 => exact qB); (case side3 => refine (Kd.R_reads' (e := 3) (base := w.heap.size) (ok := fun k_ => True) (n := t1548.length) (c := co32) ?_).2.2; exact (qR ((Kd.R_mono (Kd.R_far (p := ⟨gb1553, 0, none⟩) (Kd.R_types HO1550.out BK1553.out (by decide)) (fun _ hk => hk.2) (.slice Ao32 t1548.length co32)) (fun _ h_ => h_.1))))); (case side4 => exact (Kd.R_reads' HO1550.out).2.1); (case side5 => exact far_slice (IsS74.own_ne HI0.out HO1550.out (by decide))); rintro e w36 ⟨rfl, hi, hb, hk⟩; refine ⟨_, rfl, ?_⟩; replace BK1547 := am (KeepBut.blk hk (g' := gb1547) (o := .cells #[.slice none 0 0] 28 (0, 0)) (by (with_reducible repeat (first | refine blk_drewN ?_ _ | refine blk_drew ?_ | refine blk_alloc ?_ _)); refine blk_far ?_ NB1547_1553.out _; refine qb ?_; exact BK1547.out) NB1547_0.out (by simp)); replace HO1550 := am (Kd.R_mono (Kd.R_keep (IsS74.apart (show IsS74 w _ g l0 t1551 t1552 from qI74) (qR ((Kd.R_mono (Kd.R_far (p := ⟨gb1553, 0, none⟩) (Kd.R_types HO1550.out BK1553.out (by decide)) (fun _ hk => hk.2) (.slice Ao32 t1548.length co32)) (fun _ h_ => h_.1)))) (by decide)) hk (fun _ h => h.2)) (fun _ h => h.1)); replace BK1553 := am (KeepBut.blk hk (g' := gb1553) (o := .cells #[.slice Ao32 t1548.length co32] 28 (0, 0)) (by (with_reducible repeat (first | refine blk_drewN ?_ _ | refine blk_drew ?_ | refine blk_alloc ?_ _)); refine blk_put (cs := #[.slice none 0 0]) ?_ 0 _ rfl; refine qb ?_; exact BK1553.out) NB1553_0.out (by simp)); have n3_ := am (KeepBut.trans qK hk (.inl rfl)); have n4_ := am (hb); replace HI0 := am (hi); clear HK HB; have HK := n3_; have HB := n4_; clear n3_ n4_; (try clear hb); (try clear hb2); (try clear hk); (try clear hi); have hcz37_0 := qz w36 BK1553.out; have hfz37_0 := blk_frozen BK1553.out 0) | ((with_reducible refine gate_callee (f := 94) rfl ?_); refine gL (some 16) Try.func94 #[.agg #[.slice Ao32 t1548.length co32]] ?_; (with_reducible refine (spec_poGood.calls k _ _ t1548 true _ ?side1 ?side2 A4.out).mono ?_); (case side1 => exact qC (Kd.R_reads' HO1550.out).2.2); (case side2 => exact (Kd.R_reads' HO1550.out).2.1); rintro e w38 ⟨rfl, hb⟩; refine ⟨_, rfl, ?_⟩; replace HO1550 := am (Kd.R_below (qR HO1550.out) hb); have n1_ := am (IsS74.below qI74 hb); replace BK1547 := am (blk_below (g := gb1547) (o := .cells #[.slice none 0 0] 28 (0, 0)) (qb BK1547.out) hb); replace BK1553 := am (blk_below (g := gb1553) (o := .cells #[.slice Ao32 t1548.length co32] 28 (0, 0)) (qb BK1553.out) hb); have n4_ := am (KeepBut.trans qK (KeepBut.of_below hb g none) (.inl rfl)); replace HB := am (below_step qB hb); clear HI0 HK; have HI0 := n1_; have HK := n4_; clear n1_ n4_; (try clear hb); (try clear hb2); (try clear hk); (try clear hi); have hcz39_0 := qz w38 BK1553.out; have hfz39_0 := blk_frozen BK1553.out 0) | (go_at_call 108; (with_reducible refine (spec_poSet.calls _ _ t1548 t1554 true _ ?side1 ?side2 A6.out).mono ?_); (case side1 => exact qC (Kd.R_reads' HO1550.out).2.2); (case side2 => exact (Kd.R_reads' HO1550.out).2.1); rintro e w40 ⟨rfl, hb⟩; replace HO1550 := am (Kd.R_below (qR HO1550.out) hb); have n1_ := am (IsS74.below qI74 hb); replace BK1547 := am (blk_below (g := gb1547) (o := .cells #[.slice none 0 0] 28 (0, 0)) (qb BK1547.out) hb); replace BK1553 := am (blk_below (g := gb1553) (o := .cells #[.slice Ao32 t1548.length co32] 28 (0, 0)) (qb BK1553.out) hb); have n4_ := am (KeepBut.trans qK (KeepBut.of_below hb g none) (.inl rfl)); replace HB := am (below_step qB hb); clear HI0 HK; have HI0 := n1_; have HK := n4_; clear n1_ n4_; (try clear hb); (try clear hb2); (try clear hk); (try clear hi)) | (go_at_call 113; (with_reducible refine (spec_l1Cur_one.calls g l0 t1555 t1556 2 false t1560 t1561 w _ ?side1 ?side2 A8.out).mono ?_); (case side1 => exact qI74); (case side2 => exact qB); rintro e w41 ⟨rfl, hi, hb, hk⟩; replace BK1547 := am (KeepBut.blk hk (g' := gb1547) (o := .cells #[.slice none 0 0] 28 (0, 0)) (qb BK1547.out) NB1547_0.out (by simp)); replace HO1550 := am (Kd.R_mono (Kd.R_keep (IsS74.apart (show IsS74 w _ g l0 t1555 t1556 from qI74) (qR HO1550.out) (by decide)) hk (fun _ h => h.2)) (fun _ h => h.1)); replace BK1553 := am (KeepBut.blk hk (g' := gb1553) (o := .cells #[.slice Ao32 t1548.length co32] 28 (0, 0)) (qb BK1553.out) NB1553_0.out (by simp)); have n3_ := am (KeepBut.trans qK hk (.inl rfl)); have n4_ := am (hb); replace HI0 := am (hi); clear HK HB; have HK := n3_; have HB := n4_; clear n3_ n4_; (try clear hb); (try clear hb2); (try clear hk); (try clear hi); have hcz42_0 := qz w41 BK1553.out; have hfz42_0 := blk_frozen BK1553.out 0; have hnb43 := NB1547_0.out; have hnc43 := NB0_1547.out; have hcz44_0 := qz w41 BK1547.out; have hfz44_0 := blk_frozen BK1547.out 0))
    refine bodyPost_ret (results_ct rfl _ _ gb1547 28 #[.slice Ao32 t1548.length co32] (0, 0) _ rfl (by (with_reducible repeat (first | refine blk_drewN ?_ _ | refine blk_drew ?_ | refine blk_alloc ?_ _)); refine blk_put (cs := #[.slice none 0 0]) ?_ 0 _ rfl; refine qb ?_; exact BK1547.out) Try.underlying28 rfl (by kernel_rfl)) rfl ?_
    exact ⟨_, qr, qR (Kd.R_mono (Kd.R_far (p := ⟨gb1547, 0, none⟩) (Kd.R_types HO1550.out BK1547.out (by decide)) (fun _ hk => hk.2) (.slice Ao32 t1548.length co32)) (fun _ hk => trivial)), qB⟩
  ·replace c7 := Bool.eq_false_iff.mpr c7
   subst c7
   have H1 : (some (t1548, t1554, t1555, t1556)) = some (r1, r2, r3, r4) := by rw [if_neg (show ¬ (false = true) by decide)] at H; exact H
   clear H
   have H := H1
   clear H1
   simp only [Option.some.injEq, Prod.mk.injEq] at H
   obtain ⟨rfl, rfl, rfl, rfl⟩ := H
   go_enter Try.func107, Try.ntmps107
   go_wp2_with (first | ((with_reducible refine gate_dst (N := 2) rfl ?_); refine qx (N := 2) (cs := #[.slice none 0 0]) (t := 28) ?_; intro gb1547 hg wA hbox hb; have BKa := am hbox; have GE1547 : Aside0 (w.heap.size ≤ gb1547) := ⟨by rw [hg]; exact Nat.le_refl _⟩; have HBa := am hb; have HLa : Aside0 (gb1547 < wA.heap.size) := ⟨blk_lt hbox⟩; clear hbox hb hg) | ((with_reducible refine gate_dst (N := 9) rfl ?_); refine qx (N := 9) (cs := #[.slice A0 l0.length c0, .int .i64 0, .int .u64 0]) (t := 74) ?_; intro g hg w1_ hbox hb; have HBb := am (HBa.out.trans (hb.mono HBa.out.size)); have hge : w.heap.size ≤ g := (by rw [hg]; exact HBa.out.size); have HI0 : Aside0 (IsS74 w w1_ g l0 0 0) := ⟨A0, c0, hbox, hge, HR0.out⟩; have BK1547 := am (blk_below BKa.out hb); have NB1547_0 : Aside0 (gb1547 ≠ g) := ⟨by rw [hg]; exact Nat.ne_of_lt HLa.out⟩; have NB0_1547 : Aside0 (g ≠ gb1547) := ⟨fun e => NB1547_0.out e.symm⟩; have GW1547 := GE1547; have HK := am (KeepBut.of_below HBb.out g none); have HB := HBb; clear hbox hb hge hg BKa HBa HLa HBb) | ((with_reducible refine gate_callee (f := 155) rfl ?_); refine gL (some 11) Try.func155 #[.pointer (some ⟨g, 0, none⟩), .int .i64 10] ?_; (with_reducible refine (spec_l1Cur_poset.calls k g l0 0 0 10 t1548 t1551 t1552 w _ ?side1 ?side2 A2.out).mono ?_); (case side1 => exact qI74); (case side2 => exact qB); rintro e w46 ⟨v1549, rfl, ho0, hi, hb, hk⟩; refine ⟨_, rfl, ?_⟩; replace BK1547 := am (KeepBut.blk hk (g' := gb1547) (o := .cells #[.slice none 0 0] 28 (0, 0)) (qb BK1547.out) NB1547_0.out (by simp)); have HO1550 := am (Kd.R_lower ho0 (keep_size (w := w) (g := g) (row := none) qK)); have n2_ := am (KeepBut.trans qK hk (.inl rfl)); have n3_ := am (hb); replace HI0 := am (hi); clear HK HB; have HK := n2_; have HB := n3_; clear n2_ n3_; (try clear hb); (try clear hb2); (try clear hk); (try clear hi); (try clear ho0)) | ((with_reducible refine gate_dst (N := 5) rfl ?_); refine qx (N := 5) (cs := #[.slice none 0 0]) (t := 28) ?_; intro gb1553 hg w47 hbox hb; replace HO1550 := am (Kd.R_below (qR HO1550.out) hb); have n1_ := am (IsS74.below qI74 hb); have n2_ := am (blk_below (g := gb1547) (o := .cells #[.slice none 0 0] 28 (0, 0)) (qb BK1547.out) hb); have n3_ := am (KeepBut.trans qK (KeepBut.of_below hb g none) (.inl rfl)); have n4_ := am (below_step qB hb); have BK1553 := am (hbox); have GW1553 := am ((by rw [hg]; exact (keep_size (w := w) (g := g) (row := none) qK) : w.heap.size ≤ gb1553)); have GE1553 := am ((Nat.le_trans HW0.out (by rw [hg]; exact (keep_size (w := w) (g := g) (row := none) qK) : w.heap.size ≤ gb1553) : w.heap.size ≤ gb1553)); have NB1547_1553 := am ((by rw [hg]; exact Nat.ne_of_lt (blk_lt (g := gb1547) (o := .cells #[.slice none 0 0] 28 (0, 0)) (qb BK1547.out)) : gb1547 ≠ gb1553)); have NB1553_1547 := am ((by rw [hg]; exact Nat.ne_of_gt (blk_lt (g := gb1547) (o := .cells #[.slice none 0 0] 28 (0, 0)) (qb BK1547.out)) : gb1553 ≠ gb1547)); have NB0_1553 := am ((by rw [hg]; exact Nat.ne_of_lt (IsS74.lt (show IsS74 w _ g l0 t1551 t1552 from qI74)) : g ≠ gb1553)); have NB1553_0 := am ((by rw [hg]; exact Nat.ne_of_gt (IsS74.lt (show IsS74 w _ g l0 t1551 t1552 from qI74)) : gb1553 ≠ g)); clear HI0 BK1547 HK HB; have HI0 := n1_; have BK1547 := n2_; have HK := n3_; have HB := n4_; clear n1_ n2_ n3_ n4_; clear hb hbox hg; obtain ⟨Ao48, co48, eo48⟩ := Kd.R_slice HO1550.out; subst eo48; have hnb49 := NB1553_1547.out; have hnc49 := NB1547_1553.out; have hnb50 := NB1553_0.out; have hnc50 := NB0_1553.out; have hcz51_0 := qz w47 BK1553.out; have hfz51_0 := blk_frozen BK1553.out 0) | ((with_reducible refine gate_callee (f := 160) rfl ?_); refine gL (some 14) Try.func160 #[.pointer (some ⟨g, 0, none⟩), .agg #[.slice Ao48 t1548.length co48]] ?_; (with_reducible refine (spec_l1Cur_setOf.calls g l0 t1551 t1552 _ _ t1548 t1554 t1555 t1556 w _ ?side1 ?side2 ?side3 ?side4 ?side5 A3.out).mono ?_); (case side1 => exact qI74); (case side2 => exact qB); (case side3 => refine (Kd.R_reads' (e := 3) (base := w.heap.size) (ok := fun k_ => True) (n := t1548.length) (c := co48) ?_).2.2; exact (qR ((Kd.R_mono (Kd.R_far (p := ⟨gb1553, 0, none⟩) (Kd.R_types HO1550.out BK1553.out (by decide)) (fun _ hk => hk.2) (.slice Ao48 t1548.length co48)) (fun _ h_ => h_.1))))); (case side4 => exact (Kd.R_reads' HO1550.out).2.1); (case side5 => exact far_slice (IsS74.own_ne HI0.out HO1550.out (by decide))); rintro e w52 ⟨rfl, hi, hb, hk⟩; refine ⟨_, rfl, ?_⟩; replace BK1547 := am (KeepBut.blk hk (g' := gb1547) (o := .cells #[.slice none 0 0] 28 (0, 0)) (by (with_reducible repeat (first | refine blk_drewN ?_ _ | refine blk_drew ?_ | refine blk_alloc ?_ _)); refine blk_far ?_ NB1547_1553.out _; refine qb ?_; exact BK1547.out) NB1547_0.out (by simp)); replace HO1550 := am (Kd.R_mono (Kd.R_keep (IsS74.apart (show IsS74 w _ g l0 t1551 t1552 from qI74) (qR ((Kd.R_mono (Kd.R_far (p := ⟨gb1553, 0, none⟩) (Kd.R_types HO1550.out BK1553.out (by decide)) (fun _ hk => hk.2) (.slice Ao48 t1548.length co48)) (fun _ h_ => h_.1)))) (by decide)) hk (fun _ h => h.2)) (fun _ h => h.1)); replace BK1553 := am (KeepBut.blk hk (g' := gb1553) (o := .cells #[.slice Ao48 t1548.length co48] 28 (0, 0)) (by (with_reducible repeat (first | refine blk_drewN ?_ _ | refine blk_drew ?_ | refine blk_alloc ?_ _)); refine blk_put (cs := #[.slice none 0 0]) ?_ 0 _ rfl; refine qb ?_; exact BK1553.out) NB1553_0.out (by simp)); have n3_ := am (KeepBut.trans qK hk (.inl rfl)); have n4_ := am (hb); replace HI0 := am (hi); clear HK HB; have HK := n3_; have HB := n4_; clear n3_ n4_; (try clear hb); (try clear hb2); (try clear hk); (try clear hi); have hcz53_0 := qz w52 BK1553.out; have hfz53_0 := blk_frozen BK1553.out 0) | ((with_reducible refine gate_callee (f := 94) rfl ?_); refine gL (some 16) Try.func94 #[.agg #[.slice Ao48 t1548.length co48]] ?_; (with_reducible refine (spec_poGood.calls k _ _ t1548 true _ ?side1 ?side2 A4.out).mono ?_); (case side1 => exact qC (Kd.R_reads' HO1550.out).2.2); (case side2 => exact (Kd.R_reads' HO1550.out).2.1); rintro e w54 ⟨rfl, hb⟩; refine ⟨_, rfl, ?_⟩; replace HO1550 := am (Kd.R_below (qR HO1550.out) hb); have n1_ := am (IsS74.below qI74 hb); replace BK1547 := am (blk_below (g := gb1547) (o := .cells #[.slice none 0 0] 28 (0, 0)) (qb BK1547.out) hb); replace BK1553 := am (blk_below (g := gb1553) (o := .cells #[.slice Ao48 t1548.length co48] 28 (0, 0)) (qb BK1553.out) hb); have n4_ := am (KeepBut.trans qK (KeepBut.of_below hb g none) (.inl rfl)); replace HB := am (below_step qB hb); clear HI0 HK; have HI0 := n1_; have HK := n4_; clear n1_ n4_; (try clear hb); (try clear hb2); (try clear hk); (try clear hi); have hcz55_0 := qz w54 BK1553.out; have hfz55_0 := blk_frozen BK1553.out 0) | (go_at_call 108; (with_reducible refine (spec_poSet.calls _ _ t1548 t1554 false _ ?side1 ?side2 A6.out).mono ?_); (case side1 => exact qC (Kd.R_reads' HO1550.out).2.2); (case side2 => exact (Kd.R_reads' HO1550.out).2.1); rintro e w56 ⟨rfl, hb⟩; replace HO1550 := am (Kd.R_below (qR HO1550.out) hb); have n1_ := am (IsS74.below qI74 hb); replace BK1547 := am (blk_below (g := gb1547) (o := .cells #[.slice none 0 0] 28 (0, 0)) (qb BK1547.out) hb); replace BK1553 := am (blk_below (g := gb1553) (o := .cells #[.slice Ao48 t1548.length co48] 28 (0, 0)) (qb BK1553.out) hb); have n4_ := am (KeepBut.trans qK (KeepBut.of_below hb g none) (.inl rfl)); replace HB := am (below_step qB hb); clear HI0 HK; have HI0 := n1_; have HK := n4_; clear n1_ n4_; (try clear hb); (try clear hb2); (try clear hk); (try clear hi); have hcz57_0 := qz w56 BK1553.out; have hfz57_0 := blk_frozen BK1553.out 0; have hnb58 := NB1547_0.out; have hnc58 := NB0_1547.out; have hcz59_0 := qz w56 BK1547.out; have hfz59_0 := blk_frozen BK1547.out 0))
   refine bodyPost_ret (results_ct rfl _ _ gb1547 28 #[.slice Ao48 t1548.length co48] (0, 0) _ rfl (by (with_reducible repeat (first | refine blk_drewN ?_ _ | refine blk_drew ?_ | refine blk_alloc ?_ _)); refine blk_put (cs := #[.slice none 0 0]) ?_ 0 _ rfl; refine qb ?_; exact BK1547.out) Try.underlying28 rfl (by kernel_rfl)) rfl ?_
   exact ⟨_, qr, qR (Kd.R_mono (Kd.R_far (p := ⟨gb1547, 0, none⟩) (Kd.R_types HO1550.out BK1547.out (by decide)) (fun _ hk => hk.2) (.slice Ao48 t1548.length co48)) (fun _ hk => trivial)), qB⟩
 ·replace c5 := Bool.eq_false_iff.mpr c5
  subst c5
  have H1 : (some (t1548, t1554, t1555, t1556)) = some (r1, r2, r3, r4) := by rw [if_neg (show ¬ (false = true) by decide)] at H; exact H
  clear H
  have H := H1
  clear H1
  simp only [Option.some.injEq, Prod.mk.injEq] at H
  obtain ⟨rfl, rfl, rfl, rfl⟩ := H
  go_enter Try.func107, Try.ntmps107
  go_wp2_with (first | ((with_reducible refine gate_dst (N := 2) rfl ?_); refine qx (N := 2) (cs := #[.slice none 0 0]) (t := 28) ?_; intro gb1547 hg wA hbox hb; have BKa := am hbox; have GE1547 : Aside0 (w.heap.size ≤ gb1547) := ⟨by rw [hg]; exact Nat.le_refl _⟩; have HBa := am hb; have HLa : Aside0 (gb1547 < wA.heap.size) := ⟨blk_lt hbox⟩; clear hbox hb hg) | ((with_reducible refine gate_dst (N := 9) rfl ?_); refine qx (N := 9) (cs := #[.slice A0 l0.length c0, .int .i64 0, .int .u64 0]) (t := 74) ?_; intro g hg w1_ hbox hb; have HBb := am (HBa.out.trans (hb.mono HBa.out.size)); have hge : w.heap.size ≤ g := (by rw [hg]; exact HBa.out.size); have HI0 : Aside0 (IsS74 w w1_ g l0 0 0) := ⟨A0, c0, hbox, hge, HR0.out⟩; have BK1547 := am (blk_below BKa.out hb); have NB1547_0 : Aside0 (gb1547 ≠ g) := ⟨by rw [hg]; exact Nat.ne_of_lt HLa.out⟩; have NB0_1547 : Aside0 (g ≠ gb1547) := ⟨fun e => NB1547_0.out e.symm⟩; have GW1547 := GE1547; have HK := am (KeepBut.of_below HBb.out g none); have HB := HBb; clear hbox hb hge hg BKa HBa HLa HBb) | ((with_reducible refine gate_callee (f := 155) rfl ?_); refine gL (some 11) Try.func155 #[.pointer (some ⟨g, 0, none⟩), .int .i64 10] ?_; (with_reducible refine (spec_l1Cur_poset.calls k g l0 0 0 10 t1548 t1551 t1552 w _ ?side1 ?side2 A2.out).mono ?_); (case side1 => exact qI74); (case side2 => exact qB); rintro e w61 ⟨v1549, rfl, ho0, hi, hb, hk⟩; refine ⟨_, rfl, ?_⟩; replace BK1547 := am (KeepBut.blk hk (g' := gb1547) (o := .cells #[.slice none 0 0] 28 (0, 0)) (qb BK1547.out) NB1547_0.out (by simp)); have HO1550 := am (Kd.R_lower ho0 (keep_size (w := w) (g := g) (row := none) qK)); have n2_ := am (KeepBut.trans qK hk (.inl rfl)); have n3_ := am (hb); replace HI0 := am (hi); clear HK HB; have HK := n2_; have HB := n3_; clear n2_ n3_; (try clear hb); (try clear hb2); (try clear hk); (try clear hi); (try clear ho0)) | ((with_reducible refine gate_dst (N := 5) rfl ?_); refine qx (N := 5) (cs := #[.slice none 0 0]) (t := 28) ?_; intro gb1553 hg w62 hbox hb; replace HO1550 := am (Kd.R_below (qR HO1550.out) hb); have n1_ := am (IsS74.below qI74 hb); have n2_ := am (blk_below (g := gb1547) (o := .cells #[.slice none 0 0] 28 (0, 0)) (qb BK1547.out) hb); have n3_ := am (KeepBut.trans qK (KeepBut.of_below hb g none) (.inl rfl)); have n4_ := am (below_step qB hb); have BK1553 := am (hbox); have GW1553 := am ((by rw [hg]; exact (keep_size (w := w) (g := g) (row := none) qK) : w.heap.size ≤ gb1553)); have GE1553 := am ((Nat.le_trans HW0.out (by rw [hg]; exact (keep_size (w := w) (g := g) (row := none) qK) : w.heap.size ≤ gb1553) : w.heap.size ≤ gb1553)); have NB1547_1553 := am ((by rw [hg]; exact Nat.ne_of_lt (blk_lt (g := gb1547) (o := .cells #[.slice none 0 0] 28 (0, 0)) (qb BK1547.out)) : gb1547 ≠ gb1553)); have NB1553_1547 := am ((by rw [hg]; exact Nat.ne_of_gt (blk_lt (g := gb1547) (o := .cells #[.slice none 0 0] 28 (0, 0)) (qb BK1547.out)) : gb1553 ≠ gb1547)); have NB0_1553 := am ((by rw [hg]; exact Nat.ne_of_lt (IsS74.lt (show IsS74 w _ g l0 t1551 t1552 from qI74)) : g ≠ gb1553)); have NB1553_0 := am ((by rw [hg]; exact Nat.ne_of_gt (IsS74.lt (show IsS74 w _ g l0 t1551 t1552 from qI74)) : gb1553 ≠ g)); clear HI0 BK1547 HK HB; have HI0 := n1_; have BK1547 := n2_; have HK := n3_; have HB := n4_; clear n1_ n2_ n3_ n4_; clear hb hbox hg; obtain ⟨Ao63, co63, eo63⟩ := Kd.R_slice HO1550.out; subst eo63; have hnb64 := NB1553_1547.out; have hnc64 := NB1547_1553.out; have hnb65 := NB1553_0.out; have hnc65 := NB0_1553.out; have hcz66_0 := qz w62 BK1553.out; have hfz66_0 := blk_frozen BK1553.out 0) | ((with_reducible refine gate_callee (f := 160) rfl ?_); refine gL (some 14) Try.func160 #[.pointer (some ⟨g, 0, none⟩), .agg #[.slice Ao63 t1548.length co63]] ?_; (with_reducible refine (spec_l1Cur_setOf.calls g l0 t1551 t1552 _ _ t1548 t1554 t1555 t1556 w _ ?side1 ?side2 ?side3 ?side4 ?side5 A3.out).mono ?_); (case side1 => exact qI74); (case side2 => exact qB); (case side3 => refine (Kd.R_reads' (e := 3) (base := w.heap.size) (ok := fun k_ => True) (n := t1548.length) (c := co63) ?_).2.2; exact (qR ((Kd.R_mono (Kd.R_far (p := ⟨gb1553, 0, none⟩) (Kd.R_types HO1550.out BK1553.out (by decide)) (fun _ hk => hk.2) (.slice Ao63 t1548.length co63)) (fun _ h_ => h_.1))))); (case side4 => exact (Kd.R_reads' HO1550.out).2.1); (case side5 => exact far_slice (IsS74.own_ne HI0.out HO1550.out (by decide))); rintro e w67 ⟨rfl, hi, hb, hk⟩; refine ⟨_, rfl, ?_⟩; replace BK1547 := am (KeepBut.blk hk (g' := gb1547) (o := .cells #[.slice none 0 0] 28 (0, 0)) (by (with_reducible repeat (first | refine blk_drewN ?_ _ | refine blk_drew ?_ | refine blk_alloc ?_ _)); refine blk_far ?_ NB1547_1553.out _; refine qb ?_; exact BK1547.out) NB1547_0.out (by simp)); replace HO1550 := am (Kd.R_mono (Kd.R_keep (IsS74.apart (show IsS74 w _ g l0 t1551 t1552 from qI74) (qR ((Kd.R_mono (Kd.R_far (p := ⟨gb1553, 0, none⟩) (Kd.R_types HO1550.out BK1553.out (by decide)) (fun _ hk => hk.2) (.slice Ao63 t1548.length co63)) (fun _ h_ => h_.1)))) (by decide)) hk (fun _ h => h.2)) (fun _ h => h.1)); replace BK1553 := am (KeepBut.blk hk (g' := gb1553) (o := .cells #[.slice Ao63 t1548.length co63] 28 (0, 0)) (by (with_reducible repeat (first | refine blk_drewN ?_ _ | refine blk_drew ?_ | refine blk_alloc ?_ _)); refine blk_put (cs := #[.slice none 0 0]) ?_ 0 _ rfl; refine qb ?_; exact BK1553.out) NB1553_0.out (by simp)); have n3_ := am (KeepBut.trans qK hk (.inl rfl)); have n4_ := am (hb); replace HI0 := am (hi); clear HK HB; have HK := n3_; have HB := n4_; clear n3_ n4_; (try clear hb); (try clear hb2); (try clear hk); (try clear hi); have hcz68_0 := qz w67 BK1553.out; have hfz68_0 := blk_frozen BK1553.out 0) | ((with_reducible refine gate_callee (f := 94) rfl ?_); refine gL (some 16) Try.func94 #[.agg #[.slice Ao63 t1548.length co63]] ?_; (with_reducible refine (spec_poGood.calls k _ _ t1548 false _ ?side1 ?side2 A4.out).mono ?_); (case side1 => exact qC (Kd.R_reads' HO1550.out).2.2); (case side2 => exact (Kd.R_reads' HO1550.out).2.1); rintro e w69 ⟨rfl, hb⟩; refine ⟨_, rfl, ?_⟩; replace HO1550 := am (Kd.R_below (qR HO1550.out) hb); have n1_ := am (IsS74.below qI74 hb); replace BK1547 := am (blk_below (g := gb1547) (o := .cells #[.slice none 0 0] 28 (0, 0)) (qb BK1547.out) hb); replace BK1553 := am (blk_below (g := gb1553) (o := .cells #[.slice Ao63 t1548.length co63] 28 (0, 0)) (qb BK1553.out) hb); have n4_ := am (KeepBut.trans qK (KeepBut.of_below hb g none) (.inl rfl)); replace HB := am (below_step qB hb); clear HI0 HK; have HI0 := n1_; have HK := n4_; clear n1_ n4_; (try clear hb); (try clear hb2); (try clear hk); (try clear hi); have hcz70_0 := qz w69 BK1553.out; have hfz70_0 := blk_frozen BK1553.out 0; have hnb71 := NB1547_0.out; have hnc71 := NB0_1547.out; have hcz72_0 := qz w69 BK1547.out; have hfz72_0 := blk_frozen BK1547.out 0))
  refine bodyPost_ret (results_ct rfl _ _ gb1547 28 #[.slice Ao63 t1548.length co63] (0, 0) _ rfl (by (with_reducible repeat (first | refine blk_drewN ?_ _ | refine blk_drew ?_ | refine blk_alloc ?_ _)); refine blk_put (cs := #[.slice none 0 0]) ?_ 0 _ rfl; refine qb ?_; exact BK1547.out) Try.underlying28 rfl (by kernel_rfl)) rfl ?_
  exact ⟨_, qr, qR (Kd.R_mono (Kd.R_far (p := ⟨gb1547, 0, none⟩) (Kd.R_types HO1550.out BK1547.out (by decide)) (fun _ hk => hk.2) (.slice Ao63 t1548.length co63)) (fun _ hk => trivial)), qB⟩
def spec_DrawIdealOf.f (k : Nat) (l0 : List Int) : Option (List Int × Int) := (spec_DrawIsIdeal.f k l0).bind fun bt549 => (some (bt549.1, bt549.2))
theorem spec_DrawIdealOf.mono : ∀ a0 k, LeO (spec_DrawIdealOf.f k a0) (spec_DrawIdealOf.f (k + 1) a0) := by
 intro a0 k
 unfold spec_DrawIdealOf.f
 repeat' first
  | (with_reducible exact spec_DrawIsIdeal.mono _ _)
  | (with_reducible exact LeO.refl _)
  | (with_reducible exact LeO.none _)
  | (with_reducible refine LeO.ite ?_ ?_)
  | (with_reducible refine LeO.bind ?_ (fun _ => ?_))
  | exact spec_DrawIsIdeal.mono _ _
  | exact LeO.none _
  | refine LeO.ite ?_ ?_
  | refine LeO.bind ?_ (fun _ => ?_)
set_option maxHeartbeats 8000000 in
set_option maxRecDepth 100000 in
theorem spec_DrawIdealOf.calls (k : Nat) (A0 : Option Addr) (c0 : Nat) (l0 : List Int) (r1 : List Int) (r2 : Int) (w : World) (hr0 : Kd.C (Kd.int .u8) w A0 l0.length l0) (hc0 : l0.length ≤ c0) (h : spec_DrawIdealOf.f k l0 = some (r1, r2)) :
 Calls Try.prog 36 #[.slice A0 l0.length c0] w fun e w' => ∃ v0_ : Value, e = .returned (.tuple #[.agg #[v0_], .int .i64 r2]) ∧ Kd.R (Kd.int .i64) 3 w' w.heap.size (fun _ => True) v0_ r1 ∧ Below w.heap.size w w' := by
 have hu28 := Try.underlying28
 have HR0 := am hr0
 have HC0 := am hc0
 clear hr0 hc0
 have HB := am (Below.refl w.heap.size w)
 have H : ((spec_DrawIsIdeal.f k l0).bind fun bt549 => (some (bt549.1, bt549.2))) = some (r1, r2) := h
 clear h
 replace H := Option.bind_eq_some_iff.mp H
 obtain ⟨⟨t549, t552⟩, A20, H⟩ := H
 replace H : (some (t549, t552)) = some (r1, r2) := H
 have A2 := am A20
 clear A20
 simp only [Option.some.injEq, Prod.mk.injEq] at H
 obtain ⟨rfl, rfl⟩ := H
 go_enter Try.func36, Try.ntmps36
 go_wp2_with (first | ((with_reducible refine gate_dst (N := 2) rfl ?_); refine qx (N := 2) (cs := #[.slice none 0 0]) (t := 28) ?_; intro gb548 hg w3 hbox hb; have n0_ := am (below_step qB hb); have BK548 := am (hbox); have GW548 := am (qg w hg); have GE548 := am (qg w hg); clear HB; have HB := n0_; clear n0_; clear hb hbox hg) | ((with_reducible refine gate_callee (f := 107) rfl ?_); refine gL (some 5) Try.func107 #[.slice A0 l0.length c0] ?_; (with_reducible refine (spec_DrawIsIdeal.calls k _ _ l0 t549 t552 _ ?side1 ?side2 A2.out).mono ?_); (case side1 => exact qC (Kd.C_below HR0.out HB.out)); (case side2 => exact HC0.out); rintro e w4 ⟨v550, rfl, ho0, hb⟩; refine ⟨_, rfl, ?_⟩; have HO551 := am (Kd.R_lower ho0 (below_size qB)); replace BK548 := am (blk_below (g := gb548) (o := .cells #[.slice none 0 0] 28 (0, 0)) (qb BK548.out) hb); replace HB := am (below_step qB hb); (try clear hb); (try clear hb2); (try clear hk); (try clear hi); (try clear ho0); obtain ⟨Ao5, co5, eo5⟩ := Kd.R_slice HO551.out; subst eo5; have hcz6_0 := qz w4 BK548.out; have hfz6_0 := blk_frozen BK548.out 0))
 refine bodyPost_ret (results_ct rfl _ _ gb548 28 #[.slice Ao5 t549.length co5] (0, 0) _ rfl (by (with_reducible repeat (first | refine blk_drewN ?_ _ | refine blk_drew ?_ | refine blk_alloc ?_ _)); refine blk_put (cs := #[.slice none 0 0]) ?_ 0 _ rfl; refine qb ?_; exact BK548.out) Try.underlying28 rfl (by kernel_rfl)) rfl ?_
 exact ⟨_, qr, qR (Kd.R_mono (Kd.R_far (p := ⟨gb548, 0, none⟩) (Kd.R_types HO551.out BK548.out (by decide)) (fun _ hk => hk.2) (.slice Ao5 t549.length co5)) (fun _ hk => trivial)), qB⟩
def spec_DrawIsAntichainR.f (k : Nat) (s0_0 : List Int) (s0_1 : Int) (s0_2 : Int) (l1 : List Int) : Option (List Int × Int × Int × Int) := (spec_DrawIsIdeal.f k l1).bind fun bt1592 => ((spec_poGood.f k bt1592.1).bind fun t1597 => (if t1597 = true then ((spec_poSet.f bt1592.1 bt1592.2).bind fun t1598 => (if t1598 = true then ((spec_l1Cur_one.f s0_0 s0_1 s0_2 2).bind fun bt1599 => (if bt1599.1 = true then ((spec_poTop.f k bt1592.1 bt1592.2).bind fun t1602 => (some (bt1592.1, t1602, bt1599.2.1, bt1599.2.2))) else (some (bt1592.1, bt1592.2, bt1599.2.1, bt1599.2.2)))) else (some (bt1592.1, bt1592.2, s0_1, s0_2)))) else (some (bt1592.1, bt1592.2, s0_1, s0_2))))
theorem spec_DrawIsAntichainR.mono : ∀ a0 a1 a2 a3 k, LeO (spec_DrawIsAntichainR.f k a0 a1 a2 a3) (spec_DrawIsAntichainR.f (k + 1) a0 a1 a2 a3) := by
 intro a0 a1 a2 a3 k
 unfold spec_DrawIsAntichainR.f
 repeat' first
  | (with_reducible exact spec_DrawIsIdeal.mono _ _)
  | (with_reducible exact spec_poGood.mono _ _)
  | (with_reducible exact spec_poTop.mono _ _ _)
  | (with_reducible exact LeO.refl _)
  | (with_reducible exact LeO.none _)
  | (with_reducible refine LeO.ite ?_ ?_)
  | (with_reducible refine LeO.bind ?_ (fun _ => ?_))
  | exact spec_DrawIsIdeal.mono _ _
  | exact spec_poGood.mono _ _
  | exact spec_poTop.mono _ _ _
  | exact LeO.none _
  | refine LeO.ite ?_ ?_
  | refine LeO.bind ?_ (fun _ => ?_)
def spec_DrawIsAntichain.f (k : Nat) (l0 : List Int) : Option ((List Int) × (Int)) := (spec_DrawIsAntichainR.f k l0 0 0 l0).bind fun bt => some (bt.1, bt.2.1)
theorem spec_DrawIsAntichain.mono : ∀ a0 k, LeO (spec_DrawIsAntichain.f k a0) (spec_DrawIsAntichain.f (k + 1) a0) := fun a0 k => LeO.bind (spec_DrawIsAntichainR.mono _ _ _ _ _) (fun _ => LeO.refl _)
set_option maxHeartbeats 8000000 in
set_option maxRecDepth 100000 in
theorem spec_DrawIsAntichain.calls (k : Nat) (A0 : Option Addr) (c0 : Nat) (l0 : List Int) (r1 : List Int) (r2 : Int) (w : World) (hr0 : Kd.C (Kd.int .u8) w A0 l0.length l0) (hc0 : l0.length ≤ c0) (hf : spec_DrawIsAntichain.f k l0 = some (r1, r2)) :
 Calls Try.prog 45 #[.slice A0 l0.length c0] w fun e w' => ∃ v0_ : Value, e = .returned (.tuple #[.agg #[v0_], .int .i64 r2]) ∧ Kd.R (Kd.int .i64) 3 w' w.heap.size (fun _ => True) v0_ r1 ∧ Below w.heap.size w w' := by
 unfold spec_DrawIsAntichain.f at hf
 obtain ⟨⟨r1_, r2_, r3, r4⟩, h, hf⟩ := Option.bind_eq_some_iff.1 hf
 have hf := Option.some.inj hf
 simp only [Prod.mk.injEq] at hf
 obtain ⟨hf0, hf1⟩ := hf
 replace hf0 := hf0.symm
 subst hf0
 replace hf1 := hf1.symm
 subst hf1
 have HR0 := am hr0
 have HC0 := am hc0
 clear hr0 hc0
 have hu28 := Try.underlying28
 have HL := am (Nat.le_refl w.heap.size)
 have HW0 := am (Nat.le_refl w.heap.size)
 have H : ((spec_DrawIsIdeal.f k l0).bind fun bt1592 => ((spec_poGood.f k bt1592.1).bind fun t1597 => (if t1597 = true then ((spec_poSet.f bt1592.1 bt1592.2).bind fun t1598 => (if t1598 = true then ((spec_l1Cur_one.f l0 0 0 2).bind fun bt1599 => (if bt1599.1 = true then ((spec_poTop.f k bt1592.1 bt1592.2).bind fun t1602 => (some (bt1592.1, t1602, bt1599.2.1, bt1599.2.2))) else (some (bt1592.1, bt1592.2, bt1599.2.1, bt1599.2.2)))) else (some (bt1592.1, bt1592.2, 0, 0)))) else (some (bt1592.1, bt1592.2, 0, 0))))) = some (r1, r2, r3, r4) := h
 clear h
 replace H := Option.bind_eq_some_iff.mp H
 obtain ⟨⟨t1592, t1595⟩, A30, H⟩ := H
 replace H : ((spec_poGood.f k t1592).bind fun t1597 => (if t1597 = true then ((spec_poSet.f t1592 t1595).bind fun t1598 => (if t1598 = true then ((spec_l1Cur_one.f l0 0 0 2).bind fun bt1599 => (if bt1599.1 = true then ((spec_poTop.f k t1592 t1595).bind fun t1602 => (some (t1592, t1602, bt1599.2.1, bt1599.2.2))) else (some (t1592, t1595, bt1599.2.1, bt1599.2.2)))) else (some (t1592, t1595, 0, 0)))) else (some (t1592, t1595, 0, 0)))) = some (r1, r2, r3, r4) := H
 have A3 := am A30
 clear A30
 replace H := Option.bind_eq_some_iff.mp H
 obtain ⟨t1597, A40, H⟩ := H
 replace H : (if t1597 = true then ((spec_poSet.f t1592 t1595).bind fun t1598 => (if t1598 = true then ((spec_l1Cur_one.f l0 0 0 2).bind fun bt1599 => (if bt1599.1 = true then ((spec_poTop.f k t1592 t1595).bind fun t1602 => (some (t1592, t1602, bt1599.2.1, bt1599.2.2))) else (some (t1592, t1595, bt1599.2.1, bt1599.2.2)))) else (some (t1592, t1595, 0, 0)))) else (some (t1592, t1595, 0, 0))) = some (r1, r2, r3, r4) := H
 have A4 := am A40
 clear A40
 by_cases c5 : t1597 = true
 ·subst c5
  have H1 : ((spec_poSet.f t1592 t1595).bind fun t1598 => (if t1598 = true then ((spec_l1Cur_one.f l0 0 0 2).bind fun bt1599 => (if bt1599.1 = true then ((spec_poTop.f k t1592 t1595).bind fun t1602 => (some (t1592, t1602, bt1599.2.1, bt1599.2.2))) else (some (t1592, t1595, bt1599.2.1, bt1599.2.2)))) else (some (t1592, t1595, 0, 0)))) = some (r1, r2, r3, r4) := by rw [if_pos rfl] at H; exact H
  clear H
  have H := H1
  clear H1
  replace H := Option.bind_eq_some_iff.mp H
  obtain ⟨t1598, A60, H⟩ := H
  replace H : (if t1598 = true then ((spec_l1Cur_one.f l0 0 0 2).bind fun bt1599 => (if bt1599.1 = true then ((spec_poTop.f k t1592 t1595).bind fun t1602 => (some (t1592, t1602, bt1599.2.1, bt1599.2.2))) else (some (t1592, t1595, bt1599.2.1, bt1599.2.2)))) else (some (t1592, t1595, 0, 0))) = some (r1, r2, r3, r4) := H
  have A6 := am A60
  clear A60
  by_cases c7 : t1598 = true
  ·subst c7
   have H1 : ((spec_l1Cur_one.f l0 0 0 2).bind fun bt1599 => (if bt1599.1 = true then ((spec_poTop.f k t1592 t1595).bind fun t1602 => (some (t1592, t1602, bt1599.2.1, bt1599.2.2))) else (some (t1592, t1595, bt1599.2.1, bt1599.2.2)))) = some (r1, r2, r3, r4) := by rw [if_pos rfl] at H; exact H
   clear H
   have H := H1
   clear H1
   replace H := Option.bind_eq_some_iff.mp H
   obtain ⟨⟨t1599, t1600, t1601⟩, A80, H⟩ := H
   replace H : (if t1599 = true then ((spec_poTop.f k t1592 t1595).bind fun t1602 => (some (t1592, t1602, t1600, t1601))) else (some (t1592, t1595, t1600, t1601))) = some (r1, r2, r3, r4) := H
   have A8 := am A80
   clear A80
   by_cases c9 : t1599 = true
   ·subst c9
    have H1 : ((spec_poTop.f k t1592 t1595).bind fun t1602 => (some (t1592, t1602, t1600, t1601))) = some (r1, r2, r3, r4) := by rw [if_pos rfl] at H; exact H
    clear H
    have H := H1
    clear H1
    replace H := Option.bind_eq_some_iff.mp H
    obtain ⟨t1602, A100, H⟩ := H
    replace H : (some (t1592, t1602, t1600, t1601)) = some (r1, r2, r3, r4) := H
    have A10 := am A100
    clear A100
    simp only [Option.some.injEq, Prod.mk.injEq] at H
    obtain ⟨rfl, rfl, rfl, rfl⟩ := H
    go_enter Try.func45, Try.ntmps45
    try go_wp2_with (first | ((with_reducible refine gate_dst (N := 2) rfl ?_); refine qx (N := 2) (cs := #[.slice none 0 0]) (t := 28) ?_; intro gb1591 hg wA hbox hb; have BKa := am hbox; have GE1591 : Aside0 (w.heap.size ≤ gb1591) := ⟨by rw [hg]; exact Nat.le_refl _⟩; have HBa := am hb; have HLa : Aside0 (gb1591 < wA.heap.size) := ⟨blk_lt hbox⟩; clear hbox hb hg) | ((with_reducible refine gate_dst (N := 9) rfl ?_); refine qx (N := 9) (cs := #[.slice A0 l0.length c0, .int .i64 0, .int .u64 0]) (t := 74) ?_; intro g hg w1_ hbox hb; have HBb := am (HBa.out.trans (hb.mono HBa.out.size)); have hge : w.heap.size ≤ g := (by rw [hg]; exact HBa.out.size); have HI0 : Aside0 (IsS74 w w1_ g l0 0 0) := ⟨A0, c0, hbox, hge, HR0.out⟩; have BK1591 := am (blk_below BKa.out hb); have NB1591_0 : Aside0 (gb1591 ≠ g) := ⟨by rw [hg]; exact Nat.ne_of_lt HLa.out⟩; have NB0_1591 : Aside0 (g ≠ gb1591) := ⟨fun e => NB1591_0.out e.symm⟩; have GW1591 := GE1591; have HK := am (KeepBut.of_below HBb.out g none); have HB := HBb; clear hbox hb hge hg BKa HBa HLa HBb) | ((with_reducible refine gate_callee (f := 107) rfl ?_); refine gL (some 12) Try.func107 #[.slice A0 l0.length c0] ?_; (with_reducible refine (spec_DrawIsIdeal.calls k _ _ l0 t1592 t1595 _ ?side1 ?side2 A3.out).mono ?_); (case side1 => exact Kd.C_below HR0.out qB); (case side2 => exact HC0.out); rintro e w12 ⟨v1593, rfl, ho0, hb⟩; refine ⟨_, rfl, ?_⟩; have HO1594 := am (Kd.R_lower ho0 (keep_size (w := w) (g := g) (row := none) qK)); have n1_ := am (IsS74.below qI74 hb); replace BK1591 := am (blk_below (g := gb1591) (o := .cells #[.slice none 0 0] 28 (0, 0)) (qb BK1591.out) hb); have n3_ := am (KeepBut.trans qK (KeepBut.of_below hb g none) (.inl rfl)); replace HB := am (below_step qB hb); clear HI0 HK; have HI0 := n1_; have HK := n3_; clear n1_ n3_; (try clear hb); (try clear hb2); (try clear hk); (try clear hi); (try clear ho0)) | ((with_reducible refine gate_dst (N := 5) rfl ?_); refine qx (N := 5) (cs := #[.slice none 0 0]) (t := 28) ?_; intro gb1596 hg w13 hbox hb; replace HO1594 := am (Kd.R_below (qR HO1594.out) hb); have n1_ := am (IsS74.below qI74 hb); have n2_ := am (blk_below (g := gb1591) (o := .cells #[.slice none 0 0] 28 (0, 0)) (qb BK1591.out) hb); have n3_ := am (KeepBut.trans qK (KeepBut.of_below hb g none) (.inl rfl)); have n4_ := am (below_step qB hb); have BK1596 := am (hbox); have GW1596 := am ((by rw [hg]; exact (keep_size (w := w) (g := g) (row := none) qK) : w.heap.size ≤ gb1596)); have GE1596 := am ((Nat.le_trans HW0.out (by rw [hg]; exact (keep_size (w := w) (g := g) (row := none) qK) : w.heap.size ≤ gb1596) : w.heap.size ≤ gb1596)); have NB1591_1596 := am ((by rw [hg]; exact Nat.ne_of_lt (blk_lt (g := gb1591) (o := .cells #[.slice none 0 0] 28 (0, 0)) (qb BK1591.out)) : gb1591 ≠ gb1596)); have NB1596_1591 := am ((by rw [hg]; exact Nat.ne_of_gt (blk_lt (g := gb1591) (o := .cells #[.slice none 0 0] 28 (0, 0)) (qb BK1591.out)) : gb1596 ≠ gb1591)); have NB0_1596 := am ((by rw [hg]; exact Nat.ne_of_lt (IsS74.lt (show IsS74 w _ g l0 0 0 from qI74)) : g ≠ gb1596)); have NB1596_0 := am ((by rw [hg]; exact Nat.ne_of_gt (IsS74.lt (show IsS74 w _ g l0 0 0 from qI74)) : gb1596 ≠ g)); clear HI0 BK1591 HK HB; have HI0 := n1_; have BK1591 := n2_; have HK := n3_; have HB := n4_; clear n1_ n2_ n3_ n4_; clear hb hbox hg; obtain ⟨Ao14, co14, eo14⟩ := Kd.R_slice HO1594.out; subst eo14; have hnb15 := NB1596_1591.out; have hnc15 := NB1591_1596.out; have hnb16 := NB1596_0.out; have hnc16 := NB0_1596.out; have hcz17_0 := qz w13 BK1596.out; have hfz17_0 := blk_frozen BK1596.out 0) | ((with_reducible refine gate_callee (f := 94) rfl ?_); refine gL (some 16) Try.func94 #[.agg #[.slice Ao14 t1592.length co14]] ?_; (with_reducible refine (spec_poGood.calls k _ _ t1592 true _ ?side1 ?side2 A4.out).mono ?_); (case side1 => refine (Kd.R_reads' (e := 3) (base := w.heap.size) (ok := fun k_ => True) (n := t1592.length) (c := co14) ?_).2.2; exact (qR ((Kd.R_mono (Kd.R_far (p := ⟨gb1596, 0, none⟩) (Kd.R_types HO1594.out BK1596.out (by decide)) (fun _ hk => hk.2) (.slice Ao14 t1592.length co14)) (fun _ h_ => h_.1))))); (case side2 => exact (Kd.R_reads' HO1594.out).2.1); rintro e w18 ⟨rfl, hb⟩; refine ⟨_, rfl, ?_⟩; replace HO1594 := am (Kd.R_below (qR ((Kd.R_mono (Kd.R_far (p := ⟨gb1596, 0, none⟩) (Kd.R_types HO1594.out BK1596.out (by decide)) (fun _ hk => hk.2) (.slice Ao14 t1592.length co14)) (fun _ h_ => h_.1)))) hb); have n1_ := am (IsS74.below (show IsS74 w (w13.setCell ⟨gb1596, 0, none⟩ (.slice Ao14 t1592.length co14)) g l0 0 0 from qI74) hb); replace BK1591 := am (blk_below (g := gb1591) (o := .cells #[.slice none 0 0] 28 (0, 0)) (by (with_reducible repeat (first | refine blk_drewN ?_ _ | refine blk_drew ?_ | refine blk_alloc ?_ _)); refine blk_far ?_ NB1591_1596.out _; refine qb ?_; exact BK1591.out) hb); replace BK1596 := am (blk_below (g := gb1596) (o := .cells #[.slice Ao14 t1592.length co14] 28 (0, 0)) (by (with_reducible repeat (first | refine blk_drewN ?_ _ | refine blk_drew ?_ | refine blk_alloc ?_ _)); refine blk_put (cs := #[.slice none 0 0]) ?_ 0 _ rfl; refine qb ?_; exact BK1596.out) hb); have n4_ := am (KeepBut.trans qK (KeepBut.of_below hb g none) (.inl rfl)); replace HB := am (below_step qB hb); clear HI0 HK; have HI0 := n1_; have HK := n4_; clear n1_ n4_; (try clear hb); (try clear hb2); (try clear hk); (try clear hi); have hcz19_0 := qz w18 BK1596.out; have hfz19_0 := blk_frozen BK1596.out 0) | (go_at_call 108; (with_reducible refine (spec_poSet.calls _ _ t1592 t1595 true _ ?side1 ?side2 A6.out).mono ?_); (case side1 => exact qC (Kd.R_reads' HO1594.out).2.2); (case side2 => exact (Kd.R_reads' HO1594.out).2.1); rintro e w20 ⟨rfl, hb⟩; replace HO1594 := am (Kd.R_below (qR HO1594.out) hb); have n1_ := am (IsS74.below qI74 hb); replace BK1591 := am (blk_below (g := gb1591) (o := .cells #[.slice none 0 0] 28 (0, 0)) (qb BK1591.out) hb); replace BK1596 := am (blk_below (g := gb1596) (o := .cells #[.slice Ao14 t1592.length co14] 28 (0, 0)) (qb BK1596.out) hb); have n4_ := am (KeepBut.trans qK (KeepBut.of_below hb g none) (.inl rfl)); replace HB := am (below_step qB hb); clear HI0 HK; have HI0 := n1_; have HK := n4_; clear n1_ n4_; (try clear hb); (try clear hb2); (try clear hk); (try clear hi)) | (go_at_call 113; (with_reducible refine (spec_l1Cur_one.calls g l0 0 0 2 true t1600 t1601 w _ ?side1 ?side2 A8.out).mono ?_); (case side1 => exact qI74); (case side2 => exact qB); rintro e w21 ⟨rfl, hi, hb, hk⟩; replace BK1591 := am (KeepBut.blk hk (g' := gb1591) (o := .cells #[.slice none 0 0] 28 (0, 0)) (qb BK1591.out) NB1591_0.out (by simp)); replace HO1594 := am (Kd.R_mono (Kd.R_keep (IsS74.apart (show IsS74 w _ g l0 0 0 from qI74) (qR HO1594.out) (by decide)) hk (fun _ h => h.2)) (fun _ h => h.1)); replace BK1596 := am (KeepBut.blk hk (g' := gb1596) (o := .cells #[.slice Ao14 t1592.length co14] 28 (0, 0)) (qb BK1596.out) NB1596_0.out (by simp)); have n3_ := am (KeepBut.trans qK hk (.inl rfl)); have n4_ := am (hb); replace HI0 := am (hi); clear HK HB; have HK := n3_; have HB := n4_; clear n3_ n4_; (try clear hb); (try clear hb2); (try clear hk); (try clear hi)))
    have n0_ := am (Kd.R_drew HO1594.out)
    have n1_ := am (blk_drew BK1591.out)
    have n2_ := am (blk_drew BK1596.out)
    have n3_ := am (IsS74.drew HI0.out)
    have n4_ := am (keep_drew HK.out)
    have n5_ := am (below_drew1 HB.out)
    clear HO1594
    clear BK1591
    clear BK1596
    clear HI0
    clear HK
    clear HB
    have HO1594 := n0_
    have BK1591 := n1_
    have BK1596 := n2_
    have HI0 := n3_
    have HK := n4_
    have HB := n5_
    clear n0_ n1_ n2_ n3_ n4_ n5_
    refine start_ (n := 6) (S := fun w' => w'.cell? ⟨gb1596, 0, none⟩ = some (.slice Ao14 t1592.length co14)) (ds := []) #[false, false, false, false, false, false] (by kernel_rfl) rfl rfl ((blk_cell BK1596.out 0).trans rfl) (fun hHeld => ?_)
    generalize w21.drew = w22 at HO1594 BK1591 BK1596 HI0 HK HB hHeld ⊢
    refine pure_ (i := 2) (N := some 28) (v := ?_) (a' := ?_) #[false, false, true, false, false, false] rfl rfl (by kernel_rfl) (fun _ _ _ h => h) (Or.inl ⟨by rfl, ?_⟩) ?_ ?_
    rotate_left
    ·intro w'
     go_simp
     with_reducible rfl
    rotate_left
    ·exact qP
    refine take_ (i := 0) (N := some 26) (v := ?_) (a' := ?_) #[true, false, true, false, false, false] rfl rfl (by kernel_rfl) (fun _ _ _ h => h) (Or.inl ⟨by rfl, ?_⟩) hHeld ?_ ?_
    rotate_left
    ·intro w' s0
     go_simp
     with_reducible rfl
    rotate_left
    ·exact qP
    refine take_ (i := 1) (N := some 27) (v := ?_) (a' := ?_) #[true, true, true, false, false, false] rfl rfl (by kernel_rfl) (fun _ _ _ h => h) (Or.inl ⟨by rfl, ?_⟩) hHeld ?_ ?_
    rotate_left
    ·intro w' s0
     go_simp
     with_reducible rfl
    rotate_left
    ·exact qP
    refine one_ (i := 3) (N := some 29) #[true, true, true, true, false, false] rfl rfl (by kernel_rfl) (by decide) (fun K hK => ?_)
    refine goes_ Try.func102 (by kernel_rfl) rfl #[.agg #[.slice Ao14 t1592.length co14], .int .i64 t1595] (by rfl) rfl rfl qA ?_
    with_reducible refine (spec_poTop.calls k _ _ t1592 t1595 t1602 _ ?side1 ?side2 A10.out).mono ?_
    (case side1 => exact qC (Kd.R_reads' HO1594.out).2.2)
    (case side2 => exact (Kd.R_reads' HO1594.out).2.1)
    rintro e w23 ⟨rfl, hb⟩
    refine ⟨_, rfl, ?_⟩
    have n0_ := am (Kd.R_below (qR HO1594.out) hb)
    have n1_ := am (IsS74.below qI74 hb)
    have n2_ := am (blk_below (g := gb1591) (o := .cells #[.slice none 0 0] 28 (0, 0)) (qb BK1591.out) hb)
    have n3_ := am (blk_below (g := gb1596) (o := .cells #[.slice Ao14 t1592.length co14] 28 (0, 0)) (qb BK1596.out) hb)
    have n4_ := am (KeepBut.trans qK (KeepBut.of_below hb g none) (.inl rfl))
    have n5_ := am (below_step qB hb)
    clear HO1594
    clear HI0
    clear BK1591
    clear BK1596
    clear HK
    clear HB
    have HO1594 := n0_
    have HI0 := n1_
    have BK1591 := n2_
    have BK1596 := n3_
    have HK := n4_
    have HB := n5_
    clear n0_ n1_ n2_ n3_ n4_ n5_
    (try clear hb)
    (try clear hb2)
    (try clear hk)
    (try clear hi)
    refine hK.out _ _ ((blk_cell BK1596.out 0).trans rfl) (fun hHeld => ?_)
    clear hK K
    refine norm_ (a' := ?_) ?_ ?_
    rotate_left
    ·show Act.put _ (some 29) _ = _
     simp only [Act.put, List.setIfInBounds_toArray, List.set_cons_zero, List.set_cons_succ, i64_w, i32_w]
     rfl
    refine one_ (i := 4) (N := none) #[true, true, true, true, true, false] rfl rfl (by kernel_rfl) (by decide) (fun K hK => ?_)
    have hs24 : w23.cell? ⟨gb1591, 0, none⟩ = some (.slice none 0 0) := (blk_cell BK1591.out 0).trans rfl
    have hfs24 := blk_frozen BK1591.out 0
    have hns24_1 := NB1596_1591.out
    have hms24_1 := NB1591_1596.out
    refine skip_ (w1 := ?_) (by rfl) rfl ?_ ?_
    rotate_left
    ·go_simp
     rfl
    refine hK.out _ _ (((cell_far (p := ⟨gb1591, _, none⟩) NB1596_1591.out _).trans (hHeld))) (fun hHeld => ?_)
    clear hK K
    refine pure_ (i := 5) (N := some 3) (v := ?_) (a' := ?_) #[true, true, true, true, true, true] rfl rfl (by kernel_rfl) (fun _ _ _ h => h) (Or.inl ⟨by rfl, ?_⟩) ?_ ?_
    rotate_left
    ·intro w'
     go_simp
     with_reducible rfl
    rotate_left
    ·exact qP
    refine done_ (by kernel_rfl) ?_
    try go_wp2
    refine bodyPost_ret (results_ct rfl _ _ gb1591 28 #[.slice Ao14 t1592.length co14] (0, 0) _ rfl (by (with_reducible repeat (first | refine blk_drewN ?_ _ | refine blk_drew ?_ | refine blk_alloc ?_ _)); refine blk_put (cs := #[.slice none 0 0]) ?_ 0 _ rfl; refine qb ?_; exact BK1591.out) Try.underlying28 rfl (by kernel_rfl)) rfl ?_
    exact ⟨_, qr, qR (Kd.R_mono (Kd.R_far (p := ⟨gb1591, 0, none⟩) (Kd.R_types HO1594.out BK1591.out (by decide)) (fun _ hk => hk.2) (.slice Ao14 t1592.length co14)) (fun _ hk => trivial)), qB⟩
   ·replace c9 := Bool.eq_false_iff.mpr c9
    subst c9
    have H1 : (some (t1592, t1595, t1600, t1601)) = some (r1, r2, r3, r4) := by rw [if_neg (show ¬ (false = true) by decide)] at H; exact H
    clear H
    have H := H1
    clear H1
    simp only [Option.some.injEq, Prod.mk.injEq] at H
    obtain ⟨rfl, rfl, rfl, rfl⟩ := H
    go_enter Try.func45, Try.ntmps45
    go_wp2_with (first | ((with_reducible refine gate_dst (N := 2) rfl ?_); refine qx (N := 2) (cs := #[.slice none 0 0]) (t := 28) ?_; intro gb1591 hg wA hbox hb; have BKa := am hbox; have GE1591 : Aside0 (w.heap.size ≤ gb1591) := ⟨by rw [hg]; exact Nat.le_refl _⟩; have HBa := am hb; have HLa : Aside0 (gb1591 < wA.heap.size) := ⟨blk_lt hbox⟩; clear hbox hb hg) | ((with_reducible refine gate_dst (N := 9) rfl ?_); refine qx (N := 9) (cs := #[.slice A0 l0.length c0, .int .i64 0, .int .u64 0]) (t := 74) ?_; intro g hg w1_ hbox hb; have HBb := am (HBa.out.trans (hb.mono HBa.out.size)); have hge : w.heap.size ≤ g := (by rw [hg]; exact HBa.out.size); have HI0 : Aside0 (IsS74 w w1_ g l0 0 0) := ⟨A0, c0, hbox, hge, HR0.out⟩; have BK1591 := am (blk_below BKa.out hb); have NB1591_0 : Aside0 (gb1591 ≠ g) := ⟨by rw [hg]; exact Nat.ne_of_lt HLa.out⟩; have NB0_1591 : Aside0 (g ≠ gb1591) := ⟨fun e => NB1591_0.out e.symm⟩; have GW1591 := GE1591; have HK := am (KeepBut.of_below HBb.out g none); have HB := HBb; clear hbox hb hge hg BKa HBa HLa HBb) | ((with_reducible refine gate_callee (f := 107) rfl ?_); refine gL (some 12) Try.func107 #[.slice A0 l0.length c0] ?_; (with_reducible refine (spec_DrawIsIdeal.calls k _ _ l0 t1592 t1595 _ ?side1 ?side2 A3.out).mono ?_); (case side1 => exact Kd.C_below HR0.out qB); (case side2 => exact HC0.out); rintro e w26 ⟨v1593, rfl, ho0, hb⟩; refine ⟨_, rfl, ?_⟩; have HO1594 := am (Kd.R_lower ho0 (keep_size (w := w) (g := g) (row := none) qK)); have n1_ := am (IsS74.below qI74 hb); replace BK1591 := am (blk_below (g := gb1591) (o := .cells #[.slice none 0 0] 28 (0, 0)) (qb BK1591.out) hb); have n3_ := am (KeepBut.trans qK (KeepBut.of_below hb g none) (.inl rfl)); replace HB := am (below_step qB hb); clear HI0 HK; have HI0 := n1_; have HK := n3_; clear n1_ n3_; (try clear hb); (try clear hb2); (try clear hk); (try clear hi); (try clear ho0)) | ((with_reducible refine gate_dst (N := 5) rfl ?_); refine qx (N := 5) (cs := #[.slice none 0 0]) (t := 28) ?_; intro gb1596 hg w27 hbox hb; replace HO1594 := am (Kd.R_below (qR HO1594.out) hb); have n1_ := am (IsS74.below qI74 hb); have n2_ := am (blk_below (g := gb1591) (o := .cells #[.slice none 0 0] 28 (0, 0)) (qb BK1591.out) hb); have n3_ := am (KeepBut.trans qK (KeepBut.of_below hb g none) (.inl rfl)); have n4_ := am (below_step qB hb); have BK1596 := am (hbox); have GW1596 := am ((by rw [hg]; exact (keep_size (w := w) (g := g) (row := none) qK) : w.heap.size ≤ gb1596)); have GE1596 := am ((Nat.le_trans HW0.out (by rw [hg]; exact (keep_size (w := w) (g := g) (row := none) qK) : w.heap.size ≤ gb1596) : w.heap.size ≤ gb1596)); have NB1591_1596 := am ((by rw [hg]; exact Nat.ne_of_lt (blk_lt (g := gb1591) (o := .cells #[.slice none 0 0] 28 (0, 0)) (qb BK1591.out)) : gb1591 ≠ gb1596)); have NB1596_1591 := am ((by rw [hg]; exact Nat.ne_of_gt (blk_lt (g := gb1591) (o := .cells #[.slice none 0 0] 28 (0, 0)) (qb BK1591.out)) : gb1596 ≠ gb1591)); have NB0_1596 := am ((by rw [hg]; exact Nat.ne_of_lt (IsS74.lt (show IsS74 w _ g l0 0 0 from qI74)) : g ≠ gb1596)); have NB1596_0 := am ((by rw [hg]; exact Nat.ne_of_gt (IsS74.lt (show IsS74 w _ g l0 0 0 from qI74)) : gb1596 ≠ g)); clear HI0 BK1591 HK HB; have HI0 := n1_; have BK1591 := n2_; have HK := n3_; have HB := n4_; clear n1_ n2_ n3_ n4_; clear hb hbox hg; obtain ⟨Ao28, co28, eo28⟩ := Kd.R_slice HO1594.out; subst eo28; have hnb29 := NB1596_1591.out; have hnc29 := NB1591_1596.out; have hnb30 := NB1596_0.out; have hnc30 := NB0_1596.out; have hcz31_0 := qz w27 BK1596.out; have hfz31_0 := blk_frozen BK1596.out 0) | ((with_reducible refine gate_callee (f := 94) rfl ?_); refine gL (some 16) Try.func94 #[.agg #[.slice Ao28 t1592.length co28]] ?_; (with_reducible refine (spec_poGood.calls k _ _ t1592 true _ ?side1 ?side2 A4.out).mono ?_); (case side1 => refine (Kd.R_reads' (e := 3) (base := w.heap.size) (ok := fun k_ => True) (n := t1592.length) (c := co28) ?_).2.2; exact (qR ((Kd.R_mono (Kd.R_far (p := ⟨gb1596, 0, none⟩) (Kd.R_types HO1594.out BK1596.out (by decide)) (fun _ hk => hk.2) (.slice Ao28 t1592.length co28)) (fun _ h_ => h_.1))))); (case side2 => exact (Kd.R_reads' HO1594.out).2.1); rintro e w32 ⟨rfl, hb⟩; refine ⟨_, rfl, ?_⟩; replace HO1594 := am (Kd.R_below (qR ((Kd.R_mono (Kd.R_far (p := ⟨gb1596, 0, none⟩) (Kd.R_types HO1594.out BK1596.out (by decide)) (fun _ hk => hk.2) (.slice Ao28 t1592.length co28)) (fun _ h_ => h_.1)))) hb); have n1_ := am (IsS74.below (show IsS74 w (w27.setCell ⟨gb1596, 0, none⟩ (.slice Ao28 t1592.length co28)) g l0 0 0 from qI74) hb); replace BK1591 := am (blk_below (g := gb1591) (o := .cells #[.slice none 0 0] 28 (0, 0)) (by (with_reducible repeat (first | refine blk_drewN ?_ _ | refine blk_drew ?_ | refine blk_alloc ?_ _)); refine blk_far ?_ NB1591_1596.out _; refine qb ?_; exact BK1591.out) hb); replace BK1596 := am (blk_below (g := gb1596) (o := .cells #[.slice Ao28 t1592.length co28] 28 (0, 0)) (by (with_reducible repeat (first | refine blk_drewN ?_ _ | refine blk_drew ?_ | refine blk_alloc ?_ _)); refine blk_put (cs := #[.slice none 0 0]) ?_ 0 _ rfl; refine qb ?_; exact BK1596.out) hb); have n4_ := am (KeepBut.trans qK (KeepBut.of_below hb g none) (.inl rfl)); replace HB := am (below_step qB hb); clear HI0 HK; have HI0 := n1_; have HK := n4_; clear n1_ n4_; (try clear hb); (try clear hb2); (try clear hk); (try clear hi); have hcz33_0 := qz w32 BK1596.out; have hfz33_0 := blk_frozen BK1596.out 0) | (go_at_call 108; (with_reducible refine (spec_poSet.calls _ _ t1592 t1595 true _ ?side1 ?side2 A6.out).mono ?_); (case side1 => exact qC (Kd.R_reads' HO1594.out).2.2); (case side2 => exact (Kd.R_reads' HO1594.out).2.1); rintro e w34 ⟨rfl, hb⟩; replace HO1594 := am (Kd.R_below (qR HO1594.out) hb); have n1_ := am (IsS74.below qI74 hb); replace BK1591 := am (blk_below (g := gb1591) (o := .cells #[.slice none 0 0] 28 (0, 0)) (qb BK1591.out) hb); replace BK1596 := am (blk_below (g := gb1596) (o := .cells #[.slice Ao28 t1592.length co28] 28 (0, 0)) (qb BK1596.out) hb); have n4_ := am (KeepBut.trans qK (KeepBut.of_below hb g none) (.inl rfl)); replace HB := am (below_step qB hb); clear HI0 HK; have HI0 := n1_; have HK := n4_; clear n1_ n4_; (try clear hb); (try clear hb2); (try clear hk); (try clear hi)) | (go_at_call 113; (with_reducible refine (spec_l1Cur_one.calls g l0 0 0 2 false t1600 t1601 w _ ?side1 ?side2 A8.out).mono ?_); (case side1 => exact qI74); (case side2 => exact qB); rintro e w35 ⟨rfl, hi, hb, hk⟩; replace BK1591 := am (KeepBut.blk hk (g' := gb1591) (o := .cells #[.slice none 0 0] 28 (0, 0)) (qb BK1591.out) NB1591_0.out (by simp)); replace HO1594 := am (Kd.R_mono (Kd.R_keep (IsS74.apart (show IsS74 w _ g l0 0 0 from qI74) (qR HO1594.out) (by decide)) hk (fun _ h => h.2)) (fun _ h => h.1)); replace BK1596 := am (KeepBut.blk hk (g' := gb1596) (o := .cells #[.slice Ao28 t1592.length co28] 28 (0, 0)) (qb BK1596.out) NB1596_0.out (by simp)); have n3_ := am (KeepBut.trans qK hk (.inl rfl)); have n4_ := am (hb); replace HI0 := am (hi); clear HK HB; have HK := n3_; have HB := n4_; clear n3_ n4_; (try clear hb); (try clear hb2); (try clear hk); (try clear hi); have hcz36_0 := qz w35 BK1596.out; have hfz36_0 := blk_frozen BK1596.out 0; have hnb37 := NB1591_0.out; have hnc37 := NB0_1591.out; have hcz38_0 := qz w35 BK1591.out; have hfz38_0 := blk_frozen BK1591.out 0))
    refine bodyPost_ret (results_ct rfl _ _ gb1591 28 #[.slice Ao28 t1592.length co28] (0, 0) _ rfl (by (with_reducible repeat (first | refine blk_drewN ?_ _ | refine blk_drew ?_ | refine blk_alloc ?_ _)); refine blk_put (cs := #[.slice none 0 0]) ?_ 0 _ rfl; refine qb ?_; exact BK1591.out) Try.underlying28 rfl (by kernel_rfl)) rfl ?_
    exact ⟨_, qr, qR (Kd.R_mono (Kd.R_far (p := ⟨gb1591, 0, none⟩) (Kd.R_types HO1594.out BK1591.out (by decide)) (fun _ hk => hk.2) (.slice Ao28 t1592.length co28)) (fun _ hk => trivial)), qB⟩
  ·replace c7 := Bool.eq_false_iff.mpr c7
   subst c7
   have H1 : (some (t1592, t1595, 0, 0)) = some (r1, r2, r3, r4) := by rw [if_neg (show ¬ (false = true) by decide)] at H; exact H
   clear H
   have H := H1
   clear H1
   simp only [Option.some.injEq, Prod.mk.injEq] at H
   obtain ⟨rfl, rfl, rfl, rfl⟩ := H
   go_enter Try.func45, Try.ntmps45
   go_wp2_with (first | ((with_reducible refine gate_dst (N := 2) rfl ?_); refine qx (N := 2) (cs := #[.slice none 0 0]) (t := 28) ?_; intro gb1591 hg wA hbox hb; have BKa := am hbox; have GE1591 : Aside0 (w.heap.size ≤ gb1591) := ⟨by rw [hg]; exact Nat.le_refl _⟩; have HBa := am hb; have HLa : Aside0 (gb1591 < wA.heap.size) := ⟨blk_lt hbox⟩; clear hbox hb hg) | ((with_reducible refine gate_dst (N := 9) rfl ?_); refine qx (N := 9) (cs := #[.slice A0 l0.length c0, .int .i64 0, .int .u64 0]) (t := 74) ?_; intro g hg w1_ hbox hb; have HBb := am (HBa.out.trans (hb.mono HBa.out.size)); have hge : w.heap.size ≤ g := (by rw [hg]; exact HBa.out.size); have HI0 : Aside0 (IsS74 w w1_ g l0 0 0) := ⟨A0, c0, hbox, hge, HR0.out⟩; have BK1591 := am (blk_below BKa.out hb); have NB1591_0 : Aside0 (gb1591 ≠ g) := ⟨by rw [hg]; exact Nat.ne_of_lt HLa.out⟩; have NB0_1591 : Aside0 (g ≠ gb1591) := ⟨fun e => NB1591_0.out e.symm⟩; have GW1591 := GE1591; have HK := am (KeepBut.of_below HBb.out g none); have HB := HBb; clear hbox hb hge hg BKa HBa HLa HBb) | ((with_reducible refine gate_callee (f := 107) rfl ?_); refine gL (some 12) Try.func107 #[.slice A0 l0.length c0] ?_; (with_reducible refine (spec_DrawIsIdeal.calls k _ _ l0 t1592 t1595 _ ?side1 ?side2 A3.out).mono ?_); (case side1 => exact Kd.C_below HR0.out qB); (case side2 => exact HC0.out); rintro e w40 ⟨v1593, rfl, ho0, hb⟩; refine ⟨_, rfl, ?_⟩; have HO1594 := am (Kd.R_lower ho0 (keep_size (w := w) (g := g) (row := none) qK)); have n1_ := am (IsS74.below qI74 hb); replace BK1591 := am (blk_below (g := gb1591) (o := .cells #[.slice none 0 0] 28 (0, 0)) (qb BK1591.out) hb); have n3_ := am (KeepBut.trans qK (KeepBut.of_below hb g none) (.inl rfl)); replace HB := am (below_step qB hb); clear HI0 HK; have HI0 := n1_; have HK := n3_; clear n1_ n3_; (try clear hb); (try clear hb2); (try clear hk); (try clear hi); (try clear ho0)) | ((with_reducible refine gate_dst (N := 5) rfl ?_); refine qx (N := 5) (cs := #[.slice none 0 0]) (t := 28) ?_; intro gb1596 hg w41 hbox hb; replace HO1594 := am (Kd.R_below (qR HO1594.out) hb); have n1_ := am (IsS74.below qI74 hb); have n2_ := am (blk_below (g := gb1591) (o := .cells #[.slice none 0 0] 28 (0, 0)) (qb BK1591.out) hb); have n3_ := am (KeepBut.trans qK (KeepBut.of_below hb g none) (.inl rfl)); have n4_ := am (below_step qB hb); have BK1596 := am (hbox); have GW1596 := am ((by rw [hg]; exact (keep_size (w := w) (g := g) (row := none) qK) : w.heap.size ≤ gb1596)); have GE1596 := am ((Nat.le_trans HW0.out (by rw [hg]; exact (keep_size (w := w) (g := g) (row := none) qK) : w.heap.size ≤ gb1596) : w.heap.size ≤ gb1596)); have NB1591_1596 := am ((by rw [hg]; exact Nat.ne_of_lt (blk_lt (g := gb1591) (o := .cells #[.slice none 0 0] 28 (0, 0)) (qb BK1591.out)) : gb1591 ≠ gb1596)); have NB1596_1591 := am ((by rw [hg]; exact Nat.ne_of_gt (blk_lt (g := gb1591) (o := .cells #[.slice none 0 0] 28 (0, 0)) (qb BK1591.out)) : gb1596 ≠ gb1591)); have NB0_1596 := am ((by rw [hg]; exact Nat.ne_of_lt (IsS74.lt (show IsS74 w _ g l0 0 0 from qI74)) : g ≠ gb1596)); have NB1596_0 := am ((by rw [hg]; exact Nat.ne_of_gt (IsS74.lt (show IsS74 w _ g l0 0 0 from qI74)) : gb1596 ≠ g)); clear HI0 BK1591 HK HB; have HI0 := n1_; have BK1591 := n2_; have HK := n3_; have HB := n4_; clear n1_ n2_ n3_ n4_; clear hb hbox hg; obtain ⟨Ao42, co42, eo42⟩ := Kd.R_slice HO1594.out; subst eo42; have hnb43 := NB1596_1591.out; have hnc43 := NB1591_1596.out; have hnb44 := NB1596_0.out; have hnc44 := NB0_1596.out; have hcz45_0 := qz w41 BK1596.out; have hfz45_0 := blk_frozen BK1596.out 0) | ((with_reducible refine gate_callee (f := 94) rfl ?_); refine gL (some 16) Try.func94 #[.agg #[.slice Ao42 t1592.length co42]] ?_; (with_reducible refine (spec_poGood.calls k _ _ t1592 true _ ?side1 ?side2 A4.out).mono ?_); (case side1 => refine (Kd.R_reads' (e := 3) (base := w.heap.size) (ok := fun k_ => True) (n := t1592.length) (c := co42) ?_).2.2; exact (qR ((Kd.R_mono (Kd.R_far (p := ⟨gb1596, 0, none⟩) (Kd.R_types HO1594.out BK1596.out (by decide)) (fun _ hk => hk.2) (.slice Ao42 t1592.length co42)) (fun _ h_ => h_.1))))); (case side2 => exact (Kd.R_reads' HO1594.out).2.1); rintro e w46 ⟨rfl, hb⟩; refine ⟨_, rfl, ?_⟩; replace HO1594 := am (Kd.R_below (qR ((Kd.R_mono (Kd.R_far (p := ⟨gb1596, 0, none⟩) (Kd.R_types HO1594.out BK1596.out (by decide)) (fun _ hk => hk.2) (.slice Ao42 t1592.length co42)) (fun _ h_ => h_.1)))) hb); have n1_ := am (IsS74.below (show IsS74 w (w41.setCell ⟨gb1596, 0, none⟩ (.slice Ao42 t1592.length co42)) g l0 0 0 from qI74) hb); replace BK1591 := am (blk_below (g := gb1591) (o := .cells #[.slice none 0 0] 28 (0, 0)) (by (with_reducible repeat (first | refine blk_drewN ?_ _ | refine blk_drew ?_ | refine blk_alloc ?_ _)); refine blk_far ?_ NB1591_1596.out _; refine qb ?_; exact BK1591.out) hb); replace BK1596 := am (blk_below (g := gb1596) (o := .cells #[.slice Ao42 t1592.length co42] 28 (0, 0)) (by (with_reducible repeat (first | refine blk_drewN ?_ _ | refine blk_drew ?_ | refine blk_alloc ?_ _)); refine blk_put (cs := #[.slice none 0 0]) ?_ 0 _ rfl; refine qb ?_; exact BK1596.out) hb); have n4_ := am (KeepBut.trans qK (KeepBut.of_below hb g none) (.inl rfl)); replace HB := am (below_step qB hb); clear HI0 HK; have HI0 := n1_; have HK := n4_; clear n1_ n4_; (try clear hb); (try clear hb2); (try clear hk); (try clear hi); have hcz47_0 := qz w46 BK1596.out; have hfz47_0 := blk_frozen BK1596.out 0) | (go_at_call 108; (with_reducible refine (spec_poSet.calls _ _ t1592 t1595 false _ ?side1 ?side2 A6.out).mono ?_); (case side1 => exact qC (Kd.R_reads' HO1594.out).2.2); (case side2 => exact (Kd.R_reads' HO1594.out).2.1); rintro e w48 ⟨rfl, hb⟩; replace HO1594 := am (Kd.R_below (qR HO1594.out) hb); have n1_ := am (IsS74.below qI74 hb); replace BK1591 := am (blk_below (g := gb1591) (o := .cells #[.slice none 0 0] 28 (0, 0)) (qb BK1591.out) hb); replace BK1596 := am (blk_below (g := gb1596) (o := .cells #[.slice Ao42 t1592.length co42] 28 (0, 0)) (qb BK1596.out) hb); have n4_ := am (KeepBut.trans qK (KeepBut.of_below hb g none) (.inl rfl)); replace HB := am (below_step qB hb); clear HI0 HK; have HI0 := n1_; have HK := n4_; clear n1_ n4_; (try clear hb); (try clear hb2); (try clear hk); (try clear hi); have hcz49_0 := qz w48 BK1596.out; have hfz49_0 := blk_frozen BK1596.out 0; have hnb50 := NB1591_0.out; have hnc50 := NB0_1591.out; have hcz51_0 := qz w48 BK1591.out; have hfz51_0 := blk_frozen BK1591.out 0))
   refine bodyPost_ret (results_ct rfl _ _ gb1591 28 #[.slice Ao42 t1592.length co42] (0, 0) _ rfl (by (with_reducible repeat (first | refine blk_drewN ?_ _ | refine blk_drew ?_ | refine blk_alloc ?_ _)); refine blk_put (cs := #[.slice none 0 0]) ?_ 0 _ rfl; refine qb ?_; exact BK1591.out) Try.underlying28 rfl (by kernel_rfl)) rfl ?_
   exact ⟨_, qr, qR (Kd.R_mono (Kd.R_far (p := ⟨gb1591, 0, none⟩) (Kd.R_types HO1594.out BK1591.out (by decide)) (fun _ hk => hk.2) (.slice Ao42 t1592.length co42)) (fun _ hk => trivial)), qB⟩
 ·replace c5 := Bool.eq_false_iff.mpr c5
  subst c5
  have H1 : (some (t1592, t1595, 0, 0)) = some (r1, r2, r3, r4) := by rw [if_neg (show ¬ (false = true) by decide)] at H; exact H
  clear H
  have H := H1
  clear H1
  simp only [Option.some.injEq, Prod.mk.injEq] at H
  obtain ⟨rfl, rfl, rfl, rfl⟩ := H
  go_enter Try.func45, Try.ntmps45
  go_wp2_with (first | ((with_reducible refine gate_dst (N := 2) rfl ?_); refine qx (N := 2) (cs := #[.slice none 0 0]) (t := 28) ?_; intro gb1591 hg wA hbox hb; have BKa := am hbox; have GE1591 : Aside0 (w.heap.size ≤ gb1591) := ⟨by rw [hg]; exact Nat.le_refl _⟩; have HBa := am hb; have HLa : Aside0 (gb1591 < wA.heap.size) := ⟨blk_lt hbox⟩; clear hbox hb hg) | ((with_reducible refine gate_dst (N := 9) rfl ?_); refine qx (N := 9) (cs := #[.slice A0 l0.length c0, .int .i64 0, .int .u64 0]) (t := 74) ?_; intro g hg w1_ hbox hb; have HBb := am (HBa.out.trans (hb.mono HBa.out.size)); have hge : w.heap.size ≤ g := (by rw [hg]; exact HBa.out.size); have HI0 : Aside0 (IsS74 w w1_ g l0 0 0) := ⟨A0, c0, hbox, hge, HR0.out⟩; have BK1591 := am (blk_below BKa.out hb); have NB1591_0 : Aside0 (gb1591 ≠ g) := ⟨by rw [hg]; exact Nat.ne_of_lt HLa.out⟩; have NB0_1591 : Aside0 (g ≠ gb1591) := ⟨fun e => NB1591_0.out e.symm⟩; have GW1591 := GE1591; have HK := am (KeepBut.of_below HBb.out g none); have HB := HBb; clear hbox hb hge hg BKa HBa HLa HBb) | ((with_reducible refine gate_callee (f := 107) rfl ?_); refine gL (some 12) Try.func107 #[.slice A0 l0.length c0] ?_; (with_reducible refine (spec_DrawIsIdeal.calls k _ _ l0 t1592 t1595 _ ?side1 ?side2 A3.out).mono ?_); (case side1 => exact Kd.C_below HR0.out qB); (case side2 => exact HC0.out); rintro e w53 ⟨v1593, rfl, ho0, hb⟩; refine ⟨_, rfl, ?_⟩; have HO1594 := am (Kd.R_lower ho0 (keep_size (w := w) (g := g) (row := none) qK)); have n1_ := am (IsS74.below qI74 hb); replace BK1591 := am (blk_below (g := gb1591) (o := .cells #[.slice none 0 0] 28 (0, 0)) (qb BK1591.out) hb); have n3_ := am (KeepBut.trans qK (KeepBut.of_below hb g none) (.inl rfl)); replace HB := am (below_step qB hb); clear HI0 HK; have HI0 := n1_; have HK := n3_; clear n1_ n3_; (try clear hb); (try clear hb2); (try clear hk); (try clear hi); (try clear ho0)) | ((with_reducible refine gate_dst (N := 5) rfl ?_); refine qx (N := 5) (cs := #[.slice none 0 0]) (t := 28) ?_; intro gb1596 hg w54 hbox hb; replace HO1594 := am (Kd.R_below (qR HO1594.out) hb); have n1_ := am (IsS74.below qI74 hb); have n2_ := am (blk_below (g := gb1591) (o := .cells #[.slice none 0 0] 28 (0, 0)) (qb BK1591.out) hb); have n3_ := am (KeepBut.trans qK (KeepBut.of_below hb g none) (.inl rfl)); have n4_ := am (below_step qB hb); have BK1596 := am (hbox); have GW1596 := am ((by rw [hg]; exact (keep_size (w := w) (g := g) (row := none) qK) : w.heap.size ≤ gb1596)); have GE1596 := am ((Nat.le_trans HW0.out (by rw [hg]; exact (keep_size (w := w) (g := g) (row := none) qK) : w.heap.size ≤ gb1596) : w.heap.size ≤ gb1596)); have NB1591_1596 := am ((by rw [hg]; exact Nat.ne_of_lt (blk_lt (g := gb1591) (o := .cells #[.slice none 0 0] 28 (0, 0)) (qb BK1591.out)) : gb1591 ≠ gb1596)); have NB1596_1591 := am ((by rw [hg]; exact Nat.ne_of_gt (blk_lt (g := gb1591) (o := .cells #[.slice none 0 0] 28 (0, 0)) (qb BK1591.out)) : gb1596 ≠ gb1591)); have NB0_1596 := am ((by rw [hg]; exact Nat.ne_of_lt (IsS74.lt (show IsS74 w _ g l0 0 0 from qI74)) : g ≠ gb1596)); have NB1596_0 := am ((by rw [hg]; exact Nat.ne_of_gt (IsS74.lt (show IsS74 w _ g l0 0 0 from qI74)) : gb1596 ≠ g)); clear HI0 BK1591 HK HB; have HI0 := n1_; have BK1591 := n2_; have HK := n3_; have HB := n4_; clear n1_ n2_ n3_ n4_; clear hb hbox hg; obtain ⟨Ao55, co55, eo55⟩ := Kd.R_slice HO1594.out; subst eo55; have hnb56 := NB1596_1591.out; have hnc56 := NB1591_1596.out; have hnb57 := NB1596_0.out; have hnc57 := NB0_1596.out; have hcz58_0 := qz w54 BK1596.out; have hfz58_0 := blk_frozen BK1596.out 0) | ((with_reducible refine gate_callee (f := 94) rfl ?_); refine gL (some 16) Try.func94 #[.agg #[.slice Ao55 t1592.length co55]] ?_; (with_reducible refine (spec_poGood.calls k _ _ t1592 false _ ?side1 ?side2 A4.out).mono ?_); (case side1 => refine (Kd.R_reads' (e := 3) (base := w.heap.size) (ok := fun k_ => True) (n := t1592.length) (c := co55) ?_).2.2; exact (qR ((Kd.R_mono (Kd.R_far (p := ⟨gb1596, 0, none⟩) (Kd.R_types HO1594.out BK1596.out (by decide)) (fun _ hk => hk.2) (.slice Ao55 t1592.length co55)) (fun _ h_ => h_.1))))); (case side2 => exact (Kd.R_reads' HO1594.out).2.1); rintro e w59 ⟨rfl, hb⟩; refine ⟨_, rfl, ?_⟩; replace HO1594 := am (Kd.R_below (qR ((Kd.R_mono (Kd.R_far (p := ⟨gb1596, 0, none⟩) (Kd.R_types HO1594.out BK1596.out (by decide)) (fun _ hk => hk.2) (.slice Ao55 t1592.length co55)) (fun _ h_ => h_.1)))) hb); have n1_ := am (IsS74.below (show IsS74 w (w54.setCell ⟨gb1596, 0, none⟩ (.slice Ao55 t1592.length co55)) g l0 0 0 from qI74) hb); replace BK1591 := am (blk_below (g := gb1591) (o := .cells #[.slice none 0 0] 28 (0, 0)) (by (with_reducible repeat (first | refine blk_drewN ?_ _ | refine blk_drew ?_ | refine blk_alloc ?_ _)); refine blk_far ?_ NB1591_1596.out _; refine qb ?_; exact BK1591.out) hb); replace BK1596 := am (blk_below (g := gb1596) (o := .cells #[.slice Ao55 t1592.length co55] 28 (0, 0)) (by (with_reducible repeat (first | refine blk_drewN ?_ _ | refine blk_drew ?_ | refine blk_alloc ?_ _)); refine blk_put (cs := #[.slice none 0 0]) ?_ 0 _ rfl; refine qb ?_; exact BK1596.out) hb); have n4_ := am (KeepBut.trans qK (KeepBut.of_below hb g none) (.inl rfl)); replace HB := am (below_step qB hb); clear HI0 HK; have HI0 := n1_; have HK := n4_; clear n1_ n4_; (try clear hb); (try clear hb2); (try clear hk); (try clear hi); have hcz60_0 := qz w59 BK1596.out; have hfz60_0 := blk_frozen BK1596.out 0; have hnb61 := NB1591_0.out; have hnc61 := NB0_1591.out; have hcz62_0 := qz w59 BK1591.out; have hfz62_0 := blk_frozen BK1591.out 0))
  refine bodyPost_ret (results_ct rfl _ _ gb1591 28 #[.slice Ao55 t1592.length co55] (0, 0) _ rfl (by (with_reducible repeat (first | refine blk_drewN ?_ _ | refine blk_drew ?_ | refine blk_alloc ?_ _)); refine blk_put (cs := #[.slice none 0 0]) ?_ 0 _ rfl; refine qb ?_; exact BK1591.out) Try.underlying28 rfl (by kernel_rfl)) rfl ?_
  exact ⟨_, qr, qR (Kd.R_mono (Kd.R_far (p := ⟨gb1591, 0, none⟩) (Kd.R_types HO1594.out BK1591.out (by decide)) (fun _ hk => hk.2) (.slice Ao55 t1592.length co55)) (fun _ hk => trivial)), qB⟩
def spec_DrawIsPosetR.f (k : Nat) (s0_0 : List Int) (s0_1 : Int) (s0_2 : Int) : Option (List Int × Int × Int) := (spec_l1Cur_poset.f k s0_0 s0_1 s0_2 10).bind fun bt1604 => (some (bt1604.1, bt1604.2.1, bt1604.2.2))
theorem spec_DrawIsPosetR.mono : ∀ a0 a1 a2 k, LeO (spec_DrawIsPosetR.f k a0 a1 a2) (spec_DrawIsPosetR.f (k + 1) a0 a1 a2) := by
 intro a0 a1 a2 k
 unfold spec_DrawIsPosetR.f
 repeat' first
  | (with_reducible exact spec_l1Cur_poset.mono _ _ _ _ _)
  | (with_reducible exact LeO.refl _)
  | (with_reducible exact LeO.none _)
  | (with_reducible refine LeO.ite ?_ ?_)
  | (with_reducible refine LeO.bind ?_ (fun _ => ?_))
  | exact spec_l1Cur_poset.mono _ _ _ _ _
  | exact LeO.none _
  | refine LeO.ite ?_ ?_
  | refine LeO.bind ?_ (fun _ => ?_)
def spec_DrawIsPoset.f (k : Nat) (l0 : List Int) : Option ((List Int)) := (spec_DrawIsPosetR.f k l0 0 0).bind fun bt => some bt.1
theorem spec_DrawIsPoset.mono : ∀ a0 k, LeO (spec_DrawIsPoset.f k a0) (spec_DrawIsPoset.f (k + 1) a0) := fun a0 k => LeO.bind (spec_DrawIsPosetR.mono _ _ _ _) (fun _ => LeO.refl _)
set_option maxHeartbeats 8000000 in
set_option maxRecDepth 100000 in
theorem spec_DrawIsPoset.calls (k : Nat) (A0 : Option Addr) (c0 : Nat) (l0 : List Int) (r : List Int) (w : World) (hr0 : Kd.C (Kd.int .u8) w A0 l0.length l0) (hc0 : l0.length ≤ c0) (hf : spec_DrawIsPoset.f k l0 = some r) :
 Calls Try.prog 93 #[.slice A0 l0.length c0] w fun e w' => ∃ v0_ : Value, e = .returned (.agg #[v0_]) ∧ Kd.R (Kd.int .i64) 3 w' w.heap.size (fun _ => True) v0_ r ∧ Below w.heap.size w w' := by
 unfold spec_DrawIsPoset.f at hf
 obtain ⟨⟨r_, r2, r3⟩, h, hf⟩ := Option.bind_eq_some_iff.1 hf
 have hf := Option.some.inj hf
 have hf1 : r = r_ := hf.symm
 clear hf
 subst hf1
 have HR0 := am hr0
 have HC0 := am hc0
 clear hr0 hc0
 have hu28 := Try.underlying28
 have HL := am (Nat.le_refl w.heap.size)
 have HW0 := am (Nat.le_refl w.heap.size)
 have H : ((spec_l1Cur_poset.f k l0 0 0 10).bind fun bt1604 => (some (bt1604.1, bt1604.2.1, bt1604.2.2))) = some (r, r2, r3) := h
 clear h
 replace H := Option.bind_eq_some_iff.mp H
 obtain ⟨⟨t1604, t1607, t1608⟩, A20, H⟩ := H
 replace H : (some (t1604, t1607, t1608)) = some (r, r2, r3) := H
 have A2 := am A20
 clear A20
 simp only [Option.some.injEq, Prod.mk.injEq] at H
 obtain ⟨rfl, rfl, rfl⟩ := H
 go_enter Try.func93, Try.ntmps93
 go_wp2_with (first | ((with_reducible refine gate_dst (N := 2) rfl ?_); refine qx (N := 2) (cs := #[.slice none 0 0]) (t := 28) ?_; intro gb1603 hg wA hbox hb; have BKa := am hbox; have GE1603 : Aside0 (w.heap.size ≤ gb1603) := ⟨by rw [hg]; exact Nat.le_refl _⟩; have HBa := am hb; have HLa : Aside0 (gb1603 < wA.heap.size) := ⟨blk_lt hbox⟩; clear hbox hb hg) | ((with_reducible refine gate_dst (N := 6) rfl ?_); refine qx (N := 6) (cs := #[.slice A0 l0.length c0, .int .i64 0, .int .u64 0]) (t := 74) ?_; intro g hg w1_ hbox hb; have HBb := am (HBa.out.trans (hb.mono HBa.out.size)); have hge : w.heap.size ≤ g := (by rw [hg]; exact HBa.out.size); have HI0 : Aside0 (IsS74 w w1_ g l0 0 0) := ⟨A0, c0, hbox, hge, HR0.out⟩; have BK1603 := am (blk_below BKa.out hb); have NB1603_0 : Aside0 (gb1603 ≠ g) := ⟨by rw [hg]; exact Nat.ne_of_lt HLa.out⟩; have NB0_1603 : Aside0 (g ≠ gb1603) := ⟨fun e => NB1603_0.out e.symm⟩; have GW1603 := GE1603; have HK := am (KeepBut.of_below HBb.out g none); have HB := HBb; clear hbox hb hge hg BKa HBa HLa HBb) | ((with_reducible refine gate_callee (f := 155) rfl ?_); refine gL (some 8) Try.func155 #[.pointer (some ⟨g, 0, none⟩), .int .i64 10] ?_; (with_reducible refine (spec_l1Cur_poset.calls k g l0 0 0 10 t1604 t1607 t1608 w _ ?side1 ?side2 A2.out).mono ?_); (case side1 => exact qI74); (case side2 => exact qB); rintro e w4 ⟨v1605, rfl, ho0, hi, hb, hk⟩; refine ⟨_, rfl, ?_⟩; replace BK1603 := am (KeepBut.blk hk (g' := gb1603) (o := .cells #[.slice none 0 0] 28 (0, 0)) (qb BK1603.out) NB1603_0.out (by simp)); have HO1606 := am (Kd.R_lower ho0 (keep_size (w := w) (g := g) (row := none) qK)); have n2_ := am (KeepBut.trans qK hk (.inl rfl)); have n3_ := am (hb); replace HI0 := am (hi); clear HK HB; have HK := n2_; have HB := n3_; clear n2_ n3_; (try clear hb); (try clear hb2); (try clear hk); (try clear hi); (try clear ho0); obtain ⟨Ao5, co5, eo5⟩ := Kd.R_slice HO1606.out; subst eo5; have hnb6 := NB1603_0.out; have hnc6 := NB0_1603.out; have hcz7_0 := qz w4 BK1603.out; have hfz7_0 := blk_frozen BK1603.out 0))
 refine bodyPost_ret (results_cell_row rfl _ _ gb1603 28 #[.slice Ao5 t1604.length co5] (0, 0) _ rfl (by (with_reducible repeat (first | refine blk_drewN ?_ _ | refine blk_drew ?_ | refine blk_alloc ?_ _)); refine blk_put (cs := #[.slice none 0 0]) ?_ 0 _ rfl; refine qb ?_; exact BK1603.out) Try.underlying28 rfl (by kernel_rfl)) rfl ?_
 exact ⟨_, qr, qR (Kd.R_mono (Kd.R_far (p := ⟨gb1603, 0, none⟩) (Kd.R_types HO1606.out BK1603.out (by decide)) (fun _ hk => hk.2) (.slice Ao5 t1604.length co5)) (fun _ hk => trivial)), qB⟩
def spec_DrawIdealsOf.f (k : Nat) (l0 : List Int) : Option (List Int) := (spec_DrawIsPoset.f k l0).bind fun t484 => (some t484)
theorem spec_DrawIdealsOf.mono : ∀ a0 k, LeO (spec_DrawIdealsOf.f k a0) (spec_DrawIdealsOf.f (k + 1) a0) := by
 intro a0 k
 unfold spec_DrawIdealsOf.f
 repeat' first
  | (with_reducible exact spec_DrawIsPoset.mono _ _)
  | (with_reducible exact LeO.refl _)
  | (with_reducible exact LeO.none _)
  | (with_reducible refine LeO.ite ?_ ?_)
  | (with_reducible refine LeO.bind ?_ (fun _ => ?_))
  | exact spec_DrawIsPoset.mono _ _
  | exact LeO.none _
  | refine LeO.ite ?_ ?_
  | refine LeO.bind ?_ (fun _ => ?_)
set_option maxHeartbeats 8000000 in
set_option maxRecDepth 100000 in
theorem spec_DrawIdealsOf.calls (k : Nat) (A0 : Option Addr) (c0 : Nat) (l0 : List Int) (r : List Int) (w : World) (hr0 : Kd.C (Kd.int .u8) w A0 l0.length l0) (hc0 : l0.length ≤ c0) (h : spec_DrawIdealsOf.f k l0 = some r) :
 Calls Try.prog 25 #[.slice A0 l0.length c0] w fun e w' => ∃ v0_ : Value, e = .returned (.agg #[v0_]) ∧ Kd.R (Kd.int .i64) 3 w' w.heap.size (fun _ => True) v0_ r ∧ Below w.heap.size w w' := by
 have hu28 := Try.underlying28
 have HR0 := am hr0
 have HC0 := am hc0
 clear hr0 hc0
 have HB := am (Below.refl w.heap.size w)
 have H : ((spec_DrawIsPoset.f k l0).bind fun t484 => (some t484)) = some r := h
 clear h
 replace H := Option.bind_eq_some_iff.mp H
 obtain ⟨t484, A20, H⟩ := H
 replace H : (some t484) = some r := H
 have A2 := am A20
 clear A20
 obtain rfl := Option.some.inj H
 go_enter Try.func25, Try.ntmps25
 go_wp2_with (first | ((with_reducible refine gate_dst (N := 2) rfl ?_); refine qx (N := 2) (cs := #[.slice none 0 0]) (t := 28) ?_; intro gb483 hg w3 hbox hb; have n0_ := am (below_step qB hb); have BK483 := am (hbox); have GW483 := am (qg w hg); have GE483 := am (qg w hg); clear HB; have HB := n0_; clear n0_; clear hb hbox hg) | ((with_reducible refine gate_callee (f := 93) rfl ?_); refine gL (some 4) Try.func93 #[.slice A0 l0.length c0] ?_; (with_reducible refine (spec_DrawIsPoset.calls k _ _ l0 t484 _ ?side1 ?side2 A2.out).mono ?_); (case side1 => exact qC (Kd.C_below HR0.out HB.out)); (case side2 => exact HC0.out); rintro e w4 ⟨v485, rfl, ho0, hb⟩; refine ⟨_, rfl, ?_⟩; have HO486 := am (Kd.R_lower ho0 (below_size qB)); replace BK483 := am (blk_below (g := gb483) (o := .cells #[.slice none 0 0] 28 (0, 0)) (qb BK483.out) hb); replace HB := am (below_step qB hb); (try clear hb); (try clear hb2); (try clear hk); (try clear hi); (try clear ho0); obtain ⟨Ao5, co5, eo5⟩ := Kd.R_slice HO486.out; subst eo5; have hcz6_0 := qz w4 BK483.out; have hfz6_0 := blk_frozen BK483.out 0))
 refine bodyPost_ret (results_cell_row rfl _ _ gb483 28 #[.slice Ao5 t484.length co5] (0, 0) _ rfl (by (with_reducible repeat (first | refine blk_drewN ?_ _ | refine blk_drew ?_ | refine blk_alloc ?_ _)); refine blk_put (cs := #[.slice none 0 0]) ?_ 0 _ rfl; refine qb ?_; exact BK483.out) Try.underlying28 rfl (by kernel_rfl)) rfl ?_
 exact ⟨_, qr, qR (Kd.R_mono (Kd.R_far (p := ⟨gb483, 0, none⟩) (Kd.R_types HO486.out BK483.out (by decide)) (fun _ hk => hk.2) (.slice Ao5 t484.length co5)) (fun _ hk => trivial)), qB⟩
end Go.Proofs.Ytonfifhoklaliaa.F
end
