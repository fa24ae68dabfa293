/- Part 4 of the texts below the row of FnExactStepCounts: printed functions with their contracts, and plain lemmas. No condition. -/
import Derived.Test.YtemkddgfneohhaaZFnExactStepCounts3
import Derived.Deep.RegionHeld3
import Derived.OneCell
section
namespace Go.Proofs.Ytemkddgfneohhaa.F
open Go.RowKit Go.Proofs.YtemkddgfneohhaaW.PrintWords Go.Proofs.YtemkddgfneohhaaW.PrintLast Go.Proofs.YtemkddgfneohhaaW.PrintMore
attribute [local go_sem] max2_int min2_int max_two min_two max_three min_three max_four min_four
set_option linter.unusedVariables false
set_option linter.unusedSimpArgs false

/-! ### impl_StepCounts: function 29 -/
def impl_StepCounts.f (k : Nat) (l0_0 : List Int) : Option (List Int × Bool) := (impl_IsPoset.f k l0_0).bind fun t283 => (if t283 = true then ((impl_Poset_steps.f k l0_0).bind fun t284 => (some (t284, true))) else (some (([] : List Int), false)))
theorem impl_StepCounts.mono : ∀ a0 k, LeO (impl_StepCounts.f k a0) (impl_StepCounts.f (k + 1) a0) := by
  intro a0 k
  unfold impl_StepCounts.f
  repeat' first
      | (with_reducible exact impl_IsPoset.mono _ _)
      | (with_reducible exact impl_Poset_steps.mono _ _)
      | (with_reducible exact LeO.refl _)
      | (with_reducible exact LeO.none _)
      | (with_reducible refine LeO.ite ?_ ?_)
      | (with_reducible refine LeO.bind ?_ (fun _ => ?_))
      | exact impl_IsPoset.mono _ _
      | exact impl_Poset_steps.mono _ _
      | exact LeO.none _
      | refine LeO.ite ?_ ?_
      | refine LeO.bind ?_ (fun _ => ?_)
set_option maxHeartbeats 8000000 in
set_option maxRecDepth 100000 in
theorem impl_StepCounts.calls (k : Nat) (A0_0 : Option Addr) (c0_0 : Nat) (l0_0 : List Int) (r1 : List Int) (r2 : Bool) (w : World) (hr0_0 : Kd.C (Kd.int .i64) w A0_0 l0_0.length l0_0) (hc0_0 : l0_0.length ≤ c0_0) (h : impl_StepCounts.f k l0_0 = some (r1, r2)) :
    Calls Try.prog 29 #[.agg #[.slice A0_0 l0_0.length c0_0]] w fun e w' => ∃ v0_ : Value, e = .returned (.tuple #[v0_, .bool r2]) ∧ Kd.R (Kd.int .i64) 3 w' w.heap.size (fun _ => True) v0_ r1 ∧ Below w.heap.size w w' := by
  have hu30 := Try.underlying30
  have HR0_0 := Aside0.mk hr0_0
  have HC0_0 := Aside0.mk hc0_0
  clear hr0_0 hc0_0
  have HB := Aside0.mk (Below.refl w.heap.size w)
  have H : ((impl_IsPoset.f k l0_0).bind fun t283 => (if t283 = true then ((impl_Poset_steps.f k l0_0).bind fun t284 => (some (t284, true))) else (some (([] : List Int), false)))) = some (r1, r2) := h
  clear h
  replace H := Option.bind_eq_some_iff.mp H
  obtain ⟨t283, A20, H⟩ := H
  replace H : (if t283 = true then ((impl_Poset_steps.f k l0_0).bind fun t284 => (some (t284, true))) else (some (([] : List Int), false))) = some (r1, r2) := H
  have A2 := Aside0.mk A20
  clear A20
  by_cases c3 : t283 = true
  · subst c3
    have H1 : ((impl_Poset_steps.f k l0_0).bind fun t284 => (some (t284, true))) = some (r1, r2) := by rw [if_pos rfl] at H; exact H
    clear H
    have H := H1
    clear H1
    replace H := Option.bind_eq_some_iff.mp H
    obtain ⟨t284, A40, H⟩ := H
    replace H : (some (t284, true)) = some (r1, r2) := H
    have A4 := Aside0.mk A40
    clear A40
    simp only [Option.some.injEq, Prod.mk.injEq] at H
    obtain ⟨rfl, rfl⟩ := H
    go_enter Try.func29, Try.ntmps29
    go_wp2_with (first | ((with_reducible refine gate_dst (N := 1) rfl ?_); refine box_event ?hg (N := 1) ?hd (cs := #[.slice A0_0 l0_0.length c0_0]) (t := 30) ?hr ?_; (case hd => rfl); (case hg => rfl); (case hr => first | (go_simp; done) | (go_simp; rfl)); intro gb282 hg w5 hbox hb; have n0_ := Aside0.mk (below_step (by repeat (first | (with_reducible first | exact HB.out | apply below_alloc | apply pw_below_drewN | apply below_drew1) | exact HB.out)) hb); have n1_ := Aside0.mk (hbox); have n2_ := Aside0.mk ((by rw [hg]; exact (below_size (by repeat (first | (with_reducible first | exact HB.out | apply below_alloc | apply pw_below_drewN | apply below_drew1) | exact HB.out))) : w.heap.size ≤ gb282)); have n3_ := Aside0.mk ((by rw [hg]; exact (below_size (by repeat (first | (with_reducible first | exact HB.out | apply below_alloc | apply pw_below_drewN | apply below_drew1) | exact HB.out))) : w.heap.size ≤ gb282)); clear HB; have HB := n0_; have BK282 := n1_; have GW282 := n2_; have GE282 := n3_; clear n0_ n1_ n2_ n3_; clear hb hbox hg; have hcz6_0 : w5.cell? ⟨gb282, 0, none⟩ = some (.slice A0_0 l0_0.length c0_0) := (blk_cell BK282.out 0).trans rfl; have hfz6_0 := blk_frozen BK282.out 0) | ((with_reducible refine gate_callee (f := 47) rfl ?_); refine goesL_ (some 5) rfl rfl Try.func47 (by kernel_rfl) rfl #[.agg #[.slice A0_0 l0_0.length c0_0]] rfl (by (try simp only [List.map_toArray, List.map_cons, List.map_nil]); first | done | rfl | (simp only [List.length_drop, List.length_take]; rfl)) ?_; (with_reducible refine (impl_IsPoset.calls k _ _ l0_0 true _ ?side1 ?side2 A2.out).mono ?_); (case side1 => repeat (first | exact (Kd.C_below HR0_0.out HB.out) | (with_reducible refine Kd.C_alloc ?_ _) | (with_reducible refine Kd.C_drewN ?_ _) | (with_reducible refine Kd.C_drew ?_))); (case side2 => exact HC0_0.out); rintro e w7 ⟨rfl, hb⟩; refine ⟨_, rfl, ?_⟩; have n0_ := Aside0.mk (blk_below (g := gb282) (o := .cells #[.slice A0_0 l0_0.length c0_0] 30 (0, 0)) (by (with_reducible repeat (first | refine blk_drewN ?_ _ | refine blk_drew ?_ | refine blk_alloc ?_ _)); exact BK282.out) hb); have n1_ := Aside0.mk (below_step (by repeat (first | (with_reducible first | exact HB.out | apply below_alloc | apply pw_below_drewN | apply below_drew1 | refine below_set ?_ GE282.out) | exact HB.out)) hb); clear BK282; clear HB; have BK282 := n0_; have HB := n1_; clear n0_ n1_; (try clear hb); (try clear hb2); (try clear hk); (try clear hi); have hcz8_0 : w7.cell? ⟨gb282, 0, none⟩ = some (.slice A0_0 l0_0.length c0_0) := (blk_cell BK282.out 0).trans rfl; have hfz8_0 := blk_frozen BK282.out 0) | ((with_reducible refine gate_callee (f := 54) rfl ?_); refine goesL_ (some 8) rfl rfl Try.func54 (by kernel_rfl) rfl #[.agg #[.slice A0_0 l0_0.length c0_0]] rfl (by (try simp only [List.map_toArray, List.map_cons, List.map_nil]); first | done | rfl | (simp only [List.length_drop, List.length_take]; rfl)) ?_; (with_reducible refine (impl_Poset_steps.calls k _ _ l0_0 t284 _ ?side1 ?side2 A4.out).mono ?_); (case side1 => repeat (first | exact (Kd.C_below HR0_0.out HB.out) | (with_reducible refine Kd.C_alloc ?_ _) | (with_reducible refine Kd.C_drewN ?_ _) | (with_reducible refine Kd.C_drew ?_))); (case side2 => exact HC0_0.out); rintro e w9 ⟨v285, rfl, ho0, hb⟩; refine ⟨_, rfl, ?_⟩; have n0_ := Aside0.mk (Kd.R_lower ho0 (below_size (by repeat (first | (with_reducible first | exact HB.out | apply below_alloc | apply pw_below_drewN | apply below_drew1 | refine below_set ?_ GE282.out) | exact HB.out)))); have n1_ := Aside0.mk (blk_below (g := gb282) (o := .cells #[.slice A0_0 l0_0.length c0_0] 30 (0, 0)) (by (with_reducible repeat (first | refine blk_drewN ?_ _ | refine blk_drew ?_ | refine blk_alloc ?_ _)); exact BK282.out) hb); have n2_ := Aside0.mk (below_step (by repeat (first | (with_reducible first | exact HB.out | apply below_alloc | apply pw_below_drewN | apply below_drew1 | refine below_set ?_ GE282.out) | exact HB.out)) hb); clear BK282; clear HB; have HO286 := n0_; have BK282 := n1_; have HB := n2_; clear n0_ n1_ n2_; (try clear hb); (try clear hb2); (try clear hk); (try clear hi); (try clear ho0)))
    go_ret2
    exact ⟨_, by first | rfl | (simp [errW_none, errW_some] <;> rfl) | (simp [*, errW_none, errW_some] <;> rfl), by (with_reducible repeat (first | apply Kd.R_alloc | apply Kd.R_drewN | apply Kd.R_drew)); exact HO286.out, by repeat (first | (with_reducible first | exact HB.out | apply below_alloc | apply pw_below_drewN | apply below_drew1 | refine below_set ?_ GE282.out) | exact HB.out)⟩
  · replace c3 := Bool.eq_false_iff.mpr c3
    subst c3
    have H1 : (some (([] : List Int), false)) = some (r1, r2) := by rw [if_neg (show ¬ (false = true) by decide)] at H; exact H
    clear H
    have H := H1
    clear H1
    simp only [Option.some.injEq, Prod.mk.injEq] at H
    obtain ⟨rfl, rfl⟩ := H
    go_enter Try.func29, Try.ntmps29
    go_wp2_with (first | ((with_reducible refine gate_dst (N := 1) rfl ?_); refine box_event ?hg (N := 1) ?hd (cs := #[.slice A0_0 l0_0.length c0_0]) (t := 30) ?hr ?_; (case hd => rfl); (case hg => rfl); (case hr => first | (go_simp; done) | (go_simp; rfl)); intro gb282 hg w10 hbox hb; have n0_ := Aside0.mk (below_step (by repeat (first | (with_reducible first | exact HB.out | apply below_alloc | apply pw_below_drewN | apply below_drew1) | exact HB.out)) hb); have n1_ := Aside0.mk (hbox); have n2_ := Aside0.mk ((by rw [hg]; exact (below_size (by repeat (first | (with_reducible first | exact HB.out | apply below_alloc | apply pw_below_drewN | apply below_drew1) | exact HB.out))) : w.heap.size ≤ gb282)); have n3_ := Aside0.mk ((by rw [hg]; exact (below_size (by repeat (first | (with_reducible first | exact HB.out | apply below_alloc | apply pw_below_drewN | apply below_drew1) | exact HB.out))) : w.heap.size ≤ gb282)); clear HB; have HB := n0_; have BK282 := n1_; have GW282 := n2_; have GE282 := n3_; clear n0_ n1_ n2_ n3_; clear hb hbox hg; have hcz11_0 : w10.cell? ⟨gb282, 0, none⟩ = some (.slice A0_0 l0_0.length c0_0) := (blk_cell BK282.out 0).trans rfl; have hfz11_0 := blk_frozen BK282.out 0) | ((with_reducible refine gate_callee (f := 47) rfl ?_); refine goesL_ (some 5) rfl rfl Try.func47 (by kernel_rfl) rfl #[.agg #[.slice A0_0 l0_0.length c0_0]] rfl (by (try simp only [List.map_toArray, List.map_cons, List.map_nil]); first | done | rfl | (simp only [List.length_drop, List.length_take]; rfl)) ?_; (with_reducible refine (impl_IsPoset.calls k _ _ l0_0 false _ ?side1 ?side2 A2.out).mono ?_); (case side1 => repeat (first | exact (Kd.C_below HR0_0.out HB.out) | (with_reducible refine Kd.C_alloc ?_ _) | (with_reducible refine Kd.C_drewN ?_ _) | (with_reducible refine Kd.C_drew ?_))); (case side2 => exact HC0_0.out); rintro e w12 ⟨rfl, hb⟩; refine ⟨_, rfl, ?_⟩; have n0_ := Aside0.mk (blk_below (g := gb282) (o := .cells #[.slice A0_0 l0_0.length c0_0] 30 (0, 0)) (by (with_reducible repeat (first | refine blk_drewN ?_ _ | refine blk_drew ?_ | refine blk_alloc ?_ _)); exact BK282.out) hb); have n1_ := Aside0.mk (below_step (by repeat (first | (with_reducible first | exact HB.out | apply below_alloc | apply pw_below_drewN | apply below_drew1 | refine below_set ?_ GE282.out) | exact HB.out)) hb); clear BK282; clear HB; have BK282 := n0_; have HB := n1_; clear n0_ n1_; (try clear hb); (try clear hb2); (try clear hk); (try clear hi)))
    go_ret2
    exact ⟨_, by first | rfl | (simp [errW_none, errW_some] <;> rfl) | (simp [*, errW_none, errW_some] <;> rfl), by first | exact Kd.R_nil _ _ _ _ _ | exact Kd.N_nil _ _ _ _ _ | exact Kd.V_nil _ _ _ _ _ | exact Kd.Q_nil _ _ _ _ _ | exact Kd.S_nil _ _ _ _ _, by repeat (first | (with_reducible first | exact HB.out | apply below_alloc | apply pw_below_drewN | apply below_drew1 | refine below_set ?_ GE282.out) | exact HB.out)⟩

end Go.Proofs.Ytemkddgfneohhaa.F
end

section
namespace Go.Proofs.Ytemkddgfneohhaa.Q
open Go.RowKit Go.Proofs.YtemkddgfneohhaaW.PrintWords Go.Proofs.Ytemkddgfneohhaa.F
set_option linter.unusedVariables false
def topN (p : List Int) (s : Nat) : Nat := (itemsN s).foldl (fun a e => ndiff a (L p e)) s
theorem foldl_ndiff_lt (g : Nat → Nat) (l : List Nat) (a n : Nat) (ha : a < n) : l.foldl (fun a e => ndiff a (g e)) a < n := by
  induction l generalizing a with
  | nil => exact ha
  | cons x l ih => exact ih _ (ndiff_lt ha)
theorem foldl_ndiff_bit (g : Nat → Nat) (l : List Nat) (a i : Nat) : (l.foldl (fun a e => ndiff a (g e)) a).testBit i = (a.testBit i && !l.any fun e => (g e).testBit i) := by
  induction l generalizing a with
  | nil => simp
  | cons x l ih =>
    rw [List.foldl_cons, ih, ndiff_bit, List.any_cons]
    cases a.testBit i <;> cases (g x).testBit i <;> simp
theorem top_ev {p : List Int} (hp : PO p) {s : Nat} (hs : s < 2 ^ p.length) : Ev (fun k => impl_Poset_top.f k p (s : Int)) ((topN p s : Nat) : Int) := by
  have hn := hp.small
  unfold impl_Poset_top.f
  refine Ev.bind (items_ev s (lt_pow hs (by omega))) ?_
  have hil := itemsN_len s
  have key : ∀ i, i ≤ (itemsN s).length → ∀ a : Nat, a < 2 ^ p.length → Ev (fun k => impl_Poset_top.l0 k (a : Int) (ints (itemsN s)) ((ints (itemsN s)).length : Int) (i : Int) p) ((((itemsN s).drop i).foldl (fun a e => ndiff a (L p e)) a : Nat) : Int) := by
    refine downTo _ ?_ ?_
    · intro a ha
      rw [List.drop_length]
      exact Ev.step (by intro k; simp only [impl_Poset_top.l0]; rfl) (Ev.no (by rw [ints_len]; omega) (Ev.now _))
    · intro i hi ih a ha
      have he : (itemsN s).getD i 0 < p.length := items_lt hs hi
      have hrd : rd (ints (itemsN s)) (i : Int) = (((itemsN s).getD i 0 : Nat) : Int) := rd_ints _ _
      refine Ev.step (by intro k; simp only [impl_Poset_top.l0]; rfl) (Ev.yes (by rw [ints_len]; omega) (Ev.yes (by omega) (Ev.yes (by rw [ints_len]; omega) ?_)))
      rw [hrd]
      refine Ev.yes (by omega) (Ev.yes (by omega) ?_)
      rw [rdN, hp.val _ he, bits_andNotN (lt_pow ha (by omega)) (lt_pow (L_lt hp he) (by omega)), wid1 hi (by omega), foldl_drop_step _ _ 0 a hi]
      exact ih _ (ndiff_lt ha)
  exact key 0 (Nat.zero_le _) s hs
theorem topN_eq {p : List Int} (hp : PO p) {u : Nat} (hu : u < 2 ^ p.length) : (topN p u == u) = frB p u := by
  have hn := hp.small
  rw [Bool.eq_iff_iff, beq_iff_eq]
  unfold frB
  rw [allFrom_iff]
  constructor
  · intro h i _ hi
    cases hb : u.testBit i with
    | false => rfl
    | true =>
      rw [Bool.not_true, Bool.false_or, decide_eq_true_eq]
      apply Nat.eq_of_testBit_eq
      intro j
      rw [Nat.testBit_and, Nat.zero_testBit]
      cases hj : u.testBit j with
      | false => simp
      | true =>
        have h1 : (topN p u).testBit j = true := by rw [h]; exact hj
        unfold topN at h1
        rw [foldl_ndiff_bit, hj, Bool.true_and] at h1
        have h2 : ¬ (L p i).testBit j = true := fun hl => by
          rw [List.any_eq_true.2 ⟨i, mem_itemsN.2 ⟨by omega, hb⟩, hl⟩] at h1; cases h1
        simp [h2]
  · intro h
    apply Nat.eq_of_testBit_eq
    intro j
    unfold topN
    rw [foldl_ndiff_bit]
    cases hj : u.testBit j with
    | false => rfl
    | true =>
      rw [Bool.true_and, Bool.not_eq_true', List.any_eq_false]
      intro e he hl
      have hb := (mem_itemsN.1 he).2
      have h1 := h e (Nat.zero_le _) (lt_of_bit hu hb)
      rw [hb, Bool.not_true, Bool.false_or, decide_eq_true_eq] at h1
      have h2 : (L p e &&& u).testBit j = true := by rw [Nat.testBit_and, hl, hj]; rfl
      rw [h1, Nat.zero_testBit] at h2
      cases h2
theorem steps_ev {p : List Int} (hp : PO p) : Ev (fun k => impl_Poset_steps.f k p) (ints (stepsN p)) := by
  have hn := hp.small
  have hall : allN p ∈ idealsN p := mem_idealsN.2 ⟨allN_lt p, idealB_all p hp⟩
  obtain ⟨K1, hK1⟩ := ideals_ev hp
  obtain ⟨K2, hK2⟩ := Ev.all (g := fun s k => impl_Poset_top.f k p (s : Int)) (r := fun s => ((topN p s : Nat) : Int)) (2 ^ p.length) (fun s hs => top_ev hp hs)
  refine ⟨K1 + K2, fun k hk => ?_⟩
  show impl_Poset_steps.f k p = _
  unfold impl_Poset_steps.f
  have htop : ∀ s ∈ idealsN p, ∀ t ∈ idealsN p, impl_Poset_top.f k p (Go.bits .andNot .i64 (t : Int) (s : Int)) = some ((topN p (ndiff t s) : Nat) : Int) := fun s hs t ht => by
    rw [bits_andNotN (lt_pow (mem_idealsN.1 ht).1 (by omega)) (lt_pow (mem_idealsN.1 hs).1 (by omega))]
    exact hK2 k (by omega) _ (ndiff_lt (mem_idealsN.1 ht).1)
  have hok : stpOk k p (ints (idealsN p)) = true := List.all_eq_true.2 fun x hx => List.all_eq_true.2 fun y hy => by
    obtain ⟨t, ht, rfl⟩ := List.mem_map.1 hx
    obtain ⟨s, hs, rfl⟩ := List.mem_map.1 hy
    show (impl_Poset_top.f k p (Go.bits .andNot .i64 (t : Int) (s : Int))).isSome = true
    rw [htop s hs t ht]; rfl
  have h1 : impl_Poset_ideals.f k p = some (ints (idealsN p)) := hK1 k (by omega)
  rw [h1, Option.bind_some, all_eq (by omega), Option.bind_some, if_pos ⟨cntOk_ids hn, ⟨List.mem_map.2 ⟨allN p, hall, rfl⟩, by omega⟩, hok⟩]
  congr 1
  unfold stpOuts stepsN ints
  rw [List.map_map]
  refine List.map_congr_left fun j hj => ?_
  have hj := List.mem_range.1 hj
  refine cntAt_eq hn (B := opB p) (fun s hs t ht => ?_) (fun s t h => opB_sub h) (j + 1) (by omega) (allN p) hall
  unfold stpB opB
  rw [htop s hs t ht, Option.getD_some, bits_andNotN (lt_pow (mem_idealsN.1 hs).1 (by omega)) (lt_pow (mem_idealsN.1 ht).1 (by omega)), bits_andNotN (lt_pow (mem_idealsN.1 ht).1 (by omega)) (lt_pow (mem_idealsN.1 hs).1 (by omega)), ← topN_eq hp (ndiff_lt (mem_idealsN.1 ht).1)]
  have e1 : (((ndiff s t : Nat) : Int) == 0) = subB s t := by unfold subB; rw [Bool.eq_iff_iff, beq_iff_eq, beq_iff_eq]; omega
  have e2 : (((ndiff t s : Nat) : Int) != 0) = !(ndiff t s == 0) := by unfold bne; congr 1; rw [Bool.eq_iff_iff, beq_iff_eq, beq_iff_eq]; omega
  have e3 : (((topN p (ndiff t s) : Nat) : Int) == ((ndiff t s : Nat) : Int)) = (topN p (ndiff t s) == ndiff t s) := by rw [Bool.eq_iff_iff, beq_iff_eq, beq_iff_eq]; omega
  rw [e1, e2, e3]
end Go.Proofs.Ytemkddgfneohhaa.Q
end

section
namespace Go.Proofs.Ytemkddgfneohhaa.F
open Go.RowKit Go.Proofs.YtemkddgfneohhaaW.PrintWords Go.Proofs.YtemkddgfneohhaaW.PrintLast Go.Proofs.YtemkddgfneohhaaW.PrintMore
set_option linter.unusedVariables false
set_option linter.unusedSimpArgs false
theorem laws_FnExactStepCounts.belowD {w w' : World} (h : Drawn0 w w') : Below w.heap.size w w' := by
  obtain ⟨m, rfl⟩ := h
  exact pw_below_drewN (Below.refl _ _) m
set_option maxHeartbeats 8000000 in
set_option maxRecDepth 100000 in
theorem laws_FnExactStepCounts.calls0 (k k1 : Nat) (A0 : Option Addr) (c0 : Nat) (l0 : List Int) (z1 : Int) (w : World) (hr0 : Kd.C (Kd.int .i64) w A0 l0.length l0) (hc0 : l0.length ≤ c0) (hy0_ : laws_szPoset.f l0 1048576 = some z1) (hx : decide (z1 < 0) = true) :
    Calls Try.prog 8 #[.agg #[.slice A0 l0.length c0]] w fun e w' => e = .returned (.bool true) ∧ Below w.heap.size w w' := by
  have HR0 := Aside0.mk hr0
  have HC0 := Aside0.mk hc0
  clear hr0 hc0
  have hy0 := Aside0.mk hy0_
  clear hy0_
  have HT0 := Aside0.mk (Below.refl w.heap.size w)
  go_enter Try.func8, Try.ntmps8
  go_wp2_with (first | ((with_reducible refine gate_dst (N := 1) rfl ?_); refine box_event ?hg (N := 1) ?hd (cs := #[.slice A0 l0.length c0]) (t := 27) ?hr ?_; (case hd => rfl); (case hg => rfl); (case hr => first | (go_simp; done) | (go_simp; rfl)); intro g1 hg_ w1 hbox_ hb_; have HB1 := Aside0.mk hb_; have HZ1 : Aside0 (w.heap.size ≤ w1.heap.size) := ⟨hb_.size⟩; have HT1 := Aside0.mk (HT0.out.trans (Below.mono hb_ HT0.out.size)); have HG1 : Aside0 (w.heap.size ≤ g1 ∧ g1 < w1.heap.size) := ⟨Nat.le_of_eq hg_.symm, blk_lt hbox_⟩; have HBK_ := Aside0.mk hbox_; clear hb_ hbox_ hg_; have HBK1 := HBK_; clear HBK_; have hcz1 : w1.cell? ⟨g1, 0, none⟩ = some (.slice A0 l0.length c0) := (blk_cell HBK1.out 0).trans rfl; have hfz1 := blk_frozen HBK1.out 0))
  have hcall_ := laws_szPoset.calls _ _ l0 1048576 z1 _ (Kd.C_below HR0.out HT1.out) HC0.out hy0.out
  refine hcall_.mono ?_
  clear hcall_ 
  rintro e w2 ⟨rfl, hb_⟩
  have HB2 := Aside0.mk hb_
  have HZ2 : Aside0 (w1.heap.size ≤ w2.heap.size) := ⟨hb_.size⟩
  have HT2 := Aside0.mk (HT1.out.trans (Below.mono hb_ HT1.out.size))
  clear hb_
  have n_ := Aside0.mk (blk_below HBK1.out HB2.out)
  clear HBK1 hcz1
  have HBK1 := n_
  clear n_
  have hcz1 : w2.cell? ⟨g1, 0, none⟩ = some (.slice A0 l0.length c0) := (blk_cell HBK1.out 0).trans rfl
  go_wp2
  go_ret
  exact ⟨by first | rfl | (simp; done) | (simp [*]; done), by repeat (first | (with_reducible first | exact HT2.out | apply below_alloc | apply pw_below_drewN | apply below_drew1) | exact HT2.out)⟩
set_option maxHeartbeats 8000000 in
set_option maxRecDepth 100000 in
theorem laws_FnExactStepCounts.calls1 (k k1 : Nat) (A0 : Option Addr) (c0 : Nat) (l0 : List Int) (z1 : Int) (v2 : List Int) (v3 : Bool) (m4 : Int) (u5 : List Int) (m6 : Int) (u7 : List Int) (w : World) (hr0 : Kd.C (Kd.int .i64) w A0 l0.length l0) (hc0 : l0.length ≤ c0) (hy0_ : laws_szPoset.f l0 1048576 = some z1) (hy1 : decide (z1 < 0) = false) (hy2_ : laws_toPoset.f k1 l0 = some l0) (hy3_ : spec_StepCounts.f k l0 = some (v2, v3)) (hy4_ : impl_StepCounts.f k l0 = some (v2, v3)) (hy5_ : laws_eqIntS.f k1 v2 v2 = some true) (hy6_ : laws_eqPoset.f k1 l0 l0 = some true) (hy7_ : laws_markPoset.f k1 l0 1 = some (m4, u5)) (hy8 : decide (m4 < 0) = false) (hy9_ : laws_markIntS.f k1 v2 1 = some (m6, u7)) (hy10_ : laws_heldIntS.f k1 u7 1 = some m6) (hy11 : decide (m6 < 0) = false) :
    Calls Try.prog 8 #[.agg #[.slice A0 l0.length c0]] w fun e w' => e = .returned (.bool true) ∧ Below w.heap.size w w' := by
  have HR0 := Aside0.mk hr0
  have HC0 := Aside0.mk hc0
  clear hr0 hc0
  have hy0 := Aside0.mk hy0_
  clear hy0_
  have hy2 := Aside0.mk hy2_
  clear hy2_
  have hy3 := Aside0.mk hy3_
  clear hy3_
  have hy4 := Aside0.mk hy4_
  clear hy4_
  have hy5 := Aside0.mk hy5_
  clear hy5_
  have hy6 := Aside0.mk hy6_
  clear hy6_
  have hy7 := Aside0.mk hy7_
  clear hy7_
  have hy9 := Aside0.mk hy9_
  clear hy9_
  have hy10 := Aside0.mk hy10_
  clear hy10_
  have HT0 := Aside0.mk (Below.refl w.heap.size w)
  go_enter Try.func8, Try.ntmps8
  go_wp2_with (first | ((with_reducible refine gate_dst (N := 1) rfl ?_); refine box_event ?hg (N := 1) ?hd (cs := #[.slice A0 l0.length c0]) (t := 27) ?hr ?_; (case hd => rfl); (case hg => rfl); (case hr => first | (go_simp; done) | (go_simp; rfl)); intro g1 hg_ w1 hbox_ hb_; have HB1 := Aside0.mk hb_; have HZ1 : Aside0 (w.heap.size ≤ w1.heap.size) := ⟨hb_.size⟩; have HT1 := Aside0.mk (HT0.out.trans (Below.mono hb_ HT0.out.size)); have HG1 : Aside0 (w.heap.size ≤ g1 ∧ g1 < w1.heap.size) := ⟨Nat.le_of_eq hg_.symm, blk_lt hbox_⟩; have HBK_ := Aside0.mk hbox_; clear hb_ hbox_ hg_; have HBK1 := HBK_; clear HBK_; have hcz1 : w1.cell? ⟨g1, 0, none⟩ = some (.slice A0 l0.length c0) := (blk_cell HBK1.out 0).trans rfl; have hfz1 := blk_frozen HBK1.out 0))
  have hcall_ := laws_szPoset.calls _ _ l0 1048576 z1 _ (Kd.C_below HR0.out HT1.out) HC0.out hy0.out
  refine hcall_.mono ?_
  clear hcall_ 
  rintro e w2 ⟨rfl, hb_⟩
  have HB2 := Aside0.mk hb_
  have HZ2 : Aside0 (w1.heap.size ≤ w2.heap.size) := ⟨hb_.size⟩
  have HT2 := Aside0.mk (HT1.out.trans (Below.mono hb_ HT1.out.size))
  clear hb_
  have n_ := Aside0.mk (blk_below HBK1.out HB2.out)
  clear HBK1 hcz1
  have HBK1 := n_
  clear n_
  have hcz1 : w2.cell? ⟨g1, 0, none⟩ = some (.slice A0 l0.length c0) := (blk_cell HBK1.out 0).trans rfl
  go_wp2_with fail
  have hcall_ := laws_toPoset.calls k1 _ _ l0 l0 _ (Kd.C_below HR0.out HT2.out) HC0.out hy2.out
  refine hcall_.mono ?_
  clear hcall_ 
  rintro e w3 ⟨v1x, rfl, hx1_, hb_⟩
  have HB3 := Aside0.mk hb_
  have HZ3 : Aside0 (w2.heap.size ≤ w3.heap.size) := ⟨hb_.size⟩
  have HT3 := Aside0.mk (HT2.out.trans (Below.mono hb_ HT2.out.size))
  clear hb_
  have n_ := Aside0.mk (blk_below HBK1.out HB3.out)
  clear HBK1 hcz1
  have HBK1 := n_
  clear n_
  have hcz1 : w3.cell? ⟨g1, 0, none⟩ = some (.slice A0 l0.length c0) := (blk_cell HBK1.out 0).trans rfl
  have HX1 := Aside0.mk (Kd.R_lower (Kd.R_mono (ok' := fun k_ => w2.heap.size ≤ k_ ∧ k_ < w3.heap.size) (Kd.R_bound hx1_) (fun k_ h_ => ⟨h_.2.1, h_.2.2.1⟩)) HT2.out.size)
  clear hx1_
  go_wp2_with fail
  obtain ⟨A1_, c1_, e1_, hl1_, hC1_⟩ := Kd.R_reads HX1.out
  have hcall_ := spec_StepCounts.calls k _ _ l0 v2 v3 _ hC1_ hl1_ hy3.out
  rw [← e1_] at hcall_
  refine hcall_.mono ?_
  clear hcall_ hC1_ hl1_ e1_ c1_ A1_
  rintro e w4 ⟨v2x, rfl, hx2_, hb_⟩
  have HB4 := Aside0.mk hb_
  have HZ4 : Aside0 (w3.heap.size ≤ w4.heap.size) := ⟨hb_.size⟩
  have HT4 := Aside0.mk (HT3.out.trans (Below.mono hb_ HT3.out.size))
  clear hb_
  have n_ := Aside0.mk (Kd.R_below HX1.out HB4.out)
  clear HX1
  have HX1 := n_
  clear n_
  have n_ := Aside0.mk (blk_below HBK1.out HB4.out)
  clear HBK1 hcz1
  have HBK1 := n_
  clear n_
  have hcz1 : w4.cell? ⟨g1, 0, none⟩ = some (.slice A0 l0.length c0) := (blk_cell HBK1.out 0).trans rfl
  have HX2 := Aside0.mk (Kd.R_lower (Kd.R_mono (ok' := fun k_ => w3.heap.size ≤ k_ ∧ k_ < w4.heap.size) (Kd.R_bound hx2_) (fun k_ h_ => ⟨h_.2.1, h_.2.2.1⟩)) HT3.out.size)
  clear hx2_
  go_wp2_with fail
  have hcall_ := laws_toPoset.calls k1 _ _ l0 l0 _ (Kd.C_below HR0.out HT4.out) HC0.out hy2.out
  refine hcall_.mono ?_
  clear hcall_ 
  rintro e w5 ⟨v3x, rfl, hx3_, hb_⟩
  have HB5 := Aside0.mk hb_
  have HZ5 : Aside0 (w4.heap.size ≤ w5.heap.size) := ⟨hb_.size⟩
  have HT5 := Aside0.mk (HT4.out.trans (Below.mono hb_ HT4.out.size))
  clear hb_
  have n_ := Aside0.mk (Kd.R_below HX1.out HB5.out)
  clear HX1
  have HX1 := n_
  clear n_
  have n_ := Aside0.mk (Kd.R_below HX2.out HB5.out)
  clear HX2
  have HX2 := n_
  clear n_
  have n_ := Aside0.mk (blk_below HBK1.out HB5.out)
  clear HBK1 hcz1
  have HBK1 := n_
  clear n_
  have hcz1 : w5.cell? ⟨g1, 0, none⟩ = some (.slice A0 l0.length c0) := (blk_cell HBK1.out 0).trans rfl
  have HX3 := Aside0.mk (Kd.R_lower (Kd.R_mono (ok' := fun k_ => w4.heap.size ≤ k_ ∧ k_ < w5.heap.size) (Kd.R_bound hx3_) (fun k_ h_ => ⟨h_.2.1, h_.2.2.1⟩)) HT4.out.size)
  clear hx3_
  obtain ⟨Aq3, cq3, eq_⟩ := Kd.R_slice HX3.out
  subst eq_
  go_wp2_with (first | ((with_reducible refine gate_dst (N := 6) rfl ?_); refine box_event ?hg (N := 6) ?hd (cs := #[.slice none 0 0]) (t := 30) ?hr ?_; (case hd => rfl); (case hg => rfl); (case hr => first | (go_simp; done) | (go_simp; rfl)); intro g6 hg_ w6 hbox_ hb_; have HB6 := Aside0.mk hb_; have HZ6 : Aside0 (w5.heap.size ≤ w6.heap.size) := ⟨hb_.size⟩; have HT6 := Aside0.mk (HT5.out.trans (Below.mono hb_ HT5.out.size)); have HG6 : Aside0 (w5.heap.size ≤ g6 ∧ g6 < w6.heap.size) := ⟨Nat.le_of_eq hg_.symm, blk_lt hbox_⟩; have HBK_ := Aside0.mk hbox_; clear hb_ hbox_ hg_; have n_ := Aside0.mk (Kd.R_below HX1.out HB6.out); clear HX1; have HX1 := n_; clear n_; have n_ := Aside0.mk (Kd.R_below HX2.out HB6.out); clear HX2; have HX2 := n_; clear n_; have n_ := Aside0.mk (Kd.R_below HX3.out HB6.out); clear HX3; have HX3 := n_; clear n_; have n_ := Aside0.mk (blk_below HBK1.out HB6.out); clear HBK1 hcz1; have HBK1 := n_; clear n_; have hcz1 : w6.cell? ⟨g1, 0, none⟩ = some (.slice A0 l0.length c0) := (blk_cell HBK1.out 0).trans rfl; have HBK6 := HBK_; clear HBK_; have hcz6 : w6.cell? ⟨g6, 0, none⟩ = some (.slice none 0 0) := (blk_cell HBK6.out 0).trans rfl; have hfz6 := blk_frozen HBK6.out 0) | ((with_reducible refine gate_store (t := 30) (p := 6) rfl ?_); refine store_event (t := 30) (p := 6) (v := ?vo_) (w1 := (w6.setCell ⟨g6, 0, none⟩ (.slice Aq3 l0.length cq3))) ?hg ?ho ?hn ?hr ?_; (case ho => rfl); (case hg => rfl); (case hn => rfl); (case hr => first | (go_simp; done) | (go_simp; rfl)); intro w7 hw_; have hlt_ : w.heap.size ≤ g6 := (by have z1 := HZ1.out; have z2 := HZ2.out; have z3 := HZ3.out; have z4 := HZ4.out; have z5 := HZ5.out; have z6 := HZ6.out; have hg_ := HG6.out; have h0_ := HT0.out.size; omega); have HT7 : Aside0 (Below w.heap.size w w7) := ⟨by rw [hw_]; exact below_set HT6.out hlt_⟩; have HZ7 : Aside0 (w6.heap.size ≤ w7.heap.size) := ⟨by rw [hw_]; simp [World.setCell]⟩; have n_ : Aside0 (Kd.R (Kd.int .i64) 3 w7 w.heap.size (fun k_ => w2.heap.size ≤ k_ ∧ k_ < w3.heap.size) v1x l0) := ⟨by rw [hw_]; exact Kd.R_far HX1.out (p := ⟨g6, 0, none⟩) (fun k_ h_ => by have z1 := HZ1.out; have z2 := HZ2.out; have z3 := HZ3.out; have z4 := HZ4.out; have z5 := HZ5.out; have z6 := HZ6.out; have hg_ := HG6.out; show k_ ≠ g6; omega) _⟩; clear HX1; have HX1 := n_; clear n_; have n_ : Aside0 (Kd.R (Kd.int .i64) 3 w7 w.heap.size (fun k_ => w3.heap.size ≤ k_ ∧ k_ < w4.heap.size) v2x v2) := ⟨by rw [hw_]; exact Kd.R_far HX2.out (p := ⟨g6, 0, none⟩) (fun k_ h_ => by have z1 := HZ1.out; have z2 := HZ2.out; have z3 := HZ3.out; have z4 := HZ4.out; have z5 := HZ5.out; have z6 := HZ6.out; have hg_ := HG6.out; show k_ ≠ g6; omega) _⟩; clear HX2; have HX2 := n_; clear n_; have n_ : Aside0 (Kd.R (Kd.int .i64) 3 w7 w.heap.size (fun k_ => w4.heap.size ≤ k_ ∧ k_ < w5.heap.size) (.slice Aq3 l0.length cq3) l0) := ⟨by rw [hw_]; exact Kd.R_far HX3.out (p := ⟨g6, 0, none⟩) (fun k_ h_ => by have z1 := HZ1.out; have z2 := HZ2.out; have z3 := HZ3.out; have z4 := HZ4.out; have z5 := HZ5.out; have z6 := HZ6.out; have hg_ := HG6.out; show k_ ≠ g6; omega) _⟩; clear HX3; have HX3 := n_; clear n_; have nb1_ : Aside0 (w7.heap[g1]? = some (.cells #[.slice A0 l0.length c0] 27 (0, 0))) := ⟨by rw [hw_]; exact (Below.heap_setCell _ _ _ _ (by have z1 := HZ1.out; have z2 := HZ2.out; have z3 := HZ3.out; have z4 := HZ4.out; have z5 := HZ5.out; have z6 := HZ6.out; have h1_ := HG1.out; have h2_ := HG6.out; show g1 ≠ g6; omega)).trans HBK1.out⟩; have nb6_ : Aside0 (w7.heap[g6]? = some (.cells #[.slice Aq3 l0.length cq3] 30 (0, 0))) := ⟨by rw [hw_]; exact one_setCell HBK6.out⟩; clear hcz1; clear hcz6; clear hw_; clear HBK1; have HBK1 := nb1_; clear nb1_; have hcz1 : w7.cell? ⟨g1, 0, none⟩ = some (.slice A0 l0.length c0) := (blk_cell HBK1.out 0).trans rfl; clear HBK6; have HBK6 := nb6_; clear nb6_; have hcz6 : w7.cell? ⟨g6, 0, none⟩ = some (.slice Aq3 l0.length cq3) := (blk_cell HBK6.out 0).trans rfl))
  obtain ⟨A3_, c3_, e3_, hl3_, hC3_⟩ := Kd.R_reads HX3.out
  have hcall_ := impl_StepCounts.calls k _ _ l0 v2 v3 _ hC3_ hl3_ hy4.out
  rw [← e3_] at hcall_
  refine hcall_.mono ?_
  clear hcall_ hC3_ hl3_ e3_ c3_ A3_
  rintro e w8 ⟨v4x, rfl, hx4_, hb_⟩
  have HB8 := Aside0.mk hb_
  have HZ8 : Aside0 (w7.heap.size ≤ w8.heap.size) := ⟨hb_.size⟩
  have HT8 := Aside0.mk (HT7.out.trans (Below.mono hb_ HT7.out.size))
  clear hb_
  have n_ := Aside0.mk (Kd.R_below HX1.out HB8.out)
  clear HX1
  have HX1 := n_
  clear n_
  have n_ := Aside0.mk (Kd.R_below HX2.out HB8.out)
  clear HX2
  have HX2 := n_
  clear n_
  have n_ := Aside0.mk (Kd.R_below HX3.out HB8.out)
  clear HX3
  have HX3 := n_
  clear n_
  have n_ := Aside0.mk (blk_below HBK1.out HB8.out)
  clear HBK1 hcz1
  have HBK1 := n_
  clear n_
  have hcz1 : w8.cell? ⟨g1, 0, none⟩ = some (.slice A0 l0.length c0) := (blk_cell HBK1.out 0).trans rfl
  have n_ := Aside0.mk (blk_below HBK6.out HB8.out)
  clear HBK6 hcz6
  have HBK6 := n_
  clear n_
  have hcz6 : w8.cell? ⟨g6, 0, none⟩ = some (.slice Aq3 l0.length cq3) := (blk_cell HBK6.out 0).trans rfl
  have HX4 := Aside0.mk (Kd.R_lower (Kd.R_mono (ok' := fun k_ => w7.heap.size ≤ k_ ∧ k_ < w8.heap.size) (Kd.R_bound hx4_) (fun k_ h_ => ⟨h_.2.1, h_.2.2.1⟩)) HT7.out.size)
  clear hx4_
  go_wp2_with fail
  obtain ⟨A4_, c4_, e4_, hl4_, hC4_⟩ := Kd.R_reads HX4.out
  obtain ⟨A2_, c2_, e2_, hl2_, hC2_⟩ := Kd.R_reads HX2.out
  have hcall_ := laws_eqIntS.calls k1 _ _ v2 _ _ v2 true _ hC4_ hl4_ hC2_ hl2_ hy5.out
  rw [← e4_] at hcall_
  rw [← e2_] at hcall_
  refine hcall_.mono ?_
  clear hcall_ hC4_ hl4_ e4_ c4_ A4_ hC2_ hl2_ e2_ c2_ A2_
  rintro e w9 ⟨rfl, hb0_⟩
  have hb_ := laws_FnExactStepCounts.belowD hb0_
  clear hb0_
  have HB9 := Aside0.mk hb_
  have HZ9 : Aside0 (w8.heap.size ≤ w9.heap.size) := ⟨hb_.size⟩
  have HT9 := Aside0.mk (HT8.out.trans (Below.mono hb_ HT8.out.size))
  clear hb_
  have n_ := Aside0.mk (Kd.R_below HX1.out HB9.out)
  clear HX1
  have HX1 := n_
  clear n_
  have n_ := Aside0.mk (Kd.R_below HX2.out HB9.out)
  clear HX2
  have HX2 := n_
  clear n_
  have n_ := Aside0.mk (Kd.R_below HX3.out HB9.out)
  clear HX3
  have HX3 := n_
  clear n_
  have n_ := Aside0.mk (Kd.R_below HX4.out HB9.out)
  clear HX4
  have HX4 := n_
  clear n_
  have n_ := Aside0.mk (blk_below HBK1.out HB9.out)
  clear HBK1 hcz1
  have HBK1 := n_
  clear n_
  have hcz1 : w9.cell? ⟨g1, 0, none⟩ = some (.slice A0 l0.length c0) := (blk_cell HBK1.out 0).trans rfl
  have n_ := Aside0.mk (blk_below HBK6.out HB9.out)
  clear HBK6 hcz6
  have HBK6 := n_
  clear n_
  have hcz6 : w9.cell? ⟨g6, 0, none⟩ = some (.slice Aq3 l0.length cq3) := (blk_cell HBK6.out 0).trans rfl
  go_wp2_with fail
  have HB10 := Aside0.mk (below_drew (Below.refl w9.heap.size w9))
  have HZ10 : Aside0 (w9.heap.size ≤ w9.drew.heap.size) := ⟨Nat.le_refl _⟩
  have HT10 := Aside0.mk (HT9.out.trans (Below.mono HB10.out HT9.out.size))
  have n_ := Aside0.mk (Kd.R_below HX1.out HB10.out)
  clear HX1
  have HX1 := n_
  clear n_
  have n_ := Aside0.mk (Kd.R_below HX2.out HB10.out)
  clear HX2
  have HX2 := n_
  clear n_
  have n_ := Aside0.mk (Kd.R_below HX3.out HB10.out)
  clear HX3
  have HX3 := n_
  clear n_
  have n_ := Aside0.mk (Kd.R_below HX4.out HB10.out)
  clear HX4
  have HX4 := n_
  clear n_
  have n_ := Aside0.mk (blk_below HBK1.out HB10.out)
  clear HBK1 hcz1
  have HBK1 := n_
  clear n_
  have hcz1 : w9.drew.cell? ⟨g1, 0, none⟩ = some (.slice A0 l0.length c0) := (blk_cell HBK1.out 0).trans rfl
  have n_ := Aside0.mk (blk_below HBK6.out HB10.out)
  clear HBK6 hcz6
  have HBK6 := n_
  clear n_
  have hcz6 : w9.drew.cell? ⟨g6, 0, none⟩ = some (.slice Aq3 l0.length cq3) := (blk_cell HBK6.out 0).trans rfl
  go_region_held3 (fun w_ => w_.cell? ⟨g1, 0, none⟩ = some (.slice A0 l0.length c0) ∧ w_.cell? ⟨g6, 0, none⟩ = some (.slice Aq3 l0.length cq3)) (exact ⟨hcz1, hcz6⟩) (first | (go_at_call 16; have hcall_ := laws_toPoset.calls k1 _ _ l0 l0 _ (Kd.C_below HR0.out HT10.out) HC0.out hy2.out; refine hcall_.mono ?_; clear hcall_; rintro e w11 ⟨v5x, rfl, hx5_, hb_⟩; have HB11 := Aside0.mk hb_; have HZ11 : Aside0 (w9.drew.heap.size ≤ w11.heap.size) := ⟨hb_.size⟩; have HT11 := Aside0.mk (HT10.out.trans (Below.mono hb_ HT10.out.size)); clear hb_; have n_ := Aside0.mk (Kd.R_below HX1.out HB11.out); clear HX1; have HX1 := n_; clear n_; have n_ := Aside0.mk (Kd.R_below HX2.out HB11.out); clear HX2; have HX2 := n_; clear n_; have n_ := Aside0.mk (Kd.R_below HX3.out HB11.out); clear HX3; have HX3 := n_; clear n_; have n_ := Aside0.mk (Kd.R_below HX4.out HB11.out); clear HX4; have HX4 := n_; clear n_; have n_ := Aside0.mk (blk_below HBK1.out HB11.out); clear HBK1 hcz1; have HBK1 := n_; clear n_; have hcz1 : w11.cell? ⟨g1, 0, none⟩ = some (.slice A0 l0.length c0) := (blk_cell HBK1.out 0).trans rfl; have n_ := Aside0.mk (blk_below HBK6.out HB11.out); clear HBK6 hcz6; have HBK6 := n_; clear n_; have hcz6 : w11.cell? ⟨g6, 0, none⟩ = some (.slice Aq3 l0.length cq3) := (blk_cell HBK6.out 0).trans rfl; have HX5 := Aside0.mk (Kd.R_lower (Kd.R_mono (ok' := fun k_ => w9.drew.heap.size ≤ k_ ∧ k_ < w11.heap.size) (Kd.R_bound hx5_) (fun k_ h_ => ⟨h_.2.1, h_.2.2.1⟩)) HT10.out.size); clear hx5_) | (go_at_call 18; obtain ⟨A3_, c3_, e3_, hl3_, hC3_⟩ := Kd.R_reads HX3.out; obtain ⟨A5_, c5_, e5_, hl5_, hC5_⟩ := Kd.R_reads HX5.out; have hcall_ := laws_eqPoset.calls k1 _ _ l0 _ _ l0 true _ hC3_ hl3_ hC5_ hl5_ hy6.out; rw [← e3_] at hcall_; rw [← e5_] at hcall_; refine hcall_.mono ?_; clear hcall_ hC3_ hl3_ e3_ c3_ A3_ hC5_ hl5_ e5_ c5_ A5_; rintro e w12 ⟨rfl, hb_⟩; have HB12 := Aside0.mk hb_; have HZ12 : Aside0 (w11.heap.size ≤ w12.heap.size) := ⟨hb_.size⟩; have HT12 := Aside0.mk (HT11.out.trans (Below.mono hb_ HT11.out.size)); clear hb_; have n_ := Aside0.mk (Kd.R_below HX1.out HB12.out); clear HX1; have HX1 := n_; clear n_; have n_ := Aside0.mk (Kd.R_below HX2.out HB12.out); clear HX2; have HX2 := n_; clear n_; have n_ := Aside0.mk (Kd.R_below HX3.out HB12.out); clear HX3; have HX3 := n_; clear n_; have n_ := Aside0.mk (Kd.R_below HX4.out HB12.out); clear HX4; have HX4 := n_; clear n_; have n_ := Aside0.mk (Kd.R_below HX5.out HB12.out); clear HX5; have HX5 := n_; clear n_; have n_ := Aside0.mk (blk_below HBK1.out HB12.out); clear HBK1 hcz1; have HBK1 := n_; clear n_; have hcz1 : w12.cell? ⟨g1, 0, none⟩ = some (.slice A0 l0.length c0) := (blk_cell HBK1.out 0).trans rfl; have n_ := Aside0.mk (blk_below HBK6.out HB12.out); clear HBK6 hcz6; have HBK6 := n_; clear n_; have hcz6 : w12.cell? ⟨g6, 0, none⟩ = some (.slice Aq3 l0.length cq3) := (blk_cell HBK6.out 0).trans rfl))
  go_wp2_with fail
  refine (laws_markPoset.calls k1 (fun k_ => some k_ = ((.slice Aq3 l0.length cq3) : Value).ownBlock) (.slice Aq3 l0.length cq3) l0 1 m4 u5 w _ HT12.out (Kd.R_tight rfl HX3.out) hy7.out).mono ?_
  rintro e w13 ⟨rfl, hy_, hb_, hk_⟩
  have HT13 := Aside0.mk hb_
  have HK13 := Aside0.mk hk_
  have HZ13 : Aside0 (w12.heap.size ≤ w13.heap.size) := ⟨hk_.1⟩
  have HO := HX3
  have HY := Aside0.mk (Kd.R_reok rfl hy_ (fun k_ e_ => HO.out.1 k_ e_))
  clear hy_ hb_ hk_
  have n_ := Aside0.mk (Kd.R_kept HX1.out HK13.out (fun k_ h_ h2_ => by have z1 := HZ1.out; have z2 := HZ2.out; have z3 := HZ3.out; have z4 := HZ4.out; have z5 := HZ5.out; have z6 := HZ6.out; have z7 := HZ7.out; have z8 := HZ8.out; have z9 := HZ9.out; have z10 := HZ10.out; have z11 := HZ11.out; have z12 := HZ12.out; have z13 := HZ13.out; have h3_ := HO.out.1 k_ h2_.symm; omega))
  clear HX1
  have HX1 := n_
  clear n_
  have n_ := Aside0.mk (Kd.R_kept HX2.out HK13.out (fun k_ h_ h2_ => by have z1 := HZ1.out; have z2 := HZ2.out; have z3 := HZ3.out; have z4 := HZ4.out; have z5 := HZ5.out; have z6 := HZ6.out; have z7 := HZ7.out; have z8 := HZ8.out; have z9 := HZ9.out; have z10 := HZ10.out; have z11 := HZ11.out; have z12 := HZ12.out; have z13 := HZ13.out; have h3_ := HO.out.1 k_ h2_.symm; omega))
  clear HX2
  have HX2 := n_
  clear n_
  have n_ := Aside0.mk (Kd.R_kept HX4.out HK13.out (fun k_ h_ h2_ => by have z1 := HZ1.out; have z2 := HZ2.out; have z3 := HZ3.out; have z4 := HZ4.out; have z5 := HZ5.out; have z6 := HZ6.out; have z7 := HZ7.out; have z8 := HZ8.out; have z9 := HZ9.out; have z10 := HZ10.out; have z11 := HZ11.out; have z12 := HZ12.out; have z13 := HZ13.out; have h3_ := HO.out.1 k_ h2_.symm; omega))
  clear HX4
  have HX4 := n_
  clear n_
  have n_ := Aside0.mk (Kd.R_kept HX5.out HK13.out (fun k_ h_ h2_ => by have z1 := HZ1.out; have z2 := HZ2.out; have z3 := HZ3.out; have z4 := HZ4.out; have z5 := HZ5.out; have z6 := HZ6.out; have z7 := HZ7.out; have z8 := HZ8.out; have z9 := HZ9.out; have z10 := HZ10.out; have z11 := HZ11.out; have z12 := HZ12.out; have z13 := HZ13.out; have h3_ := HO.out.1 k_ h2_.symm; omega))
  clear HX5
  have HX5 := n_
  clear n_
  have n_ := Aside0.mk ((HK13.out.2 g1 (blk_lt HBK1.out) (fun h2_ => by have z1 := HZ1.out; have z2 := HZ2.out; have z3 := HZ3.out; have z4 := HZ4.out; have z5 := HZ5.out; have z6 := HZ6.out; have z7 := HZ7.out; have z8 := HZ8.out; have z9 := HZ9.out; have z10 := HZ10.out; have z11 := HZ11.out; have z12 := HZ12.out; have z13 := HZ13.out; have hg_ := HG1.out; have h3_ := HO.out.1 g1 h2_.symm; omega)).trans HBK1.out)
  clear HBK1 hcz1
  have HBK1 := n_
  clear n_
  have hcz1 : w13.cell? ⟨g1, 0, none⟩ = some (.slice A0 l0.length c0) := (blk_cell HBK1.out 0).trans rfl
  have n_ := Aside0.mk ((HK13.out.2 g6 (blk_lt HBK6.out) (fun h2_ => by have z1 := HZ1.out; have z2 := HZ2.out; have z3 := HZ3.out; have z4 := HZ4.out; have z5 := HZ5.out; have z6 := HZ6.out; have z7 := HZ7.out; have z8 := HZ8.out; have z9 := HZ9.out; have z10 := HZ10.out; have z11 := HZ11.out; have z12 := HZ12.out; have z13 := HZ13.out; have hg_ := HG6.out; have h3_ := HO.out.1 g6 h2_.symm; omega)).trans HBK6.out)
  clear HBK6 hcz6
  have HBK6 := n_
  clear n_
  have hcz6 : w13.cell? ⟨g6, 0, none⟩ = some (.slice Aq3 l0.length cq3) := (blk_cell HBK6.out 0).trans rfl
  clear HX3 HO
  have HX3 := HY
  clear HY
  go_wp2_with fail
  obtain ⟨A4_, c4_, e4_, hl4_, hC4_⟩ := Kd.R_reads HX4.out
  obtain ⟨A2_, c2_, e2_, hl2_, hC2_⟩ := Kd.R_reads HX2.out
  have hcall_ := laws_eqIntS.calls k1 _ _ v2 _ _ v2 true _ hC4_ hl4_ hC2_ hl2_ hy5.out
  rw [← e4_] at hcall_
  rw [← e2_] at hcall_
  refine hcall_.mono ?_
  clear hcall_ hC4_ hl4_ e4_ c4_ A4_ hC2_ hl2_ e2_ c2_ A2_
  rintro e w14 ⟨rfl, hb0_⟩
  have hb_ := laws_FnExactStepCounts.belowD hb0_
  clear hb0_
  have HB14 := Aside0.mk hb_
  have HZ14 : Aside0 (w13.heap.size ≤ w14.heap.size) := ⟨hb_.size⟩
  have HT14 := Aside0.mk (HT13.out.trans (Below.mono hb_ HT13.out.size))
  clear hb_
  have n_ := Aside0.mk (Kd.R_below HX1.out HB14.out)
  clear HX1
  have HX1 := n_
  clear n_
  have n_ := Aside0.mk (Kd.R_below HX2.out HB14.out)
  clear HX2
  have HX2 := n_
  clear n_
  have n_ := Aside0.mk (Kd.R_below HX3.out HB14.out)
  clear HX3
  have HX3 := n_
  clear n_
  have n_ := Aside0.mk (Kd.R_below HX4.out HB14.out)
  clear HX4
  have HX4 := n_
  clear n_
  have n_ := Aside0.mk (Kd.R_below HX5.out HB14.out)
  clear HX5
  have HX5 := n_
  clear n_
  have n_ := Aside0.mk (blk_below HBK1.out HB14.out)
  clear HBK1 hcz1
  have HBK1 := n_
  clear n_
  have hcz1 : w14.cell? ⟨g1, 0, none⟩ = some (.slice A0 l0.length c0) := (blk_cell HBK1.out 0).trans rfl
  have n_ := Aside0.mk (blk_below HBK6.out HB14.out)
  clear HBK6 hcz6
  have HBK6 := n_
  clear n_
  have hcz6 : w14.cell? ⟨g6, 0, none⟩ = some (.slice Aq3 l0.length cq3) := (blk_cell HBK6.out 0).trans rfl
  go_wp2_with fail
  refine (laws_markIntS.calls k1 (fun k_ => some k_ = (v4x : Value).ownBlock) v4x v2 1 m6 u7 w _ HT14.out (Kd.R_tight rfl HX4.out) hy9.out).mono ?_
  rintro e w15 ⟨rfl, hy_, hb_, hk_⟩
  have HT15 := Aside0.mk hb_
  have HK15 := Aside0.mk hk_
  have HZ15 : Aside0 (w14.heap.size ≤ w15.heap.size) := ⟨hk_.1⟩
  have HO := HX4
  have HY := Aside0.mk (Kd.R_reok rfl hy_ (fun k_ e_ => HO.out.1 k_ e_))
  clear hy_ hb_ hk_
  have n_ := Aside0.mk (Kd.R_kept HX1.out HK15.out (fun k_ h_ h2_ => by have z1 := HZ1.out; have z2 := HZ2.out; have z3 := HZ3.out; have z4 := HZ4.out; have z5 := HZ5.out; have z6 := HZ6.out; have z7 := HZ7.out; have z8 := HZ8.out; have z9 := HZ9.out; have z10 := HZ10.out; have z11 := HZ11.out; have z12 := HZ12.out; have z13 := HZ13.out; have z14 := HZ14.out; have z15 := HZ15.out; have h3_ := HO.out.1 k_ h2_.symm; omega))
  clear HX1
  have HX1 := n_
  clear n_
  have n_ := Aside0.mk (Kd.R_kept HX2.out HK15.out (fun k_ h_ h2_ => by have z1 := HZ1.out; have z2 := HZ2.out; have z3 := HZ3.out; have z4 := HZ4.out; have z5 := HZ5.out; have z6 := HZ6.out; have z7 := HZ7.out; have z8 := HZ8.out; have z9 := HZ9.out; have z10 := HZ10.out; have z11 := HZ11.out; have z12 := HZ12.out; have z13 := HZ13.out; have z14 := HZ14.out; have z15 := HZ15.out; have h3_ := HO.out.1 k_ h2_.symm; omega))
  clear HX2
  have HX2 := n_
  clear n_
  have n_ := Aside0.mk (Kd.R_kept HX3.out HK15.out (fun k_ h_ h2_ => by have z1 := HZ1.out; have z2 := HZ2.out; have z3 := HZ3.out; have z4 := HZ4.out; have z5 := HZ5.out; have z6 := HZ6.out; have z7 := HZ7.out; have z8 := HZ8.out; have z9 := HZ9.out; have z10 := HZ10.out; have z11 := HZ11.out; have z12 := HZ12.out; have z13 := HZ13.out; have z14 := HZ14.out; have z15 := HZ15.out; have h3_ := HO.out.1 k_ h2_.symm; omega))
  clear HX3
  have HX3 := n_
  clear n_
  have n_ := Aside0.mk (Kd.R_kept HX5.out HK15.out (fun k_ h_ h2_ => by have z1 := HZ1.out; have z2 := HZ2.out; have z3 := HZ3.out; have z4 := HZ4.out; have z5 := HZ5.out; have z6 := HZ6.out; have z7 := HZ7.out; have z8 := HZ8.out; have z9 := HZ9.out; have z10 := HZ10.out; have z11 := HZ11.out; have z12 := HZ12.out; have z13 := HZ13.out; have z14 := HZ14.out; have z15 := HZ15.out; have h3_ := HO.out.1 k_ h2_.symm; omega))
  clear HX5
  have HX5 := n_
  clear n_
  have n_ := Aside0.mk ((HK15.out.2 g1 (blk_lt HBK1.out) (fun h2_ => by have z1 := HZ1.out; have z2 := HZ2.out; have z3 := HZ3.out; have z4 := HZ4.out; have z5 := HZ5.out; have z6 := HZ6.out; have z7 := HZ7.out; have z8 := HZ8.out; have z9 := HZ9.out; have z10 := HZ10.out; have z11 := HZ11.out; have z12 := HZ12.out; have z13 := HZ13.out; have z14 := HZ14.out; have z15 := HZ15.out; have hg_ := HG1.out; have h3_ := HO.out.1 g1 h2_.symm; omega)).trans HBK1.out)
  clear HBK1 hcz1
  have HBK1 := n_
  clear n_
  have hcz1 : w15.cell? ⟨g1, 0, none⟩ = some (.slice A0 l0.length c0) := (blk_cell HBK1.out 0).trans rfl
  have n_ := Aside0.mk ((HK15.out.2 g6 (blk_lt HBK6.out) (fun h2_ => by have z1 := HZ1.out; have z2 := HZ2.out; have z3 := HZ3.out; have z4 := HZ4.out; have z5 := HZ5.out; have z6 := HZ6.out; have z7 := HZ7.out; have z8 := HZ8.out; have z9 := HZ9.out; have z10 := HZ10.out; have z11 := HZ11.out; have z12 := HZ12.out; have z13 := HZ13.out; have z14 := HZ14.out; have z15 := HZ15.out; have hg_ := HG6.out; have h3_ := HO.out.1 g6 h2_.symm; omega)).trans HBK6.out)
  clear HBK6 hcz6
  have HBK6 := n_
  clear n_
  have hcz6 : w15.cell? ⟨g6, 0, none⟩ = some (.slice Aq3 l0.length cq3) := (blk_cell HBK6.out 0).trans rfl
  clear HX4 HO
  have HX4 := HY
  clear HY
  go_wp2_with fail
  obtain ⟨A4_, c4_, e4_, hl4_, hC4_⟩ := Kd.R_reads HX4.out
  have hcall_ := laws_heldIntS.calls k1 _ _ u7 1 m6 _ hC4_ hl4_ hy10.out
  rw [← e4_] at hcall_
  refine hcall_.mono ?_
  clear hcall_ hC4_ hl4_ e4_ c4_ A4_
  rintro e w16 ⟨rfl, hb0_⟩
  have hb_ := laws_FnExactStepCounts.belowD hb0_
  clear hb0_
  have HB16 := Aside0.mk hb_
  have HZ16 : Aside0 (w15.heap.size ≤ w16.heap.size) := ⟨hb_.size⟩
  have HT16 := Aside0.mk (HT15.out.trans (Below.mono hb_ HT15.out.size))
  clear hb_
  have n_ := Aside0.mk (Kd.R_below HX1.out HB16.out)
  clear HX1
  have HX1 := n_
  clear n_
  have n_ := Aside0.mk (Kd.R_below HX2.out HB16.out)
  clear HX2
  have HX2 := n_
  clear n_
  have n_ := Aside0.mk (Kd.R_below HX3.out HB16.out)
  clear HX3
  have HX3 := n_
  clear n_
  have n_ := Aside0.mk (Kd.R_below HX4.out HB16.out)
  clear HX4
  have HX4 := n_
  clear n_
  have n_ := Aside0.mk (Kd.R_below HX5.out HB16.out)
  clear HX5
  have HX5 := n_
  clear n_
  have n_ := Aside0.mk (blk_below HBK1.out HB16.out)
  clear HBK1 hcz1
  have HBK1 := n_
  clear n_
  have hcz1 : w16.cell? ⟨g1, 0, none⟩ = some (.slice A0 l0.length c0) := (blk_cell HBK1.out 0).trans rfl
  have n_ := Aside0.mk (blk_below HBK6.out HB16.out)
  clear HBK6 hcz6
  have HBK6 := n_
  clear n_
  have hcz6 : w16.cell? ⟨g6, 0, none⟩ = some (.slice Aq3 l0.length cq3) := (blk_cell HBK6.out 0).trans rfl
  go_wp2_with fail
  have hcall_ := laws_toPoset.calls k1 _ _ l0 l0 _ (Kd.C_below HR0.out HT16.out) HC0.out hy2.out
  refine hcall_.mono ?_
  clear hcall_ 
  rintro e w17 ⟨v6x, rfl, hx6_, hb_⟩
  have HB17 := Aside0.mk hb_
  have HZ17 : Aside0 (w16.heap.size ≤ w17.heap.size) := ⟨hb_.size⟩
  have HT17 := Aside0.mk (HT16.out.trans (Below.mono hb_ HT16.out.size))
  clear hb_
  have n_ := Aside0.mk (Kd.R_below HX1.out HB17.out)
  clear HX1
  have HX1 := n_
  clear n_
  have n_ := Aside0.mk (Kd.R_below HX2.out HB17.out)
  clear HX2
  have HX2 := n_
  clear n_
  have n_ := Aside0.mk (Kd.R_below HX3.out HB17.out)
  clear HX3
  have HX3 := n_
  clear n_
  have n_ := Aside0.mk (Kd.R_below HX4.out HB17.out)
  clear HX4
  have HX4 := n_
  clear n_
  have n_ := Aside0.mk (Kd.R_below HX5.out HB17.out)
  clear HX5
  have HX5 := n_
  clear n_
  have n_ := Aside0.mk (blk_below HBK1.out HB17.out)
  clear HBK1 hcz1
  have HBK1 := n_
  clear n_
  have hcz1 : w17.cell? ⟨g1, 0, none⟩ = some (.slice A0 l0.length c0) := (blk_cell HBK1.out 0).trans rfl
  have n_ := Aside0.mk (blk_below HBK6.out HB17.out)
  clear HBK6 hcz6
  have HBK6 := n_
  clear n_
  have hcz6 : w17.cell? ⟨g6, 0, none⟩ = some (.slice Aq3 l0.length cq3) := (blk_cell HBK6.out 0).trans rfl
  have HX6 := Aside0.mk (Kd.R_lower (Kd.R_mono (ok' := fun k_ => w16.heap.size ≤ k_ ∧ k_ < w17.heap.size) (Kd.R_bound hx6_) (fun k_ h_ => ⟨h_.2.1, h_.2.2.1⟩)) HT16.out.size)
  clear hx6_
  go_wp2_with fail
  obtain ⟨A6_, c6_, e6_, hl6_, hC6_⟩ := Kd.R_reads HX6.out
  have hcall_ := impl_StepCounts.calls k _ _ l0 v2 v3 _ hC6_ hl6_ hy4.out
  rw [← e6_] at hcall_
  refine hcall_.mono ?_
  clear hcall_ hC6_ hl6_ e6_ c6_ A6_
  rintro e w18 ⟨v7x, rfl, hx7_, hb_⟩
  have HB18 := Aside0.mk hb_
  have HZ18 : Aside0 (w17.heap.size ≤ w18.heap.size) := ⟨hb_.size⟩
  have HT18 := Aside0.mk (HT17.out.trans (Below.mono hb_ HT17.out.size))
  clear hb_
  have n_ := Aside0.mk (Kd.R_below HX1.out HB18.out)
  clear HX1
  have HX1 := n_
  clear n_
  have n_ := Aside0.mk (Kd.R_below HX2.out HB18.out)
  clear HX2
  have HX2 := n_
  clear n_
  have n_ := Aside0.mk (Kd.R_below HX3.out HB18.out)
  clear HX3
  have HX3 := n_
  clear n_
  have n_ := Aside0.mk (Kd.R_below HX4.out HB18.out)
  clear HX4
  have HX4 := n_
  clear n_
  have n_ := Aside0.mk (Kd.R_below HX5.out HB18.out)
  clear HX5
  have HX5 := n_
  clear n_
  have n_ := Aside0.mk (Kd.R_below HX6.out HB18.out)
  clear HX6
  have HX6 := n_
  clear n_
  have n_ := Aside0.mk (blk_below HBK1.out HB18.out)
  clear HBK1 hcz1
  have HBK1 := n_
  clear n_
  have hcz1 : w18.cell? ⟨g1, 0, none⟩ = some (.slice A0 l0.length c0) := (blk_cell HBK1.out 0).trans rfl
  have n_ := Aside0.mk (blk_below HBK6.out HB18.out)
  clear HBK6 hcz6
  have HBK6 := n_
  clear n_
  have hcz6 : w18.cell? ⟨g6, 0, none⟩ = some (.slice Aq3 l0.length cq3) := (blk_cell HBK6.out 0).trans rfl
  have HX7 := Aside0.mk (Kd.R_lower (Kd.R_mono (ok' := fun k_ => w17.heap.size ≤ k_ ∧ k_ < w18.heap.size) (Kd.R_bound hx7_) (fun k_ h_ => ⟨h_.2.1, h_.2.2.1⟩)) HT17.out.size)
  clear hx7_
  go_wp2_with fail
  obtain ⟨A7_, c7_, e7_, hl7_, hC7_⟩ := Kd.R_reads HX7.out
  obtain ⟨A2_, c2_, e2_, hl2_, hC2_⟩ := Kd.R_reads HX2.out
  have hcall_ := laws_eqIntS.calls k1 _ _ v2 _ _ v2 true _ hC7_ hl7_ hC2_ hl2_ hy5.out
  rw [← e7_] at hcall_
  rw [← e2_] at hcall_
  refine hcall_.mono ?_
  clear hcall_ hC7_ hl7_ e7_ c7_ A7_ hC2_ hl2_ e2_ c2_ A2_
  rintro e w19 ⟨rfl, hb0_⟩
  have hb_ := laws_FnExactStepCounts.belowD hb0_
  clear hb0_
  have HB19 := Aside0.mk hb_
  have HZ19 : Aside0 (w18.heap.size ≤ w19.heap.size) := ⟨hb_.size⟩
  have HT19 := Aside0.mk (HT18.out.trans (Below.mono hb_ HT18.out.size))
  clear hb_
  have n_ := Aside0.mk (Kd.R_below HX1.out HB19.out)
  clear HX1
  have HX1 := n_
  clear n_
  have n_ := Aside0.mk (Kd.R_below HX2.out HB19.out)
  clear HX2
  have HX2 := n_
  clear n_
  have n_ := Aside0.mk (Kd.R_below HX3.out HB19.out)
  clear HX3
  have HX3 := n_
  clear n_
  have n_ := Aside0.mk (Kd.R_below HX4.out HB19.out)
  clear HX4
  have HX4 := n_
  clear n_
  have n_ := Aside0.mk (Kd.R_below HX5.out HB19.out)
  clear HX5
  have HX5 := n_
  clear n_
  have n_ := Aside0.mk (Kd.R_below HX6.out HB19.out)
  clear HX6
  have HX6 := n_
  clear n_
  have n_ := Aside0.mk (Kd.R_below HX7.out HB19.out)
  clear HX7
  have HX7 := n_
  clear n_
  have n_ := Aside0.mk (blk_below HBK1.out HB19.out)
  clear HBK1 hcz1
  have HBK1 := n_
  clear n_
  have hcz1 : w19.cell? ⟨g1, 0, none⟩ = some (.slice A0 l0.length c0) := (blk_cell HBK1.out 0).trans rfl
  have n_ := Aside0.mk (blk_below HBK6.out HB19.out)
  clear HBK6 hcz6
  have HBK6 := n_
  clear n_
  have hcz6 : w19.cell? ⟨g6, 0, none⟩ = some (.slice Aq3 l0.length cq3) := (blk_cell HBK6.out 0).trans rfl
  go_wp2_with fail
  obtain ⟨A4_, c4_, e4_, hl4_, hC4_⟩ := Kd.R_reads HX4.out
  have hcall_ := laws_heldIntS.calls k1 _ _ u7 1 m6 _ hC4_ hl4_ hy10.out
  rw [← e4_] at hcall_
  refine hcall_.mono ?_
  clear hcall_ hC4_ hl4_ e4_ c4_ A4_
  rintro e w20 ⟨rfl, hb0_⟩
  have hb_ := laws_FnExactStepCounts.belowD hb0_
  clear hb0_
  have HB20 := Aside0.mk hb_
  have HZ20 : Aside0 (w19.heap.size ≤ w20.heap.size) := ⟨hb_.size⟩
  have HT20 := Aside0.mk (HT19.out.trans (Below.mono hb_ HT19.out.size))
  clear hb_
  have n_ := Aside0.mk (Kd.R_below HX1.out HB20.out)
  clear HX1
  have HX1 := n_
  clear n_
  have n_ := Aside0.mk (Kd.R_below HX2.out HB20.out)
  clear HX2
  have HX2 := n_
  clear n_
  have n_ := Aside0.mk (Kd.R_below HX3.out HB20.out)
  clear HX3
  have HX3 := n_
  clear n_
  have n_ := Aside0.mk (Kd.R_below HX4.out HB20.out)
  clear HX4
  have HX4 := n_
  clear n_
  have n_ := Aside0.mk (Kd.R_below HX5.out HB20.out)
  clear HX5
  have HX5 := n_
  clear n_
  have n_ := Aside0.mk (Kd.R_below HX6.out HB20.out)
  clear HX6
  have HX6 := n_
  clear n_
  have n_ := Aside0.mk (Kd.R_below HX7.out HB20.out)
  clear HX7
  have HX7 := n_
  clear n_
  have n_ := Aside0.mk (blk_below HBK1.out HB20.out)
  clear HBK1 hcz1
  have HBK1 := n_
  clear n_
  have hcz1 : w20.cell? ⟨g1, 0, none⟩ = some (.slice A0 l0.length c0) := (blk_cell HBK1.out 0).trans rfl
  have n_ := Aside0.mk (blk_below HBK6.out HB20.out)
  clear HBK6 hcz6
  have HBK6 := n_
  clear n_
  have hcz6 : w20.cell? ⟨g6, 0, none⟩ = some (.slice Aq3 l0.length cq3) := (blk_cell HBK6.out 0).trans rfl
  go_wp2
  go_ret
  exact ⟨by first | rfl | (simp; done) | (simp [*]; done), by repeat (first | (with_reducible first | exact HT20.out | apply below_alloc | apply pw_below_drewN | apply below_drew1) | exact HT20.out)⟩
open Classical in
noncomputable def laws_FnExactStepCounts.f (k : Nat) (l0 : List Int) : Option Bool := if ∃ k1 : Nat, (∃ (z1 : Int), (laws_szPoset.f l0 1048576 = some z1) ∧ (decide (z1 < 0) = true)) ∨ (∃ (z1 : Int) (v2 : List Int) (v3 : Bool) (m4 : Int) (u5 : List Int) (m6 : Int) (u7 : List Int), (laws_szPoset.f l0 1048576 = some z1) ∧ (decide (z1 < 0) = false) ∧ (laws_toPoset.f k1 l0 = some l0) ∧ (spec_StepCounts.f k l0 = some (v2, v3)) ∧ (impl_StepCounts.f k l0 = some (v2, v3)) ∧ (laws_eqIntS.f k1 v2 v2 = some true) ∧ (laws_eqPoset.f k1 l0 l0 = some true) ∧ (laws_markPoset.f k1 l0 1 = some (m4, u5)) ∧ (decide (m4 < 0) = false) ∧ (laws_markIntS.f k1 v2 1 = some (m6, u7)) ∧ (laws_heldIntS.f k1 u7 1 = some m6) ∧ (decide (m6 < 0) = false)) then some true else none
theorem laws_FnExactStepCounts.calls (k : Nat) (A0 : Option Addr) (c0 : Nat) (l0 : List Int) (r : Bool) (w : World) (hr0 : Kd.C (Kd.int .i64) w A0 l0.length l0) (hc0 : l0.length ≤ c0) (h : laws_FnExactStepCounts.f k l0 = some r) :
    Calls Try.prog 8 #[.agg #[.slice A0 l0.length c0]] w fun e w' => e = .returned (.bool r) ∧ Below w.heap.size w w' := by
  unfold laws_FnExactStepCounts.f at h
  split at h
  · rename_i hh
    obtain rfl := Option.some.inj h
    obtain ⟨k1, hh⟩ := hh
    rcases hh with ⟨z1, hy0, hx⟩ | ⟨z1, v2, v3, m4, u5, m6, u7, hy0, hy1, hy2, hy3, hy4, hy5, hy6, hy7, hy8, hy9, hy10, hy11⟩
    · exact laws_FnExactStepCounts.calls0 k k1 _ _ l0 z1 w hr0 hc0 hy0 hx
    · exact laws_FnExactStepCounts.calls1 k k1 _ _ l0 z1 v2 v3 m4 u5 m6 u7 w hr0 hc0 hy0 hy1 hy2 hy3 hy4 hy5 hy6 hy7 hy8 hy9 hy10 hy11
  · cases h
end Go.Proofs.Ytemkddgfneohhaa.F
end
