/- Part 4 of the texts below the row of FnExactBoxBySum: printed functions with their contracts, and plain lemmas. No condition. -/
import Derived.Test.YtemkddgfneohhaaZFnExactBoxBySum3
section
namespace Go.Proofs.Ytemkddgfneohhaa.F
open Go.RowKit Go.Proofs.YtemkddgfneohhaaW.PrintWords Go.Proofs.YtemkddgfneohhaaW.PrintLast Go.Proofs.YtemkddgfneohhaaW.PrintMore
attribute [local go_sem] max2_int min2_int max_two min_two max_three min_three max_four min_four
set_option linter.unusedVariables false
set_option linter.unusedSimpArgs false

/-! ### laws_FnExactBoxBySum: function 5 -/
mutual
def laws_FnExactBoxBySum.j0 : Nat → Int → Int → Int → List Int → Bool → List Int → Bool → Option (Bool)
  | 0, _, _, _, _, _, _, _ => none
  | k + 1, x0, x1, x2, x7, x8, x9, x37 => if x37 = true then (some false) else ((laws_markIntS.f k x9 1).bind fun bt250 => ((laws_heldIntS.f k bt250.2 1).bind fun t252 => (if t252 < 0 then (some false) else (if t252 = bt250.1 then ((impl_BoxBySum.f k x0 x1 x2).bind fun bt253 => ((laws_eqIntS.f k bt253.1 x7).bind fun t257 => (if t257 = true then (laws_FnExactBoxBySum.j1 k bt250.2 bt250.1 (bt253.2 != x8)) else (laws_FnExactBoxBySum.j1 k bt250.2 bt250.1 true)))) else (some false)))))
def laws_FnExactBoxBySum.j1 : Nat → List Int → Int → Bool → Option (Bool)
  | 0, _, _, _ => none
  | k + 1, x9, x11, x64 => if x64 = true then (some false) else ((laws_heldIntS.f k x9 1).bind fun t258 => (if t258 < 0 then (some false) else (if t258 = x11 then (some true) else (some false))))
end
def laws_FnExactBoxBySum.f (k : Nat) (a0 : Int) (a1 : Int) (a2 : Int) : Option (Bool) := (spec_BoxBySum.f k a0 a1 a2).bind fun bt241 => ((impl_BoxBySum.f k a0 a1 a2).bind fun bt245 => ((laws_eqIntS.f k bt245.1 bt241.1).bind fun t249 => (if t249 = true then (laws_FnExactBoxBySum.j0 k a0 a1 a2 bt241.1 bt241.2 bt245.1 (bt245.2 != bt241.2)) else (laws_FnExactBoxBySum.j0 k a0 a1 a2 bt241.1 bt241.2 bt245.1 true))))
theorem laws_FnExactBoxBySum.mono_l : ∀ k, (∀ y0 y1 y2 y3 y4 y5 y6, LeO (laws_FnExactBoxBySum.j0 k y0 y1 y2 y3 y4 y5 y6) (laws_FnExactBoxBySum.j0 (k + 1) y0 y1 y2 y3 y4 y5 y6)) ∧ (∀ y0 y1 y2, LeO (laws_FnExactBoxBySum.j1 k y0 y1 y2) (laws_FnExactBoxBySum.j1 (k + 1) y0 y1 y2))
  | 0 => ⟨fun _ _ _ _ _ _ _ r h => by simp [laws_FnExactBoxBySum.j0] at h, fun _ _ _ r h => by simp [laws_FnExactBoxBySum.j1] at h⟩
  | k + 1 => by
    obtain ⟨ih0, ih1⟩ := laws_FnExactBoxBySum.mono_l k
    refine ⟨?_, ?_⟩
    · intro y0 y1 y2 y3 y4 y5 y6
      unfold laws_FnExactBoxBySum.j0
      repeat' first
      | (with_reducible exact ih0 _ _ _ _ _ _ _)
      | (with_reducible exact ih1 _ _ _)
      | (with_reducible exact impl_BoxBySum.mono _ _ _ _)
      | (with_reducible exact laws_eqIntS.mono _ _ _)
      | (with_reducible exact laws_heldIntS.mono _ _ _)
      | (with_reducible exact laws_markIntS.mono _ _ _)
      | (with_reducible exact spec_BoxBySum.mono _ _ _ _)
      | (with_reducible exact LeO.refl _)
      | (with_reducible exact LeO.none _)
      | (with_reducible refine LeO.ite ?_ ?_)
      | (with_reducible refine LeO.bind ?_ (fun _ => ?_))
      | exact ih0 _ _ _ _ _ _ _
      | exact ih1 _ _ _
      | exact impl_BoxBySum.mono _ _ _ _
      | exact laws_eqIntS.mono _ _ _
      | exact laws_heldIntS.mono _ _ _
      | exact laws_markIntS.mono _ _ _
      | exact spec_BoxBySum.mono _ _ _ _
      | exact LeO.none _
      | refine LeO.ite ?_ ?_
      | refine LeO.bind ?_ (fun _ => ?_)
    · intro y0 y1 y2
      unfold laws_FnExactBoxBySum.j1
      repeat' first
      | (with_reducible exact ih0 _ _ _ _ _ _ _)
      | (with_reducible exact ih1 _ _ _)
      | (with_reducible exact impl_BoxBySum.mono _ _ _ _)
      | (with_reducible exact laws_eqIntS.mono _ _ _)
      | (with_reducible exact laws_heldIntS.mono _ _ _)
      | (with_reducible exact laws_markIntS.mono _ _ _)
      | (with_reducible exact spec_BoxBySum.mono _ _ _ _)
      | (with_reducible exact LeO.refl _)
      | (with_reducible exact LeO.none _)
      | (with_reducible refine LeO.ite ?_ ?_)
      | (with_reducible refine LeO.bind ?_ (fun _ => ?_))
      | exact ih0 _ _ _ _ _ _ _
      | exact ih1 _ _ _
      | exact impl_BoxBySum.mono _ _ _ _
      | exact laws_eqIntS.mono _ _ _
      | exact laws_heldIntS.mono _ _ _
      | exact laws_markIntS.mono _ _ _
      | exact spec_BoxBySum.mono _ _ _ _
      | exact LeO.none _
      | refine LeO.ite ?_ ?_
      | refine LeO.bind ?_ (fun _ => ?_)
theorem laws_FnExactBoxBySum.mono : ∀ a0 a1 a2 k, LeO (laws_FnExactBoxBySum.f k a0 a1 a2) (laws_FnExactBoxBySum.f (k + 1) a0 a1 a2) := by
  intro a0 a1 a2 k
  obtain ⟨ih0, ih1⟩ := laws_FnExactBoxBySum.mono_l k
  unfold laws_FnExactBoxBySum.f
  repeat' first
      | (with_reducible exact ih0 _ _ _ _ _ _ _)
      | (with_reducible exact ih1 _ _ _)
      | (with_reducible exact impl_BoxBySum.mono _ _ _ _)
      | (with_reducible exact laws_eqIntS.mono _ _ _)
      | (with_reducible exact laws_heldIntS.mono _ _ _)
      | (with_reducible exact laws_markIntS.mono _ _ _)
      | (with_reducible exact spec_BoxBySum.mono _ _ _ _)
      | (with_reducible exact LeO.refl _)
      | (with_reducible exact LeO.none _)
      | (with_reducible refine LeO.ite ?_ ?_)
      | (with_reducible refine LeO.bind ?_ (fun _ => ?_))
      | exact ih0 _ _ _ _ _ _ _
      | exact ih1 _ _ _
      | exact impl_BoxBySum.mono _ _ _ _
      | exact laws_eqIntS.mono _ _ _
      | exact laws_heldIntS.mono _ _ _
      | exact laws_markIntS.mono _ _ _
      | exact spec_BoxBySum.mono _ _ _ _
      | exact LeO.none _
      | refine LeO.ite ?_ ?_
      | refine LeO.bind ?_ (fun _ => ?_)
set_option maxHeartbeats 8000000 in
set_option maxRecDepth 100000 in
theorem laws_FnExactBoxBySum.calls (k : Nat) (a0 : Int) (a1 : Int) (a2 : Int) (r : Bool) (w : World) (h : laws_FnExactBoxBySum.f k a0 a1 a2 = some r) :
    Calls Try.prog 5 #[.int .i64 a0, .int .i64 a1, .int .i64 a2] w fun e w' => e = .returned (.bool r) ∧ Below w.heap.size w w' := by
  have HB := Aside0.mk (Below.refl w.heap.size w)
  have H : ((spec_BoxBySum.f k a0 a1 a2).bind fun bt241 => ((impl_BoxBySum.f k a0 a1 a2).bind fun bt245 => ((laws_eqIntS.f k bt245.1 bt241.1).bind fun t249 => (if t249 = true then (laws_FnExactBoxBySum.j0 k a0 a1 a2 bt241.1 bt241.2 bt245.1 (bt245.2 != bt241.2)) else (laws_FnExactBoxBySum.j0 k a0 a1 a2 bt241.1 bt241.2 bt245.1 true))))) = some r := h
  clear h
  replace H := Option.bind_eq_some_iff.mp H
  obtain ⟨⟨t241, t242⟩, A40, H⟩ := H
  replace H : ((impl_BoxBySum.f k a0 a1 a2).bind fun bt245 => ((laws_eqIntS.f k bt245.1 t241).bind fun t249 => (if t249 = true then (laws_FnExactBoxBySum.j0 k a0 a1 a2 t241 t242 bt245.1 (bt245.2 != t242)) else (laws_FnExactBoxBySum.j0 k a0 a1 a2 t241 t242 bt245.1 true)))) = some r := H
  have A4 := Aside0.mk A40
  clear A40
  replace H := Option.bind_eq_some_iff.mp H
  obtain ⟨⟨t245, t246⟩, A50, H⟩ := H
  replace H : ((laws_eqIntS.f k t245 t241).bind fun t249 => (if t249 = true then (laws_FnExactBoxBySum.j0 k a0 a1 a2 t241 t242 t245 (t246 != t242)) else (laws_FnExactBoxBySum.j0 k a0 a1 a2 t241 t242 t245 true))) = some r := H
  have A5 := Aside0.mk A50
  clear A50
  have HC6 := Aside0.mk H
  clear H
  go_enter Try.func5, Try.ntmps5
  go_upto_region 3 with (first | ((with_reducible refine gate_callee (f := 19) rfl ?_); refine goesL_ (some 19) rfl rfl Try.func19 (by kernel_rfl) rfl #[.int .i64 a0, .int .i64 a1, .int .i64 a2] rfl (by (try simp only [List.map_toArray, List.map_cons, List.map_nil]); first | done | rfl | (simp only [List.length_drop, List.length_take]; rfl)) ?_; (with_reducible refine (spec_BoxBySum.calls k a0 a1 a2 t241 t242 _ A4.out).mono ?_); rintro e w7 ⟨v243, rfl, ho0, hb⟩; refine ⟨_, rfl, ?_⟩; have n0_ := Aside0.mk (Kd.R_lower ho0 (below_size (by repeat (first | (with_reducible first | exact HB.out | apply below_alloc | apply pw_below_drewN | apply below_drew1) | exact HB.out)))); have n1_ := Aside0.mk (below_step (by repeat (first | (with_reducible first | exact HB.out | apply below_alloc | apply pw_below_drewN | apply below_drew1) | exact HB.out)) hb); clear HB; have HO244 := n0_; have HB := n1_; clear n0_ n1_; (try clear hb); (try clear hb2); (try clear hk); (try clear hi); (try clear ho0)) | ((with_reducible refine gate_callee (f := 20) rfl ?_); refine goesL_ (some 26) rfl rfl Try.func20 (by kernel_rfl) rfl #[.int .i64 a0, .int .i64 a1, .int .i64 a2] rfl (by (try simp only [List.map_toArray, List.map_cons, List.map_nil]); first | done | rfl | (simp only [List.length_drop, List.length_take]; rfl)) ?_; (with_reducible refine (impl_BoxBySum.calls k a0 a1 a2 t245 t246 _ A5.out).mono ?_); rintro e w8 ⟨v247, rfl, ho0, hb⟩; refine ⟨_, rfl, ?_⟩; have n0_ := Aside0.mk (Kd.R_elder' (by (with_reducible repeat (first | apply Kd.R_alloc | apply Kd.R_drewN | apply Kd.R_drew)); exact HO244.out) (Kd.R_base ho0) hb); have n1_ := Aside0.mk (Kd.R_lower (Kd.R_new' ho0 (Kd.R_lt (by (with_reducible repeat (first | apply Kd.R_alloc | apply Kd.R_drewN | apply Kd.R_drew)); exact HO244.out))) (below_size (by repeat (first | (with_reducible first | exact HB.out | apply below_alloc | apply pw_below_drewN | apply below_drew1) | exact HB.out)))); have n2_ := Aside0.mk (below_step (by repeat (first | (with_reducible first | exact HB.out | apply below_alloc | apply pw_below_drewN | apply below_drew1) | exact HB.out)) hb); clear HO244; clear HB; have HO244 := n0_; have HO248 := n1_; have HB := n2_; clear n0_ n1_ n2_; (try clear hb); (try clear hb2); (try clear hk); (try clear hi); (try clear ho0)))
  (try simp only [Act.put, List.setIfInBounds_toArray, List.set_cons_zero, List.set_cons_succ])
  go_cut [37] (fun v37 wc => ∃ (kq : Nat) (x37_5 : Bool), v37 = .bool x37_5 ∧ Aside0 (laws_FnExactBoxBySum.j0 kq a0 a1 a2 t241 t242 t245 x37_5 = some r) ∧ Aside0 (kq ≤ k) ∧ Aside0 (Kd.R (Kd.int .i64) 3 wc w.heap.size (fun k_ => some k_ ≠ (v247 : Value).ownBlock) v243 t241) ∧ Aside0 (Kd.R (Kd.int .i64) 3 wc w.heap.size (fun k_ => some k_ ≠ (v243 : Value).ownBlock) v247 t245) ∧ Aside0 (Below w.heap.size w wc))
  case first =>
    have H := HC6.out
    clear HC6
    replace H := Option.bind_eq_some_iff.mp H
    obtain ⟨t249, A90, H⟩ := H
    replace H : (if t249 = true then (laws_FnExactBoxBySum.j0 k a0 a1 a2 t241 t242 t245 (t246 != t242)) else (laws_FnExactBoxBySum.j0 k a0 a1 a2 t241 t242 t245 true)) = some r := H
    have A9 := Aside0.mk A90
    clear A90
    by_cases c10 : t249 = true
    · subst c10
      have H1 : (laws_FnExactBoxBySum.j0 k a0 a1 a2 t241 t242 t245 (t246 != t242)) = some r := by rw [if_pos rfl] at H; exact H
      clear H
      have H := H1
      clear H1
      have H' := Aside0.mk H
      clear H
      obtain ⟨Ao11, co11, eo11⟩ := Kd.R_slice HO248.out
      subst eo11
      obtain ⟨Ao12, co12, eo12⟩ := Kd.R_slice HO244.out
      subst eo12
      go_wp2_with (first | ((with_reducible refine gate_callee (f := 21) rfl ?_); refine goesL_ (some 31) rfl rfl Try.func21 (by kernel_rfl) rfl #[.slice Ao11 t245.length co11, .slice Ao12 t241.length co12] rfl (by (try simp only [List.map_toArray, List.map_cons, List.map_nil]); first | done | rfl | (simp only [List.length_drop, List.length_take]; rfl)) ?_; (with_reducible refine (laws_eqIntS.calls k _ _ t245 _ _ t241 true _ ?side1 ?side2 ?side3 ?side4 A9.out).mono ?_); (case side1 => repeat (first | exact (Kd.R_reads' HO248.out).2.2 | (with_reducible refine Kd.C_alloc ?_ _) | (with_reducible refine Kd.C_drewN ?_ _) | (with_reducible refine Kd.C_drew ?_))); (case side2 => exact (Kd.R_reads' HO248.out).2.1); (case side3 => repeat (first | exact (Kd.R_reads' HO244.out).2.2 | (with_reducible refine Kd.C_alloc ?_ _) | (with_reducible refine Kd.C_drewN ?_ _) | (with_reducible refine Kd.C_drew ?_))); (case side4 => exact (Kd.R_reads' HO244.out).2.1); rintro e w' ⟨rfl, ⟨nd, rfl⟩⟩; refine ⟨_, rfl, ?_⟩))
      go_meet
      case rel => exact ⟨_, ((t246 != t242)), (by first | rfl | (simp; done) | (simp [*]; done)), H', ⟨by first | omega | exact Nat.le_refl _⟩, ⟨by (with_reducible repeat (first | apply Kd.R_alloc | apply Kd.R_drewN | apply Kd.R_drew)); exact Kd.R_mono HO244.out (fun _ hk => hk.2)⟩, ⟨by (with_reducible repeat (first | apply Kd.R_alloc | apply Kd.R_drewN | apply Kd.R_drew)); exact Kd.R_mono HO248.out (fun _ hk => hk.2)⟩, ⟨by repeat (first | (with_reducible first | exact HB.out | apply below_alloc | apply pw_below_drewN | apply below_drew1) | exact HB.out)⟩⟩
    · replace c10 := Bool.eq_false_iff.mpr c10
      subst c10
      have H1 : (laws_FnExactBoxBySum.j0 k a0 a1 a2 t241 t242 t245 true) = some r := by rw [if_neg (show ¬ (false = true) by decide)] at H; exact H
      clear H
      have H := H1
      clear H1
      have H' := Aside0.mk H
      clear H
      obtain ⟨Ao13, co13, eo13⟩ := Kd.R_slice HO248.out
      subst eo13
      obtain ⟨Ao14, co14, eo14⟩ := Kd.R_slice HO244.out
      subst eo14
      go_wp2_with (first | ((with_reducible refine gate_callee (f := 21) rfl ?_); refine goesL_ (some 31) rfl rfl Try.func21 (by kernel_rfl) rfl #[.slice Ao13 t245.length co13, .slice Ao14 t241.length co14] rfl (by (try simp only [List.map_toArray, List.map_cons, List.map_nil]); first | done | rfl | (simp only [List.length_drop, List.length_take]; rfl)) ?_; (with_reducible refine (laws_eqIntS.calls k _ _ t245 _ _ t241 false _ ?side1 ?side2 ?side3 ?side4 A9.out).mono ?_); (case side1 => repeat (first | exact (Kd.R_reads' HO248.out).2.2 | (with_reducible refine Kd.C_alloc ?_ _) | (with_reducible refine Kd.C_drewN ?_ _) | (with_reducible refine Kd.C_drew ?_))); (case side2 => exact (Kd.R_reads' HO248.out).2.1); (case side3 => repeat (first | exact (Kd.R_reads' HO244.out).2.2 | (with_reducible refine Kd.C_alloc ?_ _) | (with_reducible refine Kd.C_drewN ?_ _) | (with_reducible refine Kd.C_drew ?_))); (case side4 => exact (Kd.R_reads' HO244.out).2.1); rintro e w' ⟨rfl, ⟨nd, rfl⟩⟩; refine ⟨_, rfl, ?_⟩))
      go_meet
      case rel => exact ⟨_, (true), (by first | rfl | (simp; done) | (simp [*]; done)), H', ⟨by first | omega | exact Nat.le_refl _⟩, ⟨by (with_reducible repeat (first | apply Kd.R_alloc | apply Kd.R_drewN | apply Kd.R_drew)); exact Kd.R_mono HO244.out (fun _ hk => hk.2)⟩, ⟨by (with_reducible repeat (first | apply Kd.R_alloc | apply Kd.R_drewN | apply Kd.R_drew)); exact Kd.R_mono HO248.out (fun _ hk => hk.2)⟩, ⟨by repeat (first | (with_reducible first | exact HB.out | apply below_alloc | apply pw_below_drewN | apply below_drew1) | exact HB.out)⟩⟩
  case rest =>
    clear HC6
    try clear c1
    try clear c2
    try clear p2
    try clear c5
    try clear c10
    obtain ⟨kq, x37_5, rfl, HA, HJ5, HO_7, HO_9, HB⟩ := hcut
    cases kq with
    | zero => exact absurd HA.out (by simp [laws_FnExactBoxBySum.j0])
    | succ kj5 =>
      have H := HA.out
      clear HA
      simp only [laws_FnExactBoxBySum.j0] at H
      by_cases c15 : x37_5 = true
      · subst c15
        have H1 : (some false) = some r := by rw [if_pos rfl] at H; exact H
        clear H
        have H := H1
        clear H1
        obtain rfl := Option.some.inj H
        go_wp2
        go_ret
        exact ⟨by first | rfl | (simp [errW_none, errW_some] <;> rfl) | (simp [*, errW_none, errW_some] <;> rfl), by repeat (first | (with_reducible first | exact HB.out | apply below_alloc | apply pw_below_drewN | apply below_drew1) | exact HB.out)⟩
      · replace c15 := Bool.eq_false_iff.mpr c15
        subst c15
        have H1 : ((laws_markIntS.f kj5 t245 1).bind fun bt250 => ((laws_heldIntS.f kj5 bt250.2 1).bind fun t252 => (if t252 < 0 then (some false) else (if t252 = bt250.1 then ((impl_BoxBySum.f kj5 a0 a1 a2).bind fun bt253 => ((laws_eqIntS.f kj5 bt253.1 t241).bind fun t257 => (if t257 = true then (laws_FnExactBoxBySum.j1 kj5 bt250.2 bt250.1 (bt253.2 != t242)) else (laws_FnExactBoxBySum.j1 kj5 bt250.2 bt250.1 true)))) else (some false))))) = some r := by rw [if_neg (show ¬ (false = true) by decide)] at H; exact H
        clear H
        have H := H1
        clear H1
        replace H := Option.bind_eq_some_iff.mp H
        obtain ⟨⟨t250, t251⟩, A160, H⟩ := H
        replace H : ((laws_heldIntS.f kj5 t251 1).bind fun t252 => (if t252 < 0 then (some false) else (if t252 = t250 then ((impl_BoxBySum.f kj5 a0 a1 a2).bind fun bt253 => ((laws_eqIntS.f kj5 bt253.1 t241).bind fun t257 => (if t257 = true then (laws_FnExactBoxBySum.j1 kj5 t251 t250 (bt253.2 != t242)) else (laws_FnExactBoxBySum.j1 kj5 t251 t250 true)))) else (some false)))) = some r := H
        have A16 := Aside0.mk A160
        clear A160
        replace H := Option.bind_eq_some_iff.mp H
        obtain ⟨t252, A170, H⟩ := H
        replace H : (if t252 < 0 then (some false) else (if t252 = t250 then ((impl_BoxBySum.f kj5 a0 a1 a2).bind fun bt253 => ((laws_eqIntS.f kj5 bt253.1 t241).bind fun t257 => (if t257 = true then (laws_FnExactBoxBySum.j1 kj5 t251 t250 (bt253.2 != t242)) else (laws_FnExactBoxBySum.j1 kj5 t251 t250 true)))) else (some false))) = some r := H
        have A17 := Aside0.mk A170
        clear A170
        by_cases c18 : t252 < 0
        · rw [if_pos c18] at H
          have c18b0 : decide (t252 < 0) = true := decide_eq_true c18
          clear c18
          obtain rfl := Option.some.inj H
          obtain ⟨Ao19, co19, eo19⟩ := Kd.R_slice HO_9.out
          subst eo19
          go_wp2_with (first | ((with_reducible refine gate_callee (f := 22) rfl ?_); refine goesL_ (some 40) rfl rfl Try.func22 (by kernel_rfl) rfl #[.slice Ao19 t245.length co19, .int .i64 1] rfl (by (try simp only [List.map_toArray, List.map_cons, List.map_nil]); first | done | rfl | (simp only [List.length_drop, List.length_take]; rfl)) ?_; (with_reducible refine (laws_markIntS.calls kj5 (fun k_ => some k_ = (.slice Ao19 t245.length co19 : Value).ownBlock) (.slice Ao19 t245.length co19) t245 1 t250 t251 w _ ?side1 ?side2 A16.out).mono ?_); (case side1 => repeat (first | (with_reducible first | exact HB.out | apply below_alloc | apply pw_below_drewN | apply below_drew1) | exact HB.out)); (case side2 => exact Kd.R_tight rfl HO_9.out); rintro e w20 ⟨rfl, hy0, hb, hkp⟩; refine ⟨_, rfl, ?_⟩; have n0_ := Aside0.mk (Kd.R_mono (ok' := fun k_ => some k_ ≠ (.slice Ao19 t245.length co19 : Value).ownBlock) (Kd.R_keptB (HO_7.out) hkp (fun k_ hk_ hs_ => (hk_) hs_)) (fun k_ hk_ => hk_.1)); have n1_ := Aside0.mk (Kd.R_reok rfl hy0 (fun k_ e_ => HO_9.out.1 k_ e_)); have n2_ := Aside0.mk (hb); clear HO_7; clear HO_9; clear HB; have HO_7 := n0_; have HO_9 := n1_; have HB := n2_; clear n0_ n1_ n2_; (try clear hb); (try clear hkp); (try clear hy0)) | ((with_reducible refine gate_callee (f := 23) rfl ?_); refine goesL_ (some 43) rfl rfl Try.func23 (by kernel_rfl) rfl #[.slice Ao19 t251.length co19, .int .i64 1] rfl (by (try simp only [List.map_toArray, List.map_cons, List.map_nil]); first | done | (rw [show t251.length = t245.length from (Kd.R_reads' HO_9.out).1.symm] <;> rfl) | rfl | (simp only [List.length_drop, List.length_take]; rfl)) ?_; (with_reducible refine (laws_heldIntS.calls kj5 _ _ t251 1 t252 _ ?side1 ?side2 A17.out).mono ?_); (case side1 => repeat (first | exact (Kd.R_reads' HO_9.out).2.2 | (with_reducible refine Kd.C_alloc ?_ _) | (with_reducible refine Kd.C_drewN ?_ _) | (with_reducible refine Kd.C_drew ?_))); (case side2 => rw [show t251.length = t245.length from (Kd.R_reads' HO_9.out).1.symm]; exact (Kd.R_reads' HO_9.out).2.1); rintro e w' ⟨rfl, ⟨nd, rfl⟩⟩; refine ⟨_, rfl, ?_⟩))
          go_ret
          exact ⟨by first | rfl | (simp [errW_none, errW_some] <;> rfl) | (simp [*, errW_none, errW_some] <;> rfl), by repeat (first | (with_reducible first | exact HB.out | apply below_alloc | apply pw_below_drewN | apply below_drew1) | exact HB.out)⟩
        · rw [if_neg c18] at H
          have c18b0 : decide (t252 < 0) = false := decide_eq_false c18
          clear c18
          by_cases c21 : t252 = t250
          · rw [if_pos c21] at H
            have c21b0 : (t252 == t250) = true := beq_iff_eq.mpr c21
            have c21b1 : (t252 != t250) = false := bne_eq_false_iff_eq.mpr c21
            clear c21
            replace H := Option.bind_eq_some_iff.mp H
            obtain ⟨⟨t253, t254⟩, A220, H⟩ := H
            replace H : ((laws_eqIntS.f kj5 t253 t241).bind fun t257 => (if t257 = true then (laws_FnExactBoxBySum.j1 kj5 t251 t250 (t254 != t242)) else (laws_FnExactBoxBySum.j1 kj5 t251 t250 true))) = some r := H
            have A22 := Aside0.mk A220
            clear A220
            have HC23 := Aside0.mk H
            clear H
            obtain ⟨Ao24, co24, eo24⟩ := Kd.R_slice HO_9.out
            subst eo24
            go_upto_region 14 with (first | ((with_reducible refine gate_callee (f := 22) rfl ?_); refine goesL_ (some 40) rfl rfl Try.func22 (by kernel_rfl) rfl #[.slice Ao24 t245.length co24, .int .i64 1] rfl (by (try simp only [List.map_toArray, List.map_cons, List.map_nil]); first | done | rfl | (simp only [List.length_drop, List.length_take]; rfl)) ?_; (with_reducible refine (laws_markIntS.calls kj5 (fun k_ => some k_ = (.slice Ao24 t245.length co24 : Value).ownBlock) (.slice Ao24 t245.length co24) t245 1 t250 t251 w _ ?side1 ?side2 A16.out).mono ?_); (case side1 => repeat (first | (with_reducible first | exact HB.out | apply below_alloc | apply pw_below_drewN | apply below_drew1) | exact HB.out)); (case side2 => exact Kd.R_tight rfl HO_9.out); rintro e w25 ⟨rfl, hy0, hb, hkp⟩; refine ⟨_, rfl, ?_⟩; have n0_ := Aside0.mk (Kd.R_mono (ok' := fun k_ => some k_ ≠ (.slice Ao24 t245.length co24 : Value).ownBlock) (Kd.R_keptB (HO_7.out) hkp (fun k_ hk_ hs_ => (hk_) hs_)) (fun k_ hk_ => hk_.1)); have n1_ := Aside0.mk (Kd.R_reok rfl hy0 (fun k_ e_ => HO_9.out.1 k_ e_)); have n2_ := Aside0.mk (hb); clear HO_7; clear HO_9; clear HB; have HO_7 := n0_; have HO_9 := n1_; have HB := n2_; clear n0_ n1_ n2_; (try clear hb); (try clear hkp); (try clear hy0)) | ((with_reducible refine gate_callee (f := 23) rfl ?_); refine goesL_ (some 43) rfl rfl Try.func23 (by kernel_rfl) rfl #[.slice Ao24 t251.length co24, .int .i64 1] rfl (by (try simp only [List.map_toArray, List.map_cons, List.map_nil]); first | done | (rw [show t251.length = t245.length from (Kd.R_reads' HO_9.out).1.symm] <;> rfl) | rfl | (simp only [List.length_drop, List.length_take]; rfl)) ?_; (with_reducible refine (laws_heldIntS.calls kj5 _ _ t251 1 t252 _ ?side1 ?side2 A17.out).mono ?_); (case side1 => repeat (first | exact (Kd.R_reads' HO_9.out).2.2 | (with_reducible refine Kd.C_alloc ?_ _) | (with_reducible refine Kd.C_drewN ?_ _) | (with_reducible refine Kd.C_drew ?_))); (case side2 => rw [show t251.length = t245.length from (Kd.R_reads' HO_9.out).1.symm]; exact (Kd.R_reads' HO_9.out).2.1); rintro e w' ⟨rfl, ⟨nd, rfl⟩⟩; refine ⟨_, rfl, ?_⟩) | ((with_reducible refine gate_callee (f := 20) rfl ?_); refine goesL_ (some 53) rfl rfl Try.func20 (by kernel_rfl) rfl #[.int .i64 a0, .int .i64 a1, .int .i64 a2] rfl (by (try simp only [List.map_toArray, List.map_cons, List.map_nil]); first | done | rfl | (simp only [List.length_drop, List.length_take]; rfl)) ?_; (with_reducible refine (impl_BoxBySum.calls kj5 a0 a1 a2 t253 t254 _ A22.out).mono ?_); rintro e w26 ⟨v255, rfl, ho0, hb⟩; refine ⟨_, rfl, ?_⟩; have n0_ := Aside0.mk (Kd.R_elder' (by (with_reducible repeat (first | apply Kd.R_alloc | apply Kd.R_drewN | apply Kd.R_drew)); exact HO_7.out) (Kd.R_base ho0) hb); have n1_ := Aside0.mk (Kd.R_elder' (by (with_reducible repeat (first | apply Kd.R_alloc | apply Kd.R_drewN | apply Kd.R_drew)); exact HO_9.out) (Kd.R_base ho0) hb); have n2_ := Aside0.mk (Kd.R_lower (Kd.R_new' (Kd.R_new' ho0 (Kd.R_lt (by (with_reducible repeat (first | apply Kd.R_alloc | apply Kd.R_drewN | apply Kd.R_drew)); exact HO_7.out))) (Kd.R_lt (by (with_reducible repeat (first | apply Kd.R_alloc | apply Kd.R_drewN | apply Kd.R_drew)); exact HO_9.out))) (below_size (by repeat (first | (with_reducible first | exact HB.out | apply below_alloc | apply pw_below_drewN | apply below_drew1) | exact HB.out)))); have n3_ := Aside0.mk (below_step (by repeat (first | (with_reducible first | exact HB.out | apply below_alloc | apply pw_below_drewN | apply below_drew1) | exact HB.out)) hb); clear HO_7; clear HO_9; clear HB; have HO_7 := n0_; have HO_9 := n1_; have HO256 := n2_; have HB := n3_; clear n0_ n1_ n2_ n3_; (try clear hb); (try clear hb2); (try clear hk); (try clear hi); (try clear ho0)))
            (try simp only [Act.put, List.setIfInBounds_toArray, List.set_cons_zero, List.set_cons_succ])
            go_cut [64] (fun v64 wc => ∃ (kq : Nat) (x64_22 : Bool), v64 = .bool x64_22 ∧ Aside0 (laws_FnExactBoxBySum.j1 kq t251 t250 x64_22 = some r) ∧ Aside0 (kq ≤ kj5) ∧ Aside0 (Kd.R (Kd.int .i64) 3 wc w.heap.size (fun _ => True) (.slice Ao24 t245.length co24) t251) ∧ Aside0 (Below w.heap.size w wc))
            case first =>
              have H := HC23.out
              clear HC23
              replace H := Option.bind_eq_some_iff.mp H
              obtain ⟨t257, A270, H⟩ := H
              replace H : (if t257 = true then (laws_FnExactBoxBySum.j1 kj5 t251 t250 (t254 != t242)) else (laws_FnExactBoxBySum.j1 kj5 t251 t250 true)) = some r := H
              have A27 := Aside0.mk A270
              clear A270
              by_cases c28 : t257 = true
              · subst c28
                have H1 : (laws_FnExactBoxBySum.j1 kj5 t251 t250 (t254 != t242)) = some r := by rw [if_pos rfl] at H; exact H
                clear H
                have H := H1
                clear H1
                have H' := Aside0.mk H
                clear H
                obtain ⟨Ao29, co29, eo29⟩ := Kd.R_slice HO256.out
                subst eo29
                obtain ⟨Ao30, co30, eo30⟩ := Kd.R_slice HO_7.out
                subst eo30
                go_wp2_with (first | ((with_reducible refine gate_callee (f := 21) rfl ?_); refine goesL_ (some 58) rfl rfl Try.func21 (by kernel_rfl) rfl #[.slice Ao29 t253.length co29, .slice Ao30 t241.length co30] rfl (by (try simp only [List.map_toArray, List.map_cons, List.map_nil]); first | done | rfl | (simp only [List.length_drop, List.length_take]; rfl)) ?_; (with_reducible refine (laws_eqIntS.calls kj5 _ _ t253 _ _ t241 true _ ?side1 ?side2 ?side3 ?side4 A27.out).mono ?_); (case side1 => repeat (first | exact (Kd.R_reads' HO256.out).2.2 | (with_reducible refine Kd.C_alloc ?_ _) | (with_reducible refine Kd.C_drewN ?_ _) | (with_reducible refine Kd.C_drew ?_))); (case side2 => exact (Kd.R_reads' HO256.out).2.1); (case side3 => repeat (first | exact (Kd.R_reads' HO_7.out).2.2 | (with_reducible refine Kd.C_alloc ?_ _) | (with_reducible refine Kd.C_drewN ?_ _) | (with_reducible refine Kd.C_drew ?_))); (case side4 => exact (Kd.R_reads' HO_7.out).2.1); rintro e w' ⟨rfl, ⟨nd, rfl⟩⟩; refine ⟨_, rfl, ?_⟩))
                go_meet
                case rel => exact ⟨_, ((t254 != t242)), (by first | rfl | (simp; done) | (simp [*]; done)), H', ⟨by have := HJ5.out; first | omega | exact Nat.le_refl _⟩, ⟨by (with_reducible repeat (first | apply Kd.R_alloc | apply Kd.R_drewN | apply Kd.R_drew)); exact Kd.R_mono HO_9.out (fun _ hk => trivial)⟩, ⟨by repeat (first | (with_reducible first | exact HB.out | apply below_alloc | apply pw_below_drewN | apply below_drew1) | exact HB.out)⟩⟩
              · replace c28 := Bool.eq_false_iff.mpr c28
                subst c28
                have H1 : (laws_FnExactBoxBySum.j1 kj5 t251 t250 true) = some r := by rw [if_neg (show ¬ (false = true) by decide)] at H; exact H
                clear H
                have H := H1
                clear H1
                have H' := Aside0.mk H
                clear H
                obtain ⟨Ao31, co31, eo31⟩ := Kd.R_slice HO256.out
                subst eo31
                obtain ⟨Ao32, co32, eo32⟩ := Kd.R_slice HO_7.out
                subst eo32
                go_wp2_with (first | ((with_reducible refine gate_callee (f := 21) rfl ?_); refine goesL_ (some 58) rfl rfl Try.func21 (by kernel_rfl) rfl #[.slice Ao31 t253.length co31, .slice Ao32 t241.length co32] rfl (by (try simp only [List.map_toArray, List.map_cons, List.map_nil]); first | done | rfl | (simp only [List.length_drop, List.length_take]; rfl)) ?_; (with_reducible refine (laws_eqIntS.calls kj5 _ _ t253 _ _ t241 false _ ?side1 ?side2 ?side3 ?side4 A27.out).mono ?_); (case side1 => repeat (first | exact (Kd.R_reads' HO256.out).2.2 | (with_reducible refine Kd.C_alloc ?_ _) | (with_reducible refine Kd.C_drewN ?_ _) | (with_reducible refine Kd.C_drew ?_))); (case side2 => exact (Kd.R_reads' HO256.out).2.1); (case side3 => repeat (first | exact (Kd.R_reads' HO_7.out).2.2 | (with_reducible refine Kd.C_alloc ?_ _) | (with_reducible refine Kd.C_drewN ?_ _) | (with_reducible refine Kd.C_drew ?_))); (case side4 => exact (Kd.R_reads' HO_7.out).2.1); rintro e w' ⟨rfl, ⟨nd, rfl⟩⟩; refine ⟨_, rfl, ?_⟩))
                go_meet
                case rel => exact ⟨_, (true), (by first | rfl | (simp; done) | (simp [*]; done)), H', ⟨by have := HJ5.out; first | omega | exact Nat.le_refl _⟩, ⟨by (with_reducible repeat (first | apply Kd.R_alloc | apply Kd.R_drewN | apply Kd.R_drew)); exact Kd.R_mono HO_9.out (fun _ hk => trivial)⟩, ⟨by repeat (first | (with_reducible first | exact HB.out | apply below_alloc | apply pw_below_drewN | apply below_drew1) | exact HB.out)⟩⟩
            case rest =>
              clear HC23
              try clear c1
              try clear c2
              try clear p2
              try clear c5
              try clear c10
              try clear c15
              try clear c18
              try clear c18b0
              try clear c19
              try clear c20
              try clear c21
              try clear c21b0
              try clear c21b1
              try clear c22
              try clear c23
              try clear c28
              try clear p2
              obtain ⟨kq, x64_22, rfl, HA, HJ22, HO_9, HB⟩ := hcut
              have hl9_22 := (Kd.R_reads' HO_9.out).1
              rw [hl9_22] at HO_9
              (try simp only [hl9_22])
              cases kq with
              | zero => exact absurd HA.out (by simp [laws_FnExactBoxBySum.j1])
              | succ kj22 =>
                have H := HA.out
                clear HA
                simp only [laws_FnExactBoxBySum.j1] at H
                by_cases c33 : x64_22 = true
                · subst c33
                  have H1 : (some false) = some r := by rw [if_pos rfl] at H; exact H
                  clear H
                  have H := H1
                  clear H1
                  obtain rfl := Option.some.inj H
                  go_wp2
                  go_ret
                  exact ⟨by first | rfl | (simp [errW_none, errW_some] <;> rfl) | (simp [*, errW_none, errW_some] <;> rfl), by repeat (first | (with_reducible first | exact HB.out | apply below_alloc | apply pw_below_drewN | apply below_drew1) | exact HB.out)⟩
                · replace c33 := Bool.eq_false_iff.mpr c33
                  subst c33
                  have H1 : ((laws_heldIntS.f kj22 t251 1).bind fun t258 => (if t258 < 0 then (some false) else (if t258 = t250 then (some true) else (some false)))) = some r := by rw [if_neg (show ¬ (false = true) by decide)] at H; exact H
                  clear H
                  have H := H1
                  clear H1
                  replace H := Option.bind_eq_some_iff.mp H
                  obtain ⟨t258, A340, H⟩ := H
                  replace H : (if t258 < 0 then (some false) else (if t258 = t250 then (some true) else (some false))) = some r := H
                  have A34 := Aside0.mk A340
                  clear A340
                  by_cases c35 : t258 < 0
                  · rw [if_pos c35] at H
                    have c35b0 : decide (t258 < 0) = true := decide_eq_true c35
                    clear c35
                    obtain rfl := Option.some.inj H
                    go_wp2_with (first | ((with_reducible refine gate_callee (f := 23) rfl ?_); refine goesL_ (some 67) rfl rfl Try.func23 (by kernel_rfl) rfl #[.slice Ao24 t251.length co24, .int .i64 1] rfl (by (try simp only [List.map_toArray, List.map_cons, List.map_nil]); first | done | rfl | (simp only [List.length_drop, List.length_take]; rfl)) ?_; (with_reducible refine (laws_heldIntS.calls kj22 _ _ t251 1 t258 _ ?side1 ?side2 A34.out).mono ?_); (case side1 => repeat (first | exact (Kd.R_reads' HO_9.out).2.2 | (with_reducible refine Kd.C_alloc ?_ _) | (with_reducible refine Kd.C_drewN ?_ _) | (with_reducible refine Kd.C_drew ?_))); (case side2 => exact (Kd.R_reads' HO_9.out).2.1); rintro e w' ⟨rfl, ⟨nd, rfl⟩⟩; refine ⟨_, rfl, ?_⟩))
                    go_ret
                    exact ⟨by first | rfl | (simp [errW_none, errW_some] <;> rfl) | (simp [*, errW_none, errW_some] <;> rfl), by repeat (first | (with_reducible first | exact HB.out | apply below_alloc | apply pw_below_drewN | apply below_drew1) | exact HB.out)⟩
                  · rw [if_neg c35] at H
                    have c35b0 : decide (t258 < 0) = false := decide_eq_false c35
                    clear c35
                    by_cases c36 : t258 = t250
                    · rw [if_pos c36] at H
                      have c36b0 : (t258 == t250) = true := beq_iff_eq.mpr c36
                      have c36b1 : (t258 != t250) = false := bne_eq_false_iff_eq.mpr c36
                      clear c36
                      obtain rfl := Option.some.inj H
                      go_wp2_with (first | ((with_reducible refine gate_callee (f := 23) rfl ?_); refine goesL_ (some 67) rfl rfl Try.func23 (by kernel_rfl) rfl #[.slice Ao24 t251.length co24, .int .i64 1] rfl (by (try simp only [List.map_toArray, List.map_cons, List.map_nil]); first | done | rfl | (simp only [List.length_drop, List.length_take]; rfl)) ?_; (with_reducible refine (laws_heldIntS.calls kj22 _ _ t251 1 t258 _ ?side1 ?side2 A34.out).mono ?_); (case side1 => repeat (first | exact (Kd.R_reads' HO_9.out).2.2 | (with_reducible refine Kd.C_alloc ?_ _) | (with_reducible refine Kd.C_drewN ?_ _) | (with_reducible refine Kd.C_drew ?_))); (case side2 => exact (Kd.R_reads' HO_9.out).2.1); rintro e w' ⟨rfl, ⟨nd, rfl⟩⟩; refine ⟨_, rfl, ?_⟩))
                      go_ret
                      exact ⟨by first | rfl | (simp [errW_none, errW_some] <;> rfl) | (simp [*, errW_none, errW_some] <;> rfl), by repeat (first | (with_reducible first | exact HB.out | apply below_alloc | apply pw_below_drewN | apply below_drew1) | exact HB.out)⟩
                    · rw [if_neg c36] at H
                      have c36b0 : (t258 == t250) = false := beq_eq_false_iff_ne.mpr c36
                      have c36b1 : (t258 != t250) = true := bne_iff_ne.mpr c36
                      obtain rfl := Option.some.inj H
                      go_wp2_with (first | ((with_reducible refine gate_callee (f := 23) rfl ?_); refine goesL_ (some 67) rfl rfl Try.func23 (by kernel_rfl) rfl #[.slice Ao24 t251.length co24, .int .i64 1] rfl (by (try simp only [List.map_toArray, List.map_cons, List.map_nil]); first | done | rfl | (simp only [List.length_drop, List.length_take]; rfl)) ?_; (with_reducible refine (laws_heldIntS.calls kj22 _ _ t251 1 t258 _ ?side1 ?side2 A34.out).mono ?_); (case side1 => repeat (first | exact (Kd.R_reads' HO_9.out).2.2 | (with_reducible refine Kd.C_alloc ?_ _) | (with_reducible refine Kd.C_drewN ?_ _) | (with_reducible refine Kd.C_drew ?_))); (case side2 => exact (Kd.R_reads' HO_9.out).2.1); rintro e w' ⟨rfl, ⟨nd, rfl⟩⟩; refine ⟨_, rfl, ?_⟩))
                      go_ret
                      exact ⟨by first | rfl | (simp [errW_none, errW_some] <;> rfl) | (simp [*, errW_none, errW_some] <;> rfl), by repeat (first | (with_reducible first | exact HB.out | apply below_alloc | apply pw_below_drewN | apply below_drew1) | exact HB.out)⟩
          · rw [if_neg c21] at H
            have c21b0 : (t252 == t250) = false := beq_eq_false_iff_ne.mpr c21
            have c21b1 : (t252 != t250) = true := bne_iff_ne.mpr c21
            obtain rfl := Option.some.inj H
            obtain ⟨Ao37, co37, eo37⟩ := Kd.R_slice HO_9.out
            subst eo37
            go_wp2_with (first | ((with_reducible refine gate_callee (f := 22) rfl ?_); refine goesL_ (some 40) rfl rfl Try.func22 (by kernel_rfl) rfl #[.slice Ao37 t245.length co37, .int .i64 1] rfl (by (try simp only [List.map_toArray, List.map_cons, List.map_nil]); first | done | rfl | (simp only [List.length_drop, List.length_take]; rfl)) ?_; (with_reducible refine (laws_markIntS.calls kj5 (fun k_ => some k_ = (.slice Ao37 t245.length co37 : Value).ownBlock) (.slice Ao37 t245.length co37) t245 1 t250 t251 w _ ?side1 ?side2 A16.out).mono ?_); (case side1 => repeat (first | (with_reducible first | exact HB.out | apply below_alloc | apply pw_below_drewN | apply below_drew1) | exact HB.out)); (case side2 => exact Kd.R_tight rfl HO_9.out); rintro e w38 ⟨rfl, hy0, hb, hkp⟩; refine ⟨_, rfl, ?_⟩; have n0_ := Aside0.mk (Kd.R_mono (ok' := fun k_ => some k_ ≠ (.slice Ao37 t245.length co37 : Value).ownBlock) (Kd.R_keptB (HO_7.out) hkp (fun k_ hk_ hs_ => (hk_) hs_)) (fun k_ hk_ => hk_.1)); have n1_ := Aside0.mk (Kd.R_reok rfl hy0 (fun k_ e_ => HO_9.out.1 k_ e_)); have n2_ := Aside0.mk (hb); clear HO_7; clear HO_9; clear HB; have HO_7 := n0_; have HO_9 := n1_; have HB := n2_; clear n0_ n1_ n2_; (try clear hb); (try clear hkp); (try clear hy0)) | ((with_reducible refine gate_callee (f := 23) rfl ?_); refine goesL_ (some 43) rfl rfl Try.func23 (by kernel_rfl) rfl #[.slice Ao37 t251.length co37, .int .i64 1] rfl (by (try simp only [List.map_toArray, List.map_cons, List.map_nil]); first | done | (rw [show t251.length = t245.length from (Kd.R_reads' HO_9.out).1.symm] <;> rfl) | rfl | (simp only [List.length_drop, List.length_take]; rfl)) ?_; (with_reducible refine (laws_heldIntS.calls kj5 _ _ t251 1 t252 _ ?side1 ?side2 A17.out).mono ?_); (case side1 => repeat (first | exact (Kd.R_reads' HO_9.out).2.2 | (with_reducible refine Kd.C_alloc ?_ _) | (with_reducible refine Kd.C_drewN ?_ _) | (with_reducible refine Kd.C_drew ?_))); (case side2 => rw [show t251.length = t245.length from (Kd.R_reads' HO_9.out).1.symm]; exact (Kd.R_reads' HO_9.out).2.1); rintro e w' ⟨rfl, ⟨nd, rfl⟩⟩; refine ⟨_, rfl, ?_⟩))
            go_ret
            exact ⟨by first | rfl | (simp [errW_none, errW_some] <;> rfl) | (simp [*, errW_none, errW_some] <;> rfl), by repeat (first | (with_reducible first | exact HB.out | apply below_alloc | apply pw_below_drewN | apply below_drew1) | exact HB.out)⟩


end Go.Proofs.Ytemkddgfneohhaa.F
end

section
namespace Go.Proofs.Ytemkddgfneohhaa.Q
open Go.RowKit Go.Proofs.YtemkddgfneohhaaW.PrintWords Go.Proofs.Ytemkddgfneohhaa.F
set_option linter.unusedVariables false
theorem size_all : (List.range 1024).all (fun t => decide (impl_size.f (t : Int) = some ((pcard 10 t : Nat) : Int))) = true := by decide +kernel
theorem pcard_ten {n t : Nat} (hn : n ≤ 10) (ht : t < 2 ^ n) : pcard 10 t = pcard n t := by
  obtain ⟨d, hd⟩ : ∃ d, 10 = n + d := ⟨10 - n, by omega⟩
  rw [hd]
  clear hd
  induction d with
  | zero => rfl
  | succ d ih =>
    rw [show n + (d + 1) = (n + d) + 1 by omega, pcard_succ, ih, bit_lt ht (by omega)]; simp
theorem size_ev {p : List Int} (hp : p.length ≤ 10) {t : Nat} (ht : t < 2 ^ p.length) : impl_size.f (t : Int) = some ((pcard p.length t : Nat) : Int) := by
  have h2 := two_pow_small hp
  rw [← pcard_ten hp ht]
  exact of_decide_eq_true (List.all_eq_true.1 size_all t (List.mem_range.2 (by omega)))
theorem chOut_eq {p : List Int} (hp : p.length ≤ 10) {t : Nat} (ht : t < 2 ^ p.length) : chOut p (t : Int) = ((outN p t : Nat) : Int) := by
  unfold chOut outN
  rw [size_ev hp ht, Option.getD_some]
  have := pcard_le p.length t
  rw [wid (by omega) (by omega)]
  omega
theorem chSub_eq {s t : Nat} (hs : s < 2 ^ 62) (ht : t < 2 ^ 62) : chSub (s : Int) (t : Int) = subB s t := by
  unfold chSub subB
  rw [bits_andNotN hs ht, Bool.eq_iff_iff, beq_iff_eq, beq_iff_eq]
  omega
theorem chAt_eq {p : List Int} (hp : p.length ≤ 10) : ∀ q, q ≤ 13 → ∀ s ∈ idealsN p, ∀ j, chAt p (ints (idealsN p)) q (s : Int) j = ((wsN p q s j : Nat) : Int)
  | 0, _, s, _, j => by
    unfold chAt wsN
    by_cases h : s = 0
    · subst h
      by_cases hj : j = 0
      · subst hj; rfl
      · simp [hj]
    · rw [if_neg (by omega), if_neg (fun h2 => h h2.1)]; rfl
  | q + 1, hq, t, ht, j => by
    have ht2 := (mem_idealsN.1 ht).1
    have h62 : ∀ s ∈ idealsN p, s < 2 ^ 62 := fun s hs => lt_pow (mem_idealsN.1 hs).1 (by omega)
    have hs := wvN_small hp (B := stB p false) (k := q + 1) (t := t) (fun s t h => stB_sub h) (by omega)
    have hle := wsN_le p (q + 1) t j
    unfold chAt chNew
    rw [mpTot_ints (P := fun s => subB s t) (v := fun s => if outN p t ≤ j then wsN p q s (j - outN p t) else 0) (idealsN p) (fun s hs => chSub_eq (h62 s hs) (h62 t ht)) (fun s hs => ?_)]
    · have e : sumL (((idealsN p).filter fun s => subB s t).map fun s => if outN p t ≤ j then wsN p q s (j - outN p t) else 0) = wsN p (q + 1) t j := by
        conv => rhs; unfold wsN
        by_cases h : outN p t ≤ j
        · rw [if_pos h]
          simp only [if_pos h]
        · rw [if_neg h]
          exact sumL_none _ _ fun s _ => by rw [if_neg h]
      rw [e]
      exact wid (by omega) (by omega)
    · unfold chTerm
      rw [chOut_eq hp ht2]
      by_cases h : outN p t ≤ j
      · rw [if_pos (by omega), if_pos h, show ((j : Int) - ((outN p t : Nat) : Int)).toNat = j - outN p t by omega, chAt_eq hp q (by omega) s hs]
        unfold chPos
        split
        · rfl
        · omega
      · rw [if_neg (by omega), if_neg h]; rfl
theorem chM_eq {p : List Int} (hp : p.length ≤ 10) {m : Nat} (hm : m ≤ 1000) : chM p (m : Int) = ((p.length * m + 1 : Nat) : Int) := by
  have h1 : p.length * m ≤ 10 * 1000 := Nat.mul_le_mul hp hm
  have e : (p.length : Int) * (m : Int) = ((p.length * m : Nat) : Int) := (Int.natCast_mul _ _).symm
  unfold chM
  rw [e, wid (n := ((p.length * m : Nat) : Int)) (by omega) (by omega), wid (by omega) (by omega)]
  omega
theorem chOk_ids {p : List Int} (hp : PO p) {m : Nat} (hm : m ≤ 12) : ChOk p (ints (idealsN p)) (m : Int) := by
  have hn := hp.small
  have hM := chM_eq hn (m := m) (by omega)
  have h1 : p.length * m ≤ 10 * 12 := Nat.mul_le_mul hn hm
  have mem : ∀ x ∈ ints (idealsN p), ∃ t : Nat, x = (t : Int) ∧ t ∈ idealsN p := fun x hx => by
    obtain ⟨t, ht, rfl⟩ := List.mem_map.1 hx
    exact ⟨t, rfl, ht⟩
  refine ⟨cntOk_ids hn, by omega, by omega, by rw [hM]; omega, by rw [hM]; omega, fun x hx => ?_, fun x hx => ?_, fun q hq x hx y hy hs i hi h0 => ?_⟩
  · obtain ⟨t, rfl, ht⟩ := mem x hx
    exact ⟨_, size_ev hn (mem_idealsN.1 ht).1⟩
  · obtain ⟨t, rfl, ht⟩ := mem x hx
    rw [chOut_eq hn (mem_idealsN.1 ht).1]
    have := outN_le p t
    omega
  · obtain ⟨t, rfl, ht⟩ := mem x hx
    obtain ⟨s, rfl, hs2⟩ := mem y hy
    rw [chAt_eq hn q (by omega) s hs2] at h0
    rw [chOut_eq hn (mem_idealsN.1 ht).1, hM]
    have hle : i ≤ p.length * q := by
      rcases Nat.lt_or_ge (p.length * q) i with h | h
      · rw [wsN_zero p q s i h] at h0; omega
      · exact h
    have h2 : p.length * q + p.length ≤ p.length * m := by
      rw [← Nat.mul_succ]; exact Nat.mul_le_mul_left _ (by omega)
    have := outN_le p t
    omega
/-- The counts by sums. -/
def sumsL (p : List Int) (m : Nat) : List Nat := (List.range (p.length * m + 1)).map (wT p m)
theorem chains_ev {p : List Int} (hp : PO p) {m : Nat} (hm : m ≤ 12) : Ev (fun k => impl_Poset_chains.f k p (m : Int)) (ints (sumsL p m)) := by
  have hn := hp.small
  unfold impl_Poset_chains.f
  refine Ev.bind (ideals_ev hp) ⟨0, fun k _ => ?_⟩
  dsimp only
  rw [if_pos ((chOkB_iff _ _ _).2 (chOk_ids hp hm))]
  congr 1
  rw [chM_eq hn (by omega), Int.toNat_natCast]
  unfold rwL sumsL ints
  rw [List.map_map]
  refine List.map_congr_left fun j hj => ?_
  unfold chTot
  rw [Int.toNat_natCast]
  have hs := wT_small hn (m := m) (by omega) j
  have e := mpTot_ints (P' := fun _ => true) (v' := fun s => chAt p (ints (idealsN p)) m s j) (P := fun _ => true) (v := fun s => wsN p m s j) (idealsN p) (fun _ _ => rfl) (fun s hs => chAt_eq hn m (by omega) s hs j)
  rw [List.filter_eq_self.2 (fun _ _ => rfl)] at e
  unfold ints at e
  rw [e]
  exact wid (by unfold wT at hs; omega) (by unfold wT at hs; omega)
end Go.Proofs.Ytemkddgfneohhaa.Q
end
