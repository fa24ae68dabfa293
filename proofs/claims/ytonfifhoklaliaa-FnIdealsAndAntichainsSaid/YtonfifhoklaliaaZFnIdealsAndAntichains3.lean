/- Part 3 of the texts below the row of FnIdealsAndAntichains: printed functions with their contracts, and plain lemmas. No condition. -/
import Derived.Test.YtonfifhoklaliaaZFnIdealsAndAntichains2
section
namespace Go.Proofs.Ytonfifhoklaliaa.F
open Go.RowKit Go.Proofs.YtonfifhoklaliaaW.PrintWords Go.Proofs.YtonfifhoklaliaaW.PrintLast Go.Proofs.YtonfifhoklaliaaW.PrintMore
attribute [local go_sem] max2_int min2_int max_two min_two max_three min_three max_four min_four
set_option linter.unusedVariables false
set_option linter.unusedSimpArgs false
def spec_Fence.l0 : Nat → Int → Int → List (List Int) → Int → Option (List Int × Bool)
 | 0, _, _, _, _ => none
 | k + 1, x0, x4, x5, x6 => if (wrap64 (x4 + x6)) < x0 then (if x5.length < 5864062014805 then ((some (x5 ++ [(([x6, wrap64 (x4 + x6)] : List Int))] : List (List Int))).bind fun y266 => (if (wrap64 (x6 + 1)) < x4 then (if y266.length < 5864062014805 then (spec_Fence.l0 k x0 x4 (y266 ++ [(([wrap64 (x6 + 1), wrap64 (x4 + x6)] : List Int))]) (wrap64 (x6 + 1))) else (none)) else (spec_Fence.l0 k x0 x4 y266 (wrap64 (x6 + 1))))) else (none)) else ((spec_poFrom.f k x0 x5).bind fun t275 => (some (t275, true)))
def spec_Fence.f (k : Nat) (a0 : Int) : Option (List Int × Bool) := (spec_l1In.f a0 1 10).bind fun t262 => (if t262 = true then (spec_Fence.l0 k a0 (wrap64 (Int.tdiv (wrap64 (a0 + 1)) 2)) ([] : List (List Int)) 0) else (some (([] : List Int), false)))
theorem spec_Fence.mono_l : ∀ k, (∀ y0 y1 y2 y3, LeO (spec_Fence.l0 k y0 y1 y2 y3) (spec_Fence.l0 (k + 1) y0 y1 y2 y3))
 | 0 => fun _ _ _ _ r h => by simp [spec_Fence.l0] at h
 | k + 1 => by
  have ih0 := spec_Fence.mono_l k
  ·intro y0 y1 y2 y3
   unfold spec_Fence.l0
   repeat' first
   | (with_reducible exact spec_poFrom.mono _ _ _)
   | (with_reducible exact LeO.refl _)
   | (with_reducible exact LeO.none _)
   | (with_reducible refine LeO.ite ?_ ?_)
   | (with_reducible refine LeO.bind ?_ (fun _ => ?_))
   | exact ih0 _ _ _ _
   | exact spec_poFrom.mono _ _ _
   | exact LeO.none _
   | refine LeO.ite ?_ ?_
   | refine LeO.bind ?_ (fun _ => ?_)
theorem spec_Fence.mono : ∀ a0 k, LeO (spec_Fence.f k a0) (spec_Fence.f (k + 1) a0) := by
 intro a0 k
 have ih0 := spec_Fence.mono_l k
 unfold spec_Fence.f
 repeat' first
  | (with_reducible exact spec_poFrom.mono _ _ _)
  | (with_reducible exact LeO.refl _)
  | (with_reducible exact LeO.none _)
  | (with_reducible refine LeO.ite ?_ ?_)
  | (with_reducible refine LeO.bind ?_ (fun _ => ?_))
  | exact ih0 _ _ _ _
  | exact spec_poFrom.mono _ _ _
  | exact LeO.none _
  | refine LeO.ite ?_ ?_
  | refine LeO.bind ?_ (fun _ => ?_)
set_option maxHeartbeats 8000000 in
set_option maxRecDepth 100000 in
theorem spec_Fence.calls (k : Nat) (a0 : Int) (r1 : List Int) (r2 : Bool) (w : World) (h : spec_Fence.f k a0 = some (r1, r2)) :
 Calls Try.prog 20 #[.int .i64 a0] w fun e w' => ∃ v0_ : Value, e = .returned (.tuple #[.agg #[v0_], .bool r2]) ∧ Kd.R (Kd.int .i64) 3 w' w.heap.size (fun _ => True) v0_ r1 ∧ Below w.heap.size w w' := by
 have hu28 := Try.underlying28
 have HB := am (Below.refl w.heap.size w)
 have H : ((spec_l1In.f a0 1 10).bind fun t262 => (if t262 = true then (spec_Fence.l0 k a0 (wrap64 (Int.tdiv (wrap64 (a0 + 1)) 2)) ([] : List (List Int)) 0) else (some (([] : List Int), false)))) = some (r1, r2) := h
 clear h
 replace H := Option.bind_eq_some_iff.mp H
 obtain ⟨t262, A20, H⟩ := H
 replace H : (if t262 = true then (spec_Fence.l0 k a0 (wrap64 (Int.tdiv (wrap64 (a0 + 1)) 2)) ([] : List (List Int)) 0) else (some (([] : List Int), false))) = some (r1, r2) := H
 have A2 := am A20
 clear A20
 by_cases c3 : t262 = true
 ·subst c3
  have H1 : (spec_Fence.l0 k a0 (wrap64 (Int.tdiv (wrap64 (a0 + 1)) 2)) ([] : List (List Int)) 0) = some (r1, r2) := by rw [if_pos rfl] at H; exact H
  clear H
  have H := H1
  clear H1
  have H' := am H
  clear H
  go_enter Try.func20, Try.ntmps20
  go_wp2_with (first | ((with_reducible refine gate_dst (N := 2) rfl ?_); refine qx (N := 2) (cs := #[.slice none 0 0]) (t := 28) ?_; intro gb261 hg w4 hbox hb; have n0_ := am (below_step qB hb); have BK261 := am (hbox); have GW261 := am (qg w hg); have GE261 := am (qg w hg); clear HB; have HB := n0_; clear n0_; clear hb hbox hg) | ((with_reducible refine gate_callee (f := 90) rfl ?_); refine gL (some 8) Try.func90 #[.int .i64 a0, .int .i64 1, .int .i64 10] ?_; (with_reducible refine (spec_l1In.calls a0 1 10 true _ A2.out).mono ?_); rintro e w' ⟨rfl, ⟨nd, rfl⟩⟩; refine ⟨_, rfl, ?_⟩))
  go_loopg [5, 6] k (fun kq v5 v6 w' => ∃ (x5_1 : List (List Int)) (x6_1 : Int), v6 = .int .i64 x6_1 ∧ Aside0 (spec_Fence.l0 kq a0 (wrap64 (Int.tdiv (wrap64 (a0 + 1)) 2)) x5_1 x6_1 = some (r1, r2)) ∧ Aside0 (kq ≤ k) ∧ Aside0 (Kd.S (Kd.slice 3 (Kd.int .i64)) 26 w' w.heap.size (fun _ => True) v5 x5_1) ∧ Aside0 (w'.heap[gb261]? = some (.cells #[(.slice none 0 0)] 28 (0, 0))) ∧ Aside0 (Below w.heap.size w w'))
  case atStart => exact ⟨(([] : List (List Int))), (0), qe, H', ⟨Nat.le_refl _⟩, ⟨by first | exact Kd.S_nil _ _ _ _ _ | exact Kd.N_nil _ _ _ _ _ | exact Kd.V_nil _ _ _ _ _ | exact Kd.Q_nil _ _ _ _ _ | exact Kd.R_nil _ _ _ _ _⟩, ⟨qb BK261.out⟩, ⟨qB⟩⟩
  case round =>
   clear H'
   try clear c2
   try clear p2
   try clear c3
   obtain ⟨x5_1, x6_1, rfl, HA, HK1, HO_5, BK261, HB⟩ := hrel
   cases gk with
   | zero => exact absurd HA.out (by simp [spec_Fence.l0])
   | succ k1 =>
    have H := HA.out
    clear HA
    simp only [spec_Fence.l0] at H
    by_cases c5 : (wrap64 ((wrap64 (Int.tdiv (wrap64 (a0 + 1)) 2)) + x6_1)) < a0
    ·rw [if_pos c5] at H
     have c5b0 := decide_eq_true c5
     clear c5
     obtain ⟨y263, hy263⟩ : ∃ y_ : List Int, y_ = (([x6_1, wrap64 ((wrap64 (Int.tdiv (wrap64 (a0 + 1)) 2)) + x6_1)] : List Int)) := ⟨_, rfl⟩
     replace H : (if x5_1.length < 5864062014805 then ((some (x5_1 ++ [y263] : List (List Int))).bind fun y266 => (if (wrap64 (x6_1 + 1)) < (wrap64 (Int.tdiv (wrap64 (a0 + 1)) 2)) then (if y266.length < 5864062014805 then (spec_Fence.l0 k1 a0 (wrap64 (Int.tdiv (wrap64 (a0 + 1)) 2)) (y266 ++ [(([wrap64 (x6_1 + 1), wrap64 ((wrap64 (Int.tdiv (wrap64 (a0 + 1)) 2)) + x6_1)] : List Int))]) (wrap64 (x6_1 + 1))) else (none)) else (spec_Fence.l0 k1 a0 (wrap64 (Int.tdiv (wrap64 (a0 + 1)) 2)) y266 (wrap64 (x6_1 + 1))))) else (none)) = some (r1, r2) := by first | (rw [hy263]; with_reducible exact H) | (have H2_ := (Option.bind_some _ _).symm.trans H; rw [hy263]; with_reducible exact H2_) | (have H2_ := (Option.bind_some _ _).symm.trans H; with_reducible exact H2_) | with_reducible exact H | (rw [hy263]; exact H) | exact H
     have Ny263 := am hy263
     clear hy263
     by_cases c6 : x5_1.length < 5864062014805
     rotate_left
     ·rw [if_neg c6] at H
      exact absurd H (by simp)
     rw [if_pos c6] at H
     have LMc6 := am c6
     clear c6
     obtain ⟨y266, hy266⟩ : ∃ y_ : List (List Int), y_ = (x5_1 ++ [y263]) := ⟨_, rfl⟩
     replace H : (if (wrap64 (x6_1 + 1)) < (wrap64 (Int.tdiv (wrap64 (a0 + 1)) 2)) then (if y266.length < 5864062014805 then (spec_Fence.l0 k1 a0 (wrap64 (Int.tdiv (wrap64 (a0 + 1)) 2)) (y266 ++ [(([wrap64 (x6_1 + 1), wrap64 ((wrap64 (Int.tdiv (wrap64 (a0 + 1)) 2)) + x6_1)] : List Int))]) (wrap64 (x6_1 + 1))) else (none)) else (spec_Fence.l0 k1 a0 (wrap64 (Int.tdiv (wrap64 (a0 + 1)) 2)) y266 (wrap64 (x6_1 + 1)))) = some (r1, r2) := by first | (rw [hy266]; with_reducible exact H) | (have H2_ := (Option.bind_some _ _).symm.trans H; rw [hy266]; with_reducible exact H2_) | (have H2_ := (Option.bind_some _ _).symm.trans H; with_reducible exact H2_) | with_reducible exact H | (rw [hy266]; exact H) | exact H
     have Ny266 := am hy266
     clear hy266
     by_cases c7 : (wrap64 (x6_1 + 1)) < (wrap64 (Int.tdiv (wrap64 (a0 + 1)) 2))
     ·rw [if_pos c7] at H
      have c7b0 := decide_eq_true c7
      clear c7
      obtain ⟨y269, hy269⟩ : ∃ y_ : List Int, y_ = (([wrap64 (x6_1 + 1), wrap64 ((wrap64 (Int.tdiv (wrap64 (a0 + 1)) 2)) + x6_1)] : List Int)) := ⟨_, rfl⟩
      replace H : (if y266.length < 5864062014805 then (spec_Fence.l0 k1 a0 (wrap64 (Int.tdiv (wrap64 (a0 + 1)) 2)) (y266 ++ [y269]) (wrap64 (x6_1 + 1))) else (none)) = some (r1, r2) := by first | (rw [hy269]; with_reducible exact H) | (have H2_ := (Option.bind_some _ _).symm.trans H; rw [hy269]; with_reducible exact H2_) | (have H2_ := (Option.bind_some _ _).symm.trans H; with_reducible exact H2_) | with_reducible exact H | (rw [hy269]; exact H) | exact H
      have Ny269 := am hy269
      clear hy269
      by_cases c8 : y266.length < 5864062014805
      rotate_left
      ·rw [if_neg c8] at H
       exact absurd H (by simp)
      rw [if_pos c8] at H
      have LMc8 := am c8
      clear c8
      obtain ⟨y272, hy272⟩ : ∃ y_ : List (List Int), y_ = (y266 ++ [y269]) := ⟨_, rfl⟩
      replace H : (spec_Fence.l0 k1 a0 (wrap64 (Int.tdiv (wrap64 (a0 + 1)) 2)) y272 (wrap64 (x6_1 + 1))) = some (r1, r2) := by first | (rw [hy272]; with_reducible exact H) | (have H2_ := (Option.bind_some _ _).symm.trans H; rw [hy272]; with_reducible exact H2_) | (have H2_ := (Option.bind_some _ _).symm.trans H; with_reducible exact H2_) | with_reducible exact H | (rw [hy272]; exact H) | exact H
      have Ny272 := am hy272
      clear hy272
      have H' := am H
      clear H
      go_wp2_with (first | ((with_reducible refine gate_dst (N := 26) rfl ?_); refine Kd.R_lit (Kd.int .i64) _ 3 ?hg (N := 26) ?hd (xs := ([x6_1, wrap64 ((wrap64 (Int.tdiv (wrap64 (a0 + 1)) 2)) + x6_1)] : List Int)) (inner := [.int .i64 x6_1, .int .i64 (wrap64 ((wrap64 (Int.tdiv (wrap64 (a0 + 1)) 2)) + x6_1))]) (ok := fun _ => True) (okp := fun _ => True) ?hr ?hp (fun _ hk => hk) trivial (Below.refl _ _) (Nat.le_refl _) (by simp) ?_; (case hd => rfl); (case hg => rfl); (case hr => first | (go_simp; done) | (go_simp; rfl)); (case hp => exact (Reps.one (show Kd.M (Kd.int .i64) _ _ _ x6_1 [.int .i64 x6_1] from rfl) (Reps.one (show Kd.M (Kd.int .i64) _ _ _ (wrap64 ((wrap64 (Int.tdiv (wrap64 (a0 + 1)) 2)) + x6_1)) [.int .i64 (wrap64 ((wrap64 (Int.tdiv (wrap64 (a0 + 1)) 2)) + x6_1))] from rfl) (Reps.none _ _)))); intro v264 w9 ho10 hb hg_ hnew_; clear hg_ hnew_; (first | rw [← Ny263.out] at ho10 | (simp only [Int.reduceToNat] at ho10; rw [← Ny263.out] at ho10)); replace HO_5 := am (Kd.S_elder' (qS HO_5.out) (Kd.R_base ho10) hb); have HO265 := am (Kd.R_lower ho10 (below_size qB)); replace BK261 := am (blk_below (g := gb261) (o := .cells #[.slice none 0 0] 28 (0, 0)) (qb BK261.out) hb); replace HB := am (below_step qB hb); clear hb ho10; obtain ⟨Ao12, co12, eo12⟩ := Kd.R_slice HO265.out; subst eo12) | ((with_reducible refine gate_builtin (b := .append) (xs := #[.tmp 21, .tmp 27]) rfl ?_); at_builtin; refine Kd.S_append (Kd.slice 3 (Kd.int .i64)) (w0 := w) w.heap.size rfl (.tmp 21) (.tmp 27) 56 26 (.slice none 0 0) 24 rfl Try.underlying56 info26 rfl (by decide) (by omega) u5 x5_1 y263 [.slice Ao12 y263.length co12] (fun _ => True) (fun k_ => some k_ = (.slice Ao12 y263.length co12 : Value).ownBlock) rfl rfl ?aP (fun k_ hk_ => ((Kd.R_mono (ok' := fun k_ => ((fun _ => True)) k_ ∧ some k_ ≠ (u5 : Value).ownBlock) (Kd.R_apart' (HO265.out) (Kd.S_typed HO_5.out) (by decide)) (fun k_ hk => ⟨trivial, hk.2⟩))).1 k_ hk_.symm) ?aF ?aO ?aB ?aS ?aL ?_; (case aP => exact Kd.M_row (Kd.R_mono (Kd.R_tight rfl (Kd.R_mono (ok' := fun k_ => ((fun _ => True)) k_ ∧ some k_ ≠ (u5 : Value).ownBlock) (Kd.R_apart' (HO265.out) (Kd.S_typed HO_5.out) (by decide)) (fun k_ hk => ⟨trivial, hk.2⟩))) (fun _ h_ => h_))); (case aB => exact qB); (case aF => exact (fun _ _ => trivial)); (case aO => exact (qS (Kd.S_mono HO_5.out (fun k_ hk => ⟨trivial, fun e_ => hk.2 e_⟩)))); (case aS => exact (below_size qB)); (case aL => have := LMc6.out; omega); intro v267 w11 ho hb hg hat; rw [← Ny266.out] at ho; replace BK261 := am (blk_grown (g := gb261) (o := .cells #[.slice none 0 0] 28 (0, 0)) (qb BK261.out) hg (Kd.S_ne HO_5.out BK261.out (by decide))); have n1_ := am (hb); have HO268 := am (ho); clear HB HO_5 HO265; have HB := n1_; clear n1_; clear ho hb hg hat) | ((with_reducible refine gate_dst (N := 39) rfl ?_); refine Kd.R_lit (Kd.int .i64) _ 3 ?hg (N := 39) ?hd (xs := ([wrap64 (x6_1 + 1), wrap64 ((wrap64 (Int.tdiv (wrap64 (a0 + 1)) 2)) + x6_1)] : List Int)) (inner := [.int .i64 (wrap64 (x6_1 + 1)), .int .i64 (wrap64 ((wrap64 (Int.tdiv (wrap64 (a0 + 1)) 2)) + x6_1))]) (ok := fun _ => True) (okp := fun _ => True) ?hr ?hp (fun _ hk => hk) trivial (Below.refl _ _) (Nat.le_refl _) (by simp) ?_; (case hd => rfl); (case hg => rfl); (case hr => first | (go_simp; done) | (go_simp; rfl)); (case hp => exact (Reps.one (show Kd.M (Kd.int .i64) _ _ _ (wrap64 (x6_1 + 1)) [.int .i64 (wrap64 (x6_1 + 1))] from rfl) (Reps.one (show Kd.M (Kd.int .i64) _ _ _ (wrap64 ((wrap64 (Int.tdiv (wrap64 (a0 + 1)) 2)) + x6_1)) [.int .i64 (wrap64 ((wrap64 (Int.tdiv (wrap64 (a0 + 1)) 2)) + x6_1))] from rfl) (Reps.none _ _)))); intro v270 w13 ho14 hb hg_ hnew_; clear hg_ hnew_; (first | rw [← Ny269.out] at ho14 | (simp only [Int.reduceToNat] at ho14; rw [← Ny269.out] at ho14)); replace HO268 := am (Kd.S_elder' (qS HO268.out) (Kd.R_base ho14) hb); have HO271 := am (Kd.R_lower ho14 (below_size qB)); replace BK261 := am (blk_below (g := gb261) (o := .cells #[.slice none 0 0] 28 (0, 0)) (qb BK261.out) hb); replace HB := am (below_step qB hb); clear hb ho14; obtain ⟨Ao16, co16, eo16⟩ := Kd.R_slice HO271.out; subst eo16) | ((with_reducible refine gate_builtin (b := .append) (xs := #[.tmp 33, .tmp 40]) rfl ?_); at_builtin; refine Kd.S_append (Kd.slice 3 (Kd.int .i64)) (w0 := w) w.heap.size rfl (.tmp 33) (.tmp 40) 56 26 (.slice none 0 0) 24 rfl Try.underlying56 info26 rfl (by decide) (by omega) v267 y266 y269 [.slice Ao16 y269.length co16] (fun _ => True) (fun k_ => some k_ = (.slice Ao16 y269.length co16 : Value).ownBlock) rfl rfl ?aP (fun k_ hk_ => ((Kd.R_mono (ok' := fun k_ => ((fun _ => True)) k_ ∧ some k_ ≠ (v267 : Value).ownBlock) (Kd.R_apart' (HO271.out) (Kd.S_typed HO268.out) (by decide)) (fun k_ hk => ⟨trivial, hk.2⟩))).1 k_ hk_.symm) ?aF ?aO ?aB ?aS ?aL ?_; (case aP => exact Kd.M_row (Kd.R_mono (Kd.R_tight rfl (Kd.R_mono (ok' := fun k_ => ((fun _ => True)) k_ ∧ some k_ ≠ (v267 : Value).ownBlock) (Kd.R_apart' (HO271.out) (Kd.S_typed HO268.out) (by decide)) (fun k_ hk => ⟨trivial, hk.2⟩))) (fun _ h_ => h_))); (case aB => exact qB); (case aF => exact (fun _ _ => trivial)); (case aO => exact (qS (Kd.S_mono HO268.out (fun k_ hk => ⟨trivial, fun e_ => hk.2 e_⟩)))); (case aS => exact (below_size qB)); (case aL => have := LMc8.out; omega); intro v273 w15 ho hb hg hat; rw [← Ny272.out] at ho; replace BK261 := am (blk_grown (g := gb261) (o := .cells #[.slice none 0 0] 28 (0, 0)) (qb BK261.out) hg (Kd.S_ne HO268.out BK261.out (by decide))); have n1_ := am (hb); have HO274 := am (ho); clear HB HO268 HO271; have HB := n1_; clear n1_; clear ho hb hg hat))
      go_roundg k1
      case measure => have := HK1.out; omega
      case rel => exact ⟨(y272), (wrap64 (x6_1 + 1)), qe, H', ⟨by have := HK1.out; omega⟩, ⟨qS HO274.out⟩, ⟨qb BK261.out⟩, ⟨qB⟩⟩
     ·rw [if_neg c7] at H
      have c7b0 := decide_eq_false c7
      clear c7
      have H' := am H
      clear H
      go_wp2_with (first | ((with_reducible refine gate_dst (N := 26) rfl ?_); refine Kd.R_lit (Kd.int .i64) _ 3 ?hg (N := 26) ?hd (xs := ([x6_1, wrap64 ((wrap64 (Int.tdiv (wrap64 (a0 + 1)) 2)) + x6_1)] : List Int)) (inner := [.int .i64 x6_1, .int .i64 (wrap64 ((wrap64 (Int.tdiv (wrap64 (a0 + 1)) 2)) + x6_1))]) (ok := fun _ => True) (okp := fun _ => True) ?hr ?hp (fun _ hk => hk) trivial (Below.refl _ _) (Nat.le_refl _) (by simp) ?_; (case hd => rfl); (case hg => rfl); (case hr => first | (go_simp; done) | (go_simp; rfl)); (case hp => exact (Reps.one (show Kd.M (Kd.int .i64) _ _ _ x6_1 [.int .i64 x6_1] from rfl) (Reps.one (show Kd.M (Kd.int .i64) _ _ _ (wrap64 ((wrap64 (Int.tdiv (wrap64 (a0 + 1)) 2)) + x6_1)) [.int .i64 (wrap64 ((wrap64 (Int.tdiv (wrap64 (a0 + 1)) 2)) + x6_1))] from rfl) (Reps.none _ _)))); intro v264 w17 ho18 hb hg_ hnew_; clear hg_ hnew_; (first | rw [← Ny263.out] at ho18 | (simp only [Int.reduceToNat] at ho18; rw [← Ny263.out] at ho18)); replace HO_5 := am (Kd.S_elder' (qS HO_5.out) (Kd.R_base ho18) hb); have HO265 := am (Kd.R_lower ho18 (below_size qB)); replace BK261 := am (blk_below (g := gb261) (o := .cells #[.slice none 0 0] 28 (0, 0)) (qb BK261.out) hb); replace HB := am (below_step qB hb); clear hb ho18; obtain ⟨Ao20, co20, eo20⟩ := Kd.R_slice HO265.out; subst eo20) | ((with_reducible refine gate_builtin (b := .append) (xs := #[.tmp 21, .tmp 27]) rfl ?_); at_builtin; refine Kd.S_append (Kd.slice 3 (Kd.int .i64)) (w0 := w) w.heap.size rfl (.tmp 21) (.tmp 27) 56 26 (.slice none 0 0) 24 rfl Try.underlying56 info26 rfl (by decide) (by omega) u5 x5_1 y263 [.slice Ao20 y263.length co20] (fun _ => True) (fun k_ => some k_ = (.slice Ao20 y263.length co20 : Value).ownBlock) rfl rfl ?aP (fun k_ hk_ => ((Kd.R_mono (ok' := fun k_ => ((fun _ => True)) k_ ∧ some k_ ≠ (u5 : Value).ownBlock) (Kd.R_apart' (HO265.out) (Kd.S_typed HO_5.out) (by decide)) (fun k_ hk => ⟨trivial, hk.2⟩))).1 k_ hk_.symm) ?aF ?aO ?aB ?aS ?aL ?_; (case aP => exact Kd.M_row (Kd.R_mono (Kd.R_tight rfl (Kd.R_mono (ok' := fun k_ => ((fun _ => True)) k_ ∧ some k_ ≠ (u5 : Value).ownBlock) (Kd.R_apart' (HO265.out) (Kd.S_typed HO_5.out) (by decide)) (fun k_ hk => ⟨trivial, hk.2⟩))) (fun _ h_ => h_))); (case aB => exact qB); (case aF => exact (fun _ _ => trivial)); (case aO => exact (qS (Kd.S_mono HO_5.out (fun k_ hk => ⟨trivial, fun e_ => hk.2 e_⟩)))); (case aS => exact (below_size qB)); (case aL => have := LMc6.out; omega); intro v267 w19 ho hb hg hat; rw [← Ny266.out] at ho; replace BK261 := am (blk_grown (g := gb261) (o := .cells #[.slice none 0 0] 28 (0, 0)) (qb BK261.out) hg (Kd.S_ne HO_5.out BK261.out (by decide))); have n1_ := am (hb); have HO268 := am (ho); clear HB HO_5 HO265; have HB := n1_; clear n1_; clear ho hb hg hat))
      go_roundg k1
      case measure => have := HK1.out; omega
      case rel => exact ⟨(y266), (wrap64 (x6_1 + 1)), qe, H', ⟨by have := HK1.out; omega⟩, ⟨qS HO268.out⟩, ⟨qb BK261.out⟩, ⟨qB⟩⟩
    ·rw [if_neg c5] at H
     have c5b0 := decide_eq_false c5
     clear c5
     replace H := Option.bind_eq_some_iff.mp H
     obtain ⟨t275, A210, H⟩ := H
     replace H : (some (t275, true)) = some (r1, r2) := H
     have A21 := am A210
     clear A210
     simp only [Option.some.injEq, Prod.mk.injEq] at H
     obtain ⟨rfl, rfl⟩ := H
     obtain ⟨Ao22, co22, eo22⟩ := Kd.S_slice HO_5.out
     subst eo22
     go_wp2_with (first | ((with_reducible refine gate_callee (f := 92) rfl ?_); refine gL (some 44) Try.func92 #[.int .i64 a0, .slice Ao22 x5_1.length co22] ?_; (with_reducible refine (spec_poFrom.calls k1 a0 _ _ x5_1 t275 _ ?side1 ?side2 A21.out).mono ?_); (case side1 => exact qC (Kd.S_reads' HO_5.out).2.2); (case side2 => exact (Kd.S_reads' HO_5.out).2.1); rintro e w23 ⟨v276, rfl, ho0, hb⟩; refine ⟨_, rfl, ?_⟩; replace HO_5 := am (Kd.S_elder' (qS HO_5.out) (Kd.R_base ho0) hb); have HO277 := am (Kd.R_lower ho0 (below_size qB)); replace BK261 := am (blk_below (g := gb261) (o := .cells #[.slice none 0 0] 28 (0, 0)) (qb BK261.out) hb); replace HB := am (below_step qB hb); (try clear hb); (try clear hb2); (try clear hk); (try clear hi); (try clear ho0); obtain ⟨Ao24, co24, eo24⟩ := Kd.R_slice HO277.out; subst eo24; have hcz25_0 := qz w23 BK261.out; have hfz25_0 := blk_frozen BK261.out 0))
     refine bodyPost_ret (results_ct rfl _ _ gb261 28 #[.slice Ao24 t275.length co24] (0, 0) _ rfl (by (with_reducible repeat (first | refine blk_drewN ?_ _ | refine blk_drew ?_ | refine blk_alloc ?_ _)); refine blk_put (cs := #[.slice none 0 0]) ?_ 0 _ rfl; refine qb ?_; exact BK261.out) Try.underlying28 rfl (by kernel_rfl)) rfl ?_
     exact ⟨_, qr, qR (Kd.R_mono (Kd.R_far (p := ⟨gb261, 0, none⟩) (Kd.R_types HO277.out BK261.out (by decide)) (fun _ hk => hk.2) (.slice Ao24 t275.length co24)) (fun _ hk => trivial)), qB⟩
 ·replace c3 := Bool.eq_false_iff.mpr c3
  subst c3
  have H1 : (some (([] : List Int), false)) = some (r1, r2) := by rw [if_neg (show ¬ (false = true) by decide)] at H; exact H
  clear H
  have H := H1
  clear H1
  simp only [Option.some.injEq, Prod.mk.injEq] at H
  obtain ⟨rfl, rfl⟩ := H
  go_enter Try.func20, Try.ntmps20
  go_wp2_with (first | ((with_reducible refine gate_dst (N := 2) rfl ?_); refine qx (N := 2) (cs := #[.slice none 0 0]) (t := 28) ?_; intro gb261 hg w26 hbox hb; have n0_ := am (below_step qB hb); have BK261 := am (hbox); have GW261 := am (qg w hg); have GE261 := am (qg w hg); clear HB; have HB := n0_; clear n0_; clear hb hbox hg) | ((with_reducible refine gate_callee (f := 90) rfl ?_); refine gL (some 8) Try.func90 #[.int .i64 a0, .int .i64 1, .int .i64 10] ?_; (with_reducible refine (spec_l1In.calls a0 1 10 false _ A2.out).mono ?_); rintro e w' ⟨rfl, ⟨nd, rfl⟩⟩; refine ⟨_, rfl, ?_⟩; (try (rw [drewN_self w26]; generalize hq_ : World.drewN w26 _ = w26; have n0_ : Aside0 (w26.heap[gb261]? = some (.cells #[.slice none 0 0] 28 (0, 0))) := ⟨by rw [← hq_]; exact (qb BK261.out)⟩; have n1_ : Aside0 (Below w.heap.size w w26) := ⟨by rw [← hq_]; exact qB⟩; clear BK261 HB hq_; have BK261 := n0_; have HB := n1_; clear n0_ n1_)); have hcz27_0 := qz w26 BK261.out; have hfz27_0 := blk_frozen BK261.out 0))
  refine bodyPost_ret (results_ct rfl _ _ gb261 28 #[.slice none 0 0] (0, 0) _ rfl (by (with_reducible repeat (first | refine blk_drewN ?_ _ | refine blk_drew ?_ | refine blk_alloc ?_ _)); refine blk_put (cs := #[.slice none 0 0]) ?_ 0 _ rfl; refine qb ?_; exact BK261.out) Try.underlying28 rfl (by kernel_rfl)) rfl ?_
  exact ⟨_, qr, by first | exact Kd.R_nil _ _ _ _ _ | exact Kd.N_nil _ _ _ _ _ | exact Kd.V_nil _ _ _ _ _ | exact Kd.Q_nil _ _ _ _ _ | exact Kd.S_nil _ _ _ _ _, qB⟩
mutual
def spec_poGood.l0 : Nat → List Int → Int → Int → List Int → Option (Bool)
 | 0, _, _, _, _ => none
 | k + 1, x14, x15, x16, x366000 => if x16 < x15 then (if 0 ≤ x16 then (if x16 < (x14.length : Int) then ((spec_l1In.f (rd x14 x16) 0 (wrap64 ((shl .i64 1 x16) - 1))).bind fun t368 => (if t368 = true then (spec_poGood.l1 k x16 (rd x14 x16) 0 x14 x15 x16 x366000) else (some false))) else (none)) else (none)) else (some true)
def spec_poGood.l1 : Nat → Int → Int → Int → List Int → Int → Int → List Int → Option (Bool)
 | 0, _, _, _, _, _, _, _ => none
 | k + 1, x4, x5, x6, x14, x15, x16, x366000 => if x6 < x4 then (if 0 ≤ x6 then (if (Int.tmod (shr .i64 x5 x6) 2) = 1 then (if x6 < (x366000.length : Int) then (if (Go.bits .andNot .i64 (rd x366000 x6) x5) = 0 then (spec_poGood.l1 k x4 x5 (wrap64 (x6 + 1)) x14 x15 x16 x366000) else (some false)) else (none)) else (spec_poGood.l1 k x4 x5 (wrap64 (x6 + 1)) x14 x15 x16 x366000)) else (none)) else (spec_poGood.l0 k x14 x15 (wrap64 (x16 + 1)) x366000)
end
def spec_poGood.f (k : Nat) (l0_0 : List Int) : Option (Bool) := (spec_l1In.f (l0_0.length : Int) 1 10).bind fun t366 => (if t366 = true then (spec_poGood.l0 k l0_0 (l0_0.length : Int) 0 l0_0) else (some false))
theorem spec_poGood.mono_l : ∀ k, (∀ y0 y1 y2 y3, LeO (spec_poGood.l0 k y0 y1 y2 y3) (spec_poGood.l0 (k + 1) y0 y1 y2 y3)) ∧ (∀ y0 y1 y2 y3 y4 y5 y6, LeO (spec_poGood.l1 k y0 y1 y2 y3 y4 y5 y6) (spec_poGood.l1 (k + 1) y0 y1 y2 y3 y4 y5 y6))
 | 0 => ⟨fun _ _ _ _ r h => by simp [spec_poGood.l0] at h, fun _ _ _ _ _ _ _ r h => by simp [spec_poGood.l1] at h⟩
 | k + 1 => by
  obtain ⟨ih0, ih1⟩ := spec_poGood.mono_l k
  refine ⟨?_, ?_⟩
  ·intro y0 y1 y2 y3
   unfold spec_poGood.l0
   repeat' first
   | (with_reducible exact LeO.refl _)
   | (with_reducible exact LeO.none _)
   | (with_reducible refine LeO.ite ?_ ?_)
   | (with_reducible refine LeO.bind ?_ (fun _ => ?_))
   | exact ih0 _ _ _ _
   | exact ih1 _ _ _ _ _ _ _
   | exact LeO.none _
   | refine LeO.ite ?_ ?_
   | refine LeO.bind ?_ (fun _ => ?_)
  ·intro y0 y1 y2 y3 y4 y5 y6
   unfold spec_poGood.l1
   repeat' first
   | (with_reducible exact LeO.refl _)
   | (with_reducible exact LeO.none _)
   | (with_reducible refine LeO.ite ?_ ?_)
   | (with_reducible refine LeO.bind ?_ (fun _ => ?_))
   | exact ih0 _ _ _ _
   | exact ih1 _ _ _ _ _ _ _
   | exact LeO.none _
   | refine LeO.ite ?_ ?_
   | refine LeO.bind ?_ (fun _ => ?_)
theorem spec_poGood.mono : ∀ a0 k, LeO (spec_poGood.f k a0) (spec_poGood.f (k + 1) a0) := by
 intro a0 k
 obtain ⟨ih0, ih1⟩ := spec_poGood.mono_l k
 unfold spec_poGood.f
 repeat' first
  | (with_reducible exact LeO.refl _)
  | (with_reducible exact LeO.none _)
  | (with_reducible refine LeO.ite ?_ ?_)
  | (with_reducible refine LeO.bind ?_ (fun _ => ?_))
  | exact ih0 _ _ _ _
  | exact ih1 _ _ _ _ _ _ _
  | exact LeO.none _
  | refine LeO.ite ?_ ?_
  | refine LeO.bind ?_ (fun _ => ?_)
set_option maxHeartbeats 8000000 in
set_option maxRecDepth 100000 in
theorem spec_poGood.calls (k : Nat) (A0_0 : Option Addr) (c0_0 : Nat) (l0_0 : List Int) (r : Bool) (w : World) (hr0_0 : Kd.C (Kd.int .i64) w A0_0 l0_0.length l0_0) (hc0_0 : l0_0.length ≤ c0_0) (h : spec_poGood.f k l0_0 = some r) :
 Calls Try.prog 94 #[.agg #[.slice A0_0 l0_0.length c0_0]] w fun e w' => e = .returned (.bool r) ∧ Below w.heap.size w w' := by
 have hu28 := Try.underlying28
 have HR0_0 := am hr0_0
 have HC0_0 := am hc0_0
 clear hr0_0 hc0_0
 have HB := am (Below.refl w.heap.size w)
 have H : ((spec_l1In.f (l0_0.length : Int) 1 10).bind fun t366 => (if t366 = true then (spec_poGood.l0 k l0_0 (l0_0.length : Int) 0 l0_0) else (some false))) = some r := h
 clear h
 replace H := Option.bind_eq_some_iff.mp H
 obtain ⟨t366, A20, H⟩ := H
 replace H : (if t366 = true then (spec_poGood.l0 k l0_0 (l0_0.length : Int) 0 l0_0) else (some false)) = some r := H
 have A2 := am A20
 clear A20
 by_cases c3 : t366 = true
 ·subst c3
  have H1 : (spec_poGood.l0 k l0_0 (l0_0.length : Int) 0 l0_0) = some r := by rw [if_pos rfl] at H; exact H
  clear H
  have H := H1
  clear H1
  have H' := am H
  clear H
  go_enter Try.func94, Try.ntmps94
  go_wp2_with (first | ((with_reducible refine gate_dst (N := 1) rfl ?_); refine qx (N := 1) (cs := #[.slice A0_0 l0_0.length c0_0]) (t := 28) ?_; intro gb365 hg w4 hbox hb; have n0_ := am (below_step qB hb); have BK365 := am (hbox); have GW365 := am (qg w hg); have GE365 := am (qg w hg); clear HB; have HB := n0_; clear n0_; clear hb hbox hg; have hcz5_0 := qz w4 BK365.out; have hfz5_0 := blk_frozen BK365.out 0) | ((with_reducible refine gate_callee (f := 90) rfl ?_); refine gL (some 11) Try.func90 #[.int .i64 (l0_0.length : Int), .int .i64 1, .int .i64 10] ?_; (with_reducible refine (spec_l1In.calls (l0_0.length : Int) 1 10 true _ A2.out).mono ?_); rintro e w' ⟨rfl, ⟨nd, rfl⟩⟩; refine ⟨_, rfl, ?_⟩))
  go_loopg [16] k (fun kq v16 w' => ∃ (x16_1 : Int), v16 = .int .i64 x16_1 ∧ Aside0 (spec_poGood.l0 kq l0_0 (l0_0.length : Int) x16_1 l0_0 = some r) ∧ Aside0 (kq ≤ k) ∧ Aside0 (w'.heap[gb365]? = some (.cells #[(.slice A0_0 l0_0.length c0_0)] 28 (0, 0))) ∧ Aside0 (Below w.heap.size w w'))
  case atStart => exact ⟨(0), qe, H', ⟨Nat.le_refl _⟩, ⟨qb BK365.out⟩, ⟨qB⟩⟩
  case round =>
   clear H'
   try clear p2
   try clear c3
   try clear hcz5_0
   try clear hfz5_0
   obtain ⟨x16_1, rfl, HA, HK1, BK365, HB⟩ := hrel
   cases gk with
   | zero => exact absurd HA.out (by simp [spec_poGood.l0])
   | succ k1 =>
    have H := HA.out
    clear HA
    simp only [spec_poGood.l0] at H
    by_cases c6 : x16_1 < (l0_0.length : Int)
    ·rw [if_pos c6] at H
     have c6b0 := decide_eq_true c6
     clear c6
     by_cases c7 : 0 ≤ x16_1
     rotate_left
     ·rw [if_neg c7] at H
      exact absurd H (by simp)
     rw [if_pos c7] at H
     have c7b0 := decide_eq_true c7
     clear c7
     by_cases c8 : x16_1 < (l0_0.length : Int)
     rotate_left
     ·rw [if_neg c8] at H
      exact absurd H (by simp)
     rw [if_pos c8] at H
     have c8b0 := decide_eq_true c8
     clear c8
     have c9b0 := eq_true (qd : 0 ≤ x16_1)
     obtain ⟨ji10, hji10⟩ : ∃ j_ : Int, (shl .i64 1 x16_1) = j_ := ⟨_, rfl⟩
     replace H : ((spec_l1In.f (rd l0_0 x16_1) 0 (wrap64 ((ji10) - 1))).bind fun t368 => (if t368 = true then (spec_poGood.l1 k1 x16_1 (rd l0_0 x16_1) 0 l0_0 (l0_0.length : Int) x16_1 l0_0) else (some false))) = some r := by first | (rw [hji10] at H; exact H) | (simp only [hji10] at H ⊢; exact H)
     have hji10_ : (IntKind.i64.wrap (1 * 2 ^ min x16_1.toNat 64)) = ji10 := hji10
     have hji10z : x16_1 ≤ 64 → (IntKind.i64.wrap (1 * 2 ^ x16_1.toNat)) = ji10 := shl_small hji10
     have hji10u : (IntKind.i64.wrap (2 ^ min x16_1.toNat 64)) = ji10 := by have h_ := hji10_; rw [Int.one_mul] at h_; exact h_
     have hji10v : x16_1 ≤ 64 → (IntKind.i64.wrap (2 ^ x16_1.toNat)) = ji10 := fun hle_ => by have h_ := hji10z hle_; rw [Int.one_mul] at h_; exact h_
     have hji10y : (wrap64 (1 * 2 ^ min x16_1.toNat 64)) = ji10 := (i64_w _).symm.trans hji10_
     have hji10x : x16_1 ≤ 64 → (wrap64 (1 * 2 ^ x16_1.toNat)) = ji10 := fun h_ => (i64_w _).symm.trans (hji10z h_)
     replace H := Option.bind_eq_some_iff.mp H
     obtain ⟨t368, A110, H⟩ := H
     replace H : (if t368 = true then (spec_poGood.l1 k1 x16_1 (rd l0_0 x16_1) 0 l0_0 (l0_0.length : Int) x16_1 l0_0) else (some false)) = some r := H
     have A11 := am A110
     clear A110
     by_cases c12 : t368 = true
     ·subst c12
      have H1 : (spec_poGood.l1 k1 x16_1 (rd l0_0 x16_1) 0 l0_0 (l0_0.length : Int) x16_1 l0_0) = some r := by rw [if_pos rfl] at H; exact H
      clear H
      have H := H1
      clear H1
      have H' := am H
      clear H
      have p367 : 0 ≤ (x16_1 : Int) := qd
      have q367 : x16_1 < (l0_0.length : Int) := qd
      obtain ⟨ad367, e367, hx367_0⟩ := Kd.at_int HR0_0.out x16_1 p367 q367
      cases e367
      replace hx367_0 := (HB.out.cell (World.block_lt_of_cell? w _ hx367_0)).trans hx367_0
      replace p367 := eq_true p367
      replace q367 := eq_true q367
      go_wp2_with (first | ((with_reducible refine gate_callee (f := 90) rfl ?_); refine goesL_ (some 25) rfl rfl Try.func90 (by kernel_rfl) rfl #[.int .i64 (rd l0_0 x16_1), .int .i64 0, .int .i64 (wrap64 ((ji10) - 1))] rfl (by (try simp only [List.map_toArray, List.map_cons, List.map_nil]); first | done | (simp only [hji10]; rfl) | rfl | (simp only [List.length_drop, List.length_take]; rfl)) ?_; (with_reducible refine (spec_l1In.calls (rd l0_0 x16_1) 0 (wrap64 ((ji10) - 1)) true _ A11.out).mono ?_); rintro e w' ⟨rfl, ⟨nd, rfl⟩⟩; refine ⟨_, rfl, ?_⟩))
      go_loopg [6] k1 (fun kq v6 w' => ∃ (x6_2 : Int), v6 = .int .i64 x6_2 ∧ Aside0 (spec_poGood.l1 kq x16_1 (rd l0_0 x16_1) x6_2 l0_0 (l0_0.length : Int) x16_1 l0_0 = some r) ∧ Aside0 (kq ≤ k1) ∧ Aside0 (w'.heap[gb365]? = some (.cells #[(.slice (some ad367) l0_0.length c0_0)] 28 (0, 0))) ∧ Aside0 (Below w.heap.size w w'))
      case atStart => exact ⟨(0), qe, H', ⟨Nat.le_refl _⟩, ⟨qb BK365.out⟩, ⟨qB⟩⟩
      case round =>
       clear H'
       try clear c1
       try clear p2
       try clear c3
       try clear p3
       try clear q3
       try clear hx3
       try clear c6
       try clear c6b0
       try clear p6
       try clear c7
       try clear c7b0
       try clear c8
       try clear c8b0
       try clear c9
       try clear c9b0
       try clear c12
       try clear hcz5_0
       try clear hfz5_0
       try clear hx367_0
       try clear p2
       try clear p367
       try clear q367
       obtain ⟨x6_2, rfl, HA, HK2, BK365, HB⟩ := hrel
       cases gk with
       | zero => exact absurd HA.out (by simp [spec_poGood.l1])
       | succ k2 =>
        have H := HA.out
        clear HA
        simp only [spec_poGood.l1] at H
        by_cases c13 : x6_2 < x16_1
        ·rw [if_pos c13] at H
         have c13b0 := decide_eq_true c13
         clear c13
         by_cases c14 : 0 ≤ x6_2
         rotate_left
         ·rw [if_neg c14] at H
          exact absurd H (by simp)
         rw [if_pos c14] at H
         have c14b0 := eq_true c14
         have c14b1 := decide_eq_true c14
         clear c14
         obtain ⟨ji15, hji15⟩ : ∃ j_ : Int, (shr .i64 (rd l0_0 x16_1) x6_2) = j_ := ⟨_, rfl⟩
         replace H : (if (Int.tmod (ji15) 2) = 1 then (if x6_2 < (l0_0.length : Int) then (if (Go.bits .andNot .i64 (rd l0_0 x6_2) (rd l0_0 x16_1)) = 0 then (spec_poGood.l1 k2 x16_1 (rd l0_0 x16_1) (wrap64 (x6_2 + 1)) l0_0 (l0_0.length : Int) x16_1 l0_0) else (some false)) else (none)) else (spec_poGood.l1 k2 x16_1 (rd l0_0 x16_1) (wrap64 (x6_2 + 1)) l0_0 (l0_0.length : Int) x16_1 l0_0)) = some r := by first | (rw [hji15] at H; exact H) | (simp only [hji15] at H ⊢; exact H)
         have hji15_ : ((rd l0_0 x16_1) / 2 ^ min x6_2.toNat 64) = ji15 := hji15
         have hji15z : x6_2 ≤ 64 → ((rd l0_0 x16_1) / 2 ^ x6_2.toNat) = ji15 := shr_small hji15
         by_cases c16 : (Int.tmod (ji15) 2) = 1
         ·rw [if_pos c16] at H
          have c16b0 : ((Int.tmod (ji15) 2) == 1) = true := beq_iff_eq.mpr c16
          have c16b1 : ((Int.tmod (ji15) 2) != 1) = false := bne_eq_false_iff_eq.mpr c16
          clear c16
          by_cases c17 : x6_2 < (l0_0.length : Int)
          rotate_left
          ·rw [if_neg c17] at H
           exact absurd H (by simp)
          rw [if_pos c17] at H
          have c17b0 := decide_eq_true c17
          clear c17
          by_cases c18 : (Go.bits .andNot .i64 (rd l0_0 x6_2) (rd l0_0 x16_1)) = 0
          ·rw [if_pos c18] at H
           have c18b0 : ((Go.bits .andNot .i64 (rd l0_0 x6_2) (rd l0_0 x16_1)) == 0) = true := beq_iff_eq.mpr c18
           have c18b1 : ((Go.bits .andNot .i64 (rd l0_0 x6_2) (rd l0_0 x16_1)) != 0) = false := bne_eq_false_iff_eq.mpr c18
           clear c18
           have H' := am H
           clear H
           have hcz19_0 := qz wr BK365.out
           have hfz19_0 := blk_frozen BK365.out 0
           have p369 : 0 ≤ (x6_2 : Int) := qd
           have q369 : x6_2 < (l0_0.length : Int) := qd
           obtain ⟨ad369, e369, hx369_0⟩ := Kd.at_int HR0_0.out x6_2 p369 q369
           obtain rfl : ad367 = ad369 := (by injection e369)
           replace hx369_0 := (HB.out.cell (World.block_lt_of_cell? w _ hx369_0)).trans hx369_0
           replace p369 := eq_true p369
           replace q369 := eq_true q369
           go_wp2
           go_roundg k2
           case measure => have := HK1.out; have := HK2.out; omega
           case rel => exact ⟨(wrap64 (x6_2 + 1)), qe, H', ⟨by have := HK1.out; have := HK2.out; omega⟩, ⟨qb BK365.out⟩, ⟨qB⟩⟩
          ·rw [if_neg c18] at H
           have c18b0 : ((Go.bits .andNot .i64 (rd l0_0 x6_2) (rd l0_0 x16_1)) == 0) = false := beq_eq_false_iff_ne.mpr c18
           have c18b1 : ((Go.bits .andNot .i64 (rd l0_0 x6_2) (rd l0_0 x16_1)) != 0) = true := bne_iff_ne.mpr c18
           obtain rfl := Option.some.inj H
           have hcz20_0 := qz wr BK365.out
           have hfz20_0 := blk_frozen BK365.out 0
           have p369 : 0 ≤ (x6_2 : Int) := qd
           have q369 : x6_2 < (l0_0.length : Int) := qd
           obtain ⟨ad369, e369, hx369_0⟩ := Kd.at_int HR0_0.out x6_2 p369 q369
           obtain rfl : ad367 = ad369 := (by injection e369)
           replace hx369_0 := (HB.out.cell (World.block_lt_of_cell? w _ hx369_0)).trans hx369_0
           replace p369 := eq_true p369
           replace q369 := eq_true q369
           go_wp2
           go_ret
           exact ⟨by first | rfl | (simp [errW_none, errW_some] <;> rfl) | (simp only [← hji10, ← hji15]; first | rfl | (simp [errW_none, errW_some] <;> rfl)) | (simp [*, errW_none, errW_some] <;> rfl), qB⟩
         ·rw [if_neg c16] at H
          have c16b0 : ((Int.tmod (ji15) 2) == 1) = false := beq_eq_false_iff_ne.mpr c16
          have c16b1 : ((Int.tmod (ji15) 2) != 1) = true := bne_iff_ne.mpr c16
          have H' := am H
          clear H
          go_wp2
          go_roundg k2
          case measure => have := HK1.out; have := HK2.out; omega
          case rel => exact ⟨(wrap64 (x6_2 + 1)), qe, H', ⟨by have := HK1.out; have := HK2.out; omega⟩, ⟨qb BK365.out⟩, ⟨qB⟩⟩
        ·rw [if_neg c13] at H
         have c13b0 := decide_eq_false c13
         clear c13
         have H' := am H
         clear H
         go_wp2
         go_roundg k2
         case measure => have := HK1.out; have := HK2.out; omega
         case rel => exact ⟨(wrap64 (x16_1 + 1)), qe, H', ⟨by have := HK1.out; have := HK2.out; omega⟩, ⟨qb BK365.out⟩, ⟨qB⟩⟩
     ·replace c12 := Bool.eq_false_iff.mpr c12
      subst c12
      have H1 : (some false) = some r := by rw [if_neg (show ¬ (false = true) by decide)] at H; exact H
      clear H
      have H := H1
      clear H1
      obtain rfl := Option.some.inj H
      have p367 : 0 ≤ (x16_1 : Int) := qd
      have q367 : x16_1 < (l0_0.length : Int) := qd
      obtain ⟨ad367, e367, hx367_0⟩ := Kd.at_int HR0_0.out x16_1 p367 q367
      cases e367
      replace hx367_0 := (HB.out.cell (World.block_lt_of_cell? w _ hx367_0)).trans hx367_0
      replace p367 := eq_true p367
      replace q367 := eq_true q367
      go_wp2_with (first | ((with_reducible refine gate_callee (f := 90) rfl ?_); refine goesL_ (some 25) rfl rfl Try.func90 (by kernel_rfl) rfl #[.int .i64 (rd l0_0 x16_1), .int .i64 0, .int .i64 (wrap64 ((ji10) - 1))] rfl (by (try simp only [List.map_toArray, List.map_cons, List.map_nil]); first | done | (simp only [hji10]; rfl) | rfl | (simp only [List.length_drop, List.length_take]; rfl)) ?_; (with_reducible refine (spec_l1In.calls (rd l0_0 x16_1) 0 (wrap64 ((ji10) - 1)) false _ A11.out).mono ?_); rintro e w' ⟨rfl, ⟨nd, rfl⟩⟩; refine ⟨_, rfl, ?_⟩))
      go_ret
      exact ⟨by first | rfl | (simp [errW_none, errW_some] <;> rfl) | (simp only [← hji10]; first | rfl | (simp [errW_none, errW_some] <;> rfl)) | (simp [*, errW_none, errW_some] <;> rfl), qB⟩
    ·rw [if_neg c6] at H
     have c6b0 := decide_eq_false c6
     clear c6
     obtain rfl := Option.some.inj H
     go_wp2
     go_ret
     exact ⟨qr, qB⟩
 ·replace c3 := Bool.eq_false_iff.mpr c3
  subst c3
  have H1 : (some false) = some r := by rw [if_neg (show ¬ (false = true) by decide)] at H; exact H
  clear H
  have H := H1
  clear H1
  obtain rfl := Option.some.inj H
  go_enter Try.func94, Try.ntmps94
  go_wp2_with (first | ((with_reducible refine gate_dst (N := 1) rfl ?_); refine qx (N := 1) (cs := #[.slice A0_0 l0_0.length c0_0]) (t := 28) ?_; intro gb365 hg w21 hbox hb; have n0_ := am (below_step qB hb); have BK365 := am (hbox); have GW365 := am (qg w hg); have GE365 := am (qg w hg); clear HB; have HB := n0_; clear n0_; clear hb hbox hg; have hcz22_0 := qz w21 BK365.out; have hfz22_0 := blk_frozen BK365.out 0) | ((with_reducible refine gate_callee (f := 90) rfl ?_); refine gL (some 11) Try.func90 #[.int .i64 (l0_0.length : Int), .int .i64 1, .int .i64 10] ?_; (with_reducible refine (spec_l1In.calls (l0_0.length : Int) 1 10 false _ A2.out).mono ?_); rintro e w' ⟨rfl, ⟨nd, rfl⟩⟩; refine ⟨_, rfl, ?_⟩))
  go_ret
  exact ⟨qr, qB⟩
def spec_IsPoset.f (k : Nat) (l0_0 : List Int) : Option (Bool) := (spec_poGood.f k l0_0).bind fun t510 => (some t510)
theorem spec_IsPoset.mono : ∀ a0 k, LeO (spec_IsPoset.f k a0) (spec_IsPoset.f (k + 1) a0) := by
 intro a0 k
 unfold spec_IsPoset.f
 repeat' first
  | (with_reducible exact spec_poGood.mono _ _)
  | (with_reducible exact LeO.refl _)
  | (with_reducible exact LeO.none _)
  | (with_reducible refine LeO.ite ?_ ?_)
  | (with_reducible refine LeO.bind ?_ (fun _ => ?_))
  | exact spec_poGood.mono _ _
  | exact LeO.none _
  | refine LeO.ite ?_ ?_
  | refine LeO.bind ?_ (fun _ => ?_)
set_option maxHeartbeats 8000000 in
set_option maxRecDepth 100000 in
theorem spec_IsPoset.calls (k : Nat) (A0_0 : Option Addr) (c0_0 : Nat) (l0_0 : List Int) (r : Bool) (w : World) (hr0_0 : Kd.C (Kd.int .i64) w A0_0 l0_0.length l0_0) (hc0_0 : l0_0.length ≤ c0_0) (h : spec_IsPoset.f k l0_0 = some r) :
 Calls Try.prog 31 #[.agg #[.slice A0_0 l0_0.length c0_0]] w fun e w' => e = .returned (.bool r) ∧ Below w.heap.size w w' := by
 have hu28 := Try.underlying28
 have HR0_0 := am hr0_0
 have HC0_0 := am hc0_0
 clear hr0_0 hc0_0
 have HB := am (Below.refl w.heap.size w)
 have H : ((spec_poGood.f k l0_0).bind fun t510 => (some t510)) = some r := h
 clear h
 replace H := Option.bind_eq_some_iff.mp H
 obtain ⟨t510, A20, H⟩ := H
 replace H : (some t510) = some r := H
 have A2 := am A20
 clear A20
 obtain rfl := Option.some.inj H
 go_enter Try.func31, Try.ntmps31
 go_wp2_with (first | ((with_reducible refine gate_dst (N := 1) rfl ?_); refine qx (N := 1) (cs := #[.slice A0_0 l0_0.length c0_0]) (t := 28) ?_; intro gb509 hg w3 hbox hb; have n0_ := am (below_step qB hb); have BK509 := am (hbox); have GW509 := am (qg w hg); have GE509 := am (qg w hg); clear HB; have HB := n0_; clear n0_; clear hb hbox hg; have hcz4_0 := qz w3 BK509.out; have hfz4_0 := blk_frozen BK509.out 0) | ((with_reducible refine gate_callee (f := 94) rfl ?_); refine gL (some 4) Try.func94 #[.agg #[.slice A0_0 l0_0.length c0_0]] ?_; (with_reducible refine (spec_poGood.calls k _ _ l0_0 t510 _ ?side1 ?side2 A2.out).mono ?_); (case side1 => exact qC (Kd.C_below HR0_0.out HB.out)); (case side2 => exact HC0_0.out); rintro e w5 ⟨rfl, hb⟩; refine ⟨_, rfl, ?_⟩; replace BK509 := am (blk_below (g := gb509) (o := .cells #[.slice A0_0 l0_0.length c0_0] 28 (0, 0)) (qb BK509.out) hb); replace HB := am (below_step qB hb); (try clear hb); (try clear hb2); (try clear hk); (try clear hi)))
 go_ret
 exact ⟨qr, qB⟩
def spec_poIn.f (a0 : Int) (a1 : Int) : Option (Bool) := if 0 ≤ a1 then (some ((Int.tmod (shr .i64 a0 a1) 2) == 1)) else (none)
set_option maxHeartbeats 8000000 in
set_option maxRecDepth 100000 in
theorem spec_poIn.calls (a0 : Int) (a1 : Int) (r : Bool) (w : World) (h : spec_poIn.f a0 a1 = some r) :
 Calls Try.prog 156 #[.int .i64 a0, .int .i64 a1] w fun e w' => e = .returned (.bool r) ∧ Drawn0 w w' := by
 have H : (if 0 ≤ a1 then (some ((Int.tmod (shr .i64 a0 a1) 2) == 1)) else (none)) = some r := h
 clear h
 by_cases c3 : 0 ≤ a1
 ·rw [if_pos c3] at H
  have c3b0 := eq_true c3
  have c3b1 := decide_eq_true c3
  clear c3
  obtain ⟨ji4, hji4⟩ : ∃ j_ : Int, (shr .i64 a0 a1) = j_ := ⟨_, rfl⟩
  replace H : (some ((Int.tmod (ji4) 2) == 1)) = some r := by first | (rw [hji4] at H; exact H) | (simp only [hji4] at H ⊢; exact H)
  have hji4_ : (a0 / 2 ^ min a1.toNat 64) = ji4 := hji4
  have hji4z : a1 ≤ 64 → (a0 / 2 ^ a1.toNat) = ji4 := shr_small hji4
  obtain rfl := Option.some.inj H
  go_enter Try.func156, Try.ntmps156
  go_wp2
  go_ret
  exact ⟨by first | rfl | (simp; done) | (simp only [← hji4] <;> (first | rfl | simp)) | (simp [*]; done), by repeat (first | exact Drawn0.refl _ | apply Drawn0.step)⟩
 ·rw [if_neg c3] at H
  exact absurd H (by simp)
def spec_poBottom.l0 : Nat → Int → Int → List Int → Int → Int → Option (Int)
 | 0, _, _, _, _, _ => none
 | k + 1, x1, x5, x9, x10, x11 => if x11 < x10 then (if 0 ≤ x11 then (if x11 < (x9.length : Int) then ((spec_poIn.f x1 x11).bind fun t572 => (if t572 = true then (if (Go.bits .and .i64 (rd x9 x11) x1) = 0 then (spec_poBottom.l0 k x1 (Go.bits .or .i64 x5 (shl .i64 1 x11)) x9 x10 (wrap64 (x11 + 1))) else (spec_poBottom.l0 k x1 x5 x9 x10 (wrap64 (x11 + 1)))) else (spec_poBottom.l0 k x1 x5 x9 x10 (wrap64 (x11 + 1))))) else (none)) else (none)) else (some x5)
def spec_poBottom.f (k : Nat) (l0_0 : List Int) (a1 : Int) : Option (Int) := spec_poBottom.l0 k a1 0 l0_0 (l0_0.length : Int) 0
theorem spec_poBottom.mono_l : ∀ k, (∀ y0 y1 y2 y3 y4, LeO (spec_poBottom.l0 k y0 y1 y2 y3 y4) (spec_poBottom.l0 (k + 1) y0 y1 y2 y3 y4))
 | 0 => fun _ _ _ _ _ r h => by simp [spec_poBottom.l0] at h
 | k + 1 => by
  have ih0 := spec_poBottom.mono_l k
  ·intro y0 y1 y2 y3 y4
   unfold spec_poBottom.l0
   repeat' first
   | (with_reducible exact LeO.refl _)
   | (with_reducible exact LeO.none _)
   | (with_reducible refine LeO.ite ?_ ?_)
   | (with_reducible refine LeO.bind ?_ (fun _ => ?_))
   | exact ih0 _ _ _ _ _
   | exact LeO.none _
   | refine LeO.ite ?_ ?_
   | refine LeO.bind ?_ (fun _ => ?_)
theorem spec_poBottom.mono : ∀ a0 a1 k, LeO (spec_poBottom.f k a0 a1) (spec_poBottom.f (k + 1) a0 a1) := by
 intro a0 a1 k
 have ih0 := spec_poBottom.mono_l k
 unfold spec_poBottom.f
 repeat' first
  | (with_reducible exact LeO.refl _)
  | (with_reducible exact LeO.none _)
  | (with_reducible refine LeO.ite ?_ ?_)
  | (with_reducible refine LeO.bind ?_ (fun _ => ?_))
  | exact ih0 _ _ _ _ _
  | exact LeO.none _
  | refine LeO.ite ?_ ?_
  | refine LeO.bind ?_ (fun _ => ?_)
set_option maxHeartbeats 8000000 in
set_option maxRecDepth 100000 in
theorem spec_poBottom.calls (k : Nat) (A0_0 : Option Addr) (c0_0 : Nat) (l0_0 : List Int) (a1 : Int) (r : Int) (w : World) (hr0_0 : Kd.C (Kd.int .i64) w A0_0 l0_0.length l0_0) (hc0_0 : l0_0.length ≤ c0_0) (h : spec_poBottom.f k l0_0 a1 = some r) :
 Calls Try.prog 111 #[.agg #[.slice A0_0 l0_0.length c0_0], .int .i64 a1] w fun e w' => e = .returned (.int .i64 r) ∧ Below w.heap.size w w' := by
 have hu28 := Try.underlying28
 have HR0_0 := am hr0_0
 have HC0_0 := am hc0_0
 clear hr0_0 hc0_0
 have HB := am (Below.refl w.heap.size w)
 have H : (spec_poBottom.l0 k a1 0 l0_0 (l0_0.length : Int) 0) = some r := h
 clear h
 have H' := am H
 clear H
 go_enter Try.func111, Try.ntmps111
 go_wp2_with (first | ((with_reducible refine gate_dst (N := 2) rfl ?_); refine qx (N := 2) (cs := #[.slice A0_0 l0_0.length c0_0]) (t := 28) ?_; intro gb570 hg w3 hbox hb; have n0_ := am (below_step qB hb); have BK570 := am (hbox); have GW570 := am (qg w hg); have GE570 := am (qg w hg); clear HB; have HB := n0_; clear n0_; clear hb hbox hg; have hcz4_0 := qz w3 BK570.out; have hfz4_0 := blk_frozen BK570.out 0))
 go_loopg [5, 11] k (fun kq v5 v11 w' => ∃ (x5_1 : Int) (x11_1 : Int), v5 = .int .i64 x5_1 ∧ v11 = .int .i64 x11_1 ∧ Aside0 (spec_poBottom.l0 kq a1 x5_1 l0_0 (l0_0.length : Int) x11_1 = some r) ∧ Aside0 (kq ≤ k) ∧ Aside0 (w'.heap[gb570]? = some (.cells #[(.slice A0_0 l0_0.length c0_0)] 28 (0, 0))) ∧ Aside0 (Below w.heap.size w w'))
 case atStart => exact ⟨(0), (0), qe, qe, H', ⟨Nat.le_refl _⟩, ⟨qb BK570.out⟩, ⟨qB⟩⟩
 case round =>
  clear H'
  try clear c1
  try clear p2
  try clear hcz4_0
  try clear hfz4_0
  obtain ⟨x5_1, x11_1, rfl, rfl, HA, HK1, BK570, HB⟩ := hrel
  cases gk with
  | zero => exact absurd HA.out (by simp [spec_poBottom.l0])
  | succ k1 =>
   have H := HA.out
   clear HA
   simp only [spec_poBottom.l0] at H
   by_cases c5 : x11_1 < (l0_0.length : Int)
   ·rw [if_pos c5] at H
    have c5b0 := decide_eq_true c5
    clear c5
    by_cases c6 : 0 ≤ x11_1
    rotate_left
    ·rw [if_neg c6] at H
     exact absurd H (by simp)
    rw [if_pos c6] at H
    have c6b0 := decide_eq_true c6
    clear c6
    by_cases c7 : x11_1 < (l0_0.length : Int)
    rotate_left
    ·rw [if_neg c7] at H
     exact absurd H (by simp)
    rw [if_pos c7] at H
    have c7b0 := decide_eq_true c7
    clear c7
    replace H := Option.bind_eq_some_iff.mp H
    obtain ⟨t572, A80, H⟩ := H
    replace H : (if t572 = true then (if (Go.bits .and .i64 (rd l0_0 x11_1) a1) = 0 then (spec_poBottom.l0 k1 a1 (Go.bits .or .i64 x5_1 (shl .i64 1 x11_1)) l0_0 (l0_0.length : Int) (wrap64 (x11_1 + 1))) else (spec_poBottom.l0 k1 a1 x5_1 l0_0 (l0_0.length : Int) (wrap64 (x11_1 + 1)))) else (spec_poBottom.l0 k1 a1 x5_1 l0_0 (l0_0.length : Int) (wrap64 (x11_1 + 1)))) = some r := H
    have A8 := am A80
    clear A80
    by_cases c9 : t572 = true
    ·subst c9
     have H1 : (if (Go.bits .and .i64 (rd l0_0 x11_1) a1) = 0 then (spec_poBottom.l0 k1 a1 (Go.bits .or .i64 x5_1 (shl .i64 1 x11_1)) l0_0 (l0_0.length : Int) (wrap64 (x11_1 + 1))) else (spec_poBottom.l0 k1 a1 x5_1 l0_0 (l0_0.length : Int) (wrap64 (x11_1 + 1)))) = some r := by rw [if_pos rfl] at H; exact H
     clear H
     have H := H1
     clear H1
     by_cases c10 : (Go.bits .and .i64 (rd l0_0 x11_1) a1) = 0
     ·rw [if_pos c10] at H
      have c10b0 : ((Go.bits .and .i64 (rd l0_0 x11_1) a1) == 0) = true := beq_iff_eq.mpr c10
      have c10b1 : ((Go.bits .and .i64 (rd l0_0 x11_1) a1) != 0) = false := bne_eq_false_iff_eq.mpr c10
      clear c10
      have c11b0 := eq_true (qd : 0 ≤ x11_1)
      obtain ⟨ji12, hji12⟩ : ∃ j_ : Int, (shl .i64 1 x11_1) = j_ := ⟨_, rfl⟩
      replace H : (spec_poBottom.l0 k1 a1 (Go.bits .or .i64 x5_1 (ji12)) l0_0 (l0_0.length : Int) (wrap64 (x11_1 + 1))) = some r := by first | (rw [hji12] at H; exact H) | (simp only [hji12] at H ⊢; exact H)
      (try rw [hji12] at A8)
      have hji12_ : (IntKind.i64.wrap (1 * 2 ^ min x11_1.toNat 64)) = ji12 := hji12
      have hji12z : x11_1 ≤ 64 → (IntKind.i64.wrap (1 * 2 ^ x11_1.toNat)) = ji12 := shl_small hji12
      have hji12u : (IntKind.i64.wrap (2 ^ min x11_1.toNat 64)) = ji12 := by have h_ := hji12_; rw [Int.one_mul] at h_; exact h_
      have hji12v : x11_1 ≤ 64 → (IntKind.i64.wrap (2 ^ x11_1.toNat)) = ji12 := fun hle_ => by have h_ := hji12z hle_; rw [Int.one_mul] at h_; exact h_
      have hji12y : (wrap64 (1 * 2 ^ min x11_1.toNat 64)) = ji12 := (i64_w _).symm.trans hji12_
      have hji12x : x11_1 ≤ 64 → (wrap64 (1 * 2 ^ x11_1.toNat)) = ji12 := fun h_ => (i64_w _).symm.trans (hji12z h_)
      have H' := am H
      clear H
      have p571 : 0 ≤ (x11_1 : Int) := qd
      have q571 : x11_1 < (l0_0.length : Int) := qd
      obtain ⟨ad571, e571, hx571_0⟩ := Kd.at_int HR0_0.out x11_1 p571 q571
      cases e571
      replace hx571_0 := (HB.out.cell (World.block_lt_of_cell? w _ hx571_0)).trans hx571_0
      replace p571 := eq_true p571
      replace q571 := eq_true q571
      go_wp2_with (first | ((with_reducible refine gate_callee (f := 156) rfl ?_); refine gL (some 18) Try.func156 #[.int .i64 a1, .int .i64 x11_1] ?_; (with_reducible refine (spec_poIn.calls a1 x11_1 true _ A8.out).mono ?_); rintro e w' ⟨rfl, ⟨nd, rfl⟩⟩; refine ⟨_, rfl, ?_⟩))
      go_roundg k1
      case measure => have := HK1.out; omega
      case rel => exact ⟨(Go.bits .or .i64 x5_1 (ji12)), (wrap64 (x11_1 + 1)), (by first | rfl | (simp; done) | (simp only [← hji12] <;> (first | rfl | simp)) | (simp [*]; done)), qe, H', ⟨by have := HK1.out; omega⟩, ⟨qb BK570.out⟩, ⟨qB⟩⟩
     ·rw [if_neg c10] at H
      have c10b0 : ((Go.bits .and .i64 (rd l0_0 x11_1) a1) == 0) = false := beq_eq_false_iff_ne.mpr c10
      have c10b1 : ((Go.bits .and .i64 (rd l0_0 x11_1) a1) != 0) = true := bne_iff_ne.mpr c10
      have H' := am H
      clear H
      have p571 : 0 ≤ (x11_1 : Int) := qd
      have q571 : x11_1 < (l0_0.length : Int) := qd
      obtain ⟨ad571, e571, hx571_0⟩ := Kd.at_int HR0_0.out x11_1 p571 q571
      cases e571
      replace hx571_0 := (HB.out.cell (World.block_lt_of_cell? w _ hx571_0)).trans hx571_0
      replace p571 := eq_true p571
      replace q571 := eq_true q571
      go_wp2_with (first | ((with_reducible refine gate_callee (f := 156) rfl ?_); refine gL (some 18) Try.func156 #[.int .i64 a1, .int .i64 x11_1] ?_; (with_reducible refine (spec_poIn.calls a1 x11_1 true _ A8.out).mono ?_); rintro e w' ⟨rfl, ⟨nd, rfl⟩⟩; refine ⟨_, rfl, ?_⟩))
      go_roundg k1
      case measure => have := HK1.out; omega
      case rel => exact ⟨(x5_1), (wrap64 (x11_1 + 1)), qe, qe, H', ⟨by have := HK1.out; omega⟩, ⟨qb BK570.out⟩, ⟨qB⟩⟩
    ·replace c9 := Bool.eq_false_iff.mpr c9
     subst c9
     have H1 : (spec_poBottom.l0 k1 a1 x5_1 l0_0 (l0_0.length : Int) (wrap64 (x11_1 + 1))) = some r := by rw [if_neg (show ¬ (false = true) by decide)] at H; exact H
     clear H
     have H := H1
     clear H1
     have H' := am H
     clear H
     have p571 : 0 ≤ (x11_1 : Int) := qd
     have q571 : x11_1 < (l0_0.length : Int) := qd
     obtain ⟨ad571, e571, hx571_0⟩ := Kd.at_int HR0_0.out x11_1 p571 q571
     cases e571
     replace hx571_0 := (HB.out.cell (World.block_lt_of_cell? w _ hx571_0)).trans hx571_0
     replace p571 := eq_true p571
     replace q571 := eq_true q571
     go_wp2_with (first | ((with_reducible refine gate_callee (f := 156) rfl ?_); refine gL (some 18) Try.func156 #[.int .i64 a1, .int .i64 x11_1] ?_; (with_reducible refine (spec_poIn.calls a1 x11_1 false _ A8.out).mono ?_); rintro e w' ⟨rfl, ⟨nd, rfl⟩⟩; refine ⟨_, rfl, ?_⟩))
     go_roundg k1
     case measure => have := HK1.out; omega
     case rel => exact ⟨(x5_1), (wrap64 (x11_1 + 1)), qe, qe, H', ⟨by have := HK1.out; omega⟩, ⟨qb BK570.out⟩, ⟨qB⟩⟩
   ·rw [if_neg c5] at H
    have c5b0 := decide_eq_false c5
    clear c5
    obtain rfl := Option.some.inj H
    go_wp2
    go_ret
    exact ⟨qr, qB⟩
def spec_poDown.l0 : Nat → Int → Int → List Int → Int → Int → Option (Int)
 | 0, _, _, _, _, _ => none
 | k + 1, x1, x5, x10, x11, x12 => if x12 < x11 then (if 0 ≤ x12 then (if x12 < (x10.length : Int) then ((spec_poIn.f x1 x12).bind fun t527 => (if t527 = true then (spec_poDown.l0 k x1 (Go.bits .or .i64 x5 (rd x10 x12)) x10 x11 (wrap64 (x12 + 1))) else (spec_poDown.l0 k x1 x5 x10 x11 (wrap64 (x12 + 1))))) else (none)) else (none)) else (some x5)
def spec_poDown.f (k : Nat) (l0_0 : List Int) (a1 : Int) : Option (Int) := spec_poDown.l0 k a1 a1 l0_0 (l0_0.length : Int) 0
theorem spec_poDown.mono_l : ∀ k, (∀ y0 y1 y2 y3 y4, LeO (spec_poDown.l0 k y0 y1 y2 y3 y4) (spec_poDown.l0 (k + 1) y0 y1 y2 y3 y4))
 | 0 => fun _ _ _ _ _ r h => by simp [spec_poDown.l0] at h
 | k + 1 => by
  have ih0 := spec_poDown.mono_l k
  ·intro y0 y1 y2 y3 y4
   unfold spec_poDown.l0
   repeat' first
   | (with_reducible exact LeO.refl _)
   | (with_reducible exact LeO.none _)
   | (with_reducible refine LeO.ite ?_ ?_)
   | (with_reducible refine LeO.bind ?_ (fun _ => ?_))
   | exact ih0 _ _ _ _ _
   | exact LeO.none _
   | refine LeO.ite ?_ ?_
   | refine LeO.bind ?_ (fun _ => ?_)
theorem spec_poDown.mono : ∀ a0 a1 k, LeO (spec_poDown.f k a0 a1) (spec_poDown.f (k + 1) a0 a1) := by
 intro a0 a1 k
 have ih0 := spec_poDown.mono_l k
 unfold spec_poDown.f
 repeat' first
  | (with_reducible exact LeO.refl _)
  | (with_reducible exact LeO.none _)
  | (with_reducible refine LeO.ite ?_ ?_)
  | (with_reducible refine LeO.bind ?_ (fun _ => ?_))
  | exact ih0 _ _ _ _ _
  | exact LeO.none _
  | refine LeO.ite ?_ ?_
  | refine LeO.bind ?_ (fun _ => ?_)
set_option maxHeartbeats 8000000 in
set_option maxRecDepth 100000 in
theorem spec_poDown.calls (k : Nat) (A0_0 : Option Addr) (c0_0 : Nat) (l0_0 : List Int) (a1 : Int) (r : Int) (w : World) (hr0_0 : Kd.C (Kd.int .i64) w A0_0 l0_0.length l0_0) (hc0_0 : l0_0.length ≤ c0_0) (h : spec_poDown.f k l0_0 a1 = some r) :
 Calls Try.prog 109 #[.agg #[.slice A0_0 l0_0.length c0_0], .int .i64 a1] w fun e w' => e = .returned (.int .i64 r) ∧ Below w.heap.size w w' := by
 have hu28 := Try.underlying28
 have HR0_0 := am hr0_0
 have HC0_0 := am hc0_0
 clear hr0_0 hc0_0
 have HB := am (Below.refl w.heap.size w)
 have H : (spec_poDown.l0 k a1 a1 l0_0 (l0_0.length : Int) 0) = some r := h
 clear h
 have H' := am H
 clear H
 go_enter Try.func109, Try.ntmps109
 go_wp2_with (first | ((with_reducible refine gate_dst (N := 2) rfl ?_); refine qx (N := 2) (cs := #[.slice A0_0 l0_0.length c0_0]) (t := 28) ?_; intro gb525 hg w3 hbox hb; have n0_ := am (below_step qB hb); have BK525 := am (hbox); have GW525 := am (qg w hg); have GE525 := am (qg w hg); clear HB; have HB := n0_; clear n0_; clear hb hbox hg; have hcz4_0 := qz w3 BK525.out; have hfz4_0 := blk_frozen BK525.out 0))
 go_loopg [5, 12] k (fun kq v5 v12 w' => ∃ (x5_1 : Int) (x12_1 : Int), v5 = .int .i64 x5_1 ∧ v12 = .int .i64 x12_1 ∧ Aside0 (spec_poDown.l0 kq a1 x5_1 l0_0 (l0_0.length : Int) x12_1 = some r) ∧ Aside0 (kq ≤ k) ∧ Aside0 (w'.heap[gb525]? = some (.cells #[(.slice A0_0 l0_0.length c0_0)] 28 (0, 0))) ∧ Aside0 (Below w.heap.size w w'))
 case atStart => exact ⟨(a1), (0), qe, qe, H', ⟨Nat.le_refl _⟩, ⟨qb BK525.out⟩, ⟨qB⟩⟩
 case round =>
  clear H'
  try clear c1
  try clear p2
  try clear hcz4_0
  try clear hfz4_0
  obtain ⟨x5_1, x12_1, rfl, rfl, HA, HK1, BK525, HB⟩ := hrel
  cases gk with
  | zero => exact absurd HA.out (by simp [spec_poDown.l0])
  | succ k1 =>
   have H := HA.out
   clear HA
   simp only [spec_poDown.l0] at H
   by_cases c5 : x12_1 < (l0_0.length : Int)
   ·rw [if_pos c5] at H
    have c5b0 := decide_eq_true c5
    clear c5
    by_cases c6 : 0 ≤ x12_1
    rotate_left
    ·rw [if_neg c6] at H
     exact absurd H (by simp)
    rw [if_pos c6] at H
    have c6b0 := decide_eq_true c6
    clear c6
    by_cases c7 : x12_1 < (l0_0.length : Int)
    rotate_left
    ·rw [if_neg c7] at H
     exact absurd H (by simp)
    rw [if_pos c7] at H
    have c7b0 := decide_eq_true c7
    clear c7
    replace H := Option.bind_eq_some_iff.mp H
    obtain ⟨t527, A80, H⟩ := H
    replace H : (if t527 = true then (spec_poDown.l0 k1 a1 (Go.bits .or .i64 x5_1 (rd l0_0 x12_1)) l0_0 (l0_0.length : Int) (wrap64 (x12_1 + 1))) else (spec_poDown.l0 k1 a1 x5_1 l0_0 (l0_0.length : Int) (wrap64 (x12_1 + 1)))) = some r := H
    have A8 := am A80
    clear A80
    by_cases c9 : t527 = true
    ·subst c9
     have H1 : (spec_poDown.l0 k1 a1 (Go.bits .or .i64 x5_1 (rd l0_0 x12_1)) l0_0 (l0_0.length : Int) (wrap64 (x12_1 + 1))) = some r := by rw [if_pos rfl] at H; exact H
     clear H
     have H := H1
     clear H1
     have H' := am H
     clear H
     have p526 : 0 ≤ (x12_1 : Int) := qd
     have q526 : x12_1 < (l0_0.length : Int) := qd
     obtain ⟨ad526, e526, hx526_0⟩ := Kd.at_int HR0_0.out x12_1 p526 q526
     cases e526
     replace hx526_0 := (HB.out.cell (World.block_lt_of_cell? w _ hx526_0)).trans hx526_0
     replace p526 := eq_true p526
     replace q526 := eq_true q526
     go_wp2_with (first | ((with_reducible refine gate_callee (f := 156) rfl ?_); refine gL (some 19) Try.func156 #[.int .i64 a1, .int .i64 x12_1] ?_; (with_reducible refine (spec_poIn.calls a1 x12_1 true _ A8.out).mono ?_); rintro e w' ⟨rfl, ⟨nd, rfl⟩⟩; refine ⟨_, rfl, ?_⟩))
     go_roundg k1
     case measure => have := HK1.out; omega
     case rel => exact ⟨(Go.bits .or .i64 x5_1 (rd l0_0 x12_1)), (wrap64 (x12_1 + 1)), qe, qe, H', ⟨by have := HK1.out; omega⟩, ⟨qb BK525.out⟩, ⟨qB⟩⟩
    ·replace c9 := Bool.eq_false_iff.mpr c9
     subst c9
     have H1 : (spec_poDown.l0 k1 a1 x5_1 l0_0 (l0_0.length : Int) (wrap64 (x12_1 + 1))) = some r := by rw [if_neg (show ¬ (false = true) by decide)] at H; exact H
     clear H
     have H := H1
     clear H1
     have H' := am H
     clear H
     have p526 : 0 ≤ (x12_1 : Int) := qd
     have q526 : x12_1 < (l0_0.length : Int) := qd
     obtain ⟨ad526, e526, hx526_0⟩ := Kd.at_int HR0_0.out x12_1 p526 q526
     cases e526
     replace hx526_0 := (HB.out.cell (World.block_lt_of_cell? w _ hx526_0)).trans hx526_0
     replace p526 := eq_true p526
     replace q526 := eq_true q526
     go_wp2_with (first | ((with_reducible refine gate_callee (f := 156) rfl ?_); refine gL (some 19) Try.func156 #[.int .i64 a1, .int .i64 x12_1] ?_; (with_reducible refine (spec_poIn.calls a1 x12_1 false _ A8.out).mono ?_); rintro e w' ⟨rfl, ⟨nd, rfl⟩⟩; refine ⟨_, rfl, ?_⟩))
     go_roundg k1
     case measure => have := HK1.out; omega
     case rel => exact ⟨(x5_1), (wrap64 (x12_1 + 1)), qe, qe, H', ⟨by have := HK1.out; omega⟩, ⟨qb BK525.out⟩, ⟨qB⟩⟩
   ·rw [if_neg c5] at H
    have c5b0 := decide_eq_false c5
    clear c5
    obtain rfl := Option.some.inj H
    go_wp2
    go_ret
    exact ⟨qr, qB⟩
def spec_poIdeal.l0 : Nat → Int → List Int → Int → Int → Option (Bool)
 | 0, _, _, _, _ => none
 | k + 1, x1, x8, x9, x10 => if x10 < x9 then (if 0 ≤ x10 then (if x10 < (x8.length : Int) then ((spec_poIn.f x1 x10).bind fun t489 => (if t489 = true then (if (Go.bits .andNot .i64 (rd x8 x10) x1) = 0 then (spec_poIdeal.l0 k x1 x8 x9 (wrap64 (x10 + 1))) else (some false)) else (spec_poIdeal.l0 k x1 x8 x9 (wrap64 (x10 + 1))))) else (none)) else (none)) else (some true)
def spec_poIdeal.f (k : Nat) (l0_0 : List Int) (a1 : Int) : Option (Bool) := spec_poIdeal.l0 k a1 l0_0 (l0_0.length : Int) 0
theorem spec_poIdeal.mono_l : ∀ k, (∀ y0 y1 y2 y3, LeO (spec_poIdeal.l0 k y0 y1 y2 y3) (spec_poIdeal.l0 (k + 1) y0 y1 y2 y3))
 | 0 => fun _ _ _ _ r h => by simp [spec_poIdeal.l0] at h
 | k + 1 => by
  have ih0 := spec_poIdeal.mono_l k
  ·intro y0 y1 y2 y3
   unfold spec_poIdeal.l0
   repeat' first
   | (with_reducible exact LeO.refl _)
   | (with_reducible exact LeO.none _)
   | (with_reducible refine LeO.ite ?_ ?_)
   | (with_reducible refine LeO.bind ?_ (fun _ => ?_))
   | exact ih0 _ _ _ _
   | exact LeO.none _
   | refine LeO.ite ?_ ?_
   | refine LeO.bind ?_ (fun _ => ?_)
theorem spec_poIdeal.mono : ∀ a0 a1 k, LeO (spec_poIdeal.f k a0 a1) (spec_poIdeal.f (k + 1) a0 a1) := by
 intro a0 a1 k
 have ih0 := spec_poIdeal.mono_l k
 unfold spec_poIdeal.f
 repeat' first
  | (with_reducible exact LeO.refl _)
  | (with_reducible exact LeO.none _)
  | (with_reducible refine LeO.ite ?_ ?_)
  | (with_reducible refine LeO.bind ?_ (fun _ => ?_))
  | exact ih0 _ _ _ _
  | exact LeO.none _
  | refine LeO.ite ?_ ?_
  | refine LeO.bind ?_ (fun _ => ?_)
set_option maxHeartbeats 8000000 in
set_option maxRecDepth 100000 in
theorem spec_poIdeal.calls (k : Nat) (A0_0 : Option Addr) (c0_0 : Nat) (l0_0 : List Int) (a1 : Int) (r : Bool) (w : World) (hr0_0 : Kd.C (Kd.int .i64) w A0_0 l0_0.length l0_0) (hc0_0 : l0_0.length ≤ c0_0) (h : spec_poIdeal.f k l0_0 a1 = some r) :
 Calls Try.prog 112 #[.agg #[.slice A0_0 l0_0.length c0_0], .int .i64 a1] w fun e w' => e = .returned (.bool r) ∧ Below w.heap.size w w' := by
 have hu28 := Try.underlying28
 have HR0_0 := am hr0_0
 have HC0_0 := am hc0_0
 clear hr0_0 hc0_0
 have HB := am (Below.refl w.heap.size w)
 have H : (spec_poIdeal.l0 k a1 l0_0 (l0_0.length : Int) 0) = some r := h
 clear h
 have H' := am H
 clear H
 go_enter Try.func112, Try.ntmps112
 go_wp2_with (first | ((with_reducible refine gate_dst (N := 2) rfl ?_); refine qx (N := 2) (cs := #[.slice A0_0 l0_0.length c0_0]) (t := 28) ?_; intro gb487 hg w3 hbox hb; have n0_ := am (below_step qB hb); have BK487 := am (hbox); have GW487 := am (qg w hg); have GE487 := am (qg w hg); clear HB; have HB := n0_; clear n0_; clear hb hbox hg; have hcz4_0 := qz w3 BK487.out; have hfz4_0 := blk_frozen BK487.out 0))
 go_loopg [10] k (fun kq v10 w' => ∃ (x10_1 : Int), v10 = .int .i64 x10_1 ∧ Aside0 (spec_poIdeal.l0 kq a1 l0_0 (l0_0.length : Int) x10_1 = some r) ∧ Aside0 (kq ≤ k) ∧ Aside0 (w'.heap[gb487]? = some (.cells #[(.slice A0_0 l0_0.length c0_0)] 28 (0, 0))) ∧ Aside0 (Below w.heap.size w w'))
 case atStart => exact ⟨(0), qe, H', ⟨Nat.le_refl _⟩, ⟨qb BK487.out⟩, ⟨qB⟩⟩
 case round =>
  clear H'
  try clear c1
  try clear p2
  try clear hcz4_0
  try clear hfz4_0
  obtain ⟨x10_1, rfl, HA, HK1, BK487, HB⟩ := hrel
  cases gk with
  | zero => exact absurd HA.out (by simp [spec_poIdeal.l0])
  | succ k1 =>
   have H := HA.out
   clear HA
   simp only [spec_poIdeal.l0] at H
   by_cases c5 : x10_1 < (l0_0.length : Int)
   ·rw [if_pos c5] at H
    have c5b0 := decide_eq_true c5
    clear c5
    by_cases c6 : 0 ≤ x10_1
    rotate_left
    ·rw [if_neg c6] at H
     exact absurd H (by simp)
    rw [if_pos c6] at H
    have c6b0 := decide_eq_true c6
    clear c6
    by_cases c7 : x10_1 < (l0_0.length : Int)
    rotate_left
    ·rw [if_neg c7] at H
     exact absurd H (by simp)
    rw [if_pos c7] at H
    have c7b0 := decide_eq_true c7
    clear c7
    replace H := Option.bind_eq_some_iff.mp H
    obtain ⟨t489, A80, H⟩ := H
    replace H : (if t489 = true then (if (Go.bits .andNot .i64 (rd l0_0 x10_1) a1) = 0 then (spec_poIdeal.l0 k1 a1 l0_0 (l0_0.length : Int) (wrap64 (x10_1 + 1))) else (some false)) else (spec_poIdeal.l0 k1 a1 l0_0 (l0_0.length : Int) (wrap64 (x10_1 + 1)))) = some r := H
    have A8 := am A80
    clear A80
    by_cases c9 : t489 = true
    ·subst c9
     have H1 : (if (Go.bits .andNot .i64 (rd l0_0 x10_1) a1) = 0 then (spec_poIdeal.l0 k1 a1 l0_0 (l0_0.length : Int) (wrap64 (x10_1 + 1))) else (some false)) = some r := by rw [if_pos rfl] at H; exact H
     clear H
     have H := H1
     clear H1
     by_cases c10 : (Go.bits .andNot .i64 (rd l0_0 x10_1) a1) = 0
     ·rw [if_pos c10] at H
      have c10b0 : ((Go.bits .andNot .i64 (rd l0_0 x10_1) a1) == 0) = true := beq_iff_eq.mpr c10
      have c10b1 : ((Go.bits .andNot .i64 (rd l0_0 x10_1) a1) != 0) = false := bne_eq_false_iff_eq.mpr c10
      clear c10
      have H' := am H
      clear H
      have p488 : 0 ≤ (x10_1 : Int) := qd
      have q488 : x10_1 < (l0_0.length : Int) := qd
      obtain ⟨ad488, e488, hx488_0⟩ := Kd.at_int HR0_0.out x10_1 p488 q488
      cases e488
      replace hx488_0 := (HB.out.cell (World.block_lt_of_cell? w _ hx488_0)).trans hx488_0
      replace p488 := eq_true p488
      replace q488 := eq_true q488
      go_wp2_with (first | ((with_reducible refine gate_callee (f := 156) rfl ?_); refine gL (some 17) Try.func156 #[.int .i64 a1, .int .i64 x10_1] ?_; (with_reducible refine (spec_poIn.calls a1 x10_1 true _ A8.out).mono ?_); rintro e w' ⟨rfl, ⟨nd, rfl⟩⟩; refine ⟨_, rfl, ?_⟩))
      go_roundg k1
      case measure => have := HK1.out; omega
      case rel => exact ⟨(wrap64 (x10_1 + 1)), qe, H', ⟨by have := HK1.out; omega⟩, ⟨qb BK487.out⟩, ⟨qB⟩⟩
     ·rw [if_neg c10] at H
      have c10b0 : ((Go.bits .andNot .i64 (rd l0_0 x10_1) a1) == 0) = false := beq_eq_false_iff_ne.mpr c10
      have c10b1 : ((Go.bits .andNot .i64 (rd l0_0 x10_1) a1) != 0) = true := bne_iff_ne.mpr c10
      obtain rfl := Option.some.inj H
      have p488 : 0 ≤ (x10_1 : Int) := qd
      have q488 : x10_1 < (l0_0.length : Int) := qd
      obtain ⟨ad488, e488, hx488_0⟩ := Kd.at_int HR0_0.out x10_1 p488 q488
      cases e488
      replace hx488_0 := (HB.out.cell (World.block_lt_of_cell? w _ hx488_0)).trans hx488_0
      replace p488 := eq_true p488
      replace q488 := eq_true q488
      go_wp2_with (first | ((with_reducible refine gate_callee (f := 156) rfl ?_); refine gL (some 17) Try.func156 #[.int .i64 a1, .int .i64 x10_1] ?_; (with_reducible refine (spec_poIn.calls a1 x10_1 true _ A8.out).mono ?_); rintro e w' ⟨rfl, ⟨nd, rfl⟩⟩; refine ⟨_, rfl, ?_⟩))
      go_ret
      exact ⟨qr, qB⟩
    ·replace c9 := Bool.eq_false_iff.mpr c9
     subst c9
     have H1 : (spec_poIdeal.l0 k1 a1 l0_0 (l0_0.length : Int) (wrap64 (x10_1 + 1))) = some r := by rw [if_neg (show ¬ (false = true) by decide)] at H; exact H
     clear H
     have H := H1
     clear H1
     have H' := am H
     clear H
     have p488 : 0 ≤ (x10_1 : Int) := qd
     have q488 : x10_1 < (l0_0.length : Int) := qd
     obtain ⟨ad488, e488, hx488_0⟩ := Kd.at_int HR0_0.out x10_1 p488 q488
     cases e488
     replace hx488_0 := (HB.out.cell (World.block_lt_of_cell? w _ hx488_0)).trans hx488_0
     replace p488 := eq_true p488
     replace q488 := eq_true q488
     go_wp2_with (first | ((with_reducible refine gate_callee (f := 156) rfl ?_); refine gL (some 17) Try.func156 #[.int .i64 a1, .int .i64 x10_1] ?_; (with_reducible refine (spec_poIn.calls a1 x10_1 false _ A8.out).mono ?_); rintro e w' ⟨rfl, ⟨nd, rfl⟩⟩; refine ⟨_, rfl, ?_⟩))
     go_roundg k1
     case measure => have := HK1.out; omega
     case rel => exact ⟨(wrap64 (x10_1 + 1)), qe, H', ⟨by have := HK1.out; omega⟩, ⟨qb BK487.out⟩, ⟨qB⟩⟩
   ·rw [if_neg c5] at H
    have c5b0 := decide_eq_false c5
    clear c5
    obtain rfl := Option.some.inj H
    go_wp2
    go_ret
    exact ⟨qr, qB⟩
def spec_poIdeals.l0 : Nat → List Int → Int → List Int → Option (List Int)
 | 0, _, _, _ => none
 | k + 1, x3, x4, x491000 => if x4 < (shl .i64 1 (x491000.length : Int)) then ((spec_poIdeal.f k x491000 x4).bind fun t491 => (if t491 = true then (if x3.length < 17592186044416 then (spec_poIdeals.l0 k (x3 ++ [x4]) (wrap64 (x4 + 1)) x491000) else (none)) else (spec_poIdeals.l0 k x3 (wrap64 (x4 + 1)) x491000))) else (some x3)
def spec_poIdeals.f (k : Nat) (l0_0 : List Int) : Option (List Int) := spec_poIdeals.l0 k ([] : List Int) 0 l0_0
theorem spec_poIdeals.mono_l : ∀ k, (∀ y0 y1 y2, LeO (spec_poIdeals.l0 k y0 y1 y2) (spec_poIdeals.l0 (k + 1) y0 y1 y2))
 | 0 => fun _ _ _ r h => by simp [spec_poIdeals.l0] at h
 | k + 1 => by
  have ih0 := spec_poIdeals.mono_l k
  ·intro y0 y1 y2
   unfold spec_poIdeals.l0
   repeat' first
   | (with_reducible exact spec_poIdeal.mono _ _ _)
   | (with_reducible exact LeO.refl _)
   | (with_reducible exact LeO.none _)
   | (with_reducible refine LeO.ite ?_ ?_)
   | (with_reducible refine LeO.bind ?_ (fun _ => ?_))
   | exact ih0 _ _ _
   | exact spec_poIdeal.mono _ _ _
   | exact LeO.none _
   | refine LeO.ite ?_ ?_
   | refine LeO.bind ?_ (fun _ => ?_)
theorem spec_poIdeals.mono : ∀ a0 k, LeO (spec_poIdeals.f k a0) (spec_poIdeals.f (k + 1) a0) := by
 intro a0 k
 have ih0 := spec_poIdeals.mono_l k
 unfold spec_poIdeals.f
 repeat' first
  | (with_reducible exact spec_poIdeal.mono _ _ _)
  | (with_reducible exact LeO.refl _)
  | (with_reducible exact LeO.none _)
  | (with_reducible refine LeO.ite ?_ ?_)
  | (with_reducible refine LeO.bind ?_ (fun _ => ?_))
  | exact ih0 _ _ _
  | exact spec_poIdeal.mono _ _ _
  | exact LeO.none _
  | refine LeO.ite ?_ ?_
  | refine LeO.bind ?_ (fun _ => ?_)
set_option maxHeartbeats 8000000 in
set_option maxRecDepth 100000 in
theorem spec_poIdeals.calls (k : Nat) (A0_0 : Option Addr) (c0_0 : Nat) (l0_0 : List Int) (r : List Int) (w : World) (hr0_0 : Kd.C (Kd.int .i64) w A0_0 l0_0.length l0_0) (hc0_0 : l0_0.length ≤ c0_0) (h : spec_poIdeals.f k l0_0 = some r) :
 Calls Try.prog 98 #[.agg #[.slice A0_0 l0_0.length c0_0]] w fun e w' => ∃ v0_ : Value, e = .returned (v0_) ∧ Kd.R (Kd.int .i64) 3 w' w.heap.size (fun _ => True) v0_ r ∧ Below w.heap.size w w' := by
 have hu28 := Try.underlying28
 have HR0_0 := am hr0_0
 have HC0_0 := am hc0_0
 clear hr0_0 hc0_0
 have HB := am (Below.refl w.heap.size w)
 have H : (spec_poIdeals.l0 k ([] : List Int) 0 l0_0) = some r := h
 clear h
 have H' := am H
 clear H
 go_enter Try.func98, Try.ntmps98
 go_wp2_with (first | ((with_reducible refine gate_dst (N := 1) rfl ?_); refine qx (N := 1) (cs := #[.slice A0_0 l0_0.length c0_0]) (t := 28) ?_; intro gb490 hg w2 hbox hb; have n0_ := am (below_step qB hb); have BK490 := am (hbox); have GW490 := am (qg w hg); have GE490 := am (qg w hg); clear HB; have HB := n0_; clear n0_; clear hb hbox hg))
 go_loopg [3, 4] k (fun kq v3 v4 w' => ∃ (x3_1 : List Int) (x4_1 : Int), v4 = .int .i64 x4_1 ∧ Aside0 (spec_poIdeals.l0 kq x3_1 x4_1 l0_0 = some r) ∧ Aside0 (kq ≤ k) ∧ Aside0 (Kd.R (Kd.int .i64) 3 w' w.heap.size (fun _ => True) v3 x3_1) ∧ Aside0 (w'.heap[gb490]? = some (.cells #[(.slice A0_0 l0_0.length c0_0)] 28 (0, 0))) ∧ Aside0 (Below w.heap.size w w'))
 case atStart => exact ⟨(([] : List Int)), (0), qe, H', ⟨Nat.le_refl _⟩, ⟨by first | exact Kd.R_nil _ _ _ _ _ | exact Kd.N_nil _ _ _ _ _ | exact Kd.V_nil _ _ _ _ _ | exact Kd.Q_nil _ _ _ _ _ | exact Kd.S_nil _ _ _ _ _⟩, ⟨qb BK490.out⟩, ⟨qB⟩⟩
 case round =>
  clear H'
  try clear p2
  obtain ⟨x3_1, x4_1, rfl, HA, HK1, HO_3, BK490, HB⟩ := hrel
  cases gk with
  | zero => exact absurd HA.out (by simp [spec_poIdeals.l0])
  | succ k1 =>
   have H := HA.out
   clear HA
   simp only [spec_poIdeals.l0] at H
   obtain ⟨ji3, hji3⟩ : ∃ j_ : Int, (shl .i64 1 (l0_0.length : Int)) = j_ := ⟨_, rfl⟩
   replace H : (if x4_1 < (ji3) then ((spec_poIdeal.f k1 l0_0 x4_1).bind fun t491 => (if t491 = true then (if x3_1.length < 17592186044416 then (spec_poIdeals.l0 k1 (x3_1 ++ [x4_1]) (wrap64 (x4_1 + 1)) l0_0) else (none)) else (spec_poIdeals.l0 k1 x3_1 (wrap64 (x4_1 + 1)) l0_0))) else (some x3_1)) = some r := by first | (rw [hji3] at H; exact H) | (simp only [hji3] at H ⊢; exact H)
   have hji3_ : (IntKind.i64.wrap (1 * 2 ^ min (l0_0.length : Int).toNat 64)) = ji3 := hji3
   have hji3z : (l0_0.length : Int) ≤ 64 → (IntKind.i64.wrap (1 * 2 ^ (l0_0.length : Int).toNat)) = ji3 := shl_small hji3
   have hji3p : (IntKind.i64.wrap (1 * 2 ^ min l0_0.length 64)) = ji3 := hji3_
   have hji3q : (l0_0.length : Int) ≤ 64 → (IntKind.i64.wrap (1 * 2 ^ l0_0.length)) = ji3 := hji3z
   have hji3r : (IntKind.i64.wrap (2 ^ min l0_0.length 64)) = ji3 := by have h_ := hji3p; rw [Int.one_mul] at h_; exact h_
   have hji3s : (l0_0.length : Int) ≤ 64 → (IntKind.i64.wrap (2 ^ l0_0.length)) = ji3 := fun hle_ => by have h_ := hji3q hle_; rw [Int.one_mul] at h_; exact h_
   have hji3u : (IntKind.i64.wrap (2 ^ min (l0_0.length : Int).toNat 64)) = ji3 := by have h_ := hji3_; rw [Int.one_mul] at h_; exact h_
   have hji3v : (l0_0.length : Int) ≤ 64 → (IntKind.i64.wrap (2 ^ (l0_0.length : Int).toNat)) = ji3 := fun hle_ => by have h_ := hji3z hle_; rw [Int.one_mul] at h_; exact h_
   have hji3y : (wrap64 (1 * 2 ^ min (l0_0.length : Int).toNat 64)) = ji3 := (i64_w _).symm.trans hji3_
   have hji3x : (l0_0.length : Int) ≤ 64 → (wrap64 (1 * 2 ^ (l0_0.length : Int).toNat)) = ji3 := fun h_ => (i64_w _).symm.trans (hji3z h_)
   by_cases c4 : x4_1 < (ji3)
   ·rw [if_pos c4] at H
    have c4b0 := decide_eq_true c4
    clear c4
    replace H := Option.bind_eq_some_iff.mp H
    obtain ⟨t491, A50, H⟩ := H
    replace H : (if t491 = true then (if x3_1.length < 17592186044416 then (spec_poIdeals.l0 k1 (x3_1 ++ [x4_1]) (wrap64 (x4_1 + 1)) l0_0) else (none)) else (spec_poIdeals.l0 k1 x3_1 (wrap64 (x4_1 + 1)) l0_0)) = some r := H
    have A5 := am A50
    clear A50
    by_cases c6 : t491 = true
    ·subst c6
     have H1 : (if x3_1.length < 17592186044416 then (spec_poIdeals.l0 k1 (x3_1 ++ [x4_1]) (wrap64 (x4_1 + 1)) l0_0) else (none)) = some r := by rw [if_pos rfl] at H; exact H
     clear H
     have H := H1
     clear H1
     by_cases c7 : x3_1.length < 17592186044416
     rotate_left
     ·rw [if_neg c7] at H
      exact absurd H (by simp)
     rw [if_pos c7] at H
     have LMc7 := am c7
     clear c7
     obtain ⟨y492, hy492⟩ : ∃ y_ : List Int, y_ = (x3_1 ++ [x4_1]) := ⟨_, rfl⟩
     replace H : (spec_poIdeals.l0 k1 y492 (wrap64 (x4_1 + 1)) l0_0) = some r := by first | (rw [hy492]; with_reducible exact H) | (have H2_ := (Option.bind_some _ _).symm.trans H; rw [hy492]; with_reducible exact H2_) | (have H2_ := (Option.bind_some _ _).symm.trans H; with_reducible exact H2_) | with_reducible exact H | (rw [hy492]; exact H) | exact H
     have Ny492 := am hy492
     clear hy492
     have H' := am H
     clear H
     have hcz8_0 := qz wr BK490.out
     have hfz8_0 := blk_frozen BK490.out 0
     go_wp2_with (first | ((with_reducible refine gate_callee (f := 112) rfl ?_); refine gL (some 15) Try.func112 #[.agg #[.slice A0_0 l0_0.length c0_0], .int .i64 x4_1] ?_; (with_reducible refine (spec_poIdeal.calls k1 _ _ l0_0 x4_1 true _ ?side1 ?side2 A5.out).mono ?_); (case side1 => exact qC (Kd.C_below HR0_0.out HB.out)); (case side2 => exact HC0_0.out); rintro e w9 ⟨rfl, hb⟩; refine ⟨_, rfl, ?_⟩; replace HO_3 := am (Kd.R_below (qR HO_3.out) hb); replace BK490 := am (blk_below (g := gb490) (o := .cells #[.slice A0_0 l0_0.length c0_0] 28 (0, 0)) (qb BK490.out) hb); replace HB := am (below_step qB hb); (try clear hb); (try clear hb2); (try clear hk); (try clear hi)) | ((with_reducible refine gate_builtin (b := .append) (xs := #[.tmp 16, .tmp 18]) rfl ?_); at_builtin; refine Kd.R_append (Kd.int .i64) (w0 := w) w.heap.size rfl (.tmp 16) (.tmp 18) 26 3 (.int .i64 0) 8 rfl Try.underlying26 info3 rfl (by decide) (by omega) u3 x3_1 x4_1 [.int .i64 x4_1] (fun _ => True) (fun _ => False) rfl rfl ?aP (fun _ hk => hk.elim) ?aF ?aO ?aB ?aS ?aL ?_; (case aP => exact rfl); (case aB => exact qB); (case aF => exact (fun _ _ => trivial)); (case aO => exact (qR HO_3.out)); (case aS => exact (below_size qB)); (case aL => have := LMc7.out; omega); intro v493 w10 ho hb hg hat; rw [← Ny492.out] at ho; replace BK490 := am (blk_grown (g := gb490) (o := .cells #[.slice A0_0 l0_0.length c0_0] 28 (0, 0)) (qb BK490.out) hg (Kd.R_ne HO_3.out BK490.out (by decide))); have n1_ := am (hb); have HO494 := am (ho); clear HB HO_3; have HB := n1_; clear n1_; clear ho hb hg hat))
     go_roundg k1
     case measure => have := HK1.out; omega
     case rel => exact ⟨(y492), (wrap64 (x4_1 + 1)), qe, H', ⟨by have := HK1.out; omega⟩, ⟨qR HO494.out⟩, ⟨qb BK490.out⟩, ⟨qB⟩⟩
    ·replace c6 := Bool.eq_false_iff.mpr c6
     subst c6
     have H1 : (spec_poIdeals.l0 k1 x3_1 (wrap64 (x4_1 + 1)) l0_0) = some r := by rw [if_neg (show ¬ (false = true) by decide)] at H; exact H
     clear H
     have H := H1
     clear H1
     have H' := am H
     clear H
     have hcz11_0 := qz wr BK490.out
     have hfz11_0 := blk_frozen BK490.out 0
     go_wp2_with (first | ((with_reducible refine gate_callee (f := 112) rfl ?_); refine gL (some 15) Try.func112 #[.agg #[.slice A0_0 l0_0.length c0_0], .int .i64 x4_1] ?_; (with_reducible refine (spec_poIdeal.calls k1 _ _ l0_0 x4_1 false _ ?side1 ?side2 A5.out).mono ?_); (case side1 => exact qC (Kd.C_below HR0_0.out HB.out)); (case side2 => exact HC0_0.out); rintro e w12 ⟨rfl, hb⟩; refine ⟨_, rfl, ?_⟩; replace HO_3 := am (Kd.R_below (qR HO_3.out) hb); replace BK490 := am (blk_below (g := gb490) (o := .cells #[.slice A0_0 l0_0.length c0_0] 28 (0, 0)) (qb BK490.out) hb); replace HB := am (below_step qB hb); (try clear hb); (try clear hb2); (try clear hk); (try clear hi)))
     go_roundg k1
     case measure => have := HK1.out; omega
     case rel => exact ⟨(x3_1), (wrap64 (x4_1 + 1)), qe, H', ⟨by have := HK1.out; omega⟩, ⟨qR HO_3.out⟩, ⟨qb BK490.out⟩, ⟨qB⟩⟩
   ·rw [if_neg c4] at H
    have c4b0 := decide_eq_false c4
    clear c4
    obtain rfl := Option.some.inj H
    have hcz13_0 := qz wr BK490.out
    have hfz13_0 := blk_frozen BK490.out 0
    go_wp2
    go_ret
    exact ⟨_, by first | rfl | (simp [errW_none, errW_some] <;> rfl) | (simp only [← hji3]; first | rfl | (simp [errW_none, errW_some] <;> rfl)) | (simp [*, errW_none, errW_some] <;> rfl), qR HO_3.out, qB⟩
def spec_IdealsOf.f (k : Nat) (l0_0 : List Int) : Option (List Int × Bool) := (spec_poGood.f k l0_0).bind fun t496 => (if t496 = true then ((spec_poIdeals.f k l0_0).bind fun t497 => (some (t497, true))) else (some (([] : List Int), false)))
theorem spec_IdealsOf.mono : ∀ a0 k, LeO (spec_IdealsOf.f k a0) (spec_IdealsOf.f (k + 1) a0) := by
 intro a0 k
 unfold spec_IdealsOf.f
 repeat' first
  | (with_reducible exact spec_poGood.mono _ _)
  | (with_reducible exact spec_poIdeals.mono _ _)
  | (with_reducible exact LeO.refl _)
  | (with_reducible exact LeO.none _)
  | (with_reducible refine LeO.ite ?_ ?_)
  | (with_reducible refine LeO.bind ?_ (fun _ => ?_))
  | exact spec_poGood.mono _ _
  | exact spec_poIdeals.mono _ _
  | exact LeO.none _
  | refine LeO.ite ?_ ?_
  | refine LeO.bind ?_ (fun _ => ?_)
set_option maxHeartbeats 8000000 in
set_option maxRecDepth 100000 in
theorem spec_IdealsOf.calls (k : Nat) (A0_0 : Option Addr) (c0_0 : Nat) (l0_0 : List Int) (r1 : List Int) (r2 : Bool) (w : World) (hr0_0 : Kd.C (Kd.int .i64) w A0_0 l0_0.length l0_0) (hc0_0 : l0_0.length ≤ c0_0) (h : spec_IdealsOf.f k l0_0 = some (r1, r2)) :
 Calls Try.prog 27 #[.agg #[.slice A0_0 l0_0.length c0_0]] w fun e w' => ∃ v0_ : Value, e = .returned (.tuple #[v0_, .bool r2]) ∧ Kd.R (Kd.int .i64) 3 w' w.heap.size (fun _ => True) v0_ r1 ∧ Below w.heap.size w w' := by
 have hu28 := Try.underlying28
 have HR0_0 := am hr0_0
 have HC0_0 := am hc0_0
 clear hr0_0 hc0_0
 have HB := am (Below.refl w.heap.size w)
 have H : ((spec_poGood.f k l0_0).bind fun t496 => (if t496 = true then ((spec_poIdeals.f k l0_0).bind fun t497 => (some (t497, true))) else (some (([] : List Int), false)))) = some (r1, r2) := h
 clear h
 replace H := Option.bind_eq_some_iff.mp H
 obtain ⟨t496, A20, H⟩ := H
 replace H : (if t496 = true then ((spec_poIdeals.f k l0_0).bind fun t497 => (some (t497, true))) else (some (([] : List Int), false))) = some (r1, r2) := H
 have A2 := am A20
 clear A20
 by_cases c3 : t496 = true
 ·subst c3
  have H1 : ((spec_poIdeals.f k l0_0).bind fun t497 => (some (t497, true))) = some (r1, r2) := by rw [if_pos rfl] at H; exact H
  clear H
  have H := H1
  clear H1
  replace H := Option.bind_eq_some_iff.mp H
  obtain ⟨t497, A40, H⟩ := H
  replace H : (some (t497, true)) = some (r1, r2) := H
  have A4 := am A40
  clear A40
  simp only [Option.some.injEq, Prod.mk.injEq] at H
  obtain ⟨rfl, rfl⟩ := H
  go_enter Try.func27, Try.ntmps27
  go_wp2_with (first | ((with_reducible refine gate_dst (N := 1) rfl ?_); refine qx (N := 1) (cs := #[.slice A0_0 l0_0.length c0_0]) (t := 28) ?_; intro gb495 hg w5 hbox hb; have n0_ := am (below_step qB hb); have BK495 := am (hbox); have GW495 := am (qg w hg); have GE495 := am (qg w hg); clear HB; have HB := n0_; clear n0_; clear hb hbox hg; have hcz6_0 := qz w5 BK495.out; have hfz6_0 := blk_frozen BK495.out 0) | ((with_reducible refine gate_callee (f := 94) rfl ?_); refine gL (some 5) Try.func94 #[.agg #[.slice A0_0 l0_0.length c0_0]] ?_; (with_reducible refine (spec_poGood.calls k _ _ l0_0 true _ ?side1 ?side2 A2.out).mono ?_); (case side1 => exact qC (Kd.C_below HR0_0.out HB.out)); (case side2 => exact HC0_0.out); rintro e w7 ⟨rfl, hb⟩; refine ⟨_, rfl, ?_⟩; replace BK495 := am (blk_below (g := gb495) (o := .cells #[.slice A0_0 l0_0.length c0_0] 28 (0, 0)) (qb BK495.out) hb); replace HB := am (below_step qB hb); (try clear hb); (try clear hb2); (try clear hk); (try clear hi); have hcz8_0 := qz w7 BK495.out; have hfz8_0 := blk_frozen BK495.out 0) | ((with_reducible refine gate_callee (f := 98) rfl ?_); refine gL (some 8) Try.func98 #[.agg #[.slice A0_0 l0_0.length c0_0]] ?_; (with_reducible refine (spec_poIdeals.calls k _ _ l0_0 t497 _ ?side1 ?side2 A4.out).mono ?_); (case side1 => exact qC (Kd.C_below HR0_0.out HB.out)); (case side2 => exact HC0_0.out); rintro e w9 ⟨v498, rfl, ho0, hb⟩; refine ⟨_, rfl, ?_⟩; have HO499 := am (Kd.R_lower ho0 (below_size qB)); replace BK495 := am (blk_below (g := gb495) (o := .cells #[.slice A0_0 l0_0.length c0_0] 28 (0, 0)) (qb BK495.out) hb); replace HB := am (below_step qB hb); (try clear hb); (try clear hb2); (try clear hk); (try clear hi); (try clear ho0)))
  go_ret2
  exact ⟨_, qr, qR HO499.out, qB⟩
 ·replace c3 := Bool.eq_false_iff.mpr c3
  subst c3
  have H1 : (some (([] : List Int), false)) = some (r1, r2) := by rw [if_neg (show ¬ (false = true) by decide)] at H; exact H
  clear H
  have H := H1
  clear H1
  simp only [Option.some.injEq, Prod.mk.injEq] at H
  obtain ⟨rfl, rfl⟩ := H
  go_enter Try.func27, Try.ntmps27
  go_wp2_with (first | ((with_reducible refine gate_dst (N := 1) rfl ?_); refine qx (N := 1) (cs := #[.slice A0_0 l0_0.length c0_0]) (t := 28) ?_; intro gb495 hg w10 hbox hb; have n0_ := am (below_step qB hb); have BK495 := am (hbox); have GW495 := am (qg w hg); have GE495 := am (qg w hg); clear HB; have HB := n0_; clear n0_; clear hb hbox hg; have hcz11_0 := qz w10 BK495.out; have hfz11_0 := blk_frozen BK495.out 0) | ((with_reducible refine gate_callee (f := 94) rfl ?_); refine gL (some 5) Try.func94 #[.agg #[.slice A0_0 l0_0.length c0_0]] ?_; (with_reducible refine (spec_poGood.calls k _ _ l0_0 false _ ?side1 ?side2 A2.out).mono ?_); (case side1 => exact qC (Kd.C_below HR0_0.out HB.out)); (case side2 => exact HC0_0.out); rintro e w12 ⟨rfl, hb⟩; refine ⟨_, rfl, ?_⟩; replace BK495 := am (blk_below (g := gb495) (o := .cells #[.slice A0_0 l0_0.length c0_0] 28 (0, 0)) (qb BK495.out) hb); replace HB := am (below_step qB hb); (try clear hb); (try clear hb2); (try clear hk); (try clear hi)))
  go_ret2
  exact ⟨_, qr, by first | exact Kd.R_nil _ _ _ _ _ | exact Kd.N_nil _ _ _ _ _ | exact Kd.V_nil _ _ _ _ _ | exact Kd.Q_nil _ _ _ _ _ | exact Kd.S_nil _ _ _ _ _, qB⟩
mutual
def spec_poRectangle.l0 : Nat → Int → Int → List (List Int) → Int → Option (List Int)
 | 0, _, _, _, _ => none
 | k + 1, x0, x1, x5, x6 => if x6 < x0 then (spec_poRectangle.l1 k x0 x1 x5 x6 0) else ((spec_poFrom.f k (wrap64 (x0 * x1)) x5).bind fun t176 => (some t176))
def spec_poRectangle.l1 : Nat → Int → Int → List (List Int) → Int → Int → Option (List Int)
 | 0, _, _, _, _, _ => none
 | k + 1, x0, x1, x5, x6, x7 => if x7 < x1 then (if (wrap64 (x6 + 1)) < x0 then (if x5.length < 5864062014805 then ((some (x5 ++ [(([wrap64 ((wrap64 (x1 * x6)) + x7), wrap64 ((wrap64 ((wrap64 (x1 * x6)) + x1)) + x7)] : List Int))] : List (List Int))).bind fun y182 => (if (wrap64 (x7 + 1)) < x1 then (if y182.length < 5864062014805 then (spec_poRectangle.l1 k x0 x1 (y182 ++ [(([wrap64 ((wrap64 (x1 * x6)) + x7), wrap64 ((wrap64 ((wrap64 (x1 * x6)) + x7)) + 1)] : List Int))]) x6 (wrap64 (x7 + 1))) else (none)) else (spec_poRectangle.l1 k x0 x1 y182 x6 (wrap64 (x7 + 1))))) else (none)) else (if (wrap64 (x7 + 1)) < x1 then (if x5.length < 5864062014805 then (spec_poRectangle.l1 k x0 x1 (x5 ++ [(([wrap64 ((wrap64 (x1 * x6)) + x7), wrap64 ((wrap64 ((wrap64 (x1 * x6)) + x7)) + 1)] : List Int))]) x6 (wrap64 (x7 + 1))) else (none)) else (spec_poRectangle.l1 k x0 x1 x5 x6 (wrap64 (x7 + 1))))) else (spec_poRectangle.l0 k x0 x1 x5 (wrap64 (x6 + 1)))
end
def spec_poRectangle.f (k : Nat) (a0 : Int) (a1 : Int) : Option (List Int) := spec_poRectangle.l0 k a0 a1 ([] : List (List Int)) 0
theorem spec_poRectangle.mono_l : ∀ k, (∀ y0 y1 y2 y3, LeO (spec_poRectangle.l0 k y0 y1 y2 y3) (spec_poRectangle.l0 (k + 1) y0 y1 y2 y3)) ∧ (∀ y0 y1 y2 y3 y4, LeO (spec_poRectangle.l1 k y0 y1 y2 y3 y4) (spec_poRectangle.l1 (k + 1) y0 y1 y2 y3 y4))
 | 0 => ⟨fun _ _ _ _ r h => by simp [spec_poRectangle.l0] at h, fun _ _ _ _ _ r h => by simp [spec_poRectangle.l1] at h⟩
 | k + 1 => by
  obtain ⟨ih0, ih1⟩ := spec_poRectangle.mono_l k
  refine ⟨?_, ?_⟩
  ·intro y0 y1 y2 y3
   unfold spec_poRectangle.l0
   repeat' first
   | (with_reducible exact spec_poFrom.mono _ _ _)
   | (with_reducible exact LeO.refl _)
   | (with_reducible exact LeO.none _)
   | (with_reducible refine LeO.ite ?_ ?_)
   | (with_reducible refine LeO.bind ?_ (fun _ => ?_))
   | exact ih0 _ _ _ _
   | exact ih1 _ _ _ _ _
   | exact spec_poFrom.mono _ _ _
   | exact LeO.none _
   | refine LeO.ite ?_ ?_
   | refine LeO.bind ?_ (fun _ => ?_)
  ·intro y0 y1 y2 y3 y4
   unfold spec_poRectangle.l1
   repeat' first
   | (with_reducible exact spec_poFrom.mono _ _ _)
   | (with_reducible exact LeO.refl _)
   | (with_reducible exact LeO.none _)
   | (with_reducible refine LeO.ite ?_ ?_)
   | (with_reducible refine LeO.bind ?_ (fun _ => ?_))
   | exact ih0 _ _ _ _
   | exact ih1 _ _ _ _ _
   | exact spec_poFrom.mono _ _ _
   | exact LeO.none _
   | refine LeO.ite ?_ ?_
   | refine LeO.bind ?_ (fun _ => ?_)
theorem spec_poRectangle.mono : ∀ a0 a1 k, LeO (spec_poRectangle.f k a0 a1) (spec_poRectangle.f (k + 1) a0 a1) := by
 intro a0 a1 k
 obtain ⟨ih0, ih1⟩ := spec_poRectangle.mono_l k
 unfold spec_poRectangle.f
 repeat' first
  | (with_reducible exact spec_poFrom.mono _ _ _)
  | (with_reducible exact LeO.refl _)
  | (with_reducible exact LeO.none _)
  | (with_reducible refine LeO.ite ?_ ?_)
  | (with_reducible refine LeO.bind ?_ (fun _ => ?_))
  | exact ih0 _ _ _ _
  | exact ih1 _ _ _ _ _
  | exact spec_poFrom.mono _ _ _
  | exact LeO.none _
  | refine LeO.ite ?_ ?_
  | refine LeO.bind ?_ (fun _ => ?_)
set_option maxHeartbeats 8000000 in
set_option maxRecDepth 100000 in
theorem spec_poRectangle.calls (k : Nat) (a0 : Int) (a1 : Int) (r : List Int) (w : World) (h : spec_poRectangle.f k a0 a1 = some r) :
 Calls Try.prog 82 #[.int .i64 a0, .int .i64 a1] w fun e w' => ∃ v0_ : Value, e = .returned (.agg #[v0_]) ∧ Kd.R (Kd.int .i64) 3 w' w.heap.size (fun _ => True) v0_ r ∧ Below w.heap.size w w' := by
 have hu28 := Try.underlying28
 have HB := am (Below.refl w.heap.size w)
 have H : (spec_poRectangle.l0 k a0 a1 ([] : List (List Int)) 0) = some r := h
 clear h
 have H' := am H
 clear H
 go_enter Try.func82, Try.ntmps82
 go_wp2_with (first | ((with_reducible refine gate_dst (N := 4) rfl ?_); refine qx (N := 4) (cs := #[.slice none 0 0]) (t := 28) ?_; intro gb175 hg w3 hbox hb; have n0_ := am (below_step qB hb); have BK175 := am (hbox); have GW175 := am (qg w hg); have GE175 := am (qg w hg); clear HB; have HB := n0_; clear n0_; clear hb hbox hg))
 go_loopg [5, 6] k (fun kq v5 v6 w' => ∃ (x5_1 : List (List Int)) (x6_1 : Int), v6 = .int .i64 x6_1 ∧ Aside0 (spec_poRectangle.l0 kq a0 a1 x5_1 x6_1 = some r) ∧ Aside0 (kq ≤ k) ∧ Aside0 (Kd.S (Kd.slice 3 (Kd.int .i64)) 26 w' w.heap.size (fun _ => True) v5 x5_1) ∧ Aside0 (w'.heap[gb175]? = some (.cells #[(.slice none 0 0)] 28 (0, 0))) ∧ Aside0 (Below w.heap.size w w'))
 case atStart => exact ⟨(([] : List (List Int))), (0), qe, H', ⟨Nat.le_refl _⟩, ⟨by first | exact Kd.S_nil _ _ _ _ _ | exact Kd.N_nil _ _ _ _ _ | exact Kd.V_nil _ _ _ _ _ | exact Kd.Q_nil _ _ _ _ _ | exact Kd.R_nil _ _ _ _ _⟩, ⟨qb BK175.out⟩, ⟨qB⟩⟩
 case round =>
  clear H'
  try clear p2
  obtain ⟨x5_1, x6_1, rfl, HA, HK1, HO_5, BK175, HB⟩ := hrel
  cases gk with
  | zero => exact absurd HA.out (by simp [spec_poRectangle.l0])
  | succ k1 =>
   have H := HA.out
   clear HA
   simp only [spec_poRectangle.l0] at H
   by_cases c4 : x6_1 < a0
   ·rw [if_pos c4] at H
    have c4b0 := decide_eq_true c4
    clear c4
    have H' := am H
    clear H
    go_wp2
    go_loopg [5, 7] k1 (fun kq v5 v7 w' => ∃ (x5_2 : List (List Int)) (x7_2 : Int), v7 = .int .i64 x7_2 ∧ Aside0 (spec_poRectangle.l1 kq a0 a1 x5_2 x6_1 x7_2 = some r) ∧ Aside0 (kq ≤ k1) ∧ Aside0 (Kd.S (Kd.slice 3 (Kd.int .i64)) 26 w' w.heap.size (fun _ => True) v5 x5_2) ∧ Aside0 (w'.heap[gb175]? = some (.cells #[(.slice none 0 0)] 28 (0, 0))) ∧ Aside0 (Below w.heap.size w w'))
    case atStart => exact ⟨(x5_1), (0), qe, H', ⟨Nat.le_refl _⟩, ⟨qS HO_5.out⟩, ⟨qb BK175.out⟩, ⟨qB⟩⟩
    case round =>
     clear H'
     try clear p2
     try clear c4
     try clear c4b0
     try clear p2
     obtain ⟨x5_2, x7_2, rfl, HA, HK2, HO_5, BK175, HB⟩ := hrel
     cases gk with
     | zero => exact absurd HA.out (by simp [spec_poRectangle.l1])
     | succ k2 =>
      have H := HA.out
      clear HA
      simp only [spec_poRectangle.l1] at H
      by_cases c5 : x7_2 < a1
      ·rw [if_pos c5] at H
       have c5b0 := decide_eq_true c5
       clear c5
       by_cases c6 : (wrap64 (x6_1 + 1)) < a0
       ·rw [if_pos c6] at H
        have c6b0 := decide_eq_true c6
        clear c6
        obtain ⟨y179, hy179⟩ : ∃ y_ : List Int, y_ = (([wrap64 ((wrap64 (a1 * x6_1)) + x7_2), wrap64 ((wrap64 ((wrap64 (a1 * x6_1)) + a1)) + x7_2)] : List Int)) := ⟨_, rfl⟩
        replace H : (if x5_2.length < 5864062014805 then ((some (x5_2 ++ [y179] : List (List Int))).bind fun y182 => (if (wrap64 (x7_2 + 1)) < a1 then (if y182.length < 5864062014805 then (spec_poRectangle.l1 k2 a0 a1 (y182 ++ [(([wrap64 ((wrap64 (a1 * x6_1)) + x7_2), wrap64 ((wrap64 ((wrap64 (a1 * x6_1)) + x7_2)) + 1)] : List Int))]) x6_1 (wrap64 (x7_2 + 1))) else (none)) else (spec_poRectangle.l1 k2 a0 a1 y182 x6_1 (wrap64 (x7_2 + 1))))) else (none)) = some r := by first | (rw [hy179]; with_reducible exact H) | (have H2_ := (Option.bind_some _ _).symm.trans H; rw [hy179]; with_reducible exact H2_) | (have H2_ := (Option.bind_some _ _).symm.trans H; with_reducible exact H2_) | with_reducible exact H | (rw [hy179]; exact H) | exact H
        have Ny179 := am hy179
        clear hy179
        by_cases c7 : x5_2.length < 5864062014805
        rotate_left
        ·rw [if_neg c7] at H
         exact absurd H (by simp)
        rw [if_pos c7] at H
        have LMc7 := am c7
        clear c7
        obtain ⟨y182, hy182⟩ : ∃ y_ : List (List Int), y_ = (x5_2 ++ [y179]) := ⟨_, rfl⟩
        replace H : (if (wrap64 (x7_2 + 1)) < a1 then (if y182.length < 5864062014805 then (spec_poRectangle.l1 k2 a0 a1 (y182 ++ [(([wrap64 ((wrap64 (a1 * x6_1)) + x7_2), wrap64 ((wrap64 ((wrap64 (a1 * x6_1)) + x7_2)) + 1)] : List Int))]) x6_1 (wrap64 (x7_2 + 1))) else (none)) else (spec_poRectangle.l1 k2 a0 a1 y182 x6_1 (wrap64 (x7_2 + 1)))) = some r := by first | (rw [hy182]; with_reducible exact H) | (have H2_ := (Option.bind_some _ _).symm.trans H; rw [hy182]; with_reducible exact H2_) | (have H2_ := (Option.bind_some _ _).symm.trans H; with_reducible exact H2_) | with_reducible exact H | (rw [hy182]; exact H) | exact H
        have Ny182 := am hy182
        clear hy182
        by_cases c8 : (wrap64 (x7_2 + 1)) < a1
        ·rw [if_pos c8] at H
         have c8b0 := decide_eq_true c8
         clear c8
         obtain ⟨y185, hy185⟩ : ∃ y_ : List Int, y_ = (([wrap64 ((wrap64 (a1 * x6_1)) + x7_2), wrap64 ((wrap64 ((wrap64 (a1 * x6_1)) + x7_2)) + 1)] : List Int)) := ⟨_, rfl⟩
         replace H : (if y182.length < 5864062014805 then (spec_poRectangle.l1 k2 a0 a1 (y182 ++ [y185]) x6_1 (wrap64 (x7_2 + 1))) else (none)) = some r := by first | (rw [hy185]; with_reducible exact H) | (have H2_ := (Option.bind_some _ _).symm.trans H; rw [hy185]; with_reducible exact H2_) | (have H2_ := (Option.bind_some _ _).symm.trans H; with_reducible exact H2_) | with_reducible exact H | (rw [hy185]; exact H) | exact H
         have Ny185 := am hy185
         clear hy185
         by_cases c9 : y182.length < 5864062014805
         rotate_left
         ·rw [if_neg c9] at H
          exact absurd H (by simp)
         rw [if_pos c9] at H
         have LMc9 := am c9
         clear c9
         obtain ⟨y188, hy188⟩ : ∃ y_ : List (List Int), y_ = (y182 ++ [y185]) := ⟨_, rfl⟩
         replace H : (spec_poRectangle.l1 k2 a0 a1 y188 x6_1 (wrap64 (x7_2 + 1))) = some r := by first | (rw [hy188]; with_reducible exact H) | (have H2_ := (Option.bind_some _ _).symm.trans H; rw [hy188]; with_reducible exact H2_) | (have H2_ := (Option.bind_some _ _).symm.trans H; with_reducible exact H2_) | with_reducible exact H | (rw [hy188]; exact H) | exact H
         have Ny188 := am hy188
         clear hy188
         have H' := am H
         clear H
         go_wp2_with (first | ((with_reducible refine gate_dst (N := 35) rfl ?_); refine Kd.R_lit (Kd.int .i64) _ 3 ?hg (N := 35) ?hd (xs := ([wrap64 ((wrap64 (a1 * x6_1)) + x7_2), wrap64 ((wrap64 ((wrap64 (a1 * x6_1)) + a1)) + x7_2)] : List Int)) (inner := [.int .i64 (wrap64 ((wrap64 (a1 * x6_1)) + x7_2)), .int .i64 (wrap64 ((wrap64 ((wrap64 (a1 * x6_1)) + a1)) + x7_2))]) (ok := fun _ => True) (okp := fun _ => True) ?hr ?hp (fun _ hk => hk) trivial (Below.refl _ _) (Nat.le_refl _) (by simp) ?_; (case hd => rfl); (case hg => rfl); (case hr => first | (go_simp; done) | (go_simp; rfl)); (case hp => exact (Reps.one (show Kd.M (Kd.int .i64) _ _ _ (wrap64 ((wrap64 (a1 * x6_1)) + x7_2)) [.int .i64 (wrap64 ((wrap64 (a1 * x6_1)) + x7_2))] from rfl) (Reps.one (show Kd.M (Kd.int .i64) _ _ _ (wrap64 ((wrap64 ((wrap64 (a1 * x6_1)) + a1)) + x7_2)) [.int .i64 (wrap64 ((wrap64 ((wrap64 (a1 * x6_1)) + a1)) + x7_2))] from rfl) (Reps.none _ _)))); intro v180 w10 ho11 hb hg_ hnew_; clear hg_ hnew_; (first | rw [← Ny179.out] at ho11 | (simp only [Int.reduceToNat] at ho11; rw [← Ny179.out] at ho11)); replace HO_5 := am (Kd.S_elder' (qS HO_5.out) (Kd.R_base ho11) hb); have HO181 := am (Kd.R_lower ho11 (below_size qB)); replace BK175 := am (blk_below (g := gb175) (o := .cells #[.slice none 0 0] 28 (0, 0)) (qb BK175.out) hb); replace HB := am (below_step qB hb); clear hb ho11; obtain ⟨Ao13, co13, eo13⟩ := Kd.R_slice HO181.out; subst eo13) | ((with_reducible refine gate_builtin (b := .append) (xs := #[.tmp 22, .tmp 36]) rfl ?_); at_builtin; refine Kd.S_append (Kd.slice 3 (Kd.int .i64)) (w0 := w) w.heap.size rfl (.tmp 22) (.tmp 36) 56 26 (.slice none 0 0) 24 rfl Try.underlying56 info26 rfl (by decide) (by omega) u5 x5_2 y179 [.slice Ao13 y179.length co13] (fun _ => True) (fun k_ => some k_ = (.slice Ao13 y179.length co13 : Value).ownBlock) rfl rfl ?aP (fun k_ hk_ => ((Kd.R_mono (ok' := fun k_ => ((fun _ => True)) k_ ∧ some k_ ≠ (u5 : Value).ownBlock) (Kd.R_apart' (HO181.out) (Kd.S_typed HO_5.out) (by decide)) (fun k_ hk => ⟨trivial, hk.2⟩))).1 k_ hk_.symm) ?aF ?aO ?aB ?aS ?aL ?_; (case aP => exact Kd.M_row (Kd.R_mono (Kd.R_tight rfl (Kd.R_mono (ok' := fun k_ => ((fun _ => True)) k_ ∧ some k_ ≠ (u5 : Value).ownBlock) (Kd.R_apart' (HO181.out) (Kd.S_typed HO_5.out) (by decide)) (fun k_ hk => ⟨trivial, hk.2⟩))) (fun _ h_ => h_))); (case aB => exact qB); (case aF => exact (fun _ _ => trivial)); (case aO => exact (qS (Kd.S_mono HO_5.out (fun k_ hk => ⟨trivial, fun e_ => hk.2 e_⟩)))); (case aS => exact (below_size qB)); (case aL => have := LMc7.out; omega); intro v183 w12 ho hb hg hat; rw [← Ny182.out] at ho; replace BK175 := am (blk_grown (g := gb175) (o := .cells #[.slice none 0 0] 28 (0, 0)) (qb BK175.out) hg (Kd.S_ne HO_5.out BK175.out (by decide))); have n1_ := am (hb); have HO184 := am (ho); clear HB HO_5 HO181; have HB := n1_; clear n1_; clear ho hb hg hat) | ((with_reducible refine gate_dst (N := 54) rfl ?_); refine Kd.R_lit (Kd.int .i64) _ 3 ?hg (N := 54) ?hd (xs := ([wrap64 ((wrap64 (a1 * x6_1)) + x7_2), wrap64 ((wrap64 ((wrap64 (a1 * x6_1)) + x7_2)) + 1)] : List Int)) (inner := [.int .i64 (wrap64 ((wrap64 (a1 * x6_1)) + x7_2)), .int .i64 (wrap64 ((wrap64 ((wrap64 (a1 * x6_1)) + x7_2)) + 1))]) (ok := fun _ => True) (okp := fun _ => True) ?hr ?hp (fun _ hk => hk) trivial (Below.refl _ _) (Nat.le_refl _) (by simp) ?_; (case hd => rfl); (case hg => rfl); (case hr => first | (go_simp; done) | (go_simp; rfl)); (case hp => exact (Reps.one (show Kd.M (Kd.int .i64) _ _ _ (wrap64 ((wrap64 (a1 * x6_1)) + x7_2)) [.int .i64 (wrap64 ((wrap64 (a1 * x6_1)) + x7_2))] from rfl) (Reps.one (show Kd.M (Kd.int .i64) _ _ _ (wrap64 ((wrap64 ((wrap64 (a1 * x6_1)) + x7_2)) + 1)) [.int .i64 (wrap64 ((wrap64 ((wrap64 (a1 * x6_1)) + x7_2)) + 1))] from rfl) (Reps.none _ _)))); intro v186 w14 ho15 hb hg_ hnew_; clear hg_ hnew_; (first | rw [← Ny185.out] at ho15 | (simp only [Int.reduceToNat] at ho15; rw [← Ny185.out] at ho15)); replace HO184 := am (Kd.S_elder' (qS HO184.out) (Kd.R_base ho15) hb); have HO187 := am (Kd.R_lower ho15 (below_size qB)); replace BK175 := am (blk_below (g := gb175) (o := .cells #[.slice none 0 0] 28 (0, 0)) (qb BK175.out) hb); replace HB := am (below_step qB hb); clear hb ho15; obtain ⟨Ao17, co17, eo17⟩ := Kd.R_slice HO187.out; subst eo17) | ((with_reducible refine gate_builtin (b := .append) (xs := #[.tmp 42, .tmp 55]) rfl ?_); at_builtin; refine Kd.S_append (Kd.slice 3 (Kd.int .i64)) (w0 := w) w.heap.size rfl (.tmp 42) (.tmp 55) 56 26 (.slice none 0 0) 24 rfl Try.underlying56 info26 rfl (by decide) (by omega) v183 y182 y185 [.slice Ao17 y185.length co17] (fun _ => True) (fun k_ => some k_ = (.slice Ao17 y185.length co17 : Value).ownBlock) rfl rfl ?aP (fun k_ hk_ => ((Kd.R_mono (ok' := fun k_ => ((fun _ => True)) k_ ∧ some k_ ≠ (v183 : Value).ownBlock) (Kd.R_apart' (HO187.out) (Kd.S_typed HO184.out) (by decide)) (fun k_ hk => ⟨trivial, hk.2⟩))).1 k_ hk_.symm) ?aF ?aO ?aB ?aS ?aL ?_; (case aP => exact Kd.M_row (Kd.R_mono (Kd.R_tight rfl (Kd.R_mono (ok' := fun k_ => ((fun _ => True)) k_ ∧ some k_ ≠ (v183 : Value).ownBlock) (Kd.R_apart' (HO187.out) (Kd.S_typed HO184.out) (by decide)) (fun k_ hk => ⟨trivial, hk.2⟩))) (fun _ h_ => h_))); (case aB => exact qB); (case aF => exact (fun _ _ => trivial)); (case aO => exact (qS (Kd.S_mono HO184.out (fun k_ hk => ⟨trivial, fun e_ => hk.2 e_⟩)))); (case aS => exact (below_size qB)); (case aL => have := LMc9.out; omega); intro v189 w16 ho hb hg hat; rw [← Ny188.out] at ho; replace BK175 := am (blk_grown (g := gb175) (o := .cells #[.slice none 0 0] 28 (0, 0)) (qb BK175.out) hg (Kd.S_ne HO184.out BK175.out (by decide))); have n1_ := am (hb); have HO190 := am (ho); clear HB HO184 HO187; have HB := n1_; clear n1_; clear ho hb hg hat))
         go_roundg k2
         case measure => have := HK1.out; have := HK2.out; omega
         case rel => exact ⟨(y188), (wrap64 (x7_2 + 1)), qe, H', ⟨by have := HK1.out; have := HK2.out; omega⟩, ⟨qS HO190.out⟩, ⟨qb BK175.out⟩, ⟨qB⟩⟩
        ·rw [if_neg c8] at H
         have c8b0 := decide_eq_false c8
         clear c8
         have H' := am H
         clear H
         go_wp2_with (first | ((with_reducible refine gate_dst (N := 35) rfl ?_); refine Kd.R_lit (Kd.int .i64) _ 3 ?hg (N := 35) ?hd (xs := ([wrap64 ((wrap64 (a1 * x6_1)) + x7_2), wrap64 ((wrap64 ((wrap64 (a1 * x6_1)) + a1)) + x7_2)] : List Int)) (inner := [.int .i64 (wrap64 ((wrap64 (a1 * x6_1)) + x7_2)), .int .i64 (wrap64 ((wrap64 ((wrap64 (a1 * x6_1)) + a1)) + x7_2))]) (ok := fun _ => True) (okp := fun _ => True) ?hr ?hp (fun _ hk => hk) trivial (Below.refl _ _) (Nat.le_refl _) (by simp) ?_; (case hd => rfl); (case hg => rfl); (case hr => first | (go_simp; done) | (go_simp; rfl)); (case hp => exact (Reps.one (show Kd.M (Kd.int .i64) _ _ _ (wrap64 ((wrap64 (a1 * x6_1)) + x7_2)) [.int .i64 (wrap64 ((wrap64 (a1 * x6_1)) + x7_2))] from rfl) (Reps.one (show Kd.M (Kd.int .i64) _ _ _ (wrap64 ((wrap64 ((wrap64 (a1 * x6_1)) + a1)) + x7_2)) [.int .i64 (wrap64 ((wrap64 ((wrap64 (a1 * x6_1)) + a1)) + x7_2))] from rfl) (Reps.none _ _)))); intro v180 w18 ho19 hb hg_ hnew_; clear hg_ hnew_; (first | rw [← Ny179.out] at ho19 | (simp only [Int.reduceToNat] at ho19; rw [← Ny179.out] at ho19)); replace HO_5 := am (Kd.S_elder' (qS HO_5.out) (Kd.R_base ho19) hb); have HO181 := am (Kd.R_lower ho19 (below_size qB)); replace BK175 := am (blk_below (g := gb175) (o := .cells #[.slice none 0 0] 28 (0, 0)) (qb BK175.out) hb); replace HB := am (below_step qB hb); clear hb ho19; obtain ⟨Ao21, co21, eo21⟩ := Kd.R_slice HO181.out; subst eo21) | ((with_reducible refine gate_builtin (b := .append) (xs := #[.tmp 22, .tmp 36]) rfl ?_); at_builtin; refine Kd.S_append (Kd.slice 3 (Kd.int .i64)) (w0 := w) w.heap.size rfl (.tmp 22) (.tmp 36) 56 26 (.slice none 0 0) 24 rfl Try.underlying56 info26 rfl (by decide) (by omega) u5 x5_2 y179 [.slice Ao21 y179.length co21] (fun _ => True) (fun k_ => some k_ = (.slice Ao21 y179.length co21 : Value).ownBlock) rfl rfl ?aP (fun k_ hk_ => ((Kd.R_mono (ok' := fun k_ => ((fun _ => True)) k_ ∧ some k_ ≠ (u5 : Value).ownBlock) (Kd.R_apart' (HO181.out) (Kd.S_typed HO_5.out) (by decide)) (fun k_ hk => ⟨trivial, hk.2⟩))).1 k_ hk_.symm) ?aF ?aO ?aB ?aS ?aL ?_; (case aP => exact Kd.M_row (Kd.R_mono (Kd.R_tight rfl (Kd.R_mono (ok' := fun k_ => ((fun _ => True)) k_ ∧ some k_ ≠ (u5 : Value).ownBlock) (Kd.R_apart' (HO181.out) (Kd.S_typed HO_5.out) (by decide)) (fun k_ hk => ⟨trivial, hk.2⟩))) (fun _ h_ => h_))); (case aB => exact qB); (case aF => exact (fun _ _ => trivial)); (case aO => exact (qS (Kd.S_mono HO_5.out (fun k_ hk => ⟨trivial, fun e_ => hk.2 e_⟩)))); (case aS => exact (below_size qB)); (case aL => have := LMc7.out; omega); intro v183 w20 ho hb hg hat; rw [← Ny182.out] at ho; replace BK175 := am (blk_grown (g := gb175) (o := .cells #[.slice none 0 0] 28 (0, 0)) (qb BK175.out) hg (Kd.S_ne HO_5.out BK175.out (by decide))); have n1_ := am (hb); have HO184 := am (ho); clear HB HO_5 HO181; have HB := n1_; clear n1_; clear ho hb hg hat))
         go_roundg k2
         case measure => have := HK1.out; have := HK2.out; omega
         case rel => exact ⟨(y182), (wrap64 (x7_2 + 1)), qe, H', ⟨by have := HK1.out; have := HK2.out; omega⟩, ⟨qS HO184.out⟩, ⟨qb BK175.out⟩, ⟨qB⟩⟩
       ·rw [if_neg c6] at H
        have c6b0 := decide_eq_false c6
        clear c6
        by_cases c22 : (wrap64 (x7_2 + 1)) < a1
        ·rw [if_pos c22] at H
         have c22b0 := decide_eq_true c22
         clear c22
         obtain ⟨y191, hy191⟩ : ∃ y_ : List Int, y_ = (([wrap64 ((wrap64 (a1 * x6_1)) + x7_2), wrap64 ((wrap64 ((wrap64 (a1 * x6_1)) + x7_2)) + 1)] : List Int)) := ⟨_, rfl⟩
         replace H : (if x5_2.length < 5864062014805 then (spec_poRectangle.l1 k2 a0 a1 (x5_2 ++ [y191]) x6_1 (wrap64 (x7_2 + 1))) else (none)) = some r := by first | (rw [hy191]; with_reducible exact H) | (have H2_ := (Option.bind_some _ _).symm.trans H; rw [hy191]; with_reducible exact H2_) | (have H2_ := (Option.bind_some _ _).symm.trans H; with_reducible exact H2_) | with_reducible exact H | (rw [hy191]; exact H) | exact H
         have Ny191 := am hy191
         clear hy191
         by_cases c23 : x5_2.length < 5864062014805
         rotate_left
         ·rw [if_neg c23] at H
          exact absurd H (by simp)
         rw [if_pos c23] at H
         have LMc23 := am c23
         clear c23
         obtain ⟨y194, hy194⟩ : ∃ y_ : List (List Int), y_ = (x5_2 ++ [y191]) := ⟨_, rfl⟩
         replace H : (spec_poRectangle.l1 k2 a0 a1 y194 x6_1 (wrap64 (x7_2 + 1))) = some r := by first | (rw [hy194]; with_reducible exact H) | (have H2_ := (Option.bind_some _ _).symm.trans H; rw [hy194]; with_reducible exact H2_) | (have H2_ := (Option.bind_some _ _).symm.trans H; with_reducible exact H2_) | with_reducible exact H | (rw [hy194]; exact H) | exact H
         have Ny194 := am hy194
         clear hy194
         have H' := am H
         clear H
         go_wp2_with (first | ((with_reducible refine gate_dst (N := 54) rfl ?_); refine Kd.R_lit (Kd.int .i64) _ 3 ?hg (N := 54) ?hd (xs := ([wrap64 ((wrap64 (a1 * x6_1)) + x7_2), wrap64 ((wrap64 ((wrap64 (a1 * x6_1)) + x7_2)) + 1)] : List Int)) (inner := [.int .i64 (wrap64 ((wrap64 (a1 * x6_1)) + x7_2)), .int .i64 (wrap64 ((wrap64 ((wrap64 (a1 * x6_1)) + x7_2)) + 1))]) (ok := fun _ => True) (okp := fun _ => True) ?hr ?hp (fun _ hk => hk) trivial (Below.refl _ _) (Nat.le_refl _) (by simp) ?_; (case hd => rfl); (case hg => rfl); (case hr => first | (go_simp; done) | (go_simp; rfl)); (case hp => exact (Reps.one (show Kd.M (Kd.int .i64) _ _ _ (wrap64 ((wrap64 (a1 * x6_1)) + x7_2)) [.int .i64 (wrap64 ((wrap64 (a1 * x6_1)) + x7_2))] from rfl) (Reps.one (show Kd.M (Kd.int .i64) _ _ _ (wrap64 ((wrap64 ((wrap64 (a1 * x6_1)) + x7_2)) + 1)) [.int .i64 (wrap64 ((wrap64 ((wrap64 (a1 * x6_1)) + x7_2)) + 1))] from rfl) (Reps.none _ _)))); intro v192 w24 ho25 hb hg_ hnew_; clear hg_ hnew_; (first | rw [← Ny191.out] at ho25 | (simp only [Int.reduceToNat] at ho25; rw [← Ny191.out] at ho25)); replace HO_5 := am (Kd.S_elder' (qS HO_5.out) (Kd.R_base ho25) hb); have HO193 := am (Kd.R_lower ho25 (below_size qB)); replace BK175 := am (blk_below (g := gb175) (o := .cells #[.slice none 0 0] 28 (0, 0)) (qb BK175.out) hb); replace HB := am (below_step qB hb); clear hb ho25; obtain ⟨Ao27, co27, eo27⟩ := Kd.R_slice HO193.out; subst eo27) | ((with_reducible refine gate_builtin (b := .append) (xs := #[.tmp 42, .tmp 55]) rfl ?_); at_builtin; refine Kd.S_append (Kd.slice 3 (Kd.int .i64)) (w0 := w) w.heap.size rfl (.tmp 42) (.tmp 55) 56 26 (.slice none 0 0) 24 rfl Try.underlying56 info26 rfl (by decide) (by omega) u5 x5_2 y191 [.slice Ao27 y191.length co27] (fun _ => True) (fun k_ => some k_ = (.slice Ao27 y191.length co27 : Value).ownBlock) rfl rfl ?aP (fun k_ hk_ => ((Kd.R_mono (ok' := fun k_ => ((fun _ => True)) k_ ∧ some k_ ≠ (u5 : Value).ownBlock) (Kd.R_apart' (HO193.out) (Kd.S_typed HO_5.out) (by decide)) (fun k_ hk => ⟨trivial, hk.2⟩))).1 k_ hk_.symm) ?aF ?aO ?aB ?aS ?aL ?_; (case aP => exact Kd.M_row (Kd.R_mono (Kd.R_tight rfl (Kd.R_mono (ok' := fun k_ => ((fun _ => True)) k_ ∧ some k_ ≠ (u5 : Value).ownBlock) (Kd.R_apart' (HO193.out) (Kd.S_typed HO_5.out) (by decide)) (fun k_ hk => ⟨trivial, hk.2⟩))) (fun _ h_ => h_))); (case aB => exact qB); (case aF => exact (fun _ _ => trivial)); (case aO => exact (qS (Kd.S_mono HO_5.out (fun k_ hk => ⟨trivial, fun e_ => hk.2 e_⟩)))); (case aS => exact (below_size qB)); (case aL => have := LMc23.out; omega); intro v195 w26 ho hb hg hat; rw [← Ny194.out] at ho; replace BK175 := am (blk_grown (g := gb175) (o := .cells #[.slice none 0 0] 28 (0, 0)) (qb BK175.out) hg (Kd.S_ne HO_5.out BK175.out (by decide))); have n1_ := am (hb); have HO196 := am (ho); clear HB HO_5 HO193; have HB := n1_; clear n1_; clear ho hb hg hat))
         go_roundg k2
         case measure => have := HK1.out; have := HK2.out; omega
         case rel => exact ⟨(y194), (wrap64 (x7_2 + 1)), qe, H', ⟨by have := HK1.out; have := HK2.out; omega⟩, ⟨qS HO196.out⟩, ⟨qb BK175.out⟩, ⟨qB⟩⟩
        ·rw [if_neg c22] at H
         have c22b0 := decide_eq_false c22
         clear c22
         have H' := am H
         clear H
         go_wp2
         go_roundg k2
         case measure => have := HK1.out; have := HK2.out; omega
         case rel => exact ⟨(x5_2), (wrap64 (x7_2 + 1)), qe, H', ⟨by have := HK1.out; have := HK2.out; omega⟩, ⟨qS HO_5.out⟩, ⟨qb BK175.out⟩, ⟨qB⟩⟩
      ·rw [if_neg c5] at H
       have c5b0 := decide_eq_false c5
       clear c5
       have H' := am H
       clear H
       go_wp2
       go_roundg k2
       case measure => have := HK1.out; have := HK2.out; omega
       case rel => exact ⟨(x5_2), (wrap64 (x6_1 + 1)), qe, H', ⟨by have := HK1.out; have := HK2.out; omega⟩, ⟨qS HO_5.out⟩, ⟨qb BK175.out⟩, ⟨qB⟩⟩
   ·rw [if_neg c4] at H
    have c4b0 := decide_eq_false c4
    clear c4
    replace H := Option.bind_eq_some_iff.mp H
    obtain ⟨t176, A280, H⟩ := H
    replace H : (some t176) = some r := H
    have A28 := am A280
    clear A280
    obtain rfl := Option.some.inj H
    obtain ⟨Ao29, co29, eo29⟩ := Kd.S_slice HO_5.out
    subst eo29
    go_wp2_with (first | ((with_reducible refine gate_callee (f := 92) rfl ?_); refine gL (some 61) Try.func92 #[.int .i64 (wrap64 (a0 * a1)), .slice Ao29 x5_1.length co29] ?_; (with_reducible refine (spec_poFrom.calls k1 (wrap64 (a0 * a1)) _ _ x5_1 t176 _ ?side1 ?side2 A28.out).mono ?_); (case side1 => exact qC (Kd.S_reads' HO_5.out).2.2); (case side2 => exact (Kd.S_reads' HO_5.out).2.1); rintro e w30 ⟨v177, rfl, ho0, hb⟩; refine ⟨_, rfl, ?_⟩; replace HO_5 := am (Kd.S_elder' (qS HO_5.out) (Kd.R_base ho0) hb); have HO178 := am (Kd.R_lower ho0 (below_size qB)); replace BK175 := am (blk_below (g := gb175) (o := .cells #[.slice none 0 0] 28 (0, 0)) (qb BK175.out) hb); replace HB := am (below_step qB hb); (try clear hb); (try clear hb2); (try clear hk); (try clear hi); (try clear ho0); obtain ⟨Ao31, co31, eo31⟩ := Kd.R_slice HO178.out; subst eo31; have hcz32_0 := qz w30 BK175.out; have hfz32_0 := blk_frozen BK175.out 0))
    refine bodyPost_ret (results_cell_row rfl _ _ gb175 28 #[.slice Ao31 t176.length co31] (0, 0) _ rfl (by (with_reducible repeat (first | refine blk_drewN ?_ _ | refine blk_drew ?_ | refine blk_alloc ?_ _)); refine blk_put (cs := #[.slice none 0 0]) ?_ 0 _ rfl; refine qb ?_; exact BK175.out) Try.underlying28 rfl (by kernel_rfl)) rfl ?_
    exact ⟨_, qr, qR (Kd.R_mono (Kd.R_far (p := ⟨gb175, 0, none⟩) (Kd.R_types HO178.out BK175.out (by decide)) (fun _ hk => hk.2) (.slice Ao31 t176.length co31)) (fun _ hk => trivial)), qB⟩
def spec_poSet.f (l0_0 : List Int) (a1 : Int) : Option (Bool) := (spec_l1In.f a1 0 (wrap64 ((shl .i64 1 (l0_0.length : Int)) - 1))).bind fun t524 => (some t524)
set_option maxHeartbeats 8000000 in
set_option maxRecDepth 100000 in
theorem spec_poSet.calls (A0_0 : Option Addr) (c0_0 : Nat) (l0_0 : List Int) (a1 : Int) (r : Bool) (w : World) (hr0_0 : Kd.C (Kd.int .i64) w A0_0 l0_0.length l0_0) (hc0_0 : l0_0.length ≤ c0_0) (h : spec_poSet.f l0_0 a1 = some r) :
 Calls Try.prog 108 #[.agg #[.slice A0_0 l0_0.length c0_0], .int .i64 a1] w fun e w' => e = .returned (.bool r) ∧ Below w.heap.size w w' := by
 have hu28 := Try.underlying28
 have HR0_0 := am hr0_0
 have HC0_0 := am hc0_0
 clear hr0_0 hc0_0
 have HB := am (Below.refl w.heap.size w)
 have H : ((spec_l1In.f a1 0 (wrap64 ((shl .i64 1 (l0_0.length : Int)) - 1))).bind fun t524 => (some t524)) = some r := h
 clear h
 obtain ⟨ji3, hji3⟩ : ∃ j_ : Int, (shl .i64 1 (l0_0.length : Int)) = j_ := ⟨_, rfl⟩
 replace H : ((spec_l1In.f a1 0 (wrap64 ((ji3) - 1))).bind fun t524 => (some t524)) = some r := by first | (rw [hji3] at H; exact H) | (simp only [hji3] at H ⊢; exact H)
 have hji3_ : (IntKind.i64.wrap (1 * 2 ^ min (l0_0.length : Int).toNat 64)) = ji3 := hji3
 have hji3z : (l0_0.length : Int) ≤ 64 → (IntKind.i64.wrap (1 * 2 ^ (l0_0.length : Int).toNat)) = ji3 := shl_small hji3
 have hji3p : (IntKind.i64.wrap (1 * 2 ^ min l0_0.length 64)) = ji3 := hji3_
 have hji3q : (l0_0.length : Int) ≤ 64 → (IntKind.i64.wrap (1 * 2 ^ l0_0.length)) = ji3 := hji3z
 have hji3r : (IntKind.i64.wrap (2 ^ min l0_0.length 64)) = ji3 := by have h_ := hji3p; rw [Int.one_mul] at h_; exact h_
 have hji3s : (l0_0.length : Int) ≤ 64 → (IntKind.i64.wrap (2 ^ l0_0.length)) = ji3 := fun hle_ => by have h_ := hji3q hle_; rw [Int.one_mul] at h_; exact h_
 have hji3u : (IntKind.i64.wrap (2 ^ min (l0_0.length : Int).toNat 64)) = ji3 := by have h_ := hji3_; rw [Int.one_mul] at h_; exact h_
 have hji3v : (l0_0.length : Int) ≤ 64 → (IntKind.i64.wrap (2 ^ (l0_0.length : Int).toNat)) = ji3 := fun hle_ => by have h_ := hji3z hle_; rw [Int.one_mul] at h_; exact h_
 have hji3y : (wrap64 (1 * 2 ^ min (l0_0.length : Int).toNat 64)) = ji3 := (i64_w _).symm.trans hji3_
 have hji3x : (l0_0.length : Int) ≤ 64 → (wrap64 (1 * 2 ^ (l0_0.length : Int).toNat)) = ji3 := fun h_ => (i64_w _).symm.trans (hji3z h_)
 replace H := Option.bind_eq_some_iff.mp H
 obtain ⟨t524, A40, H⟩ := H
 replace H : (some t524) = some r := H
 have A4 := am A40
 clear A40
 obtain rfl := Option.some.inj H
 go_enter Try.func108, Try.ntmps108
 go_wp2_with (first | ((with_reducible refine gate_dst (N := 2) rfl ?_); refine qx (N := 2) (cs := #[.slice A0_0 l0_0.length c0_0]) (t := 28) ?_; intro gb523 hg w5 hbox hb; have n0_ := am (below_step qB hb); have BK523 := am (hbox); have GW523 := am (qg w hg); have GE523 := am (qg w hg); clear HB; have HB := n0_; clear n0_; clear hb hbox hg; have hcz6_0 := qz w5 BK523.out; have hfz6_0 := blk_frozen BK523.out 0) | ((with_reducible refine gate_callee (f := 90) rfl ?_); refine goesL_ (some 11) rfl rfl Try.func90 (by kernel_rfl) rfl #[.int .i64 a1, .int .i64 0, .int .i64 (wrap64 ((ji3) - 1))] rfl (by (try simp only [List.map_toArray, List.map_cons, List.map_nil]); first | done | (simp only [hji3]; rfl) | rfl | (simp only [List.length_drop, List.length_take]; rfl)) ?_; (with_reducible refine (spec_l1In.calls a1 0 (wrap64 ((ji3) - 1)) t524 _ A4.out).mono ?_); rintro e w' ⟨rfl, ⟨nd, rfl⟩⟩; refine ⟨_, rfl, ?_⟩))
 go_ret
 exact ⟨by first | rfl | (simp [errW_none, errW_some] <;> rfl) | (simp only [← hji3]; first | rfl | (simp [errW_none, errW_some] <;> rfl)) | (simp [*, errW_none, errW_some] <;> rfl), qB⟩
def spec_BottomOf.f (k : Nat) (l0_0 : List Int) (a1 : Int) : Option (Int × Bool) := (spec_poGood.f k l0_0).bind fun t574 => (if t574 = true then ((spec_poSet.f l0_0 a1).bind fun t575 => (if t575 = true then ((spec_poBottom.f k l0_0 a1).bind fun t576 => (some (t576, true))) else (some (0, false)))) else (some (0, false)))
theorem spec_BottomOf.mono : ∀ a0 a1 k, LeO (spec_BottomOf.f k a0 a1) (spec_BottomOf.f (k + 1) a0 a1) := by
 intro a0 a1 k
 unfold spec_BottomOf.f
 repeat' first
  | (with_reducible exact spec_poBottom.mono _ _ _)
  | (with_reducible exact spec_poGood.mono _ _)
  | (with_reducible exact LeO.refl _)
  | (with_reducible exact LeO.none _)
  | (with_reducible refine LeO.ite ?_ ?_)
  | (with_reducible refine LeO.bind ?_ (fun _ => ?_))
  | exact spec_poBottom.mono _ _ _
  | exact spec_poGood.mono _ _
  | exact LeO.none _
  | refine LeO.ite ?_ ?_
  | refine LeO.bind ?_ (fun _ => ?_)
set_option maxHeartbeats 8000000 in
set_option maxRecDepth 100000 in
theorem spec_BottomOf.calls (k : Nat) (A0_0 : Option Addr) (c0_0 : Nat) (l0_0 : List Int) (a1 : Int) (r1 : Int) (r2 : Bool) (w : World) (hr0_0 : Kd.C (Kd.int .i64) w A0_0 l0_0.length l0_0) (hc0_0 : l0_0.length ≤ c0_0) (h : spec_BottomOf.f k l0_0 a1 = some (r1, r2)) :
 Calls Try.prog 40 #[.agg #[.slice A0_0 l0_0.length c0_0], .int .i64 a1] w fun e w' => e = .returned (.tuple #[.int .i64 r1, .bool r2]) ∧ Below w.heap.size w w' := by
 have hu28 := Try.underlying28
 have HR0_0 := am hr0_0
 have HC0_0 := am hc0_0
 clear hr0_0 hc0_0
 have HB := am (Below.refl w.heap.size w)
 have H : ((spec_poGood.f k l0_0).bind fun t574 => (if t574 = true then ((spec_poSet.f l0_0 a1).bind fun t575 => (if t575 = true then ((spec_poBottom.f k l0_0 a1).bind fun t576 => (some (t576, true))) else (some (0, false)))) else (some (0, false)))) = some (r1, r2) := h
 clear h
 replace H := Option.bind_eq_some_iff.mp H
 obtain ⟨t574, A30, H⟩ := H
 replace H : (if t574 = true then ((spec_poSet.f l0_0 a1).bind fun t575 => (if t575 = true then ((spec_poBottom.f k l0_0 a1).bind fun t576 => (some (t576, true))) else (some (0, false)))) else (some (0, false))) = some (r1, r2) := H
 have A3 := am A30
 clear A30
 by_cases c4 : t574 = true
 ·subst c4
  have H1 : ((spec_poSet.f l0_0 a1).bind fun t575 => (if t575 = true then ((spec_poBottom.f k l0_0 a1).bind fun t576 => (some (t576, true))) else (some (0, false)))) = some (r1, r2) := by rw [if_pos rfl] at H; exact H
  clear H
  have H := H1
  clear H1
  replace H := Option.bind_eq_some_iff.mp H
  obtain ⟨t575, A50, H⟩ := H
  replace H : (if t575 = true then ((spec_poBottom.f k l0_0 a1).bind fun t576 => (some (t576, true))) else (some (0, false))) = some (r1, r2) := H
  have A5 := am A50
  clear A50
  by_cases c6 : t575 = true
  ·subst c6
   have H1 : ((spec_poBottom.f k l0_0 a1).bind fun t576 => (some (t576, true))) = some (r1, r2) := by rw [if_pos rfl] at H; exact H
   clear H
   have H := H1
   clear H1
   replace H := Option.bind_eq_some_iff.mp H
   obtain ⟨t576, A70, H⟩ := H
   replace H : (some (t576, true)) = some (r1, r2) := H
   have A7 := am A70
   clear A70
   simp only [Option.some.injEq, Prod.mk.injEq] at H
   obtain ⟨rfl, rfl⟩ := H
   go_enter Try.func40, Try.ntmps40
   go_wp2_with (first | ((with_reducible refine gate_dst (N := 2) rfl ?_); refine qx (N := 2) (cs := #[.slice A0_0 l0_0.length c0_0]) (t := 28) ?_; intro gb573 hg w8 hbox hb; have n0_ := am (below_step qB hb); have BK573 := am (hbox); have GW573 := am (qg w hg); have GE573 := am (qg w hg); clear HB; have HB := n0_; clear n0_; clear hb hbox hg; have hcz9_0 := qz w8 BK573.out; have hfz9_0 := blk_frozen BK573.out 0) | ((with_reducible refine gate_callee (f := 94) rfl ?_); refine gL (some 7) Try.func94 #[.agg #[.slice A0_0 l0_0.length c0_0]] ?_; (with_reducible refine (spec_poGood.calls k _ _ l0_0 true _ ?side1 ?side2 A3.out).mono ?_); (case side1 => exact qC (Kd.C_below HR0_0.out HB.out)); (case side2 => exact HC0_0.out); rintro e w10 ⟨rfl, hb⟩; refine ⟨_, rfl, ?_⟩; replace BK573 := am (blk_below (g := gb573) (o := .cells #[.slice A0_0 l0_0.length c0_0] 28 (0, 0)) (qb BK573.out) hb); replace HB := am (below_step qB hb); (try clear hb); (try clear hb2); (try clear hk); (try clear hi); have hcz11_0 := qz w10 BK573.out; have hfz11_0 := blk_frozen BK573.out 0) | (go_at_call 108; (with_reducible refine (spec_poSet.calls _ _ l0_0 a1 true _ ?side1 ?side2 A5.out).mono ?_); (case side1 => exact qC (Kd.C_below HR0_0.out HB.out)); (case side2 => exact HC0_0.out); rintro e w12 ⟨rfl, hb⟩; replace BK573 := am (blk_below (g := gb573) (o := .cells #[.slice A0_0 l0_0.length c0_0] 28 (0, 0)) (qb BK573.out) hb); replace HB := am (below_step qB hb); (try clear hb); (try clear hb2); (try clear hk); (try clear hi); have hcz13_0 := qz w12 BK573.out; have hfz13_0 := blk_frozen BK573.out 0) | ((with_reducible refine gate_callee (f := 111) rfl ?_); refine gL (some 17) Try.func111 #[.agg #[.slice A0_0 l0_0.length c0_0], .int .i64 a1] ?_; (with_reducible refine (spec_poBottom.calls k _ _ l0_0 a1 t576 _ ?side1 ?side2 A7.out).mono ?_); (case side1 => exact qC (Kd.C_below HR0_0.out HB.out)); (case side2 => exact HC0_0.out); rintro e w14 ⟨rfl, hb⟩; refine ⟨_, rfl, ?_⟩; replace BK573 := am (blk_below (g := gb573) (o := .cells #[.slice A0_0 l0_0.length c0_0] 28 (0, 0)) (qb BK573.out) hb); replace HB := am (below_step qB hb); (try clear hb); (try clear hb2); (try clear hk); (try clear hi)))
   go_ret2
   exact ⟨qr, qB⟩
  ·replace c6 := Bool.eq_false_iff.mpr c6
   subst c6
   have H1 : (some (0, false)) = some (r1, r2) := by rw [if_neg (show ¬ (false = true) by decide)] at H; exact H
   clear H
   have H := H1
   clear H1
   simp only [Option.some.injEq, Prod.mk.injEq] at H
   obtain ⟨rfl, rfl⟩ := H
   go_enter Try.func40, Try.ntmps40
   go_wp2_with (first | ((with_reducible refine gate_dst (N := 2) rfl ?_); refine qx (N := 2) (cs := #[.slice A0_0 l0_0.length c0_0]) (t := 28) ?_; intro gb573 hg w15 hbox hb; have n0_ := am (below_step qB hb); have BK573 := am (hbox); have GW573 := am (qg w hg); have GE573 := am (qg w hg); clear HB; have HB := n0_; clear n0_; clear hb hbox hg; have hcz16_0 := qz w15 BK573.out; have hfz16_0 := blk_frozen BK573.out 0) | ((with_reducible refine gate_callee (f := 94) rfl ?_); refine gL (some 7) Try.func94 #[.agg #[.slice A0_0 l0_0.length c0_0]] ?_; (with_reducible refine (spec_poGood.calls k _ _ l0_0 true _ ?side1 ?side2 A3.out).mono ?_); (case side1 => exact qC (Kd.C_below HR0_0.out HB.out)); (case side2 => exact HC0_0.out); rintro e w17 ⟨rfl, hb⟩; refine ⟨_, rfl, ?_⟩; replace BK573 := am (blk_below (g := gb573) (o := .cells #[.slice A0_0 l0_0.length c0_0] 28 (0, 0)) (qb BK573.out) hb); replace HB := am (below_step qB hb); (try clear hb); (try clear hb2); (try clear hk); (try clear hi); have hcz18_0 := qz w17 BK573.out; have hfz18_0 := blk_frozen BK573.out 0) | (go_at_call 108; (with_reducible refine (spec_poSet.calls _ _ l0_0 a1 false _ ?side1 ?side2 A5.out).mono ?_); (case side1 => exact qC (Kd.C_below HR0_0.out HB.out)); (case side2 => exact HC0_0.out); rintro e w19 ⟨rfl, hb⟩; replace BK573 := am (blk_below (g := gb573) (o := .cells #[.slice A0_0 l0_0.length c0_0] 28 (0, 0)) (qb BK573.out) hb); replace HB := am (below_step qB hb); (try clear hb); (try clear hb2); (try clear hk); (try clear hi)))
   go_ret2
   exact ⟨qr, qB⟩
 ·replace c4 := Bool.eq_false_iff.mpr c4
  subst c4
  have H1 : (some (0, false)) = some (r1, r2) := by rw [if_neg (show ¬ (false = true) by decide)] at H; exact H
  clear H
  have H := H1
  clear H1
  simp only [Option.some.injEq, Prod.mk.injEq] at H
  obtain ⟨rfl, rfl⟩ := H
  go_enter Try.func40, Try.ntmps40
  go_wp2_with (first | ((with_reducible refine gate_dst (N := 2) rfl ?_); refine qx (N := 2) (cs := #[.slice A0_0 l0_0.length c0_0]) (t := 28) ?_; intro gb573 hg w20 hbox hb; have n0_ := am (below_step qB hb); have BK573 := am (hbox); have GW573 := am (qg w hg); have GE573 := am (qg w hg); clear HB; have HB := n0_; clear n0_; clear hb hbox hg; have hcz21_0 := qz w20 BK573.out; have hfz21_0 := blk_frozen BK573.out 0) | ((with_reducible refine gate_callee (f := 94) rfl ?_); refine gL (some 7) Try.func94 #[.agg #[.slice A0_0 l0_0.length c0_0]] ?_; (with_reducible refine (spec_poGood.calls k _ _ l0_0 false _ ?side1 ?side2 A3.out).mono ?_); (case side1 => exact qC (Kd.C_below HR0_0.out HB.out)); (case side2 => exact HC0_0.out); rintro e w22 ⟨rfl, hb⟩; refine ⟨_, rfl, ?_⟩; replace BK573 := am (blk_below (g := gb573) (o := .cells #[.slice A0_0 l0_0.length c0_0] 28 (0, 0)) (qb BK573.out) hb); replace HB := am (below_step qB hb); (try clear hb); (try clear hb2); (try clear hk); (try clear hi)))
  go_ret2
  exact ⟨qr, qB⟩
def spec_IdealOf.f (k : Nat) (l0_0 : List Int) (a1 : Int) : Option (Int × Bool) := (spec_poGood.f k l0_0).bind fun t554 => (if t554 = true then ((spec_poSet.f l0_0 a1).bind fun t555 => (if t555 = true then ((spec_poDown.f k l0_0 a1).bind fun t556 => (some (t556, true))) else (some (0, false)))) else (some (0, false)))
theorem spec_IdealOf.mono : ∀ a0 a1 k, LeO (spec_IdealOf.f k a0 a1) (spec_IdealOf.f (k + 1) a0 a1) := by
 intro a0 a1 k
 unfold spec_IdealOf.f
 repeat' first
  | (with_reducible exact spec_poDown.mono _ _ _)
  | (with_reducible exact spec_poGood.mono _ _)
  | (with_reducible exact LeO.refl _)
  | (with_reducible exact LeO.none _)
  | (with_reducible refine LeO.ite ?_ ?_)
  | (with_reducible refine LeO.bind ?_ (fun _ => ?_))
  | exact spec_poDown.mono _ _ _
  | exact spec_poGood.mono _ _
  | exact LeO.none _
  | refine LeO.ite ?_ ?_
  | refine LeO.bind ?_ (fun _ => ?_)
set_option maxHeartbeats 8000000 in
set_option maxRecDepth 100000 in
theorem spec_IdealOf.calls (k : Nat) (A0_0 : Option Addr) (c0_0 : Nat) (l0_0 : List Int) (a1 : Int) (r1 : Int) (r2 : Bool) (w : World) (hr0_0 : Kd.C (Kd.int .i64) w A0_0 l0_0.length l0_0) (hc0_0 : l0_0.length ≤ c0_0) (h : spec_IdealOf.f k l0_0 a1 = some (r1, r2)) :
 Calls Try.prog 37 #[.agg #[.slice A0_0 l0_0.length c0_0], .int .i64 a1] w fun e w' => e = .returned (.tuple #[.int .i64 r1, .bool r2]) ∧ Below w.heap.size w w' := by
 have hu28 := Try.underlying28
 have HR0_0 := am hr0_0
 have HC0_0 := am hc0_0
 clear hr0_0 hc0_0
 have HB := am (Below.refl w.heap.size w)
 have H : ((spec_poGood.f k l0_0).bind fun t554 => (if t554 = true then ((spec_poSet.f l0_0 a1).bind fun t555 => (if t555 = true then ((spec_poDown.f k l0_0 a1).bind fun t556 => (some (t556, true))) else (some (0, false)))) else (some (0, false)))) = some (r1, r2) := h
 clear h
 replace H := Option.bind_eq_some_iff.mp H
 obtain ⟨t554, A30, H⟩ := H
 replace H : (if t554 = true then ((spec_poSet.f l0_0 a1).bind fun t555 => (if t555 = true then ((spec_poDown.f k l0_0 a1).bind fun t556 => (some (t556, true))) else (some (0, false)))) else (some (0, false))) = some (r1, r2) := H
 have A3 := am A30
 clear A30
 by_cases c4 : t554 = true
 ·subst c4
  have H1 : ((spec_poSet.f l0_0 a1).bind fun t555 => (if t555 = true then ((spec_poDown.f k l0_0 a1).bind fun t556 => (some (t556, true))) else (some (0, false)))) = some (r1, r2) := by rw [if_pos rfl] at H; exact H
  clear H
  have H := H1
  clear H1
  replace H := Option.bind_eq_some_iff.mp H
  obtain ⟨t555, A50, H⟩ := H
  replace H : (if t555 = true then ((spec_poDown.f k l0_0 a1).bind fun t556 => (some (t556, true))) else (some (0, false))) = some (r1, r2) := H
  have A5 := am A50
  clear A50
  by_cases c6 : t555 = true
  ·subst c6
   have H1 : ((spec_poDown.f k l0_0 a1).bind fun t556 => (some (t556, true))) = some (r1, r2) := by rw [if_pos rfl] at H; exact H
   clear H
   have H := H1
   clear H1
   replace H := Option.bind_eq_some_iff.mp H
   obtain ⟨t556, A70, H⟩ := H
   replace H : (some (t556, true)) = some (r1, r2) := H
   have A7 := am A70
   clear A70
   simp only [Option.some.injEq, Prod.mk.injEq] at H
   obtain ⟨rfl, rfl⟩ := H
   go_enter Try.func37, Try.ntmps37
   go_wp2_with (first | ((with_reducible refine gate_dst (N := 2) rfl ?_); refine qx (N := 2) (cs := #[.slice A0_0 l0_0.length c0_0]) (t := 28) ?_; intro gb553 hg w8 hbox hb; have n0_ := am (below_step qB hb); have BK553 := am (hbox); have GW553 := am (qg w hg); have GE553 := am (qg w hg); clear HB; have HB := n0_; clear n0_; clear hb hbox hg; have hcz9_0 := qz w8 BK553.out; have hfz9_0 := blk_frozen BK553.out 0) | ((with_reducible refine gate_callee (f := 94) rfl ?_); refine gL (some 7) Try.func94 #[.agg #[.slice A0_0 l0_0.length c0_0]] ?_; (with_reducible refine (spec_poGood.calls k _ _ l0_0 true _ ?side1 ?side2 A3.out).mono ?_); (case side1 => exact qC (Kd.C_below HR0_0.out HB.out)); (case side2 => exact HC0_0.out); rintro e w10 ⟨rfl, hb⟩; refine ⟨_, rfl, ?_⟩; replace BK553 := am (blk_below (g := gb553) (o := .cells #[.slice A0_0 l0_0.length c0_0] 28 (0, 0)) (qb BK553.out) hb); replace HB := am (below_step qB hb); (try clear hb); (try clear hb2); (try clear hk); (try clear hi); have hcz11_0 := qz w10 BK553.out; have hfz11_0 := blk_frozen BK553.out 0) | (go_at_call 108; (with_reducible refine (spec_poSet.calls _ _ l0_0 a1 true _ ?side1 ?side2 A5.out).mono ?_); (case side1 => exact qC (Kd.C_below HR0_0.out HB.out)); (case side2 => exact HC0_0.out); rintro e w12 ⟨rfl, hb⟩; replace BK553 := am (blk_below (g := gb553) (o := .cells #[.slice A0_0 l0_0.length c0_0] 28 (0, 0)) (qb BK553.out) hb); replace HB := am (below_step qB hb); (try clear hb); (try clear hb2); (try clear hk); (try clear hi); have hcz13_0 := qz w12 BK553.out; have hfz13_0 := blk_frozen BK553.out 0) | ((with_reducible refine gate_callee (f := 109) rfl ?_); refine gL (some 17) Try.func109 #[.agg #[.slice A0_0 l0_0.length c0_0], .int .i64 a1] ?_; (with_reducible refine (spec_poDown.calls k _ _ l0_0 a1 t556 _ ?side1 ?side2 A7.out).mono ?_); (case side1 => exact qC (Kd.C_below HR0_0.out HB.out)); (case side2 => exact HC0_0.out); rintro e w14 ⟨rfl, hb⟩; refine ⟨_, rfl, ?_⟩; replace BK553 := am (blk_below (g := gb553) (o := .cells #[.slice A0_0 l0_0.length c0_0] 28 (0, 0)) (qb BK553.out) hb); replace HB := am (below_step qB hb); (try clear hb); (try clear hb2); (try clear hk); (try clear hi)))
   go_ret2
   exact ⟨qr, qB⟩
  ·replace c6 := Bool.eq_false_iff.mpr c6
   subst c6
   have H1 : (some (0, false)) = some (r1, r2) := by rw [if_neg (show ¬ (false = true) by decide)] at H; exact H
   clear H
   have H := H1
   clear H1
   simp only [Option.some.injEq, Prod.mk.injEq] at H
   obtain ⟨rfl, rfl⟩ := H
   go_enter Try.func37, Try.ntmps37
   go_wp2_with (first | ((with_reducible refine gate_dst (N := 2) rfl ?_); refine qx (N := 2) (cs := #[.slice A0_0 l0_0.length c0_0]) (t := 28) ?_; intro gb553 hg w15 hbox hb; have n0_ := am (below_step qB hb); have BK553 := am (hbox); have GW553 := am (qg w hg); have GE553 := am (qg w hg); clear HB; have HB := n0_; clear n0_; clear hb hbox hg; have hcz16_0 := qz w15 BK553.out; have hfz16_0 := blk_frozen BK553.out 0) | ((with_reducible refine gate_callee (f := 94) rfl ?_); refine gL (some 7) Try.func94 #[.agg #[.slice A0_0 l0_0.length c0_0]] ?_; (with_reducible refine (spec_poGood.calls k _ _ l0_0 true _ ?side1 ?side2 A3.out).mono ?_); (case side1 => exact qC (Kd.C_below HR0_0.out HB.out)); (case side2 => exact HC0_0.out); rintro e w17 ⟨rfl, hb⟩; refine ⟨_, rfl, ?_⟩; replace BK553 := am (blk_below (g := gb553) (o := .cells #[.slice A0_0 l0_0.length c0_0] 28 (0, 0)) (qb BK553.out) hb); replace HB := am (below_step qB hb); (try clear hb); (try clear hb2); (try clear hk); (try clear hi); have hcz18_0 := qz w17 BK553.out; have hfz18_0 := blk_frozen BK553.out 0) | (go_at_call 108; (with_reducible refine (spec_poSet.calls _ _ l0_0 a1 false _ ?side1 ?side2 A5.out).mono ?_); (case side1 => exact qC (Kd.C_below HR0_0.out HB.out)); (case side2 => exact HC0_0.out); rintro e w19 ⟨rfl, hb⟩; replace BK553 := am (blk_below (g := gb553) (o := .cells #[.slice A0_0 l0_0.length c0_0] 28 (0, 0)) (qb BK553.out) hb); replace HB := am (below_step qB hb); (try clear hb); (try clear hb2); (try clear hk); (try clear hi)))
   go_ret2
   exact ⟨qr, qB⟩
 ·replace c4 := Bool.eq_false_iff.mpr c4
  subst c4
  have H1 : (some (0, false)) = some (r1, r2) := by rw [if_neg (show ¬ (false = true) by decide)] at H; exact H
  clear H
  have H := H1
  clear H1
  simp only [Option.some.injEq, Prod.mk.injEq] at H
  obtain ⟨rfl, rfl⟩ := H
  go_enter Try.func37, Try.ntmps37
  go_wp2_with (first | ((with_reducible refine gate_dst (N := 2) rfl ?_); refine qx (N := 2) (cs := #[.slice A0_0 l0_0.length c0_0]) (t := 28) ?_; intro gb553 hg w20 hbox hb; have n0_ := am (below_step qB hb); have BK553 := am (hbox); have GW553 := am (qg w hg); have GE553 := am (qg w hg); clear HB; have HB := n0_; clear n0_; clear hb hbox hg; have hcz21_0 := qz w20 BK553.out; have hfz21_0 := blk_frozen BK553.out 0) | ((with_reducible refine gate_callee (f := 94) rfl ?_); refine gL (some 7) Try.func94 #[.agg #[.slice A0_0 l0_0.length c0_0]] ?_; (with_reducible refine (spec_poGood.calls k _ _ l0_0 false _ ?side1 ?side2 A3.out).mono ?_); (case side1 => exact qC (Kd.C_below HR0_0.out HB.out)); (case side2 => exact HC0_0.out); rintro e w22 ⟨rfl, hb⟩; refine ⟨_, rfl, ?_⟩; replace BK553 := am (blk_below (g := gb553) (o := .cells #[.slice A0_0 l0_0.length c0_0] 28 (0, 0)) (qb BK553.out) hb); replace HB := am (below_step qB hb); (try clear hb); (try clear hb2); (try clear hk); (try clear hi)))
  go_ret2
  exact ⟨qr, qB⟩
def spec_IsIdeal.f (k : Nat) (l0_0 : List Int) (a1 : Int) : Option (Bool × Bool) := (spec_poGood.f k l0_0).bind fun t581 => (if t581 = true then ((spec_poSet.f l0_0 a1).bind fun t582 => (if t582 = true then ((spec_poIdeal.f k l0_0 a1).bind fun t583 => (some (t583, true))) else (some (false, false)))) else (some (false, false)))
theorem spec_IsIdeal.mono : ∀ a0 a1 k, LeO (spec_IsIdeal.f k a0 a1) (spec_IsIdeal.f (k + 1) a0 a1) := by
 intro a0 a1 k
 unfold spec_IsIdeal.f
 repeat' first
  | (with_reducible exact spec_poGood.mono _ _)
  | (with_reducible exact spec_poIdeal.mono _ _ _)
  | (with_reducible exact LeO.refl _)
  | (with_reducible exact LeO.none _)
  | (with_reducible refine LeO.ite ?_ ?_)
  | (with_reducible refine LeO.bind ?_ (fun _ => ?_))
  | exact spec_poGood.mono _ _
  | exact spec_poIdeal.mono _ _ _
  | exact LeO.none _
  | refine LeO.ite ?_ ?_
  | refine LeO.bind ?_ (fun _ => ?_)
set_option maxHeartbeats 8000000 in
set_option maxRecDepth 100000 in
theorem spec_IsIdeal.calls (k : Nat) (A0_0 : Option Addr) (c0_0 : Nat) (l0_0 : List Int) (a1 : Int) (r1 : Bool) (r2 : Bool) (w : World) (hr0_0 : Kd.C (Kd.int .i64) w A0_0 l0_0.length l0_0) (hc0_0 : l0_0.length ≤ c0_0) (h : spec_IsIdeal.f k l0_0 a1 = some (r1, r2)) :
 Calls Try.prog 42 #[.agg #[.slice A0_0 l0_0.length c0_0], .int .i64 a1] w fun e w' => e = .returned (.tuple #[.bool r1, .bool r2]) ∧ Below w.heap.size w w' := by
 have hu28 := Try.underlying28
 have HR0_0 := am hr0_0
 have HC0_0 := am hc0_0
 clear hr0_0 hc0_0
 have HB := am (Below.refl w.heap.size w)
 have H : ((spec_poGood.f k l0_0).bind fun t581 => (if t581 = true then ((spec_poSet.f l0_0 a1).bind fun t582 => (if t582 = true then ((spec_poIdeal.f k l0_0 a1).bind fun t583 => (some (t583, true))) else (some (false, false)))) else (some (false, false)))) = some (r1, r2) := h
 clear h
 replace H := Option.bind_eq_some_iff.mp H
 obtain ⟨t581, A30, H⟩ := H
 replace H : (if t581 = true then ((spec_poSet.f l0_0 a1).bind fun t582 => (if t582 = true then ((spec_poIdeal.f k l0_0 a1).bind fun t583 => (some (t583, true))) else (some (false, false)))) else (some (false, false))) = some (r1, r2) := H
 have A3 := am A30
 clear A30
 by_cases c4 : t581 = true
 ·subst c4
  have H1 : ((spec_poSet.f l0_0 a1).bind fun t582 => (if t582 = true then ((spec_poIdeal.f k l0_0 a1).bind fun t583 => (some (t583, true))) else (some (false, false)))) = some (r1, r2) := by rw [if_pos rfl] at H; exact H
  clear H
  have H := H1
  clear H1
  replace H := Option.bind_eq_some_iff.mp H
  obtain ⟨t582, A50, H⟩ := H
  replace H : (if t582 = true then ((spec_poIdeal.f k l0_0 a1).bind fun t583 => (some (t583, true))) else (some (false, false))) = some (r1, r2) := H
  have A5 := am A50
  clear A50
  by_cases c6 : t582 = true
  ·subst c6
   have H1 : ((spec_poIdeal.f k l0_0 a1).bind fun t583 => (some (t583, true))) = some (r1, r2) := by rw [if_pos rfl] at H; exact H
   clear H
   have H := H1
   clear H1
   replace H := Option.bind_eq_some_iff.mp H
   obtain ⟨t583, A70, H⟩ := H
   replace H : (some (t583, true)) = some (r1, r2) := H
   have A7 := am A70
   clear A70
   simp only [Option.some.injEq, Prod.mk.injEq] at H
   obtain ⟨rfl, rfl⟩ := H
   go_enter Try.func42, Try.ntmps42
   go_wp2_with (first | ((with_reducible refine gate_dst (N := 2) rfl ?_); refine qx (N := 2) (cs := #[.slice A0_0 l0_0.length c0_0]) (t := 28) ?_; intro gb580 hg w8 hbox hb; have n0_ := am (below_step qB hb); have BK580 := am (hbox); have GW580 := am (qg w hg); have GE580 := am (qg w hg); clear HB; have HB := n0_; clear n0_; clear hb hbox hg; have hcz9_0 := qz w8 BK580.out; have hfz9_0 := blk_frozen BK580.out 0) | ((with_reducible refine gate_callee (f := 94) rfl ?_); refine gL (some 7) Try.func94 #[.agg #[.slice A0_0 l0_0.length c0_0]] ?_; (with_reducible refine (spec_poGood.calls k _ _ l0_0 true _ ?side1 ?side2 A3.out).mono ?_); (case side1 => exact qC (Kd.C_below HR0_0.out HB.out)); (case side2 => exact HC0_0.out); rintro e w10 ⟨rfl, hb⟩; refine ⟨_, rfl, ?_⟩; replace BK580 := am (blk_below (g := gb580) (o := .cells #[.slice A0_0 l0_0.length c0_0] 28 (0, 0)) (qb BK580.out) hb); replace HB := am (below_step qB hb); (try clear hb); (try clear hb2); (try clear hk); (try clear hi); have hcz11_0 := qz w10 BK580.out; have hfz11_0 := blk_frozen BK580.out 0) | (go_at_call 108; (with_reducible refine (spec_poSet.calls _ _ l0_0 a1 true _ ?side1 ?side2 A5.out).mono ?_); (case side1 => exact qC (Kd.C_below HR0_0.out HB.out)); (case side2 => exact HC0_0.out); rintro e w12 ⟨rfl, hb⟩; replace BK580 := am (blk_below (g := gb580) (o := .cells #[.slice A0_0 l0_0.length c0_0] 28 (0, 0)) (qb BK580.out) hb); replace HB := am (below_step qB hb); (try clear hb); (try clear hb2); (try clear hk); (try clear hi); have hcz13_0 := qz w12 BK580.out; have hfz13_0 := blk_frozen BK580.out 0) | ((with_reducible refine gate_callee (f := 112) rfl ?_); refine gL (some 17) Try.func112 #[.agg #[.slice A0_0 l0_0.length c0_0], .int .i64 a1] ?_; (with_reducible refine (spec_poIdeal.calls k _ _ l0_0 a1 t583 _ ?side1 ?side2 A7.out).mono ?_); (case side1 => exact qC (Kd.C_below HR0_0.out HB.out)); (case side2 => exact HC0_0.out); rintro e w14 ⟨rfl, hb⟩; refine ⟨_, rfl, ?_⟩; replace BK580 := am (blk_below (g := gb580) (o := .cells #[.slice A0_0 l0_0.length c0_0] 28 (0, 0)) (qb BK580.out) hb); replace HB := am (below_step qB hb); (try clear hb); (try clear hb2); (try clear hk); (try clear hi)))
   go_ret2
   exact ⟨qr, qB⟩
  ·replace c6 := Bool.eq_false_iff.mpr c6
   subst c6
   have H1 : (some (false, false)) = some (r1, r2) := by rw [if_neg (show ¬ (false = true) by decide)] at H; exact H
   clear H
   have H := H1
   clear H1
   simp only [Option.some.injEq, Prod.mk.injEq] at H
   obtain ⟨rfl, rfl⟩ := H
   go_enter Try.func42, Try.ntmps42
   go_wp2_with (first | ((with_reducible refine gate_dst (N := 2) rfl ?_); refine qx (N := 2) (cs := #[.slice A0_0 l0_0.length c0_0]) (t := 28) ?_; intro gb580 hg w15 hbox hb; have n0_ := am (below_step qB hb); have BK580 := am (hbox); have GW580 := am (qg w hg); have GE580 := am (qg w hg); clear HB; have HB := n0_; clear n0_; clear hb hbox hg; have hcz16_0 := qz w15 BK580.out; have hfz16_0 := blk_frozen BK580.out 0) | ((with_reducible refine gate_callee (f := 94) rfl ?_); refine gL (some 7) Try.func94 #[.agg #[.slice A0_0 l0_0.length c0_0]] ?_; (with_reducible refine (spec_poGood.calls k _ _ l0_0 true _ ?side1 ?side2 A3.out).mono ?_); (case side1 => exact qC (Kd.C_below HR0_0.out HB.out)); (case side2 => exact HC0_0.out); rintro e w17 ⟨rfl, hb⟩; refine ⟨_, rfl, ?_⟩; replace BK580 := am (blk_below (g := gb580) (o := .cells #[.slice A0_0 l0_0.length c0_0] 28 (0, 0)) (qb BK580.out) hb); replace HB := am (below_step qB hb); (try clear hb); (try clear hb2); (try clear hk); (try clear hi); have hcz18_0 := qz w17 BK580.out; have hfz18_0 := blk_frozen BK580.out 0) | (go_at_call 108; (with_reducible refine (spec_poSet.calls _ _ l0_0 a1 false _ ?side1 ?side2 A5.out).mono ?_); (case side1 => exact qC (Kd.C_below HR0_0.out HB.out)); (case side2 => exact HC0_0.out); rintro e w19 ⟨rfl, hb⟩; replace BK580 := am (blk_below (g := gb580) (o := .cells #[.slice A0_0 l0_0.length c0_0] 28 (0, 0)) (qb BK580.out) hb); replace HB := am (below_step qB hb); (try clear hb); (try clear hb2); (try clear hk); (try clear hi)))
   go_ret2
   exact ⟨qr, qB⟩
 ·replace c4 := Bool.eq_false_iff.mpr c4
  subst c4
  have H1 : (some (false, false)) = some (r1, r2) := by rw [if_neg (show ¬ (false = true) by decide)] at H; exact H
  clear H
  have H := H1
  clear H1
  simp only [Option.some.injEq, Prod.mk.injEq] at H
  obtain ⟨rfl, rfl⟩ := H
  go_enter Try.func42, Try.ntmps42
  go_wp2_with (first | ((with_reducible refine gate_dst (N := 2) rfl ?_); refine qx (N := 2) (cs := #[.slice A0_0 l0_0.length c0_0]) (t := 28) ?_; intro gb580 hg w20 hbox hb; have n0_ := am (below_step qB hb); have BK580 := am (hbox); have GW580 := am (qg w hg); have GE580 := am (qg w hg); clear HB; have HB := n0_; clear n0_; clear hb hbox hg; have hcz21_0 := qz w20 BK580.out; have hfz21_0 := blk_frozen BK580.out 0) | ((with_reducible refine gate_callee (f := 94) rfl ?_); refine gL (some 7) Try.func94 #[.agg #[.slice A0_0 l0_0.length c0_0]] ?_; (with_reducible refine (spec_poGood.calls k _ _ l0_0 false _ ?side1 ?side2 A3.out).mono ?_); (case side1 => exact qC (Kd.C_below HR0_0.out HB.out)); (case side2 => exact HC0_0.out); rintro e w22 ⟨rfl, hb⟩; refine ⟨_, rfl, ?_⟩; replace BK580 := am (blk_below (g := gb580) (o := .cells #[.slice A0_0 l0_0.length c0_0] 28 (0, 0)) (qb BK580.out) hb); replace HB := am (below_step qB hb); (try clear hb); (try clear hb2); (try clear hk); (try clear hi)))
  go_ret2
  exact ⟨qr, qB⟩
def spec_poTop.l0 : Nat → Int → Int → List Int → Int → Int → Option (Int)
 | 0, _, _, _, _, _ => none
 | k + 1, x1, x5, x10, x11, x12 => if x12 < x11 then (if 0 ≤ x12 then (if x12 < (x10.length : Int) then ((spec_poIn.f x1 x12).bind fun t502 => (if t502 = true then (spec_poTop.l0 k x1 (Go.bits .andNot .i64 x5 (rd x10 x12)) x10 x11 (wrap64 (x12 + 1))) else (spec_poTop.l0 k x1 x5 x10 x11 (wrap64 (x12 + 1))))) else (none)) else (none)) else (some x5)
def spec_poTop.f (k : Nat) (l0_0 : List Int) (a1 : Int) : Option (Int) := spec_poTop.l0 k a1 a1 l0_0 (l0_0.length : Int) 0
theorem spec_poTop.mono_l : ∀ k, (∀ y0 y1 y2 y3 y4, LeO (spec_poTop.l0 k y0 y1 y2 y3 y4) (spec_poTop.l0 (k + 1) y0 y1 y2 y3 y4))
 | 0 => fun _ _ _ _ _ r h => by simp [spec_poTop.l0] at h
 | k + 1 => by
  have ih0 := spec_poTop.mono_l k
  ·intro y0 y1 y2 y3 y4
   unfold spec_poTop.l0
   repeat' first
   | (with_reducible exact LeO.refl _)
   | (with_reducible exact LeO.none _)
   | (with_reducible refine LeO.ite ?_ ?_)
   | (with_reducible refine LeO.bind ?_ (fun _ => ?_))
   | exact ih0 _ _ _ _ _
   | exact LeO.none _
   | refine LeO.ite ?_ ?_
   | refine LeO.bind ?_ (fun _ => ?_)
theorem spec_poTop.mono : ∀ a0 a1 k, LeO (spec_poTop.f k a0 a1) (spec_poTop.f (k + 1) a0 a1) := by
 intro a0 a1 k
 have ih0 := spec_poTop.mono_l k
 unfold spec_poTop.f
 repeat' first
  | (with_reducible exact LeO.refl _)
  | (with_reducible exact LeO.none _)
  | (with_reducible refine LeO.ite ?_ ?_)
  | (with_reducible refine LeO.bind ?_ (fun _ => ?_))
  | exact ih0 _ _ _ _ _
  | exact LeO.none _
  | refine LeO.ite ?_ ?_
  | refine LeO.bind ?_ (fun _ => ?_)
set_option maxHeartbeats 8000000 in
set_option maxRecDepth 100000 in
theorem spec_poTop.calls (k : Nat) (A0_0 : Option Addr) (c0_0 : Nat) (l0_0 : List Int) (a1 : Int) (r : Int) (w : World) (hr0_0 : Kd.C (Kd.int .i64) w A0_0 l0_0.length l0_0) (hc0_0 : l0_0.length ≤ c0_0) (h : spec_poTop.f k l0_0 a1 = some r) :
 Calls Try.prog 102 #[.agg #[.slice A0_0 l0_0.length c0_0], .int .i64 a1] w fun e w' => e = .returned (.int .i64 r) ∧ Below w.heap.size w w' := by
 have hu28 := Try.underlying28
 have HR0_0 := am hr0_0
 have HC0_0 := am hc0_0
 clear hr0_0 hc0_0
 have HB := am (Below.refl w.heap.size w)
 have H : (spec_poTop.l0 k a1 a1 l0_0 (l0_0.length : Int) 0) = some r := h
 clear h
 have H' := am H
 clear H
 go_enter Try.func102, Try.ntmps102
 go_wp2_with (first | ((with_reducible refine gate_dst (N := 2) rfl ?_); refine qx (N := 2) (cs := #[.slice A0_0 l0_0.length c0_0]) (t := 28) ?_; intro gb500 hg w3 hbox hb; have n0_ := am (below_step qB hb); have BK500 := am (hbox); have GW500 := am (qg w hg); have GE500 := am (qg w hg); clear HB; have HB := n0_; clear n0_; clear hb hbox hg; have hcz4_0 := qz w3 BK500.out; have hfz4_0 := blk_frozen BK500.out 0))
 go_loopg [5, 12] k (fun kq v5 v12 w' => ∃ (x5_1 : Int) (x12_1 : Int), v5 = .int .i64 x5_1 ∧ v12 = .int .i64 x12_1 ∧ Aside0 (spec_poTop.l0 kq a1 x5_1 l0_0 (l0_0.length : Int) x12_1 = some r) ∧ Aside0 (kq ≤ k) ∧ Aside0 (w'.heap[gb500]? = some (.cells #[(.slice A0_0 l0_0.length c0_0)] 28 (0, 0))) ∧ Aside0 (Below w.heap.size w w'))
 case atStart => exact ⟨(a1), (0), qe, qe, H', ⟨Nat.le_refl _⟩, ⟨qb BK500.out⟩, ⟨qB⟩⟩
 case round =>
  clear H'
  try clear c1
  try clear p2
  try clear hcz4_0
  try clear hfz4_0
  obtain ⟨x5_1, x12_1, rfl, rfl, HA, HK1, BK500, HB⟩ := hrel
  cases gk with
  | zero => exact absurd HA.out (by simp [spec_poTop.l0])
  | succ k1 =>
   have H := HA.out
   clear HA
   simp only [spec_poTop.l0] at H
   by_cases c5 : x12_1 < (l0_0.length : Int)
   ·rw [if_pos c5] at H
    have c5b0 := decide_eq_true c5
    clear c5
    by_cases c6 : 0 ≤ x12_1
    rotate_left
    ·rw [if_neg c6] at H
     exact absurd H (by simp)
    rw [if_pos c6] at H
    have c6b0 := decide_eq_true c6
    clear c6
    by_cases c7 : x12_1 < (l0_0.length : Int)
    rotate_left
    ·rw [if_neg c7] at H
     exact absurd H (by simp)
    rw [if_pos c7] at H
    have c7b0 := decide_eq_true c7
    clear c7
    replace H := Option.bind_eq_some_iff.mp H
    obtain ⟨t502, A80, H⟩ := H
    replace H : (if t502 = true then (spec_poTop.l0 k1 a1 (Go.bits .andNot .i64 x5_1 (rd l0_0 x12_1)) l0_0 (l0_0.length : Int) (wrap64 (x12_1 + 1))) else (spec_poTop.l0 k1 a1 x5_1 l0_0 (l0_0.length : Int) (wrap64 (x12_1 + 1)))) = some r := H
    have A8 := am A80
    clear A80
    by_cases c9 : t502 = true
    ·subst c9
     have H1 : (spec_poTop.l0 k1 a1 (Go.bits .andNot .i64 x5_1 (rd l0_0 x12_1)) l0_0 (l0_0.length : Int) (wrap64 (x12_1 + 1))) = some r := by rw [if_pos rfl] at H; exact H
     clear H
     have H := H1
     clear H1
     have H' := am H
     clear H
     have p501 : 0 ≤ (x12_1 : Int) := qd
     have q501 : x12_1 < (l0_0.length : Int) := qd
     obtain ⟨ad501, e501, hx501_0⟩ := Kd.at_int HR0_0.out x12_1 p501 q501
     cases e501
     replace hx501_0 := (HB.out.cell (World.block_lt_of_cell? w _ hx501_0)).trans hx501_0
     replace p501 := eq_true p501
     replace q501 := eq_true q501
     go_wp2_with (first | ((with_reducible refine gate_callee (f := 156) rfl ?_); refine gL (some 19) Try.func156 #[.int .i64 a1, .int .i64 x12_1] ?_; (with_reducible refine (spec_poIn.calls a1 x12_1 true _ A8.out).mono ?_); rintro e w' ⟨rfl, ⟨nd, rfl⟩⟩; refine ⟨_, rfl, ?_⟩))
     go_roundg k1
     case measure => have := HK1.out; omega
     case rel => exact ⟨(Go.bits .andNot .i64 x5_1 (rd l0_0 x12_1)), (wrap64 (x12_1 + 1)), qe, qe, H', ⟨by have := HK1.out; omega⟩, ⟨qb BK500.out⟩, ⟨qB⟩⟩
    ·replace c9 := Bool.eq_false_iff.mpr c9
     subst c9
     have H1 : (spec_poTop.l0 k1 a1 x5_1 l0_0 (l0_0.length : Int) (wrap64 (x12_1 + 1))) = some r := by rw [if_neg (show ¬ (false = true) by decide)] at H; exact H
     clear H
     have H := H1
     clear H1
     have H' := am H
     clear H
     have p501 : 0 ≤ (x12_1 : Int) := qd
     have q501 : x12_1 < (l0_0.length : Int) := qd
     obtain ⟨ad501, e501, hx501_0⟩ := Kd.at_int HR0_0.out x12_1 p501 q501
     cases e501
     replace hx501_0 := (HB.out.cell (World.block_lt_of_cell? w _ hx501_0)).trans hx501_0
     replace p501 := eq_true p501
     replace q501 := eq_true q501
     go_wp2_with (first | ((with_reducible refine gate_callee (f := 156) rfl ?_); refine gL (some 19) Try.func156 #[.int .i64 a1, .int .i64 x12_1] ?_; (with_reducible refine (spec_poIn.calls a1 x12_1 false _ A8.out).mono ?_); rintro e w' ⟨rfl, ⟨nd, rfl⟩⟩; refine ⟨_, rfl, ?_⟩))
     go_roundg k1
     case measure => have := HK1.out; omega
     case rel => exact ⟨(x5_1), (wrap64 (x12_1 + 1)), qe, qe, H', ⟨by have := HK1.out; omega⟩, ⟨qb BK500.out⟩, ⟨qB⟩⟩
   ·rw [if_neg c5] at H
    have c5b0 := decide_eq_false c5
    clear c5
    obtain rfl := Option.some.inj H
    go_wp2
    go_ret
    exact ⟨qr, qB⟩
def spec_AntichainsOf.l0 : Nat → List Int → Int → List Int → Option (List Int × Bool)
 | 0, _, _, _ => none
 | k + 1, x4, x5, x504000 => if x5 < (shl .i64 1 (x504000.length : Int)) then ((spec_poTop.f k x504000 x5).bind fun t505 => (if t505 = x5 then (if x4.length < 17592186044416 then (spec_AntichainsOf.l0 k (x4 ++ [x5]) (wrap64 (x5 + 1)) x504000) else (none)) else (spec_AntichainsOf.l0 k x4 (wrap64 (x5 + 1)) x504000))) else (some (x4, true))
def spec_AntichainsOf.f (k : Nat) (l0_0 : List Int) : Option (List Int × Bool) := (spec_poGood.f k l0_0).bind fun t504 => (if t504 = true then (spec_AntichainsOf.l0 k ([] : List Int) 0 l0_0) else (some (([] : List Int), false)))
theorem spec_AntichainsOf.mono_l : ∀ k, (∀ y0 y1 y2, LeO (spec_AntichainsOf.l0 k y0 y1 y2) (spec_AntichainsOf.l0 (k + 1) y0 y1 y2))
 | 0 => fun _ _ _ r h => by simp [spec_AntichainsOf.l0] at h
 | k + 1 => by
  have ih0 := spec_AntichainsOf.mono_l k
  ·intro y0 y1 y2
   unfold spec_AntichainsOf.l0
   repeat' first
   | (with_reducible exact spec_poGood.mono _ _)
   | (with_reducible exact spec_poTop.mono _ _ _)
   | (with_reducible exact LeO.refl _)
   | (with_reducible exact LeO.none _)
   | (with_reducible refine LeO.ite ?_ ?_)
   | (with_reducible refine LeO.bind ?_ (fun _ => ?_))
   | exact ih0 _ _ _
   | exact spec_poGood.mono _ _
   | exact spec_poTop.mono _ _ _
   | exact LeO.none _
   | refine LeO.ite ?_ ?_
   | refine LeO.bind ?_ (fun _ => ?_)
theorem spec_AntichainsOf.mono : ∀ a0 k, LeO (spec_AntichainsOf.f k a0) (spec_AntichainsOf.f (k + 1) a0) := by
 intro a0 k
 have ih0 := spec_AntichainsOf.mono_l k
 unfold spec_AntichainsOf.f
 repeat' first
  | (with_reducible exact spec_poGood.mono _ _)
  | (with_reducible exact spec_poTop.mono _ _ _)
  | (with_reducible exact LeO.refl _)
  | (with_reducible exact LeO.none _)
  | (with_reducible refine LeO.ite ?_ ?_)
  | (with_reducible refine LeO.bind ?_ (fun _ => ?_))
  | exact ih0 _ _ _
  | exact spec_poGood.mono _ _
  | exact spec_poTop.mono _ _ _
  | exact LeO.none _
  | refine LeO.ite ?_ ?_
  | refine LeO.bind ?_ (fun _ => ?_)
set_option maxHeartbeats 8000000 in
set_option maxRecDepth 100000 in
theorem spec_AntichainsOf.calls (k : Nat) (A0_0 : Option Addr) (c0_0 : Nat) (l0_0 : List Int) (r1 : List Int) (r2 : Bool) (w : World) (hr0_0 : Kd.C (Kd.int .i64) w A0_0 l0_0.length l0_0) (hc0_0 : l0_0.length ≤ c0_0) (h : spec_AntichainsOf.f k l0_0 = some (r1, r2)) :
 Calls Try.prog 29 #[.agg #[.slice A0_0 l0_0.length c0_0]] w fun e w' => ∃ v0_ : Value, e = .returned (.tuple #[v0_, .bool r2]) ∧ Kd.R (Kd.int .i64) 3 w' w.heap.size (fun _ => True) v0_ r1 ∧ Below w.heap.size w w' := by
 have hu28 := Try.underlying28
 have HR0_0 := am hr0_0
 have HC0_0 := am hc0_0
 clear hr0_0 hc0_0
 have HB := am (Below.refl w.heap.size w)
 have H : ((spec_poGood.f k l0_0).bind fun t504 => (if t504 = true then (spec_AntichainsOf.l0 k ([] : List Int) 0 l0_0) else (some (([] : List Int), false)))) = some (r1, r2) := h
 clear h
 replace H := Option.bind_eq_some_iff.mp H
 obtain ⟨t504, A20, H⟩ := H
 replace H : (if t504 = true then (spec_AntichainsOf.l0 k ([] : List Int) 0 l0_0) else (some (([] : List Int), false))) = some (r1, r2) := H
 have A2 := am A20
 clear A20
 by_cases c3 : t504 = true
 ·subst c3
  have H1 : (spec_AntichainsOf.l0 k ([] : List Int) 0 l0_0) = some (r1, r2) := by rw [if_pos rfl] at H; exact H
  clear H
  have H := H1
  clear H1
  have H' := am H
  clear H
  go_enter Try.func29, Try.ntmps29
  go_wp2_with (first | ((with_reducible refine gate_dst (N := 1) rfl ?_); refine qx (N := 1) (cs := #[.slice A0_0 l0_0.length c0_0]) (t := 28) ?_; intro gb503 hg w4 hbox hb; have n0_ := am (below_step qB hb); have BK503 := am (hbox); have GW503 := am (qg w hg); have GE503 := am (qg w hg); clear HB; have HB := n0_; clear n0_; clear hb hbox hg; have hcz5_0 := qz w4 BK503.out; have hfz5_0 := blk_frozen BK503.out 0) | ((with_reducible refine gate_callee (f := 94) rfl ?_); refine gL (some 7) Try.func94 #[.agg #[.slice A0_0 l0_0.length c0_0]] ?_; (with_reducible refine (spec_poGood.calls k _ _ l0_0 true _ ?side1 ?side2 A2.out).mono ?_); (case side1 => exact qC (Kd.C_below HR0_0.out HB.out)); (case side2 => exact HC0_0.out); rintro e w6 ⟨rfl, hb⟩; refine ⟨_, rfl, ?_⟩; replace BK503 := am (blk_below (g := gb503) (o := .cells #[.slice A0_0 l0_0.length c0_0] 28 (0, 0)) (qb BK503.out) hb); replace HB := am (below_step qB hb); (try clear hb); (try clear hb2); (try clear hk); (try clear hi)))
  go_loopg [4, 5] k (fun kq v4 v5 w' => ∃ (x4_1 : List Int) (x5_1 : Int), v5 = .int .i64 x5_1 ∧ Aside0 (spec_AntichainsOf.l0 kq x4_1 x5_1 l0_0 = some (r1, r2)) ∧ Aside0 (kq ≤ k) ∧ Aside0 (Kd.R (Kd.int .i64) 3 w' w.heap.size (fun _ => True) v4 x4_1) ∧ Aside0 (w'.heap[gb503]? = some (.cells #[(.slice A0_0 l0_0.length c0_0)] 28 (0, 0))) ∧ Aside0 (Below w.heap.size w w'))
  case atStart => exact ⟨(([] : List Int)), (0), qe, H', ⟨Nat.le_refl _⟩, ⟨by first | exact Kd.R_nil _ _ _ _ _ | exact Kd.N_nil _ _ _ _ _ | exact Kd.V_nil _ _ _ _ _ | exact Kd.Q_nil _ _ _ _ _ | exact Kd.S_nil _ _ _ _ _⟩, ⟨qb BK503.out⟩, ⟨qB⟩⟩
  case round =>
   clear H'
   try clear c2
   try clear p2
   try clear c3
   try clear hcz5_0
   try clear hfz5_0
   obtain ⟨x4_1, x5_1, rfl, HA, HK1, HO_4, BK503, HB⟩ := hrel
   cases gk with
   | zero => exact absurd HA.out (by simp [spec_AntichainsOf.l0])
   | succ k1 =>
    have H := HA.out
    clear HA
    simp only [spec_AntichainsOf.l0] at H
    obtain ⟨ji7, hji7⟩ : ∃ j_ : Int, (shl .i64 1 (l0_0.length : Int)) = j_ := ⟨_, rfl⟩
    replace H : (if x5_1 < (ji7) then ((spec_poTop.f k1 l0_0 x5_1).bind fun t505 => (if t505 = x5_1 then (if x4_1.length < 17592186044416 then (spec_AntichainsOf.l0 k1 (x4_1 ++ [x5_1]) (wrap64 (x5_1 + 1)) l0_0) else (none)) else (spec_AntichainsOf.l0 k1 x4_1 (wrap64 (x5_1 + 1)) l0_0))) else (some (x4_1, true))) = some (r1, r2) := by first | (rw [hji7] at H; exact H) | (simp only [hji7] at H ⊢; exact H)
    have hji7_ : (IntKind.i64.wrap (1 * 2 ^ min (l0_0.length : Int).toNat 64)) = ji7 := hji7
    have hji7z : (l0_0.length : Int) ≤ 64 → (IntKind.i64.wrap (1 * 2 ^ (l0_0.length : Int).toNat)) = ji7 := shl_small hji7
    have hji7p : (IntKind.i64.wrap (1 * 2 ^ min l0_0.length 64)) = ji7 := hji7_
    have hji7q : (l0_0.length : Int) ≤ 64 → (IntKind.i64.wrap (1 * 2 ^ l0_0.length)) = ji7 := hji7z
    have hji7r : (IntKind.i64.wrap (2 ^ min l0_0.length 64)) = ji7 := by have h_ := hji7p; rw [Int.one_mul] at h_; exact h_
    have hji7s : (l0_0.length : Int) ≤ 64 → (IntKind.i64.wrap (2 ^ l0_0.length)) = ji7 := fun hle_ => by have h_ := hji7q hle_; rw [Int.one_mul] at h_; exact h_
    have hji7u : (IntKind.i64.wrap (2 ^ min (l0_0.length : Int).toNat 64)) = ji7 := by have h_ := hji7_; rw [Int.one_mul] at h_; exact h_
    have hji7v : (l0_0.length : Int) ≤ 64 → (IntKind.i64.wrap (2 ^ (l0_0.length : Int).toNat)) = ji7 := fun hle_ => by have h_ := hji7z hle_; rw [Int.one_mul] at h_; exact h_
    have hji7y : (wrap64 (1 * 2 ^ min (l0_0.length : Int).toNat 64)) = ji7 := (i64_w _).symm.trans hji7_
    have hji7x : (l0_0.length : Int) ≤ 64 → (wrap64 (1 * 2 ^ (l0_0.length : Int).toNat)) = ji7 := fun h_ => (i64_w _).symm.trans (hji7z h_)
    by_cases c8 : x5_1 < (ji7)
    ·rw [if_pos c8] at H
     have c8b0 := decide_eq_true c8
     clear c8
     replace H := Option.bind_eq_some_iff.mp H
     obtain ⟨t505, A90, H⟩ := H
     replace H : (if t505 = x5_1 then (if x4_1.length < 17592186044416 then (spec_AntichainsOf.l0 k1 (x4_1 ++ [x5_1]) (wrap64 (x5_1 + 1)) l0_0) else (none)) else (spec_AntichainsOf.l0 k1 x4_1 (wrap64 (x5_1 + 1)) l0_0)) = some (r1, r2) := H
     have A9 := am A90
     clear A90
     by_cases c10 : t505 = x5_1
     ·rw [if_pos c10] at H
      have c10b0 : (t505 == x5_1) = true := beq_iff_eq.mpr c10
      have c10b1 : (t505 != x5_1) = false := bne_eq_false_iff_eq.mpr c10
      clear c10
      by_cases c11 : x4_1.length < 17592186044416
      rotate_left
      ·rw [if_neg c11] at H
       exact absurd H (by simp)
      rw [if_pos c11] at H
      have LMc11 := am c11
      clear c11
      obtain ⟨y506, hy506⟩ : ∃ y_ : List Int, y_ = (x4_1 ++ [x5_1]) := ⟨_, rfl⟩
      replace H : (spec_AntichainsOf.l0 k1 y506 (wrap64 (x5_1 + 1)) l0_0) = some (r1, r2) := by first | (rw [hy506]; with_reducible exact H) | (have H2_ := (Option.bind_some _ _).symm.trans H; rw [hy506]; with_reducible exact H2_) | (have H2_ := (Option.bind_some _ _).symm.trans H; with_reducible exact H2_) | with_reducible exact H | (rw [hy506]; exact H) | exact H
      have Ny506 := am hy506
      clear hy506
      have H' := am H
      clear H
      have hcz12_0 := qz wr BK503.out
      have hfz12_0 := blk_frozen BK503.out 0
      go_wp2_with (first | ((with_reducible refine gate_callee (f := 102) rfl ?_); refine gL (some 19) Try.func102 #[.agg #[.slice A0_0 l0_0.length c0_0], .int .i64 x5_1] ?_; (with_reducible refine (spec_poTop.calls k1 _ _ l0_0 x5_1 t505 _ ?side1 ?side2 A9.out).mono ?_); (case side1 => exact qC (Kd.C_below HR0_0.out HB.out)); (case side2 => exact HC0_0.out); rintro e w13 ⟨rfl, hb⟩; refine ⟨_, rfl, ?_⟩; replace HO_4 := am (Kd.R_below (qR HO_4.out) hb); replace BK503 := am (blk_below (g := gb503) (o := .cells #[.slice A0_0 l0_0.length c0_0] 28 (0, 0)) (qb BK503.out) hb); replace HB := am (below_step qB hb); (try clear hb); (try clear hb2); (try clear hk); (try clear hi)) | ((with_reducible refine gate_builtin (b := .append) (xs := #[.tmp 22, .tmp 24]) rfl ?_); at_builtin; refine Kd.R_append (Kd.int .i64) (w0 := w) w.heap.size rfl (.tmp 22) (.tmp 24) 26 3 (.int .i64 0) 8 rfl Try.underlying26 info3 rfl (by decide) (by omega) u4 x4_1 x5_1 [.int .i64 x5_1] (fun _ => True) (fun _ => False) rfl rfl ?aP (fun _ hk => hk.elim) ?aF ?aO ?aB ?aS ?aL ?_; (case aP => exact rfl); (case aB => exact qB); (case aF => exact (fun _ _ => trivial)); (case aO => exact (qR HO_4.out)); (case aS => exact (below_size qB)); (case aL => have := LMc11.out; omega); intro v507 w14 ho hb hg hat; rw [← Ny506.out] at ho; replace BK503 := am (blk_grown (g := gb503) (o := .cells #[.slice A0_0 l0_0.length c0_0] 28 (0, 0)) (qb BK503.out) hg (Kd.R_ne HO_4.out BK503.out (by decide))); have n1_ := am (hb); have HO508 := am (ho); clear HB HO_4; have HB := n1_; clear n1_; clear ho hb hg hat))
      go_roundg k1
      case measure => have := HK1.out; omega
      case rel => exact ⟨(y506), (wrap64 (x5_1 + 1)), qe, H', ⟨by have := HK1.out; omega⟩, ⟨qR HO508.out⟩, ⟨qb BK503.out⟩, ⟨qB⟩⟩
     ·rw [if_neg c10] at H
      have c10b0 : (t505 == x5_1) = false := beq_eq_false_iff_ne.mpr c10
      have c10b1 : (t505 != x5_1) = true := bne_iff_ne.mpr c10
      have H' := am H
      clear H
      have hcz15_0 := qz wr BK503.out
      have hfz15_0 := blk_frozen BK503.out 0
      go_wp2_with (first | ((with_reducible refine gate_callee (f := 102) rfl ?_); refine gL (some 19) Try.func102 #[.agg #[.slice A0_0 l0_0.length c0_0], .int .i64 x5_1] ?_; (with_reducible refine (spec_poTop.calls k1 _ _ l0_0 x5_1 t505 _ ?side1 ?side2 A9.out).mono ?_); (case side1 => exact qC (Kd.C_below HR0_0.out HB.out)); (case side2 => exact HC0_0.out); rintro e w16 ⟨rfl, hb⟩; refine ⟨_, rfl, ?_⟩; replace HO_4 := am (Kd.R_below (qR HO_4.out) hb); replace BK503 := am (blk_below (g := gb503) (o := .cells #[.slice A0_0 l0_0.length c0_0] 28 (0, 0)) (qb BK503.out) hb); replace HB := am (below_step qB hb); (try clear hb); (try clear hb2); (try clear hk); (try clear hi)))
      go_roundg k1
      case measure => have := HK1.out; omega
      case rel => exact ⟨(x4_1), (wrap64 (x5_1 + 1)), qe, H', ⟨by have := HK1.out; omega⟩, ⟨qR HO_4.out⟩, ⟨qb BK503.out⟩, ⟨qB⟩⟩
    ·rw [if_neg c8] at H
     have c8b0 := decide_eq_false c8
     clear c8
     simp only [Option.some.injEq, Prod.mk.injEq] at H
     obtain ⟨rfl, rfl⟩ := H
     have hcz17_0 := qz wr BK503.out
     have hfz17_0 := blk_frozen BK503.out 0
     go_wp2
     go_ret2
     exact ⟨_, by first | rfl | (simp [errW_none, errW_some] <;> rfl) | (simp only [← hji7]; first | rfl | (simp [errW_none, errW_some] <;> rfl)) | (simp [*, errW_none, errW_some] <;> rfl), qR HO_4.out, qB⟩
 ·replace c3 := Bool.eq_false_iff.mpr c3
  subst c3
  have H1 : (some (([] : List Int), false)) = some (r1, r2) := by rw [if_neg (show ¬ (false = true) by decide)] at H; exact H
  clear H
  have H := H1
  clear H1
  simp only [Option.some.injEq, Prod.mk.injEq] at H
  obtain ⟨rfl, rfl⟩ := H
  go_enter Try.func29, Try.ntmps29
  go_wp2_with (first | ((with_reducible refine gate_dst (N := 1) rfl ?_); refine qx (N := 1) (cs := #[.slice A0_0 l0_0.length c0_0]) (t := 28) ?_; intro gb503 hg w18 hbox hb; have n0_ := am (below_step qB hb); have BK503 := am (hbox); have GW503 := am (qg w hg); have GE503 := am (qg w hg); clear HB; have HB := n0_; clear n0_; clear hb hbox hg; have hcz19_0 := qz w18 BK503.out; have hfz19_0 := blk_frozen BK503.out 0) | ((with_reducible refine gate_callee (f := 94) rfl ?_); refine gL (some 7) Try.func94 #[.agg #[.slice A0_0 l0_0.length c0_0]] ?_; (with_reducible refine (spec_poGood.calls k _ _ l0_0 false _ ?side1 ?side2 A2.out).mono ?_); (case side1 => exact qC (Kd.C_below HR0_0.out HB.out)); (case side2 => exact HC0_0.out); rintro e w20 ⟨rfl, hb⟩; refine ⟨_, rfl, ?_⟩; replace BK503 := am (blk_below (g := gb503) (o := .cells #[.slice A0_0 l0_0.length c0_0] 28 (0, 0)) (qb BK503.out) hb); replace HB := am (below_step qB hb); (try clear hb); (try clear hb2); (try clear hk); (try clear hi)))
  go_ret2
  exact ⟨_, qr, by first | exact Kd.R_nil _ _ _ _ _ | exact Kd.N_nil _ _ _ _ _ | exact Kd.V_nil _ _ _ _ _ | exact Kd.Q_nil _ _ _ _ _ | exact Kd.S_nil _ _ _ _ _, qB⟩
def spec_IsAntichain.f (k : Nat) (l0_0 : List Int) (a1 : Int) : Option (Bool × Bool) := (spec_poGood.f k l0_0).bind fun t591 => (if t591 = true then ((spec_poSet.f l0_0 a1).bind fun t592 => (if t592 = true then ((spec_poTop.f k l0_0 a1).bind fun t593 => (some ((t593 == a1), true))) else (some (false, false)))) else (some (false, false)))
theorem spec_IsAntichain.mono : ∀ a0 a1 k, LeO (spec_IsAntichain.f k a0 a1) (spec_IsAntichain.f (k + 1) a0 a1) := by
 intro a0 a1 k
 unfold spec_IsAntichain.f
 repeat' first
  | (with_reducible exact spec_poGood.mono _ _)
  | (with_reducible exact spec_poTop.mono _ _ _)
  | (with_reducible exact LeO.refl _)
  | (with_reducible exact LeO.none _)
  | (with_reducible refine LeO.ite ?_ ?_)
  | (with_reducible refine LeO.bind ?_ (fun _ => ?_))
  | exact spec_poGood.mono _ _
  | exact spec_poTop.mono _ _ _
  | exact LeO.none _
  | refine LeO.ite ?_ ?_
  | refine LeO.bind ?_ (fun _ => ?_)
set_option maxHeartbeats 8000000 in
set_option maxRecDepth 100000 in
theorem spec_IsAntichain.calls (k : Nat) (A0_0 : Option Addr) (c0_0 : Nat) (l0_0 : List Int) (a1 : Int) (r1 : Bool) (r2 : Bool) (w : World) (hr0_0 : Kd.C (Kd.int .i64) w A0_0 l0_0.length l0_0) (hc0_0 : l0_0.length ≤ c0_0) (h : spec_IsAntichain.f k l0_0 a1 = some (r1, r2)) :
 Calls Try.prog 46 #[.agg #[.slice A0_0 l0_0.length c0_0], .int .i64 a1] w fun e w' => e = .returned (.tuple #[.bool r1, .bool r2]) ∧ Below w.heap.size w w' := by
 have hu28 := Try.underlying28
 have HR0_0 := am hr0_0
 have HC0_0 := am hc0_0
 clear hr0_0 hc0_0
 have HB := am (Below.refl w.heap.size w)
 have H : ((spec_poGood.f k l0_0).bind fun t591 => (if t591 = true then ((spec_poSet.f l0_0 a1).bind fun t592 => (if t592 = true then ((spec_poTop.f k l0_0 a1).bind fun t593 => (some ((t593 == a1), true))) else (some (false, false)))) else (some (false, false)))) = some (r1, r2) := h
 clear h
 replace H := Option.bind_eq_some_iff.mp H
 obtain ⟨t591, A30, H⟩ := H
 replace H : (if t591 = true then ((spec_poSet.f l0_0 a1).bind fun t592 => (if t592 = true then ((spec_poTop.f k l0_0 a1).bind fun t593 => (some ((t593 == a1), true))) else (some (false, false)))) else (some (false, false))) = some (r1, r2) := H
 have A3 := am A30
 clear A30
 by_cases c4 : t591 = true
 ·subst c4
  have H1 : ((spec_poSet.f l0_0 a1).bind fun t592 => (if t592 = true then ((spec_poTop.f k l0_0 a1).bind fun t593 => (some ((t593 == a1), true))) else (some (false, false)))) = some (r1, r2) := by rw [if_pos rfl] at H; exact H
  clear H
  have H := H1
  clear H1
  replace H := Option.bind_eq_some_iff.mp H
  obtain ⟨t592, A50, H⟩ := H
  replace H : (if t592 = true then ((spec_poTop.f k l0_0 a1).bind fun t593 => (some ((t593 == a1), true))) else (some (false, false))) = some (r1, r2) := H
  have A5 := am A50
  clear A50
  by_cases c6 : t592 = true
  ·subst c6
   have H1 : ((spec_poTop.f k l0_0 a1).bind fun t593 => (some ((t593 == a1), true))) = some (r1, r2) := by rw [if_pos rfl] at H; exact H
   clear H
   have H := H1
   clear H1
   replace H := Option.bind_eq_some_iff.mp H
   obtain ⟨t593, A70, H⟩ := H
   replace H : (some ((t593 == a1), true)) = some (r1, r2) := H
   have A7 := am A70
   clear A70
   simp only [Option.some.injEq, Prod.mk.injEq] at H
   obtain ⟨rfl, rfl⟩ := H
   go_enter Try.func46, Try.ntmps46
   go_wp2_with (first | ((with_reducible refine gate_dst (N := 2) rfl ?_); refine qx (N := 2) (cs := #[.slice A0_0 l0_0.length c0_0]) (t := 28) ?_; intro gb590 hg w8 hbox hb; have n0_ := am (below_step qB hb); have BK590 := am (hbox); have GW590 := am (qg w hg); have GE590 := am (qg w hg); clear HB; have HB := n0_; clear n0_; clear hb hbox hg; have hcz9_0 := qz w8 BK590.out; have hfz9_0 := blk_frozen BK590.out 0) | ((with_reducible refine gate_callee (f := 94) rfl ?_); refine gL (some 7) Try.func94 #[.agg #[.slice A0_0 l0_0.length c0_0]] ?_; (with_reducible refine (spec_poGood.calls k _ _ l0_0 true _ ?side1 ?side2 A3.out).mono ?_); (case side1 => exact qC (Kd.C_below HR0_0.out HB.out)); (case side2 => exact HC0_0.out); rintro e w10 ⟨rfl, hb⟩; refine ⟨_, rfl, ?_⟩; replace BK590 := am (blk_below (g := gb590) (o := .cells #[.slice A0_0 l0_0.length c0_0] 28 (0, 0)) (qb BK590.out) hb); replace HB := am (below_step qB hb); (try clear hb); (try clear hb2); (try clear hk); (try clear hi); have hcz11_0 := qz w10 BK590.out; have hfz11_0 := blk_frozen BK590.out 0) | (go_at_call 108; (with_reducible refine (spec_poSet.calls _ _ l0_0 a1 true _ ?side1 ?side2 A5.out).mono ?_); (case side1 => exact qC (Kd.C_below HR0_0.out HB.out)); (case side2 => exact HC0_0.out); rintro e w12 ⟨rfl, hb⟩; replace BK590 := am (blk_below (g := gb590) (o := .cells #[.slice A0_0 l0_0.length c0_0] 28 (0, 0)) (qb BK590.out) hb); replace HB := am (below_step qB hb); (try clear hb); (try clear hb2); (try clear hk); (try clear hi); have hcz13_0 := qz w12 BK590.out; have hfz13_0 := blk_frozen BK590.out 0) | ((with_reducible refine gate_callee (f := 102) rfl ?_); refine gL (some 17) Try.func102 #[.agg #[.slice A0_0 l0_0.length c0_0], .int .i64 a1] ?_; (with_reducible refine (spec_poTop.calls k _ _ l0_0 a1 t593 _ ?side1 ?side2 A7.out).mono ?_); (case side1 => exact qC (Kd.C_below HR0_0.out HB.out)); (case side2 => exact HC0_0.out); rintro e w14 ⟨rfl, hb⟩; refine ⟨_, rfl, ?_⟩; replace BK590 := am (blk_below (g := gb590) (o := .cells #[.slice A0_0 l0_0.length c0_0] 28 (0, 0)) (qb BK590.out) hb); replace HB := am (below_step qB hb); (try clear hb); (try clear hb2); (try clear hk); (try clear hi)))
   go_ret2
   exact ⟨qr, qB⟩
  ·replace c6 := Bool.eq_false_iff.mpr c6
   subst c6
   have H1 : (some (false, false)) = some (r1, r2) := by rw [if_neg (show ¬ (false = true) by decide)] at H; exact H
   clear H
   have H := H1
   clear H1
   simp only [Option.some.injEq, Prod.mk.injEq] at H
   obtain ⟨rfl, rfl⟩ := H
   go_enter Try.func46, Try.ntmps46
   go_wp2_with (first | ((with_reducible refine gate_dst (N := 2) rfl ?_); refine qx (N := 2) (cs := #[.slice A0_0 l0_0.length c0_0]) (t := 28) ?_; intro gb590 hg w15 hbox hb; have n0_ := am (below_step qB hb); have BK590 := am (hbox); have GW590 := am (qg w hg); have GE590 := am (qg w hg); clear HB; have HB := n0_; clear n0_; clear hb hbox hg; have hcz16_0 := qz w15 BK590.out; have hfz16_0 := blk_frozen BK590.out 0) | ((with_reducible refine gate_callee (f := 94) rfl ?_); refine gL (some 7) Try.func94 #[.agg #[.slice A0_0 l0_0.length c0_0]] ?_; (with_reducible refine (spec_poGood.calls k _ _ l0_0 true _ ?side1 ?side2 A3.out).mono ?_); (case side1 => exact qC (Kd.C_below HR0_0.out HB.out)); (case side2 => exact HC0_0.out); rintro e w17 ⟨rfl, hb⟩; refine ⟨_, rfl, ?_⟩; replace BK590 := am (blk_below (g := gb590) (o := .cells #[.slice A0_0 l0_0.length c0_0] 28 (0, 0)) (qb BK590.out) hb); replace HB := am (below_step qB hb); (try clear hb); (try clear hb2); (try clear hk); (try clear hi); have hcz18_0 := qz w17 BK590.out; have hfz18_0 := blk_frozen BK590.out 0) | (go_at_call 108; (with_reducible refine (spec_poSet.calls _ _ l0_0 a1 false _ ?side1 ?side2 A5.out).mono ?_); (case side1 => exact qC (Kd.C_below HR0_0.out HB.out)); (case side2 => exact HC0_0.out); rintro e w19 ⟨rfl, hb⟩; replace BK590 := am (blk_below (g := gb590) (o := .cells #[.slice A0_0 l0_0.length c0_0] 28 (0, 0)) (qb BK590.out) hb); replace HB := am (below_step qB hb); (try clear hb); (try clear hb2); (try clear hk); (try clear hi)))
   go_ret2
   exact ⟨qr, qB⟩
 ·replace c4 := Bool.eq_false_iff.mpr c4
  subst c4
  have H1 : (some (false, false)) = some (r1, r2) := by rw [if_neg (show ¬ (false = true) by decide)] at H; exact H
  clear H
  have H := H1
  clear H1
  simp only [Option.some.injEq, Prod.mk.injEq] at H
  obtain ⟨rfl, rfl⟩ := H
  go_enter Try.func46, Try.ntmps46
  go_wp2_with (first | ((with_reducible refine gate_dst (N := 2) rfl ?_); refine qx (N := 2) (cs := #[.slice A0_0 l0_0.length c0_0]) (t := 28) ?_; intro gb590 hg w20 hbox hb; have n0_ := am (below_step qB hb); have BK590 := am (hbox); have GW590 := am (qg w hg); have GE590 := am (qg w hg); clear HB; have HB := n0_; clear n0_; clear hb hbox hg; have hcz21_0 := qz w20 BK590.out; have hfz21_0 := blk_frozen BK590.out 0) | ((with_reducible refine gate_callee (f := 94) rfl ?_); refine gL (some 7) Try.func94 #[.agg #[.slice A0_0 l0_0.length c0_0]] ?_; (with_reducible refine (spec_poGood.calls k _ _ l0_0 false _ ?side1 ?side2 A3.out).mono ?_); (case side1 => exact qC (Kd.C_below HR0_0.out HB.out)); (case side2 => exact HC0_0.out); rintro e w22 ⟨rfl, hb⟩; refine ⟨_, rfl, ?_⟩; replace BK590 := am (blk_below (g := gb590) (o := .cells #[.slice A0_0 l0_0.length c0_0] 28 (0, 0)) (qb BK590.out) hb); replace HB := am (below_step qB hb); (try clear hb); (try clear hb2); (try clear hk); (try clear hi)))
  go_ret2
  exact ⟨qr, qB⟩
def spec_TopOf.f (k : Nat) (l0_0 : List Int) (a1 : Int) : Option (Int × Bool) := (spec_poGood.f k l0_0).bind fun t558 => (if t558 = true then ((spec_poSet.f l0_0 a1).bind fun t559 => (if t559 = true then ((spec_poTop.f k l0_0 a1).bind fun t560 => (some (t560, true))) else (some (0, false)))) else (some (0, false)))
theorem spec_TopOf.mono : ∀ a0 a1 k, LeO (spec_TopOf.f k a0 a1) (spec_TopOf.f (k + 1) a0 a1) := by
 intro a0 a1 k
 unfold spec_TopOf.f
 repeat' first
  | (with_reducible exact spec_poGood.mono _ _)
  | (with_reducible exact spec_poTop.mono _ _ _)
  | (with_reducible exact LeO.refl _)
  | (with_reducible exact LeO.none _)
  | (with_reducible refine LeO.ite ?_ ?_)
  | (with_reducible refine LeO.bind ?_ (fun _ => ?_))
  | exact spec_poGood.mono _ _
  | exact spec_poTop.mono _ _ _
  | exact LeO.none _
  | refine LeO.ite ?_ ?_
  | refine LeO.bind ?_ (fun _ => ?_)
set_option maxHeartbeats 8000000 in
set_option maxRecDepth 100000 in
theorem spec_TopOf.calls (k : Nat) (A0_0 : Option Addr) (c0_0 : Nat) (l0_0 : List Int) (a1 : Int) (r1 : Int) (r2 : Bool) (w : World) (hr0_0 : Kd.C (Kd.int .i64) w A0_0 l0_0.length l0_0) (hc0_0 : l0_0.length ≤ c0_0) (h : spec_TopOf.f k l0_0 a1 = some (r1, r2)) :
 Calls Try.prog 38 #[.agg #[.slice A0_0 l0_0.length c0_0], .int .i64 a1] w fun e w' => e = .returned (.tuple #[.int .i64 r1, .bool r2]) ∧ Below w.heap.size w w' := by
 have hu28 := Try.underlying28
 have HR0_0 := am hr0_0
 have HC0_0 := am hc0_0
 clear hr0_0 hc0_0
 have HB := am (Below.refl w.heap.size w)
 have H : ((spec_poGood.f k l0_0).bind fun t558 => (if t558 = true then ((spec_poSet.f l0_0 a1).bind fun t559 => (if t559 = true then ((spec_poTop.f k l0_0 a1).bind fun t560 => (some (t560, true))) else (some (0, false)))) else (some (0, false)))) = some (r1, r2) := h
 clear h
 replace H := Option.bind_eq_some_iff.mp H
 obtain ⟨t558, A30, H⟩ := H
 replace H : (if t558 = true then ((spec_poSet.f l0_0 a1).bind fun t559 => (if t559 = true then ((spec_poTop.f k l0_0 a1).bind fun t560 => (some (t560, true))) else (some (0, false)))) else (some (0, false))) = some (r1, r2) := H
 have A3 := am A30
 clear A30
 by_cases c4 : t558 = true
 ·subst c4
  have H1 : ((spec_poSet.f l0_0 a1).bind fun t559 => (if t559 = true then ((spec_poTop.f k l0_0 a1).bind fun t560 => (some (t560, true))) else (some (0, false)))) = some (r1, r2) := by rw [if_pos rfl] at H; exact H
  clear H
  have H := H1
  clear H1
  replace H := Option.bind_eq_some_iff.mp H
  obtain ⟨t559, A50, H⟩ := H
  replace H : (if t559 = true then ((spec_poTop.f k l0_0 a1).bind fun t560 => (some (t560, true))) else (some (0, false))) = some (r1, r2) := H
  have A5 := am A50
  clear A50
  by_cases c6 : t559 = true
  ·subst c6
   have H1 : ((spec_poTop.f k l0_0 a1).bind fun t560 => (some (t560, true))) = some (r1, r2) := by rw [if_pos rfl] at H; exact H
   clear H
   have H := H1
   clear H1
   replace H := Option.bind_eq_some_iff.mp H
   obtain ⟨t560, A70, H⟩ := H
   replace H : (some (t560, true)) = some (r1, r2) := H
   have A7 := am A70
   clear A70
   simp only [Option.some.injEq, Prod.mk.injEq] at H
   obtain ⟨rfl, rfl⟩ := H
   go_enter Try.func38, Try.ntmps38
   go_wp2_with (first | ((with_reducible refine gate_dst (N := 2) rfl ?_); refine qx (N := 2) (cs := #[.slice A0_0 l0_0.length c0_0]) (t := 28) ?_; intro gb557 hg w8 hbox hb; have n0_ := am (below_step qB hb); have BK557 := am (hbox); have GW557 := am (qg w hg); have GE557 := am (qg w hg); clear HB; have HB := n0_; clear n0_; clear hb hbox hg; have hcz9_0 := qz w8 BK557.out; have hfz9_0 := blk_frozen BK557.out 0) | ((with_reducible refine gate_callee (f := 94) rfl ?_); refine gL (some 7) Try.func94 #[.agg #[.slice A0_0 l0_0.length c0_0]] ?_; (with_reducible refine (spec_poGood.calls k _ _ l0_0 true _ ?side1 ?side2 A3.out).mono ?_); (case side1 => exact qC (Kd.C_below HR0_0.out HB.out)); (case side2 => exact HC0_0.out); rintro e w10 ⟨rfl, hb⟩; refine ⟨_, rfl, ?_⟩; replace BK557 := am (blk_below (g := gb557) (o := .cells #[.slice A0_0 l0_0.length c0_0] 28 (0, 0)) (qb BK557.out) hb); replace HB := am (below_step qB hb); (try clear hb); (try clear hb2); (try clear hk); (try clear hi); have hcz11_0 := qz w10 BK557.out; have hfz11_0 := blk_frozen BK557.out 0) | (go_at_call 108; (with_reducible refine (spec_poSet.calls _ _ l0_0 a1 true _ ?side1 ?side2 A5.out).mono ?_); (case side1 => exact qC (Kd.C_below HR0_0.out HB.out)); (case side2 => exact HC0_0.out); rintro e w12 ⟨rfl, hb⟩; replace BK557 := am (blk_below (g := gb557) (o := .cells #[.slice A0_0 l0_0.length c0_0] 28 (0, 0)) (qb BK557.out) hb); replace HB := am (below_step qB hb); (try clear hb); (try clear hb2); (try clear hk); (try clear hi); have hcz13_0 := qz w12 BK557.out; have hfz13_0 := blk_frozen BK557.out 0) | ((with_reducible refine gate_callee (f := 102) rfl ?_); refine gL (some 17) Try.func102 #[.agg #[.slice A0_0 l0_0.length c0_0], .int .i64 a1] ?_; (with_reducible refine (spec_poTop.calls k _ _ l0_0 a1 t560 _ ?side1 ?side2 A7.out).mono ?_); (case side1 => exact qC (Kd.C_below HR0_0.out HB.out)); (case side2 => exact HC0_0.out); rintro e w14 ⟨rfl, hb⟩; refine ⟨_, rfl, ?_⟩; replace BK557 := am (blk_below (g := gb557) (o := .cells #[.slice A0_0 l0_0.length c0_0] 28 (0, 0)) (qb BK557.out) hb); replace HB := am (below_step qB hb); (try clear hb); (try clear hb2); (try clear hk); (try clear hi)))
   go_ret2
   exact ⟨qr, qB⟩
  ·replace c6 := Bool.eq_false_iff.mpr c6
   subst c6
   have H1 : (some (0, false)) = some (r1, r2) := by rw [if_neg (show ¬ (false = true) by decide)] at H; exact H
   clear H
   have H := H1
   clear H1
   simp only [Option.some.injEq, Prod.mk.injEq] at H
   obtain ⟨rfl, rfl⟩ := H
   go_enter Try.func38, Try.ntmps38
   go_wp2_with (first | ((with_reducible refine gate_dst (N := 2) rfl ?_); refine qx (N := 2) (cs := #[.slice A0_0 l0_0.length c0_0]) (t := 28) ?_; intro gb557 hg w15 hbox hb; have n0_ := am (below_step qB hb); have BK557 := am (hbox); have GW557 := am (qg w hg); have GE557 := am (qg w hg); clear HB; have HB := n0_; clear n0_; clear hb hbox hg; have hcz16_0 := qz w15 BK557.out; have hfz16_0 := blk_frozen BK557.out 0) | ((with_reducible refine gate_callee (f := 94) rfl ?_); refine gL (some 7) Try.func94 #[.agg #[.slice A0_0 l0_0.length c0_0]] ?_; (with_reducible refine (spec_poGood.calls k _ _ l0_0 true _ ?side1 ?side2 A3.out).mono ?_); (case side1 => exact qC (Kd.C_below HR0_0.out HB.out)); (case side2 => exact HC0_0.out); rintro e w17 ⟨rfl, hb⟩; refine ⟨_, rfl, ?_⟩; replace BK557 := am (blk_below (g := gb557) (o := .cells #[.slice A0_0 l0_0.length c0_0] 28 (0, 0)) (qb BK557.out) hb); replace HB := am (below_step qB hb); (try clear hb); (try clear hb2); (try clear hk); (try clear hi); have hcz18_0 := qz w17 BK557.out; have hfz18_0 := blk_frozen BK557.out 0) | (go_at_call 108; (with_reducible refine (spec_poSet.calls _ _ l0_0 a1 false _ ?side1 ?side2 A5.out).mono ?_); (case side1 => exact qC (Kd.C_below HR0_0.out HB.out)); (case side2 => exact HC0_0.out); rintro e w19 ⟨rfl, hb⟩; replace BK557 := am (blk_below (g := gb557) (o := .cells #[.slice A0_0 l0_0.length c0_0] 28 (0, 0)) (qb BK557.out) hb); replace HB := am (below_step qB hb); (try clear hb); (try clear hb2); (try clear hk); (try clear hi)))
   go_ret2
   exact ⟨qr, qB⟩
 ·replace c4 := Bool.eq_false_iff.mpr c4
  subst c4
  have H1 : (some (0, false)) = some (r1, r2) := by rw [if_neg (show ¬ (false = true) by decide)] at H; exact H
  clear H
  have H := H1
  clear H1
  simp only [Option.some.injEq, Prod.mk.injEq] at H
  obtain ⟨rfl, rfl⟩ := H
  go_enter Try.func38, Try.ntmps38
  go_wp2_with (first | ((with_reducible refine gate_dst (N := 2) rfl ?_); refine qx (N := 2) (cs := #[.slice A0_0 l0_0.length c0_0]) (t := 28) ?_; intro gb557 hg w20 hbox hb; have n0_ := am (below_step qB hb); have BK557 := am (hbox); have GW557 := am (qg w hg); have GE557 := am (qg w hg); clear HB; have HB := n0_; clear n0_; clear hb hbox hg; have hcz21_0 := qz w20 BK557.out; have hfz21_0 := blk_frozen BK557.out 0) | ((with_reducible refine gate_callee (f := 94) rfl ?_); refine gL (some 7) Try.func94 #[.agg #[.slice A0_0 l0_0.length c0_0]] ?_; (with_reducible refine (spec_poGood.calls k _ _ l0_0 false _ ?side1 ?side2 A3.out).mono ?_); (case side1 => exact qC (Kd.C_below HR0_0.out HB.out)); (case side2 => exact HC0_0.out); rintro e w22 ⟨rfl, hb⟩; refine ⟨_, rfl, ?_⟩; replace BK557 := am (blk_below (g := gb557) (o := .cells #[.slice A0_0 l0_0.length c0_0] 28 (0, 0)) (qb BK557.out) hb); replace HB := am (below_step qB hb); (try clear hb); (try clear hb2); (try clear hk); (try clear hi)))
  go_ret2
  exact ⟨qr, qB⟩
end Go.Proofs.Ytonfifhoklaliaa.F
end

section
namespace Go.Proofs.Ytonfifhoklaliaa.Q
open Go.RowKit Go.Proofs.YtonfifhoklaliaaW.PrintWords
set_option linter.unusedVariables false
theorem wid {n : Int} (h0 : -9223372036854775808 ≤ n) (h1 : n ≤ 9223372036854775807) : wrap64 n = n := by unfold wrap64; omega
theorem wid1 {i n : Nat} (h : i < n) (hn : n ≤ 9223372036854775807) : wrap64 ((i : Int) + 1) = ((i + 1 : Nat) : Int) := by unfold wrap64; omega
theorem rdN (l : List Int) (i : Nat) : rd l (i : Int) = l.getD i 0 := by unfold rd; simp
theorem rdN' {l : List Int} {i : Nat} (h : i < l.length) : rd l (i : Int) = l[i] := by rw [rdN, List.getD_eq_getElem?_getD, List.getElem?_eq_getElem h]; rfl
theorem downTo {P : Nat → Prop} (n : Nat) (h0 : P n) (hs : ∀ i, i < n → P (i + 1) → P i) : ∀ i, i ≤ n → P i := by
  intro i hi
  obtain ⟨d, hd⟩ : ∃ d, n - i = d := ⟨_, rfl⟩
  induction d generalizing i with
  | zero => have : i = n := by omega
            subst this; exact h0
  | succ d ih => exact hs i (by omega) (ih (i + 1) (by omega) (by omega))
theorem evc {α : Type} {g : Nat → Option α} {r r' : α} (h : Ev g r) (e : r = r') : Ev g r' := e ▸ h
theorem Ev.ret {α : Type} {r r' : α} (e : r = r') : Ev (fun _ => some r) r' := e ▸ Ev.now r
theorem Ev.call {α β : Type} {o : Option α} {a : α} {f : Nat → α → Option β} {r : β} (h : o = some a) (k : Ev (fun n => f n a) r) : Ev (fun n => o.bind (f n)) r := by
 subst h; exact k
theorem Ev.yes {α : Type} {c : Prop} [Decidable c] {f g : Nat → Option α} {r : α} (h : c) (k : Ev f r) : Ev (fun n => if c then f n else g n) r := by
 obtain ⟨K, k⟩ := k
 exact ⟨K, fun n hn => by show (if c then f n else g n) = _; rw [if_pos h]; exact k n hn⟩
theorem Ev.no {α : Type} {c : Prop} [Decidable c] {f g : Nat → Option α} {r : α} (h : ¬ c) (k : Ev g r) : Ev (fun n => if c then f n else g n) r := by
 obtain ⟨K, k⟩ := k
 exact ⟨K, fun n hn => by show (if c then f n else g n) = _; rw [if_neg h]; exact k n hn⟩
theorem Ev.ite {α : Type} {c : Prop} [Decidable c] {f g : Nat → Option α} {r : α} (h1 : c → Ev f r) (h2 : ¬ c → Ev g r) : Ev (fun n => if c then f n else g n) r := by
 by_cases h : c
 ·exact Ev.yes h (h1 h)
 ·exact Ev.no h (h2 h)
theorem Ev.uniq {α : Type} {g : Nat → Option α} {r r' : α} (h : Ev g r) (h' : Ev g r') : r = r' := by
 obtain ⟨K, h⟩ := h
 obtain ⟨K', h'⟩ := h'
 have a := h (max K K') (by omega)
 have b := h' (max K K') (by omega)
 rw [a] at b
 exact Option.some.inj b
theorem Ev.const {α : Type} {o : Option α} {r : α} (h : o = some r) : Ev (fun _ => o) r := ⟨0, fun _ _ => h⟩

def ndiff (a b : Nat) : Nat := a ^^^ (a &&& b)
theorem ndiff_bit (a b i : Nat) : (ndiff a b).testBit i = (a.testBit i && !b.testBit i) := by
 unfold ndiff; rw [Nat.testBit_xor, Nat.testBit_and]; cases a.testBit i <;> cases b.testBit i <;> rfl
theorem wrap_i64_id {n : Int} (h0 : -9223372036854775808 ≤ n) (h1 : n ≤ 9223372036854775807) : IntKind.i64.wrap n = n := by rw [IntKind.wrap_i64]; omega
theorem wraps62 (n : Int) (h0 : 0 ≤ n) (h1 : n < 2 ^ 62) : IntKind.i64.wrap n = n := wrap_i64_id (by omega) (by omega)
theorem bits_andN {a b : Nat} (ha : a < 2 ^ 62) (hb : b < 2 ^ 62) : Go.bits .and .i64 (a : Int) (b : Int) = ((a &&& b : Nat) : Int) :=
 (Go.bits_nat .i64 62 (by decide) wraps62 a b ha hb).1
theorem bits_orN {a b : Nat} (ha : a < 2 ^ 62) (hb : b < 2 ^ 62) : Go.bits .or .i64 (a : Int) (b : Int) = ((a ||| b : Nat) : Int) :=
 (Go.bits_nat .i64 62 (by decide) wraps62 a b ha hb).2
theorem lt_pow {a n m : Nat} (h : a < 2 ^ n) (hnm : n ≤ m) : a < 2 ^ m := Nat.lt_of_lt_of_le h (Nat.pow_le_pow_right (by decide) hnm)
theorem ndiff_le (a b : Nat) : ndiff a b ≤ a := by
 have h := Nat.and_le_left (n := a) (m := b)
 have hx : ndiff a b &&& (a &&& b) = 0 := by
  apply Nat.eq_of_testBit_eq
  intro i
  rw [Nat.testBit_and, ndiff_bit, Nat.testBit_and, Nat.zero_testBit]
  cases a.testBit i <;> cases b.testBit i <;> rfl
 apply Nat.le_of_testBit
 intro i hi
 rw [ndiff_bit] at hi
 simp at hi
 exact hi.1
theorem ndiff_lt {a b m : Nat} (h : a < m) : ndiff a b < m := Nat.lt_of_le_of_lt (ndiff_le a b) h
theorem bits_andNotN {a b : Nat} (ha : a < 2 ^ 62) (hb : b < 2 ^ 62) : Go.bits .andNot .i64 (a : Int) (b : Int) = ((ndiff a b : Nat) : Int) := by
 have e : Go.bits .andNot .i64 (a : Int) (b : Int) = IntKind.i64.wrap ((((BitVec.ofInt 64 a) &&& ~~~(BitVec.ofInt 64 b)).toNat : Nat) : Int) := rfl
 have e2 : ((BitVec.ofInt 64 (a : Int)) &&& ~~~(BitVec.ofInt 64 (b : Int))).toNat = ndiff a b := by
  apply Nat.eq_of_testBit_eq
  intro i
  rw [ndiff_bit, BitVec.ofInt_natCast, BitVec.ofInt_natCast]
  rw [BitVec.testBit_toNat, BitVec.getLsbD_and, BitVec.getLsbD_not, BitVec.getLsbD_ofNat, BitVec.getLsbD_ofNat]
  by_cases hi : i < 64
  ·simp [hi]
  ·have : a.testBit i = false := Nat.testBit_lt_two_pow (lt_pow ha (by omega))
   simp [hi, this]
 rw [e, e2]
 have h2 := ndiff_lt (b := b) ha
 exact wrap_i64_id (by omega) (by omega)
theorem shlN {i : Nat} (hi : i ≤ 61) : shl .i64 1 (i : Int) = ((2 ^ i : Nat) : Int) := by
 unfold shl
 have h1 : min (i : Int).toNat (IntKind.bits .i64) = i := by simp [IntKind.bits]; omega
 rw [h1]
 have h2 : (2 : Nat) ^ i < 2 ^ 62 := Nat.pow_lt_pow_right (by decide) (by omega)
 have e : (1 : Int) * 2 ^ i = ((2 ^ i : Nat) : Int) := by rw [Int.one_mul]; exact (Int.natCast_pow 2 i).symm
 rw [e]
 exact wraps62 _ (Int.natCast_nonneg _) (by
  have : ((2 ^ i : Nat) : Int) < ((4611686018427387904 : Nat) : Int) := by exact_mod_cast h2
  exact this)
theorem shrN (a i : Nat) (hi : i ≤ 64) : shr .i64 (a : Int) (i : Int) = ((a / 2 ^ i : Nat) : Int) := by
 unfold shr
 have h1 : min (i : Int).toNat (IntKind.bits .i64) = i := by simp [IntKind.bits]; omega
 rw [h1, Int.natCast_ediv, Int.natCast_pow]; rfl
theorem odd_bit (a i : Nat) : ((a / 2 ^ i) % 2 == 1) = a.testBit i := by
 rw [Nat.testBit_eq_decide_div_mod_eq]; rfl
theorem or_lt {a b n : Nat} (ha : a < 2 ^ n) (hb : b < 2 ^ n) : a ||| b < 2 ^ n := Nat.or_lt_two_pow ha hb
theorem bit_lt {a n i : Nat} (h : a < 2 ^ n) (hi : n ≤ i) : a.testBit i = false := Nat.testBit_lt_two_pow (lt_pow h hi)
theorem lt_of_bit {a n i : Nat} (h : a < 2 ^ n) (hi : a.testBit i = true) : i < n := by
 rcases Nat.lt_or_ge i n with h1 | h1
 ·exact h1
 ·rw [bit_lt h h1] at hi; cases hi
theorem pow_bit (i j : Nat) : (2 ^ i).testBit j = decide (i = j) := by
 rw [Nat.testBit_two_pow]
theorem pow_lt_pow {i n : Nat} (h : i < n) : 2 ^ i < 2 ^ n := Nat.pow_lt_pow_right (by decide) h
theorem ext_bits {a b n : Nat} (ha : a < 2 ^ n) (hb : b < 2 ^ n) (h : ∀ i, i < n → a.testBit i = b.testBit i) : a = b := by
 apply Nat.eq_of_testBit_eq
 intro i
 rcases Nat.lt_or_ge i n with h1 | h1
 ·exact h i h1
 ·rw [bit_lt ha h1, bit_lt hb h1]
def allFrom (f : Nat → Bool) (n i : Nat) : Bool := (List.range' i (n - i)).all f
theorem allFrom_end (f : Nat → Bool) (n : Nat) : allFrom f n n = true := by simp [allFrom]
theorem allFrom_step (f : Nat → Bool) {n i : Nat} (h : i < n) : allFrom f n i = (f i && allFrom f n (i + 1)) := by
 unfold allFrom
 obtain ⟨d, hd⟩ : ∃ d, n - i = d + 1 := ⟨n - i - 1, by omega⟩
 rw [hd, List.range'_succ, List.all_cons, show n - (i + 1) = d by omega]
theorem allFrom_iff (f : Nat → Bool) (n i : Nat) : allFrom f n i = true ↔ ∀ j, i ≤ j → j < n → f j = true := by
 unfold allFrom
 rw [List.all_eq_true]
 constructor
 ·intro h j h1 h2
  exact h j (List.mem_range'_1.2 ⟨h1, by omega⟩)
 ·intro h j hj
  obtain ⟨h1, h2⟩ := List.mem_range'_1.1 hj
  exact h j h1 (by omega)
theorem allFrom_congr {f g : Nat → Bool} {n i : Nat} (h : ∀ j, i ≤ j → j < n → f j = g j) : allFrom f n i = allFrom g n i := by
 rw [Bool.eq_iff_iff, allFrom_iff, allFrom_iff]
 exact ⟨fun H j a b => by rw [← h j a b]; exact H j a b, fun H j a b => by rw [h j a b]; exact H j a b⟩
theorem pow_int (i : Nat) : ((2 : Int) ^ i) = ((2 ^ i : Nat) : Int) := (Int.natCast_pow 2 i).symm
theorem mask_eq {i : Nat} (hi : i ≤ 61) : wrap64 ((shl .i64 1 (i : Int)) - 1) = (2 : Int) ^ i - 1 := by
 rw [shlN hi, pow_int]
 have h2 : (2 : Nat) ^ i ≤ 2 ^ 61 := Nat.pow_le_pow_right (by decide) hi
 have hp : 0 < 2 ^ i := Nat.two_pow_pos i
 apply wid <;> generalize 2 ^ i = z at * <;> omega
theorem bit_test {a : Nat} {j : Nat} (hj : j ≤ 64) : (Int.tmod (shr .i64 (a : Int) (j : Int)) 2 = 1) ↔ a.testBit j = true := by
 rw [shrN a j hj, Int.tmod_eq_emod_of_nonneg (Int.natCast_nonneg _), ← odd_bit, beq_iff_eq]
 omega
theorem range_false {a b : Int} {x : Int} (h : ¬ (a ≤ x ∧ x ≤ b)) : (decide (a ≤ x) && decide (x ≤ b)) = false := by
 rw [← Bool.not_eq_true, Bool.and_eq_true, decide_eq_true_eq, decide_eq_true_eq]; exact h
theorem range_true {a b : Int} {x : Int} (h : a ≤ x ∧ x ≤ b) : (decide (a ≤ x) && decide (x ≤ b)) = true := by
 rw [Bool.and_eq_true, decide_eq_true_eq, decide_eq_true_eq]; exact h
end Go.Proofs.Ytonfifhoklaliaa.Q
end

section
namespace Go.Proofs.Ytonfifhoklaliaa.Q
open Go.RowKit Go.Proofs.YtonfifhoklaliaaW.PrintWords Go.Proofs.Ytonfifhoklaliaa.F
set_option linter.unusedVariables false
theorem l1In_eq (a b c : Int) : spec_l1In.f a b c = some (decide (b ≤ a) && decide (a ≤ c)) := by
 unfold spec_l1In.f
 by_cases h : b ≤ a
 ·rw [if_pos h]; simp [h]
 ·rw [if_neg h]; simp [h]
end Go.Proofs.Ytonfifhoklaliaa.Q
end

section
namespace Go.Proofs.Ytonfifhoklaliaa.Q
open Go.RowKit Go.Proofs.YtonfifhoklaliaaW.PrintWords
set_option linter.unusedVariables false
theorem Ev.all {α : Type} {g : Nat → Nat → Option α} {r : Nat → α} : ∀ N : Nat, (∀ s, s < N → Ev (g s) (r s)) → ∃ K, ∀ k, K ≤ k → ∀ s, s < N → g s k = some (r s)
 | 0, _ => ⟨0, fun k _ s hs => absurd hs (Nat.not_lt_zero _)⟩
 | N + 1, h => by
  obtain ⟨K, hK⟩ := Ev.all N (fun s hs => h s (by omega))
  obtain ⟨K', hK'⟩ := h N (Nat.lt_succ_self _)
  refine ⟨K + K', fun k hk s hs => ?_⟩
  rcases Nat.lt_or_ge s N with h1 | h1
  ·exact hK k (by omega) s h1
  ·rw [show s = N by omega]; exact hK' k (by omega)
end Go.Proofs.Ytonfifhoklaliaa.Q
end

section
namespace Go.Proofs.Ytonfifhoklaliaa.Q
open Go.RowKit Go.Proofs.YtonfifhoklaliaaW.PrintWords Go.Proofs.Ytonfifhoklaliaa.F
set_option linter.unusedVariables false
theorem has_eq {a j : Nat} (ha : a < 2 ^ 62) (hj : j ≤ 64) : impl_has.f (a : Int) (j : Int) = some (a.testBit j) := by
 unfold impl_has.f
 rw [if_pos (Int.natCast_nonneg _), shrN a j hj]
 congr 1
 have h1 : a / 2 ^ j < 2 ^ 62 := Nat.lt_of_le_of_lt (Nat.div_le_self _ _) ha
 have := bits_andN (a := a / 2 ^ j) (b := 1) h1 (by decide)
 rw [show ((1 : Nat) : Int) = 1 from rfl] at this
 rw [this, ← odd_bit, Nat.and_one_is_mod]
 rw [Bool.eq_iff_iff, beq_iff_eq, beq_iff_eq]
 omega
end Go.Proofs.Ytonfifhoklaliaa.Q
end

section
namespace Go.Proofs.Ytonfifhoklaliaa.Q
open Go.RowKit Go.Proofs.YtonfifhoklaliaaW.PrintWords
set_option linter.unusedVariables false
theorem getD_set {α : Type} (l : List α) (i j : Nat) (v d : α) (hi : i < l.length) : (l.set i v).getD j d = if i = j then v else l.getD j d := by
 simp only [List.getD_eq_getElem?_getD, List.getElem?_set]
 by_cases h : i = j
 ·subst h; simp [hi]
 ·simp [h]
theorem ext_getD {a b : List Int} (hl : a.length = b.length) (h : ∀ i, i < a.length → a.getD i 0 = b.getD i 0) : a = b := by
 apply List.ext_getElem hl
 intro i h1 h2
 have := h i h1
 rw [List.getD_eq_getElem?_getD, List.getD_eq_getElem?_getD, List.getElem?_eq_getElem h1, List.getElem?_eq_getElem h2] at this
 exact this
theorem reverse_getD (l : List Int) (i : Nat) (h : i < l.length) : l.reverse.getD i 0 = l.getD (l.length - 1 - i) 0 := by
 rw [List.getD_eq_getElem?_getD, List.getD_eq_getElem?_getD, List.getElem?_reverse h]
end Go.Proofs.Ytonfifhoklaliaa.Q
end

section
namespace Go.Proofs.Ytonfifhoklaliaa.Q
open Go.RowKit Go.Proofs.YtonfifhoklaliaaW.PrintWords Go.Proofs.Ytonfifhoklaliaa.F
set_option linter.unusedVariables false
theorem big_eq {a b : List Int} (h : ¬ (a.length > 1048576 ∨ b.length > 1048576 - a.length)) : laws_big.f a b = some false := by
 unfold laws_big.f
 rw [if_neg (by omega), wid (by omega) (by omega), decide_eq_false (by omega)]
theorem big_or (a b : List Int) : laws_big.f a b = some true ∨ (laws_big.f a b = some false ∧ a.length ≤ 1048576 ∧ b.length ≤ 1048576) := by
 by_cases h : a.length > 1048576 ∨ b.length > 1048576 - a.length
 ·left
  unfold laws_big.f
  by_cases h1 : (a.length : Int) > 1048576
  ·rw [if_pos h1]
  ·rw [if_neg h1, wid (by omega) (by omega), decide_eq_true (by omega)]
 ·right
  exact ⟨big_eq h, by omega, by omega⟩
theorem poIn_eq {a j : Nat} (hj : j ≤ 64) : spec_poIn.f (a : Int) (j : Int) = some (a.testBit j) := by
 unfold spec_poIn.f
 rw [if_pos (Int.natCast_nonneg _)]
 congr 1
 rw [Bool.eq_iff_iff, beq_iff_eq]
 exact bit_test hj
end Go.Proofs.Ytonfifhoklaliaa.Q
end

section
namespace Go.Proofs.Ytonfifhoklaliaa.Q
open Go.RowKit Go.Proofs.YtonfifhoklaliaaW.PrintWords
set_option linter.unusedVariables false
def L (p : List Int) (i : Nat) : Nat := (p.getD i 0).toNat
def rowOk (p : List Int) (i : Nat) : Bool := decide (0 ≤ p.getD i 0) && decide (p.getD i 0 ≤ 2 ^ i - 1) && allFrom (fun j => !(L p i).testBit j || decide (Go.bits .andNot .i64 (p.getD j 0) (p.getD i 0) = 0)) i 0
def isPo (p : List Int) : Bool := decide (1 ≤ p.length) && decide (p.length ≤ 10) && allFrom (rowOk p) p.length 0
structure PO (p : List Int) : Prop where
 pos : 1 ≤ p.length
 small : p.length ≤ 10
 val : ∀ i, i < p.length → p.getD i 0 = (L p i : Int)
 lt : ∀ i, i < p.length → L p i < 2 ^ i
 tr : ∀ i j, i < p.length → (L p i).testBit j = true → ndiff (L p j) (L p i) = 0
theorem L_big {p : List Int} {i : Nat} (h : p.length ≤ i) : L p i = 0 := by
 unfold L; rw [List.getD_eq_getElem?_getD, List.getElem?_eq_none h]; rfl
theorem isPo_iff (p : List Int) : isPo p = true ↔ PO p := by
 unfold isPo
 rw [Bool.and_eq_true, Bool.and_eq_true, decide_eq_true_eq, decide_eq_true_eq, allFrom_iff]
 constructor
 ·rintro ⟨⟨h1, h2⟩, h3⟩
  have hv : ∀ i, i < p.length → p.getD i 0 = (L p i : Int) ∧ L p i < 2 ^ i := by
   intro i hi
   have := h3 i (Nat.zero_le _) hi
   simp only [rowOk, Bool.and_eq_true, decide_eq_true_eq] at this
   obtain ⟨⟨a, b⟩, _⟩ := this
   rw [pow_int] at b
   have hp : 0 < 2 ^ i := Nat.two_pow_pos i
   unfold L
   generalize 2 ^ i = z at *
   omega
  refine ⟨h1, h2, fun i hi => (hv i hi).1, fun i hi => (hv i hi).2, fun i j hi hj => ?_⟩
  have hji : j < i := lt_of_bit (hv i hi).2 hj
  have := h3 i (Nat.zero_le _) hi
  simp only [rowOk, Bool.and_eq_true] at this
  have h4 := (allFrom_iff _ _ _).1 this.2 j (Nat.zero_le _) hji
  rw [hj] at h4
  simp only [Bool.not_true, Bool.false_or, decide_eq_true_eq] at h4
  rw [(hv i hi).1, (hv j (by omega)).1, bits_andNotN (lt_pow (hv j (by omega)).2 (by omega)) (lt_pow (hv i hi).2 (by omega))] at h4
  exact_mod_cast h4
 ·intro h
  refine ⟨⟨h.pos, h.small⟩, fun i _ hi => ?_⟩
  have hs := h.small
  have hl := h.lt i hi
  simp only [rowOk, Bool.and_eq_true, decide_eq_true_eq]
  refine ⟨⟨by rw [h.val i hi]; omega, by rw [h.val i hi, pow_int]; generalize 2 ^ i = z at *; omega⟩, ?_⟩
  rw [allFrom_iff]
  intro j _ hj
  cases hb : (L p i).testBit j with
  | false => rfl
  | true =>
   simp only [Bool.not_true, Bool.false_or, decide_eq_true_eq]
   rw [h.val i hi, h.val j (by omega), bits_andNotN (lt_pow (h.lt j (by omega)) (by omega)) (lt_pow hl (by omega)), h.tr i j hi hb]
   rfl
theorem isPo_false {p : List Int} (h : ¬ PO p) : isPo p = false := by
 cases e : isPo p with
 | false => rfl
 | true => exact absurd ((isPo_iff p).1 e) h

def itemsN (m : Nat) : List Nat := (List.range 10).filter m.testBit
def ints (l : List Nat) : List Int := l.map Int.ofNat
theorem ints_len (l : List Nat) : (ints l).length = l.length := by simp [ints]
theorem ints_app (a b : List Nat) : ints (a ++ b) = ints a ++ ints b := by simp [ints]
theorem ints_get (l : List Nat) (i : Nat) : (ints l).getD i 0 = ((l.getD i 0 : Nat) : Int) := by
 simp only [ints, List.getD_eq_getElem?_getD, List.getElem?_map]
 cases l[i]? <;> rfl
theorem rd_ints (l : List Nat) (i : Nat) : rd (ints l) (i : Int) = ((l.getD i 0 : Nat) : Int) := by rw [rdN, ints_get]
theorem mem_itemsN {m j : Nat} : j ∈ itemsN m ↔ j < 10 ∧ m.testBit j = true := by
 unfold itemsN; rw [List.mem_filter, List.mem_range]
theorem itemsN_len (m : Nat) : (itemsN m).length ≤ 10 := by
 unfold itemsN; have := List.length_filter_le m.testBit (List.range 10); simpa using this
theorem rowOk_false {p : List Int} {i : Nat} (h : ¬ (0 ≤ p.getD i 0 ∧ p.getD i 0 ≤ 2 ^ i - 1)) : rowOk p i = false := by
 unfold rowOk; rw [range_false h]; rfl
theorem rowOk_true {p : List Int} {i : Nat} (h : 0 ≤ p.getD i 0 ∧ p.getD i 0 ≤ 2 ^ i - 1) :
 rowOk p i = allFrom (fun j => !(L p i).testBit j || decide (Go.bits .andNot .i64 (p.getD j 0) (p.getD i 0) = 0)) i 0 := by
 unfold rowOk; rw [range_true h]; rfl
theorem all_drop_step {α : Type} (f : α → Bool) (l : List α) (d : α) {i : Nat} (h : i < l.length) : (l.drop i).all f = (f (l.getD i d) && (l.drop (i + 1)).all f) := by
 rw [List.drop_eq_getElem_cons h, List.all_cons, List.getD_eq_getElem?_getD, List.getElem?_eq_getElem h]; rfl
theorem items_lt {m i : Nat} {j : Nat} (hm : m < 2 ^ i) (hj : j < (itemsN m).length) : (itemsN m).getD j 0 < i := by
 rw [List.getD_eq_getElem?_getD, List.getElem?_eq_getElem hj]
 have := List.getElem_mem hj
 exact lt_of_bit hm (mem_itemsN.1 this).2
theorem items_all {m i : Nat} (hm : m < 2 ^ i) (hi : i ≤ 10) (f : Nat → Bool) : (itemsN m).all f = allFrom (fun j => !m.testBit j || f j) i 0 := by
 rw [Bool.eq_iff_iff, List.all_eq_true, allFrom_iff]
 constructor
 ·intro h j _ hj
  cases hb : m.testBit j with
  | false => rfl
  | true => rw [h j (mem_itemsN.2 ⟨by omega, hb⟩)]; rfl
 ·intro h j hj
  obtain ⟨h1, h2⟩ := mem_itemsN.1 hj
  have := h j (Nat.zero_le _) (lt_of_bit hm h2)
  rw [h2] at this
  simpa using this
end Go.Proofs.Ytonfifhoklaliaa.Q
end

section
namespace Go.Proofs.Ytonfifhoklaliaa.Q
open Go.RowKit Go.Proofs.YtonfifhoklaliaaW.PrintWords Go.Proofs.Ytonfifhoklaliaa.F
set_option linter.unusedVariables false
def bytesL (l : List Int) : Prop := ∀ n ∈ l, 0 ≤ n ∧ n ≤ 255
def cAt (B : Nat) (a : Int) : Prop := 0 ≤ a ∧ a ≤ (B : Int)
theorem cAt_mono {B C : Nat} {a : Int} (h : cAt B a) (hBC : B ≤ C) : cAt C a := ⟨h.1, by have := h.2; omega⟩
theorem rd_byte {l : List Int} (hl : bytesL l) (i : Int) : 0 ≤ rd l i ∧ rd l i ≤ 255 := by
 unfold rd
 rw [List.getD_eq_getElem?_getD]
 rcases Nat.lt_or_ge i.toNat l.length with h | h
 ·rw [List.getElem?_eq_getElem h]
  exact hl _ (List.getElem_mem h)
 ·rw [List.getElem?_eq_none h]; exact ⟨Int.le_refl _, by decide⟩
theorem wrapu62 (n : Int) (h0 : 0 ≤ n) (h1 : n < 2 ^ 62) : IntKind.u64.wrap n = n := by rw [IntKind.wrap_u64]; omega
theorem seed_byte (x : Int) : 0 ≤ wrap64 (Go.bits .and .u64 ((IntKind.u64.wrap x) / 1099511627776) 255) ∧ wrap64 (Go.bits .and .u64 ((IntKind.u64.wrap x) / 1099511627776) 255) ≤ 255 := by
 have h : 0 ≤ IntKind.u64.wrap x ∧ IntKind.u64.wrap x < 18446744073709551616 := by rw [IntKind.wrap_u64]; omega
 obtain ⟨q, hq⟩ : ∃ q : Nat, (IntKind.u64.wrap x) / 1099511627776 = (q : Int) := ⟨((IntKind.u64.wrap x) / 1099511627776).toNat, by omega⟩
 have hq2 : q < 2 ^ 62 := by omega
 have := (Go.bits_nat .u64 62 (by decide) wrapu62 q 255 hq2 (by decide)).1
 rw [hq, show (255 : Int) = ((255 : Nat) : Int) from rfl, this]
 have h2 : q &&& 255 ≤ 255 := Nat.and_le_right
 rw [wid (by omega) (by omega)]
 omega
theorem next_ok {l : List Int} (hl : bytesL l) {B : Nat} {a : Int} (s : Int) (ha : cAt B a) (hB : B ≤ 1000000) : ∃ x a' s', spec_l1Cur_next.f l a s = some (x, a', s') ∧ cAt (B + 1) a' ∧ 0 ≤ x ∧ x ≤ 255 := by
 obtain ⟨h0, h1⟩ := ha
 have hw : wrap64 (a + 1) = a + 1 := wid (by omega) (by omega)
 have hc : cAt (B + 1) (a + 1) := ⟨by omega, by omega⟩
 obtain ⟨r0, r1⟩ := rd_byte hl a
 unfold spec_l1Cur_next.f
 rw [hw]
 by_cases c1 : a < (l.length : Int)
 ·rw [if_pos c1, if_pos h0]
  by_cases c2 : a + 1 ≤ (l.length : Int)
  ·rw [if_pos c2]
   exact ⟨_, _, _, rfl, hc, by rw [wid (by omega) (by omega)]; exact r0, by rw [wid (by omega) (by omega)]; exact r1⟩
  ·rw [if_neg c2]
   exact ⟨_, _, _, rfl, hc, (seed_byte _).1, (seed_byte _).2⟩
 ·rw [if_neg c1]
  by_cases c2 : a + 1 ≤ (l.length : Int)
  ·rw [if_pos c2]; exact ⟨_, _, _, rfl, hc, by omega, by omega⟩
  ·rw [if_neg c2]; exact ⟨_, _, _, rfl, hc, (seed_byte _).1, (seed_byte _).2⟩
def pickTo (n x : Int) : Prop := 0 ≤ x ∧ (x < n ∨ (x = 0 ∧ n ≤ 1))
theorem tmod_to {x n : Int} (hx : 0 ≤ x) (hn : 1 < n) : pickTo n (Int.tmod x n) := by
 rw [Int.tmod_eq_emod_of_nonneg hx]
 exact ⟨Int.emod_nonneg _ (by omega), Or.inl (Int.emod_lt_of_pos _ (by omega))⟩
theorem cpick_ok {l : List Int} (hl : bytesL l) {B : Nat} {a : Int} (s n : Int) (ha : cAt B a) (hB : B ≤ 900000) : ∃ x a' s', spec_l1Cur_pick.f l a s n = some (x, a', s') ∧ cAt (B + 2) a' ∧ pickTo n x := by
 unfold spec_l1Cur_pick.f
 by_cases c1 : n ≤ 1
 ·rw [if_pos c1]
  exact ⟨_, _, _, rfl, cAt_mono ha (by omega), Int.le_refl _, Or.inr ⟨rfl, c1⟩⟩
 rw [if_neg c1]
 obtain ⟨x1, a1, s1, e1, h1, g1, g2⟩ := next_ok hl s ha (by omega)
 rw [e1]
 simp only [Option.bind_some]
 by_cases c2 : n > 200
 ·rw [if_pos c2]
  obtain ⟨x2, a2, s2, e2, h2, k1, k2⟩ := next_ok hl s1 h1 (by omega)
  rw [e2]
  simp only [Option.bind_some]
  rw [if_neg (by omega), wid (n := x1 * 256) (by omega) (by omega), wid (n := x1 * 256 + x2) (by omega) (by omega)]
  exact ⟨_, _, _, rfl, h2, tmod_to (by omega) (by omega)⟩
 ·rw [if_neg c2, if_neg (by omega)]
  exact ⟨_, _, _, rfl, cAt_mono h1 (by omega), tmod_to g1 (by omega)⟩
theorem one_ok {l : List Int} (hl : bytesL l) {B : Nat} {a : Int} (s n : Int) (ha : cAt B a) (hB : B ≤ 900000) : ∃ x a' s', spec_l1Cur_one.f l a s n = some (x, a', s') ∧ cAt (B + 2) a' := by
 obtain ⟨x, a', s', e, h, _⟩ := cpick_ok hl s n ha hB
 unfold spec_l1Cur_one.f
 rw [e]
 exact ⟨_, _, _, rfl, h⟩
theorem among_ok {l : List Int} (hl : bytesL l) {B : Nat} {a : Int} (s : Int) (ha : cAt B a) (hB : B ≤ 900000) {m : List Int} (hm : 0 < m.length) : ∃ x a' s', spec_l1Cur_among.f l a s m = some (x, a', s') ∧ cAt (B + 2) a' ∧ x ∈ m := by
 obtain ⟨x, a', s', e, h, g0, g1⟩ := cpick_ok hl s (m.length : Int) ha hB
 unfold spec_l1Cur_among.f
 rw [e]
 simp only [Option.bind_some]
 have hx : x < (m.length : Int) := by omega
 rw [if_pos g0, if_pos hx]
 refine ⟨_, _, _, rfl, h, ?_⟩
 unfold rd
 rw [List.getD_eq_getElem?_getD, List.getElem?_eq_getElem (by omega)]
 exact List.getElem_mem _
theorem nSame_refl {a : List Int} (h : a.length ≤ 100000000) : Ev (fun k => laws_nSame.f k a a) true := by
 unfold laws_nSame.f
 refine Ev.yes rfl ?_
 have key : ∀ i, i ≤ a.length → Ev (fun k => laws_nSame.l0 k a a (a.length : Int) (i : Int)) true := by
  refine downTo _ ?_ ?_
  ·exact Ev.step (by intro k; simp only [laws_nSame.l0]; rfl) (Ev.no (by omega) (Ev.now _))
  ·intro i hi ih
   refine Ev.step (by intro k; simp only [laws_nSame.l0]; rfl) (Ev.yes (by omega) (Ev.yes (by omega) (Ev.yes (by omega) (Ev.yes (by omega) (Ev.yes (c := rd a (i : Int) = rd a (i : Int)) rfl ?_)))))
   rw [wid1 hi (by omega)]
   exact ih
 exact key 0 (Nat.zero_le _)
theorem nHas_ev {l : List Nat} (h : l.length ≤ 100000000) {s : Nat} (hs : s ∈ l) : Ev (fun k => laws_nHas.f k (ints l) (s : Int)) true := by
 obtain ⟨j, hj, rfl⟩ := List.getElem_of_mem hs
 unfold laws_nHas.f
 have key : ∀ i, i ≤ j → Ev (fun k => laws_nHas.l0 k ((l[j] : Nat) : Int) (ints l) ((ints l).length : Int) (i : Int)) true := by
  refine downTo _ ?_ ?_
  ·refine Ev.step (by intro k; simp only [laws_nHas.l0]; rfl) (Ev.yes (by rw [ints_len]; omega) (Ev.yes (by omega) (Ev.yes (by rw [ints_len]; omega) (Ev.yes ?_ (Ev.now _)))))
   rw [rd_ints, List.getD_eq_getElem?_getD, List.getElem?_eq_getElem hj]; rfl
  ·intro i hi ih
   refine Ev.step (by intro k; simp only [laws_nHas.l0]; rfl) (Ev.yes (by rw [ints_len]; omega) (Ev.yes (by omega) (Ev.yes (by rw [ints_len]; omega) ?_)))
   refine Ev.ite (fun _ => Ev.now _) (fun _ => ?_)
   rw [wid1 (show i < l.length by omega) (by omega)]
   exact ih
 exact key 0 (Nat.zero_le _)
theorem numberOf_ev {l : List Int} (h : l.length ≤ 100000000) (hl : ∀ n ∈ l, 0 ≤ n ∧ n ≤ 255) : ∃ t : Nat, t < 1000003 ∧ Ev (fun k => laws_numberOf.f k l) (t : Int) := by
 unfold laws_numberOf.f
 have key : ∀ i, i ≤ l.length → ∀ a : Nat, a < 1000003 → ∃ t : Nat, t < 1000003 ∧ Ev (fun k => laws_numberOf.l0 k (a : Int) l (l.length : Int) (i : Int)) (t : Int) := by
  refine downTo _ ?_ ?_
  ·intro a ha
   exact ⟨a, ha, Ev.step (by intro k; simp only [laws_numberOf.l0]; rfl) (Ev.no (by omega) (Ev.now _))⟩
  ·intro i hi ih a ha
   have hx := hl l[i] (List.getElem_mem hi)
   have hr : rd l (i : Int) = l[i] := rdN' hi
   have e : Int.tmod (wrap64 ((wrap64 (31 * (a : Int))) + (wrap64 (rd l (i : Int))))) 1000003 = (((31 * a + l[i].toNat) % 1000003 : Nat) : Int) := by
    rw [hr, wid (n := 31 * (a : Int)) (by omega) (by omega), wid (n := l[i]) (by omega) (by omega), wid (by omega) (by omega), Int.tmod_eq_emod_of_nonneg (by omega)]
    omega
   obtain ⟨t, ht, g⟩ := ih ((31 * a + l[i].toNat) % 1000003) (Nat.mod_lt _ (by decide))
   refine ⟨t, ht, Ev.step (by intro k; simp only [laws_numberOf.l0]; rfl) (Ev.yes (by omega) (Ev.yes (by omega) (Ev.yes (by omega) ?_)))⟩
   rw [e, wid1 hi (by omega)]
   exact g
 exact key 0 (Nat.zero_le _) 0 (by decide)
def wfL (l : List Int) : Prop := ∀ n ∈ l, (Lit.int .i64 n).wf = true
theorem wf_wrapI (n : Int) : (Lit.int .i64 (IntKind.i64.wrap n)).wf = true := WalkArith.wf_i64 (by rw [IntKind.wrap_i64]; omega)
theorem wf_wrap64 (n : Int) : (Lit.int .i64 (wrap64 n)).wf = true := WalkArith.wf_i64 (by unfold wrap64; omega)
theorem wf_or (a b : Int) : (Lit.int .i64 (Go.bits .or .i64 a b)).wf = true := wf_wrapI _
theorem wfL_set {l : List Int} (h : wfL l) {x : Int} (hx : (Lit.int .i64 x).wf = true) (i : Nat) : wfL (l.set i x) := fun n hn => by
 rcases List.mem_or_eq_of_mem_set hn with h1 | h1
 ·exact h n h1
 ·rw [h1]; exact hx
theorem wfL_rep (n : Nat) : wfL (List.replicate n 0) := fun x hx => by
 rw [(List.mem_replicate.1 hx).2]; decide
theorem wfL_app {a b : List Int} (ha : wfL a) (hb : wfL b) : wfL (a ++ b) := fun n hn => by
 rcases List.mem_append.1 hn with h | h
 ·exact ha n h
 ·exact hb n h
def pairsOk (n : Nat) (ps : List (List Int)) : Prop := ps.length ≤ 1000 ∧ ∀ c ∈ ps, c.length = 2 ∧ 0 ≤ c.getD 0 0 ∧ c.getD 0 0 < (n : Int)
theorem poFrom_ok {n : Nat} (hn : n ≤ 1000) {ps : List (List Int)} (hp : pairsOk n ps) : ∃ r, Ev (fun k => spec_poFrom.f k (n : Int) ps) r ∧ r.length = n ∧ wfL r := by
 unfold spec_poFrom.f
 have outer : ∀ i, i ≤ n → ∀ out : List Int, out.length = n → wfL out → ∃ r, Ev (fun k => spec_poFrom.l0 k (n : Int) ps (i : Int) out) r ∧ r.length = n ∧ wfL r := by
  refine downTo _ ?_ ?_
  ·intro out h1 h2
   exact ⟨out, Ev.step (by intro k; simp only [spec_poFrom.l0]; rfl) (Ev.no (by omega) (Ev.now _)), h1, h2⟩
  ·intro i hi ih
   have inner : ∀ j, j ≤ ps.length → ∀ out : List Int, out.length = n → wfL out → ∃ r, Ev (fun k => spec_poFrom.l1 k (n : Int) ps (i : Int) ps (ps.length : Int) (j : Int) out) r ∧ r.length = n ∧ wfL r := by
    refine downTo _ ?_ ?_
    ·intro out h1 h2
     obtain ⟨r, g1, g2, g3⟩ := ih out h1 h2
     refine ⟨r, Ev.step (by intro k; simp only [spec_poFrom.l1]; rfl) (Ev.no (by omega) ?_), g2, g3⟩
     rw [wid1 hi (by omega)]
     exact g1
    ·intro j hj ihj out h1 h2
     obtain ⟨hc1, hc2, hc3⟩ := hp.2 _ (List.getElem_mem hj)
     have hrow : rd_L1 ps (j : Int) = ps[j] := by
      unfold rd_L1
      rw [Int.toNat_natCast, List.getD_eq_getElem?_getD, List.getElem?_eq_getElem hj]; rfl
     have hpl := hp.1
     have hw : wrap64 ((j : Int) + 1) = ((j + 1 : Nat) : Int) := wid1 hj (by omega)
     have hr0 : rd ps[j] 0 = ps[j].getD 0 0 := rfl
     by_cases hc : rd ps[j] 1 = (i : Int)
     ·obtain ⟨r, g1, g2, g3⟩ := ihj (out.set ((i : Int)).toNat (Go.bits .or .i64 (rd out (i : Int)) (Go.bits .or .i64 (shl .i64 1 (rd ps[j] 0)) (rd out (rd ps[j] 0))))) (by rw [List.length_set]; exact h1) (wfL_set h2 (wf_or _ _) _)
      refine ⟨r, Ev.step (by intro k; simp only [spec_poFrom.l1]; rfl) (Ev.yes (by omega) (Ev.yes (by omega) (Ev.yes (by omega) ?_))), g2, g3⟩
      rw [hrow, hw]
      exact Ev.yes (by omega) (Ev.yes hc (Ev.yes (by omega) (Ev.yes (by omega) (Ev.yes (by omega) (Ev.yes (by omega) (Ev.yes (by omega) g1))))))
     ·obtain ⟨r, g1, g2, g3⟩ := ihj out h1 h2
      refine ⟨r, Ev.step (by intro k; simp only [spec_poFrom.l1]; rfl) (Ev.yes (by omega) (Ev.yes (by omega) (Ev.yes (by omega) ?_))), g2, g3⟩
      rw [hrow, hw]
      exact Ev.yes (by omega) (Ev.no hc g1)
   intro out h1 h2
   obtain ⟨r, g1, g2, g3⟩ := inner 0 (Nat.zero_le _) out h1 h2
   exact ⟨r, Ev.step (by intro k; simp only [spec_poFrom.l0]; rfl) (Ev.yes (by omega) g1), g2, g3⟩
 obtain ⟨r, g1, g2, g3⟩ := outer 0 (Nat.zero_le _) (List.replicate n 0) (by simp) (wfL_rep n)
 refine ⟨r, Ev.yes (by omega) (Ev.yes (by omega) ?_), g2, g3⟩
 rw [Int.toNat_natCast]
 exact g1
theorem items_ev (m : Nat) (hm : m < 2 ^ 62) : Ev (fun k => impl_items.f k (m : Int)) (ints (itemsN m)) := by
 show Ev (fun k => impl_items.l0 k (m : Int) [] 0) _
 have key : ∀ i, i ≤ 10 → ∀ acc : List Int, acc.length ≤ i → Ev (fun k => impl_items.l0 k (m : Int) acc (i : Int)) (acc ++ ints ((List.range' i (10 - i)).filter m.testBit)) := by
  refine downTo 10 ?_ ?_
  ·intro acc _
   refine Ev.step (by intro k; simp only [impl_items.l0]; rfl) ?_
   refine Ev.no (by omega) (Ev.ret (by simp [ints]))
  ·intro i hi ih acc ha
   refine Ev.step (by intro k; simp only [impl_items.l0]; rfl) ?_
   refine Ev.yes (by omega) (Ev.call (has_eq hm (by omega)) ?_)
   have hr : List.range' i (10 - i) = i :: List.range' (i + 1) (10 - (i + 1)) := by
    rw [show 10 - i = (10 - (i + 1)) + 1 by omega, List.range'_succ]
   rw [hr, wid1 hi (by omega)]
   cases hb : m.testBit i with
   | true =>
    refine Ev.yes rfl (Ev.yes (by omega) (evc (ih (acc ++ [(i : Int)]) (by simp; omega)) ?_))
    rw [List.filter_cons_of_pos hb]
    simp [ints]
   | false =>
    refine Ev.no (by simp) (evc (ih acc (by omega)) ?_)
    rw [List.filter_cons_of_neg (by simp [hb])]
 have := key 0 (by omega) [] (by simp)
 exact evc this (by simp [itemsN, List.range_eq_range'])
end Go.Proofs.Ytonfifhoklaliaa.Q
end

section
namespace Go.Proofs.Ytonfifhoklaliaa.Q
open Go.RowKit Go.Proofs.YtonfifhoklaliaaW.PrintWords
set_option linter.unusedVariables false
def maskOf : Nat → (Nat → Bool) → Nat
 | 0, _ => 0
 | n + 1, c => if c n then maskOf n c ||| 2 ^ n else maskOf n c
theorem maskOf_bit (n : Nat) (c : Nat → Bool) (i : Nat) : (maskOf n c).testBit i = (decide (i < n) && c i) := by
 induction n with
 | zero => simp [maskOf]
 | succ n ih =>
  unfold maskOf
  by_cases hc : c n = true
  ·rw [if_pos hc, Nat.testBit_or, ih, pow_bit]
   by_cases h : n = i
   ·subst h; simp [hc]
   ·have : decide (i < n + 1) = decide (i < n) := by rw [decide_eq_decide]; omega
    rw [this]; simp [h]
  ·rw [if_neg hc, ih]
   by_cases h : n = i
   ·subst h; simp at hc; simp [hc]
   ·have : decide (i < n + 1) = decide (i < n) := by rw [decide_eq_decide]; omega
    rw [this]
theorem maskOf_lt (n : Nat) (c : Nat → Bool) : maskOf n c < 2 ^ n := by
 apply Nat.lt_pow_two_of_testBit
 intro i hi
 rw [maskOf_bit, decide_eq_false (by omega)]; rfl
def subB (a b : Nat) : Bool := ndiff a b == 0
theorem ndiff_zero {a b : Nat} : ndiff a b = 0 ↔ ∀ i, a.testBit i = true → b.testBit i = true := by
 constructor
 ·intro h i hi
  have := ndiff_bit a b i
  rw [h, hi, Nat.zero_testBit] at this
  cases hb : b.testBit i with
  | true => rfl
  | false => rw [hb] at this; simp at this
 ·intro h
  apply Nat.eq_of_testBit_eq
  intro i
  rw [ndiff_bit, Nat.zero_testBit]
  cases ha : a.testBit i with
  | false => rfl
  | true => rw [h i ha]; rfl
theorem subB_iff {a b : Nat} : subB a b = true ↔ ∀ i, a.testBit i = true → b.testBit i = true := by unfold subB; rw [beq_iff_eq]; exact ndiff_zero
def allN (p : List Int) : Nat := 2 ^ p.length - 1
theorem allN_bit (p : List Int) (i : Nat) : (allN p).testBit i = decide (i < p.length) := by unfold allN; rw [Nat.testBit_two_pow_sub_one]
theorem allN_lt (p : List Int) : allN p < 2 ^ p.length := by unfold allN; have := Nat.two_pow_pos p.length; omega
def setB (p : List Int) (x : Int) : Bool := decide (0 ≤ x) && decide (x ≤ ((allN p : Nat) : Int))
theorem setB_iff {p : List Int} {x : Int} : setB p x = true ↔ ∃ s : Nat, x = (s : Int) ∧ s < 2 ^ p.length := by
 unfold setB
 rw [Bool.and_eq_true, decide_eq_true_eq, decide_eq_true_eq]
 have := Nat.two_pow_pos p.length
 unfold allN
 constructor
 ·rintro ⟨h1, h2⟩; exact ⟨x.toNat, by omega, by omega⟩
 ·rintro ⟨s, rfl, h⟩; omega
def idealB (p : List Int) (s : Nat) : Bool := allFrom (fun i => !s.testBit i || subB (L p i) s) p.length 0
theorem idealB_iff {p : List Int} {s : Nat} : idealB p s = true ↔ ∀ i, i < p.length → s.testBit i = true → ∀ j, (L p i).testBit j = true → s.testBit j = true := by
 unfold idealB
 rw [allFrom_iff]
 constructor
 ·intro h i hi hs
  have := h i (Nat.zero_le _) hi
  rw [hs] at this
  exact subB_iff.1 (by simpa using this)
 ·intro h i _ hi
  cases hs : s.testBit i with
  | false => rfl
  | true => rw [subB_iff.2 (h i hi hs)]; rfl
def closeN (p : List Int) (s : Nat) : Nat := (itemsN s).foldl (fun a e => a ||| L p e) s
theorem foldl_or_bit (g : Nat → Nat) (l : List Nat) (a i : Nat) : (l.foldl (fun a e => a ||| g e) a).testBit i = (a.testBit i || l.any fun e => (g e).testBit i) := by
 induction l generalizing a with
 | nil => simp
 | cons x l ih => rw [List.foldl_cons, ih, Nat.testBit_or, List.any_cons, Bool.or_assoc]
theorem closeN_bit {p : List Int} {s i : Nat} : (closeN p s).testBit i = (s.testBit i || (itemsN s).any fun e => (L p e).testBit i) := foldl_or_bit _ _ _ _
theorem closeN_eq {p : List Int} (hp : PO p) {s : Nat} (hs : s < 2 ^ p.length) : (closeN p s == s) = idealB p s := by
 have hn := hp.small
 rw [Bool.eq_iff_iff, beq_iff_eq, idealB_iff]
 constructor
 ·intro h i hi hb j hj
  have := closeN_bit (p := p) (s := s) (i := j)
  rw [h] at this
  rw [this]
  have : (itemsN s).any (fun e => (L p e).testBit j) = true := List.any_eq_true.2 ⟨i, mem_itemsN.2 ⟨by omega, hb⟩, hj⟩
  rw [this]; simp
 ·intro h
  apply Nat.eq_of_testBit_eq
  intro i
  rw [closeN_bit]
  cases hb : s.testBit i with
  | true => rfl
  | false =>
   rw [Bool.false_or, ← Bool.not_eq_true, List.any_eq_true]
   rintro ⟨e, he, hj⟩
   obtain ⟨_, h2⟩ := mem_itemsN.1 he
   have := h e (lt_of_bit hs h2) h2 i hj
   rw [this] at hb; cases hb
theorem L_lt {p : List Int} (hp : PO p) {i : Nat} (hi : i < p.length) : L p i < 2 ^ p.length := lt_pow (hp.lt i hi) (by omega)
theorem foldl_or_lt (g : Nat → Nat) (l : List Nat) (a n : Nat) (ha : a < 2 ^ n) (hg : ∀ e, e ∈ l → g e < 2 ^ n) : l.foldl (fun a e => a ||| g e) a < 2 ^ n := by
 induction l generalizing a with
 | nil => exact ha
 | cons x l ih => exact ih _ (or_lt ha (hg x List.mem_cons_self)) (fun e he => hg e (List.mem_cons_of_mem _ he))
theorem closeN_lt {p : List Int} (hp : PO p) {s : Nat} (hs : s < 2 ^ p.length) : closeN p s < 2 ^ p.length :=
 foldl_or_lt _ _ _ _ hs (fun e he => L_lt hp (lt_of_bit hs (mem_itemsN.1 he).2))
theorem foldl_drop_step {α β : Type} (f : β → α → β) (l : List α) (d : α) (b : β) {i : Nat} (h : i < l.length) : (l.drop i).foldl f b = (l.drop (i + 1)).foldl f (f b (l.getD i d)) := by
 rw [List.drop_eq_getElem_cons h, List.foldl_cons, List.getD_eq_getElem?_getD, List.getElem?_eq_getElem h]; rfl
def sumL : List Nat → Nat
 | [] => 0
 | x :: l => x + sumL l
theorem sumL_append (a b : List Nat) : sumL (a ++ b) = sumL a + sumL b := by
 induction a with
 | nil => simp [sumL]
 | cons x a ih => simp only [List.cons_append, sumL, ih]; omega
theorem sumL_le (l : List Nat) (b n : Nat) (h : ∀ x ∈ l, x ≤ b) (hn : l.length ≤ n) : sumL l ≤ n * b := by
 induction l generalizing n with
 | nil => exact Nat.zero_le _
 | cons x l ih =>
  cases n with
  | zero => simp at hn
  | succ n =>
   have h1 := h x List.mem_cons_self
   have h2 := ih n (fun y hy => h y (List.mem_cons_of_mem _ hy)) (by simpa using hn)
   rw [Nat.add_mul]; simp only [sumL]; omega
def nextN (p : List Int) (s : Nat) : List Nat := (List.range 10).filter fun e => decide (e < p.length) && !s.testBit e && subB (L p e) s
theorem mem_nextN {p : List Int} {s e : Nat} : e ∈ nextN p s ↔ e < 10 ∧ e < p.length ∧ s.testBit e = false ∧ subB (L p e) s = true := by
 unfold nextN
 rw [List.mem_filter, List.mem_range, Bool.and_eq_true, Bool.and_eq_true, decide_eq_true_eq, Bool.not_eq_true']
 constructor
 ·rintro ⟨a, ⟨b, c⟩, d⟩; exact ⟨a, b, c, d⟩
 ·rintro ⟨a, b, c, d⟩; exact ⟨a, ⟨b, c⟩, d⟩
theorem nextN_len (p : List Int) (s : Nat) : (nextN p s).length ≤ 10 := by
 unfold nextN; exact Nat.le_trans (List.length_filter_le _ _) (by simp)
def cnt (p : List Int) : Nat → Nat → Nat
 | 0, s => if s = allN p then 1 else 0
 | d + 1, s => if s = allN p then 1 else sumL ((nextN p s).map fun e => cnt p d (s ||| 2 ^ e))
theorem cnt_le (p : List Int) (d s : Nat) : cnt p d s ≤ 10 ^ d := by
 induction d generalizing s with
 | zero => unfold cnt; split <;> simp
 | succ d ih =>
  unfold cnt
  have h1 : 1 ≤ 10 ^ (d + 1) := Nat.one_le_pow _ _ (by decide)
  split
  ·exact h1
  ·have := sumL_le ((nextN p s).map fun e => cnt p d (s ||| 2 ^ e)) (10 ^ d) 10 (fun x hx => by obtain ⟨e, _, rfl⟩ := List.mem_map.1 hx; exact ih _) (by rw [List.length_map]; exact nextN_len p s)
   rw [Nat.pow_succ]; omega
def miss (p : List Int) (s : Nat) : Nat := (List.range p.length).countP fun e => !s.testBit e
theorem miss_le (p : List Int) (s : Nat) : miss p s ≤ p.length := by unfold miss; have := List.countP_le_length (p := fun e => !s.testBit e) (l := List.range p.length); simpa using this
theorem countP_lt {α : Type} (f g : α → Bool) (l : List α) (h : ∀ x ∈ l, f x = true → g x = true) (x : α) (hx : x ∈ l) (hg : g x = true) (hf : f x = false) : l.countP f < l.countP g := by
 induction l with
 | nil => cases hx
 | cons y l ih =>
  have hle : l.countP f ≤ l.countP g := List.countP_mono_left (fun z hz => h z (List.mem_cons_of_mem _ hz))
  rw [List.countP_cons, List.countP_cons]
  rcases List.mem_cons.1 hx with rfl | hx'
  ·rw [hf, hg]; simp; omega
  ·have := ih (fun z hz => h z (List.mem_cons_of_mem _ hz)) hx'
   have hy := h y List.mem_cons_self
   cases hfy : f y with
   | true => rw [hy hfy]; simp; omega
   | false => cases g y <;> simp <;> omega
theorem miss_lt {p : List Int} {s e : Nat} (he : e < p.length) (hb : s.testBit e = false) : miss p (s ||| 2 ^ e) < miss p s := by
 unfold miss
 refine countP_lt _ _ _ (fun x _ hx => ?_) e (List.mem_range.2 he) (by rw [hb]; rfl) ?_
 ·rw [Nat.testBit_or] at hx
  cases h : s.testBit x with
  | false => rfl
  | true => rw [h] at hx; simp at hx
 ·rw [Nat.testBit_or, pow_bit]; simp
theorem miss_zero {p : List Int} {s : Nat} (hs : s < 2 ^ p.length) (h : miss p s = 0) : s = allN p := by
 refine ext_bits hs (allN_lt p) (fun i hi => ?_)
 rw [allN_bit, decide_eq_true hi]
 unfold miss at h
 rw [List.countP_eq_zero] at h
 have := h i (List.mem_range.2 hi)
 simpa using this
theorem add_lt {p : List Int} {s e : Nat} (hs : s < 2 ^ p.length) (he : e < p.length) : s ||| 2 ^ e < 2 ^ p.length := or_lt hs (pow_lt_pow he)
theorem cnt_fuel {p : List Int} : ∀ (d d' s : Nat), s < 2 ^ p.length → miss p s ≤ d → miss p s ≤ d' → cnt p d s = cnt p d' s := by
 intro d
 induction d with
 | zero =>
  intro d' s hs h _
  have := miss_zero hs (by omega)
  subst this
  cases d' <;> simp [cnt]
 | succ d ih =>
  intro d' s hs h h'
  by_cases ha : s = allN p
  ·subst ha; cases d' <;> simp [cnt]
  ·cases d' with
   | zero => exact absurd (miss_zero hs (by omega)) ha
   | succ d' =>
    simp only [cnt, if_neg ha]
    congr 1
    apply List.map_congr_left
    intro e he
    obtain ⟨_, h1, h2, _⟩ := mem_nextN.1 he
    have := miss_lt h1 h2
    exact ih d' _ (add_lt hs h1) (by omega) (by omega)
def ways (p : List Int) (s : Nat) : Nat := cnt p p.length s
theorem ways_step {p : List Int} {s : Nat} (hs : s < 2 ^ p.length) (ha : s ≠ allN p) : ways p s = sumL ((nextN p s).map fun e => ways p (s ||| 2 ^ e)) := by
 unfold ways
 rw [cnt_fuel p.length (p.length + 1) s hs (miss_le p s) (by have := miss_le p s; omega)]
 simp only [cnt, if_neg ha]
theorem ways_all (p : List Int) : ways p (allN p) = 1 := by unfold ways; cases p.length <;> simp [cnt]
theorem ways_le {p : List Int} (h : p.length ≤ 10) (s : Nat) : ways p s ≤ 10000000000 := by
 unfold ways
 exact Nat.le_trans (cnt_le p _ s) (Nat.le_trans (Nat.pow_le_pow_right (by decide) h) (by decide))
theorem ways_cnt {p : List Int} {s d : Nat} (hs : s < 2 ^ p.length) (hd : p.length ≤ d) : ways p s = cnt p d s := cnt_fuel _ _ s hs (miss_le p s) (by have := miss_le p s; omega)
theorem idealB_all (p : List Int) (hp : PO p) : idealB p (allN p) = true := by
 rw [idealB_iff]
 intro i hi _ j hj
 rw [allN_bit, decide_eq_true_eq]
 have := lt_of_bit (hp.lt i hi) hj
 omega
theorem idealB_add {p : List Int} (hp : PO p) {s e : Nat} (hs : idealB p s = true) (he : e ∈ nextN p s) : idealB p (s ||| 2 ^ e) = true := by
 obtain ⟨_, h1, _, h3⟩ := mem_nextN.1 he
 rw [idealB_iff] at hs ⊢
 intro i hi hb j hj
 rw [Nat.testBit_or, pow_bit, Bool.or_eq_true, decide_eq_true_eq] at hb
 rw [Nat.testBit_or, Bool.or_eq_true]
 left
 rcases hb with hb | rfl
 ·exact hs i hi hb j hj
 ·exact subB_iff.1 h3 j hj
end Go.Proofs.Ytonfifhoklaliaa.Q
end

section
namespace Go.Proofs.Ytonfifhoklaliaa.Q
open Go.RowKit Go.Proofs.YtonfifhoklaliaaW.PrintWords Go.Proofs.Ytonfifhoklaliaa.F
set_option linter.unusedVariables false
theorem all_eq {p : List Int} (h : p.length ≤ 61) : impl_Poset_all.f p = some ((allN p : Nat) : Int) := by
 unfold impl_Poset_all.f
 rw [show impl_Poset_n.f p = some (p.length : Int) from rfl]
 simp only [Option.bind_some]
 rw [if_pos (by omega), mask_eq h, pow_int]
 unfold allN
 have := Nat.two_pow_pos p.length
 congr 1
 omega
theorem close_ev {p : List Int} (hp : PO p) {s : Nat} (hs : s < 2 ^ p.length) : Ev (fun k => impl_Poset_close.f k p (s : Int)) ((closeN p s : Nat) : Int) := by
 have hn := hp.small
 unfold impl_Poset_close.f closeN
 refine Ev.bind (items_ev s (lt_pow hs (by omega))) ?_
 rw [ints_len]
 have hl := itemsN_len s
 have key : ∀ i, i ≤ (itemsN s).length → ∀ a : Nat, a < 2 ^ p.length → Ev (fun k => impl_Poset_close.l0 k (a : Int) (ints (itemsN s)) ((itemsN s).length : Int) (i : Int) p) (((itemsN s).drop i).foldl (fun a e => a ||| L p e) a : Nat) := by
  refine downTo _ ?_ ?_
  ·intro a ha
   refine Ev.step (by intro k; simp only [impl_Poset_close.l0]; rfl) (Ev.no (by omega) (Ev.ret ?_))
   rw [List.drop_length]; rfl
  ·intro i hi ih a ha
   have hlt := items_lt hs hi
   refine Ev.step (by intro k; simp only [impl_Poset_close.l0]; rfl) (Ev.yes (by omega) (Ev.yes (by omega) (Ev.yes (by rw [ints_len]; omega) ?_)))
   rw [rd_ints, wid1 hi (by omega), rdN, foldl_drop_step _ _ 0 _ hi]
   refine Ev.yes (by omega) (Ev.yes (by omega) ?_)
   rw [hp.val _ hlt, bits_orN (lt_pow ha (by omega)) (lt_pow (L_lt hp hlt) (by omega))]
   exact ih _ (or_lt ha (L_lt hp hlt))
 exact key 0 (by omega) s hs
theorem poIdeal_ev {p : List Int} (hp : PO p) {s : Nat} (hs : s < 2 ^ p.length) : Ev (fun k => spec_poIdeal.f k p (s : Int)) (idealB p s) := by
 have hn := hp.small
 unfold spec_poIdeal.f idealB
 have key : ∀ i, i ≤ p.length → Ev (fun k => spec_poIdeal.l0 k (s : Int) p (p.length : Int) (i : Int)) (allFrom (fun i => !s.testBit i || subB (L p i) s) p.length i) := by
  refine downTo _ ?_ ?_
  ·exact Ev.step (by intro k; simp only [spec_poIdeal.l0]; rfl) (Ev.no (by omega) (Ev.ret (allFrom_end _ _).symm))
  ·intro i hi ih
   refine Ev.step (by intro k; simp only [spec_poIdeal.l0]; rfl) (Ev.yes (by omega) (Ev.yes (by omega) (Ev.yes (by omega) ?_)))
   rw [wid1 hi (by omega), rdN, hp.val i hi, allFrom_step _ hi]
   refine Ev.call (poIn_eq (by omega)) ?_
   cases s.testBit i with
   | false => exact Ev.no (by simp) (evc ih (by simp))
   | true =>
    refine Ev.yes rfl ?_
    rw [bits_andNotN (lt_pow (L_lt hp hi) (by omega)) (lt_pow hs (by omega))]
    refine Ev.ite (fun h => evc ih ?_) (fun h => Ev.ret ?_)
    ·rw [show subB (L p i) s = true by unfold subB; rw [beq_iff_eq]; exact_mod_cast h]; simp
    ·rw [show subB (L p i) s = false by unfold subB; rw [beq_eq_false_iff_ne]; intro e; exact h (by rw [e]; rfl)]; simp
 exact key 0 (by omega)
end Go.Proofs.Ytonfifhoklaliaa.Q
end

section
namespace Go.Proofs.Ytonfifhoklaliaa.Q
open Go.RowKit Go.Proofs.YtonfifhoklaliaaW.PrintWords
set_option linter.unusedVariables false
def ordRun (p : List Int) : Nat → List Int → Option Nat
 | s, [] => some s
 | s, e :: l => if (0 ≤ e ∧ e < (p.length : Int)) ∧ s.testBit e.toNat = false ∧ subB (L p e.toNat) s = true then ordRun p (s ||| 2 ^ e.toNat) l else none
def ordB (p w : List Int) : Bool := ordRun p 0 w == some (allN p)
theorem ordB_iff {p w : List Int} : ordB p w = true ↔ ordRun p 0 w = some (allN p) := by unfold ordB; rw [beq_iff_eq]
theorem ordRun_app (p x y : List Int) : ∀ s, ordRun p s (x ++ y) = (ordRun p s x).bind fun t => ordRun p t y := by
 induction x with
 | nil => intro s; rfl
 | cons e x ih =>
  intro s
  simp only [List.cons_append, ordRun]
  split
  ·exact ih _
  ·rfl
theorem ordRun_range {p l : List Int} : ∀ {s t : Nat}, ordRun p s l = some t → ∀ e ∈ l, 0 ≤ e ∧ e < (p.length : Int) := by
 induction l with
 | nil => intro s t h e he; cases he
 | cons x l ih =>
  intro s t h e he
  simp only [ordRun] at h
  split at h
  ·rename_i hc
   rcases List.mem_cons.1 he with rfl | he
   ·exact hc.1
   ·exact ih h e he
  ·cases h
def pcard (n s : Nat) : Nat := (List.range n).countP s.testBit
theorem pcard_succ (n s : Nat) : pcard (n + 1) s = pcard n s + if s.testBit n then 1 else 0 := by
 unfold pcard; rw [List.range_succ, List.countP_append, List.countP_singleton]
theorem pcard_above {n e : Nat} (s : Nat) (h : n ≤ e) : pcard n (s ||| 2 ^ e) = pcard n s := by
 unfold pcard
 apply List.countP_congr
 intro x hx
 rw [List.mem_range] at hx
 rw [Nat.testBit_or, pow_bit, decide_eq_false (by omega), Bool.or_false]
theorem pcard_add {n s e : Nat} (he : e < n) (hb : s.testBit e = false) : pcard n (s ||| 2 ^ e) = pcard n s + 1 := by
 induction n with
 | zero => omega
 | succ n ih =>
  rw [pcard_succ, pcard_succ, Nat.testBit_or, pow_bit]
  rcases Nat.lt_succ_iff_lt_or_eq.1 he with h | h
  ·rw [ih h, decide_eq_false (by omega), Bool.or_false]; omega
  ·subst h; rw [pcard_above s (Nat.le_refl _), hb]; simp
theorem pcard_zero (n : Nat) : pcard n 0 = 0 := by unfold pcard; rw [List.countP_eq_zero]; intro x _; simp
theorem pcard_le (n s : Nat) : pcard n s ≤ n := by unfold pcard; have := List.countP_le_length (p := s.testBit) (l := List.range n); simpa using this
theorem pcard_all (p : List Int) : pcard p.length (allN p) = p.length := by
 unfold pcard
 have : (List.range p.length).countP (allN p).testBit = (List.range p.length).length := by
  rw [List.countP_eq_length]; intro x hx; rw [List.mem_range] at hx; rw [allN_bit, decide_eq_true hx]
 rw [this, List.length_range]
theorem all_of_pcard {p : List Int} {s : Nat} (hs : s < 2 ^ p.length) (h : pcard p.length s = p.length) : s = allN p := by
 refine ext_bits hs (allN_lt p) (fun i hi => ?_)
 rw [allN_bit, decide_eq_true hi]
 have h2 : (List.range p.length).countP s.testBit = (List.range p.length).length := by rw [List.length_range]; exact h
 rw [List.countP_eq_length] at h2
 exact h2 i (List.mem_range.2 hi)
theorem ordRun_card {p l : List Int} : ∀ {s t : Nat}, s < 2 ^ p.length → ordRun p s l = some t → t < 2 ^ p.length ∧ pcard p.length t = pcard p.length s + l.length := by
 induction l with
 | nil => intro s t hs h; simp only [ordRun, Option.some.injEq] at h; subst h; exact ⟨hs, rfl⟩
 | cons x l ih =>
  intro s t hs h
  simp only [ordRun] at h
  split at h
  ·rename_i hc
   obtain ⟨⟨h0, h1⟩, h2, h3⟩ := hc
   have hx : x.toNat < p.length := by omega
   obtain ⟨g1, g2⟩ := ih (or_lt hs (pow_lt_pow hx)) h
   refine ⟨g1, ?_⟩
   rw [g2, pcard_add hx h2, List.length_cons]; omega
  ·cases h
theorem ordB_len {p w : List Int} (h : ordB p w = true) : w.length = p.length := by
 have := (ordRun_card (Nat.two_pow_pos _) (ordB_iff.1 h)).2
 rw [pcard_all, pcard_zero] at this; omega
theorem ordB_eq (p w : List Int) : (decide (w.length = p.length) && (ordRun p 0 w).isSome) = ordB p w := by
 rw [Bool.eq_iff_iff, Bool.and_eq_true, decide_eq_true_eq]
 constructor
 ·rintro ⟨hl, hs⟩
  obtain ⟨t, ht⟩ := Option.isSome_iff_exists.1 hs
  obtain ⟨g1, g2⟩ := ordRun_card (Nat.two_pow_pos _) ht
  rw [pcard_zero, hl, Nat.zero_add] at g2
  rw [ordB_iff, ht, all_of_pcard g1 g2]
 ·intro h
  exact ⟨ordB_len h, by rw [ordB_iff.1 h]; rfl⟩
theorem ordB_range {p w : List Int} (h : ordB p w = true) : ∀ e ∈ w, 0 ≤ e ∧ e < (p.length : Int) := ordRun_range (ordB_iff.1 h)
theorem drop_getD (w : List Int) {i : Nat} (h : i < w.length) : w.drop i = w.getD i 0 :: w.drop (i + 1) := by
 rw [List.drop_eq_getElem_cons h, List.getD_eq_getElem?_getD, List.getElem?_eq_getElem h]; rfl
def idealsN (p : List Int) : List Nat := (List.range (2 ^ p.length)).filter (idealB p)
theorem mem_idealsN {p : List Int} {s : Nat} : s ∈ idealsN p ↔ s < 2 ^ p.length ∧ idealB p s = true := by
 unfold idealsN; rw [List.mem_filter, List.mem_range]
theorem idealsN_nodup (p : List Int) : (idealsN p).Nodup := List.Pairwise.filter _ List.nodup_range
theorem idealsN_len (p : List Int) : (idealsN p).length ≤ 2 ^ p.length := by
 have := List.length_filter_le (idealB p) (List.range (2 ^ p.length))
 rwa [List.length_range] at this
theorem idealB_zero' (p : List Int) : idealB p 0 = true := by rw [idealB_iff]; intro i _ h; rw [Nat.zero_testBit] at h; cases h
theorem zero_mem (p : List Int) : 0 ∈ idealsN p := mem_idealsN.2 ⟨Nat.two_pow_pos _, idealB_zero' p⟩
def frB (p : List Int) (u : Nat) : Bool := allFrom (fun i => !u.testBit i || decide (L p i &&& u = 0)) p.length 0
def stB (p : List Int) (strict : Bool) (s t : Nat) : Bool := subB s t && (!strict || frB p (ndiff t s))
def wvN (B : Nat → Nat → Bool) (ids : List Nat) : Nat → Nat → Nat
 | 0, t => if t = 0 then 1 else 0
 | k + 1, t => sumL ((ids.filter fun s => B s t).map (wvN B ids k))
theorem sumL_map_le {α : Type} (f g : α → Nat) : ∀ l : List α, (∀ x ∈ l, f x ≤ g x) → sumL (l.map f) ≤ sumL (l.map g)
 | [], _ => Nat.le_refl _
 | x :: l, h => by
  have h1 := sumL_map_le f g l (fun y hy => h y (List.mem_cons_of_mem _ hy))
  have h2 := h x List.mem_cons_self
  simp only [List.map_cons, sumL]
  omega
theorem sumL_filter_le {α : Type} (f : α → Nat) (P Q : α → Bool) : ∀ l : List α, (∀ x ∈ l, P x = true → Q x = true) → sumL ((l.filter P).map f) ≤ sumL ((l.filter Q).map f)
 | [], _ => Nat.le_refl _
 | x :: l, h => by
  have h1 := sumL_filter_le f P Q l (fun y hy => h y (List.mem_cons_of_mem _ hy))
  rw [List.filter_cons, List.filter_cons]
  cases hp : P x with
  | false =>
   rw [if_neg (by simp)]
   cases hq : Q x with
   | false => rw [if_neg (by simp)]; exact h1
   | true => rw [if_pos rfl, List.map_cons]; simp only [sumL]; omega
  | true =>
   rw [if_pos rfl, if_pos (h x List.mem_cons_self hp)]
   simp only [List.map_cons, sumL]; omega
theorem sumL_take_le {α : Type} (f : α → Nat) (l : List α) (i : Nat) : sumL ((l.take i).map f) ≤ sumL (l.map f) := by
 rw [show l.map f = (l.take i).map f ++ (l.drop i).map f by rw [← List.map_append, List.take_append_drop], sumL_append]
 omega
theorem sub_pow (c : Nat) : ∀ (n t : Nat), sumL (((List.range (2 ^ n)).filter fun s => subB s t).map fun s => c ^ pcard n s) = (c + 1) ^ pcard n t
 | 0, t => by
  have e : (List.range (2 ^ 0)).filter (fun s => subB s t) = [0] := by
   rw [show List.range (2 ^ 0) = [0] from rfl, List.filter_cons, if_pos (subB_iff.2 fun i h => by rw [Nat.zero_testBit] at h; cases h)]; rfl
  rw [e]; rfl
 | n + 1, t => by
  have hr : List.range (2 ^ (n + 1)) = List.range (2 ^ n) ++ (List.range (2 ^ n)).map (2 ^ n + ·) := by
   rw [show 2 ^ (n + 1) = 2 ^ n + 2 ^ n by rw [Nat.pow_succ]; omega, List.range_add]
  rw [hr, List.filter_append, List.map_append, sumL_append, List.filter_map, List.map_map]
  have hbit : ∀ s, s < 2 ^ n → 2 ^ n + s = s ||| 2 ^ n := fun s hs => by
   have h := Nat.two_pow_add_eq_or_of_lt hs 1
   rw [Nat.mul_one] at h
   rw [h, Nat.or_comm]
  have h1 : sumL (((List.range (2 ^ n)).filter fun s => subB s t).map fun s => c ^ pcard (n + 1) s) = (c + 1) ^ pcard n t := by
   rw [← sub_pow c n t]
   congr 1
   refine List.map_congr_left fun s hs => ?_
   have hs := List.mem_range.1 (List.mem_filter.1 hs).1
   rw [pcard_succ, Nat.testBit_lt_two_pow hs]; simp
  have hsub : ∀ s, s < 2 ^ n → subB (2 ^ n + s) t = (t.testBit n && subB s t) := fun s hs => by
   rw [hbit s hs, Bool.eq_iff_iff, Bool.and_eq_true, subB_iff, subB_iff]
   constructor
   ·intro h
    exact ⟨h n (by rw [Nat.testBit_or, pow_bit]; simp), fun i hi => h i (by rw [Nat.testBit_or, hi]; rfl)⟩
   ·rintro ⟨h1, h2⟩ i hi
    rw [Nat.testBit_or, pow_bit, Bool.or_eq_true, decide_eq_true_eq] at hi
    rcases hi with hi | hi
    ·exact h2 i hi
    ·rw [← hi]; exact h1
  have h2 : sumL (((List.range (2 ^ n)).filter ((fun s => subB s t) ∘ (2 ^ n + ·))).map ((fun s => c ^ pcard (n + 1) s) ∘ (2 ^ n + ·))) = if t.testBit n = true then c * (c + 1) ^ pcard n t else 0 := by
   have e1 : (List.range (2 ^ n)).filter ((fun s => subB s t) ∘ (2 ^ n + ·)) = (List.range (2 ^ n)).filter fun s => t.testBit n && subB s t := by
    refine List.filter_congr fun s hs => ?_
    exact hsub s (List.mem_range.1 hs)
   rw [e1]
   cases hb : t.testBit n with
   | false =>
    rw [if_neg (by simp)]
    have e2 : (List.range (2 ^ n)).filter (fun s => false && subB s t) = [] := by simp
    rw [e2]; rfl
   | true =>
    rw [if_pos rfl]
    simp only [Bool.true_and]
    rw [← sub_pow c n t]
    have hmul : ∀ l : List Nat, sumL (l.map fun s => c * c ^ pcard n s) = c * sumL (l.map fun s => c ^ pcard n s) := by
     intro l
     induction l with
     | nil => rfl
     | cons x l ih => simp only [List.map_cons, sumL]; rw [ih, Nat.mul_add]
    rw [← hmul]
    congr 1
    refine List.map_congr_left fun s hs => ?_
    have hs := List.mem_range.1 (List.mem_filter.1 hs).1
    show c ^ pcard (n + 1) (2 ^ n + s) = _
    rw [hbit s hs, pcard_add (Nat.lt_succ_self n) (Nat.testBit_lt_two_pow hs), pcard_succ, Nat.testBit_lt_two_pow hs]
    simp [Nat.pow_succ, Nat.mul_comm]
  rw [h1, h2, pcard_succ]
  cases t.testBit n with
  | false => simp
  | true => simp only [if_pos]; rw [Nat.pow_succ, Nat.mul_comm ((c + 1) ^ pcard n t), Nat.add_mul, Nat.one_mul]; omega
theorem wvN_le {p : List Int} {B : Nat → Nat → Bool} (hB : ∀ s t, B s t = true → subB s t = true) : ∀ k t, wvN B (idealsN p) k t ≤ (k + 1) ^ pcard p.length t
 | 0, t => by
  unfold wvN
  rw [Nat.one_pow]
  split <;> omega
 | k + 1, t => by
  unfold wvN
  rw [← sub_pow (k + 1) p.length t]
  refine Nat.le_trans (sumL_map_le _ (fun s => (k + 1) ^ pcard p.length s) _ (fun s _ => wvN_le hB k s)) ?_
  unfold idealsN
  rw [List.filter_filter]
  refine sumL_filter_le _ _ _ _ fun s _ h => ?_
  rw [Bool.and_eq_true] at h
  exact hB s t h.1
theorem pow_bound {c m : Nat} (hc : c ≤ 15) (hm : m ≤ 10) : c ^ m ≤ 576650390625 := by
 refine Nat.le_trans (Nat.pow_le_pow_left hc m) ?_
 have h15 : (15 : Nat) ^ m ≤ 15 ^ 10 := Nat.pow_le_pow_right (by decide) hm
 exact Nat.le_trans h15 (by decide)
theorem wvN_small {p : List Int} (hp : p.length ≤ 10) {B : Nat → Nat → Bool} (hB : ∀ s t, B s t = true → subB s t = true) {k t : Nat} (hk : k ≤ 14) : wvN B (idealsN p) k t ≤ 576650390625 :=
 Nat.le_trans (wvN_le hB k t) (pow_bound (by omega) (Nat.le_trans (pcard_le _ _) hp))
theorem stB_sub {p : List Int} {b : Bool} {s t : Nat} (h : stB p b s t = true) : subB s t = true := by
 unfold stB at h
 rw [Bool.and_eq_true] at h
 exact h.1
theorem sub_all {p : List Int} {s : Nat} (hs : s < 2 ^ p.length) : subB s (allN p) = true := subB_iff.2 fun i hi => by
 rw [allN_bit]; exact decide_eq_true (lt_of_bit hs hi)
end Go.Proofs.Ytonfifhoklaliaa.Q
end

section
namespace Go.Proofs.Ytonfifhoklaliaa.Q
open Go.RowKit Go.Proofs.YtonfifhoklaliaaW.PrintWords Go.Proofs.Ytonfifhoklaliaa.F
set_option linter.unusedVariables false
theorem poIdeals_ev {p : List Int} (hp : PO p) : Ev (fun k => spec_poIdeals.f k p) (ints (idealsN p)) := by
 have hn := hp.small
 have h2 : 2 ^ p.length ≤ 1024 := Nat.le_trans (Nat.pow_le_pow_right (by decide) hn) (by decide)
 unfold spec_poIdeals.f
 have key : ∀ i, i ≤ 2 ^ p.length → ∀ acc : List Int, acc.length ≤ i → Ev (fun k => spec_poIdeals.l0 k acc (i : Int) p) (acc ++ ints ((List.range' i (2 ^ p.length - i)).filter (idealB p))) := by
  refine downTo _ ?_ ?_
  ·intro acc _
   refine Ev.step (by intro k; simp only [spec_poIdeals.l0]; rfl) ?_
   rw [shlN (by omega), Nat.sub_self]
   exact Ev.no (by omega) (Ev.ret (by simp [ints]))
  ·intro i hi ih acc ha
   refine Ev.step (by intro k; simp only [spec_poIdeals.l0]; rfl) ?_
   rw [shlN (by omega)]
   refine Ev.yes (by omega) (Ev.bind (poIdeal_ev hp hi) ?_)
   rw [show 2 ^ p.length - i = (2 ^ p.length - (i + 1)) + 1 by omega, List.range'_succ, List.filter_cons, wid1 hi (by omega)]
   cases hc : idealB p i with
   | true =>
    rw [if_pos rfl]
    refine Ev.yes rfl (Ev.yes (by omega) (evc (ih (acc ++ [(i : Int)]) (by rw [List.length_append, List.length_singleton]; omega)) ?_))
    rw [List.append_assoc]; rfl
   | false =>
    rw [if_neg (by simp)]
    exact Ev.no (by simp) (ih acc (by omega))
 have := key 0 (Nat.zero_le _) [] (Nat.le_refl _)
 rw [Nat.sub_zero, ← List.range_eq_range'] at this
 exact this
end Go.Proofs.Ytonfifhoklaliaa.Q
end

section
namespace Go.Proofs.Ytonfifhoklaliaa.Q
open Go.RowKit Go.Proofs.YtonfifhoklaliaaW.PrintWords
set_option linter.unusedVariables false
theorem sizes_eq (n : Nat) : (decide ((1 : Int) ≤ (n : Int)) && decide ((n : Int) ≤ 10)) = (decide (1 ≤ n) && decide (n ≤ 10)) := by
 rw [Bool.eq_iff_iff]; simp only [Bool.and_eq_true, decide_eq_true_eq]; omega
end Go.Proofs.Ytonfifhoklaliaa.Q
end

section
namespace Go.Proofs.Ytonfifhoklaliaa.Q
open Go.RowKit Go.Proofs.YtonfifhoklaliaaW.PrintWords Go.Proofs.Ytonfifhoklaliaa.F
set_option linter.unusedVariables false
theorem poGood_ev (p : List Int) : Ev (fun k => spec_poGood.f k p) (isPo p) := by
 unfold spec_poGood.f
 refine Ev.call (l1In_eq _ _ _) ?_
 unfold isPo
 rw [sizes_eq]
 cases hs : (decide (1 ≤ p.length) && decide (p.length ≤ 10)) with
 | false => exact Ev.no (by simp) (Ev.ret rfl)
 | true =>
 refine Ev.yes rfl ?_
 rw [Bool.and_eq_true, decide_eq_true_eq, decide_eq_true_eq] at hs
 obtain ⟨h1, h2⟩ := hs
 have key : ∀ i, i ≤ p.length → Ev (fun k => spec_poGood.l0 k p (p.length : Int) (i : Int) p) (allFrom (rowOk p) p.length i) := by
  refine downTo p.length ?_ ?_
  ·refine Ev.step (by intro k; simp only [spec_poGood.l0]; rfl) ?_
   exact Ev.no (by omega) (Ev.ret (allFrom_end _ _).symm)
  ·intro i hi ih
   refine Ev.step (by intro k; simp only [spec_poGood.l0]; rfl) ?_
   refine Ev.yes (by omega) (Ev.yes (by omega) (Ev.yes (by omega) ?_))
   rw [rdN, mask_eq (by omega)]
   refine Ev.call (l1In_eq _ _ _) ?_
   rw [allFrom_step _ hi]
   by_cases hb : 0 ≤ p.getD i 0 ∧ p.getD i 0 ≤ 2 ^ i - 1
   rotate_left
   ·exact Ev.no (by rw [range_false hb]; simp) (Ev.ret (by rw [rowOk_false hb]; rfl))
   refine Ev.yes (range_true hb) ?_
   have hv : p.getD i 0 = (L p i : Int) := by unfold L; omega
   rw [rowOk_true hb]
   generalize hx : p.getD i 0 = x at *
   have inner : ∀ j, j ≤ i → Ev (fun k => spec_poGood.l1 k (i : Int) x (j : Int) p (p.length : Int) (i : Int) p)
    (allFrom (fun j => !(L p i).testBit j || decide (Go.bits .andNot .i64 (p.getD j 0) x = 0)) i j && allFrom (rowOk p) p.length (i + 1)) := by
    refine downTo i ?_ ?_
    ·refine Ev.step (by intro k; simp only [spec_poGood.l1]; rfl) ?_
     refine Ev.no (by omega) ?_
     rw [wid1 hi (by omega), allFrom_end, Bool.true_and]
     exact ih
    ·intro j hj ihj
     refine Ev.step (by intro k; simp only [spec_poGood.l1]; rfl) ?_
     refine Ev.yes (by omega) (Ev.yes (by omega) ?_)
     rw [allFrom_step _ hj, wid1 hj (by omega), rdN]
     cases hbit : (L p i).testBit j with
     | false => exact Ev.no (by rw [hv, bit_test (by omega), hbit]; simp) (evc ihj (by simp))
     | true =>
      refine Ev.yes (by rw [hv, bit_test (by omega), hbit]) (Ev.yes (by omega) ?_)
      refine Ev.ite (fun h => evc ihj ?_) (fun h => Ev.ret ?_)
      ·rw [decide_eq_true h]; simp
      ·rw [decide_eq_false h]; simp
   exact inner 0 (by omega)
 exact key 0 (by omega)
theorem within_eq (a b c : Int) : impl_within.f a b c = some (decide (b ≤ a) && decide (a ≤ c)) := by
 unfold impl_within.f
 by_cases h : b ≤ a
 ·rw [if_pos h]; simp [h]
 ·rw [if_neg h]; simp [h]
theorem IsPoset_ev (p : List Int) : Ev (fun k => impl_IsPoset.f k p) (isPo p) := by
 unfold impl_IsPoset.f
 refine Ev.call (show impl_Poset_n.f p = some (p.length : Int) from rfl) (Ev.call (within_eq _ _ _) ?_)
 unfold isPo
 rw [sizes_eq]
 cases hs : (decide (1 ≤ p.length) && decide (p.length ≤ 10)) with
 | false => exact Ev.no (by simp) (Ev.ret rfl)
 | true =>
 refine Ev.yes rfl ?_
 rw [Bool.and_eq_true, decide_eq_true_eq, decide_eq_true_eq] at hs
 obtain ⟨h1, h2⟩ := hs
 have key : ∀ i, i ≤ p.length → Ev (fun k => impl_IsPoset.l0 k p (p.length : Int) (i : Int) p) (allFrom (rowOk p) p.length i) := by
  refine downTo p.length ?_ ?_
  ·refine Ev.step (by intro k; simp only [impl_IsPoset.l0]; rfl) ?_
   exact Ev.no (by omega) (Ev.ret (allFrom_end _ _).symm)
  ·intro i hi ih
   refine Ev.step (by intro k; simp only [impl_IsPoset.l0]; rfl) ?_
   refine Ev.yes (by omega) (Ev.yes (by omega) (Ev.yes (by omega) ?_))
   rw [rdN, mask_eq (by omega)]
   refine Ev.call (within_eq _ _ _) ?_
   rw [allFrom_step _ hi]
   by_cases hb : 0 ≤ p.getD i 0 ∧ p.getD i 0 ≤ 2 ^ i - 1
   rotate_left
   ·exact Ev.no (by rw [range_false hb]; simp) (Ev.ret (by rw [rowOk_false hb]; rfl))
   refine Ev.yes (range_true hb) ?_
   have hv : p.getD i 0 = (L p i : Int) := by unfold L; omega
   have hm : L p i < 2 ^ i := by
    have := hb.2
    rw [hv, pow_int] at this
    have hp : 0 < 2 ^ i := Nat.two_pow_pos i
    generalize 2 ^ i = z at *
    omega
   rw [rowOk_true hb, ← items_all hm (by omega) (fun j => decide (Go.bits .andNot .i64 (p.getD j 0) (p.getD i 0) = 0)), hv]
   refine Ev.bind (items_ev _ (lt_pow hm (by omega))) ?_
   have inner : ∀ j, j ≤ (itemsN (L p i)).length → Ev (fun k => impl_IsPoset.l1 k (L p i : Int) p (p.length : Int) (i : Int) (ints (itemsN (L p i))) ((ints (itemsN (L p i))).length : Int) (j : Int) p)
    (((itemsN (L p i)).drop j).all (fun j => decide (Go.bits .andNot .i64 (p.getD j 0) (L p i : Int) = 0)) && allFrom (rowOk p) p.length (i + 1)) := by
    rw [ints_len]
    refine downTo _ ?_ ?_
    ·refine Ev.step (by intro k; simp only [impl_IsPoset.l1]; rfl) ?_
     refine Ev.no (by omega) ?_
     rw [wid1 hi (by omega), List.drop_length, List.all_nil, Bool.true_and]
     exact ih
    ·intro j hj ihj
     have hlt := items_lt hm hj
     have hl := itemsN_len (L p i)
     refine Ev.step (by intro k; simp only [impl_IsPoset.l1]; rfl) ?_
     refine Ev.yes (by omega) (Ev.yes (by omega) (Ev.yes (by rw [ints_len]; omega) ?_))
     rw [rd_ints, all_drop_step _ _ 0 hj, wid1 hj (by omega), rdN]
     refine Ev.yes (by omega) (Ev.yes (by omega) ?_)
     refine Ev.ite (fun h => evc ihj ?_) (fun h => Ev.ret ?_)
     ·rw [decide_eq_true h]; simp
     ·rw [decide_eq_false h]; simp
   exact inner 0 (by omega)
 exact key 0 (by omega)
end Go.Proofs.Ytonfifhoklaliaa.Q
end

section
namespace Go.Proofs.Ytonfifhoklaliaa.Q

end Go.Proofs.Ytonfifhoklaliaa.Q
end

section
namespace Go.Proofs.Ytonfifhoklaliaa.Q
open Go.RowKit Go.Proofs.YtonfifhoklaliaaW.PrintWords Go.Proofs.Ytonfifhoklaliaa.F
set_option linter.unusedVariables false
theorem isSet_ev (p : List Int) (x : Int) : Ev (fun k => impl_isSet.f k p x) (isPo p && setB p x) := by
 unfold impl_isSet.f
 refine Ev.bind (IsPoset_ev p) ?_
 cases hp : isPo p with
 | false => exact Ev.no (by simp) (Ev.ret rfl)
 | true =>
  have := ((isPo_iff p).1 hp).small
  exact Ev.yes rfl (Ev.call (all_eq (by omega)) (Ev.call (within_eq _ _ _) (Ev.ret rfl)))
end Go.Proofs.Ytonfifhoklaliaa.Q
end

section
namespace Go.Proofs.Ytonfifhoklaliaa.Q
open Go.RowKit Go.Proofs.YtonfifhoklaliaaW.PrintWords
set_option linter.unusedVariables false
def topN (p : List Int) (s : Nat) : Nat := (itemsN s).foldl (fun a e => ndiff a (L p e)) s
theorem foldl_ndiff_lt (g : Nat → Nat) (l : List Nat) (a n : Nat) (ha : a < n) : l.foldl (fun a e => ndiff a (g e)) a < n := by
 induction l generalizing a with
 | nil => exact ha
 | cons x l ih => exact ih _ (ndiff_lt ha)
theorem foldl_ndiff_bit (g : Nat → Nat) (l : List Nat) (a i : Nat) : (l.foldl (fun a e => ndiff a (g e)) a).testBit i = (a.testBit i && !l.any fun e => (g e).testBit i) := by
 induction l generalizing a with
 | nil => simp
 | cons x l ih =>
  rw [List.foldl_cons, ih, ndiff_bit, List.any_cons]
  cases a.testBit i <;> cases (g x).testBit i <;> simp
theorem topN_eq {p : List Int} (hp : PO p) {u : Nat} (hu : u < 2 ^ p.length) : (topN p u == u) = frB p u := by
 have hn := hp.small
 rw [Bool.eq_iff_iff, beq_iff_eq]
 unfold frB
 rw [allFrom_iff]
 constructor
 ·intro h i _ hi
  cases hb : u.testBit i with
  | false => rfl
  | true =>
   rw [Bool.not_true, Bool.false_or, decide_eq_true_eq]
   apply Nat.eq_of_testBit_eq
   intro j
   rw [Nat.testBit_and, Nat.zero_testBit]
   cases hj : u.testBit j with
   | false => simp
   | true =>
    have h1 : (topN p u).testBit j = true := by rw [h]; exact hj
    unfold topN at h1
    rw [foldl_ndiff_bit, hj, Bool.true_and] at h1
    have h2 : ¬ (L p i).testBit j = true := fun hl => by
     rw [List.any_eq_true.2 ⟨i, mem_itemsN.2 ⟨by omega, hb⟩, hl⟩] at h1; cases h1
    simp [h2]
 ·intro h
  apply Nat.eq_of_testBit_eq
  intro j
  unfold topN
  rw [foldl_ndiff_bit]
  cases hj : u.testBit j with
  | false => rfl
  | true =>
   rw [Bool.true_and, Bool.not_eq_true', List.any_eq_false]
   intro e he hl
   have hb := (mem_itemsN.1 he).2
   have h1 := h e (Nat.zero_le _) (lt_of_bit hu hb)
   rw [hb, Bool.not_true, Bool.false_or, decide_eq_true_eq] at h1
   have h2 : (L p e &&& u).testBit j = true := by rw [Nat.testBit_and, hl, hj]; rfl
   rw [h1, Nat.zero_testBit] at h2
   cases h2
theorem topN_bit (p : List Int) {s : Nat} (hs : s < 2 ^ 10) (i : Nat) : (topN p s).testBit i = true ↔ s.testBit i = true ∧ ∀ e, s.testBit e = true → (L p e).testBit i = false := by
 unfold topN
 rw [foldl_ndiff_bit, Bool.and_eq_true, Bool.not_eq_true', List.any_eq_false]
 constructor
 ·rintro ⟨h1, h2⟩
  refine ⟨h1, fun e he => ?_⟩
  have := h2 e (mem_itemsN.2 ⟨lt_of_bit hs he, he⟩)
  simpa using this
 ·rintro ⟨h1, h2⟩
  refine ⟨h1, fun e he => ?_⟩
  rw [h2 e (mem_itemsN.1 he).2]; simp
theorem closeN_bit' (p : List Int) {s : Nat} (hs : s < 2 ^ 10) (i : Nat) : (closeN p s).testBit i = true ↔ s.testBit i = true ∨ ∃ e, s.testBit e = true ∧ (L p e).testBit i = true := by
 rw [closeN_bit, Bool.or_eq_true, List.any_eq_true]
 constructor
 ·rintro (h | ⟨e, he, h⟩)
  ·exact Or.inl h
  ·exact Or.inr ⟨e, (mem_itemsN.1 he).2, h⟩
 ·rintro (h | ⟨e, he, h⟩)
  ·exact Or.inl h
  ·exact Or.inr ⟨e, mem_itemsN.2 ⟨lt_of_bit hs he, he⟩, h⟩
def botN (p : List Int) (s : Nat) : Nat := (itemsN s).foldl (fun a e => if L p e &&& s = 0 then a ||| 2 ^ e else a) 0
theorem foldl_bot_bit (c : Nat → Prop) [DecidablePred c] : ∀ (l : List Nat) (a i : Nat), (l.foldl (fun a e => if c e then a ||| 2 ^ e else a) a).testBit i = true ↔ a.testBit i = true ∨ (i ∈ l ∧ c i)
 | [], a, i => by simp
 | x :: l, a, i => by
  rw [List.foldl_cons, foldl_bot_bit c l]
  by_cases h : c x
  ·rw [if_pos h, Nat.testBit_or, pow_bit, Bool.or_eq_true, decide_eq_true_eq, List.mem_cons]
   constructor
   ·rintro ((h1 | rfl) | ⟨h1, h2⟩)
    ·exact Or.inl h1
    ·exact Or.inr ⟨Or.inl rfl, h⟩
    ·exact Or.inr ⟨Or.inr h1, h2⟩
   ·rintro (h1 | ⟨rfl | h1, h2⟩)
    ·exact Or.inl (Or.inl h1)
    ·exact Or.inl (Or.inr rfl)
    ·exact Or.inr ⟨h1, h2⟩
  ·rw [if_neg h, List.mem_cons]
   constructor
   ·rintro (h1 | ⟨h1, h2⟩)
    ·exact Or.inl h1
    ·exact Or.inr ⟨Or.inr h1, h2⟩
   ·rintro (h1 | ⟨rfl | h1, h2⟩)
    ·exact Or.inl h1
    ·exact absurd h2 h
    ·exact Or.inr ⟨h1, h2⟩
theorem botN_bit (p : List Int) {s : Nat} (hs : s < 2 ^ 10) (i : Nat) : (botN p s).testBit i = true ↔ s.testBit i = true ∧ L p i &&& s = 0 := by
 unfold botN
 rw [foldl_bot_bit, Nat.zero_testBit, mem_itemsN]
 constructor
 ·rintro (h | ⟨⟨_, h1⟩, h2⟩)
  ·cases h
  ·exact ⟨h1, h2⟩
 ·rintro ⟨h1, h2⟩
  exact Or.inr ⟨⟨lt_of_bit hs h1, h1⟩, h2⟩
theorem and_zero {a b : Nat} : a &&& b = 0 ↔ ∀ i, a.testBit i = true → b.testBit i = false := by
 constructor
 ·intro h i hi
  have : (a &&& b).testBit i = false := by rw [h, Nat.zero_testBit]
  rw [Nat.testBit_and, hi, Bool.true_and] at this
  exact this
 ·intro h
  apply Nat.eq_of_testBit_eq
  intro i
  rw [Nat.testBit_and, Nat.zero_testBit]
  cases hi : a.testBit i with
  | false => rfl
  | true => rw [h i hi]; rfl
theorem topN_lt {p : List Int} {s n : Nat} (hs : s < n) : topN p s < n := foldl_ndiff_lt _ _ _ _ hs
theorem lt10 {p : List Int} (hp : PO p) {s : Nat} (hs : s < 2 ^ p.length) : s < 2 ^ 10 := lt_pow hs hp.small
theorem botN_lt {p : List Int} (hp : PO p) {s : Nat} (hs : s < 2 ^ p.length) : botN p s < 2 ^ p.length := by
 apply Nat.lt_pow_two_of_testBit
 intro i hi
 cases h : (botN p s).testBit i with
 | false => rfl
 | true =>
  have := ((botN_bit p (lt10 hp hs) i).1 h).1
  rw [bit_lt hs hi] at this; cases this
theorem L_tr {p : List Int} (hp : PO p) {i j k : Nat} (hi : i < p.length) (hj : (L p i).testBit j = true) (hk : (L p j).testBit k = true) : (L p i).testBit k = true :=
 ndiff_zero.1 (hp.tr i j hi hj) k hk
theorem above {p : List Int} (hp : PO p) {s : Nat} (hs : s < 2 ^ p.length) : ∀ (d i : Nat), p.length ≤ i + d → s.testBit i = true → ∃ e, (topN p s).testBit e = true ∧ (e = i ∨ (L p e).testBit i = true)
 | 0, i, hd, hi => absurd (lt_of_bit hs hi) (by omega)
 | d + 1, i, hd, hi => by
  by_cases h : ∃ e, s.testBit e = true ∧ (L p e).testBit i = true
  ·obtain ⟨e, he, hl⟩ := h
   have hen := lt_of_bit hs he
   have hie : i < e := lt_of_bit (hp.lt e hen) hl
   obtain ⟨x, hx, h2⟩ := above hp hs d e (by omega) he
   refine ⟨x, hx, Or.inr ?_⟩
   rcases h2 with rfl | h2
   ·exact hl
   ·exact L_tr hp (lt_of_bit hs ((topN_bit p (lt10 hp hs) x).1 hx).1) h2 hl
  ·refine ⟨i, (topN_bit p (lt10 hp hs) i).2 ⟨hi, fun e he => ?_⟩, Or.inl rfl⟩
   cases hb : (L p e).testBit i with
   | false => rfl
   | true => exact absurd ⟨e, he, hb⟩ h
theorem beneath {p : List Int} (hp : PO p) {s : Nat} (hs : s < 2 ^ p.length) : ∀ (d i : Nat), i < d → s.testBit i = true → ∃ e, (botN p s).testBit e = true
 | 0, i, hd, _ => absurd hd (Nat.not_lt_zero _)
 | d + 1, i, hd, hi => by
  by_cases h : L p i &&& s = 0
  ·exact ⟨i, (botN_bit p (lt10 hp hs) i).2 ⟨hi, h⟩⟩
  ·obtain ⟨j, hj, hjs⟩ : ∃ j, (L p i).testBit j = true ∧ s.testBit j = true := by
    rcases Classical.em (∃ j, (L p i).testBit j = true ∧ s.testBit j = true) with g | g
    ·exact g
    ·exfalso
     refine h (and_zero.2 fun j hj => ?_)
     cases hb : s.testBit j with
     | false => rfl
     | true => exact absurd ⟨j, hj, hb⟩ g
   have : j < i := lt_of_bit (hp.lt i (lt_of_bit hs hi)) hj
   exact beneath hp hs d j (by omega) hjs
theorem nonzero {s : Nat} (h : s ≠ 0) : ∃ i, s.testBit i = true := by
 rcases Classical.em (∃ i, s.testBit i = true) with g | g
 ·exact g
 ·exfalso
  refine h (Nat.eq_of_testBit_eq fun i => ?_)
  rw [Nat.zero_testBit]
  cases hb : s.testBit i with
  | false => rfl
  | true => exact absurd ⟨i, hb⟩ g
theorem zero_of {s i : Nat} (h : s.testBit i = true) : s ≠ 0 := fun e => by rw [e, Nat.zero_testBit] at h; cases h
theorem top_nonzero {p : List Int} (hp : PO p) {s : Nat} (hs : s < 2 ^ p.length) (h : s ≠ 0) : topN p s ≠ 0 := by
 obtain ⟨i, hi⟩ := nonzero h
 obtain ⟨e, he, _⟩ := above hp hs p.length i (by omega) hi
 exact zero_of he
theorem bot_nonzero {p : List Int} (hp : PO p) {s : Nat} (hs : s < 2 ^ p.length) (h : s ≠ 0) : botN p s ≠ 0 := by
 obtain ⟨i, hi⟩ := nonzero h
 obtain ⟨e, he⟩ := beneath hp hs (i + 1) i (by omega) hi
 exact zero_of he
theorem close_top {p : List Int} (hp : PO p) {s : Nat} (hs : s < 2 ^ p.length) (hi : idealB p s = true) : closeN p (topN p s) = s := by
 rw [idealB_iff] at hi
 have h10 := lt10 hp hs
 have ht : topN p s < 2 ^ 10 := topN_lt h10
 apply Nat.eq_of_testBit_eq
 intro i
 rw [Bool.eq_iff_iff, closeN_bit' p ht]
 constructor
 ·rintro (h | ⟨e, he, h⟩)
  ·exact ((topN_bit p h10 i).1 h).1
  ·have := ((topN_bit p h10 e).1 he).1
   exact hi e (lt_of_bit hs this) this i h
 ·intro h
  obtain ⟨e, he, h2⟩ := above hp hs p.length i (by omega) h
  rcases h2 with rfl | h2
  ·exact Or.inl he
  ·exact Or.inr ⟨e, he, h2⟩
theorem close_ideal {p : List Int} (hp : PO p) {s : Nat} (hs : s < 2 ^ p.length) : idealB p (closeN p s) = true := by
 rw [idealB_iff]
 intro i hi h j hj
 rw [closeN_bit' p (lt10 hp hs)] at h ⊢
 rcases h with h | ⟨e, he, h⟩
 ·exact Or.inr ⟨i, h, hj⟩
 ·exact Or.inr ⟨e, he, L_tr hp (lt_of_bit hs he) h hj⟩
theorem close_close {p : List Int} (hp : PO p) {s : Nat} (hs : s < 2 ^ p.length) : closeN p (closeN p s) = closeN p s :=
 eq_of_beq (by rw [closeN_eq hp (closeN_lt hp hs)]; exact close_ideal hp hs)
theorem top_close {p : List Int} (hp : PO p) {s : Nat} (hs : s < 2 ^ p.length) (ha : topN p s = s) : topN p (closeN p s) = s := by
 have h10 := lt10 hp hs
 have hc := lt10 hp (closeN_lt hp hs)
 have anti : ∀ i, s.testBit i = true → ∀ e, s.testBit e = true → (L p e).testBit i = false := fun i hi => by
  rw [← ha] at hi
  exact ((topN_bit p h10 i).1 hi).2
 apply Nat.eq_of_testBit_eq
 intro i
 rw [Bool.eq_iff_iff, topN_bit p hc, closeN_bit' p h10]
 constructor
 ·rintro ⟨h | ⟨e, he, h⟩, h2⟩
  ·exact h
  ·have := h2 e ((closeN_bit' p h10 e).2 (Or.inl he))
   rw [h] at this; cases this
 ·intro h
  refine ⟨Or.inl h, fun e he => ?_⟩
  rcases (closeN_bit' p h10 e).1 he with g | ⟨x, hx, g⟩
  ·exact anti i h e g
  ·cases hb : (L p e).testBit i with
   | false => rfl
   | true =>
    have := anti i h x hx
    rw [L_tr hp (lt_of_bit hs hx) g hb] at this; cases this
theorem top_top {p : List Int} (hp : PO p) {s : Nat} (hs : s < 2 ^ p.length) : topN p (topN p s) = topN p s := by
 have h10 := lt10 hp hs
 apply Nat.eq_of_testBit_eq
 intro i
 rw [Bool.eq_iff_iff, topN_bit p (topN_lt h10)]
 constructor
 ·rintro ⟨h, _⟩; exact h
 ·intro h
  exact ⟨h, fun e he => ((topN_bit p h10 i).1 h).2 e ((topN_bit p h10 e).1 he).1⟩
theorem top_bot {p : List Int} (hp : PO p) {s : Nat} (hs : s < 2 ^ p.length) : topN p (botN p s) = botN p s := by
 have h10 := lt10 hp hs
 apply Nat.eq_of_testBit_eq
 intro i
 rw [Bool.eq_iff_iff, topN_bit p (lt10 hp (botN_lt hp hs))]
 constructor
 ·rintro ⟨h, _⟩; exact h
 ·intro h
  refine ⟨h, fun e he => ?_⟩
  cases hb : (L p e).testBit i with
  | false => rfl
  | true =>
   have h1 := ((botN_bit p h10 e).1 he).2
   have h2 := ((botN_bit p h10 i).1 h).1
   have := and_zero.1 h1 i hb
   rw [h2] at this; cases this
theorem union_ideal {p : List Int} {s t : Nat} (hs : idealB p s = true) (ht : idealB p t = true) : idealB p (s ||| t) = true := by
 rw [idealB_iff] at *
 intro i hi h j hj
 rw [Nat.testBit_or, Bool.or_eq_true] at *
 rcases h with h | h
 ·exact Or.inl (hs i hi h j hj)
 ·exact Or.inr (ht i hi h j hj)
theorem meet_ideal {p : List Int} {s t : Nat} (hs : idealB p s = true) (ht : idealB p t = true) : idealB p (s &&& t) = true := by
 rw [idealB_iff] at *
 intro i hi h j hj
 rw [Nat.testBit_and, Bool.and_eq_true] at *
 exact ⟨hs i hi h.1 j hj, ht i hi h.2 j hj⟩
def antisN (p : List Int) : List Nat := (List.range (2 ^ p.length)).filter fun s => topN p s == s
theorem mem_antisN {p : List Int} {s : Nat} : s ∈ antisN p ↔ s < 2 ^ p.length ∧ topN p s = s := by
 unfold antisN; rw [List.mem_filter, List.mem_range, beq_iff_eq]
theorem antis_len {p : List Int} (hp : PO p) : (antisN p).length = (idealsN p).length := by
 have hnd : ((idealsN p).map (topN p)).Nodup := by
  have : ∀ l : List Nat, l.Nodup → (∀ s ∈ l, s ∈ idealsN p) → (l.map (topN p)).Nodup := by
   intro l
   induction l with
   | nil => intro _ _; exact List.nodup_nil
   | cons x l ih =>
    intro h hm
    obtain ⟨h1, h2⟩ := List.nodup_cons.1 h
    rw [List.map_cons, List.nodup_cons]
    refine ⟨fun hx => ?_, ih h2 fun s hs => hm s (List.mem_cons_of_mem _ hs)⟩
    obtain ⟨y, hy, e⟩ := List.mem_map.1 hx
    have a := mem_idealsN.1 (hm y (List.mem_cons_of_mem _ hy))
    have b := mem_idealsN.1 (hm x List.mem_cons_self)
    have c := close_top hp a.1 a.2
    rw [e, close_top hp b.1 b.2] at c
    exact h1 (c ▸ hy)
  exact this _ (idealsN_nodup p) fun s hs => hs
 have hp2 : (antisN p).Perm ((idealsN p).map (topN p)) := by
  refine (List.perm_ext_iff_of_nodup (List.Pairwise.filter _ List.nodup_range) hnd).2 fun s => ?_
  show s ∈ antisN p ↔ _
  rw [mem_antisN, List.mem_map]
  constructor
  ·rintro ⟨h1, h2⟩
   exact ⟨closeN p s, mem_idealsN.2 ⟨closeN_lt hp h1, close_ideal hp h1⟩, top_close hp h1 h2⟩
  ·rintro ⟨t, ht, rfl⟩
   have := mem_idealsN.1 ht
   exact ⟨topN_lt this.1, top_top hp this.1⟩
 rw [hp2.length_eq, List.length_map]
theorem ideals_sorted (p : List Int) : (idealsN p).Pairwise (· < ·) := by
 unfold idealsN
 exact List.Pairwise.filter _ List.pairwise_lt_range
theorem ideals_first {p : List Int} : (idealsN p).getD 0 0 = 0 := by
 unfold idealsN
 obtain ⟨n, hn⟩ : ∃ n, 2 ^ p.length = n + 1 := ⟨2 ^ p.length - 1, by have := Nat.two_pow_pos p.length; omega⟩
 rw [hn, List.range_succ_eq_map, List.filter_cons, if_pos (idealB_zero' p)]; rfl
theorem ideals_last {p : List Int} (hp : PO p) : (idealsN p).getD ((idealsN p).length - 1) 0 = allN p := by
 have e : idealsN p = ((List.range (2 ^ p.length - 1)).filter (idealB p)) ++ [allN p] := by
  unfold idealsN
  obtain ⟨n, hn⟩ : ∃ n, 2 ^ p.length = n + 1 := ⟨2 ^ p.length - 1, by have := Nat.two_pow_pos p.length; omega⟩
  have ha : allN p = n := by unfold allN; omega
  have hi := idealB_all p hp
  rw [hn, List.range_succ, List.filter_append, Nat.add_sub_cancel, ← ha, List.filter_cons, if_pos hi]; rfl
 rw [e, List.length_append, List.length_singleton, Nat.add_sub_cancel, List.getD_eq_getElem?_getD, List.getElem?_append_right (Nat.le_refl _), Nat.sub_self]; rfl
end Go.Proofs.Ytonfifhoklaliaa.Q
end

section
namespace Go.Proofs.Ytonfifhoklaliaa.Q
open Go.RowKit Go.Proofs.YtonfifhoklaliaaW.PrintWords Go.Proofs.Ytonfifhoklaliaa.F
set_option linter.unusedVariables false
theorem items_cut {m i : Nat} (h : m < 2 ^ i) (hi : i ≤ 10) : itemsN m = (List.range i).filter m.testBit := by
 unfold itemsN
 obtain ⟨d, hd⟩ : ∃ d, 10 = i + d := ⟨10 - i, by omega⟩
 rw [hd, List.range_add, List.filter_append]
 have : ((List.range d).map (i + ·)).filter m.testBit = [] := by
  rw [List.filter_eq_nil_iff]
  intro x hx
  obtain ⟨y, _, rfl⟩ := List.mem_map.1 hx
  rw [bit_lt h (Nat.le_add_right _ _)]; simp
 rw [this, List.append_nil]
theorem fold_items {p : List Int} (hp : PO p) {s : Nat} (hs : s < 2 ^ p.length) (f : Nat → Nat → Nat) (a : Nat) : (List.range' 0 (p.length - 0)).foldl (fun a e => if s.testBit e = true then f a e else a) a = (itemsN s).foldl f a := by
 rw [items_cut hs hp.small, Nat.sub_zero, ← List.range_eq_range', List.foldl_filter]
theorem poTop_ev {p : List Int} (hp : PO p) {s : Nat} (hs : s < 2 ^ p.length) : Ev (fun k => spec_poTop.f k p (s : Int)) ((topN p s : Nat) : Int) := by
 have hn := hp.small
 have key : ∀ i, i ≤ p.length → ∀ a : Nat, a < 2 ^ p.length → Ev (fun k => spec_poTop.l0 k (s : Int) (a : Int) p (p.length : Int) (i : Int)) (((List.range' i (p.length - i)).foldl (fun a e => if s.testBit e = true then ndiff a (L p e) else a) a : Nat) : Int) := by
  refine downTo _ ?_ ?_
  ·intro a ha
   rw [Nat.sub_self]
   exact Ev.step (by intro k; simp only [spec_poTop.l0]; rfl) (Ev.no (by omega) (Ev.now _))
  ·intro i hi ih a ha
   rw [show p.length - i = (p.length - (i + 1)) + 1 by omega, List.range'_succ, List.foldl_cons]
   refine Ev.step (by intro k; simp only [spec_poTop.l0]; rfl) (Ev.yes (by omega) (Ev.yes (by omega) (Ev.yes (by omega) ?_)))
   rw [wid1 hi (by omega), rdN, hp.val i hi]
   refine Ev.call (poIn_eq (by omega)) ?_
   cases s.testBit i with
   | false => exact Ev.no (by simp) (ih a ha)
   | true =>
    refine Ev.yes rfl ?_
    rw [bits_andNotN (lt_pow ha (by omega)) (lt_pow (L_lt hp hi) (by omega))]
    exact ih _ (ndiff_lt ha)
 have := key 0 (Nat.zero_le _) s hs
 rw [fold_items hp hs] at this
 exact this
theorem poDown_ev {p : List Int} (hp : PO p) {s : Nat} (hs : s < 2 ^ p.length) : Ev (fun k => spec_poDown.f k p (s : Int)) ((closeN p s : Nat) : Int) := by
 have hn := hp.small
 have key : ∀ i, i ≤ p.length → ∀ a : Nat, a < 2 ^ p.length → Ev (fun k => spec_poDown.l0 k (s : Int) (a : Int) p (p.length : Int) (i : Int)) (((List.range' i (p.length - i)).foldl (fun a e => if s.testBit e = true then a ||| L p e else a) a : Nat) : Int) := by
  refine downTo _ ?_ ?_
  ·intro a ha
   rw [Nat.sub_self]
   exact Ev.step (by intro k; simp only [spec_poDown.l0]; rfl) (Ev.no (by omega) (Ev.now _))
  ·intro i hi ih a ha
   rw [show p.length - i = (p.length - (i + 1)) + 1 by omega, List.range'_succ, List.foldl_cons]
   refine Ev.step (by intro k; simp only [spec_poDown.l0]; rfl) (Ev.yes (by omega) (Ev.yes (by omega) (Ev.yes (by omega) ?_)))
   rw [wid1 hi (by omega), rdN, hp.val i hi]
   refine Ev.call (poIn_eq (by omega)) ?_
   cases s.testBit i with
   | false => exact Ev.no (by simp) (ih a ha)
   | true =>
    refine Ev.yes rfl ?_
    rw [bits_orN (lt_pow ha (by omega)) (lt_pow (L_lt hp hi) (by omega))]
    exact ih _ (or_lt ha (L_lt hp hi))
 have := key 0 (Nat.zero_le _) s hs
 rw [fold_items hp hs] at this
 exact this
theorem poBottom_ev {p : List Int} (hp : PO p) {s : Nat} (hs : s < 2 ^ p.length) : Ev (fun k => spec_poBottom.f k p (s : Int)) ((botN p s : Nat) : Int) := by
 have hn := hp.small
 have key : ∀ i, i ≤ p.length → ∀ a : Nat, a < 2 ^ p.length → Ev (fun k => spec_poBottom.l0 k (s : Int) (a : Int) p (p.length : Int) (i : Int)) (((List.range' i (p.length - i)).foldl (fun a e => if s.testBit e = true then (if L p e &&& s = 0 then a ||| 2 ^ e else a) else a) a : Nat) : Int) := by
  refine downTo _ ?_ ?_
  ·intro a ha
   rw [Nat.sub_self]
   exact Ev.step (by intro k; simp only [spec_poBottom.l0]; rfl) (Ev.no (by omega) (Ev.now _))
  ·intro i hi ih a ha
   rw [show p.length - i = (p.length - (i + 1)) + 1 by omega, List.range'_succ, List.foldl_cons]
   refine Ev.step (by intro k; simp only [spec_poBottom.l0]; rfl) (Ev.yes (by omega) (Ev.yes (by omega) (Ev.yes (by omega) ?_)))
   rw [wid1 hi (by omega), rdN, hp.val i hi]
   refine Ev.call (poIn_eq (by omega)) ?_
   cases s.testBit i with
   | false => exact Ev.no (by simp) (ih a ha)
   | true =>
    refine Ev.yes rfl ?_
    rw [bits_andN (lt_pow (L_lt hp hi) (by omega)) (lt_pow hs (by omega)), shlN (by omega), bits_orN (lt_pow ha (by omega)) (lt_pow (pow_lt_pow hi) (by omega)), if_pos rfl]
    by_cases h : L p i &&& s = 0
    ·rw [if_pos h, h]
     exact Ev.yes rfl (ih _ (or_lt ha (pow_lt_pow hi)))
    ·rw [if_neg h]
     exact Ev.no (by omega) (ih a ha)
 have := key 0 (Nat.zero_le _) 0 (Nat.two_pow_pos _)
 rw [fold_items hp hs] at this
 exact this
theorem bottom_ev {p : List Int} (hp : PO p) {s : Nat} (hs : s < 2 ^ p.length) : Ev (fun k => impl_Poset_bottom.f k p (s : Int)) ((botN p s : Nat) : Int) := by
 have hn := hp.small
 unfold impl_Poset_bottom.f botN
 refine Ev.bind (items_ev s (lt_pow hs (by omega))) ?_
 have hil := itemsN_len s
 rw [ints_len]
 have key : ∀ i, i ≤ (itemsN s).length → ∀ a : Nat, a < 2 ^ p.length → Ev (fun k => impl_Poset_bottom.l0 k (s : Int) (a : Int) (ints (itemsN s)) ((itemsN s).length : Int) (i : Int) p) ((((itemsN s).drop i).foldl (fun a e => if L p e &&& s = 0 then a ||| 2 ^ e else a) a : Nat) : Int) := by
  refine downTo _ ?_ ?_
  ·intro a ha
   rw [List.drop_length]
   exact Ev.step (by intro k; simp only [impl_Poset_bottom.l0]; rfl) (Ev.no (by omega) (Ev.now _))
  ·intro i hi ih a ha
   have he : (itemsN s).getD i 0 < p.length := items_lt hs hi
   refine Ev.step (by intro k; simp only [impl_Poset_bottom.l0]; rfl) (Ev.yes (by omega) (Ev.yes (by omega) (Ev.yes (by rw [ints_len]; omega) ?_)))
   rw [rd_ints, wid1 hi (by omega), rdN, hp.val _ he, foldl_drop_step _ _ 0 a hi]
   refine Ev.yes (by omega) (Ev.yes (by omega) ?_)
   rw [bits_andN (lt_pow (L_lt hp he) (by omega)) (lt_pow hs (by omega)), shlN (by omega), bits_orN (lt_pow ha (by omega)) (lt_pow (pow_lt_pow he) (by omega))]
   by_cases h : L p ((itemsN s).getD i 0) &&& s = 0
   ·rw [if_pos h, h]
    exact Ev.yes rfl (ih _ (or_lt ha (pow_lt_pow he)))
   ·rw [if_neg h]
    exact Ev.no (by omega) (ih a ha)
 exact key 0 (Nat.zero_le _) 0 (Nat.two_pow_pos _)
theorem top_ev {p : List Int} (hp : PO p) {s : Nat} (hs : s < 2 ^ p.length) : Ev (fun k => impl_Poset_top.f k p (s : Int)) ((topN p s : Nat) : Int) := by
 have hn := hp.small
 unfold impl_Poset_top.f
 refine Ev.bind (items_ev s (lt_pow hs (by omega))) ?_
 have hil := itemsN_len s
 have key : ∀ i, i ≤ (itemsN s).length → ∀ a : Nat, a < 2 ^ p.length → Ev (fun k => impl_Poset_top.l0 k (a : Int) (ints (itemsN s)) ((ints (itemsN s)).length : Int) (i : Int) p) ((((itemsN s).drop i).foldl (fun a e => ndiff a (L p e)) a : Nat) : Int) := by
  refine downTo _ ?_ ?_
  ·intro a ha
   rw [List.drop_length]
   exact Ev.step (by intro k; simp only [impl_Poset_top.l0]; rfl) (Ev.no (by rw [ints_len]; omega) (Ev.now _))
  ·intro i hi ih a ha
   have he : (itemsN s).getD i 0 < p.length := items_lt hs hi
   have hrd : rd (ints (itemsN s)) (i : Int) = (((itemsN s).getD i 0 : Nat) : Int) := rd_ints _ _
   refine Ev.step (by intro k; simp only [impl_Poset_top.l0]; rfl) (Ev.yes (by rw [ints_len]; omega) (Ev.yes (by omega) (Ev.yes (by rw [ints_len]; omega) ?_)))
   rw [hrd]
   refine Ev.yes (by omega) (Ev.yes (by omega) ?_)
   rw [rdN, hp.val _ he, bits_andNotN (lt_pow ha (by omega)) (lt_pow (L_lt hp he) (by omega)), wid1 hi (by omega), foldl_drop_step _ _ 0 a hi]
   exact ih _ (ndiff_lt ha)
 exact key 0 (Nat.zero_le _) s hs
end Go.Proofs.Ytonfifhoklaliaa.Q
end
