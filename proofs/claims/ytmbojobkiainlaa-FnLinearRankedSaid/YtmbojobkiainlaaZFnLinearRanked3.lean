/- Part 3 of the texts below the row of FnLinearRanked: printed functions with their contracts, and plain lemmas. No condition. -/
import Derived.Test.YtmbojobkiainlaaZFnLinearRanked2
section
namespace Go.Proofs.Ytmbojobkiainlaa.F
open Go.RowKit Go.Proofs.YtmbojobkiainlaaW.PrintWords Go.Proofs.YtmbojobkiainlaaW.PrintLast Go.Proofs.YtmbojobkiainlaaW.PrintMore
attribute [local go_sem] max2_int min2_int max_two min_two max_three min_three max_four min_four
set_option linter.unusedVariables false
set_option linter.unusedSimpArgs false
mutual
def spec_poGood.l0 : Nat → List Int → Int → Int → List Int → Option (Bool)
 | 0, _, _, _, _ => none
 | k + 1, x14, x15, x16, x298000 => if x16 < x15 then (if 0 ≤ x16 then (if x16 < (x14.length : Int) then ((spec_l1In.f (rd x14 x16) 0 (wrap64 ((shl .i64 1 x16) - 1))).bind fun t300 => (if t300 = true then (spec_poGood.l1 k x16 (rd x14 x16) 0 x14 x15 x16 x298000) else (some false))) else (none)) else (none)) else (some true)
def spec_poGood.l1 : Nat → Int → Int → Int → List Int → Int → Int → List Int → Option (Bool)
 | 0, _, _, _, _, _, _, _ => none
 | k + 1, x4, x5, x6, x14, x15, x16, x298000 => if x6 < x4 then (if 0 ≤ x6 then (if (Int.tmod (shr .i64 x5 x6) 2) = 1 then (if x6 < (x298000.length : Int) then (if (Go.bits .andNot .i64 (rd x298000 x6) x5) = 0 then (spec_poGood.l1 k x4 x5 (wrap64 (x6 + 1)) x14 x15 x16 x298000) else (some false)) else (none)) else (spec_poGood.l1 k x4 x5 (wrap64 (x6 + 1)) x14 x15 x16 x298000)) else (none)) else (spec_poGood.l0 k x14 x15 (wrap64 (x16 + 1)) x298000)
end
def spec_poGood.f (k : Nat) (l0_0 : List Int) : Option (Bool) := (spec_l1In.f (l0_0.length : Int) 1 10).bind fun t298 => (if t298 = true then (spec_poGood.l0 k l0_0 (l0_0.length : Int) 0 l0_0) else (some false))
theorem spec_poGood.mono_l : ∀ k, (∀ y0 y1 y2 y3, LeO (spec_poGood.l0 k y0 y1 y2 y3) (spec_poGood.l0 (k + 1) y0 y1 y2 y3)) ∧ (∀ y0 y1 y2 y3 y4 y5 y6, LeO (spec_poGood.l1 k y0 y1 y2 y3 y4 y5 y6) (spec_poGood.l1 (k + 1) y0 y1 y2 y3 y4 y5 y6))
 | 0 => ⟨fun _ _ _ _ r h => by simp [spec_poGood.l0] at h, fun _ _ _ _ _ _ _ r h => by simp [spec_poGood.l1] at h⟩
 | k + 1 => by
  obtain ⟨ih0, ih1⟩ := spec_poGood.mono_l k
  refine ⟨?_, ?_⟩
  ·intro y0 y1 y2 y3
   unfold spec_poGood.l0
   repeat' first
   | (with_reducible exact LeO.refl _)
   | (with_reducible exact LeO.none _)
   | (with_reducible refine LeO.ite ?_ ?_)
   | (with_reducible refine LeO.bind ?_ (fun _ => ?_))
   | exact ih0 _ _ _ _
   | exact ih1 _ _ _ _ _ _ _
   | exact LeO.none _
   | refine LeO.ite ?_ ?_
   | refine LeO.bind ?_ (fun _ => ?_)
  ·intro y0 y1 y2 y3 y4 y5 y6
   unfold spec_poGood.l1
   repeat' first
   | (with_reducible exact LeO.refl _)
   | (with_reducible exact LeO.none _)
   | (with_reducible refine LeO.ite ?_ ?_)
   | (with_reducible refine LeO.bind ?_ (fun _ => ?_))
   | exact ih0 _ _ _ _
   | exact ih1 _ _ _ _ _ _ _
   | exact LeO.none _
   | refine LeO.ite ?_ ?_
   | refine LeO.bind ?_ (fun _ => ?_)
theorem spec_poGood.mono : ∀ a0 k, LeO (spec_poGood.f k a0) (spec_poGood.f (k + 1) a0) := by
 intro a0 k
 obtain ⟨ih0, ih1⟩ := spec_poGood.mono_l k
 unfold spec_poGood.f
 repeat' first
  | (with_reducible exact LeO.refl _)
  | (with_reducible exact LeO.none _)
  | (with_reducible refine LeO.ite ?_ ?_)
  | (with_reducible refine LeO.bind ?_ (fun _ => ?_))
  | exact ih0 _ _ _ _
  | exact ih1 _ _ _ _ _ _ _
  | exact LeO.none _
  | refine LeO.ite ?_ ?_
  | refine LeO.bind ?_ (fun _ => ?_)
set_option maxHeartbeats 8000000 in
set_option maxRecDepth 100000 in
theorem spec_poGood.calls (k : Nat) (A0_0 : Option Addr) (c0_0 : Nat) (l0_0 : List Int) (r : Bool) (w : World) (hr0_0 : Kd.C (Kd.int .i64) w A0_0 l0_0.length l0_0) (hc0_0 : l0_0.length ≤ c0_0) (h : spec_poGood.f k l0_0 = some r) :
 Calls Try.prog 82 #[.agg #[.slice A0_0 l0_0.length c0_0]] w fun e w' => e = .returned (.bool r) ∧ Below w.heap.size w w' := by
 have hu26 := Try.underlying26
 have HR0_0 := am hr0_0
 have HC0_0 := am hc0_0
 clear hr0_0 hc0_0
 have HB := am (Below.refl w.heap.size w)
 have H : ((spec_l1In.f (l0_0.length : Int) 1 10).bind fun t298 => (if t298 = true then (spec_poGood.l0 k l0_0 (l0_0.length : Int) 0 l0_0) else (some false))) = some r := h
 clear h
 replace H := Option.bind_eq_some_iff.mp H
 obtain ⟨t298, A20, H⟩ := H
 replace H : (if t298 = true then (spec_poGood.l0 k l0_0 (l0_0.length : Int) 0 l0_0) else (some false)) = some r := H
 have A2 := am A20
 clear A20
 by_cases c3 : t298 = true
 ·subst c3
  have H1 : (spec_poGood.l0 k l0_0 (l0_0.length : Int) 0 l0_0) = some r := by rw [if_pos rfl] at H; exact H
  clear H
  have H := H1
  clear H1
  have H' := am H
  clear H
  go_enter Try.func82, Try.ntmps82
  go_wp2_with (first | ((with_reducible refine gate_dst (N := 1) rfl ?_); refine qx (N := 1) (cs := #[.slice A0_0 l0_0.length c0_0]) (t := 26) ?_; intro gb297 hg w4 hbox hb; have n0_ := am (below_step qB hb); have BK297 := am (hbox); have GW297 := am (qg w hg); have GE297 := am (qg w hg); clear HB; have HB := n0_; clear n0_; clear hb hbox hg; have hcz5_0 := qz w4 BK297.out; have hfz5_0 := blk_frozen BK297.out 0) | ((with_reducible refine gate_callee (f := 75) rfl ?_); refine gL (some 11) Try.func75 #[.int .i64 (l0_0.length : Int), .int .i64 1, .int .i64 10] ?_; (with_reducible refine (spec_l1In.calls (l0_0.length : Int) 1 10 true _ A2.out).mono ?_); rintro e w' ⟨rfl, ⟨nd, rfl⟩⟩; refine ⟨_, rfl, ?_⟩))
  go_loopg [16] k (fun kq v16 w' => ∃ (x16_1 : Int), v16 = .int .i64 x16_1 ∧ Aside0 (spec_poGood.l0 kq l0_0 (l0_0.length : Int) x16_1 l0_0 = some r) ∧ Aside0 (kq ≤ k) ∧ Aside0 (w'.heap[gb297]? = some (.cells #[(.slice A0_0 l0_0.length c0_0)] 26 (0, 0))) ∧ Aside0 (Below w.heap.size w w'))
  case atStart => exact ⟨(0), qe, H', ⟨Nat.le_refl _⟩, ⟨qb BK297.out⟩, ⟨qB⟩⟩
  case round =>
   clear H'
   try clear p2
   try clear c3
   try clear hcz5_0
   try clear hfz5_0
   obtain ⟨x16_1, rfl, HA, HK1, BK297, HB⟩ := hrel
   cases gk with
   | zero => exact absurd HA.out (by simp [spec_poGood.l0])
   | succ k1 =>
    have H := HA.out
    clear HA
    simp only [spec_poGood.l0] at H
    by_cases c6 : x16_1 < (l0_0.length : Int)
    ·rw [if_pos c6] at H
     have c6b0 := decide_eq_true c6
     clear c6
     by_cases c7 : 0 ≤ x16_1
     rotate_left
     ·rw [if_neg c7] at H
      exact absurd H (by simp)
     rw [if_pos c7] at H
     have c7b0 := decide_eq_true c7
     clear c7
     by_cases c8 : x16_1 < (l0_0.length : Int)
     rotate_left
     ·rw [if_neg c8] at H
      exact absurd H (by simp)
     rw [if_pos c8] at H
     have c8b0 := decide_eq_true c8
     clear c8
     have c9b0 := eq_true (qd : 0 ≤ x16_1)
     obtain ⟨ji10, hji10⟩ : ∃ j_ : Int, (shl .i64 1 x16_1) = j_ := ⟨_, rfl⟩
     replace H : ((spec_l1In.f (rd l0_0 x16_1) 0 (wrap64 ((ji10) - 1))).bind fun t300 => (if t300 = true then (spec_poGood.l1 k1 x16_1 (rd l0_0 x16_1) 0 l0_0 (l0_0.length : Int) x16_1 l0_0) else (some false))) = some r := by first | (rw [hji10] at H; exact H) | (simp only [hji10] at H ⊢; exact H)
     have hji10_ : (IntKind.i64.wrap (1 * 2 ^ min x16_1.toNat 64)) = ji10 := hji10
     have hji10z : x16_1 ≤ 64 → (IntKind.i64.wrap (1 * 2 ^ x16_1.toNat)) = ji10 := shl_small hji10
     have hji10u : (IntKind.i64.wrap (2 ^ min x16_1.toNat 64)) = ji10 := by have h_ := hji10_; rw [Int.one_mul] at h_; exact h_
     have hji10v : x16_1 ≤ 64 → (IntKind.i64.wrap (2 ^ x16_1.toNat)) = ji10 := fun hle_ => by have h_ := hji10z hle_; rw [Int.one_mul] at h_; exact h_
     have hji10y : (wrap64 (1 * 2 ^ min x16_1.toNat 64)) = ji10 := (i64_w _).symm.trans hji10_
     have hji10x : x16_1 ≤ 64 → (wrap64 (1 * 2 ^ x16_1.toNat)) = ji10 := fun h_ => (i64_w _).symm.trans (hji10z h_)
     replace H := Option.bind_eq_some_iff.mp H
     obtain ⟨t300, A110, H⟩ := H
     replace H : (if t300 = true then (spec_poGood.l1 k1 x16_1 (rd l0_0 x16_1) 0 l0_0 (l0_0.length : Int) x16_1 l0_0) else (some false)) = some r := H
     have A11 := am A110
     clear A110
     by_cases c12 : t300 = true
     ·subst c12
      have H1 : (spec_poGood.l1 k1 x16_1 (rd l0_0 x16_1) 0 l0_0 (l0_0.length : Int) x16_1 l0_0) = some r := by rw [if_pos rfl] at H; exact H
      clear H
      have H := H1
      clear H1
      have H' := am H
      clear H
      have p299 : 0 ≤ (x16_1 : Int) := qd
      have q299 : x16_1 < (l0_0.length : Int) := qd
      obtain ⟨ad299, e299, hx299_0⟩ := Kd.at_int HR0_0.out x16_1 p299 q299
      cases e299
      replace hx299_0 := (HB.out.cell (World.block_lt_of_cell? w _ hx299_0)).trans hx299_0
      replace p299 := eq_true p299
      replace q299 := eq_true q299
      go_wp2_with (first | ((with_reducible refine gate_callee (f := 75) rfl ?_); refine goesL_ (some 25) rfl rfl Try.func75 (by kernel_rfl) rfl #[.int .i64 (rd l0_0 x16_1), .int .i64 0, .int .i64 (wrap64 ((ji10) - 1))] rfl (by (try simp only [List.map_toArray, List.map_cons, List.map_nil]); first | done | (simp only [hji10]; rfl) | rfl | (simp only [List.length_drop, List.length_take]; rfl)) ?_; (with_reducible refine (spec_l1In.calls (rd l0_0 x16_1) 0 (wrap64 ((ji10) - 1)) true _ A11.out).mono ?_); rintro e w' ⟨rfl, ⟨nd, rfl⟩⟩; refine ⟨_, rfl, ?_⟩))
      go_loopg [6] k1 (fun kq v6 w' => ∃ (x6_2 : Int), v6 = .int .i64 x6_2 ∧ Aside0 (spec_poGood.l1 kq x16_1 (rd l0_0 x16_1) x6_2 l0_0 (l0_0.length : Int) x16_1 l0_0 = some r) ∧ Aside0 (kq ≤ k1) ∧ Aside0 (w'.heap[gb297]? = some (.cells #[(.slice (some ad299) l0_0.length c0_0)] 26 (0, 0))) ∧ Aside0 (Below w.heap.size w w'))
      case atStart => exact ⟨(0), qe, H', ⟨Nat.le_refl _⟩, ⟨qb BK297.out⟩, ⟨qB⟩⟩
      case round =>
       clear H'
       try clear c1
       try clear p2
       try clear q2
       try clear hx2
       try clear c3
       try clear c6
       try clear c6b0
       try clear p6
       try clear c7
       try clear c7b0
       try clear c8
       try clear c8b0
       try clear c9
       try clear c9b0
       try clear c12
       try clear hcz5_0
       try clear hfz5_0
       try clear hx299_0
       try clear p2
       try clear p299
       try clear q299
       obtain ⟨x6_2, rfl, HA, HK2, BK297, HB⟩ := hrel
       cases gk with
       | zero => exact absurd HA.out (by simp [spec_poGood.l1])
       | succ k2 =>
        have H := HA.out
        clear HA
        simp only [spec_poGood.l1] at H
        by_cases c13 : x6_2 < x16_1
        ·rw [if_pos c13] at H
         have c13b0 := decide_eq_true c13
         clear c13
         by_cases c14 : 0 ≤ x6_2
         rotate_left
         ·rw [if_neg c14] at H
          exact absurd H (by simp)
         rw [if_pos c14] at H
         have c14b0 := eq_true c14
         have c14b1 := decide_eq_true c14
         clear c14
         obtain ⟨ji15, hji15⟩ : ∃ j_ : Int, (shr .i64 (rd l0_0 x16_1) x6_2) = j_ := ⟨_, rfl⟩
         replace H : (if (Int.tmod (ji15) 2) = 1 then (if x6_2 < (l0_0.length : Int) then (if (Go.bits .andNot .i64 (rd l0_0 x6_2) (rd l0_0 x16_1)) = 0 then (spec_poGood.l1 k2 x16_1 (rd l0_0 x16_1) (wrap64 (x6_2 + 1)) l0_0 (l0_0.length : Int) x16_1 l0_0) else (some false)) else (none)) else (spec_poGood.l1 k2 x16_1 (rd l0_0 x16_1) (wrap64 (x6_2 + 1)) l0_0 (l0_0.length : Int) x16_1 l0_0)) = some r := by first | (rw [hji15] at H; exact H) | (simp only [hji15] at H ⊢; exact H)
         have hji15_ : ((rd l0_0 x16_1) / 2 ^ min x6_2.toNat 64) = ji15 := hji15
         have hji15z : x6_2 ≤ 64 → ((rd l0_0 x16_1) / 2 ^ x6_2.toNat) = ji15 := shr_small hji15
         by_cases c16 : (Int.tmod (ji15) 2) = 1
         ·rw [if_pos c16] at H
          have c16b0 : ((Int.tmod (ji15) 2) == 1) = true := beq_iff_eq.mpr c16
          have c16b1 : ((Int.tmod (ji15) 2) != 1) = false := bne_eq_false_iff_eq.mpr c16
          clear c16
          by_cases c17 : x6_2 < (l0_0.length : Int)
          rotate_left
          ·rw [if_neg c17] at H
           exact absurd H (by simp)
          rw [if_pos c17] at H
          have c17b0 := decide_eq_true c17
          clear c17
          by_cases c18 : (Go.bits .andNot .i64 (rd l0_0 x6_2) (rd l0_0 x16_1)) = 0
          ·rw [if_pos c18] at H
           have c18b0 : ((Go.bits .andNot .i64 (rd l0_0 x6_2) (rd l0_0 x16_1)) == 0) = true := beq_iff_eq.mpr c18
           have c18b1 : ((Go.bits .andNot .i64 (rd l0_0 x6_2) (rd l0_0 x16_1)) != 0) = false := bne_eq_false_iff_eq.mpr c18
           clear c18
           have H' := am H
           clear H
           have hcz19_0 := qz wr BK297.out
           have hfz19_0 := blk_frozen BK297.out 0
           have p301 : 0 ≤ (x6_2 : Int) := qd
           have q301 : x6_2 < (l0_0.length : Int) := qd
           obtain ⟨ad301, e301, hx301_0⟩ := Kd.at_int HR0_0.out x6_2 p301 q301
           obtain rfl : ad299 = ad301 := (by injection e301)
           replace hx301_0 := (HB.out.cell (World.block_lt_of_cell? w _ hx301_0)).trans hx301_0
           replace p301 := eq_true p301
           replace q301 := eq_true q301
           go_wp2
           go_roundg k2
           case measure => have := HK1.out; have := HK2.out; omega
           case rel => exact ⟨(wrap64 (x6_2 + 1)), qe, H', ⟨by have := HK1.out; have := HK2.out; omega⟩, ⟨qb BK297.out⟩, ⟨qB⟩⟩
          ·rw [if_neg c18] at H
           have c18b0 : ((Go.bits .andNot .i64 (rd l0_0 x6_2) (rd l0_0 x16_1)) == 0) = false := beq_eq_false_iff_ne.mpr c18
           have c18b1 : ((Go.bits .andNot .i64 (rd l0_0 x6_2) (rd l0_0 x16_1)) != 0) = true := bne_iff_ne.mpr c18
           obtain rfl := Option.some.inj H
           have hcz20_0 := qz wr BK297.out
           have hfz20_0 := blk_frozen BK297.out 0
           have p301 : 0 ≤ (x6_2 : Int) := qd
           have q301 : x6_2 < (l0_0.length : Int) := qd
           obtain ⟨ad301, e301, hx301_0⟩ := Kd.at_int HR0_0.out x6_2 p301 q301
           obtain rfl : ad299 = ad301 := (by injection e301)
           replace hx301_0 := (HB.out.cell (World.block_lt_of_cell? w _ hx301_0)).trans hx301_0
           replace p301 := eq_true p301
           replace q301 := eq_true q301
           go_wp2
           go_ret
           exact ⟨by first | rfl | (simp [errW_none, errW_some] <;> rfl) | (simp only [← hji10, ← hji15]; first | rfl | (simp [errW_none, errW_some] <;> rfl)) | (simp [*, errW_none, errW_some] <;> rfl), qB⟩
         ·rw [if_neg c16] at H
          have c16b0 : ((Int.tmod (ji15) 2) == 1) = false := beq_eq_false_iff_ne.mpr c16
          have c16b1 : ((Int.tmod (ji15) 2) != 1) = true := bne_iff_ne.mpr c16
          have H' := am H
          clear H
          go_wp2
          go_roundg k2
          case measure => have := HK1.out; have := HK2.out; omega
          case rel => exact ⟨(wrap64 (x6_2 + 1)), qe, H', ⟨by have := HK1.out; have := HK2.out; omega⟩, ⟨qb BK297.out⟩, ⟨qB⟩⟩
        ·rw [if_neg c13] at H
         have c13b0 := decide_eq_false c13
         clear c13
         have H' := am H
         clear H
         go_wp2
         go_roundg k2
         case measure => have := HK1.out; have := HK2.out; omega
         case rel => exact ⟨(wrap64 (x16_1 + 1)), qe, H', ⟨by have := HK1.out; have := HK2.out; omega⟩, ⟨qb BK297.out⟩, ⟨qB⟩⟩
     ·replace c12 := Bool.eq_false_iff.mpr c12
      subst c12
      have H1 : (some false) = some r := by rw [if_neg (show ¬ (false = true) by decide)] at H; exact H
      clear H
      have H := H1
      clear H1
      obtain rfl := Option.some.inj H
      have p299 : 0 ≤ (x16_1 : Int) := qd
      have q299 : x16_1 < (l0_0.length : Int) := qd
      obtain ⟨ad299, e299, hx299_0⟩ := Kd.at_int HR0_0.out x16_1 p299 q299
      cases e299
      replace hx299_0 := (HB.out.cell (World.block_lt_of_cell? w _ hx299_0)).trans hx299_0
      replace p299 := eq_true p299
      replace q299 := eq_true q299
      go_wp2_with (first | ((with_reducible refine gate_callee (f := 75) rfl ?_); refine goesL_ (some 25) rfl rfl Try.func75 (by kernel_rfl) rfl #[.int .i64 (rd l0_0 x16_1), .int .i64 0, .int .i64 (wrap64 ((ji10) - 1))] rfl (by (try simp only [List.map_toArray, List.map_cons, List.map_nil]); first | done | (simp only [hji10]; rfl) | rfl | (simp only [List.length_drop, List.length_take]; rfl)) ?_; (with_reducible refine (spec_l1In.calls (rd l0_0 x16_1) 0 (wrap64 ((ji10) - 1)) false _ A11.out).mono ?_); rintro e w' ⟨rfl, ⟨nd, rfl⟩⟩; refine ⟨_, rfl, ?_⟩))
      go_ret
      exact ⟨by first | rfl | (simp [errW_none, errW_some] <;> rfl) | (simp only [← hji10]; first | rfl | (simp [errW_none, errW_some] <;> rfl)) | (simp [*, errW_none, errW_some] <;> rfl), qB⟩
    ·rw [if_neg c6] at H
     have c6b0 := decide_eq_false c6
     clear c6
     obtain rfl := Option.some.inj H
     go_wp2
     go_ret
     exact ⟨qr, qB⟩
 ·replace c3 := Bool.eq_false_iff.mpr c3
  subst c3
  have H1 : (some false) = some r := by rw [if_neg (show ¬ (false = true) by decide)] at H; exact H
  clear H
  have H := H1
  clear H1
  obtain rfl := Option.some.inj H
  go_enter Try.func82, Try.ntmps82
  go_wp2_with (first | ((with_reducible refine gate_dst (N := 1) rfl ?_); refine qx (N := 1) (cs := #[.slice A0_0 l0_0.length c0_0]) (t := 26) ?_; intro gb297 hg w21 hbox hb; have n0_ := am (below_step qB hb); have BK297 := am (hbox); have GW297 := am (qg w hg); have GE297 := am (qg w hg); clear HB; have HB := n0_; clear n0_; clear hb hbox hg; have hcz22_0 := qz w21 BK297.out; have hfz22_0 := blk_frozen BK297.out 0) | ((with_reducible refine gate_callee (f := 75) rfl ?_); refine gL (some 11) Try.func75 #[.int .i64 (l0_0.length : Int), .int .i64 1, .int .i64 10] ?_; (with_reducible refine (spec_l1In.calls (l0_0.length : Int) 1 10 false _ A2.out).mono ?_); rintro e w' ⟨rfl, ⟨nd, rfl⟩⟩; refine ⟨_, rfl, ?_⟩))
  go_ret
  exact ⟨qr, qB⟩
def spec_poIn.f (a0 : Int) (a1 : Int) : Option (Bool) := if 0 ≤ a1 then (some ((Int.tmod (shr .i64 a0 a1) 2) == 1)) else (none)
set_option maxHeartbeats 8000000 in
set_option maxRecDepth 100000 in
theorem spec_poIn.calls (a0 : Int) (a1 : Int) (r : Bool) (w : World) (h : spec_poIn.f a0 a1 = some r) :
 Calls Try.prog 93 #[.int .i64 a0, .int .i64 a1] w fun e w' => e = .returned (.bool r) ∧ Drawn0 w w' := by
 have H : (if 0 ≤ a1 then (some ((Int.tmod (shr .i64 a0 a1) 2) == 1)) else (none)) = some r := h
 clear h
 by_cases c3 : 0 ≤ a1
 ·rw [if_pos c3] at H
  have c3b0 := eq_true c3
  have c3b1 := decide_eq_true c3
  clear c3
  obtain ⟨ji4, hji4⟩ : ∃ j_ : Int, (shr .i64 a0 a1) = j_ := ⟨_, rfl⟩
  replace H : (some ((Int.tmod (ji4) 2) == 1)) = some r := by first | (rw [hji4] at H; exact H) | (simp only [hji4] at H ⊢; exact H)
  have hji4_ : (a0 / 2 ^ min a1.toNat 64) = ji4 := hji4
  have hji4z : a1 ≤ 64 → (a0 / 2 ^ a1.toNat) = ji4 := shr_small hji4
  obtain rfl := Option.some.inj H
  go_enter Try.func93, Try.ntmps93
  go_wp2
  go_ret
  exact ⟨by first | rfl | (simp; done) | (simp only [← hji4] <;> (first | rfl | simp)) | (simp [*]; done), by repeat (first | exact Drawn0.refl _ | apply Drawn0.step)⟩
 ·rw [if_neg c3] at H
  exact absurd H (by simp)
mutual
def spec_liCounts.l0 : Nat → List Int → Int → List Int → Option (List Int)
 | 0, _, _, _ => none
 | k + 1, x4, x5, x963000 => if x5 ≥ 0 then (spec_liCounts.l1 k x4 x5 x963000 (x963000.length : Int) 0 x963000) else (some x4)
def spec_liCounts.l1 : Nat → List Int → Int → List Int → Int → Int → List Int → Option (List Int)
 | 0, _, _, _, _, _, _ => none
 | k + 1, x4, x5, x27, x28, x29, x963000 => if x29 < x28 then (if 0 ≤ x29 then (if x29 < (x27.length : Int) then ((spec_poIn.f x5 x29).bind fun t968 => (if t968 = true then (spec_liCounts.l1 k x4 x5 x27 x28 (wrap64 (x29 + 1)) x963000) else (if (Go.bits .andNot .i64 (rd x27 x29) x5) = 0 then (if 0 ≤ x5 then (if x5 < (x4.length : Int) then (if 0 ≤ (Go.bits .or .i64 x5 (shl .i64 1 x29)) then (if (Go.bits .or .i64 x5 (shl .i64 1 x29)) < (x4.length : Int) then (spec_liCounts.l1 k (x4.set (x5 : Int).toNat (wrap64 ((rd x4 x5) + (rd x4 (Go.bits .or .i64 x5 (shl .i64 1 x29)))))) x5 x27 x28 (wrap64 (x29 + 1)) x963000) else (none)) else (none)) else (none)) else (none)) else (spec_liCounts.l1 k x4 x5 x27 x28 (wrap64 (x29 + 1)) x963000)))) else (none)) else (none)) else (spec_liCounts.l0 k x4 (wrap64 (x5 - 1)) x963000)
end
def spec_liCounts.f (k : Nat) (l0_0 : List Int) : Option (List Int) := if 0 ≤ (shl .i64 1 (l0_0.length : Int)) then (if (shl .i64 1 (l0_0.length : Int) : Int).toNat ≤ 35184372088832 then ((some (List.replicate (shl .i64 1 (l0_0.length : Int) : Int).toNat 0 : List Int)).bind fun y963 => (if 0 ≤ (wrap64 ((shl .i64 1 (l0_0.length : Int)) - 1)) then (if (wrap64 ((shl .i64 1 (l0_0.length : Int)) - 1)) < (y963.length : Int) then (spec_liCounts.l0 k (y963.set ((wrap64 ((shl .i64 1 (l0_0.length : Int)) - 1)) : Int).toNat 1) (wrap64 ((shl .i64 1 (l0_0.length : Int)) - 2)) l0_0) else (none)) else (none))) else (none)) else (none)
theorem spec_liCounts.mono_l : ∀ k, (∀ y0 y1 y2, LeO (spec_liCounts.l0 k y0 y1 y2) (spec_liCounts.l0 (k + 1) y0 y1 y2)) ∧ (∀ y0 y1 y2 y3 y4 y5, LeO (spec_liCounts.l1 k y0 y1 y2 y3 y4 y5) (spec_liCounts.l1 (k + 1) y0 y1 y2 y3 y4 y5))
 | 0 => ⟨fun _ _ _ r h => by simp [spec_liCounts.l0] at h, fun _ _ _ _ _ _ r h => by simp [spec_liCounts.l1] at h⟩
 | k + 1 => by
  obtain ⟨ih0, ih1⟩ := spec_liCounts.mono_l k
  refine ⟨?_, ?_⟩
  ·intro y0 y1 y2
   unfold spec_liCounts.l0
   repeat' first
   | (with_reducible exact LeO.refl _)
   | (with_reducible exact LeO.none _)
   | (with_reducible refine LeO.ite ?_ ?_)
   | (with_reducible refine LeO.bind ?_ (fun _ => ?_))
   | exact ih0 _ _ _
   | exact ih1 _ _ _ _ _ _
   | exact LeO.none _
   | refine LeO.ite ?_ ?_
   | refine LeO.bind ?_ (fun _ => ?_)
  ·intro y0 y1 y2 y3 y4 y5
   unfold spec_liCounts.l1
   repeat' first
   | (with_reducible exact LeO.refl _)
   | (with_reducible exact LeO.none _)
   | (with_reducible refine LeO.ite ?_ ?_)
   | (with_reducible refine LeO.bind ?_ (fun _ => ?_))
   | exact ih0 _ _ _
   | exact ih1 _ _ _ _ _ _
   | exact LeO.none _
   | refine LeO.ite ?_ ?_
   | refine LeO.bind ?_ (fun _ => ?_)
theorem spec_liCounts.mono : ∀ a0 k, LeO (spec_liCounts.f k a0) (spec_liCounts.f (k + 1) a0) := by
 intro a0 k
 obtain ⟨ih0, ih1⟩ := spec_liCounts.mono_l k
 unfold spec_liCounts.f
 repeat' first
  | (with_reducible exact LeO.refl _)
  | (with_reducible exact LeO.none _)
  | (with_reducible refine LeO.ite ?_ ?_)
  | (with_reducible refine LeO.bind ?_ (fun _ => ?_))
  | exact ih0 _ _ _
  | exact ih1 _ _ _ _ _ _
  | exact LeO.none _
  | refine LeO.ite ?_ ?_
  | refine LeO.bind ?_ (fun _ => ?_)
def spec_liCounts.T11 : Bool × List (List Nat × List Nat) := (true, [([], []), ([], []), ([0, 1], [0, 1]), ([2], [2]), ([], []), ([], []), ([], []), ([6], [6]), ([5, 7], [5, 7]), ([4, 8], [4, 8]), ([9], [9]), ([3, 10], [3, 10]), ([0, 1, 0, 1, 2, 3, 4, 5, 6, 7, 8, 9, 10, 11], [0, 1]), ([12, 11, 0, 1, 2, 3, 4, 5, 6, 7, 8, 9, 10, 11], [11, 12])])
def spec_liCounts.B11 : List Nat := [0, 0, 3, 7, 0, 0, 0, 64, 224, 496, 1008, 2047, 4095, 8191]
theorem spec_liCounts.tab11 : rtab .any (opsOf Try.f111 11) = spec_liCounts.T11 := by kernel_rfl
theorem spec_liCounts.bits11 : waitsOk spec_liCounts.T11.2 spec_liCounts.B11 = true := by kernel_rfl
set_option maxHeartbeats 8000000 in
set_option maxRecDepth 100000 in
theorem spec_liCounts.calls (k : Nat) (A0_0 : Option Addr) (c0_0 : Nat) (l0_0 : List Int) (r : List Int) (w : World) (hr0_0 : Kd.C (Kd.int .i64) w A0_0 l0_0.length l0_0) (hc0_0 : l0_0.length ≤ c0_0) (h : spec_liCounts.f k l0_0 = some r) :
 Calls Try.prog 111 #[.agg #[.slice A0_0 l0_0.length c0_0]] w fun e w' => ∃ v0_ : Value, e = .returned (v0_) ∧ Kd.R (Kd.int .i64) 3 w' w.heap.size (fun _ => True) v0_ r ∧ Below w.heap.size w w' := by
 have hu26 := Try.underlying26
 have HR0_0 := am hr0_0
 have HC0_0 := am hc0_0
 clear hr0_0 hc0_0
 have HB := am (Below.refl w.heap.size w)
 have H : (if 0 ≤ (shl .i64 1 (l0_0.length : Int)) then (if (shl .i64 1 (l0_0.length : Int) : Int).toNat ≤ 35184372088832 then ((some (List.replicate (shl .i64 1 (l0_0.length : Int) : Int).toNat 0 : List Int)).bind fun y963 => (if 0 ≤ (wrap64 ((shl .i64 1 (l0_0.length : Int)) - 1)) then (if (wrap64 ((shl .i64 1 (l0_0.length : Int)) - 1)) < (y963.length : Int) then (spec_liCounts.l0 k (y963.set ((wrap64 ((shl .i64 1 (l0_0.length : Int)) - 1)) : Int).toNat 1) (wrap64 ((shl .i64 1 (l0_0.length : Int)) - 2)) l0_0) else (none)) else (none))) else (none)) else (none)) = some r := h
 clear h
 obtain ⟨ji2, hji2⟩ : ∃ j_ : Int, (shl .i64 1 (l0_0.length : Int)) = j_ := ⟨_, rfl⟩
 replace H : (if 0 ≤ (ji2) then (if (ji2 : Int).toNat ≤ 35184372088832 then ((some (List.replicate (ji2 : Int).toNat 0 : List Int)).bind fun y963 => (if 0 ≤ (wrap64 ((ji2) - 1)) then (if (wrap64 ((ji2) - 1)) < (y963.length : Int) then (spec_liCounts.l0 k (y963.set ((wrap64 ((ji2) - 1)) : Int).toNat 1) (wrap64 ((ji2) - 2)) l0_0) else (none)) else (none))) else (none)) else (none)) = some r := by first | (rw [hji2] at H; exact H) | (simp only [hji2] at H ⊢; exact H)
 have hji2_ : (IntKind.i64.wrap (1 * 2 ^ min (l0_0.length : Int).toNat 64)) = ji2 := hji2
 have hji2z : (l0_0.length : Int) ≤ 64 → (IntKind.i64.wrap (1 * 2 ^ (l0_0.length : Int).toNat)) = ji2 := shl_small hji2
 have hji2p : (IntKind.i64.wrap (1 * 2 ^ min l0_0.length 64)) = ji2 := hji2_
 have hji2q : (l0_0.length : Int) ≤ 64 → (IntKind.i64.wrap (1 * 2 ^ l0_0.length)) = ji2 := hji2z
 have hji2r : (IntKind.i64.wrap (2 ^ min l0_0.length 64)) = ji2 := by have h_ := hji2p; rw [Int.one_mul] at h_; exact h_
 have hji2s : (l0_0.length : Int) ≤ 64 → (IntKind.i64.wrap (2 ^ l0_0.length)) = ji2 := fun hle_ => by have h_ := hji2q hle_; rw [Int.one_mul] at h_; exact h_
 have hji2u : (IntKind.i64.wrap (2 ^ min (l0_0.length : Int).toNat 64)) = ji2 := by have h_ := hji2_; rw [Int.one_mul] at h_; exact h_
 have hji2v : (l0_0.length : Int) ≤ 64 → (IntKind.i64.wrap (2 ^ (l0_0.length : Int).toNat)) = ji2 := fun hle_ => by have h_ := hji2z hle_; rw [Int.one_mul] at h_; exact h_
 have hji2y : (wrap64 (1 * 2 ^ min (l0_0.length : Int).toNat 64)) = ji2 := (i64_w _).symm.trans hji2_
 have hji2x : (l0_0.length : Int) ≤ 64 → (wrap64 (1 * 2 ^ (l0_0.length : Int).toNat)) = ji2 := fun h_ => (i64_w _).symm.trans (hji2z h_)
 by_cases c3 : 0 ≤ (ji2)
 ·rw [if_pos c3] at H
  have c3b0 := eq_true c3
  have c3b1 := decide_eq_true c3
  clear c3
  by_cases c4 : (ji2 : Int).toNat ≤ 35184372088832
  rotate_left
  ·rw [if_neg c4] at H
   exact absurd H (by simp)
  rw [if_pos c4] at H
  have c4b0 := eq_true c4
  have c4b1 := decide_eq_true c4
  clear c4
  obtain ⟨y963, hy963⟩ : ∃ y_ : List Int, y_ = (List.replicate (ji2 : Int).toNat 0) := ⟨_, rfl⟩
  replace H : (if 0 ≤ (wrap64 ((ji2) - 1)) then (if (wrap64 ((ji2) - 1)) < (y963.length : Int) then (spec_liCounts.l0 k (y963.set ((wrap64 ((ji2) - 1)) : Int).toNat 1) (wrap64 ((ji2) - 2)) l0_0) else (none)) else (none)) = some r := by first | (rw [hy963]; with_reducible exact H) | (have H2_ := (Option.bind_some _ _).symm.trans H; rw [hy963]; with_reducible exact H2_) | (have H2_ := (Option.bind_some _ _).symm.trans H; with_reducible exact H2_) | with_reducible exact H | (rw [hy963]; exact H) | exact H
  have Ny963 := am hy963
  clear hy963
  have c5b0 := True.intro
  obtain ⟨ji6, hji6⟩ : ∃ j_ : Int, (wrap64 ((ji2) - 1)) = j_ := ⟨_, rfl⟩
  replace H : (if 0 ≤ (ji6) then (if (ji6) < (y963.length : Int) then (spec_liCounts.l0 k (y963.set ((ji6) : Int).toNat 1) (wrap64 ((ji2) - 2)) l0_0) else (none)) else (none)) = some r := by first | (rw [hji6] at H; exact H) | (simp only [hji6] at H ⊢; exact H)
  have hji6w : (IntKind.i64.wrap ((ji2) - 1)) = ji6 := (i64_w _).trans hji6
  by_cases c7 : 0 ≤ (ji6)
  rotate_left
  ·rw [if_neg c7] at H
   exact absurd H (by simp)
  rw [if_pos c7] at H
  have c7b0 := decide_eq_true c7
  clear c7
  by_cases c8 : (ji6) < (y963.length : Int)
  rotate_left
  ·rw [if_neg c8] at H
   exact absurd H (by simp)
  rw [if_pos c8] at H
  have c8b0 := decide_eq_true c8
  clear c8
  obtain ⟨y966, hy966⟩ : ∃ y_ : List Int, y_ = (y963.set ((ji6) : Int).toNat 1) := ⟨_, rfl⟩
  replace H : (spec_liCounts.l0 k y966 (wrap64 ((ji2) - 2)) l0_0) = some r := by first | (rw [hy966]; with_reducible exact H) | (have H2_ := (Option.bind_some _ _).symm.trans H; rw [hy966]; with_reducible exact H2_) | (have H2_ := (Option.bind_some _ _).symm.trans H; with_reducible exact H2_) | with_reducible exact H | (rw [hy966]; exact H) | exact H
  have Ny966 := am hy966
  clear hy966
  have c10b0 := True.intro
  have H' := am H
  clear H
  go_enter Try.func111, Try.ntmps111
  go_wp2_with (first | ((with_reducible refine gate_dst (N := 1) rfl ?_); refine qx (N := 1) (cs := #[.slice A0_0 l0_0.length c0_0]) (t := 26) ?_; intro gb962 hg w11 hbox hb; have n0_ := am (below_step qB hb); have BK962 := am (hbox); have GW962 := am (qg w hg); have GE962 := am (qg w hg); clear HB; have HB := n0_; clear n0_; clear hb hbox hg; have hcz12_0 := qz w11 BK962.out; have hfz12_0 := blk_frozen BK962.out 0) | ((with_reducible refine gate_dst (N := 13) rfl ?_); refine Kd.R_make (Kd.int .i64) _ 3 rfl (N := 13) rfl 24 _ _ rfl ji2 rfl rfl Try.underlying24 (.int .i64 0) 8 info3 rfl (by decide) (by omega) 0 (ok := fun _ => True) (okp := fun _ => True) rfl (fun _ hk => hk) trivial (qd) (Nat.le_trans (Nat.mul_le_mul_right _ (qd : ji2.toNat ≤ 35184372088832)) (by omega)) (Below.refl _ _) (Nat.le_refl _) ?_; intro v964 w13 ho14 hb hg_ hnew_; clear hg_ hnew_; (first | rw [← Ny963.out] at ho14 | (simp only [Int.reduceToNat] at ho14; rw [← Ny963.out] at ho14)); have HO965 := am (Kd.R_lower ho14 (below_size qB)); replace BK962 := am (blk_below (g := gb962) (o := .cells #[.slice A0_0 l0_0.length c0_0] 26 (0, 0)) (qb BK962.out) hb); replace HB := am (below_step qB hb); clear hb ho14; have p9 : 0 ≤ ((ji6) : Int) := qd; have q9 : ((ji6) : Int) < ((y963.length : Int) : Int) := qd; obtain ⟨go9, co9, eo9, gb9, gl9, cl9, HG9⟩ := Kd.R_form HO965.out (by omega); (first | cases eo9 | (injection eo9 with ea_ en_ ec_; (first | subst ea_ | (injection ea_ with ea_; subst ea_)); subst ec_; clear en_)); have GB9 := am gb9; have GG9 := am HG9; clear gb9 gl9 HG9; obtain ⟨hx9_0, hf9_0⟩ := Kd.R_celln 0 HO965.out ((ji6) : Int) p9 q9; replace p9 := eq_true p9; replace q9 := eq_true q9; obtain ⟨hy15_, hz15_⟩ := Kd.R_celln 0 HO965.out ((ji6) : Int) (qd) (qd); have HP15 := Kd.R_putg HO965.out ((ji6) : Int) 1) | ((with_reducible refine gate_store (t := 3) (p := 18) rfl ?_); refine store_event (t := 3) (p := 18) (v := ?vo_w16) (w1 := (w13.setCell ⟨go9, ((ji6) : Int).toNat, none⟩ (.int .i64 1))) ?hg ?ho ?hn ?hr ?_; (case ho => rfl); (case hg => rfl); (case hn => rfl); (case hr => first | (go_simp; done) | (go_simp; rfl) | (obtain ⟨Av_, cv_, ev_⟩ := Kd.R_slice HO965.out; subst ev_; go_simp; done) | (obtain ⟨Av_, cv_, ev_⟩ := Kd.R_slice HO965.out; subst ev_; go_simp; rfl)); intro w16 hw; have hg : w13.grownBy w16 (some go9) := (by rw [hw]; exact HP15.2); have hp_ : Kd.R (Kd.int .i64) 3 w16 w.heap.size (fun _ => True) (.slice (some ⟨go9, 0, none⟩) y963.length co9) y966 := (by rw [hw, Ny966.out]; exact HP15.1); clear HP15; replace BK962 := am (blk_grown (g := gb962) (o := .cells #[.slice A0_0 l0_0.length c0_0] 26 (0, 0)) (qb BK962.out) hg (Kd.R_ne HO965.out BK962.out (by decide))); replace HO965 := am (hp_); replace HB := am ((by rw [hw]; exact below_set (HB.out) GB9.out : Below w.heap.size w w16)); clear hg hw hp_))
  go_loopg [5] k (fun kq v5 w' => ∃ (x4_1 : List Int) (x5_1 : Int), v5 = .int .i64 x5_1 ∧ Aside0 (spec_liCounts.l0 kq x4_1 x5_1 l0_0 = some r) ∧ Aside0 (kq ≤ k) ∧ Aside0 (Kd.R (Kd.int .i64) 3 w' w.heap.size (fun _ => True) (.slice (some ⟨go9, 0, none⟩) y963.length co9) x4_1) ∧ Aside0 (w'.heap[gb962]? = some (.cells #[(.slice A0_0 l0_0.length c0_0)] 26 (0, 0))) ∧ Aside0 (Below w.heap.size w w'))
  case atStart => exact ⟨(y966), (wrap64 ((ji2) - 2)), (by first | rfl | (simp; done) | (simp only [← hji2] <;> (first | rfl | simp)) | (simp [*]; done)), H', ⟨Nat.le_refl _⟩, ⟨qR HO965.out⟩, ⟨qb BK962.out⟩, ⟨qB⟩⟩
  case round =>
   clear H'
   try clear c1
   try clear p2
   try clear c3
   try clear c3b0
   try clear c3b1
   try clear c4
   try clear c4b0
   try clear c4b1
   try clear c5
   try clear c5b0
   try clear p6
   try clear c7
   try clear c7b0
   try clear c8
   try clear c8b0
   try clear p9
   try clear q9
   try clear hx9
   try clear hf9
   try clear c10
   try clear c10b0
   try clear c11
   try clear hcz12_0
   try clear hfz12_0
   try clear hx9_0
   try clear p9
   try clear q9
   obtain ⟨x4_1, x5_1, rfl, HA, HK1, HO_4, BK962, HB⟩ := hrel
   have hl4_1 := (Kd.R_reads' HO_4.out).1
   rw [hl4_1] at HO_4
   (try simp only [hl4_1])
   (try simp only [hl4_1] at BK962)
   cases gk with
   | zero => exact absurd HA.out (by simp [spec_liCounts.l0])
   | succ k1 =>
    have H := HA.out
    clear HA
    simp only [spec_liCounts.l0] at H
    by_cases c17 : x5_1 ≥ 0
    ·rw [if_pos c17] at H
     have c17b0 : decide (0 ≤ x5_1) = true := decide_eq_true c17
     clear c17
     have H' := am H
     clear H
     have hcz18_0 := qz wr BK962.out
     have hfz18_0 := blk_frozen BK962.out 0
     go_wp2
     go_loopg [29] k1 (fun kq v29 w' => ∃ (x4_2 : List Int) (x29_2 : Int), v29 = .int .i64 x29_2 ∧ Aside0 (spec_liCounts.l1 kq x4_2 x5_1 l0_0 (l0_0.length : Int) x29_2 l0_0 = some r) ∧ Aside0 (kq ≤ k1) ∧ Aside0 (Kd.R (Kd.int .i64) 3 w' w.heap.size (fun _ => True) (.slice (some ⟨go9, 0, none⟩) x4_1.length co9) x4_2) ∧ Aside0 (w'.heap[gb962]? = some (.cells #[(.slice A0_0 l0_0.length c0_0)] 26 (0, 0))) ∧ Aside0 (Below w.heap.size w w'))
     case atStart => exact ⟨(x4_1), (0), qe, H', ⟨Nat.le_refl _⟩, ⟨by (try simp only [hl4_1]); (with_reducible repeat (first | apply Kd.R_alloc | apply Kd.R_drewN | apply Kd.R_drew)); exact HO_4.out⟩, ⟨by (try simp only [hl4_1]); refine qb ?_; exact BK962.out⟩, ⟨qB⟩⟩
     case round =>
      clear H'
      try clear c1
      try clear p2
      try clear c3
      try clear c3b0
      try clear c3b1
      try clear c4
      try clear c4b0
      try clear c4b1
      try clear c5
      try clear c5b0
      try clear p6
      try clear c7
      try clear c7b0
      try clear c8
      try clear c8b0
      try clear p9
      try clear q9
      try clear hx9
      try clear hf9
      try clear c10
      try clear c10b0
      try clear c11
      try clear c17
      try clear c17b0
      try clear hcz12_0
      try clear hcz18_0
      try clear hfz12_0
      try clear hfz18_0
      try clear hx9_0
      try clear p2
      try clear p6
      try clear p9
      try clear q9
      obtain ⟨x4_2, x29_2, rfl, HA, HK2, HO_4, BK962, HB⟩ := hrel
      have hl4_2 := (Kd.R_reads' HO_4.out).1
      rw [hl4_2] at HO_4
      (try simp only [hl4_2])
      (try simp only [hl4_2] at BK962)
      cases gk with
      | zero => exact absurd HA.out (by simp [spec_liCounts.l1])
      | succ k2 =>
       have H := HA.out
       clear HA
       simp only [spec_liCounts.l1] at H
       by_cases c19 : x29_2 < (l0_0.length : Int)
       ·rw [if_pos c19] at H
        have c19b0 := decide_eq_true c19
        clear c19
        by_cases c20 : 0 ≤ x29_2
        rotate_left
        ·rw [if_neg c20] at H
         exact absurd H (by simp)
        rw [if_pos c20] at H
        have c20b0 := decide_eq_true c20
        clear c20
        by_cases c21 : x29_2 < (l0_0.length : Int)
        rotate_left
        ·rw [if_neg c21] at H
         exact absurd H (by simp)
        rw [if_pos c21] at H
        have c21b0 := decide_eq_true c21
        clear c21
        replace H := Option.bind_eq_some_iff.mp H
        obtain ⟨t968, A220, H⟩ := H
        replace H : (if t968 = true then (spec_liCounts.l1 k2 x4_2 x5_1 l0_0 (l0_0.length : Int) (wrap64 (x29_2 + 1)) l0_0) else (if (Go.bits .andNot .i64 (rd l0_0 x29_2) x5_1) = 0 then (if 0 ≤ x5_1 then (if x5_1 < (x4_2.length : Int) then (if 0 ≤ (Go.bits .or .i64 x5_1 (shl .i64 1 x29_2)) then (if (Go.bits .or .i64 x5_1 (shl .i64 1 x29_2)) < (x4_2.length : Int) then (spec_liCounts.l1 k2 (x4_2.set (x5_1 : Int).toNat (wrap64 ((rd x4_2 x5_1) + (rd x4_2 (Go.bits .or .i64 x5_1 (shl .i64 1 x29_2)))))) x5_1 l0_0 (l0_0.length : Int) (wrap64 (x29_2 + 1)) l0_0) else (none)) else (none)) else (none)) else (none)) else (spec_liCounts.l1 k2 x4_2 x5_1 l0_0 (l0_0.length : Int) (wrap64 (x29_2 + 1)) l0_0))) = some r := H
        have A22 := am A220
        clear A220
        by_cases c23 : t968 = true
        ·subst c23
         have H1 : (spec_liCounts.l1 k2 x4_2 x5_1 l0_0 (l0_0.length : Int) (wrap64 (x29_2 + 1)) l0_0) = some r := by rw [if_pos rfl] at H; exact H
         clear H
         have H := H1
         clear H1
         have H' := am H
         clear H
         have p967 : 0 ≤ (x29_2 : Int) := qd
         have q967 : x29_2 < (l0_0.length : Int) := qd
         obtain ⟨ad967, e967, hx967_0⟩ := Kd.at_int HR0_0.out x29_2 p967 q967
         cases e967
         replace hx967_0 := (HB.out.cell (World.block_lt_of_cell? w _ hx967_0)).trans hx967_0
         replace p967 := eq_true p967
         replace q967 := eq_true q967
         go_wp2_with (first | ((with_reducible refine gate_callee (f := 93) rfl ?_); refine gL (some 36) Try.func93 #[.int .i64 x5_1, .int .i64 x29_2] ?_; (with_reducible refine (spec_poIn.calls x5_1 x29_2 true _ A22.out).mono ?_); rintro e w' ⟨rfl, ⟨nd, rfl⟩⟩; refine ⟨_, rfl, ?_⟩))
         (try simp only [← hl4_2])
         go_roundg k2
         case measure => have := HK1.out; have := HK2.out; omega
         case rel => exact ⟨(x4_2), (wrap64 (x29_2 + 1)), qe, H', ⟨by have := HK1.out; have := HK2.out; omega⟩, ⟨by (try simp only [hl4_1]); (try simp only [hl4_2]); (with_reducible repeat (first | apply Kd.R_alloc | apply Kd.R_drewN | apply Kd.R_drew)); exact HO_4.out⟩, ⟨by (try simp only [hl4_1]); (try simp only [hl4_2]); refine qb ?_; exact BK962.out⟩, ⟨qB⟩⟩
        ·replace c23 := Bool.eq_false_iff.mpr c23
         subst c23
         have H1 : (if (Go.bits .andNot .i64 (rd l0_0 x29_2) x5_1) = 0 then (if 0 ≤ x5_1 then (if x5_1 < (x4_2.length : Int) then (if 0 ≤ (Go.bits .or .i64 x5_1 (shl .i64 1 x29_2)) then (if (Go.bits .or .i64 x5_1 (shl .i64 1 x29_2)) < (x4_2.length : Int) then (spec_liCounts.l1 k2 (x4_2.set (x5_1 : Int).toNat (wrap64 ((rd x4_2 x5_1) + (rd x4_2 (Go.bits .or .i64 x5_1 (shl .i64 1 x29_2)))))) x5_1 l0_0 (l0_0.length : Int) (wrap64 (x29_2 + 1)) l0_0) else (none)) else (none)) else (none)) else (none)) else (spec_liCounts.l1 k2 x4_2 x5_1 l0_0 (l0_0.length : Int) (wrap64 (x29_2 + 1)) l0_0)) = some r := by rw [if_neg (show ¬ (false = true) by decide)] at H; exact H
         clear H
         have H := H1
         clear H1
         by_cases c24 : (Go.bits .andNot .i64 (rd l0_0 x29_2) x5_1) = 0
         ·rw [if_pos c24] at H
          have c24b0 : ((Go.bits .andNot .i64 (rd l0_0 x29_2) x5_1) == 0) = true := beq_iff_eq.mpr c24
          have c24b1 : ((Go.bits .andNot .i64 (rd l0_0 x29_2) x5_1) != 0) = false := bne_eq_false_iff_eq.mpr c24
          clear c24
          by_cases c25 : 0 ≤ x5_1
          rotate_left
          ·rw [if_neg c25] at H
           exact absurd H (by simp)
          rw [if_pos c25] at H
          have c25b0 := decide_eq_true c25
          clear c25
          by_cases c26 : x5_1 < (x4_2.length : Int)
          rotate_left
          ·rw [if_neg c26] at H
           exact absurd H (by simp)
          rw [if_pos c26] at H
          have c26b0 := decide_eq_true c26
          clear c26
          have c27b0 := eq_true (qd : 0 ≤ x29_2)
          obtain ⟨ji28, hji28⟩ : ∃ j_ : Int, (shl .i64 1 x29_2) = j_ := ⟨_, rfl⟩
          replace H : (if 0 ≤ (Go.bits .or .i64 x5_1 (ji28)) then (if (Go.bits .or .i64 x5_1 (ji28)) < (x4_2.length : Int) then (spec_liCounts.l1 k2 (x4_2.set (x5_1 : Int).toNat (wrap64 ((rd x4_2 x5_1) + (rd x4_2 (Go.bits .or .i64 x5_1 (ji28)))))) x5_1 l0_0 (l0_0.length : Int) (wrap64 (x29_2 + 1)) l0_0) else (none)) else (none)) = some r := by first | (rw [hji28] at H; exact H) | (simp only [hji28] at H ⊢; exact H)
          (try rw [hji28] at A22)
          have hji28_ : (IntKind.i64.wrap (1 * 2 ^ min x29_2.toNat 64)) = ji28 := hji28
          have hji28z : x29_2 ≤ 64 → (IntKind.i64.wrap (1 * 2 ^ x29_2.toNat)) = ji28 := shl_small hji28
          have hji28u : (IntKind.i64.wrap (2 ^ min x29_2.toNat 64)) = ji28 := by have h_ := hji28_; rw [Int.one_mul] at h_; exact h_
          have hji28v : x29_2 ≤ 64 → (IntKind.i64.wrap (2 ^ x29_2.toNat)) = ji28 := fun hle_ => by have h_ := hji28z hle_; rw [Int.one_mul] at h_; exact h_
          have hji28y : (wrap64 (1 * 2 ^ min x29_2.toNat 64)) = ji28 := (i64_w _).symm.trans hji28_
          have hji28x : x29_2 ≤ 64 → (wrap64 (1 * 2 ^ x29_2.toNat)) = ji28 := fun h_ => (i64_w _).symm.trans (hji28z h_)
          by_cases c29 : 0 ≤ (Go.bits .or .i64 x5_1 (ji28))
          rotate_left
          ·rw [if_neg c29] at H
           exact absurd H (by simp)
          rw [if_pos c29] at H
          have c29b0 := decide_eq_true c29
          clear c29
          by_cases c30 : (Go.bits .or .i64 x5_1 (ji28)) < (x4_2.length : Int)
          rotate_left
          ·rw [if_neg c30] at H
           exact absurd H (by simp)
          rw [if_pos c30] at H
          have c30b0 := decide_eq_true c30
          clear c30
          obtain ⟨y971, hy971⟩ : ∃ y_ : List Int, y_ = (x4_2.set (x5_1 : Int).toNat (wrap64 ((rd x4_2 x5_1) + (rd x4_2 (Go.bits .or .i64 x5_1 (ji28)))))) := ⟨_, rfl⟩
          replace H : (spec_liCounts.l1 k2 y971 x5_1 l0_0 (l0_0.length : Int) (wrap64 (x29_2 + 1)) l0_0) = some r := by first | (rw [hy971]; with_reducible exact H) | (have H2_ := (Option.bind_some _ _).symm.trans H; rw [hy971]; with_reducible exact H2_) | (have H2_ := (Option.bind_some _ _).symm.trans H; with_reducible exact H2_) | with_reducible exact H | (rw [hy971]; exact H) | exact H
          have Ny971 := am hy971
          clear hy971
          have H' := am H
          clear H
          have p967 : 0 ≤ (x29_2 : Int) := qd
          have q967 : x29_2 < (l0_0.length : Int) := qd
          obtain ⟨ad967, e967, hx967_0⟩ := Kd.at_int HR0_0.out x29_2 p967 q967
          cases e967
          replace hx967_0 := (HB.out.cell (World.block_lt_of_cell? w _ hx967_0)).trans hx967_0
          replace p967 := eq_true p967
          replace q967 := eq_true q967
          try go_wp2_with (first | ((with_reducible refine gate_callee (f := 93) rfl ?_); refine gL (some 36) Try.func93 #[.int .i64 x5_1, .int .i64 x29_2] ?_; (with_reducible refine (spec_poIn.calls x5_1 x29_2 false _ A22.out).mono ?_); rintro e w' ⟨rfl, ⟨nd, rfl⟩⟩; refine ⟨_, rfl, ?_⟩; (try (rw [drewN_self wr]; generalize hq_ : World.drewN wr _ = wr; have n0_ : Aside0 (Kd.R (Kd.int .i64) 3 wr w.heap.size (fun _ => True) (.slice (some ⟨go9, 0, none⟩) x4_2.length co9) x4_2) := ⟨by rw [← hq_]; exact (qR HO_4.out)⟩; have n1_ : Aside0 (wr.heap[gb962]? = some (.cells #[.slice (some ad967) l0_0.length c0_0] 26 (0, 0))) := ⟨by rw [← hq_]; exact (qb BK962.out)⟩; have n2_ : Aside0 (Below w.heap.size w wr) := ⟨by rw [← hq_]; exact qB⟩; clear HO_4 BK962 HB hq_; have HO_4 := n0_; have BK962 := n1_; have HB := n2_; clear n0_ n1_ n2_))))
          have n0_ := am (Kd.R_drew HO_4.out)
          have n1_ := am (blk_drew BK962.out)
          have n2_ := am (below_drew1 HB.out)
          clear HO_4
          clear BK962
          clear HB
          have HO_4 := n0_
          have BK962 := n1_
          have HB := n2_
          clear n0_ n1_ n2_
          have p969 : 0 ≤ (x5_1 : Int) := qd
          have q969 : x5_1 < (x4_2.length : Int) := qd
          obtain ⟨ad969, e969, hx969_0⟩ := Kd.at_int (Kd.R_reads' HO_4.out).2.2 x5_1 p969 q969
          obtain rfl : (⟨go9, 0, none⟩ : Addr) = ad969 := (by injection e969)
          (first | simp only [add_plain] at hx969_0 | simp only [add_at] at hx969_0 | simp only [Addr.add, Nat.zero_add] at hx969_0 | skip)
          replace p969 := eq_true p969
          replace q969 := eq_true q969
          have p970 : 0 ≤ ((Go.bits .or .i64 x5_1 (ji28)) : Int) := qd
          have q970 : (Go.bits .or .i64 x5_1 (ji28)) < (x4_2.length : Int) := qd
          obtain ⟨ad970, e970, hx970_0⟩ := Kd.at_int (Kd.R_reads' HO_4.out).2.2 (Go.bits .or .i64 x5_1 (ji28)) p970 q970
          obtain rfl : (⟨go9, 0, none⟩ : Addr) = ad970 := (by injection e970)
          (first | simp only [add_plain] at hx970_0 | simp only [add_at] at hx970_0 | simp only [Addr.add, Nat.zero_add] at hx970_0 | skip)
          replace p970 := eq_true p970
          replace q970 := eq_true q970
          have p31 : 0 ≤ (x5_1 : Int) := qd
          have q31 : (x5_1 : Int) < ((x4_2.length : Int) : Int) := qd
          obtain ⟨hx31_0, hf31_0⟩ := Kd.R_celln 0 HO_4.out (x5_1 : Int) p31 q31
          replace p31 := eq_true p31
          replace q31 := eq_true q31
          have HP33 := Kd.R_putn HO_4.out (x5_1 : Int) (wrap64 ((rd x4_2 x5_1) + (rd x4_2 (Go.bits .or .i64 x5_1 (ji28)))))
          rw [← Ny971.out] at HP33
          have HQ33 := am HP33
          clear HP33
          refine start_ (n := 14) (S := fun w' => w'.cell? ⟨go9, (x5_1).toNat, none⟩ = some (.int .i64 (rd x4_2 x5_1)) ∧ w'.cell? ⟨go9, ((Go.bits .or .i64 x5_1 (ji28))).toNat, none⟩ = some (.int .i64 (rd x4_2 (Go.bits .or .i64 x5_1 (ji28))))) (ds := [13]) #[false, false, false, false, false, false, false, false, false, false, false, false, false, false] (by kernel_rfl) rfl rfl ⟨hx969_0, hx970_0⟩ (fun hHeld => ?_); refine with_tabW spec_liCounts.tab11 spec_liCounts.bits11 (fun HT_ HW_ => ?_)
          generalize wr.drew = w32 at HO_4 BK962 HB HQ33 hf31_0 hx31_0 hx969_0 hx970_0 hHeld ⊢
          refine pure_ (i := 0) (N := some 44) (v := ?_) (a' := ?_) #[true, false, false, false, false, false, false, false, false, false, false, false, false, false] rfl rfl (any_of HT_.out (by kernel_rfl)) (fun _ _ _ h => h) (Or.inl ⟨by rfl, ?_⟩) ?_ ?_
          rotate_left
          ·intro w'
           go_simp
           with_reducible rfl
          rotate_left
          ·exact qP
          refine pure_ (i := 1) (N := some 45) (v := ?_) (a' := ?_) #[true, true, false, false, false, false, false, false, false, false, false, false, false, false] rfl rfl (any_of HT_.out (by kernel_rfl)) (fun _ _ _ h => h) (Or.inl ⟨by rfl, ?_⟩) ?_ ?_
          rotate_left
          ·intro w'
           go_simp
           with_reducible rfl
          rotate_left
          ·exact qP
          refine pure_ (i := 2) (N := some 46) (v := ?_) (a' := ?_) #[true, true, true, false, false, false, false, false, false, false, false, false, false, false] rfl rfl (any_of HT_.out (by kernel_rfl)) (fun _ _ _ h => h) (Or.inl ⟨by rfl, ?_⟩) ?_ ?_
          rotate_left
          ·intro w'
           go_simp
           with_reducible rfl
          rotate_left
          ·exact qP
          refine pure_ (i := 4) (N := some 48) (v := ?_) (a' := ?_) #[true, true, true, false, true, false, false, false, false, false, false, false, false, false] rfl rfl (any_of HT_.out (by kernel_rfl)) (fun _ _ _ h => h) (Or.inl ⟨by rfl, ?_⟩) ?_ ?_
          rotate_left
          ·intro w'
           go_simp
           with_reducible rfl
          rotate_left
          ·exact qP
          refine pure_ (i := 5) (N := some 49) (v := ?_) (a' := ?_) #[true, true, true, false, true, true, false, false, false, false, false, false, false, false] rfl rfl (any_of HT_.out (by kernel_rfl)) (fun _ _ _ h => h) (Or.inl ⟨by rfl, ?_⟩) ?_ ?_
          rotate_left
          ·intro w'
           go_simp
           with_reducible rfl
          rotate_left
          ·exact qP
          refine pure_ (i := 6) (N := some 50) (v := ?_) (a' := ?_) #[true, true, true, false, true, true, true, false, false, false, false, false, false, false] rfl rfl (any_of HT_.out (by kernel_rfl)) (fun _ _ _ h => h) (Or.inl ⟨by rfl, ?_⟩) ?_ ?_
          rotate_left
          ·intro w'
           go_simp
           with_reducible rfl
          rotate_left
          ·exact qP
          refine pure_ (i := 7) (N := some 51) (v := ?_) (a' := ?_) #[true, true, true, false, true, true, true, true, false, false, false, false, false, false] rfl rfl (any_of HT_.out (by kernel_rfl)) (fun _ _ _ h => h) (Or.inl ⟨by rfl, ?_⟩) ?_ ?_
          rotate_left
          ·intro w'
           go_simp
           with_reducible rfl
          rotate_left
          ·exact qP
          refine pure_ (i := 8) (N := some 52) (v := ?_) (a' := ?_) #[true, true, true, false, true, true, true, true, true, false, false, false, false, false] rfl rfl (any_of HT_.out (by kernel_rfl)) (fun _ _ _ h => h) (Or.inl ⟨by rfl, ?_⟩) ?_ ?_
          rotate_left
          ·intro w'
           go_simp
           with_reducible rfl
          rotate_left
          ·exact qP
          refine pure_ (i := 9) (N := some 53) (v := ?_) (a' := ?_) #[true, true, true, false, true, true, true, true, true, true, false, false, false, false] rfl rfl (any_of HT_.out (by kernel_rfl)) (fun _ _ _ h => h) (Or.inl ⟨by rfl, ?_⟩) ?_ ?_
          rotate_left
          ·intro w'
           go_simp
           with_reducible rfl
          rotate_left
          ·exact qP
          refine take_ (i := 3) (N := some 47) (v := ?_) (a' := ?_) #[true, true, true, true, true, true, true, true, true, true, false, false, false, false] rfl rfl (take_ofW HT_.out HW_.out (by kernel_rfl)) (fun _ _ _ h => h) (Or.inl ⟨by rfl, ?_⟩) hHeld ?_ ?_
          rotate_left
          ·rintro w' ⟨s0, s1⟩
           go_simp
           with_reducible rfl
          rotate_left
          ·exact qP
          refine take_ (i := 10) (N := some 54) (v := ?_) (a' := ?_) #[true, true, true, true, true, true, true, true, true, true, true, false, false, false] rfl rfl (take_ofW HT_.out HW_.out (by kernel_rfl)) (fun _ _ _ h => h) (Or.inl ⟨by rfl, ?_⟩) hHeld ?_ ?_
          rotate_left
          ·rintro w' ⟨s0, s1⟩
           go_simp
           with_reducible rfl
          rotate_left
          ·exact qP
          refine pure_ (i := 11) (N := some 55) (v := ?_) (a' := ?_) #[true, true, true, true, true, true, true, true, true, true, true, true, false, false] rfl rfl (any_of HT_.out (by kernel_rfl)) (fun _ _ _ h => h) (Or.inl ⟨by rfl, ?_⟩) ?_ ?_
          rotate_left
          ·intro w'
           go_simp
           with_reducible rfl
          rotate_left
          ·exact qP
          refine pure_ (i := 12) (N := some 56) (v := ?_) (a' := ?_) #[true, true, true, true, true, true, true, true, true, true, true, true, true, false] rfl rfl (any_of HT_.out (by kernel_rfl)) (fun _ _ _ h => h) (Or.inl ⟨by rfl, ?_⟩) ?_ ?_
          rotate_left
          ·intro w'
           go_simp
           with_reducible rfl
          rotate_left
          ·exact qP
          refine last_ (i := 13) (N := none) #[true, true, true, true, true, true, true, true, true, true, true, true, true, true] rfl rfl (one_of HT_.out (by kernel_rfl)) (by decide) (fun K hK => ?_)
          refine skip_ (w1 := ?_) (by rfl) rfl ?_ ?_
          rotate_left
          ·go_simp
           rfl
          refine hK.out _ _ ?_
          clear hK K
          refine done_ (done_of HT_.out (by kernel_rfl)) ?_
          try go_wp2
          (try simp only [← hl4_2])
          go_roundg k2
          case measure => have := HK1.out; have := HK2.out; omega
          case rel => exact ⟨(y971), (wrap64 (x29_2 + 1)), qe, H', ⟨by have := HK1.out; have := HK2.out; omega⟩, ⟨by (try simp only [hl4_1]); (try simp only [hl4_2]); (with_reducible repeat (first | apply Kd.R_alloc | apply Kd.R_drewN | apply Kd.R_drew)); exact HQ33.out⟩, ⟨by (try simp only [hl4_1]); (try simp only [hl4_2]); (with_reducible repeat (first | refine blk_drewN ?_ _ | refine blk_drew ?_ | refine blk_alloc ?_ _)); refine blk_far ?_ (by have h_ := Kd.R_ne HO_4.out BK962.out (by decide); intro e_; exact h_ (by rw [e_]; rfl)) _; refine qb ?_; exact BK962.out⟩, ⟨qB⟩⟩
         ·rw [if_neg c24] at H
          have c24b0 : ((Go.bits .andNot .i64 (rd l0_0 x29_2) x5_1) == 0) = false := beq_eq_false_iff_ne.mpr c24
          have c24b1 : ((Go.bits .andNot .i64 (rd l0_0 x29_2) x5_1) != 0) = true := bne_iff_ne.mpr c24
          have H' := am H
          clear H
          have p967 : 0 ≤ (x29_2 : Int) := qd
          have q967 : x29_2 < (l0_0.length : Int) := qd
          obtain ⟨ad967, e967, hx967_0⟩ := Kd.at_int HR0_0.out x29_2 p967 q967
          cases e967
          replace hx967_0 := (HB.out.cell (World.block_lt_of_cell? w _ hx967_0)).trans hx967_0
          replace p967 := eq_true p967
          replace q967 := eq_true q967
          go_wp2_with (first | ((with_reducible refine gate_callee (f := 93) rfl ?_); refine gL (some 36) Try.func93 #[.int .i64 x5_1, .int .i64 x29_2] ?_; (with_reducible refine (spec_poIn.calls x5_1 x29_2 false _ A22.out).mono ?_); rintro e w' ⟨rfl, ⟨nd, rfl⟩⟩; refine ⟨_, rfl, ?_⟩))
          (try simp only [← hl4_2])
          go_roundg k2
          case measure => have := HK1.out; have := HK2.out; omega
          case rel => exact ⟨(x4_2), (wrap64 (x29_2 + 1)), qe, H', ⟨by have := HK1.out; have := HK2.out; omega⟩, ⟨by (try simp only [hl4_1]); (try simp only [hl4_2]); (with_reducible repeat (first | apply Kd.R_alloc | apply Kd.R_drewN | apply Kd.R_drew)); exact HO_4.out⟩, ⟨by (try simp only [hl4_1]); (try simp only [hl4_2]); refine qb ?_; exact BK962.out⟩, ⟨qB⟩⟩
       ·rw [if_neg c19] at H
        have c19b0 := decide_eq_false c19
        clear c19
        have H' := am H
        clear H
        go_wp2
        (try simp only [← hl4_1, ← hl4_2])
        go_roundg k2
        case measure => have := HK1.out; have := HK2.out; omega
        case rel => exact ⟨(x4_2), (wrap64 (x5_1 - 1)), qe, H', ⟨by have := HK1.out; have := HK2.out; omega⟩, ⟨by (try simp only [hl4_1]); (try simp only [hl4_2]); (with_reducible repeat (first | apply Kd.R_alloc | apply Kd.R_drewN | apply Kd.R_drew)); exact HO_4.out⟩, ⟨by (try simp only [hl4_1]); (try simp only [hl4_2]); refine qb ?_; exact BK962.out⟩, ⟨qB⟩⟩
    ·rw [if_neg c17] at H
     have c17b0 : decide (0 ≤ x5_1) = false := decide_eq_false c17
     clear c17
     obtain rfl := Option.some.inj H
     go_wp2
     go_ret
     exact ⟨_, by first | rfl | (simp [errW_none, errW_some] <;> rfl) | (simp only [← hji2, ← hji6]; first | rfl | (simp [errW_none, errW_some] <;> rfl)) | (simp [*, errW_none, errW_some] <;> rfl), qR HO_4.out, qB⟩
 ·rw [if_neg c3] at H
  exact absurd H (by simp)
def spec_CountLinear.f (k : Nat) (l0_0 : List Int) : Option (Int × Bool) := (spec_poGood.f k l0_0).bind fun t1046 => (if t1046 = true then ((spec_liCounts.f k l0_0).bind fun t1047 => (if 0 < (t1047.length : Int) then (some (rd t1047 0, true)) else (none))) else (some (0, false)))
theorem spec_CountLinear.mono : ∀ a0 k, LeO (spec_CountLinear.f k a0) (spec_CountLinear.f (k + 1) a0) := by
 intro a0 k
 unfold spec_CountLinear.f
 repeat' first
  | (with_reducible exact spec_liCounts.mono _ _)
  | (with_reducible exact spec_poGood.mono _ _)
  | (with_reducible exact LeO.refl _)
  | (with_reducible exact LeO.none _)
  | (with_reducible refine LeO.ite ?_ ?_)
  | (with_reducible refine LeO.bind ?_ (fun _ => ?_))
  | exact spec_liCounts.mono _ _
  | exact spec_poGood.mono _ _
  | exact LeO.none _
  | refine LeO.ite ?_ ?_
  | refine LeO.bind ?_ (fun _ => ?_)
set_option maxHeartbeats 8000000 in
set_option maxRecDepth 100000 in
theorem spec_CountLinear.calls (k : Nat) (A0_0 : Option Addr) (c0_0 : Nat) (l0_0 : List Int) (r1 : Int) (r2 : Bool) (w : World) (hr0_0 : Kd.C (Kd.int .i64) w A0_0 l0_0.length l0_0) (hc0_0 : l0_0.length ≤ c0_0) (h : spec_CountLinear.f k l0_0 = some (r1, r2)) :
 Calls Try.prog 58 #[.agg #[.slice A0_0 l0_0.length c0_0]] w fun e w' => e = .returned (.tuple #[.int .i64 r1, .bool r2]) ∧ Below w.heap.size w w' := by
 have hu26 := Try.underlying26
 have HR0_0 := am hr0_0
 have HC0_0 := am hc0_0
 clear hr0_0 hc0_0
 have HB := am (Below.refl w.heap.size w)
 have H : ((spec_poGood.f k l0_0).bind fun t1046 => (if t1046 = true then ((spec_liCounts.f k l0_0).bind fun t1047 => (if 0 < (t1047.length : Int) then (some (rd t1047 0, true)) else (none))) else (some (0, false)))) = some (r1, r2) := h
 clear h
 replace H := Option.bind_eq_some_iff.mp H
 obtain ⟨t1046, A20, H⟩ := H
 replace H : (if t1046 = true then ((spec_liCounts.f k l0_0).bind fun t1047 => (if 0 < (t1047.length : Int) then (some (rd t1047 0, true)) else (none))) else (some (0, false))) = some (r1, r2) := H
 have A2 := am A20
 clear A20
 by_cases c3 : t1046 = true
 ·subst c3
  have H1 : ((spec_liCounts.f k l0_0).bind fun t1047 => (if 0 < (t1047.length : Int) then (some (rd t1047 0, true)) else (none))) = some (r1, r2) := by rw [if_pos rfl] at H; exact H
  clear H
  have H := H1
  clear H1
  replace H := Option.bind_eq_some_iff.mp H
  obtain ⟨t1047, A40, H⟩ := H
  replace H : (if 0 < (t1047.length : Int) then (some (rd t1047 0, true)) else (none)) = some (r1, r2) := H
  have A4 := am A40
  clear A40
  by_cases c5 : 0 < (t1047.length : Int)
  rotate_left
  ·rw [if_neg c5] at H
   exact absurd H (by simp)
  rw [if_pos c5] at H
  have c5b0 := decide_eq_true c5
  have c5b1 : decide (0 < t1047.length) = true := decide_eq_true (by omega)
  clear c5
  simp only [Option.some.injEq, Prod.mk.injEq] at H
  obtain ⟨rfl, rfl⟩ := H
  go_enter Try.func58, Try.ntmps58
  go_wp2_with (first | ((with_reducible refine gate_dst (N := 1) rfl ?_); refine qx (N := 1) (cs := #[.slice A0_0 l0_0.length c0_0]) (t := 26) ?_; intro gb1045 hg w6 hbox hb; have n0_ := am (below_step qB hb); have BK1045 := am (hbox); have GW1045 := am (qg w hg); have GE1045 := am (qg w hg); clear HB; have HB := n0_; clear n0_; clear hb hbox hg; have hcz7_0 := qz w6 BK1045.out; have hfz7_0 := blk_frozen BK1045.out 0) | ((with_reducible refine gate_callee (f := 82) rfl ?_); refine gL (some 5) Try.func82 #[.agg #[.slice A0_0 l0_0.length c0_0]] ?_; (with_reducible refine (spec_poGood.calls k _ _ l0_0 true _ ?side1 ?side2 A2.out).mono ?_); (case side1 => exact qC (Kd.C_below HR0_0.out HB.out)); (case side2 => exact HC0_0.out); rintro e w8 ⟨rfl, hb⟩; refine ⟨_, rfl, ?_⟩; replace BK1045 := am (blk_below (g := gb1045) (o := .cells #[.slice A0_0 l0_0.length c0_0] 26 (0, 0)) (qb BK1045.out) hb); replace HB := am (below_step qB hb); (try clear hb); (try clear hb2); (try clear hk); (try clear hi); have hcz9_0 := qz w8 BK1045.out; have hfz9_0 := blk_frozen BK1045.out 0) | ((with_reducible refine gate_callee (f := 111) rfl ?_); refine gL (some 8) Try.func111 #[.agg #[.slice A0_0 l0_0.length c0_0]] ?_; (with_reducible refine (spec_liCounts.calls k _ _ l0_0 t1047 _ ?side1 ?side2 A4.out).mono ?_); (case side1 => exact qC (Kd.C_below HR0_0.out HB.out)); (case side2 => exact HC0_0.out); rintro e w10 ⟨v1048, rfl, ho0, hb⟩; refine ⟨_, rfl, ?_⟩; have HO1049 := am (Kd.R_lower ho0 (below_size qB)); replace BK1045 := am (blk_below (g := gb1045) (o := .cells #[.slice A0_0 l0_0.length c0_0] 26 (0, 0)) (qb BK1045.out) hb); replace HB := am (below_step qB hb); (try clear hb); (try clear hb2); (try clear hk); (try clear hi); (try clear ho0); obtain ⟨Ao11, co11, eo11⟩ := Kd.R_slice HO1049.out; subst eo11; have p1050 : 0 ≤ (0 : Int) := (by omega); have q1050 : 0 < (t1047.length : Int) := qd; obtain ⟨ad1050, e1050, hx1050_0⟩ := Kd.at_int (Kd.R_reads' HO1049.out).2.2 0 p1050 q1050; cases e1050; have qi1050 : (0 < t1047.length) = True := eq_true (by omega); (try rw [show ((0 : Int)).toNat = 0 from rfl] at hx1050_0); (try rw [Addr.add_zero'] at hx1050_0); replace p1050 := eq_true p1050; replace q1050 := eq_true q1050))
  go_ret2
  exact ⟨qr, qB⟩
 ·replace c3 := Bool.eq_false_iff.mpr c3
  subst c3
  have H1 : (some (0, false)) = some (r1, r2) := by rw [if_neg (show ¬ (false = true) by decide)] at H; exact H
  clear H
  have H := H1
  clear H1
  simp only [Option.some.injEq, Prod.mk.injEq] at H
  obtain ⟨rfl, rfl⟩ := H
  go_enter Try.func58, Try.ntmps58
  go_wp2_with (first | ((with_reducible refine gate_dst (N := 1) rfl ?_); refine qx (N := 1) (cs := #[.slice A0_0 l0_0.length c0_0]) (t := 26) ?_; intro gb1045 hg w12 hbox hb; have n0_ := am (below_step qB hb); have BK1045 := am (hbox); have GW1045 := am (qg w hg); have GE1045 := am (qg w hg); clear HB; have HB := n0_; clear n0_; clear hb hbox hg; have hcz13_0 := qz w12 BK1045.out; have hfz13_0 := blk_frozen BK1045.out 0) | ((with_reducible refine gate_callee (f := 82) rfl ?_); refine gL (some 5) Try.func82 #[.agg #[.slice A0_0 l0_0.length c0_0]] ?_; (with_reducible refine (spec_poGood.calls k _ _ l0_0 false _ ?side1 ?side2 A2.out).mono ?_); (case side1 => exact qC (Kd.C_below HR0_0.out HB.out)); (case side2 => exact HC0_0.out); rintro e w14 ⟨rfl, hb⟩; refine ⟨_, rfl, ?_⟩; replace BK1045 := am (blk_below (g := gb1045) (o := .cells #[.slice A0_0 l0_0.length c0_0] 26 (0, 0)) (qb BK1045.out) hb); replace HB := am (below_step qB hb); (try clear hb); (try clear hb2); (try clear hk); (try clear hi)))
  go_ret2
  exact ⟨qr, qB⟩
mutual
def spec_liIs.j0 : Nat → List Int → Bool → List Int → Option (Bool)
 | 0, _, _, _ => none
 | k + 1, x1, x21, x1127000 => if x21 = true then (some false) else (spec_liIs.l0 k 0 x1 (x1.length : Int) 0 x1127000)
def spec_liIs.l0 : Nat → Int → List Int → Int → Int → List Int → Option (Bool)
 | 0, _, _, _, _, _ => none
 | k + 1, x5, x22, x23, x24, x1127000 => if x24 < x23 then (if 0 ≤ x24 then (if x24 < (x22.length : Int) then ((spec_poIn.f x5 (rd x22 x24)).bind fun t1129 => (if t1129 = true then (some false) else (if 0 ≤ (rd x22 x24) then (if (rd x22 x24) < (x1127000.length : Int) then (if (Go.bits .andNot .i64 (rd x1127000 (rd x22 x24)) x5) = 0 then (spec_liIs.l0 k (Go.bits .or .i64 x5 (shl .i64 1 (rd x22 x24))) x22 x23 (wrap64 (x24 + 1)) x1127000) else (some false)) else (none)) else (none)))) else (none)) else (none)) else (some true)
end
def spec_liIs.f (k : Nat) (l0_0 : List Int) (l1 : List Int) : Option (Bool) := if (l1.length : Int) = (l0_0.length : Int) then ((spec_l1All.f k l1 0 (wrap64 ((l1.length : Int) - 1))).bind fun t1127 => (spec_liIs.j0 k l1 (!t1127) l0_0)) else (spec_liIs.j0 k l1 true l0_0)
theorem spec_liIs.mono_l : ∀ k, (∀ y0 y1 y2, LeO (spec_liIs.j0 k y0 y1 y2) (spec_liIs.j0 (k + 1) y0 y1 y2)) ∧ (∀ y0 y1 y2 y3 y4, LeO (spec_liIs.l0 k y0 y1 y2 y3 y4) (spec_liIs.l0 (k + 1) y0 y1 y2 y3 y4))
 | 0 => ⟨fun _ _ _ r h => by simp [spec_liIs.j0] at h, fun _ _ _ _ _ r h => by simp [spec_liIs.l0] at h⟩
 | k + 1 => by
  obtain ⟨ih0, ih1⟩ := spec_liIs.mono_l k
  refine ⟨?_, ?_⟩
  ·intro y0 y1 y2
   unfold spec_liIs.j0
   repeat' first
   | (with_reducible exact spec_l1All.mono _ _ _ _)
   | (with_reducible exact LeO.refl _)
   | (with_reducible exact LeO.none _)
   | (with_reducible refine LeO.ite ?_ ?_)
   | (with_reducible refine LeO.bind ?_ (fun _ => ?_))
   | exact ih0 _ _ _
   | exact ih1 _ _ _ _ _
   | exact spec_l1All.mono _ _ _ _
   | exact LeO.none _
   | refine LeO.ite ?_ ?_
   | refine LeO.bind ?_ (fun _ => ?_)
  ·intro y0 y1 y2 y3 y4
   unfold spec_liIs.l0
   repeat' first
   | (with_reducible exact spec_l1All.mono _ _ _ _)
   | (with_reducible exact LeO.refl _)
   | (with_reducible exact LeO.none _)
   | (with_reducible refine LeO.ite ?_ ?_)
   | (with_reducible refine LeO.bind ?_ (fun _ => ?_))
   | exact ih0 _ _ _
   | exact ih1 _ _ _ _ _
   | exact spec_l1All.mono _ _ _ _
   | exact LeO.none _
   | refine LeO.ite ?_ ?_
   | refine LeO.bind ?_ (fun _ => ?_)
theorem spec_liIs.mono : ∀ a0 a1 k, LeO (spec_liIs.f k a0 a1) (spec_liIs.f (k + 1) a0 a1) := by
 intro a0 a1 k
 obtain ⟨ih0, ih1⟩ := spec_liIs.mono_l k
 unfold spec_liIs.f
 repeat' first
  | (with_reducible exact spec_l1All.mono _ _ _ _)
  | (with_reducible exact LeO.refl _)
  | (with_reducible exact LeO.none _)
  | (with_reducible refine LeO.ite ?_ ?_)
  | (with_reducible refine LeO.bind ?_ (fun _ => ?_))
  | exact ih0 _ _ _
  | exact ih1 _ _ _ _ _
  | exact spec_l1All.mono _ _ _ _
  | exact LeO.none _
  | refine LeO.ite ?_ ?_
  | refine LeO.bind ?_ (fun _ => ?_)
set_option maxHeartbeats 8000000 in
set_option maxRecDepth 100000 in
theorem spec_liIs.calls (k : Nat) (A0_0 : Option Addr) (c0_0 : Nat) (l0_0 : List Int) (A1 : Option Addr) (c1 : Nat) (l1 : List Int) (r : Bool) (w : World) (hr0_0 : Kd.C (Kd.int .i64) w A0_0 l0_0.length l0_0) (hc0_0 : l0_0.length ≤ c0_0) (hr1 : Kd.C (Kd.int .i64) w A1 l1.length l1) (hc1 : l1.length ≤ c1) (h : spec_liIs.f k l0_0 l1 = some r) :
 Calls Try.prog 123 #[.agg #[.slice A0_0 l0_0.length c0_0], .slice A1 l1.length c1] w fun e w' => e = .returned (.bool r) ∧ Below w.heap.size w w' := by
 have hu26 := Try.underlying26
 have HR0_0 := am hr0_0
 have HC0_0 := am hc0_0
 clear hr0_0 hc0_0
 have HR1 := am hr1
 have HC1 := am hc1
 clear hr1 hc1
 have HB := am (Below.refl w.heap.size w)
 have H : (if (l1.length : Int) = (l0_0.length : Int) then ((spec_l1All.f k l1 0 (wrap64 ((l1.length : Int) - 1))).bind fun t1127 => (spec_liIs.j0 k l1 (!t1127) l0_0)) else (spec_liIs.j0 k l1 true l0_0)) = some r := h
 clear h
 have HC3 := am H
 clear H
 go_enter Try.func123, Try.ntmps123
 go_upto_region 1 with (first | ((with_reducible refine gate_dst (N := 2) rfl ?_); refine qx (N := 2) (cs := #[.slice A0_0 l0_0.length c0_0]) (t := 26) ?_; intro gb1126 hg w4 hbox hb; have n0_ := am (below_step qB hb); have BK1126 := am (hbox); have GW1126 := am (qg w hg); have GE1126 := am (qg w hg); clear HB; have HB := n0_; clear n0_; clear hb hbox hg))
 (try simp only [Act.put, List.setIfInBounds_toArray, List.set_cons_zero, List.set_cons_succ])
 go_cut [21] (fun v21 wc => ∃ (kq : Nat) (x21_2 : Bool), v21 = .bool x21_2 ∧ Aside0 (spec_liIs.j0 kq l1 x21_2 l0_0 = some r) ∧ Aside0 (kq ≤ k) ∧ Aside0 (wc.heap[gb1126]? = some (.cells #[(.slice A0_0 l0_0.length c0_0)] 26 (0, 0))) ∧ Aside0 (Below w.heap.size w wc))
 case first =>
  have H := HC3.out
  clear HC3
  by_cases c5 : (l1.length : Int) = (l0_0.length : Int)
  ·rw [if_pos c5] at H
   have c5b0 : ((l1.length : Int) == (l0_0.length : Int)) = true := beq_iff_eq.mpr c5
   have c5b1 : ((l1.length : Int) != (l0_0.length : Int)) = false := bne_eq_false_iff_eq.mpr c5
   have c5b2 : (l1.length == l0_0.length) = true := by first | simpa using c5 | (simp at c5 ⊢; omega)
   clear c5
   (first | rw [c5b0] | (simp only [i64_w, i32_w]; rw [c5b0]) | skip)
   replace H := Option.bind_eq_some_iff.mp H
   obtain ⟨t1127, A60, H⟩ := H
   replace H : (spec_liIs.j0 k l1 (!t1127) l0_0) = some r := H
   have A6 := am A60
   clear A60
   have H' := am H
   clear H
   have hcz7_0 := qz w4 BK1126.out
   have hfz7_0 := blk_frozen BK1126.out 0
   go_wp2_with (first | (go_at_call 131; (with_reducible refine (spec_l1All.calls k _ _ l1 0 (wrap64 ((l1.length : Int) - 1)) t1127 _ ?side1 ?side2 A6.out).mono ?_); (case side1 => exact qC (Kd.C_below HR1.out HB.out)); (case side2 => exact HC1.out); rintro e w' ⟨rfl, ⟨nd, rfl⟩⟩))
   go_meet
   case rel => exact ⟨_, (!t1127), qe, H', ⟨by first | omega | exact Nat.le_refl _⟩, ⟨qb BK1126.out⟩, ⟨qB⟩⟩
  ·rw [if_neg c5] at H
   have c5b0 : ((l1.length : Int) == (l0_0.length : Int)) = false := beq_eq_false_iff_ne.mpr c5
   have c5b1 : ((l1.length : Int) != (l0_0.length : Int)) = true := bne_iff_ne.mpr c5
   have c5b2 : (l1.length == l0_0.length) = false := by first | simpa using c5 | (simp at c5 ⊢; omega)
   (first | rw [c5b0] | (simp only [i64_w, i32_w]; rw [c5b0]) | skip)
   have H' := am H
   clear H
   have hcz8_0 := qz w4 BK1126.out
   have hfz8_0 := blk_frozen BK1126.out 0
   go_wp2
   go_meet
   case rel => exact ⟨_, (true), qe, H', ⟨by first | omega | exact Nat.le_refl _⟩, ⟨qb BK1126.out⟩, ⟨qB⟩⟩
 case rest =>
  clear HC3
  try clear c1
  try clear p2
  try clear c5
  try clear c5b0
  try clear c5b1
  try clear c5b2
  try clear p6
  try clear hcz7_0
  try clear hcz8_0
  try clear hfz7_0
  try clear hfz8_0
  obtain ⟨kq, x21_2, rfl, HA, HJ2, BK1126, HB⟩ := hcut
  cases kq with
  | zero => exact absurd HA.out (by simp [spec_liIs.j0])
  | succ kj2 =>
   have H := HA.out
   clear HA
   simp only [spec_liIs.j0] at H
   by_cases c9 : x21_2 = true
   ·subst c9
    have H1 : (some false) = some r := by rw [if_pos rfl] at H; exact H
    clear H
    have H := H1
    clear H1
    obtain rfl := Option.some.inj H
    go_wp2
    go_ret
    exact ⟨qr, qB⟩
   ·replace c9 := Bool.eq_false_iff.mpr c9
    subst c9
    have H1 : (spec_liIs.l0 kj2 0 l1 (l1.length : Int) 0 l0_0) = some r := by rw [if_neg (show ¬ (false = true) by decide)] at H; exact H
    clear H
    have H := H1
    clear H1
    have H' := am H
    clear H
    go_wp2
    go_loopg [5, 24] kj2 (fun kq v5 v24 w' => ∃ (x5_2 : Int) (x24_2 : Int), v5 = .int .i64 x5_2 ∧ v24 = .int .i64 x24_2 ∧ Aside0 (spec_liIs.l0 kq x5_2 l1 (l1.length : Int) x24_2 l0_0 = some r) ∧ Aside0 (kq ≤ kj2) ∧ Aside0 (w'.heap[gb1126]? = some (.cells #[(.slice A0_0 l0_0.length c0_0)] 26 (0, 0))) ∧ Aside0 (Below w.heap.size w w'))
    case atStart => exact ⟨(0), (0), qe, qe, H', ⟨Nat.le_refl _⟩, ⟨qb BK1126.out⟩, ⟨qB⟩⟩
    case round =>
     clear H'
     try clear c1
     try clear p2
     try clear c5
     try clear c5b0
     try clear c5b1
     try clear c5b2
     try clear p6
     try clear c9
     try clear hcz7_0
     try clear hcz8_0
     try clear hfz7_0
     try clear hfz8_0
     try clear p2
     try clear p6
     obtain ⟨x5_2, x24_2, rfl, rfl, HA, HK2, BK1126, HB⟩ := hrel
     cases gk with
     | zero => exact absurd HA.out (by simp [spec_liIs.l0])
     | succ k2 =>
      have H := HA.out
      clear HA
      simp only [spec_liIs.l0] at H
      by_cases c10 : x24_2 < (l1.length : Int)
      ·rw [if_pos c10] at H
       have c10b0 := decide_eq_true c10
       clear c10
       by_cases c11 : 0 ≤ x24_2
       rotate_left
       ·rw [if_neg c11] at H
        exact absurd H (by simp)
       rw [if_pos c11] at H
       have c11b0 := decide_eq_true c11
       clear c11
       by_cases c12 : x24_2 < (l1.length : Int)
       rotate_left
       ·rw [if_neg c12] at H
        exact absurd H (by simp)
       rw [if_pos c12] at H
       have c12b0 := decide_eq_true c12
       clear c12
       replace H := Option.bind_eq_some_iff.mp H
       obtain ⟨t1129, A130, H⟩ := H
       replace H : (if t1129 = true then (some false) else (if 0 ≤ (rd l1 x24_2) then (if (rd l1 x24_2) < (l0_0.length : Int) then (if (Go.bits .andNot .i64 (rd l0_0 (rd l1 x24_2)) x5_2) = 0 then (spec_liIs.l0 k2 (Go.bits .or .i64 x5_2 (shl .i64 1 (rd l1 x24_2))) l1 (l1.length : Int) (wrap64 (x24_2 + 1)) l0_0) else (some false)) else (none)) else (none))) = some r := H
       have A13 := am A130
       clear A130
       by_cases c14 : t1129 = true
       ·subst c14
        have H1 : (some false) = some r := by rw [if_pos rfl] at H; exact H
        clear H
        have H := H1
        clear H1
        obtain rfl := Option.some.inj H
        have p1128 : 0 ≤ (x24_2 : Int) := qd
        have q1128 : x24_2 < (l1.length : Int) := qd
        obtain ⟨ad1128, e1128, hx1128_0⟩ := Kd.at_int HR1.out x24_2 p1128 q1128
        cases e1128
        replace hx1128_0 := (HB.out.cell (World.block_lt_of_cell? w _ hx1128_0)).trans hx1128_0
        replace p1128 := eq_true p1128
        replace q1128 := eq_true q1128
        go_wp2_with (first | ((with_reducible refine gate_callee (f := 93) rfl ?_); refine gL (some 30) Try.func93 #[.int .i64 x5_2, .int .i64 (rd l1 x24_2)] ?_; (with_reducible refine (spec_poIn.calls x5_2 (rd l1 x24_2) true _ A13.out).mono ?_); rintro e w' ⟨rfl, ⟨nd, rfl⟩⟩; refine ⟨_, rfl, ?_⟩))
        go_ret
        exact ⟨qr, qB⟩
       ·replace c14 := Bool.eq_false_iff.mpr c14
        subst c14
        have H1 : (if 0 ≤ (rd l1 x24_2) then (if (rd l1 x24_2) < (l0_0.length : Int) then (if (Go.bits .andNot .i64 (rd l0_0 (rd l1 x24_2)) x5_2) = 0 then (spec_liIs.l0 k2 (Go.bits .or .i64 x5_2 (shl .i64 1 (rd l1 x24_2))) l1 (l1.length : Int) (wrap64 (x24_2 + 1)) l0_0) else (some false)) else (none)) else (none)) = some r := by rw [if_neg (show ¬ (false = true) by decide)] at H; exact H
        clear H
        have H := H1
        clear H1
        by_cases c15 : 0 ≤ (rd l1 x24_2)
        rotate_left
        ·rw [if_neg c15] at H
         exact absurd H (by simp)
        rw [if_pos c15] at H
        have c15b0 := decide_eq_true c15
        clear c15
        by_cases c16 : (rd l1 x24_2) < (l0_0.length : Int)
        rotate_left
        ·rw [if_neg c16] at H
         exact absurd H (by simp)
        rw [if_pos c16] at H
        have c16b0 := decide_eq_true c16
        clear c16
        by_cases c17 : (Go.bits .andNot .i64 (rd l0_0 (rd l1 x24_2)) x5_2) = 0
        ·rw [if_pos c17] at H
         have c17b0 : ((Go.bits .andNot .i64 (rd l0_0 (rd l1 x24_2)) x5_2) == 0) = true := beq_iff_eq.mpr c17
         have c17b1 : ((Go.bits .andNot .i64 (rd l0_0 (rd l1 x24_2)) x5_2) != 0) = false := bne_eq_false_iff_eq.mpr c17
         clear c17
         have c18b0 := eq_true (qd : 0 ≤ (rd l1 x24_2))
         obtain ⟨ji19, hji19⟩ : ∃ j_ : Int, (shl .i64 1 (rd l1 x24_2)) = j_ := ⟨_, rfl⟩
         replace H : (spec_liIs.l0 k2 (Go.bits .or .i64 x5_2 (ji19)) l1 (l1.length : Int) (wrap64 (x24_2 + 1)) l0_0) = some r := by first | (rw [hji19] at H; exact H) | (simp only [hji19] at H ⊢; exact H)
         (try rw [hji19] at A13)
         have hji19_ : (IntKind.i64.wrap (1 * 2 ^ min (rd l1 x24_2).toNat 64)) = ji19 := hji19
         have hji19z : (rd l1 x24_2) ≤ 64 → (IntKind.i64.wrap (1 * 2 ^ (rd l1 x24_2).toNat)) = ji19 := shl_small hji19
         have hji19u : (IntKind.i64.wrap (2 ^ min (rd l1 x24_2).toNat 64)) = ji19 := by have h_ := hji19_; rw [Int.one_mul] at h_; exact h_
         have hji19v : (rd l1 x24_2) ≤ 64 → (IntKind.i64.wrap (2 ^ (rd l1 x24_2).toNat)) = ji19 := fun hle_ => by have h_ := hji19z hle_; rw [Int.one_mul] at h_; exact h_
         have hji19y : (wrap64 (1 * 2 ^ min (rd l1 x24_2).toNat 64)) = ji19 := (i64_w _).symm.trans hji19_
         have hji19x : (rd l1 x24_2) ≤ 64 → (wrap64 (1 * 2 ^ (rd l1 x24_2).toNat)) = ji19 := fun h_ => (i64_w _).symm.trans (hji19z h_)
         have H' := am H
         clear H
         have p1128 : 0 ≤ (x24_2 : Int) := qd
         have q1128 : x24_2 < (l1.length : Int) := qd
         obtain ⟨ad1128, e1128, hx1128_0⟩ := Kd.at_int HR1.out x24_2 p1128 q1128
         cases e1128
         replace hx1128_0 := (HB.out.cell (World.block_lt_of_cell? w _ hx1128_0)).trans hx1128_0
         replace p1128 := eq_true p1128
         replace q1128 := eq_true q1128
         go_wp2_with (first | ((with_reducible refine gate_callee (f := 93) rfl ?_); refine gL (some 30) Try.func93 #[.int .i64 x5_2, .int .i64 (rd l1 x24_2)] ?_; (with_reducible refine (spec_poIn.calls x5_2 (rd l1 x24_2) false _ A13.out).mono ?_); rintro e w' ⟨rfl, ⟨nd, rfl⟩⟩; refine ⟨_, rfl, ?_⟩; have hcz20_0 := qz wr BK1126.out; have hfz20_0 := blk_frozen BK1126.out 0; have p1130 : 0 ≤ ((rd l1 x24_2) : Int) := qd; have q1130 : (rd l1 x24_2) < (l0_0.length : Int) := qd; obtain ⟨ad1130, e1130, hx1130_0⟩ := Kd.at_int HR0_0.out (rd l1 x24_2) p1130 q1130; cases e1130; replace hx1130_0 := (HB.out.cell (World.block_lt_of_cell? w _ hx1130_0)).trans hx1130_0; replace p1130 := eq_true p1130; replace q1130 := eq_true q1130))
         go_roundg k2
         case measure => have := HJ2.out; have := HK2.out; omega
         case rel => exact ⟨(Go.bits .or .i64 x5_2 (ji19)), (wrap64 (x24_2 + 1)), (by first | rfl | (simp; done) | (simp only [← hji19] <;> (first | rfl | simp)) | (simp [*]; done)), qe, H', ⟨by have := HJ2.out; have := HK2.out; omega⟩, ⟨qb BK1126.out⟩, ⟨qB⟩⟩
        ·rw [if_neg c17] at H
         have c17b0 : ((Go.bits .andNot .i64 (rd l0_0 (rd l1 x24_2)) x5_2) == 0) = false := beq_eq_false_iff_ne.mpr c17
         have c17b1 : ((Go.bits .andNot .i64 (rd l0_0 (rd l1 x24_2)) x5_2) != 0) = true := bne_iff_ne.mpr c17
         obtain rfl := Option.some.inj H
         have p1128 : 0 ≤ (x24_2 : Int) := qd
         have q1128 : x24_2 < (l1.length : Int) := qd
         obtain ⟨ad1128, e1128, hx1128_0⟩ := Kd.at_int HR1.out x24_2 p1128 q1128
         cases e1128
         replace hx1128_0 := (HB.out.cell (World.block_lt_of_cell? w _ hx1128_0)).trans hx1128_0
         replace p1128 := eq_true p1128
         replace q1128 := eq_true q1128
         go_wp2_with (first | ((with_reducible refine gate_callee (f := 93) rfl ?_); refine gL (some 30) Try.func93 #[.int .i64 x5_2, .int .i64 (rd l1 x24_2)] ?_; (with_reducible refine (spec_poIn.calls x5_2 (rd l1 x24_2) false _ A13.out).mono ?_); rintro e w' ⟨rfl, ⟨nd, rfl⟩⟩; refine ⟨_, rfl, ?_⟩; have hcz21_0 := qz wr BK1126.out; have hfz21_0 := blk_frozen BK1126.out 0; have p1130 : 0 ≤ ((rd l1 x24_2) : Int) := qd; have q1130 : (rd l1 x24_2) < (l0_0.length : Int) := qd; obtain ⟨ad1130, e1130, hx1130_0⟩ := Kd.at_int HR0_0.out (rd l1 x24_2) p1130 q1130; cases e1130; replace hx1130_0 := (HB.out.cell (World.block_lt_of_cell? w _ hx1130_0)).trans hx1130_0; replace p1130 := eq_true p1130; replace q1130 := eq_true q1130))
         go_ret
         exact ⟨qr, qB⟩
      ·rw [if_neg c10] at H
       have c10b0 := decide_eq_false c10
       clear c10
       obtain rfl := Option.some.inj H
       go_wp2
       go_ret
       exact ⟨qr, qB⟩
mutual
def spec_liWith.l0 : Nat → List Int → Int → List Int → Int → List Int → Option (List Int)
 | 0, _, _, _, _, _ => none
 | k + 1, x1, x2, x7, x8, x992000 => if (x7.length : Int) < (x992000.length : Int) then (spec_liWith.l1 k x1 x2 x7 x8 x992000 (x992000.length : Int) 0 x992000) else (some x7)
def spec_liWith.l1 : Nat → List Int → Int → List Int → Int → List Int → Int → Int → List Int → Option (List Int)
 | 0, _, _, _, _, _, _, _, _ => none
 | k + 1, x1, x2, x7, x8, x19, x20, x21, x992000 => if x21 < x20 then (if 0 ≤ x21 then (if x21 < (x19.length : Int) then ((spec_poIn.f x8 x21).bind fun t993 => (if t993 = true then (spec_liWith.j2 k x1 x2 x7 x8 x21 x19 x20 x21 true x992000) else (spec_liWith.j2 k x1 x2 x7 x8 x21 x19 x20 x21 ((Go.bits .andNot .i64 (rd x19 x21) x8) != 0) x992000))) else (none)) else (none)) else (spec_liWith.l0 k x1 x2 x7 x8 x992000)
def spec_liWith.j2 : Nat → List Int → Int → List Int → Int → Int → List Int → Int → Int → Bool → List Int → Option (List Int)
 | 0, _, _, _, _, _, _, _, _, _, _ => none
 | k + 1, x1, x2, x7, x8, x9, x19, x20, x21, x34, x992000 => if x34 = true then (spec_liWith.l1 k x1 x2 x7 x8 x19 x20 (wrap64 (x21 + 1)) x992000) else (if 0 ≤ x9 then (if 0 ≤ (Go.bits .or .i64 x8 (shl .i64 1 x9)) then (if (Go.bits .or .i64 x8 (shl .i64 1 x9)) < (x1.length : Int) then (if x2 < (rd x1 (Go.bits .or .i64 x8 (shl .i64 1 x9))) then (if x7.length < 17592186044416 then (spec_liWith.l0 k x1 x2 (x7 ++ [x9]) (Go.bits .or .i64 x8 (shl .i64 1 x9)) x992000) else (none)) else (spec_liWith.l1 k x1 (wrap64 (x2 - (rd x1 (Go.bits .or .i64 x8 (shl .i64 1 x9))))) x7 x8 x19 x20 (wrap64 (x21 + 1)) x992000)) else (none)) else (none)) else (none))
end
def spec_liWith.f (k : Nat) (l0_0 : List Int) (l1 : List Int) (a2 : Int) : Option (List Int) := spec_liWith.l0 k l1 a2 ([] : List Int) 0 l0_0
theorem spec_liWith.mono_l : ∀ k, (∀ y0 y1 y2 y3 y4, LeO (spec_liWith.l0 k y0 y1 y2 y3 y4) (spec_liWith.l0 (k + 1) y0 y1 y2 y3 y4)) ∧ (∀ y0 y1 y2 y3 y4 y5 y6 y7, LeO (spec_liWith.l1 k y0 y1 y2 y3 y4 y5 y6 y7) (spec_liWith.l1 (k + 1) y0 y1 y2 y3 y4 y5 y6 y7)) ∧ (∀ y0 y1 y2 y3 y4 y5 y6 y7 y8 y9, LeO (spec_liWith.j2 k y0 y1 y2 y3 y4 y5 y6 y7 y8 y9) (spec_liWith.j2 (k + 1) y0 y1 y2 y3 y4 y5 y6 y7 y8 y9))
 | 0 => ⟨fun _ _ _ _ _ r h => by simp [spec_liWith.l0] at h, fun _ _ _ _ _ _ _ _ r h => by simp [spec_liWith.l1] at h, fun _ _ _ _ _ _ _ _ _ _ r h => by simp [spec_liWith.j2] at h⟩
 | k + 1 => by
  obtain ⟨ih0, ih1, ih2⟩ := spec_liWith.mono_l k
  refine ⟨?_, ?_, ?_⟩
  ·intro y0 y1 y2 y3 y4
   unfold spec_liWith.l0
   repeat' first
   | (with_reducible exact LeO.refl _)
   | (with_reducible exact LeO.none _)
   | (with_reducible refine LeO.ite ?_ ?_)
   | (with_reducible refine LeO.bind ?_ (fun _ => ?_))
   | exact ih0 _ _ _ _ _
   | exact ih1 _ _ _ _ _ _ _ _
   | exact ih2 _ _ _ _ _ _ _ _ _ _
   | exact LeO.none _
   | refine LeO.ite ?_ ?_
   | refine LeO.bind ?_ (fun _ => ?_)
  ·intro y0 y1 y2 y3 y4 y5 y6 y7
   unfold spec_liWith.l1
   repeat' first
   | (with_reducible exact LeO.refl _)
   | (with_reducible exact LeO.none _)
   | (with_reducible refine LeO.ite ?_ ?_)
   | (with_reducible refine LeO.bind ?_ (fun _ => ?_))
   | exact ih0 _ _ _ _ _
   | exact ih1 _ _ _ _ _ _ _ _
   | exact ih2 _ _ _ _ _ _ _ _ _ _
   | exact LeO.none _
   | refine LeO.ite ?_ ?_
   | refine LeO.bind ?_ (fun _ => ?_)
  ·intro y0 y1 y2 y3 y4 y5 y6 y7 y8 y9
   unfold spec_liWith.j2
   repeat' first
   | (with_reducible exact LeO.refl _)
   | (with_reducible exact LeO.none _)
   | (with_reducible refine LeO.ite ?_ ?_)
   | (with_reducible refine LeO.bind ?_ (fun _ => ?_))
   | exact ih0 _ _ _ _ _
   | exact ih1 _ _ _ _ _ _ _ _
   | exact ih2 _ _ _ _ _ _ _ _ _ _
   | exact LeO.none _
   | refine LeO.ite ?_ ?_
   | refine LeO.bind ?_ (fun _ => ?_)
theorem spec_liWith.mono : ∀ a0 a1 a2 k, LeO (spec_liWith.f k a0 a1 a2) (spec_liWith.f (k + 1) a0 a1 a2) := by
 intro a0 a1 a2 k
 obtain ⟨ih0, ih1, ih2⟩ := spec_liWith.mono_l k
 unfold spec_liWith.f
 repeat' first
  | (with_reducible exact LeO.refl _)
  | (with_reducible exact LeO.none _)
  | (with_reducible refine LeO.ite ?_ ?_)
  | (with_reducible refine LeO.bind ?_ (fun _ => ?_))
  | exact ih0 _ _ _ _ _
  | exact ih1 _ _ _ _ _ _ _ _
  | exact ih2 _ _ _ _ _ _ _ _ _ _
  | exact LeO.none _
  | refine LeO.ite ?_ ?_
  | refine LeO.bind ?_ (fun _ => ?_)
set_option maxHeartbeats 8000000 in
set_option maxRecDepth 100000 in
theorem spec_liWith.calls (k : Nat) (A0_0 : Option Addr) (c0_0 : Nat) (l0_0 : List Int) (A1 : Option Addr) (c1 : Nat) (l1 : List Int) (a2 : Int) (r : List Int) (w : World) (hr0_0 : Kd.C (Kd.int .i64) w A0_0 l0_0.length l0_0) (hc0_0 : l0_0.length ≤ c0_0) (hr1 : Kd.C (Kd.int .i64) w A1 l1.length l1) (hc1 : l1.length ≤ c1) (h : spec_liWith.f k l0_0 l1 a2 = some r) :
 Calls Try.prog 116 #[.agg #[.slice A0_0 l0_0.length c0_0], .slice A1 l1.length c1, .int .i64 a2] w fun e w' => ∃ v0_ : Value, e = .returned (v0_) ∧ Kd.R (Kd.int .i64) 3 w' w.heap.size (fun _ => True) v0_ r ∧ Below w.heap.size w w' := by
 have hu26 := Try.underlying26
 have HR0_0 := am hr0_0
 have HC0_0 := am hc0_0
 clear hr0_0 hc0_0
 have HR1 := am hr1
 have HC1 := am hc1
 clear hr1 hc1
 have HB := am (Below.refl w.heap.size w)
 have H : (spec_liWith.l0 k l1 a2 ([] : List Int) 0 l0_0) = some r := h
 clear h
 have H' := am H
 clear H
 go_enter Try.func116, Try.ntmps116
 go_wp2_with (first | ((with_reducible refine gate_dst (N := 3) rfl ?_); refine qx (N := 3) (cs := #[.slice A0_0 l0_0.length c0_0]) (t := 26) ?_; intro gb991 hg w4 hbox hb; have n0_ := am (below_step qB hb); have BK991 := am (hbox); have GW991 := am (qg w hg); have GE991 := am (qg w hg); clear HB; have HB := n0_; clear n0_; clear hb hbox hg))
 go_loopg [2, 7, 8] k (fun kq v2 v7 v8 w' => ∃ (x2_1 : Int) (x7_1 : List Int) (x8_1 : Int), v2 = .int .i64 x2_1 ∧ v8 = .int .i64 x8_1 ∧ Aside0 (spec_liWith.l0 kq l1 x2_1 x7_1 x8_1 l0_0 = some r) ∧ Aside0 (kq ≤ k) ∧ Aside0 (Kd.R (Kd.int .i64) 3 w' w.heap.size (fun _ => True) v7 x7_1) ∧ Aside0 (w'.heap[gb991]? = some (.cells #[(.slice A0_0 l0_0.length c0_0)] 26 (0, 0))) ∧ Aside0 (Below w.heap.size w w'))
 case atStart => exact ⟨(a2), (([] : List Int)), (0), qe, qe, H', ⟨Nat.le_refl _⟩, ⟨by first | exact Kd.R_nil _ _ _ _ _ | exact Kd.N_nil _ _ _ _ _ | exact Kd.V_nil _ _ _ _ _ | exact Kd.Q_nil _ _ _ _ _ | exact Kd.S_nil _ _ _ _ _⟩, ⟨qb BK991.out⟩, ⟨qB⟩⟩
 case round =>
  clear H'
  try clear c1
  try clear p2
  obtain ⟨x2_1, x7_1, x8_1, rfl, rfl, HA, HK1, HO_7, BK991, HB⟩ := hrel
  cases gk with
  | zero => exact absurd HA.out (by simp [spec_liWith.l0])
  | succ k1 =>
   have H := HA.out
   clear HA
   simp only [spec_liWith.l0] at H
   by_cases c5 : (x7_1.length : Int) < (l0_0.length : Int)
   ·rw [if_pos c5] at H
    have c5b0 := decide_eq_true c5
    have c5b1 : decide (x7_1.length < l0_0.length) = true := decide_eq_true (Int.ofNat_lt.mp c5)
    clear c5
    have H' := am H
    clear H
    obtain ⟨Ao6, co6, eo6⟩ := Kd.R_slice HO_7.out
    subst eo6
    have hcz7_0 := qz wr BK991.out
    have hfz7_0 := blk_frozen BK991.out 0
    go_wp2
    go_loopg [2, 7, 8, 21] k1 (fun kq v2 v7 v8 v21 w' => ∃ (x2_2 : Int) (x7_2 : List Int) (x8_2 : Int) (x21_2 : Int), v2 = .int .i64 x2_2 ∧ v8 = .int .i64 x8_2 ∧ v21 = .int .i64 x21_2 ∧ Aside0 (spec_liWith.l1 kq l1 x2_2 x7_2 x8_2 l0_0 (l0_0.length : Int) x21_2 l0_0 = some r) ∧ Aside0 (kq ≤ k1) ∧ Aside0 (Kd.R (Kd.int .i64) 3 w' w.heap.size (fun _ => True) v7 x7_2) ∧ Aside0 (w'.heap[gb991]? = some (.cells #[(.slice A0_0 l0_0.length c0_0)] 26 (0, 0))) ∧ Aside0 (Below w.heap.size w w'))
    case atStart => exact ⟨(x2_1), (x7_1), (x8_1), (0), qe, qe, qe, H', ⟨Nat.le_refl _⟩, ⟨qR HO_7.out⟩, ⟨qb BK991.out⟩, ⟨qB⟩⟩
    case round =>
     clear H'
     try clear c1
     try clear p2
     try clear c5
     try clear c5b0
     try clear c5b1
     try clear hcz7_0
     try clear hfz7_0
     try clear p2
     obtain ⟨x2_2, x7_2, x8_2, x21_2, rfl, rfl, rfl, HA, HK2, HO_7, BK991, HB⟩ := hrel
     cases gk with
     | zero => exact absurd HA.out (by simp [spec_liWith.l1])
     | succ k2 =>
      have H := HA.out
      clear HA
      simp only [spec_liWith.l1] at H
      by_cases c8 : x21_2 < (l0_0.length : Int)
      ·rw [if_pos c8] at H
       have c8b0 := decide_eq_true c8
       clear c8
       by_cases c9 : 0 ≤ x21_2
       rotate_left
       ·rw [if_neg c9] at H
        exact absurd H (by simp)
       rw [if_pos c9] at H
       have c9b0 := decide_eq_true c9
       clear c9
       by_cases c10 : x21_2 < (l0_0.length : Int)
       rotate_left
       ·rw [if_neg c10] at H
        exact absurd H (by simp)
       rw [if_pos c10] at H
       have c10b0 := decide_eq_true c10
       clear c10
       have HC11 := am H
       clear H
       have p992 : 0 ≤ (x21_2 : Int) := qd
       have q992 : x21_2 < (l0_0.length : Int) := qd
       obtain ⟨ad992, e992, hx992_0⟩ := Kd.at_int HR0_0.out x21_2 p992 q992
       cases e992
       replace hx992_0 := (HB.out.cell (World.block_lt_of_cell? w _ hx992_0)).trans hx992_0
       replace p992 := eq_true p992
       replace q992 := eq_true q992
       go_upto_region 7 with (fail)
       go_cut [34] (fun v34 wc => ∃ (kq : Nat) (x34_10 : Bool), v34 = .bool x34_10 ∧ Aside0 (spec_liWith.j2 kq l1 x2_2 x7_2 x8_2 x21_2 l0_0 (l0_0.length : Int) x21_2 x34_10 l0_0 = some r) ∧ Aside0 (kq ≤ k2) ∧ Aside0 (Kd.R (Kd.int .i64) 3 wc w.heap.size (fun _ => True) u7 x7_2) ∧ Aside0 (wc.heap[gb991]? = some (.cells #[(.slice (some ad992) l0_0.length c0_0)] 26 (0, 0))) ∧ Aside0 (Below w.heap.size w wc))
       case first =>
        have H := HC11.out
        clear HC11
        replace H := Option.bind_eq_some_iff.mp H
        obtain ⟨t993, A120, H⟩ := H
        replace H : (if t993 = true then (spec_liWith.j2 k2 l1 x2_2 x7_2 x8_2 x21_2 l0_0 (l0_0.length : Int) x21_2 true l0_0) else (spec_liWith.j2 k2 l1 x2_2 x7_2 x8_2 x21_2 l0_0 (l0_0.length : Int) x21_2 ((Go.bits .andNot .i64 (rd l0_0 x21_2) x8_2) != 0) l0_0)) = some r := H
        have A12 := am A120
        clear A120
        by_cases c13 : t993 = true
        ·subst c13
         have H1 : (spec_liWith.j2 k2 l1 x2_2 x7_2 x8_2 x21_2 l0_0 (l0_0.length : Int) x21_2 true l0_0) = some r := by rw [if_pos rfl] at H; exact H
         clear H
         have H := H1
         clear H1
         have H' := am H
         clear H
         go_wp2_with (first | ((with_reducible refine gate_callee (f := 93) rfl ?_); refine gL (some 28) Try.func93 #[.int .i64 x8_2, .int .i64 x21_2] ?_; (with_reducible refine (spec_poIn.calls x8_2 x21_2 true _ A12.out).mono ?_); rintro e w' ⟨rfl, ⟨nd, rfl⟩⟩; refine ⟨_, rfl, ?_⟩))
         go_meet
         case rel => exact ⟨_, (true), qe, H', ⟨by have := HK1.out; have := HK2.out; first | omega | exact Nat.le_refl _⟩, ⟨qR HO_7.out⟩, ⟨qb BK991.out⟩, ⟨qB⟩⟩
        ·replace c13 := Bool.eq_false_iff.mpr c13
         subst c13
         have H1 : (spec_liWith.j2 k2 l1 x2_2 x7_2 x8_2 x21_2 l0_0 (l0_0.length : Int) x21_2 ((Go.bits .andNot .i64 (rd l0_0 x21_2) x8_2) != 0) l0_0) = some r := by rw [if_neg (show ¬ (false = true) by decide)] at H; exact H
         clear H
         have H := H1
         clear H1
         have H' := am H
         clear H
         go_wp2_with (first | ((with_reducible refine gate_callee (f := 93) rfl ?_); refine gL (some 28) Try.func93 #[.int .i64 x8_2, .int .i64 x21_2] ?_; (with_reducible refine (spec_poIn.calls x8_2 x21_2 false _ A12.out).mono ?_); rintro e w' ⟨rfl, ⟨nd, rfl⟩⟩; refine ⟨_, rfl, ?_⟩))
         go_meet
         case rel => exact ⟨_, (((Go.bits .andNot .i64 (rd l0_0 x21_2) x8_2) != 0)), qe, H', ⟨by have := HK1.out; have := HK2.out; first | omega | exact Nat.le_refl _⟩, ⟨qR HO_7.out⟩, ⟨qb BK991.out⟩, ⟨qB⟩⟩
       case rest =>
        clear HC11
        try clear c1
        try clear p2
        try clear c5
        try clear c5b0
        try clear c5b1
        try clear c8
        try clear c8b0
        try clear c9
        try clear c9b0
        try clear p9
        try clear q9
        try clear hx9
        try clear c10
        try clear c10b0
        try clear c11
        try clear c13
        try clear hcz7_0
        try clear hfz7_0
        try clear hx992_0
        try clear p2
        try clear p992
        try clear q992
        obtain ⟨kq, x34_10, rfl, HA, HJ10, HO_7, BK991, HB⟩ := hcut
        cases kq with
        | zero => exact absurd HA.out (by simp [spec_liWith.j2])
        | succ kj10 =>
         have H := HA.out
         clear HA
         simp only [spec_liWith.j2] at H
         by_cases c14 : x34_10 = true
         ·subst c14
          have H1 : (spec_liWith.l1 kj10 l1 x2_2 x7_2 x8_2 l0_0 (l0_0.length : Int) (wrap64 (x21_2 + 1)) l0_0) = some r := by rw [if_pos rfl] at H; exact H
          clear H
          have H := H1
          clear H1
          have H' := am H
          clear H
          go_wp2
          go_roundg kj10
          case measure => have := HK1.out; have := HK2.out; have := HJ10.out; omega
          case rel => exact ⟨(x2_2), (x7_2), (x8_2), (wrap64 (x21_2 + 1)), qe, qe, qe, H', ⟨by have := HK1.out; have := HK2.out; have := HJ10.out; omega⟩, ⟨qR HO_7.out⟩, ⟨qb BK991.out⟩, ⟨qB⟩⟩
         ·replace c14 := Bool.eq_false_iff.mpr c14
          subst c14
          have H1 : (if 0 ≤ x21_2 then (if 0 ≤ (Go.bits .or .i64 x8_2 (shl .i64 1 x21_2)) then (if (Go.bits .or .i64 x8_2 (shl .i64 1 x21_2)) < (l1.length : Int) then (if x2_2 < (rd l1 (Go.bits .or .i64 x8_2 (shl .i64 1 x21_2))) then (if x7_2.length < 17592186044416 then (spec_liWith.l0 kj10 l1 x2_2 (x7_2 ++ [x21_2]) (Go.bits .or .i64 x8_2 (shl .i64 1 x21_2)) l0_0) else (none)) else (spec_liWith.l1 kj10 l1 (wrap64 (x2_2 - (rd l1 (Go.bits .or .i64 x8_2 (shl .i64 1 x21_2))))) x7_2 x8_2 l0_0 (l0_0.length : Int) (wrap64 (x21_2 + 1)) l0_0)) else (none)) else (none)) else (none)) = some r := by rw [if_neg (show ¬ (false = true) by decide)] at H; exact H
          clear H
          have H := H1
          clear H1
          by_cases c15 : 0 ≤ x21_2
          rotate_left
          ·rw [if_neg c15] at H
           exact absurd H (by simp)
          rw [if_pos c15] at H
          have c15b0 := eq_true c15
          have c15b1 := decide_eq_true c15
          clear c15
          obtain ⟨ji16, hji16⟩ : ∃ j_ : Int, (shl .i64 1 x21_2) = j_ := ⟨_, rfl⟩
          replace H : (if 0 ≤ (Go.bits .or .i64 x8_2 (ji16)) then (if (Go.bits .or .i64 x8_2 (ji16)) < (l1.length : Int) then (if x2_2 < (rd l1 (Go.bits .or .i64 x8_2 (ji16))) then (if x7_2.length < 17592186044416 then (spec_liWith.l0 kj10 l1 x2_2 (x7_2 ++ [x21_2]) (Go.bits .or .i64 x8_2 (ji16)) l0_0) else (none)) else (spec_liWith.l1 kj10 l1 (wrap64 (x2_2 - (rd l1 (Go.bits .or .i64 x8_2 (ji16))))) x7_2 x8_2 l0_0 (l0_0.length : Int) (wrap64 (x21_2 + 1)) l0_0)) else (none)) else (none)) = some r := by first | (rw [hji16] at H; exact H) | (simp only [hji16] at H ⊢; exact H)
          have hji16_ : (IntKind.i64.wrap (1 * 2 ^ min x21_2.toNat 64)) = ji16 := hji16
          have hji16z : x21_2 ≤ 64 → (IntKind.i64.wrap (1 * 2 ^ x21_2.toNat)) = ji16 := shl_small hji16
          have hji16u : (IntKind.i64.wrap (2 ^ min x21_2.toNat 64)) = ji16 := by have h_ := hji16_; rw [Int.one_mul] at h_; exact h_
          have hji16v : x21_2 ≤ 64 → (IntKind.i64.wrap (2 ^ x21_2.toNat)) = ji16 := fun hle_ => by have h_ := hji16z hle_; rw [Int.one_mul] at h_; exact h_
          have hji16y : (wrap64 (1 * 2 ^ min x21_2.toNat 64)) = ji16 := (i64_w _).symm.trans hji16_
          have hji16x : x21_2 ≤ 64 → (wrap64 (1 * 2 ^ x21_2.toNat)) = ji16 := fun h_ => (i64_w _).symm.trans (hji16z h_)
          by_cases c17 : 0 ≤ (Go.bits .or .i64 x8_2 (ji16))
          rotate_left
          ·rw [if_neg c17] at H
           exact absurd H (by simp)
          rw [if_pos c17] at H
          have c17b0 := decide_eq_true c17
          clear c17
          by_cases c18 : (Go.bits .or .i64 x8_2 (ji16)) < (l1.length : Int)
          rotate_left
          ·rw [if_neg c18] at H
           exact absurd H (by simp)
          rw [if_pos c18] at H
          have c18b0 := decide_eq_true c18
          clear c18
          by_cases c19 : x2_2 < (rd l1 (Go.bits .or .i64 x8_2 (ji16)))
          ·rw [if_pos c19] at H
           have c19b0 := decide_eq_true c19
           clear c19
           by_cases c20 : x7_2.length < 17592186044416
           rotate_left
           ·rw [if_neg c20] at H
            exact absurd H (by simp)
           rw [if_pos c20] at H
           have LMc20 := am c20
           clear c20
           obtain ⟨y995, hy995⟩ : ∃ y_ : List Int, y_ = (x7_2 ++ [x21_2]) := ⟨_, rfl⟩
           replace H : (spec_liWith.l0 kj10 l1 x2_2 y995 (Go.bits .or .i64 x8_2 (ji16)) l0_0) = some r := by first | (rw [hy995]; with_reducible exact H) | (have H2_ := (Option.bind_some _ _).symm.trans H; rw [hy995]; with_reducible exact H2_) | (have H2_ := (Option.bind_some _ _).symm.trans H; with_reducible exact H2_) | with_reducible exact H | (rw [hy995]; exact H) | exact H
           have Ny995 := am hy995
           clear hy995
           have c21b0 := eq_true (qd : 0 ≤ x21_2)
           have c22b0 := True.intro
           have H' := am H
           clear H
           have p994 : 0 ≤ ((Go.bits .or .i64 x8_2 (ji16)) : Int) := qd
           have q994 : (Go.bits .or .i64 x8_2 (ji16)) < (l1.length : Int) := qd
           obtain ⟨ad994, e994, hx994_0⟩ := Kd.at_int HR1.out (Go.bits .or .i64 x8_2 (ji16)) p994 q994
           cases e994
           replace hx994_0 := (HB.out.cell (World.block_lt_of_cell? w _ hx994_0)).trans hx994_0
           replace p994 := eq_true p994
           replace q994 := eq_true q994
           go_wp2_with (first | ((with_reducible refine gate_builtin (b := .append) (xs := #[.tmp 45, .tmp 47]) rfl ?_); at_builtin; refine Kd.R_append (Kd.int .i64) (w0 := w) w.heap.size rfl (.tmp 45) (.tmp 47) 24 3 (.int .i64 0) 8 rfl Try.underlying24 info3 rfl (by decide) (by omega) u7 x7_2 x21_2 [.int .i64 x21_2] (fun _ => True) (fun _ => False) rfl rfl ?aP (fun _ hk => hk.elim) ?aF ?aO ?aB ?aS ?aL ?_; (case aP => exact rfl); (case aB => exact qB); (case aF => exact (fun _ _ => trivial)); (case aO => exact (qR HO_7.out)); (case aS => exact (below_size qB)); (case aL => have := LMc20.out; omega); intro v996 w23 ho hb hg hat; rw [← Ny995.out] at ho; replace BK991 := am (blk_grown (g := gb991) (o := .cells #[.slice (some ad992) l0_0.length c0_0] 26 (0, 0)) (qb BK991.out) hg (Kd.R_ne HO_7.out BK991.out (by decide))); have n1_ := am (hb); have HO997 := am (ho); clear HB HO_7; have HB := n1_; clear n1_; clear ho hb hg hat))
           go_roundg kj10
           case measure => have := HK1.out; have := HK2.out; have := HJ10.out; omega
           case rel => exact ⟨(x2_2), (y995), (Go.bits .or .i64 x8_2 (ji16)), qe, (by first | rfl | (simp; done) | (simp only [← hji16] <;> (first | rfl | simp)) | (simp [*]; done)), H', ⟨by have := HK1.out; have := HK2.out; have := HJ10.out; omega⟩, ⟨qR HO997.out⟩, ⟨qb BK991.out⟩, ⟨qB⟩⟩
          ·rw [if_neg c19] at H
           have c19b0 := decide_eq_false c19
           clear c19
           have H' := am H
           clear H
           have p994 : 0 ≤ ((Go.bits .or .i64 x8_2 (ji16)) : Int) := qd
           have q994 : (Go.bits .or .i64 x8_2 (ji16)) < (l1.length : Int) := qd
           obtain ⟨ad994, e994, hx994_0⟩ := Kd.at_int HR1.out (Go.bits .or .i64 x8_2 (ji16)) p994 q994
           cases e994
           replace hx994_0 := (HB.out.cell (World.block_lt_of_cell? w _ hx994_0)).trans hx994_0
           replace p994 := eq_true p994
           replace q994 := eq_true q994
           go_wp2
           go_roundg kj10
           case measure => have := HK1.out; have := HK2.out; have := HJ10.out; omega
           case rel => exact ⟨(wrap64 (x2_2 - (rd l1 (Go.bits .or .i64 x8_2 (ji16))))), (x7_2), (x8_2), (wrap64 (x21_2 + 1)), (by first | rfl | (simp; done) | (simp only [← hji16] <;> (first | rfl | simp)) | (simp [*]; done)), qe, qe, H', ⟨by have := HK1.out; have := HK2.out; have := HJ10.out; omega⟩, ⟨qR HO_7.out⟩, ⟨qb BK991.out⟩, ⟨qB⟩⟩
      ·rw [if_neg c8] at H
       have c8b0 := decide_eq_false c8
       clear c8
       have H' := am H
       clear H
       go_wp2
       go_roundg k2
       case measure => have := HK1.out; have := HK2.out; omega
       case rel => exact ⟨(x2_2), (x7_2), (x8_2), qe, qe, H', ⟨by have := HK1.out; have := HK2.out; omega⟩, ⟨qR HO_7.out⟩, ⟨qb BK991.out⟩, ⟨qB⟩⟩
   ·rw [if_neg c5] at H
    have c5b0 := decide_eq_false c5
    have c5b1 : decide (x7_1.length < l0_0.length) = false := decide_eq_false (fun h => c5 (Int.ofNat_lt.mpr h))
    clear c5
    obtain rfl := Option.some.inj H
    obtain ⟨Ao24, co24, eo24⟩ := Kd.R_slice HO_7.out
    subst eo24
    have hcz25_0 := qz wr BK991.out
    have hfz25_0 := blk_frozen BK991.out 0
    go_wp2
    go_ret
    exact ⟨_, qr, qR HO_7.out, qB⟩
def spec_liAll.l0 : Nat → List Int → List (List Int) → Int → List Int → Option ((List (List Int)) × Bool)
 | 0, _, _, _, _ => none
 | k + 1, x4, x5, x6, x1028000 => if 0 < (x4.length : Int) then (if x6 < (rd x4 0) then ((spec_liWith.f k x1028000 x4 x6).bind fun t1033 => (if x5.length < 5864062014805 then (spec_liAll.l0 k x4 (x5 ++ [t1033]) (wrap64 (x6 + 1)) x1028000) else (none))) else (some (x5, true))) else (none)
def spec_liAll.f (k : Nat) (l0_0 : List Int) : Option ((List (List Int)) × Bool) := (spec_liCounts.f k l0_0).bind fun t1028 => (if 0 < (t1028.length : Int) then (if (rd t1028 0) > 500 then (some (([] : List (List Int)), false)) else (spec_liAll.l0 k t1028 ([] : List (List Int)) 0 l0_0)) else (none))
theorem spec_liAll.mono_l : ∀ k, (∀ y0 y1 y2 y3, LeO (spec_liAll.l0 k y0 y1 y2 y3) (spec_liAll.l0 (k + 1) y0 y1 y2 y3))
 | 0 => fun _ _ _ _ r h => by simp [spec_liAll.l0] at h
 | k + 1 => by
  have ih0 := spec_liAll.mono_l k
  ·intro y0 y1 y2 y3
   unfold spec_liAll.l0
   repeat' first
   | (with_reducible exact spec_liCounts.mono _ _)
   | (with_reducible exact spec_liWith.mono _ _ _ _)
   | (with_reducible exact LeO.refl _)
   | (with_reducible exact LeO.none _)
   | (with_reducible refine LeO.ite ?_ ?_)
   | (with_reducible refine LeO.bind ?_ (fun _ => ?_))
   | exact ih0 _ _ _ _
   | exact spec_liCounts.mono _ _
   | exact spec_liWith.mono _ _ _ _
   | exact LeO.none _
   | refine LeO.ite ?_ ?_
   | refine LeO.bind ?_ (fun _ => ?_)
theorem spec_liAll.mono : ∀ a0 k, LeO (spec_liAll.f k a0) (spec_liAll.f (k + 1) a0) := by
 intro a0 k
 have ih0 := spec_liAll.mono_l k
 unfold spec_liAll.f
 repeat' first
  | (with_reducible exact spec_liCounts.mono _ _)
  | (with_reducible exact spec_liWith.mono _ _ _ _)
  | (with_reducible exact LeO.refl _)
  | (with_reducible exact LeO.none _)
  | (with_reducible refine LeO.ite ?_ ?_)
  | (with_reducible refine LeO.bind ?_ (fun _ => ?_))
  | exact ih0 _ _ _ _
  | exact spec_liCounts.mono _ _
  | exact spec_liWith.mono _ _ _ _
  | exact LeO.none _
  | refine LeO.ite ?_ ?_
  | refine LeO.bind ?_ (fun _ => ?_)
set_option maxHeartbeats 8000000 in
set_option maxRecDepth 100000 in
theorem spec_liAll.calls (k : Nat) (A0_0 : Option Addr) (c0_0 : Nat) (l0_0 : List Int) (r1 : List (List Int)) (r2 : Bool) (w : World) (hr0_0 : Kd.C (Kd.int .i64) w A0_0 l0_0.length l0_0) (hc0_0 : l0_0.length ≤ c0_0) (h : spec_liAll.f k l0_0 = some (r1, r2)) :
 Calls Try.prog 119 #[.agg #[.slice A0_0 l0_0.length c0_0]] w fun e w' => ∃ v0_ : Value, e = .returned (.tuple #[v0_, .bool r2]) ∧ Kd.S (Kd.slice 3 (Kd.int .i64)) 24 w' w.heap.size (fun _ => True) v0_ r1 ∧ Below w.heap.size w w' := by
 have hu26 := Try.underlying26
 have HR0_0 := am hr0_0
 have HC0_0 := am hc0_0
 clear hr0_0 hc0_0
 have HB := am (Below.refl w.heap.size w)
 have H : ((spec_liCounts.f k l0_0).bind fun t1028 => (if 0 < (t1028.length : Int) then (if (rd t1028 0) > 500 then (some (([] : List (List Int)), false)) else (spec_liAll.l0 k t1028 ([] : List (List Int)) 0 l0_0)) else (none))) = some (r1, r2) := h
 clear h
 replace H := Option.bind_eq_some_iff.mp H
 obtain ⟨t1028, A20, H⟩ := H
 replace H : (if 0 < (t1028.length : Int) then (if (rd t1028 0) > 500 then (some (([] : List (List Int)), false)) else (spec_liAll.l0 k t1028 ([] : List (List Int)) 0 l0_0)) else (none)) = some (r1, r2) := H
 have A2 := am A20
 clear A20
 by_cases c3 : 0 < (t1028.length : Int)
 ·rw [if_pos c3] at H
  have c3b0 := decide_eq_true c3
  have c3b1 : decide (0 < t1028.length) = true := decide_eq_true (by omega)
  clear c3
  by_cases c4 : (rd t1028 0) > 500
  ·rw [if_pos c4] at H
   have c4b0 : decide (500 < (rd t1028 0)) = true := decide_eq_true c4
   clear c4
   simp only [Option.some.injEq, Prod.mk.injEq] at H
   obtain ⟨rfl, rfl⟩ := H
   go_enter Try.func119, Try.ntmps119
   go_wp2_with (first | ((with_reducible refine gate_dst (N := 1) rfl ?_); refine qx (N := 1) (cs := #[.slice A0_0 l0_0.length c0_0]) (t := 26) ?_; intro gb1027 hg w5 hbox hb; have n0_ := am (below_step qB hb); have BK1027 := am (hbox); have GW1027 := am (qg w hg); have GE1027 := am (qg w hg); clear HB; have HB := n0_; clear n0_; clear hb hbox hg; have hcz6_0 := qz w5 BK1027.out; have hfz6_0 := blk_frozen BK1027.out 0) | ((with_reducible refine gate_callee (f := 111) rfl ?_); refine gL (some 8) Try.func111 #[.agg #[.slice A0_0 l0_0.length c0_0]] ?_; (with_reducible refine (spec_liCounts.calls k _ _ l0_0 t1028 _ ?side1 ?side2 A2.out).mono ?_); (case side1 => exact qC (Kd.C_below HR0_0.out HB.out)); (case side2 => exact HC0_0.out); rintro e w7 ⟨v1029, rfl, ho0, hb⟩; refine ⟨_, rfl, ?_⟩; have HO1030 := am (Kd.R_lower ho0 (below_size qB)); replace BK1027 := am (blk_below (g := gb1027) (o := .cells #[.slice A0_0 l0_0.length c0_0] 26 (0, 0)) (qb BK1027.out) hb); replace HB := am (below_step qB hb); (try clear hb); (try clear hb2); (try clear hk); (try clear hi); (try clear ho0); obtain ⟨Ao8, co8, eo8⟩ := Kd.R_slice HO1030.out; subst eo8; have p1031 : 0 ≤ (0 : Int) := (by omega); have q1031 : 0 < (t1028.length : Int) := qd; obtain ⟨ad1031, e1031, hx1031_0⟩ := Kd.at_int (Kd.R_reads' HO1030.out).2.2 0 p1031 q1031; cases e1031; have qi1031 : (0 < t1028.length) = True := eq_true (by omega); (try rw [show ((0 : Int)).toNat = 0 from rfl] at hx1031_0); (try rw [Addr.add_zero'] at hx1031_0); replace p1031 := eq_true p1031; replace q1031 := eq_true q1031))
   go_ret2
   exact ⟨_, qr, by first | exact Kd.S_nil _ _ _ _ _ | exact Kd.N_nil _ _ _ _ _ | exact Kd.V_nil _ _ _ _ _ | exact Kd.Q_nil _ _ _ _ _ | exact Kd.R_nil _ _ _ _ _, qB⟩
  ·rw [if_neg c4] at H
   have c4b0 : decide (500 < (rd t1028 0)) = false := decide_eq_false c4
   clear c4
   have H' := am H
   clear H
   go_enter Try.func119, Try.ntmps119
   go_wp2_with (first | ((with_reducible refine gate_dst (N := 1) rfl ?_); refine qx (N := 1) (cs := #[.slice A0_0 l0_0.length c0_0]) (t := 26) ?_; intro gb1027 hg w9 hbox hb; have n0_ := am (below_step qB hb); have BK1027 := am (hbox); have GW1027 := am (qg w hg); have GE1027 := am (qg w hg); clear HB; have HB := n0_; clear n0_; clear hb hbox hg; have hcz10_0 := qz w9 BK1027.out; have hfz10_0 := blk_frozen BK1027.out 0) | ((with_reducible refine gate_callee (f := 111) rfl ?_); refine gL (some 8) Try.func111 #[.agg #[.slice A0_0 l0_0.length c0_0]] ?_; (with_reducible refine (spec_liCounts.calls k _ _ l0_0 t1028 _ ?side1 ?side2 A2.out).mono ?_); (case side1 => exact qC (Kd.C_below HR0_0.out HB.out)); (case side2 => exact HC0_0.out); rintro e w11 ⟨v1029, rfl, ho0, hb⟩; refine ⟨_, rfl, ?_⟩; have HO1030 := am (Kd.R_lower ho0 (below_size qB)); replace BK1027 := am (blk_below (g := gb1027) (o := .cells #[.slice A0_0 l0_0.length c0_0] 26 (0, 0)) (qb BK1027.out) hb); replace HB := am (below_step qB hb); (try clear hb); (try clear hb2); (try clear hk); (try clear hi); (try clear ho0); obtain ⟨Ao12, co12, eo12⟩ := Kd.R_slice HO1030.out; subst eo12; have p1031 : 0 ≤ (0 : Int) := (by omega); have q1031 : 0 < (t1028.length : Int) := qd; obtain ⟨ad1031, e1031, hx1031_0⟩ := Kd.at_int (Kd.R_reads' HO1030.out).2.2 0 p1031 q1031; cases e1031; have qi1031 : (0 < t1028.length) = True := eq_true (by omega); (try rw [show ((0 : Int)).toNat = 0 from rfl] at hx1031_0); (try rw [Addr.add_zero'] at hx1031_0); replace p1031 := eq_true p1031; replace q1031 := eq_true q1031))
   go_loopg [5, 6] k (fun kq v5 v6 w' => ∃ (x5_1 : List (List Int)) (x6_1 : Int), v6 = .int .i64 x6_1 ∧ Aside0 (spec_liAll.l0 kq t1028 x5_1 x6_1 l0_0 = some (r1, r2)) ∧ Aside0 (kq ≤ k) ∧ Aside0 (Kd.R (Kd.int .i64) 3 w' w.heap.size (fun _ => True) (.slice (some ad1031) t1028.length co12) t1028) ∧ Aside0 (Kd.S (Kd.slice 3 (Kd.int .i64)) 24 w' w.heap.size (fun k_ => some k_ ≠ ((.slice (some ad1031) t1028.length co12) : Value).ownBlock) v5 x5_1) ∧ Aside0 (w'.heap[gb1027]? = some (.cells #[(.slice A0_0 l0_0.length c0_0)] 26 (0, 0))) ∧ Aside0 (Below w.heap.size w w'))
   case atStart => exact ⟨(([] : List (List Int))), (0), qe, H', ⟨Nat.le_refl _⟩, ⟨qR HO1030.out⟩, ⟨by first | exact Kd.S_nil _ _ _ _ _ | exact Kd.N_nil _ _ _ _ _ | exact Kd.V_nil _ _ _ _ _ | exact Kd.Q_nil _ _ _ _ _ | exact Kd.R_nil _ _ _ _ _⟩, ⟨qb BK1027.out⟩, ⟨qB⟩⟩
   case round =>
    clear H'
    try clear c1
    try clear p1
    try clear q1
    try clear hx1
    try clear qi1
    try clear p2
    try clear c3
    try clear c3b0
    try clear c3b1
    try clear c4
    try clear c4b0
    try clear p10
    try clear q10
    try clear hx10
    try clear qi10
    try clear c11
    try clear hcz10_0
    try clear hcz6_0
    try clear hfz10_0
    try clear hfz6_0
    try clear hx1031_0
    try clear p1031
    try clear q1031
    obtain ⟨x5_1, x6_1, rfl, HA, HK1, HO_4, HO_5, BK1027, HB⟩ := hrel
    cases gk with
    | zero => exact absurd HA.out (by simp [spec_liAll.l0])
    | succ k1 =>
     have H := HA.out
     clear HA
     simp only [spec_liAll.l0] at H
     by_cases c13 : 0 < (t1028.length : Int)
     rotate_left
     ·rw [if_neg c13] at H
      exact absurd H (by simp)
     rw [if_pos c13] at H
     have c13b0 := decide_eq_true c13
     have c13b1 : decide (0 < t1028.length) = true := decide_eq_true (by omega)
     clear c13
     by_cases c14 : x6_1 < (rd t1028 0)
     ·rw [if_pos c14] at H
      have c14b0 := decide_eq_true c14
      clear c14
      replace H := Option.bind_eq_some_iff.mp H
      obtain ⟨t1033, A150, H⟩ := H
      replace H : (if x5_1.length < 5864062014805 then (spec_liAll.l0 k1 t1028 (x5_1 ++ [t1033]) (wrap64 (x6_1 + 1)) l0_0) else (none)) = some (r1, r2) := H
      have A15 := am A150
      clear A150
      by_cases c16 : x5_1.length < 5864062014805
      rotate_left
      ·rw [if_neg c16] at H
       exact absurd H (by simp)
      rw [if_pos c16] at H
      have LMc16 := am c16
      clear c16
      obtain ⟨y1036, hy1036⟩ : ∃ y_ : List (List Int), y_ = (x5_1 ++ [t1033]) := ⟨_, rfl⟩
      replace H : (spec_liAll.l0 k1 t1028 y1036 (wrap64 (x6_1 + 1)) l0_0) = some (r1, r2) := by first | (rw [hy1036]; with_reducible exact H) | (have H2_ := (Option.bind_some _ _).symm.trans H; rw [hy1036]; with_reducible exact H2_) | (have H2_ := (Option.bind_some _ _).symm.trans H; with_reducible exact H2_) | with_reducible exact H | (rw [hy1036]; exact H) | exact H
      have Ny1036 := am hy1036
      clear hy1036
      have H' := am H
      clear H
      have p1032 : 0 ≤ (0 : Int) := (by omega)
      have q1032 : 0 < (t1028.length : Int) := qd
      obtain ⟨ad1032, e1032, hx1032_0⟩ := Kd.at_int (Kd.R_reads' HO_4.out).2.2 0 p1032 q1032
      obtain rfl : ad1031 = ad1032 := (by injection e1032)
      have qi1032 : (0 < t1028.length) = True := eq_true (by omega)
      (try rw [show ((0 : Int)).toNat = 0 from rfl] at hx1032_0)
      (try rw [Addr.add_zero'] at hx1032_0)
      replace p1032 := eq_true p1032
      replace q1032 := eq_true q1032
      have hcz17_0 := qz wr BK1027.out
      have hfz17_0 := blk_frozen BK1027.out 0
      go_wp2_with (first | ((with_reducible refine gate_callee (f := 116) rfl ?_); refine gL (some 24) Try.func116 #[.agg #[.slice A0_0 l0_0.length c0_0], .slice (some ad1031) t1028.length co12, .int .i64 x6_1] ?_; (with_reducible refine (spec_liWith.calls k1 _ _ l0_0 _ _ t1028 x6_1 t1033 _ ?side1 ?side2 ?side3 ?side4 A15.out).mono ?_); (case side1 => exact qC (Kd.C_below HR0_0.out HB.out)); (case side2 => exact HC0_0.out); (case side3 => exact qC (Kd.R_reads' HO_4.out).2.2); (case side4 => exact (Kd.R_reads' HO_4.out).2.1); rintro e w18 ⟨v1034, rfl, ho0, hb⟩; refine ⟨_, rfl, ?_⟩; have n0_ := am (Kd.R_elder' (qR HO_4.out) (Kd.R_base ho0) hb); replace HO_5 := am (Kd.S_elder' (qS HO_5.out) (Kd.R_base ho0) hb); have HO1035 := am (Kd.R_lower (Kd.R_new' ho0 (Kd.R_lt (qR HO_4.out))) (below_size qB)); replace BK1027 := am (blk_below (g := gb1027) (o := .cells #[.slice A0_0 l0_0.length c0_0] 26 (0, 0)) (qb BK1027.out) hb); replace HB := am (below_step qB hb); clear HO_4; have HO_4 := n0_; clear n0_; (try clear hb); (try clear hb2); (try clear hk); (try clear hi); (try clear ho0); obtain ⟨Ao20, co20, eo20⟩ := Kd.R_slice HO1035.out; subst eo20) | ((with_reducible refine gate_builtin (b := .append) (xs := #[.tmp 20, .tmp 25]) rfl ?_); at_builtin; refine Kd.S_append (Kd.slice 3 (Kd.int .i64)) (w0 := w) w.heap.size rfl (.tmp 20) (.tmp 25) 58 24 (.slice none 0 0) 24 rfl Try.underlying58 info24 rfl (by decide) (by omega) u5 x5_1 t1033 [.slice Ao20 t1033.length co20] (fun k_ => some k_ ≠ (.slice (some ad1031) t1028.length co12 : Value).ownBlock) (fun k_ => some k_ = (.slice Ao20 t1033.length co20 : Value).ownBlock) rfl rfl ?aP (fun k_ hk_ => ((Kd.R_mono (ok' := fun k_ => ((fun k_ => some k_ ≠ (.slice (some ad1031) t1028.length co12 : Value).ownBlock)) k_ ∧ some k_ ≠ (u5 : Value).ownBlock) (Kd.R_apart' (HO1035.out) (Kd.S_typed HO_5.out) (by decide)) (fun k_ hk => ⟨hk.1.2, hk.2⟩))).1 k_ hk_.symm) ?aF ?aO ?aB ?aS ?aL ?_; (case aP => exact Kd.M_row (Kd.R_mono (Kd.R_tight rfl (Kd.R_mono (ok' := fun k_ => ((fun k_ => some k_ ≠ (.slice (some ad1031) t1028.length co12 : Value).ownBlock)) k_ ∧ some k_ ≠ (u5 : Value).ownBlock) (Kd.R_apart' (HO1035.out) (Kd.S_typed HO_5.out) (by decide)) (fun k_ hk => ⟨hk.1.2, hk.2⟩))) (fun _ h_ => h_))); (case aB => exact qB); (case aF => exact (fun k_ hk => Kd.fresh' (Kd.R_lt (qR HO_4.out)) k_ hk)); (case aO => exact (qS (Kd.S_mono HO_5.out (fun k_ hk => ⟨hk.1, fun e_ => hk.2 e_⟩)))); (case aS => exact (below_size qB)); (case aL => have := LMc16.out; omega); intro v1037 w19 ho hb hg hat; rw [← Ny1036.out] at ho; replace HO_4 := am (Kd.R_over' (qR HO_4.out) (Kd.S_typed (qS HO_5.out)) (by decide) hg); replace BK1027 := am (blk_grown (g := gb1027) (o := .cells #[.slice A0_0 l0_0.length c0_0] 26 (0, 0)) (qb BK1027.out) hg (Kd.S_ne HO_5.out BK1027.out (by decide))); have n2_ := am (hb); have HO1038 := am (ho); clear HB HO_5 HO1035; have HB := n2_; clear n2_; clear ho hb hg hat))
      go_roundg k1
      case measure => have := HK1.out; omega
      case rel => exact ⟨(y1036), (wrap64 (x6_1 + 1)), qe, H', ⟨by have := HK1.out; omega⟩, ⟨qR (Kd.R_mono HO_4.out (fun _ hk => trivial))⟩, ⟨qS HO1038.out⟩, ⟨qb BK1027.out⟩, ⟨qB⟩⟩
     ·rw [if_neg c14] at H
      have c14b0 := decide_eq_false c14
      clear c14
      simp only [Option.some.injEq, Prod.mk.injEq] at H
      obtain ⟨rfl, rfl⟩ := H
      have p1032 : 0 ≤ (0 : Int) := (by omega)
      have q1032 : 0 < (t1028.length : Int) := qd
      obtain ⟨ad1032, e1032, hx1032_0⟩ := Kd.at_int (Kd.R_reads' HO_4.out).2.2 0 p1032 q1032
      obtain rfl : ad1031 = ad1032 := (by injection e1032)
      have qi1032 : (0 < t1028.length) = True := eq_true (by omega)
      (try rw [show ((0 : Int)).toNat = 0 from rfl] at hx1032_0)
      (try rw [Addr.add_zero'] at hx1032_0)
      replace p1032 := eq_true p1032
      replace q1032 := eq_true q1032
      go_wp2
      go_ret2
      exact ⟨_, qr, qS (Kd.S_mono HO_5.out (fun _ hk => trivial)), qB⟩
 ·rw [if_neg c3] at H
  exact absurd H (by simp)
def spec_AllLinear.f (k : Nat) (l0_0 : List Int) : Option ((List (List Int)) × Bool) := (spec_poGood.f k l0_0).bind fun t1040 => (if t1040 = true then ((spec_liAll.f k l0_0).bind fun bt1041 => (some (bt1041.1, bt1041.2))) else (some (([] : List (List Int)), false)))
theorem spec_AllLinear.mono : ∀ a0 k, LeO (spec_AllLinear.f k a0) (spec_AllLinear.f (k + 1) a0) := by
 intro a0 k
 unfold spec_AllLinear.f
 repeat' first
  | (with_reducible exact spec_liAll.mono _ _)
  | (with_reducible exact spec_poGood.mono _ _)
  | (with_reducible exact LeO.refl _)
  | (with_reducible exact LeO.none _)
  | (with_reducible refine LeO.ite ?_ ?_)
  | (with_reducible refine LeO.bind ?_ (fun _ => ?_))
  | exact spec_liAll.mono _ _
  | exact spec_poGood.mono _ _
  | exact LeO.none _
  | refine LeO.ite ?_ ?_
  | refine LeO.bind ?_ (fun _ => ?_)
set_option maxHeartbeats 8000000 in
set_option maxRecDepth 100000 in
theorem spec_AllLinear.calls (k : Nat) (A0_0 : Option Addr) (c0_0 : Nat) (l0_0 : List Int) (r1 : List (List Int)) (r2 : Bool) (w : World) (hr0_0 : Kd.C (Kd.int .i64) w A0_0 l0_0.length l0_0) (hc0_0 : l0_0.length ≤ c0_0) (h : spec_AllLinear.f k l0_0 = some (r1, r2)) :
 Calls Try.prog 57 #[.agg #[.slice A0_0 l0_0.length c0_0]] w fun e w' => ∃ v0_ : Value, e = .returned (.tuple #[v0_, .bool r2]) ∧ Kd.S (Kd.slice 3 (Kd.int .i64)) 24 w' w.heap.size (fun _ => True) v0_ r1 ∧ Below w.heap.size w w' := by
 have hu26 := Try.underlying26
 have HR0_0 := am hr0_0
 have HC0_0 := am hc0_0
 clear hr0_0 hc0_0
 have HB := am (Below.refl w.heap.size w)
 have H : ((spec_poGood.f k l0_0).bind fun t1040 => (if t1040 = true then ((spec_liAll.f k l0_0).bind fun bt1041 => (some (bt1041.1, bt1041.2))) else (some (([] : List (List Int)), false)))) = some (r1, r2) := h
 clear h
 replace H := Option.bind_eq_some_iff.mp H
 obtain ⟨t1040, A20, H⟩ := H
 replace H : (if t1040 = true then ((spec_liAll.f k l0_0).bind fun bt1041 => (some (bt1041.1, bt1041.2))) else (some (([] : List (List Int)), false))) = some (r1, r2) := H
 have A2 := am A20
 clear A20
 by_cases c3 : t1040 = true
 ·subst c3
  have H1 : ((spec_liAll.f k l0_0).bind fun bt1041 => (some (bt1041.1, bt1041.2))) = some (r1, r2) := by rw [if_pos rfl] at H; exact H
  clear H
  have H := H1
  clear H1
  replace H := Option.bind_eq_some_iff.mp H
  obtain ⟨⟨t1041, t1044⟩, A40, H⟩ := H
  replace H : (some (t1041, t1044)) = some (r1, r2) := H
  have A4 := am A40
  clear A40
  simp only [Option.some.injEq, Prod.mk.injEq] at H
  obtain ⟨rfl, rfl⟩ := H
  go_enter Try.func57, Try.ntmps57
  go_wp2_with (first | ((with_reducible refine gate_dst (N := 1) rfl ?_); refine qx (N := 1) (cs := #[.slice A0_0 l0_0.length c0_0]) (t := 26) ?_; intro gb1039 hg w5 hbox hb; have n0_ := am (below_step qB hb); have BK1039 := am (hbox); have GW1039 := am (qg w hg); have GE1039 := am (qg w hg); clear HB; have HB := n0_; clear n0_; clear hb hbox hg; have hcz6_0 := qz w5 BK1039.out; have hfz6_0 := blk_frozen BK1039.out 0) | ((with_reducible refine gate_callee (f := 82) rfl ?_); refine gL (some 5) Try.func82 #[.agg #[.slice A0_0 l0_0.length c0_0]] ?_; (with_reducible refine (spec_poGood.calls k _ _ l0_0 true _ ?side1 ?side2 A2.out).mono ?_); (case side1 => exact qC (Kd.C_below HR0_0.out HB.out)); (case side2 => exact HC0_0.out); rintro e w7 ⟨rfl, hb⟩; refine ⟨_, rfl, ?_⟩; replace BK1039 := am (blk_below (g := gb1039) (o := .cells #[.slice A0_0 l0_0.length c0_0] 26 (0, 0)) (qb BK1039.out) hb); replace HB := am (below_step qB hb); (try clear hb); (try clear hb2); (try clear hk); (try clear hi); have hcz8_0 := qz w7 BK1039.out; have hfz8_0 := blk_frozen BK1039.out 0) | ((with_reducible refine gate_callee (f := 119) rfl ?_); refine gL (some 8) Try.func119 #[.agg #[.slice A0_0 l0_0.length c0_0]] ?_; (with_reducible refine (spec_liAll.calls k _ _ l0_0 t1041 t1044 _ ?side1 ?side2 A4.out).mono ?_); (case side1 => exact qC (Kd.C_below HR0_0.out HB.out)); (case side2 => exact HC0_0.out); rintro e w9 ⟨v1042, rfl, ho0, hb⟩; refine ⟨_, rfl, ?_⟩; have HO1043 := am (Kd.S_lower ho0 (below_size qB)); replace BK1039 := am (blk_below (g := gb1039) (o := .cells #[.slice A0_0 l0_0.length c0_0] 26 (0, 0)) (qb BK1039.out) hb); replace HB := am (below_step qB hb); (try clear hb); (try clear hb2); (try clear hk); (try clear hi); (try clear ho0)))
  go_ret2
  exact ⟨_, qr, qS HO1043.out, qB⟩
 ·replace c3 := Bool.eq_false_iff.mpr c3
  subst c3
  have H1 : (some (([] : List (List Int)), false)) = some (r1, r2) := by rw [if_neg (show ¬ (false = true) by decide)] at H; exact H
  clear H
  have H := H1
  clear H1
  simp only [Option.some.injEq, Prod.mk.injEq] at H
  obtain ⟨rfl, rfl⟩ := H
  go_enter Try.func57, Try.ntmps57
  go_wp2_with (first | ((with_reducible refine gate_dst (N := 1) rfl ?_); refine qx (N := 1) (cs := #[.slice A0_0 l0_0.length c0_0]) (t := 26) ?_; intro gb1039 hg w10 hbox hb; have n0_ := am (below_step qB hb); have BK1039 := am (hbox); have GW1039 := am (qg w hg); have GE1039 := am (qg w hg); clear HB; have HB := n0_; clear n0_; clear hb hbox hg; have hcz11_0 := qz w10 BK1039.out; have hfz11_0 := blk_frozen BK1039.out 0) | ((with_reducible refine gate_callee (f := 82) rfl ?_); refine gL (some 5) Try.func82 #[.agg #[.slice A0_0 l0_0.length c0_0]] ?_; (with_reducible refine (spec_poGood.calls k _ _ l0_0 false _ ?side1 ?side2 A2.out).mono ?_); (case side1 => exact qC (Kd.C_below HR0_0.out HB.out)); (case side2 => exact HC0_0.out); rintro e w12 ⟨rfl, hb⟩; refine ⟨_, rfl, ?_⟩; replace BK1039 := am (blk_below (g := gb1039) (o := .cells #[.slice A0_0 l0_0.length c0_0] 26 (0, 0)) (qb BK1039.out) hb); replace HB := am (below_step qB hb); (try clear hb); (try clear hb2); (try clear hk); (try clear hi)))
  go_ret2
  exact ⟨_, qr, by first | exact Kd.S_nil _ _ _ _ _ | exact Kd.N_nil _ _ _ _ _ | exact Kd.V_nil _ _ _ _ _ | exact Kd.Q_nil _ _ _ _ _ | exact Kd.R_nil _ _ _ _ _, qB⟩
def spec_LinearWith.f (k : Nat) (l0_0 : List Int) (a1 : Int) : Option (List Int × Bool) := (spec_poGood.f k l0_0).bind fun t999 => (if t999 = true then ((spec_liCounts.f k l0_0).bind fun t1000 => (if 0 < (t1000.length : Int) then ((spec_l1In.f a1 0 (wrap64 ((rd t1000 0) - 1))).bind fun t1004 => (if t1004 = true then ((spec_liWith.f k l0_0 t1000 a1).bind fun t1005 => (some (t1005, true))) else (some (([] : List Int), false)))) else (none))) else (some (([] : List Int), false)))
theorem spec_LinearWith.mono : ∀ a0 a1 k, LeO (spec_LinearWith.f k a0 a1) (spec_LinearWith.f (k + 1) a0 a1) := by
 intro a0 a1 k
 unfold spec_LinearWith.f
 repeat' first
  | (with_reducible exact spec_liCounts.mono _ _)
  | (with_reducible exact spec_liWith.mono _ _ _ _)
  | (with_reducible exact spec_poGood.mono _ _)
  | (with_reducible exact LeO.refl _)
  | (with_reducible exact LeO.none _)
  | (with_reducible refine LeO.ite ?_ ?_)
  | (with_reducible refine LeO.bind ?_ (fun _ => ?_))
  | exact spec_liCounts.mono _ _
  | exact spec_liWith.mono _ _ _ _
  | exact spec_poGood.mono _ _
  | exact LeO.none _
  | refine LeO.ite ?_ ?_
  | refine LeO.bind ?_ (fun _ => ?_)
set_option maxHeartbeats 8000000 in
set_option maxRecDepth 100000 in
theorem spec_LinearWith.calls (k : Nat) (A0_0 : Option Addr) (c0_0 : Nat) (l0_0 : List Int) (a1 : Int) (r1 : List Int) (r2 : Bool) (w : World) (hr0_0 : Kd.C (Kd.int .i64) w A0_0 l0_0.length l0_0) (hc0_0 : l0_0.length ≤ c0_0) (h : spec_LinearWith.f k l0_0 a1 = some (r1, r2)) :
 Calls Try.prog 54 #[.agg #[.slice A0_0 l0_0.length c0_0], .int .i64 a1] w fun e w' => ∃ v0_ : Value, e = .returned (.tuple #[v0_, .bool r2]) ∧ Kd.R (Kd.int .i64) 3 w' w.heap.size (fun _ => True) v0_ r1 ∧ Below w.heap.size w w' := by
 have hu26 := Try.underlying26
 have HR0_0 := am hr0_0
 have HC0_0 := am hc0_0
 clear hr0_0 hc0_0
 have HB := am (Below.refl w.heap.size w)
 have H : ((spec_poGood.f k l0_0).bind fun t999 => (if t999 = true then ((spec_liCounts.f k l0_0).bind fun t1000 => (if 0 < (t1000.length : Int) then ((spec_l1In.f a1 0 (wrap64 ((rd t1000 0) - 1))).bind fun t1004 => (if t1004 = true then ((spec_liWith.f k l0_0 t1000 a1).bind fun t1005 => (some (t1005, true))) else (some (([] : List Int), false)))) else (none))) else (some (([] : List Int), false)))) = some (r1, r2) := h
 clear h
 replace H := Option.bind_eq_some_iff.mp H
 obtain ⟨t999, A30, H⟩ := H
 replace H : (if t999 = true then ((spec_liCounts.f k l0_0).bind fun t1000 => (if 0 < (t1000.length : Int) then ((spec_l1In.f a1 0 (wrap64 ((rd t1000 0) - 1))).bind fun t1004 => (if t1004 = true then ((spec_liWith.f k l0_0 t1000 a1).bind fun t1005 => (some (t1005, true))) else (some (([] : List Int), false)))) else (none))) else (some (([] : List Int), false))) = some (r1, r2) := H
 have A3 := am A30
 clear A30
 by_cases c4 : t999 = true
 ·subst c4
  have H1 : ((spec_liCounts.f k l0_0).bind fun t1000 => (if 0 < (t1000.length : Int) then ((spec_l1In.f a1 0 (wrap64 ((rd t1000 0) - 1))).bind fun t1004 => (if t1004 = true then ((spec_liWith.f k l0_0 t1000 a1).bind fun t1005 => (some (t1005, true))) else (some (([] : List Int), false)))) else (none))) = some (r1, r2) := by rw [if_pos rfl] at H; exact H
  clear H
  have H := H1
  clear H1
  replace H := Option.bind_eq_some_iff.mp H
  obtain ⟨t1000, A50, H⟩ := H
  replace H : (if 0 < (t1000.length : Int) then ((spec_l1In.f a1 0 (wrap64 ((rd t1000 0) - 1))).bind fun t1004 => (if t1004 = true then ((spec_liWith.f k l0_0 t1000 a1).bind fun t1005 => (some (t1005, true))) else (some (([] : List Int), false)))) else (none)) = some (r1, r2) := H
  have A5 := am A50
  clear A50
  by_cases c6 : 0 < (t1000.length : Int)
  rotate_left
  ·rw [if_neg c6] at H
   exact absurd H (by simp)
  rw [if_pos c6] at H
  have c6b0 := decide_eq_true c6
  have c6b1 : decide (0 < t1000.length) = true := decide_eq_true (by omega)
  clear c6
  replace H := Option.bind_eq_some_iff.mp H
  obtain ⟨t1004, A70, H⟩ := H
  replace H : (if t1004 = true then ((spec_liWith.f k l0_0 t1000 a1).bind fun t1005 => (some (t1005, true))) else (some (([] : List Int), false))) = some (r1, r2) := H
  have A7 := am A70
  clear A70
  by_cases c8 : t1004 = true
  ·subst c8
   have H1 : ((spec_liWith.f k l0_0 t1000 a1).bind fun t1005 => (some (t1005, true))) = some (r1, r2) := by rw [if_pos rfl] at H; exact H
   clear H
   have H := H1
   clear H1
   replace H := Option.bind_eq_some_iff.mp H
   obtain ⟨t1005, A90, H⟩ := H
   replace H : (some (t1005, true)) = some (r1, r2) := H
   have A9 := am A90
   clear A90
   simp only [Option.some.injEq, Prod.mk.injEq] at H
   obtain ⟨rfl, rfl⟩ := H
   go_enter Try.func54, Try.ntmps54
   go_wp2_with (first | ((with_reducible refine gate_dst (N := 2) rfl ?_); refine qx (N := 2) (cs := #[.slice A0_0 l0_0.length c0_0]) (t := 26) ?_; intro gb998 hg w10 hbox hb; have n0_ := am (below_step qB hb); have BK998 := am (hbox); have GW998 := am (qg w hg); have GE998 := am (qg w hg); clear HB; have HB := n0_; clear n0_; clear hb hbox hg; have hcz11_0 := qz w10 BK998.out; have hfz11_0 := blk_frozen BK998.out 0) | ((with_reducible refine gate_callee (f := 82) rfl ?_); refine gL (some 8) Try.func82 #[.agg #[.slice A0_0 l0_0.length c0_0]] ?_; (with_reducible refine (spec_poGood.calls k _ _ l0_0 true _ ?side1 ?side2 A3.out).mono ?_); (case side1 => exact qC (Kd.C_below HR0_0.out HB.out)); (case side2 => exact HC0_0.out); rintro e w12 ⟨rfl, hb⟩; refine ⟨_, rfl, ?_⟩; replace BK998 := am (blk_below (g := gb998) (o := .cells #[.slice A0_0 l0_0.length c0_0] 26 (0, 0)) (qb BK998.out) hb); replace HB := am (below_step qB hb); (try clear hb); (try clear hb2); (try clear hk); (try clear hi); have hcz13_0 := qz w12 BK998.out; have hfz13_0 := blk_frozen BK998.out 0) | ((with_reducible refine gate_callee (f := 111) rfl ?_); refine gL (some 11) Try.func111 #[.agg #[.slice A0_0 l0_0.length c0_0]] ?_; (with_reducible refine (spec_liCounts.calls k _ _ l0_0 t1000 _ ?side1 ?side2 A5.out).mono ?_); (case side1 => exact qC (Kd.C_below HR0_0.out HB.out)); (case side2 => exact HC0_0.out); rintro e w14 ⟨v1001, rfl, ho0, hb⟩; refine ⟨_, rfl, ?_⟩; have HO1002 := am (Kd.R_lower ho0 (below_size qB)); replace BK998 := am (blk_below (g := gb998) (o := .cells #[.slice A0_0 l0_0.length c0_0] 26 (0, 0)) (qb BK998.out) hb); replace HB := am (below_step qB hb); (try clear hb); (try clear hb2); (try clear hk); (try clear hi); (try clear ho0); obtain ⟨Ao15, co15, eo15⟩ := Kd.R_slice HO1002.out; subst eo15; have p1003 : 0 ≤ (0 : Int) := (by omega); have q1003 : 0 < (t1000.length : Int) := qd; obtain ⟨ad1003, e1003, hx1003_0⟩ := Kd.at_int (Kd.R_reads' HO1002.out).2.2 0 p1003 q1003; cases e1003; have qi1003 : (0 < t1000.length) = True := eq_true (by omega); (try rw [show ((0 : Int)).toNat = 0 from rfl] at hx1003_0); (try rw [Addr.add_zero'] at hx1003_0); replace p1003 := eq_true p1003; replace q1003 := eq_true q1003) | ((with_reducible refine gate_callee (f := 75) rfl ?_); refine gL (some 17) Try.func75 #[.int .i64 a1, .int .i64 0, .int .i64 (wrap64 ((rd t1000 0) - 1))] ?_; (with_reducible refine (spec_l1In.calls a1 0 (wrap64 ((rd t1000 0) - 1)) true _ A7.out).mono ?_); rintro e w' ⟨rfl, ⟨nd, rfl⟩⟩; refine ⟨_, rfl, ?_⟩; have hcz16_0 := qz w14 BK998.out; have hfz16_0 := blk_frozen BK998.out 0) | ((with_reducible refine gate_callee (f := 116) rfl ?_); refine gL (some 22) Try.func116 #[.agg #[.slice A0_0 l0_0.length c0_0], .slice (some ad1003) t1000.length co15, .int .i64 a1] ?_; (with_reducible refine (spec_liWith.calls k _ _ l0_0 _ _ t1000 a1 t1005 _ ?side1 ?side2 ?side3 ?side4 A9.out).mono ?_); (case side1 => exact qC (Kd.C_below HR0_0.out qB)); (case side2 => exact HC0_0.out); (case side3 => exact qC (Kd.R_reads' HO1002.out).2.2); (case side4 => exact (Kd.R_reads' HO1002.out).2.1); rintro e w17 ⟨v1006, rfl, ho0, hb⟩; refine ⟨_, rfl, ?_⟩; have n0_ := am (Kd.R_elder' (qR HO1002.out) (Kd.R_base ho0) hb); have HO1007 := am (Kd.R_lower (Kd.R_new' ho0 (Kd.R_lt (qR HO1002.out))) (below_size qB)); replace BK998 := am (blk_below (g := gb998) (o := .cells #[.slice A0_0 l0_0.length c0_0] 26 (0, 0)) (qb BK998.out) hb); replace HB := am (below_step qB hb); clear HO1002; have HO1002 := n0_; clear n0_; (try clear hb); (try clear hb2); (try clear hk); (try clear hi); (try clear ho0)))
   go_ret2
   exact ⟨_, qr, qR (Kd.R_mono HO1007.out (fun _ hk => trivial)), qB⟩
  ·replace c8 := Bool.eq_false_iff.mpr c8
   subst c8
   have H1 : (some (([] : List Int), false)) = some (r1, r2) := by rw [if_neg (show ¬ (false = true) by decide)] at H; exact H
   clear H
   have H := H1
   clear H1
   simp only [Option.some.injEq, Prod.mk.injEq] at H
   obtain ⟨rfl, rfl⟩ := H
   go_enter Try.func54, Try.ntmps54
   go_wp2_with (first | ((with_reducible refine gate_dst (N := 2) rfl ?_); refine qx (N := 2) (cs := #[.slice A0_0 l0_0.length c0_0]) (t := 26) ?_; intro gb998 hg w18 hbox hb; have n0_ := am (below_step qB hb); have BK998 := am (hbox); have GW998 := am (qg w hg); have GE998 := am (qg w hg); clear HB; have HB := n0_; clear n0_; clear hb hbox hg; have hcz19_0 := qz w18 BK998.out; have hfz19_0 := blk_frozen BK998.out 0) | ((with_reducible refine gate_callee (f := 82) rfl ?_); refine gL (some 8) Try.func82 #[.agg #[.slice A0_0 l0_0.length c0_0]] ?_; (with_reducible refine (spec_poGood.calls k _ _ l0_0 true _ ?side1 ?side2 A3.out).mono ?_); (case side1 => exact qC (Kd.C_below HR0_0.out HB.out)); (case side2 => exact HC0_0.out); rintro e w20 ⟨rfl, hb⟩; refine ⟨_, rfl, ?_⟩; replace BK998 := am (blk_below (g := gb998) (o := .cells #[.slice A0_0 l0_0.length c0_0] 26 (0, 0)) (qb BK998.out) hb); replace HB := am (below_step qB hb); (try clear hb); (try clear hb2); (try clear hk); (try clear hi); have hcz21_0 := qz w20 BK998.out; have hfz21_0 := blk_frozen BK998.out 0) | ((with_reducible refine gate_callee (f := 111) rfl ?_); refine gL (some 11) Try.func111 #[.agg #[.slice A0_0 l0_0.length c0_0]] ?_; (with_reducible refine (spec_liCounts.calls k _ _ l0_0 t1000 _ ?side1 ?side2 A5.out).mono ?_); (case side1 => exact qC (Kd.C_below HR0_0.out HB.out)); (case side2 => exact HC0_0.out); rintro e w22 ⟨v1001, rfl, ho0, hb⟩; refine ⟨_, rfl, ?_⟩; have HO1002 := am (Kd.R_lower ho0 (below_size qB)); replace BK998 := am (blk_below (g := gb998) (o := .cells #[.slice A0_0 l0_0.length c0_0] 26 (0, 0)) (qb BK998.out) hb); replace HB := am (below_step qB hb); (try clear hb); (try clear hb2); (try clear hk); (try clear hi); (try clear ho0); obtain ⟨Ao23, co23, eo23⟩ := Kd.R_slice HO1002.out; subst eo23; have p1003 : 0 ≤ (0 : Int) := (by omega); have q1003 : 0 < (t1000.length : Int) := qd; obtain ⟨ad1003, e1003, hx1003_0⟩ := Kd.at_int (Kd.R_reads' HO1002.out).2.2 0 p1003 q1003; cases e1003; have qi1003 : (0 < t1000.length) = True := eq_true (by omega); (try rw [show ((0 : Int)).toNat = 0 from rfl] at hx1003_0); (try rw [Addr.add_zero'] at hx1003_0); replace p1003 := eq_true p1003; replace q1003 := eq_true q1003) | ((with_reducible refine gate_callee (f := 75) rfl ?_); refine gL (some 17) Try.func75 #[.int .i64 a1, .int .i64 0, .int .i64 (wrap64 ((rd t1000 0) - 1))] ?_; (with_reducible refine (spec_l1In.calls a1 0 (wrap64 ((rd t1000 0) - 1)) false _ A7.out).mono ?_); rintro e w' ⟨rfl, ⟨nd, rfl⟩⟩; refine ⟨_, rfl, ?_⟩))
   go_ret2
   exact ⟨_, qr, by first | exact Kd.R_nil _ _ _ _ _ | exact Kd.N_nil _ _ _ _ _ | exact Kd.V_nil _ _ _ _ _ | exact Kd.Q_nil _ _ _ _ _ | exact Kd.S_nil _ _ _ _ _, qB⟩
 ·replace c4 := Bool.eq_false_iff.mpr c4
  subst c4
  have H1 : (some (([] : List Int), false)) = some (r1, r2) := by rw [if_neg (show ¬ (false = true) by decide)] at H; exact H
  clear H
  have H := H1
  clear H1
  simp only [Option.some.injEq, Prod.mk.injEq] at H
  obtain ⟨rfl, rfl⟩ := H
  go_enter Try.func54, Try.ntmps54
  go_wp2_with (first | ((with_reducible refine gate_dst (N := 2) rfl ?_); refine qx (N := 2) (cs := #[.slice A0_0 l0_0.length c0_0]) (t := 26) ?_; intro gb998 hg w24 hbox hb; have n0_ := am (below_step qB hb); have BK998 := am (hbox); have GW998 := am (qg w hg); have GE998 := am (qg w hg); clear HB; have HB := n0_; clear n0_; clear hb hbox hg; have hcz25_0 := qz w24 BK998.out; have hfz25_0 := blk_frozen BK998.out 0) | ((with_reducible refine gate_callee (f := 82) rfl ?_); refine gL (some 8) Try.func82 #[.agg #[.slice A0_0 l0_0.length c0_0]] ?_; (with_reducible refine (spec_poGood.calls k _ _ l0_0 false _ ?side1 ?side2 A3.out).mono ?_); (case side1 => exact qC (Kd.C_below HR0_0.out HB.out)); (case side2 => exact HC0_0.out); rintro e w26 ⟨rfl, hb⟩; refine ⟨_, rfl, ?_⟩; replace BK998 := am (blk_below (g := gb998) (o := .cells #[.slice A0_0 l0_0.length c0_0] 26 (0, 0)) (qb BK998.out) hb); replace HB := am (below_step qB hb); (try clear hb); (try clear hb2); (try clear hk); (try clear hi)))
  go_ret2
  exact ⟨_, qr, by first | exact Kd.R_nil _ _ _ _ _ | exact Kd.N_nil _ _ _ _ _ | exact Kd.V_nil _ _ _ _ _ | exact Kd.Q_nil _ _ _ _ _ | exact Kd.S_nil _ _ _ _ _, qB⟩
mutual
def spec_poRectangle.l0 : Nat → Int → Int → List (List Int) → Int → Option (List Int)
 | 0, _, _, _, _ => none
 | k + 1, x0, x1, x5, x6 => if x6 < x0 then (spec_poRectangle.l1 k x0 x1 x5 x6 0) else ((spec_poFrom.f k (wrap64 (x0 * x1)) x5).bind fun t139 => (some t139))
def spec_poRectangle.l1 : Nat → Int → Int → List (List Int) → Int → Int → Option (List Int)
 | 0, _, _, _, _, _ => none
 | k + 1, x0, x1, x5, x6, x7 => if x7 < x1 then (if (wrap64 (x6 + 1)) < x0 then (if x5.length < 5864062014805 then ((some (x5 ++ [(([wrap64 ((wrap64 (x1 * x6)) + x7), wrap64 ((wrap64 ((wrap64 (x1 * x6)) + x1)) + x7)] : List Int))] : List (List Int))).bind fun y145 => (if (wrap64 (x7 + 1)) < x1 then (if y145.length < 5864062014805 then (spec_poRectangle.l1 k x0 x1 (y145 ++ [(([wrap64 ((wrap64 (x1 * x6)) + x7), wrap64 ((wrap64 ((wrap64 (x1 * x6)) + x7)) + 1)] : List Int))]) x6 (wrap64 (x7 + 1))) else (none)) else (spec_poRectangle.l1 k x0 x1 y145 x6 (wrap64 (x7 + 1))))) else (none)) else (if (wrap64 (x7 + 1)) < x1 then (if x5.length < 5864062014805 then (spec_poRectangle.l1 k x0 x1 (x5 ++ [(([wrap64 ((wrap64 (x1 * x6)) + x7), wrap64 ((wrap64 ((wrap64 (x1 * x6)) + x7)) + 1)] : List Int))]) x6 (wrap64 (x7 + 1))) else (none)) else (spec_poRectangle.l1 k x0 x1 x5 x6 (wrap64 (x7 + 1))))) else (spec_poRectangle.l0 k x0 x1 x5 (wrap64 (x6 + 1)))
end
def spec_poRectangle.f (k : Nat) (a0 : Int) (a1 : Int) : Option (List Int) := spec_poRectangle.l0 k a0 a1 ([] : List (List Int)) 0
theorem spec_poRectangle.mono_l : ∀ k, (∀ y0 y1 y2 y3, LeO (spec_poRectangle.l0 k y0 y1 y2 y3) (spec_poRectangle.l0 (k + 1) y0 y1 y2 y3)) ∧ (∀ y0 y1 y2 y3 y4, LeO (spec_poRectangle.l1 k y0 y1 y2 y3 y4) (spec_poRectangle.l1 (k + 1) y0 y1 y2 y3 y4))
 | 0 => ⟨fun _ _ _ _ r h => by simp [spec_poRectangle.l0] at h, fun _ _ _ _ _ r h => by simp [spec_poRectangle.l1] at h⟩
 | k + 1 => by
  obtain ⟨ih0, ih1⟩ := spec_poRectangle.mono_l k
  refine ⟨?_, ?_⟩
  ·intro y0 y1 y2 y3
   unfold spec_poRectangle.l0
   repeat' first
   | (with_reducible exact spec_poFrom.mono _ _ _)
   | (with_reducible exact LeO.refl _)
   | (with_reducible exact LeO.none _)
   | (with_reducible refine LeO.ite ?_ ?_)
   | (with_reducible refine LeO.bind ?_ (fun _ => ?_))
   | exact ih0 _ _ _ _
   | exact ih1 _ _ _ _ _
   | exact spec_poFrom.mono _ _ _
   | exact LeO.none _
   | refine LeO.ite ?_ ?_
   | refine LeO.bind ?_ (fun _ => ?_)
  ·intro y0 y1 y2 y3 y4
   unfold spec_poRectangle.l1
   repeat' first
   | (with_reducible exact spec_poFrom.mono _ _ _)
   | (with_reducible exact LeO.refl _)
   | (with_reducible exact LeO.none _)
   | (with_reducible refine LeO.ite ?_ ?_)
   | (with_reducible refine LeO.bind ?_ (fun _ => ?_))
   | exact ih0 _ _ _ _
   | exact ih1 _ _ _ _ _
   | exact spec_poFrom.mono _ _ _
   | exact LeO.none _
   | refine LeO.ite ?_ ?_
   | refine LeO.bind ?_ (fun _ => ?_)
theorem spec_poRectangle.mono : ∀ a0 a1 k, LeO (spec_poRectangle.f k a0 a1) (spec_poRectangle.f (k + 1) a0 a1) := by
 intro a0 a1 k
 obtain ⟨ih0, ih1⟩ := spec_poRectangle.mono_l k
 unfold spec_poRectangle.f
 repeat' first
  | (with_reducible exact spec_poFrom.mono _ _ _)
  | (with_reducible exact LeO.refl _)
  | (with_reducible exact LeO.none _)
  | (with_reducible refine LeO.ite ?_ ?_)
  | (with_reducible refine LeO.bind ?_ (fun _ => ?_))
  | exact ih0 _ _ _ _
  | exact ih1 _ _ _ _ _
  | exact spec_poFrom.mono _ _ _
  | exact LeO.none _
  | refine LeO.ite ?_ ?_
  | refine LeO.bind ?_ (fun _ => ?_)
set_option maxHeartbeats 8000000 in
set_option maxRecDepth 100000 in
theorem spec_poRectangle.calls (k : Nat) (a0 : Int) (a1 : Int) (r : List Int) (w : World) (h : spec_poRectangle.f k a0 a1 = some r) :
 Calls Try.prog 151 #[.int .i64 a0, .int .i64 a1] w fun e w' => ∃ v0_ : Value, e = .returned (.agg #[v0_]) ∧ Kd.R (Kd.int .i64) 3 w' w.heap.size (fun _ => True) v0_ r ∧ Below w.heap.size w w' := by
 have hu26 := Try.underlying26
 have HB := am (Below.refl w.heap.size w)
 have H : (spec_poRectangle.l0 k a0 a1 ([] : List (List Int)) 0) = some r := h
 clear h
 have H' := am H
 clear H
 go_enter Try.func151, Try.ntmps151
 go_wp2_with (first | ((with_reducible refine gate_dst (N := 4) rfl ?_); refine qx (N := 4) (cs := #[.slice none 0 0]) (t := 26) ?_; intro gb138 hg w3 hbox hb; have n0_ := am (below_step qB hb); have BK138 := am (hbox); have GW138 := am (qg w hg); have GE138 := am (qg w hg); clear HB; have HB := n0_; clear n0_; clear hb hbox hg))
 go_loopg [5, 6] k (fun kq v5 v6 w' => ∃ (x5_1 : List (List Int)) (x6_1 : Int), v6 = .int .i64 x6_1 ∧ Aside0 (spec_poRectangle.l0 kq a0 a1 x5_1 x6_1 = some r) ∧ Aside0 (kq ≤ k) ∧ Aside0 (Kd.S (Kd.slice 3 (Kd.int .i64)) 24 w' w.heap.size (fun _ => True) v5 x5_1) ∧ Aside0 (w'.heap[gb138]? = some (.cells #[(.slice none 0 0)] 26 (0, 0))) ∧ Aside0 (Below w.heap.size w w'))
 case atStart => exact ⟨(([] : List (List Int))), (0), qe, H', ⟨Nat.le_refl _⟩, ⟨by first | exact Kd.S_nil _ _ _ _ _ | exact Kd.N_nil _ _ _ _ _ | exact Kd.V_nil _ _ _ _ _ | exact Kd.Q_nil _ _ _ _ _ | exact Kd.R_nil _ _ _ _ _⟩, ⟨qb BK138.out⟩, ⟨qB⟩⟩
 case round =>
  clear H'
  try clear c1
  try clear p2
  obtain ⟨x5_1, x6_1, rfl, HA, HK1, HO_5, BK138, HB⟩ := hrel
  cases gk with
  | zero => exact absurd HA.out (by simp [spec_poRectangle.l0])
  | succ k1 =>
   have H := HA.out
   clear HA
   simp only [spec_poRectangle.l0] at H
   by_cases c4 : x6_1 < a0
   ·rw [if_pos c4] at H
    have c4b0 := decide_eq_true c4
    clear c4
    have H' := am H
    clear H
    go_wp2
    go_loopg [5, 7] k1 (fun kq v5 v7 w' => ∃ (x5_2 : List (List Int)) (x7_2 : Int), v7 = .int .i64 x7_2 ∧ Aside0 (spec_poRectangle.l1 kq a0 a1 x5_2 x6_1 x7_2 = some r) ∧ Aside0 (kq ≤ k1) ∧ Aside0 (Kd.S (Kd.slice 3 (Kd.int .i64)) 24 w' w.heap.size (fun _ => True) v5 x5_2) ∧ Aside0 (w'.heap[gb138]? = some (.cells #[(.slice none 0 0)] 26 (0, 0))) ∧ Aside0 (Below w.heap.size w w'))
    case atStart => exact ⟨(x5_1), (0), qe, H', ⟨Nat.le_refl _⟩, ⟨qS HO_5.out⟩, ⟨qb BK138.out⟩, ⟨qB⟩⟩
    case round =>
     clear H'
     try clear c1
     try clear p2
     try clear c4
     try clear c4b0
     try clear p2
     obtain ⟨x5_2, x7_2, rfl, HA, HK2, HO_5, BK138, HB⟩ := hrel
     cases gk with
     | zero => exact absurd HA.out (by simp [spec_poRectangle.l1])
     | succ k2 =>
      have H := HA.out
      clear HA
      simp only [spec_poRectangle.l1] at H
      by_cases c5 : x7_2 < a1
      ·rw [if_pos c5] at H
       have c5b0 := decide_eq_true c5
       clear c5
       by_cases c6 : (wrap64 (x6_1 + 1)) < a0
       ·rw [if_pos c6] at H
        have c6b0 := decide_eq_true c6
        clear c6
        obtain ⟨y142, hy142⟩ : ∃ y_ : List Int, y_ = (([wrap64 ((wrap64 (a1 * x6_1)) + x7_2), wrap64 ((wrap64 ((wrap64 (a1 * x6_1)) + a1)) + x7_2)] : List Int)) := ⟨_, rfl⟩
        replace H : (if x5_2.length < 5864062014805 then ((some (x5_2 ++ [y142] : List (List Int))).bind fun y145 => (if (wrap64 (x7_2 + 1)) < a1 then (if y145.length < 5864062014805 then (spec_poRectangle.l1 k2 a0 a1 (y145 ++ [(([wrap64 ((wrap64 (a1 * x6_1)) + x7_2), wrap64 ((wrap64 ((wrap64 (a1 * x6_1)) + x7_2)) + 1)] : List Int))]) x6_1 (wrap64 (x7_2 + 1))) else (none)) else (spec_poRectangle.l1 k2 a0 a1 y145 x6_1 (wrap64 (x7_2 + 1))))) else (none)) = some r := by first | (rw [hy142]; with_reducible exact H) | (have H2_ := (Option.bind_some _ _).symm.trans H; rw [hy142]; with_reducible exact H2_) | (have H2_ := (Option.bind_some _ _).symm.trans H; with_reducible exact H2_) | with_reducible exact H | (rw [hy142]; exact H) | exact H
        have Ny142 := am hy142
        clear hy142
        by_cases c7 : x5_2.length < 5864062014805
        rotate_left
        ·rw [if_neg c7] at H
         exact absurd H (by simp)
        rw [if_pos c7] at H
        have LMc7 := am c7
        clear c7
        obtain ⟨y145, hy145⟩ : ∃ y_ : List (List Int), y_ = (x5_2 ++ [y142]) := ⟨_, rfl⟩
        replace H : (if (wrap64 (x7_2 + 1)) < a1 then (if y145.length < 5864062014805 then (spec_poRectangle.l1 k2 a0 a1 (y145 ++ [(([wrap64 ((wrap64 (a1 * x6_1)) + x7_2), wrap64 ((wrap64 ((wrap64 (a1 * x6_1)) + x7_2)) + 1)] : List Int))]) x6_1 (wrap64 (x7_2 + 1))) else (none)) else (spec_poRectangle.l1 k2 a0 a1 y145 x6_1 (wrap64 (x7_2 + 1)))) = some r := by first | (rw [hy145]; with_reducible exact H) | (have H2_ := (Option.bind_some _ _).symm.trans H; rw [hy145]; with_reducible exact H2_) | (have H2_ := (Option.bind_some _ _).symm.trans H; with_reducible exact H2_) | with_reducible exact H | (rw [hy145]; exact H) | exact H
        have Ny145 := am hy145
        clear hy145
        by_cases c8 : (wrap64 (x7_2 + 1)) < a1
        ·rw [if_pos c8] at H
         have c8b0 := decide_eq_true c8
         clear c8
         obtain ⟨y148, hy148⟩ : ∃ y_ : List Int, y_ = (([wrap64 ((wrap64 (a1 * x6_1)) + x7_2), wrap64 ((wrap64 ((wrap64 (a1 * x6_1)) + x7_2)) + 1)] : List Int)) := ⟨_, rfl⟩
         replace H : (if y145.length < 5864062014805 then (spec_poRectangle.l1 k2 a0 a1 (y145 ++ [y148]) x6_1 (wrap64 (x7_2 + 1))) else (none)) = some r := by first | (rw [hy148]; with_reducible exact H) | (have H2_ := (Option.bind_some _ _).symm.trans H; rw [hy148]; with_reducible exact H2_) | (have H2_ := (Option.bind_some _ _).symm.trans H; with_reducible exact H2_) | with_reducible exact H | (rw [hy148]; exact H) | exact H
         have Ny148 := am hy148
         clear hy148
         by_cases c9 : y145.length < 5864062014805
         rotate_left
         ·rw [if_neg c9] at H
          exact absurd H (by simp)
         rw [if_pos c9] at H
         have LMc9 := am c9
         clear c9
         obtain ⟨y151, hy151⟩ : ∃ y_ : List (List Int), y_ = (y145 ++ [y148]) := ⟨_, rfl⟩
         replace H : (spec_poRectangle.l1 k2 a0 a1 y151 x6_1 (wrap64 (x7_2 + 1))) = some r := by first | (rw [hy151]; with_reducible exact H) | (have H2_ := (Option.bind_some _ _).symm.trans H; rw [hy151]; with_reducible exact H2_) | (have H2_ := (Option.bind_some _ _).symm.trans H; with_reducible exact H2_) | with_reducible exact H | (rw [hy151]; exact H) | exact H
         have Ny151 := am hy151
         clear hy151
         have H' := am H
         clear H
         go_wp2_with (first | ((with_reducible refine gate_dst (N := 35) rfl ?_); refine Kd.R_lit (Kd.int .i64) _ 3 ?hg (N := 35) ?hd (xs := ([wrap64 ((wrap64 (a1 * x6_1)) + x7_2), wrap64 ((wrap64 ((wrap64 (a1 * x6_1)) + a1)) + x7_2)] : List Int)) (inner := [.int .i64 (wrap64 ((wrap64 (a1 * x6_1)) + x7_2)), .int .i64 (wrap64 ((wrap64 ((wrap64 (a1 * x6_1)) + a1)) + x7_2))]) (ok := fun _ => True) (okp := fun _ => True) ?hr ?hp (fun _ hk => hk) trivial (Below.refl _ _) (Nat.le_refl _) (by simp) ?_; (case hd => rfl); (case hg => rfl); (case hr => first | (go_simp; done) | (go_simp; rfl)); (case hp => exact (Reps.one (show Kd.M (Kd.int .i64) _ _ _ (wrap64 ((wrap64 (a1 * x6_1)) + x7_2)) [.int .i64 (wrap64 ((wrap64 (a1 * x6_1)) + x7_2))] from rfl) (Reps.one (show Kd.M (Kd.int .i64) _ _ _ (wrap64 ((wrap64 ((wrap64 (a1 * x6_1)) + a1)) + x7_2)) [.int .i64 (wrap64 ((wrap64 ((wrap64 (a1 * x6_1)) + a1)) + x7_2))] from rfl) (Reps.none _ _)))); intro v143 w10 ho11 hb hg_ hnew_; clear hg_ hnew_; (first | rw [← Ny142.out] at ho11 | (simp only [Int.reduceToNat] at ho11; rw [← Ny142.out] at ho11)); replace HO_5 := am (Kd.S_elder' (qS HO_5.out) (Kd.R_base ho11) hb); have HO144 := am (Kd.R_lower ho11 (below_size qB)); replace BK138 := am (blk_below (g := gb138) (o := .cells #[.slice none 0 0] 26 (0, 0)) (qb BK138.out) hb); replace HB := am (below_step qB hb); clear hb ho11; obtain ⟨Ao13, co13, eo13⟩ := Kd.R_slice HO144.out; subst eo13) | ((with_reducible refine gate_builtin (b := .append) (xs := #[.tmp 22, .tmp 36]) rfl ?_); at_builtin; refine Kd.S_append (Kd.slice 3 (Kd.int .i64)) (w0 := w) w.heap.size rfl (.tmp 22) (.tmp 36) 58 24 (.slice none 0 0) 24 rfl Try.underlying58 info24 rfl (by decide) (by omega) u5 x5_2 y142 [.slice Ao13 y142.length co13] (fun _ => True) (fun k_ => some k_ = (.slice Ao13 y142.length co13 : Value).ownBlock) rfl rfl ?aP (fun k_ hk_ => ((Kd.R_mono (ok' := fun k_ => ((fun _ => True)) k_ ∧ some k_ ≠ (u5 : Value).ownBlock) (Kd.R_apart' (HO144.out) (Kd.S_typed HO_5.out) (by decide)) (fun k_ hk => ⟨trivial, hk.2⟩))).1 k_ hk_.symm) ?aF ?aO ?aB ?aS ?aL ?_; (case aP => exact Kd.M_row (Kd.R_mono (Kd.R_tight rfl (Kd.R_mono (ok' := fun k_ => ((fun _ => True)) k_ ∧ some k_ ≠ (u5 : Value).ownBlock) (Kd.R_apart' (HO144.out) (Kd.S_typed HO_5.out) (by decide)) (fun k_ hk => ⟨trivial, hk.2⟩))) (fun _ h_ => h_))); (case aB => exact qB); (case aF => exact (fun _ _ => trivial)); (case aO => exact (qS (Kd.S_mono HO_5.out (fun k_ hk => ⟨trivial, fun e_ => hk.2 e_⟩)))); (case aS => exact (below_size qB)); (case aL => have := LMc7.out; omega); intro v146 w12 ho hb hg hat; rw [← Ny145.out] at ho; replace BK138 := am (blk_grown (g := gb138) (o := .cells #[.slice none 0 0] 26 (0, 0)) (qb BK138.out) hg (Kd.S_ne HO_5.out BK138.out (by decide))); have n1_ := am (hb); have HO147 := am (ho); clear HB HO_5 HO144; have HB := n1_; clear n1_; clear ho hb hg hat) | ((with_reducible refine gate_dst (N := 54) rfl ?_); refine Kd.R_lit (Kd.int .i64) _ 3 ?hg (N := 54) ?hd (xs := ([wrap64 ((wrap64 (a1 * x6_1)) + x7_2), wrap64 ((wrap64 ((wrap64 (a1 * x6_1)) + x7_2)) + 1)] : List Int)) (inner := [.int .i64 (wrap64 ((wrap64 (a1 * x6_1)) + x7_2)), .int .i64 (wrap64 ((wrap64 ((wrap64 (a1 * x6_1)) + x7_2)) + 1))]) (ok := fun _ => True) (okp := fun _ => True) ?hr ?hp (fun _ hk => hk) trivial (Below.refl _ _) (Nat.le_refl _) (by simp) ?_; (case hd => rfl); (case hg => rfl); (case hr => first | (go_simp; done) | (go_simp; rfl)); (case hp => exact (Reps.one (show Kd.M (Kd.int .i64) _ _ _ (wrap64 ((wrap64 (a1 * x6_1)) + x7_2)) [.int .i64 (wrap64 ((wrap64 (a1 * x6_1)) + x7_2))] from rfl) (Reps.one (show Kd.M (Kd.int .i64) _ _ _ (wrap64 ((wrap64 ((wrap64 (a1 * x6_1)) + x7_2)) + 1)) [.int .i64 (wrap64 ((wrap64 ((wrap64 (a1 * x6_1)) + x7_2)) + 1))] from rfl) (Reps.none _ _)))); intro v149 w14 ho15 hb hg_ hnew_; clear hg_ hnew_; (first | rw [← Ny148.out] at ho15 | (simp only [Int.reduceToNat] at ho15; rw [← Ny148.out] at ho15)); replace HO147 := am (Kd.S_elder' (qS HO147.out) (Kd.R_base ho15) hb); have HO150 := am (Kd.R_lower ho15 (below_size qB)); replace BK138 := am (blk_below (g := gb138) (o := .cells #[.slice none 0 0] 26 (0, 0)) (qb BK138.out) hb); replace HB := am (below_step qB hb); clear hb ho15; obtain ⟨Ao17, co17, eo17⟩ := Kd.R_slice HO150.out; subst eo17) | ((with_reducible refine gate_builtin (b := .append) (xs := #[.tmp 42, .tmp 55]) rfl ?_); at_builtin; refine Kd.S_append (Kd.slice 3 (Kd.int .i64)) (w0 := w) w.heap.size rfl (.tmp 42) (.tmp 55) 58 24 (.slice none 0 0) 24 rfl Try.underlying58 info24 rfl (by decide) (by omega) v146 y145 y148 [.slice Ao17 y148.length co17] (fun _ => True) (fun k_ => some k_ = (.slice Ao17 y148.length co17 : Value).ownBlock) rfl rfl ?aP (fun k_ hk_ => ((Kd.R_mono (ok' := fun k_ => ((fun _ => True)) k_ ∧ some k_ ≠ (v146 : Value).ownBlock) (Kd.R_apart' (HO150.out) (Kd.S_typed HO147.out) (by decide)) (fun k_ hk => ⟨trivial, hk.2⟩))).1 k_ hk_.symm) ?aF ?aO ?aB ?aS ?aL ?_; (case aP => exact Kd.M_row (Kd.R_mono (Kd.R_tight rfl (Kd.R_mono (ok' := fun k_ => ((fun _ => True)) k_ ∧ some k_ ≠ (v146 : Value).ownBlock) (Kd.R_apart' (HO150.out) (Kd.S_typed HO147.out) (by decide)) (fun k_ hk => ⟨trivial, hk.2⟩))) (fun _ h_ => h_))); (case aB => exact qB); (case aF => exact (fun _ _ => trivial)); (case aO => exact (qS (Kd.S_mono HO147.out (fun k_ hk => ⟨trivial, fun e_ => hk.2 e_⟩)))); (case aS => exact (below_size qB)); (case aL => have := LMc9.out; omega); intro v152 w16 ho hb hg hat; rw [← Ny151.out] at ho; replace BK138 := am (blk_grown (g := gb138) (o := .cells #[.slice none 0 0] 26 (0, 0)) (qb BK138.out) hg (Kd.S_ne HO147.out BK138.out (by decide))); have n1_ := am (hb); have HO153 := am (ho); clear HB HO147 HO150; have HB := n1_; clear n1_; clear ho hb hg hat))
         go_roundg k2
         case measure => have := HK1.out; have := HK2.out; omega
         case rel => exact ⟨(y151), (wrap64 (x7_2 + 1)), qe, H', ⟨by have := HK1.out; have := HK2.out; omega⟩, ⟨qS HO153.out⟩, ⟨qb BK138.out⟩, ⟨qB⟩⟩
        ·rw [if_neg c8] at H
         have c8b0 := decide_eq_false c8
         clear c8
         have H' := am H
         clear H
         go_wp2_with (first | ((with_reducible refine gate_dst (N := 35) rfl ?_); refine Kd.R_lit (Kd.int .i64) _ 3 ?hg (N := 35) ?hd (xs := ([wrap64 ((wrap64 (a1 * x6_1)) + x7_2), wrap64 ((wrap64 ((wrap64 (a1 * x6_1)) + a1)) + x7_2)] : List Int)) (inner := [.int .i64 (wrap64 ((wrap64 (a1 * x6_1)) + x7_2)), .int .i64 (wrap64 ((wrap64 ((wrap64 (a1 * x6_1)) + a1)) + x7_2))]) (ok := fun _ => True) (okp := fun _ => True) ?hr ?hp (fun _ hk => hk) trivial (Below.refl _ _) (Nat.le_refl _) (by simp) ?_; (case hd => rfl); (case hg => rfl); (case hr => first | (go_simp; done) | (go_simp; rfl)); (case hp => exact (Reps.one (show Kd.M (Kd.int .i64) _ _ _ (wrap64 ((wrap64 (a1 * x6_1)) + x7_2)) [.int .i64 (wrap64 ((wrap64 (a1 * x6_1)) + x7_2))] from rfl) (Reps.one (show Kd.M (Kd.int .i64) _ _ _ (wrap64 ((wrap64 ((wrap64 (a1 * x6_1)) + a1)) + x7_2)) [.int .i64 (wrap64 ((wrap64 ((wrap64 (a1 * x6_1)) + a1)) + x7_2))] from rfl) (Reps.none _ _)))); intro v143 w18 ho19 hb hg_ hnew_; clear hg_ hnew_; (first | rw [← Ny142.out] at ho19 | (simp only [Int.reduceToNat] at ho19; rw [← Ny142.out] at ho19)); replace HO_5 := am (Kd.S_elder' (qS HO_5.out) (Kd.R_base ho19) hb); have HO144 := am (Kd.R_lower ho19 (below_size qB)); replace BK138 := am (blk_below (g := gb138) (o := .cells #[.slice none 0 0] 26 (0, 0)) (qb BK138.out) hb); replace HB := am (below_step qB hb); clear hb ho19; obtain ⟨Ao21, co21, eo21⟩ := Kd.R_slice HO144.out; subst eo21) | ((with_reducible refine gate_builtin (b := .append) (xs := #[.tmp 22, .tmp 36]) rfl ?_); at_builtin; refine Kd.S_append (Kd.slice 3 (Kd.int .i64)) (w0 := w) w.heap.size rfl (.tmp 22) (.tmp 36) 58 24 (.slice none 0 0) 24 rfl Try.underlying58 info24 rfl (by decide) (by omega) u5 x5_2 y142 [.slice Ao21 y142.length co21] (fun _ => True) (fun k_ => some k_ = (.slice Ao21 y142.length co21 : Value).ownBlock) rfl rfl ?aP (fun k_ hk_ => ((Kd.R_mono (ok' := fun k_ => ((fun _ => True)) k_ ∧ some k_ ≠ (u5 : Value).ownBlock) (Kd.R_apart' (HO144.out) (Kd.S_typed HO_5.out) (by decide)) (fun k_ hk => ⟨trivial, hk.2⟩))).1 k_ hk_.symm) ?aF ?aO ?aB ?aS ?aL ?_; (case aP => exact Kd.M_row (Kd.R_mono (Kd.R_tight rfl (Kd.R_mono (ok' := fun k_ => ((fun _ => True)) k_ ∧ some k_ ≠ (u5 : Value).ownBlock) (Kd.R_apart' (HO144.out) (Kd.S_typed HO_5.out) (by decide)) (fun k_ hk => ⟨trivial, hk.2⟩))) (fun _ h_ => h_))); (case aB => exact qB); (case aF => exact (fun _ _ => trivial)); (case aO => exact (qS (Kd.S_mono HO_5.out (fun k_ hk => ⟨trivial, fun e_ => hk.2 e_⟩)))); (case aS => exact (below_size qB)); (case aL => have := LMc7.out; omega); intro v146 w20 ho hb hg hat; rw [← Ny145.out] at ho; replace BK138 := am (blk_grown (g := gb138) (o := .cells #[.slice none 0 0] 26 (0, 0)) (qb BK138.out) hg (Kd.S_ne HO_5.out BK138.out (by decide))); have n1_ := am (hb); have HO147 := am (ho); clear HB HO_5 HO144; have HB := n1_; clear n1_; clear ho hb hg hat))
         go_roundg k2
         case measure => have := HK1.out; have := HK2.out; omega
         case rel => exact ⟨(y145), (wrap64 (x7_2 + 1)), qe, H', ⟨by have := HK1.out; have := HK2.out; omega⟩, ⟨qS HO147.out⟩, ⟨qb BK138.out⟩, ⟨qB⟩⟩
       ·rw [if_neg c6] at H
        have c6b0 := decide_eq_false c6
        clear c6
        by_cases c22 : (wrap64 (x7_2 + 1)) < a1
        ·rw [if_pos c22] at H
         have c22b0 := decide_eq_true c22
         clear c22
         obtain ⟨y154, hy154⟩ : ∃ y_ : List Int, y_ = (([wrap64 ((wrap64 (a1 * x6_1)) + x7_2), wrap64 ((wrap64 ((wrap64 (a1 * x6_1)) + x7_2)) + 1)] : List Int)) := ⟨_, rfl⟩
         replace H : (if x5_2.length < 5864062014805 then (spec_poRectangle.l1 k2 a0 a1 (x5_2 ++ [y154]) x6_1 (wrap64 (x7_2 + 1))) else (none)) = some r := by first | (rw [hy154]; with_reducible exact H) | (have H2_ := (Option.bind_some _ _).symm.trans H; rw [hy154]; with_reducible exact H2_) | (have H2_ := (Option.bind_some _ _).symm.trans H; with_reducible exact H2_) | with_reducible exact H | (rw [hy154]; exact H) | exact H
         have Ny154 := am hy154
         clear hy154
         by_cases c23 : x5_2.length < 5864062014805
         rotate_left
         ·rw [if_neg c23] at H
          exact absurd H (by simp)
         rw [if_pos c23] at H
         have LMc23 := am c23
         clear c23
         obtain ⟨y157, hy157⟩ : ∃ y_ : List (List Int), y_ = (x5_2 ++ [y154]) := ⟨_, rfl⟩
         replace H : (spec_poRectangle.l1 k2 a0 a1 y157 x6_1 (wrap64 (x7_2 + 1))) = some r := by first | (rw [hy157]; with_reducible exact H) | (have H2_ := (Option.bind_some _ _).symm.trans H; rw [hy157]; with_reducible exact H2_) | (have H2_ := (Option.bind_some _ _).symm.trans H; with_reducible exact H2_) | with_reducible exact H | (rw [hy157]; exact H) | exact H
         have Ny157 := am hy157
         clear hy157
         have H' := am H
         clear H
         go_wp2_with (first | ((with_reducible refine gate_dst (N := 54) rfl ?_); refine Kd.R_lit (Kd.int .i64) _ 3 ?hg (N := 54) ?hd (xs := ([wrap64 ((wrap64 (a1 * x6_1)) + x7_2), wrap64 ((wrap64 ((wrap64 (a1 * x6_1)) + x7_2)) + 1)] : List Int)) (inner := [.int .i64 (wrap64 ((wrap64 (a1 * x6_1)) + x7_2)), .int .i64 (wrap64 ((wrap64 ((wrap64 (a1 * x6_1)) + x7_2)) + 1))]) (ok := fun _ => True) (okp := fun _ => True) ?hr ?hp (fun _ hk => hk) trivial (Below.refl _ _) (Nat.le_refl _) (by simp) ?_; (case hd => rfl); (case hg => rfl); (case hr => first | (go_simp; done) | (go_simp; rfl)); (case hp => exact (Reps.one (show Kd.M (Kd.int .i64) _ _ _ (wrap64 ((wrap64 (a1 * x6_1)) + x7_2)) [.int .i64 (wrap64 ((wrap64 (a1 * x6_1)) + x7_2))] from rfl) (Reps.one (show Kd.M (Kd.int .i64) _ _ _ (wrap64 ((wrap64 ((wrap64 (a1 * x6_1)) + x7_2)) + 1)) [.int .i64 (wrap64 ((wrap64 ((wrap64 (a1 * x6_1)) + x7_2)) + 1))] from rfl) (Reps.none _ _)))); intro v155 w24 ho25 hb hg_ hnew_; clear hg_ hnew_; (first | rw [← Ny154.out] at ho25 | (simp only [Int.reduceToNat] at ho25; rw [← Ny154.out] at ho25)); replace HO_5 := am (Kd.S_elder' (qS HO_5.out) (Kd.R_base ho25) hb); have HO156 := am (Kd.R_lower ho25 (below_size qB)); replace BK138 := am (blk_below (g := gb138) (o := .cells #[.slice none 0 0] 26 (0, 0)) (qb BK138.out) hb); replace HB := am (below_step qB hb); clear hb ho25; obtain ⟨Ao27, co27, eo27⟩ := Kd.R_slice HO156.out; subst eo27) | ((with_reducible refine gate_builtin (b := .append) (xs := #[.tmp 42, .tmp 55]) rfl ?_); at_builtin; refine Kd.S_append (Kd.slice 3 (Kd.int .i64)) (w0 := w) w.heap.size rfl (.tmp 42) (.tmp 55) 58 24 (.slice none 0 0) 24 rfl Try.underlying58 info24 rfl (by decide) (by omega) u5 x5_2 y154 [.slice Ao27 y154.length co27] (fun _ => True) (fun k_ => some k_ = (.slice Ao27 y154.length co27 : Value).ownBlock) rfl rfl ?aP (fun k_ hk_ => ((Kd.R_mono (ok' := fun k_ => ((fun _ => True)) k_ ∧ some k_ ≠ (u5 : Value).ownBlock) (Kd.R_apart' (HO156.out) (Kd.S_typed HO_5.out) (by decide)) (fun k_ hk => ⟨trivial, hk.2⟩))).1 k_ hk_.symm) ?aF ?aO ?aB ?aS ?aL ?_; (case aP => exact Kd.M_row (Kd.R_mono (Kd.R_tight rfl (Kd.R_mono (ok' := fun k_ => ((fun _ => True)) k_ ∧ some k_ ≠ (u5 : Value).ownBlock) (Kd.R_apart' (HO156.out) (Kd.S_typed HO_5.out) (by decide)) (fun k_ hk => ⟨trivial, hk.2⟩))) (fun _ h_ => h_))); (case aB => exact qB); (case aF => exact (fun _ _ => trivial)); (case aO => exact (qS (Kd.S_mono HO_5.out (fun k_ hk => ⟨trivial, fun e_ => hk.2 e_⟩)))); (case aS => exact (below_size qB)); (case aL => have := LMc23.out; omega); intro v158 w26 ho hb hg hat; rw [← Ny157.out] at ho; replace BK138 := am (blk_grown (g := gb138) (o := .cells #[.slice none 0 0] 26 (0, 0)) (qb BK138.out) hg (Kd.S_ne HO_5.out BK138.out (by decide))); have n1_ := am (hb); have HO159 := am (ho); clear HB HO_5 HO156; have HB := n1_; clear n1_; clear ho hb hg hat))
         go_roundg k2
         case measure => have := HK1.out; have := HK2.out; omega
         case rel => exact ⟨(y157), (wrap64 (x7_2 + 1)), qe, H', ⟨by have := HK1.out; have := HK2.out; omega⟩, ⟨qS HO159.out⟩, ⟨qb BK138.out⟩, ⟨qB⟩⟩
        ·rw [if_neg c22] at H
         have c22b0 := decide_eq_false c22
         clear c22
         have H' := am H
         clear H
         go_wp2
         go_roundg k2
         case measure => have := HK1.out; have := HK2.out; omega
         case rel => exact ⟨(x5_2), (wrap64 (x7_2 + 1)), qe, H', ⟨by have := HK1.out; have := HK2.out; omega⟩, ⟨qS HO_5.out⟩, ⟨qb BK138.out⟩, ⟨qB⟩⟩
      ·rw [if_neg c5] at H
       have c5b0 := decide_eq_false c5
       clear c5
       have H' := am H
       clear H
       go_wp2
       go_roundg k2
       case measure => have := HK1.out; have := HK2.out; omega
       case rel => exact ⟨(x5_2), (wrap64 (x6_1 + 1)), qe, H', ⟨by have := HK1.out; have := HK2.out; omega⟩, ⟨qS HO_5.out⟩, ⟨qb BK138.out⟩, ⟨qB⟩⟩
   ·rw [if_neg c4] at H
    have c4b0 := decide_eq_false c4
    clear c4
    replace H := Option.bind_eq_some_iff.mp H
    obtain ⟨t139, A280, H⟩ := H
    replace H : (some t139) = some r := H
    have A28 := am A280
    clear A280
    obtain rfl := Option.some.inj H
    obtain ⟨Ao29, co29, eo29⟩ := Kd.S_slice HO_5.out
    subst eo29
    go_wp2_with (first | ((with_reducible refine gate_callee (f := 154) rfl ?_); refine gL (some 61) Try.func154 #[.int .i64 (wrap64 (a0 * a1)), .slice Ao29 x5_1.length co29] ?_; (with_reducible refine (spec_poFrom.calls k1 (wrap64 (a0 * a1)) _ _ x5_1 t139 _ ?side1 ?side2 A28.out).mono ?_); (case side1 => exact qC (Kd.S_reads' HO_5.out).2.2); (case side2 => exact (Kd.S_reads' HO_5.out).2.1); rintro e w30 ⟨v140, rfl, ho0, hb⟩; refine ⟨_, rfl, ?_⟩; replace HO_5 := am (Kd.S_elder' (qS HO_5.out) (Kd.R_base ho0) hb); have HO141 := am (Kd.R_lower ho0 (below_size qB)); replace BK138 := am (blk_below (g := gb138) (o := .cells #[.slice none 0 0] 26 (0, 0)) (qb BK138.out) hb); replace HB := am (below_step qB hb); (try clear hb); (try clear hb2); (try clear hk); (try clear hi); (try clear ho0); obtain ⟨Ao31, co31, eo31⟩ := Kd.R_slice HO141.out; subst eo31; have hcz32_0 := qz w30 BK138.out; have hfz32_0 := blk_frozen BK138.out 0))
    refine bodyPost_ret (results_cell_row rfl _ _ gb138 26 #[.slice Ao31 t139.length co31] (0, 0) _ rfl (by (with_reducible repeat (first | refine blk_drewN ?_ _ | refine blk_drew ?_ | refine blk_alloc ?_ _)); refine blk_put (cs := #[.slice none 0 0]) ?_ 0 _ rfl; refine qb ?_; exact BK138.out) Try.underlying26 rfl (by kernel_rfl)) rfl ?_
    exact ⟨_, qr, qR (Kd.R_mono (Kd.R_far (p := ⟨gb138, 0, none⟩) (Kd.R_types HO141.out BK138.out (by decide)) (fun _ hk => hk.2) (.slice Ao31 t139.length co31)) (fun _ hk => trivial)), qB⟩
mutual
def spec_RankLinear.j0 : Nat → List Int → Bool → List Int → Option (Int × Bool)
 | 0, _, _, _ => none
 | k + 1, x1, x20, x1132000 => if x20 = true then (some (0, false)) else ((spec_liCounts.f k x1132000).bind fun t1134 => (spec_RankLinear.l0 k t1134 0 0 x1 (x1.length : Int) 0 x1132000))
def spec_RankLinear.l0 : Nat → List Int → Int → Int → List Int → Int → Int → List Int → Option (Int × Bool)
 | 0, _, _, _, _, _, _, _ => none
 | k + 1, x6, x7, x8, x23, x24, x25, x1132000 => if x25 < x24 then (if 0 ≤ x25 then (if x25 < (x23.length : Int) then (spec_RankLinear.l1 k x6 x7 x8 (rd x23 x25) 0 x23 x24 x25 x1132000) else (none)) else (none)) else (some (x7, true))
def spec_RankLinear.l1 : Nat → List Int → Int → Int → Int → Int → List Int → Int → Int → List Int → Option (Int × Bool)
 | 0, _, _, _, _, _, _, _, _, _ => none
 | k + 1, x6, x7, x8, x10, x11, x23, x24, x25, x1132000 => if x11 < x10 then ((spec_poIn.f x8 x11).bind fun t1138 => (if t1138 = true then (spec_RankLinear.l1 k x6 x7 x8 x10 (wrap64 (x11 + 1)) x23 x24 x25 x1132000) else (if 0 ≤ x11 then (if x11 < (x1132000.length : Int) then (if (Go.bits .andNot .i64 (rd x1132000 x11) x8) = 0 then (if 0 ≤ (Go.bits .or .i64 x8 (shl .i64 1 x11)) then (if (Go.bits .or .i64 x8 (shl .i64 1 x11)) < (x6.length : Int) then (spec_RankLinear.l1 k x6 (wrap64 (x7 + (rd x6 (Go.bits .or .i64 x8 (shl .i64 1 x11))))) x8 x10 (wrap64 (x11 + 1)) x23 x24 x25 x1132000) else (none)) else (none)) else (spec_RankLinear.l1 k x6 x7 x8 x10 (wrap64 (x11 + 1)) x23 x24 x25 x1132000)) else (none)) else (none)))) else (if 0 ≤ x10 then (spec_RankLinear.l0 k x6 x7 (Go.bits .or .i64 x8 (shl .i64 1 x10)) x23 x24 (wrap64 (x25 + 1)) x1132000) else (none))
end
def spec_RankLinear.f (k : Nat) (l0_0 : List Int) (l1 : List Int) : Option (Int × Bool) := (spec_poGood.f k l0_0).bind fun t1132 => (if t1132 = true then ((spec_liIs.f k l0_0 l1).bind fun t1133 => (spec_RankLinear.j0 k l1 (!t1133) l0_0)) else (spec_RankLinear.j0 k l1 true l0_0))
theorem spec_RankLinear.mono_l : ∀ k, (∀ y0 y1 y2, LeO (spec_RankLinear.j0 k y0 y1 y2) (spec_RankLinear.j0 (k + 1) y0 y1 y2)) ∧ (∀ y0 y1 y2 y3 y4 y5 y6, LeO (spec_RankLinear.l0 k y0 y1 y2 y3 y4 y5 y6) (spec_RankLinear.l0 (k + 1) y0 y1 y2 y3 y4 y5 y6)) ∧ (∀ y0 y1 y2 y3 y4 y5 y6 y7 y8, LeO (spec_RankLinear.l1 k y0 y1 y2 y3 y4 y5 y6 y7 y8) (spec_RankLinear.l1 (k + 1) y0 y1 y2 y3 y4 y5 y6 y7 y8))
 | 0 => ⟨fun _ _ _ r h => by simp [spec_RankLinear.j0] at h, fun _ _ _ _ _ _ _ r h => by simp [spec_RankLinear.l0] at h, fun _ _ _ _ _ _ _ _ _ r h => by simp [spec_RankLinear.l1] at h⟩
 | k + 1 => by
  obtain ⟨ih0, ih1, ih2⟩ := spec_RankLinear.mono_l k
  refine ⟨?_, ?_, ?_⟩
  ·intro y0 y1 y2
   unfold spec_RankLinear.j0
   repeat' first
   | (with_reducible exact spec_liCounts.mono _ _)
   | (with_reducible exact spec_liIs.mono _ _ _)
   | (with_reducible exact spec_poGood.mono _ _)
   | (with_reducible exact LeO.refl _)
   | (with_reducible exact LeO.none _)
   | (with_reducible refine LeO.ite ?_ ?_)
   | (with_reducible refine LeO.bind ?_ (fun _ => ?_))
   | exact ih0 _ _ _
   | exact ih1 _ _ _ _ _ _ _
   | exact ih2 _ _ _ _ _ _ _ _ _
   | exact spec_liCounts.mono _ _
   | exact spec_liIs.mono _ _ _
   | exact spec_poGood.mono _ _
   | exact LeO.none _
   | refine LeO.ite ?_ ?_
   | refine LeO.bind ?_ (fun _ => ?_)
  ·intro y0 y1 y2 y3 y4 y5 y6
   unfold spec_RankLinear.l0
   repeat' first
   | (with_reducible exact spec_liCounts.mono _ _)
   | (with_reducible exact spec_liIs.mono _ _ _)
   | (with_reducible exact spec_poGood.mono _ _)
   | (with_reducible exact LeO.refl _)
   | (with_reducible exact LeO.none _)
   | (with_reducible refine LeO.ite ?_ ?_)
   | (with_reducible refine LeO.bind ?_ (fun _ => ?_))
   | exact ih0 _ _ _
   | exact ih1 _ _ _ _ _ _ _
   | exact ih2 _ _ _ _ _ _ _ _ _
   | exact spec_liCounts.mono _ _
   | exact spec_liIs.mono _ _ _
   | exact spec_poGood.mono _ _
   | exact LeO.none _
   | refine LeO.ite ?_ ?_
   | refine LeO.bind ?_ (fun _ => ?_)
  ·intro y0 y1 y2 y3 y4 y5 y6 y7 y8
   unfold spec_RankLinear.l1
   repeat' first
   | (with_reducible exact spec_liCounts.mono _ _)
   | (with_reducible exact spec_liIs.mono _ _ _)
   | (with_reducible exact spec_poGood.mono _ _)
   | (with_reducible exact LeO.refl _)
   | (with_reducible exact LeO.none _)
   | (with_reducible refine LeO.ite ?_ ?_)
   | (with_reducible refine LeO.bind ?_ (fun _ => ?_))
   | exact ih0 _ _ _
   | exact ih1 _ _ _ _ _ _ _
   | exact ih2 _ _ _ _ _ _ _ _ _
   | exact spec_liCounts.mono _ _
   | exact spec_liIs.mono _ _ _
   | exact spec_poGood.mono _ _
   | exact LeO.none _
   | refine LeO.ite ?_ ?_
   | refine LeO.bind ?_ (fun _ => ?_)
theorem spec_RankLinear.mono : ∀ a0 a1 k, LeO (spec_RankLinear.f k a0 a1) (spec_RankLinear.f (k + 1) a0 a1) := by
 intro a0 a1 k
 obtain ⟨ih0, ih1, ih2⟩ := spec_RankLinear.mono_l k
 unfold spec_RankLinear.f
 repeat' first
  | (with_reducible exact spec_liCounts.mono _ _)
  | (with_reducible exact spec_liIs.mono _ _ _)
  | (with_reducible exact spec_poGood.mono _ _)
  | (with_reducible exact LeO.refl _)
  | (with_reducible exact LeO.none _)
  | (with_reducible refine LeO.ite ?_ ?_)
  | (with_reducible refine LeO.bind ?_ (fun _ => ?_))
  | exact ih0 _ _ _
  | exact ih1 _ _ _ _ _ _ _
  | exact ih2 _ _ _ _ _ _ _ _ _
  | exact spec_liCounts.mono _ _
  | exact spec_liIs.mono _ _ _
  | exact spec_poGood.mono _ _
  | exact LeO.none _
  | refine LeO.ite ?_ ?_
  | refine LeO.bind ?_ (fun _ => ?_)
set_option maxHeartbeats 8000000 in
set_option maxRecDepth 100000 in
theorem spec_RankLinear.calls (k : Nat) (A0_0 : Option Addr) (c0_0 : Nat) (l0_0 : List Int) (A1 : Option Addr) (c1 : Nat) (l1 : List Int) (r1 : Int) (r2 : Bool) (w : World) (hr0_0 : Kd.C (Kd.int .i64) w A0_0 l0_0.length l0_0) (hc0_0 : l0_0.length ≤ c0_0) (hr1 : Kd.C (Kd.int .i64) w A1 l1.length l1) (hc1 : l1.length ≤ c1) (h : spec_RankLinear.f k l0_0 l1 = some (r1, r2)) :
 Calls Try.prog 63 #[.agg #[.slice A0_0 l0_0.length c0_0], .slice A1 l1.length c1] w fun e w' => e = .returned (.tuple #[.int .i64 r1, .bool r2]) ∧ Below w.heap.size w w' := by
 have hu26 := Try.underlying26
 have HR0_0 := am hr0_0
 have HC0_0 := am hc0_0
 clear hr0_0 hc0_0
 have HR1 := am hr1
 have HC1 := am hc1
 clear hr1 hc1
 have HB := am (Below.refl w.heap.size w)
 have H : ((spec_poGood.f k l0_0).bind fun t1132 => (if t1132 = true then ((spec_liIs.f k l0_0 l1).bind fun t1133 => (spec_RankLinear.j0 k l1 (!t1133) l0_0)) else (spec_RankLinear.j0 k l1 true l0_0))) = some (r1, r2) := h
 clear h
 have HC3 := am H
 clear H
 go_enter Try.func63, Try.ntmps63
 go_upto_region 1 with (first | ((with_reducible refine gate_dst (N := 2) rfl ?_); refine qx (N := 2) (cs := #[.slice A0_0 l0_0.length c0_0]) (t := 26) ?_; intro gb1131 hg w4 hbox hb; have n0_ := am (below_step qB hb); have BK1131 := am (hbox); have GW1131 := am (qg w hg); have GE1131 := am (qg w hg); clear HB; have HB := n0_; clear n0_; clear hb hbox hg))
 (try simp only [Act.put, List.setIfInBounds_toArray, List.set_cons_zero, List.set_cons_succ])
 go_cut [20] (fun v20 wc => ∃ (kq : Nat) (x20_2 : Bool), v20 = .bool x20_2 ∧ Aside0 (spec_RankLinear.j0 kq l1 x20_2 l0_0 = some (r1, r2)) ∧ Aside0 (kq ≤ k) ∧ Aside0 (wc.heap[gb1131]? = some (.cells #[(.slice A0_0 l0_0.length c0_0)] 26 (0, 0))) ∧ Aside0 (Below w.heap.size w wc))
 case first =>
  have H := HC3.out
  clear HC3
  replace H := Option.bind_eq_some_iff.mp H
  obtain ⟨t1132, A50, H⟩ := H
  replace H : (if t1132 = true then ((spec_liIs.f k l0_0 l1).bind fun t1133 => (spec_RankLinear.j0 k l1 (!t1133) l0_0)) else (spec_RankLinear.j0 k l1 true l0_0)) = some (r1, r2) := H
  have A5 := am A50
  clear A50
  by_cases c6 : t1132 = true
  ·subst c6
   have H1 : ((spec_liIs.f k l0_0 l1).bind fun t1133 => (spec_RankLinear.j0 k l1 (!t1133) l0_0)) = some (r1, r2) := by rw [if_pos rfl] at H; exact H
   clear H
   have H := H1
   clear H1
   replace H := Option.bind_eq_some_iff.mp H
   obtain ⟨t1133, A70, H⟩ := H
   replace H : (spec_RankLinear.j0 k l1 (!t1133) l0_0) = some (r1, r2) := H
   have A7 := am A70
   clear A70
   have H' := am H
   clear H
   have hcz8_0 := qz w4 BK1131.out
   have hfz8_0 := blk_frozen BK1131.out 0
   go_wp2_with (first | ((with_reducible refine gate_callee (f := 82) rfl ?_); refine gL (some 13) Try.func82 #[.agg #[.slice A0_0 l0_0.length c0_0]] ?_; (with_reducible refine (spec_poGood.calls k _ _ l0_0 true _ ?side1 ?side2 A5.out).mono ?_); (case side1 => exact qC (Kd.C_below HR0_0.out HB.out)); (case side2 => exact HC0_0.out); rintro e w9 ⟨rfl, hb⟩; refine ⟨_, rfl, ?_⟩; replace BK1131 := am (blk_below (g := gb1131) (o := .cells #[.slice A0_0 l0_0.length c0_0] 26 (0, 0)) (qb BK1131.out) hb); replace HB := am (below_step qB hb); (try clear hb); (try clear hb2); (try clear hk); (try clear hi); have hcz10_0 := qz w9 BK1131.out; have hfz10_0 := blk_frozen BK1131.out 0) | (go_at_call 123; (with_reducible refine (spec_liIs.calls k _ _ l0_0 _ _ l1 t1133 _ ?side1 ?side2 ?side3 ?side4 A7.out).mono ?_); (case side1 => exact qC (Kd.C_below HR0_0.out HB.out)); (case side2 => exact HC0_0.out); (case side3 => exact qC (Kd.C_below HR1.out HB.out)); (case side4 => exact HC1.out); rintro e w11 ⟨rfl, hb⟩; replace BK1131 := am (blk_below (g := gb1131) (o := .cells #[.slice A0_0 l0_0.length c0_0] 26 (0, 0)) (qb BK1131.out) hb); replace HB := am (below_step qB hb); (try clear hb); (try clear hb2); (try clear hk); (try clear hi)))
   go_meet
   case rel => exact ⟨_, (!t1133), qe, H', ⟨by first | omega | exact Nat.le_refl _⟩, ⟨qb BK1131.out⟩, ⟨qB⟩⟩
  ·replace c6 := Bool.eq_false_iff.mpr c6
   subst c6
   have H1 : (spec_RankLinear.j0 k l1 true l0_0) = some (r1, r2) := by rw [if_neg (show ¬ (false = true) by decide)] at H; exact H
   clear H
   have H := H1
   clear H1
   have H' := am H
   clear H
   have hcz12_0 := qz w4 BK1131.out
   have hfz12_0 := blk_frozen BK1131.out 0
   go_wp2_with (first | ((with_reducible refine gate_callee (f := 82) rfl ?_); refine gL (some 13) Try.func82 #[.agg #[.slice A0_0 l0_0.length c0_0]] ?_; (with_reducible refine (spec_poGood.calls k _ _ l0_0 false _ ?side1 ?side2 A5.out).mono ?_); (case side1 => exact qC (Kd.C_below HR0_0.out HB.out)); (case side2 => exact HC0_0.out); rintro e w13 ⟨rfl, hb⟩; refine ⟨_, rfl, ?_⟩; replace BK1131 := am (blk_below (g := gb1131) (o := .cells #[.slice A0_0 l0_0.length c0_0] 26 (0, 0)) (qb BK1131.out) hb); replace HB := am (below_step qB hb); (try clear hb); (try clear hb2); (try clear hk); (try clear hi)))
   go_meet
   case rel => exact ⟨_, (true), qe, H', ⟨by first | omega | exact Nat.le_refl _⟩, ⟨qb BK1131.out⟩, ⟨qB⟩⟩
 case rest =>
  clear HC3
  try clear c1
  try clear p2
  try clear c6
  try clear c8
  try clear hcz10_0
  try clear hcz12_0
  try clear hcz8_0
  try clear hfz10_0
  try clear hfz12_0
  try clear hfz8_0
  obtain ⟨kq, x20_2, rfl, HA, HJ2, BK1131, HB⟩ := hcut
  cases kq with
  | zero => exact absurd HA.out (by simp [spec_RankLinear.j0])
  | succ kj2 =>
   have H := HA.out
   clear HA
   simp only [spec_RankLinear.j0] at H
   by_cases c14 : x20_2 = true
   ·subst c14
    have H1 : (some (0, false)) = some (r1, r2) := by rw [if_pos rfl] at H; exact H
    clear H
    have H := H1
    clear H1
    simp only [Option.some.injEq, Prod.mk.injEq] at H
    obtain ⟨rfl, rfl⟩ := H
    go_wp2
    go_ret2
    exact ⟨qr, qB⟩
   ·replace c14 := Bool.eq_false_iff.mpr c14
    subst c14
    have H1 : ((spec_liCounts.f kj2 l0_0).bind fun t1134 => (spec_RankLinear.l0 kj2 t1134 0 0 l1 (l1.length : Int) 0 l0_0)) = some (r1, r2) := by rw [if_neg (show ¬ (false = true) by decide)] at H; exact H
    clear H
    have H := H1
    clear H1
    replace H := Option.bind_eq_some_iff.mp H
    obtain ⟨t1134, A150, H⟩ := H
    replace H : (spec_RankLinear.l0 kj2 t1134 0 0 l1 (l1.length : Int) 0 l0_0) = some (r1, r2) := H
    have A15 := am A150
    clear A150
    have H' := am H
    clear H
    have hcz16_0 := qz wc BK1131.out
    have hfz16_0 := blk_frozen BK1131.out 0
    go_wp2_with (first | ((with_reducible refine gate_callee (f := 111) rfl ?_); refine gL (some 22) Try.func111 #[.agg #[.slice A0_0 l0_0.length c0_0]] ?_; (with_reducible refine (spec_liCounts.calls kj2 _ _ l0_0 t1134 _ ?side1 ?side2 A15.out).mono ?_); (case side1 => exact qC (Kd.C_below HR0_0.out HB.out)); (case side2 => exact HC0_0.out); rintro e w17 ⟨v1135, rfl, ho0, hb⟩; refine ⟨_, rfl, ?_⟩; have HO1136 := am (Kd.R_lower ho0 (below_size qB)); replace BK1131 := am (blk_below (g := gb1131) (o := .cells #[.slice A0_0 l0_0.length c0_0] 26 (0, 0)) (qb BK1131.out) hb); replace HB := am (below_step qB hb); (try clear hb); (try clear hb2); (try clear hk); (try clear hi); (try clear ho0)))
    go_loopg [7, 8, 25] kj2 (fun kq v7 v8 v25 w' => ∃ (x7_2 : Int) (x8_2 : Int) (x25_2 : Int), v7 = .int .i64 x7_2 ∧ v8 = .int .i64 x8_2 ∧ v25 = .int .i64 x25_2 ∧ Aside0 (spec_RankLinear.l0 kq t1134 x7_2 x8_2 l1 (l1.length : Int) x25_2 l0_0 = some (r1, r2)) ∧ Aside0 (kq ≤ kj2) ∧ Aside0 (Kd.R (Kd.int .i64) 3 w' w.heap.size (fun _ => True) v1135 t1134) ∧ Aside0 (w'.heap[gb1131]? = some (.cells #[(.slice A0_0 l0_0.length c0_0)] 26 (0, 0))) ∧ Aside0 (Below w.heap.size w w'))
    case atStart => exact ⟨(0), (0), (0), qe, qe, qe, H', ⟨Nat.le_refl _⟩, ⟨qR HO1136.out⟩, ⟨qb BK1131.out⟩, ⟨qB⟩⟩
    case round =>
     clear H'
     try clear c1
     try clear p2
     try clear c6
     try clear c8
     try clear c11
     try clear c14
     try clear hcz10_0
     try clear hcz12_0
     try clear hcz16_0
     try clear hcz8_0
     try clear hfz10_0
     try clear hfz12_0
     try clear hfz16_0
     try clear hfz8_0
     try clear p2
     obtain ⟨x7_2, x8_2, x25_2, rfl, rfl, rfl, HA, HK2, HO_6, BK1131, HB⟩ := hrel
     cases gk with
     | zero => exact absurd HA.out (by simp [spec_RankLinear.l0])
     | succ k2 =>
      have H := HA.out
      clear HA
      simp only [spec_RankLinear.l0] at H
      by_cases c18 : x25_2 < (l1.length : Int)
      ·rw [if_pos c18] at H
       have c18b0 := decide_eq_true c18
       clear c18
       by_cases c19 : 0 ≤ x25_2
       rotate_left
       ·rw [if_neg c19] at H
        exact absurd H (by simp)
       rw [if_pos c19] at H
       have c19b0 := decide_eq_true c19
       clear c19
       by_cases c20 : x25_2 < (l1.length : Int)
       rotate_left
       ·rw [if_neg c20] at H
        exact absurd H (by simp)
       rw [if_pos c20] at H
       have c20b0 := decide_eq_true c20
       clear c20
       have H' := am H
       clear H
       have p1137 : 0 ≤ (x25_2 : Int) := qd
       have q1137 : x25_2 < (l1.length : Int) := qd
       obtain ⟨ad1137, e1137, hx1137_0⟩ := Kd.at_int HR1.out x25_2 p1137 q1137
       cases e1137
       replace hx1137_0 := (HB.out.cell (World.block_lt_of_cell? w _ hx1137_0)).trans hx1137_0
       replace p1137 := eq_true p1137
       replace q1137 := eq_true q1137
       go_wp2
       go_loopg [7, 11] k2 (fun kq v7 v11 w' => ∃ (x7_3 : Int) (x11_3 : Int), v7 = .int .i64 x7_3 ∧ v11 = .int .i64 x11_3 ∧ Aside0 (spec_RankLinear.l1 kq t1134 x7_3 x8_2 (rd l1 x25_2) x11_3 l1 (l1.length : Int) x25_2 l0_0 = some (r1, r2)) ∧ Aside0 (kq ≤ k2) ∧ Aside0 (Kd.R (Kd.int .i64) 3 w' w.heap.size (fun _ => True) v1135 t1134) ∧ Aside0 (w'.heap[gb1131]? = some (.cells #[(.slice A0_0 l0_0.length c0_0)] 26 (0, 0))) ∧ Aside0 (Below w.heap.size w w'))
       case atStart => exact ⟨(x7_2), (0), qe, qe, H', ⟨Nat.le_refl _⟩, ⟨qR HO_6.out⟩, ⟨qb BK1131.out⟩, ⟨qB⟩⟩
       case round =>
        clear H'
        try clear c1
        try clear p1
        try clear q1
        try clear hx1
        try clear c2
        try clear p2
        try clear c6
        try clear c8
        try clear c11
        try clear p11
        try clear q11
        try clear hx11
        try clear c14
        try clear c18
        try clear c18b0
        try clear c19
        try clear c19b0
        try clear c20
        try clear c20b0
        try clear hcz10_0
        try clear hcz12_0
        try clear hcz16_0
        try clear hcz8_0
        try clear hfz10_0
        try clear hfz12_0
        try clear hfz16_0
        try clear hfz8_0
        try clear hx1137_0
        try clear p1137
        try clear p2
        try clear q1137
        obtain ⟨x7_3, x11_3, rfl, rfl, HA, HK3, HO_6, BK1131, HB⟩ := hrel
        cases gk with
        | zero => exact absurd HA.out (by simp [spec_RankLinear.l1])
        | succ k3 =>
         have H := HA.out
         clear HA
         simp only [spec_RankLinear.l1] at H
         by_cases c21 : x11_3 < (rd l1 x25_2)
         ·rw [if_pos c21] at H
          have c21b0 := decide_eq_true c21
          clear c21
          replace H := Option.bind_eq_some_iff.mp H
          obtain ⟨t1138, A220, H⟩ := H
          replace H : (if t1138 = true then (spec_RankLinear.l1 k3 t1134 x7_3 x8_2 (rd l1 x25_2) (wrap64 (x11_3 + 1)) l1 (l1.length : Int) x25_2 l0_0) else (if 0 ≤ x11_3 then (if x11_3 < (l0_0.length : Int) then (if (Go.bits .andNot .i64 (rd l0_0 x11_3) x8_2) = 0 then (if 0 ≤ (Go.bits .or .i64 x8_2 (shl .i64 1 x11_3)) then (if (Go.bits .or .i64 x8_2 (shl .i64 1 x11_3)) < (t1134.length : Int) then (spec_RankLinear.l1 k3 t1134 (wrap64 (x7_3 + (rd t1134 (Go.bits .or .i64 x8_2 (shl .i64 1 x11_3))))) x8_2 (rd l1 x25_2) (wrap64 (x11_3 + 1)) l1 (l1.length : Int) x25_2 l0_0) else (none)) else (none)) else (spec_RankLinear.l1 k3 t1134 x7_3 x8_2 (rd l1 x25_2) (wrap64 (x11_3 + 1)) l1 (l1.length : Int) x25_2 l0_0)) else (none)) else (none))) = some (r1, r2) := H
          have A22 := am A220
          clear A220
          by_cases c23 : t1138 = true
          ·subst c23
           have H1 : (spec_RankLinear.l1 k3 t1134 x7_3 x8_2 (rd l1 x25_2) (wrap64 (x11_3 + 1)) l1 (l1.length : Int) x25_2 l0_0) = some (r1, r2) := by rw [if_pos rfl] at H; exact H
           clear H
           have H := H1
           clear H1
           have H' := am H
           clear H
           go_wp2_with (first | ((with_reducible refine gate_callee (f := 93) rfl ?_); refine gL (some 36) Try.func93 #[.int .i64 x8_2, .int .i64 x11_3] ?_; (with_reducible refine (spec_poIn.calls x8_2 x11_3 true _ A22.out).mono ?_); rintro e w' ⟨rfl, ⟨nd, rfl⟩⟩; refine ⟨_, rfl, ?_⟩))
           go_roundg k3
           case measure => have := HJ2.out; have := HK2.out; have := HK3.out; omega
           case rel => exact ⟨(x7_3), (wrap64 (x11_3 + 1)), qe, qe, H', ⟨by have := HJ2.out; have := HK2.out; have := HK3.out; omega⟩, ⟨qR HO_6.out⟩, ⟨qb BK1131.out⟩, ⟨qB⟩⟩
          ·replace c23 := Bool.eq_false_iff.mpr c23
           subst c23
           have H1 : (if 0 ≤ x11_3 then (if x11_3 < (l0_0.length : Int) then (if (Go.bits .andNot .i64 (rd l0_0 x11_3) x8_2) = 0 then (if 0 ≤ (Go.bits .or .i64 x8_2 (shl .i64 1 x11_3)) then (if (Go.bits .or .i64 x8_2 (shl .i64 1 x11_3)) < (t1134.length : Int) then (spec_RankLinear.l1 k3 t1134 (wrap64 (x7_3 + (rd t1134 (Go.bits .or .i64 x8_2 (shl .i64 1 x11_3))))) x8_2 (rd l1 x25_2) (wrap64 (x11_3 + 1)) l1 (l1.length : Int) x25_2 l0_0) else (none)) else (none)) else (spec_RankLinear.l1 k3 t1134 x7_3 x8_2 (rd l1 x25_2) (wrap64 (x11_3 + 1)) l1 (l1.length : Int) x25_2 l0_0)) else (none)) else (none)) = some (r1, r2) := by rw [if_neg (show ¬ (false = true) by decide)] at H; exact H
           clear H
           have H := H1
           clear H1
           by_cases c24 : 0 ≤ x11_3
           rotate_left
           ·rw [if_neg c24] at H
            exact absurd H (by simp)
           rw [if_pos c24] at H
           have c24b0 := decide_eq_true c24
           clear c24
           by_cases c25 : x11_3 < (l0_0.length : Int)
           rotate_left
           ·rw [if_neg c25] at H
            exact absurd H (by simp)
           rw [if_pos c25] at H
           have c25b0 := decide_eq_true c25
           clear c25
           by_cases c26 : (Go.bits .andNot .i64 (rd l0_0 x11_3) x8_2) = 0
           ·rw [if_pos c26] at H
            have c26b0 : ((Go.bits .andNot .i64 (rd l0_0 x11_3) x8_2) == 0) = true := beq_iff_eq.mpr c26
            have c26b1 : ((Go.bits .andNot .i64 (rd l0_0 x11_3) x8_2) != 0) = false := bne_eq_false_iff_eq.mpr c26
            clear c26
            have c27b0 := eq_true (qd : 0 ≤ x11_3)
            obtain ⟨ji28, hji28⟩ : ∃ j_ : Int, (shl .i64 1 x11_3) = j_ := ⟨_, rfl⟩
            replace H : (if 0 ≤ (Go.bits .or .i64 x8_2 (ji28)) then (if (Go.bits .or .i64 x8_2 (ji28)) < (t1134.length : Int) then (spec_RankLinear.l1 k3 t1134 (wrap64 (x7_3 + (rd t1134 (Go.bits .or .i64 x8_2 (ji28))))) x8_2 (rd l1 x25_2) (wrap64 (x11_3 + 1)) l1 (l1.length : Int) x25_2 l0_0) else (none)) else (none)) = some (r1, r2) := by first | (rw [hji28] at H; exact H) | (simp only [hji28] at H ⊢; exact H)
            (try rw [hji28] at A22)
            have hji28_ : (IntKind.i64.wrap (1 * 2 ^ min x11_3.toNat 64)) = ji28 := hji28
            have hji28z : x11_3 ≤ 64 → (IntKind.i64.wrap (1 * 2 ^ x11_3.toNat)) = ji28 := shl_small hji28
            have hji28u : (IntKind.i64.wrap (2 ^ min x11_3.toNat 64)) = ji28 := by have h_ := hji28_; rw [Int.one_mul] at h_; exact h_
            have hji28v : x11_3 ≤ 64 → (IntKind.i64.wrap (2 ^ x11_3.toNat)) = ji28 := fun hle_ => by have h_ := hji28z hle_; rw [Int.one_mul] at h_; exact h_
            have hji28y : (wrap64 (1 * 2 ^ min x11_3.toNat 64)) = ji28 := (i64_w _).symm.trans hji28_
            have hji28x : x11_3 ≤ 64 → (wrap64 (1 * 2 ^ x11_3.toNat)) = ji28 := fun h_ => (i64_w _).symm.trans (hji28z h_)
            by_cases c29 : 0 ≤ (Go.bits .or .i64 x8_2 (ji28))
            rotate_left
            ·rw [if_neg c29] at H
             exact absurd H (by simp)
            rw [if_pos c29] at H
            have c29b0 := decide_eq_true c29
            clear c29
            by_cases c30 : (Go.bits .or .i64 x8_2 (ji28)) < (t1134.length : Int)
            rotate_left
            ·rw [if_neg c30] at H
             exact absurd H (by simp)
            rw [if_pos c30] at H
            have c30b0 := decide_eq_true c30
            clear c30
            have H' := am H
            clear H
            go_wp2_with (first | ((with_reducible refine gate_callee (f := 93) rfl ?_); refine gL (some 36) Try.func93 #[.int .i64 x8_2, .int .i64 x11_3] ?_; (with_reducible refine (spec_poIn.calls x8_2 x11_3 false _ A22.out).mono ?_); rintro e w' ⟨rfl, ⟨nd, rfl⟩⟩; refine ⟨_, rfl, ?_⟩; have hcz31_0 := qz wr BK1131.out; have hfz31_0 := blk_frozen BK1131.out 0; have p1139 : 0 ≤ (x11_3 : Int) := qd; have q1139 : x11_3 < (l0_0.length : Int) := qd; obtain ⟨ad1139, e1139, hx1139_0⟩ := Kd.at_int HR0_0.out x11_3 p1139 q1139; cases e1139; replace hx1139_0 := (HB.out.cell (World.block_lt_of_cell? w _ hx1139_0)).trans hx1139_0; replace p1139 := eq_true p1139; replace q1139 := eq_true q1139; obtain ⟨Ao32, co32, eo32⟩ := Kd.R_slice HO_6.out; subst eo32; have p1140 : 0 ≤ ((Go.bits .or .i64 x8_2 (ji28)) : Int) := qd; have q1140 : (Go.bits .or .i64 x8_2 (ji28)) < (t1134.length : Int) := qd; obtain ⟨ad1140, e1140, hx1140_0⟩ := Kd.at_int (Kd.R_reads' HO_6.out).2.2 (Go.bits .or .i64 x8_2 (ji28)) p1140 q1140; cases e1140; replace p1140 := eq_true p1140; replace q1140 := eq_true q1140))
            go_roundg k3
            case measure => have := HJ2.out; have := HK2.out; have := HK3.out; omega
            case rel => exact ⟨(wrap64 (x7_3 + (rd t1134 (Go.bits .or .i64 x8_2 (ji28))))), (wrap64 (x11_3 + 1)), (by first | rfl | (simp; done) | (simp only [← hji28] <;> (first | rfl | simp)) | (simp [*]; done)), qe, H', ⟨by have := HJ2.out; have := HK2.out; have := HK3.out; omega⟩, ⟨qR HO_6.out⟩, ⟨qb BK1131.out⟩, ⟨qB⟩⟩
           ·rw [if_neg c26] at H
            have c26b0 : ((Go.bits .andNot .i64 (rd l0_0 x11_3) x8_2) == 0) = false := beq_eq_false_iff_ne.mpr c26
            have c26b1 : ((Go.bits .andNot .i64 (rd l0_0 x11_3) x8_2) != 0) = true := bne_iff_ne.mpr c26
            have H' := am H
            clear H
            go_wp2_with (first | ((with_reducible refine gate_callee (f := 93) rfl ?_); refine gL (some 36) Try.func93 #[.int .i64 x8_2, .int .i64 x11_3] ?_; (with_reducible refine (spec_poIn.calls x8_2 x11_3 false _ A22.out).mono ?_); rintro e w' ⟨rfl, ⟨nd, rfl⟩⟩; refine ⟨_, rfl, ?_⟩; have hcz33_0 := qz wr BK1131.out; have hfz33_0 := blk_frozen BK1131.out 0; have p1139 : 0 ≤ (x11_3 : Int) := qd; have q1139 : x11_3 < (l0_0.length : Int) := qd; obtain ⟨ad1139, e1139, hx1139_0⟩ := Kd.at_int HR0_0.out x11_3 p1139 q1139; cases e1139; replace hx1139_0 := (HB.out.cell (World.block_lt_of_cell? w _ hx1139_0)).trans hx1139_0; replace p1139 := eq_true p1139; replace q1139 := eq_true q1139))
            go_roundg k3
            case measure => have := HJ2.out; have := HK2.out; have := HK3.out; omega
            case rel => exact ⟨(x7_3), (wrap64 (x11_3 + 1)), qe, qe, H', ⟨by have := HJ2.out; have := HK2.out; have := HK3.out; omega⟩, ⟨qR HO_6.out⟩, ⟨qb BK1131.out⟩, ⟨qB⟩⟩
         ·rw [if_neg c21] at H
          have c21b0 := decide_eq_false c21
          clear c21
          by_cases c34 : 0 ≤ (rd l1 x25_2)
          rotate_left
          ·rw [if_neg c34] at H
           exact absurd H (by simp)
          rw [if_pos c34] at H
          have c34b0 := eq_true c34
          have c34b1 := decide_eq_true c34
          clear c34
          obtain ⟨ji35, hji35⟩ : ∃ j_ : Int, (shl .i64 1 (rd l1 x25_2)) = j_ := ⟨_, rfl⟩
          replace H : (spec_RankLinear.l0 k3 t1134 x7_3 (Go.bits .or .i64 x8_2 (ji35)) l1 (l1.length : Int) (wrap64 (x25_2 + 1)) l0_0) = some (r1, r2) := by first | (rw [hji35] at H; exact H) | (simp only [hji35] at H ⊢; exact H)
          have hji35_ : (IntKind.i64.wrap (1 * 2 ^ min (rd l1 x25_2).toNat 64)) = ji35 := hji35
          have hji35z : (rd l1 x25_2) ≤ 64 → (IntKind.i64.wrap (1 * 2 ^ (rd l1 x25_2).toNat)) = ji35 := shl_small hji35
          have hji35u : (IntKind.i64.wrap (2 ^ min (rd l1 x25_2).toNat 64)) = ji35 := by have h_ := hji35_; rw [Int.one_mul] at h_; exact h_
          have hji35v : (rd l1 x25_2) ≤ 64 → (IntKind.i64.wrap (2 ^ (rd l1 x25_2).toNat)) = ji35 := fun hle_ => by have h_ := hji35z hle_; rw [Int.one_mul] at h_; exact h_
          have hji35y : (wrap64 (1 * 2 ^ min (rd l1 x25_2).toNat 64)) = ji35 := (i64_w _).symm.trans hji35_
          have hji35x : (rd l1 x25_2) ≤ 64 → (wrap64 (1 * 2 ^ (rd l1 x25_2).toNat)) = ji35 := fun h_ => (i64_w _).symm.trans (hji35z h_)
          have H' := am H
          clear H
          go_wp2
          go_roundg k3
          case measure => have := HJ2.out; have := HK2.out; have := HK3.out; omega
          case rel => exact ⟨(x7_3), (Go.bits .or .i64 x8_2 (ji35)), (wrap64 (x25_2 + 1)), qe, (by first | rfl | (simp; done) | (simp only [← hji35] <;> (first | rfl | simp)) | (simp [*]; done)), qe, H', ⟨by have := HJ2.out; have := HK2.out; have := HK3.out; omega⟩, ⟨qR HO_6.out⟩, ⟨qb BK1131.out⟩, ⟨qB⟩⟩
      ·rw [if_neg c18] at H
       have c18b0 := decide_eq_false c18
       clear c18
       simp only [Option.some.injEq, Prod.mk.injEq] at H
       obtain ⟨rfl, rfl⟩ := H
       go_wp2
       go_ret2
       exact ⟨qr, qB⟩
end Go.Proofs.Ytmbojobkiainlaa.F
end

section
namespace Go.Proofs.Ytmbojobkiainlaa.Q
open Go.RowKit Go.Proofs.YtmbojobkiainlaaW.PrintWords
set_option linter.unusedVariables false
theorem wid {n : Int} (h0 : -9223372036854775808 ≤ n) (h1 : n ≤ 9223372036854775807) : wrap64 n = n := by unfold wrap64; omega
theorem wid1 {i n : Nat} (h : i < n) (hn : n ≤ 9223372036854775807) : wrap64 ((i : Int) + 1) = ((i + 1 : Nat) : Int) := by unfold wrap64; omega
theorem rdN (l : List Int) (i : Nat) : rd l (i : Int) = l.getD i 0 := by unfold rd; simp
theorem rdN' {l : List Int} {i : Nat} (h : i < l.length) : rd l (i : Int) = l[i] := by rw [rdN, List.getD_eq_getElem?_getD, List.getElem?_eq_getElem h]; rfl
theorem downTo {P : Nat → Prop} (n : Nat) (h0 : P n) (hs : ∀ i, i < n → P (i + 1) → P i) : ∀ i, i ≤ n → P i := by
  intro i hi
  obtain ⟨d, hd⟩ : ∃ d, n - i = d := ⟨_, rfl⟩
  induction d generalizing i with
  | zero => have : i = n := by omega
            subst this; exact h0
  | succ d ih => exact hs i (by omega) (ih (i + 1) (by omega) (by omega))
theorem evc {α : Type} {g : Nat → Option α} {r r' : α} (h : Ev g r) (e : r = r') : Ev g r' := e ▸ h
theorem Ev.ret {α : Type} {r r' : α} (e : r = r') : Ev (fun _ => some r) r' := e ▸ Ev.now r
theorem Ev.call {α β : Type} {o : Option α} {a : α} {f : Nat → α → Option β} {r : β} (h : o = some a) (k : Ev (fun n => f n a) r) : Ev (fun n => o.bind (f n)) r := by
 subst h; exact k
theorem Ev.yes {α : Type} {c : Prop} [Decidable c] {f g : Nat → Option α} {r : α} (h : c) (k : Ev f r) : Ev (fun n => if c then f n else g n) r := by
 obtain ⟨K, k⟩ := k
 exact ⟨K, fun n hn => by show (if c then f n else g n) = _; rw [if_pos h]; exact k n hn⟩
theorem Ev.no {α : Type} {c : Prop} [Decidable c] {f g : Nat → Option α} {r : α} (h : ¬ c) (k : Ev g r) : Ev (fun n => if c then f n else g n) r := by
 obtain ⟨K, k⟩ := k
 exact ⟨K, fun n hn => by show (if c then f n else g n) = _; rw [if_neg h]; exact k n hn⟩
theorem Ev.ite {α : Type} {c : Prop} [Decidable c] {f g : Nat → Option α} {r : α} (h1 : c → Ev f r) (h2 : ¬ c → Ev g r) : Ev (fun n => if c then f n else g n) r := by
 by_cases h : c
 ·exact Ev.yes h (h1 h)
 ·exact Ev.no h (h2 h)
theorem Ev.uniq {α : Type} {g : Nat → Option α} {r r' : α} (h : Ev g r) (h' : Ev g r') : r = r' := by
 obtain ⟨K, h⟩ := h
 obtain ⟨K', h'⟩ := h'
 have a := h (max K K') (by omega)
 have b := h' (max K K') (by omega)
 rw [a] at b
 exact Option.some.inj b
theorem Ev.const {α : Type} {o : Option α} {r : α} (h : o = some r) : Ev (fun _ => o) r := ⟨0, fun _ _ => h⟩

def ndiff (a b : Nat) : Nat := a ^^^ (a &&& b)
theorem ndiff_bit (a b i : Nat) : (ndiff a b).testBit i = (a.testBit i && !b.testBit i) := by
 unfold ndiff; rw [Nat.testBit_xor, Nat.testBit_and]; cases a.testBit i <;> cases b.testBit i <;> rfl
theorem wrap_i64_id {n : Int} (h0 : -9223372036854775808 ≤ n) (h1 : n ≤ 9223372036854775807) : IntKind.i64.wrap n = n := by rw [IntKind.wrap_i64]; omega
theorem wraps62 (n : Int) (h0 : 0 ≤ n) (h1 : n < 2 ^ 62) : IntKind.i64.wrap n = n := wrap_i64_id (by omega) (by omega)
theorem bits_andN {a b : Nat} (ha : a < 2 ^ 62) (hb : b < 2 ^ 62) : Go.bits .and .i64 (a : Int) (b : Int) = ((a &&& b : Nat) : Int) :=
 (Go.bits_nat .i64 62 (by decide) wraps62 a b ha hb).1
theorem bits_orN {a b : Nat} (ha : a < 2 ^ 62) (hb : b < 2 ^ 62) : Go.bits .or .i64 (a : Int) (b : Int) = ((a ||| b : Nat) : Int) :=
 (Go.bits_nat .i64 62 (by decide) wraps62 a b ha hb).2
theorem lt_pow {a n m : Nat} (h : a < 2 ^ n) (hnm : n ≤ m) : a < 2 ^ m := Nat.lt_of_lt_of_le h (Nat.pow_le_pow_right (by decide) hnm)
theorem ndiff_le (a b : Nat) : ndiff a b ≤ a := by
 have h := Nat.and_le_left (n := a) (m := b)
 have hx : ndiff a b &&& (a &&& b) = 0 := by
  apply Nat.eq_of_testBit_eq
  intro i
  rw [Nat.testBit_and, ndiff_bit, Nat.testBit_and, Nat.zero_testBit]
  cases a.testBit i <;> cases b.testBit i <;> rfl
 apply Nat.le_of_testBit
 intro i hi
 rw [ndiff_bit] at hi
 simp at hi
 exact hi.1
theorem ndiff_lt {a b m : Nat} (h : a < m) : ndiff a b < m := Nat.lt_of_le_of_lt (ndiff_le a b) h
theorem bits_andNotN {a b : Nat} (ha : a < 2 ^ 62) (hb : b < 2 ^ 62) : Go.bits .andNot .i64 (a : Int) (b : Int) = ((ndiff a b : Nat) : Int) := by
 have e : Go.bits .andNot .i64 (a : Int) (b : Int) = IntKind.i64.wrap ((((BitVec.ofInt 64 a) &&& ~~~(BitVec.ofInt 64 b)).toNat : Nat) : Int) := rfl
 have e2 : ((BitVec.ofInt 64 (a : Int)) &&& ~~~(BitVec.ofInt 64 (b : Int))).toNat = ndiff a b := by
  apply Nat.eq_of_testBit_eq
  intro i
  rw [ndiff_bit, BitVec.ofInt_natCast, BitVec.ofInt_natCast]
  rw [BitVec.testBit_toNat, BitVec.getLsbD_and, BitVec.getLsbD_not, BitVec.getLsbD_ofNat, BitVec.getLsbD_ofNat]
  by_cases hi : i < 64
  ·simp [hi]
  ·have : a.testBit i = false := Nat.testBit_lt_two_pow (lt_pow ha (by omega))
   simp [hi, this]
 rw [e, e2]
 have h2 := ndiff_lt (b := b) ha
 exact wrap_i64_id (by omega) (by omega)
theorem shlN {i : Nat} (hi : i ≤ 61) : shl .i64 1 (i : Int) = ((2 ^ i : Nat) : Int) := by
 unfold shl
 have h1 : min (i : Int).toNat (IntKind.bits .i64) = i := by simp [IntKind.bits]; omega
 rw [h1]
 have h2 : (2 : Nat) ^ i < 2 ^ 62 := Nat.pow_lt_pow_right (by decide) (by omega)
 have e : (1 : Int) * 2 ^ i = ((2 ^ i : Nat) : Int) := by rw [Int.one_mul]; exact (Int.natCast_pow 2 i).symm
 rw [e]
 exact wraps62 _ (Int.natCast_nonneg _) (by
  have : ((2 ^ i : Nat) : Int) < ((4611686018427387904 : Nat) : Int) := by exact_mod_cast h2
  exact this)
theorem shrN (a i : Nat) (hi : i ≤ 64) : shr .i64 (a : Int) (i : Int) = ((a / 2 ^ i : Nat) : Int) := by
 unfold shr
 have h1 : min (i : Int).toNat (IntKind.bits .i64) = i := by simp [IntKind.bits]; omega
 rw [h1, Int.natCast_ediv, Int.natCast_pow]; rfl
theorem odd_bit (a i : Nat) : ((a / 2 ^ i) % 2 == 1) = a.testBit i := by
 rw [Nat.testBit_eq_decide_div_mod_eq]; rfl
theorem or_lt {a b n : Nat} (ha : a < 2 ^ n) (hb : b < 2 ^ n) : a ||| b < 2 ^ n := Nat.or_lt_two_pow ha hb
theorem bit_lt {a n i : Nat} (h : a < 2 ^ n) (hi : n ≤ i) : a.testBit i = false := Nat.testBit_lt_two_pow (lt_pow h hi)
theorem lt_of_bit {a n i : Nat} (h : a < 2 ^ n) (hi : a.testBit i = true) : i < n := by
 rcases Nat.lt_or_ge i n with h1 | h1
 ·exact h1
 ·rw [bit_lt h h1] at hi; cases hi
theorem pow_bit (i j : Nat) : (2 ^ i).testBit j = decide (i = j) := by
 rw [Nat.testBit_two_pow]
theorem pow_lt_pow {i n : Nat} (h : i < n) : 2 ^ i < 2 ^ n := Nat.pow_lt_pow_right (by decide) h
theorem ext_bits {a b n : Nat} (ha : a < 2 ^ n) (hb : b < 2 ^ n) (h : ∀ i, i < n → a.testBit i = b.testBit i) : a = b := by
 apply Nat.eq_of_testBit_eq
 intro i
 rcases Nat.lt_or_ge i n with h1 | h1
 ·exact h i h1
 ·rw [bit_lt ha h1, bit_lt hb h1]
def allFrom (f : Nat → Bool) (n i : Nat) : Bool := (List.range' i (n - i)).all f
theorem allFrom_end (f : Nat → Bool) (n : Nat) : allFrom f n n = true := by simp [allFrom]
theorem allFrom_step (f : Nat → Bool) {n i : Nat} (h : i < n) : allFrom f n i = (f i && allFrom f n (i + 1)) := by
 unfold allFrom
 obtain ⟨d, hd⟩ : ∃ d, n - i = d + 1 := ⟨n - i - 1, by omega⟩
 rw [hd, List.range'_succ, List.all_cons, show n - (i + 1) = d by omega]
theorem allFrom_iff (f : Nat → Bool) (n i : Nat) : allFrom f n i = true ↔ ∀ j, i ≤ j → j < n → f j = true := by
 unfold allFrom
 rw [List.all_eq_true]
 constructor
 ·intro h j h1 h2
  exact h j (List.mem_range'_1.2 ⟨h1, by omega⟩)
 ·intro h j hj
  obtain ⟨h1, h2⟩ := List.mem_range'_1.1 hj
  exact h j h1 (by omega)
theorem allFrom_congr {f g : Nat → Bool} {n i : Nat} (h : ∀ j, i ≤ j → j < n → f j = g j) : allFrom f n i = allFrom g n i := by
 rw [Bool.eq_iff_iff, allFrom_iff, allFrom_iff]
 exact ⟨fun H j a b => by rw [← h j a b]; exact H j a b, fun H j a b => by rw [h j a b]; exact H j a b⟩
theorem pow_int (i : Nat) : ((2 : Int) ^ i) = ((2 ^ i : Nat) : Int) := (Int.natCast_pow 2 i).symm
theorem mask_eq {i : Nat} (hi : i ≤ 61) : wrap64 ((shl .i64 1 (i : Int)) - 1) = (2 : Int) ^ i - 1 := by
 rw [shlN hi, pow_int]
 have h2 : (2 : Nat) ^ i ≤ 2 ^ 61 := Nat.pow_le_pow_right (by decide) hi
 have hp : 0 < 2 ^ i := Nat.two_pow_pos i
 apply wid <;> generalize 2 ^ i = z at * <;> omega
theorem bit_test {a : Nat} {j : Nat} (hj : j ≤ 64) : (Int.tmod (shr .i64 (a : Int) (j : Int)) 2 = 1) ↔ a.testBit j = true := by
 rw [shrN a j hj, Int.tmod_eq_emod_of_nonneg (Int.natCast_nonneg _), ← odd_bit, beq_iff_eq]
 omega
theorem range_false {a b : Int} {x : Int} (h : ¬ (a ≤ x ∧ x ≤ b)) : (decide (a ≤ x) && decide (x ≤ b)) = false := by
 rw [← Bool.not_eq_true, Bool.and_eq_true, decide_eq_true_eq, decide_eq_true_eq]; exact h
theorem range_true {a b : Int} {x : Int} (h : a ≤ x ∧ x ≤ b) : (decide (a ≤ x) && decide (x ≤ b)) = true := by
 rw [Bool.and_eq_true, decide_eq_true_eq, decide_eq_true_eq]; exact h
end Go.Proofs.Ytmbojobkiainlaa.Q
end

section
namespace Go.Proofs.Ytmbojobkiainlaa.Q
open Go.RowKit Go.Proofs.YtmbojobkiainlaaW.PrintWords Go.Proofs.Ytmbojobkiainlaa.F
set_option linter.unusedVariables false
theorem l1In_eq (a b c : Int) : spec_l1In.f a b c = some (decide (b ≤ a) && decide (a ≤ c)) := by
 unfold spec_l1In.f
 by_cases h : b ≤ a
 ·rw [if_pos h]; simp [h]
 ·rw [if_neg h]; simp [h]
theorem has_eq {a j : Nat} (ha : a < 2 ^ 62) (hj : j ≤ 64) : impl_has.f (a : Int) (j : Int) = some (a.testBit j) := by
 unfold impl_has.f
 rw [if_pos (Int.natCast_nonneg _), shrN a j hj]
 congr 1
 have h1 : a / 2 ^ j < 2 ^ 62 := Nat.lt_of_le_of_lt (Nat.div_le_self _ _) ha
 have := bits_andN (a := a / 2 ^ j) (b := 1) h1 (by decide)
 rw [show ((1 : Nat) : Int) = 1 from rfl] at this
 rw [this, ← odd_bit, Nat.and_one_is_mod]
 rw [Bool.eq_iff_iff, beq_iff_eq, beq_iff_eq]
 omega
def inR (a b x : Int) : Bool := decide (a ≤ x) && decide (x ≤ b)
theorem inR_iff {a b x : Int} : inR a b x = true ↔ a ≤ x ∧ x ≤ b := by unfold inR; rw [Bool.and_eq_true, decide_eq_true_eq, decide_eq_true_eq]
theorem l1All_ev (l : List Int) (a b : Int) (h : l.length ≤ 9223372036854775807) : Ev (fun k => spec_l1All.f k l a b) (allFrom (fun i => inR a b (l.getD i 0)) l.length 0) := by
 unfold spec_l1All.f
 have key : ∀ i, i ≤ l.length → Ev (fun k => spec_l1All.l0 k a b l (l.length : Int) (i : Int)) (allFrom (fun i => inR a b (l.getD i 0)) l.length i) := by
  refine downTo _ ?_ ?_
  ·refine Ev.step (by intro k; simp only [spec_l1All.l0]; rfl) (Ev.no (by omega) (Ev.ret (allFrom_end _ _).symm))
  ·intro i hi ih
   refine Ev.step (by intro k; simp only [spec_l1All.l0]; rfl) (Ev.yes (by omega) (Ev.yes (by omega) (Ev.yes (by omega) ?_)))
   rw [wid1 hi (by omega), rdN, allFrom_step _ hi]
   refine Ev.call (l1In_eq _ _ _) ?_
   show Ev (fun k => if inR a b (l.getD i 0) = true then _ else _) (inR a b (l.getD i 0) && _)
   cases inR a b (l.getD i 0) with
   | true => exact Ev.yes rfl (evc ih (by simp))
   | false => exact Ev.no (by simp) (Ev.ret rfl)
 exact key 0 (by omega)
end Go.Proofs.Ytmbojobkiainlaa.Q
end

section
namespace Go.Proofs.Ytmbojobkiainlaa.Q
open Go.RowKit Go.Proofs.YtmbojobkiainlaaW.PrintWords
set_option linter.unusedVariables false
theorem getD_set {α : Type} (l : List α) (i j : Nat) (v d : α) (hi : i < l.length) : (l.set i v).getD j d = if i = j then v else l.getD j d := by
 simp only [List.getD_eq_getElem?_getD, List.getElem?_set]
 by_cases h : i = j
 ·subst h; simp [hi]
 ·simp [h]
theorem ext_getD {a b : List Int} (hl : a.length = b.length) (h : ∀ i, i < a.length → a.getD i 0 = b.getD i 0) : a = b := by
 apply List.ext_getElem hl
 intro i h1 h2
 have := h i h1
 rw [List.getD_eq_getElem?_getD, List.getD_eq_getElem?_getD, List.getElem?_eq_getElem h1, List.getElem?_eq_getElem h2] at this
 exact this
theorem reverse_getD (l : List Int) (i : Nat) (h : i < l.length) : l.reverse.getD i 0 = l.getD (l.length - 1 - i) 0 := by
 rw [List.getD_eq_getElem?_getD, List.getD_eq_getElem?_getD, List.getElem?_reverse h]
def upFrom (a : Nat) (n : Nat) : List Int := (List.range' a n).map Int.ofNat
theorem upFrom_len (a n : Nat) : (upFrom a n).length = n := by simp [upFrom]
theorem upFrom_get {a n i : Nat} (h : i < n) : (upFrom a n).getD i 0 = ((a + i : Nat) : Int) := by
 rw [List.getD_eq_getElem?_getD]
 simp [upFrom, h]
end Go.Proofs.Ytmbojobkiainlaa.Q
end

section
namespace Go.Proofs.Ytmbojobkiainlaa.Q

end Go.Proofs.Ytmbojobkiainlaa.Q
end

section
namespace Go.Proofs.Ytmbojobkiainlaa.Q
open Go.RowKit Go.Proofs.YtmbojobkiainlaaW.PrintWords Go.Proofs.Ytmbojobkiainlaa.F
set_option linter.unusedVariables false
theorem poIn_eq {a j : Nat} (hj : j ≤ 64) : spec_poIn.f (a : Int) (j : Int) = some (a.testBit j) := by
 unfold spec_poIn.f
 rw [if_pos (Int.natCast_nonneg _)]
 congr 1
 rw [Bool.eq_iff_iff, beq_iff_eq]
 exact bit_test hj
end Go.Proofs.Ytmbojobkiainlaa.Q
end

section
namespace Go.Proofs.Ytmbojobkiainlaa.Q
open Go.RowKit Go.Proofs.YtmbojobkiainlaaW.PrintWords
set_option linter.unusedVariables false
def L (p : List Int) (i : Nat) : Nat := (p.getD i 0).toNat
def rowOk (p : List Int) (i : Nat) : Bool := decide (0 ≤ p.getD i 0) && decide (p.getD i 0 ≤ 2 ^ i - 1) && allFrom (fun j => !(L p i).testBit j || decide (Go.bits .andNot .i64 (p.getD j 0) (p.getD i 0) = 0)) i 0
def isPo (p : List Int) : Bool := decide (1 ≤ p.length) && decide (p.length ≤ 10) && allFrom (rowOk p) p.length 0
structure PO (p : List Int) : Prop where
 pos : 1 ≤ p.length
 small : p.length ≤ 10
 val : ∀ i, i < p.length → p.getD i 0 = (L p i : Int)
 lt : ∀ i, i < p.length → L p i < 2 ^ i
 tr : ∀ i j, i < p.length → (L p i).testBit j = true → ndiff (L p j) (L p i) = 0
theorem L_big {p : List Int} {i : Nat} (h : p.length ≤ i) : L p i = 0 := by
 unfold L; rw [List.getD_eq_getElem?_getD, List.getElem?_eq_none h]; rfl
theorem isPo_iff (p : List Int) : isPo p = true ↔ PO p := by
 unfold isPo
 rw [Bool.and_eq_true, Bool.and_eq_true, decide_eq_true_eq, decide_eq_true_eq, allFrom_iff]
 constructor
 ·rintro ⟨⟨h1, h2⟩, h3⟩
  have hv : ∀ i, i < p.length → p.getD i 0 = (L p i : Int) ∧ L p i < 2 ^ i := by
   intro i hi
   have := h3 i (Nat.zero_le _) hi
   simp only [rowOk, Bool.and_eq_true, decide_eq_true_eq] at this
   obtain ⟨⟨a, b⟩, _⟩ := this
   rw [pow_int] at b
   have hp : 0 < 2 ^ i := Nat.two_pow_pos i
   unfold L
   generalize 2 ^ i = z at *
   omega
  refine ⟨h1, h2, fun i hi => (hv i hi).1, fun i hi => (hv i hi).2, fun i j hi hj => ?_⟩
  have hji : j < i := lt_of_bit (hv i hi).2 hj
  have := h3 i (Nat.zero_le _) hi
  simp only [rowOk, Bool.and_eq_true] at this
  have h4 := (allFrom_iff _ _ _).1 this.2 j (Nat.zero_le _) hji
  rw [hj] at h4
  simp only [Bool.not_true, Bool.false_or, decide_eq_true_eq] at h4
  rw [(hv i hi).1, (hv j (by omega)).1, bits_andNotN (lt_pow (hv j (by omega)).2 (by omega)) (lt_pow (hv i hi).2 (by omega))] at h4
  exact_mod_cast h4
 ·intro h
  refine ⟨⟨h.pos, h.small⟩, fun i _ hi => ?_⟩
  have hs := h.small
  have hl := h.lt i hi
  simp only [rowOk, Bool.and_eq_true, decide_eq_true_eq]
  refine ⟨⟨by rw [h.val i hi]; omega, by rw [h.val i hi, pow_int]; generalize 2 ^ i = z at *; omega⟩, ?_⟩
  rw [allFrom_iff]
  intro j _ hj
  cases hb : (L p i).testBit j with
  | false => rfl
  | true =>
   simp only [Bool.not_true, Bool.false_or, decide_eq_true_eq]
   rw [h.val i hi, h.val j (by omega), bits_andNotN (lt_pow (h.lt j (by omega)) (by omega)) (lt_pow hl (by omega)), h.tr i j hi hb]
   rfl
theorem isPo_false {p : List Int} (h : ¬ PO p) : isPo p = false := by
 cases e : isPo p with
 | false => rfl
 | true => exact absurd ((isPo_iff p).1 e) h

def itemsN (m : Nat) : List Nat := (List.range 10).filter m.testBit
def ints (l : List Nat) : List Int := l.map Int.ofNat
theorem ints_len (l : List Nat) : (ints l).length = l.length := by simp [ints]
theorem ints_app (a b : List Nat) : ints (a ++ b) = ints a ++ ints b := by simp [ints]
theorem ints_get (l : List Nat) (i : Nat) : (ints l).getD i 0 = ((l.getD i 0 : Nat) : Int) := by
 simp only [ints, List.getD_eq_getElem?_getD, List.getElem?_map]
 cases l[i]? <;> rfl
theorem rd_ints (l : List Nat) (i : Nat) : rd (ints l) (i : Int) = ((l.getD i 0 : Nat) : Int) := by rw [rdN, ints_get]
theorem mem_itemsN {m j : Nat} : j ∈ itemsN m ↔ j < 10 ∧ m.testBit j = true := by
 unfold itemsN; rw [List.mem_filter, List.mem_range]
theorem itemsN_len (m : Nat) : (itemsN m).length ≤ 10 := by
 unfold itemsN; have := List.length_filter_le m.testBit (List.range 10); simpa using this
theorem rowOk_false {p : List Int} {i : Nat} (h : ¬ (0 ≤ p.getD i 0 ∧ p.getD i 0 ≤ 2 ^ i - 1)) : rowOk p i = false := by
 unfold rowOk; rw [range_false h]; rfl
theorem rowOk_true {p : List Int} {i : Nat} (h : 0 ≤ p.getD i 0 ∧ p.getD i 0 ≤ 2 ^ i - 1) :
 rowOk p i = allFrom (fun j => !(L p i).testBit j || decide (Go.bits .andNot .i64 (p.getD j 0) (p.getD i 0) = 0)) i 0 := by
 unfold rowOk; rw [range_true h]; rfl
theorem all_drop_step {α : Type} (f : α → Bool) (l : List α) (d : α) {i : Nat} (h : i < l.length) : (l.drop i).all f = (f (l.getD i d) && (l.drop (i + 1)).all f) := by
 rw [List.drop_eq_getElem_cons h, List.all_cons, List.getD_eq_getElem?_getD, List.getElem?_eq_getElem h]; rfl
theorem items_lt {m i : Nat} {j : Nat} (hm : m < 2 ^ i) (hj : j < (itemsN m).length) : (itemsN m).getD j 0 < i := by
 rw [List.getD_eq_getElem?_getD, List.getElem?_eq_getElem hj]
 have := List.getElem_mem hj
 exact lt_of_bit hm (mem_itemsN.1 this).2
theorem items_all {m i : Nat} (hm : m < 2 ^ i) (hi : i ≤ 10) (f : Nat → Bool) : (itemsN m).all f = allFrom (fun j => !m.testBit j || f j) i 0 := by
 rw [Bool.eq_iff_iff, List.all_eq_true, allFrom_iff]
 constructor
 ·intro h j _ hj
  cases hb : m.testBit j with
  | false => rfl
  | true => rw [h j (mem_itemsN.2 ⟨by omega, hb⟩)]; rfl
 ·intro h j hj
  obtain ⟨h1, h2⟩ := mem_itemsN.1 hj
  have := h j (Nat.zero_le _) (lt_of_bit hm h2)
  rw [h2] at this
  simpa using this
end Go.Proofs.Ytmbojobkiainlaa.Q
end

section
namespace Go.Proofs.Ytmbojobkiainlaa.Q
open Go.RowKit Go.Proofs.YtmbojobkiainlaaW.PrintWords Go.Proofs.Ytmbojobkiainlaa.F
set_option linter.unusedVariables false
def bytesL (l : List Int) : Prop := ∀ n ∈ l, 0 ≤ n ∧ n ≤ 255
def cAt (B : Nat) (a : Int) : Prop := 0 ≤ a ∧ a ≤ (B : Int)
theorem cAt_mono {B C : Nat} {a : Int} (h : cAt B a) (hBC : B ≤ C) : cAt C a := ⟨h.1, by have := h.2; omega⟩
theorem rd_byte {l : List Int} (hl : bytesL l) (i : Int) : 0 ≤ rd l i ∧ rd l i ≤ 255 := by
 unfold rd
 rw [List.getD_eq_getElem?_getD]
 rcases Nat.lt_or_ge i.toNat l.length with h | h
 ·rw [List.getElem?_eq_getElem h]
  exact hl _ (List.getElem_mem h)
 ·rw [List.getElem?_eq_none h]; exact ⟨Int.le_refl _, by decide⟩
theorem wrapu62 (n : Int) (h0 : 0 ≤ n) (h1 : n < 2 ^ 62) : IntKind.u64.wrap n = n := by rw [IntKind.wrap_u64]; omega
theorem seed_byte (x : Int) : 0 ≤ wrap64 (Go.bits .and .u64 ((IntKind.u64.wrap x) / 1099511627776) 255) ∧ wrap64 (Go.bits .and .u64 ((IntKind.u64.wrap x) / 1099511627776) 255) ≤ 255 := by
 have h : 0 ≤ IntKind.u64.wrap x ∧ IntKind.u64.wrap x < 18446744073709551616 := by rw [IntKind.wrap_u64]; omega
 obtain ⟨q, hq⟩ : ∃ q : Nat, (IntKind.u64.wrap x) / 1099511627776 = (q : Int) := ⟨((IntKind.u64.wrap x) / 1099511627776).toNat, by omega⟩
 have hq2 : q < 2 ^ 62 := by omega
 have := (Go.bits_nat .u64 62 (by decide) wrapu62 q 255 hq2 (by decide)).1
 rw [hq, show (255 : Int) = ((255 : Nat) : Int) from rfl, this]
 have h2 : q &&& 255 ≤ 255 := Nat.and_le_right
 rw [wid (by omega) (by omega)]
 omega
theorem next_ok {l : List Int} (hl : bytesL l) {B : Nat} {a : Int} (s : Int) (ha : cAt B a) (hB : B ≤ 1000000) : ∃ x a' s', spec_l1Cur_next.f l a s = some (x, a', s') ∧ cAt (B + 1) a' ∧ 0 ≤ x ∧ x ≤ 255 := by
 obtain ⟨h0, h1⟩ := ha
 have hw : wrap64 (a + 1) = a + 1 := wid (by omega) (by omega)
 have hc : cAt (B + 1) (a + 1) := ⟨by omega, by omega⟩
 obtain ⟨r0, r1⟩ := rd_byte hl a
 unfold spec_l1Cur_next.f
 rw [hw]
 by_cases c1 : a < (l.length : Int)
 ·rw [if_pos c1, if_pos h0]
  by_cases c2 : a + 1 ≤ (l.length : Int)
  ·rw [if_pos c2]
   exact ⟨_, _, _, rfl, hc, by rw [wid (by omega) (by omega)]; exact r0, by rw [wid (by omega) (by omega)]; exact r1⟩
  ·rw [if_neg c2]
   exact ⟨_, _, _, rfl, hc, (seed_byte _).1, (seed_byte _).2⟩
 ·rw [if_neg c1]
  by_cases c2 : a + 1 ≤ (l.length : Int)
  ·rw [if_pos c2]; exact ⟨_, _, _, rfl, hc, by omega, by omega⟩
  ·rw [if_neg c2]; exact ⟨_, _, _, rfl, hc, (seed_byte _).1, (seed_byte _).2⟩
def pickTo (n x : Int) : Prop := 0 ≤ x ∧ (x < n ∨ (x = 0 ∧ n ≤ 1))
theorem tmod_to {x n : Int} (hx : 0 ≤ x) (hn : 1 < n) : pickTo n (Int.tmod x n) := by
 rw [Int.tmod_eq_emod_of_nonneg hx]
 exact ⟨Int.emod_nonneg _ (by omega), Or.inl (Int.emod_lt_of_pos _ (by omega))⟩
theorem cpick_ok {l : List Int} (hl : bytesL l) {B : Nat} {a : Int} (s n : Int) (ha : cAt B a) (hB : B ≤ 900000) : ∃ x a' s', spec_l1Cur_pick.f l a s n = some (x, a', s') ∧ cAt (B + 2) a' ∧ pickTo n x := by
 unfold spec_l1Cur_pick.f
 by_cases c1 : n ≤ 1
 ·rw [if_pos c1]
  exact ⟨_, _, _, rfl, cAt_mono ha (by omega), Int.le_refl _, Or.inr ⟨rfl, c1⟩⟩
 rw [if_neg c1]
 obtain ⟨x1, a1, s1, e1, h1, g1, g2⟩ := next_ok hl s ha (by omega)
 rw [e1]
 simp only [Option.bind_some]
 by_cases c2 : n > 200
 ·rw [if_pos c2]
  obtain ⟨x2, a2, s2, e2, h2, k1, k2⟩ := next_ok hl s1 h1 (by omega)
  rw [e2]
  simp only [Option.bind_some]
  rw [if_neg (by omega), wid (n := x1 * 256) (by omega) (by omega), wid (n := x1 * 256 + x2) (by omega) (by omega)]
  exact ⟨_, _, _, rfl, h2, tmod_to (by omega) (by omega)⟩
 ·rw [if_neg c2, if_neg (by omega)]
  exact ⟨_, _, _, rfl, cAt_mono h1 (by omega), tmod_to g1 (by omega)⟩
theorem one_ok {l : List Int} (hl : bytesL l) {B : Nat} {a : Int} (s n : Int) (ha : cAt B a) (hB : B ≤ 900000) : ∃ x a' s', spec_l1Cur_one.f l a s n = some (x, a', s') ∧ cAt (B + 2) a' := by
 obtain ⟨x, a', s', e, h, _⟩ := cpick_ok hl s n ha hB
 unfold spec_l1Cur_one.f
 rw [e]
 exact ⟨_, _, _, rfl, h⟩
theorem among_ok {l : List Int} (hl : bytesL l) {B : Nat} {a : Int} (s : Int) (ha : cAt B a) (hB : B ≤ 900000) {m : List Int} (hm : 0 < m.length) : ∃ x a' s', spec_l1Cur_among.f l a s m = some (x, a', s') ∧ cAt (B + 2) a' ∧ x ∈ m := by
 obtain ⟨x, a', s', e, h, g0, g1⟩ := cpick_ok hl s (m.length : Int) ha hB
 unfold spec_l1Cur_among.f
 rw [e]
 simp only [Option.bind_some]
 have hx : x < (m.length : Int) := by omega
 rw [if_pos g0, if_pos hx]
 refine ⟨_, _, _, rfl, h, ?_⟩
 unfold rd
 rw [List.getD_eq_getElem?_getD, List.getElem?_eq_getElem (by omega)]
 exact List.getElem_mem _
def wfL (l : List Int) : Prop := ∀ n ∈ l, (Lit.int .i64 n).wf = true
theorem wf_wrapI (n : Int) : (Lit.int .i64 (IntKind.i64.wrap n)).wf = true := WalkArith.wf_i64 (by rw [IntKind.wrap_i64]; omega)
theorem wf_wrap64 (n : Int) : (Lit.int .i64 (wrap64 n)).wf = true := WalkArith.wf_i64 (by unfold wrap64; omega)
theorem wf_or (a b : Int) : (Lit.int .i64 (Go.bits .or .i64 a b)).wf = true := wf_wrapI _
theorem wfL_set {l : List Int} (h : wfL l) {x : Int} (hx : (Lit.int .i64 x).wf = true) (i : Nat) : wfL (l.set i x) := fun n hn => by
 rcases List.mem_or_eq_of_mem_set hn with h1 | h1
 ·exact h n h1
 ·rw [h1]; exact hx
theorem wfL_rep (n : Nat) : wfL (List.replicate n 0) := fun x hx => by
 rw [(List.mem_replicate.1 hx).2]; decide
theorem wfL_app {a b : List Int} (ha : wfL a) (hb : wfL b) : wfL (a ++ b) := fun n hn => by
 rcases List.mem_append.1 hn with h | h
 ·exact ha n h
 ·exact hb n h
def pairsOk (n : Nat) (ps : List (List Int)) : Prop := ps.length ≤ 1000 ∧ ∀ c ∈ ps, c.length = 2 ∧ 0 ≤ c.getD 0 0 ∧ c.getD 0 0 < (n : Int)
theorem poFrom_ok {n : Nat} (hn : n ≤ 1000) {ps : List (List Int)} (hp : pairsOk n ps) : ∃ r, Ev (fun k => spec_poFrom.f k (n : Int) ps) r ∧ r.length = n ∧ wfL r := by
 unfold spec_poFrom.f
 have outer : ∀ i, i ≤ n → ∀ out : List Int, out.length = n → wfL out → ∃ r, Ev (fun k => spec_poFrom.l0 k (n : Int) ps (i : Int) out) r ∧ r.length = n ∧ wfL r := by
  refine downTo _ ?_ ?_
  ·intro out h1 h2
   exact ⟨out, Ev.step (by intro k; simp only [spec_poFrom.l0]; rfl) (Ev.no (by omega) (Ev.now _)), h1, h2⟩
  ·intro i hi ih
   have inner : ∀ j, j ≤ ps.length → ∀ out : List Int, out.length = n → wfL out → ∃ r, Ev (fun k => spec_poFrom.l1 k (n : Int) ps (i : Int) ps (ps.length : Int) (j : Int) out) r ∧ r.length = n ∧ wfL r := by
    refine downTo _ ?_ ?_
    ·intro out h1 h2
     obtain ⟨r, g1, g2, g3⟩ := ih out h1 h2
     refine ⟨r, Ev.step (by intro k; simp only [spec_poFrom.l1]; rfl) (Ev.no (by omega) ?_), g2, g3⟩
     rw [wid1 hi (by omega)]
     exact g1
    ·intro j hj ihj out h1 h2
     obtain ⟨hc1, hc2, hc3⟩ := hp.2 _ (List.getElem_mem hj)
     have hrow : rd_L1 ps (j : Int) = ps[j] := by
      unfold rd_L1
      rw [Int.toNat_natCast, List.getD_eq_getElem?_getD, List.getElem?_eq_getElem hj]; rfl
     have hpl := hp.1
     have hw : wrap64 ((j : Int) + 1) = ((j + 1 : Nat) : Int) := wid1 hj (by omega)
     have hr0 : rd ps[j] 0 = ps[j].getD 0 0 := rfl
     by_cases hc : rd ps[j] 1 = (i : Int)
     ·obtain ⟨r, g1, g2, g3⟩ := ihj (out.set ((i : Int)).toNat (Go.bits .or .i64 (rd out (i : Int)) (Go.bits .or .i64 (shl .i64 1 (rd ps[j] 0)) (rd out (rd ps[j] 0))))) (by rw [List.length_set]; exact h1) (wfL_set h2 (wf_or _ _) _)
      refine ⟨r, Ev.step (by intro k; simp only [spec_poFrom.l1]; rfl) (Ev.yes (by omega) (Ev.yes (by omega) (Ev.yes (by omega) ?_))), g2, g3⟩
      rw [hrow, hw]
      exact Ev.yes (by omega) (Ev.yes hc (Ev.yes (by omega) (Ev.yes (by omega) (Ev.yes (by omega) (Ev.yes (by omega) (Ev.yes (by omega) g1))))))
     ·obtain ⟨r, g1, g2, g3⟩ := ihj out h1 h2
      refine ⟨r, Ev.step (by intro k; simp only [spec_poFrom.l1]; rfl) (Ev.yes (by omega) (Ev.yes (by omega) (Ev.yes (by omega) ?_))), g2, g3⟩
      rw [hrow, hw]
      exact Ev.yes (by omega) (Ev.no hc g1)
   intro out h1 h2
   obtain ⟨r, g1, g2, g3⟩ := inner 0 (Nat.zero_le _) out h1 h2
   exact ⟨r, Ev.step (by intro k; simp only [spec_poFrom.l0]; rfl) (Ev.yes (by omega) g1), g2, g3⟩
 obtain ⟨r, g1, g2, g3⟩ := outer 0 (Nat.zero_le _) (List.replicate n 0) (by simp) (wfL_rep n)
 refine ⟨r, Ev.yes (by omega) (Ev.yes (by omega) ?_), g2, g3⟩
 rw [Int.toNat_natCast]
 exact g1
theorem items_ev (m : Nat) (hm : m < 2 ^ 62) : Ev (fun k => impl_items.f k (m : Int)) (ints (itemsN m)) := by
 show Ev (fun k => impl_items.l0 k (m : Int) [] 0) _
 have key : ∀ i, i ≤ 10 → ∀ acc : List Int, acc.length ≤ i → Ev (fun k => impl_items.l0 k (m : Int) acc (i : Int)) (acc ++ ints ((List.range' i (10 - i)).filter m.testBit)) := by
  refine downTo 10 ?_ ?_
  ·intro acc _
   refine Ev.step (by intro k; simp only [impl_items.l0]; rfl) ?_
   refine Ev.no (by omega) (Ev.ret (by simp [ints]))
  ·intro i hi ih acc ha
   refine Ev.step (by intro k; simp only [impl_items.l0]; rfl) ?_
   refine Ev.yes (by omega) (Ev.call (has_eq hm (by omega)) ?_)
   have hr : List.range' i (10 - i) = i :: List.range' (i + 1) (10 - (i + 1)) := by
    rw [show 10 - i = (10 - (i + 1)) + 1 by omega, List.range'_succ]
   rw [hr, wid1 hi (by omega)]
   cases hb : m.testBit i with
   | true =>
    refine Ev.yes rfl (Ev.yes (by omega) (evc (ih (acc ++ [(i : Int)]) (by simp; omega)) ?_))
    rw [List.filter_cons_of_pos hb]
    simp [ints]
   | false =>
    refine Ev.no (by simp) (evc (ih acc (by omega)) ?_)
    rw [List.filter_cons_of_neg (by simp [hb])]
 have := key 0 (by omega) [] (by simp)
 exact evc this (by simp [itemsN, List.range_eq_range'])
theorem rdL_at {rows : List (List Int)} {i : Nat} (h : i < rows.length) : rd_L1 rows (i : Int) = rows[i] := by
 unfold rd_L1
 rw [Int.toNat_natCast, List.getD_eq_getElem?_getD, List.getElem?_eq_getElem h]; rfl
theorem big_eq {a b : List Int} (h : ¬ (a.length > 1048576 ∨ b.length > 1048576 - a.length)) : laws_big.f a b = some false := by
 unfold laws_big.f
 rw [if_neg (by omega), wid (by omega) (by omega), decide_eq_false (by omega)]
theorem big_or (a b : List Int) : laws_big.f a b = some true ∨ (laws_big.f a b = some false ∧ a.length ≤ 1048576 ∧ b.length ≤ 1048576) := by
 by_cases h : a.length > 1048576 ∨ b.length > 1048576 - a.length
 ·left
  unfold laws_big.f
  by_cases h1 : (a.length : Int) > 1048576
  ·rw [if_pos h1]
  ·rw [if_neg h1, wid (by omega) (by omega), decide_eq_true (by omega)]
 ·right
  exact ⟨big_eq h, by omega, by omega⟩
theorem oSame_refl {a : List Int} (h : a.length ≤ 100000000) : Ev (fun k => laws_oSame.f k a a) true := by
 unfold laws_oSame.f
 refine Ev.yes rfl ?_
 have key : ∀ i, i ≤ a.length → Ev (fun k => laws_oSame.l0 k a a (a.length : Int) (i : Int)) true := by
  refine downTo _ ?_ ?_
  ·exact Ev.step (by intro k; simp only [laws_oSame.l0]; rfl) (Ev.no (by omega) (Ev.now _))
  ·intro i hi ih
   refine Ev.step (by intro k; simp only [laws_oSame.l0]; rfl) (Ev.yes (by omega) (Ev.yes (by omega) (Ev.yes (by omega) (Ev.yes (by omega) (Ev.yes (c := rd a (i : Int) = rd a (i : Int)) rfl ?_)))))
   rw [wid1 hi (by omega)]
   exact ih
 exact key 0 (Nat.zero_le _)
theorem oSameRows_refl {a : List (List Int)} (h : a.length ≤ 1000000) (hr : ∀ q ∈ a, q.length ≤ 1000000) : Ev (fun k => laws_oSameRows.f k a a) true := by
 unfold laws_oSameRows.f
 refine Ev.yes rfl ?_
 have key : ∀ i, i ≤ a.length → Ev (fun k => laws_oSameRows.l0 k a a (a.length : Int) (i : Int)) true := by
  refine downTo _ ?_ ?_
  ·exact Ev.step (by intro k; simp only [laws_oSameRows.l0]; rfl) (Ev.no (by omega) (Ev.now _))
  ·intro i hi ih
   refine Ev.step (by intro k; simp only [laws_oSameRows.l0]; rfl) (Ev.yes (by omega) (Ev.yes (by omega) (Ev.yes (by omega) (Ev.yes (by omega) ?_))))
   rw [rdL_at hi, wid1 hi (by omega)]
   refine Ev.bind (oSame_refl ?_) (Ev.yes rfl ih)
   have := hr _ (List.getElem_mem hi)
   omega
 exact key 0 (Nat.zero_le _)
end Go.Proofs.Ytmbojobkiainlaa.Q
end

section
namespace Go.Proofs.Ytmbojobkiainlaa.Q
open Go.RowKit Go.Proofs.YtmbojobkiainlaaW.PrintWords
set_option linter.unusedVariables false
def maskOf : Nat → (Nat → Bool) → Nat
 | 0, _ => 0
 | n + 1, c => if c n then maskOf n c ||| 2 ^ n else maskOf n c
theorem maskOf_bit (n : Nat) (c : Nat → Bool) (i : Nat) : (maskOf n c).testBit i = (decide (i < n) && c i) := by
 induction n with
 | zero => simp [maskOf]
 | succ n ih =>
  unfold maskOf
  by_cases hc : c n = true
  ·rw [if_pos hc, Nat.testBit_or, ih, pow_bit]
   by_cases h : n = i
   ·subst h; simp [hc]
   ·have : decide (i < n + 1) = decide (i < n) := by rw [decide_eq_decide]; omega
    rw [this]; simp [h]
  ·rw [if_neg hc, ih]
   by_cases h : n = i
   ·subst h; simp at hc; simp [hc]
   ·have : decide (i < n + 1) = decide (i < n) := by rw [decide_eq_decide]; omega
    rw [this]
theorem maskOf_lt (n : Nat) (c : Nat → Bool) : maskOf n c < 2 ^ n := by
 apply Nat.lt_pow_two_of_testBit
 intro i hi
 rw [maskOf_bit, decide_eq_false (by omega)]; rfl
def subB (a b : Nat) : Bool := ndiff a b == 0
theorem ndiff_zero {a b : Nat} : ndiff a b = 0 ↔ ∀ i, a.testBit i = true → b.testBit i = true := by
 constructor
 ·intro h i hi
  have := ndiff_bit a b i
  rw [h, hi, Nat.zero_testBit] at this
  cases hb : b.testBit i with
  | true => rfl
  | false => rw [hb] at this; simp at this
 ·intro h
  apply Nat.eq_of_testBit_eq
  intro i
  rw [ndiff_bit, Nat.zero_testBit]
  cases ha : a.testBit i with
  | false => rfl
  | true => rw [h i ha]; rfl
theorem subB_iff {a b : Nat} : subB a b = true ↔ ∀ i, a.testBit i = true → b.testBit i = true := by unfold subB; rw [beq_iff_eq]; exact ndiff_zero
def allN (p : List Int) : Nat := 2 ^ p.length - 1
theorem allN_bit (p : List Int) (i : Nat) : (allN p).testBit i = decide (i < p.length) := by unfold allN; rw [Nat.testBit_two_pow_sub_one]
theorem allN_lt (p : List Int) : allN p < 2 ^ p.length := by unfold allN; have := Nat.two_pow_pos p.length; omega
def setB (p : List Int) (x : Int) : Bool := decide (0 ≤ x) && decide (x ≤ ((allN p : Nat) : Int))
theorem setB_iff {p : List Int} {x : Int} : setB p x = true ↔ ∃ s : Nat, x = (s : Int) ∧ s < 2 ^ p.length := by
 unfold setB
 rw [Bool.and_eq_true, decide_eq_true_eq, decide_eq_true_eq]
 have := Nat.two_pow_pos p.length
 unfold allN
 constructor
 ·rintro ⟨h1, h2⟩; exact ⟨x.toNat, by omega, by omega⟩
 ·rintro ⟨s, rfl, h⟩; omega
def idealB (p : List Int) (s : Nat) : Bool := allFrom (fun i => !s.testBit i || subB (L p i) s) p.length 0
theorem idealB_iff {p : List Int} {s : Nat} : idealB p s = true ↔ ∀ i, i < p.length → s.testBit i = true → ∀ j, (L p i).testBit j = true → s.testBit j = true := by
 unfold idealB
 rw [allFrom_iff]
 constructor
 ·intro h i hi hs
  have := h i (Nat.zero_le _) hi
  rw [hs] at this
  exact subB_iff.1 (by simpa using this)
 ·intro h i _ hi
  cases hs : s.testBit i with
  | false => rfl
  | true => rw [subB_iff.2 (h i hi hs)]; rfl
def closeN (p : List Int) (s : Nat) : Nat := (itemsN s).foldl (fun a e => a ||| L p e) s
theorem foldl_or_bit (g : Nat → Nat) (l : List Nat) (a i : Nat) : (l.foldl (fun a e => a ||| g e) a).testBit i = (a.testBit i || l.any fun e => (g e).testBit i) := by
 induction l generalizing a with
 | nil => simp
 | cons x l ih => rw [List.foldl_cons, ih, Nat.testBit_or, List.any_cons, Bool.or_assoc]
theorem closeN_bit {p : List Int} {s i : Nat} : (closeN p s).testBit i = (s.testBit i || (itemsN s).any fun e => (L p e).testBit i) := foldl_or_bit _ _ _ _
theorem closeN_eq {p : List Int} (hp : PO p) {s : Nat} (hs : s < 2 ^ p.length) : (closeN p s == s) = idealB p s := by
 have hn := hp.small
 rw [Bool.eq_iff_iff, beq_iff_eq, idealB_iff]
 constructor
 ·intro h i hi hb j hj
  have := closeN_bit (p := p) (s := s) (i := j)
  rw [h] at this
  rw [this]
  have : (itemsN s).any (fun e => (L p e).testBit j) = true := List.any_eq_true.2 ⟨i, mem_itemsN.2 ⟨by omega, hb⟩, hj⟩
  rw [this]; simp
 ·intro h
  apply Nat.eq_of_testBit_eq
  intro i
  rw [closeN_bit]
  cases hb : s.testBit i with
  | true => rfl
  | false =>
   rw [Bool.false_or, ← Bool.not_eq_true, List.any_eq_true]
   rintro ⟨e, he, hj⟩
   obtain ⟨_, h2⟩ := mem_itemsN.1 he
   have := h e (lt_of_bit hs h2) h2 i hj
   rw [this] at hb; cases hb
theorem L_lt {p : List Int} (hp : PO p) {i : Nat} (hi : i < p.length) : L p i < 2 ^ p.length := lt_pow (hp.lt i hi) (by omega)
theorem foldl_or_lt (g : Nat → Nat) (l : List Nat) (a n : Nat) (ha : a < 2 ^ n) (hg : ∀ e, e ∈ l → g e < 2 ^ n) : l.foldl (fun a e => a ||| g e) a < 2 ^ n := by
 induction l generalizing a with
 | nil => exact ha
 | cons x l ih => exact ih _ (or_lt ha (hg x List.mem_cons_self)) (fun e he => hg e (List.mem_cons_of_mem _ he))
theorem closeN_lt {p : List Int} (hp : PO p) {s : Nat} (hs : s < 2 ^ p.length) : closeN p s < 2 ^ p.length :=
 foldl_or_lt _ _ _ _ hs (fun e he => L_lt hp (lt_of_bit hs (mem_itemsN.1 he).2))
theorem foldl_drop_step {α β : Type} (f : β → α → β) (l : List α) (d : α) (b : β) {i : Nat} (h : i < l.length) : (l.drop i).foldl f b = (l.drop (i + 1)).foldl f (f b (l.getD i d)) := by
 rw [List.drop_eq_getElem_cons h, List.foldl_cons, List.getD_eq_getElem?_getD, List.getElem?_eq_getElem h]; rfl
def sumL : List Nat → Nat
 | [] => 0
 | x :: l => x + sumL l
theorem sumL_append (a b : List Nat) : sumL (a ++ b) = sumL a + sumL b := by
 induction a with
 | nil => simp [sumL]
 | cons x a ih => simp only [List.cons_append, sumL, ih]; omega
theorem sumL_le (l : List Nat) (b n : Nat) (h : ∀ x ∈ l, x ≤ b) (hn : l.length ≤ n) : sumL l ≤ n * b := by
 induction l generalizing n with
 | nil => exact Nat.zero_le _
 | cons x l ih =>
  cases n with
  | zero => simp at hn
  | succ n =>
   have h1 := h x List.mem_cons_self
   have h2 := ih n (fun y hy => h y (List.mem_cons_of_mem _ hy)) (by simpa using hn)
   rw [Nat.add_mul]; simp only [sumL]; omega
def nextN (p : List Int) (s : Nat) : List Nat := (List.range 10).filter fun e => decide (e < p.length) && !s.testBit e && subB (L p e) s
theorem mem_nextN {p : List Int} {s e : Nat} : e ∈ nextN p s ↔ e < 10 ∧ e < p.length ∧ s.testBit e = false ∧ subB (L p e) s = true := by
 unfold nextN
 rw [List.mem_filter, List.mem_range, Bool.and_eq_true, Bool.and_eq_true, decide_eq_true_eq, Bool.not_eq_true']
 constructor
 ·rintro ⟨a, ⟨b, c⟩, d⟩; exact ⟨a, b, c, d⟩
 ·rintro ⟨a, b, c, d⟩; exact ⟨a, ⟨b, c⟩, d⟩
theorem nextN_len (p : List Int) (s : Nat) : (nextN p s).length ≤ 10 := by
 unfold nextN; exact Nat.le_trans (List.length_filter_le _ _) (by simp)
def cnt (p : List Int) : Nat → Nat → Nat
 | 0, s => if s = allN p then 1 else 0
 | d + 1, s => if s = allN p then 1 else sumL ((nextN p s).map fun e => cnt p d (s ||| 2 ^ e))
theorem cnt_le (p : List Int) (d s : Nat) : cnt p d s ≤ 10 ^ d := by
 induction d generalizing s with
 | zero => unfold cnt; split <;> simp
 | succ d ih =>
  unfold cnt
  have h1 : 1 ≤ 10 ^ (d + 1) := Nat.one_le_pow _ _ (by decide)
  split
  ·exact h1
  ·have := sumL_le ((nextN p s).map fun e => cnt p d (s ||| 2 ^ e)) (10 ^ d) 10 (fun x hx => by obtain ⟨e, _, rfl⟩ := List.mem_map.1 hx; exact ih _) (by rw [List.length_map]; exact nextN_len p s)
   rw [Nat.pow_succ]; omega
def miss (p : List Int) (s : Nat) : Nat := (List.range p.length).countP fun e => !s.testBit e
theorem miss_le (p : List Int) (s : Nat) : miss p s ≤ p.length := by unfold miss; have := List.countP_le_length (p := fun e => !s.testBit e) (l := List.range p.length); simpa using this
theorem countP_lt {α : Type} (f g : α → Bool) (l : List α) (h : ∀ x ∈ l, f x = true → g x = true) (x : α) (hx : x ∈ l) (hg : g x = true) (hf : f x = false) : l.countP f < l.countP g := by
 induction l with
 | nil => cases hx
 | cons y l ih =>
  have hle : l.countP f ≤ l.countP g := List.countP_mono_left (fun z hz => h z (List.mem_cons_of_mem _ hz))
  rw [List.countP_cons, List.countP_cons]
  rcases List.mem_cons.1 hx with rfl | hx'
  ·rw [hf, hg]; simp; omega
  ·have := ih (fun z hz => h z (List.mem_cons_of_mem _ hz)) hx'
   have hy := h y List.mem_cons_self
   cases hfy : f y with
   | true => rw [hy hfy]; simp; omega
   | false => cases g y <;> simp <;> omega
theorem miss_lt {p : List Int} {s e : Nat} (he : e < p.length) (hb : s.testBit e = false) : miss p (s ||| 2 ^ e) < miss p s := by
 unfold miss
 refine countP_lt _ _ _ (fun x _ hx => ?_) e (List.mem_range.2 he) (by rw [hb]; rfl) ?_
 ·rw [Nat.testBit_or] at hx
  cases h : s.testBit x with
  | false => rfl
  | true => rw [h] at hx; simp at hx
 ·rw [Nat.testBit_or, pow_bit]; simp
theorem miss_zero {p : List Int} {s : Nat} (hs : s < 2 ^ p.length) (h : miss p s = 0) : s = allN p := by
 refine ext_bits hs (allN_lt p) (fun i hi => ?_)
 rw [allN_bit, decide_eq_true hi]
 unfold miss at h
 rw [List.countP_eq_zero] at h
 have := h i (List.mem_range.2 hi)
 simpa using this
theorem add_lt {p : List Int} {s e : Nat} (hs : s < 2 ^ p.length) (he : e < p.length) : s ||| 2 ^ e < 2 ^ p.length := or_lt hs (pow_lt_pow he)
theorem cnt_fuel {p : List Int} : ∀ (d d' s : Nat), s < 2 ^ p.length → miss p s ≤ d → miss p s ≤ d' → cnt p d s = cnt p d' s := by
 intro d
 induction d with
 | zero =>
  intro d' s hs h _
  have := miss_zero hs (by omega)
  subst this
  cases d' <;> simp [cnt]
 | succ d ih =>
  intro d' s hs h h'
  by_cases ha : s = allN p
  ·subst ha; cases d' <;> simp [cnt]
  ·cases d' with
   | zero => exact absurd (miss_zero hs (by omega)) ha
   | succ d' =>
    simp only [cnt, if_neg ha]
    congr 1
    apply List.map_congr_left
    intro e he
    obtain ⟨_, h1, h2, _⟩ := mem_nextN.1 he
    have := miss_lt h1 h2
    exact ih d' _ (add_lt hs h1) (by omega) (by omega)
def ways (p : List Int) (s : Nat) : Nat := cnt p p.length s
theorem ways_step {p : List Int} {s : Nat} (hs : s < 2 ^ p.length) (ha : s ≠ allN p) : ways p s = sumL ((nextN p s).map fun e => ways p (s ||| 2 ^ e)) := by
 unfold ways
 rw [cnt_fuel p.length (p.length + 1) s hs (miss_le p s) (by have := miss_le p s; omega)]
 simp only [cnt, if_neg ha]
theorem ways_all (p : List Int) : ways p (allN p) = 1 := by unfold ways; cases p.length <;> simp [cnt]
theorem ways_le {p : List Int} (h : p.length ≤ 10) (s : Nat) : ways p s ≤ 10000000000 := by
 unfold ways
 exact Nat.le_trans (cnt_le p _ s) (Nat.le_trans (Nat.pow_le_pow_right (by decide) h) (by decide))
theorem ways_cnt {p : List Int} {s d : Nat} (hs : s < 2 ^ p.length) (hd : p.length ≤ d) : ways p s = cnt p d s := cnt_fuel _ _ s hs (miss_le p s) (by have := miss_le p s; omega)
theorem idealB_all (p : List Int) (hp : PO p) : idealB p (allN p) = true := by
 rw [idealB_iff]
 intro i hi _ j hj
 rw [allN_bit, decide_eq_true_eq]
 have := lt_of_bit (hp.lt i hi) hj
 omega
theorem idealB_add {p : List Int} (hp : PO p) {s e : Nat} (hs : idealB p s = true) (he : e ∈ nextN p s) : idealB p (s ||| 2 ^ e) = true := by
 obtain ⟨_, h1, _, h3⟩ := mem_nextN.1 he
 rw [idealB_iff] at hs ⊢
 intro i hi hb j hj
 rw [Nat.testBit_or, pow_bit, Bool.or_eq_true, decide_eq_true_eq] at hb
 rw [Nat.testBit_or, Bool.or_eq_true]
 left
 rcases hb with hb | rfl
 ·exact hs i hi hb j hj
 ·exact subB_iff.1 h3 j hj
end Go.Proofs.Ytmbojobkiainlaa.Q
end

section
namespace Go.Proofs.Ytmbojobkiainlaa.Q
open Go.RowKit Go.Proofs.YtmbojobkiainlaaW.PrintWords Go.Proofs.Ytmbojobkiainlaa.F
set_option linter.unusedVariables false
theorem all_eq {p : List Int} (h : p.length ≤ 61) : impl_Poset_all.f p = some ((allN p : Nat) : Int) := by
 unfold impl_Poset_all.f
 rw [show impl_Poset_n.f p = some (p.length : Int) from rfl]
 simp only [Option.bind_some]
 rw [if_pos (by omega), mask_eq h, pow_int]
 unfold allN
 have := Nat.two_pow_pos p.length
 congr 1
 omega
theorem close_ev {p : List Int} (hp : PO p) {s : Nat} (hs : s < 2 ^ p.length) : Ev (fun k => impl_Poset_close.f k p (s : Int)) ((closeN p s : Nat) : Int) := by
 have hn := hp.small
 unfold impl_Poset_close.f closeN
 refine Ev.bind (items_ev s (lt_pow hs (by omega))) ?_
 rw [ints_len]
 have hl := itemsN_len s
 have key : ∀ i, i ≤ (itemsN s).length → ∀ a : Nat, a < 2 ^ p.length → Ev (fun k => impl_Poset_close.l0 k (a : Int) (ints (itemsN s)) ((itemsN s).length : Int) (i : Int) p) (((itemsN s).drop i).foldl (fun a e => a ||| L p e) a : Nat) := by
  refine downTo _ ?_ ?_
  ·intro a ha
   refine Ev.step (by intro k; simp only [impl_Poset_close.l0]; rfl) (Ev.no (by omega) (Ev.ret ?_))
   rw [List.drop_length]; rfl
  ·intro i hi ih a ha
   have hlt := items_lt hs hi
   refine Ev.step (by intro k; simp only [impl_Poset_close.l0]; rfl) (Ev.yes (by omega) (Ev.yes (by omega) (Ev.yes (by rw [ints_len]; omega) ?_)))
   rw [rd_ints, wid1 hi (by omega), rdN, foldl_drop_step _ _ 0 _ hi]
   refine Ev.yes (by omega) (Ev.yes (by omega) ?_)
   rw [hp.val _ hlt, bits_orN (lt_pow ha (by omega)) (lt_pow (L_lt hp hlt) (by omega))]
   exact ih _ (or_lt ha (L_lt hp hlt))
 exact key 0 (by omega) s hs
def cntAt (p : List Int) (m t : Nat) : Nat := if m ≤ t then ways p t else 0
def Cl (p : List Int) (m : Nat) : List Int := (List.range (2 ^ p.length)).map fun t => ((cntAt p m t : Nat) : Int)
theorem Cl_len (p : List Int) (m : Nat) : (Cl p m).length = 2 ^ p.length := by simp [Cl]
theorem Cl_get (p : List Int) (m : Nat) {t : Nat} (ht : t < 2 ^ p.length) : (Cl p m).getD t 0 = ((cntAt p m t : Nat) : Int) := by
 unfold Cl
 rw [List.getD_eq_getElem?_getD, List.getElem?_map, List.getElem?_range ht]; rfl
theorem Cl_ext {p : List Int} {m : Nat} {l : List Int} (hl : l.length = 2 ^ p.length) (h : ∀ t, t < 2 ^ p.length → l.getD t 0 = ((cntAt p m t : Nat) : Int)) : l = Cl p m := by
 apply List.ext_getElem
 ·rw [hl, Cl_len]
 ·intro t h1 h2
  have := h t (by omega)
  rw [← Cl_get p m (by omega), List.getD_eq_getElem?_getD, List.getD_eq_getElem?_getD, List.getElem?_eq_getElem h1, List.getElem?_eq_getElem h2] at this
  exact this
theorem getD_setC (l : List Int) (i : Nat) (v : Int) (hi : i < l.length) (t : Nat) : (l.set i v).getD t 0 = if i = t then v else l.getD t 0 := by
 by_cases h : i = t
 ·subst h; rw [if_pos rfl, List.getD_eq_getElem?_getD, List.getElem?_set_self hi]; rfl
 ·rw [if_neg h, List.getD_eq_getElem?_getD, List.getElem?_set_ne h, List.getD_eq_getElem?_getD]
theorem add_gtC {s e : Nat} (hb : s.testBit e = false) : s < s ||| 2 ^ e := by
 have h1 : s ≤ s ||| 2 ^ e := Nat.left_le_or
 rcases Nat.lt_or_ge s (s ||| 2 ^ e) with h | h
 ·exact h
 ·have he : s = s ||| 2 ^ e := by omega
  have : (s ||| 2 ^ e).testBit e = true := by rw [Nat.testBit_or, pow_bit]; simp
  rw [← he, hb] at this; cases this
def nextFrom (p : List Int) (s i : Nat) : List Nat := (List.range' i (p.length - i)).filter fun e => !s.testBit e && subB (L p e) s
theorem nextFrom_zero {p : List Int} (h : p.length ≤ 10) (s : Nat) : nextFrom p s 0 = nextN p s := by
 unfold nextFrom nextN
 have e0 : p.length + (10 - p.length) = 10 := by omega
 have e : List.range 10 = List.range p.length ++ (List.range (10 - p.length)).map (p.length + ·) := by rw [← List.range_add, e0]
 rw [e, List.filter_append, Nat.sub_zero, ← List.range_eq_range']
 have e2 : ((List.range (10 - p.length)).map (p.length + ·)).filter (fun e => decide (e < p.length) && !s.testBit e && subB (L p e) s) = [] := by
  rw [List.filter_eq_nil_iff]
  intro x hx
  obtain ⟨y, _, rfl⟩ := List.mem_map.1 hx
  rw [decide_eq_false (by omega)]; simp
 rw [e2, List.append_nil]
 apply List.filter_congr
 intro x hx
 rw [List.mem_range] at hx
 rw [decide_eq_true hx]; rfl
theorem nextFrom_end (p : List Int) (s : Nat) : nextFrom p s p.length = [] := by unfold nextFrom; simp
theorem nextFrom_step {p : List Int} {s i : Nat} (h : i < p.length) : nextFrom p s i = if !s.testBit i && subB (L p i) s then i :: nextFrom p s (i + 1) else nextFrom p s (i + 1) := by
 unfold nextFrom
 rw [show p.length - i = (p.length - (i + 1)) + 1 by omega, List.range'_succ, List.filter_cons]
theorem liCounts_ev {p : List Int} (hp : PO p) : Ev (fun k => spec_liCounts.f k p) (Cl p 0) := by
 have hn := hp.small
 have hn1 := hp.pos
 have h2 : (2 : Nat) ^ p.length ≤ 1024 := Nat.le_trans (Nat.pow_le_pow_right (by decide) hn) (by decide)
 have h3 : 2 ≤ 2 ^ p.length := Nat.le_trans (by decide) (Nat.pow_le_pow_right (by decide) hn1 : 2 ^ 1 ≤ 2 ^ p.length)
 have hal2 : allN p + 1 = 2 ^ p.length := by unfold allN; omega
 have outer : ∀ s : Nat, s ≤ allN p → Ev (fun k => spec_liCounts.l0 k (Cl p s) ((s : Int) - 1) p) (Cl p 0) := by
  intro s
  induction s with
  | zero =>
   intro _
   exact Ev.step (by intro k; simp only [spec_liCounts.l0]; rfl) (Ev.no (by omega) (Ev.now _))
  | succ s ih =>
   intro hs
   have hs2 : s < 2 ^ p.length := by omega
   have e1 : (((s + 1 : Nat) : Int) - 1) = (s : Int) := by omega
   have e2 : wrap64 ((s : Int) - 1) = (s : Int) - 1 := wid (by omega) (by omega)
   rw [e1]
   refine Ev.step (by intro k; simp only [spec_liCounts.l0]; rfl) (Ev.yes (by omega) ?_)
   have hall : s ≠ allN p := by omega
   have hst := ways_step hs2 hall
   rw [← nextFrom_zero hn] at hst
   have inner : ∀ i, i ≤ p.length → ∀ v : Nat, v + sumL ((nextFrom p s i).map fun e => ways p (s ||| 2 ^ e)) = ways p s →
    Ev (fun k => spec_liCounts.l1 k ((Cl p (s + 1)).set s (v : Int)) (s : Int) p (p.length : Int) (i : Int) p) (Cl p 0) := by
    refine downTo _ ?_ ?_
    ·intro v hv
     rw [nextFrom_end] at hv
     have hv' : v = ways p s := by simpa [sumL] using hv
     refine Ev.step (by intro k; simp only [spec_liCounts.l1]; rfl) (Ev.no (by omega) ?_)
     rw [e2]
     have he : (Cl p (s + 1)).set s (v : Int) = Cl p s := by
      apply Cl_ext
      ·rw [List.length_set, Cl_len]
      ·intro t ht
       rw [getD_setC _ _ _ (by rw [Cl_len]; exact hs2)]
       split
       ·rename_i h; subst h; unfold cntAt; rw [if_pos (Nat.le_refl _), hv']
       ·rename_i h
        rw [Cl_get _ _ ht]; unfold cntAt
        by_cases hst : s ≤ t
        ·rw [if_pos hst, if_pos (by omega)]
        ·rw [if_neg hst, if_neg (by omega)]
     rw [he]
     exact ih (by omega)
    ·intro i hi ihi v hv
     refine Ev.step (by intro k; simp only [spec_liCounts.l1]; rfl) (Ev.yes (by omega) (Ev.yes (by omega) (Ev.yes (by omega) (Ev.call (poIn_eq (by omega)) ?_))))
     rw [wid1 (i := i) (n := p.length) hi (by omega)]
     rw [nextFrom_step hi] at hv
     cases hb : s.testBit i with
     | true =>
      rw [hb] at hv
      exact Ev.yes rfl (ihi v (by simpa using hv))
     | false =>
      rw [hb] at hv
      refine Ev.no (by simp) ?_
      rw [rdN, hp.val i hi, bits_andNotN (lt_pow (L_lt hp hi) (by omega)) (lt_pow hs2 (by omega))]
      cases hc : subB (L p i) s with
      | false =>
       rw [hc] at hv
       refine Ev.no (fun h => ?_) (ihi v (by simpa using hv))
       have h4 : ndiff (L p i) s = 0 := by exact_mod_cast h
       unfold subB at hc; rw [h4] at hc; simp at hc
      | true =>
       rw [hc] at hv
       have h4 : ndiff (L p i) s = 0 := by unfold subB at hc; exact beq_iff_eq.1 hc
       have hsi : s ||| 2 ^ i < 2 ^ p.length := or_lt hs2 (pow_lt_pow hi)
       have hgt := add_gtC hb
       have hw1 := ways_le hn (s ||| 2 ^ i)
       have hw2 := ways_le hn s
       have hv2 : (v + ways p (s ||| 2 ^ i)) + sumL ((nextFrom p s (i + 1)).map fun e => ways p (s ||| 2 ^ e)) = ways p s := by
        simp only [Bool.not_false, Bool.true_and, if_true, List.map_cons, sumL] at hv
        omega
       refine Ev.yes (by rw [h4]; rfl) (Ev.yes (by omega) (Ev.yes (by rw [List.length_set, Cl_len]; omega) ?_))
       rw [shlN (by omega), bits_orN (lt_pow hs2 (by omega)) (Nat.pow_lt_pow_right (by decide) (by omega))]
       refine Ev.yes (by omega) (Ev.yes (by rw [List.length_set, Cl_len]; omega) ?_)
       rw [rdN, rdN, getD_setC _ _ _ (by rw [Cl_len]; exact hs2), if_pos rfl, getD_setC _ _ _ (by rw [Cl_len]; exact hs2), if_neg (by omega), Cl_get _ _ hsi]
       unfold cntAt
       rw [if_pos (by omega), Int.toNat_natCast, List.set_set]
       have ew : wrap64 ((v : Int) + ((ways p (s ||| 2 ^ i) : Nat) : Int)) = ((v + ways p (s ||| 2 ^ i) : Nat) : Int) := by rw [wid (by omega) (by omega)]; omega
       rw [ew]
       exact ihi _ hv2
   have := inner 0 (by omega) 0 (by rw [Nat.zero_add]; exact hst.symm)
   have e0 : (Cl p (s + 1)).set s ((0 : Nat) : Int) = Cl p (s + 1) := by
    apply Cl_ext
    ·rw [List.length_set, Cl_len]
    ·intro t ht
     rw [getD_setC _ _ _ (by rw [Cl_len]; exact hs2)]
     split
     ·rename_i h; subst h; unfold cntAt; rw [if_neg (by omega)]
     ·exact Cl_get _ _ ht
   rw [e0] at this
   exact this
 unfold spec_liCounts.f
 rw [shlN (by omega), Int.toNat_natCast]
 refine Ev.yes (by omega) (Ev.yes (by omega) (Ev.call rfl ?_))
 have ew1 : wrap64 (((2 ^ p.length : Nat) : Int) - 1) = ((allN p : Nat) : Int) := by rw [wid (by omega) (by omega)]; omega
 have ew2 : wrap64 (((2 ^ p.length : Nat) : Int) - 2) = ((allN p : Nat) : Int) - 1 := by rw [wid (by omega) (by omega)]; omega
 rw [ew1, ew2]
 refine Ev.yes (by omega) (Ev.yes (by rw [List.length_replicate]; omega) ?_)
 have e : (List.replicate (2 ^ p.length) (0 : Int)).set (((allN p : Nat) : Int)).toNat 1 = Cl p (allN p) := by
  rw [Int.toNat_natCast]
  apply Cl_ext
  ·rw [List.length_set, List.length_replicate]
  ·intro t ht
   rw [getD_setC _ _ _ (by rw [List.length_replicate]; omega)]
   split
   ·rename_i h; subst h; unfold cntAt; rw [if_pos (Nat.le_refl _), ways_all]; rfl
   ·rename_i h
    unfold cntAt
    rw [if_neg (by omega), List.getD_eq_getElem?_getD, List.getElem?_replicate, if_pos ht]; rfl
 rw [e]
 exact outer (allN p) (Nat.le_refl _)
def wayAt (p : List Int) (m t : Nat) : Nat := if m ≤ t then (if idealB p t then ways p t else 0) else 0
def Wl (p : List Int) (m : Nat) : List Int := (List.range (2 ^ p.length)).map fun t => ((wayAt p m t : Nat) : Int)
theorem Wl_len (p : List Int) (m : Nat) : (Wl p m).length = 2 ^ p.length := by simp [Wl]
theorem Wl_get (p : List Int) (m : Nat) {t : Nat} (ht : t < 2 ^ p.length) : (Wl p m).getD t 0 = ((wayAt p m t : Nat) : Int) := by
 unfold Wl
 rw [List.getD_eq_getElem?_getD, List.getElem?_map, List.getElem?_range ht]; rfl
theorem Wl_ext {p : List Int} {m : Nat} {l : List Int} (hl : l.length = 2 ^ p.length) (h : ∀ t, t < 2 ^ p.length → l.getD t 0 = ((wayAt p m t : Nat) : Int)) : l = Wl p m := by
 apply List.ext_getElem
 ·rw [hl, Wl_len]
 ·intro t h1 h2
  have := h t (by omega)
  rw [← Wl_get p m (by omega), List.getD_eq_getElem?_getD, List.getD_eq_getElem?_getD, List.getElem?_eq_getElem h1, List.getElem?_eq_getElem h2] at this
  exact this
theorem getD_setW (l : List Int) (i : Nat) (v : Int) (hi : i < l.length) (t : Nat) : (l.set i v).getD t 0 = if i = t then v else l.getD t 0 := by
 by_cases h : i = t
 ·subst h; rw [if_pos rfl, List.getD_eq_getElem?_getD, List.getElem?_set_self hi]; rfl
 ·rw [if_neg h, List.getD_eq_getElem?_getD, List.getElem?_set_ne h, List.getD_eq_getElem?_getD]
theorem add_gt {s e : Nat} (hb : s.testBit e = false) : s < s ||| 2 ^ e := by
 have h1 : s ≤ s ||| 2 ^ e := Nat.left_le_or
 rcases Nat.lt_or_ge s (s ||| 2 ^ e) with h | h
 ·exact h
 ·have he : s = s ||| 2 ^ e := by omega
  have : (s ||| 2 ^ e).testBit e = true := by rw [Nat.testBit_or, pow_bit]; simp
  rw [← he, hb] at this; cases this
theorem nextN_items (p : List Int) (hp : PO p) (s : Nat) : nextN p s = (itemsN (ndiff (allN p) s)).filter fun e => subB (L p e) s := by
 unfold nextN itemsN
 rw [List.filter_filter]
 apply List.filter_congr
 intro e he
 rw [ndiff_bit, allN_bit]
 cases decide (e < p.length) <;> cases s.testBit e <;> cases subB (L p e) s <;> rfl
theorem ways_table {p : List Int} (hp : PO p) : Ev (fun k => impl_Poset_ways.f k p) (Wl p 0) := by
 have hn := hp.small
 have h2 : (2 : Nat) ^ p.length ≤ 1024 := Nat.le_trans (Nat.pow_le_pow_right (by decide) hn) (by decide)
 have hal := allN_lt p
 have hal2 : allN p + 1 = 2 ^ p.length := by unfold allN; have := Nat.two_pow_pos p.length; omega
 have outer : ∀ s : Nat, s ≤ allN p → Ev (fun k => impl_Poset_ways.l0 k (Wl p s) ((s : Int) - 1) p) (Wl p 0) := by
  intro s
  induction s with
  | zero =>
   intro _
   exact Ev.step (by intro k; simp only [impl_Poset_ways.l0]; rfl) (Ev.no (by omega) (Ev.ret rfl))
  | succ s ih =>
   intro hs
   have hs2 : s < 2 ^ p.length := by omega
   have e1 : (((s + 1 : Nat) : Int) - 1) = (s : Int) := by omega
   have e2 : wrap64 ((s : Int) - 1) = (s : Int) - 1 := wid (by omega) (by omega)
   rw [e1]
   refine Ev.step (by intro k; simp only [impl_Poset_ways.l0]; rfl) (Ev.yes (by omega) ?_)
   refine Ev.bind (close_ev hp hs2) ?_
   have hcl := closeN_eq hp hs2
   have hall : s ≠ allN p := by omega
   by_cases hid : idealB p s = true
   ·rw [hid, beq_iff_eq] at hcl
    rw [hcl]
    refine Ev.yes rfl (Ev.call (all_eq (by omega)) ?_)
    rw [bits_andNotN (lt_pow hal (by omega)) (lt_pow hs2 (by omega))]
    have hit : ndiff (allN p) s < 2 ^ p.length := ndiff_lt hal
    refine Ev.bind (items_ev _ (lt_pow hit (by omega))) ?_
    rw [ints_len]
    generalize hI : itemsN (ndiff (allN p) s) = I
    have hIl : I.length ≤ 10 := by rw [← hI]; exact itemsN_len _
    have inner : ∀ i, i ≤ I.length → ∀ v : Nat, v + sumL (((I.drop i).filter fun e => subB (L p e) s).map fun e => ways p (s ||| 2 ^ e)) = ways p s →
     Ev (fun k => impl_Poset_ways.l1 k ((Wl p (s + 1)).set s (v : Int)) (s : Int) (ints I) (I.length : Int) (i : Int) p) (Wl p 0) := by
     refine downTo _ ?_ ?_
     ·intro v hv
      rw [List.drop_length] at hv
      have hv' : v = ways p s := by simpa [sumL] using hv
      refine Ev.step (by intro k; simp only [impl_Poset_ways.l1]; rfl) (Ev.no (by omega) ?_)
      rw [e2]
      have he : (Wl p (s + 1)).set s (v : Int) = Wl p s := by
       apply Wl_ext
       ·rw [List.length_set, Wl_len]
       ·intro t ht
        rw [getD_setW _ _ _ (by rw [Wl_len]; exact hs2)]
        split
        ·rename_i h; subst h; unfold wayAt; rw [if_pos (Nat.le_refl _), if_pos hid, hv']
        ·rename_i h
         rw [Wl_get _ _ ht]; unfold wayAt
         by_cases hst : s ≤ t
         ·rw [if_pos hst, if_pos (by omega)]
         ·rw [if_neg hst, if_neg (by omega)]
      rw [he]
      exact ih (by omega)
     ·intro i hi ihi v hv
      obtain ⟨hm, hlt⟩ : I.getD i 0 ∈ I ∧ I.getD i 0 < p.length := by
       have hm : I.getD i 0 ∈ I := by rw [List.getD_eq_getElem?_getD, List.getElem?_eq_getElem hi]; exact List.getElem_mem hi
       refine ⟨hm, ?_⟩
       have := items_lt hit (j := i) (by rw [hI]; exact hi)
       rw [hI] at this; exact this
      have hbit : s.testBit (I.getD i 0) = false := by
       have hm' := hm
       rw [← hI, mem_itemsN, ndiff_bit] at hm'
       have := hm'.2
       rw [hI] at this
       cases h : s.testBit (I.getD i 0) with
       | false => rfl
       | true => rw [h] at this; simp at this
      have hdrop : I.drop i = I.getD i 0 :: I.drop (i + 1) := by
       rw [List.drop_eq_getElem_cons hi, List.getD_eq_getElem?_getD, List.getElem?_eq_getElem hi]; rfl
      generalize hE : I.getD i 0 = E at hm hlt hbit hdrop
      rw [hdrop] at hv
      refine Ev.step (by intro k; simp only [impl_Poset_ways.l1]; rfl) (Ev.yes (by omega) (Ev.yes (by omega) (Ev.yes (by rw [ints_len]; omega) ?_)))
      rw [rd_ints, hE, wid1 hi (by omega), rdN]
      refine Ev.yes (by omega) (Ev.yes (by omega) ?_)
      rw [hp.val _ hlt, bits_andNotN (lt_pow (L_lt hp hlt) (by omega)) (lt_pow hs2 (by omega))]
      have hwl := Wl_len p (s + 1)
      by_cases hsub : subB (L p E) s = true
      ·have hz : ndiff (L p E) s = 0 := by unfold subB at hsub; rw [beq_iff_eq] at hsub; exact hsub
       rw [hz]
       rw [List.filter_cons, hsub, if_pos rfl, List.map_cons] at hv
       simp only [sumL] at hv
       have hor : s ||| 2 ^ E < 2 ^ p.length := add_lt hs2 hlt
       rw [shlN (by omega), bits_orN (lt_pow hs2 (by omega)) (lt_pow (pow_lt_pow hlt) (by omega))]
       refine Ev.yes rfl (Ev.yes (by omega) (Ev.yes (by rw [List.length_set, hwl]; omega) (Ev.yes (by omega) (Ev.yes (by rw [List.length_set, hwl]; omega) ?_))))
       rw [rdN, rdN, getD_setW _ _ _ (by rw [hwl]; exact hs2), if_pos rfl, getD_setW _ _ _ (by rw [hwl]; exact hs2), Int.toNat_natCast, List.set_set]
       have hgt := add_gt hbit
       rw [if_neg (by omega), Wl_get _ _ hor]
       have hnx : E ∈ nextN p s := by rw [mem_nextN]; exact ⟨by omega, hlt, hbit, hsub⟩
       have hw : wayAt p (s + 1) (s ||| 2 ^ E) = ways p (s ||| 2 ^ E) := by
        unfold wayAt; rw [if_pos (by omega), if_pos (idealB_add hp hid hnx)]
       have hb := ways_le hn s
       rw [hw, wid (by omega) (by omega)]
       have := ihi (v + ways p (s ||| 2 ^ E)) (by omega)
       rw [Int.natCast_add] at this
       exact this
      ·have hz : ndiff (L p E) s ≠ 0 := by intro h; apply hsub; unfold subB; rw [h]; rfl
       rw [List.filter_cons, if_neg hsub] at hv
       refine Ev.no (by omega) ?_
       exact ihi v hv
    have hstart : Wl p (s + 1) = (Wl p (s + 1)).set s ((0 : Nat) : Int) := by
     symm
     apply Wl_ext
     ·rw [List.length_set, Wl_len]
     ·intro t ht
      rw [getD_setW _ _ _ (by rw [Wl_len]; exact hs2)]
      split
      ·rename_i h; subst h; unfold wayAt; rw [if_neg (by omega)]
      ·exact Wl_get _ _ ht
    rw [hstart]
    refine inner 0 (by omega) 0 ?_
    rw [ways_step hs2 hall, nextN_items p hp, hI]; simp
   ·rw [Bool.not_eq_true] at hid
    rw [hid, beq_eq_false_iff_ne] at hcl
    refine Ev.no (by omega) ?_
    rw [e2]
    have he : Wl p (s + 1) = Wl p s := by
     apply Wl_ext (Wl_len _ _)
     intro t ht
     rw [Wl_get _ _ ht]; unfold wayAt
     by_cases hst : s ≤ t
     ·rw [if_pos hst]
      by_cases h : s = t
      ·subst h; rw [if_neg (by omega), hid]; rfl
      ·rw [if_pos (by omega)]
     ·rw [if_neg hst, if_neg (by omega)]
    rw [he]
    exact ih (by omega)
 unfold impl_Poset_ways.f
 refine Ev.call (all_eq (by omega)) ?_
 have e3 : wrap64 (((allN p : Nat) : Int) + 1) = ((2 ^ p.length : Nat) : Int) := by rw [← hal2]; exact wid (by omega) (by omega)
 rw [e3]
 refine Ev.yes (by omega) (Ev.yes (by omega) ?_)
 rw [Int.toNat_natCast]
 refine Ev.call rfl (Ev.call (all_eq (by omega)) (Ev.yes (by omega) (Ev.yes (by rw [List.length_replicate]; omega) (Ev.call (all_eq (by omega)) ?_))))
 have e4 : wrap64 (((allN p : Nat) : Int) - 1) = ((allN p : Nat) : Int) - 1 := wid (by omega) (by omega)
 rw [e4, Int.toNat_natCast]
 have he : (List.replicate (2 ^ p.length) (0 : Int)).set (allN p) 1 = Wl p (allN p) := by
  apply Wl_ext
  ·rw [List.length_set, List.length_replicate]
  ·intro t ht
   rw [getD_setW _ _ _ (by rw [List.length_replicate]; exact hal)]
   split
   ·rename_i h; subst h; unfold wayAt; rw [if_pos (Nat.le_refl _), if_pos (idealB_all p hp), ways_all]; rfl
   ·unfold wayAt
    rw [if_neg (by omega), List.getD_eq_getElem?_getD, List.getElem?_replicate]
    split <;> rfl
 rw [he]
 exact outer _ (Nat.le_refl _)
end Go.Proofs.Ytmbojobkiainlaa.Q
end

section
namespace Go.Proofs.Ytmbojobkiainlaa.Q
open Go.RowKit Go.Proofs.YtmbojobkiainlaaW.PrintWords
set_option linter.unusedVariables false
def ordRun (p : List Int) : Nat → List Int → Option Nat
 | s, [] => some s
 | s, e :: l => if (0 ≤ e ∧ e < (p.length : Int)) ∧ s.testBit e.toNat = false ∧ subB (L p e.toNat) s = true then ordRun p (s ||| 2 ^ e.toNat) l else none
def ordB (p w : List Int) : Bool := ordRun p 0 w == some (allN p)
theorem ordB_iff {p w : List Int} : ordB p w = true ↔ ordRun p 0 w = some (allN p) := by unfold ordB; rw [beq_iff_eq]
theorem ordRun_app (p x y : List Int) : ∀ s, ordRun p s (x ++ y) = (ordRun p s x).bind fun t => ordRun p t y := by
 induction x with
 | nil => intro s; rfl
 | cons e x ih =>
  intro s
  simp only [List.cons_append, ordRun]
  split
  ·exact ih _
  ·rfl
theorem ordRun_range {p l : List Int} : ∀ {s t : Nat}, ordRun p s l = some t → ∀ e ∈ l, 0 ≤ e ∧ e < (p.length : Int) := by
 induction l with
 | nil => intro s t h e he; cases he
 | cons x l ih =>
  intro s t h e he
  simp only [ordRun] at h
  split at h
  ·rename_i hc
   rcases List.mem_cons.1 he with rfl | he
   ·exact hc.1
   ·exact ih h e he
  ·cases h
def pcard (n s : Nat) : Nat := (List.range n).countP s.testBit
theorem pcard_succ (n s : Nat) : pcard (n + 1) s = pcard n s + if s.testBit n then 1 else 0 := by
 unfold pcard; rw [List.range_succ, List.countP_append, List.countP_singleton]
theorem pcard_above {n e : Nat} (s : Nat) (h : n ≤ e) : pcard n (s ||| 2 ^ e) = pcard n s := by
 unfold pcard
 apply List.countP_congr
 intro x hx
 rw [List.mem_range] at hx
 rw [Nat.testBit_or, pow_bit, decide_eq_false (by omega), Bool.or_false]
theorem pcard_add {n s e : Nat} (he : e < n) (hb : s.testBit e = false) : pcard n (s ||| 2 ^ e) = pcard n s + 1 := by
 induction n with
 | zero => omega
 | succ n ih =>
  rw [pcard_succ, pcard_succ, Nat.testBit_or, pow_bit]
  rcases Nat.lt_succ_iff_lt_or_eq.1 he with h | h
  ·rw [ih h, decide_eq_false (by omega), Bool.or_false]; omega
  ·subst h; rw [pcard_above s (Nat.le_refl _), hb]; simp
theorem pcard_zero (n : Nat) : pcard n 0 = 0 := by unfold pcard; rw [List.countP_eq_zero]; intro x _; simp
theorem pcard_le (n s : Nat) : pcard n s ≤ n := by unfold pcard; have := List.countP_le_length (p := s.testBit) (l := List.range n); simpa using this
theorem pcard_all (p : List Int) : pcard p.length (allN p) = p.length := by
 unfold pcard
 have : (List.range p.length).countP (allN p).testBit = (List.range p.length).length := by
  rw [List.countP_eq_length]; intro x hx; rw [List.mem_range] at hx; rw [allN_bit, decide_eq_true hx]
 rw [this, List.length_range]
theorem all_of_pcard {p : List Int} {s : Nat} (hs : s < 2 ^ p.length) (h : pcard p.length s = p.length) : s = allN p := by
 refine ext_bits hs (allN_lt p) (fun i hi => ?_)
 rw [allN_bit, decide_eq_true hi]
 have h2 : (List.range p.length).countP s.testBit = (List.range p.length).length := by rw [List.length_range]; exact h
 rw [List.countP_eq_length] at h2
 exact h2 i (List.mem_range.2 hi)
theorem ordRun_card {p l : List Int} : ∀ {s t : Nat}, s < 2 ^ p.length → ordRun p s l = some t → t < 2 ^ p.length ∧ pcard p.length t = pcard p.length s + l.length := by
 induction l with
 | nil => intro s t hs h; simp only [ordRun, Option.some.injEq] at h; subst h; exact ⟨hs, rfl⟩
 | cons x l ih =>
  intro s t hs h
  simp only [ordRun] at h
  split at h
  ·rename_i hc
   obtain ⟨⟨h0, h1⟩, h2, h3⟩ := hc
   have hx : x.toNat < p.length := by omega
   obtain ⟨g1, g2⟩ := ih (or_lt hs (pow_lt_pow hx)) h
   refine ⟨g1, ?_⟩
   rw [g2, pcard_add hx h2, List.length_cons]; omega
  ·cases h
theorem ordB_len {p w : List Int} (h : ordB p w = true) : w.length = p.length := by
 have := (ordRun_card (Nat.two_pow_pos _) (ordB_iff.1 h)).2
 rw [pcard_all, pcard_zero] at this; omega
theorem ordB_eq (p w : List Int) : (decide (w.length = p.length) && (ordRun p 0 w).isSome) = ordB p w := by
 rw [Bool.eq_iff_iff, Bool.and_eq_true, decide_eq_true_eq]
 constructor
 ·rintro ⟨hl, hs⟩
  obtain ⟨t, ht⟩ := Option.isSome_iff_exists.1 hs
  obtain ⟨g1, g2⟩ := ordRun_card (Nat.two_pow_pos _) ht
  rw [pcard_zero, hl, Nat.zero_add] at g2
  rw [ordB_iff, ht, all_of_pcard g1 g2]
 ·intro h
  exact ⟨ordB_len h, by rw [ordB_iff.1 h]; rfl⟩
theorem ordB_range {p w : List Int} (h : ordB p w = true) : ∀ e ∈ w, 0 ≤ e ∧ e < (p.length : Int) := ordRun_range (ordB_iff.1 h)
theorem drop_getD (w : List Int) {i : Nat} (h : i < w.length) : w.drop i = w.getD i 0 :: w.drop (i + 1) := by
 rw [List.drop_eq_getElem_cons h, List.getD_eq_getElem?_getD, List.getElem?_eq_getElem h]; rfl
end Go.Proofs.Ytmbojobkiainlaa.Q
end

section
namespace Go.Proofs.Ytmbojobkiainlaa.Q
open Go.RowKit Go.Proofs.YtmbojobkiainlaaW.PrintWords Go.Proofs.Ytmbojobkiainlaa.F
set_option linter.unusedVariables false
theorem liIs_ev {p : List Int} (hp : PO p) (w : List Int) : Ev (fun k => spec_liIs.f k p w) (ordB p w) := by
 have hn := hp.small
 have hn1 := hp.pos
 rw [← ordB_eq]
 unfold spec_liIs.f
 by_cases hl : w.length = p.length
 rotate_left
 ·refine Ev.no (by omega) (Ev.step (by intro k; simp only [spec_liIs.j0]; rfl) (Ev.yes (show true = true from rfl) (Ev.ret ?_)))
  rw [decide_eq_false hl]; rfl
 refine Ev.yes (by omega) ?_
 rw [decide_eq_true hl, Bool.true_and, show wrap64 ((w.length : Int) - 1) = (w.length : Int) - 1 from wid (by omega) (by omega)]
 refine Ev.bind (l1All_ev w 0 _ (by omega)) ?_
 cases hall : allFrom (fun i => inR 0 ((w.length : Int) - 1) (w.getD i 0)) w.length 0 with
 | false =>
  refine Ev.step (by intro k; simp only [spec_liIs.j0]; rfl) (Ev.ret ?_)
  cases ho : ordRun p 0 w with
  | none => rfl
  | some t =>
   have hr := ordRun_range ho
   have : allFrom (fun i => inR 0 ((w.length : Int) - 1) (w.getD i 0)) w.length 0 = true := by
    rw [allFrom_iff]
    intro j _ hj
    rw [inR_iff, List.getD_eq_getElem?_getD, List.getElem?_eq_getElem hj]
    have := hr _ (List.getElem_mem hj)
    show 0 ≤ w[j] ∧ w[j] ≤ _
    omega
   rw [this] at hall; cases hall
 | true =>
 refine Ev.step (by intro k; simp only [spec_liIs.j0]; rfl) (Ev.no (by simp) ?_)
 have hin : ∀ i, i < w.length → 0 ≤ w.getD i 0 ∧ w.getD i 0 ≤ (w.length : Int) - 1 := fun i hi => inR_iff.1 ((allFrom_iff _ _ _).1 hall i (Nat.zero_le _) hi)
 have key : ∀ i, i ≤ w.length → ∀ s : Nat, s < 2 ^ p.length → Ev (fun k => spec_liIs.l0 k (s : Int) w (w.length : Int) (i : Int) p) (ordRun p s (w.drop i)).isSome := by
  refine downTo _ ?_ ?_
  ·intro s hs
   refine Ev.step (by intro k; simp only [spec_liIs.l0]; rfl) (Ev.no (by omega) (Ev.ret ?_))
   rw [List.drop_length]; rfl
  ·intro i hi ih s hs
   refine Ev.step (by intro k; simp only [spec_liIs.l0]; rfl) (Ev.yes (by omega) (Ev.yes (by omega) (Ev.yes (by omega) ?_)))
   have h1 := hin i hi
   rw [rdN, drop_getD w hi, wid1 hi (by omega)]
   generalize w.getD i 0 = e at h1
   simp only [ordRun]
   obtain ⟨x, rfl⟩ := Int.eq_ofNat_of_zero_le h1.1
   have hx : x < p.length := by omega
   refine Ev.call (poIn_eq (by omega)) ?_
   rw [Int.toNat_natCast]
   by_cases h2 : s.testBit x = true
   ·exact Ev.yes h2 (Ev.ret (by rw [if_neg (fun h => by rw [h.2.1] at h2; cases h2)]; rfl))
   refine Ev.no h2 (Ev.yes (by omega) (Ev.yes (by omega) ?_))
   rw [rdN, hp.val x hx, bits_andNotN (lt_pow (L_lt hp hx) (by omega)) (lt_pow hs (by omega))]
   by_cases h3 : subB (L p x) s = true
   ·have h4 : ndiff (L p x) s = 0 := by unfold subB at h3; exact beq_iff_eq.1 h3
    refine Ev.yes (by rw [h4]; rfl) ?_
    rw [shlN (by omega), bits_orN (lt_pow hs (by omega)) (Nat.pow_lt_pow_right (by decide) (by omega)), if_pos ⟨by omega, by simpa using h2, h3⟩]
    exact ih _ (or_lt hs (pow_lt_pow hx))
   ·have h4 : ¬ (((ndiff (L p x) s : Nat) : Int) = 0) := fun h => h3 (by unfold subB; rw [beq_iff_eq]; exact_mod_cast h)
    exact Ev.no h4 (Ev.ret (by rw [if_neg (fun h => h3 h.2.2)]; rfl))
 have := key 0 (by omega) 0 (Nat.two_pow_pos _)
 rw [List.drop_zero] at this
 exact this
end Go.Proofs.Ytmbojobkiainlaa.Q
end

section
namespace Go.Proofs.Ytmbojobkiainlaa.Q
open Go.RowKit Go.Proofs.YtmbojobkiainlaaW.PrintWords
set_option linter.unusedVariables false
theorem sizes_eq (n : Nat) : (decide ((1 : Int) ≤ (n : Int)) && decide ((n : Int) ≤ 10)) = (decide (1 ≤ n) && decide (n ≤ 10)) := by
 rw [Bool.eq_iff_iff]; simp only [Bool.and_eq_true, decide_eq_true_eq]; omega
end Go.Proofs.Ytmbojobkiainlaa.Q
end

section
namespace Go.Proofs.Ytmbojobkiainlaa.Q
open Go.RowKit Go.Proofs.YtmbojobkiainlaaW.PrintWords Go.Proofs.Ytmbojobkiainlaa.F
set_option linter.unusedVariables false
theorem poGood_ev (p : List Int) : Ev (fun k => spec_poGood.f k p) (isPo p) := by
 unfold spec_poGood.f
 refine Ev.call (l1In_eq _ _ _) ?_
 unfold isPo
 rw [sizes_eq]
 cases hs : (decide (1 ≤ p.length) && decide (p.length ≤ 10)) with
 | false => exact Ev.no (by simp) (Ev.ret rfl)
 | true =>
 refine Ev.yes rfl ?_
 rw [Bool.and_eq_true, decide_eq_true_eq, decide_eq_true_eq] at hs
 obtain ⟨h1, h2⟩ := hs
 have key : ∀ i, i ≤ p.length → Ev (fun k => spec_poGood.l0 k p (p.length : Int) (i : Int) p) (allFrom (rowOk p) p.length i) := by
  refine downTo p.length ?_ ?_
  ·refine Ev.step (by intro k; simp only [spec_poGood.l0]; rfl) ?_
   exact Ev.no (by omega) (Ev.ret (allFrom_end _ _).symm)
  ·intro i hi ih
   refine Ev.step (by intro k; simp only [spec_poGood.l0]; rfl) ?_
   refine Ev.yes (by omega) (Ev.yes (by omega) (Ev.yes (by omega) ?_))
   rw [rdN, mask_eq (by omega)]
   refine Ev.call (l1In_eq _ _ _) ?_
   rw [allFrom_step _ hi]
   by_cases hb : 0 ≤ p.getD i 0 ∧ p.getD i 0 ≤ 2 ^ i - 1
   rotate_left
   ·exact Ev.no (by rw [range_false hb]; simp) (Ev.ret (by rw [rowOk_false hb]; rfl))
   refine Ev.yes (range_true hb) ?_
   have hv : p.getD i 0 = (L p i : Int) := by unfold L; omega
   rw [rowOk_true hb]
   generalize hx : p.getD i 0 = x at *
   have inner : ∀ j, j ≤ i → Ev (fun k => spec_poGood.l1 k (i : Int) x (j : Int) p (p.length : Int) (i : Int) p)
    (allFrom (fun j => !(L p i).testBit j || decide (Go.bits .andNot .i64 (p.getD j 0) x = 0)) i j && allFrom (rowOk p) p.length (i + 1)) := by
    refine downTo i ?_ ?_
    ·refine Ev.step (by intro k; simp only [spec_poGood.l1]; rfl) ?_
     refine Ev.no (by omega) ?_
     rw [wid1 hi (by omega), allFrom_end, Bool.true_and]
     exact ih
    ·intro j hj ihj
     refine Ev.step (by intro k; simp only [spec_poGood.l1]; rfl) ?_
     refine Ev.yes (by omega) (Ev.yes (by omega) ?_)
     rw [allFrom_step _ hj, wid1 hj (by omega), rdN]
     cases hbit : (L p i).testBit j with
     | false => exact Ev.no (by rw [hv, bit_test (by omega), hbit]; simp) (evc ihj (by simp))
     | true =>
      refine Ev.yes (by rw [hv, bit_test (by omega), hbit]) (Ev.yes (by omega) ?_)
      refine Ev.ite (fun h => evc ihj ?_) (fun h => Ev.ret ?_)
      ·rw [decide_eq_true h]; simp
      ·rw [decide_eq_false h]; simp
   exact inner 0 (by omega)
 exact key 0 (by omega)
theorem within_eq (a b c : Int) : impl_within.f a b c = some (decide (b ≤ a) && decide (a ≤ c)) := by
 unfold impl_within.f
 by_cases h : b ≤ a
 ·rw [if_pos h]; simp [h]
 ·rw [if_neg h]; simp [h]
theorem isOrder_ev {p : List Int} (hp : PO p) (w : List Int) (hw : w.length ≤ 9223372036854775807) : Ev (fun k => impl_isOrder.f k p w) (ordB p w) := by
 have hn := hp.small
 have hn1 := hp.pos
 unfold impl_isOrder.f ordB
 have key : ∀ i, i ≤ w.length → ∀ s : Nat, s < 2 ^ p.length → Ev (fun k => impl_isOrder.l0 k (s : Int) w (w.length : Int) (i : Int) p) (ordRun p s (w.drop i) == some (allN p)) := by
  refine downTo _ ?_ ?_
  ·intro s hs
   refine Ev.step (by intro k; simp only [impl_isOrder.l0]; rfl) (Ev.no (by omega) (Ev.call (all_eq (by omega)) (Ev.ret ?_)))
   rw [List.drop_length]
   simp only [ordRun]
   rw [Bool.eq_iff_iff, beq_iff_eq, beq_iff_eq, Option.some.injEq]
   omega
  ·intro i hi ih s hs
   refine Ev.step (by intro k; simp only [impl_isOrder.l0]; rfl) (Ev.yes (by omega) (Ev.yes (by omega) (Ev.yes (by omega) ?_)))
   rw [rdN, drop_getD w hi, wid1 hi (by omega)]
   generalize w.getD i 0 = e
   refine Ev.call (show impl_Poset_n.f p = some (p.length : Int) from rfl) (Ev.call (within_eq _ _ _) ?_)
   rw [show wrap64 ((p.length : Int) - 1) = (p.length : Int) - 1 from wid (by omega) (by omega)]
   simp only [ordRun]
   by_cases h1 : 0 ≤ e ∧ e < (p.length : Int)
   rotate_left
   ·exact Ev.no (by rw [range_false (by omega)]; simp) (Ev.ret (by rw [if_neg (fun h => h1 h.1)]; rfl))
   refine Ev.yes (range_true (by omega)) ?_
   obtain ⟨x, rfl⟩ := Int.eq_ofNat_of_zero_le h1.1
   have hx : x < p.length := by omega
   refine Ev.call (has_eq (lt_pow hs (by omega)) (by omega)) ?_
   rw [Int.toNat_natCast]
   by_cases h2 : s.testBit x = true
   ·exact Ev.yes h2 (Ev.ret (by rw [if_neg (fun h => by rw [h.2.1] at h2; cases h2)]; rfl))
   refine Ev.no h2 (Ev.yes (by omega) (Ev.yes (by omega) ?_))
   rw [rdN, hp.val x hx, bits_andNotN (lt_pow (L_lt hp hx) (by omega)) (lt_pow hs (by omega))]
   by_cases h3 : subB (L p x) s = true
   ·have h4 : ndiff (L p x) s = 0 := by unfold subB at h3; exact beq_iff_eq.1 h3
    refine Ev.yes (by rw [h4]; rfl) ?_
    rw [shlN (by omega), bits_orN (lt_pow hs (by omega)) (Nat.pow_lt_pow_right (by decide) (by omega)), if_pos ⟨h1, by simpa using h2, h3⟩]
    exact ih _ (or_lt hs (pow_lt_pow hx))
   ·have h4 : ¬ (((ndiff (L p x) s : Nat) : Int) = 0) := fun h => h3 (by unfold subB; rw [beq_iff_eq]; exact_mod_cast h)
    exact Ev.no h4 (Ev.ret (by rw [if_neg (fun h => h3 h.2.2)]; rfl))
 have := key 0 (by omega) 0 (Nat.two_pow_pos _)
 rw [List.drop_zero] at this
 exact this
theorem IsPoset_ev (p : List Int) : Ev (fun k => impl_IsPoset.f k p) (isPo p) := by
 unfold impl_IsPoset.f
 refine Ev.call (show impl_Poset_n.f p = some (p.length : Int) from rfl) (Ev.call (within_eq _ _ _) ?_)
 unfold isPo
 rw [sizes_eq]
 cases hs : (decide (1 ≤ p.length) && decide (p.length ≤ 10)) with
 | false => exact Ev.no (by simp) (Ev.ret rfl)
 | true =>
 refine Ev.yes rfl ?_
 rw [Bool.and_eq_true, decide_eq_true_eq, decide_eq_true_eq] at hs
 obtain ⟨h1, h2⟩ := hs
 have key : ∀ i, i ≤ p.length → Ev (fun k => impl_IsPoset.l0 k p (p.length : Int) (i : Int) p) (allFrom (rowOk p) p.length i) := by
  refine downTo p.length ?_ ?_
  ·refine Ev.step (by intro k; simp only [impl_IsPoset.l0]; rfl) ?_
   exact Ev.no (by omega) (Ev.ret (allFrom_end _ _).symm)
  ·intro i hi ih
   refine Ev.step (by intro k; simp only [impl_IsPoset.l0]; rfl) ?_
   refine Ev.yes (by omega) (Ev.yes (by omega) (Ev.yes (by omega) ?_))
   rw [rdN, mask_eq (by omega)]
   refine Ev.call (within_eq _ _ _) ?_
   rw [allFrom_step _ hi]
   by_cases hb : 0 ≤ p.getD i 0 ∧ p.getD i 0 ≤ 2 ^ i - 1
   rotate_left
   ·exact Ev.no (by rw [range_false hb]; simp) (Ev.ret (by rw [rowOk_false hb]; rfl))
   refine Ev.yes (range_true hb) ?_
   have hv : p.getD i 0 = (L p i : Int) := by unfold L; omega
   have hm : L p i < 2 ^ i := by
    have := hb.2
    rw [hv, pow_int] at this
    have hp : 0 < 2 ^ i := Nat.two_pow_pos i
    generalize 2 ^ i = z at *
    omega
   rw [rowOk_true hb, ← items_all hm (by omega) (fun j => decide (Go.bits .andNot .i64 (p.getD j 0) (p.getD i 0) = 0)), hv]
   refine Ev.bind (items_ev _ (lt_pow hm (by omega))) ?_
   have inner : ∀ j, j ≤ (itemsN (L p i)).length → Ev (fun k => impl_IsPoset.l1 k (L p i : Int) p (p.length : Int) (i : Int) (ints (itemsN (L p i))) ((ints (itemsN (L p i))).length : Int) (j : Int) p)
    (((itemsN (L p i)).drop j).all (fun j => decide (Go.bits .andNot .i64 (p.getD j 0) (L p i : Int) = 0)) && allFrom (rowOk p) p.length (i + 1)) := by
    rw [ints_len]
    refine downTo _ ?_ ?_
    ·refine Ev.step (by intro k; simp only [impl_IsPoset.l1]; rfl) ?_
     refine Ev.no (by omega) ?_
     rw [wid1 hi (by omega), List.drop_length, List.all_nil, Bool.true_and]
     exact ih
    ·intro j hj ihj
     have hlt := items_lt hm hj
     have hl := itemsN_len (L p i)
     refine Ev.step (by intro k; simp only [impl_IsPoset.l1]; rfl) ?_
     refine Ev.yes (by omega) (Ev.yes (by omega) (Ev.yes (by rw [ints_len]; omega) ?_))
     rw [rd_ints, all_drop_step _ _ 0 hj, wid1 hj (by omega), rdN]
     refine Ev.yes (by omega) (Ev.yes (by omega) ?_)
     refine Ev.ite (fun h => evc ihj ?_) (fun h => Ev.ret ?_)
     ·rw [decide_eq_true h]; simp
     ·rw [decide_eq_false h]; simp
   exact inner 0 (by omega)
 exact key 0 (by omega)
end Go.Proofs.Ytmbojobkiainlaa.Q
end

section
namespace Go.Proofs.Ytmbojobkiainlaa.Q

end Go.Proofs.Ytmbojobkiainlaa.Q
end

section
namespace Go.Proofs.Ytmbojobkiainlaa.Q
open Go.RowKit Go.Proofs.YtmbojobkiainlaaW.PrintWords Go.Proofs.Ytmbojobkiainlaa.F
set_option linter.unusedVariables false
def linB (p w : List Int) : Bool := isPo p && ordB p w
theorem isLinear_ev (p w : List Int) (hw : w.length ≤ 9223372036854775807) : Ev (fun k => impl_isLinear.f k p w) (linB p w) := by
 unfold impl_isLinear.f linB
 refine Ev.bind (IsPoset_ev p) ?_
 cases hp : isPo p with
 | false => exact Ev.no (by simp) (Ev.ret rfl)
 | true => exact Ev.yes rfl (Ev.bind (isOrder_ev ((isPo_iff p).1 hp) w hw) (Ev.ret rfl))
structure Lin (p w : List Int) : Prop where
 po : PO p
 ord : ordB p w = true
 len : w.length = p.length
 pos : 1 ≤ p.length
 small : p.length ≤ 10
theorem linB_lin {p w : List Int} (h : linB p w = true) : Lin p w := by
 unfold linB at h
 rw [Bool.and_eq_true] at h
 have hp := (isPo_iff p).1 h.1
 exact ⟨hp, h.2, ordB_len h.2, hp.pos, hp.small⟩
theorem oLess_first {a b : List Int} (h : a.length ≤ 100000) (hl : a.length = b.length) {j : Nat} (hj : j < a.length) (hlt : a.getD j 0 < b.getD j 0) : ∀ i, i ≤ j → (∀ t, i ≤ t → t < j → a.getD t 0 = b.getD t 0) → Ev (fun k => laws_oLess.l0 k a b (a.length : Int) (i : Int)) true := by
 refine downTo _ ?_ ?_
 ·intro _
  refine Ev.step (by intro k; simp only [laws_oLess.l0]; rfl) (Ev.yes (by omega) (Ev.yes (by omega) (Ev.yes (by omega) (Ev.yes (by omega) ?_))))
  rw [rdN, rdN]
  refine Ev.no (by omega) (Ev.ret ?_)
  rw [decide_eq_true hlt]
 ·intro i hi ih he
  refine Ev.step (by intro k; simp only [laws_oLess.l0]; rfl) (Ev.yes (by omega) (Ev.yes (by omega) (Ev.yes (by omega) (Ev.yes (by omega) ?_))))
  rw [rdN, rdN]
  refine Ev.yes (he i (Nat.le_refl _) hi) ?_
  rw [wid1 (i := i) (n := a.length) (by omega) (by omega)]
  exact ih (fun t h1 h2 => he t (by omega) h2)
theorem oLess_ev {a b : List Int} (h : a.length ≤ 100000) (hl : a.length = b.length) {j : Nat} (hj : j < a.length) (he : ∀ t, t < j → a.getD t 0 = b.getD t 0) (hlt : a.getD j 0 < b.getD j 0) : Ev (fun k => laws_oLess.f k a b) true := by
 unfold laws_oLess.f
 exact oLess_first h hl hj hlt 0 (Nat.zero_le _) (fun t _ ht => he t ht)
theorem oLinear_ev (p w : List Int) (hw : w.length ≤ 9223372036854775807) : Ev (fun k => laws_oLinear.f k p w) (linB p w) := by
 unfold laws_oLinear.f linB
 cases hp : isPo p with
 | false =>
  refine Ev.bind (a := (false, false)) ?_ (Ev.no Bool.false_ne_true (Ev.now _))
  unfold impl_IsLinear.f
  refine Ev.bind (a := (false, false)) ?_ (Ev.now _)
  unfold impl_IsOrder.f
  refine Ev.bind (IsPoset_ev p) ?_
  rw [hp]; exact Ev.no Bool.false_ne_true (Ev.now _)
 | true =>
  refine Ev.bind (a := (ordB p w, true)) ?_ (Ev.yes rfl (Ev.ret rfl))
  unfold impl_IsLinear.f
  refine Ev.bind (a := (ordB p w, true)) ?_ (Ev.now _)
  unfold impl_IsOrder.f
  refine Ev.bind (IsPoset_ev p) ?_
  rw [hp]
  exact Ev.yes rfl (Ev.bind (isOrder_ev ((isPo_iff p).1 hp) w hw) (Ev.now _))
end Go.Proofs.Ytmbojobkiainlaa.Q
end
