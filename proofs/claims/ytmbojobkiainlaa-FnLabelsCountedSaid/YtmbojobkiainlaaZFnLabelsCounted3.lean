/- Part 3 of the texts below the row of FnLabelsCounted: printed functions with their contracts, and plain lemmas. No condition. -/
import Derived.Test.YtmbojobkiainlaaZFnLabelsCounted2
section
namespace Go.Proofs.Ytmbojobkiainlaa.F
open Go.RowKit Go.Proofs.YtmbojobkiainlaaW.PrintWords Go.Proofs.YtmbojobkiainlaaW.PrintLast Go.Proofs.YtmbojobkiainlaaW.PrintMore
attribute [local go_sem] max2_int min2_int max_two min_two max_three min_three max_four min_four
set_option linter.unusedVariables false
set_option linter.unusedSimpArgs false
mutual
def spec_poGood.l0 : Nat → List Int → Int → Int → List Int → Option (Bool)
 | 0, _, _, _, _ => none
 | k + 1, x14, x15, x16, x298000 => if x16 < x15 then (if 0 ≤ x16 then (if x16 < (x14.length : Int) then ((spec_l1In.f (rd x14 x16) 0 (wrap64 ((shl .i64 1 x16) - 1))).bind fun t300 => (if t300 = true then (spec_poGood.l1 k x16 (rd x14 x16) 0 x14 x15 x16 x298000) else (some false))) else (none)) else (none)) else (some true)
def spec_poGood.l1 : Nat → Int → Int → Int → List Int → Int → Int → List Int → Option (Bool)
 | 0, _, _, _, _, _, _, _ => none
 | k + 1, x4, x5, x6, x14, x15, x16, x298000 => if x6 < x4 then (if 0 ≤ x6 then (if (Int.tmod (shr .i64 x5 x6) 2) = 1 then (if x6 < (x298000.length : Int) then (if (Go.bits .andNot .i64 (rd x298000 x6) x5) = 0 then (spec_poGood.l1 k x4 x5 (wrap64 (x6 + 1)) x14 x15 x16 x298000) else (some false)) else (none)) else (spec_poGood.l1 k x4 x5 (wrap64 (x6 + 1)) x14 x15 x16 x298000)) else (none)) else (spec_poGood.l0 k x14 x15 (wrap64 (x16 + 1)) x298000)
end
def spec_poGood.f (k : Nat) (l0_0 : List Int) : Option (Bool) := (spec_l1In.f (l0_0.length : Int) 1 10).bind fun t298 => (if t298 = true then (spec_poGood.l0 k l0_0 (l0_0.length : Int) 0 l0_0) else (some false))
theorem spec_poGood.mono_l : ∀ k, (∀ y0 y1 y2 y3, LeO (spec_poGood.l0 k y0 y1 y2 y3) (spec_poGood.l0 (k + 1) y0 y1 y2 y3)) ∧ (∀ y0 y1 y2 y3 y4 y5 y6, LeO (spec_poGood.l1 k y0 y1 y2 y3 y4 y5 y6) (spec_poGood.l1 (k + 1) y0 y1 y2 y3 y4 y5 y6))
 | 0 => ⟨fun _ _ _ _ r h => by simp [spec_poGood.l0] at h, fun _ _ _ _ _ _ _ r h => by simp [spec_poGood.l1] at h⟩
 | k + 1 => by
  obtain ⟨ih0, ih1⟩ := spec_poGood.mono_l k
  refine ⟨?_, ?_⟩
  ·intro y0 y1 y2 y3
   unfold spec_poGood.l0
   repeat' first
   | (with_reducible exact LeO.refl _)
   | (with_reducible exact LeO.none _)
   | (with_reducible refine LeO.ite ?_ ?_)
   | (with_reducible refine LeO.bind ?_ (fun _ => ?_))
   | exact ih0 _ _ _ _
   | exact ih1 _ _ _ _ _ _ _
   | exact LeO.none _
   | refine LeO.ite ?_ ?_
   | refine LeO.bind ?_ (fun _ => ?_)
  ·intro y0 y1 y2 y3 y4 y5 y6
   unfold spec_poGood.l1
   repeat' first
   | (with_reducible exact LeO.refl _)
   | (with_reducible exact LeO.none _)
   | (with_reducible refine LeO.ite ?_ ?_)
   | (with_reducible refine LeO.bind ?_ (fun _ => ?_))
   | exact ih0 _ _ _ _
   | exact ih1 _ _ _ _ _ _ _
   | exact LeO.none _
   | refine LeO.ite ?_ ?_
   | refine LeO.bind ?_ (fun _ => ?_)
theorem spec_poGood.mono : ∀ a0 k, LeO (spec_poGood.f k a0) (spec_poGood.f (k + 1) a0) := by
 intro a0 k
 obtain ⟨ih0, ih1⟩ := spec_poGood.mono_l k
 unfold spec_poGood.f
 repeat' first
  | (with_reducible exact LeO.refl _)
  | (with_reducible exact LeO.none _)
  | (with_reducible refine LeO.ite ?_ ?_)
  | (with_reducible refine LeO.bind ?_ (fun _ => ?_))
  | exact ih0 _ _ _ _
  | exact ih1 _ _ _ _ _ _ _
  | exact LeO.none _
  | refine LeO.ite ?_ ?_
  | refine LeO.bind ?_ (fun _ => ?_)
set_option maxHeartbeats 8000000 in
set_option maxRecDepth 100000 in
theorem spec_poGood.calls (k : Nat) (A0_0 : Option Addr) (c0_0 : Nat) (l0_0 : List Int) (r : Bool) (w : World) (hr0_0 : Kd.C (Kd.int .i64) w A0_0 l0_0.length l0_0) (hc0_0 : l0_0.length ≤ c0_0) (h : spec_poGood.f k l0_0 = some r) :
 Calls Try.prog 82 #[.agg #[.slice A0_0 l0_0.length c0_0]] w fun e w' => e = .returned (.bool r) ∧ Below w.heap.size w w' := by
 have hu26 := Try.underlying26
 have HR0_0 := am hr0_0
 have HC0_0 := am hc0_0
 clear hr0_0 hc0_0
 have HB := am (Below.refl w.heap.size w)
 have H : ((spec_l1In.f (l0_0.length : Int) 1 10).bind fun t298 => (if t298 = true then (spec_poGood.l0 k l0_0 (l0_0.length : Int) 0 l0_0) else (some false))) = some r := h
 clear h
 replace H := Option.bind_eq_some_iff.mp H
 obtain ⟨t298, A20, H⟩ := H
 replace H : (if t298 = true then (spec_poGood.l0 k l0_0 (l0_0.length : Int) 0 l0_0) else (some false)) = some r := H
 have A2 := am A20
 clear A20
 by_cases c3 : t298 = true
 ·subst c3
  have H1 : (spec_poGood.l0 k l0_0 (l0_0.length : Int) 0 l0_0) = some r := by rw [if_pos rfl] at H; exact H
  clear H
  have H := H1
  clear H1
  have H' := am H
  clear H
  go_enter Try.func82, Try.ntmps82
  go_wp2_with (first | ((with_reducible refine gate_dst (N := 1) rfl ?_); refine qx (N := 1) (cs := #[.slice A0_0 l0_0.length c0_0]) (t := 26) ?_; intro gb297 hg w4 hbox hb; have n0_ := am (below_step qB hb); have BK297 := am (hbox); have GW297 := am (qg w hg); have GE297 := am (qg w hg); clear HB; have HB := n0_; clear n0_; clear hb hbox hg; have hcz5_0 := qz w4 BK297.out; have hfz5_0 := blk_frozen BK297.out 0) | ((with_reducible refine gate_callee (f := 75) rfl ?_); refine gL (some 11) Try.func75 #[.int .i64 (l0_0.length : Int), .int .i64 1, .int .i64 10] ?_; (with_reducible refine (spec_l1In.calls (l0_0.length : Int) 1 10 true _ A2.out).mono ?_); rintro e w' ⟨rfl, ⟨nd, rfl⟩⟩; refine ⟨_, rfl, ?_⟩))
  go_loopg [16] k (fun kq v16 w' => ∃ (x16_1 : Int), v16 = .int .i64 x16_1 ∧ Aside0 (spec_poGood.l0 kq l0_0 (l0_0.length : Int) x16_1 l0_0 = some r) ∧ Aside0 (kq ≤ k) ∧ Aside0 (w'.heap[gb297]? = some (.cells #[(.slice A0_0 l0_0.length c0_0)] 26 (0, 0))) ∧ Aside0 (Below w.heap.size w w'))
  case atStart => exact ⟨(0), qe, H', ⟨Nat.le_refl _⟩, ⟨qb BK297.out⟩, ⟨qB⟩⟩
  case round =>
   clear H'
   try clear p2
   try clear c3
   try clear hcz5_0
   try clear hfz5_0
   obtain ⟨x16_1, rfl, HA, HK1, BK297, HB⟩ := hrel
   cases gk with
   | zero => exact absurd HA.out (by simp [spec_poGood.l0])
   | succ k1 =>
    have H := HA.out
    clear HA
    simp only [spec_poGood.l0] at H
    by_cases c6 : x16_1 < (l0_0.length : Int)
    ·rw [if_pos c6] at H
     have c6b0 := decide_eq_true c6
     clear c6
     by_cases c7 : 0 ≤ x16_1
     rotate_left
     ·rw [if_neg c7] at H
      exact absurd H (by simp)
     rw [if_pos c7] at H
     have c7b0 := decide_eq_true c7
     clear c7
     by_cases c8 : x16_1 < (l0_0.length : Int)
     rotate_left
     ·rw [if_neg c8] at H
      exact absurd H (by simp)
     rw [if_pos c8] at H
     have c8b0 := decide_eq_true c8
     clear c8
     have c9b0 := eq_true (qd : 0 ≤ x16_1)
     obtain ⟨ji10, hji10⟩ : ∃ j_ : Int, (shl .i64 1 x16_1) = j_ := ⟨_, rfl⟩
     replace H : ((spec_l1In.f (rd l0_0 x16_1) 0 (wrap64 ((ji10) - 1))).bind fun t300 => (if t300 = true then (spec_poGood.l1 k1 x16_1 (rd l0_0 x16_1) 0 l0_0 (l0_0.length : Int) x16_1 l0_0) else (some false))) = some r := by first | (rw [hji10] at H; exact H) | (simp only [hji10] at H ⊢; exact H)
     have hji10_ : (IntKind.i64.wrap (1 * 2 ^ min x16_1.toNat 64)) = ji10 := hji10
     have hji10z : x16_1 ≤ 64 → (IntKind.i64.wrap (1 * 2 ^ x16_1.toNat)) = ji10 := shl_small hji10
     have hji10u : (IntKind.i64.wrap (2 ^ min x16_1.toNat 64)) = ji10 := by have h_ := hji10_; rw [Int.one_mul] at h_; exact h_
     have hji10v : x16_1 ≤ 64 → (IntKind.i64.wrap (2 ^ x16_1.toNat)) = ji10 := fun hle_ => by have h_ := hji10z hle_; rw [Int.one_mul] at h_; exact h_
     have hji10y : (wrap64 (1 * 2 ^ min x16_1.toNat 64)) = ji10 := (i64_w _).symm.trans hji10_
     have hji10x : x16_1 ≤ 64 → (wrap64 (1 * 2 ^ x16_1.toNat)) = ji10 := fun h_ => (i64_w _).symm.trans (hji10z h_)
     replace H := Option.bind_eq_some_iff.mp H
     obtain ⟨t300, A110, H⟩ := H
     replace H : (if t300 = true then (spec_poGood.l1 k1 x16_1 (rd l0_0 x16_1) 0 l0_0 (l0_0.length : Int) x16_1 l0_0) else (some false)) = some r := H
     have A11 := am A110
     clear A110
     by_cases c12 : t300 = true
     ·subst c12
      have H1 : (spec_poGood.l1 k1 x16_1 (rd l0_0 x16_1) 0 l0_0 (l0_0.length : Int) x16_1 l0_0) = some r := by rw [if_pos rfl] at H; exact H
      clear H
      have H := H1
      clear H1
      have H' := am H
      clear H
      have p299 : 0 ≤ (x16_1 : Int) := qd
      have q299 : x16_1 < (l0_0.length : Int) := qd
      obtain ⟨ad299, e299, hx299_0⟩ := Kd.at_int HR0_0.out x16_1 p299 q299
      cases e299
      replace hx299_0 := (HB.out.cell (World.block_lt_of_cell? w _ hx299_0)).trans hx299_0
      replace p299 := eq_true p299
      replace q299 := eq_true q299
      go_wp2_with (first | ((with_reducible refine gate_callee (f := 75) rfl ?_); refine goesL_ (some 25) rfl rfl Try.func75 (by kernel_rfl) rfl #[.int .i64 (rd l0_0 x16_1), .int .i64 0, .int .i64 (wrap64 ((ji10) - 1))] rfl (by (try simp only [List.map_toArray, List.map_cons, List.map_nil]); first | done | (simp only [hji10]; rfl) | rfl | (simp only [List.length_drop, List.length_take]; rfl)) ?_; (with_reducible refine (spec_l1In.calls (rd l0_0 x16_1) 0 (wrap64 ((ji10) - 1)) true _ A11.out).mono ?_); rintro e w' ⟨rfl, ⟨nd, rfl⟩⟩; refine ⟨_, rfl, ?_⟩))
      go_loopg [6] k1 (fun kq v6 w' => ∃ (x6_2 : Int), v6 = .int .i64 x6_2 ∧ Aside0 (spec_poGood.l1 kq x16_1 (rd l0_0 x16_1) x6_2 l0_0 (l0_0.length : Int) x16_1 l0_0 = some r) ∧ Aside0 (kq ≤ k1) ∧ Aside0 (w'.heap[gb297]? = some (.cells #[(.slice (some ad299) l0_0.length c0_0)] 26 (0, 0))) ∧ Aside0 (Below w.heap.size w w'))
      case atStart => exact ⟨(0), qe, H', ⟨Nat.le_refl _⟩, ⟨qb BK297.out⟩, ⟨qB⟩⟩
      case round =>
       clear H'
       try clear c1
       try clear p2
       try clear q2
       try clear hx2
       try clear c3
       try clear c6
       try clear c6b0
       try clear p6
       try clear c7
       try clear c7b0
       try clear c8
       try clear c8b0
       try clear c9
       try clear c9b0
       try clear c12
       try clear hcz5_0
       try clear hfz5_0
       try clear hx299_0
       try clear p2
       try clear p299
       try clear q299
       obtain ⟨x6_2, rfl, HA, HK2, BK297, HB⟩ := hrel
       cases gk with
       | zero => exact absurd HA.out (by simp [spec_poGood.l1])
       | succ k2 =>
        have H := HA.out
        clear HA
        simp only [spec_poGood.l1] at H
        by_cases c13 : x6_2 < x16_1
        ·rw [if_pos c13] at H
         have c13b0 := decide_eq_true c13
         clear c13
         by_cases c14 : 0 ≤ x6_2
         rotate_left
         ·rw [if_neg c14] at H
          exact absurd H (by simp)
         rw [if_pos c14] at H
         have c14b0 := eq_true c14
         have c14b1 := decide_eq_true c14
         clear c14
         obtain ⟨ji15, hji15⟩ : ∃ j_ : Int, (shr .i64 (rd l0_0 x16_1) x6_2) = j_ := ⟨_, rfl⟩
         replace H : (if (Int.tmod (ji15) 2) = 1 then (if x6_2 < (l0_0.length : Int) then (if (Go.bits .andNot .i64 (rd l0_0 x6_2) (rd l0_0 x16_1)) = 0 then (spec_poGood.l1 k2 x16_1 (rd l0_0 x16_1) (wrap64 (x6_2 + 1)) l0_0 (l0_0.length : Int) x16_1 l0_0) else (some false)) else (none)) else (spec_poGood.l1 k2 x16_1 (rd l0_0 x16_1) (wrap64 (x6_2 + 1)) l0_0 (l0_0.length : Int) x16_1 l0_0)) = some r := by first | (rw [hji15] at H; exact H) | (simp only [hji15] at H ⊢; exact H)
         have hji15_ : ((rd l0_0 x16_1) / 2 ^ min x6_2.toNat 64) = ji15 := hji15
         have hji15z : x6_2 ≤ 64 → ((rd l0_0 x16_1) / 2 ^ x6_2.toNat) = ji15 := shr_small hji15
         by_cases c16 : (Int.tmod (ji15) 2) = 1
         ·rw [if_pos c16] at H
          have c16b0 : ((Int.tmod (ji15) 2) == 1) = true := beq_iff_eq.mpr c16
          have c16b1 : ((Int.tmod (ji15) 2) != 1) = false := bne_eq_false_iff_eq.mpr c16
          clear c16
          by_cases c17 : x6_2 < (l0_0.length : Int)
          rotate_left
          ·rw [if_neg c17] at H
           exact absurd H (by simp)
          rw [if_pos c17] at H
          have c17b0 := decide_eq_true c17
          clear c17
          by_cases c18 : (Go.bits .andNot .i64 (rd l0_0 x6_2) (rd l0_0 x16_1)) = 0
          ·rw [if_pos c18] at H
           have c18b0 : ((Go.bits .andNot .i64 (rd l0_0 x6_2) (rd l0_0 x16_1)) == 0) = true := beq_iff_eq.mpr c18
           have c18b1 : ((Go.bits .andNot .i64 (rd l0_0 x6_2) (rd l0_0 x16_1)) != 0) = false := bne_eq_false_iff_eq.mpr c18
           clear c18
           have H' := am H
           clear H
           have hcz19_0 := qz wr BK297.out
           have hfz19_0 := blk_frozen BK297.out 0
           have p301 : 0 ≤ (x6_2 : Int) := qd
           have q301 : x6_2 < (l0_0.length : Int) := qd
           obtain ⟨ad301, e301, hx301_0⟩ := Kd.at_int HR0_0.out x6_2 p301 q301
           obtain rfl : ad299 = ad301 := (by injection e301)
           replace hx301_0 := (HB.out.cell (World.block_lt_of_cell? w _ hx301_0)).trans hx301_0
           replace p301 := eq_true p301
           replace q301 := eq_true q301
           go_wp2
           go_roundg k2
           case measure => have := HK1.out; have := HK2.out; omega
           case rel => exact ⟨(wrap64 (x6_2 + 1)), qe, H', ⟨by have := HK1.out; have := HK2.out; omega⟩, ⟨qb BK297.out⟩, ⟨qB⟩⟩
          ·rw [if_neg c18] at H
           have c18b0 : ((Go.bits .andNot .i64 (rd l0_0 x6_2) (rd l0_0 x16_1)) == 0) = false := beq_eq_false_iff_ne.mpr c18
           have c18b1 : ((Go.bits .andNot .i64 (rd l0_0 x6_2) (rd l0_0 x16_1)) != 0) = true := bne_iff_ne.mpr c18
           obtain rfl := Option.some.inj H
           have hcz20_0 := qz wr BK297.out
           have hfz20_0 := blk_frozen BK297.out 0
           have p301 : 0 ≤ (x6_2 : Int) := qd
           have q301 : x6_2 < (l0_0.length : Int) := qd
           obtain ⟨ad301, e301, hx301_0⟩ := Kd.at_int HR0_0.out x6_2 p301 q301
           obtain rfl : ad299 = ad301 := (by injection e301)
           replace hx301_0 := (HB.out.cell (World.block_lt_of_cell? w _ hx301_0)).trans hx301_0
           replace p301 := eq_true p301
           replace q301 := eq_true q301
           go_wp2
           go_ret
           exact ⟨by first | rfl | (simp [errW_none, errW_some] <;> rfl) | (simp only [← hji10, ← hji15]; first | rfl | (simp [errW_none, errW_some] <;> rfl)) | (simp [*, errW_none, errW_some] <;> rfl), qB⟩
         ·rw [if_neg c16] at H
          have c16b0 : ((Int.tmod (ji15) 2) == 1) = false := beq_eq_false_iff_ne.mpr c16
          have c16b1 : ((Int.tmod (ji15) 2) != 1) = true := bne_iff_ne.mpr c16
          have H' := am H
          clear H
          go_wp2
          go_roundg k2
          case measure => have := HK1.out; have := HK2.out; omega
          case rel => exact ⟨(wrap64 (x6_2 + 1)), qe, H', ⟨by have := HK1.out; have := HK2.out; omega⟩, ⟨qb BK297.out⟩, ⟨qB⟩⟩
        ·rw [if_neg c13] at H
         have c13b0 := decide_eq_false c13
         clear c13
         have H' := am H
         clear H
         go_wp2
         go_roundg k2
         case measure => have := HK1.out; have := HK2.out; omega
         case rel => exact ⟨(wrap64 (x16_1 + 1)), qe, H', ⟨by have := HK1.out; have := HK2.out; omega⟩, ⟨qb BK297.out⟩, ⟨qB⟩⟩
     ·replace c12 := Bool.eq_false_iff.mpr c12
      subst c12
      have H1 : (some false) = some r := by rw [if_neg (show ¬ (false = true) by decide)] at H; exact H
      clear H
      have H := H1
      clear H1
      obtain rfl := Option.some.inj H
      have p299 : 0 ≤ (x16_1 : Int) := qd
      have q299 : x16_1 < (l0_0.length : Int) := qd
      obtain ⟨ad299, e299, hx299_0⟩ := Kd.at_int HR0_0.out x16_1 p299 q299
      cases e299
      replace hx299_0 := (HB.out.cell (World.block_lt_of_cell? w _ hx299_0)).trans hx299_0
      replace p299 := eq_true p299
      replace q299 := eq_true q299
      go_wp2_with (first | ((with_reducible refine gate_callee (f := 75) rfl ?_); refine goesL_ (some 25) rfl rfl Try.func75 (by kernel_rfl) rfl #[.int .i64 (rd l0_0 x16_1), .int .i64 0, .int .i64 (wrap64 ((ji10) - 1))] rfl (by (try simp only [List.map_toArray, List.map_cons, List.map_nil]); first | done | (simp only [hji10]; rfl) | rfl | (simp only [List.length_drop, List.length_take]; rfl)) ?_; (with_reducible refine (spec_l1In.calls (rd l0_0 x16_1) 0 (wrap64 ((ji10) - 1)) false _ A11.out).mono ?_); rintro e w' ⟨rfl, ⟨nd, rfl⟩⟩; refine ⟨_, rfl, ?_⟩))
      go_ret
      exact ⟨by first | rfl | (simp [errW_none, errW_some] <;> rfl) | (simp only [← hji10]; first | rfl | (simp [errW_none, errW_some] <;> rfl)) | (simp [*, errW_none, errW_some] <;> rfl), qB⟩
    ·rw [if_neg c6] at H
     have c6b0 := decide_eq_false c6
     clear c6
     obtain rfl := Option.some.inj H
     go_wp2
     go_ret
     exact ⟨qr, qB⟩
 ·replace c3 := Bool.eq_false_iff.mpr c3
  subst c3
  have H1 : (some false) = some r := by rw [if_neg (show ¬ (false = true) by decide)] at H; exact H
  clear H
  have H := H1
  clear H1
  obtain rfl := Option.some.inj H
  go_enter Try.func82, Try.ntmps82
  go_wp2_with (first | ((with_reducible refine gate_dst (N := 1) rfl ?_); refine qx (N := 1) (cs := #[.slice A0_0 l0_0.length c0_0]) (t := 26) ?_; intro gb297 hg w21 hbox hb; have n0_ := am (below_step qB hb); have BK297 := am (hbox); have GW297 := am (qg w hg); have GE297 := am (qg w hg); clear HB; have HB := n0_; clear n0_; clear hb hbox hg; have hcz22_0 := qz w21 BK297.out; have hfz22_0 := blk_frozen BK297.out 0) | ((with_reducible refine gate_callee (f := 75) rfl ?_); refine gL (some 11) Try.func75 #[.int .i64 (l0_0.length : Int), .int .i64 1, .int .i64 10] ?_; (with_reducible refine (spec_l1In.calls (l0_0.length : Int) 1 10 false _ A2.out).mono ?_); rintro e w' ⟨rfl, ⟨nd, rfl⟩⟩; refine ⟨_, rfl, ?_⟩))
  go_ret
  exact ⟨qr, qB⟩
def spec_poIn.f (a0 : Int) (a1 : Int) : Option (Bool) := if 0 ≤ a1 then (some ((Int.tmod (shr .i64 a0 a1) 2) == 1)) else (none)
set_option maxHeartbeats 8000000 in
set_option maxRecDepth 100000 in
theorem spec_poIn.calls (a0 : Int) (a1 : Int) (r : Bool) (w : World) (h : spec_poIn.f a0 a1 = some r) :
 Calls Try.prog 93 #[.int .i64 a0, .int .i64 a1] w fun e w' => e = .returned (.bool r) ∧ Drawn0 w w' := by
 have H : (if 0 ≤ a1 then (some ((Int.tmod (shr .i64 a0 a1) 2) == 1)) else (none)) = some r := h
 clear h
 by_cases c3 : 0 ≤ a1
 ·rw [if_pos c3] at H
  have c3b0 := eq_true c3
  have c3b1 := decide_eq_true c3
  clear c3
  obtain ⟨ji4, hji4⟩ : ∃ j_ : Int, (shr .i64 a0 a1) = j_ := ⟨_, rfl⟩
  replace H : (some ((Int.tmod (ji4) 2) == 1)) = some r := by first | (rw [hji4] at H; exact H) | (simp only [hji4] at H ⊢; exact H)
  have hji4_ : (a0 / 2 ^ min a1.toNat 64) = ji4 := hji4
  have hji4z : a1 ≤ 64 → (a0 / 2 ^ a1.toNat) = ji4 := shr_small hji4
  obtain rfl := Option.some.inj H
  go_enter Try.func93, Try.ntmps93
  go_wp2
  go_ret
  exact ⟨by first | rfl | (simp; done) | (simp only [← hji4] <;> (first | rfl | simp)) | (simp [*]; done), by repeat (first | exact Drawn0.refl _ | apply Drawn0.step)⟩
 ·rw [if_neg c3] at H
  exact absurd H (by simp)
def spec_laFree.l0 : Nat → Int → List Int → Int → Int → Option (Bool)
 | 0, _, _, _, _ => none
 | k + 1, x1, x8, x9, x10 => if x10 < x9 then (if 0 ≤ x10 then (if x10 < (x8.length : Int) then ((spec_poIn.f x1 x10).bind fun t313 => (if t313 = true then (if (Go.bits .and .i64 (rd x8 x10) x1) = 0 then (spec_laFree.l0 k x1 x8 x9 (wrap64 (x10 + 1))) else (some false)) else (spec_laFree.l0 k x1 x8 x9 (wrap64 (x10 + 1))))) else (none)) else (none)) else (some true)
def spec_laFree.f (k : Nat) (l0_0 : List Int) (a1 : Int) : Option (Bool) := spec_laFree.l0 k a1 l0_0 (l0_0.length : Int) 0
theorem spec_laFree.mono_l : ∀ k, (∀ y0 y1 y2 y3, LeO (spec_laFree.l0 k y0 y1 y2 y3) (spec_laFree.l0 (k + 1) y0 y1 y2 y3))
 | 0 => fun _ _ _ _ r h => by simp [spec_laFree.l0] at h
 | k + 1 => by
  have ih0 := spec_laFree.mono_l k
  ·intro y0 y1 y2 y3
   unfold spec_laFree.l0
   repeat' first
   | (with_reducible exact LeO.refl _)
   | (with_reducible exact LeO.none _)
   | (with_reducible refine LeO.ite ?_ ?_)
   | (with_reducible refine LeO.bind ?_ (fun _ => ?_))
   | exact ih0 _ _ _ _
   | exact LeO.none _
   | refine LeO.ite ?_ ?_
   | refine LeO.bind ?_ (fun _ => ?_)
theorem spec_laFree.mono : ∀ a0 a1 k, LeO (spec_laFree.f k a0 a1) (spec_laFree.f (k + 1) a0 a1) := by
 intro a0 a1 k
 have ih0 := spec_laFree.mono_l k
 unfold spec_laFree.f
 repeat' first
  | (with_reducible exact LeO.refl _)
  | (with_reducible exact LeO.none _)
  | (with_reducible refine LeO.ite ?_ ?_)
  | (with_reducible refine LeO.bind ?_ (fun _ => ?_))
  | exact ih0 _ _ _ _
  | exact LeO.none _
  | refine LeO.ite ?_ ?_
  | refine LeO.bind ?_ (fun _ => ?_)
set_option maxHeartbeats 8000000 in
set_option maxRecDepth 100000 in
theorem spec_laFree.calls (k : Nat) (A0_0 : Option Addr) (c0_0 : Nat) (l0_0 : List Int) (a1 : Int) (r : Bool) (w : World) (hr0_0 : Kd.C (Kd.int .i64) w A0_0 l0_0.length l0_0) (hc0_0 : l0_0.length ≤ c0_0) (h : spec_laFree.f k l0_0 a1 = some r) :
 Calls Try.prog 138 #[.agg #[.slice A0_0 l0_0.length c0_0], .int .i64 a1] w fun e w' => e = .returned (.bool r) ∧ Below w.heap.size w w' := by
 have hu26 := Try.underlying26
 have HR0_0 := am hr0_0
 have HC0_0 := am hc0_0
 clear hr0_0 hc0_0
 have HB := am (Below.refl w.heap.size w)
 have H : (spec_laFree.l0 k a1 l0_0 (l0_0.length : Int) 0) = some r := h
 clear h
 have H' := am H
 clear H
 go_enter Try.func138, Try.ntmps138
 go_wp2_with (first | ((with_reducible refine gate_dst (N := 2) rfl ?_); refine qx (N := 2) (cs := #[.slice A0_0 l0_0.length c0_0]) (t := 26) ?_; intro gb311 hg w3 hbox hb; have n0_ := am (below_step qB hb); have BK311 := am (hbox); have GW311 := am (qg w hg); have GE311 := am (qg w hg); clear HB; have HB := n0_; clear n0_; clear hb hbox hg; have hcz4_0 := qz w3 BK311.out; have hfz4_0 := blk_frozen BK311.out 0))
 go_loopg [10] k (fun kq v10 w' => ∃ (x10_1 : Int), v10 = .int .i64 x10_1 ∧ Aside0 (spec_laFree.l0 kq a1 l0_0 (l0_0.length : Int) x10_1 = some r) ∧ Aside0 (kq ≤ k) ∧ Aside0 (w'.heap[gb311]? = some (.cells #[(.slice A0_0 l0_0.length c0_0)] 26 (0, 0))) ∧ Aside0 (Below w.heap.size w w'))
 case atStart => exact ⟨(0), qe, H', ⟨Nat.le_refl _⟩, ⟨qb BK311.out⟩, ⟨qB⟩⟩
 case round =>
  clear H'
  try clear c1
  try clear p2
  try clear hcz4_0
  try clear hfz4_0
  obtain ⟨x10_1, rfl, HA, HK1, BK311, HB⟩ := hrel
  cases gk with
  | zero => exact absurd HA.out (by simp [spec_laFree.l0])
  | succ k1 =>
   have H := HA.out
   clear HA
   simp only [spec_laFree.l0] at H
   by_cases c5 : x10_1 < (l0_0.length : Int)
   ·rw [if_pos c5] at H
    have c5b0 := decide_eq_true c5
    clear c5
    by_cases c6 : 0 ≤ x10_1
    rotate_left
    ·rw [if_neg c6] at H
     exact absurd H (by simp)
    rw [if_pos c6] at H
    have c6b0 := decide_eq_true c6
    clear c6
    by_cases c7 : x10_1 < (l0_0.length : Int)
    rotate_left
    ·rw [if_neg c7] at H
     exact absurd H (by simp)
    rw [if_pos c7] at H
    have c7b0 := decide_eq_true c7
    clear c7
    replace H := Option.bind_eq_some_iff.mp H
    obtain ⟨t313, A80, H⟩ := H
    replace H : (if t313 = true then (if (Go.bits .and .i64 (rd l0_0 x10_1) a1) = 0 then (spec_laFree.l0 k1 a1 l0_0 (l0_0.length : Int) (wrap64 (x10_1 + 1))) else (some false)) else (spec_laFree.l0 k1 a1 l0_0 (l0_0.length : Int) (wrap64 (x10_1 + 1)))) = some r := H
    have A8 := am A80
    clear A80
    by_cases c9 : t313 = true
    ·subst c9
     have H1 : (if (Go.bits .and .i64 (rd l0_0 x10_1) a1) = 0 then (spec_laFree.l0 k1 a1 l0_0 (l0_0.length : Int) (wrap64 (x10_1 + 1))) else (some false)) = some r := by rw [if_pos rfl] at H; exact H
     clear H
     have H := H1
     clear H1
     by_cases c10 : (Go.bits .and .i64 (rd l0_0 x10_1) a1) = 0
     ·rw [if_pos c10] at H
      have c10b0 : ((Go.bits .and .i64 (rd l0_0 x10_1) a1) == 0) = true := beq_iff_eq.mpr c10
      have c10b1 : ((Go.bits .and .i64 (rd l0_0 x10_1) a1) != 0) = false := bne_eq_false_iff_eq.mpr c10
      clear c10
      have H' := am H
      clear H
      have p312 : 0 ≤ (x10_1 : Int) := qd
      have q312 : x10_1 < (l0_0.length : Int) := qd
      obtain ⟨ad312, e312, hx312_0⟩ := Kd.at_int HR0_0.out x10_1 p312 q312
      cases e312
      replace hx312_0 := (HB.out.cell (World.block_lt_of_cell? w _ hx312_0)).trans hx312_0
      replace p312 := eq_true p312
      replace q312 := eq_true q312
      go_wp2_with (first | ((with_reducible refine gate_callee (f := 93) rfl ?_); refine gL (some 17) Try.func93 #[.int .i64 a1, .int .i64 x10_1] ?_; (with_reducible refine (spec_poIn.calls a1 x10_1 true _ A8.out).mono ?_); rintro e w' ⟨rfl, ⟨nd, rfl⟩⟩; refine ⟨_, rfl, ?_⟩))
      go_roundg k1
      case measure => have := HK1.out; omega
      case rel => exact ⟨(wrap64 (x10_1 + 1)), qe, H', ⟨by have := HK1.out; omega⟩, ⟨qb BK311.out⟩, ⟨qB⟩⟩
     ·rw [if_neg c10] at H
      have c10b0 : ((Go.bits .and .i64 (rd l0_0 x10_1) a1) == 0) = false := beq_eq_false_iff_ne.mpr c10
      have c10b1 : ((Go.bits .and .i64 (rd l0_0 x10_1) a1) != 0) = true := bne_iff_ne.mpr c10
      obtain rfl := Option.some.inj H
      have p312 : 0 ≤ (x10_1 : Int) := qd
      have q312 : x10_1 < (l0_0.length : Int) := qd
      obtain ⟨ad312, e312, hx312_0⟩ := Kd.at_int HR0_0.out x10_1 p312 q312
      cases e312
      replace hx312_0 := (HB.out.cell (World.block_lt_of_cell? w _ hx312_0)).trans hx312_0
      replace p312 := eq_true p312
      replace q312 := eq_true q312
      go_wp2_with (first | ((with_reducible refine gate_callee (f := 93) rfl ?_); refine gL (some 17) Try.func93 #[.int .i64 a1, .int .i64 x10_1] ?_; (with_reducible refine (spec_poIn.calls a1 x10_1 true _ A8.out).mono ?_); rintro e w' ⟨rfl, ⟨nd, rfl⟩⟩; refine ⟨_, rfl, ?_⟩))
      go_ret
      exact ⟨qr, qB⟩
    ·replace c9 := Bool.eq_false_iff.mpr c9
     subst c9
     have H1 : (spec_laFree.l0 k1 a1 l0_0 (l0_0.length : Int) (wrap64 (x10_1 + 1))) = some r := by rw [if_neg (show ¬ (false = true) by decide)] at H; exact H
     clear H
     have H := H1
     clear H1
     have H' := am H
     clear H
     have p312 : 0 ≤ (x10_1 : Int) := qd
     have q312 : x10_1 < (l0_0.length : Int) := qd
     obtain ⟨ad312, e312, hx312_0⟩ := Kd.at_int HR0_0.out x10_1 p312 q312
     cases e312
     replace hx312_0 := (HB.out.cell (World.block_lt_of_cell? w _ hx312_0)).trans hx312_0
     replace p312 := eq_true p312
     replace q312 := eq_true q312
     go_wp2_with (first | ((with_reducible refine gate_callee (f := 93) rfl ?_); refine gL (some 17) Try.func93 #[.int .i64 a1, .int .i64 x10_1] ?_; (with_reducible refine (spec_poIn.calls a1 x10_1 false _ A8.out).mono ?_); rintro e w' ⟨rfl, ⟨nd, rfl⟩⟩; refine ⟨_, rfl, ?_⟩))
     go_roundg k1
     case measure => have := HK1.out; omega
     case rel => exact ⟨(wrap64 (x10_1 + 1)), qe, H', ⟨by have := HK1.out; omega⟩, ⟨qb BK311.out⟩, ⟨qB⟩⟩
   ·rw [if_neg c5] at H
    have c5b0 := decide_eq_false c5
    clear c5
    obtain rfl := Option.some.inj H
    go_wp2
    go_ret
    exact ⟨qr, qB⟩
mutual
def spec_liIs.j0 : Nat → List Int → Bool → List Int → Option (Bool)
 | 0, _, _, _ => none
 | k + 1, x1, x21, x1127000 => if x21 = true then (some false) else (spec_liIs.l0 k 0 x1 (x1.length : Int) 0 x1127000)
def spec_liIs.l0 : Nat → Int → List Int → Int → Int → List Int → Option (Bool)
 | 0, _, _, _, _, _ => none
 | k + 1, x5, x22, x23, x24, x1127000 => if x24 < x23 then (if 0 ≤ x24 then (if x24 < (x22.length : Int) then ((spec_poIn.f x5 (rd x22 x24)).bind fun t1129 => (if t1129 = true then (some false) else (if 0 ≤ (rd x22 x24) then (if (rd x22 x24) < (x1127000.length : Int) then (if (Go.bits .andNot .i64 (rd x1127000 (rd x22 x24)) x5) = 0 then (spec_liIs.l0 k (Go.bits .or .i64 x5 (shl .i64 1 (rd x22 x24))) x22 x23 (wrap64 (x24 + 1)) x1127000) else (some false)) else (none)) else (none)))) else (none)) else (none)) else (some true)
end
def spec_liIs.f (k : Nat) (l0_0 : List Int) (l1 : List Int) : Option (Bool) := if (l1.length : Int) = (l0_0.length : Int) then ((spec_l1All.f k l1 0 (wrap64 ((l1.length : Int) - 1))).bind fun t1127 => (spec_liIs.j0 k l1 (!t1127) l0_0)) else (spec_liIs.j0 k l1 true l0_0)
theorem spec_liIs.mono_l : ∀ k, (∀ y0 y1 y2, LeO (spec_liIs.j0 k y0 y1 y2) (spec_liIs.j0 (k + 1) y0 y1 y2)) ∧ (∀ y0 y1 y2 y3 y4, LeO (spec_liIs.l0 k y0 y1 y2 y3 y4) (spec_liIs.l0 (k + 1) y0 y1 y2 y3 y4))
 | 0 => ⟨fun _ _ _ r h => by simp [spec_liIs.j0] at h, fun _ _ _ _ _ r h => by simp [spec_liIs.l0] at h⟩
 | k + 1 => by
  obtain ⟨ih0, ih1⟩ := spec_liIs.mono_l k
  refine ⟨?_, ?_⟩
  ·intro y0 y1 y2
   unfold spec_liIs.j0
   repeat' first
   | (with_reducible exact spec_l1All.mono _ _ _ _)
   | (with_reducible exact LeO.refl _)
   | (with_reducible exact LeO.none _)
   | (with_reducible refine LeO.ite ?_ ?_)
   | (with_reducible refine LeO.bind ?_ (fun _ => ?_))
   | exact ih0 _ _ _
   | exact ih1 _ _ _ _ _
   | exact spec_l1All.mono _ _ _ _
   | exact LeO.none _
   | refine LeO.ite ?_ ?_
   | refine LeO.bind ?_ (fun _ => ?_)
  ·intro y0 y1 y2 y3 y4
   unfold spec_liIs.l0
   repeat' first
   | (with_reducible exact spec_l1All.mono _ _ _ _)
   | (with_reducible exact LeO.refl _)
   | (with_reducible exact LeO.none _)
   | (with_reducible refine LeO.ite ?_ ?_)
   | (with_reducible refine LeO.bind ?_ (fun _ => ?_))
   | exact ih0 _ _ _
   | exact ih1 _ _ _ _ _
   | exact spec_l1All.mono _ _ _ _
   | exact LeO.none _
   | refine LeO.ite ?_ ?_
   | refine LeO.bind ?_ (fun _ => ?_)
theorem spec_liIs.mono : ∀ a0 a1 k, LeO (spec_liIs.f k a0 a1) (spec_liIs.f (k + 1) a0 a1) := by
 intro a0 a1 k
 obtain ⟨ih0, ih1⟩ := spec_liIs.mono_l k
 unfold spec_liIs.f
 repeat' first
  | (with_reducible exact spec_l1All.mono _ _ _ _)
  | (with_reducible exact LeO.refl _)
  | (with_reducible exact LeO.none _)
  | (with_reducible refine LeO.ite ?_ ?_)
  | (with_reducible refine LeO.bind ?_ (fun _ => ?_))
  | exact ih0 _ _ _
  | exact ih1 _ _ _ _ _
  | exact spec_l1All.mono _ _ _ _
  | exact LeO.none _
  | refine LeO.ite ?_ ?_
  | refine LeO.bind ?_ (fun _ => ?_)
set_option maxHeartbeats 8000000 in
set_option maxRecDepth 100000 in
theorem spec_liIs.calls (k : Nat) (A0_0 : Option Addr) (c0_0 : Nat) (l0_0 : List Int) (A1 : Option Addr) (c1 : Nat) (l1 : List Int) (r : Bool) (w : World) (hr0_0 : Kd.C (Kd.int .i64) w A0_0 l0_0.length l0_0) (hc0_0 : l0_0.length ≤ c0_0) (hr1 : Kd.C (Kd.int .i64) w A1 l1.length l1) (hc1 : l1.length ≤ c1) (h : spec_liIs.f k l0_0 l1 = some r) :
 Calls Try.prog 123 #[.agg #[.slice A0_0 l0_0.length c0_0], .slice A1 l1.length c1] w fun e w' => e = .returned (.bool r) ∧ Below w.heap.size w w' := by
 have hu26 := Try.underlying26
 have HR0_0 := am hr0_0
 have HC0_0 := am hc0_0
 clear hr0_0 hc0_0
 have HR1 := am hr1
 have HC1 := am hc1
 clear hr1 hc1
 have HB := am (Below.refl w.heap.size w)
 have H : (if (l1.length : Int) = (l0_0.length : Int) then ((spec_l1All.f k l1 0 (wrap64 ((l1.length : Int) - 1))).bind fun t1127 => (spec_liIs.j0 k l1 (!t1127) l0_0)) else (spec_liIs.j0 k l1 true l0_0)) = some r := h
 clear h
 have HC3 := am H
 clear H
 go_enter Try.func123, Try.ntmps123
 go_upto_region 1 with (first | ((with_reducible refine gate_dst (N := 2) rfl ?_); refine qx (N := 2) (cs := #[.slice A0_0 l0_0.length c0_0]) (t := 26) ?_; intro gb1126 hg w4 hbox hb; have n0_ := am (below_step qB hb); have BK1126 := am (hbox); have GW1126 := am (qg w hg); have GE1126 := am (qg w hg); clear HB; have HB := n0_; clear n0_; clear hb hbox hg))
 (try simp only [Act.put, List.setIfInBounds_toArray, List.set_cons_zero, List.set_cons_succ])
 go_cut [21] (fun v21 wc => ∃ (kq : Nat) (x21_2 : Bool), v21 = .bool x21_2 ∧ Aside0 (spec_liIs.j0 kq l1 x21_2 l0_0 = some r) ∧ Aside0 (kq ≤ k) ∧ Aside0 (wc.heap[gb1126]? = some (.cells #[(.slice A0_0 l0_0.length c0_0)] 26 (0, 0))) ∧ Aside0 (Below w.heap.size w wc))
 case first =>
  have H := HC3.out
  clear HC3
  by_cases c5 : (l1.length : Int) = (l0_0.length : Int)
  ·rw [if_pos c5] at H
   have c5b0 : ((l1.length : Int) == (l0_0.length : Int)) = true := beq_iff_eq.mpr c5
   have c5b1 : ((l1.length : Int) != (l0_0.length : Int)) = false := bne_eq_false_iff_eq.mpr c5
   have c5b2 : (l1.length == l0_0.length) = true := by first | simpa using c5 | (simp at c5 ⊢; omega)
   clear c5
   (first | rw [c5b0] | (simp only [i64_w, i32_w]; rw [c5b0]) | skip)
   replace H := Option.bind_eq_some_iff.mp H
   obtain ⟨t1127, A60, H⟩ := H
   replace H : (spec_liIs.j0 k l1 (!t1127) l0_0) = some r := H
   have A6 := am A60
   clear A60
   have H' := am H
   clear H
   have hcz7_0 := qz w4 BK1126.out
   have hfz7_0 := blk_frozen BK1126.out 0
   go_wp2_with (first | (go_at_call 131; (with_reducible refine (spec_l1All.calls k _ _ l1 0 (wrap64 ((l1.length : Int) - 1)) t1127 _ ?side1 ?side2 A6.out).mono ?_); (case side1 => exact qC (Kd.C_below HR1.out HB.out)); (case side2 => exact HC1.out); rintro e w' ⟨rfl, ⟨nd, rfl⟩⟩))
   go_meet
   case rel => exact ⟨_, (!t1127), qe, H', ⟨by first | omega | exact Nat.le_refl _⟩, ⟨qb BK1126.out⟩, ⟨qB⟩⟩
  ·rw [if_neg c5] at H
   have c5b0 : ((l1.length : Int) == (l0_0.length : Int)) = false := beq_eq_false_iff_ne.mpr c5
   have c5b1 : ((l1.length : Int) != (l0_0.length : Int)) = true := bne_iff_ne.mpr c5
   have c5b2 : (l1.length == l0_0.length) = false := by first | simpa using c5 | (simp at c5 ⊢; omega)
   (first | rw [c5b0] | (simp only [i64_w, i32_w]; rw [c5b0]) | skip)
   have H' := am H
   clear H
   have hcz8_0 := qz w4 BK1126.out
   have hfz8_0 := blk_frozen BK1126.out 0
   go_wp2
   go_meet
   case rel => exact ⟨_, (true), qe, H', ⟨by first | omega | exact Nat.le_refl _⟩, ⟨qb BK1126.out⟩, ⟨qB⟩⟩
 case rest =>
  clear HC3
  try clear c1
  try clear p2
  try clear c5
  try clear c5b0
  try clear c5b1
  try clear c5b2
  try clear p6
  try clear hcz7_0
  try clear hcz8_0
  try clear hfz7_0
  try clear hfz8_0
  obtain ⟨kq, x21_2, rfl, HA, HJ2, BK1126, HB⟩ := hcut
  cases kq with
  | zero => exact absurd HA.out (by simp [spec_liIs.j0])
  | succ kj2 =>
   have H := HA.out
   clear HA
   simp only [spec_liIs.j0] at H
   by_cases c9 : x21_2 = true
   ·subst c9
    have H1 : (some false) = some r := by rw [if_pos rfl] at H; exact H
    clear H
    have H := H1
    clear H1
    obtain rfl := Option.some.inj H
    go_wp2
    go_ret
    exact ⟨qr, qB⟩
   ·replace c9 := Bool.eq_false_iff.mpr c9
    subst c9
    have H1 : (spec_liIs.l0 kj2 0 l1 (l1.length : Int) 0 l0_0) = some r := by rw [if_neg (show ¬ (false = true) by decide)] at H; exact H
    clear H
    have H := H1
    clear H1
    have H' := am H
    clear H
    go_wp2
    go_loopg [5, 24] kj2 (fun kq v5 v24 w' => ∃ (x5_2 : Int) (x24_2 : Int), v5 = .int .i64 x5_2 ∧ v24 = .int .i64 x24_2 ∧ Aside0 (spec_liIs.l0 kq x5_2 l1 (l1.length : Int) x24_2 l0_0 = some r) ∧ Aside0 (kq ≤ kj2) ∧ Aside0 (w'.heap[gb1126]? = some (.cells #[(.slice A0_0 l0_0.length c0_0)] 26 (0, 0))) ∧ Aside0 (Below w.heap.size w w'))
    case atStart => exact ⟨(0), (0), qe, qe, H', ⟨Nat.le_refl _⟩, ⟨qb BK1126.out⟩, ⟨qB⟩⟩
    case round =>
     clear H'
     try clear c1
     try clear p2
     try clear c5
     try clear c5b0
     try clear c5b1
     try clear c5b2
     try clear p6
     try clear c9
     try clear hcz7_0
     try clear hcz8_0
     try clear hfz7_0
     try clear hfz8_0
     try clear p2
     try clear p6
     obtain ⟨x5_2, x24_2, rfl, rfl, HA, HK2, BK1126, HB⟩ := hrel
     cases gk with
     | zero => exact absurd HA.out (by simp [spec_liIs.l0])
     | succ k2 =>
      have H := HA.out
      clear HA
      simp only [spec_liIs.l0] at H
      by_cases c10 : x24_2 < (l1.length : Int)
      ·rw [if_pos c10] at H
       have c10b0 := decide_eq_true c10
       clear c10
       by_cases c11 : 0 ≤ x24_2
       rotate_left
       ·rw [if_neg c11] at H
        exact absurd H (by simp)
       rw [if_pos c11] at H
       have c11b0 := decide_eq_true c11
       clear c11
       by_cases c12 : x24_2 < (l1.length : Int)
       rotate_left
       ·rw [if_neg c12] at H
        exact absurd H (by simp)
       rw [if_pos c12] at H
       have c12b0 := decide_eq_true c12
       clear c12
       replace H := Option.bind_eq_some_iff.mp H
       obtain ⟨t1129, A130, H⟩ := H
       replace H : (if t1129 = true then (some false) else (if 0 ≤ (rd l1 x24_2) then (if (rd l1 x24_2) < (l0_0.length : Int) then (if (Go.bits .andNot .i64 (rd l0_0 (rd l1 x24_2)) x5_2) = 0 then (spec_liIs.l0 k2 (Go.bits .or .i64 x5_2 (shl .i64 1 (rd l1 x24_2))) l1 (l1.length : Int) (wrap64 (x24_2 + 1)) l0_0) else (some false)) else (none)) else (none))) = some r := H
       have A13 := am A130
       clear A130
       by_cases c14 : t1129 = true
       ·subst c14
        have H1 : (some false) = some r := by rw [if_pos rfl] at H; exact H
        clear H
        have H := H1
        clear H1
        obtain rfl := Option.some.inj H
        have p1128 : 0 ≤ (x24_2 : Int) := qd
        have q1128 : x24_2 < (l1.length : Int) := qd
        obtain ⟨ad1128, e1128, hx1128_0⟩ := Kd.at_int HR1.out x24_2 p1128 q1128
        cases e1128
        replace hx1128_0 := (HB.out.cell (World.block_lt_of_cell? w _ hx1128_0)).trans hx1128_0
        replace p1128 := eq_true p1128
        replace q1128 := eq_true q1128
        go_wp2_with (first | ((with_reducible refine gate_callee (f := 93) rfl ?_); refine gL (some 30) Try.func93 #[.int .i64 x5_2, .int .i64 (rd l1 x24_2)] ?_; (with_reducible refine (spec_poIn.calls x5_2 (rd l1 x24_2) true _ A13.out).mono ?_); rintro e w' ⟨rfl, ⟨nd, rfl⟩⟩; refine ⟨_, rfl, ?_⟩))
        go_ret
        exact ⟨qr, qB⟩
       ·replace c14 := Bool.eq_false_iff.mpr c14
        subst c14
        have H1 : (if 0 ≤ (rd l1 x24_2) then (if (rd l1 x24_2) < (l0_0.length : Int) then (if (Go.bits .andNot .i64 (rd l0_0 (rd l1 x24_2)) x5_2) = 0 then (spec_liIs.l0 k2 (Go.bits .or .i64 x5_2 (shl .i64 1 (rd l1 x24_2))) l1 (l1.length : Int) (wrap64 (x24_2 + 1)) l0_0) else (some false)) else (none)) else (none)) = some r := by rw [if_neg (show ¬ (false = true) by decide)] at H; exact H
        clear H
        have H := H1
        clear H1
        by_cases c15 : 0 ≤ (rd l1 x24_2)
        rotate_left
        ·rw [if_neg c15] at H
         exact absurd H (by simp)
        rw [if_pos c15] at H
        have c15b0 := decide_eq_true c15
        clear c15
        by_cases c16 : (rd l1 x24_2) < (l0_0.length : Int)
        rotate_left
        ·rw [if_neg c16] at H
         exact absurd H (by simp)
        rw [if_pos c16] at H
        have c16b0 := decide_eq_true c16
        clear c16
        by_cases c17 : (Go.bits .andNot .i64 (rd l0_0 (rd l1 x24_2)) x5_2) = 0
        ·rw [if_pos c17] at H
         have c17b0 : ((Go.bits .andNot .i64 (rd l0_0 (rd l1 x24_2)) x5_2) == 0) = true := beq_iff_eq.mpr c17
         have c17b1 : ((Go.bits .andNot .i64 (rd l0_0 (rd l1 x24_2)) x5_2) != 0) = false := bne_eq_false_iff_eq.mpr c17
         clear c17
         have c18b0 := eq_true (qd : 0 ≤ (rd l1 x24_2))
         obtain ⟨ji19, hji19⟩ : ∃ j_ : Int, (shl .i64 1 (rd l1 x24_2)) = j_ := ⟨_, rfl⟩
         replace H : (spec_liIs.l0 k2 (Go.bits .or .i64 x5_2 (ji19)) l1 (l1.length : Int) (wrap64 (x24_2 + 1)) l0_0) = some r := by first | (rw [hji19] at H; exact H) | (simp only [hji19] at H ⊢; exact H)
         (try rw [hji19] at A13)
         have hji19_ : (IntKind.i64.wrap (1 * 2 ^ min (rd l1 x24_2).toNat 64)) = ji19 := hji19
         have hji19z : (rd l1 x24_2) ≤ 64 → (IntKind.i64.wrap (1 * 2 ^ (rd l1 x24_2).toNat)) = ji19 := shl_small hji19
         have hji19u : (IntKind.i64.wrap (2 ^ min (rd l1 x24_2).toNat 64)) = ji19 := by have h_ := hji19_; rw [Int.one_mul] at h_; exact h_
         have hji19v : (rd l1 x24_2) ≤ 64 → (IntKind.i64.wrap (2 ^ (rd l1 x24_2).toNat)) = ji19 := fun hle_ => by have h_ := hji19z hle_; rw [Int.one_mul] at h_; exact h_
         have hji19y : (wrap64 (1 * 2 ^ min (rd l1 x24_2).toNat 64)) = ji19 := (i64_w _).symm.trans hji19_
         have hji19x : (rd l1 x24_2) ≤ 64 → (wrap64 (1 * 2 ^ (rd l1 x24_2).toNat)) = ji19 := fun h_ => (i64_w _).symm.trans (hji19z h_)
         have H' := am H
         clear H
         have p1128 : 0 ≤ (x24_2 : Int) := qd
         have q1128 : x24_2 < (l1.length : Int) := qd
         obtain ⟨ad1128, e1128, hx1128_0⟩ := Kd.at_int HR1.out x24_2 p1128 q1128
         cases e1128
         replace hx1128_0 := (HB.out.cell (World.block_lt_of_cell? w _ hx1128_0)).trans hx1128_0
         replace p1128 := eq_true p1128
         replace q1128 := eq_true q1128
         go_wp2_with (first | ((with_reducible refine gate_callee (f := 93) rfl ?_); refine gL (some 30) Try.func93 #[.int .i64 x5_2, .int .i64 (rd l1 x24_2)] ?_; (with_reducible refine (spec_poIn.calls x5_2 (rd l1 x24_2) false _ A13.out).mono ?_); rintro e w' ⟨rfl, ⟨nd, rfl⟩⟩; refine ⟨_, rfl, ?_⟩; have hcz20_0 := qz wr BK1126.out; have hfz20_0 := blk_frozen BK1126.out 0; have p1130 : 0 ≤ ((rd l1 x24_2) : Int) := qd; have q1130 : (rd l1 x24_2) < (l0_0.length : Int) := qd; obtain ⟨ad1130, e1130, hx1130_0⟩ := Kd.at_int HR0_0.out (rd l1 x24_2) p1130 q1130; cases e1130; replace hx1130_0 := (HB.out.cell (World.block_lt_of_cell? w _ hx1130_0)).trans hx1130_0; replace p1130 := eq_true p1130; replace q1130 := eq_true q1130))
         go_roundg k2
         case measure => have := HJ2.out; have := HK2.out; omega
         case rel => exact ⟨(Go.bits .or .i64 x5_2 (ji19)), (wrap64 (x24_2 + 1)), (by first | rfl | (simp; done) | (simp only [← hji19] <;> (first | rfl | simp)) | (simp [*]; done)), qe, H', ⟨by have := HJ2.out; have := HK2.out; omega⟩, ⟨qb BK1126.out⟩, ⟨qB⟩⟩
        ·rw [if_neg c17] at H
         have c17b0 : ((Go.bits .andNot .i64 (rd l0_0 (rd l1 x24_2)) x5_2) == 0) = false := beq_eq_false_iff_ne.mpr c17
         have c17b1 : ((Go.bits .andNot .i64 (rd l0_0 (rd l1 x24_2)) x5_2) != 0) = true := bne_iff_ne.mpr c17
         obtain rfl := Option.some.inj H
         have p1128 : 0 ≤ (x24_2 : Int) := qd
         have q1128 : x24_2 < (l1.length : Int) := qd
         obtain ⟨ad1128, e1128, hx1128_0⟩ := Kd.at_int HR1.out x24_2 p1128 q1128
         cases e1128
         replace hx1128_0 := (HB.out.cell (World.block_lt_of_cell? w _ hx1128_0)).trans hx1128_0
         replace p1128 := eq_true p1128
         replace q1128 := eq_true q1128
         go_wp2_with (first | ((with_reducible refine gate_callee (f := 93) rfl ?_); refine gL (some 30) Try.func93 #[.int .i64 x5_2, .int .i64 (rd l1 x24_2)] ?_; (with_reducible refine (spec_poIn.calls x5_2 (rd l1 x24_2) false _ A13.out).mono ?_); rintro e w' ⟨rfl, ⟨nd, rfl⟩⟩; refine ⟨_, rfl, ?_⟩; have hcz21_0 := qz wr BK1126.out; have hfz21_0 := blk_frozen BK1126.out 0; have p1130 : 0 ≤ ((rd l1 x24_2) : Int) := qd; have q1130 : (rd l1 x24_2) < (l0_0.length : Int) := qd; obtain ⟨ad1130, e1130, hx1130_0⟩ := Kd.at_int HR0_0.out (rd l1 x24_2) p1130 q1130; cases e1130; replace hx1130_0 := (HB.out.cell (World.block_lt_of_cell? w _ hx1130_0)).trans hx1130_0; replace p1130 := eq_true p1130; replace q1130 := eq_true q1130))
         go_ret
         exact ⟨qr, qB⟩
      ·rw [if_neg c10] at H
       have c10b0 := decide_eq_false c10
       clear c10
       obtain rfl := Option.some.inj H
       go_wp2
       go_ret
       exact ⟨qr, qB⟩
def spec_poIdeal.l0 : Nat → Int → List Int → Int → Int → Option (Bool)
 | 0, _, _, _, _ => none
 | k + 1, x1, x8, x9, x10 => if x10 < x9 then (if 0 ≤ x10 then (if x10 < (x8.length : Int) then ((spec_poIn.f x1 x10).bind fun t305 => (if t305 = true then (if (Go.bits .andNot .i64 (rd x8 x10) x1) = 0 then (spec_poIdeal.l0 k x1 x8 x9 (wrap64 (x10 + 1))) else (some false)) else (spec_poIdeal.l0 k x1 x8 x9 (wrap64 (x10 + 1))))) else (none)) else (none)) else (some true)
def spec_poIdeal.f (k : Nat) (l0_0 : List Int) (a1 : Int) : Option (Bool) := spec_poIdeal.l0 k a1 l0_0 (l0_0.length : Int) 0
theorem spec_poIdeal.mono_l : ∀ k, (∀ y0 y1 y2 y3, LeO (spec_poIdeal.l0 k y0 y1 y2 y3) (spec_poIdeal.l0 (k + 1) y0 y1 y2 y3))
 | 0 => fun _ _ _ _ r h => by simp [spec_poIdeal.l0] at h
 | k + 1 => by
  have ih0 := spec_poIdeal.mono_l k
  ·intro y0 y1 y2 y3
   unfold spec_poIdeal.l0
   repeat' first
   | (with_reducible exact LeO.refl _)
   | (with_reducible exact LeO.none _)
   | (with_reducible refine LeO.ite ?_ ?_)
   | (with_reducible refine LeO.bind ?_ (fun _ => ?_))
   | exact ih0 _ _ _ _
   | exact LeO.none _
   | refine LeO.ite ?_ ?_
   | refine LeO.bind ?_ (fun _ => ?_)
theorem spec_poIdeal.mono : ∀ a0 a1 k, LeO (spec_poIdeal.f k a0 a1) (spec_poIdeal.f (k + 1) a0 a1) := by
 intro a0 a1 k
 have ih0 := spec_poIdeal.mono_l k
 unfold spec_poIdeal.f
 repeat' first
  | (with_reducible exact LeO.refl _)
  | (with_reducible exact LeO.none _)
  | (with_reducible refine LeO.ite ?_ ?_)
  | (with_reducible refine LeO.bind ?_ (fun _ => ?_))
  | exact ih0 _ _ _ _
  | exact LeO.none _
  | refine LeO.ite ?_ ?_
  | refine LeO.bind ?_ (fun _ => ?_)
set_option maxHeartbeats 8000000 in
set_option maxRecDepth 100000 in
theorem spec_poIdeal.calls (k : Nat) (A0_0 : Option Addr) (c0_0 : Nat) (l0_0 : List Int) (a1 : Int) (r : Bool) (w : World) (hr0_0 : Kd.C (Kd.int .i64) w A0_0 l0_0.length l0_0) (hc0_0 : l0_0.length ≤ c0_0) (h : spec_poIdeal.f k l0_0 a1 = some r) :
 Calls Try.prog 92 #[.agg #[.slice A0_0 l0_0.length c0_0], .int .i64 a1] w fun e w' => e = .returned (.bool r) ∧ Below w.heap.size w w' := by
 have hu26 := Try.underlying26
 have HR0_0 := am hr0_0
 have HC0_0 := am hc0_0
 clear hr0_0 hc0_0
 have HB := am (Below.refl w.heap.size w)
 have H : (spec_poIdeal.l0 k a1 l0_0 (l0_0.length : Int) 0) = some r := h
 clear h
 have H' := am H
 clear H
 go_enter Try.func92, Try.ntmps92
 go_wp2_with (first | ((with_reducible refine gate_dst (N := 2) rfl ?_); refine qx (N := 2) (cs := #[.slice A0_0 l0_0.length c0_0]) (t := 26) ?_; intro gb303 hg w3 hbox hb; have n0_ := am (below_step qB hb); have BK303 := am (hbox); have GW303 := am (qg w hg); have GE303 := am (qg w hg); clear HB; have HB := n0_; clear n0_; clear hb hbox hg; have hcz4_0 := qz w3 BK303.out; have hfz4_0 := blk_frozen BK303.out 0))
 go_loopg [10] k (fun kq v10 w' => ∃ (x10_1 : Int), v10 = .int .i64 x10_1 ∧ Aside0 (spec_poIdeal.l0 kq a1 l0_0 (l0_0.length : Int) x10_1 = some r) ∧ Aside0 (kq ≤ k) ∧ Aside0 (w'.heap[gb303]? = some (.cells #[(.slice A0_0 l0_0.length c0_0)] 26 (0, 0))) ∧ Aside0 (Below w.heap.size w w'))
 case atStart => exact ⟨(0), qe, H', ⟨Nat.le_refl _⟩, ⟨qb BK303.out⟩, ⟨qB⟩⟩
 case round =>
  clear H'
  try clear p2
  try clear hcz4_0
  try clear hfz4_0
  obtain ⟨x10_1, rfl, HA, HK1, BK303, HB⟩ := hrel
  cases gk with
  | zero => exact absurd HA.out (by simp [spec_poIdeal.l0])
  | succ k1 =>
   have H := HA.out
   clear HA
   simp only [spec_poIdeal.l0] at H
   by_cases c5 : x10_1 < (l0_0.length : Int)
   ·rw [if_pos c5] at H
    have c5b0 := decide_eq_true c5
    clear c5
    by_cases c6 : 0 ≤ x10_1
    rotate_left
    ·rw [if_neg c6] at H
     exact absurd H (by simp)
    rw [if_pos c6] at H
    have c6b0 := decide_eq_true c6
    clear c6
    by_cases c7 : x10_1 < (l0_0.length : Int)
    rotate_left
    ·rw [if_neg c7] at H
     exact absurd H (by simp)
    rw [if_pos c7] at H
    have c7b0 := decide_eq_true c7
    clear c7
    replace H := Option.bind_eq_some_iff.mp H
    obtain ⟨t305, A80, H⟩ := H
    replace H : (if t305 = true then (if (Go.bits .andNot .i64 (rd l0_0 x10_1) a1) = 0 then (spec_poIdeal.l0 k1 a1 l0_0 (l0_0.length : Int) (wrap64 (x10_1 + 1))) else (some false)) else (spec_poIdeal.l0 k1 a1 l0_0 (l0_0.length : Int) (wrap64 (x10_1 + 1)))) = some r := H
    have A8 := am A80
    clear A80
    by_cases c9 : t305 = true
    ·subst c9
     have H1 : (if (Go.bits .andNot .i64 (rd l0_0 x10_1) a1) = 0 then (spec_poIdeal.l0 k1 a1 l0_0 (l0_0.length : Int) (wrap64 (x10_1 + 1))) else (some false)) = some r := by rw [if_pos rfl] at H; exact H
     clear H
     have H := H1
     clear H1
     by_cases c10 : (Go.bits .andNot .i64 (rd l0_0 x10_1) a1) = 0
     ·rw [if_pos c10] at H
      have c10b0 : ((Go.bits .andNot .i64 (rd l0_0 x10_1) a1) == 0) = true := beq_iff_eq.mpr c10
      have c10b1 : ((Go.bits .andNot .i64 (rd l0_0 x10_1) a1) != 0) = false := bne_eq_false_iff_eq.mpr c10
      clear c10
      have H' := am H
      clear H
      have p304 : 0 ≤ (x10_1 : Int) := qd
      have q304 : x10_1 < (l0_0.length : Int) := qd
      obtain ⟨ad304, e304, hx304_0⟩ := Kd.at_int HR0_0.out x10_1 p304 q304
      cases e304
      replace hx304_0 := (HB.out.cell (World.block_lt_of_cell? w _ hx304_0)).trans hx304_0
      replace p304 := eq_true p304
      replace q304 := eq_true q304
      go_wp2_with (first | ((with_reducible refine gate_callee (f := 93) rfl ?_); refine gL (some 17) Try.func93 #[.int .i64 a1, .int .i64 x10_1] ?_; (with_reducible refine (spec_poIn.calls a1 x10_1 true _ A8.out).mono ?_); rintro e w' ⟨rfl, ⟨nd, rfl⟩⟩; refine ⟨_, rfl, ?_⟩))
      go_roundg k1
      case measure => have := HK1.out; omega
      case rel => exact ⟨(wrap64 (x10_1 + 1)), qe, H', ⟨by have := HK1.out; omega⟩, ⟨qb BK303.out⟩, ⟨qB⟩⟩
     ·rw [if_neg c10] at H
      have c10b0 : ((Go.bits .andNot .i64 (rd l0_0 x10_1) a1) == 0) = false := beq_eq_false_iff_ne.mpr c10
      have c10b1 : ((Go.bits .andNot .i64 (rd l0_0 x10_1) a1) != 0) = true := bne_iff_ne.mpr c10
      obtain rfl := Option.some.inj H
      have p304 : 0 ≤ (x10_1 : Int) := qd
      have q304 : x10_1 < (l0_0.length : Int) := qd
      obtain ⟨ad304, e304, hx304_0⟩ := Kd.at_int HR0_0.out x10_1 p304 q304
      cases e304
      replace hx304_0 := (HB.out.cell (World.block_lt_of_cell? w _ hx304_0)).trans hx304_0
      replace p304 := eq_true p304
      replace q304 := eq_true q304
      go_wp2_with (first | ((with_reducible refine gate_callee (f := 93) rfl ?_); refine gL (some 17) Try.func93 #[.int .i64 a1, .int .i64 x10_1] ?_; (with_reducible refine (spec_poIn.calls a1 x10_1 true _ A8.out).mono ?_); rintro e w' ⟨rfl, ⟨nd, rfl⟩⟩; refine ⟨_, rfl, ?_⟩))
      go_ret
      exact ⟨qr, qB⟩
    ·replace c9 := Bool.eq_false_iff.mpr c9
     subst c9
     have H1 : (spec_poIdeal.l0 k1 a1 l0_0 (l0_0.length : Int) (wrap64 (x10_1 + 1))) = some r := by rw [if_neg (show ¬ (false = true) by decide)] at H; exact H
     clear H
     have H := H1
     clear H1
     have H' := am H
     clear H
     have p304 : 0 ≤ (x10_1 : Int) := qd
     have q304 : x10_1 < (l0_0.length : Int) := qd
     obtain ⟨ad304, e304, hx304_0⟩ := Kd.at_int HR0_0.out x10_1 p304 q304
     cases e304
     replace hx304_0 := (HB.out.cell (World.block_lt_of_cell? w _ hx304_0)).trans hx304_0
     replace p304 := eq_true p304
     replace q304 := eq_true q304
     go_wp2_with (first | ((with_reducible refine gate_callee (f := 93) rfl ?_); refine gL (some 17) Try.func93 #[.int .i64 a1, .int .i64 x10_1] ?_; (with_reducible refine (spec_poIn.calls a1 x10_1 false _ A8.out).mono ?_); rintro e w' ⟨rfl, ⟨nd, rfl⟩⟩; refine ⟨_, rfl, ?_⟩))
     go_roundg k1
     case measure => have := HK1.out; omega
     case rel => exact ⟨(wrap64 (x10_1 + 1)), qe, H', ⟨by have := HK1.out; omega⟩, ⟨qb BK303.out⟩, ⟨qB⟩⟩
   ·rw [if_neg c5] at H
    have c5b0 := decide_eq_false c5
    clear c5
    obtain rfl := Option.some.inj H
    go_wp2
    go_ret
    exact ⟨qr, qB⟩
def spec_poIdeals.l0 : Nat → List Int → Int → List Int → Option (List Int)
 | 0, _, _, _ => none
 | k + 1, x3, x4, x307000 => if x4 < (shl .i64 1 (x307000.length : Int)) then ((spec_poIdeal.f k x307000 x4).bind fun t307 => (if t307 = true then (if x3.length < 17592186044416 then (spec_poIdeals.l0 k (x3 ++ [x4]) (wrap64 (x4 + 1)) x307000) else (none)) else (spec_poIdeals.l0 k x3 (wrap64 (x4 + 1)) x307000))) else (some x3)
def spec_poIdeals.f (k : Nat) (l0_0 : List Int) : Option (List Int) := spec_poIdeals.l0 k ([] : List Int) 0 l0_0
theorem spec_poIdeals.mono_l : ∀ k, (∀ y0 y1 y2, LeO (spec_poIdeals.l0 k y0 y1 y2) (spec_poIdeals.l0 (k + 1) y0 y1 y2))
 | 0 => fun _ _ _ r h => by simp [spec_poIdeals.l0] at h
 | k + 1 => by
  have ih0 := spec_poIdeals.mono_l k
  ·intro y0 y1 y2
   unfold spec_poIdeals.l0
   repeat' first
   | (with_reducible exact spec_poIdeal.mono _ _ _)
   | (with_reducible exact LeO.refl _)
   | (with_reducible exact LeO.none _)
   | (with_reducible refine LeO.ite ?_ ?_)
   | (with_reducible refine LeO.bind ?_ (fun _ => ?_))
   | exact ih0 _ _ _
   | exact spec_poIdeal.mono _ _ _
   | exact LeO.none _
   | refine LeO.ite ?_ ?_
   | refine LeO.bind ?_ (fun _ => ?_)
theorem spec_poIdeals.mono : ∀ a0 k, LeO (spec_poIdeals.f k a0) (spec_poIdeals.f (k + 1) a0) := by
 intro a0 k
 have ih0 := spec_poIdeals.mono_l k
 unfold spec_poIdeals.f
 repeat' first
  | (with_reducible exact spec_poIdeal.mono _ _ _)
  | (with_reducible exact LeO.refl _)
  | (with_reducible exact LeO.none _)
  | (with_reducible refine LeO.ite ?_ ?_)
  | (with_reducible refine LeO.bind ?_ (fun _ => ?_))
  | exact ih0 _ _ _
  | exact spec_poIdeal.mono _ _ _
  | exact LeO.none _
  | refine LeO.ite ?_ ?_
  | refine LeO.bind ?_ (fun _ => ?_)
set_option maxHeartbeats 8000000 in
set_option maxRecDepth 100000 in
theorem spec_poIdeals.calls (k : Nat) (A0_0 : Option Addr) (c0_0 : Nat) (l0_0 : List Int) (r : List Int) (w : World) (hr0_0 : Kd.C (Kd.int .i64) w A0_0 l0_0.length l0_0) (hc0_0 : l0_0.length ≤ c0_0) (h : spec_poIdeals.f k l0_0 = some r) :
 Calls Try.prog 137 #[.agg #[.slice A0_0 l0_0.length c0_0]] w fun e w' => ∃ v0_ : Value, e = .returned (v0_) ∧ Kd.R (Kd.int .i64) 3 w' w.heap.size (fun _ => True) v0_ r ∧ Below w.heap.size w w' := by
 have hu26 := Try.underlying26
 have HR0_0 := am hr0_0
 have HC0_0 := am hc0_0
 clear hr0_0 hc0_0
 have HB := am (Below.refl w.heap.size w)
 have H : (spec_poIdeals.l0 k ([] : List Int) 0 l0_0) = some r := h
 clear h
 have H' := am H
 clear H
 go_enter Try.func137, Try.ntmps137
 go_wp2_with (first | ((with_reducible refine gate_dst (N := 1) rfl ?_); refine qx (N := 1) (cs := #[.slice A0_0 l0_0.length c0_0]) (t := 26) ?_; intro gb306 hg w2 hbox hb; have n0_ := am (below_step qB hb); have BK306 := am (hbox); have GW306 := am (qg w hg); have GE306 := am (qg w hg); clear HB; have HB := n0_; clear n0_; clear hb hbox hg))
 go_loopg [3, 4] k (fun kq v3 v4 w' => ∃ (x3_1 : List Int) (x4_1 : Int), v4 = .int .i64 x4_1 ∧ Aside0 (spec_poIdeals.l0 kq x3_1 x4_1 l0_0 = some r) ∧ Aside0 (kq ≤ k) ∧ Aside0 (Kd.R (Kd.int .i64) 3 w' w.heap.size (fun _ => True) v3 x3_1) ∧ Aside0 (w'.heap[gb306]? = some (.cells #[(.slice A0_0 l0_0.length c0_0)] 26 (0, 0))) ∧ Aside0 (Below w.heap.size w w'))
 case atStart => exact ⟨(([] : List Int)), (0), qe, H', ⟨Nat.le_refl _⟩, ⟨by first | exact Kd.R_nil _ _ _ _ _ | exact Kd.N_nil _ _ _ _ _ | exact Kd.V_nil _ _ _ _ _ | exact Kd.Q_nil _ _ _ _ _ | exact Kd.S_nil _ _ _ _ _⟩, ⟨qb BK306.out⟩, ⟨qB⟩⟩
 case round =>
  clear H'
  try clear c1
  try clear p2
  obtain ⟨x3_1, x4_1, rfl, HA, HK1, HO_3, BK306, HB⟩ := hrel
  cases gk with
  | zero => exact absurd HA.out (by simp [spec_poIdeals.l0])
  | succ k1 =>
   have H := HA.out
   clear HA
   simp only [spec_poIdeals.l0] at H
   obtain ⟨ji3, hji3⟩ : ∃ j_ : Int, (shl .i64 1 (l0_0.length : Int)) = j_ := ⟨_, rfl⟩
   replace H : (if x4_1 < (ji3) then ((spec_poIdeal.f k1 l0_0 x4_1).bind fun t307 => (if t307 = true then (if x3_1.length < 17592186044416 then (spec_poIdeals.l0 k1 (x3_1 ++ [x4_1]) (wrap64 (x4_1 + 1)) l0_0) else (none)) else (spec_poIdeals.l0 k1 x3_1 (wrap64 (x4_1 + 1)) l0_0))) else (some x3_1)) = some r := by first | (rw [hji3] at H; exact H) | (simp only [hji3] at H ⊢; exact H)
   have hji3_ : (IntKind.i64.wrap (1 * 2 ^ min (l0_0.length : Int).toNat 64)) = ji3 := hji3
   have hji3z : (l0_0.length : Int) ≤ 64 → (IntKind.i64.wrap (1 * 2 ^ (l0_0.length : Int).toNat)) = ji3 := shl_small hji3
   have hji3p : (IntKind.i64.wrap (1 * 2 ^ min l0_0.length 64)) = ji3 := hji3_
   have hji3q : (l0_0.length : Int) ≤ 64 → (IntKind.i64.wrap (1 * 2 ^ l0_0.length)) = ji3 := hji3z
   have hji3r : (IntKind.i64.wrap (2 ^ min l0_0.length 64)) = ji3 := by have h_ := hji3p; rw [Int.one_mul] at h_; exact h_
   have hji3s : (l0_0.length : Int) ≤ 64 → (IntKind.i64.wrap (2 ^ l0_0.length)) = ji3 := fun hle_ => by have h_ := hji3q hle_; rw [Int.one_mul] at h_; exact h_
   have hji3u : (IntKind.i64.wrap (2 ^ min (l0_0.length : Int).toNat 64)) = ji3 := by have h_ := hji3_; rw [Int.one_mul] at h_; exact h_
   have hji3v : (l0_0.length : Int) ≤ 64 → (IntKind.i64.wrap (2 ^ (l0_0.length : Int).toNat)) = ji3 := fun hle_ => by have h_ := hji3z hle_; rw [Int.one_mul] at h_; exact h_
   have hji3y : (wrap64 (1 * 2 ^ min (l0_0.length : Int).toNat 64)) = ji3 := (i64_w _).symm.trans hji3_
   have hji3x : (l0_0.length : Int) ≤ 64 → (wrap64 (1 * 2 ^ (l0_0.length : Int).toNat)) = ji3 := fun h_ => (i64_w _).symm.trans (hji3z h_)
   by_cases c4 : x4_1 < (ji3)
   ·rw [if_pos c4] at H
    have c4b0 := decide_eq_true c4
    clear c4
    replace H := Option.bind_eq_some_iff.mp H
    obtain ⟨t307, A50, H⟩ := H
    replace H : (if t307 = true then (if x3_1.length < 17592186044416 then (spec_poIdeals.l0 k1 (x3_1 ++ [x4_1]) (wrap64 (x4_1 + 1)) l0_0) else (none)) else (spec_poIdeals.l0 k1 x3_1 (wrap64 (x4_1 + 1)) l0_0)) = some r := H
    have A5 := am A50
    clear A50
    by_cases c6 : t307 = true
    ·subst c6
     have H1 : (if x3_1.length < 17592186044416 then (spec_poIdeals.l0 k1 (x3_1 ++ [x4_1]) (wrap64 (x4_1 + 1)) l0_0) else (none)) = some r := by rw [if_pos rfl] at H; exact H
     clear H
     have H := H1
     clear H1
     by_cases c7 : x3_1.length < 17592186044416
     rotate_left
     ·rw [if_neg c7] at H
      exact absurd H (by simp)
     rw [if_pos c7] at H
     have LMc7 := am c7
     clear c7
     obtain ⟨y308, hy308⟩ : ∃ y_ : List Int, y_ = (x3_1 ++ [x4_1]) := ⟨_, rfl⟩
     replace H : (spec_poIdeals.l0 k1 y308 (wrap64 (x4_1 + 1)) l0_0) = some r := by first | (rw [hy308]; with_reducible exact H) | (have H2_ := (Option.bind_some _ _).symm.trans H; rw [hy308]; with_reducible exact H2_) | (have H2_ := (Option.bind_some _ _).symm.trans H; with_reducible exact H2_) | with_reducible exact H | (rw [hy308]; exact H) | exact H
     have Ny308 := am hy308
     clear hy308
     have H' := am H
     clear H
     have hcz8_0 := qz wr BK306.out
     have hfz8_0 := blk_frozen BK306.out 0
     go_wp2_with (first | ((with_reducible refine gate_callee (f := 92) rfl ?_); refine gL (some 15) Try.func92 #[.agg #[.slice A0_0 l0_0.length c0_0], .int .i64 x4_1] ?_; (with_reducible refine (spec_poIdeal.calls k1 _ _ l0_0 x4_1 true _ ?side1 ?side2 A5.out).mono ?_); (case side1 => exact qC (Kd.C_below HR0_0.out HB.out)); (case side2 => exact HC0_0.out); rintro e w9 ⟨rfl, hb⟩; refine ⟨_, rfl, ?_⟩; replace HO_3 := am (Kd.R_below (qR HO_3.out) hb); replace BK306 := am (blk_below (g := gb306) (o := .cells #[.slice A0_0 l0_0.length c0_0] 26 (0, 0)) (qb BK306.out) hb); replace HB := am (below_step qB hb); (try clear hb); (try clear hb2); (try clear hk); (try clear hi)) | ((with_reducible refine gate_builtin (b := .append) (xs := #[.tmp 16, .tmp 18]) rfl ?_); at_builtin; refine Kd.R_append (Kd.int .i64) (w0 := w) w.heap.size rfl (.tmp 16) (.tmp 18) 24 3 (.int .i64 0) 8 rfl Try.underlying24 info3 rfl (by decide) (by omega) u3 x3_1 x4_1 [.int .i64 x4_1] (fun _ => True) (fun _ => False) rfl rfl ?aP (fun _ hk => hk.elim) ?aF ?aO ?aB ?aS ?aL ?_; (case aP => exact rfl); (case aB => exact qB); (case aF => exact (fun _ _ => trivial)); (case aO => exact (qR HO_3.out)); (case aS => exact (below_size qB)); (case aL => have := LMc7.out; omega); intro v309 w10 ho hb hg hat; rw [← Ny308.out] at ho; replace BK306 := am (blk_grown (g := gb306) (o := .cells #[.slice A0_0 l0_0.length c0_0] 26 (0, 0)) (qb BK306.out) hg (Kd.R_ne HO_3.out BK306.out (by decide))); have n1_ := am (hb); have HO310 := am (ho); clear HB HO_3; have HB := n1_; clear n1_; clear ho hb hg hat))
     go_roundg k1
     case measure => have := HK1.out; omega
     case rel => exact ⟨(y308), (wrap64 (x4_1 + 1)), qe, H', ⟨by have := HK1.out; omega⟩, ⟨qR HO310.out⟩, ⟨qb BK306.out⟩, ⟨qB⟩⟩
    ·replace c6 := Bool.eq_false_iff.mpr c6
     subst c6
     have H1 : (spec_poIdeals.l0 k1 x3_1 (wrap64 (x4_1 + 1)) l0_0) = some r := by rw [if_neg (show ¬ (false = true) by decide)] at H; exact H
     clear H
     have H := H1
     clear H1
     have H' := am H
     clear H
     have hcz11_0 := qz wr BK306.out
     have hfz11_0 := blk_frozen BK306.out 0
     go_wp2_with (first | ((with_reducible refine gate_callee (f := 92) rfl ?_); refine gL (some 15) Try.func92 #[.agg #[.slice A0_0 l0_0.length c0_0], .int .i64 x4_1] ?_; (with_reducible refine (spec_poIdeal.calls k1 _ _ l0_0 x4_1 false _ ?side1 ?side2 A5.out).mono ?_); (case side1 => exact qC (Kd.C_below HR0_0.out HB.out)); (case side2 => exact HC0_0.out); rintro e w12 ⟨rfl, hb⟩; refine ⟨_, rfl, ?_⟩; replace HO_3 := am (Kd.R_below (qR HO_3.out) hb); replace BK306 := am (blk_below (g := gb306) (o := .cells #[.slice A0_0 l0_0.length c0_0] 26 (0, 0)) (qb BK306.out) hb); replace HB := am (below_step qB hb); (try clear hb); (try clear hb2); (try clear hk); (try clear hi)))
     go_roundg k1
     case measure => have := HK1.out; omega
     case rel => exact ⟨(x3_1), (wrap64 (x4_1 + 1)), qe, H', ⟨by have := HK1.out; omega⟩, ⟨qR HO_3.out⟩, ⟨qb BK306.out⟩, ⟨qB⟩⟩
   ·rw [if_neg c4] at H
    have c4b0 := decide_eq_false c4
    clear c4
    obtain rfl := Option.some.inj H
    have hcz13_0 := qz wr BK306.out
    have hfz13_0 := blk_frozen BK306.out 0
    go_wp2
    go_ret
    exact ⟨_, by first | rfl | (simp [errW_none, errW_some] <;> rfl) | (simp only [← hji3]; first | rfl | (simp [errW_none, errW_some] <;> rfl)) | (simp [*, errW_none, errW_some] <;> rfl), qR HO_3.out, qB⟩
mutual
def spec_laChains.l0 : Nat → Int → Bool → List Int → List Int → List Int → Option (Int)
 | 0, _, _, _, _, _ => none
 | k + 1, x1, x2, x7, x8, x315000 => if x1 > 0 then (if 0 ≤ (x8.length : Int) then (if ((x8.length : Int) : Int).toNat ≤ 35184372088832 then (spec_laChains.l1 k x1 x2 x7 x8 (List.replicate ((x8.length : Int) : Int).toNat 0) x7 (x7.length : Int) 0 x315000) else (none)) else (none)) else (if 0 ≤ (wrap64 ((x8.length : Int) - 1)) then (if (wrap64 ((x8.length : Int) - 1)) < (x8.length : Int) then (some (rd x8 (wrap64 ((x8.length : Int) - 1)))) else (none)) else (none))
def spec_laChains.l1 : Nat → Int → Bool → List Int → List Int → List Int → List Int → Int → Int → List Int → Option (Int)
 | 0, _, _, _, _, _, _, _, _, _ => none
 | k + 1, x1, x2, x7, x8, x9, x30, x31, x32, x315000 => if x32 < x31 then (if 0 ≤ x32 then (if x32 < (x30.length : Int) then (spec_laChains.l2 k x1 x2 x7 x8 x9 (rd x30 x32) x30 x31 x32 x7 (x7.length : Int) 0 x315000) else (none)) else (none)) else (spec_laChains.l0 k (wrap64 (x1 - 1)) x2 x7 x9 x315000)
def spec_laChains.l2 : Nat → Int → Bool → List Int → List Int → List Int → Int → List Int → Int → Int → List Int → Int → Int → List Int → Option (Int)
 | 0, _, _, _, _, _, _, _, _, _, _, _, _, _ => none
 | k + 1, x1, x2, x7, x8, x9, x11, x30, x31, x32, x36, x37, x38, x315000 => if x38 < x37 then (if 0 ≤ x38 then (if x38 < (x36.length : Int) then (if 0 ≤ x11 then (if x11 < (x8.length : Int) then (if (rd x8 x11) > 0 then (if (Go.bits .andNot .i64 x11 (rd x36 x38)) = 0 then (if x2 = true then ((spec_laFree.f k x315000 (Go.bits .andNot .i64 (rd x36 x38) x11)).bind fun t329 => (if t329 = true then (if 0 ≤ (rd x36 x38) then (if (rd x36 x38) < (x9.length : Int) then (spec_laChains.l2 k x1 x2 x7 x8 (x9.set ((rd x36 x38) : Int).toNat (wrap64 ((rd x9 (rd x36 x38)) + (rd x8 x11)))) x11 x30 x31 x32 x36 x37 (wrap64 (x38 + 1)) x315000) else (none)) else (none)) else (spec_laChains.l2 k x1 x2 x7 x8 x9 x11 x30 x31 x32 x36 x37 (wrap64 (x38 + 1)) x315000))) else (if 0 ≤ (rd x36 x38) then (if (rd x36 x38) < (x9.length : Int) then (spec_laChains.l2 k x1 x2 x7 x8 (x9.set ((rd x36 x38) : Int).toNat (wrap64 ((rd x9 (rd x36 x38)) + (rd x8 x11)))) x11 x30 x31 x32 x36 x37 (wrap64 (x38 + 1)) x315000) else (none)) else (none))) else (spec_laChains.l2 k x1 x2 x7 x8 x9 x11 x30 x31 x32 x36 x37 (wrap64 (x38 + 1)) x315000)) else (spec_laChains.l2 k x1 x2 x7 x8 x9 x11 x30 x31 x32 x36 x37 (wrap64 (x38 + 1)) x315000)) else (none)) else (none)) else (none)) else (none)) else (spec_laChains.l1 k x1 x2 x7 x8 x9 x30 x31 (wrap64 (x32 + 1)) x315000)
end
def spec_laChains.f (k : Nat) (l0_0 : List Int) (a1 : Int) (a2 : Bool) : Option (Int) := (spec_poIdeals.f k l0_0).bind fun t315 => (if 0 ≤ (shl .i64 1 (l0_0.length : Int)) then (if (shl .i64 1 (l0_0.length : Int) : Int).toNat ≤ 35184372088832 then ((some (List.replicate (shl .i64 1 (l0_0.length : Int) : Int).toNat 0 : List Int)).bind fun y318 => (if 0 < (y318.length : Int) then (spec_laChains.l0 k a1 a2 t315 (y318.set (0 : Int).toNat 1) l0_0) else (none))) else (none)) else (none))
theorem spec_laChains.mono_l : ∀ k, (∀ y0 y1 y2 y3 y4, LeO (spec_laChains.l0 k y0 y1 y2 y3 y4) (spec_laChains.l0 (k + 1) y0 y1 y2 y3 y4)) ∧ (∀ y0 y1 y2 y3 y4 y5 y6 y7 y8, LeO (spec_laChains.l1 k y0 y1 y2 y3 y4 y5 y6 y7 y8) (spec_laChains.l1 (k + 1) y0 y1 y2 y3 y4 y5 y6 y7 y8)) ∧ (∀ y0 y1 y2 y3 y4 y5 y6 y7 y8 y9 y10 y11 y12, LeO (spec_laChains.l2 k y0 y1 y2 y3 y4 y5 y6 y7 y8 y9 y10 y11 y12) (spec_laChains.l2 (k + 1) y0 y1 y2 y3 y4 y5 y6 y7 y8 y9 y10 y11 y12))
 | 0 => ⟨fun _ _ _ _ _ r h => by simp [spec_laChains.l0] at h, fun _ _ _ _ _ _ _ _ _ r h => by simp [spec_laChains.l1] at h, fun _ _ _ _ _ _ _ _ _ _ _ _ _ r h => by simp [spec_laChains.l2] at h⟩
 | k + 1 => by
  obtain ⟨ih0, ih1, ih2⟩ := spec_laChains.mono_l k
  refine ⟨?_, ?_, ?_⟩
  ·intro y0 y1 y2 y3 y4
   unfold spec_laChains.l0
   repeat' first
   | (with_reducible exact spec_laFree.mono _ _ _)
   | (with_reducible exact spec_poIdeals.mono _ _)
   | (with_reducible exact LeO.refl _)
   | (with_reducible exact LeO.none _)
   | (with_reducible refine LeO.ite ?_ ?_)
   | (with_reducible refine LeO.bind ?_ (fun _ => ?_))
   | exact ih0 _ _ _ _ _
   | exact ih1 _ _ _ _ _ _ _ _ _
   | exact ih2 _ _ _ _ _ _ _ _ _ _ _ _ _
   | exact spec_laFree.mono _ _ _
   | exact spec_poIdeals.mono _ _
   | exact LeO.none _
   | refine LeO.ite ?_ ?_
   | refine LeO.bind ?_ (fun _ => ?_)
  ·intro y0 y1 y2 y3 y4 y5 y6 y7 y8
   unfold spec_laChains.l1
   repeat' first
   | (with_reducible exact spec_laFree.mono _ _ _)
   | (with_reducible exact spec_poIdeals.mono _ _)
   | (with_reducible exact LeO.refl _)
   | (with_reducible exact LeO.none _)
   | (with_reducible refine LeO.ite ?_ ?_)
   | (with_reducible refine LeO.bind ?_ (fun _ => ?_))
   | exact ih0 _ _ _ _ _
   | exact ih1 _ _ _ _ _ _ _ _ _
   | exact ih2 _ _ _ _ _ _ _ _ _ _ _ _ _
   | exact spec_laFree.mono _ _ _
   | exact spec_poIdeals.mono _ _
   | exact LeO.none _
   | refine LeO.ite ?_ ?_
   | refine LeO.bind ?_ (fun _ => ?_)
  ·intro y0 y1 y2 y3 y4 y5 y6 y7 y8 y9 y10 y11 y12
   unfold spec_laChains.l2
   repeat' first
   | (with_reducible exact spec_laFree.mono _ _ _)
   | (with_reducible exact spec_poIdeals.mono _ _)
   | (with_reducible exact LeO.refl _)
   | (with_reducible exact LeO.none _)
   | (with_reducible refine LeO.ite ?_ ?_)
   | (with_reducible refine LeO.bind ?_ (fun _ => ?_))
   | exact ih0 _ _ _ _ _
   | exact ih1 _ _ _ _ _ _ _ _ _
   | exact ih2 _ _ _ _ _ _ _ _ _ _ _ _ _
   | exact spec_laFree.mono _ _ _
   | exact spec_poIdeals.mono _ _
   | exact LeO.none _
   | refine LeO.ite ?_ ?_
   | refine LeO.bind ?_ (fun _ => ?_)
theorem spec_laChains.mono : ∀ a0 a1 a2 k, LeO (spec_laChains.f k a0 a1 a2) (spec_laChains.f (k + 1) a0 a1 a2) := by
 intro a0 a1 a2 k
 obtain ⟨ih0, ih1, ih2⟩ := spec_laChains.mono_l k
 unfold spec_laChains.f
 repeat' first
  | (with_reducible exact spec_laFree.mono _ _ _)
  | (with_reducible exact spec_poIdeals.mono _ _)
  | (with_reducible exact LeO.refl _)
  | (with_reducible exact LeO.none _)
  | (with_reducible refine LeO.ite ?_ ?_)
  | (with_reducible refine LeO.bind ?_ (fun _ => ?_))
  | exact ih0 _ _ _ _ _
  | exact ih1 _ _ _ _ _ _ _ _ _
  | exact ih2 _ _ _ _ _ _ _ _ _ _ _ _ _
  | exact spec_laFree.mono _ _ _
  | exact spec_poIdeals.mono _ _
  | exact LeO.none _
  | refine LeO.ite ?_ ?_
  | refine LeO.bind ?_ (fun _ => ?_)
def spec_laChains.T14 : Bool × List (List Nat × List Nat) := (true, [([], []), ([], []), ([0, 1], [0, 1]), ([2], [2]), ([], []), ([], []), ([4, 5], [4, 5]), ([6], [6]), ([3, 7], [3, 7]), ([0, 1, 0, 1, 2, 3, 4, 5, 6, 7, 8], [0, 1]), ([9, 8, 0, 1, 2, 3, 4, 5, 6, 7, 8], [8, 9])])
def spec_laChains.B14 : List Nat := [0, 0, 3, 7, 0, 0, 48, 112, 255, 511, 1023]
theorem spec_laChains.tab14 : rtab .any (opsOf Try.f96 14) = spec_laChains.T14 := by kernel_rfl
theorem spec_laChains.bits14 : waitsOk spec_laChains.T14.2 spec_laChains.B14 = true := by kernel_rfl
set_option maxHeartbeats 8000000 in
set_option maxRecDepth 100000 in
theorem spec_laChains.calls (k : Nat) (A0_0 : Option Addr) (c0_0 : Nat) (l0_0 : List Int) (a1 : Int) (a2 : Bool) (r : Int) (w : World) (hr0_0 : Kd.C (Kd.int .i64) w A0_0 l0_0.length l0_0) (hc0_0 : l0_0.length ≤ c0_0) (h : spec_laChains.f k l0_0 a1 a2 = some r) :
 Calls Try.prog 96 #[.agg #[.slice A0_0 l0_0.length c0_0], .int .i64 a1, .bool a2] w fun e w' => e = .returned (.int .i64 r) ∧ Below w.heap.size w w' := by
 have hu26 := Try.underlying26
 have HR0_0 := am hr0_0
 have HC0_0 := am hc0_0
 clear hr0_0 hc0_0
 have HB := am (Below.refl w.heap.size w)
 have H : ((spec_poIdeals.f k l0_0).bind fun t315 => (if 0 ≤ (shl .i64 1 (l0_0.length : Int)) then (if (shl .i64 1 (l0_0.length : Int) : Int).toNat ≤ 35184372088832 then ((some (List.replicate (shl .i64 1 (l0_0.length : Int) : Int).toNat 0 : List Int)).bind fun y318 => (if 0 < (y318.length : Int) then (spec_laChains.l0 k a1 a2 t315 (y318.set (0 : Int).toNat 1) l0_0) else (none))) else (none)) else (none))) = some r := h
 clear h
 replace H := Option.bind_eq_some_iff.mp H
 obtain ⟨t315, A40, H⟩ := H
 replace H : (if 0 ≤ (shl .i64 1 (l0_0.length : Int)) then (if (shl .i64 1 (l0_0.length : Int) : Int).toNat ≤ 35184372088832 then ((some (List.replicate (shl .i64 1 (l0_0.length : Int) : Int).toNat 0 : List Int)).bind fun y318 => (if 0 < (y318.length : Int) then (spec_laChains.l0 k a1 a2 t315 (y318.set (0 : Int).toNat 1) l0_0) else (none))) else (none)) else (none)) = some r := H
 have A4 := am A40
 clear A40
 obtain ⟨ji5, hji5⟩ : ∃ j_ : Int, (shl .i64 1 (l0_0.length : Int)) = j_ := ⟨_, rfl⟩
 replace H : (if 0 ≤ (ji5) then (if (ji5 : Int).toNat ≤ 35184372088832 then ((some (List.replicate (ji5 : Int).toNat 0 : List Int)).bind fun y318 => (if 0 < (y318.length : Int) then (spec_laChains.l0 k a1 a2 t315 (y318.set (0 : Int).toNat 1) l0_0) else (none))) else (none)) else (none)) = some r := by first | (rw [hji5] at H; exact H) | (simp only [hji5] at H ⊢; exact H)
 (try rw [hji5] at A4)
 have hji5_ : (IntKind.i64.wrap (1 * 2 ^ min (l0_0.length : Int).toNat 64)) = ji5 := hji5
 have hji5z : (l0_0.length : Int) ≤ 64 → (IntKind.i64.wrap (1 * 2 ^ (l0_0.length : Int).toNat)) = ji5 := shl_small hji5
 have hji5p : (IntKind.i64.wrap (1 * 2 ^ min l0_0.length 64)) = ji5 := hji5_
 have hji5q : (l0_0.length : Int) ≤ 64 → (IntKind.i64.wrap (1 * 2 ^ l0_0.length)) = ji5 := hji5z
 have hji5r : (IntKind.i64.wrap (2 ^ min l0_0.length 64)) = ji5 := by have h_ := hji5p; rw [Int.one_mul] at h_; exact h_
 have hji5s : (l0_0.length : Int) ≤ 64 → (IntKind.i64.wrap (2 ^ l0_0.length)) = ji5 := fun hle_ => by have h_ := hji5q hle_; rw [Int.one_mul] at h_; exact h_
 have hji5u : (IntKind.i64.wrap (2 ^ min (l0_0.length : Int).toNat 64)) = ji5 := by have h_ := hji5_; rw [Int.one_mul] at h_; exact h_
 have hji5v : (l0_0.length : Int) ≤ 64 → (IntKind.i64.wrap (2 ^ (l0_0.length : Int).toNat)) = ji5 := fun hle_ => by have h_ := hji5z hle_; rw [Int.one_mul] at h_; exact h_
 have hji5y : (wrap64 (1 * 2 ^ min (l0_0.length : Int).toNat 64)) = ji5 := (i64_w _).symm.trans hji5_
 have hji5x : (l0_0.length : Int) ≤ 64 → (wrap64 (1 * 2 ^ (l0_0.length : Int).toNat)) = ji5 := fun h_ => (i64_w _).symm.trans (hji5z h_)
 by_cases c6 : 0 ≤ (ji5)
 ·rw [if_pos c6] at H
  have c6b0 := eq_true c6
  have c6b1 := decide_eq_true c6
  clear c6
  by_cases c7 : (ji5 : Int).toNat ≤ 35184372088832
  rotate_left
  ·rw [if_neg c7] at H
   exact absurd H (by simp)
  rw [if_pos c7] at H
  have c7b0 := eq_true c7
  have c7b1 := decide_eq_true c7
  clear c7
  obtain ⟨y318, hy318⟩ : ∃ y_ : List Int, y_ = (List.replicate (ji5 : Int).toNat 0) := ⟨_, rfl⟩
  replace H : (if 0 < (y318.length : Int) then (spec_laChains.l0 k a1 a2 t315 (y318.set (0 : Int).toNat 1) l0_0) else (none)) = some r := by first | (rw [hy318]; with_reducible exact H) | (have H2_ := (Option.bind_some _ _).symm.trans H; rw [hy318]; with_reducible exact H2_) | (have H2_ := (Option.bind_some _ _).symm.trans H; with_reducible exact H2_) | with_reducible exact H | (rw [hy318]; exact H) | exact H
  have Ny318 := am hy318
  clear hy318
  by_cases c8 : 0 < (y318.length : Int)
  rotate_left
  ·rw [if_neg c8] at H
   exact absurd H (by simp)
  rw [if_pos c8] at H
  have c8b0 := decide_eq_true c8
  have c8b1 : decide (0 < y318.length) = true := decide_eq_true (by omega)
  clear c8
  obtain ⟨y321, hy321⟩ : ∃ y_ : List Int, y_ = (y318.set (0 : Int).toNat 1) := ⟨_, rfl⟩
  replace H : (spec_laChains.l0 k a1 a2 t315 y321 l0_0) = some r := by first | (rw [hy321]; with_reducible exact H) | (have H2_ := (Option.bind_some _ _).symm.trans H; rw [hy321]; with_reducible exact H2_) | (have H2_ := (Option.bind_some _ _).symm.trans H; with_reducible exact H2_) | with_reducible exact H | (rw [hy321]; exact H) | exact H
  have Ny321 := am hy321
  clear hy321
  have H' := am H
  clear H
  go_enter Try.func96, Try.ntmps96
  go_wp2_with (first | ((with_reducible refine gate_dst (N := 3) rfl ?_); refine qx (N := 3) (cs := #[.slice A0_0 l0_0.length c0_0]) (t := 26) ?_; intro gb314 hg w10 hbox hb; have n0_ := am (below_step qB hb); have BK314 := am (hbox); have GW314 := am (qg w hg); have GE314 := am (qg w hg); clear HB; have HB := n0_; clear n0_; clear hb hbox hg; have hcz11_0 := qz w10 BK314.out; have hfz11_0 := blk_frozen BK314.out 0) | ((with_reducible refine gate_callee (f := 137) rfl ?_); refine gL (some 15) Try.func137 #[.agg #[.slice A0_0 l0_0.length c0_0]] ?_; (with_reducible refine (spec_poIdeals.calls k _ _ l0_0 t315 _ ?side1 ?side2 A4.out).mono ?_); (case side1 => exact qC (Kd.C_below HR0_0.out HB.out)); (case side2 => exact HC0_0.out); rintro e w12 ⟨v316, rfl, ho0, hb⟩; refine ⟨_, rfl, ?_⟩; have HO317 := am (Kd.R_lower ho0 (below_size qB)); replace BK314 := am (blk_below (g := gb314) (o := .cells #[.slice A0_0 l0_0.length c0_0] 26 (0, 0)) (qb BK314.out) hb); replace HB := am (below_step qB hb); (try clear hb); (try clear hb2); (try clear hk); (try clear hi); (try clear ho0); have hcz13_0 := qz w12 BK314.out; have hfz13_0 := blk_frozen BK314.out 0) | ((with_reducible refine gate_dst (N := 20) rfl ?_); refine Kd.R_make (Kd.int .i64) _ 3 rfl (N := 20) rfl 24 _ _ rfl ji5 rfl rfl Try.underlying24 (.int .i64 0) 8 info3 rfl (by decide) (by omega) 0 (ok := fun _ => True) (okp := fun _ => True) rfl (fun _ hk => hk) trivial (qd) (Nat.le_trans (Nat.mul_le_mul_right _ (qd : ji5.toNat ≤ 35184372088832)) (by omega)) (Below.refl _ _) (Nat.le_refl _) ?_; intro v319 w14 ho15 hb hg_ hnew_; clear hg_ hnew_; (first | rw [← Ny318.out] at ho15 | (simp only [Int.reduceToNat] at ho15; rw [← Ny318.out] at ho15)); have n0_ := am (Kd.R_elder' (qR HO317.out) (Kd.R_base ho15) hb); have HO320 := am (Kd.R_lower (Kd.R_new' ho15 (Kd.R_lt (qR HO317.out))) (below_size qB)); replace BK314 := am (blk_below (g := gb314) (o := .cells #[.slice A0_0 l0_0.length c0_0] 26 (0, 0)) (qb BK314.out) hb); replace HB := am (below_step qB hb); clear HO317; have HO317 := n0_; clear n0_; clear hb ho15; have p9 : 0 ≤ (0 : Int) := (by omega); have q9 : (0 : Int) < ((y318.length : Int) : Int) := qd; have qi9 : (0 < y318.length) = True := eq_true (by omega); obtain ⟨go9, co9, eo9, gb9, gl9, cl9, HG9⟩ := Kd.R_form HO320.out (by omega); (first | cases eo9 | (injection eo9 with ea_ en_ ec_; (first | subst ea_ | (injection ea_ with ea_; subst ea_)); subst ec_; clear en_)); have GB9 := am gb9; have GG9 := am HG9; clear gb9 gl9 HG9; obtain ⟨hx9_0, hf9_0⟩ := Kd.R_celln 0 HO320.out (0 : Int) p9 q9; (try rw [show ((0 : Int)).toNat = 0 from rfl] at hx9_0); (try simp only [Nat.reduceMul, Nat.zero_mul, Nat.zero_add, Nat.reduceAdd] at hx9_0); (try rw [show ((0 : Int)).toNat = 0 from rfl] at hf9_0); (try simp only [Nat.reduceMul, Nat.zero_mul, Nat.zero_add, Nat.reduceAdd] at hf9_0); replace p9 := eq_true p9; replace q9 := eq_true q9; have n_ := am (Kd.R_mono (ok' := (fun k_ => some k_ ≠ (v316 : Value).ownBlock)) HO320.out (fun k_ hk => hk.2)); clear HO320; have HO320 := n_; clear n_; obtain ⟨hy16_, hz16_⟩ := Kd.R_celln 0 HO320.out (0 : Int) (by omega) (qd); (try simp only [Int.reduceToNat, Int.toNat_zero, Int.toNat_ofNat, Nat.reduceMul, Nat.zero_mul, Nat.zero_add] at hy16_ hz16_); (try rw [show ((0 : Int)).toNat = 0 from rfl] at hy16_); (try rw [show ((0 : Int)).toNat = 0 from rfl] at hz16_); have HP16 := Kd.R_putg HO320.out (0 : Int) 1) | ((with_reducible refine gate_store (t := 3) (p := 22) rfl ?_); refine store_event (t := 3) (p := 22) (v := ?vo_w17) (w1 := (w14.setCell ⟨go9, (0 : Int).toNat, none⟩ (.int .i64 1))) ?hg ?ho ?hn ?hr ?_; (case ho => rfl); (case hg => rfl); (case hn => rfl); (case hr => first | (go_simp; done) | (go_simp; rfl) | (obtain ⟨Av_, cv_, ev_⟩ := Kd.R_slice HO317.out; subst ev_; go_simp; done) | (obtain ⟨Av_, cv_, ev_⟩ := Kd.R_slice HO317.out; subst ev_; go_simp; rfl) | (obtain ⟨Av_, cv_, ev_⟩ := Kd.R_slice HO320.out; subst ev_; go_simp; done) | (obtain ⟨Av_, cv_, ev_⟩ := Kd.R_slice HO320.out; subst ev_; go_simp; rfl) | (obtain ⟨Av_, cv_, ev_⟩ := Kd.R_slice HO325.out; subst ev_; go_simp; done) | (obtain ⟨Av_, cv_, ev_⟩ := Kd.R_slice HO325.out; subst ev_; go_simp; rfl)); intro w17 hw; have hg : w14.grownBy w17 (some go9) := (by rw [hw]; exact HP16.2); have hp_ : Kd.R (Kd.int .i64) 3 w17 w.heap.size (fun k_ => some k_ ≠ (v316 : Value).ownBlock) (.slice (some ⟨go9, 0, none⟩) y318.length co9) y321 := (by rw [hw, Ny321.out]; exact HP16.1); clear HP16; replace BK314 := am (blk_grown (g := gb314) (o := .cells #[.slice A0_0 l0_0.length c0_0] 26 (0, 0)) (qb BK314.out) hg (Kd.R_ne HO320.out BK314.out (by decide))); replace HO317 := am (Kd.R_after (v := (.slice (some ⟨go9, 0, none⟩) y318.length co9)) (v1 := (.slice (some ⟨go9, 0, none⟩) y318.length co9)) (ok := (fun _ => True)) (qR HO317.out) hg (.inl rfl)); replace HO320 := am (hp_); replace HB := am ((by rw [hw]; exact below_set (HB.out) GB9.out : Below w.heap.size w w17)); clear hg hw hp_))
  go_loopg [1, 8] k (fun kq v1 v8 w' => ∃ (x1_1 : Int) (x7_1 : List Int) (x8_1 : List Int), v1 = .int .i64 x1_1 ∧ Aside0 (spec_laChains.l0 kq x1_1 a2 x7_1 x8_1 l0_0 = some r) ∧ Aside0 (kq ≤ k) ∧ Aside0 (Kd.R (Kd.int .i64) 3 w' w.heap.size (fun k_ => some k_ ≠ (v8 : Value).ownBlock) v316 x7_1) ∧ Aside0 (Kd.R (Kd.int .i64) 3 w' w.heap.size (fun k_ => some k_ ≠ (v316 : Value).ownBlock) v8 x8_1) ∧ Aside0 (w'.heap[gb314]? = some (.cells #[(.slice A0_0 l0_0.length c0_0)] 26 (0, 0))) ∧ Aside0 (Below w.heap.size w w'))
  case atStart => exact ⟨(a1), (t315), (y321), qe, H', ⟨Nat.le_refl _⟩, ⟨qR (Kd.R_mono HO317.out (fun _ hk => hk.2))⟩, ⟨qR HO320.out⟩, ⟨qb BK314.out⟩, ⟨qB⟩⟩
  case round =>
   clear H'
   try clear c1
   try clear p2
   try clear c6
   try clear c6b0
   try clear c6b1
   try clear p6
   try clear c7
   try clear c7b0
   try clear c7b1
   try clear c8
   try clear c8b0
   try clear c8b1
   try clear c9
   try clear p9
   try clear q9
   try clear hx9
   try clear qi9
   try clear hf9
   try clear c13
   try clear hcz11_0
   try clear hcz13_0
   try clear hfz11_0
   try clear hfz13_0
   try clear hx9_0
   try clear p9
   try clear q9
   obtain ⟨x1_1, x7_1, x8_1, rfl, HA, HK1, HO_7, HO_8, BK314, HB⟩ := hrel
   cases gk with
   | zero => exact absurd HA.out (by simp [spec_laChains.l0])
   | succ k1 =>
    have H := HA.out
    clear HA
    simp only [spec_laChains.l0] at H
    by_cases c18 : x1_1 > 0
    ·rw [if_pos c18] at H
     have c18b0 : decide (0 < x1_1) = true := decide_eq_true c18
     clear c18
     by_cases c19 : 0 ≤ (x8_1.length : Int)
     rotate_left
     ·rw [if_neg c19] at H
      exact absurd H (by simp)
     rw [if_pos c19] at H
     have c19b0 := eq_true c19
     have c19b1 := decide_eq_true c19
     clear c19
     by_cases c20 : ((x8_1.length : Int) : Int).toNat ≤ 35184372088832
     rotate_left
     ·rw [if_neg c20] at H
      exact absurd H (by simp)
     rw [if_pos c20] at H
     have c20b0 := eq_true c20
     have c20b1 := decide_eq_true c20
     clear c20
     obtain ⟨y323, hy323⟩ : ∃ y_ : List Int, y_ = (List.replicate ((x8_1.length : Int) : Int).toNat 0) := ⟨_, rfl⟩
     replace H : (spec_laChains.l1 k1 x1_1 a2 x7_1 x8_1 y323 x7_1 (x7_1.length : Int) 0 l0_0) = some r := by first | (rw [hy323]; with_reducible exact H) | (have H2_ := (Option.bind_some _ _).symm.trans H; rw [hy323]; with_reducible exact H2_) | (have H2_ := (Option.bind_some _ _).symm.trans H; with_reducible exact H2_) | with_reducible exact H | (rw [hy323]; exact H) | exact H
     have Ny323 := am hy323
     clear hy323
     have H' := am H
     clear H
     obtain ⟨Ao21, co21, eo21⟩ := Kd.R_slice HO_8.out
     subst eo21
     go_wp2_with (first | ((with_reducible refine gate_dst (N := 29) rfl ?_); refine Kd.R_make (Kd.int .i64) _ 3 rfl (N := 29) rfl 24 _ _ rfl (x8_1.length : Int) rfl rfl Try.underlying24 (.int .i64 0) 8 info3 rfl (by decide) (by omega) 0 (ok := fun _ => True) (okp := fun _ => True) rfl (fun _ hk => hk) trivial (qd) (Nat.le_trans (Nat.mul_le_mul_right _ (qd : (x8_1.length : Int).toNat ≤ 35184372088832)) (by omega)) (Below.refl _ _) (Nat.le_refl _) ?_; intro v324 w22 ho23 hb hg_ hnew_; clear hg_ hnew_; (first | rw [← Ny323.out] at ho23 | (simp only [Int.reduceToNat] at ho23; rw [← Ny323.out] at ho23)); have n0_ := am (Kd.R_elder' (qR HO_7.out) (Kd.R_base ho23) hb); have n1_ := am (Kd.R_elder' (qR HO_8.out) (Kd.R_base ho23) hb); have HO325 := am (Kd.R_lower (Kd.R_new' (Kd.R_new' ho23 (Kd.R_lt (qR HO_7.out))) (Kd.R_lt (qR HO_8.out))) (below_size qB)); replace BK314 := am (blk_below (g := gb314) (o := .cells #[.slice A0_0 l0_0.length c0_0] 26 (0, 0)) (qb BK314.out) hb); replace HB := am (below_step qB hb); clear HO_7 HO_8; have HO_7 := n0_; have HO_8 := n1_; clear n0_ n1_; clear hb ho23; obtain ⟨Ao24, co24, eo24⟩ := Kd.R_slice HO_7.out; subst eo24))
     go_loopg [32] k1 (fun kq v32 w' => ∃ (x9_2 : List Int) (x32_2 : Int), v32 = .int .i64 x32_2 ∧ Aside0 (spec_laChains.l1 kq x1_1 a2 x7_1 x8_1 x9_2 x7_1 (x7_1.length : Int) x32_2 l0_0 = some r) ∧ Aside0 (kq ≤ k1) ∧ Aside0 (Kd.R (Kd.int .i64) 3 w' w.heap.size (fun k_ => some k_ ≠ ((.slice Ao21 x8_1.length co21) : Value).ownBlock ∧ some k_ ≠ (v324 : Value).ownBlock) (.slice Ao24 x7_1.length co24) x7_1) ∧ Aside0 (Kd.R (Kd.int .i64) 3 w' w.heap.size (fun k_ => some k_ ≠ ((.slice Ao24 x7_1.length co24) : Value).ownBlock ∧ some k_ ≠ (v324 : Value).ownBlock ∧ some k_ ≠ ((.slice Ao24 x7_1.length co24) : Value).ownBlock) (.slice Ao21 x8_1.length co21) x8_1) ∧ Aside0 (Kd.R (Kd.int .i64) 3 w' w.heap.size (fun k_ => some k_ ≠ ((.slice Ao24 x7_1.length co24) : Value).ownBlock ∧ some k_ ≠ ((.slice Ao21 x8_1.length co21) : Value).ownBlock ∧ some k_ ≠ ((.slice Ao24 x7_1.length co24) : Value).ownBlock) v324 x9_2) ∧ Aside0 (Kd.R (Kd.int .i64) 3 w' w.heap.size (fun k_ => some k_ ≠ ((.slice Ao21 x8_1.length co21) : Value).ownBlock ∧ some k_ ≠ (v324 : Value).ownBlock) (.slice Ao24 x7_1.length co24) x7_1) ∧ Aside0 (w'.heap[gb314]? = some (.cells #[(.slice A0_0 l0_0.length c0_0)] 26 (0, 0))) ∧ Aside0 (Below w.heap.size w w'))
     case atStart => exact ⟨(y323), (0), qe, H', ⟨Nat.le_refl _⟩, ⟨qR HO_7.out⟩, ⟨qR (Kd.R_mono HO_8.out (fun _ hk => ⟨hk.1, ⟨hk.2, hk.1⟩⟩))⟩, ⟨qR (Kd.R_mono HO325.out (fun _ hk => ⟨hk.1.2, ⟨hk.2, hk.1.2⟩⟩))⟩, ⟨qR HO_7.out⟩, ⟨qb BK314.out⟩, ⟨qB⟩⟩
     case round =>
      clear H'
      try clear c1
      try clear c2
      try clear p2
      try clear c6
      try clear c6b0
      try clear c6b1
      try clear p6
      try clear c7
      try clear c7b0
      try clear c7b1
      try clear c8
      try clear c8b0
      try clear c8b1
      try clear c9
      try clear p9
      try clear q9
      try clear hx9
      try clear qi9
      try clear hf9
      try clear c13
      try clear c18
      try clear c18b0
      try clear c19
      try clear c19b0
      try clear c19b1
      try clear c20
      try clear c20b0
      try clear c20b1
      try clear hcz11_0
      try clear hcz13_0
      try clear hfz11_0
      try clear hfz13_0
      try clear hx9_0
      try clear p2
      try clear p6
      try clear p9
      try clear q9
      obtain ⟨x9_2, x32_2, rfl, HA, HK2, HO_7, HO_8, HO_9, HO_30, BK314, HB⟩ := hrel
      cases gk with
      | zero => exact absurd HA.out (by simp [spec_laChains.l1])
      | succ k2 =>
       have H := HA.out
       clear HA
       simp only [spec_laChains.l1] at H
       by_cases c25 : x32_2 < (x7_1.length : Int)
       ·rw [if_pos c25] at H
        have c25b0 := decide_eq_true c25
        clear c25
        by_cases c26 : 0 ≤ x32_2
        rotate_left
        ·rw [if_neg c26] at H
         exact absurd H (by simp)
        rw [if_pos c26] at H
        have c26b0 := decide_eq_true c26
        clear c26
        by_cases c27 : x32_2 < (x7_1.length : Int)
        rotate_left
        ·rw [if_neg c27] at H
         exact absurd H (by simp)
        rw [if_pos c27] at H
        have c27b0 := decide_eq_true c27
        clear c27
        have H' := am H
        clear H
        have p326 : 0 ≤ (x32_2 : Int) := qd
        have q326 : x32_2 < (x7_1.length : Int) := qd
        obtain ⟨ad326, e326, hx326_0⟩ := Kd.at_int (Kd.R_reads' HO_30.out).2.2 x32_2 p326 q326
        cases e326
        replace p326 := eq_true p326
        replace q326 := eq_true q326
        go_wp2
        go_loopg [38] k2 (fun kq v38 w' => ∃ (x9_3 : List Int) (x38_3 : Int), v38 = .int .i64 x38_3 ∧ Aside0 (spec_laChains.l2 kq x1_1 a2 x7_1 x8_1 x9_3 (rd x7_1 x32_2) x7_1 (x7_1.length : Int) x32_2 x7_1 (x7_1.length : Int) x38_3 l0_0 = some r) ∧ Aside0 (kq ≤ k2) ∧ Aside0 (Kd.R (Kd.int .i64) 3 w' w.heap.size (fun k_ => some k_ ≠ ((.slice Ao21 x8_1.length co21) : Value).ownBlock ∧ some k_ ≠ (v324 : Value).ownBlock) (.slice (some ad326) x7_1.length co24) x7_1) ∧ Aside0 (Kd.R (Kd.int .i64) 3 w' w.heap.size (fun k_ => some k_ ≠ ((.slice (some ad326) x7_1.length co24) : Value).ownBlock ∧ some k_ ≠ (v324 : Value).ownBlock ∧ some k_ ≠ ((.slice (some ad326) x7_1.length co24) : Value).ownBlock ∧ some k_ ≠ ((.slice (some ad326) x7_1.length co24) : Value).ownBlock) (.slice Ao21 x8_1.length co21) x8_1) ∧ Aside0 (Kd.R (Kd.int .i64) 3 w' w.heap.size (fun k_ => some k_ ≠ ((.slice (some ad326) x7_1.length co24) : Value).ownBlock ∧ some k_ ≠ ((.slice Ao21 x8_1.length co21) : Value).ownBlock ∧ some k_ ≠ ((.slice (some ad326) x7_1.length co24) : Value).ownBlock ∧ some k_ ≠ ((.slice (some ad326) x7_1.length co24) : Value).ownBlock) v324 x9_3) ∧ Aside0 (Kd.R (Kd.int .i64) 3 w' w.heap.size (fun k_ => some k_ ≠ ((.slice Ao21 x8_1.length co21) : Value).ownBlock ∧ some k_ ≠ (v324 : Value).ownBlock) (.slice (some ad326) x7_1.length co24) x7_1) ∧ Aside0 (Kd.R (Kd.int .i64) 3 w' w.heap.size (fun k_ => some k_ ≠ ((.slice Ao21 x8_1.length co21) : Value).ownBlock ∧ some k_ ≠ (v324 : Value).ownBlock) (.slice (some ad326) x7_1.length co24) x7_1) ∧ Aside0 (w'.heap[gb314]? = some (.cells #[(.slice A0_0 l0_0.length c0_0)] 26 (0, 0))) ∧ Aside0 (Below w.heap.size w w'))
        case atStart => exact ⟨(x9_2), (0), qe, H', ⟨Nat.le_refl _⟩, ⟨qR HO_7.out⟩, ⟨qR (Kd.R_mono HO_8.out (fun _ hk => ⟨hk.1, ⟨hk.2.1, ⟨hk.2.2, hk.1⟩⟩⟩))⟩, ⟨qR (Kd.R_mono HO_9.out (fun _ hk => ⟨hk.1, ⟨hk.2.1, ⟨hk.2.2, hk.1⟩⟩⟩))⟩, ⟨qR HO_30.out⟩, ⟨qR HO_7.out⟩, ⟨qb BK314.out⟩, ⟨qB⟩⟩
        case round =>
         clear H'
         try clear c1
         try clear c2
         try clear p2
         try clear p3
         try clear q3
         try clear hx3
         try clear c6
         try clear c6b0
         try clear c6b1
         try clear p6
         try clear c7
         try clear c7b0
         try clear c7b1
         try clear c8
         try clear c8b0
         try clear c8b1
         try clear c9
         try clear p9
         try clear q9
         try clear hx9
         try clear qi9
         try clear hf9
         try clear c13
         try clear c18
         try clear c18b0
         try clear c19
         try clear c19b0
         try clear c19b1
         try clear c20
         try clear c20b0
         try clear c20b1
         try clear c25
         try clear c25b0
         try clear c26
         try clear c26b0
         try clear c27
         try clear c27b0
         try clear hcz11_0
         try clear hcz13_0
         try clear hfz11_0
         try clear hfz13_0
         try clear hx326_0
         try clear hx9_0
         try clear p2
         try clear p326
         try clear p6
         try clear p9
         try clear q326
         try clear q9
         obtain ⟨x9_3, x38_3, rfl, HA, HK3, HO_7, HO_8, HO_9, HO_30, HO_36, BK314, HB⟩ := hrel
         cases gk with
         | zero => exact absurd HA.out (by simp [spec_laChains.l2])
         | succ k3 =>
          have H := HA.out
          clear HA
          simp only [spec_laChains.l2] at H
          by_cases c28 : x38_3 < (x7_1.length : Int)
          ·rw [if_pos c28] at H
           have c28b0 := decide_eq_true c28
           clear c28
           by_cases c29 : 0 ≤ x38_3
           rotate_left
           ·rw [if_neg c29] at H
            exact absurd H (by simp)
           rw [if_pos c29] at H
           have c29b0 := decide_eq_true c29
           clear c29
           by_cases c30 : x38_3 < (x7_1.length : Int)
           rotate_left
           ·rw [if_neg c30] at H
            exact absurd H (by simp)
           rw [if_pos c30] at H
           have c30b0 := decide_eq_true c30
           clear c30
           by_cases c31 : 0 ≤ (rd x7_1 x32_2)
           rotate_left
           ·rw [if_neg c31] at H
            exact absurd H (by simp)
           rw [if_pos c31] at H
           have c31b0 := decide_eq_true c31
           clear c31
           by_cases c32 : (rd x7_1 x32_2) < (x8_1.length : Int)
           rotate_left
           ·rw [if_neg c32] at H
            exact absurd H (by simp)
           rw [if_pos c32] at H
           have c32b0 := decide_eq_true c32
           clear c32
           by_cases c33 : (rd x8_1 (rd x7_1 x32_2)) > 0
           ·rw [if_pos c33] at H
            have c33b0 : decide (0 < (rd x8_1 (rd x7_1 x32_2))) = true := decide_eq_true c33
            clear c33
            by_cases c34 : (Go.bits .andNot .i64 (rd x7_1 x32_2) (rd x7_1 x38_3)) = 0
            ·rw [if_pos c34] at H
             have c34b0 : ((Go.bits .andNot .i64 (rd x7_1 x32_2) (rd x7_1 x38_3)) == 0) = true := beq_iff_eq.mpr c34
             have c34b1 : ((Go.bits .andNot .i64 (rd x7_1 x32_2) (rd x7_1 x38_3)) != 0) = false := bne_eq_false_iff_eq.mpr c34
             clear c34
             by_cases c35 : a2 = true
             ·subst c35
              have H1 : ((spec_laFree.f k3 l0_0 (Go.bits .andNot .i64 (rd x7_1 x38_3) (rd x7_1 x32_2))).bind fun t329 => (if t329 = true then (if 0 ≤ (rd x7_1 x38_3) then (if (rd x7_1 x38_3) < (x9_3.length : Int) then (spec_laChains.l2 k3 x1_1 true x7_1 x8_1 (x9_3.set ((rd x7_1 x38_3) : Int).toNat (wrap64 ((rd x9_3 (rd x7_1 x38_3)) + (rd x8_1 (rd x7_1 x32_2))))) (rd x7_1 x32_2) x7_1 (x7_1.length : Int) x32_2 x7_1 (x7_1.length : Int) (wrap64 (x38_3 + 1)) l0_0) else (none)) else (none)) else (spec_laChains.l2 k3 x1_1 true x7_1 x8_1 x9_3 (rd x7_1 x32_2) x7_1 (x7_1.length : Int) x32_2 x7_1 (x7_1.length : Int) (wrap64 (x38_3 + 1)) l0_0))) = some r := by rw [if_pos rfl] at H; exact H
              clear H
              have H := H1
              clear H1
              replace H := Option.bind_eq_some_iff.mp H
              obtain ⟨t329, A360, H⟩ := H
              replace H : (if t329 = true then (if 0 ≤ (rd x7_1 x38_3) then (if (rd x7_1 x38_3) < (x9_3.length : Int) then (spec_laChains.l2 k3 x1_1 true x7_1 x8_1 (x9_3.set ((rd x7_1 x38_3) : Int).toNat (wrap64 ((rd x9_3 (rd x7_1 x38_3)) + (rd x8_1 (rd x7_1 x32_2))))) (rd x7_1 x32_2) x7_1 (x7_1.length : Int) x32_2 x7_1 (x7_1.length : Int) (wrap64 (x38_3 + 1)) l0_0) else (none)) else (none)) else (spec_laChains.l2 k3 x1_1 true x7_1 x8_1 x9_3 (rd x7_1 x32_2) x7_1 (x7_1.length : Int) x32_2 x7_1 (x7_1.length : Int) (wrap64 (x38_3 + 1)) l0_0)) = some r := H
              have A36 := am A360
              clear A360
              by_cases c37 : t329 = true
              ·subst c37
               have H1 : (if 0 ≤ (rd x7_1 x38_3) then (if (rd x7_1 x38_3) < (x9_3.length : Int) then (spec_laChains.l2 k3 x1_1 true x7_1 x8_1 (x9_3.set ((rd x7_1 x38_3) : Int).toNat (wrap64 ((rd x9_3 (rd x7_1 x38_3)) + (rd x8_1 (rd x7_1 x32_2))))) (rd x7_1 x32_2) x7_1 (x7_1.length : Int) x32_2 x7_1 (x7_1.length : Int) (wrap64 (x38_3 + 1)) l0_0) else (none)) else (none)) = some r := by rw [if_pos rfl] at H; exact H
               clear H
               have H := H1
               clear H1
               by_cases c38 : 0 ≤ (rd x7_1 x38_3)
               rotate_left
               ·rw [if_neg c38] at H
                exact absurd H (by simp)
               rw [if_pos c38] at H
               have c38b0 := decide_eq_true c38
               clear c38
               by_cases c39 : (rd x7_1 x38_3) < (x9_3.length : Int)
               rotate_left
               ·rw [if_neg c39] at H
                exact absurd H (by simp)
               rw [if_pos c39] at H
               have c39b0 := decide_eq_true c39
               clear c39
               obtain ⟨y332, hy332⟩ : ∃ y_ : List Int, y_ = (x9_3.set ((rd x7_1 x38_3) : Int).toNat (wrap64 ((rd x9_3 (rd x7_1 x38_3)) + (rd x8_1 (rd x7_1 x32_2))))) := ⟨_, rfl⟩
               replace H : (spec_laChains.l2 k3 x1_1 true x7_1 x8_1 y332 (rd x7_1 x32_2) x7_1 (x7_1.length : Int) x32_2 x7_1 (x7_1.length : Int) (wrap64 (x38_3 + 1)) l0_0) = some r := by first | (rw [hy332]; with_reducible exact H) | (have H2_ := (Option.bind_some _ _).symm.trans H; rw [hy332]; with_reducible exact H2_) | (have H2_ := (Option.bind_some _ _).symm.trans H; with_reducible exact H2_) | with_reducible exact H | (rw [hy332]; exact H) | exact H
               have Ny332 := am hy332
               clear hy332
               have H' := am H
               clear H
               have p327 : 0 ≤ (x38_3 : Int) := qd
               have q327 : x38_3 < (x7_1.length : Int) := qd
               obtain ⟨ad327, e327, hx327_0⟩ := Kd.at_int (Kd.R_reads' HO_36.out).2.2 x38_3 p327 q327
               obtain rfl : ad326 = ad327 := (by injection e327)
               replace p327 := eq_true p327
               replace q327 := eq_true q327
               have p328 : 0 ≤ ((rd x7_1 x32_2) : Int) := qd
               have q328 : (rd x7_1 x32_2) < (x8_1.length : Int) := qd
               obtain ⟨ad328, e328, hx328_0⟩ := Kd.at_int (Kd.R_reads' HO_8.out).2.2 (rd x7_1 x32_2) p328 q328
               cases e328
               replace p328 := eq_true p328
               replace q328 := eq_true q328
               have hcz41_0 := qz wr BK314.out
               have hfz41_0 := blk_frozen BK314.out 0
               try go_wp2_with (first | (go_at_call 138; (with_reducible refine (spec_laFree.calls k3 _ _ l0_0 (Go.bits .andNot .i64 (rd x7_1 x38_3) (rd x7_1 x32_2)) true _ ?side1 ?side2 A36.out).mono ?_); (case side1 => exact qC (Kd.C_below HR0_0.out HB.out)); (case side2 => exact HC0_0.out); rintro e w42 ⟨rfl, hb⟩; replace HO_7 := am (Kd.R_below (qR HO_7.out) hb); replace HO_8 := am (Kd.R_below (qR HO_8.out) hb); replace HO_9 := am (Kd.R_below (qR HO_9.out) hb); replace HO_30 := am (Kd.R_below (qR HO_30.out) hb); replace HO_36 := am (Kd.R_below (qR HO_36.out) hb); replace BK314 := am (blk_below (g := gb314) (o := .cells #[.slice A0_0 l0_0.length c0_0] 26 (0, 0)) (qb BK314.out) hb); replace HB := am (below_step qB hb); (try clear hb); (try clear hb2); (try clear hk); (try clear hi)))
               have n0_ := am (Kd.R_drew HO_7.out)
               have n1_ := am (Kd.R_drew HO_8.out)
               have n2_ := am (Kd.R_drew HO_9.out)
               have n3_ := am (Kd.R_drew HO_30.out)
               have n4_ := am (Kd.R_drew HO_36.out)
               have n5_ := am (blk_drew BK314.out)
               have n6_ := am (below_drew1 HB.out)
               clear HO_7
               clear HO_8
               clear HO_9
               clear HO_30
               clear HO_36
               clear BK314
               clear HB
               have HO_7 := n0_
               have HO_8 := n1_
               have HO_9 := n2_
               have HO_30 := n3_
               have HO_36 := n4_
               have BK314 := n5_
               have HB := n6_
               clear n0_ n1_ n2_ n3_ n4_ n5_ n6_
               obtain ⟨Ao44, co44, eo44⟩ := Kd.R_slice HO_9.out
               (first | subst eo44 | (injection eo44 with f1_ f2_ f3_; have f4_ := f1_.symm; have f5_ := f3_.symm; clear f1_ f2_ f3_; subst f4_; subst f5_))
               have p330 : 0 ≤ ((rd x7_1 x38_3) : Int) := qd
               have q330 : (rd x7_1 x38_3) < (x9_3.length : Int) := qd
               obtain ⟨ad330, e330, hx330_0⟩ := Kd.at_int (Kd.R_reads' HO_9.out).2.2 (rd x7_1 x38_3) p330 q330
               cases e330
               replace p330 := eq_true p330
               replace q330 := eq_true q330
               have p331 : 0 ≤ ((rd x7_1 x32_2) : Int) := qd
               have q331 : (rd x7_1 x32_2) < (x8_1.length : Int) := qd
               obtain ⟨ad331, e331, hx331_0⟩ := Kd.at_int (Kd.R_reads' HO_8.out).2.2 (rd x7_1 x32_2) p331 q331
               obtain rfl : ad328 = ad331 := (by injection e331)
               replace p331 := eq_true p331
               replace q331 := eq_true q331
               have p40 : 0 ≤ ((rd x7_1 x38_3) : Int) := qd
               have q40 : ((rd x7_1 x38_3) : Int) < ((x9_3.length : Int) : Int) := qd
               obtain ⟨go40, co40, eo40, gb40, gl40, cl40, HG40⟩ := Kd.R_form HO_9.out (by omega)
               (first | cases eo40 | (injection eo40 with ea_ en_ ec_; (first | subst ea_ | (injection ea_ with ea_; subst ea_)); subst ec_; clear en_))
               have GB40 := am gb40
               have GG40 := am HG40
               clear gb40 gl40 HG40
               (first | simp only [add_plain] at hx330_0 | skip)
               obtain ⟨hx40_0, hf40_0⟩ := Kd.R_celln 0 HO_9.out ((rd x7_1 x38_3) : Int) p40 q40
               replace p40 := eq_true p40
               replace q40 := eq_true q40
               have HP45 := Kd.R_putn HO_9.out ((rd x7_1 x38_3) : Int) (wrap64 ((rd x9_3 (rd x7_1 x38_3)) + (rd x8_1 (rd x7_1 x32_2))))
               rw [← Ny332.out] at HP45
               have HQ45 := am HP45
               clear HP45
               refine start_ (n := 11) (S := fun w' => w'.cell? ⟨go40, ((rd x7_1 x38_3)).toNat, none⟩ = some (.int .i64 (rd x9_3 (rd x7_1 x38_3))) ∧ w'.cell? _ = some _) (ds := [10]) #[false, false, false, false, false, false, false, false, false, false, false] (by kernel_rfl) rfl rfl ⟨hx330_0, hx331_0⟩ (fun hHeld => ?_); refine with_tabW spec_laChains.tab14 spec_laChains.bits14 (fun HT_ HW_ => ?_)
               generalize w42.drew = w43 at HO_7 HO_8 HO_9 HO_30 HO_36 BK314 HB GG40 HQ45 hf40_0 hx330_0 hx331_0 hx40_0 hHeld ⊢
               refine pure_ (i := 0) (N := some 64) (v := ?_) (a' := ?_) #[true, false, false, false, false, false, false, false, false, false, false] rfl rfl (any_of HT_.out (by kernel_rfl)) (fun _ _ _ h => h) (Or.inl ⟨by rfl, ?_⟩) ?_ ?_
               rotate_left
               ·intro w'
                go_simp
                with_reducible rfl
               rotate_left
               ·exact qP
               refine pure_ (i := 1) (N := some 65) (v := ?_) (a' := ?_) #[true, true, false, false, false, false, false, false, false, false, false] rfl rfl (any_of HT_.out (by kernel_rfl)) (fun _ _ _ h => h) (Or.inl ⟨by rfl, ?_⟩) ?_ ?_
               rotate_left
               ·intro w'
                go_simp
                with_reducible rfl
               rotate_left
               ·exact qP
               refine pure_ (i := 2) (N := some 66) (v := ?_) (a' := ?_) #[true, true, true, false, false, false, false, false, false, false, false] rfl rfl (any_of HT_.out (by kernel_rfl)) (fun _ _ _ h => h) (Or.inl ⟨by rfl, ?_⟩) ?_ ?_
               rotate_left
               ·intro w'
                go_simp
                with_reducible rfl
               rotate_left
               ·exact qP
               refine pure_ (i := 4) (N := some 68) (v := ?_) (a' := ?_) #[true, true, true, false, true, false, false, false, false, false, false] rfl rfl (any_of HT_.out (by kernel_rfl)) (fun _ _ _ h => h) (Or.inl ⟨by rfl, ?_⟩) ?_ ?_
               rotate_left
               ·intro w'
                go_simp
                with_reducible rfl
               rotate_left
               ·exact qP
               refine pure_ (i := 5) (N := some 69) (v := ?_) (a' := ?_) #[true, true, true, false, true, true, false, false, false, false, false] rfl rfl (any_of HT_.out (by kernel_rfl)) (fun _ _ _ h => h) (Or.inl ⟨by rfl, ?_⟩) ?_ ?_
               rotate_left
               ·intro w'
                go_simp
                with_reducible rfl
               rotate_left
               ·exact qP
               refine pure_ (i := 6) (N := some 70) (v := ?_) (a' := ?_) #[true, true, true, false, true, true, true, false, false, false, false] rfl rfl (any_of HT_.out (by kernel_rfl)) (fun _ _ _ h => h) (Or.inl ⟨by rfl, ?_⟩) ?_ ?_
               rotate_left
               ·intro w'
                go_simp
                with_reducible rfl
               rotate_left
               ·exact qP
               refine take_ (i := 3) (N := some 67) (v := ?_) (a' := ?_) #[true, true, true, true, true, true, true, false, false, false, false] rfl rfl (take_ofW HT_.out HW_.out (by kernel_rfl)) (fun _ _ _ h => h) (Or.inl ⟨by rfl, ?_⟩) hHeld ?_ ?_
               rotate_left
               ·rintro w' ⟨s0, s1⟩
                go_simp
                with_reducible rfl
               rotate_left
               ·exact qP
               refine take_ (i := 7) (N := some 71) (v := ?_) (a' := ?_) #[true, true, true, true, true, true, true, true, false, false, false] rfl rfl (take_ofW HT_.out HW_.out (by kernel_rfl)) (fun _ _ _ h => h) (Or.inl ⟨by rfl, ?_⟩) hHeld ?_ ?_
               rotate_left
               ·rintro w' ⟨s0, s1⟩
                go_simp
                with_reducible rfl
               rotate_left
               ·exact qP
               refine pure_ (i := 8) (N := some 72) (v := ?_) (a' := ?_) #[true, true, true, true, true, true, true, true, true, false, false] rfl rfl (any_of HT_.out (by kernel_rfl)) (fun _ _ _ h => h) (Or.inl ⟨by rfl, ?_⟩) ?_ ?_
               rotate_left
               ·intro w'
                go_simp
                with_reducible rfl
               rotate_left
               ·exact qP
               refine pure_ (i := 9) (N := some 73) (v := ?_) (a' := ?_) #[true, true, true, true, true, true, true, true, true, true, false] rfl rfl (any_of HT_.out (by kernel_rfl)) (fun _ _ _ h => h) (Or.inl ⟨by rfl, ?_⟩) ?_ ?_
               rotate_left
               ·intro w'
                go_simp
                with_reducible rfl
               rotate_left
               ·exact qP
               refine last_ (i := 10) (N := none) #[true, true, true, true, true, true, true, true, true, true, true] rfl rfl (one_of HT_.out (by kernel_rfl)) (by decide) (fun K hK => ?_)
               refine skip_ (w1 := ?_) (by rfl) rfl ?_ ?_
               rotate_left
               ·go_simp
                rfl
               refine hK.out _ _ ?_
               clear hK K
               refine done_ (done_of HT_.out (by kernel_rfl)) ?_
               try go_wp2
               go_roundg k3
               case measure => have := HK1.out; have := HK2.out; have := HK3.out; omega
               case rel => exact ⟨(y332), (wrap64 (x38_3 + 1)), qe, H', ⟨by have := HK1.out; have := HK2.out; have := HK3.out; omega⟩, ⟨qR (Kd.R_mono (Kd.R_far (p := ⟨go40, ((rd x7_1 x38_3) : Int).toNat, none⟩) (Kd.R_mono HO_7.out (fun k_ hk => (⟨hk, fun e_ => hk.2 (by rw [e_]; rfl)⟩ : _ ∧ k_ ≠ go40))) (fun _ hk => hk.2) (.int .i64 (wrap64 ((rd x9_3 (rd x7_1 x38_3)) + (rd x8_1 (rd x7_1 x32_2)))))) (fun _ hk => ⟨hk.1.1, hk.1.2⟩))⟩, ⟨qR (Kd.R_mono (Kd.R_far (p := ⟨go40, ((rd x7_1 x38_3) : Int).toNat, none⟩) (Kd.R_mono HO_8.out (fun k_ hk => (⟨hk, fun e_ => hk.2.1 (by rw [e_]; rfl)⟩ : _ ∧ k_ ≠ go40))) (fun _ hk => hk.2) (.int .i64 (wrap64 ((rd x9_3 (rd x7_1 x38_3)) + (rd x8_1 (rd x7_1 x32_2)))))) (fun _ hk => ⟨hk.1.1, ⟨hk.1.2.1, ⟨hk.1.2.2.1, hk.1.2.2.2⟩⟩⟩))⟩, ⟨qR HQ45.out⟩, ⟨qR (Kd.R_mono (Kd.R_far (p := ⟨go40, ((rd x7_1 x38_3) : Int).toNat, none⟩) (Kd.R_mono HO_30.out (fun k_ hk => (⟨hk, fun e_ => hk.2 (by rw [e_]; rfl)⟩ : _ ∧ k_ ≠ go40))) (fun _ hk => hk.2) (.int .i64 (wrap64 ((rd x9_3 (rd x7_1 x38_3)) + (rd x8_1 (rd x7_1 x32_2)))))) (fun _ hk => ⟨hk.1.1, hk.1.2⟩))⟩, ⟨qR (Kd.R_mono (Kd.R_far (p := ⟨go40, ((rd x7_1 x38_3) : Int).toNat, none⟩) (Kd.R_mono HO_36.out (fun k_ hk => (⟨hk, fun e_ => hk.2 (by rw [e_]; rfl)⟩ : _ ∧ k_ ≠ go40))) (fun _ hk => hk.2) (.int .i64 (wrap64 ((rd x9_3 (rd x7_1 x38_3)) + (rd x8_1 (rd x7_1 x32_2)))))) (fun _ hk => ⟨hk.1.1, hk.1.2⟩))⟩, ⟨by (with_reducible repeat (first | refine blk_drewN ?_ _ | refine blk_drew ?_ | refine blk_alloc ?_ _)); refine blk_far ?_ (by have h_ := Kd.R_ne HO_9.out BK314.out (by decide); intro e_; exact h_ (by rw [e_]; rfl)) _; refine qb ?_; exact BK314.out⟩, ⟨qB⟩⟩
              ·replace c37 := Bool.eq_false_iff.mpr c37
               subst c37
               have H1 : (spec_laChains.l2 k3 x1_1 true x7_1 x8_1 x9_3 (rd x7_1 x32_2) x7_1 (x7_1.length : Int) x32_2 x7_1 (x7_1.length : Int) (wrap64 (x38_3 + 1)) l0_0) = some r := by rw [if_neg (show ¬ (false = true) by decide)] at H; exact H
               clear H
               have H := H1
               clear H1
               have H' := am H
               clear H
               have p327 : 0 ≤ (x38_3 : Int) := qd
               have q327 : x38_3 < (x7_1.length : Int) := qd
               obtain ⟨ad327, e327, hx327_0⟩ := Kd.at_int (Kd.R_reads' HO_36.out).2.2 x38_3 p327 q327
               obtain rfl : ad326 = ad327 := (by injection e327)
               replace p327 := eq_true p327
               replace q327 := eq_true q327
               have p328 : 0 ≤ ((rd x7_1 x32_2) : Int) := qd
               have q328 : (rd x7_1 x32_2) < (x8_1.length : Int) := qd
               obtain ⟨ad328, e328, hx328_0⟩ := Kd.at_int (Kd.R_reads' HO_8.out).2.2 (rd x7_1 x32_2) p328 q328
               cases e328
               replace p328 := eq_true p328
               replace q328 := eq_true q328
               have hcz46_0 := qz wr BK314.out
               have hfz46_0 := blk_frozen BK314.out 0
               go_wp2_with (first | (go_at_call 138; (with_reducible refine (spec_laFree.calls k3 _ _ l0_0 (Go.bits .andNot .i64 (rd x7_1 x38_3) (rd x7_1 x32_2)) false _ ?side1 ?side2 A36.out).mono ?_); (case side1 => exact qC (Kd.C_below HR0_0.out HB.out)); (case side2 => exact HC0_0.out); rintro e w47 ⟨rfl, hb⟩; replace HO_7 := am (Kd.R_below (qR HO_7.out) hb); replace HO_8 := am (Kd.R_below (qR HO_8.out) hb); replace HO_9 := am (Kd.R_below (qR HO_9.out) hb); replace HO_30 := am (Kd.R_below (qR HO_30.out) hb); replace HO_36 := am (Kd.R_below (qR HO_36.out) hb); replace BK314 := am (blk_below (g := gb314) (o := .cells #[.slice A0_0 l0_0.length c0_0] 26 (0, 0)) (qb BK314.out) hb); replace HB := am (below_step qB hb); (try clear hb); (try clear hb2); (try clear hk); (try clear hi)))
               go_roundg k3
               case measure => have := HK1.out; have := HK2.out; have := HK3.out; omega
               case rel => exact ⟨(x9_3), (wrap64 (x38_3 + 1)), qe, H', ⟨by have := HK1.out; have := HK2.out; have := HK3.out; omega⟩, ⟨qR HO_7.out⟩, ⟨qR HO_8.out⟩, ⟨qR HO_9.out⟩, ⟨qR HO_30.out⟩, ⟨qR HO_36.out⟩, ⟨qb BK314.out⟩, ⟨qB⟩⟩
             ·replace c35 := Bool.eq_false_iff.mpr c35
              subst c35
              have H1 : (if 0 ≤ (rd x7_1 x38_3) then (if (rd x7_1 x38_3) < (x9_3.length : Int) then (spec_laChains.l2 k3 x1_1 false x7_1 x8_1 (x9_3.set ((rd x7_1 x38_3) : Int).toNat (wrap64 ((rd x9_3 (rd x7_1 x38_3)) + (rd x8_1 (rd x7_1 x32_2))))) (rd x7_1 x32_2) x7_1 (x7_1.length : Int) x32_2 x7_1 (x7_1.length : Int) (wrap64 (x38_3 + 1)) l0_0) else (none)) else (none)) = some r := by rw [if_neg (show ¬ (false = true) by decide)] at H; exact H
              clear H
              have H := H1
              clear H1
              by_cases c48 : 0 ≤ (rd x7_1 x38_3)
              rotate_left
              ·rw [if_neg c48] at H
               exact absurd H (by simp)
              rw [if_pos c48] at H
              have c48b0 := decide_eq_true c48
              clear c48
              by_cases c49 : (rd x7_1 x38_3) < (x9_3.length : Int)
              rotate_left
              ·rw [if_neg c49] at H
               exact absurd H (by simp)
              rw [if_pos c49] at H
              have c49b0 := decide_eq_true c49
              clear c49
              obtain ⟨y335, hy335⟩ : ∃ y_ : List Int, y_ = (x9_3.set ((rd x7_1 x38_3) : Int).toNat (wrap64 ((rd x9_3 (rd x7_1 x38_3)) + (rd x8_1 (rd x7_1 x32_2))))) := ⟨_, rfl⟩
              replace H : (spec_laChains.l2 k3 x1_1 false x7_1 x8_1 y335 (rd x7_1 x32_2) x7_1 (x7_1.length : Int) x32_2 x7_1 (x7_1.length : Int) (wrap64 (x38_3 + 1)) l0_0) = some r := by first | (rw [hy335]; with_reducible exact H) | (have H2_ := (Option.bind_some _ _).symm.trans H; rw [hy335]; with_reducible exact H2_) | (have H2_ := (Option.bind_some _ _).symm.trans H; with_reducible exact H2_) | with_reducible exact H | (rw [hy335]; exact H) | exact H
              have Ny335 := am hy335
              clear hy335
              have H' := am H
              clear H
              have p327 : 0 ≤ (x38_3 : Int) := qd
              have q327 : x38_3 < (x7_1.length : Int) := qd
              obtain ⟨ad327, e327, hx327_0⟩ := Kd.at_int (Kd.R_reads' HO_36.out).2.2 x38_3 p327 q327
              obtain rfl : ad326 = ad327 := (by injection e327)
              replace p327 := eq_true p327
              replace q327 := eq_true q327
              have p328 : 0 ≤ ((rd x7_1 x32_2) : Int) := qd
              have q328 : (rd x7_1 x32_2) < (x8_1.length : Int) := qd
              obtain ⟨ad328, e328, hx328_0⟩ := Kd.at_int (Kd.R_reads' HO_8.out).2.2 (rd x7_1 x32_2) p328 q328
              cases e328
              replace p328 := eq_true p328
              replace q328 := eq_true q328
              try go_wp2
              have n0_ := am (Kd.R_drew HO_7.out)
              have n1_ := am (Kd.R_drew HO_8.out)
              have n2_ := am (Kd.R_drew HO_9.out)
              have n3_ := am (Kd.R_drew HO_30.out)
              have n4_ := am (Kd.R_drew HO_36.out)
              have n5_ := am (blk_drew BK314.out)
              have n6_ := am (below_drew1 HB.out)
              clear HO_7
              clear HO_8
              clear HO_9
              clear HO_30
              clear HO_36
              clear BK314
              clear HB
              have HO_7 := n0_
              have HO_8 := n1_
              have HO_9 := n2_
              have HO_30 := n3_
              have HO_36 := n4_
              have BK314 := n5_
              have HB := n6_
              clear n0_ n1_ n2_ n3_ n4_ n5_ n6_
              obtain ⟨Ao52, co52, eo52⟩ := Kd.R_slice HO_9.out
              (first | subst eo52 | (injection eo52 with f1_ f2_ f3_; have f4_ := f1_.symm; have f5_ := f3_.symm; clear f1_ f2_ f3_; subst f4_; subst f5_))
              have p333 : 0 ≤ ((rd x7_1 x38_3) : Int) := qd
              have q333 : (rd x7_1 x38_3) < (x9_3.length : Int) := qd
              obtain ⟨ad333, e333, hx333_0⟩ := Kd.at_int (Kd.R_reads' HO_9.out).2.2 (rd x7_1 x38_3) p333 q333
              cases e333
              replace p333 := eq_true p333
              replace q333 := eq_true q333
              have p334 : 0 ≤ ((rd x7_1 x32_2) : Int) := qd
              have q334 : (rd x7_1 x32_2) < (x8_1.length : Int) := qd
              obtain ⟨ad334, e334, hx334_0⟩ := Kd.at_int (Kd.R_reads' HO_8.out).2.2 (rd x7_1 x32_2) p334 q334
              obtain rfl : ad328 = ad334 := (by injection e334)
              replace p334 := eq_true p334
              replace q334 := eq_true q334
              have p50 : 0 ≤ ((rd x7_1 x38_3) : Int) := qd
              have q50 : ((rd x7_1 x38_3) : Int) < ((x9_3.length : Int) : Int) := qd
              obtain ⟨go50, co50, eo50, gb50, gl50, cl50, HG50⟩ := Kd.R_form HO_9.out (by omega)
              (first | cases eo50 | (injection eo50 with ea_ en_ ec_; (first | subst ea_ | (injection ea_ with ea_; subst ea_)); subst ec_; clear en_))
              have GB50 := am gb50
              have GG50 := am HG50
              clear gb50 gl50 HG50
              (first | simp only [add_plain] at hx333_0 | skip)
              obtain ⟨hx50_0, hf50_0⟩ := Kd.R_celln 0 HO_9.out ((rd x7_1 x38_3) : Int) p50 q50
              replace p50 := eq_true p50
              replace q50 := eq_true q50
              have HP53 := Kd.R_putn HO_9.out ((rd x7_1 x38_3) : Int) (wrap64 ((rd x9_3 (rd x7_1 x38_3)) + (rd x8_1 (rd x7_1 x32_2))))
              rw [← Ny335.out] at HP53
              have HQ53 := am HP53
              clear HP53
              refine start_ (n := 11) (S := fun w' => w'.cell? ⟨go50, ((rd x7_1 x38_3)).toNat, none⟩ = some (.int .i64 (rd x9_3 (rd x7_1 x38_3))) ∧ w'.cell? _ = some _) (ds := [10]) #[false, false, false, false, false, false, false, false, false, false, false] (by kernel_rfl) rfl rfl ⟨hx333_0, hx334_0⟩ (fun hHeld => ?_); refine with_tabW spec_laChains.tab14 spec_laChains.bits14 (fun HT_ HW_ => ?_)
              generalize wr.drew = w51 at HO_7 HO_8 HO_9 HO_30 HO_36 BK314 HB GG50 HQ53 hf50_0 hx333_0 hx334_0 hx50_0 hHeld ⊢
              refine pure_ (i := 0) (N := some 64) (v := ?_) (a' := ?_) #[true, false, false, false, false, false, false, false, false, false, false] rfl rfl (any_of HT_.out (by kernel_rfl)) (fun _ _ _ h => h) (Or.inl ⟨by rfl, ?_⟩) ?_ ?_
              rotate_left
              ·intro w'
               go_simp
               with_reducible rfl
              rotate_left
              ·exact qP
              refine pure_ (i := 1) (N := some 65) (v := ?_) (a' := ?_) #[true, true, false, false, false, false, false, false, false, false, false] rfl rfl (any_of HT_.out (by kernel_rfl)) (fun _ _ _ h => h) (Or.inl ⟨by rfl, ?_⟩) ?_ ?_
              rotate_left
              ·intro w'
               go_simp
               with_reducible rfl
              rotate_left
              ·exact qP
              refine pure_ (i := 2) (N := some 66) (v := ?_) (a' := ?_) #[true, true, true, false, false, false, false, false, false, false, false] rfl rfl (any_of HT_.out (by kernel_rfl)) (fun _ _ _ h => h) (Or.inl ⟨by rfl, ?_⟩) ?_ ?_
              rotate_left
              ·intro w'
               go_simp
               with_reducible rfl
              rotate_left
              ·exact qP
              refine pure_ (i := 4) (N := some 68) (v := ?_) (a' := ?_) #[true, true, true, false, true, false, false, false, false, false, false] rfl rfl (any_of HT_.out (by kernel_rfl)) (fun _ _ _ h => h) (Or.inl ⟨by rfl, ?_⟩) ?_ ?_
              rotate_left
              ·intro w'
               go_simp
               with_reducible rfl
              rotate_left
              ·exact qP
              refine pure_ (i := 5) (N := some 69) (v := ?_) (a' := ?_) #[true, true, true, false, true, true, false, false, false, false, false] rfl rfl (any_of HT_.out (by kernel_rfl)) (fun _ _ _ h => h) (Or.inl ⟨by rfl, ?_⟩) ?_ ?_
              rotate_left
              ·intro w'
               go_simp
               with_reducible rfl
              rotate_left
              ·exact qP
              refine pure_ (i := 6) (N := some 70) (v := ?_) (a' := ?_) #[true, true, true, false, true, true, true, false, false, false, false] rfl rfl (any_of HT_.out (by kernel_rfl)) (fun _ _ _ h => h) (Or.inl ⟨by rfl, ?_⟩) ?_ ?_
              rotate_left
              ·intro w'
               go_simp
               with_reducible rfl
              rotate_left
              ·exact qP
              refine take_ (i := 3) (N := some 67) (v := ?_) (a' := ?_) #[true, true, true, true, true, true, true, false, false, false, false] rfl rfl (take_ofW HT_.out HW_.out (by kernel_rfl)) (fun _ _ _ h => h) (Or.inl ⟨by rfl, ?_⟩) hHeld ?_ ?_
              rotate_left
              ·rintro w' ⟨s0, s1⟩
               go_simp
               with_reducible rfl
              rotate_left
              ·exact qP
              refine take_ (i := 7) (N := some 71) (v := ?_) (a' := ?_) #[true, true, true, true, true, true, true, true, false, false, false] rfl rfl (take_ofW HT_.out HW_.out (by kernel_rfl)) (fun _ _ _ h => h) (Or.inl ⟨by rfl, ?_⟩) hHeld ?_ ?_
              rotate_left
              ·rintro w' ⟨s0, s1⟩
               go_simp
               with_reducible rfl
              rotate_left
              ·exact qP
              refine pure_ (i := 8) (N := some 72) (v := ?_) (a' := ?_) #[true, true, true, true, true, true, true, true, true, false, false] rfl rfl (any_of HT_.out (by kernel_rfl)) (fun _ _ _ h => h) (Or.inl ⟨by rfl, ?_⟩) ?_ ?_
              rotate_left
              ·intro w'
               go_simp
               with_reducible rfl
              rotate_left
              ·exact qP
              refine pure_ (i := 9) (N := some 73) (v := ?_) (a' := ?_) #[true, true, true, true, true, true, true, true, true, true, false] rfl rfl (any_of HT_.out (by kernel_rfl)) (fun _ _ _ h => h) (Or.inl ⟨by rfl, ?_⟩) ?_ ?_
              rotate_left
              ·intro w'
               go_simp
               with_reducible rfl
              rotate_left
              ·exact qP
              refine last_ (i := 10) (N := none) #[true, true, true, true, true, true, true, true, true, true, true] rfl rfl (one_of HT_.out (by kernel_rfl)) (by decide) (fun K hK => ?_)
              refine skip_ (w1 := ?_) (by rfl) rfl ?_ ?_
              rotate_left
              ·go_simp
               rfl
              refine hK.out _ _ ?_
              clear hK K
              refine done_ (done_of HT_.out (by kernel_rfl)) ?_
              try go_wp2
              go_roundg k3
              case measure => have := HK1.out; have := HK2.out; have := HK3.out; omega
              case rel => exact ⟨(y335), (wrap64 (x38_3 + 1)), qe, H', ⟨by have := HK1.out; have := HK2.out; have := HK3.out; omega⟩, ⟨qR (Kd.R_mono (Kd.R_far (p := ⟨go50, ((rd x7_1 x38_3) : Int).toNat, none⟩) (Kd.R_mono HO_7.out (fun k_ hk => (⟨hk, fun e_ => hk.2 (by rw [e_]; rfl)⟩ : _ ∧ k_ ≠ go50))) (fun _ hk => hk.2) (.int .i64 (wrap64 ((rd x9_3 (rd x7_1 x38_3)) + (rd x8_1 (rd x7_1 x32_2)))))) (fun _ hk => ⟨hk.1.1, hk.1.2⟩))⟩, ⟨qR (Kd.R_mono (Kd.R_far (p := ⟨go50, ((rd x7_1 x38_3) : Int).toNat, none⟩) (Kd.R_mono HO_8.out (fun k_ hk => (⟨hk, fun e_ => hk.2.1 (by rw [e_]; rfl)⟩ : _ ∧ k_ ≠ go50))) (fun _ hk => hk.2) (.int .i64 (wrap64 ((rd x9_3 (rd x7_1 x38_3)) + (rd x8_1 (rd x7_1 x32_2)))))) (fun _ hk => ⟨hk.1.1, ⟨hk.1.2.1, ⟨hk.1.2.2.1, hk.1.2.2.2⟩⟩⟩))⟩, ⟨qR HQ53.out⟩, ⟨qR (Kd.R_mono (Kd.R_far (p := ⟨go50, ((rd x7_1 x38_3) : Int).toNat, none⟩) (Kd.R_mono HO_30.out (fun k_ hk => (⟨hk, fun e_ => hk.2 (by rw [e_]; rfl)⟩ : _ ∧ k_ ≠ go50))) (fun _ hk => hk.2) (.int .i64 (wrap64 ((rd x9_3 (rd x7_1 x38_3)) + (rd x8_1 (rd x7_1 x32_2)))))) (fun _ hk => ⟨hk.1.1, hk.1.2⟩))⟩, ⟨qR (Kd.R_mono (Kd.R_far (p := ⟨go50, ((rd x7_1 x38_3) : Int).toNat, none⟩) (Kd.R_mono HO_36.out (fun k_ hk => (⟨hk, fun e_ => hk.2 (by rw [e_]; rfl)⟩ : _ ∧ k_ ≠ go50))) (fun _ hk => hk.2) (.int .i64 (wrap64 ((rd x9_3 (rd x7_1 x38_3)) + (rd x8_1 (rd x7_1 x32_2)))))) (fun _ hk => ⟨hk.1.1, hk.1.2⟩))⟩, ⟨by (with_reducible repeat (first | refine blk_drewN ?_ _ | refine blk_drew ?_ | refine blk_alloc ?_ _)); refine blk_far ?_ (by have h_ := Kd.R_ne HO_9.out BK314.out (by decide); intro e_; exact h_ (by rw [e_]; rfl)) _; refine qb ?_; exact BK314.out⟩, ⟨qB⟩⟩
            ·rw [if_neg c34] at H
             have c34b0 : ((Go.bits .andNot .i64 (rd x7_1 x32_2) (rd x7_1 x38_3)) == 0) = false := beq_eq_false_iff_ne.mpr c34
             have c34b1 : ((Go.bits .andNot .i64 (rd x7_1 x32_2) (rd x7_1 x38_3)) != 0) = true := bne_iff_ne.mpr c34
             have H' := am H
             clear H
             have p327 : 0 ≤ (x38_3 : Int) := qd
             have q327 : x38_3 < (x7_1.length : Int) := qd
             obtain ⟨ad327, e327, hx327_0⟩ := Kd.at_int (Kd.R_reads' HO_36.out).2.2 x38_3 p327 q327
             obtain rfl : ad326 = ad327 := (by injection e327)
             replace p327 := eq_true p327
             replace q327 := eq_true q327
             have p328 : 0 ≤ ((rd x7_1 x32_2) : Int) := qd
             have q328 : (rd x7_1 x32_2) < (x8_1.length : Int) := qd
             obtain ⟨ad328, e328, hx328_0⟩ := Kd.at_int (Kd.R_reads' HO_8.out).2.2 (rd x7_1 x32_2) p328 q328
             cases e328
             replace p328 := eq_true p328
             replace q328 := eq_true q328
             go_wp2
             go_roundg k3
             case measure => have := HK1.out; have := HK2.out; have := HK3.out; omega
             case rel => exact ⟨(x9_3), (wrap64 (x38_3 + 1)), qe, H', ⟨by have := HK1.out; have := HK2.out; have := HK3.out; omega⟩, ⟨qR HO_7.out⟩, ⟨qR HO_8.out⟩, ⟨qR HO_9.out⟩, ⟨qR HO_30.out⟩, ⟨qR HO_36.out⟩, ⟨qb BK314.out⟩, ⟨qB⟩⟩
           ·rw [if_neg c33] at H
            have c33b0 : decide (0 < (rd x8_1 (rd x7_1 x32_2))) = false := decide_eq_false c33
            clear c33
            have H' := am H
            clear H
            have p327 : 0 ≤ (x38_3 : Int) := qd
            have q327 : x38_3 < (x7_1.length : Int) := qd
            obtain ⟨ad327, e327, hx327_0⟩ := Kd.at_int (Kd.R_reads' HO_36.out).2.2 x38_3 p327 q327
            obtain rfl : ad326 = ad327 := (by injection e327)
            replace p327 := eq_true p327
            replace q327 := eq_true q327
            have p328 : 0 ≤ ((rd x7_1 x32_2) : Int) := qd
            have q328 : (rd x7_1 x32_2) < (x8_1.length : Int) := qd
            obtain ⟨ad328, e328, hx328_0⟩ := Kd.at_int (Kd.R_reads' HO_8.out).2.2 (rd x7_1 x32_2) p328 q328
            cases e328
            replace p328 := eq_true p328
            replace q328 := eq_true q328
            go_wp2
            go_roundg k3
            case measure => have := HK1.out; have := HK2.out; have := HK3.out; omega
            case rel => exact ⟨(x9_3), (wrap64 (x38_3 + 1)), qe, H', ⟨by have := HK1.out; have := HK2.out; have := HK3.out; omega⟩, ⟨qR HO_7.out⟩, ⟨qR HO_8.out⟩, ⟨qR HO_9.out⟩, ⟨qR HO_30.out⟩, ⟨qR HO_36.out⟩, ⟨qb BK314.out⟩, ⟨qB⟩⟩
          ·rw [if_neg c28] at H
           have c28b0 := decide_eq_false c28
           clear c28
           have H' := am H
           clear H
           go_wp2
           go_roundg k3
           case measure => have := HK1.out; have := HK2.out; have := HK3.out; omega
           case rel => exact ⟨(x9_3), (wrap64 (x32_2 + 1)), qe, H', ⟨by have := HK1.out; have := HK2.out; have := HK3.out; omega⟩, ⟨qR HO_7.out⟩, ⟨qR (Kd.R_mono HO_8.out (fun _ hk => ⟨hk.1, ⟨hk.2.1, hk.2.2.1⟩⟩))⟩, ⟨qR (Kd.R_mono HO_9.out (fun _ hk => ⟨hk.1, ⟨hk.2.1, hk.2.2.1⟩⟩))⟩, ⟨qR HO_30.out⟩, ⟨qb BK314.out⟩, ⟨qB⟩⟩
       ·rw [if_neg c25] at H
        have c25b0 := decide_eq_false c25
        clear c25
        have H' := am H
        clear H
        go_wp2
        go_roundg k2
        case measure => have := HK1.out; have := HK2.out; omega
        case rel => exact ⟨(wrap64 (x1_1 - 1)), (x7_1), (x9_2), qe, H', ⟨by have := HK1.out; have := HK2.out; omega⟩, ⟨qR (Kd.R_mono HO_7.out (fun _ hk => hk.2))⟩, ⟨qR (Kd.R_mono HO_9.out (fun _ hk => hk.1))⟩, ⟨qb BK314.out⟩, ⟨qB⟩⟩
    ·rw [if_neg c18] at H
     have c18b0 : decide (0 < x1_1) = false := decide_eq_false c18
     clear c18
     obtain ⟨ji54, hji54⟩ : ∃ j_ : Int, (wrap64 ((x8_1.length : Int) - 1)) = j_ := ⟨_, rfl⟩
     replace H : (if 0 ≤ (ji54) then (if (ji54) < (x8_1.length : Int) then (some (rd x8_1 (ji54))) else (none)) else (none)) = some r := by first | (rw [hji54] at H; exact H) | (simp only [hji54] at H ⊢; exact H)
     have hji54w : (IntKind.i64.wrap ((x8_1.length : Int) - 1)) = ji54 := (i64_w _).trans hji54
     by_cases c55 : 0 ≤ (ji54)
     rotate_left
     ·rw [if_neg c55] at H
      exact absurd H (by simp)
     rw [if_pos c55] at H
     have c55b0 := decide_eq_true c55
     clear c55
     by_cases c56 : (ji54) < (x8_1.length : Int)
     rotate_left
     ·rw [if_neg c56] at H
      exact absurd H (by simp)
     rw [if_pos c56] at H
     have c56b0 := decide_eq_true c56
     clear c56
     obtain rfl := Option.some.inj H
     obtain ⟨Ao57, co57, eo57⟩ := Kd.R_slice HO_8.out
     subst eo57
     have p322 : 0 ≤ ((ji54) : Int) := qd
     have q322 : (ji54) < (x8_1.length : Int) := qd
     obtain ⟨ad322, e322, hx322_0⟩ := Kd.at_int (Kd.R_reads' HO_8.out).2.2 (ji54) p322 q322
     cases e322
     replace p322 := eq_true p322
     replace q322 := eq_true q322
     go_wp2
     go_ret
     exact ⟨by first | rfl | (simp [errW_none, errW_some] <;> rfl) | (simp only [← hji5, ← hji54]; first | rfl | (simp [errW_none, errW_some] <;> rfl)) | (simp [*, errW_none, errW_some] <;> rfl), qB⟩
 ·rw [if_neg c6] at H
  exact absurd H (by simp)
def spec_CountLabels.f (k : Nat) (l0_0 : List Int) (a1 : Int) : Option (Int × Bool) := (spec_poGood.f k l0_0).bind fun t673 => (if t673 = true then ((spec_laBound.f a1).bind fun t674 => (if t674 = true then ((spec_laChains.f k l0_0 (wrap64 (a1 + 1)) false).bind fun t675 => (some (t675, true))) else (some (0, false)))) else (some (0, false)))
theorem spec_CountLabels.mono : ∀ a0 a1 k, LeO (spec_CountLabels.f k a0 a1) (spec_CountLabels.f (k + 1) a0 a1) := by
 intro a0 a1 k
 unfold spec_CountLabels.f
 repeat' first
  | (with_reducible exact spec_laChains.mono _ _ _ _)
  | (with_reducible exact spec_poGood.mono _ _)
  | (with_reducible exact LeO.refl _)
  | (with_reducible exact LeO.none _)
  | (with_reducible refine LeO.ite ?_ ?_)
  | (with_reducible refine LeO.bind ?_ (fun _ => ?_))
  | exact spec_laChains.mono _ _ _ _
  | exact spec_poGood.mono _ _
  | exact LeO.none _
  | refine LeO.ite ?_ ?_
  | refine LeO.bind ?_ (fun _ => ?_)
set_option maxHeartbeats 8000000 in
set_option maxRecDepth 100000 in
theorem spec_CountLabels.calls (k : Nat) (A0_0 : Option Addr) (c0_0 : Nat) (l0_0 : List Int) (a1 : Int) (r1 : Int) (r2 : Bool) (w : World) (hr0_0 : Kd.C (Kd.int .i64) w A0_0 l0_0.length l0_0) (hc0_0 : l0_0.length ≤ c0_0) (h : spec_CountLabels.f k l0_0 a1 = some (r1, r2)) :
 Calls Try.prog 31 #[.agg #[.slice A0_0 l0_0.length c0_0], .int .i64 a1] w fun e w' => e = .returned (.tuple #[.int .i64 r1, .bool r2]) ∧ Below w.heap.size w w' := by
 have hu26 := Try.underlying26
 have HR0_0 := am hr0_0
 have HC0_0 := am hc0_0
 clear hr0_0 hc0_0
 have HB := am (Below.refl w.heap.size w)
 have H : ((spec_poGood.f k l0_0).bind fun t673 => (if t673 = true then ((spec_laBound.f a1).bind fun t674 => (if t674 = true then ((spec_laChains.f k l0_0 (wrap64 (a1 + 1)) false).bind fun t675 => (some (t675, true))) else (some (0, false)))) else (some (0, false)))) = some (r1, r2) := h
 clear h
 replace H := Option.bind_eq_some_iff.mp H
 obtain ⟨t673, A30, H⟩ := H
 replace H : (if t673 = true then ((spec_laBound.f a1).bind fun t674 => (if t674 = true then ((spec_laChains.f k l0_0 (wrap64 (a1 + 1)) false).bind fun t675 => (some (t675, true))) else (some (0, false)))) else (some (0, false))) = some (r1, r2) := H
 have A3 := am A30
 clear A30
 by_cases c4 : t673 = true
 ·subst c4
  have H1 : ((spec_laBound.f a1).bind fun t674 => (if t674 = true then ((spec_laChains.f k l0_0 (wrap64 (a1 + 1)) false).bind fun t675 => (some (t675, true))) else (some (0, false)))) = some (r1, r2) := by rw [if_pos rfl] at H; exact H
  clear H
  have H := H1
  clear H1
  replace H := Option.bind_eq_some_iff.mp H
  obtain ⟨t674, A50, H⟩ := H
  replace H : (if t674 = true then ((spec_laChains.f k l0_0 (wrap64 (a1 + 1)) false).bind fun t675 => (some (t675, true))) else (some (0, false))) = some (r1, r2) := H
  have A5 := am A50
  clear A50
  by_cases c6 : t674 = true
  ·subst c6
   have H1 : ((spec_laChains.f k l0_0 (wrap64 (a1 + 1)) false).bind fun t675 => (some (t675, true))) = some (r1, r2) := by rw [if_pos rfl] at H; exact H
   clear H
   have H := H1
   clear H1
   replace H := Option.bind_eq_some_iff.mp H
   obtain ⟨t675, A70, H⟩ := H
   replace H : (some (t675, true)) = some (r1, r2) := H
   have A7 := am A70
   clear A70
   simp only [Option.some.injEq, Prod.mk.injEq] at H
   obtain ⟨rfl, rfl⟩ := H
   go_enter Try.func31, Try.ntmps31
   go_wp2_with (first | ((with_reducible refine gate_dst (N := 2) rfl ?_); refine qx (N := 2) (cs := #[.slice A0_0 l0_0.length c0_0]) (t := 26) ?_; intro gb672 hg w8 hbox hb; have n0_ := am (below_step qB hb); have BK672 := am (hbox); have GW672 := am (qg w hg); have GE672 := am (qg w hg); clear HB; have HB := n0_; clear n0_; clear hb hbox hg; have hcz9_0 := qz w8 BK672.out; have hfz9_0 := blk_frozen BK672.out 0) | ((with_reducible refine gate_callee (f := 82) rfl ?_); refine gL (some 7) Try.func82 #[.agg #[.slice A0_0 l0_0.length c0_0]] ?_; (with_reducible refine (spec_poGood.calls k _ _ l0_0 true _ ?side1 ?side2 A3.out).mono ?_); (case side1 => exact qC (Kd.C_below HR0_0.out HB.out)); (case side2 => exact HC0_0.out); rintro e w10 ⟨rfl, hb⟩; refine ⟨_, rfl, ?_⟩; replace BK672 := am (blk_below (g := gb672) (o := .cells #[.slice A0_0 l0_0.length c0_0] 26 (0, 0)) (qb BK672.out) hb); replace HB := am (below_step qB hb); (try clear hb); (try clear hb2); (try clear hk); (try clear hi)) | (go_at_call 83; (with_reducible refine (spec_laBound.calls a1 true _ A5.out).mono ?_); rintro e w' ⟨rfl, ⟨nd, rfl⟩⟩; have hcz11_0 := qz w10 BK672.out; have hfz11_0 := blk_frozen BK672.out 0) | ((with_reducible refine gate_callee (f := 96) rfl ?_); refine gL (some 17) Try.func96 #[.agg #[.slice A0_0 l0_0.length c0_0], .int .i64 (wrap64 (a1 + 1)), .bool false] ?_; (with_reducible refine (spec_laChains.calls k _ _ l0_0 (wrap64 (a1 + 1)) false t675 _ ?side1 ?side2 A7.out).mono ?_); (case side1 => exact qC (Kd.C_below HR0_0.out qB)); (case side2 => exact HC0_0.out); rintro e w12 ⟨rfl, hb⟩; refine ⟨_, rfl, ?_⟩; replace BK672 := am (blk_below (g := gb672) (o := .cells #[.slice A0_0 l0_0.length c0_0] 26 (0, 0)) (qb BK672.out) hb); replace HB := am (below_step qB hb); (try clear hb); (try clear hb2); (try clear hk); (try clear hi)))
   go_ret2
   exact ⟨qr, qB⟩
  ·replace c6 := Bool.eq_false_iff.mpr c6
   subst c6
   have H1 : (some (0, false)) = some (r1, r2) := by rw [if_neg (show ¬ (false = true) by decide)] at H; exact H
   clear H
   have H := H1
   clear H1
   simp only [Option.some.injEq, Prod.mk.injEq] at H
   obtain ⟨rfl, rfl⟩ := H
   go_enter Try.func31, Try.ntmps31
   go_wp2_with (first | ((with_reducible refine gate_dst (N := 2) rfl ?_); refine qx (N := 2) (cs := #[.slice A0_0 l0_0.length c0_0]) (t := 26) ?_; intro gb672 hg w13 hbox hb; have n0_ := am (below_step qB hb); have BK672 := am (hbox); have GW672 := am (qg w hg); have GE672 := am (qg w hg); clear HB; have HB := n0_; clear n0_; clear hb hbox hg; have hcz14_0 := qz w13 BK672.out; have hfz14_0 := blk_frozen BK672.out 0) | ((with_reducible refine gate_callee (f := 82) rfl ?_); refine gL (some 7) Try.func82 #[.agg #[.slice A0_0 l0_0.length c0_0]] ?_; (with_reducible refine (spec_poGood.calls k _ _ l0_0 true _ ?side1 ?side2 A3.out).mono ?_); (case side1 => exact qC (Kd.C_below HR0_0.out HB.out)); (case side2 => exact HC0_0.out); rintro e w15 ⟨rfl, hb⟩; refine ⟨_, rfl, ?_⟩; replace BK672 := am (blk_below (g := gb672) (o := .cells #[.slice A0_0 l0_0.length c0_0] 26 (0, 0)) (qb BK672.out) hb); replace HB := am (below_step qB hb); (try clear hb); (try clear hb2); (try clear hk); (try clear hi)) | (go_at_call 83; (with_reducible refine (spec_laBound.calls a1 false _ A5.out).mono ?_); rintro e w' ⟨rfl, ⟨nd, rfl⟩⟩))
   go_ret2
   exact ⟨qr, qB⟩
 ·replace c4 := Bool.eq_false_iff.mpr c4
  subst c4
  have H1 : (some (0, false)) = some (r1, r2) := by rw [if_neg (show ¬ (false = true) by decide)] at H; exact H
  clear H
  have H := H1
  clear H1
  simp only [Option.some.injEq, Prod.mk.injEq] at H
  obtain ⟨rfl, rfl⟩ := H
  go_enter Try.func31, Try.ntmps31
  go_wp2_with (first | ((with_reducible refine gate_dst (N := 2) rfl ?_); refine qx (N := 2) (cs := #[.slice A0_0 l0_0.length c0_0]) (t := 26) ?_; intro gb672 hg w16 hbox hb; have n0_ := am (below_step qB hb); have BK672 := am (hbox); have GW672 := am (qg w hg); have GE672 := am (qg w hg); clear HB; have HB := n0_; clear n0_; clear hb hbox hg; have hcz17_0 := qz w16 BK672.out; have hfz17_0 := blk_frozen BK672.out 0) | ((with_reducible refine gate_callee (f := 82) rfl ?_); refine gL (some 7) Try.func82 #[.agg #[.slice A0_0 l0_0.length c0_0]] ?_; (with_reducible refine (spec_poGood.calls k _ _ l0_0 false _ ?side1 ?side2 A3.out).mono ?_); (case side1 => exact qC (Kd.C_below HR0_0.out HB.out)); (case side2 => exact HC0_0.out); rintro e w18 ⟨rfl, hb⟩; refine ⟨_, rfl, ?_⟩; replace BK672 := am (blk_below (g := gb672) (o := .cells #[.slice A0_0 l0_0.length c0_0] 26 (0, 0)) (qb BK672.out) hb); replace HB := am (below_step qB hb); (try clear hb); (try clear hb2); (try clear hk); (try clear hi)))
  go_ret2
  exact ⟨qr, qB⟩
def spec_CountStrict.f (k : Nat) (l0_0 : List Int) (a1 : Int) : Option (Int × Bool) := (spec_poGood.f k l0_0).bind fun t692 => (if t692 = true then ((spec_laBound.f a1).bind fun t693 => (if t693 = true then ((spec_laChains.f k l0_0 (wrap64 (a1 + 1)) true).bind fun t694 => (some (t694, true))) else (some (0, false)))) else (some (0, false)))
theorem spec_CountStrict.mono : ∀ a0 a1 k, LeO (spec_CountStrict.f k a0 a1) (spec_CountStrict.f (k + 1) a0 a1) := by
 intro a0 a1 k
 unfold spec_CountStrict.f
 repeat' first
  | (with_reducible exact spec_laChains.mono _ _ _ _)
  | (with_reducible exact spec_poGood.mono _ _)
  | (with_reducible exact LeO.refl _)
  | (with_reducible exact LeO.none _)
  | (with_reducible refine LeO.ite ?_ ?_)
  | (with_reducible refine LeO.bind ?_ (fun _ => ?_))
  | exact spec_laChains.mono _ _ _ _
  | exact spec_poGood.mono _ _
  | exact LeO.none _
  | refine LeO.ite ?_ ?_
  | refine LeO.bind ?_ (fun _ => ?_)
set_option maxHeartbeats 8000000 in
set_option maxRecDepth 100000 in
theorem spec_CountStrict.calls (k : Nat) (A0_0 : Option Addr) (c0_0 : Nat) (l0_0 : List Int) (a1 : Int) (r1 : Int) (r2 : Bool) (w : World) (hr0_0 : Kd.C (Kd.int .i64) w A0_0 l0_0.length l0_0) (hc0_0 : l0_0.length ≤ c0_0) (h : spec_CountStrict.f k l0_0 a1 = some (r1, r2)) :
 Calls Try.prog 33 #[.agg #[.slice A0_0 l0_0.length c0_0], .int .i64 a1] w fun e w' => e = .returned (.tuple #[.int .i64 r1, .bool r2]) ∧ Below w.heap.size w w' := by
 have hu26 := Try.underlying26
 have HR0_0 := am hr0_0
 have HC0_0 := am hc0_0
 clear hr0_0 hc0_0
 have HB := am (Below.refl w.heap.size w)
 have H : ((spec_poGood.f k l0_0).bind fun t692 => (if t692 = true then ((spec_laBound.f a1).bind fun t693 => (if t693 = true then ((spec_laChains.f k l0_0 (wrap64 (a1 + 1)) true).bind fun t694 => (some (t694, true))) else (some (0, false)))) else (some (0, false)))) = some (r1, r2) := h
 clear h
 replace H := Option.bind_eq_some_iff.mp H
 obtain ⟨t692, A30, H⟩ := H
 replace H : (if t692 = true then ((spec_laBound.f a1).bind fun t693 => (if t693 = true then ((spec_laChains.f k l0_0 (wrap64 (a1 + 1)) true).bind fun t694 => (some (t694, true))) else (some (0, false)))) else (some (0, false))) = some (r1, r2) := H
 have A3 := am A30
 clear A30
 by_cases c4 : t692 = true
 ·subst c4
  have H1 : ((spec_laBound.f a1).bind fun t693 => (if t693 = true then ((spec_laChains.f k l0_0 (wrap64 (a1 + 1)) true).bind fun t694 => (some (t694, true))) else (some (0, false)))) = some (r1, r2) := by rw [if_pos rfl] at H; exact H
  clear H
  have H := H1
  clear H1
  replace H := Option.bind_eq_some_iff.mp H
  obtain ⟨t693, A50, H⟩ := H
  replace H : (if t693 = true then ((spec_laChains.f k l0_0 (wrap64 (a1 + 1)) true).bind fun t694 => (some (t694, true))) else (some (0, false))) = some (r1, r2) := H
  have A5 := am A50
  clear A50
  by_cases c6 : t693 = true
  ·subst c6
   have H1 : ((spec_laChains.f k l0_0 (wrap64 (a1 + 1)) true).bind fun t694 => (some (t694, true))) = some (r1, r2) := by rw [if_pos rfl] at H; exact H
   clear H
   have H := H1
   clear H1
   replace H := Option.bind_eq_some_iff.mp H
   obtain ⟨t694, A70, H⟩ := H
   replace H : (some (t694, true)) = some (r1, r2) := H
   have A7 := am A70
   clear A70
   simp only [Option.some.injEq, Prod.mk.injEq] at H
   obtain ⟨rfl, rfl⟩ := H
   go_enter Try.func33, Try.ntmps33
   go_wp2_with (first | ((with_reducible refine gate_dst (N := 2) rfl ?_); refine qx (N := 2) (cs := #[.slice A0_0 l0_0.length c0_0]) (t := 26) ?_; intro gb691 hg w8 hbox hb; have n0_ := am (below_step qB hb); have BK691 := am (hbox); have GW691 := am (qg w hg); have GE691 := am (qg w hg); clear HB; have HB := n0_; clear n0_; clear hb hbox hg; have hcz9_0 := qz w8 BK691.out; have hfz9_0 := blk_frozen BK691.out 0) | ((with_reducible refine gate_callee (f := 82) rfl ?_); refine gL (some 7) Try.func82 #[.agg #[.slice A0_0 l0_0.length c0_0]] ?_; (with_reducible refine (spec_poGood.calls k _ _ l0_0 true _ ?side1 ?side2 A3.out).mono ?_); (case side1 => exact qC (Kd.C_below HR0_0.out HB.out)); (case side2 => exact HC0_0.out); rintro e w10 ⟨rfl, hb⟩; refine ⟨_, rfl, ?_⟩; replace BK691 := am (blk_below (g := gb691) (o := .cells #[.slice A0_0 l0_0.length c0_0] 26 (0, 0)) (qb BK691.out) hb); replace HB := am (below_step qB hb); (try clear hb); (try clear hb2); (try clear hk); (try clear hi)) | (go_at_call 83; (with_reducible refine (spec_laBound.calls a1 true _ A5.out).mono ?_); rintro e w' ⟨rfl, ⟨nd, rfl⟩⟩; have hcz11_0 := qz w10 BK691.out; have hfz11_0 := blk_frozen BK691.out 0) | ((with_reducible refine gate_callee (f := 96) rfl ?_); refine gL (some 17) Try.func96 #[.agg #[.slice A0_0 l0_0.length c0_0], .int .i64 (wrap64 (a1 + 1)), .bool true] ?_; (with_reducible refine (spec_laChains.calls k _ _ l0_0 (wrap64 (a1 + 1)) true t694 _ ?side1 ?side2 A7.out).mono ?_); (case side1 => exact qC (Kd.C_below HR0_0.out qB)); (case side2 => exact HC0_0.out); rintro e w12 ⟨rfl, hb⟩; refine ⟨_, rfl, ?_⟩; replace BK691 := am (blk_below (g := gb691) (o := .cells #[.slice A0_0 l0_0.length c0_0] 26 (0, 0)) (qb BK691.out) hb); replace HB := am (below_step qB hb); (try clear hb); (try clear hb2); (try clear hk); (try clear hi)))
   go_ret2
   exact ⟨qr, qB⟩
  ·replace c6 := Bool.eq_false_iff.mpr c6
   subst c6
   have H1 : (some (0, false)) = some (r1, r2) := by rw [if_neg (show ¬ (false = true) by decide)] at H; exact H
   clear H
   have H := H1
   clear H1
   simp only [Option.some.injEq, Prod.mk.injEq] at H
   obtain ⟨rfl, rfl⟩ := H
   go_enter Try.func33, Try.ntmps33
   go_wp2_with (first | ((with_reducible refine gate_dst (N := 2) rfl ?_); refine qx (N := 2) (cs := #[.slice A0_0 l0_0.length c0_0]) (t := 26) ?_; intro gb691 hg w13 hbox hb; have n0_ := am (below_step qB hb); have BK691 := am (hbox); have GW691 := am (qg w hg); have GE691 := am (qg w hg); clear HB; have HB := n0_; clear n0_; clear hb hbox hg; have hcz14_0 := qz w13 BK691.out; have hfz14_0 := blk_frozen BK691.out 0) | ((with_reducible refine gate_callee (f := 82) rfl ?_); refine gL (some 7) Try.func82 #[.agg #[.slice A0_0 l0_0.length c0_0]] ?_; (with_reducible refine (spec_poGood.calls k _ _ l0_0 true _ ?side1 ?side2 A3.out).mono ?_); (case side1 => exact qC (Kd.C_below HR0_0.out HB.out)); (case side2 => exact HC0_0.out); rintro e w15 ⟨rfl, hb⟩; refine ⟨_, rfl, ?_⟩; replace BK691 := am (blk_below (g := gb691) (o := .cells #[.slice A0_0 l0_0.length c0_0] 26 (0, 0)) (qb BK691.out) hb); replace HB := am (below_step qB hb); (try clear hb); (try clear hb2); (try clear hk); (try clear hi)) | (go_at_call 83; (with_reducible refine (spec_laBound.calls a1 false _ A5.out).mono ?_); rintro e w' ⟨rfl, ⟨nd, rfl⟩⟩))
   go_ret2
   exact ⟨qr, qB⟩
 ·replace c4 := Bool.eq_false_iff.mpr c4
  subst c4
  have H1 : (some (0, false)) = some (r1, r2) := by rw [if_neg (show ¬ (false = true) by decide)] at H; exact H
  clear H
  have H := H1
  clear H1
  simp only [Option.some.injEq, Prod.mk.injEq] at H
  obtain ⟨rfl, rfl⟩ := H
  go_enter Try.func33, Try.ntmps33
  go_wp2_with (first | ((with_reducible refine gate_dst (N := 2) rfl ?_); refine qx (N := 2) (cs := #[.slice A0_0 l0_0.length c0_0]) (t := 26) ?_; intro gb691 hg w16 hbox hb; have n0_ := am (below_step qB hb); have BK691 := am (hbox); have GW691 := am (qg w hg); have GE691 := am (qg w hg); clear HB; have HB := n0_; clear n0_; clear hb hbox hg; have hcz17_0 := qz w16 BK691.out; have hfz17_0 := blk_frozen BK691.out 0) | ((with_reducible refine gate_callee (f := 82) rfl ?_); refine gL (some 7) Try.func82 #[.agg #[.slice A0_0 l0_0.length c0_0]] ?_; (with_reducible refine (spec_poGood.calls k _ _ l0_0 false _ ?side1 ?side2 A3.out).mono ?_); (case side1 => exact qC (Kd.C_below HR0_0.out HB.out)); (case side2 => exact HC0_0.out); rintro e w18 ⟨rfl, hb⟩; refine ⟨_, rfl, ?_⟩; replace BK691 := am (blk_below (g := gb691) (o := .cells #[.slice A0_0 l0_0.length c0_0] 26 (0, 0)) (qb BK691.out) hb); replace HB := am (below_step qB hb); (try clear hb); (try clear hb2); (try clear hk); (try clear hi)))
  go_ret2
  exact ⟨qr, qB⟩
mutual
def spec_poRectangle.l0 : Nat → Int → Int → List (List Int) → Int → Option (List Int)
 | 0, _, _, _, _ => none
 | k + 1, x0, x1, x5, x6 => if x6 < x0 then (spec_poRectangle.l1 k x0 x1 x5 x6 0) else ((spec_poFrom.f k (wrap64 (x0 * x1)) x5).bind fun t139 => (some t139))
def spec_poRectangle.l1 : Nat → Int → Int → List (List Int) → Int → Int → Option (List Int)
 | 0, _, _, _, _, _ => none
 | k + 1, x0, x1, x5, x6, x7 => if x7 < x1 then (if (wrap64 (x6 + 1)) < x0 then (if x5.length < 5864062014805 then ((some (x5 ++ [(([wrap64 ((wrap64 (x1 * x6)) + x7), wrap64 ((wrap64 ((wrap64 (x1 * x6)) + x1)) + x7)] : List Int))] : List (List Int))).bind fun y145 => (if (wrap64 (x7 + 1)) < x1 then (if y145.length < 5864062014805 then (spec_poRectangle.l1 k x0 x1 (y145 ++ [(([wrap64 ((wrap64 (x1 * x6)) + x7), wrap64 ((wrap64 ((wrap64 (x1 * x6)) + x7)) + 1)] : List Int))]) x6 (wrap64 (x7 + 1))) else (none)) else (spec_poRectangle.l1 k x0 x1 y145 x6 (wrap64 (x7 + 1))))) else (none)) else (if (wrap64 (x7 + 1)) < x1 then (if x5.length < 5864062014805 then (spec_poRectangle.l1 k x0 x1 (x5 ++ [(([wrap64 ((wrap64 (x1 * x6)) + x7), wrap64 ((wrap64 ((wrap64 (x1 * x6)) + x7)) + 1)] : List Int))]) x6 (wrap64 (x7 + 1))) else (none)) else (spec_poRectangle.l1 k x0 x1 x5 x6 (wrap64 (x7 + 1))))) else (spec_poRectangle.l0 k x0 x1 x5 (wrap64 (x6 + 1)))
end
def spec_poRectangle.f (k : Nat) (a0 : Int) (a1 : Int) : Option (List Int) := spec_poRectangle.l0 k a0 a1 ([] : List (List Int)) 0
theorem spec_poRectangle.mono_l : ∀ k, (∀ y0 y1 y2 y3, LeO (spec_poRectangle.l0 k y0 y1 y2 y3) (spec_poRectangle.l0 (k + 1) y0 y1 y2 y3)) ∧ (∀ y0 y1 y2 y3 y4, LeO (spec_poRectangle.l1 k y0 y1 y2 y3 y4) (spec_poRectangle.l1 (k + 1) y0 y1 y2 y3 y4))
 | 0 => ⟨fun _ _ _ _ r h => by simp [spec_poRectangle.l0] at h, fun _ _ _ _ _ r h => by simp [spec_poRectangle.l1] at h⟩
 | k + 1 => by
  obtain ⟨ih0, ih1⟩ := spec_poRectangle.mono_l k
  refine ⟨?_, ?_⟩
  ·intro y0 y1 y2 y3
   unfold spec_poRectangle.l0
   repeat' first
   | (with_reducible exact spec_poFrom.mono _ _ _)
   | (with_reducible exact LeO.refl _)
   | (with_reducible exact LeO.none _)
   | (with_reducible refine LeO.ite ?_ ?_)
   | (with_reducible refine LeO.bind ?_ (fun _ => ?_))
   | exact ih0 _ _ _ _
   | exact ih1 _ _ _ _ _
   | exact spec_poFrom.mono _ _ _
   | exact LeO.none _
   | refine LeO.ite ?_ ?_
   | refine LeO.bind ?_ (fun _ => ?_)
  ·intro y0 y1 y2 y3 y4
   unfold spec_poRectangle.l1
   repeat' first
   | (with_reducible exact spec_poFrom.mono _ _ _)
   | (with_reducible exact LeO.refl _)
   | (with_reducible exact LeO.none _)
   | (with_reducible refine LeO.ite ?_ ?_)
   | (with_reducible refine LeO.bind ?_ (fun _ => ?_))
   | exact ih0 _ _ _ _
   | exact ih1 _ _ _ _ _
   | exact spec_poFrom.mono _ _ _
   | exact LeO.none _
   | refine LeO.ite ?_ ?_
   | refine LeO.bind ?_ (fun _ => ?_)
theorem spec_poRectangle.mono : ∀ a0 a1 k, LeO (spec_poRectangle.f k a0 a1) (spec_poRectangle.f (k + 1) a0 a1) := by
 intro a0 a1 k
 obtain ⟨ih0, ih1⟩ := spec_poRectangle.mono_l k
 unfold spec_poRectangle.f
 repeat' first
  | (with_reducible exact spec_poFrom.mono _ _ _)
  | (with_reducible exact LeO.refl _)
  | (with_reducible exact LeO.none _)
  | (with_reducible refine LeO.ite ?_ ?_)
  | (with_reducible refine LeO.bind ?_ (fun _ => ?_))
  | exact ih0 _ _ _ _
  | exact ih1 _ _ _ _ _
  | exact spec_poFrom.mono _ _ _
  | exact LeO.none _
  | refine LeO.ite ?_ ?_
  | refine LeO.bind ?_ (fun _ => ?_)
set_option maxHeartbeats 8000000 in
set_option maxRecDepth 100000 in
theorem spec_poRectangle.calls (k : Nat) (a0 : Int) (a1 : Int) (r : List Int) (w : World) (h : spec_poRectangle.f k a0 a1 = some r) :
 Calls Try.prog 151 #[.int .i64 a0, .int .i64 a1] w fun e w' => ∃ v0_ : Value, e = .returned (.agg #[v0_]) ∧ Kd.R (Kd.int .i64) 3 w' w.heap.size (fun _ => True) v0_ r ∧ Below w.heap.size w w' := by
 have hu26 := Try.underlying26
 have HB := am (Below.refl w.heap.size w)
 have H : (spec_poRectangle.l0 k a0 a1 ([] : List (List Int)) 0) = some r := h
 clear h
 have H' := am H
 clear H
 go_enter Try.func151, Try.ntmps151
 go_wp2_with (first | ((with_reducible refine gate_dst (N := 4) rfl ?_); refine qx (N := 4) (cs := #[.slice none 0 0]) (t := 26) ?_; intro gb138 hg w3 hbox hb; have n0_ := am (below_step qB hb); have BK138 := am (hbox); have GW138 := am (qg w hg); have GE138 := am (qg w hg); clear HB; have HB := n0_; clear n0_; clear hb hbox hg))
 go_loopg [5, 6] k (fun kq v5 v6 w' => ∃ (x5_1 : List (List Int)) (x6_1 : Int), v6 = .int .i64 x6_1 ∧ Aside0 (spec_poRectangle.l0 kq a0 a1 x5_1 x6_1 = some r) ∧ Aside0 (kq ≤ k) ∧ Aside0 (Kd.S (Kd.slice 3 (Kd.int .i64)) 24 w' w.heap.size (fun _ => True) v5 x5_1) ∧ Aside0 (w'.heap[gb138]? = some (.cells #[(.slice none 0 0)] 26 (0, 0))) ∧ Aside0 (Below w.heap.size w w'))
 case atStart => exact ⟨(([] : List (List Int))), (0), qe, H', ⟨Nat.le_refl _⟩, ⟨by first | exact Kd.S_nil _ _ _ _ _ | exact Kd.N_nil _ _ _ _ _ | exact Kd.V_nil _ _ _ _ _ | exact Kd.Q_nil _ _ _ _ _ | exact Kd.R_nil _ _ _ _ _⟩, ⟨qb BK138.out⟩, ⟨qB⟩⟩
 case round =>
  clear H'
  try clear c1
  try clear p2
  obtain ⟨x5_1, x6_1, rfl, HA, HK1, HO_5, BK138, HB⟩ := hrel
  cases gk with
  | zero => exact absurd HA.out (by simp [spec_poRectangle.l0])
  | succ k1 =>
   have H := HA.out
   clear HA
   simp only [spec_poRectangle.l0] at H
   by_cases c4 : x6_1 < a0
   ·rw [if_pos c4] at H
    have c4b0 := decide_eq_true c4
    clear c4
    have H' := am H
    clear H
    go_wp2
    go_loopg [5, 7] k1 (fun kq v5 v7 w' => ∃ (x5_2 : List (List Int)) (x7_2 : Int), v7 = .int .i64 x7_2 ∧ Aside0 (spec_poRectangle.l1 kq a0 a1 x5_2 x6_1 x7_2 = some r) ∧ Aside0 (kq ≤ k1) ∧ Aside0 (Kd.S (Kd.slice 3 (Kd.int .i64)) 24 w' w.heap.size (fun _ => True) v5 x5_2) ∧ Aside0 (w'.heap[gb138]? = some (.cells #[(.slice none 0 0)] 26 (0, 0))) ∧ Aside0 (Below w.heap.size w w'))
    case atStart => exact ⟨(x5_1), (0), qe, H', ⟨Nat.le_refl _⟩, ⟨qS HO_5.out⟩, ⟨qb BK138.out⟩, ⟨qB⟩⟩
    case round =>
     clear H'
     try clear c1
     try clear p2
     try clear c4
     try clear c4b0
     try clear p2
     obtain ⟨x5_2, x7_2, rfl, HA, HK2, HO_5, BK138, HB⟩ := hrel
     cases gk with
     | zero => exact absurd HA.out (by simp [spec_poRectangle.l1])
     | succ k2 =>
      have H := HA.out
      clear HA
      simp only [spec_poRectangle.l1] at H
      by_cases c5 : x7_2 < a1
      ·rw [if_pos c5] at H
       have c5b0 := decide_eq_true c5
       clear c5
       by_cases c6 : (wrap64 (x6_1 + 1)) < a0
       ·rw [if_pos c6] at H
        have c6b0 := decide_eq_true c6
        clear c6
        obtain ⟨y142, hy142⟩ : ∃ y_ : List Int, y_ = (([wrap64 ((wrap64 (a1 * x6_1)) + x7_2), wrap64 ((wrap64 ((wrap64 (a1 * x6_1)) + a1)) + x7_2)] : List Int)) := ⟨_, rfl⟩
        replace H : (if x5_2.length < 5864062014805 then ((some (x5_2 ++ [y142] : List (List Int))).bind fun y145 => (if (wrap64 (x7_2 + 1)) < a1 then (if y145.length < 5864062014805 then (spec_poRectangle.l1 k2 a0 a1 (y145 ++ [(([wrap64 ((wrap64 (a1 * x6_1)) + x7_2), wrap64 ((wrap64 ((wrap64 (a1 * x6_1)) + x7_2)) + 1)] : List Int))]) x6_1 (wrap64 (x7_2 + 1))) else (none)) else (spec_poRectangle.l1 k2 a0 a1 y145 x6_1 (wrap64 (x7_2 + 1))))) else (none)) = some r := by first | (rw [hy142]; with_reducible exact H) | (have H2_ := (Option.bind_some _ _).symm.trans H; rw [hy142]; with_reducible exact H2_) | (have H2_ := (Option.bind_some _ _).symm.trans H; with_reducible exact H2_) | with_reducible exact H | (rw [hy142]; exact H) | exact H
        have Ny142 := am hy142
        clear hy142
        by_cases c7 : x5_2.length < 5864062014805
        rotate_left
        ·rw [if_neg c7] at H
         exact absurd H (by simp)
        rw [if_pos c7] at H
        have LMc7 := am c7
        clear c7
        obtain ⟨y145, hy145⟩ : ∃ y_ : List (List Int), y_ = (x5_2 ++ [y142]) := ⟨_, rfl⟩
        replace H : (if (wrap64 (x7_2 + 1)) < a1 then (if y145.length < 5864062014805 then (spec_poRectangle.l1 k2 a0 a1 (y145 ++ [(([wrap64 ((wrap64 (a1 * x6_1)) + x7_2), wrap64 ((wrap64 ((wrap64 (a1 * x6_1)) + x7_2)) + 1)] : List Int))]) x6_1 (wrap64 (x7_2 + 1))) else (none)) else (spec_poRectangle.l1 k2 a0 a1 y145 x6_1 (wrap64 (x7_2 + 1)))) = some r := by first | (rw [hy145]; with_reducible exact H) | (have H2_ := (Option.bind_some _ _).symm.trans H; rw [hy145]; with_reducible exact H2_) | (have H2_ := (Option.bind_some _ _).symm.trans H; with_reducible exact H2_) | with_reducible exact H | (rw [hy145]; exact H) | exact H
        have Ny145 := am hy145
        clear hy145
        by_cases c8 : (wrap64 (x7_2 + 1)) < a1
        ·rw [if_pos c8] at H
         have c8b0 := decide_eq_true c8
         clear c8
         obtain ⟨y148, hy148⟩ : ∃ y_ : List Int, y_ = (([wrap64 ((wrap64 (a1 * x6_1)) + x7_2), wrap64 ((wrap64 ((wrap64 (a1 * x6_1)) + x7_2)) + 1)] : List Int)) := ⟨_, rfl⟩
         replace H : (if y145.length < 5864062014805 then (spec_poRectangle.l1 k2 a0 a1 (y145 ++ [y148]) x6_1 (wrap64 (x7_2 + 1))) else (none)) = some r := by first | (rw [hy148]; with_reducible exact H) | (have H2_ := (Option.bind_some _ _).symm.trans H; rw [hy148]; with_reducible exact H2_) | (have H2_ := (Option.bind_some _ _).symm.trans H; with_reducible exact H2_) | with_reducible exact H | (rw [hy148]; exact H) | exact H
         have Ny148 := am hy148
         clear hy148
         by_cases c9 : y145.length < 5864062014805
         rotate_left
         ·rw [if_neg c9] at H
          exact absurd H (by simp)
         rw [if_pos c9] at H
         have LMc9 := am c9
         clear c9
         obtain ⟨y151, hy151⟩ : ∃ y_ : List (List Int), y_ = (y145 ++ [y148]) := ⟨_, rfl⟩
         replace H : (spec_poRectangle.l1 k2 a0 a1 y151 x6_1 (wrap64 (x7_2 + 1))) = some r := by first | (rw [hy151]; with_reducible exact H) | (have H2_ := (Option.bind_some _ _).symm.trans H; rw [hy151]; with_reducible exact H2_) | (have H2_ := (Option.bind_some _ _).symm.trans H; with_reducible exact H2_) | with_reducible exact H | (rw [hy151]; exact H) | exact H
         have Ny151 := am hy151
         clear hy151
         have H' := am H
         clear H
         go_wp2_with (first | ((with_reducible refine gate_dst (N := 35) rfl ?_); refine Kd.R_lit (Kd.int .i64) _ 3 ?hg (N := 35) ?hd (xs := ([wrap64 ((wrap64 (a1 * x6_1)) + x7_2), wrap64 ((wrap64 ((wrap64 (a1 * x6_1)) + a1)) + x7_2)] : List Int)) (inner := [.int .i64 (wrap64 ((wrap64 (a1 * x6_1)) + x7_2)), .int .i64 (wrap64 ((wrap64 ((wrap64 (a1 * x6_1)) + a1)) + x7_2))]) (ok := fun _ => True) (okp := fun _ => True) ?hr ?hp (fun _ hk => hk) trivial (Below.refl _ _) (Nat.le_refl _) (by simp) ?_; (case hd => rfl); (case hg => rfl); (case hr => first | (go_simp; done) | (go_simp; rfl)); (case hp => exact (Reps.one (show Kd.M (Kd.int .i64) _ _ _ (wrap64 ((wrap64 (a1 * x6_1)) + x7_2)) [.int .i64 (wrap64 ((wrap64 (a1 * x6_1)) + x7_2))] from rfl) (Reps.one (show Kd.M (Kd.int .i64) _ _ _ (wrap64 ((wrap64 ((wrap64 (a1 * x6_1)) + a1)) + x7_2)) [.int .i64 (wrap64 ((wrap64 ((wrap64 (a1 * x6_1)) + a1)) + x7_2))] from rfl) (Reps.none _ _)))); intro v143 w10 ho11 hb hg_ hnew_; clear hg_ hnew_; (first | rw [← Ny142.out] at ho11 | (simp only [Int.reduceToNat] at ho11; rw [← Ny142.out] at ho11)); replace HO_5 := am (Kd.S_elder' (qS HO_5.out) (Kd.R_base ho11) hb); have HO144 := am (Kd.R_lower ho11 (below_size qB)); replace BK138 := am (blk_below (g := gb138) (o := .cells #[.slice none 0 0] 26 (0, 0)) (qb BK138.out) hb); replace HB := am (below_step qB hb); clear hb ho11; obtain ⟨Ao13, co13, eo13⟩ := Kd.R_slice HO144.out; subst eo13) | ((with_reducible refine gate_builtin (b := .append) (xs := #[.tmp 22, .tmp 36]) rfl ?_); at_builtin; refine Kd.S_append (Kd.slice 3 (Kd.int .i64)) (w0 := w) w.heap.size rfl (.tmp 22) (.tmp 36) 58 24 (.slice none 0 0) 24 rfl Try.underlying58 info24 rfl (by decide) (by omega) u5 x5_2 y142 [.slice Ao13 y142.length co13] (fun _ => True) (fun k_ => some k_ = (.slice Ao13 y142.length co13 : Value).ownBlock) rfl rfl ?aP (fun k_ hk_ => ((Kd.R_mono (ok' := fun k_ => ((fun _ => True)) k_ ∧ some k_ ≠ (u5 : Value).ownBlock) (Kd.R_apart' (HO144.out) (Kd.S_typed HO_5.out) (by decide)) (fun k_ hk => ⟨trivial, hk.2⟩))).1 k_ hk_.symm) ?aF ?aO ?aB ?aS ?aL ?_; (case aP => exact Kd.M_row (Kd.R_mono (Kd.R_tight rfl (Kd.R_mono (ok' := fun k_ => ((fun _ => True)) k_ ∧ some k_ ≠ (u5 : Value).ownBlock) (Kd.R_apart' (HO144.out) (Kd.S_typed HO_5.out) (by decide)) (fun k_ hk => ⟨trivial, hk.2⟩))) (fun _ h_ => h_))); (case aB => exact qB); (case aF => exact (fun _ _ => trivial)); (case aO => exact (qS (Kd.S_mono HO_5.out (fun k_ hk => ⟨trivial, fun e_ => hk.2 e_⟩)))); (case aS => exact (below_size qB)); (case aL => have := LMc7.out; omega); intro v146 w12 ho hb hg hat; rw [← Ny145.out] at ho; replace BK138 := am (blk_grown (g := gb138) (o := .cells #[.slice none 0 0] 26 (0, 0)) (qb BK138.out) hg (Kd.S_ne HO_5.out BK138.out (by decide))); have n1_ := am (hb); have HO147 := am (ho); clear HB HO_5 HO144; have HB := n1_; clear n1_; clear ho hb hg hat) | ((with_reducible refine gate_dst (N := 54) rfl ?_); refine Kd.R_lit (Kd.int .i64) _ 3 ?hg (N := 54) ?hd (xs := ([wrap64 ((wrap64 (a1 * x6_1)) + x7_2), wrap64 ((wrap64 ((wrap64 (a1 * x6_1)) + x7_2)) + 1)] : List Int)) (inner := [.int .i64 (wrap64 ((wrap64 (a1 * x6_1)) + x7_2)), .int .i64 (wrap64 ((wrap64 ((wrap64 (a1 * x6_1)) + x7_2)) + 1))]) (ok := fun _ => True) (okp := fun _ => True) ?hr ?hp (fun _ hk => hk) trivial (Below.refl _ _) (Nat.le_refl _) (by simp) ?_; (case hd => rfl); (case hg => rfl); (case hr => first | (go_simp; done) | (go_simp; rfl)); (case hp => exact (Reps.one (show Kd.M (Kd.int .i64) _ _ _ (wrap64 ((wrap64 (a1 * x6_1)) + x7_2)) [.int .i64 (wrap64 ((wrap64 (a1 * x6_1)) + x7_2))] from rfl) (Reps.one (show Kd.M (Kd.int .i64) _ _ _ (wrap64 ((wrap64 ((wrap64 (a1 * x6_1)) + x7_2)) + 1)) [.int .i64 (wrap64 ((wrap64 ((wrap64 (a1 * x6_1)) + x7_2)) + 1))] from rfl) (Reps.none _ _)))); intro v149 w14 ho15 hb hg_ hnew_; clear hg_ hnew_; (first | rw [← Ny148.out] at ho15 | (simp only [Int.reduceToNat] at ho15; rw [← Ny148.out] at ho15)); replace HO147 := am (Kd.S_elder' (qS HO147.out) (Kd.R_base ho15) hb); have HO150 := am (Kd.R_lower ho15 (below_size qB)); replace BK138 := am (blk_below (g := gb138) (o := .cells #[.slice none 0 0] 26 (0, 0)) (qb BK138.out) hb); replace HB := am (below_step qB hb); clear hb ho15; obtain ⟨Ao17, co17, eo17⟩ := Kd.R_slice HO150.out; subst eo17) | ((with_reducible refine gate_builtin (b := .append) (xs := #[.tmp 42, .tmp 55]) rfl ?_); at_builtin; refine Kd.S_append (Kd.slice 3 (Kd.int .i64)) (w0 := w) w.heap.size rfl (.tmp 42) (.tmp 55) 58 24 (.slice none 0 0) 24 rfl Try.underlying58 info24 rfl (by decide) (by omega) v146 y145 y148 [.slice Ao17 y148.length co17] (fun _ => True) (fun k_ => some k_ = (.slice Ao17 y148.length co17 : Value).ownBlock) rfl rfl ?aP (fun k_ hk_ => ((Kd.R_mono (ok' := fun k_ => ((fun _ => True)) k_ ∧ some k_ ≠ (v146 : Value).ownBlock) (Kd.R_apart' (HO150.out) (Kd.S_typed HO147.out) (by decide)) (fun k_ hk => ⟨trivial, hk.2⟩))).1 k_ hk_.symm) ?aF ?aO ?aB ?aS ?aL ?_; (case aP => exact Kd.M_row (Kd.R_mono (Kd.R_tight rfl (Kd.R_mono (ok' := fun k_ => ((fun _ => True)) k_ ∧ some k_ ≠ (v146 : Value).ownBlock) (Kd.R_apart' (HO150.out) (Kd.S_typed HO147.out) (by decide)) (fun k_ hk => ⟨trivial, hk.2⟩))) (fun _ h_ => h_))); (case aB => exact qB); (case aF => exact (fun _ _ => trivial)); (case aO => exact (qS (Kd.S_mono HO147.out (fun k_ hk => ⟨trivial, fun e_ => hk.2 e_⟩)))); (case aS => exact (below_size qB)); (case aL => have := LMc9.out; omega); intro v152 w16 ho hb hg hat; rw [← Ny151.out] at ho; replace BK138 := am (blk_grown (g := gb138) (o := .cells #[.slice none 0 0] 26 (0, 0)) (qb BK138.out) hg (Kd.S_ne HO147.out BK138.out (by decide))); have n1_ := am (hb); have HO153 := am (ho); clear HB HO147 HO150; have HB := n1_; clear n1_; clear ho hb hg hat))
         go_roundg k2
         case measure => have := HK1.out; have := HK2.out; omega
         case rel => exact ⟨(y151), (wrap64 (x7_2 + 1)), qe, H', ⟨by have := HK1.out; have := HK2.out; omega⟩, ⟨qS HO153.out⟩, ⟨qb BK138.out⟩, ⟨qB⟩⟩
        ·rw [if_neg c8] at H
         have c8b0 := decide_eq_false c8
         clear c8
         have H' := am H
         clear H
         go_wp2_with (first | ((with_reducible refine gate_dst (N := 35) rfl ?_); refine Kd.R_lit (Kd.int .i64) _ 3 ?hg (N := 35) ?hd (xs := ([wrap64 ((wrap64 (a1 * x6_1)) + x7_2), wrap64 ((wrap64 ((wrap64 (a1 * x6_1)) + a1)) + x7_2)] : List Int)) (inner := [.int .i64 (wrap64 ((wrap64 (a1 * x6_1)) + x7_2)), .int .i64 (wrap64 ((wrap64 ((wrap64 (a1 * x6_1)) + a1)) + x7_2))]) (ok := fun _ => True) (okp := fun _ => True) ?hr ?hp (fun _ hk => hk) trivial (Below.refl _ _) (Nat.le_refl _) (by simp) ?_; (case hd => rfl); (case hg => rfl); (case hr => first | (go_simp; done) | (go_simp; rfl)); (case hp => exact (Reps.one (show Kd.M (Kd.int .i64) _ _ _ (wrap64 ((wrap64 (a1 * x6_1)) + x7_2)) [.int .i64 (wrap64 ((wrap64 (a1 * x6_1)) + x7_2))] from rfl) (Reps.one (show Kd.M (Kd.int .i64) _ _ _ (wrap64 ((wrap64 ((wrap64 (a1 * x6_1)) + a1)) + x7_2)) [.int .i64 (wrap64 ((wrap64 ((wrap64 (a1 * x6_1)) + a1)) + x7_2))] from rfl) (Reps.none _ _)))); intro v143 w18 ho19 hb hg_ hnew_; clear hg_ hnew_; (first | rw [← Ny142.out] at ho19 | (simp only [Int.reduceToNat] at ho19; rw [← Ny142.out] at ho19)); replace HO_5 := am (Kd.S_elder' (qS HO_5.out) (Kd.R_base ho19) hb); have HO144 := am (Kd.R_lower ho19 (below_size qB)); replace BK138 := am (blk_below (g := gb138) (o := .cells #[.slice none 0 0] 26 (0, 0)) (qb BK138.out) hb); replace HB := am (below_step qB hb); clear hb ho19; obtain ⟨Ao21, co21, eo21⟩ := Kd.R_slice HO144.out; subst eo21) | ((with_reducible refine gate_builtin (b := .append) (xs := #[.tmp 22, .tmp 36]) rfl ?_); at_builtin; refine Kd.S_append (Kd.slice 3 (Kd.int .i64)) (w0 := w) w.heap.size rfl (.tmp 22) (.tmp 36) 58 24 (.slice none 0 0) 24 rfl Try.underlying58 info24 rfl (by decide) (by omega) u5 x5_2 y142 [.slice Ao21 y142.length co21] (fun _ => True) (fun k_ => some k_ = (.slice Ao21 y142.length co21 : Value).ownBlock) rfl rfl ?aP (fun k_ hk_ => ((Kd.R_mono (ok' := fun k_ => ((fun _ => True)) k_ ∧ some k_ ≠ (u5 : Value).ownBlock) (Kd.R_apart' (HO144.out) (Kd.S_typed HO_5.out) (by decide)) (fun k_ hk => ⟨trivial, hk.2⟩))).1 k_ hk_.symm) ?aF ?aO ?aB ?aS ?aL ?_; (case aP => exact Kd.M_row (Kd.R_mono (Kd.R_tight rfl (Kd.R_mono (ok' := fun k_ => ((fun _ => True)) k_ ∧ some k_ ≠ (u5 : Value).ownBlock) (Kd.R_apart' (HO144.out) (Kd.S_typed HO_5.out) (by decide)) (fun k_ hk => ⟨trivial, hk.2⟩))) (fun _ h_ => h_))); (case aB => exact qB); (case aF => exact (fun _ _ => trivial)); (case aO => exact (qS (Kd.S_mono HO_5.out (fun k_ hk => ⟨trivial, fun e_ => hk.2 e_⟩)))); (case aS => exact (below_size qB)); (case aL => have := LMc7.out; omega); intro v146 w20 ho hb hg hat; rw [← Ny145.out] at ho; replace BK138 := am (blk_grown (g := gb138) (o := .cells #[.slice none 0 0] 26 (0, 0)) (qb BK138.out) hg (Kd.S_ne HO_5.out BK138.out (by decide))); have n1_ := am (hb); have HO147 := am (ho); clear HB HO_5 HO144; have HB := n1_; clear n1_; clear ho hb hg hat))
         go_roundg k2
         case measure => have := HK1.out; have := HK2.out; omega
         case rel => exact ⟨(y145), (wrap64 (x7_2 + 1)), qe, H', ⟨by have := HK1.out; have := HK2.out; omega⟩, ⟨qS HO147.out⟩, ⟨qb BK138.out⟩, ⟨qB⟩⟩
       ·rw [if_neg c6] at H
        have c6b0 := decide_eq_false c6
        clear c6
        by_cases c22 : (wrap64 (x7_2 + 1)) < a1
        ·rw [if_pos c22] at H
         have c22b0 := decide_eq_true c22
         clear c22
         obtain ⟨y154, hy154⟩ : ∃ y_ : List Int, y_ = (([wrap64 ((wrap64 (a1 * x6_1)) + x7_2), wrap64 ((wrap64 ((wrap64 (a1 * x6_1)) + x7_2)) + 1)] : List Int)) := ⟨_, rfl⟩
         replace H : (if x5_2.length < 5864062014805 then (spec_poRectangle.l1 k2 a0 a1 (x5_2 ++ [y154]) x6_1 (wrap64 (x7_2 + 1))) else (none)) = some r := by first | (rw [hy154]; with_reducible exact H) | (have H2_ := (Option.bind_some _ _).symm.trans H; rw [hy154]; with_reducible exact H2_) | (have H2_ := (Option.bind_some _ _).symm.trans H; with_reducible exact H2_) | with_reducible exact H | (rw [hy154]; exact H) | exact H
         have Ny154 := am hy154
         clear hy154
         by_cases c23 : x5_2.length < 5864062014805
         rotate_left
         ·rw [if_neg c23] at H
          exact absurd H (by simp)
         rw [if_pos c23] at H
         have LMc23 := am c23
         clear c23
         obtain ⟨y157, hy157⟩ : ∃ y_ : List (List Int), y_ = (x5_2 ++ [y154]) := ⟨_, rfl⟩
         replace H : (spec_poRectangle.l1 k2 a0 a1 y157 x6_1 (wrap64 (x7_2 + 1))) = some r := by first | (rw [hy157]; with_reducible exact H) | (have H2_ := (Option.bind_some _ _).symm.trans H; rw [hy157]; with_reducible exact H2_) | (have H2_ := (Option.bind_some _ _).symm.trans H; with_reducible exact H2_) | with_reducible exact H | (rw [hy157]; exact H) | exact H
         have Ny157 := am hy157
         clear hy157
         have H' := am H
         clear H
         go_wp2_with (first | ((with_reducible refine gate_dst (N := 54) rfl ?_); refine Kd.R_lit (Kd.int .i64) _ 3 ?hg (N := 54) ?hd (xs := ([wrap64 ((wrap64 (a1 * x6_1)) + x7_2), wrap64 ((wrap64 ((wrap64 (a1 * x6_1)) + x7_2)) + 1)] : List Int)) (inner := [.int .i64 (wrap64 ((wrap64 (a1 * x6_1)) + x7_2)), .int .i64 (wrap64 ((wrap64 ((wrap64 (a1 * x6_1)) + x7_2)) + 1))]) (ok := fun _ => True) (okp := fun _ => True) ?hr ?hp (fun _ hk => hk) trivial (Below.refl _ _) (Nat.le_refl _) (by simp) ?_; (case hd => rfl); (case hg => rfl); (case hr => first | (go_simp; done) | (go_simp; rfl)); (case hp => exact (Reps.one (show Kd.M (Kd.int .i64) _ _ _ (wrap64 ((wrap64 (a1 * x6_1)) + x7_2)) [.int .i64 (wrap64 ((wrap64 (a1 * x6_1)) + x7_2))] from rfl) (Reps.one (show Kd.M (Kd.int .i64) _ _ _ (wrap64 ((wrap64 ((wrap64 (a1 * x6_1)) + x7_2)) + 1)) [.int .i64 (wrap64 ((wrap64 ((wrap64 (a1 * x6_1)) + x7_2)) + 1))] from rfl) (Reps.none _ _)))); intro v155 w24 ho25 hb hg_ hnew_; clear hg_ hnew_; (first | rw [← Ny154.out] at ho25 | (simp only [Int.reduceToNat] at ho25; rw [← Ny154.out] at ho25)); replace HO_5 := am (Kd.S_elder' (qS HO_5.out) (Kd.R_base ho25) hb); have HO156 := am (Kd.R_lower ho25 (below_size qB)); replace BK138 := am (blk_below (g := gb138) (o := .cells #[.slice none 0 0] 26 (0, 0)) (qb BK138.out) hb); replace HB := am (below_step qB hb); clear hb ho25; obtain ⟨Ao27, co27, eo27⟩ := Kd.R_slice HO156.out; subst eo27) | ((with_reducible refine gate_builtin (b := .append) (xs := #[.tmp 42, .tmp 55]) rfl ?_); at_builtin; refine Kd.S_append (Kd.slice 3 (Kd.int .i64)) (w0 := w) w.heap.size rfl (.tmp 42) (.tmp 55) 58 24 (.slice none 0 0) 24 rfl Try.underlying58 info24 rfl (by decide) (by omega) u5 x5_2 y154 [.slice Ao27 y154.length co27] (fun _ => True) (fun k_ => some k_ = (.slice Ao27 y154.length co27 : Value).ownBlock) rfl rfl ?aP (fun k_ hk_ => ((Kd.R_mono (ok' := fun k_ => ((fun _ => True)) k_ ∧ some k_ ≠ (u5 : Value).ownBlock) (Kd.R_apart' (HO156.out) (Kd.S_typed HO_5.out) (by decide)) (fun k_ hk => ⟨trivial, hk.2⟩))).1 k_ hk_.symm) ?aF ?aO ?aB ?aS ?aL ?_; (case aP => exact Kd.M_row (Kd.R_mono (Kd.R_tight rfl (Kd.R_mono (ok' := fun k_ => ((fun _ => True)) k_ ∧ some k_ ≠ (u5 : Value).ownBlock) (Kd.R_apart' (HO156.out) (Kd.S_typed HO_5.out) (by decide)) (fun k_ hk => ⟨trivial, hk.2⟩))) (fun _ h_ => h_))); (case aB => exact qB); (case aF => exact (fun _ _ => trivial)); (case aO => exact (qS (Kd.S_mono HO_5.out (fun k_ hk => ⟨trivial, fun e_ => hk.2 e_⟩)))); (case aS => exact (below_size qB)); (case aL => have := LMc23.out; omega); intro v158 w26 ho hb hg hat; rw [← Ny157.out] at ho; replace BK138 := am (blk_grown (g := gb138) (o := .cells #[.slice none 0 0] 26 (0, 0)) (qb BK138.out) hg (Kd.S_ne HO_5.out BK138.out (by decide))); have n1_ := am (hb); have HO159 := am (ho); clear HB HO_5 HO156; have HB := n1_; clear n1_; clear ho hb hg hat))
         go_roundg k2
         case measure => have := HK1.out; have := HK2.out; omega
         case rel => exact ⟨(y157), (wrap64 (x7_2 + 1)), qe, H', ⟨by have := HK1.out; have := HK2.out; omega⟩, ⟨qS HO159.out⟩, ⟨qb BK138.out⟩, ⟨qB⟩⟩
        ·rw [if_neg c22] at H
         have c22b0 := decide_eq_false c22
         clear c22
         have H' := am H
         clear H
         go_wp2
         go_roundg k2
         case measure => have := HK1.out; have := HK2.out; omega
         case rel => exact ⟨(x5_2), (wrap64 (x7_2 + 1)), qe, H', ⟨by have := HK1.out; have := HK2.out; omega⟩, ⟨qS HO_5.out⟩, ⟨qb BK138.out⟩, ⟨qB⟩⟩
      ·rw [if_neg c5] at H
       have c5b0 := decide_eq_false c5
       clear c5
       have H' := am H
       clear H
       go_wp2
       go_roundg k2
       case measure => have := HK1.out; have := HK2.out; omega
       case rel => exact ⟨(x5_2), (wrap64 (x6_1 + 1)), qe, H', ⟨by have := HK1.out; have := HK2.out; omega⟩, ⟨qS HO_5.out⟩, ⟨qb BK138.out⟩, ⟨qB⟩⟩
   ·rw [if_neg c4] at H
    have c4b0 := decide_eq_false c4
    clear c4
    replace H := Option.bind_eq_some_iff.mp H
    obtain ⟨t139, A280, H⟩ := H
    replace H : (some t139) = some r := H
    have A28 := am A280
    clear A280
    obtain rfl := Option.some.inj H
    obtain ⟨Ao29, co29, eo29⟩ := Kd.S_slice HO_5.out
    subst eo29
    go_wp2_with (first | ((with_reducible refine gate_callee (f := 154) rfl ?_); refine gL (some 61) Try.func154 #[.int .i64 (wrap64 (a0 * a1)), .slice Ao29 x5_1.length co29] ?_; (with_reducible refine (spec_poFrom.calls k1 (wrap64 (a0 * a1)) _ _ x5_1 t139 _ ?side1 ?side2 A28.out).mono ?_); (case side1 => exact qC (Kd.S_reads' HO_5.out).2.2); (case side2 => exact (Kd.S_reads' HO_5.out).2.1); rintro e w30 ⟨v140, rfl, ho0, hb⟩; refine ⟨_, rfl, ?_⟩; replace HO_5 := am (Kd.S_elder' (qS HO_5.out) (Kd.R_base ho0) hb); have HO141 := am (Kd.R_lower ho0 (below_size qB)); replace BK138 := am (blk_below (g := gb138) (o := .cells #[.slice none 0 0] 26 (0, 0)) (qb BK138.out) hb); replace HB := am (below_step qB hb); (try clear hb); (try clear hb2); (try clear hk); (try clear hi); (try clear ho0); obtain ⟨Ao31, co31, eo31⟩ := Kd.R_slice HO141.out; subst eo31; have hcz32_0 := qz w30 BK138.out; have hfz32_0 := blk_frozen BK138.out 0))
    refine bodyPost_ret (results_cell_row rfl _ _ gb138 26 #[.slice Ao31 t139.length co31] (0, 0) _ rfl (by (with_reducible repeat (first | refine blk_drewN ?_ _ | refine blk_drew ?_ | refine blk_alloc ?_ _)); refine blk_put (cs := #[.slice none 0 0]) ?_ 0 _ rfl; refine qb ?_; exact BK138.out) Try.underlying26 rfl (by kernel_rfl)) rfl ?_
    exact ⟨_, qr, qR (Kd.R_mono (Kd.R_far (p := ⟨gb138, 0, none⟩) (Kd.R_types HO141.out BK138.out (by decide)) (fun _ hk => hk.2) (.slice Ao31 t139.length co31)) (fun _ hk => trivial)), qB⟩
end Go.Proofs.Ytmbojobkiainlaa.F
end

section
namespace Go.Proofs.Ytmbojobkiainlaa.Q
open Go.RowKit Go.Proofs.YtmbojobkiainlaaW.PrintWords
set_option linter.unusedVariables false
theorem wid {n : Int} (h0 : -9223372036854775808 ≤ n) (h1 : n ≤ 9223372036854775807) : wrap64 n = n := by unfold wrap64; omega
theorem wid1 {i n : Nat} (h : i < n) (hn : n ≤ 9223372036854775807) : wrap64 ((i : Int) + 1) = ((i + 1 : Nat) : Int) := by unfold wrap64; omega
theorem rdN (l : List Int) (i : Nat) : rd l (i : Int) = l.getD i 0 := by unfold rd; simp
theorem rdN' {l : List Int} {i : Nat} (h : i < l.length) : rd l (i : Int) = l[i] := by rw [rdN, List.getD_eq_getElem?_getD, List.getElem?_eq_getElem h]; rfl
theorem downTo {P : Nat → Prop} (n : Nat) (h0 : P n) (hs : ∀ i, i < n → P (i + 1) → P i) : ∀ i, i ≤ n → P i := by
  intro i hi
  obtain ⟨d, hd⟩ : ∃ d, n - i = d := ⟨_, rfl⟩
  induction d generalizing i with
  | zero => have : i = n := by omega
            subst this; exact h0
  | succ d ih => exact hs i (by omega) (ih (i + 1) (by omega) (by omega))
theorem evc {α : Type} {g : Nat → Option α} {r r' : α} (h : Ev g r) (e : r = r') : Ev g r' := e ▸ h
theorem Ev.ret {α : Type} {r r' : α} (e : r = r') : Ev (fun _ => some r) r' := e ▸ Ev.now r
theorem Ev.call {α β : Type} {o : Option α} {a : α} {f : Nat → α → Option β} {r : β} (h : o = some a) (k : Ev (fun n => f n a) r) : Ev (fun n => o.bind (f n)) r := by
 subst h; exact k
theorem Ev.yes {α : Type} {c : Prop} [Decidable c] {f g : Nat → Option α} {r : α} (h : c) (k : Ev f r) : Ev (fun n => if c then f n else g n) r := by
 obtain ⟨K, k⟩ := k
 exact ⟨K, fun n hn => by show (if c then f n else g n) = _; rw [if_pos h]; exact k n hn⟩
theorem Ev.no {α : Type} {c : Prop} [Decidable c] {f g : Nat → Option α} {r : α} (h : ¬ c) (k : Ev g r) : Ev (fun n => if c then f n else g n) r := by
 obtain ⟨K, k⟩ := k
 exact ⟨K, fun n hn => by show (if c then f n else g n) = _; rw [if_neg h]; exact k n hn⟩
theorem Ev.ite {α : Type} {c : Prop} [Decidable c] {f g : Nat → Option α} {r : α} (h1 : c → Ev f r) (h2 : ¬ c → Ev g r) : Ev (fun n => if c then f n else g n) r := by
 by_cases h : c
 ·exact Ev.yes h (h1 h)
 ·exact Ev.no h (h2 h)
theorem Ev.uniq {α : Type} {g : Nat → Option α} {r r' : α} (h : Ev g r) (h' : Ev g r') : r = r' := by
 obtain ⟨K, h⟩ := h
 obtain ⟨K', h'⟩ := h'
 have a := h (max K K') (by omega)
 have b := h' (max K K') (by omega)
 rw [a] at b
 exact Option.some.inj b
theorem Ev.const {α : Type} {o : Option α} {r : α} (h : o = some r) : Ev (fun _ => o) r := ⟨0, fun _ _ => h⟩

def ndiff (a b : Nat) : Nat := a ^^^ (a &&& b)
theorem ndiff_bit (a b i : Nat) : (ndiff a b).testBit i = (a.testBit i && !b.testBit i) := by
 unfold ndiff; rw [Nat.testBit_xor, Nat.testBit_and]; cases a.testBit i <;> cases b.testBit i <;> rfl
theorem wrap_i64_id {n : Int} (h0 : -9223372036854775808 ≤ n) (h1 : n ≤ 9223372036854775807) : IntKind.i64.wrap n = n := by rw [IntKind.wrap_i64]; omega
theorem wraps62 (n : Int) (h0 : 0 ≤ n) (h1 : n < 2 ^ 62) : IntKind.i64.wrap n = n := wrap_i64_id (by omega) (by omega)
theorem bits_andN {a b : Nat} (ha : a < 2 ^ 62) (hb : b < 2 ^ 62) : Go.bits .and .i64 (a : Int) (b : Int) = ((a &&& b : Nat) : Int) :=
 (Go.bits_nat .i64 62 (by decide) wraps62 a b ha hb).1
theorem bits_orN {a b : Nat} (ha : a < 2 ^ 62) (hb : b < 2 ^ 62) : Go.bits .or .i64 (a : Int) (b : Int) = ((a ||| b : Nat) : Int) :=
 (Go.bits_nat .i64 62 (by decide) wraps62 a b ha hb).2
theorem lt_pow {a n m : Nat} (h : a < 2 ^ n) (hnm : n ≤ m) : a < 2 ^ m := Nat.lt_of_lt_of_le h (Nat.pow_le_pow_right (by decide) hnm)
theorem ndiff_le (a b : Nat) : ndiff a b ≤ a := by
 have h := Nat.and_le_left (n := a) (m := b)
 have hx : ndiff a b &&& (a &&& b) = 0 := by
  apply Nat.eq_of_testBit_eq
  intro i
  rw [Nat.testBit_and, ndiff_bit, Nat.testBit_and, Nat.zero_testBit]
  cases a.testBit i <;> cases b.testBit i <;> rfl
 apply Nat.le_of_testBit
 intro i hi
 rw [ndiff_bit] at hi
 simp at hi
 exact hi.1
theorem ndiff_lt {a b m : Nat} (h : a < m) : ndiff a b < m := Nat.lt_of_le_of_lt (ndiff_le a b) h
theorem bits_andNotN {a b : Nat} (ha : a < 2 ^ 62) (hb : b < 2 ^ 62) : Go.bits .andNot .i64 (a : Int) (b : Int) = ((ndiff a b : Nat) : Int) := by
 have e : Go.bits .andNot .i64 (a : Int) (b : Int) = IntKind.i64.wrap ((((BitVec.ofInt 64 a) &&& ~~~(BitVec.ofInt 64 b)).toNat : Nat) : Int) := rfl
 have e2 : ((BitVec.ofInt 64 (a : Int)) &&& ~~~(BitVec.ofInt 64 (b : Int))).toNat = ndiff a b := by
  apply Nat.eq_of_testBit_eq
  intro i
  rw [ndiff_bit, BitVec.ofInt_natCast, BitVec.ofInt_natCast]
  rw [BitVec.testBit_toNat, BitVec.getLsbD_and, BitVec.getLsbD_not, BitVec.getLsbD_ofNat, BitVec.getLsbD_ofNat]
  by_cases hi : i < 64
  ·simp [hi]
  ·have : a.testBit i = false := Nat.testBit_lt_two_pow (lt_pow ha (by omega))
   simp [hi, this]
 rw [e, e2]
 have h2 := ndiff_lt (b := b) ha
 exact wrap_i64_id (by omega) (by omega)
theorem shlN {i : Nat} (hi : i ≤ 61) : shl .i64 1 (i : Int) = ((2 ^ i : Nat) : Int) := by
 unfold shl
 have h1 : min (i : Int).toNat (IntKind.bits .i64) = i := by simp [IntKind.bits]; omega
 rw [h1]
 have h2 : (2 : Nat) ^ i < 2 ^ 62 := Nat.pow_lt_pow_right (by decide) (by omega)
 have e : (1 : Int) * 2 ^ i = ((2 ^ i : Nat) : Int) := by rw [Int.one_mul]; exact (Int.natCast_pow 2 i).symm
 rw [e]
 exact wraps62 _ (Int.natCast_nonneg _) (by
  have : ((2 ^ i : Nat) : Int) < ((4611686018427387904 : Nat) : Int) := by exact_mod_cast h2
  exact this)
theorem shrN (a i : Nat) (hi : i ≤ 64) : shr .i64 (a : Int) (i : Int) = ((a / 2 ^ i : Nat) : Int) := by
 unfold shr
 have h1 : min (i : Int).toNat (IntKind.bits .i64) = i := by simp [IntKind.bits]; omega
 rw [h1, Int.natCast_ediv, Int.natCast_pow]; rfl
theorem odd_bit (a i : Nat) : ((a / 2 ^ i) % 2 == 1) = a.testBit i := by
 rw [Nat.testBit_eq_decide_div_mod_eq]; rfl
theorem or_lt {a b n : Nat} (ha : a < 2 ^ n) (hb : b < 2 ^ n) : a ||| b < 2 ^ n := Nat.or_lt_two_pow ha hb
theorem bit_lt {a n i : Nat} (h : a < 2 ^ n) (hi : n ≤ i) : a.testBit i = false := Nat.testBit_lt_two_pow (lt_pow h hi)
theorem lt_of_bit {a n i : Nat} (h : a < 2 ^ n) (hi : a.testBit i = true) : i < n := by
 rcases Nat.lt_or_ge i n with h1 | h1
 ·exact h1
 ·rw [bit_lt h h1] at hi; cases hi
theorem pow_bit (i j : Nat) : (2 ^ i).testBit j = decide (i = j) := by
 rw [Nat.testBit_two_pow]
theorem pow_lt_pow {i n : Nat} (h : i < n) : 2 ^ i < 2 ^ n := Nat.pow_lt_pow_right (by decide) h
theorem ext_bits {a b n : Nat} (ha : a < 2 ^ n) (hb : b < 2 ^ n) (h : ∀ i, i < n → a.testBit i = b.testBit i) : a = b := by
 apply Nat.eq_of_testBit_eq
 intro i
 rcases Nat.lt_or_ge i n with h1 | h1
 ·exact h i h1
 ·rw [bit_lt ha h1, bit_lt hb h1]
def allFrom (f : Nat → Bool) (n i : Nat) : Bool := (List.range' i (n - i)).all f
theorem allFrom_end (f : Nat → Bool) (n : Nat) : allFrom f n n = true := by simp [allFrom]
theorem allFrom_step (f : Nat → Bool) {n i : Nat} (h : i < n) : allFrom f n i = (f i && allFrom f n (i + 1)) := by
 unfold allFrom
 obtain ⟨d, hd⟩ : ∃ d, n - i = d + 1 := ⟨n - i - 1, by omega⟩
 rw [hd, List.range'_succ, List.all_cons, show n - (i + 1) = d by omega]
theorem allFrom_iff (f : Nat → Bool) (n i : Nat) : allFrom f n i = true ↔ ∀ j, i ≤ j → j < n → f j = true := by
 unfold allFrom
 rw [List.all_eq_true]
 constructor
 ·intro h j h1 h2
  exact h j (List.mem_range'_1.2 ⟨h1, by omega⟩)
 ·intro h j hj
  obtain ⟨h1, h2⟩ := List.mem_range'_1.1 hj
  exact h j h1 (by omega)
theorem allFrom_congr {f g : Nat → Bool} {n i : Nat} (h : ∀ j, i ≤ j → j < n → f j = g j) : allFrom f n i = allFrom g n i := by
 rw [Bool.eq_iff_iff, allFrom_iff, allFrom_iff]
 exact ⟨fun H j a b => by rw [← h j a b]; exact H j a b, fun H j a b => by rw [h j a b]; exact H j a b⟩
theorem pow_int (i : Nat) : ((2 : Int) ^ i) = ((2 ^ i : Nat) : Int) := (Int.natCast_pow 2 i).symm
theorem mask_eq {i : Nat} (hi : i ≤ 61) : wrap64 ((shl .i64 1 (i : Int)) - 1) = (2 : Int) ^ i - 1 := by
 rw [shlN hi, pow_int]
 have h2 : (2 : Nat) ^ i ≤ 2 ^ 61 := Nat.pow_le_pow_right (by decide) hi
 have hp : 0 < 2 ^ i := Nat.two_pow_pos i
 apply wid <;> generalize 2 ^ i = z at * <;> omega
theorem bit_test {a : Nat} {j : Nat} (hj : j ≤ 64) : (Int.tmod (shr .i64 (a : Int) (j : Int)) 2 = 1) ↔ a.testBit j = true := by
 rw [shrN a j hj, Int.tmod_eq_emod_of_nonneg (Int.natCast_nonneg _), ← odd_bit, beq_iff_eq]
 omega
theorem range_false {a b : Int} {x : Int} (h : ¬ (a ≤ x ∧ x ≤ b)) : (decide (a ≤ x) && decide (x ≤ b)) = false := by
 rw [← Bool.not_eq_true, Bool.and_eq_true, decide_eq_true_eq, decide_eq_true_eq]; exact h
theorem range_true {a b : Int} {x : Int} (h : a ≤ x ∧ x ≤ b) : (decide (a ≤ x) && decide (x ≤ b)) = true := by
 rw [Bool.and_eq_true, decide_eq_true_eq, decide_eq_true_eq]; exact h
end Go.Proofs.Ytmbojobkiainlaa.Q
end

section
namespace Go.Proofs.Ytmbojobkiainlaa.Q
open Go.RowKit Go.Proofs.YtmbojobkiainlaaW.PrintWords Go.Proofs.Ytmbojobkiainlaa.F
set_option linter.unusedVariables false
theorem l1In_eq (a b c : Int) : spec_l1In.f a b c = some (decide (b ≤ a) && decide (a ≤ c)) := by
 unfold spec_l1In.f
 by_cases h : b ≤ a
 ·rw [if_pos h]; simp [h]
 ·rw [if_neg h]; simp [h]
end Go.Proofs.Ytmbojobkiainlaa.Q
end

section
namespace Go.Proofs.Ytmbojobkiainlaa.Q
open Go.RowKit Go.Proofs.YtmbojobkiainlaaW.PrintWords
set_option linter.unusedVariables false
theorem Ev.all {α : Type} {g : Nat → Nat → Option α} {r : Nat → α} : ∀ N : Nat, (∀ s, s < N → Ev (g s) (r s)) → ∃ K, ∀ k, K ≤ k → ∀ s, s < N → g s k = some (r s)
 | 0, _ => ⟨0, fun k _ s hs => absurd hs (Nat.not_lt_zero _)⟩
 | N + 1, h => by
  obtain ⟨K, hK⟩ := Ev.all N (fun s hs => h s (by omega))
  obtain ⟨K', hK'⟩ := h N (Nat.lt_succ_self _)
  refine ⟨K + K', fun k hk s hs => ?_⟩
  rcases Nat.lt_or_ge s N with h1 | h1
  ·exact hK k (by omega) s h1
  ·rw [show s = N by omega]; exact hK' k (by omega)
end Go.Proofs.Ytmbojobkiainlaa.Q
end

section
namespace Go.Proofs.Ytmbojobkiainlaa.Q
open Go.RowKit Go.Proofs.YtmbojobkiainlaaW.PrintWords Go.Proofs.Ytmbojobkiainlaa.F
set_option linter.unusedVariables false
theorem has_eq {a j : Nat} (ha : a < 2 ^ 62) (hj : j ≤ 64) : impl_has.f (a : Int) (j : Int) = some (a.testBit j) := by
 unfold impl_has.f
 rw [if_pos (Int.natCast_nonneg _), shrN a j hj]
 congr 1
 have h1 : a / 2 ^ j < 2 ^ 62 := Nat.lt_of_le_of_lt (Nat.div_le_self _ _) ha
 have := bits_andN (a := a / 2 ^ j) (b := 1) h1 (by decide)
 rw [show ((1 : Nat) : Int) = 1 from rfl] at this
 rw [this, ← odd_bit, Nat.and_one_is_mod]
 rw [Bool.eq_iff_iff, beq_iff_eq, beq_iff_eq]
 omega
def inR (a b x : Int) : Bool := decide (a ≤ x) && decide (x ≤ b)
theorem inR_iff {a b x : Int} : inR a b x = true ↔ a ≤ x ∧ x ≤ b := by unfold inR; rw [Bool.and_eq_true, decide_eq_true_eq, decide_eq_true_eq]
theorem l1All_ev (l : List Int) (a b : Int) (h : l.length ≤ 9223372036854775807) : Ev (fun k => spec_l1All.f k l a b) (allFrom (fun i => inR a b (l.getD i 0)) l.length 0) := by
 unfold spec_l1All.f
 have key : ∀ i, i ≤ l.length → Ev (fun k => spec_l1All.l0 k a b l (l.length : Int) (i : Int)) (allFrom (fun i => inR a b (l.getD i 0)) l.length i) := by
  refine downTo _ ?_ ?_
  ·refine Ev.step (by intro k; simp only [spec_l1All.l0]; rfl) (Ev.no (by omega) (Ev.ret (allFrom_end _ _).symm))
  ·intro i hi ih
   refine Ev.step (by intro k; simp only [spec_l1All.l0]; rfl) (Ev.yes (by omega) (Ev.yes (by omega) (Ev.yes (by omega) ?_)))
   rw [wid1 hi (by omega), rdN, allFrom_step _ hi]
   refine Ev.call (l1In_eq _ _ _) ?_
   show Ev (fun k => if inR a b (l.getD i 0) = true then _ else _) (inR a b (l.getD i 0) && _)
   cases inR a b (l.getD i 0) with
   | true => exact Ev.yes rfl (evc ih (by simp))
   | false => exact Ev.no (by simp) (Ev.ret rfl)
 exact key 0 (by omega)
end Go.Proofs.Ytmbojobkiainlaa.Q
end

section
namespace Go.Proofs.Ytmbojobkiainlaa.Q
open Go.RowKit Go.Proofs.YtmbojobkiainlaaW.PrintWords
set_option linter.unusedVariables false
theorem getD_set {α : Type} (l : List α) (i j : Nat) (v d : α) (hi : i < l.length) : (l.set i v).getD j d = if i = j then v else l.getD j d := by
 simp only [List.getD_eq_getElem?_getD, List.getElem?_set]
 by_cases h : i = j
 ·subst h; simp [hi]
 ·simp [h]
theorem ext_getD {a b : List Int} (hl : a.length = b.length) (h : ∀ i, i < a.length → a.getD i 0 = b.getD i 0) : a = b := by
 apply List.ext_getElem hl
 intro i h1 h2
 have := h i h1
 rw [List.getD_eq_getElem?_getD, List.getD_eq_getElem?_getD, List.getElem?_eq_getElem h1, List.getElem?_eq_getElem h2] at this
 exact this
theorem reverse_getD (l : List Int) (i : Nat) (h : i < l.length) : l.reverse.getD i 0 = l.getD (l.length - 1 - i) 0 := by
 rw [List.getD_eq_getElem?_getD, List.getD_eq_getElem?_getD, List.getElem?_reverse h]
def upFrom (a : Nat) (n : Nat) : List Int := (List.range' a n).map Int.ofNat
theorem upFrom_len (a n : Nat) : (upFrom a n).length = n := by simp [upFrom]
theorem upFrom_get {a n i : Nat} (h : i < n) : (upFrom a n).getD i 0 = ((a + i : Nat) : Int) := by
 rw [List.getD_eq_getElem?_getD]
 simp [upFrom, h]
end Go.Proofs.Ytmbojobkiainlaa.Q
end

section
namespace Go.Proofs.Ytmbojobkiainlaa.Q

end Go.Proofs.Ytmbojobkiainlaa.Q
end

section
namespace Go.Proofs.Ytmbojobkiainlaa.Q
open Go.RowKit Go.Proofs.YtmbojobkiainlaaW.PrintWords Go.Proofs.Ytmbojobkiainlaa.F
set_option linter.unusedVariables false
theorem poIn_eq {a j : Nat} (hj : j ≤ 64) : spec_poIn.f (a : Int) (j : Int) = some (a.testBit j) := by
 unfold spec_poIn.f
 rw [if_pos (Int.natCast_nonneg _)]
 congr 1
 rw [Bool.eq_iff_iff, beq_iff_eq]
 exact bit_test hj
end Go.Proofs.Ytmbojobkiainlaa.Q
end

section
namespace Go.Proofs.Ytmbojobkiainlaa.Q
open Go.RowKit Go.Proofs.YtmbojobkiainlaaW.PrintWords
set_option linter.unusedVariables false
def L (p : List Int) (i : Nat) : Nat := (p.getD i 0).toNat
def rowOk (p : List Int) (i : Nat) : Bool := decide (0 ≤ p.getD i 0) && decide (p.getD i 0 ≤ 2 ^ i - 1) && allFrom (fun j => !(L p i).testBit j || decide (Go.bits .andNot .i64 (p.getD j 0) (p.getD i 0) = 0)) i 0
def isPo (p : List Int) : Bool := decide (1 ≤ p.length) && decide (p.length ≤ 10) && allFrom (rowOk p) p.length 0
structure PO (p : List Int) : Prop where
 pos : 1 ≤ p.length
 small : p.length ≤ 10
 val : ∀ i, i < p.length → p.getD i 0 = (L p i : Int)
 lt : ∀ i, i < p.length → L p i < 2 ^ i
 tr : ∀ i j, i < p.length → (L p i).testBit j = true → ndiff (L p j) (L p i) = 0
theorem L_big {p : List Int} {i : Nat} (h : p.length ≤ i) : L p i = 0 := by
 unfold L; rw [List.getD_eq_getElem?_getD, List.getElem?_eq_none h]; rfl
theorem isPo_iff (p : List Int) : isPo p = true ↔ PO p := by
 unfold isPo
 rw [Bool.and_eq_true, Bool.and_eq_true, decide_eq_true_eq, decide_eq_true_eq, allFrom_iff]
 constructor
 ·rintro ⟨⟨h1, h2⟩, h3⟩
  have hv : ∀ i, i < p.length → p.getD i 0 = (L p i : Int) ∧ L p i < 2 ^ i := by
   intro i hi
   have := h3 i (Nat.zero_le _) hi
   simp only [rowOk, Bool.and_eq_true, decide_eq_true_eq] at this
   obtain ⟨⟨a, b⟩, _⟩ := this
   rw [pow_int] at b
   have hp : 0 < 2 ^ i := Nat.two_pow_pos i
   unfold L
   generalize 2 ^ i = z at *
   omega
  refine ⟨h1, h2, fun i hi => (hv i hi).1, fun i hi => (hv i hi).2, fun i j hi hj => ?_⟩
  have hji : j < i := lt_of_bit (hv i hi).2 hj
  have := h3 i (Nat.zero_le _) hi
  simp only [rowOk, Bool.and_eq_true] at this
  have h4 := (allFrom_iff _ _ _).1 this.2 j (Nat.zero_le _) hji
  rw [hj] at h4
  simp only [Bool.not_true, Bool.false_or, decide_eq_true_eq] at h4
  rw [(hv i hi).1, (hv j (by omega)).1, bits_andNotN (lt_pow (hv j (by omega)).2 (by omega)) (lt_pow (hv i hi).2 (by omega))] at h4
  exact_mod_cast h4
 ·intro h
  refine ⟨⟨h.pos, h.small⟩, fun i _ hi => ?_⟩
  have hs := h.small
  have hl := h.lt i hi
  simp only [rowOk, Bool.and_eq_true, decide_eq_true_eq]
  refine ⟨⟨by rw [h.val i hi]; omega, by rw [h.val i hi, pow_int]; generalize 2 ^ i = z at *; omega⟩, ?_⟩
  rw [allFrom_iff]
  intro j _ hj
  cases hb : (L p i).testBit j with
  | false => rfl
  | true =>
   simp only [Bool.not_true, Bool.false_or, decide_eq_true_eq]
   rw [h.val i hi, h.val j (by omega), bits_andNotN (lt_pow (h.lt j (by omega)) (by omega)) (lt_pow hl (by omega)), h.tr i j hi hb]
   rfl
theorem isPo_false {p : List Int} (h : ¬ PO p) : isPo p = false := by
 cases e : isPo p with
 | false => rfl
 | true => exact absurd ((isPo_iff p).1 e) h

def itemsN (m : Nat) : List Nat := (List.range 10).filter m.testBit
def ints (l : List Nat) : List Int := l.map Int.ofNat
theorem ints_len (l : List Nat) : (ints l).length = l.length := by simp [ints]
theorem ints_app (a b : List Nat) : ints (a ++ b) = ints a ++ ints b := by simp [ints]
theorem ints_get (l : List Nat) (i : Nat) : (ints l).getD i 0 = ((l.getD i 0 : Nat) : Int) := by
 simp only [ints, List.getD_eq_getElem?_getD, List.getElem?_map]
 cases l[i]? <;> rfl
theorem rd_ints (l : List Nat) (i : Nat) : rd (ints l) (i : Int) = ((l.getD i 0 : Nat) : Int) := by rw [rdN, ints_get]
theorem mem_itemsN {m j : Nat} : j ∈ itemsN m ↔ j < 10 ∧ m.testBit j = true := by
 unfold itemsN; rw [List.mem_filter, List.mem_range]
theorem itemsN_len (m : Nat) : (itemsN m).length ≤ 10 := by
 unfold itemsN; have := List.length_filter_le m.testBit (List.range 10); simpa using this
theorem rowOk_false {p : List Int} {i : Nat} (h : ¬ (0 ≤ p.getD i 0 ∧ p.getD i 0 ≤ 2 ^ i - 1)) : rowOk p i = false := by
 unfold rowOk; rw [range_false h]; rfl
theorem rowOk_true {p : List Int} {i : Nat} (h : 0 ≤ p.getD i 0 ∧ p.getD i 0 ≤ 2 ^ i - 1) :
 rowOk p i = allFrom (fun j => !(L p i).testBit j || decide (Go.bits .andNot .i64 (p.getD j 0) (p.getD i 0) = 0)) i 0 := by
 unfold rowOk; rw [range_true h]; rfl
theorem all_drop_step {α : Type} (f : α → Bool) (l : List α) (d : α) {i : Nat} (h : i < l.length) : (l.drop i).all f = (f (l.getD i d) && (l.drop (i + 1)).all f) := by
 rw [List.drop_eq_getElem_cons h, List.all_cons, List.getD_eq_getElem?_getD, List.getElem?_eq_getElem h]; rfl
theorem items_lt {m i : Nat} {j : Nat} (hm : m < 2 ^ i) (hj : j < (itemsN m).length) : (itemsN m).getD j 0 < i := by
 rw [List.getD_eq_getElem?_getD, List.getElem?_eq_getElem hj]
 have := List.getElem_mem hj
 exact lt_of_bit hm (mem_itemsN.1 this).2
theorem items_all {m i : Nat} (hm : m < 2 ^ i) (hi : i ≤ 10) (f : Nat → Bool) : (itemsN m).all f = allFrom (fun j => !m.testBit j || f j) i 0 := by
 rw [Bool.eq_iff_iff, List.all_eq_true, allFrom_iff]
 constructor
 ·intro h j _ hj
  cases hb : m.testBit j with
  | false => rfl
  | true => rw [h j (mem_itemsN.2 ⟨by omega, hb⟩)]; rfl
 ·intro h j hj
  obtain ⟨h1, h2⟩ := mem_itemsN.1 hj
  have := h j (Nat.zero_le _) (lt_of_bit hm h2)
  rw [h2] at this
  simpa using this
end Go.Proofs.Ytmbojobkiainlaa.Q
end

section
namespace Go.Proofs.Ytmbojobkiainlaa.Q
open Go.RowKit Go.Proofs.YtmbojobkiainlaaW.PrintWords Go.Proofs.Ytmbojobkiainlaa.F
set_option linter.unusedVariables false
def bytesL (l : List Int) : Prop := ∀ n ∈ l, 0 ≤ n ∧ n ≤ 255
def cAt (B : Nat) (a : Int) : Prop := 0 ≤ a ∧ a ≤ (B : Int)
theorem cAt_mono {B C : Nat} {a : Int} (h : cAt B a) (hBC : B ≤ C) : cAt C a := ⟨h.1, by have := h.2; omega⟩
theorem rd_byte {l : List Int} (hl : bytesL l) (i : Int) : 0 ≤ rd l i ∧ rd l i ≤ 255 := by
 unfold rd
 rw [List.getD_eq_getElem?_getD]
 rcases Nat.lt_or_ge i.toNat l.length with h | h
 ·rw [List.getElem?_eq_getElem h]
  exact hl _ (List.getElem_mem h)
 ·rw [List.getElem?_eq_none h]; exact ⟨Int.le_refl _, by decide⟩
theorem wrapu62 (n : Int) (h0 : 0 ≤ n) (h1 : n < 2 ^ 62) : IntKind.u64.wrap n = n := by rw [IntKind.wrap_u64]; omega
theorem seed_byte (x : Int) : 0 ≤ wrap64 (Go.bits .and .u64 ((IntKind.u64.wrap x) / 1099511627776) 255) ∧ wrap64 (Go.bits .and .u64 ((IntKind.u64.wrap x) / 1099511627776) 255) ≤ 255 := by
 have h : 0 ≤ IntKind.u64.wrap x ∧ IntKind.u64.wrap x < 18446744073709551616 := by rw [IntKind.wrap_u64]; omega
 obtain ⟨q, hq⟩ : ∃ q : Nat, (IntKind.u64.wrap x) / 1099511627776 = (q : Int) := ⟨((IntKind.u64.wrap x) / 1099511627776).toNat, by omega⟩
 have hq2 : q < 2 ^ 62 := by omega
 have := (Go.bits_nat .u64 62 (by decide) wrapu62 q 255 hq2 (by decide)).1
 rw [hq, show (255 : Int) = ((255 : Nat) : Int) from rfl, this]
 have h2 : q &&& 255 ≤ 255 := Nat.and_le_right
 rw [wid (by omega) (by omega)]
 omega
theorem next_ok {l : List Int} (hl : bytesL l) {B : Nat} {a : Int} (s : Int) (ha : cAt B a) (hB : B ≤ 1000000) : ∃ x a' s', spec_l1Cur_next.f l a s = some (x, a', s') ∧ cAt (B + 1) a' ∧ 0 ≤ x ∧ x ≤ 255 := by
 obtain ⟨h0, h1⟩ := ha
 have hw : wrap64 (a + 1) = a + 1 := wid (by omega) (by omega)
 have hc : cAt (B + 1) (a + 1) := ⟨by omega, by omega⟩
 obtain ⟨r0, r1⟩ := rd_byte hl a
 unfold spec_l1Cur_next.f
 rw [hw]
 by_cases c1 : a < (l.length : Int)
 ·rw [if_pos c1, if_pos h0]
  by_cases c2 : a + 1 ≤ (l.length : Int)
  ·rw [if_pos c2]
   exact ⟨_, _, _, rfl, hc, by rw [wid (by omega) (by omega)]; exact r0, by rw [wid (by omega) (by omega)]; exact r1⟩
  ·rw [if_neg c2]
   exact ⟨_, _, _, rfl, hc, (seed_byte _).1, (seed_byte _).2⟩
 ·rw [if_neg c1]
  by_cases c2 : a + 1 ≤ (l.length : Int)
  ·rw [if_pos c2]; exact ⟨_, _, _, rfl, hc, by omega, by omega⟩
  ·rw [if_neg c2]; exact ⟨_, _, _, rfl, hc, (seed_byte _).1, (seed_byte _).2⟩
def pickTo (n x : Int) : Prop := 0 ≤ x ∧ (x < n ∨ (x = 0 ∧ n ≤ 1))
theorem tmod_to {x n : Int} (hx : 0 ≤ x) (hn : 1 < n) : pickTo n (Int.tmod x n) := by
 rw [Int.tmod_eq_emod_of_nonneg hx]
 exact ⟨Int.emod_nonneg _ (by omega), Or.inl (Int.emod_lt_of_pos _ (by omega))⟩
theorem cpick_ok {l : List Int} (hl : bytesL l) {B : Nat} {a : Int} (s n : Int) (ha : cAt B a) (hB : B ≤ 900000) : ∃ x a' s', spec_l1Cur_pick.f l a s n = some (x, a', s') ∧ cAt (B + 2) a' ∧ pickTo n x := by
 unfold spec_l1Cur_pick.f
 by_cases c1 : n ≤ 1
 ·rw [if_pos c1]
  exact ⟨_, _, _, rfl, cAt_mono ha (by omega), Int.le_refl _, Or.inr ⟨rfl, c1⟩⟩
 rw [if_neg c1]
 obtain ⟨x1, a1, s1, e1, h1, g1, g2⟩ := next_ok hl s ha (by omega)
 rw [e1]
 simp only [Option.bind_some]
 by_cases c2 : n > 200
 ·rw [if_pos c2]
  obtain ⟨x2, a2, s2, e2, h2, k1, k2⟩ := next_ok hl s1 h1 (by omega)
  rw [e2]
  simp only [Option.bind_some]
  rw [if_neg (by omega), wid (n := x1 * 256) (by omega) (by omega), wid (n := x1 * 256 + x2) (by omega) (by omega)]
  exact ⟨_, _, _, rfl, h2, tmod_to (by omega) (by omega)⟩
 ·rw [if_neg c2, if_neg (by omega)]
  exact ⟨_, _, _, rfl, cAt_mono h1 (by omega), tmod_to g1 (by omega)⟩
theorem one_ok {l : List Int} (hl : bytesL l) {B : Nat} {a : Int} (s n : Int) (ha : cAt B a) (hB : B ≤ 900000) : ∃ x a' s', spec_l1Cur_one.f l a s n = some (x, a', s') ∧ cAt (B + 2) a' := by
 obtain ⟨x, a', s', e, h, _⟩ := cpick_ok hl s n ha hB
 unfold spec_l1Cur_one.f
 rw [e]
 exact ⟨_, _, _, rfl, h⟩
theorem among_ok {l : List Int} (hl : bytesL l) {B : Nat} {a : Int} (s : Int) (ha : cAt B a) (hB : B ≤ 900000) {m : List Int} (hm : 0 < m.length) : ∃ x a' s', spec_l1Cur_among.f l a s m = some (x, a', s') ∧ cAt (B + 2) a' ∧ x ∈ m := by
 obtain ⟨x, a', s', e, h, g0, g1⟩ := cpick_ok hl s (m.length : Int) ha hB
 unfold spec_l1Cur_among.f
 rw [e]
 simp only [Option.bind_some]
 have hx : x < (m.length : Int) := by omega
 rw [if_pos g0, if_pos hx]
 refine ⟨_, _, _, rfl, h, ?_⟩
 unfold rd
 rw [List.getD_eq_getElem?_getD, List.getElem?_eq_getElem (by omega)]
 exact List.getElem_mem _
def wfL (l : List Int) : Prop := ∀ n ∈ l, (Lit.int .i64 n).wf = true
theorem wf_wrapI (n : Int) : (Lit.int .i64 (IntKind.i64.wrap n)).wf = true := WalkArith.wf_i64 (by rw [IntKind.wrap_i64]; omega)
theorem wf_wrap64 (n : Int) : (Lit.int .i64 (wrap64 n)).wf = true := WalkArith.wf_i64 (by unfold wrap64; omega)
theorem wf_or (a b : Int) : (Lit.int .i64 (Go.bits .or .i64 a b)).wf = true := wf_wrapI _
theorem wfL_set {l : List Int} (h : wfL l) {x : Int} (hx : (Lit.int .i64 x).wf = true) (i : Nat) : wfL (l.set i x) := fun n hn => by
 rcases List.mem_or_eq_of_mem_set hn with h1 | h1
 ·exact h n h1
 ·rw [h1]; exact hx
theorem wfL_rep (n : Nat) : wfL (List.replicate n 0) := fun x hx => by
 rw [(List.mem_replicate.1 hx).2]; decide
theorem wfL_app {a b : List Int} (ha : wfL a) (hb : wfL b) : wfL (a ++ b) := fun n hn => by
 rcases List.mem_append.1 hn with h | h
 ·exact ha n h
 ·exact hb n h
def pairsOk (n : Nat) (ps : List (List Int)) : Prop := ps.length ≤ 1000 ∧ ∀ c ∈ ps, c.length = 2 ∧ 0 ≤ c.getD 0 0 ∧ c.getD 0 0 < (n : Int)
theorem poFrom_ok {n : Nat} (hn : n ≤ 1000) {ps : List (List Int)} (hp : pairsOk n ps) : ∃ r, Ev (fun k => spec_poFrom.f k (n : Int) ps) r ∧ r.length = n ∧ wfL r := by
 unfold spec_poFrom.f
 have outer : ∀ i, i ≤ n → ∀ out : List Int, out.length = n → wfL out → ∃ r, Ev (fun k => spec_poFrom.l0 k (n : Int) ps (i : Int) out) r ∧ r.length = n ∧ wfL r := by
  refine downTo _ ?_ ?_
  ·intro out h1 h2
   exact ⟨out, Ev.step (by intro k; simp only [spec_poFrom.l0]; rfl) (Ev.no (by omega) (Ev.now _)), h1, h2⟩
  ·intro i hi ih
   have inner : ∀ j, j ≤ ps.length → ∀ out : List Int, out.length = n → wfL out → ∃ r, Ev (fun k => spec_poFrom.l1 k (n : Int) ps (i : Int) ps (ps.length : Int) (j : Int) out) r ∧ r.length = n ∧ wfL r := by
    refine downTo _ ?_ ?_
    ·intro out h1 h2
     obtain ⟨r, g1, g2, g3⟩ := ih out h1 h2
     refine ⟨r, Ev.step (by intro k; simp only [spec_poFrom.l1]; rfl) (Ev.no (by omega) ?_), g2, g3⟩
     rw [wid1 hi (by omega)]
     exact g1
    ·intro j hj ihj out h1 h2
     obtain ⟨hc1, hc2, hc3⟩ := hp.2 _ (List.getElem_mem hj)
     have hrow : rd_L1 ps (j : Int) = ps[j] := by
      unfold rd_L1
      rw [Int.toNat_natCast, List.getD_eq_getElem?_getD, List.getElem?_eq_getElem hj]; rfl
     have hpl := hp.1
     have hw : wrap64 ((j : Int) + 1) = ((j + 1 : Nat) : Int) := wid1 hj (by omega)
     have hr0 : rd ps[j] 0 = ps[j].getD 0 0 := rfl
     by_cases hc : rd ps[j] 1 = (i : Int)
     ·obtain ⟨r, g1, g2, g3⟩ := ihj (out.set ((i : Int)).toNat (Go.bits .or .i64 (rd out (i : Int)) (Go.bits .or .i64 (shl .i64 1 (rd ps[j] 0)) (rd out (rd ps[j] 0))))) (by rw [List.length_set]; exact h1) (wfL_set h2 (wf_or _ _) _)
      refine ⟨r, Ev.step (by intro k; simp only [spec_poFrom.l1]; rfl) (Ev.yes (by omega) (Ev.yes (by omega) (Ev.yes (by omega) ?_))), g2, g3⟩
      rw [hrow, hw]
      exact Ev.yes (by omega) (Ev.yes hc (Ev.yes (by omega) (Ev.yes (by omega) (Ev.yes (by omega) (Ev.yes (by omega) (Ev.yes (by omega) g1))))))
     ·obtain ⟨r, g1, g2, g3⟩ := ihj out h1 h2
      refine ⟨r, Ev.step (by intro k; simp only [spec_poFrom.l1]; rfl) (Ev.yes (by omega) (Ev.yes (by omega) (Ev.yes (by omega) ?_))), g2, g3⟩
      rw [hrow, hw]
      exact Ev.yes (by omega) (Ev.no hc g1)
   intro out h1 h2
   obtain ⟨r, g1, g2, g3⟩ := inner 0 (Nat.zero_le _) out h1 h2
   exact ⟨r, Ev.step (by intro k; simp only [spec_poFrom.l0]; rfl) (Ev.yes (by omega) g1), g2, g3⟩
 obtain ⟨r, g1, g2, g3⟩ := outer 0 (Nat.zero_le _) (List.replicate n 0) (by simp) (wfL_rep n)
 refine ⟨r, Ev.yes (by omega) (Ev.yes (by omega) ?_), g2, g3⟩
 rw [Int.toNat_natCast]
 exact g1
theorem items_ev (m : Nat) (hm : m < 2 ^ 62) : Ev (fun k => impl_items.f k (m : Int)) (ints (itemsN m)) := by
 show Ev (fun k => impl_items.l0 k (m : Int) [] 0) _
 have key : ∀ i, i ≤ 10 → ∀ acc : List Int, acc.length ≤ i → Ev (fun k => impl_items.l0 k (m : Int) acc (i : Int)) (acc ++ ints ((List.range' i (10 - i)).filter m.testBit)) := by
  refine downTo 10 ?_ ?_
  ·intro acc _
   refine Ev.step (by intro k; simp only [impl_items.l0]; rfl) ?_
   refine Ev.no (by omega) (Ev.ret (by simp [ints]))
  ·intro i hi ih acc ha
   refine Ev.step (by intro k; simp only [impl_items.l0]; rfl) ?_
   refine Ev.yes (by omega) (Ev.call (has_eq hm (by omega)) ?_)
   have hr : List.range' i (10 - i) = i :: List.range' (i + 1) (10 - (i + 1)) := by
    rw [show 10 - i = (10 - (i + 1)) + 1 by omega, List.range'_succ]
   rw [hr, wid1 hi (by omega)]
   cases hb : m.testBit i with
   | true =>
    refine Ev.yes rfl (Ev.yes (by omega) (evc (ih (acc ++ [(i : Int)]) (by simp; omega)) ?_))
    rw [List.filter_cons_of_pos hb]
    simp [ints]
   | false =>
    refine Ev.no (by simp) (evc (ih acc (by omega)) ?_)
    rw [List.filter_cons_of_neg (by simp [hb])]
 have := key 0 (by omega) [] (by simp)
 exact evc this (by simp [itemsN, List.range_eq_range'])
theorem rdL_at {rows : List (List Int)} {i : Nat} (h : i < rows.length) : rd_L1 rows (i : Int) = rows[i] := by
 unfold rd_L1
 rw [Int.toNat_natCast, List.getD_eq_getElem?_getD, List.getElem?_eq_getElem h]; rfl
theorem big_eq {a b : List Int} (h : ¬ (a.length > 1048576 ∨ b.length > 1048576 - a.length)) : laws_big.f a b = some false := by
 unfold laws_big.f
 rw [if_neg (by omega), wid (by omega) (by omega), decide_eq_false (by omega)]
theorem big_or (a b : List Int) : laws_big.f a b = some true ∨ (laws_big.f a b = some false ∧ a.length ≤ 1048576 ∧ b.length ≤ 1048576) := by
 by_cases h : a.length > 1048576 ∨ b.length > 1048576 - a.length
 ·left
  unfold laws_big.f
  by_cases h1 : (a.length : Int) > 1048576
  ·rw [if_pos h1]
  ·rw [if_neg h1, wid (by omega) (by omega), decide_eq_true (by omega)]
 ·right
  exact ⟨big_eq h, by omega, by omega⟩
theorem oSame_refl {a : List Int} (h : a.length ≤ 100000000) : Ev (fun k => laws_oSame.f k a a) true := by
 unfold laws_oSame.f
 refine Ev.yes rfl ?_
 have key : ∀ i, i ≤ a.length → Ev (fun k => laws_oSame.l0 k a a (a.length : Int) (i : Int)) true := by
  refine downTo _ ?_ ?_
  ·exact Ev.step (by intro k; simp only [laws_oSame.l0]; rfl) (Ev.no (by omega) (Ev.now _))
  ·intro i hi ih
   refine Ev.step (by intro k; simp only [laws_oSame.l0]; rfl) (Ev.yes (by omega) (Ev.yes (by omega) (Ev.yes (by omega) (Ev.yes (by omega) (Ev.yes (c := rd a (i : Int) = rd a (i : Int)) rfl ?_)))))
   rw [wid1 hi (by omega)]
   exact ih
 exact key 0 (Nat.zero_le _)
end Go.Proofs.Ytmbojobkiainlaa.Q
end

section
namespace Go.Proofs.Ytmbojobkiainlaa.Q
open Go.RowKit Go.Proofs.YtmbojobkiainlaaW.PrintWords
set_option linter.unusedVariables false
def maskOf : Nat → (Nat → Bool) → Nat
 | 0, _ => 0
 | n + 1, c => if c n then maskOf n c ||| 2 ^ n else maskOf n c
theorem maskOf_bit (n : Nat) (c : Nat → Bool) (i : Nat) : (maskOf n c).testBit i = (decide (i < n) && c i) := by
 induction n with
 | zero => simp [maskOf]
 | succ n ih =>
  unfold maskOf
  by_cases hc : c n = true
  ·rw [if_pos hc, Nat.testBit_or, ih, pow_bit]
   by_cases h : n = i
   ·subst h; simp [hc]
   ·have : decide (i < n + 1) = decide (i < n) := by rw [decide_eq_decide]; omega
    rw [this]; simp [h]
  ·rw [if_neg hc, ih]
   by_cases h : n = i
   ·subst h; simp at hc; simp [hc]
   ·have : decide (i < n + 1) = decide (i < n) := by rw [decide_eq_decide]; omega
    rw [this]
theorem maskOf_lt (n : Nat) (c : Nat → Bool) : maskOf n c < 2 ^ n := by
 apply Nat.lt_pow_two_of_testBit
 intro i hi
 rw [maskOf_bit, decide_eq_false (by omega)]; rfl
def subB (a b : Nat) : Bool := ndiff a b == 0
theorem ndiff_zero {a b : Nat} : ndiff a b = 0 ↔ ∀ i, a.testBit i = true → b.testBit i = true := by
 constructor
 ·intro h i hi
  have := ndiff_bit a b i
  rw [h, hi, Nat.zero_testBit] at this
  cases hb : b.testBit i with
  | true => rfl
  | false => rw [hb] at this; simp at this
 ·intro h
  apply Nat.eq_of_testBit_eq
  intro i
  rw [ndiff_bit, Nat.zero_testBit]
  cases ha : a.testBit i with
  | false => rfl
  | true => rw [h i ha]; rfl
theorem subB_iff {a b : Nat} : subB a b = true ↔ ∀ i, a.testBit i = true → b.testBit i = true := by unfold subB; rw [beq_iff_eq]; exact ndiff_zero
def allN (p : List Int) : Nat := 2 ^ p.length - 1
theorem allN_bit (p : List Int) (i : Nat) : (allN p).testBit i = decide (i < p.length) := by unfold allN; rw [Nat.testBit_two_pow_sub_one]
theorem allN_lt (p : List Int) : allN p < 2 ^ p.length := by unfold allN; have := Nat.two_pow_pos p.length; omega
def setB (p : List Int) (x : Int) : Bool := decide (0 ≤ x) && decide (x ≤ ((allN p : Nat) : Int))
theorem setB_iff {p : List Int} {x : Int} : setB p x = true ↔ ∃ s : Nat, x = (s : Int) ∧ s < 2 ^ p.length := by
 unfold setB
 rw [Bool.and_eq_true, decide_eq_true_eq, decide_eq_true_eq]
 have := Nat.two_pow_pos p.length
 unfold allN
 constructor
 ·rintro ⟨h1, h2⟩; exact ⟨x.toNat, by omega, by omega⟩
 ·rintro ⟨s, rfl, h⟩; omega
def idealB (p : List Int) (s : Nat) : Bool := allFrom (fun i => !s.testBit i || subB (L p i) s) p.length 0
theorem idealB_iff {p : List Int} {s : Nat} : idealB p s = true ↔ ∀ i, i < p.length → s.testBit i = true → ∀ j, (L p i).testBit j = true → s.testBit j = true := by
 unfold idealB
 rw [allFrom_iff]
 constructor
 ·intro h i hi hs
  have := h i (Nat.zero_le _) hi
  rw [hs] at this
  exact subB_iff.1 (by simpa using this)
 ·intro h i _ hi
  cases hs : s.testBit i with
  | false => rfl
  | true => rw [subB_iff.2 (h i hi hs)]; rfl
def closeN (p : List Int) (s : Nat) : Nat := (itemsN s).foldl (fun a e => a ||| L p e) s
theorem foldl_or_bit (g : Nat → Nat) (l : List Nat) (a i : Nat) : (l.foldl (fun a e => a ||| g e) a).testBit i = (a.testBit i || l.any fun e => (g e).testBit i) := by
 induction l generalizing a with
 | nil => simp
 | cons x l ih => rw [List.foldl_cons, ih, Nat.testBit_or, List.any_cons, Bool.or_assoc]
theorem closeN_bit {p : List Int} {s i : Nat} : (closeN p s).testBit i = (s.testBit i || (itemsN s).any fun e => (L p e).testBit i) := foldl_or_bit _ _ _ _
theorem closeN_eq {p : List Int} (hp : PO p) {s : Nat} (hs : s < 2 ^ p.length) : (closeN p s == s) = idealB p s := by
 have hn := hp.small
 rw [Bool.eq_iff_iff, beq_iff_eq, idealB_iff]
 constructor
 ·intro h i hi hb j hj
  have := closeN_bit (p := p) (s := s) (i := j)
  rw [h] at this
  rw [this]
  have : (itemsN s).any (fun e => (L p e).testBit j) = true := List.any_eq_true.2 ⟨i, mem_itemsN.2 ⟨by omega, hb⟩, hj⟩
  rw [this]; simp
 ·intro h
  apply Nat.eq_of_testBit_eq
  intro i
  rw [closeN_bit]
  cases hb : s.testBit i with
  | true => rfl
  | false =>
   rw [Bool.false_or, ← Bool.not_eq_true, List.any_eq_true]
   rintro ⟨e, he, hj⟩
   obtain ⟨_, h2⟩ := mem_itemsN.1 he
   have := h e (lt_of_bit hs h2) h2 i hj
   rw [this] at hb; cases hb
theorem L_lt {p : List Int} (hp : PO p) {i : Nat} (hi : i < p.length) : L p i < 2 ^ p.length := lt_pow (hp.lt i hi) (by omega)
theorem foldl_or_lt (g : Nat → Nat) (l : List Nat) (a n : Nat) (ha : a < 2 ^ n) (hg : ∀ e, e ∈ l → g e < 2 ^ n) : l.foldl (fun a e => a ||| g e) a < 2 ^ n := by
 induction l generalizing a with
 | nil => exact ha
 | cons x l ih => exact ih _ (or_lt ha (hg x List.mem_cons_self)) (fun e he => hg e (List.mem_cons_of_mem _ he))
theorem closeN_lt {p : List Int} (hp : PO p) {s : Nat} (hs : s < 2 ^ p.length) : closeN p s < 2 ^ p.length :=
 foldl_or_lt _ _ _ _ hs (fun e he => L_lt hp (lt_of_bit hs (mem_itemsN.1 he).2))
theorem foldl_drop_step {α β : Type} (f : β → α → β) (l : List α) (d : α) (b : β) {i : Nat} (h : i < l.length) : (l.drop i).foldl f b = (l.drop (i + 1)).foldl f (f b (l.getD i d)) := by
 rw [List.drop_eq_getElem_cons h, List.foldl_cons, List.getD_eq_getElem?_getD, List.getElem?_eq_getElem h]; rfl
def sumL : List Nat → Nat
 | [] => 0
 | x :: l => x + sumL l
theorem sumL_append (a b : List Nat) : sumL (a ++ b) = sumL a + sumL b := by
 induction a with
 | nil => simp [sumL]
 | cons x a ih => simp only [List.cons_append, sumL, ih]; omega
theorem sumL_le (l : List Nat) (b n : Nat) (h : ∀ x ∈ l, x ≤ b) (hn : l.length ≤ n) : sumL l ≤ n * b := by
 induction l generalizing n with
 | nil => exact Nat.zero_le _
 | cons x l ih =>
  cases n with
  | zero => simp at hn
  | succ n =>
   have h1 := h x List.mem_cons_self
   have h2 := ih n (fun y hy => h y (List.mem_cons_of_mem _ hy)) (by simpa using hn)
   rw [Nat.add_mul]; simp only [sumL]; omega
def nextN (p : List Int) (s : Nat) : List Nat := (List.range 10).filter fun e => decide (e < p.length) && !s.testBit e && subB (L p e) s
theorem mem_nextN {p : List Int} {s e : Nat} : e ∈ nextN p s ↔ e < 10 ∧ e < p.length ∧ s.testBit e = false ∧ subB (L p e) s = true := by
 unfold nextN
 rw [List.mem_filter, List.mem_range, Bool.and_eq_true, Bool.and_eq_true, decide_eq_true_eq, Bool.not_eq_true']
 constructor
 ·rintro ⟨a, ⟨b, c⟩, d⟩; exact ⟨a, b, c, d⟩
 ·rintro ⟨a, b, c, d⟩; exact ⟨a, ⟨b, c⟩, d⟩
theorem nextN_len (p : List Int) (s : Nat) : (nextN p s).length ≤ 10 := by
 unfold nextN; exact Nat.le_trans (List.length_filter_le _ _) (by simp)
def cnt (p : List Int) : Nat → Nat → Nat
 | 0, s => if s = allN p then 1 else 0
 | d + 1, s => if s = allN p then 1 else sumL ((nextN p s).map fun e => cnt p d (s ||| 2 ^ e))
theorem cnt_le (p : List Int) (d s : Nat) : cnt p d s ≤ 10 ^ d := by
 induction d generalizing s with
 | zero => unfold cnt; split <;> simp
 | succ d ih =>
  unfold cnt
  have h1 : 1 ≤ 10 ^ (d + 1) := Nat.one_le_pow _ _ (by decide)
  split
  ·exact h1
  ·have := sumL_le ((nextN p s).map fun e => cnt p d (s ||| 2 ^ e)) (10 ^ d) 10 (fun x hx => by obtain ⟨e, _, rfl⟩ := List.mem_map.1 hx; exact ih _) (by rw [List.length_map]; exact nextN_len p s)
   rw [Nat.pow_succ]; omega
def miss (p : List Int) (s : Nat) : Nat := (List.range p.length).countP fun e => !s.testBit e
theorem miss_le (p : List Int) (s : Nat) : miss p s ≤ p.length := by unfold miss; have := List.countP_le_length (p := fun e => !s.testBit e) (l := List.range p.length); simpa using this
theorem countP_lt {α : Type} (f g : α → Bool) (l : List α) (h : ∀ x ∈ l, f x = true → g x = true) (x : α) (hx : x ∈ l) (hg : g x = true) (hf : f x = false) : l.countP f < l.countP g := by
 induction l with
 | nil => cases hx
 | cons y l ih =>
  have hle : l.countP f ≤ l.countP g := List.countP_mono_left (fun z hz => h z (List.mem_cons_of_mem _ hz))
  rw [List.countP_cons, List.countP_cons]
  rcases List.mem_cons.1 hx with rfl | hx'
  ·rw [hf, hg]; simp; omega
  ·have := ih (fun z hz => h z (List.mem_cons_of_mem _ hz)) hx'
   have hy := h y List.mem_cons_self
   cases hfy : f y with
   | true => rw [hy hfy]; simp; omega
   | false => cases g y <;> simp <;> omega
theorem miss_lt {p : List Int} {s e : Nat} (he : e < p.length) (hb : s.testBit e = false) : miss p (s ||| 2 ^ e) < miss p s := by
 unfold miss
 refine countP_lt _ _ _ (fun x _ hx => ?_) e (List.mem_range.2 he) (by rw [hb]; rfl) ?_
 ·rw [Nat.testBit_or] at hx
  cases h : s.testBit x with
  | false => rfl
  | true => rw [h] at hx; simp at hx
 ·rw [Nat.testBit_or, pow_bit]; simp
theorem miss_zero {p : List Int} {s : Nat} (hs : s < 2 ^ p.length) (h : miss p s = 0) : s = allN p := by
 refine ext_bits hs (allN_lt p) (fun i hi => ?_)
 rw [allN_bit, decide_eq_true hi]
 unfold miss at h
 rw [List.countP_eq_zero] at h
 have := h i (List.mem_range.2 hi)
 simpa using this
theorem add_lt {p : List Int} {s e : Nat} (hs : s < 2 ^ p.length) (he : e < p.length) : s ||| 2 ^ e < 2 ^ p.length := or_lt hs (pow_lt_pow he)
theorem cnt_fuel {p : List Int} : ∀ (d d' s : Nat), s < 2 ^ p.length → miss p s ≤ d → miss p s ≤ d' → cnt p d s = cnt p d' s := by
 intro d
 induction d with
 | zero =>
  intro d' s hs h _
  have := miss_zero hs (by omega)
  subst this
  cases d' <;> simp [cnt]
 | succ d ih =>
  intro d' s hs h h'
  by_cases ha : s = allN p
  ·subst ha; cases d' <;> simp [cnt]
  ·cases d' with
   | zero => exact absurd (miss_zero hs (by omega)) ha
   | succ d' =>
    simp only [cnt, if_neg ha]
    congr 1
    apply List.map_congr_left
    intro e he
    obtain ⟨_, h1, h2, _⟩ := mem_nextN.1 he
    have := miss_lt h1 h2
    exact ih d' _ (add_lt hs h1) (by omega) (by omega)
def ways (p : List Int) (s : Nat) : Nat := cnt p p.length s
theorem ways_step {p : List Int} {s : Nat} (hs : s < 2 ^ p.length) (ha : s ≠ allN p) : ways p s = sumL ((nextN p s).map fun e => ways p (s ||| 2 ^ e)) := by
 unfold ways
 rw [cnt_fuel p.length (p.length + 1) s hs (miss_le p s) (by have := miss_le p s; omega)]
 simp only [cnt, if_neg ha]
theorem ways_all (p : List Int) : ways p (allN p) = 1 := by unfold ways; cases p.length <;> simp [cnt]
theorem ways_le {p : List Int} (h : p.length ≤ 10) (s : Nat) : ways p s ≤ 10000000000 := by
 unfold ways
 exact Nat.le_trans (cnt_le p _ s) (Nat.le_trans (Nat.pow_le_pow_right (by decide) h) (by decide))
theorem ways_cnt {p : List Int} {s d : Nat} (hs : s < 2 ^ p.length) (hd : p.length ≤ d) : ways p s = cnt p d s := cnt_fuel _ _ s hs (miss_le p s) (by have := miss_le p s; omega)
theorem idealB_all (p : List Int) (hp : PO p) : idealB p (allN p) = true := by
 rw [idealB_iff]
 intro i hi _ j hj
 rw [allN_bit, decide_eq_true_eq]
 have := lt_of_bit (hp.lt i hi) hj
 omega
theorem idealB_add {p : List Int} (hp : PO p) {s e : Nat} (hs : idealB p s = true) (he : e ∈ nextN p s) : idealB p (s ||| 2 ^ e) = true := by
 obtain ⟨_, h1, _, h3⟩ := mem_nextN.1 he
 rw [idealB_iff] at hs ⊢
 intro i hi hb j hj
 rw [Nat.testBit_or, pow_bit, Bool.or_eq_true, decide_eq_true_eq] at hb
 rw [Nat.testBit_or, Bool.or_eq_true]
 left
 rcases hb with hb | rfl
 ·exact hs i hi hb j hj
 ·exact subB_iff.1 h3 j hj
end Go.Proofs.Ytmbojobkiainlaa.Q
end

section
namespace Go.Proofs.Ytmbojobkiainlaa.Q
open Go.RowKit Go.Proofs.YtmbojobkiainlaaW.PrintWords Go.Proofs.Ytmbojobkiainlaa.F
set_option linter.unusedVariables false
theorem all_eq {p : List Int} (h : p.length ≤ 61) : impl_Poset_all.f p = some ((allN p : Nat) : Int) := by
 unfold impl_Poset_all.f
 rw [show impl_Poset_n.f p = some (p.length : Int) from rfl]
 simp only [Option.bind_some]
 rw [if_pos (by omega), mask_eq h, pow_int]
 unfold allN
 have := Nat.two_pow_pos p.length
 congr 1
 omega
theorem close_ev {p : List Int} (hp : PO p) {s : Nat} (hs : s < 2 ^ p.length) : Ev (fun k => impl_Poset_close.f k p (s : Int)) ((closeN p s : Nat) : Int) := by
 have hn := hp.small
 unfold impl_Poset_close.f closeN
 refine Ev.bind (items_ev s (lt_pow hs (by omega))) ?_
 rw [ints_len]
 have hl := itemsN_len s
 have key : ∀ i, i ≤ (itemsN s).length → ∀ a : Nat, a < 2 ^ p.length → Ev (fun k => impl_Poset_close.l0 k (a : Int) (ints (itemsN s)) ((itemsN s).length : Int) (i : Int) p) (((itemsN s).drop i).foldl (fun a e => a ||| L p e) a : Nat) := by
  refine downTo _ ?_ ?_
  ·intro a ha
   refine Ev.step (by intro k; simp only [impl_Poset_close.l0]; rfl) (Ev.no (by omega) (Ev.ret ?_))
   rw [List.drop_length]; rfl
  ·intro i hi ih a ha
   have hlt := items_lt hs hi
   refine Ev.step (by intro k; simp only [impl_Poset_close.l0]; rfl) (Ev.yes (by omega) (Ev.yes (by omega) (Ev.yes (by rw [ints_len]; omega) ?_)))
   rw [rd_ints, wid1 hi (by omega), rdN, foldl_drop_step _ _ 0 _ hi]
   refine Ev.yes (by omega) (Ev.yes (by omega) ?_)
   rw [hp.val _ hlt, bits_orN (lt_pow ha (by omega)) (lt_pow (L_lt hp hlt) (by omega))]
   exact ih _ (or_lt ha (L_lt hp hlt))
 exact key 0 (by omega) s hs
theorem poIdeal_ev {p : List Int} (hp : PO p) {s : Nat} (hs : s < 2 ^ p.length) : Ev (fun k => spec_poIdeal.f k p (s : Int)) (idealB p s) := by
 have hn := hp.small
 unfold spec_poIdeal.f idealB
 have key : ∀ i, i ≤ p.length → Ev (fun k => spec_poIdeal.l0 k (s : Int) p (p.length : Int) (i : Int)) (allFrom (fun i => !s.testBit i || subB (L p i) s) p.length i) := by
  refine downTo _ ?_ ?_
  ·exact Ev.step (by intro k; simp only [spec_poIdeal.l0]; rfl) (Ev.no (by omega) (Ev.ret (allFrom_end _ _).symm))
  ·intro i hi ih
   refine Ev.step (by intro k; simp only [spec_poIdeal.l0]; rfl) (Ev.yes (by omega) (Ev.yes (by omega) (Ev.yes (by omega) ?_)))
   rw [wid1 hi (by omega), rdN, hp.val i hi, allFrom_step _ hi]
   refine Ev.call (poIn_eq (by omega)) ?_
   cases s.testBit i with
   | false => exact Ev.no (by simp) (evc ih (by simp))
   | true =>
    refine Ev.yes rfl ?_
    rw [bits_andNotN (lt_pow (L_lt hp hi) (by omega)) (lt_pow hs (by omega))]
    refine Ev.ite (fun h => evc ih ?_) (fun h => Ev.ret ?_)
    ·rw [show subB (L p i) s = true by unfold subB; rw [beq_iff_eq]; exact_mod_cast h]; simp
    ·rw [show subB (L p i) s = false by unfold subB; rw [beq_eq_false_iff_ne]; intro e; exact h (by rw [e]; rfl)]; simp
 exact key 0 (by omega)
def wayAt (p : List Int) (m t : Nat) : Nat := if m ≤ t then (if idealB p t then ways p t else 0) else 0
def Wl (p : List Int) (m : Nat) : List Int := (List.range (2 ^ p.length)).map fun t => ((wayAt p m t : Nat) : Int)
theorem Wl_len (p : List Int) (m : Nat) : (Wl p m).length = 2 ^ p.length := by simp [Wl]
theorem Wl_get (p : List Int) (m : Nat) {t : Nat} (ht : t < 2 ^ p.length) : (Wl p m).getD t 0 = ((wayAt p m t : Nat) : Int) := by
 unfold Wl
 rw [List.getD_eq_getElem?_getD, List.getElem?_map, List.getElem?_range ht]; rfl
theorem Wl_ext {p : List Int} {m : Nat} {l : List Int} (hl : l.length = 2 ^ p.length) (h : ∀ t, t < 2 ^ p.length → l.getD t 0 = ((wayAt p m t : Nat) : Int)) : l = Wl p m := by
 apply List.ext_getElem
 ·rw [hl, Wl_len]
 ·intro t h1 h2
  have := h t (by omega)
  rw [← Wl_get p m (by omega), List.getD_eq_getElem?_getD, List.getD_eq_getElem?_getD, List.getElem?_eq_getElem h1, List.getElem?_eq_getElem h2] at this
  exact this
theorem getD_setW (l : List Int) (i : Nat) (v : Int) (hi : i < l.length) (t : Nat) : (l.set i v).getD t 0 = if i = t then v else l.getD t 0 := by
 by_cases h : i = t
 ·subst h; rw [if_pos rfl, List.getD_eq_getElem?_getD, List.getElem?_set_self hi]; rfl
 ·rw [if_neg h, List.getD_eq_getElem?_getD, List.getElem?_set_ne h, List.getD_eq_getElem?_getD]
theorem add_gt {s e : Nat} (hb : s.testBit e = false) : s < s ||| 2 ^ e := by
 have h1 : s ≤ s ||| 2 ^ e := Nat.left_le_or
 rcases Nat.lt_or_ge s (s ||| 2 ^ e) with h | h
 ·exact h
 ·have he : s = s ||| 2 ^ e := by omega
  have : (s ||| 2 ^ e).testBit e = true := by rw [Nat.testBit_or, pow_bit]; simp
  rw [← he, hb] at this; cases this
theorem nextN_items (p : List Int) (hp : PO p) (s : Nat) : nextN p s = (itemsN (ndiff (allN p) s)).filter fun e => subB (L p e) s := by
 unfold nextN itemsN
 rw [List.filter_filter]
 apply List.filter_congr
 intro e he
 rw [ndiff_bit, allN_bit]
 cases decide (e < p.length) <;> cases s.testBit e <;> cases subB (L p e) s <;> rfl
theorem ways_table {p : List Int} (hp : PO p) : Ev (fun k => impl_Poset_ways.f k p) (Wl p 0) := by
 have hn := hp.small
 have h2 : (2 : Nat) ^ p.length ≤ 1024 := Nat.le_trans (Nat.pow_le_pow_right (by decide) hn) (by decide)
 have hal := allN_lt p
 have hal2 : allN p + 1 = 2 ^ p.length := by unfold allN; have := Nat.two_pow_pos p.length; omega
 have outer : ∀ s : Nat, s ≤ allN p → Ev (fun k => impl_Poset_ways.l0 k (Wl p s) ((s : Int) - 1) p) (Wl p 0) := by
  intro s
  induction s with
  | zero =>
   intro _
   exact Ev.step (by intro k; simp only [impl_Poset_ways.l0]; rfl) (Ev.no (by omega) (Ev.ret rfl))
  | succ s ih =>
   intro hs
   have hs2 : s < 2 ^ p.length := by omega
   have e1 : (((s + 1 : Nat) : Int) - 1) = (s : Int) := by omega
   have e2 : wrap64 ((s : Int) - 1) = (s : Int) - 1 := wid (by omega) (by omega)
   rw [e1]
   refine Ev.step (by intro k; simp only [impl_Poset_ways.l0]; rfl) (Ev.yes (by omega) ?_)
   refine Ev.bind (close_ev hp hs2) ?_
   have hcl := closeN_eq hp hs2
   have hall : s ≠ allN p := by omega
   by_cases hid : idealB p s = true
   ·rw [hid, beq_iff_eq] at hcl
    rw [hcl]
    refine Ev.yes rfl (Ev.call (all_eq (by omega)) ?_)
    rw [bits_andNotN (lt_pow hal (by omega)) (lt_pow hs2 (by omega))]
    have hit : ndiff (allN p) s < 2 ^ p.length := ndiff_lt hal
    refine Ev.bind (items_ev _ (lt_pow hit (by omega))) ?_
    rw [ints_len]
    generalize hI : itemsN (ndiff (allN p) s) = I
    have hIl : I.length ≤ 10 := by rw [← hI]; exact itemsN_len _
    have inner : ∀ i, i ≤ I.length → ∀ v : Nat, v + sumL (((I.drop i).filter fun e => subB (L p e) s).map fun e => ways p (s ||| 2 ^ e)) = ways p s →
     Ev (fun k => impl_Poset_ways.l1 k ((Wl p (s + 1)).set s (v : Int)) (s : Int) (ints I) (I.length : Int) (i : Int) p) (Wl p 0) := by
     refine downTo _ ?_ ?_
     ·intro v hv
      rw [List.drop_length] at hv
      have hv' : v = ways p s := by simpa [sumL] using hv
      refine Ev.step (by intro k; simp only [impl_Poset_ways.l1]; rfl) (Ev.no (by omega) ?_)
      rw [e2]
      have he : (Wl p (s + 1)).set s (v : Int) = Wl p s := by
       apply Wl_ext
       ·rw [List.length_set, Wl_len]
       ·intro t ht
        rw [getD_setW _ _ _ (by rw [Wl_len]; exact hs2)]
        split
        ·rename_i h; subst h; unfold wayAt; rw [if_pos (Nat.le_refl _), if_pos hid, hv']
        ·rename_i h
         rw [Wl_get _ _ ht]; unfold wayAt
         by_cases hst : s ≤ t
         ·rw [if_pos hst, if_pos (by omega)]
         ·rw [if_neg hst, if_neg (by omega)]
      rw [he]
      exact ih (by omega)
     ·intro i hi ihi v hv
      obtain ⟨hm, hlt⟩ : I.getD i 0 ∈ I ∧ I.getD i 0 < p.length := by
       have hm : I.getD i 0 ∈ I := by rw [List.getD_eq_getElem?_getD, List.getElem?_eq_getElem hi]; exact List.getElem_mem hi
       refine ⟨hm, ?_⟩
       have := items_lt hit (j := i) (by rw [hI]; exact hi)
       rw [hI] at this; exact this
      have hbit : s.testBit (I.getD i 0) = false := by
       have hm' := hm
       rw [← hI, mem_itemsN, ndiff_bit] at hm'
       have := hm'.2
       rw [hI] at this
       cases h : s.testBit (I.getD i 0) with
       | false => rfl
       | true => rw [h] at this; simp at this
      have hdrop : I.drop i = I.getD i 0 :: I.drop (i + 1) := by
       rw [List.drop_eq_getElem_cons hi, List.getD_eq_getElem?_getD, List.getElem?_eq_getElem hi]; rfl
      generalize hE : I.getD i 0 = E at hm hlt hbit hdrop
      rw [hdrop] at hv
      refine Ev.step (by intro k; simp only [impl_Poset_ways.l1]; rfl) (Ev.yes (by omega) (Ev.yes (by omega) (Ev.yes (by rw [ints_len]; omega) ?_)))
      rw [rd_ints, hE, wid1 hi (by omega), rdN]
      refine Ev.yes (by omega) (Ev.yes (by omega) ?_)
      rw [hp.val _ hlt, bits_andNotN (lt_pow (L_lt hp hlt) (by omega)) (lt_pow hs2 (by omega))]
      have hwl := Wl_len p (s + 1)
      by_cases hsub : subB (L p E) s = true
      ·have hz : ndiff (L p E) s = 0 := by unfold subB at hsub; rw [beq_iff_eq] at hsub; exact hsub
       rw [hz]
       rw [List.filter_cons, hsub, if_pos rfl, List.map_cons] at hv
       simp only [sumL] at hv
       have hor : s ||| 2 ^ E < 2 ^ p.length := add_lt hs2 hlt
       rw [shlN (by omega), bits_orN (lt_pow hs2 (by omega)) (lt_pow (pow_lt_pow hlt) (by omega))]
       refine Ev.yes rfl (Ev.yes (by omega) (Ev.yes (by rw [List.length_set, hwl]; omega) (Ev.yes (by omega) (Ev.yes (by rw [List.length_set, hwl]; omega) ?_))))
       rw [rdN, rdN, getD_setW _ _ _ (by rw [hwl]; exact hs2), if_pos rfl, getD_setW _ _ _ (by rw [hwl]; exact hs2), Int.toNat_natCast, List.set_set]
       have hgt := add_gt hbit
       rw [if_neg (by omega), Wl_get _ _ hor]
       have hnx : E ∈ nextN p s := by rw [mem_nextN]; exact ⟨by omega, hlt, hbit, hsub⟩
       have hw : wayAt p (s + 1) (s ||| 2 ^ E) = ways p (s ||| 2 ^ E) := by
        unfold wayAt; rw [if_pos (by omega), if_pos (idealB_add hp hid hnx)]
       have hb := ways_le hn s
       rw [hw, wid (by omega) (by omega)]
       have := ihi (v + ways p (s ||| 2 ^ E)) (by omega)
       rw [Int.natCast_add] at this
       exact this
      ·have hz : ndiff (L p E) s ≠ 0 := by intro h; apply hsub; unfold subB; rw [h]; rfl
       rw [List.filter_cons, if_neg hsub] at hv
       refine Ev.no (by omega) ?_
       exact ihi v hv
    have hstart : Wl p (s + 1) = (Wl p (s + 1)).set s ((0 : Nat) : Int) := by
     symm
     apply Wl_ext
     ·rw [List.length_set, Wl_len]
     ·intro t ht
      rw [getD_setW _ _ _ (by rw [Wl_len]; exact hs2)]
      split
      ·rename_i h; subst h; unfold wayAt; rw [if_neg (by omega)]
      ·exact Wl_get _ _ ht
    rw [hstart]
    refine inner 0 (by omega) 0 ?_
    rw [ways_step hs2 hall, nextN_items p hp, hI]; simp
   ·rw [Bool.not_eq_true] at hid
    rw [hid, beq_eq_false_iff_ne] at hcl
    refine Ev.no (by omega) ?_
    rw [e2]
    have he : Wl p (s + 1) = Wl p s := by
     apply Wl_ext (Wl_len _ _)
     intro t ht
     rw [Wl_get _ _ ht]; unfold wayAt
     by_cases hst : s ≤ t
     ·rw [if_pos hst]
      by_cases h : s = t
      ·subst h; rw [if_neg (by omega), hid]; rfl
      ·rw [if_pos (by omega)]
     ·rw [if_neg hst, if_neg (by omega)]
    rw [he]
    exact ih (by omega)
 unfold impl_Poset_ways.f
 refine Ev.call (all_eq (by omega)) ?_
 have e3 : wrap64 (((allN p : Nat) : Int) + 1) = ((2 ^ p.length : Nat) : Int) := by rw [← hal2]; exact wid (by omega) (by omega)
 rw [e3]
 refine Ev.yes (by omega) (Ev.yes (by omega) ?_)
 rw [Int.toNat_natCast]
 refine Ev.call rfl (Ev.call (all_eq (by omega)) (Ev.yes (by omega) (Ev.yes (by rw [List.length_replicate]; omega) (Ev.call (all_eq (by omega)) ?_))))
 have e4 : wrap64 (((allN p : Nat) : Int) - 1) = ((allN p : Nat) : Int) - 1 := wid (by omega) (by omega)
 rw [e4, Int.toNat_natCast]
 have he : (List.replicate (2 ^ p.length) (0 : Int)).set (allN p) 1 = Wl p (allN p) := by
  apply Wl_ext
  ·rw [List.length_set, List.length_replicate]
  ·intro t ht
   rw [getD_setW _ _ _ (by rw [List.length_replicate]; exact hal)]
   split
   ·rename_i h; subst h; unfold wayAt; rw [if_pos (Nat.le_refl _), if_pos (idealB_all p hp), ways_all]; rfl
   ·unfold wayAt
    rw [if_neg (by omega), List.getD_eq_getElem?_getD, List.getElem?_replicate]
    split <;> rfl
 rw [he]
 exact outer _ (Nat.le_refl _)
end Go.Proofs.Ytmbojobkiainlaa.Q
end

section
namespace Go.Proofs.Ytmbojobkiainlaa.Q
open Go.RowKit Go.Proofs.YtmbojobkiainlaaW.PrintWords
set_option linter.unusedVariables false
def ordRun (p : List Int) : Nat → List Int → Option Nat
 | s, [] => some s
 | s, e :: l => if (0 ≤ e ∧ e < (p.length : Int)) ∧ s.testBit e.toNat = false ∧ subB (L p e.toNat) s = true then ordRun p (s ||| 2 ^ e.toNat) l else none
def ordB (p w : List Int) : Bool := ordRun p 0 w == some (allN p)
theorem ordB_iff {p w : List Int} : ordB p w = true ↔ ordRun p 0 w = some (allN p) := by unfold ordB; rw [beq_iff_eq]
theorem ordRun_app (p x y : List Int) : ∀ s, ordRun p s (x ++ y) = (ordRun p s x).bind fun t => ordRun p t y := by
 induction x with
 | nil => intro s; rfl
 | cons e x ih =>
  intro s
  simp only [List.cons_append, ordRun]
  split
  ·exact ih _
  ·rfl
theorem ordRun_range {p l : List Int} : ∀ {s t : Nat}, ordRun p s l = some t → ∀ e ∈ l, 0 ≤ e ∧ e < (p.length : Int) := by
 induction l with
 | nil => intro s t h e he; cases he
 | cons x l ih =>
  intro s t h e he
  simp only [ordRun] at h
  split at h
  ·rename_i hc
   rcases List.mem_cons.1 he with rfl | he
   ·exact hc.1
   ·exact ih h e he
  ·cases h
def pcard (n s : Nat) : Nat := (List.range n).countP s.testBit
theorem pcard_succ (n s : Nat) : pcard (n + 1) s = pcard n s + if s.testBit n then 1 else 0 := by
 unfold pcard; rw [List.range_succ, List.countP_append, List.countP_singleton]
theorem pcard_above {n e : Nat} (s : Nat) (h : n ≤ e) : pcard n (s ||| 2 ^ e) = pcard n s := by
 unfold pcard
 apply List.countP_congr
 intro x hx
 rw [List.mem_range] at hx
 rw [Nat.testBit_or, pow_bit, decide_eq_false (by omega), Bool.or_false]
theorem pcard_add {n s e : Nat} (he : e < n) (hb : s.testBit e = false) : pcard n (s ||| 2 ^ e) = pcard n s + 1 := by
 induction n with
 | zero => omega
 | succ n ih =>
  rw [pcard_succ, pcard_succ, Nat.testBit_or, pow_bit]
  rcases Nat.lt_succ_iff_lt_or_eq.1 he with h | h
  ·rw [ih h, decide_eq_false (by omega), Bool.or_false]; omega
  ·subst h; rw [pcard_above s (Nat.le_refl _), hb]; simp
theorem pcard_zero (n : Nat) : pcard n 0 = 0 := by unfold pcard; rw [List.countP_eq_zero]; intro x _; simp
theorem pcard_le (n s : Nat) : pcard n s ≤ n := by unfold pcard; have := List.countP_le_length (p := s.testBit) (l := List.range n); simpa using this
theorem pcard_all (p : List Int) : pcard p.length (allN p) = p.length := by
 unfold pcard
 have : (List.range p.length).countP (allN p).testBit = (List.range p.length).length := by
  rw [List.countP_eq_length]; intro x hx; rw [List.mem_range] at hx; rw [allN_bit, decide_eq_true hx]
 rw [this, List.length_range]
theorem all_of_pcard {p : List Int} {s : Nat} (hs : s < 2 ^ p.length) (h : pcard p.length s = p.length) : s = allN p := by
 refine ext_bits hs (allN_lt p) (fun i hi => ?_)
 rw [allN_bit, decide_eq_true hi]
 have h2 : (List.range p.length).countP s.testBit = (List.range p.length).length := by rw [List.length_range]; exact h
 rw [List.countP_eq_length] at h2
 exact h2 i (List.mem_range.2 hi)
theorem ordRun_card {p l : List Int} : ∀ {s t : Nat}, s < 2 ^ p.length → ordRun p s l = some t → t < 2 ^ p.length ∧ pcard p.length t = pcard p.length s + l.length := by
 induction l with
 | nil => intro s t hs h; simp only [ordRun, Option.some.injEq] at h; subst h; exact ⟨hs, rfl⟩
 | cons x l ih =>
  intro s t hs h
  simp only [ordRun] at h
  split at h
  ·rename_i hc
   obtain ⟨⟨h0, h1⟩, h2, h3⟩ := hc
   have hx : x.toNat < p.length := by omega
   obtain ⟨g1, g2⟩ := ih (or_lt hs (pow_lt_pow hx)) h
   refine ⟨g1, ?_⟩
   rw [g2, pcard_add hx h2, List.length_cons]; omega
  ·cases h
theorem ordB_len {p w : List Int} (h : ordB p w = true) : w.length = p.length := by
 have := (ordRun_card (Nat.two_pow_pos _) (ordB_iff.1 h)).2
 rw [pcard_all, pcard_zero] at this; omega
theorem ordB_eq (p w : List Int) : (decide (w.length = p.length) && (ordRun p 0 w).isSome) = ordB p w := by
 rw [Bool.eq_iff_iff, Bool.and_eq_true, decide_eq_true_eq]
 constructor
 ·rintro ⟨hl, hs⟩
  obtain ⟨t, ht⟩ := Option.isSome_iff_exists.1 hs
  obtain ⟨g1, g2⟩ := ordRun_card (Nat.two_pow_pos _) ht
  rw [pcard_zero, hl, Nat.zero_add] at g2
  rw [ordB_iff, ht, all_of_pcard g1 g2]
 ·intro h
  exact ⟨ordB_len h, by rw [ordB_iff.1 h]; rfl⟩
theorem ordB_range {p w : List Int} (h : ordB p w = true) : ∀ e ∈ w, 0 ≤ e ∧ e < (p.length : Int) := ordRun_range (ordB_iff.1 h)
theorem drop_getD (w : List Int) {i : Nat} (h : i < w.length) : w.drop i = w.getD i 0 :: w.drop (i + 1) := by
 rw [List.drop_eq_getElem_cons h, List.getD_eq_getElem?_getD, List.getElem?_eq_getElem h]; rfl
def idealsN (p : List Int) : List Nat := (List.range (2 ^ p.length)).filter (idealB p)
theorem mem_idealsN {p : List Int} {s : Nat} : s ∈ idealsN p ↔ s < 2 ^ p.length ∧ idealB p s = true := by
 unfold idealsN; rw [List.mem_filter, List.mem_range]
theorem idealsN_nodup (p : List Int) : (idealsN p).Nodup := List.Pairwise.filter _ List.nodup_range
theorem idealsN_len (p : List Int) : (idealsN p).length ≤ 2 ^ p.length := by
 have := List.length_filter_le (idealB p) (List.range (2 ^ p.length))
 rwa [List.length_range] at this
theorem idealB_zero' (p : List Int) : idealB p 0 = true := by rw [idealB_iff]; intro i _ h; rw [Nat.zero_testBit] at h; cases h
theorem zero_mem (p : List Int) : 0 ∈ idealsN p := mem_idealsN.2 ⟨Nat.two_pow_pos _, idealB_zero' p⟩
def frB (p : List Int) (u : Nat) : Bool := allFrom (fun i => !u.testBit i || decide (L p i &&& u = 0)) p.length 0
def stB (p : List Int) (strict : Bool) (s t : Nat) : Bool := subB s t && (!strict || frB p (ndiff t s))
def wvN (B : Nat → Nat → Bool) (ids : List Nat) : Nat → Nat → Nat
 | 0, t => if t = 0 then 1 else 0
 | k + 1, t => sumL ((ids.filter fun s => B s t).map (wvN B ids k))
theorem sumL_map_le {α : Type} (f g : α → Nat) : ∀ l : List α, (∀ x ∈ l, f x ≤ g x) → sumL (l.map f) ≤ sumL (l.map g)
 | [], _ => Nat.le_refl _
 | x :: l, h => by
  have h1 := sumL_map_le f g l (fun y hy => h y (List.mem_cons_of_mem _ hy))
  have h2 := h x List.mem_cons_self
  simp only [List.map_cons, sumL]
  omega
theorem sumL_filter_le {α : Type} (f : α → Nat) (P Q : α → Bool) : ∀ l : List α, (∀ x ∈ l, P x = true → Q x = true) → sumL ((l.filter P).map f) ≤ sumL ((l.filter Q).map f)
 | [], _ => Nat.le_refl _
 | x :: l, h => by
  have h1 := sumL_filter_le f P Q l (fun y hy => h y (List.mem_cons_of_mem _ hy))
  rw [List.filter_cons, List.filter_cons]
  cases hp : P x with
  | false =>
   rw [if_neg (by simp)]
   cases hq : Q x with
   | false => rw [if_neg (by simp)]; exact h1
   | true => rw [if_pos rfl, List.map_cons]; simp only [sumL]; omega
  | true =>
   rw [if_pos rfl, if_pos (h x List.mem_cons_self hp)]
   simp only [List.map_cons, sumL]; omega
theorem sumL_take_le {α : Type} (f : α → Nat) (l : List α) (i : Nat) : sumL ((l.take i).map f) ≤ sumL (l.map f) := by
 rw [show l.map f = (l.take i).map f ++ (l.drop i).map f by rw [← List.map_append, List.take_append_drop], sumL_append]
 omega
theorem sub_pow (c : Nat) : ∀ (n t : Nat), sumL (((List.range (2 ^ n)).filter fun s => subB s t).map fun s => c ^ pcard n s) = (c + 1) ^ pcard n t
 | 0, t => by
  have e : (List.range (2 ^ 0)).filter (fun s => subB s t) = [0] := by
   rw [show List.range (2 ^ 0) = [0] from rfl, List.filter_cons, if_pos (subB_iff.2 fun i h => by rw [Nat.zero_testBit] at h; cases h)]; rfl
  rw [e]; rfl
 | n + 1, t => by
  have hr : List.range (2 ^ (n + 1)) = List.range (2 ^ n) ++ (List.range (2 ^ n)).map (2 ^ n + ·) := by
   rw [show 2 ^ (n + 1) = 2 ^ n + 2 ^ n by rw [Nat.pow_succ]; omega, List.range_add]
  rw [hr, List.filter_append, List.map_append, sumL_append, List.filter_map, List.map_map]
  have hbit : ∀ s, s < 2 ^ n → 2 ^ n + s = s ||| 2 ^ n := fun s hs => by
   have h := Nat.two_pow_add_eq_or_of_lt hs 1
   rw [Nat.mul_one] at h
   rw [h, Nat.or_comm]
  have h1 : sumL (((List.range (2 ^ n)).filter fun s => subB s t).map fun s => c ^ pcard (n + 1) s) = (c + 1) ^ pcard n t := by
   rw [← sub_pow c n t]
   congr 1
   refine List.map_congr_left fun s hs => ?_
   have hs := List.mem_range.1 (List.mem_filter.1 hs).1
   rw [pcard_succ, Nat.testBit_lt_two_pow hs]; simp
  have hsub : ∀ s, s < 2 ^ n → subB (2 ^ n + s) t = (t.testBit n && subB s t) := fun s hs => by
   rw [hbit s hs, Bool.eq_iff_iff, Bool.and_eq_true, subB_iff, subB_iff]
   constructor
   ·intro h
    exact ⟨h n (by rw [Nat.testBit_or, pow_bit]; simp), fun i hi => h i (by rw [Nat.testBit_or, hi]; rfl)⟩
   ·rintro ⟨h1, h2⟩ i hi
    rw [Nat.testBit_or, pow_bit, Bool.or_eq_true, decide_eq_true_eq] at hi
    rcases hi with hi | hi
    ·exact h2 i hi
    ·rw [← hi]; exact h1
  have h2 : sumL (((List.range (2 ^ n)).filter ((fun s => subB s t) ∘ (2 ^ n + ·))).map ((fun s => c ^ pcard (n + 1) s) ∘ (2 ^ n + ·))) = if t.testBit n = true then c * (c + 1) ^ pcard n t else 0 := by
   have e1 : (List.range (2 ^ n)).filter ((fun s => subB s t) ∘ (2 ^ n + ·)) = (List.range (2 ^ n)).filter fun s => t.testBit n && subB s t := by
    refine List.filter_congr fun s hs => ?_
    exact hsub s (List.mem_range.1 hs)
   rw [e1]
   cases hb : t.testBit n with
   | false =>
    rw [if_neg (by simp)]
    have e2 : (List.range (2 ^ n)).filter (fun s => false && subB s t) = [] := by simp
    rw [e2]; rfl
   | true =>
    rw [if_pos rfl]
    simp only [Bool.true_and]
    rw [← sub_pow c n t]
    have hmul : ∀ l : List Nat, sumL (l.map fun s => c * c ^ pcard n s) = c * sumL (l.map fun s => c ^ pcard n s) := by
     intro l
     induction l with
     | nil => rfl
     | cons x l ih => simp only [List.map_cons, sumL]; rw [ih, Nat.mul_add]
    rw [← hmul]
    congr 1
    refine List.map_congr_left fun s hs => ?_
    have hs := List.mem_range.1 (List.mem_filter.1 hs).1
    show c ^ pcard (n + 1) (2 ^ n + s) = _
    rw [hbit s hs, pcard_add (Nat.lt_succ_self n) (Nat.testBit_lt_two_pow hs), pcard_succ, Nat.testBit_lt_two_pow hs]
    simp [Nat.pow_succ, Nat.mul_comm]
  rw [h1, h2, pcard_succ]
  cases t.testBit n with
  | false => simp
  | true => simp only [if_pos]; rw [Nat.pow_succ, Nat.mul_comm ((c + 1) ^ pcard n t), Nat.add_mul, Nat.one_mul]; omega
theorem wvN_le {p : List Int} {B : Nat → Nat → Bool} (hB : ∀ s t, B s t = true → subB s t = true) : ∀ k t, wvN B (idealsN p) k t ≤ (k + 1) ^ pcard p.length t
 | 0, t => by
  unfold wvN
  rw [Nat.one_pow]
  split <;> omega
 | k + 1, t => by
  unfold wvN
  rw [← sub_pow (k + 1) p.length t]
  refine Nat.le_trans (sumL_map_le _ (fun s => (k + 1) ^ pcard p.length s) _ (fun s _ => wvN_le hB k s)) ?_
  unfold idealsN
  rw [List.filter_filter]
  refine sumL_filter_le _ _ _ _ fun s _ h => ?_
  rw [Bool.and_eq_true] at h
  exact hB s t h.1
theorem pow_bound {c m : Nat} (hc : c ≤ 15) (hm : m ≤ 10) : c ^ m ≤ 576650390625 := by
 refine Nat.le_trans (Nat.pow_le_pow_left hc m) ?_
 have h15 : (15 : Nat) ^ m ≤ 15 ^ 10 := Nat.pow_le_pow_right (by decide) hm
 exact Nat.le_trans h15 (by decide)
theorem wvN_small {p : List Int} (hp : p.length ≤ 10) {B : Nat → Nat → Bool} (hB : ∀ s t, B s t = true → subB s t = true) {k t : Nat} (hk : k ≤ 14) : wvN B (idealsN p) k t ≤ 576650390625 :=
 Nat.le_trans (wvN_le hB k t) (pow_bound (by omega) (Nat.le_trans (pcard_le _ _) hp))
theorem stB_sub {p : List Int} {b : Bool} {s t : Nat} (h : stB p b s t = true) : subB s t = true := by
 unfold stB at h
 rw [Bool.and_eq_true] at h
 exact h.1
theorem sub_all {p : List Int} {s : Nat} (hs : s < 2 ^ p.length) : subB s (allN p) = true := subB_iff.2 fun i hi => by
 rw [allN_bit]; exact decide_eq_true (lt_of_bit hs hi)
end Go.Proofs.Ytmbojobkiainlaa.Q
end

section
namespace Go.Proofs.Ytmbojobkiainlaa.Q
open Go.RowKit Go.Proofs.YtmbojobkiainlaaW.PrintWords Go.Proofs.Ytmbojobkiainlaa.F
set_option linter.unusedVariables false
theorem liIs_ev {p : List Int} (hp : PO p) (w : List Int) : Ev (fun k => spec_liIs.f k p w) (ordB p w) := by
 have hn := hp.small
 have hn1 := hp.pos
 rw [← ordB_eq]
 unfold spec_liIs.f
 by_cases hl : w.length = p.length
 rotate_left
 ·refine Ev.no (by omega) (Ev.step (by intro k; simp only [spec_liIs.j0]; rfl) (Ev.yes (show true = true from rfl) (Ev.ret ?_)))
  rw [decide_eq_false hl]; rfl
 refine Ev.yes (by omega) ?_
 rw [decide_eq_true hl, Bool.true_and, show wrap64 ((w.length : Int) - 1) = (w.length : Int) - 1 from wid (by omega) (by omega)]
 refine Ev.bind (l1All_ev w 0 _ (by omega)) ?_
 cases hall : allFrom (fun i => inR 0 ((w.length : Int) - 1) (w.getD i 0)) w.length 0 with
 | false =>
  refine Ev.step (by intro k; simp only [spec_liIs.j0]; rfl) (Ev.ret ?_)
  cases ho : ordRun p 0 w with
  | none => rfl
  | some t =>
   have hr := ordRun_range ho
   have : allFrom (fun i => inR 0 ((w.length : Int) - 1) (w.getD i 0)) w.length 0 = true := by
    rw [allFrom_iff]
    intro j _ hj
    rw [inR_iff, List.getD_eq_getElem?_getD, List.getElem?_eq_getElem hj]
    have := hr _ (List.getElem_mem hj)
    show 0 ≤ w[j] ∧ w[j] ≤ _
    omega
   rw [this] at hall; cases hall
 | true =>
 refine Ev.step (by intro k; simp only [spec_liIs.j0]; rfl) (Ev.no (by simp) ?_)
 have hin : ∀ i, i < w.length → 0 ≤ w.getD i 0 ∧ w.getD i 0 ≤ (w.length : Int) - 1 := fun i hi => inR_iff.1 ((allFrom_iff _ _ _).1 hall i (Nat.zero_le _) hi)
 have key : ∀ i, i ≤ w.length → ∀ s : Nat, s < 2 ^ p.length → Ev (fun k => spec_liIs.l0 k (s : Int) w (w.length : Int) (i : Int) p) (ordRun p s (w.drop i)).isSome := by
  refine downTo _ ?_ ?_
  ·intro s hs
   refine Ev.step (by intro k; simp only [spec_liIs.l0]; rfl) (Ev.no (by omega) (Ev.ret ?_))
   rw [List.drop_length]; rfl
  ·intro i hi ih s hs
   refine Ev.step (by intro k; simp only [spec_liIs.l0]; rfl) (Ev.yes (by omega) (Ev.yes (by omega) (Ev.yes (by omega) ?_)))
   have h1 := hin i hi
   rw [rdN, drop_getD w hi, wid1 hi (by omega)]
   generalize w.getD i 0 = e at h1
   simp only [ordRun]
   obtain ⟨x, rfl⟩ := Int.eq_ofNat_of_zero_le h1.1
   have hx : x < p.length := by omega
   refine Ev.call (poIn_eq (by omega)) ?_
   rw [Int.toNat_natCast]
   by_cases h2 : s.testBit x = true
   ·exact Ev.yes h2 (Ev.ret (by rw [if_neg (fun h => by rw [h.2.1] at h2; cases h2)]; rfl))
   refine Ev.no h2 (Ev.yes (by omega) (Ev.yes (by omega) ?_))
   rw [rdN, hp.val x hx, bits_andNotN (lt_pow (L_lt hp hx) (by omega)) (lt_pow hs (by omega))]
   by_cases h3 : subB (L p x) s = true
   ·have h4 : ndiff (L p x) s = 0 := by unfold subB at h3; exact beq_iff_eq.1 h3
    refine Ev.yes (by rw [h4]; rfl) ?_
    rw [shlN (by omega), bits_orN (lt_pow hs (by omega)) (Nat.pow_lt_pow_right (by decide) (by omega)), if_pos ⟨by omega, by simpa using h2, h3⟩]
    exact ih _ (or_lt hs (pow_lt_pow hx))
   ·have h4 : ¬ (((ndiff (L p x) s : Nat) : Int) = 0) := fun h => h3 (by unfold subB; rw [beq_iff_eq]; exact_mod_cast h)
    exact Ev.no h4 (Ev.ret (by rw [if_neg (fun h => h3 h.2.2)]; rfl))
 have := key 0 (by omega) 0 (Nat.two_pow_pos _)
 rw [List.drop_zero] at this
 exact this
theorem poIdeals_ev {p : List Int} (hp : PO p) : Ev (fun k => spec_poIdeals.f k p) (ints (idealsN p)) := by
 have hn := hp.small
 have h2 : 2 ^ p.length ≤ 1024 := Nat.le_trans (Nat.pow_le_pow_right (by decide) hn) (by decide)
 unfold spec_poIdeals.f
 have key : ∀ i, i ≤ 2 ^ p.length → ∀ acc : List Int, acc.length ≤ i → Ev (fun k => spec_poIdeals.l0 k acc (i : Int) p) (acc ++ ints ((List.range' i (2 ^ p.length - i)).filter (idealB p))) := by
  refine downTo _ ?_ ?_
  ·intro acc _
   refine Ev.step (by intro k; simp only [spec_poIdeals.l0]; rfl) ?_
   rw [shlN (by omega), Nat.sub_self]
   exact Ev.no (by omega) (Ev.ret (by simp [ints]))
  ·intro i hi ih acc ha
   refine Ev.step (by intro k; simp only [spec_poIdeals.l0]; rfl) ?_
   rw [shlN (by omega)]
   refine Ev.yes (by omega) (Ev.bind (poIdeal_ev hp hi) ?_)
   rw [show 2 ^ p.length - i = (2 ^ p.length - (i + 1)) + 1 by omega, List.range'_succ, List.filter_cons, wid1 hi (by omega)]
   cases hc : idealB p i with
   | true =>
    rw [if_pos rfl]
    refine Ev.yes rfl (Ev.yes (by omega) (evc (ih (acc ++ [(i : Int)]) (by rw [List.length_append, List.length_singleton]; omega)) ?_))
    rw [List.append_assoc]; rfl
   | false =>
    rw [if_neg (by simp)]
    exact Ev.no (by simp) (ih acc (by omega))
 have := key 0 (Nat.zero_le _) [] (Nat.le_refl _)
 rw [Nat.sub_zero, ← List.range_eq_range'] at this
 exact this
end Go.Proofs.Ytmbojobkiainlaa.Q
end

section
namespace Go.Proofs.Ytmbojobkiainlaa.Q
open Go.RowKit Go.Proofs.YtmbojobkiainlaaW.PrintWords
set_option linter.unusedVariables false
theorem sizes_eq (n : Nat) : (decide ((1 : Int) ≤ (n : Int)) && decide ((n : Int) ≤ 10)) = (decide (1 ≤ n) && decide (n ≤ 10)) := by
 rw [Bool.eq_iff_iff]; simp only [Bool.and_eq_true, decide_eq_true_eq]; omega
end Go.Proofs.Ytmbojobkiainlaa.Q
end

section
namespace Go.Proofs.Ytmbojobkiainlaa.Q
open Go.RowKit Go.Proofs.YtmbojobkiainlaaW.PrintWords Go.Proofs.Ytmbojobkiainlaa.F
set_option linter.unusedVariables false
theorem poGood_ev (p : List Int) : Ev (fun k => spec_poGood.f k p) (isPo p) := by
 unfold spec_poGood.f
 refine Ev.call (l1In_eq _ _ _) ?_
 unfold isPo
 rw [sizes_eq]
 cases hs : (decide (1 ≤ p.length) && decide (p.length ≤ 10)) with
 | false => exact Ev.no (by simp) (Ev.ret rfl)
 | true =>
 refine Ev.yes rfl ?_
 rw [Bool.and_eq_true, decide_eq_true_eq, decide_eq_true_eq] at hs
 obtain ⟨h1, h2⟩ := hs
 have key : ∀ i, i ≤ p.length → Ev (fun k => spec_poGood.l0 k p (p.length : Int) (i : Int) p) (allFrom (rowOk p) p.length i) := by
  refine downTo p.length ?_ ?_
  ·refine Ev.step (by intro k; simp only [spec_poGood.l0]; rfl) ?_
   exact Ev.no (by omega) (Ev.ret (allFrom_end _ _).symm)
  ·intro i hi ih
   refine Ev.step (by intro k; simp only [spec_poGood.l0]; rfl) ?_
   refine Ev.yes (by omega) (Ev.yes (by omega) (Ev.yes (by omega) ?_))
   rw [rdN, mask_eq (by omega)]
   refine Ev.call (l1In_eq _ _ _) ?_
   rw [allFrom_step _ hi]
   by_cases hb : 0 ≤ p.getD i 0 ∧ p.getD i 0 ≤ 2 ^ i - 1
   rotate_left
   ·exact Ev.no (by rw [range_false hb]; simp) (Ev.ret (by rw [rowOk_false hb]; rfl))
   refine Ev.yes (range_true hb) ?_
   have hv : p.getD i 0 = (L p i : Int) := by unfold L; omega
   rw [rowOk_true hb]
   generalize hx : p.getD i 0 = x at *
   have inner : ∀ j, j ≤ i → Ev (fun k => spec_poGood.l1 k (i : Int) x (j : Int) p (p.length : Int) (i : Int) p)
    (allFrom (fun j => !(L p i).testBit j || decide (Go.bits .andNot .i64 (p.getD j 0) x = 0)) i j && allFrom (rowOk p) p.length (i + 1)) := by
    refine downTo i ?_ ?_
    ·refine Ev.step (by intro k; simp only [spec_poGood.l1]; rfl) ?_
     refine Ev.no (by omega) ?_
     rw [wid1 hi (by omega), allFrom_end, Bool.true_and]
     exact ih
    ·intro j hj ihj
     refine Ev.step (by intro k; simp only [spec_poGood.l1]; rfl) ?_
     refine Ev.yes (by omega) (Ev.yes (by omega) ?_)
     rw [allFrom_step _ hj, wid1 hj (by omega), rdN]
     cases hbit : (L p i).testBit j with
     | false => exact Ev.no (by rw [hv, bit_test (by omega), hbit]; simp) (evc ihj (by simp))
     | true =>
      refine Ev.yes (by rw [hv, bit_test (by omega), hbit]) (Ev.yes (by omega) ?_)
      refine Ev.ite (fun h => evc ihj ?_) (fun h => Ev.ret ?_)
      ·rw [decide_eq_true h]; simp
      ·rw [decide_eq_false h]; simp
   exact inner 0 (by omega)
 exact key 0 (by omega)
end Go.Proofs.Ytmbojobkiainlaa.Q
end

section
namespace Go.Proofs.Ytmbojobkiainlaa.Q
open Go.RowKit Go.Proofs.YtmbojobkiainlaaW.PrintWords
set_option linter.unusedVariables false
def Tl (N : Nat) (f : Nat → Nat) : List Int := (List.range N).map fun t => ((f t : Nat) : Int)
theorem Tl_len (N : Nat) (f : Nat → Nat) : (Tl N f).length = N := by simp [Tl]
theorem Tl_get (N : Nat) (f : Nat → Nat) {t : Nat} (ht : t < N) : rd (Tl N f) (t : Int) = ((f t : Nat) : Int) := by
 rw [rdN]
 unfold Tl
 rw [List.getD_eq_getElem?_getD, List.getElem?_map, List.getElem?_range ht]; rfl
theorem Tl_congr {N : Nat} {f g : Nat → Nat} (h : ∀ t, t < N → f t = g t) : Tl N f = Tl N g := List.map_congr_left fun t ht => by rw [h t (List.mem_range.1 ht)]
theorem Tl_set {N : Nat} {f : Nat → Nat} {t x : Nat} (ht : t < N) : (Tl N f).set t (x : Int) = Tl N fun u => if u = t then x else f u := by
 apply List.ext_getElem?
 intro i
 unfold Tl
 rw [List.getElem?_set, List.getElem?_map, List.getElem?_map, List.length_map, List.length_range]
 by_cases hi : i < N
 ·rw [List.getElem?_range hi]
  by_cases e : t = i
  ·subst e
   rw [if_pos rfl, if_pos ht]
   simp
  ·rw [if_neg e]
   simp only [Option.map_some]
   rw [if_neg (fun h => e h.symm)]
 ·rw [List.getElem?_eq_none (l := List.range N) (by simpa using hi)]
  by_cases e : t = i
  ·subst e; exact absurd ht hi
  ·rw [if_neg e]; rfl
theorem Tl_zero (N : Nat) : List.replicate N (0 : Int) = Tl N fun _ => 0 := by
 unfold Tl
 apply List.ext_getElem
 ·simp
 ·intro i h1 h2; simp
theorem sumL_snoc (l : List Nat) (x : Nat) : sumL (l ++ [x]) = sumL l + x := by rw [sumL_append]; simp [sumL]
theorem take_snoc {α : Type} (l : List α) (i : Nat) (h : i < l.length) : l.take (i + 1) = l.take i ++ [l[i]] := by
 rw [List.take_add_one, List.getElem?_eq_getElem h]; rfl
end Go.Proofs.Ytmbojobkiainlaa.Q
end

section
namespace Go.Proofs.Ytmbojobkiainlaa.Q
open Go.RowKit Go.Proofs.YtmbojobkiainlaaW.PrintWords Go.Proofs.Ytmbojobkiainlaa.F
set_option linter.unusedVariables false
theorem laFree_ev {p : List Int} (hp : PO p) {u : Nat} (hu : u < 2 ^ p.length) : Ev (fun k => spec_laFree.f k p (u : Int)) (frB p u) := by
 have hn := hp.small
 unfold spec_laFree.f frB
 have key : ∀ i, i ≤ p.length → Ev (fun k => spec_laFree.l0 k (u : Int) p (p.length : Int) (i : Int)) (allFrom (fun i => !u.testBit i || decide (L p i &&& u = 0)) p.length i) := by
  refine downTo _ ?_ ?_
  ·exact Ev.step (by intro k; simp only [spec_laFree.l0]; rfl) (Ev.no (by omega) (Ev.ret (allFrom_end _ _).symm))
  ·intro i hi ih
   refine Ev.step (by intro k; simp only [spec_laFree.l0]; rfl) (Ev.yes (by omega) (Ev.yes (by omega) (Ev.yes (by omega) ?_)))
   rw [wid1 hi (by omega), rdN, hp.val i hi, allFrom_step _ hi]
   refine Ev.call (poIn_eq (by omega)) ?_
   cases u.testBit i with
   | false => exact Ev.no (by simp) (evc ih (by simp))
   | true =>
    refine Ev.yes rfl ?_
    rw [bits_andN (lt_pow (L_lt hp hi) (by omega)) (lt_pow hu (by omega))]
    refine Ev.ite (fun h => evc ih ?_) (fun h => Ev.ret ?_)
    ·rw [decide_eq_true (show L p i &&& u = 0 by exact_mod_cast h)]; simp
    ·rw [decide_eq_false (show ¬ L p i &&& u = 0 by intro e; exact h (by rw [e]; rfl))]; simp
 exact key 0 (Nat.zero_le _)
def gotN (B : Nat → Nat → Bool) (ids : List Nat) (v : Nat → Nat) (i t : Nat) : Nat := if t ∈ ids then sumL (((ids.take i).filter fun s => B s t).map v) else 0
def gotJ (B : Nat → Nat → Bool) (ids : List Nat) (v : Nat → Nat) (i j s t : Nat) : Nat := gotN B ids v i t + if t ∈ ids.take j ∧ B s t = true then v s else 0
theorem gotN_le {B : Nat → Nat → Bool} {ids : List Nat} {v : Nat → Nat} {i t : Nat} : gotN B ids v i t ≤ sumL ((ids.filter fun s => B s t).map v) := by
 unfold gotN
 split
 ·refine Nat.le_trans ?_ (Nat.le_refl (sumL ((ids.filter fun s => B s t).map v)))
  have e : ids.filter (fun s => B s t) = (ids.take i).filter (fun s => B s t) ++ (ids.drop i).filter (fun s => B s t) := by rw [← List.filter_append, List.take_append_drop]
  rw [e, List.map_append, sumL_append]
  omega
 ·omega
theorem gotN_step {B : Nat → Nat → Bool} {ids : List Nat} {v : Nat → Nat} {i t : Nat} (hi : i < ids.length) : gotN B ids v (i + 1) t = gotN B ids v i t + if t ∈ ids ∧ B ids[i] t = true then v ids[i] else 0 := by
 unfold gotN
 by_cases ht : t ∈ ids
 ·rw [if_pos ht, if_pos ht, take_snoc ids i hi, List.filter_append, List.map_append, sumL_append]
  cases hb : B ids[i] t with
  | true => simp [ht, hb, sumL]
  | false => simp [hb, sumL]
 ·rw [if_neg ht, if_neg ht, if_neg (fun h => ht h.1)]
theorem gotJ_end {B : Nat → Nat → Bool} {ids : List Nat} {v : Nat → Nat} {i t : Nat} (hi : i < ids.length) : gotJ B ids v i ids.length ids[i] t = gotN B ids v (i + 1) t := by
 unfold gotJ
 rw [List.take_length, gotN_step hi]
theorem not_in_take {ids : List Nat} (hn : ids.Nodup) {j : Nat} (hj : j < ids.length) : ids[j] ∉ ids.take j := by
 intro h
 obtain ⟨i, hi, e⟩ := List.mem_take_iff_getElem.1 h
 rw [List.nodup_iff_pairwise_ne, List.pairwise_iff_getElem] at hn
 exact hn i j (by omega) hj (by omega) e
theorem gotJ_step {B : Nat → Nat → Bool} {ids : List Nat} {v : Nat → Nat} {i j s : Nat} (hn : ids.Nodup) (hj : j < ids.length) (u : Nat) :
 gotJ B ids v i (j + 1) s u = if u = ids[j] ∧ B s u = true then gotJ B ids v i j s u + v s else gotJ B ids v i j s u := by
 unfold gotJ
 rw [take_snoc ids j hj]
 by_cases e : u = ids[j]
 ·subst e
  have h0 := not_in_take hn hj
  have h1 : ids[j] ∈ ids.take j ++ [ids[j]] := List.mem_append.2 (.inr (List.mem_singleton.2 rfl))
  cases hb : B s ids[j] with
  | true => rw [if_pos ⟨h1, rfl⟩, if_pos ⟨rfl, rfl⟩, if_neg (fun h => h0 h.1)]; omega
  | false => rw [if_neg (by simp), if_neg (by simp), if_neg (by simp)]
 ·have hne : ¬ (u = ids[j] ∧ B s u = true) := fun h => e h.1
  have : (u ∈ ids.take j ++ [ids[j]]) ↔ u ∈ ids.take j := by rw [List.mem_append, List.mem_singleton]; exact ⟨fun h => h.elim id (fun h => absurd h e), .inl⟩
  rw [if_neg hne]
  by_cases h : u ∈ ids.take j ∧ B s u = true
  ·rw [if_pos h, if_pos ⟨this.2 h.1, h.2⟩]
  ·rw [if_neg h, if_neg (fun h2 => h ⟨this.1 h2.1, h2.2⟩)]
theorem gotJ_le {B : Nat → Nat → Bool} {ids : List Nat} {v : Nat → Nat} {i j t : Nat} (hi : i < ids.length) (hj : j ≤ ids.length) : gotJ B ids v i j ids[i] t ≤ gotN B ids v (i + 1) t := by
 rw [← gotJ_end hi]
 unfold gotJ
 rw [List.take_length]
 by_cases h : t ∈ ids.take j ∧ B ids[i] t = true
 ·rw [if_pos h, if_pos ⟨List.mem_of_mem_take h.1, h.2⟩]; omega
 ·rw [if_neg h]; omega
theorem chains_row {p : List Int} (hp : PO p) (b : Bool) (v : Nat → Nat) (hv : ∀ t, sumL (((idealsN p).filter fun s => stB p b s t).map v) ≤ 4000000000000000000) {i : Nat} (hi : i < (idealsN p).length) {x1 : Int} {r : Int} :
 ∀ j, j ≤ (idealsN p).length → Ev (fun k => spec_laChains.l1 k x1 b (ints (idealsN p)) (Tl (2 ^ p.length) v) (Tl (2 ^ p.length) (gotN (stB p b) (idealsN p) v (i + 1))) (ints (idealsN p)) ((ints (idealsN p)).length : Int) (wrap64 ((i : Int) + 1)) p) r →
 Ev (fun k => spec_laChains.l2 k x1 b (ints (idealsN p)) (Tl (2 ^ p.length) v) (Tl (2 ^ p.length) (gotJ (stB p b) (idealsN p) v i j (idealsN p)[i])) ((idealsN p)[i] : Int) (ints (idealsN p)) ((ints (idealsN p)).length : Int) (i : Int) (ints (idealsN p)) ((ints (idealsN p)).length : Int) (j : Int) p) r := by
 have hn := hp.small
 have h2 : 2 ^ p.length ≤ 1024 := Nat.le_trans (Nat.pow_le_pow_right (by decide) hn) (by decide)
 have hl := idealsN_len p
 have hnd := idealsN_nodup p
 obtain ⟨hs, hsi⟩ := mem_idealsN.1 (List.getElem_mem hi)
 generalize hS : (idealsN p)[i] = s at hs hsi ⊢
 rw [ints_len]
 refine downTo _ ?_ ?_
 ·intro hr
  refine Ev.step (by intro k; simp only [spec_laChains.l2]; rfl) (Ev.no (by omega) ?_)
  have e : Tl (2 ^ p.length) (gotJ (stB p b) (idealsN p) v i (idealsN p).length s) = Tl (2 ^ p.length) (gotN (stB p b) (idealsN p) v (i + 1)) := Tl_congr fun t _ => by rw [← hS]; exact gotJ_end hi
  rw [e]
  exact hr
 ·intro j hj ih hr
  have ih := ih hr
  obtain ⟨ht, hti⟩ := mem_idealsN.1 (List.getElem_mem hj)
  have hrd : rd (ints (idealsN p)) (j : Int) = ((idealsN p)[j] : Int) := by rw [rd_ints, List.getD_eq_getElem?_getD, List.getElem?_eq_getElem hj]; rfl
  have hstep := gotJ_step (B := stB p b) (v := v) (i := i) (s := s) hnd hj
  generalize hT : (idealsN p)[j] = t at ht hti hrd hstep
  have hsame : stB p b s t = false ∨ v s = 0 → Tl (2 ^ p.length) (gotJ (stB p b) (idealsN p) v i (j + 1) s) = Tl (2 ^ p.length) (gotJ (stB p b) (idealsN p) v i j s) := fun h => Tl_congr fun u _ => by
   rw [hstep u]
   by_cases hu : u = t ∧ stB p b s u = true
   ·rw [if_pos hu]
    rcases h with h | h
    ·rw [hu.1, h] at hu; exact absurd hu.2 (by simp)
    ·omega
   ·rw [if_neg hu]
  refine Ev.step (by intro k; simp only [spec_laChains.l2]; rfl) (Ev.yes (by omega) (Ev.yes (by omega) (Ev.yes (by rw [ints_len]; omega) (Ev.yes (by omega) (Ev.yes (by rw [Tl_len]; omega) ?_)))))
  rw [hrd, Tl_get _ _ hs, Tl_get _ _ ht, wid1 (show j < (idealsN p).length from hj) (by omega), bits_andNotN (lt_pow hs (by omega)) (lt_pow ht (by omega)), bits_andNotN (lt_pow ht (by omega)) (lt_pow hs (by omega))]
  refine Ev.ite (fun hv0 => ?_) (fun hv0 => ?_)
  rotate_left
  ·rw [hsame (.inr (by omega))] at ih; exact ih
  have hadd : stB p b s t = true → (Tl (2 ^ p.length) (gotJ (stB p b) (idealsN p) v i j s)).set ((t : Int)).toNat (wrap64 (((gotJ (stB p b) (idealsN p) v i j s t : Nat) : Int) + ((v s : Nat) : Int))) = Tl (2 ^ p.length) (gotJ (stB p b) (idealsN p) v i (j + 1) s) := fun hB => by
   have hle : gotJ (stB p b) (idealsN p) v i (j + 1) s t ≤ 4000000000000000000 := by
    rw [← hS]
    exact Nat.le_trans (gotJ_le hi (by omega)) (Nat.le_trans gotN_le (hv t))
   rw [hstep t, if_pos ⟨rfl, hB⟩] at hle
   rw [wid (by omega) (by omega), Int.toNat_natCast, show ((gotJ (stB p b) (idealsN p) v i j s t : Nat) : Int) + ((v s : Nat) : Int) = ((gotJ (stB p b) (idealsN p) v i j s t + v s : Nat) : Int) by omega, Tl_set ht]
   refine Tl_congr fun u _ => ?_
   rw [hstep u]
   by_cases e : u = t
   ·subst e; rw [if_pos rfl, if_pos ⟨rfl, hB⟩]
   ·rw [if_neg e, if_neg (fun h => e h.1)]
  refine Ev.ite (fun hsub => ?_) (fun hsub => ?_)
  rotate_left
  ·have : stB p b s t = false := by
    unfold stB subB
    rw [show (ndiff s t == 0) = false by rw [beq_eq_false_iff_ne]; intro e; exact hsub (by rw [e]; rfl)]; rfl
   rw [hsame (.inl this)] at ih; exact ih
  have hsub' : subB s t = true := by unfold subB; rw [beq_iff_eq]; exact_mod_cast hsub
  cases b with
  | false =>
   have hB : stB p false s t = true := by unfold stB; rw [hsub']; rfl
   refine Ev.no (by simp) (Ev.yes (by omega) (Ev.yes (by rw [Tl_len]; omega) ?_))
   rw [hadd hB]; exact ih
  | true =>
   refine Ev.yes rfl (Ev.bind (laFree_ev hp (ndiff_lt ht)) ?_)
   cases hf : frB p (ndiff t s) with
   | true =>
    have hB : stB p true s t = true := by unfold stB; rw [hsub', hf]; rfl
    refine Ev.yes rfl (Ev.yes (by omega) (Ev.yes (by rw [Tl_len]; omega) ?_))
    rw [hadd hB]; exact ih
   | false =>
    have hB : stB p true s t = false := by unfold stB; rw [hsub', hf]; rfl
    rw [hsame (.inl hB)] at ih
    exact Ev.no (by simp) ih
theorem chains_rows {p : List Int} (hp : PO p) (b : Bool) (v : Nat → Nat) (hv : ∀ t, sumL (((idealsN p).filter fun s => stB p b s t).map v) ≤ 4000000000000000000) {x1 : Int} {r : Int}
 (hr : Ev (fun k => spec_laChains.l0 k (wrap64 (x1 - 1)) b (ints (idealsN p)) (Tl (2 ^ p.length) (gotN (stB p b) (idealsN p) v (idealsN p).length)) p) r) :
 ∀ i, i ≤ (idealsN p).length → Ev (fun k => spec_laChains.l1 k x1 b (ints (idealsN p)) (Tl (2 ^ p.length) v) (Tl (2 ^ p.length) (gotN (stB p b) (idealsN p) v i)) (ints (idealsN p)) ((ints (idealsN p)).length : Int) (i : Int) p) r := by
 have hn := hp.small
 have h2 : 2 ^ p.length ≤ 1024 := Nat.le_trans (Nat.pow_le_pow_right (by decide) hn) (by decide)
 have hl := idealsN_len p
 refine downTo _ ?_ ?_
 ·refine Ev.step (by intro k; simp only [spec_laChains.l1]; rfl) (Ev.no (by rw [ints_len]; omega) hr)
 ·intro i hi ih
  refine Ev.step (by intro k; simp only [spec_laChains.l1]; rfl) (Ev.yes (by rw [ints_len]; omega) (Ev.yes (by omega) (Ev.yes (by rw [ints_len]; omega) ?_)))
  have hrd : rd (ints (idealsN p)) (i : Int) = ((idealsN p)[i] : Int) := by rw [rd_ints, List.getD_eq_getElem?_getD, List.getElem?_eq_getElem hi]; rfl
  rw [hrd]
  have h0 : Tl (2 ^ p.length) (gotN (stB p b) (idealsN p) v i) = Tl (2 ^ p.length) (gotJ (stB p b) (idealsN p) v i 0 (idealsN p)[i]) := Tl_congr fun t _ => by unfold gotJ; simp
  rw [h0]
  exact chains_row hp b v hv hi 0 (Nat.zero_le _) (by rw [wid1 hi (by omega)]; exact ih)
def wvI (p : List Int) (b : Bool) (k t : Nat) : Nat := if t ∈ idealsN p then wvN (stB p b) (idealsN p) k t else 0
theorem wvI_step (p : List Int) (b : Bool) (k t : Nat) : gotN (stB p b) (idealsN p) (wvI p b k) (idealsN p).length t = wvI p b (k + 1) t := by
 unfold gotN
 rw [List.take_length]
 conv => rhs; unfold wvI
 by_cases h : t ∈ idealsN p
 ·rw [if_pos h, if_pos h]
  conv => rhs; unfold wvN
  congr 1
  refine List.map_congr_left fun s hs => ?_
  unfold wvI
  rw [if_pos (List.mem_filter.1 hs).1]
 ·rw [if_neg h, if_neg h]
theorem wvI_sum {p : List Int} (hp : PO p) (b : Bool) {k : Nat} (hk : k ≤ 13) (t : Nat) : sumL (((idealsN p).filter fun s => stB p b s t).map (wvI p b k)) ≤ 4000000000000000000 := by
 refine Nat.le_trans ?_ (Nat.le_trans (wvN_small hp.small (B := stB p b) (k := k + 1) (t := t) (fun s t h => stB_sub h) (by omega)) (by decide))
 conv => rhs; unfold wvN
 refine sumL_map_le _ _ _ fun s _ => ?_
 unfold wvI
 split
 ·exact Nat.le_refl _
 ·exact Nat.zero_le _
theorem laChains_ev {p : List Int} (hp : PO p) (b : Bool) {k : Nat} (hk : k ≤ 14) : Ev (fun n => spec_laChains.f n p (k : Int) b) ((wvN (stB p b) (idealsN p) k (allN p) : Nat) : Int) := by
 have hn := hp.small
 have h2 : 2 ^ p.length ≤ 1024 := Nat.le_trans (Nat.pow_le_pow_right (by decide) hn) (by decide)
 have hpos := Nat.two_pow_pos p.length
 have hall : allN p ∈ idealsN p := mem_idealsN.2 ⟨allN_lt p, idealB_all p hp⟩
 unfold spec_laChains.f
 refine Ev.bind (poIdeals_ev hp) ?_
 rw [shlN (by omega)]
 refine Ev.yes (by omega) (Ev.yes (by rw [Int.toNat_natCast]; omega) ?_)
 rw [Int.toNat_natCast, Tl_zero]
 refine Ev.call rfl (Ev.yes (by rw [Tl_len]; omega) ?_)
 have e0 : (Tl (2 ^ p.length) fun _ => 0).set (0 : Int).toNat 1 = Tl (2 ^ p.length) (wvI p b 0) := by
  refine (Tl_set (f := fun _ => 0) (t := 0) (x := 1) hpos).trans (Tl_congr fun u _ => ?_)
  unfold wvI wvN
  by_cases hu : u = 0
  ·subst hu; rw [if_pos rfl, if_pos (zero_mem p)]
  ·rw [if_neg hu]
   split
   ·rfl
   ·rfl
 rw [e0]
 have key : ∀ q, q ≤ k → Ev (fun n => spec_laChains.l0 n (((k - q : Nat) : Nat) : Int) b (ints (idealsN p)) (Tl (2 ^ p.length) (wvI p b q)) p) ((wvN (stB p b) (idealsN p) k (allN p) : Nat) : Int) := by
  refine downTo _ ?_ ?_
  ·refine Ev.step (by intro k; simp only [spec_laChains.l0]; rfl) (Ev.no (by omega) ?_)
   have e1 : wrap64 (((Tl (2 ^ p.length) (wvI p b k)).length : Int) - 1) = ((allN p : Nat) : Int) := by
    rw [Tl_len, wid (by omega) (by omega)]; unfold allN; omega
   rw [e1]
   refine Ev.yes (by omega) (Ev.yes (by rw [Tl_len]; have := allN_lt p; omega) (Ev.ret ?_))
   rw [Tl_get _ _ (allN_lt p)]
   unfold wvI
   rw [if_pos hall]
  ·intro q hq ih
   refine Ev.step (by intro k; simp only [spec_laChains.l0]; rfl) (Ev.yes (by omega) (Ev.yes (by omega) (Ev.yes (by rw [Tl_len, Int.toNat_natCast]; omega) ?_)))
   rw [Tl_len, Int.toNat_natCast, Tl_zero]
   have e2 : Tl (2 ^ p.length) (fun _ => 0) = Tl (2 ^ p.length) (gotN (stB p b) (idealsN p) (wvI p b q) 0) := Tl_congr fun t _ => by unfold gotN; split <;> simp [sumL]
   rw [e2]
   refine chains_rows hp b _ (wvI_sum hp b (by omega)) ?_ 0 (Nat.zero_le _)
   rw [wid (by omega) (by omega), show (((k - q : Nat) : Nat) : Int) - 1 = ((k - (q + 1) : Nat) : Int) by omega]
   rw [show Tl (2 ^ p.length) (gotN (stB p b) (idealsN p) (wvI p b q) (idealsN p).length) = Tl (2 ^ p.length) (wvI p b (q + 1)) from Tl_congr fun t _ => wvI_step p b q t]
   exact ih
 exact key 0 (Nat.zero_le _)
end Go.Proofs.Ytmbojobkiainlaa.Q
end

section
namespace Go.Proofs.Ytmbojobkiainlaa.Q
open Go.RowKit Go.Proofs.YtmbojobkiainlaaW.PrintWords
set_option linter.unusedVariables false
def opB (p : List Int) (s t : Nat) : Bool := subB s t && (!(ndiff t s == 0) && frB p (ndiff t s))
theorem opB_sub {p : List Int} {s t : Nat} (h : opB p s t = true) : subB s t = true := by
 unfold opB at h
 rw [Bool.and_eq_true] at h
 exact h.1
def stepsN (p : List Int) : List Nat := (List.range p.length).map fun j => wvN (opB p) (idealsN p) (j + 1) (allN p)
def bin : Nat → Nat → Nat
 | _, 0 => 1
 | 0, _ + 1 => 0
 | k + 1, j + 1 => bin k j + bin k (j + 1)
theorem bin_big : ∀ k j, k < j → bin k j = 0
 | _, 0, h => absurd h (Nat.not_lt_zero _)
 | 0, _ + 1, _ => rfl
 | k + 1, j + 1, h => by unfold bin; rw [bin_big k j (by omega), bin_big k (j + 1) (by omega)]
theorem bin_self : ∀ k, bin k k = 1
 | 0 => rfl
 | k + 1 => by unfold bin; rw [bin_self k, bin_big k (k + 1) (by omega)]
theorem bin_zero (k : Nat) : bin k 0 = 1 := by cases k <;> rfl
theorem frB_zero (p : List Int) : frB p 0 = true := by unfold frB; rw [allFrom_iff]; intro j _ _; rw [Nat.zero_testBit]; rfl
theorem ndiff_self (s : Nat) : ndiff s s = 0 := by unfold ndiff; rw [Nat.and_self, Nat.xor_self]
theorem sub_antisymm {s t : Nat} (h1 : subB s t = true) (h2 : ndiff t s = 0) : s = t := by
 apply Nat.eq_of_testBit_eq
 intro i
 rw [Bool.eq_iff_iff]
 exact ⟨fun h => subB_iff.1 h1 i h, fun h => ndiff_zero.1 h2 i h⟩
theorem st_split (p : List Int) (s t : Nat) : stB p true s t = (decide (s = t) || opB p s t) := by
 by_cases e : s = t
 ·subst e
  unfold stB
  rw [ndiff_self, frB_zero, show subB s s = true by unfold subB; rw [ndiff_self]; rfl]
  simp
 ·rw [decide_eq_false e, Bool.false_or]
  unfold stB opB
  cases h : subB s t with
  | false => rfl
  | true =>
   have : (ndiff t s == 0) = false := by rw [beq_eq_false_iff_ne]; exact fun h2 => e (sub_antisymm h h2)
   rw [this]; rfl
theorem op_irrefl (p : List Int) (s : Nat) : opB p s s = false := by unfold opB; rw [ndiff_self]; simp
theorem sum_split (p : List Int) (f : Nat → Nat) (t : Nat) : ∀ l : List Nat, l.Nodup → t ∈ l → sumL ((l.filter fun s => stB p true s t).map f) = f t + sumL ((l.filter fun s => opB p s t).map f)
 | [], _, h => by cases h
 | s :: l, hn, h => by
  obtain ⟨h1, h2⟩ := List.nodup_cons.1 hn
  rw [List.filter_cons, List.filter_cons, st_split]
  by_cases e : s = t
  ·subst e
   rw [decide_eq_true rfl, Bool.true_or, if_pos rfl, op_irrefl, if_neg (by simp), List.map_cons]
   have e2 : l.filter (fun x => stB p true x s) = l.filter fun x => opB p x s := List.filter_congr fun x hx => by
    rw [st_split, decide_eq_false (fun e => h1 (by rw [← e]; exact hx)), Bool.false_or]
   rw [e2]; rfl
  ·have ht : t ∈ l := by
    rcases List.mem_cons.1 h with h | h
    ·exact absurd h.symm e
    ·exact h
   rw [decide_eq_false e, Bool.false_or]
   have ih := sum_split p f t l h2 ht
   cases opB p s t with
   | false => rw [if_neg (by simp), if_neg (by simp)]; exact ih
   | true => rw [if_pos rfl, if_pos rfl, List.map_cons, List.map_cons]; simp only [sumL]; rw [ih]; omega
def upto (f : Nat → Nat) : Nat → Nat
 | 0 => 0
 | n + 1 => upto f n + f n
theorem upto_congr {f g : Nat → Nat} : ∀ n, (∀ i, i < n → f i = g i) → upto f n = upto g n
 | 0, _ => rfl
 | n + 1, h => by unfold upto; rw [upto_congr n (fun i hi => h i (by omega)), h n (by omega)]
theorem upto_add (f g : Nat → Nat) : ∀ n, upto (fun i => f i + g i) n = upto f n + upto g n
 | 0 => rfl
 | n + 1 => by unfold upto; rw [upto_add f g n]; omega
theorem upto_shift (f : Nat → Nat) : ∀ n, upto f (n + 1) = f 0 + upto (fun i => f (i + 1)) n
 | 0 => by simp [upto]
 | n + 1 => by
  have e : upto f (n + 1 + 1) = upto f (n + 1) + f (n + 1) := rfl
  rw [e, upto_shift f n]
  show _ = f 0 + (upto (fun i => f (i + 1)) n + f (n + 1))
  omega
theorem upto_sum {α : Type} (g : Nat → α → Nat) : ∀ (l : List α) (n : Nat), sumL (l.map fun s => upto (fun j => g j s) n) = upto (fun j => sumL (l.map (g j))) n
 | [], n => by
  induction n with
  | zero => rfl
  | succ n ih => unfold upto; rw [← ih]; rfl
 | s :: l, n => by
  simp only [List.map_cons, sumL]
  rw [upto_sum g l n, ← upto_add]
theorem sumL_mul (c : Nat) {α : Type} (f : α → Nat) : ∀ l : List α, sumL (l.map fun s => c * f s) = c * sumL (l.map f)
 | [] => rfl
 | x :: l => by simp only [List.map_cons, sumL]; rw [sumL_mul c f l, Nat.mul_add]
theorem upto_zero (f : Nat → Nat) : ∀ (n m : Nat), n ≤ m → (∀ i, n ≤ i → i < m → f i = 0) → upto f m = upto f n
 | n, 0, h, _ => by rw [show n = 0 by omega]
 | n, m + 1, h, h0 => by
  rcases Nat.lt_or_ge m n with h1 | h1
  ·rw [show n = m + 1 by omega]
  ·show upto f m + f m = upto f n
   rw [upto_zero f n m h1 (fun i a b => h0 i a (by omega)), h0 m h1 (by omega), Nat.add_zero]
theorem strict_steps (p : List Int) : ∀ (k N : Nat), k + 1 ≤ N → ∀ t ∈ idealsN p, wvN (stB p true) (idealsN p) k t = upto (fun j => bin k j * wvN (opB p) (idealsN p) j t) N
 | 0, N, h, t, ht => by
  rw [upto_zero _ 1 N h (fun i h1 _ => by rw [bin_big 0 i (by omega), Nat.zero_mul])]
  show _ = 0 + bin 0 0 * wvN (opB p) (idealsN p) 0 t
  rw [bin_zero, Nat.one_mul, Nat.zero_add]
  unfold wvN; rfl
 | k + 1, N, h, t, ht => by
  conv => lhs; unfold wvN
  rw [sum_split p _ t _ (idealsN_nodup p) ht]
  obtain ⟨M, rfl⟩ : ∃ M, N = M + 1 := ⟨N - 1, by omega⟩
  have e1 : sumL (((idealsN p).filter fun s => opB p s t).map (wvN (stB p true) (idealsN p) k)) = upto (fun j => bin k j * wvN (opB p) (idealsN p) (j + 1) t) M := by
   have e2 : ((idealsN p).filter fun s => opB p s t).map (wvN (stB p true) (idealsN p) k) = ((idealsN p).filter fun s => opB p s t).map fun s => upto (fun j => bin k j * wvN (opB p) (idealsN p) j s) M :=
    List.map_congr_left fun s hs => strict_steps p k M (by omega) s (List.mem_filter.1 hs).1
   rw [e2, upto_sum]
   refine upto_congr M fun j _ => ?_
   rw [sumL_mul]
   conv => rhs; unfold wvN
  rw [e1, strict_steps p k (M + 1) (by omega) t ht, upto_shift, upto_shift]
  have e3 : upto (fun i => bin (k + 1) (i + 1) * wvN (opB p) (idealsN p) (i + 1) t) M = upto (fun i => bin k (i + 1) * wvN (opB p) (idealsN p) (i + 1) t) M + upto (fun i => bin k i * wvN (opB p) (idealsN p) (i + 1) t) M := by
   rw [← upto_add]
   refine upto_congr M fun i _ => ?_
   show (bin k i + bin k (i + 1)) * _ = _
   rw [Nat.add_mul]; omega
  rw [e3, bin_zero, bin_zero]
  omega
theorem pcard_lt {p : List Int} {s t : Nat} (ht : t < 2 ^ p.length) (h : opB p s t = true) : pcard p.length s < pcard p.length t := by
 have hs := opB_sub h
 unfold opB at h
 simp only [Bool.and_eq_true, Bool.not_eq_true', beq_eq_false_iff_ne] at h
 obtain ⟨i, hi⟩ : ∃ i, (ndiff t s).testBit i = true := by
  rcases Classical.em (∃ i, (ndiff t s).testBit i = true) with h1 | h1
  ·exact h1
  ·refine absurd (Nat.eq_of_testBit_eq fun i => ?_) h.2.1
   rw [Nat.zero_testBit]
   cases hb : (ndiff t s).testBit i with
   | false => rfl
   | true => exact absurd ⟨i, hb⟩ h1
 rw [ndiff_bit, Bool.and_eq_true, Bool.not_eq_true'] at hi
 unfold pcard
 exact countP_lt _ _ _ (fun x _ hx => subB_iff.1 hs x hx) i (List.mem_range.2 (lt_of_bit ht hi.1)) hi.1 hi.2
theorem op_short {p : List Int} : ∀ j t, t < 2 ^ p.length → pcard p.length t < j → wvN (opB p) (idealsN p) j t = 0
 | 0, _, _, h => absurd h (Nat.not_lt_zero _)
 | j + 1, t, ht, h => by
  unfold wvN
  have : ∀ l : List Nat, (∀ s ∈ l, wvN (opB p) (idealsN p) j s = 0) → sumL (l.map (wvN (opB p) (idealsN p) j)) = 0 := by
   intro l
   induction l with
   | nil => intro _; rfl
   | cons x l ih => intro hl; simp only [List.map_cons, sumL]; rw [hl x List.mem_cons_self, ih (fun s hs => hl s (List.mem_cons_of_mem _ hs))]
  refine this _ fun s hs => ?_
  obtain ⟨h1, h2⟩ := List.mem_filter.1 hs
  exact op_short j s (mem_idealsN.1 h1).1 (by have := pcard_lt ht h2; omega)
theorem strict_all {p : List Int} (hp : PO p) (k : Nat) : wvN (stB p true) (idealsN p) k (allN p) = upto (fun j => bin k (j + 1) * wvN (opB p) (idealsN p) (j + 1) (allN p)) p.length := by
 have hall : allN p ∈ idealsN p := mem_idealsN.2 ⟨allN_lt p, idealB_all p hp⟩
 rw [strict_steps p k (k + p.length + 2) (by omega) _ hall]
 rw [show k + p.length + 2 = (k + p.length + 1) + 1 by omega, upto_shift]
 have h0 : wvN (opB p) (idealsN p) 0 (allN p) = 0 := by
  unfold wvN
  rw [if_neg]
  unfold allN
  have : 2 ^ 1 ≤ 2 ^ p.length := Nat.pow_le_pow_right (by decide) hp.pos
  omega
 rw [h0, Nat.mul_zero, Nat.zero_add]
 exact upto_zero _ p.length _ (by omega) (fun i h1 _ => by rw [op_short (i + 1) _ (allN_lt p) (by rw [pcard_all]; omega), Nat.mul_zero])
def ch (x : Int) : Nat → Int
 | 0 => 1
 | j + 1 => wrap64 (Int.tdiv (wrap64 (ch x j * wrap64 (x - (j : Int)))) ((j + 1 : Nat) : Int))
theorem chBin_all : (List.range 14).all (fun x => (List.range 11).all fun j => decide (ch (x : Int) j = ((bin x j : Nat) : Int))) = true := by decide +kernel
theorem ch_bin {x j : Nat} (hx : x ≤ 13) (hj : j ≤ 10) : ch (x : Int) j = ((bin x j : Nat) : Int) :=
 of_decide_eq_true (List.all_eq_true.1 (List.all_eq_true.1 chBin_all x (List.mem_range.2 (by omega))) j (List.mem_range.2 (by omega)))
def polyL (x : Int) : List Int → Nat → Int → Int
 | [], _, acc => acc
 | n :: l, j, acc => polyL x l (j + 1) (wrap64 (acc + wrap64 (n * ch x (j + 1))))
def dotL (q : Nat) : List Nat → Nat → Nat
 | [], _ => 0
 | n :: l, j => n * bin q (j + 1) + dotL q l (j + 1)
theorem dotL_snoc (q : Nat) (n : Nat) : ∀ (l : List Nat) (j : Nat), dotL q (l ++ [n]) j = dotL q l j + n * bin q (j + l.length + 1)
 | [], j => by simp [dotL]
 | x :: l, j => by
  rw [List.cons_append]
  unfold dotL
  rw [dotL_snoc q n l (j + 1), List.length_cons, show j + 1 + l.length + 1 = j + (l.length + 1) + 1 by omega]
  omega
theorem dotL_upto (q : Nat) (e : Nat → Nat) : ∀ m, dotL q ((List.range m).map e) 0 = upto (fun j => bin q (j + 1) * e j) m
 | 0 => rfl
 | m + 1 => by
  rw [List.range_succ, List.map_append, List.map_cons, List.map_nil, dotL_snoc, dotL_upto q e m, List.length_map, List.length_range, Nat.zero_add, Nat.mul_comm]
  rfl
theorem polyL_nat {x : Nat} (hx : x ≤ 13) : ∀ (l : List Nat) (j acc : Nat), j + l.length ≤ 10 → acc + dotL x l j ≤ 4000000000000000000 → polyL (x : Int) (ints l) j (acc : Int) = ((acc + dotL x l j : Nat) : Int)
 | [], j, acc, _, _ => rfl
 | n :: l, j, acc, h, hb => by
  rw [List.length_cons] at h
  unfold dotL at hb ⊢
  show polyL (x : Int) (ints l) (j + 1) (wrap64 ((acc : Int) + wrap64 ((n : Int) * ch (x : Int) (j + 1)))) = _
  rw [ch_bin hx (by omega), show (n : Int) * ((bin x (j + 1) : Nat) : Int) = ((n * bin x (j + 1) : Nat) : Int) by rw [Int.natCast_mul], wid (n := ((n * bin x (j + 1) : Nat) : Int)) (by omega) (by omega),
   show (acc : Int) + ((n * bin x (j + 1) : Nat) : Int) = ((acc + n * bin x (j + 1) : Nat) : Int) by omega, wid (by omega) (by omega), polyL_nat hx l (j + 1) _ (by omega) (by omega)]
  congr 1; omega
theorem stepsN_len (p : List Int) : (stepsN p).length = p.length := by simp [stepsN]
theorem poly_strict {p : List Int} (hp : PO p) {x : Nat} (hx : x ≤ 13) : polyL (x : Int) (ints (stepsN p)) 0 0 = ((wvN (stB p true) (idealsN p) x (allN p) : Nat) : Int) := by
 have hn := hp.small
 have e : dotL x (stepsN p) 0 = wvN (stB p true) (idealsN p) x (allN p) := by rw [strict_all hp x]; exact dotL_upto x _ _
 have hb := wvN_small hn (B := stB p true) (k := x) (t := allN p) (fun s t h => stB_sub h) (by omega)
 have := polyL_nat hx (stepsN p) 0 0 (by rw [stepsN_len]; omega) (by rw [e]; omega)
 rw [e, Nat.zero_add] at this
 exact this
end Go.Proofs.Ytmbojobkiainlaa.Q
end
