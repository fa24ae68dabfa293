/- Part 3 of the texts below the row of FnBoxesOfLabels: printed functions with their contracts, and plain lemmas. No condition. -/
import Derived.Test.YtmbojobkiainlaaZFnBoxesOfLabels2
section
namespace Go.Proofs.Ytmbojobkiainlaa.F
open Go.RowKit Go.Proofs.YtmbojobkiainlaaW.PrintWords Go.Proofs.YtmbojobkiainlaaW.PrintLast Go.Proofs.YtmbojobkiainlaaW.PrintMore
attribute [local go_sem] max2_int min2_int max_two min_two max_three min_three max_four min_four
set_option linter.unusedVariables false
set_option linter.unusedSimpArgs false
mutual
def spec_poFrom.l0 : Nat → Int → List (List Int) → Int → List Int → Option (List Int)
 | 0, _, _, _, _ => none
 | k + 1, x0, x1, x6, x131000 => if x6 < x0 then (spec_poFrom.l1 k x0 x1 x6 x1 (x1.length : Int) 0 x131000) else (some x131000)
def spec_poFrom.l1 : Nat → Int → List (List Int) → Int → List (List Int) → Int → Int → List Int → Option (List Int)
 | 0, _, _, _, _, _, _, _ => none
 | k + 1, x0, x1, x6, x17, x18, x19, x131000 => if x19 < x18 then (if 0 ≤ x19 then (if x19 < (x17.length : Int) then (if 1 < ((rd_L1 x17 x19).length : Int) then (if (rd (rd_L1 x17 x19) 1) = x6 then (if 0 ≤ x6 then (if x6 < (x131000.length : Int) then (if 0 < ((rd_L1 x17 x19).length : Int) then (if 0 ≤ (rd (rd_L1 x17 x19) 0) then (if (rd (rd_L1 x17 x19) 0) < (x131000.length : Int) then (spec_poFrom.l1 k x0 x1 x6 x17 x18 (wrap64 (x19 + 1)) (x131000.set (x6 : Int).toNat (Go.bits .or .i64 (rd x131000 x6) (Go.bits .or .i64 (shl .i64 1 (rd (rd_L1 x17 x19) 0)) (rd x131000 (rd (rd_L1 x17 x19) 0)))))) else (none)) else (none)) else (none)) else (none)) else (none)) else (spec_poFrom.l1 k x0 x1 x6 x17 x18 (wrap64 (x19 + 1)) x131000)) else (none)) else (none)) else (none)) else (spec_poFrom.l0 k x0 x1 (wrap64 (x6 + 1)) x131000)
end
def spec_poFrom.f (k : Nat) (a0 : Int) (l1 : List (List Int)) : Option (List Int) := if 0 ≤ a0 then (if (a0 : Int).toNat ≤ 35184372088832 then (spec_poFrom.l0 k a0 l1 0 (List.replicate (a0 : Int).toNat 0)) else (none)) else (none)
theorem spec_poFrom.mono_l : ∀ k, (∀ y0 y1 y2 y3, LeO (spec_poFrom.l0 k y0 y1 y2 y3) (spec_poFrom.l0 (k + 1) y0 y1 y2 y3)) ∧ (∀ y0 y1 y2 y3 y4 y5 y6, LeO (spec_poFrom.l1 k y0 y1 y2 y3 y4 y5 y6) (spec_poFrom.l1 (k + 1) y0 y1 y2 y3 y4 y5 y6))
 | 0 => ⟨fun _ _ _ _ r h => by simp [spec_poFrom.l0] at h, fun _ _ _ _ _ _ _ r h => by simp [spec_poFrom.l1] at h⟩
 | k + 1 => by
  obtain ⟨ih0, ih1⟩ := spec_poFrom.mono_l k
  refine ⟨?_, ?_⟩
  ·intro y0 y1 y2 y3
   unfold spec_poFrom.l0
   repeat' first
   | (with_reducible exact LeO.refl _)
   | (with_reducible exact LeO.none _)
   | (with_reducible refine LeO.ite ?_ ?_)
   | (with_reducible refine LeO.bind ?_ (fun _ => ?_))
   | exact ih0 _ _ _ _
   | exact ih1 _ _ _ _ _ _ _
   | exact LeO.none _
   | refine LeO.ite ?_ ?_
   | refine LeO.bind ?_ (fun _ => ?_)
  ·intro y0 y1 y2 y3 y4 y5 y6
   unfold spec_poFrom.l1
   repeat' first
   | (with_reducible exact LeO.refl _)
   | (with_reducible exact LeO.none _)
   | (with_reducible refine LeO.ite ?_ ?_)
   | (with_reducible refine LeO.bind ?_ (fun _ => ?_))
   | exact ih0 _ _ _ _
   | exact ih1 _ _ _ _ _ _ _
   | exact LeO.none _
   | refine LeO.ite ?_ ?_
   | refine LeO.bind ?_ (fun _ => ?_)
theorem spec_poFrom.mono : ∀ a0 a1 k, LeO (spec_poFrom.f k a0 a1) (spec_poFrom.f (k + 1) a0 a1) := by
 intro a0 a1 k
 obtain ⟨ih0, ih1⟩ := spec_poFrom.mono_l k
 unfold spec_poFrom.f
 repeat' first
  | (with_reducible exact LeO.refl _)
  | (with_reducible exact LeO.none _)
  | (with_reducible refine LeO.ite ?_ ?_)
  | (with_reducible refine LeO.bind ?_ (fun _ => ?_))
  | exact ih0 _ _ _ _
  | exact ih1 _ _ _ _ _ _ _
  | exact LeO.none _
  | refine LeO.ite ?_ ?_
  | refine LeO.bind ?_ (fun _ => ?_)
def spec_poFrom.T9 : Bool × List (List Nat × List Nat) := (true, [([], []), ([0], [0]), ([], []), ([1, 2], [1, 2]), ([3], [3]), ([], []), ([5], [5]), ([6], [6]), ([7], [7]), ([], []), ([9], [9]), ([], []), ([11], [11]), ([12], [12]), ([10, 13], [10, 13]), ([14], [14]), ([8, 15], [8, 15]), ([4, 16], [4, 16]), ([1, 2, 0, 1, 2, 3, 4, 5, 6, 7, 8, 9, 10, 11, 12, 13, 14, 15, 16, 17], [1, 2]), ([18, 17, 0, 1, 2, 3, 4, 5, 6, 7, 8, 9, 10, 11, 12, 13, 14, 15, 16, 17], [17, 18])])
def spec_poFrom.B9 : List Nat := [0, 1, 0, 7, 15, 0, 32, 96, 224, 0, 512, 0, 2048, 6144, 15872, 32256, 65504, 131071, 262143, 524287]
theorem spec_poFrom.tab9 : rtab .any (opsOf Try.f154 9) = spec_poFrom.T9 := by kernel_rfl
theorem spec_poFrom.bits9 : waitsOk spec_poFrom.T9.2 spec_poFrom.B9 = true := by kernel_rfl
set_option maxHeartbeats 8000000 in
set_option maxRecDepth 100000 in
theorem spec_poFrom.calls (k : Nat) (a0 : Int) (A1 : Option Addr) (c1 : Nat) (l1 : List (List Int)) (r : List Int) (w : World) (hr1 : Kd.C (Kd.slice 3 (Kd.int .i64)) w A1 l1.length l1) (hc1 : l1.length ≤ c1) (h : spec_poFrom.f k a0 l1 = some r) :
 Calls Try.prog 154 #[.int .i64 a0, .slice A1 l1.length c1] w fun e w' => ∃ v0_ : Value, e = .returned (.agg #[v0_]) ∧ Kd.R (Kd.int .i64) 3 w' w.heap.size (fun _ => True) v0_ r ∧ Below w.heap.size w w' := by
 have hu26 := Try.underlying26
 have HR1 := am hr1
 have HC1 := am hc1
 clear hr1 hc1
 have HB := am (Below.refl w.heap.size w)
 have H := h
 unfold spec_poFrom.f at H
 clear h
 by_cases c3 : 0 ≤ a0
 ·rw [if_pos c3] at H
  have c3b0 := eq_true c3
  have c3b1 := decide_eq_true c3
  clear c3
  by_cases c4 : (a0 : Int).toNat ≤ 35184372088832
  rotate_left
  ·rw [if_neg c4] at H
   exact absurd H (by simp)
  rw [if_pos c4] at H
  have c4b0 := eq_true c4
  have c4b1 := decide_eq_true c4
  clear c4
  obtain ⟨y127, hy127⟩ : ∃ y_ : List Int, y_ = (List.replicate (a0 : Int).toNat 0) := ⟨_, rfl⟩
  first | rw [← hy127] at H | (have H2_ := (Option.bind_some _ _).symm.trans H; clear H; have H := H2_; clear H2_; rw [← hy127] at H)
  have Ny127 := am hy127
  clear hy127
  have H' := am H
  clear H
  go_enter Try.func154, Try.ntmps154
  go_wp2_with (first | ((with_reducible refine gate_dst (N := 4) rfl ?_); refine qx (N := 4) (cs := #[.slice none 0 0]) (t := 26) ?_; intro gb126 hg w5 hbox hb; have n0_ := am (below_step qB hb); have BK126 := am (hbox); have GW126 := am (qg w hg); have GE126 := am (qg w hg); clear HB; have HB := n0_; clear n0_; clear hb hbox hg) | ((with_reducible refine gate_dst (N := 10) rfl ?_); refine Kd.R_make (Kd.int .i64) _ 3 rfl (N := 10) rfl 24 _ _ rfl a0 rfl rfl Try.underlying24 (.int .i64 0) 8 info3 rfl (by decide) (by omega) 0 (ok := fun _ => True) (okp := fun _ => True) rfl (fun _ hk => hk) trivial (qd) (Nat.le_trans (Nat.mul_le_mul_right _ (qd : a0.toNat ≤ 35184372088832)) (by omega)) (Below.refl _ _) (Nat.le_refl _) ?_; intro v128 w6 ho7 hb hg_ hnew_; clear hg_ hnew_; (first | rw [← Ny127.out] at ho7 | (simp only [Int.reduceToNat] at ho7; rw [← Ny127.out] at ho7)); have HO129 := am (Kd.R_lower ho7 (below_size qB)); replace BK126 := am (blk_below (g := gb126) (o := .cells #[.slice none 0 0] 26 (0, 0)) (qb BK126.out) hb); replace HB := am (below_step qB hb); clear hb ho7; obtain ⟨Ao8, co8, eo8⟩ := Kd.R_slice HO129.out; subst eo8) | ((with_reducible refine gate_dst (N := 5) rfl ?_); refine qx (N := 5) (cs := #[.slice none 0 0]) (t := 26) ?_; intro gb130 hg w9 hbox hb; replace HO129 := am (Kd.R_below (qR HO129.out) hb); have n1_ := am (blk_below (g := gb126) (o := .cells #[.slice none 0 0] 26 (0, 0)) (qb BK126.out) hb); have n2_ := am (below_step qB hb); have BK130 := am (hbox); have GW130 := am (qg w hg); have GE130 := am (qg w hg); have NB126_130 := am ((by rw [hg]; exact Nat.ne_of_lt (blk_lt (g := gb126) (o := .cells #[.slice none 0 0] 26 (0, 0)) (qb BK126.out)) : gb126 ≠ gb130)); have NB130_126 := am ((by rw [hg]; exact Nat.ne_of_gt (blk_lt (g := gb126) (o := .cells #[.slice none 0 0] 26 (0, 0)) (qb BK126.out)) : gb130 ≠ gb126)); clear BK126 HB; have BK126 := n1_; have HB := n2_; clear n1_ n2_; clear hb hbox hg; have hnb10 := NB130_126.out; have hnc10 := NB126_130.out; have hcz11_0 := qz w9 BK130.out; have hfz11_0 := blk_frozen BK130.out 0))
  go_loopg [6] k (fun kq v6 w' => ∃ (x6_1 : Int) (x131000_1 : List Int) (u131000 : Value), v6 = .int .i64 x6_1 ∧ Aside0 (spec_poFrom.l0 kq a0 l1 x6_1 x131000_1 = some r) ∧ Aside0 (kq ≤ k) ∧ Aside0 (Kd.R (Kd.int .i64) 3 w' w.heap.size (fun _ => True) u131000 x131000_1) ∧ Aside0 (w'.heap[gb126]? = some (.cells #[(.slice none 0 0)] 26 (0, 0))) ∧ Aside0 (w'.heap[gb130]? = some (.cells #[u131000] 26 (0, 0))) ∧ Aside0 (Below w.heap.size w w'))
  case atStart => exact ⟨(0), (y127), (.slice Ao8 y127.length co8), qe, H', ⟨Nat.le_refl _⟩, ⟨qR (Kd.R_mono (Kd.R_far (p := ⟨gb130, 0, none⟩) (Kd.R_types HO129.out BK130.out (by decide)) (fun _ hk => hk.2) (.slice Ao8 y127.length co8)) (fun _ hk => trivial))⟩, ⟨by (with_reducible repeat (first | refine blk_drewN ?_ _ | refine blk_drew ?_ | refine blk_alloc ?_ _)); refine blk_far ?_ NB126_130.out _; refine qb ?_; exact BK126.out⟩, ⟨by (with_reducible repeat (first | refine blk_drewN ?_ _ | refine blk_drew ?_ | refine blk_alloc ?_ _)); refine blk_put (cs := #[.slice none 0 0]) ?_ 0 _ rfl; refine qb ?_; exact BK130.out⟩, ⟨qB⟩⟩
  case round =>
   clear H'
   try clear c1
   try clear p2
   try clear c3
   try clear c3b0
   try clear c3b1
   try clear c4
   try clear c4b0
   try clear c4b1
   try clear c10
   try clear hcz11_0
   try clear hfz11_0
   obtain ⟨x6_1, x131000_1, u131000, rfl, HA, HK1, HO_131000, BK126, BK130, HB⟩ := hrel
   cases gk with
   | zero => exact absurd HA.out (by simp [spec_poFrom.l0])
   | succ k1 =>
    have H := HA.out
    clear HA
    simp only [spec_poFrom.l0] at H
    by_cases c12 : x6_1 < a0
    ·rw [if_pos c12] at H
     have c12b0 := decide_eq_true c12
     clear c12
     have H' := am H
     clear H
     go_wp2
     go_loopg [19] k1 (fun kq v19 w' => ∃ (x19_2 : Int) (x131000_2 : List Int) (u131000 : Value), v19 = .int .i64 x19_2 ∧ Aside0 (spec_poFrom.l1 kq a0 l1 x6_1 l1 (l1.length : Int) x19_2 x131000_2 = some r) ∧ Aside0 (kq ≤ k1) ∧ Aside0 (Kd.R (Kd.int .i64) 3 w' w.heap.size (fun _ => True) u131000 x131000_2) ∧ Aside0 (w'.heap[gb126]? = some (.cells #[(.slice none 0 0)] 26 (0, 0))) ∧ Aside0 (w'.heap[gb130]? = some (.cells #[u131000] 26 (0, 0))) ∧ Aside0 (Below w.heap.size w w'))
     case atStart => exact ⟨(0), (x131000_1), (u131000), qe, H', ⟨Nat.le_refl _⟩, ⟨qR HO_131000.out⟩, ⟨qb BK126.out⟩, ⟨qb BK130.out⟩, ⟨qB⟩⟩
     case round =>
      clear H'
      try clear c1
      try clear p2
      try clear c3
      try clear c3b0
      try clear c3b1
      try clear c4
      try clear c4b0
      try clear c4b1
      try clear c10
      try clear c12
      try clear c12b0
      try clear hcz11_0
      try clear hfz11_0
      try clear p2
      obtain ⟨x19_2, x131000_2, u131000, rfl, HA, HK2, HO_131000, BK126, BK130, HB⟩ := hrel
      cases gk with
      | zero => exact absurd HA.out (by simp [spec_poFrom.l1])
      | succ k2 =>
       have H := HA.out
       clear HA
       simp only [spec_poFrom.l1] at H
       by_cases c13 : x19_2 < (l1.length : Int)
       ·rw [if_pos c13] at H
        have c13b0 := decide_eq_true c13
        clear c13
        by_cases c14 : 0 ≤ x19_2
        rotate_left
        ·rw [if_neg c14] at H
         exact absurd H (by simp)
        rw [if_pos c14] at H
        have c14b0 := decide_eq_true c14
        clear c14
        by_cases c15 : x19_2 < (l1.length : Int)
        rotate_left
        ·rw [if_neg c15] at H
         exact absurd H (by simp)
        rw [if_pos c15] at H
        have c15b0 := decide_eq_true c15
        clear c15
        by_cases c16 : 1 < ((rd_L1 l1 x19_2).length : Int)
        rotate_left
        ·rw [if_neg c16] at H
         exact absurd H (by simp)
        rw [if_pos c16] at H
        have c16b0 := decide_eq_true c16
        have c16b1 : decide (1 < (rd_L1 l1 x19_2).length) = true := decide_eq_true (by omega)
        clear c16
        by_cases c17 : (rd (rd_L1 l1 x19_2) 1) = x6_1
        ·rw [if_pos c17] at H
         have c17b0 : ((rd (rd_L1 l1 x19_2) 1) == x6_1) = true := beq_iff_eq.mpr c17
         have c17b1 : ((rd (rd_L1 l1 x19_2) 1) != x6_1) = false := bne_eq_false_iff_eq.mpr c17
         clear c17
         by_cases c18 : 0 ≤ x6_1
         rotate_left
         ·rw [if_neg c18] at H
          exact absurd H (by simp)
         rw [if_pos c18] at H
         have c18b0 := decide_eq_true c18
         clear c18
         by_cases c19 : x6_1 < (x131000_2.length : Int)
         rotate_left
         ·rw [if_neg c19] at H
          exact absurd H (by simp)
         rw [if_pos c19] at H
         have c19b0 := decide_eq_true c19
         clear c19
         by_cases c20 : 0 < ((rd_L1 l1 x19_2).length : Int)
         rotate_left
         ·rw [if_neg c20] at H
          exact absurd H (by simp)
         rw [if_pos c20] at H
         have c20b0 := decide_eq_true c20
         have c20b1 : decide (0 < (rd_L1 l1 x19_2).length) = true := decide_eq_true (by omega)
         clear c20
         by_cases c21 : 0 ≤ (rd (rd_L1 l1 x19_2) 0)
         rotate_left
         ·rw [if_neg c21] at H
          exact absurd H (by simp)
         rw [if_pos c21] at H
         have c21b0 := eq_true c21
         have c21b1 := decide_eq_true c21
         clear c21
         obtain ⟨ji22, hji22⟩ : ∃ j_ : Int, (shl .i64 1 (rd (rd_L1 l1 x19_2) 0)) = j_ := ⟨_, rfl⟩
         first | rw [hji22] at H | simp only [hji22] at H
         have hji22_ : (IntKind.i64.wrap (1 * 2 ^ min (rd (rd_L1 l1 x19_2) 0).toNat 64)) = ji22 := hji22
         have hji22z : (rd (rd_L1 l1 x19_2) 0) ≤ 64 → (IntKind.i64.wrap (1 * 2 ^ (rd (rd_L1 l1 x19_2) 0).toNat)) = ji22 := shl_small hji22
         have hji22u : (IntKind.i64.wrap (2 ^ min (rd (rd_L1 l1 x19_2) 0).toNat 64)) = ji22 := by have h_ := hji22_; rw [Int.one_mul] at h_; exact h_
         have hji22v : (rd (rd_L1 l1 x19_2) 0) ≤ 64 → (IntKind.i64.wrap (2 ^ (rd (rd_L1 l1 x19_2) 0).toNat)) = ji22 := fun hle_ => by have h_ := hji22z hle_; rw [Int.one_mul] at h_; exact h_
         have hji22y : (wrap64 (1 * 2 ^ min (rd (rd_L1 l1 x19_2) 0).toNat 64)) = ji22 := (i64_w _).symm.trans hji22_
         have hji22x : (rd (rd_L1 l1 x19_2) 0) ≤ 64 → (wrap64 (1 * 2 ^ (rd (rd_L1 l1 x19_2) 0).toNat)) = ji22 := fun h_ => (i64_w _).symm.trans (hji22z h_)
         by_cases c23 : (rd (rd_L1 l1 x19_2) 0) < (x131000_2.length : Int)
         rotate_left
         ·rw [if_neg c23] at H
          exact absurd H (by simp)
         rw [if_pos c23] at H
         have c23b0 := decide_eq_true c23
         clear c23
         obtain ⟨y137, hy137⟩ : ∃ y_ : List Int, y_ = (x131000_2.set (x6_1 : Int).toNat (Go.bits .or .i64 (rd x131000_2 x6_1) (Go.bits .or .i64 (ji22) (rd x131000_2 (rd (rd_L1 l1 x19_2) 0))))) := ⟨_, rfl⟩
         first | rw [← hy137] at H | (have H2_ := (Option.bind_some _ _).symm.trans H; clear H; have H := H2_; clear H2_; rw [← hy137] at H)
         have Ny137 := am hy137
         clear hy137
         have H' := am H
         clear H
         have p131 : 0 ≤ (x19_2 : Int) := qd
         have q131 : x19_2 < (l1.length : Int) := qd
         obtain ⟨ad131, A131_0, c131_0, e131, hx131_0, hl131_0, hi131_0⟩ := at_L1 HR1.out x19_2 p131 q131
         cases e131
         replace hx131_0 := (HB.out.cell (World.block_lt_of_cell? w _ hx131_0)).trans hx131_0
         have HR131_0 := am hi131_0
         have HC131_0 := am hl131_0
         clear hi131_0 hl131_0
         replace p131 := eq_true p131
         replace q131 := eq_true q131
         have p132 : 0 ≤ (1 : Int) := (by omega)
         have q132 : 1 < ((rd_L1 l1 x19_2).length : Int) := qd
         obtain ⟨ad132, e132, hx132_0⟩ := Kd.at_int HR131_0.out 1 p132 q132
         cases e132
         (try simp only [show (1 : Int).toNat = 1 from rfl, Nat.reduceMul, Nat.reduceEqDiff, Go.Addr.add, ↓reduceIte] at hx132_0)
         have qi132 : (1 < (rd_L1 l1 x19_2).length) = True := eq_true (by omega)
         (try rw [show ((1 : Int)).toNat = 1 from rfl] at hx132_0)
         replace hx132_0 := (HB.out.cell (World.block_lt_of_cell? w _ hx132_0)).trans hx132_0
         replace p132 := eq_true p132
         replace q132 := eq_true q132
         try go_wp2
         have n0_ := am (Kd.R_drew HO_131000.out)
         have n1_ := am (blk_drew BK126.out)
         have n2_ := am (blk_drew BK130.out)
         have n3_ := am (below_drew1 HB.out)
         clear HO_131000
         clear BK126
         clear BK130
         clear HB
         have HO_131000 := n0_
         have BK126 := n1_
         have BK130 := n2_
         have HB := n3_
         clear n0_ n1_ n2_ n3_
         obtain ⟨Ao26, co26, eo26⟩ := Kd.R_slice HO_131000.out
         (first | subst eo26 | (injection eo26 with f1_ f2_ f3_; have f4_ := f1_.symm; have f5_ := f3_.symm; clear f1_ f2_ f3_; subst f4_; subst f5_))
         have p133 : 0 ≤ (x6_1 : Int) := qd
         have q133 : x6_1 < (x131000_2.length : Int) := qd
         obtain ⟨ad133, e133, hx133_0⟩ := Kd.at_int (Kd.R_reads' HO_131000.out).2.2 x6_1 p133 q133
         cases e133
         replace p133 := eq_true p133
         replace q133 := eq_true q133
         have p134 : 0 ≤ (0 : Int) := (by omega)
         have q134 : 0 < ((rd_L1 l1 x19_2).length : Int) := qd
         obtain ⟨ad134, e134, hx134_0⟩ := Kd.at_int HR131_0.out 0 p134 q134
         have hw134_0 := hx134_0
         (try rw [show ((0 : Int)).toNat = 0 from rfl] at hw134_0)
         (try rw [show 0 * 1 = 0 from rfl] at hw134_0)
         (try rw [Addr.add_zero'] at hw134_0)
         obtain rfl : ad132 = ad134 := (by injection e134)
         have qi134 : (0 < (rd_L1 l1 x19_2).length) = True := eq_true (by omega)
         (try rw [show ((0 : Int)).toNat = 0 from rfl] at hx134_0)
         (try rw [Addr.add_zero'] at hx134_0)
         replace hx134_0 := (HB.out.cell (World.block_lt_of_cell? w _ hx134_0)).trans hx134_0
         replace p134 := eq_true p134
         replace q134 := eq_true q134
         have p135 : 0 ≤ (0 : Int) := (by omega)
         have q135 : 0 < ((rd_L1 l1 x19_2).length : Int) := qd
         obtain ⟨ad135, e135, hx135_0⟩ := Kd.at_int HR131_0.out 0 p135 q135
         have hw135_0 := hx135_0
         (try rw [show ((0 : Int)).toNat = 0 from rfl] at hw135_0)
         (try rw [show 0 * 1 = 0 from rfl] at hw135_0)
         (try rw [Addr.add_zero'] at hw135_0)
         obtain rfl : ad132 = ad135 := (by injection e135)
         have qi135 : (0 < (rd_L1 l1 x19_2).length) = True := eq_true (by omega)
         (try rw [show ((0 : Int)).toNat = 0 from rfl] at hx135_0)
         (try rw [Addr.add_zero'] at hx135_0)
         replace hx135_0 := (HB.out.cell (World.block_lt_of_cell? w _ hx135_0)).trans hx135_0
         replace p135 := eq_true p135
         replace q135 := eq_true q135
         have p136 : 0 ≤ ((rd (rd_L1 l1 x19_2) 0) : Int) := qd
         have q136 : (rd (rd_L1 l1 x19_2) 0) < (x131000_2.length : Int) := qd
         obtain ⟨ad136, e136, hx136_0⟩ := Kd.at_int (Kd.R_reads' HO_131000.out).2.2 (rd (rd_L1 l1 x19_2) 0) p136 q136
         obtain rfl : ad133 = ad136 := (by injection e136)
         replace p136 := eq_true p136
         replace q136 := eq_true q136
         have p24 : 0 ≤ (x6_1 : Int) := qd
         have q24 : (x6_1 : Int) < ((x131000_2.length : Int) : Int) := qd
         obtain ⟨go24, co24, eo24, gb24, gl24, cl24, HG24⟩ := Kd.R_form HO_131000.out (by omega)
         (first | cases eo24 | (injection eo24 with ea_ en_ ec_; (first | subst ea_ | (injection ea_ with ea_; subst ea_)); subst ec_; clear en_))
         have GB24 := am gb24
         have GG24 := am HG24
         clear gb24 gl24 HG24
         (first | simp only [add_plain] at hx133_0 | skip)
         (first | simp only [add_plain] at hx136_0 | skip)
         obtain ⟨hx24_0, hf24_0⟩ := Kd.R_celln 0 HO_131000.out (x6_1 : Int) p24 q24
         replace p24 := eq_true p24
         replace q24 := eq_true q24
         have HP27 := Kd.R_putn HO_131000.out (x6_1 : Int) (Go.bits .or .i64 (rd x131000_2 x6_1) (Go.bits .or .i64 (ji22) (rd x131000_2 (rd (rd_L1 l1 x19_2) 0))))
         rw [← Ny137.out] at HP27
         have HQ27 := am HP27
         clear HP27
         refine start_ (n := 20) (S := fun w' => w'.cell? ⟨gb130, 0, none⟩ = some (.slice (some ⟨go24, 0, none⟩) x131000_2.length co26) ∧ w'.cell? ⟨go24, (x6_1).toNat, none⟩ = some (.int .i64 (rd x131000_2 x6_1)) ∧ w'.cell? ad132 = some (.int .i64 (rd (rd_L1 l1 x19_2) 0)) ∧ w'.cell? ad132 = some (.int .i64 (rd (rd_L1 l1 x19_2) 0)) ∧ w'.cell? _ = some _) (ds := [19]) #[false, false, false, false, false, false, false, false, false, false, false, false, false, false, false, false, false, false, false, false] (by kernel_rfl) rfl rfl ⟨(blk_cell BK130.out 0).trans rfl, hx133_0, ((HB.out.cell (World.block_lt_of_cell? w _ hw134_0)).trans hw134_0), ((HB.out.cell (World.block_lt_of_cell? w _ hw135_0)).trans hw135_0), hx136_0⟩ (fun hHeld => ?_); refine with_tabW spec_poFrom.tab9 spec_poFrom.bits9 (fun HT_ HW_ => ?_)
         generalize wr.drew = w25 at HO_131000 BK126 BK130 HB GG24 HQ27 hf24_0 hx133_0 hx134_0 hx135_0 hx136_0 hx24_0 hHeld ⊢
         refine pure_ (i := 0) (N := some 28) (v := ?_) (a' := ?_) #[true, false, false, false, false, false, false, false, false, false, false, false, false, false, false, false, false, false, false, false] rfl rfl (any_of HT_.out (by kernel_rfl)) (fun _ _ _ h => h) (Or.inl ⟨by rfl, ?_⟩) ?_ ?_
         rotate_left
         ·intro w'
          go_simp
          with_reducible rfl
         rotate_left
         ·exact qP
         refine pure_ (i := 2) (N := some 30) (v := ?_) (a' := ?_) #[true, false, true, false, false, false, false, false, false, false, false, false, false, false, false, false, false, false, false, false] rfl rfl (any_of HT_.out (by kernel_rfl)) (fun _ _ _ h => h) (Or.inl ⟨by rfl, ?_⟩) ?_ ?_
         rotate_left
         ·intro w'
          go_simp
          with_reducible rfl
         rotate_left
         ·exact qP
         refine pure_ (i := 5) (N := some 33) (v := ?_) (a' := ?_) #[true, false, true, false, false, true, false, false, false, false, false, false, false, false, false, false, false, false, false, false] rfl rfl (any_of HT_.out (by kernel_rfl)) (fun _ _ _ h => h) (Or.inl ⟨by rfl, ?_⟩) ?_ ?_
         rotate_left
         ·intro w'
          go_simp
          with_reducible rfl
         rotate_left
         ·exact qP
         refine pure_ (i := 6) (N := some 34) (v := ?_) (a' := ?_) #[true, false, true, false, false, true, true, false, false, false, false, false, false, false, false, false, false, false, false, false] rfl rfl (any_of HT_.out (by kernel_rfl)) (fun _ _ _ h => h) (Or.inl ⟨by rfl, ?_⟩) ?_ ?_
         rotate_left
         ·intro w'
          go_simp
          with_reducible rfl
         rotate_left
         ·exact qP
         refine pure_ (i := 9) (N := some 37) (v := ?_) (a' := ?_) #[true, false, true, false, false, true, true, false, false, true, false, false, false, false, false, false, false, false, false, false] rfl rfl (any_of HT_.out (by kernel_rfl)) (fun _ _ _ h => h) (Or.inl ⟨by rfl, ?_⟩) ?_ ?_
         rotate_left
         ·intro w'
          go_simp
          with_reducible rfl
         rotate_left
         ·exact qP
         refine pure_ (i := 11) (N := some 39) (v := ?_) (a' := ?_) #[true, false, true, false, false, true, true, false, false, true, false, true, false, false, false, false, false, false, false, false] rfl rfl (any_of HT_.out (by kernel_rfl)) (fun _ _ _ h => h) (Or.inl ⟨by rfl, ?_⟩) ?_ ?_
         rotate_left
         ·intro w'
          go_simp
          with_reducible rfl
         rotate_left
         ·exact qP
         refine pure_ (i := 12) (N := some 40) (v := ?_) (a' := ?_) #[true, false, true, false, false, true, true, false, false, true, false, true, true, false, false, false, false, false, false, false] rfl rfl (any_of HT_.out (by kernel_rfl)) (fun _ _ _ h => h) (Or.inl ⟨by rfl, ?_⟩) ?_ ?_
         rotate_left
         ·intro w'
          go_simp
          with_reducible rfl
         rotate_left
         ·exact qP
         refine take_ (i := 1) (N := some 29) (v := ?_) (a' := ?_) #[true, true, true, false, false, true, true, false, false, true, false, true, true, false, false, false, false, false, false, false] rfl rfl (take_ofW HT_.out HW_.out (by kernel_rfl)) (fun _ _ _ h => h) (Or.inl ⟨by rfl, ?_⟩) hHeld ?_ ?_
         rotate_left
         ·rintro w' ⟨s0, s1, s2, s3, s4⟩
          go_simp
          with_reducible rfl
         rotate_left
         ·exact qP
         refine pure_ (i := 3) (N := some 31) (v := ?_) (a' := ?_) #[true, true, true, true, false, true, true, false, false, true, false, true, true, false, false, false, false, false, false, false] rfl rfl (any_of HT_.out (by kernel_rfl)) (fun _ _ _ h => h) (Or.inl ⟨by rfl, ?_⟩) ?_ ?_
         rotate_left
         ·intro w'
          go_simp
          with_reducible rfl
         rotate_left
         ·exact qP
         refine take_ (i := 4) (N := some 32) (v := ?_) (a' := ?_) #[true, true, true, true, true, true, true, false, false, true, false, true, true, false, false, false, false, false, false, false] rfl rfl (take_ofW HT_.out HW_.out (by kernel_rfl)) (fun _ _ _ h => h) (Or.inl ⟨by rfl, ?_⟩) hHeld ?_ ?_
         rotate_left
         ·rintro w' ⟨s0, s1, s2, s3, s4⟩
          go_simp
          with_reducible rfl
         rotate_left
         ·exact qP
         refine take_ (i := 7) (N := some 35) (v := ?_) (a' := ?_) #[true, true, true, true, true, true, true, true, false, true, false, true, true, false, false, false, false, false, false, false] rfl rfl (take_ofW HT_.out HW_.out (by kernel_rfl)) (fun _ _ _ h => h) (Or.inl ⟨by rfl, ?_⟩) hHeld ?_ ?_
         rotate_left
         ·rintro w' ⟨s0, s1, s2, s3, s4⟩
          go_simp
          with_reducible rfl
         rotate_left
         ·exact qP
         refine pure_ (i := 8) (N := some 36) (v := ?_) (a' := ?_) #[true, true, true, true, true, true, true, true, true, true, false, true, true, false, false, false, false, false, false, false] rfl rfl (any_of HT_.out (by kernel_rfl)) (fun _ _ _ h => h) (Or.inl ⟨by rfl, ?_⟩) ?_ ?_
         rotate_left
         ·intro w'
          go_simp
          with_reducible rfl
         rotate_left
         ·exact qP
         refine take_ (i := 10) (N := some 38) (v := ?_) (a' := ?_) #[true, true, true, true, true, true, true, true, true, true, true, true, true, false, false, false, false, false, false, false] rfl rfl (take_ofW HT_.out HW_.out (by kernel_rfl)) (fun _ _ _ h => h) (Or.inl ⟨by rfl, ?_⟩) hHeld ?_ ?_
         rotate_left
         ·rintro w' ⟨s0, s1, s2, s3, s4⟩
          go_simp
          with_reducible rfl
         rotate_left
         ·exact qP
         refine take_ (i := 13) (N := some 41) (v := ?_) (a' := ?_) #[true, true, true, true, true, true, true, true, true, true, true, true, true, true, false, false, false, false, false, false] rfl rfl (take_ofW HT_.out HW_.out (by kernel_rfl)) (fun _ _ _ h => h) (Or.inl ⟨by rfl, ?_⟩) hHeld ?_ ?_
         rotate_left
         ·rintro w' ⟨s0, s1, s2, s3, s4⟩
          go_simp
          with_reducible rfl
         rotate_left
         ·exact qP
         refine pure_ (i := 14) (N := some 42) (v := ?_) (a' := ?_) #[true, true, true, true, true, true, true, true, true, true, true, true, true, true, true, false, false, false, false, false] rfl rfl (any_of HT_.out (by kernel_rfl)) (fun _ _ _ h => h) (Or.inl ⟨by rfl, ?_⟩) ?_ ?_
         rotate_left
         ·intro w'
          go_simp
          with_reducible rfl
         rotate_left
         ·exact qP
         refine take_ (i := 15) (N := some 43) (v := ?_) (a' := ?_) #[true, true, true, true, true, true, true, true, true, true, true, true, true, true, true, true, false, false, false, false] rfl rfl (take_ofW HT_.out HW_.out (by kernel_rfl)) (fun _ _ _ h => h) (Or.inl ⟨by rfl, ?_⟩) hHeld ?_ ?_
         rotate_left
         ·rintro w' ⟨s0, s1, s2, s3, s4⟩
          go_simp
          with_reducible rfl
         rotate_left
         ·exact qP
         refine pure_ (i := 16) (N := some 44) (v := ?_) (a' := ?_) #[true, true, true, true, true, true, true, true, true, true, true, true, true, true, true, true, true, false, false, false] rfl rfl (any_of HT_.out (by kernel_rfl)) (fun _ _ _ h => h) (Or.inl ⟨by rfl, ?_⟩) ?_ ?_
         rotate_left
         ·intro w'
          go_simp
          with_reducible rfl
         rotate_left
         ·exact qP
         refine pure_ (i := 17) (N := some 45) (v := ?_) (a' := ?_) #[true, true, true, true, true, true, true, true, true, true, true, true, true, true, true, true, true, true, false, false] rfl rfl (any_of HT_.out (by kernel_rfl)) (fun _ _ _ h => h) (Or.inl ⟨by rfl, ?_⟩) ?_ ?_
         rotate_left
         ·intro w'
          go_simp
          with_reducible rfl
         rotate_left
         ·exact qP
         refine pure_ (i := 18) (N := some 46) (v := ?_) (a' := ?_) #[true, true, true, true, true, true, true, true, true, true, true, true, true, true, true, true, true, true, true, false] rfl rfl (any_of HT_.out (by kernel_rfl)) (fun _ _ _ h => h) (Or.inl ⟨by rfl, ?_⟩) ?_ ?_
         rotate_left
         ·intro w'
          go_simp
          with_reducible rfl
         rotate_left
         ·exact qP
         refine last_ (i := 19) (N := none) #[true, true, true, true, true, true, true, true, true, true, true, true, true, true, true, true, true, true, true, true] rfl rfl (one_of HT_.out (by kernel_rfl)) (by decide) (fun K hK => ?_)
         refine skip_ (w1 := ?_) (by rfl) rfl ?_ ?_
         rotate_left
         ·go_simp
          rfl
         refine hK.out _ _ ?_
         clear hK K
         refine done_ (done_of HT_.out (by kernel_rfl)) ?_
         try go_wp2
         go_roundg k2
         case measure => have := HK1.out; have := HK2.out; omega
         case rel => exact ⟨(wrap64 (x19_2 + 1)), (y137), (.slice (some ⟨go24, 0, none⟩) x131000_2.length co26), qe, H', ⟨by have := HK1.out; have := HK2.out; omega⟩, ⟨qR HQ27.out⟩, ⟨by (with_reducible repeat (first | refine blk_drewN ?_ _ | refine blk_drew ?_ | refine blk_alloc ?_ _)); refine blk_far ?_ (by have h_ := Kd.R_ne HO_131000.out BK126.out (by decide); intro e_; exact h_ (by rw [e_]; rfl)) _; refine qb ?_; exact BK126.out⟩, ⟨by (with_reducible repeat (first | refine blk_drewN ?_ _ | refine blk_drew ?_ | refine blk_alloc ?_ _)); refine blk_far ?_ (by have h_ := Kd.R_ne HO_131000.out BK130.out (by decide); intro e_; exact h_ (by rw [e_]; rfl)) _; refine qb ?_; exact BK130.out⟩, ⟨qB⟩⟩
        ·rw [if_neg c17] at H
         have c17b0 : ((rd (rd_L1 l1 x19_2) 1) == x6_1) = false := beq_eq_false_iff_ne.mpr c17
         have c17b1 : ((rd (rd_L1 l1 x19_2) 1) != x6_1) = true := bne_iff_ne.mpr c17
         have H' := am H
         clear H
         have p131 : 0 ≤ (x19_2 : Int) := qd
         have q131 : x19_2 < (l1.length : Int) := qd
         obtain ⟨ad131, A131_0, c131_0, e131, hx131_0, hl131_0, hi131_0⟩ := at_L1 HR1.out x19_2 p131 q131
         cases e131
         replace hx131_0 := (HB.out.cell (World.block_lt_of_cell? w _ hx131_0)).trans hx131_0
         have HR131_0 := am hi131_0
         have HC131_0 := am hl131_0
         clear hi131_0 hl131_0
         replace p131 := eq_true p131
         replace q131 := eq_true q131
         have p132 : 0 ≤ (1 : Int) := (by omega)
         have q132 : 1 < ((rd_L1 l1 x19_2).length : Int) := qd
         obtain ⟨ad132, e132, hx132_0⟩ := Kd.at_int HR131_0.out 1 p132 q132
         cases e132
         (try simp only [show (1 : Int).toNat = 1 from rfl, Nat.reduceMul, Nat.reduceEqDiff, Go.Addr.add, ↓reduceIte] at hx132_0)
         have qi132 : (1 < (rd_L1 l1 x19_2).length) = True := eq_true (by omega)
         (try rw [show ((1 : Int)).toNat = 1 from rfl] at hx132_0)
         replace hx132_0 := (HB.out.cell (World.block_lt_of_cell? w _ hx132_0)).trans hx132_0
         replace p132 := eq_true p132
         replace q132 := eq_true q132
         go_wp2
         go_roundg k2
         case measure => have := HK1.out; have := HK2.out; omega
         case rel => exact ⟨(wrap64 (x19_2 + 1)), (x131000_2), (u131000), qe, H', ⟨by have := HK1.out; have := HK2.out; omega⟩, ⟨qR HO_131000.out⟩, ⟨qb BK126.out⟩, ⟨qb BK130.out⟩, ⟨qB⟩⟩
       ·rw [if_neg c13] at H
        have c13b0 := decide_eq_false c13
        clear c13
        have H' := am H
        clear H
        go_wp2
        go_roundg k2
        case measure => have := HK1.out; have := HK2.out; omega
        case rel => exact ⟨(wrap64 (x6_1 + 1)), (x131000_2), (u131000), qe, H', ⟨by have := HK1.out; have := HK2.out; omega⟩, ⟨qR HO_131000.out⟩, ⟨qb BK126.out⟩, ⟨qb BK130.out⟩, ⟨qB⟩⟩
    ·rw [if_neg c12] at H
     have c12b0 := decide_eq_false c12
     clear c12
     obtain rfl := Option.some.inj H
     have hnb28 := NB130_126.out
     have hnc28 := NB126_130.out
     have hcz29_0 := qz wr BK130.out
     have hfz29_0 := blk_frozen BK130.out 0
     obtain ⟨Ao30, co30, eo30⟩ := Kd.R_slice HO_131000.out
     subst eo30
     have hcz31_0 := qz wr BK126.out
     have hfz31_0 := blk_frozen BK126.out 0
     go_wp2
     refine bodyPost_ret (results_cell_row rfl _ _ gb126 26 #[.slice Ao30 x131000_1.length co30] (0, 0) _ rfl (by (with_reducible repeat (first | refine blk_drewN ?_ _ | refine blk_drew ?_ | refine blk_alloc ?_ _)); refine blk_put (cs := #[.slice none 0 0]) ?_ 0 _ rfl; refine qb ?_; exact BK126.out) Try.underlying26 rfl (by kernel_rfl)) rfl ?_
     exact ⟨_, qr, qR (Kd.R_mono (Kd.R_far (p := ⟨gb126, 0, none⟩) (Kd.R_types HO_131000.out BK126.out (by decide)) (fun _ hk => hk.2) (.slice Ao30 x131000_1.length co30)) (fun _ hk => trivial)), qB⟩
 ·rw [if_neg c3] at H
  exact absurd H (by simp)
def spec_Fence.l0 : Nat → Int → Int → List (List Int) → Int → Option (List Int × Bool)
 | 0, _, _, _, _ => none
 | k + 1, x0, x4, x5, x6 => if (wrap64 (x4 + x6)) < x0 then (if x5.length < 5864062014805 then ((some (x5 ++ [(([x6, wrap64 (x4 + x6)] : List Int))] : List (List Int))).bind fun y165 => (if (wrap64 (x6 + 1)) < x4 then (if y165.length < 5864062014805 then (spec_Fence.l0 k x0 x4 (y165 ++ [(([wrap64 (x6 + 1), wrap64 (x4 + x6)] : List Int))]) (wrap64 (x6 + 1))) else (none)) else (spec_Fence.l0 k x0 x4 y165 (wrap64 (x6 + 1))))) else (none)) else ((spec_poFrom.f k x0 x5).bind fun t174 => (some (t174, true)))
def spec_Fence.f (k : Nat) (a0 : Int) : Option (List Int × Bool) := (spec_l1In.f a0 1 10).bind fun t161 => (if t161 = true then (spec_Fence.l0 k a0 (wrap64 (Int.tdiv (wrap64 (a0 + 1)) 2)) ([] : List (List Int)) 0) else (some (([] : List Int), false)))
theorem spec_Fence.mono_l : ∀ k, (∀ y0 y1 y2 y3, LeO (spec_Fence.l0 k y0 y1 y2 y3) (spec_Fence.l0 (k + 1) y0 y1 y2 y3))
 | 0 => fun _ _ _ _ r h => by simp [spec_Fence.l0] at h
 | k + 1 => by
  have ih0 := spec_Fence.mono_l k
  ·intro y0 y1 y2 y3
   unfold spec_Fence.l0
   repeat' first
   | (with_reducible exact spec_poFrom.mono _ _ _)
   | (with_reducible exact LeO.refl _)
   | (with_reducible exact LeO.none _)
   | (with_reducible refine LeO.ite ?_ ?_)
   | (with_reducible refine LeO.bind ?_ (fun _ => ?_))
   | exact ih0 _ _ _ _
   | exact spec_poFrom.mono _ _ _
   | exact LeO.none _
   | refine LeO.ite ?_ ?_
   | refine LeO.bind ?_ (fun _ => ?_)
theorem spec_Fence.mono : ∀ a0 k, LeO (spec_Fence.f k a0) (spec_Fence.f (k + 1) a0) := by
 intro a0 k
 have ih0 := spec_Fence.mono_l k
 unfold spec_Fence.f
 repeat' first
  | (with_reducible exact spec_poFrom.mono _ _ _)
  | (with_reducible exact LeO.refl _)
  | (with_reducible exact LeO.none _)
  | (with_reducible refine LeO.ite ?_ ?_)
  | (with_reducible refine LeO.bind ?_ (fun _ => ?_))
  | exact ih0 _ _ _ _
  | exact spec_poFrom.mono _ _ _
  | exact LeO.none _
  | refine LeO.ite ?_ ?_
  | refine LeO.bind ?_ (fun _ => ?_)
set_option maxHeartbeats 8000000 in
set_option maxRecDepth 100000 in
theorem spec_Fence.calls (k : Nat) (a0 : Int) (r1 : List Int) (r2 : Bool) (w : World) (h : spec_Fence.f k a0 = some (r1, r2)) :
 Calls Try.prog 153 #[.int .i64 a0] w fun e w' => ∃ v0_ : Value, e = .returned (.tuple #[.agg #[v0_], .bool r2]) ∧ Kd.R (Kd.int .i64) 3 w' w.heap.size (fun _ => True) v0_ r1 ∧ Below w.heap.size w w' := by
 have hu26 := Try.underlying26
 have HB := am (Below.refl w.heap.size w)
 have H := h
 unfold spec_Fence.f at H
 clear h
 replace H := Option.bind_eq_some_iff.mp H
 obtain ⟨t161, A20, H⟩ := H
 (try dsimp only at H)
 have A2 := am A20
 clear A20
 by_cases c3 : t161 = true
 ·subst c3
  rw [if_pos rfl] at H
  have H' := am H
  clear H
  go_enter Try.func153, Try.ntmps153
  go_wp2_with (first | ((with_reducible refine gate_dst (N := 2) rfl ?_); refine qx (N := 2) (cs := #[.slice none 0 0]) (t := 26) ?_; intro gb160 hg w4 hbox hb; have n0_ := am (below_step qB hb); have BK160 := am (hbox); have GW160 := am (qg w hg); have GE160 := am (qg w hg); clear HB; have HB := n0_; clear n0_; clear hb hbox hg) | ((with_reducible refine gate_callee (f := 75) rfl ?_); refine gL (some 8) Try.func75 #[.int .i64 a0, .int .i64 1, .int .i64 10] ?_; (with_reducible refine (spec_l1In.calls a0 1 10 true _ A2.out).mono ?_); rintro e w' ⟨rfl, ⟨nd, rfl⟩⟩; refine ⟨_, rfl, ?_⟩))
  go_loopg [5, 6] k (fun kq v5 v6 w' => ∃ (x5_1 : List (List Int)) (x6_1 : Int), v6 = .int .i64 x6_1 ∧ Aside0 (spec_Fence.l0 kq a0 (wrap64 (Int.tdiv (wrap64 (a0 + 1)) 2)) x5_1 x6_1 = some (r1, r2)) ∧ Aside0 (kq ≤ k) ∧ Aside0 (Kd.S (Kd.slice 3 (Kd.int .i64)) 24 w' w.heap.size (fun _ => True) v5 x5_1) ∧ Aside0 (w'.heap[gb160]? = some (.cells #[(.slice none 0 0)] 26 (0, 0))) ∧ Aside0 (Below w.heap.size w w'))
  case atStart => exact ⟨(([] : List (List Int))), (0), qe, H', ⟨Nat.le_refl _⟩, ⟨by first | exact Kd.S_nil _ _ _ _ _ | exact Kd.N_nil _ _ _ _ _ | exact Kd.V_nil _ _ _ _ _ | exact Kd.Q_nil _ _ _ _ _ | exact Kd.R_nil _ _ _ _ _⟩, ⟨qb BK160.out⟩, ⟨qB⟩⟩
  case round =>
   clear H'
   try clear c1
   try clear p2
   try clear c3
   obtain ⟨x5_1, x6_1, rfl, HA, HK1, HO_5, BK160, HB⟩ := hrel
   cases gk with
   | zero => exact absurd HA.out (by simp [spec_Fence.l0])
   | succ k1 =>
    have H := HA.out
    clear HA
    simp only [spec_Fence.l0] at H
    by_cases c5 : (wrap64 ((wrap64 (Int.tdiv (wrap64 (a0 + 1)) 2)) + x6_1)) < a0
    ·rw [if_pos c5] at H
     have c5b0 := decide_eq_true c5
     clear c5
     obtain ⟨y162, hy162⟩ : ∃ y_ : List Int, y_ = (([x6_1, wrap64 ((wrap64 (Int.tdiv (wrap64 (a0 + 1)) 2)) + x6_1)] : List Int)) := ⟨_, rfl⟩
     replace H : (if x5_1.length < 5864062014805 then ((some (x5_1 ++ [y162] : List (List Int))).bind fun y165 => (if (wrap64 (x6_1 + 1)) < (wrap64 (Int.tdiv (wrap64 (a0 + 1)) 2)) then (if y165.length < 5864062014805 then (spec_Fence.l0 k1 a0 (wrap64 (Int.tdiv (wrap64 (a0 + 1)) 2)) (y165 ++ [(([wrap64 (x6_1 + 1), wrap64 ((wrap64 (Int.tdiv (wrap64 (a0 + 1)) 2)) + x6_1)] : List Int))]) (wrap64 (x6_1 + 1))) else (none)) else (spec_Fence.l0 k1 a0 (wrap64 (Int.tdiv (wrap64 (a0 + 1)) 2)) y165 (wrap64 (x6_1 + 1))))) else (none)) = some (r1, r2) := by first | (rw [hy162]; with_reducible exact H) | (have H2_ := (Option.bind_some _ _).symm.trans H; rw [hy162]; with_reducible exact H2_) | (have H2_ := (Option.bind_some _ _).symm.trans H; with_reducible exact H2_) | with_reducible exact H | (rw [hy162]; exact H) | exact H
     have Ny162 := am hy162
     clear hy162
     by_cases c6 : x5_1.length < 5864062014805
     rotate_left
     ·rw [if_neg c6] at H
      exact absurd H (by simp)
     rw [if_pos c6] at H
     have LMc6 := am c6
     clear c6
     obtain ⟨y165, hy165⟩ : ∃ y_ : List (List Int), y_ = (x5_1 ++ [y162]) := ⟨_, rfl⟩
     replace H : (if (wrap64 (x6_1 + 1)) < (wrap64 (Int.tdiv (wrap64 (a0 + 1)) 2)) then (if y165.length < 5864062014805 then (spec_Fence.l0 k1 a0 (wrap64 (Int.tdiv (wrap64 (a0 + 1)) 2)) (y165 ++ [(([wrap64 (x6_1 + 1), wrap64 ((wrap64 (Int.tdiv (wrap64 (a0 + 1)) 2)) + x6_1)] : List Int))]) (wrap64 (x6_1 + 1))) else (none)) else (spec_Fence.l0 k1 a0 (wrap64 (Int.tdiv (wrap64 (a0 + 1)) 2)) y165 (wrap64 (x6_1 + 1)))) = some (r1, r2) := by first | (rw [hy165]; with_reducible exact H) | (have H2_ := (Option.bind_some _ _).symm.trans H; rw [hy165]; with_reducible exact H2_) | (have H2_ := (Option.bind_some _ _).symm.trans H; with_reducible exact H2_) | with_reducible exact H | (rw [hy165]; exact H) | exact H
     have Ny165 := am hy165
     clear hy165
     by_cases c7 : (wrap64 (x6_1 + 1)) < (wrap64 (Int.tdiv (wrap64 (a0 + 1)) 2))
     ·rw [if_pos c7] at H
      have c7b0 := decide_eq_true c7
      clear c7
      obtain ⟨y168, hy168⟩ : ∃ y_ : List Int, y_ = (([wrap64 (x6_1 + 1), wrap64 ((wrap64 (Int.tdiv (wrap64 (a0 + 1)) 2)) + x6_1)] : List Int)) := ⟨_, rfl⟩
      replace H : (if y165.length < 5864062014805 then (spec_Fence.l0 k1 a0 (wrap64 (Int.tdiv (wrap64 (a0 + 1)) 2)) (y165 ++ [y168]) (wrap64 (x6_1 + 1))) else (none)) = some (r1, r2) := by first | (rw [hy168]; with_reducible exact H) | (have H2_ := (Option.bind_some _ _).symm.trans H; rw [hy168]; with_reducible exact H2_) | (have H2_ := (Option.bind_some _ _).symm.trans H; with_reducible exact H2_) | with_reducible exact H | (rw [hy168]; exact H) | exact H
      have Ny168 := am hy168
      clear hy168
      by_cases c8 : y165.length < 5864062014805
      rotate_left
      ·rw [if_neg c8] at H
       exact absurd H (by simp)
      rw [if_pos c8] at H
      have LMc8 := am c8
      clear c8
      obtain ⟨y171, hy171⟩ : ∃ y_ : List (List Int), y_ = (y165 ++ [y168]) := ⟨_, rfl⟩
      replace H : (spec_Fence.l0 k1 a0 (wrap64 (Int.tdiv (wrap64 (a0 + 1)) 2)) y171 (wrap64 (x6_1 + 1))) = some (r1, r2) := by first | (rw [hy171]; with_reducible exact H) | (have H2_ := (Option.bind_some _ _).symm.trans H; rw [hy171]; with_reducible exact H2_) | (have H2_ := (Option.bind_some _ _).symm.trans H; with_reducible exact H2_) | with_reducible exact H | (rw [hy171]; exact H) | exact H
      have Ny171 := am hy171
      clear hy171
      have H' := am H
      clear H
      go_wp2_with (first | ((with_reducible refine gate_dst (N := 26) rfl ?_); refine Kd.R_lit (Kd.int .i64) _ 3 ?hg (N := 26) ?hd (xs := ([x6_1, wrap64 ((wrap64 (Int.tdiv (wrap64 (a0 + 1)) 2)) + x6_1)] : List Int)) (inner := [.int .i64 x6_1, .int .i64 (wrap64 ((wrap64 (Int.tdiv (wrap64 (a0 + 1)) 2)) + x6_1))]) (ok := fun _ => True) (okp := fun _ => True) ?hr ?hp (fun _ hk => hk) trivial (Below.refl _ _) (Nat.le_refl _) (by simp) ?_; (case hd => rfl); (case hg => rfl); (case hr => first | (go_simp; done) | (go_simp; rfl)); (case hp => exact (Reps.one (show Kd.M (Kd.int .i64) _ _ _ x6_1 [.int .i64 x6_1] from rfl) (Reps.one (show Kd.M (Kd.int .i64) _ _ _ (wrap64 ((wrap64 (Int.tdiv (wrap64 (a0 + 1)) 2)) + x6_1)) [.int .i64 (wrap64 ((wrap64 (Int.tdiv (wrap64 (a0 + 1)) 2)) + x6_1))] from rfl) (Reps.none _ _)))); intro v163 w9 ho10 hb hg_ hnew_; clear hg_ hnew_; (first | rw [← Ny162.out] at ho10 | (simp only [Int.reduceToNat] at ho10; rw [← Ny162.out] at ho10)); replace HO_5 := am (Kd.S_elder' (qS HO_5.out) (Kd.R_base ho10) hb); have HO164 := am (Kd.R_lower ho10 (below_size qB)); replace BK160 := am (blk_below (g := gb160) (o := .cells #[.slice none 0 0] 26 (0, 0)) (qb BK160.out) hb); replace HB := am (below_step qB hb); clear hb ho10; obtain ⟨Ao12, co12, eo12⟩ := Kd.R_slice HO164.out; subst eo12) | ((with_reducible refine gate_builtin (b := .append) (xs := #[.tmp 21, .tmp 27]) rfl ?_); at_builtin; refine Kd.S_append (Kd.slice 3 (Kd.int .i64)) (w0 := w) w.heap.size rfl (.tmp 21) (.tmp 27) 58 24 (.slice none 0 0) 24 rfl Try.underlying58 info24 rfl (by decide) (by omega) u5 x5_1 y162 [.slice Ao12 y162.length co12] (fun _ => True) (fun k_ => some k_ = (.slice Ao12 y162.length co12 : Value).ownBlock) rfl rfl ?aP (fun k_ hk_ => ((Kd.R_mono (ok' := fun k_ => ((fun _ => True)) k_ ∧ some k_ ≠ (u5 : Value).ownBlock) (Kd.R_apart' (HO164.out) (Kd.S_typed HO_5.out) (by decide)) (fun k_ hk => ⟨trivial, hk.2⟩))).1 k_ hk_.symm) ?aF ?aO ?aB ?aS ?aL ?_; (case aP => exact Kd.M_row (Kd.R_mono (Kd.R_tight rfl (Kd.R_mono (ok' := fun k_ => ((fun _ => True)) k_ ∧ some k_ ≠ (u5 : Value).ownBlock) (Kd.R_apart' (HO164.out) (Kd.S_typed HO_5.out) (by decide)) (fun k_ hk => ⟨trivial, hk.2⟩))) (fun _ h_ => h_))); (case aB => exact qB); (case aF => exact (fun _ _ => trivial)); (case aO => exact (qS (Kd.S_mono HO_5.out (fun k_ hk => ⟨trivial, fun e_ => hk.2 e_⟩)))); (case aS => exact (below_size qB)); (case aL => have := LMc6.out; omega); intro v166 w11 ho hb hg hat; rw [← Ny165.out] at ho; replace BK160 := am (blk_grown (g := gb160) (o := .cells #[.slice none 0 0] 26 (0, 0)) (qb BK160.out) hg (Kd.S_ne HO_5.out BK160.out (by decide))); have n1_ := am (hb); have HO167 := am (ho); clear HB HO_5 HO164; have HB := n1_; clear n1_; clear ho hb hg hat) | ((with_reducible refine gate_dst (N := 39) rfl ?_); refine Kd.R_lit (Kd.int .i64) _ 3 ?hg (N := 39) ?hd (xs := ([wrap64 (x6_1 + 1), wrap64 ((wrap64 (Int.tdiv (wrap64 (a0 + 1)) 2)) + x6_1)] : List Int)) (inner := [.int .i64 (wrap64 (x6_1 + 1)), .int .i64 (wrap64 ((wrap64 (Int.tdiv (wrap64 (a0 + 1)) 2)) + x6_1))]) (ok := fun _ => True) (okp := fun _ => True) ?hr ?hp (fun _ hk => hk) trivial (Below.refl _ _) (Nat.le_refl _) (by simp) ?_; (case hd => rfl); (case hg => rfl); (case hr => first | (go_simp; done) | (go_simp; rfl)); (case hp => exact (Reps.one (show Kd.M (Kd.int .i64) _ _ _ (wrap64 (x6_1 + 1)) [.int .i64 (wrap64 (x6_1 + 1))] from rfl) (Reps.one (show Kd.M (Kd.int .i64) _ _ _ (wrap64 ((wrap64 (Int.tdiv (wrap64 (a0 + 1)) 2)) + x6_1)) [.int .i64 (wrap64 ((wrap64 (Int.tdiv (wrap64 (a0 + 1)) 2)) + x6_1))] from rfl) (Reps.none _ _)))); intro v169 w13 ho14 hb hg_ hnew_; clear hg_ hnew_; (first | rw [← Ny168.out] at ho14 | (simp only [Int.reduceToNat] at ho14; rw [← Ny168.out] at ho14)); replace HO167 := am (Kd.S_elder' (qS HO167.out) (Kd.R_base ho14) hb); have HO170 := am (Kd.R_lower ho14 (below_size qB)); replace BK160 := am (blk_below (g := gb160) (o := .cells #[.slice none 0 0] 26 (0, 0)) (qb BK160.out) hb); replace HB := am (below_step qB hb); clear hb ho14; obtain ⟨Ao16, co16, eo16⟩ := Kd.R_slice HO170.out; subst eo16) | ((with_reducible refine gate_builtin (b := .append) (xs := #[.tmp 33, .tmp 40]) rfl ?_); at_builtin; refine Kd.S_append (Kd.slice 3 (Kd.int .i64)) (w0 := w) w.heap.size rfl (.tmp 33) (.tmp 40) 58 24 (.slice none 0 0) 24 rfl Try.underlying58 info24 rfl (by decide) (by omega) v166 y165 y168 [.slice Ao16 y168.length co16] (fun _ => True) (fun k_ => some k_ = (.slice Ao16 y168.length co16 : Value).ownBlock) rfl rfl ?aP (fun k_ hk_ => ((Kd.R_mono (ok' := fun k_ => ((fun _ => True)) k_ ∧ some k_ ≠ (v166 : Value).ownBlock) (Kd.R_apart' (HO170.out) (Kd.S_typed HO167.out) (by decide)) (fun k_ hk => ⟨trivial, hk.2⟩))).1 k_ hk_.symm) ?aF ?aO ?aB ?aS ?aL ?_; (case aP => exact Kd.M_row (Kd.R_mono (Kd.R_tight rfl (Kd.R_mono (ok' := fun k_ => ((fun _ => True)) k_ ∧ some k_ ≠ (v166 : Value).ownBlock) (Kd.R_apart' (HO170.out) (Kd.S_typed HO167.out) (by decide)) (fun k_ hk => ⟨trivial, hk.2⟩))) (fun _ h_ => h_))); (case aB => exact qB); (case aF => exact (fun _ _ => trivial)); (case aO => exact (qS (Kd.S_mono HO167.out (fun k_ hk => ⟨trivial, fun e_ => hk.2 e_⟩)))); (case aS => exact (below_size qB)); (case aL => have := LMc8.out; omega); intro v172 w15 ho hb hg hat; rw [← Ny171.out] at ho; replace BK160 := am (blk_grown (g := gb160) (o := .cells #[.slice none 0 0] 26 (0, 0)) (qb BK160.out) hg (Kd.S_ne HO167.out BK160.out (by decide))); have n1_ := am (hb); have HO173 := am (ho); clear HB HO167 HO170; have HB := n1_; clear n1_; clear ho hb hg hat))
      go_roundg k1
      case measure => have := HK1.out; omega
      case rel => exact ⟨(y171), (wrap64 (x6_1 + 1)), qe, H', ⟨by have := HK1.out; omega⟩, ⟨qS HO173.out⟩, ⟨qb BK160.out⟩, ⟨qB⟩⟩
     ·rw [if_neg c7] at H
      have c7b0 := decide_eq_false c7
      clear c7
      have H' := am H
      clear H
      go_wp2_with (first | ((with_reducible refine gate_dst (N := 26) rfl ?_); refine Kd.R_lit (Kd.int .i64) _ 3 ?hg (N := 26) ?hd (xs := ([x6_1, wrap64 ((wrap64 (Int.tdiv (wrap64 (a0 + 1)) 2)) + x6_1)] : List Int)) (inner := [.int .i64 x6_1, .int .i64 (wrap64 ((wrap64 (Int.tdiv (wrap64 (a0 + 1)) 2)) + x6_1))]) (ok := fun _ => True) (okp := fun _ => True) ?hr ?hp (fun _ hk => hk) trivial (Below.refl _ _) (Nat.le_refl _) (by simp) ?_; (case hd => rfl); (case hg => rfl); (case hr => first | (go_simp; done) | (go_simp; rfl)); (case hp => exact (Reps.one (show Kd.M (Kd.int .i64) _ _ _ x6_1 [.int .i64 x6_1] from rfl) (Reps.one (show Kd.M (Kd.int .i64) _ _ _ (wrap64 ((wrap64 (Int.tdiv (wrap64 (a0 + 1)) 2)) + x6_1)) [.int .i64 (wrap64 ((wrap64 (Int.tdiv (wrap64 (a0 + 1)) 2)) + x6_1))] from rfl) (Reps.none _ _)))); intro v163 w17 ho18 hb hg_ hnew_; clear hg_ hnew_; (first | rw [← Ny162.out] at ho18 | (simp only [Int.reduceToNat] at ho18; rw [← Ny162.out] at ho18)); replace HO_5 := am (Kd.S_elder' (qS HO_5.out) (Kd.R_base ho18) hb); have HO164 := am (Kd.R_lower ho18 (below_size qB)); replace BK160 := am (blk_below (g := gb160) (o := .cells #[.slice none 0 0] 26 (0, 0)) (qb BK160.out) hb); replace HB := am (below_step qB hb); clear hb ho18; obtain ⟨Ao20, co20, eo20⟩ := Kd.R_slice HO164.out; subst eo20) | ((with_reducible refine gate_builtin (b := .append) (xs := #[.tmp 21, .tmp 27]) rfl ?_); at_builtin; refine Kd.S_append (Kd.slice 3 (Kd.int .i64)) (w0 := w) w.heap.size rfl (.tmp 21) (.tmp 27) 58 24 (.slice none 0 0) 24 rfl Try.underlying58 info24 rfl (by decide) (by omega) u5 x5_1 y162 [.slice Ao20 y162.length co20] (fun _ => True) (fun k_ => some k_ = (.slice Ao20 y162.length co20 : Value).ownBlock) rfl rfl ?aP (fun k_ hk_ => ((Kd.R_mono (ok' := fun k_ => ((fun _ => True)) k_ ∧ some k_ ≠ (u5 : Value).ownBlock) (Kd.R_apart' (HO164.out) (Kd.S_typed HO_5.out) (by decide)) (fun k_ hk => ⟨trivial, hk.2⟩))).1 k_ hk_.symm) ?aF ?aO ?aB ?aS ?aL ?_; (case aP => exact Kd.M_row (Kd.R_mono (Kd.R_tight rfl (Kd.R_mono (ok' := fun k_ => ((fun _ => True)) k_ ∧ some k_ ≠ (u5 : Value).ownBlock) (Kd.R_apart' (HO164.out) (Kd.S_typed HO_5.out) (by decide)) (fun k_ hk => ⟨trivial, hk.2⟩))) (fun _ h_ => h_))); (case aB => exact qB); (case aF => exact (fun _ _ => trivial)); (case aO => exact (qS (Kd.S_mono HO_5.out (fun k_ hk => ⟨trivial, fun e_ => hk.2 e_⟩)))); (case aS => exact (below_size qB)); (case aL => have := LMc6.out; omega); intro v166 w19 ho hb hg hat; rw [← Ny165.out] at ho; replace BK160 := am (blk_grown (g := gb160) (o := .cells #[.slice none 0 0] 26 (0, 0)) (qb BK160.out) hg (Kd.S_ne HO_5.out BK160.out (by decide))); have n1_ := am (hb); have HO167 := am (ho); clear HB HO_5 HO164; have HB := n1_; clear n1_; clear ho hb hg hat))
      go_roundg k1
      case measure => have := HK1.out; omega
      case rel => exact ⟨(y165), (wrap64 (x6_1 + 1)), qe, H', ⟨by have := HK1.out; omega⟩, ⟨qS HO167.out⟩, ⟨qb BK160.out⟩, ⟨qB⟩⟩
    ·rw [if_neg c5] at H
     have c5b0 := decide_eq_false c5
     clear c5
     replace H := Option.bind_eq_some_iff.mp H
     obtain ⟨t174, A210, H⟩ := H
     (try dsimp only at H)
     have A21 := am A210
     clear A210
     simp only [Option.some.injEq, Prod.mk.injEq] at H
     obtain ⟨rfl, rfl⟩ := H
     obtain ⟨Ao22, co22, eo22⟩ := Kd.S_slice HO_5.out
     subst eo22
     go_wp2_with (((with_reducible refine gate_callee (f := 154) rfl ?_); refine gL (some 44) Try.func154 #[.int .i64 a0, .slice Ao22 x5_1.length co22] ?_; (with_reducible refine (spec_poFrom.calls k1 a0 _ _ x5_1 t174 _ ?side1 ?side2 A21.out).mono ?_); (case side1 => exact qC (Kd.S_reads' HO_5.out).2.2); (case side2 => exact (Kd.S_reads' HO_5.out).2.1); rintro e w23 ⟨v175, rfl, ho0, hb⟩; refine ⟨_, rfl, ?_⟩; replace HO_5 := am (Kd.S_elder' (qS HO_5.out) (Kd.R_base ho0) hb); have HO176 := am (Kd.R_lower ho0 (below_size qB)); replace BK160 := am (blk_below (g := gb160) (o := .cells #[.slice none 0 0] 26 (0, 0)) (qb BK160.out) hb); replace HB := am (below_step qB hb); (try clear hb); (try clear hb2); (try clear hk); (try clear hi); (try clear ho0); obtain ⟨Ao24, co24, eo24⟩ := Kd.R_slice HO176.out; subst eo24; have hcz25_0 := qz w23 BK160.out; have hfz25_0 := blk_frozen BK160.out 0))
     refine bodyPost_ret (results_ct rfl _ _ gb160 26 #[.slice Ao24 t174.length co24] (0, 0) _ rfl (by (with_reducible repeat (first | refine blk_drewN ?_ _ | refine blk_drew ?_ | refine blk_alloc ?_ _)); refine blk_put (cs := #[.slice none 0 0]) ?_ 0 _ rfl; refine qb ?_; exact BK160.out) Try.underlying26 rfl (by kernel_rfl)) rfl ?_
     exact ⟨_, qr, qR (Kd.R_mono (Kd.R_far (p := ⟨gb160, 0, none⟩) (Kd.R_types HO176.out BK160.out (by decide)) (fun _ hk => hk.2) (.slice Ao24 t174.length co24)) (fun _ hk => trivial)), qB⟩
 ·replace c3 := Bool.eq_false_iff.mpr c3
  subst c3
  rw [if_neg (show ¬ (false = true) by decide)] at H
  simp only [Option.some.injEq, Prod.mk.injEq] at H
  obtain ⟨rfl, rfl⟩ := H
  go_enter Try.func153, Try.ntmps153
  go_wp2_with (first | ((with_reducible refine gate_dst (N := 2) rfl ?_); refine qx (N := 2) (cs := #[.slice none 0 0]) (t := 26) ?_; intro gb160 hg w26 hbox hb; have n0_ := am (below_step qB hb); have BK160 := am (hbox); have GW160 := am (qg w hg); have GE160 := am (qg w hg); clear HB; have HB := n0_; clear n0_; clear hb hbox hg) | ((with_reducible refine gate_callee (f := 75) rfl ?_); refine gL (some 8) Try.func75 #[.int .i64 a0, .int .i64 1, .int .i64 10] ?_; (with_reducible refine (spec_l1In.calls a0 1 10 false _ A2.out).mono ?_); rintro e w' ⟨rfl, ⟨nd, rfl⟩⟩; refine ⟨_, rfl, ?_⟩; (try (rw [drewN_self w26]; generalize hq_ : World.drewN w26 _ = w26; have n0_ : Aside0 (w26.heap[gb160]? = some (.cells #[.slice none 0 0] 26 (0, 0))) := ⟨by rw [← hq_]; exact (qb BK160.out)⟩; have n1_ : Aside0 (Below w.heap.size w w26) := ⟨by rw [← hq_]; exact qB⟩; clear BK160 HB hq_; have BK160 := n0_; have HB := n1_; clear n0_ n1_)); have hcz27_0 := qz w26 BK160.out; have hfz27_0 := blk_frozen BK160.out 0))
  refine bodyPost_ret (results_ct rfl _ _ gb160 26 #[.slice none 0 0] (0, 0) _ rfl (by (with_reducible repeat (first | refine blk_drewN ?_ _ | refine blk_drew ?_ | refine blk_alloc ?_ _)); refine blk_put (cs := #[.slice none 0 0]) ?_ 0 _ rfl; refine qb ?_; exact BK160.out) Try.underlying26 rfl (by kernel_rfl)) rfl ?_
  exact ⟨_, qr, by first | exact Kd.R_nil _ _ _ _ _ | exact Kd.N_nil _ _ _ _ _ | exact Kd.V_nil _ _ _ _ _ | exact Kd.Q_nil _ _ _ _ _ | exact Kd.S_nil _ _ _ _ _, qB⟩
mutual
def spec_poGood.l0 : Nat → List Int → Int → Int → List Int → Option (Bool)
 | 0, _, _, _, _ => none
 | k + 1, x14, x15, x16, x298000 => if x16 < x15 then (if 0 ≤ x16 then (if x16 < (x14.length : Int) then ((spec_l1In.f (rd x14 x16) 0 (wrap64 ((shl .i64 1 x16) - 1))).bind fun t300 => (if t300 = true then (spec_poGood.l1 k x16 (rd x14 x16) 0 x14 x15 x16 x298000) else (some false))) else (none)) else (none)) else (some true)
def spec_poGood.l1 : Nat → Int → Int → Int → List Int → Int → Int → List Int → Option (Bool)
 | 0, _, _, _, _, _, _, _ => none
 | k + 1, x4, x5, x6, x14, x15, x16, x298000 => if x6 < x4 then (if 0 ≤ x6 then (if (Int.tmod (shr .i64 x5 x6) 2) = 1 then (if x6 < (x298000.length : Int) then (if (Go.bits .andNot .i64 (rd x298000 x6) x5) = 0 then (spec_poGood.l1 k x4 x5 (wrap64 (x6 + 1)) x14 x15 x16 x298000) else (some false)) else (none)) else (spec_poGood.l1 k x4 x5 (wrap64 (x6 + 1)) x14 x15 x16 x298000)) else (none)) else (spec_poGood.l0 k x14 x15 (wrap64 (x16 + 1)) x298000)
end
def spec_poGood.f (k : Nat) (l0_0 : List Int) : Option (Bool) := (spec_l1In.f (l0_0.length : Int) 1 10).bind fun t298 => (if t298 = true then (spec_poGood.l0 k l0_0 (l0_0.length : Int) 0 l0_0) else (some false))
theorem spec_poGood.mono_l : ∀ k, (∀ y0 y1 y2 y3, LeO (spec_poGood.l0 k y0 y1 y2 y3) (spec_poGood.l0 (k + 1) y0 y1 y2 y3)) ∧ (∀ y0 y1 y2 y3 y4 y5 y6, LeO (spec_poGood.l1 k y0 y1 y2 y3 y4 y5 y6) (spec_poGood.l1 (k + 1) y0 y1 y2 y3 y4 y5 y6))
 | 0 => ⟨fun _ _ _ _ r h => by simp [spec_poGood.l0] at h, fun _ _ _ _ _ _ _ r h => by simp [spec_poGood.l1] at h⟩
 | k + 1 => by
  obtain ⟨ih0, ih1⟩ := spec_poGood.mono_l k
  refine ⟨?_, ?_⟩
  ·intro y0 y1 y2 y3
   unfold spec_poGood.l0
   repeat' first
   | (with_reducible exact LeO.refl _)
   | (with_reducible exact LeO.none _)
   | (with_reducible refine LeO.ite ?_ ?_)
   | (with_reducible refine LeO.bind ?_ (fun _ => ?_))
   | exact ih0 _ _ _ _
   | exact ih1 _ _ _ _ _ _ _
   | exact LeO.none _
   | refine LeO.ite ?_ ?_
   | refine LeO.bind ?_ (fun _ => ?_)
  ·intro y0 y1 y2 y3 y4 y5 y6
   unfold spec_poGood.l1
   repeat' first
   | (with_reducible exact LeO.refl _)
   | (with_reducible exact LeO.none _)
   | (with_reducible refine LeO.ite ?_ ?_)
   | (with_reducible refine LeO.bind ?_ (fun _ => ?_))
   | exact ih0 _ _ _ _
   | exact ih1 _ _ _ _ _ _ _
   | exact LeO.none _
   | refine LeO.ite ?_ ?_
   | refine LeO.bind ?_ (fun _ => ?_)
theorem spec_poGood.mono : ∀ a0 k, LeO (spec_poGood.f k a0) (spec_poGood.f (k + 1) a0) := by
 intro a0 k
 obtain ⟨ih0, ih1⟩ := spec_poGood.mono_l k
 unfold spec_poGood.f
 repeat' first
  | (with_reducible exact LeO.refl _)
  | (with_reducible exact LeO.none _)
  | (with_reducible refine LeO.ite ?_ ?_)
  | (with_reducible refine LeO.bind ?_ (fun _ => ?_))
  | exact ih0 _ _ _ _
  | exact ih1 _ _ _ _ _ _ _
  | exact LeO.none _
  | refine LeO.ite ?_ ?_
  | refine LeO.bind ?_ (fun _ => ?_)
set_option maxHeartbeats 8000000 in
set_option maxRecDepth 100000 in
theorem spec_poGood.calls (k : Nat) (A0_0 : Option Addr) (c0_0 : Nat) (l0_0 : List Int) (r : Bool) (w : World) (hr0_0 : Kd.C (Kd.int .i64) w A0_0 l0_0.length l0_0) (hc0_0 : l0_0.length ≤ c0_0) (h : spec_poGood.f k l0_0 = some r) :
 Calls Try.prog 82 #[.agg #[.slice A0_0 l0_0.length c0_0]] w fun e w' => e = .returned (.bool r) ∧ Below w.heap.size w w' := by
 have hu26 := Try.underlying26
 have HR0_0 := am hr0_0
 have HC0_0 := am hc0_0
 clear hr0_0 hc0_0
 have HB := am (Below.refl w.heap.size w)
 have H := h
 unfold spec_poGood.f at H
 clear h
 replace H := Option.bind_eq_some_iff.mp H
 obtain ⟨t298, A20, H⟩ := H
 (try dsimp only at H)
 have A2 := am A20
 clear A20
 by_cases c3 : t298 = true
 ·subst c3
  rw [if_pos rfl] at H
  have H' := am H
  clear H
  go_enter Try.func82, Try.ntmps82
  go_wp2_with (first | ((with_reducible refine gate_dst (N := 1) rfl ?_); refine qx (N := 1) (cs := #[.slice A0_0 l0_0.length c0_0]) (t := 26) ?_; intro gb297 hg w4 hbox hb; have n0_ := am (below_step qB hb); have BK297 := am (hbox); have GW297 := am (qg w hg); have GE297 := am (qg w hg); clear HB; have HB := n0_; clear n0_; clear hb hbox hg; have hcz5_0 := qz w4 BK297.out; have hfz5_0 := blk_frozen BK297.out 0) | ((with_reducible refine gate_callee (f := 75) rfl ?_); refine gL (some 11) Try.func75 #[.int .i64 (l0_0.length : Int), .int .i64 1, .int .i64 10] ?_; (with_reducible refine (spec_l1In.calls (l0_0.length : Int) 1 10 true _ A2.out).mono ?_); rintro e w' ⟨rfl, ⟨nd, rfl⟩⟩; refine ⟨_, rfl, ?_⟩))
  go_loopg [16] k (fun kq v16 w' => ∃ (x16_1 : Int), v16 = .int .i64 x16_1 ∧ Aside0 (spec_poGood.l0 kq l0_0 (l0_0.length : Int) x16_1 l0_0 = some r) ∧ Aside0 (kq ≤ k) ∧ Aside0 (w'.heap[gb297]? = some (.cells #[(.slice A0_0 l0_0.length c0_0)] 26 (0, 0))) ∧ Aside0 (Below w.heap.size w w'))
  case atStart => exact ⟨(0), qe, H', ⟨Nat.le_refl _⟩, ⟨qb BK297.out⟩, ⟨qB⟩⟩
  case round =>
   clear H'
   try clear p2
   try clear c3
   try clear hcz5_0
   try clear hfz5_0
   obtain ⟨x16_1, rfl, HA, HK1, BK297, HB⟩ := hrel
   cases gk with
   | zero => exact absurd HA.out (by simp [spec_poGood.l0])
   | succ k1 =>
    have H := HA.out
    clear HA
    simp only [spec_poGood.l0] at H
    by_cases c6 : x16_1 < (l0_0.length : Int)
    ·rw [if_pos c6] at H
     have c6b0 := decide_eq_true c6
     clear c6
     by_cases c7 : 0 ≤ x16_1
     rotate_left
     ·rw [if_neg c7] at H
      exact absurd H (by simp)
     rw [if_pos c7] at H
     have c7b0 := decide_eq_true c7
     clear c7
     by_cases c8 : x16_1 < (l0_0.length : Int)
     rotate_left
     ·rw [if_neg c8] at H
      exact absurd H (by simp)
     rw [if_pos c8] at H
     have c8b0 := decide_eq_true c8
     clear c8
     have c9b0 := eq_true (qd : 0 ≤ x16_1)
     obtain ⟨ji10, hji10⟩ : ∃ j_ : Int, (shl .i64 1 x16_1) = j_ := ⟨_, rfl⟩
     first | rw [hji10] at H | simp only [hji10] at H
     have hji10_ : (IntKind.i64.wrap (1 * 2 ^ min x16_1.toNat 64)) = ji10 := hji10
     have hji10z : x16_1 ≤ 64 → (IntKind.i64.wrap (1 * 2 ^ x16_1.toNat)) = ji10 := shl_small hji10
     have hji10u : (IntKind.i64.wrap (2 ^ min x16_1.toNat 64)) = ji10 := by have h_ := hji10_; rw [Int.one_mul] at h_; exact h_
     have hji10v : x16_1 ≤ 64 → (IntKind.i64.wrap (2 ^ x16_1.toNat)) = ji10 := fun hle_ => by have h_ := hji10z hle_; rw [Int.one_mul] at h_; exact h_
     have hji10y : (wrap64 (1 * 2 ^ min x16_1.toNat 64)) = ji10 := (i64_w _).symm.trans hji10_
     have hji10x : x16_1 ≤ 64 → (wrap64 (1 * 2 ^ x16_1.toNat)) = ji10 := fun h_ => (i64_w _).symm.trans (hji10z h_)
     replace H := Option.bind_eq_some_iff.mp H
     obtain ⟨t300, A110, H⟩ := H
     (try dsimp only at H)
     have A11 := am A110
     clear A110
     by_cases c12 : t300 = true
     ·subst c12
      rw [if_pos rfl] at H
      have H' := am H
      clear H
      have p299 : 0 ≤ (x16_1 : Int) := qd
      have q299 : x16_1 < (l0_0.length : Int) := qd
      obtain ⟨ad299, e299, hx299_0⟩ := Kd.at_int HR0_0.out x16_1 p299 q299
      cases e299
      replace hx299_0 := (HB.out.cell (World.block_lt_of_cell? w _ hx299_0)).trans hx299_0
      replace p299 := eq_true p299
      replace q299 := eq_true q299
      go_wp2_with (((with_reducible refine gate_callee (f := 75) rfl ?_); refine goesL_ (some 25) rfl rfl Try.func75 (by kernel_rfl) rfl #[.int .i64 (rd l0_0 x16_1), .int .i64 0, .int .i64 (wrap64 ((ji10) - 1))] rfl (by (try simp only [List.map_toArray, List.map_cons, List.map_nil]); first | done | (simp only [hji10]; rfl) | rfl | (simp only [List.length_drop, List.length_take]; rfl)) ?_; (with_reducible refine (spec_l1In.calls (rd l0_0 x16_1) 0 (wrap64 ((ji10) - 1)) true _ A11.out).mono ?_); rintro e w' ⟨rfl, ⟨nd, rfl⟩⟩; refine ⟨_, rfl, ?_⟩))
      go_loopg [6] k1 (fun kq v6 w' => ∃ (x6_2 : Int), v6 = .int .i64 x6_2 ∧ Aside0 (spec_poGood.l1 kq x16_1 (rd l0_0 x16_1) x6_2 l0_0 (l0_0.length : Int) x16_1 l0_0 = some r) ∧ Aside0 (kq ≤ k1) ∧ Aside0 (w'.heap[gb297]? = some (.cells #[(.slice (some ad299) l0_0.length c0_0)] 26 (0, 0))) ∧ Aside0 (Below w.heap.size w w'))
      case atStart => exact ⟨(0), qe, H', ⟨Nat.le_refl _⟩, ⟨qb BK297.out⟩, ⟨qB⟩⟩
      case round =>
       clear H'
       try clear c1
       try clear p2
       try clear q2
       try clear hx2
       try clear c3
       try clear c6
       try clear c6b0
       try clear p6
       try clear c7
       try clear c7b0
       try clear c8
       try clear c8b0
       try clear c9
       try clear c9b0
       try clear c12
       try clear hcz5_0
       try clear hfz5_0
       try clear hx299_0
       try clear p2
       try clear p299
       try clear q299
       obtain ⟨x6_2, rfl, HA, HK2, BK297, HB⟩ := hrel
       cases gk with
       | zero => exact absurd HA.out (by simp [spec_poGood.l1])
       | succ k2 =>
        have H := HA.out
        clear HA
        simp only [spec_poGood.l1] at H
        by_cases c13 : x6_2 < x16_1
        ·rw [if_pos c13] at H
         have c13b0 := decide_eq_true c13
         clear c13
         by_cases c14 : 0 ≤ x6_2
         rotate_left
         ·rw [if_neg c14] at H
          exact absurd H (by simp)
         rw [if_pos c14] at H
         have c14b0 := eq_true c14
         have c14b1 := decide_eq_true c14
         clear c14
         obtain ⟨ji15, hji15⟩ : ∃ j_ : Int, (shr .i64 (rd l0_0 x16_1) x6_2) = j_ := ⟨_, rfl⟩
         first | rw [hji15] at H | simp only [hji15] at H
         have hji15_ : ((rd l0_0 x16_1) / 2 ^ min x6_2.toNat 64) = ji15 := hji15
         have hji15z : x6_2 ≤ 64 → ((rd l0_0 x16_1) / 2 ^ x6_2.toNat) = ji15 := shr_small hji15
         by_cases c16 : (Int.tmod (ji15) 2) = 1
         ·rw [if_pos c16] at H
          have c16b0 : ((Int.tmod (ji15) 2) == 1) = true := beq_iff_eq.mpr c16
          have c16b1 : ((Int.tmod (ji15) 2) != 1) = false := bne_eq_false_iff_eq.mpr c16
          clear c16
          by_cases c17 : x6_2 < (l0_0.length : Int)
          rotate_left
          ·rw [if_neg c17] at H
           exact absurd H (by simp)
          rw [if_pos c17] at H
          have c17b0 := decide_eq_true c17
          clear c17
          by_cases c18 : (Go.bits .andNot .i64 (rd l0_0 x6_2) (rd l0_0 x16_1)) = 0
          ·rw [if_pos c18] at H
           have c18b0 : ((Go.bits .andNot .i64 (rd l0_0 x6_2) (rd l0_0 x16_1)) == 0) = true := beq_iff_eq.mpr c18
           have c18b1 : ((Go.bits .andNot .i64 (rd l0_0 x6_2) (rd l0_0 x16_1)) != 0) = false := bne_eq_false_iff_eq.mpr c18
           clear c18
           have H' := am H
           clear H
           have hcz19_0 := qz wr BK297.out
           have hfz19_0 := blk_frozen BK297.out 0
           have p301 : 0 ≤ (x6_2 : Int) := qd
           have q301 : x6_2 < (l0_0.length : Int) := qd
           obtain ⟨ad301, e301, hx301_0⟩ := Kd.at_int HR0_0.out x6_2 p301 q301
           obtain rfl : ad299 = ad301 := (by injection e301)
           replace hx301_0 := (HB.out.cell (World.block_lt_of_cell? w _ hx301_0)).trans hx301_0
           replace p301 := eq_true p301
           replace q301 := eq_true q301
           go_wp2
           go_roundg k2
           case measure => have := HK1.out; have := HK2.out; omega
           case rel => exact ⟨(wrap64 (x6_2 + 1)), qe, H', ⟨by have := HK1.out; have := HK2.out; omega⟩, ⟨qb BK297.out⟩, ⟨qB⟩⟩
          ·rw [if_neg c18] at H
           have c18b0 : ((Go.bits .andNot .i64 (rd l0_0 x6_2) (rd l0_0 x16_1)) == 0) = false := beq_eq_false_iff_ne.mpr c18
           have c18b1 : ((Go.bits .andNot .i64 (rd l0_0 x6_2) (rd l0_0 x16_1)) != 0) = true := bne_iff_ne.mpr c18
           obtain rfl := Option.some.inj H
           have hcz20_0 := qz wr BK297.out
           have hfz20_0 := blk_frozen BK297.out 0
           have p301 : 0 ≤ (x6_2 : Int) := qd
           have q301 : x6_2 < (l0_0.length : Int) := qd
           obtain ⟨ad301, e301, hx301_0⟩ := Kd.at_int HR0_0.out x6_2 p301 q301
           obtain rfl : ad299 = ad301 := (by injection e301)
           replace hx301_0 := (HB.out.cell (World.block_lt_of_cell? w _ hx301_0)).trans hx301_0
           replace p301 := eq_true p301
           replace q301 := eq_true q301
           go_wp2
           go_ret
           exact ⟨by first | rfl | (simp [errW_none, errW_some] <;> rfl) | (simp only [← hji10, ← hji15]; first | rfl | (simp [errW_none, errW_some] <;> rfl)) | (simp [*, errW_none, errW_some] <;> rfl), qB⟩
         ·rw [if_neg c16] at H
          have c16b0 : ((Int.tmod (ji15) 2) == 1) = false := beq_eq_false_iff_ne.mpr c16
          have c16b1 : ((Int.tmod (ji15) 2) != 1) = true := bne_iff_ne.mpr c16
          have H' := am H
          clear H
          go_wp2
          go_roundg k2
          case measure => have := HK1.out; have := HK2.out; omega
          case rel => exact ⟨(wrap64 (x6_2 + 1)), qe, H', ⟨by have := HK1.out; have := HK2.out; omega⟩, ⟨qb BK297.out⟩, ⟨qB⟩⟩
        ·rw [if_neg c13] at H
         have c13b0 := decide_eq_false c13
         clear c13
         have H' := am H
         clear H
         go_wp2
         go_roundg k2
         case measure => have := HK1.out; have := HK2.out; omega
         case rel => exact ⟨(wrap64 (x16_1 + 1)), qe, H', ⟨by have := HK1.out; have := HK2.out; omega⟩, ⟨qb BK297.out⟩, ⟨qB⟩⟩
     ·replace c12 := Bool.eq_false_iff.mpr c12
      subst c12
      rw [if_neg (show ¬ (false = true) by decide)] at H
      obtain rfl := Option.some.inj H
      have p299 : 0 ≤ (x16_1 : Int) := qd
      have q299 : x16_1 < (l0_0.length : Int) := qd
      obtain ⟨ad299, e299, hx299_0⟩ := Kd.at_int HR0_0.out x16_1 p299 q299
      cases e299
      replace hx299_0 := (HB.out.cell (World.block_lt_of_cell? w _ hx299_0)).trans hx299_0
      replace p299 := eq_true p299
      replace q299 := eq_true q299
      go_wp2_with (((with_reducible refine gate_callee (f := 75) rfl ?_); refine goesL_ (some 25) rfl rfl Try.func75 (by kernel_rfl) rfl #[.int .i64 (rd l0_0 x16_1), .int .i64 0, .int .i64 (wrap64 ((ji10) - 1))] rfl (by (try simp only [List.map_toArray, List.map_cons, List.map_nil]); first | done | (simp only [hji10]; rfl) | rfl | (simp only [List.length_drop, List.length_take]; rfl)) ?_; (with_reducible refine (spec_l1In.calls (rd l0_0 x16_1) 0 (wrap64 ((ji10) - 1)) false _ A11.out).mono ?_); rintro e w' ⟨rfl, ⟨nd, rfl⟩⟩; refine ⟨_, rfl, ?_⟩))
      go_ret
      exact ⟨by first | rfl | (simp [errW_none, errW_some] <;> rfl) | (simp only [← hji10]; first | rfl | (simp [errW_none, errW_some] <;> rfl)) | (simp [*, errW_none, errW_some] <;> rfl), qB⟩
    ·rw [if_neg c6] at H
     have c6b0 := decide_eq_false c6
     clear c6
     obtain rfl := Option.some.inj H
     go_wp2
     go_ret
     exact ⟨qr, qB⟩
 ·replace c3 := Bool.eq_false_iff.mpr c3
  subst c3
  rw [if_neg (show ¬ (false = true) by decide)] at H
  obtain rfl := Option.some.inj H
  go_enter Try.func82, Try.ntmps82
  go_wp2_with (first | ((with_reducible refine gate_dst (N := 1) rfl ?_); refine qx (N := 1) (cs := #[.slice A0_0 l0_0.length c0_0]) (t := 26) ?_; intro gb297 hg w21 hbox hb; have n0_ := am (below_step qB hb); have BK297 := am (hbox); have GW297 := am (qg w hg); have GE297 := am (qg w hg); clear HB; have HB := n0_; clear n0_; clear hb hbox hg; have hcz22_0 := qz w21 BK297.out; have hfz22_0 := blk_frozen BK297.out 0) | ((with_reducible refine gate_callee (f := 75) rfl ?_); refine gL (some 11) Try.func75 #[.int .i64 (l0_0.length : Int), .int .i64 1, .int .i64 10] ?_; (with_reducible refine (spec_l1In.calls (l0_0.length : Int) 1 10 false _ A2.out).mono ?_); rintro e w' ⟨rfl, ⟨nd, rfl⟩⟩; refine ⟨_, rfl, ?_⟩))
  go_ret
  exact ⟨qr, qB⟩
def spec_poIn.f (a0 : Int) (a1 : Int) : Option (Bool) := if 0 ≤ a1 then (some ((Int.tmod (shr .i64 a0 a1) 2) == 1)) else (none)
set_option maxHeartbeats 8000000 in
set_option maxRecDepth 100000 in
theorem spec_poIn.calls (a0 : Int) (a1 : Int) (r : Bool) (w : World) (h : spec_poIn.f a0 a1 = some r) :
 Calls Try.prog 93 #[.int .i64 a0, .int .i64 a1] w fun e w' => e = .returned (.bool r) ∧ Drawn0 w w' := by
 have H := h
 unfold spec_poIn.f at H
 clear h
 by_cases c3 : 0 ≤ a1
 ·rw [if_pos c3] at H
  have c3b0 := eq_true c3
  have c3b1 := decide_eq_true c3
  clear c3
  obtain ⟨ji4, hji4⟩ : ∃ j_ : Int, (shr .i64 a0 a1) = j_ := ⟨_, rfl⟩
  first | rw [hji4] at H | simp only [hji4] at H
  have hji4_ : (a0 / 2 ^ min a1.toNat 64) = ji4 := hji4
  have hji4z : a1 ≤ 64 → (a0 / 2 ^ a1.toNat) = ji4 := shr_small hji4
  obtain rfl := Option.some.inj H
  go_enter Try.func93, Try.ntmps93
  go_wp2
  go_ret
  exact ⟨by first | rfl | (simp; done) | (simp only [← hji4] <;> (first | rfl | simp)) | (simp [*]; done), by repeat (first | exact Drawn0.refl _ | apply Drawn0.step)⟩
 ·rw [if_neg c3] at H
  exact absurd H (by simp)
mutual
def spec_laAll.l0 : Nat → List Int → Int → Int → Int → Int → Int → List Int → Option ((List (List Int)))
 | 0, _, _, _, _, _, _, _ => none
 | k + 1, x1, x2, x3, x9, x10, x11, x341000 => if x11 < x9 then (if 0 ≤ x9 then (if x9 < (x341000.length : Int) then ((spec_poIn.f (rd x341000 x9) x11).bind fun t348 => (if t348 = true then (if 0 ≤ x11 then (if x11 < (x1.length : Int) then ((spec_l1Most.f x10 (rd x1 x11)).bind fun t350 => (spec_laAll.l0 k x1 x2 x3 x9 t350 (wrap64 (x11 + 1)) x341000)) else (none)) else (none)) else (spec_laAll.l0 k x1 x2 x3 x9 x10 (wrap64 (x11 + 1)) x341000))) else (none)) else (none)) else (spec_laAll.l1 k x1 x2 x3 ([] : List (List Int)) x10 x341000)
def spec_laAll.l1 : Nat → List Int → Int → Int → List (List Int) → Int → List Int → Option ((List (List Int)))
 | 0, _, _, _, _, _, _ => none
 | k + 1, x1, x2, x3, x12, x13, x341000 => if x13 ≤ x2 then (spec_laAll.j2 k x1 x2 x3 x12 x13 (decide ((x12.length : Int) < x3)) x341000) else (spec_laAll.j2 k x1 x2 x3 x12 x13 false x341000)
def spec_laAll.j2 : Nat → List Int → Int → Int → List (List Int) → Int → Bool → List Int → Option ((List (List Int)))
 | 0, _, _, _, _, _, _, _ => none
 | k + 1, x1, x2, x3, x12, x13, x51, x341000 => if x51 = true then ((spec_l1Own.f x1).bind fun t351 => ((some (([x13] : List Int) : List Int)).bind fun y354 => (if t351.length + y354.length < 17592186044416 then ((spec_laAll.f k x341000 (t351 ++ y354) x2 (wrap64 (x3 - (x12.length : Int)))).bind fun t360 => (if x12.length + t360.length < 5864062014805 then (spec_laAll.l1 k x1 x2 x3 (x12 ++ t360) (wrap64 (x13 + 1)) x341000) else (none))) else (none)))) else (some x12)
def spec_laAll.f : Nat → List Int → List Int → Int → Int → Option ((List (List Int)))
 | 0, _, _, _, _ => none
 | k + 1, l0_0, l1, a2, a3 => if (l1.length : Int) = (l0_0.length : Int) then ((spec_l1Own.f l1).bind fun t341 => (some (([t341] : List (List Int))))) else (spec_laAll.l0 k l1 a2 a3 (l1.length : Int) 0 0 l0_0)
end
theorem spec_laAll.mono_l : ∀ k, (∀ y0 y1 y2 y3, LeO (spec_laAll.f k y0 y1 y2 y3) (spec_laAll.f (k + 1) y0 y1 y2 y3)) ∧ (∀ y0 y1 y2 y3 y4 y5 y6, LeO (spec_laAll.l0 k y0 y1 y2 y3 y4 y5 y6) (spec_laAll.l0 (k + 1) y0 y1 y2 y3 y4 y5 y6)) ∧ (∀ y0 y1 y2 y3 y4 y5, LeO (spec_laAll.l1 k y0 y1 y2 y3 y4 y5) (spec_laAll.l1 (k + 1) y0 y1 y2 y3 y4 y5)) ∧ (∀ y0 y1 y2 y3 y4 y5 y6, LeO (spec_laAll.j2 k y0 y1 y2 y3 y4 y5 y6) (spec_laAll.j2 (k + 1) y0 y1 y2 y3 y4 y5 y6))
 | 0 => ⟨fun _ _ _ _ r h => by simp [spec_laAll.f] at h, fun _ _ _ _ _ _ _ r h => by simp [spec_laAll.l0] at h, fun _ _ _ _ _ _ r h => by simp [spec_laAll.l1] at h, fun _ _ _ _ _ _ _ r h => by simp [spec_laAll.j2] at h⟩
 | k + 1 => by
  obtain ⟨ih0, ih1, ih2, ih3⟩ := spec_laAll.mono_l k
  refine ⟨?_, ?_, ?_, ?_⟩
  ·intro y0 y1 y2 y3
   unfold spec_laAll.f
   repeat' first
   | (with_reducible exact LeO.refl _)
   | (with_reducible exact LeO.none _)
   | (with_reducible refine LeO.ite ?_ ?_)
   | (with_reducible refine LeO.bind ?_ (fun _ => ?_))
   | exact ih0 _ _ _ _
   | exact ih1 _ _ _ _ _ _ _
   | exact ih2 _ _ _ _ _ _
   | exact ih3 _ _ _ _ _ _ _
   | exact LeO.none _
   | refine LeO.ite ?_ ?_
   | refine LeO.bind ?_ (fun _ => ?_)
  ·intro y0 y1 y2 y3 y4 y5 y6
   unfold spec_laAll.l0
   repeat' first
   | (with_reducible exact LeO.refl _)
   | (with_reducible exact LeO.none _)
   | (with_reducible refine LeO.ite ?_ ?_)
   | (with_reducible refine LeO.bind ?_ (fun _ => ?_))
   | exact ih0 _ _ _ _
   | exact ih1 _ _ _ _ _ _ _
   | exact ih2 _ _ _ _ _ _
   | exact ih3 _ _ _ _ _ _ _
   | exact LeO.none _
   | refine LeO.ite ?_ ?_
   | refine LeO.bind ?_ (fun _ => ?_)
  ·intro y0 y1 y2 y3 y4 y5
   unfold spec_laAll.l1
   repeat' first
   | (with_reducible exact LeO.refl _)
   | (with_reducible exact LeO.none _)
   | (with_reducible refine LeO.ite ?_ ?_)
   | (with_reducible refine LeO.bind ?_ (fun _ => ?_))
   | exact ih0 _ _ _ _
   | exact ih1 _ _ _ _ _ _ _
   | exact ih2 _ _ _ _ _ _
   | exact ih3 _ _ _ _ _ _ _
   | exact LeO.none _
   | refine LeO.ite ?_ ?_
   | refine LeO.bind ?_ (fun _ => ?_)
  ·intro y0 y1 y2 y3 y4 y5 y6
   unfold spec_laAll.j2
   repeat' first
   | (with_reducible exact LeO.refl _)
   | (with_reducible exact LeO.none _)
   | (with_reducible refine LeO.ite ?_ ?_)
   | (with_reducible refine LeO.bind ?_ (fun _ => ?_))
   | exact ih0 _ _ _ _
   | exact ih1 _ _ _ _ _ _ _
   | exact ih2 _ _ _ _ _ _
   | exact ih3 _ _ _ _ _ _ _
   | exact LeO.none _
   | refine LeO.ite ?_ ?_
   | refine LeO.bind ?_ (fun _ => ?_)
theorem spec_laAll.mono : ∀ a0 a1 a2 a3 k, LeO (spec_laAll.f k a0 a1 a2 a3) (spec_laAll.f (k + 1) a0 a1 a2 a3) := by
 intro a0 a1 a2 a3 k
 obtain ⟨ih0, ih1, ih2, ih3⟩ := spec_laAll.mono_l k
 exact ih0 a0 a1 a2 a3
def spec_laAll.T14 : Bool × List (List Nat × List Nat) := (true, [([], []), ([], []), ([], []), ([2], [2]), ([], []), ([4], [4]), ([3, 5, 3], [3, 5]), ([], []), ([], []), ([], []), ([9], [9]), ([8, 10], [8, 10]), ([1, 6, 7, 11, 6], [1, 6, 7, 11]), ([0, 12, 12], [0, 12]), ([13, 13, 0, 1, 2, 3, 4, 5, 6, 7, 8, 9, 10, 11, 12, 13], [0, 9, 13])])
def spec_laAll.B14 : List Nat := [0, 0, 0, 4, 0, 16, 60, 0, 0, 0, 512, 1792, 4094, 8191, 16383]
theorem spec_laAll.tab14 : rtab .any (opsOf Try.f74 14) = spec_laAll.T14 := by kernel_rfl
theorem spec_laAll.bits14 : waitsOk spec_laAll.T14.2 spec_laAll.B14 = true := by kernel_rfl
set_option maxHeartbeats 8000000 in
set_option maxRecDepth 100000 in
theorem spec_laAll.calls (k : Nat) : ∀ (A0_0 : Option Addr) (c0_0 : Nat) (l0_0 : List Int) (A1 : Option Addr) (c1 : Nat) (l1 : List Int) (a2 : Int) (a3 : Int) (r : List (List Int)) (w : World) (hr0_0 : Kd.C (Kd.int .i64) w A0_0 l0_0.length l0_0) (hc0_0 : l0_0.length ≤ c0_0) (hr1 : Kd.C (Kd.int .i64) w A1 l1.length l1) (hc1 : l1.length ≤ c1) (h : spec_laAll.f k l0_0 l1 a2 a3 = some r),
 Calls Try.prog 74 #[.agg #[.slice A0_0 l0_0.length c0_0], .slice A1 l1.length c1, .int .i64 a2, .int .i64 a3] w fun e w' => ∃ v0_ : Value, e = .returned (v0_) ∧ Kd.N (Kd.slice 3 (Kd.int .i64)) 24 w' w.heap.size (fun k_ => (w.heap.size ≤ k_)) v0_ r ∧ Below w.heap.size w w' := by
 induction k using Nat.strongRecOn with
 | _ k ih =>
 intro A0_0 c0_0 l0_0 A1 c1 l1 a2 a3 r w hr0_0 hc0_0 hr1 hc1 h
 cases k with
 | zero => exact absurd h (by simp [spec_laAll.f])
 | succ k =>
 simp only [spec_laAll.f] at h
 have hu26 := Try.underlying26
 have HR0_0 := am hr0_0
 have HC0_0 := am hc0_0
 clear hr0_0 hc0_0
 have HR1 := am hr1
 have HC1 := am hc1
 clear hr1 hc1
 have HB := am (Below.refl w.heap.size w)
 have H := h
 unfold spec_laAll.f at H
 clear h
 by_cases c5 : (l1.length : Int) = (l0_0.length : Int)
 ·rw [if_pos c5] at H
  have c5b0 : ((l1.length : Int) == (l0_0.length : Int)) = true := beq_iff_eq.mpr c5
  have c5b1 : ((l1.length : Int) != (l0_0.length : Int)) = false := bne_eq_false_iff_eq.mpr c5
  have c5b2 : (l1.length == l0_0.length) = true := by first | simpa using c5 | (simp at c5 ⊢; omega)
  clear c5
  replace H := Option.bind_eq_some_iff.mp H
  obtain ⟨t341, A60, H⟩ := H
  (try dsimp only at H)
  have A6 := am A60
  clear A60
  obtain ⟨y344, hy344⟩ : ∃ y_ : List (List Int), y_ = (([t341] : List (List Int))) := ⟨_, rfl⟩
  replace H : (some y344) = some r := by first | (rw [hy344]; with_reducible exact H) | (have H2_ := (Option.bind_some _ _).symm.trans H; rw [hy344]; with_reducible exact H2_) | (have H2_ := (Option.bind_some _ _).symm.trans H; with_reducible exact H2_) | with_reducible exact H | (rw [hy344]; exact H) | exact H
  have Ny344 := am hy344
  clear hy344
  obtain rfl := Option.some.inj H
  go_enter Try.func74, Try.ntmps74
  go_wp2_with (first | ((with_reducible refine gate_dst (N := 4) rfl ?_); refine qx (N := 4) (cs := #[.slice A0_0 l0_0.length c0_0]) (t := 26) ?_; intro gb340 hg w7 hbox hb; have n0_ := am (below_step qB hb); have BK340 := am (hbox); have GW340 := am (qg w hg); have GE340 := am (qg w hg); clear HB; have HB := n0_; clear n0_; clear hb hbox hg; have hcz8_0 := qz w7 BK340.out; have hfz8_0 := blk_frozen BK340.out 0) | ((with_reducible refine gate_callee (f := 125) rfl ?_); refine gL (some 22) Try.func125 #[.slice A1 l1.length c1] ?_; (with_reducible refine (spec_l1Own.calls _ _ l1 t341 _ ?side1 ?side2 A6.out).mono ?_); (case side1 => exact qC (Kd.C_below HR1.out HB.out)); (case side2 => exact HC1.out); rintro e w9 ⟨v342, rfl, ho0, hb⟩; refine ⟨_, rfl, ?_⟩; have HO343 := am (Kd.R_lower (Kd.R_newM (M := fun k_ => (w.heap.size ≤ k_)) ho0 (below_size qB) (fun k_ h_ => h_)) (below_size qB)); replace BK340 := am (blk_below (g := gb340) (o := .cells #[.slice A0_0 l0_0.length c0_0] 26 (0, 0)) (qb BK340.out) hb); replace HB := am (below_step qB hb); (try clear hb); (try clear hb2); (try clear hk); (try clear hi); (try clear ho0); obtain ⟨Ao10, co10, eo10⟩ := Kd.R_slice HO343.out; subst eo10) | ((with_reducible refine gate_dst (N := 23) rfl ?_); refine Kd.N_lit (Kd.slice 3 (Kd.int .i64)) _ 24 ?hg (N' := 23) ?hd (xs := ([t341] : List (List Int))) (inner := [.slice Ao10 t341.length co10]) (ok := (fun k_ => (w.heap.size ≤ k_) ∧ k_ ≠ gb340)) (okp := (fun k_ => (w.heap.size ≤ k_) ∧ k_ ≠ gb340)) ?hr ?hp (fun _ hk => hk) ((show ∀ k_, w9.heap.size ≤ k_ → (fun k_ => (w.heap.size ≤ k_) ∧ k_ ≠ gb340) k_ from fun k_ hk => ⟨(Nat.le_trans (below_size qB) hk), Kd.freshB (g := gb340) (o := .cells #[.slice A0_0 l0_0.length c0_0] 26 (0, 0)) (qb BK340.out) k_ hk⟩) _ (Nat.le_refl _)) (Below.refl _ _) (Nat.le_refl _) (by simp) ?_; (case hd => rfl); (case hg => rfl); (case hr => first | (go_simp; done) | (go_simp; rfl)); (case hp => exact (Reps.one (show Kd.FK (Kd.slice 3 (Kd.int .i64)) _ _ t341 [.slice Ao10 t341.length co10] from (Kd.FK_slice_mk (Kd.R_reads' (Kd.R_mono (ok' := (fun k_ => (w.heap.size ≤ k_) ∧ k_ ≠ gb340)) (Kd.R_types (HO343.out) BK340.out (by decide)) (fun k_ hk => ⟨hk.1.1, hk.2⟩))).2.1 (Kd.R_F (Kd.R_mono (ok' := (fun k_ => (w.heap.size ≤ k_) ∧ k_ ≠ gb340)) (Kd.R_types (HO343.out) BK340.out (by decide)) (fun k_ hk => ⟨hk.1.1, hk.2⟩))))) (Reps.none _ _))); intro v345 w11 ho12 hb hg_ hnew_; clear hg_ hnew_; (first | rw [← Ny344.out] at ho12 | (simp only [Int.reduceToNat] at ho12; rw [← Ny344.out] at ho12)); have HO346 := am (Kd.N_lower ho12 (below_size qB)); replace BK340 := am (blk_below (g := gb340) (o := .cells #[.slice A0_0 l0_0.length c0_0] 26 (0, 0)) (qb BK340.out) hb); replace HB := am (below_step qB hb); clear HO343; clear hb ho12))
  go_ret
  exact ⟨_, qr, by (with_reducible repeat (first | apply Kd.N_alloc | apply Kd.N_drewN | apply Kd.N_drew)); exact Kd.N_mono HO346.out (fun _ hk => hk.1), qB⟩
 ·rw [if_neg c5] at H
  have c5b0 : ((l1.length : Int) == (l0_0.length : Int)) = false := beq_eq_false_iff_ne.mpr c5
  have c5b1 : ((l1.length : Int) != (l0_0.length : Int)) = true := bne_iff_ne.mpr c5
  have c5b2 : (l1.length == l0_0.length) = false := by first | simpa using c5 | (simp at c5 ⊢; omega)
  have H' := am H
  clear H
  go_enter Try.func74, Try.ntmps74
  go_wp2_with (((with_reducible refine gate_dst (N := 4) rfl ?_); refine qx (N := 4) (cs := #[.slice A0_0 l0_0.length c0_0]) (t := 26) ?_; intro gb340 hg w13 hbox hb; have n0_ := am (below_step qB hb); have BK340 := am (hbox); have GW340 := am (qg w hg); have GE340 := am (qg w hg); clear HB; have HB := n0_; clear n0_; clear hb hbox hg; have hcz14_0 := qz w13 BK340.out; have hfz14_0 := blk_frozen BK340.out 0))
  go_loopg [10, 11] k (fun kq v10 v11 w' => ∃ (x10_1 : Int) (x11_1 : Int), v10 = .int .i64 x10_1 ∧ v11 = .int .i64 x11_1 ∧ Aside0 (spec_laAll.l0 kq l1 a2 a3 (l1.length : Int) x10_1 x11_1 l0_0 = some r) ∧ Aside0 (kq ≤ k) ∧ Aside0 (w'.heap[gb340]? = some (.cells #[(.slice A0_0 l0_0.length c0_0)] 26 (0, 0))) ∧ Aside0 (Below w.heap.size w w'))
  case atStart => exact ⟨(0), (0), qe, qe, H', ⟨Nat.le_refl _⟩, ⟨qb BK340.out⟩, ⟨qB⟩⟩
  case round =>
   clear H'
   try clear c1
   try clear p2
   try clear c5
   try clear c5b0
   try clear c5b1
   try clear c5b2
   try clear c7
   try clear c12
   try clear hcz14_0
   try clear hcz8_0
   try clear hfz14_0
   try clear hfz8_0
   obtain ⟨x10_1, x11_1, rfl, rfl, HA, HK1, BK340, HB⟩ := hrel
   cases gk with
   | zero => exact absurd HA.out (by simp [spec_laAll.l0])
   | succ k1 =>
    have H := HA.out
    clear HA
    simp only [spec_laAll.l0] at H
    by_cases c15 : x11_1 < (l1.length : Int)
    ·rw [if_pos c15] at H
     have c15b0 := decide_eq_true c15
     clear c15
     by_cases c16 : 0 ≤ (l1.length : Int)
     rotate_left
     ·rw [if_neg c16] at H
      exact absurd H (by simp)
     rw [if_pos c16] at H
     have c16b0 := decide_eq_true c16
     have c16b1 : decide (0 ≤ l1.length) = true := decide_eq_true (by omega)
     clear c16
     by_cases c17 : (l1.length : Int) < (l0_0.length : Int)
     rotate_left
     ·rw [if_neg c17] at H
      exact absurd H (by simp)
     rw [if_pos c17] at H
     have c17b0 := decide_eq_true c17
     have c17b1 : decide (l1.length < l0_0.length) = true := decide_eq_true (Int.ofNat_lt.mp c17)
     clear c17
     replace H := Option.bind_eq_some_iff.mp H
     obtain ⟨t348, A180, H⟩ := H
     (try dsimp only at H)
     have A18 := am A180
     clear A180
     by_cases c19 : t348 = true
     ·subst c19
      rw [if_pos rfl] at H
      by_cases c20 : 0 ≤ x11_1
      rotate_left
      ·rw [if_neg c20] at H
       exact absurd H (by simp)
      rw [if_pos c20] at H
      have c20b0 := decide_eq_true c20
      clear c20
      by_cases c21 : x11_1 < (l1.length : Int)
      rotate_left
      ·rw [if_neg c21] at H
       exact absurd H (by simp)
      rw [if_pos c21] at H
      have c21b0 := decide_eq_true c21
      clear c21
      replace H := Option.bind_eq_some_iff.mp H
      obtain ⟨t350, A220, H⟩ := H
      (try dsimp only at H)
      have A22 := am A220
      clear A220
      have H' := am H
      clear H
      have hcz23_0 := qz wr BK340.out
      have hfz23_0 := blk_frozen BK340.out 0
      have p347 : 0 ≤ ((l1.length : Int) : Int) := qd
      have q347 : (l1.length : Int) < (l0_0.length : Int) := qd
      obtain ⟨ad347, e347, hx347_0⟩ := Kd.at_int HR0_0.out (l1.length : Int) p347 q347
      cases e347
      replace hx347_0 := (HB.out.cell (World.block_lt_of_cell? w _ hx347_0)).trans hx347_0
      (try simp only [Go.IntWalk.toNatUp] at hx347_0)
      replace p347 := eq_true p347
      replace q347 := eq_true q347
      go_wp2_with (first | ((with_reducible refine gate_callee (f := 93) rfl ?_); refine gL (some 35) Try.func93 #[.int .i64 (rd l0_0 (l1.length : Int)), .int .i64 x11_1] ?_; (with_reducible refine (spec_poIn.calls (rd l0_0 (l1.length : Int)) x11_1 true _ A18.out).mono ?_); rintro e w' ⟨rfl, ⟨nd, rfl⟩⟩; refine ⟨_, rfl, ?_⟩; have p349 : 0 ≤ (x11_1 : Int) := qd; have q349 : x11_1 < (l1.length : Int) := qd; obtain ⟨ad349, e349, hx349_0⟩ := Kd.at_int HR1.out x11_1 p349 q349; cases e349; replace hx349_0 := (HB.out.cell (World.block_lt_of_cell? w _ hx349_0)).trans hx349_0; replace p349 := eq_true p349; replace q349 := eq_true q349) | ((with_reducible refine gate_callee (f := 95) rfl ?_); refine gL (some 41) Try.func95 #[.int .i64 x10_1, .int .i64 (rd l1 x11_1)] ?_; (with_reducible refine (spec_l1Most.calls x10_1 (rd l1 x11_1) t350 _ A22.out).mono ?_); rintro e w' ⟨rfl, ⟨nd, rfl⟩⟩; refine ⟨_, rfl, ?_⟩))
      go_roundg k1
      case measure => have := HK1.out; omega
      case rel => exact ⟨(t350), (wrap64 (x11_1 + 1)), qe, qe, H', ⟨by have := HK1.out; omega⟩, ⟨qb BK340.out⟩, ⟨qB⟩⟩
     ·replace c19 := Bool.eq_false_iff.mpr c19
      subst c19
      rw [if_neg (show ¬ (false = true) by decide)] at H
      have H' := am H
      clear H
      have hcz24_0 := qz wr BK340.out
      have hfz24_0 := blk_frozen BK340.out 0
      have p347 : 0 ≤ ((l1.length : Int) : Int) := qd
      have q347 : (l1.length : Int) < (l0_0.length : Int) := qd
      obtain ⟨ad347, e347, hx347_0⟩ := Kd.at_int HR0_0.out (l1.length : Int) p347 q347
      cases e347
      replace hx347_0 := (HB.out.cell (World.block_lt_of_cell? w _ hx347_0)).trans hx347_0
      (try simp only [Go.IntWalk.toNatUp] at hx347_0)
      replace p347 := eq_true p347
      replace q347 := eq_true q347
      go_wp2_with (((with_reducible refine gate_callee (f := 93) rfl ?_); refine gL (some 35) Try.func93 #[.int .i64 (rd l0_0 (l1.length : Int)), .int .i64 x11_1] ?_; (with_reducible refine (spec_poIn.calls (rd l0_0 (l1.length : Int)) x11_1 false _ A18.out).mono ?_); rintro e w' ⟨rfl, ⟨nd, rfl⟩⟩; refine ⟨_, rfl, ?_⟩))
      go_roundg k1
      case measure => have := HK1.out; omega
      case rel => exact ⟨(x10_1), (wrap64 (x11_1 + 1)), qe, qe, H', ⟨by have := HK1.out; omega⟩, ⟨qb BK340.out⟩, ⟨qB⟩⟩
    ·rw [if_neg c15] at H
     have c15b0 := decide_eq_false c15
     clear c15
     have H' := am H
     clear H
     go_wp2
     go_loopg [12, 13] k1 (fun kq v12 v13 w' => ∃ (x12_2 : List (List Int)) (x13_2 : Int), v13 = .int .i64 x13_2 ∧ Aside0 (spec_laAll.l1 kq l1 a2 a3 x12_2 x13_2 l0_0 = some r) ∧ Aside0 (kq ≤ k1) ∧ Aside0 (Kd.N (Kd.slice 3 (Kd.int .i64)) 24 w' w.heap.size (fun k_ => (w.heap.size ≤ k_) ∧ k_ ≠ gb340) v12 x12_2) ∧ Aside0 (w'.heap[gb340]? = some (.cells #[(.slice A0_0 l0_0.length c0_0)] 26 (0, 0))) ∧ Aside0 (Below w.heap.size w w'))
     case atStart => exact ⟨(([] : List (List Int))), (x10_1), qe, H', ⟨Nat.le_refl _⟩, ⟨by first | exact Kd.S_nil _ _ _ _ _ | exact Kd.N_nil _ _ _ _ _ | exact Kd.V_nil _ _ _ _ _ | exact Kd.Q_nil _ _ _ _ _ | exact Kd.R_nil _ _ _ _ _⟩, ⟨qb BK340.out⟩, ⟨qB⟩⟩
     case round =>
      clear H'
      try clear c1
      try clear c2
      try clear p2
      try clear p3
      try clear q3
      try clear hx3
      try clear c5
      try clear c5b0
      try clear c5b1
      try clear c5b2
      try clear p6
      try clear c7
      try clear c9
      try clear c12
      try clear c15
      try clear c15b0
      try clear c16
      try clear c16b0
      try clear c16b1
      try clear c17
      try clear c17b0
      try clear c17b1
      try clear c19
      try clear c20
      try clear c20b0
      try clear c21
      try clear c21b0
      try clear hcz14_0
      try clear hcz23_0
      try clear hcz24_0
      try clear hcz8_0
      try clear hfz14_0
      try clear hfz23_0
      try clear hfz24_0
      try clear hfz8_0
      try clear hx347_0
      try clear hx349_0
      try clear p2
      try clear p347
      try clear p349
      try clear q347
      try clear q349
      obtain ⟨x12_2, x13_2, rfl, HA, HK2, HO_12, BK340, HB⟩ := hrel
      cases gk with
      | zero => exact absurd HA.out (by simp [spec_laAll.l1])
      | succ k2 =>
       have H := HA.out
       clear HA
       simp only [spec_laAll.l1] at H
       have HC25 := am H
       clear H
       go_upto_region 12 with (fail)
       go_cut [51] (fun v51 wc => ∃ (kq : Nat) (x51_24 : Bool), v51 = .bool x51_24 ∧ Aside0 (spec_laAll.j2 kq l1 a2 a3 x12_2 x13_2 x51_24 l0_0 = some r) ∧ Aside0 (kq ≤ k2) ∧ Aside0 (Kd.N (Kd.slice 3 (Kd.int .i64)) 24 wc w.heap.size (fun k_ => (w.heap.size ≤ k_) ∧ k_ ≠ gb340) u12 x12_2) ∧ Aside0 (wc.heap[gb340]? = some (.cells #[(.slice A0_0 l0_0.length c0_0)] 26 (0, 0))) ∧ Aside0 (Below w.heap.size w wc))
       case first =>
        have H := HC25.out
        clear HC25
        by_cases c26 : x13_2 ≤ a2
        ·rw [if_pos c26] at H
         have c26b0 := decide_eq_true c26
         clear c26
         (first | rw [c26b0] | (simp only [i64_w, i32_w]; rw [c26b0]) | skip)
         have H' := am H
         clear H
         obtain ⟨Ao27, co27, eo27⟩ := Kd.N_slice HO_12.out
         subst eo27
         go_wp2
         go_meet
         case rel => exact ⟨_, (decide ((x12_2.length : Int) < a3)), qe, H', ⟨by have := HK1.out; have := HK2.out; first | omega | exact Nat.le_refl _⟩, ⟨by (with_reducible repeat (first | apply Kd.N_alloc | apply Kd.N_drewN | apply Kd.N_drew)); exact HO_12.out⟩, ⟨qb BK340.out⟩, ⟨qB⟩⟩
        ·rw [if_neg c26] at H
         have c26b0 := decide_eq_false c26
         clear c26
         (first | rw [c26b0] | (simp only [i64_w, i32_w]; rw [c26b0]) | skip)
         have H' := am H
         clear H
         go_wp2
         go_meet
         case rel => exact ⟨_, (false), qe, H', ⟨by have := HK1.out; have := HK2.out; first | omega | exact Nat.le_refl _⟩, ⟨by (with_reducible repeat (first | apply Kd.N_alloc | apply Kd.N_drewN | apply Kd.N_drew)); exact HO_12.out⟩, ⟨qb BK340.out⟩, ⟨qB⟩⟩
       case rest =>
        clear HC25
        try clear c1
        try clear c2
        try clear p2
        try clear p3
        try clear q3
        try clear hx3
        try clear c5
        try clear c5b0
        try clear c5b1
        try clear c5b2
        try clear p6
        try clear c7
        try clear c9
        try clear c12
        try clear c15
        try clear c15b0
        try clear c16
        try clear c16b0
        try clear c16b1
        try clear c17
        try clear c17b0
        try clear c17b1
        try clear c19
        try clear c20
        try clear c20b0
        try clear c21
        try clear c21b0
        try clear c26
        try clear c26b0
        try clear hcz14_0
        try clear hcz23_0
        try clear hcz24_0
        try clear hcz8_0
        try clear hfz14_0
        try clear hfz23_0
        try clear hfz24_0
        try clear hfz8_0
        try clear hx347_0
        try clear hx349_0
        try clear p2
        try clear p3
        try clear p347
        try clear p349
        try clear p6
        try clear q3
        try clear q347
        try clear q349
        obtain ⟨kq, x51_24, rfl, HA, HJ24, HO_12, BK340, HB⟩ := hcut
        cases kq with
        | zero => exact absurd HA.out (by simp [spec_laAll.j2])
        | succ kj24 =>
         have H := HA.out
         clear HA
         simp only [spec_laAll.j2] at H
         by_cases c28 : x51_24 = true
         ·subst c28
          rw [if_pos rfl] at H
          replace H := Option.bind_eq_some_iff.mp H
          obtain ⟨t351, A290, H⟩ := H
          (try dsimp only at H)
          have A29 := am A290
          clear A290
          obtain ⟨y354, hy354⟩ : ∃ y_ : List Int, y_ = (([x13_2] : List Int)) := ⟨_, rfl⟩
          replace H : (if t351.length + y354.length < 17592186044416 then ((spec_laAll.f kj24 l0_0 (t351 ++ y354) a2 (wrap64 (a3 - (x12_2.length : Int)))).bind fun t360 => (if x12_2.length + t360.length < 5864062014805 then (spec_laAll.l1 kj24 l1 a2 a3 (x12_2 ++ t360) (wrap64 (x13_2 + 1)) l0_0) else (none))) else (none)) = some r := by first | (rw [hy354]; with_reducible exact H) | (have H2_ := (Option.bind_some _ _).symm.trans H; rw [hy354]; with_reducible exact H2_) | (have H2_ := (Option.bind_some _ _).symm.trans H; with_reducible exact H2_) | with_reducible exact H | (rw [hy354]; exact H) | exact H
          have Ny354 := am hy354
          clear hy354
          by_cases c30 : t351.length + y354.length < 17592186044416
          rotate_left
          ·rw [if_neg c30] at H
           exact absurd H (by simp)
          rw [if_pos c30] at H
          have LMc30 := am c30
          clear c30
          obtain ⟨y357, hy357⟩ : ∃ y_ : List Int, y_ = (t351 ++ y354) := ⟨_, rfl⟩
          replace H : ((spec_laAll.f kj24 l0_0 y357 a2 (wrap64 (a3 - (x12_2.length : Int)))).bind fun t360 => (if x12_2.length + t360.length < 5864062014805 then (spec_laAll.l1 kj24 l1 a2 a3 (x12_2 ++ t360) (wrap64 (x13_2 + 1)) l0_0) else (none))) = some r := by first | (rw [hy357]; with_reducible exact H) | (have H2_ := (Option.bind_some _ _).symm.trans H; rw [hy357]; with_reducible exact H2_) | (have H2_ := (Option.bind_some _ _).symm.trans H; with_reducible exact H2_) | with_reducible exact H | (rw [hy357]; exact H) | exact H
          have Ny357 := am hy357
          clear hy357
          replace H := Option.bind_eq_some_iff.mp H
          obtain ⟨t360, A310, H⟩ := H
          (try dsimp only at H)
          have A31 := am A310
          clear A310
          by_cases c32 : x12_2.length + t360.length < 5864062014805
          rotate_left
          ·rw [if_neg c32] at H
           exact absurd H (by simp)
          rw [if_pos c32] at H
          have LMc32 := am c32
          clear c32
          obtain ⟨y363, hy363⟩ : ∃ y_ : List (List Int), y_ = (x12_2 ++ t360) := ⟨_, rfl⟩
          replace H : (spec_laAll.l1 kj24 l1 a2 a3 y363 (wrap64 (x13_2 + 1)) l0_0) = some r := by first | (rw [hy363]; with_reducible exact H) | (have H2_ := (Option.bind_some _ _).symm.trans H; rw [hy363]; with_reducible exact H2_) | (have H2_ := (Option.bind_some _ _).symm.trans H; with_reducible exact H2_) | with_reducible exact H | (rw [hy363]; exact H) | exact H
          have Ny363 := am hy363
          clear hy363
          have H' := am H
          clear H
          obtain ⟨Ao33, co33, eo33⟩ := Kd.N_slice HO_12.out
          subst eo33
          try go_wp2
          have n0_ := am (Kd.N_drew HO_12.out)
          have n1_ := am (blk_drew BK340.out)
          have n2_ := am (below_drew1 HB.out)
          clear HO_12
          clear BK340
          clear HB
          have HO_12 := n0_
          have BK340 := n1_
          have HB := n2_
          clear n0_ n1_ n2_
          refine start_ (n := 15) (S := fun w' => w'.cell? ⟨gb340, 0, none⟩ = some (.slice A0_0 l0_0.length c0_0)) (ds := []) #[false, false, false, false, false, false, false, false, false, false, false, false, false, false, false] (by kernel_rfl) rfl rfl ((blk_cell BK340.out 0).trans rfl) (fun hHeld => ?_); refine with_tabW spec_laAll.tab14 spec_laAll.bits14 (fun HT_ HW_ => ?_)
          generalize wc.drew = w34 at HO_12 BK340 HB hHeld ⊢
          refine pure_ (i := 0) (N := some 54) (v := ?_) (a' := ?_) #[true, false, false, false, false, false, false, false, false, false, false, false, false, false, false] rfl rfl (any_of HT_.out (by kernel_rfl)) (fun _ _ _ h => h) (Or.inl ⟨by rfl, ?_⟩) ?_ ?_
          rotate_left
          ·intro w'
           go_simp
           with_reducible rfl
          rotate_left
          ·exact qP
          refine pure_ (i := 2) (N := some 56) (v := ?_) (a' := ?_) #[true, false, true, false, false, false, false, false, false, false, false, false, false, false, false] rfl rfl (any_of HT_.out (by kernel_rfl)) (fun _ _ _ h => h) (Or.inl ⟨by rfl, ?_⟩) ?_ ?_
          rotate_left
          ·intro w'
           go_simp
           with_reducible rfl
          rotate_left
          ·exact qP
          refine pure_ (i := 4) (N := some 58) (v := ?_) (a' := ?_) #[true, false, true, false, true, false, false, false, false, false, false, false, false, false, false] rfl rfl (any_of HT_.out (by kernel_rfl)) (fun _ _ _ h => h) (Or.inl ⟨by rfl, ?_⟩) ?_ ?_
          rotate_left
          ·intro w'
           go_simp
           with_reducible rfl
          rotate_left
          ·exact qP
          refine pure_ (i := 7) (N := some 61) (v := ?_) (a' := ?_) #[true, false, true, false, true, false, false, true, false, false, false, false, false, false, false] rfl rfl (any_of HT_.out (by kernel_rfl)) (fun _ _ _ h => h) (Or.inl ⟨by rfl, ?_⟩) ?_ ?_
          rotate_left
          ·intro w'
           go_simp
           with_reducible rfl
          rotate_left
          ·exact qP
          refine pure_ (i := 8) (N := some 62) (v := ?_) (a' := ?_) #[true, false, true, false, true, false, false, true, true, false, false, false, false, false, false] rfl rfl (any_of HT_.out (by kernel_rfl)) (fun _ _ _ h => h) (Or.inl ⟨by rfl, ?_⟩) ?_ ?_
          rotate_left
          ·intro w'
           go_simp
           with_reducible rfl
          rotate_left
          ·exact qP
          refine pure_ (i := 9) (N := some 63) (v := ?_) (a' := ?_) #[true, false, true, false, true, false, false, true, true, true, false, false, false, false, false] rfl rfl (any_of HT_.out (by kernel_rfl)) (fun _ _ _ h => h) (Or.inl ⟨by rfl, ?_⟩) ?_ ?_
          rotate_left
          ·intro w'
           go_simp
           with_reducible rfl
          rotate_left
          ·exact qP
          refine pure_ (i := 10) (N := some 64) (v := ?_) (a' := ?_) #[true, false, true, false, true, false, false, true, true, true, true, false, false, false, false] rfl rfl (any_of HT_.out (by kernel_rfl)) (fun _ _ _ h => h) (Or.inl ⟨by rfl, ?_⟩) ?_ ?_
          rotate_left
          ·intro w'
           go_simp
           with_reducible rfl
          rotate_left
          ·exact qP
          refine pure_ (i := 11) (N := some 65) (v := ?_) (a' := ?_) #[true, false, true, false, true, false, false, true, true, true, true, true, false, false, false] rfl rfl (any_of HT_.out (by kernel_rfl)) (fun _ _ _ h => h) (Or.inl ⟨by rfl, ?_⟩) ?_ ?_
          rotate_left
          ·intro w'
           go_simp
           with_reducible rfl
          rotate_left
          ·exact qP
          refine take_ (i := 1) (N := some 55) (v := ?_) (a' := ?_) #[true, true, true, false, true, false, false, true, true, true, true, true, false, false, false] rfl rfl (take_ofW HT_.out HW_.out (by kernel_rfl)) (fun _ _ _ h => h) (Or.inl ⟨by rfl, ?_⟩) hHeld ?_ ?_
          rotate_left
          ·intro w' s0
           go_simp
           with_reducible rfl
          rotate_left
          ·exact qP
          refine join_ (σ := Value × Value) 4 #[true, true, true, true, true, true, false, true, true, true, true, true, false, false, false] (fun s_ => [(57, s_.1), (59, s_.2)]) (fun s_ w' => (w'.cell? ⟨gb340, 0, none⟩ = some (.slice A0_0 l0_0.length c0_0)) ∧ (Kd.R (Kd.int .i64) 3 w' w.heap.size (fun k_ => (w.heap.size ≤ k_) ∧ some k_ ≠ (s_.2 : Value).ownBlock) s_.1 t351) ∧ (Kd.R (Kd.int .i64) 3 w' w.heap.size (fun k_ => (w.heap.size ≤ k_) ∧ some k_ ≠ (s_.1 : Value).ownBlock) s_.2 y354) ∧ (Kd.N (Kd.slice 3 (Kd.int .i64)) 24 w' w.heap.size (fun k_ => (w.heap.size ≤ k_) ∧ some k_ ≠ (s_.1 : Value).ownBlock ∧ some k_ ≠ (s_.2 : Value).ownBlock ∧ k_ ≠ gb340) (.slice Ao33 x12_2.length co33) x12_2) ∧ (w'.heap[gb340]? = some (.cells #[.slice A0_0 l0_0.length c0_0] 26 (0, 0))) ∧ (Below w.heap.size w w')) ?_ ?_
          rotate_left
          ·intro hCont
           refine two_ (i := 3) (j := 5) (Ni := some 57) (Nj := some 59) #[true, true, true, true, true, false, false, true, true, true, true, true, false, false, false] #[true, true, true, false, true, true, false, true, true, true, true, true, false, false, false] rfl rfl rfl rfl (two_of HT_.out (by kernel_rfl)) (by decide) (by decide) (fun K hK => ?_) (fun K hK => ?_)
           ·skip
            refine goes_ Try.func125 (by kernel_rfl) rfl #[.slice A1 l1.length c1] (by rfl) rfl rfl qA ?_
            with_reducible refine (spec_l1Own.calls _ _ l1 t351 _ ?side1 ?side2 A29.out).mono ?_
            (case side1 => exact qC (Kd.C_below HR1.out HB.out))
            (case side2 => exact HC1.out)
            rintro e w35 ⟨v352, rfl, ho0, hb⟩
            refine ⟨_, rfl, ?_⟩
            have n0_ := am (Kd.N_elder' (by (with_reducible repeat (first | apply Kd.N_alloc | apply Kd.N_drewN | apply Kd.N_drew)); exact HO_12.out) (Kd.R_base ho0) hb)
            have n1_ := am (Kd.R_lower (Kd.R_newM (M := fun k_ => (w.heap.size ≤ k_)) ho0 (below_size qB) (fun k_ h_ => h_)) (below_size qB))
            have n2_ := am (blk_below (g := gb340) (o := .cells #[.slice A0_0 l0_0.length c0_0] 26 (0, 0)) (qb BK340.out) hb)
            have n3_ := am (below_step qB hb)
            clear HO_12
            clear BK340
            clear HB
            have HO_12 := n0_
            have HO353 := n1_
            have BK340 := n2_
            have HB := n3_
            clear n0_ n1_ n2_ n3_
            (try clear hb)
            (try clear hb2)
            (try clear hk)
            (try clear hi)
            (try clear ho0)
            refine hK.out _ _ ((blk_cell BK340.out 0).trans rfl) (fun hHeld => ?_)
            clear hK K
            refine norm_ (a' := ?_) ?_ ?_
            rotate_left
            ·show Act.put _ (some 57) _ = _
             simp only [Act.put, List.setIfInBounds_toArray, List.set_cons_zero, List.set_cons_succ, i64_w, i32_w]
             rfl
            refine one_ (i := 5) (N := some 59) #[true, true, true, true, true, true, false, true, true, true, true, true, false, false, false] rfl rfl (one_of HT_.out (by kernel_rfl)) (by decide) (fun K hK => ?_)
            refine Kd.R_lit_step (Kd.int .i64) _ 3 ?hg (N := 59) ?hd (xs := ([x13_2] : List Int)) (inner := [.int .i64 x13_2]) (ok := fun _ => True) (okp := fun _ => True) ?hr ?hp (fun _ hk => hk) trivial (Below.refl _ _) (Nat.le_refl _) (by simp) ?_; (case hd => rfl); (case hg => rfl); (case hr => first | (go_simp; done) | (go_simp; rfl)); (case hp => exact (Reps.one (show Kd.M (Kd.int .i64) _ _ _ x13_2 [.int .i64 x13_2] from rfl) (Reps.none _ _)))
            intro v355 w36 ho37 hb hg_ hnew_
            clear hg_ hnew_
            (first | rw [← Ny354.out] at ho37 | (simp only [Int.reduceToNat] at ho37; rw [← Ny354.out] at ho37))
            have n0_ := am (Kd.N_elder' (by (with_reducible repeat (first | apply Kd.N_alloc | apply Kd.N_drewN | apply Kd.N_drew)); exact HO_12.out) (Kd.R_base ho37) hb)
            have n1_ := am (Kd.R_elder' (qR HO353.out) (Kd.R_base ho37) hb)
            have n2_ := am (Kd.R_lower (Kd.R_new' (Kd.R_newM (M := fun k_ => (w.heap.size ≤ k_)) ho37 (below_size qB) (fun k_ h_ => h_)) (Kd.R_lt (qR HO353.out))) (below_size qB))
            have n3_ := am (blk_below (g := gb340) (o := .cells #[.slice A0_0 l0_0.length c0_0] 26 (0, 0)) (qb BK340.out) hb)
            have n4_ := am (below_step qB hb)
            clear HO_12
            clear HO353
            clear BK340
            clear HB
            have HO_12 := n0_
            have HO353 := n1_
            have HO356 := n2_
            have BK340 := n3_
            have HB := n4_
            clear n0_ n1_ n2_ n3_ n4_
            clear hb ho37
            refine hK.out _ _ ((blk_cell BK340.out 0).trans rfl) (fun hHeld => ?_)
            clear hK K
            refine norm_ (a' := ?_) ?_ ?_
            rotate_left
            ·show Act.put _ (some 59) _ = _
             simp only [Act.put, List.setIfInBounds_toArray, List.set_cons_zero, List.set_cons_succ, i64_w, i32_w]
             rfl
            exact norm_ (by simp only [putAll, Act.put, List.setIfInBounds_toArray, List.set_cons_zero, List.set_cons_succ]) (hCont (v352, v355) _ ⟨hHeld, (qR (Kd.R_mono HO353.out (fun _ hk => ⟨hk.1.1, hk.2⟩))), (qR (Kd.R_mono HO356.out (fun _ hk => ⟨hk.1.1, hk.2⟩))), (by (with_reducible repeat (first | apply Kd.N_alloc | apply Kd.N_drewN | apply Kd.N_drew)); exact Kd.N_mono HO_12.out (fun _ hk => ⟨hk.1.1.1, ⟨hk.1.2, ⟨hk.2, hk.1.1.2⟩⟩⟩)), (qb BK340.out), qB⟩)
           ·skip
            refine Kd.R_lit_step (Kd.int .i64) _ 3 ?hg (N := 59) ?hd (xs := ([x13_2] : List Int)) (inner := [.int .i64 x13_2]) (ok := fun _ => True) (okp := fun _ => True) ?hr ?hp (fun _ hk => hk) trivial (Below.refl _ _) (Nat.le_refl _) (by simp) ?_; (case hd => rfl); (case hg => rfl); (case hr => first | (go_simp; done) | (go_simp; rfl)); (case hp => exact (Reps.one (show Kd.M (Kd.int .i64) _ _ _ x13_2 [.int .i64 x13_2] from rfl) (Reps.none _ _)))
            intro v355 w35 ho36 hb hg_ hnew_
            clear hg_ hnew_
            (first | rw [← Ny354.out] at ho36 | (simp only [Int.reduceToNat] at ho36; rw [← Ny354.out] at ho36))
            have n0_ := am (Kd.N_elder' (by (with_reducible repeat (first | apply Kd.N_alloc | apply Kd.N_drewN | apply Kd.N_drew)); exact HO_12.out) (Kd.R_base ho36) hb)
            have n1_ := am (Kd.R_lower (Kd.R_newM (M := fun k_ => (w.heap.size ≤ k_)) ho36 (below_size qB) (fun k_ h_ => h_)) (below_size qB))
            have n2_ := am (blk_below (g := gb340) (o := .cells #[.slice A0_0 l0_0.length c0_0] 26 (0, 0)) (qb BK340.out) hb)
            have n3_ := am (below_step qB hb)
            clear HO_12
            clear BK340
            clear HB
            have HO_12 := n0_
            have HO356 := n1_
            have BK340 := n2_
            have HB := n3_
            clear n0_ n1_ n2_ n3_
            clear hb ho36
            refine hK.out _ _ ((blk_cell BK340.out 0).trans rfl) (fun hHeld => ?_)
            clear hK K
            refine norm_ (a' := ?_) ?_ ?_
            rotate_left
            ·show Act.put _ (some 59) _ = _
             simp only [Act.put, List.setIfInBounds_toArray, List.set_cons_zero, List.set_cons_succ, i64_w, i32_w]
             rfl
            refine one_ (i := 3) (N := some 57) #[true, true, true, true, true, true, false, true, true, true, true, true, false, false, false] rfl rfl (one_of HT_.out (by kernel_rfl)) (by decide) (fun K hK => ?_)
            refine goes_ Try.func125 (by kernel_rfl) rfl #[.slice A1 l1.length c1] (by rfl) rfl rfl qA ?_
            with_reducible refine (spec_l1Own.calls _ _ l1 t351 _ ?side1 ?side2 A29.out).mono ?_
            (case side1 => exact qC (Kd.C_below HR1.out HB.out))
            (case side2 => exact HC1.out)
            rintro e w37 ⟨v352, rfl, ho0, hb⟩
            refine ⟨_, rfl, ?_⟩
            have n0_ := am (Kd.N_elder' (by (with_reducible repeat (first | apply Kd.N_alloc | apply Kd.N_drewN | apply Kd.N_drew)); exact HO_12.out) (Kd.R_base ho0) hb)
            have n1_ := am (Kd.R_elder' (qR HO356.out) (Kd.R_base ho0) hb)
            have n2_ := am (Kd.R_lower (Kd.R_new' (Kd.R_newM (M := fun k_ => (w.heap.size ≤ k_)) ho0 (below_size qB) (fun k_ h_ => h_)) (Kd.R_lt (qR HO356.out))) (below_size qB))
            have n3_ := am (blk_below (g := gb340) (o := .cells #[.slice A0_0 l0_0.length c0_0] 26 (0, 0)) (qb BK340.out) hb)
            have n4_ := am (below_step qB hb)
            clear HO_12
            clear HO356
            clear BK340
            clear HB
            have HO_12 := n0_
            have HO356 := n1_
            have HO353 := n2_
            have BK340 := n3_
            have HB := n4_
            clear n0_ n1_ n2_ n3_ n4_
            (try clear hb)
            (try clear hb2)
            (try clear hk)
            (try clear hi)
            (try clear ho0)
            refine hK.out _ _ ((blk_cell BK340.out 0).trans rfl) (fun hHeld => ?_)
            clear hK K
            refine norm_ (a' := ?_) ?_ ?_
            rotate_left
            ·show Act.put _ (some 57) _ = _
             simp only [Act.put, List.setIfInBounds_toArray, List.set_cons_zero, List.set_cons_succ, i64_w, i32_w]
             rfl
            exact norm_ (by simp only [putAll, Act.put, List.setIfInBounds_toArray, List.set_cons_zero, List.set_cons_succ]) (hCont (v352, v355) _ ⟨hHeld, (qR (Kd.R_mono HO353.out (fun _ hk => ⟨hk.1.1, hk.2⟩))), (qR (Kd.R_mono HO356.out (fun _ hk => ⟨hk.1.1, hk.2⟩))), (by (with_reducible repeat (first | apply Kd.N_alloc | apply Kd.N_drewN | apply Kd.N_drew)); exact Kd.N_mono HO_12.out (fun _ hk => ⟨hk.1.1.1, ⟨hk.2, ⟨hk.1.2, hk.1.1.2⟩⟩⟩)), (qb BK340.out), qB⟩)
          rintro ⟨v352, v355⟩ w38 ⟨hS_, h0_, h1_, h2_, h3_, h4_⟩
          have n0_ : Aside0 (Kd.R (Kd.int .i64) 3 w38 w.heap.size (fun k_ => (w.heap.size ≤ k_) ∧ some k_ ≠ (v355 : Value).ownBlock) v352 t351) := ⟨h0_⟩
          have n1_ : Aside0 (Kd.R (Kd.int .i64) 3 w38 w.heap.size (fun k_ => (w.heap.size ≤ k_) ∧ some k_ ≠ (v352 : Value).ownBlock) v355 y354) := ⟨h1_⟩
          have n2_ : Aside0 (Kd.N (Kd.slice 3 (Kd.int .i64)) 24 w38 w.heap.size (fun k_ => (w.heap.size ≤ k_) ∧ some k_ ≠ (v352 : Value).ownBlock ∧ some k_ ≠ (v355 : Value).ownBlock ∧ k_ ≠ gb340) (.slice Ao33 x12_2.length co33) x12_2) := ⟨h2_⟩
          have n3_ : Aside0 (w38.heap[gb340]? = some (.cells #[.slice A0_0 l0_0.length c0_0] 26 (0, 0))) := ⟨h3_⟩
          have n4_ : Aside0 (Below w.heap.size w w38) := ⟨h4_⟩
          clear HO_12
          clear BK340
          clear HB
          clear h0_ h1_ h2_ h3_ h4_
          have HO353 := n0_
          have HO356 := n1_
          have HO_12 := n2_
          have BK340 := n3_
          have HB := n4_
          clear n0_ n1_ n2_ n3_ n4_
          have hHeld : w38.cell? ⟨gb340, 0, none⟩ = some (.slice A0_0 l0_0.length c0_0) := hS_
          obtain ⟨Ao40, co40, eo40⟩ := Kd.R_slice HO356.out
          (first | subst eo40 | (injection eo40 with f1_ f2_ f3_; have f4_ := f1_.symm; have f5_ := f3_.symm; clear f1_ f2_ f3_; subst f4_; subst f5_))
          refine norm_ (a' := ?_) ?_ ?_
          rotate_left
          ·simp only [putAll, Act.put, List.setIfInBounds_toArray, List.set_cons_zero, List.set_cons_succ]
           rfl
          refine one_ (i := 6) (N := some 60) #[true, true, true, true, true, true, true, true, true, true, true, true, false, false, false] rfl rfl (one_of HT_.out (by kernel_rfl)) (by decide) (fun K hK => ?_)
          refine Kd.R_append_rows_step (Kd.int .i64) (w0 := w) w.heap.size (by rfl) (.tmp 57) (.tmp 59) 24 3 (.int .i64 0) 8 rfl Try.underlying24 info3 rfl (by decide) (by omega) v352 t351 y354 _ _ _ (fun k_ => (w.heap.size ≤ k_) ∧ some k_ ≠ (.slice Ao40 y354.length co40 : Value).ownBlock) (fun _ => False) rfl rfl ?aO ?aR (fun _ _ h => h) (fun _ h => h.elim) ?aF ?aB ?aS ?aL ?_
          (case aR => exact qC (Kd.R_reads' HO356.out).2.2)
          (case aB => exact qB)
          (case aF => exact (fun k_ hk => ⟨(Nat.le_trans (below_size qB) hk), Kd.fresh' (Kd.R_lt (qR HO356.out)) k_ hk⟩))
          (case aO => exact (qR HO353.out))
          (case aS => exact (below_size qB))
          (case aL => have := LMc30.out; omega)
          intro v358 w39 ho hb hg hat
          rw [← Ny357.out] at ho
          have n0_ := am (Kd.N_afterv (ok := (fun k_ => (w.heap.size ≤ k_) ∧ some k_ ≠ (.slice Ao40 y354.length co40 : Value).ownBlock ∧ k_ ≠ gb340)) (by (with_reducible repeat (first | apply Kd.N_alloc | apply Kd.N_drewN | apply Kd.N_drew)); exact Kd.N_mono HO_12.out (fun _ hk => ⟨⟨hk.1, ⟨hk.2.2.1, hk.2.2.2⟩⟩, hk.2.1⟩)) hg hat)
          have n1_ := am (blk_grown (g := gb340) (o := .cells #[.slice A0_0 l0_0.length c0_0] 26 (0, 0)) (qb BK340.out) hg (Kd.R_ne HO353.out BK340.out (by decide)))
          have n2_ := am (Kd.R_after (ok := (fun k_ => (w.heap.size ≤ k_))) (qR HO356.out) hg hat)
          have n3_ := am (hb)
          have n4_ := am (ho)
          clear HO_12
          clear BK340
          clear HO356
          clear HB
          clear HO353
          have HO_12 := n0_
          have BK340 := n1_
          have HO356 := n2_
          have HB := n3_
          have HO359 := n4_
          clear n0_ n1_ n2_ n3_ n4_
          clear ho hb hg hat
          obtain ⟨Ao41, co41, eo41⟩ := Kd.R_slice HO359.out
          (first | subst eo41 | (injection eo41 with f1_ f2_ f3_; have f4_ := f1_.symm; have f5_ := f3_.symm; clear f1_ f2_ f3_; subst f4_; subst f5_))
          refine hK.out _ _ ((blk_cell BK340.out 0).trans rfl) (fun hHeld => ?_)
          clear hK K
          refine norm_ (a' := ?_) ?_ ?_
          rotate_left
          ·show Act.put _ (some 60) _ = _
           simp only [Act.put, List.setIfInBounds_toArray, List.set_cons_zero, List.set_cons_succ, i64_w, i32_w]
           rfl
          refine one_ (i := 12) (N := some 66) #[true, true, true, true, true, true, true, true, true, true, true, true, true, false, false] rfl rfl (one_of HT_.out (by kernel_rfl)) (by decide) (fun K hK => ?_)
          refine goes_ Try.func74 (by kernel_rfl) rfl #[.agg #[.slice A0_0 l0_0.length c0_0], .slice Ao41 y357.length co41, .int .i64 a2, .int .i64 (wrap64 (a3 - (x12_2.length : Int)))] (by rfl) rfl rfl qA ?_
          with_reducible refine (ih kj24 (by have := HK1.out; have := HK2.out; have := HJ24.out; omega) _ _ l0_0 _ _ y357 a2 (wrap64 (a3 - (x12_2.length : Int))) t360 _ ?side1 ?side2 ?side3 ?side4 A31.out).mono ?_
          (case side1 => exact qC (Kd.C_below HR0_0.out HB.out))
          (case side2 => exact HC0_0.out)
          (case side3 => exact qC (Kd.R_reads' HO359.out).2.2)
          (case side4 => exact (Kd.R_reads' HO359.out).2.1)
          rintro e w42 ⟨v361, rfl, ho0, hb⟩
          refine ⟨_, rfl, ?_⟩
          have n0_ := am (Kd.N_elder' (by (with_reducible repeat (first | apply Kd.N_alloc | apply Kd.N_drewN | apply Kd.N_drew)); exact HO_12.out) (Kd.N_base ho0) hb)
          have n1_ := am (Kd.R_below (qR HO356.out) hb)
          have n2_ := am (Kd.R_below (qR HO359.out) hb)
          have n3_ := am (Kd.N_lower (Kd.N_mono (ok' := fun k_ => (w.heap.size ≤ k_) ∧ some k_ ≠ (.slice Ao33 x12_2.length co33 : Value).ownBlock ∧ some k_ ≠ (.slice Ao40 y354.length co40 : Value).ownBlock ∧ some k_ ≠ (.slice Ao41 y357.length co41 : Value).ownBlock ∧ k_ ≠ gb340) ho0 (fun k_ hk_ => ⟨(Nat.le_trans (below_size qB) hk_), (Kd.fresh' (Kd.N_lt (by (with_reducible repeat (first | apply Kd.N_alloc | apply Kd.N_drewN | apply Kd.N_drew)); exact HO_12.out)) k_ hk_), (Kd.fresh' (Kd.R_lt (qR HO356.out)) k_ hk_), (Kd.fresh' (Kd.R_lt (qR HO359.out)) k_ hk_), (Kd.freshB (g := gb340) (o := .cells #[.slice A0_0 l0_0.length c0_0] 26 (0, 0)) (qb BK340.out) k_ hk_)⟩)) (below_size qB))
          have n4_ := am (blk_below (g := gb340) (o := .cells #[.slice A0_0 l0_0.length c0_0] 26 (0, 0)) (qb BK340.out) hb)
          have n5_ := am (below_step qB hb)
          clear HO_12
          clear HO356
          clear HO359
          clear BK340
          clear HB
          have HO_12 := n0_
          have HO356 := n1_
          have HO359 := n2_
          have HO362 := n3_
          have BK340 := n4_
          have HB := n5_
          clear n0_ n1_ n2_ n3_ n4_ n5_
          (try clear hb)
          (try clear hb2)
          (try clear hk)
          (try clear hi)
          (try clear ho0)
          obtain ⟨Ao44, co44, eo44⟩ := Kd.N_slice HO362.out
          (first | subst eo44 | (injection eo44 with f1_ f2_ f3_; have f4_ := f1_.symm; have f5_ := f3_.symm; clear f1_ f2_ f3_; subst f4_; subst f5_))
          refine hK.out _ _ ((blk_cell BK340.out 0).trans rfl) (fun hHeld => ?_)
          clear hK K
          refine norm_ (a' := ?_) ?_ ?_
          rotate_left
          ·show Act.put _ (some 66) _ = _
           simp only [Act.put, List.setIfInBounds_toArray, List.set_cons_zero, List.set_cons_succ, i64_w, i32_w]
           rfl
          refine one_ (i := 13) (N := some 67) #[true, true, true, true, true, true, true, true, true, true, true, true, true, true, false] rfl rfl (one_of HT_.out (by kernel_rfl)) (by decide) (fun K hK => ?_)
          refine Kd.N_append_rows_step (Kd.slice 3 (Kd.int .i64)) (w0 := w) w.heap.size (by rfl) (.tmp 54) (.tmp 66) 58 24 (.slice none 0 0) 24 rfl Try.underlying58 info24 rfl (by decide) (by omega) (.slice Ao33 x12_2.length co33) x12_2 t360 _ _ _ (fun k_ => (w.heap.size ≤ k_) ∧ some k_ ≠ (.slice Ao40 y354.length co40 : Value).ownBlock ∧ some k_ ≠ (.slice Ao41 y357.length co41 : Value).ownBlock ∧ k_ ≠ gb340) (fun k_ => ((fun k_ => (w.heap.size ≤ k_) ∧ some k_ ≠ (.slice Ao40 y354.length co40 : Value).ownBlock ∧ some k_ ≠ (.slice Ao41 y357.length co41 : Value).ownBlock ∧ k_ ≠ gb340)) k_ ∧ some k_ ≠ (.slice Ao33 x12_2.length co33 : Value).ownBlock) rfl rfl ?aO ?aR (fun _ hk => hk) ?aF ?aB ?aS ?aL ?_
          (case aR => exact (by skip; exact Kd.N_F (Kd.N_mono (ok' := (fun k_ => ((fun k_ => (w.heap.size ≤ k_) ∧ some k_ ≠ (.slice Ao40 y354.length co40 : Value).ownBlock ∧ some k_ ≠ (.slice Ao41 y357.length co41 : Value).ownBlock ∧ k_ ≠ gb340)) k_ ∧ some k_ ≠ (.slice Ao33 x12_2.length co33 : Value).ownBlock)) (HO362.out) (fun k_ hk => ⟨⟨hk.1, ⟨hk.2.2.1, ⟨hk.2.2.2.1, hk.2.2.2.2⟩⟩⟩, hk.2.1⟩))))
          (case aB => exact qB)
          (case aF => exact (fun k_ hk => ⟨(Nat.le_trans (below_size qB) hk), Kd.fresh' (Kd.R_lt (qR HO356.out)) k_ hk, Kd.fresh' (Kd.R_lt (qR HO359.out)) k_ hk, Kd.freshB (g := gb340) (o := .cells #[.slice A0_0 l0_0.length c0_0] 26 (0, 0)) (qb BK340.out) k_ hk⟩))
          (case aO => exact (by (with_reducible repeat (first | apply Kd.N_alloc | apply Kd.N_drewN | apply Kd.N_drew)); exact Kd.N_mono HO_12.out (fun _ hk => ⟨hk.1.1.1, ⟨hk.1.1.2.1, ⟨hk.1.2, hk.1.1.2.2⟩⟩⟩)))
          (case aS => exact (below_size qB))
          (case aL => have := LMc32.out; omega)
          intro v364 w43 ho hb hg hat
          rw [← Ny363.out] at ho
          have n0_ := am (blk_grown (g := gb340) (o := .cells #[.slice A0_0 l0_0.length c0_0] 26 (0, 0)) (qb BK340.out) hg (Kd.N_ne HO_12.out BK340.out (by decide)))
          have n1_ := am (Kd.R_over' (qR HO356.out) (Kd.N_typed (by (with_reducible repeat (first | apply Kd.N_alloc | apply Kd.N_drewN | apply Kd.N_drew)); exact HO_12.out)) (by decide) hg)
          have n2_ := am (Kd.R_over' (qR HO359.out) (Kd.N_typed (by (with_reducible repeat (first | apply Kd.N_alloc | apply Kd.N_drewN | apply Kd.N_drew)); exact HO_12.out)) (by decide) hg)
          have n3_ := am (Kd.N_afterv (ok := (fun k_ => (w.heap.size ≤ k_) ∧ some k_ ≠ (.slice Ao40 y354.length co40 : Value).ownBlock ∧ some k_ ≠ (.slice Ao41 y357.length co41 : Value).ownBlock ∧ k_ ≠ gb340)) (by (with_reducible repeat (first | apply Kd.N_alloc | apply Kd.N_drewN | apply Kd.N_drew)); exact Kd.N_mono HO362.out (fun _ hk => ⟨⟨hk.1, ⟨hk.2.2.1, ⟨hk.2.2.2.1, hk.2.2.2.2⟩⟩⟩, hk.2.1⟩)) hg hat)
          have n4_ := am (hb)
          have n5_ := am (ho)
          clear BK340
          clear HO356
          clear HO359
          clear HO362
          clear HB
          clear HO_12
          have BK340 := n0_
          have HO356 := n1_
          have HO359 := n2_
          have HO362 := n3_
          have HB := n4_
          have HO365 := n5_
          clear n0_ n1_ n2_ n3_ n4_ n5_
          clear ho hb hg hat
          refine hK.out _ _ ((blk_cell BK340.out 0).trans rfl) (fun hHeld => ?_)
          clear hK K
          refine norm_ (a' := ?_) ?_ ?_
          rotate_left
          ·show Act.put _ (some 67) _ = _
           simp only [Act.put, List.setIfInBounds_toArray, List.set_cons_zero, List.set_cons_succ, i64_w, i32_w]
           rfl
          refine pure_ (i := 14) (N := some 12) (v := ?_) (a' := ?_) #[true, true, true, true, true, true, true, true, true, true, true, true, true, true, true] rfl rfl (any_of HT_.out (by kernel_rfl)) (fun _ _ _ h => h) (Or.inl ⟨by rfl, ?_⟩) ?_ ?_
          rotate_left
          ·intro w'
           go_simp
           with_reducible rfl
          rotate_left
          ·exact qP
          refine done_ (done_of HT_.out (by kernel_rfl)) ?_
          try go_wp2
          go_roundg kj24
          case measure => have := HK1.out; have := HK2.out; have := HJ24.out; omega
          case rel => exact ⟨(y363), (wrap64 (x13_2 + 1)), qe, H', ⟨by have := HK1.out; have := HK2.out; have := HJ24.out; omega⟩, ⟨by (with_reducible repeat (first | apply Kd.N_alloc | apply Kd.N_drewN | apply Kd.N_drew)); exact Kd.N_mono HO365.out (fun _ hk => ⟨hk.1, hk.2.2.2⟩)⟩, ⟨qb BK340.out⟩, ⟨qB⟩⟩
         ·replace c28 := Bool.eq_false_iff.mpr c28
          subst c28
          rw [if_neg (show ¬ (false = true) by decide)] at H
          obtain rfl := Option.some.inj H
          go_wp2
          go_ret
          exact ⟨_, qr, by (with_reducible repeat (first | apply Kd.N_alloc | apply Kd.N_drewN | apply Kd.N_drew)); exact Kd.N_mono HO_12.out (fun _ hk => hk.1), qB⟩
def spec_laFree.l0 : Nat → Int → List Int → Int → Int → Option (Bool)
 | 0, _, _, _, _ => none
 | k + 1, x1, x8, x9, x10 => if x10 < x9 then (if 0 ≤ x10 then (if x10 < (x8.length : Int) then ((spec_poIn.f x1 x10).bind fun t313 => (if t313 = true then (if (Go.bits .and .i64 (rd x8 x10) x1) = 0 then (spec_laFree.l0 k x1 x8 x9 (wrap64 (x10 + 1))) else (some false)) else (spec_laFree.l0 k x1 x8 x9 (wrap64 (x10 + 1))))) else (none)) else (none)) else (some true)
def spec_laFree.f (k : Nat) (l0_0 : List Int) (a1 : Int) : Option (Bool) := spec_laFree.l0 k a1 l0_0 (l0_0.length : Int) 0
theorem spec_laFree.mono_l : ∀ k, (∀ y0 y1 y2 y3, LeO (spec_laFree.l0 k y0 y1 y2 y3) (spec_laFree.l0 (k + 1) y0 y1 y2 y3))
 | 0 => fun _ _ _ _ r h => by simp [spec_laFree.l0] at h
 | k + 1 => by
  have ih0 := spec_laFree.mono_l k
  ·intro y0 y1 y2 y3
   unfold spec_laFree.l0
   repeat' first
   | (with_reducible exact LeO.refl _)
   | (with_reducible exact LeO.none _)
   | (with_reducible refine LeO.ite ?_ ?_)
   | (with_reducible refine LeO.bind ?_ (fun _ => ?_))
   | exact ih0 _ _ _ _
   | exact LeO.none _
   | refine LeO.ite ?_ ?_
   | refine LeO.bind ?_ (fun _ => ?_)
theorem spec_laFree.mono : ∀ a0 a1 k, LeO (spec_laFree.f k a0 a1) (spec_laFree.f (k + 1) a0 a1) := by
 intro a0 a1 k
 have ih0 := spec_laFree.mono_l k
 unfold spec_laFree.f
 repeat' first
  | (with_reducible exact LeO.refl _)
  | (with_reducible exact LeO.none _)
  | (with_reducible refine LeO.ite ?_ ?_)
  | (with_reducible refine LeO.bind ?_ (fun _ => ?_))
  | exact ih0 _ _ _ _
  | exact LeO.none _
  | refine LeO.ite ?_ ?_
  | refine LeO.bind ?_ (fun _ => ?_)
set_option maxHeartbeats 8000000 in
set_option maxRecDepth 100000 in
theorem spec_laFree.calls (k : Nat) (A0_0 : Option Addr) (c0_0 : Nat) (l0_0 : List Int) (a1 : Int) (r : Bool) (w : World) (hr0_0 : Kd.C (Kd.int .i64) w A0_0 l0_0.length l0_0) (hc0_0 : l0_0.length ≤ c0_0) (h : spec_laFree.f k l0_0 a1 = some r) :
 Calls Try.prog 138 #[.agg #[.slice A0_0 l0_0.length c0_0], .int .i64 a1] w fun e w' => e = .returned (.bool r) ∧ Below w.heap.size w w' := by
 have hu26 := Try.underlying26
 have HR0_0 := am hr0_0
 have HC0_0 := am hc0_0
 clear hr0_0 hc0_0
 have HB := am (Below.refl w.heap.size w)
 have H := h
 unfold spec_laFree.f at H
 clear h
 have H' := am H
 clear H
 go_enter Try.func138, Try.ntmps138
 go_wp2_with (((with_reducible refine gate_dst (N := 2) rfl ?_); refine qx (N := 2) (cs := #[.slice A0_0 l0_0.length c0_0]) (t := 26) ?_; intro gb311 hg w3 hbox hb; have n0_ := am (below_step qB hb); have BK311 := am (hbox); have GW311 := am (qg w hg); have GE311 := am (qg w hg); clear HB; have HB := n0_; clear n0_; clear hb hbox hg; have hcz4_0 := qz w3 BK311.out; have hfz4_0 := blk_frozen BK311.out 0))
 go_loopg [10] k (fun kq v10 w' => ∃ (x10_1 : Int), v10 = .int .i64 x10_1 ∧ Aside0 (spec_laFree.l0 kq a1 l0_0 (l0_0.length : Int) x10_1 = some r) ∧ Aside0 (kq ≤ k) ∧ Aside0 (w'.heap[gb311]? = some (.cells #[(.slice A0_0 l0_0.length c0_0)] 26 (0, 0))) ∧ Aside0 (Below w.heap.size w w'))
 case atStart => exact ⟨(0), qe, H', ⟨Nat.le_refl _⟩, ⟨qb BK311.out⟩, ⟨qB⟩⟩
 case round =>
  clear H'
  try clear c1
  try clear p2
  try clear hcz4_0
  try clear hfz4_0
  obtain ⟨x10_1, rfl, HA, HK1, BK311, HB⟩ := hrel
  cases gk with
  | zero => exact absurd HA.out (by simp [spec_laFree.l0])
  | succ k1 =>
   have H := HA.out
   clear HA
   simp only [spec_laFree.l0] at H
   by_cases c5 : x10_1 < (l0_0.length : Int)
   ·rw [if_pos c5] at H
    have c5b0 := decide_eq_true c5
    clear c5
    by_cases c6 : 0 ≤ x10_1
    rotate_left
    ·rw [if_neg c6] at H
     exact absurd H (by simp)
    rw [if_pos c6] at H
    have c6b0 := decide_eq_true c6
    clear c6
    by_cases c7 : x10_1 < (l0_0.length : Int)
    rotate_left
    ·rw [if_neg c7] at H
     exact absurd H (by simp)
    rw [if_pos c7] at H
    have c7b0 := decide_eq_true c7
    clear c7
    replace H := Option.bind_eq_some_iff.mp H
    obtain ⟨t313, A80, H⟩ := H
    (try dsimp only at H)
    have A8 := am A80
    clear A80
    by_cases c9 : t313 = true
    ·subst c9
     rw [if_pos rfl] at H
     by_cases c10 : (Go.bits .and .i64 (rd l0_0 x10_1) a1) = 0
     ·rw [if_pos c10] at H
      have c10b0 : ((Go.bits .and .i64 (rd l0_0 x10_1) a1) == 0) = true := beq_iff_eq.mpr c10
      have c10b1 : ((Go.bits .and .i64 (rd l0_0 x10_1) a1) != 0) = false := bne_eq_false_iff_eq.mpr c10
      clear c10
      have H' := am H
      clear H
      have p312 : 0 ≤ (x10_1 : Int) := qd
      have q312 : x10_1 < (l0_0.length : Int) := qd
      obtain ⟨ad312, e312, hx312_0⟩ := Kd.at_int HR0_0.out x10_1 p312 q312
      cases e312
      replace hx312_0 := (HB.out.cell (World.block_lt_of_cell? w _ hx312_0)).trans hx312_0
      replace p312 := eq_true p312
      replace q312 := eq_true q312
      go_wp2_with (((with_reducible refine gate_callee (f := 93) rfl ?_); refine gL (some 17) Try.func93 #[.int .i64 a1, .int .i64 x10_1] ?_; (with_reducible refine (spec_poIn.calls a1 x10_1 true _ A8.out).mono ?_); rintro e w' ⟨rfl, ⟨nd, rfl⟩⟩; refine ⟨_, rfl, ?_⟩))
      go_roundg k1
      case measure => have := HK1.out; omega
      case rel => exact ⟨(wrap64 (x10_1 + 1)), qe, H', ⟨by have := HK1.out; omega⟩, ⟨qb BK311.out⟩, ⟨qB⟩⟩
     ·rw [if_neg c10] at H
      have c10b0 : ((Go.bits .and .i64 (rd l0_0 x10_1) a1) == 0) = false := beq_eq_false_iff_ne.mpr c10
      have c10b1 : ((Go.bits .and .i64 (rd l0_0 x10_1) a1) != 0) = true := bne_iff_ne.mpr c10
      obtain rfl := Option.some.inj H
      have p312 : 0 ≤ (x10_1 : Int) := qd
      have q312 : x10_1 < (l0_0.length : Int) := qd
      obtain ⟨ad312, e312, hx312_0⟩ := Kd.at_int HR0_0.out x10_1 p312 q312
      cases e312
      replace hx312_0 := (HB.out.cell (World.block_lt_of_cell? w _ hx312_0)).trans hx312_0
      replace p312 := eq_true p312
      replace q312 := eq_true q312
      go_wp2_with (((with_reducible refine gate_callee (f := 93) rfl ?_); refine gL (some 17) Try.func93 #[.int .i64 a1, .int .i64 x10_1] ?_; (with_reducible refine (spec_poIn.calls a1 x10_1 true _ A8.out).mono ?_); rintro e w' ⟨rfl, ⟨nd, rfl⟩⟩; refine ⟨_, rfl, ?_⟩))
      go_ret
      exact ⟨qr, qB⟩
    ·replace c9 := Bool.eq_false_iff.mpr c9
     subst c9
     rw [if_neg (show ¬ (false = true) by decide)] at H
     have H' := am H
     clear H
     have p312 : 0 ≤ (x10_1 : Int) := qd
     have q312 : x10_1 < (l0_0.length : Int) := qd
     obtain ⟨ad312, e312, hx312_0⟩ := Kd.at_int HR0_0.out x10_1 p312 q312
     cases e312
     replace hx312_0 := (HB.out.cell (World.block_lt_of_cell? w _ hx312_0)).trans hx312_0
     replace p312 := eq_true p312
     replace q312 := eq_true q312
     go_wp2_with (((with_reducible refine gate_callee (f := 93) rfl ?_); refine gL (some 17) Try.func93 #[.int .i64 a1, .int .i64 x10_1] ?_; (with_reducible refine (spec_poIn.calls a1 x10_1 false _ A8.out).mono ?_); rintro e w' ⟨rfl, ⟨nd, rfl⟩⟩; refine ⟨_, rfl, ?_⟩))
     go_roundg k1
     case measure => have := HK1.out; omega
     case rel => exact ⟨(wrap64 (x10_1 + 1)), qe, H', ⟨by have := HK1.out; omega⟩, ⟨qb BK311.out⟩, ⟨qB⟩⟩
   ·rw [if_neg c5] at H
    have c5b0 := decide_eq_false c5
    clear c5
    obtain rfl := Option.some.inj H
    go_wp2
    go_ret
    exact ⟨qr, qB⟩
mutual
def spec_liIs.j0 : Nat → List Int → Bool → List Int → Option (Bool)
 | 0, _, _, _ => none
 | k + 1, x1, x21, x1127000 => if x21 = true then (some false) else (spec_liIs.l0 k 0 x1 (x1.length : Int) 0 x1127000)
def spec_liIs.l0 : Nat → Int → List Int → Int → Int → List Int → Option (Bool)
 | 0, _, _, _, _, _ => none
 | k + 1, x5, x22, x23, x24, x1127000 => if x24 < x23 then (if 0 ≤ x24 then (if x24 < (x22.length : Int) then ((spec_poIn.f x5 (rd x22 x24)).bind fun t1129 => (if t1129 = true then (some false) else (if 0 ≤ (rd x22 x24) then (if (rd x22 x24) < (x1127000.length : Int) then (if (Go.bits .andNot .i64 (rd x1127000 (rd x22 x24)) x5) = 0 then (spec_liIs.l0 k (Go.bits .or .i64 x5 (shl .i64 1 (rd x22 x24))) x22 x23 (wrap64 (x24 + 1)) x1127000) else (some false)) else (none)) else (none)))) else (none)) else (none)) else (some true)
end
def spec_liIs.f (k : Nat) (l0_0 : List Int) (l1 : List Int) : Option (Bool) := if (l1.length : Int) = (l0_0.length : Int) then ((spec_l1All.f k l1 0 (wrap64 ((l1.length : Int) - 1))).bind fun t1127 => (spec_liIs.j0 k l1 (!t1127) l0_0)) else (spec_liIs.j0 k l1 true l0_0)
theorem spec_liIs.mono_l : ∀ k, (∀ y0 y1 y2, LeO (spec_liIs.j0 k y0 y1 y2) (spec_liIs.j0 (k + 1) y0 y1 y2)) ∧ (∀ y0 y1 y2 y3 y4, LeO (spec_liIs.l0 k y0 y1 y2 y3 y4) (spec_liIs.l0 (k + 1) y0 y1 y2 y3 y4))
 | 0 => ⟨fun _ _ _ r h => by simp [spec_liIs.j0] at h, fun _ _ _ _ _ r h => by simp [spec_liIs.l0] at h⟩
 | k + 1 => by
  obtain ⟨ih0, ih1⟩ := spec_liIs.mono_l k
  refine ⟨?_, ?_⟩
  ·intro y0 y1 y2
   unfold spec_liIs.j0
   repeat' first
   | (with_reducible exact spec_l1All.mono _ _ _ _)
   | (with_reducible exact LeO.refl _)
   | (with_reducible exact LeO.none _)
   | (with_reducible refine LeO.ite ?_ ?_)
   | (with_reducible refine LeO.bind ?_ (fun _ => ?_))
   | exact ih0 _ _ _
   | exact ih1 _ _ _ _ _
   | exact spec_l1All.mono _ _ _ _
   | exact LeO.none _
   | refine LeO.ite ?_ ?_
   | refine LeO.bind ?_ (fun _ => ?_)
  ·intro y0 y1 y2 y3 y4
   unfold spec_liIs.l0
   repeat' first
   | (with_reducible exact spec_l1All.mono _ _ _ _)
   | (with_reducible exact LeO.refl _)
   | (with_reducible exact LeO.none _)
   | (with_reducible refine LeO.ite ?_ ?_)
   | (with_reducible refine LeO.bind ?_ (fun _ => ?_))
   | exact ih0 _ _ _
   | exact ih1 _ _ _ _ _
   | exact spec_l1All.mono _ _ _ _
   | exact LeO.none _
   | refine LeO.ite ?_ ?_
   | refine LeO.bind ?_ (fun _ => ?_)
theorem spec_liIs.mono : ∀ a0 a1 k, LeO (spec_liIs.f k a0 a1) (spec_liIs.f (k + 1) a0 a1) := by
 intro a0 a1 k
 obtain ⟨ih0, ih1⟩ := spec_liIs.mono_l k
 unfold spec_liIs.f
 repeat' first
  | (with_reducible exact spec_l1All.mono _ _ _ _)
  | (with_reducible exact LeO.refl _)
  | (with_reducible exact LeO.none _)
  | (with_reducible refine LeO.ite ?_ ?_)
  | (with_reducible refine LeO.bind ?_ (fun _ => ?_))
  | exact ih0 _ _ _
  | exact ih1 _ _ _ _ _
  | exact spec_l1All.mono _ _ _ _
  | exact LeO.none _
  | refine LeO.ite ?_ ?_
  | refine LeO.bind ?_ (fun _ => ?_)
set_option maxHeartbeats 8000000 in
set_option maxRecDepth 100000 in
theorem spec_liIs.calls (k : Nat) (A0_0 : Option Addr) (c0_0 : Nat) (l0_0 : List Int) (A1 : Option Addr) (c1 : Nat) (l1 : List Int) (r : Bool) (w : World) (hr0_0 : Kd.C (Kd.int .i64) w A0_0 l0_0.length l0_0) (hc0_0 : l0_0.length ≤ c0_0) (hr1 : Kd.C (Kd.int .i64) w A1 l1.length l1) (hc1 : l1.length ≤ c1) (h : spec_liIs.f k l0_0 l1 = some r) :
 Calls Try.prog 123 #[.agg #[.slice A0_0 l0_0.length c0_0], .slice A1 l1.length c1] w fun e w' => e = .returned (.bool r) ∧ Below w.heap.size w w' := by
 have hu26 := Try.underlying26
 have HR0_0 := am hr0_0
 have HC0_0 := am hc0_0
 clear hr0_0 hc0_0
 have HR1 := am hr1
 have HC1 := am hc1
 clear hr1 hc1
 have HB := am (Below.refl w.heap.size w)
 have H := h
 unfold spec_liIs.f at H
 clear h
 have HC3 := am H
 clear H
 go_enter Try.func123, Try.ntmps123
 go_upto_region 1 with (first | ((with_reducible refine gate_dst (N := 2) rfl ?_); refine qx (N := 2) (cs := #[.slice A0_0 l0_0.length c0_0]) (t := 26) ?_; intro gb1126 hg w4 hbox hb; have n0_ := am (below_step qB hb); have BK1126 := am (hbox); have GW1126 := am (qg w hg); have GE1126 := am (qg w hg); clear HB; have HB := n0_; clear n0_; clear hb hbox hg))
 (try simp only [Act.put, List.setIfInBounds_toArray, List.set_cons_zero, List.set_cons_succ])
 go_cut [21] (fun v21 wc => ∃ (kq : Nat) (x21_2 : Bool), v21 = .bool x21_2 ∧ Aside0 (spec_liIs.j0 kq l1 x21_2 l0_0 = some r) ∧ Aside0 (kq ≤ k) ∧ Aside0 (wc.heap[gb1126]? = some (.cells #[(.slice A0_0 l0_0.length c0_0)] 26 (0, 0))) ∧ Aside0 (Below w.heap.size w wc))
 case first =>
  have H := HC3.out
  clear HC3
  by_cases c5 : (l1.length : Int) = (l0_0.length : Int)
  ·rw [if_pos c5] at H
   have c5b0 : ((l1.length : Int) == (l0_0.length : Int)) = true := beq_iff_eq.mpr c5
   have c5b1 : ((l1.length : Int) != (l0_0.length : Int)) = false := bne_eq_false_iff_eq.mpr c5
   have c5b2 : (l1.length == l0_0.length) = true := by first | simpa using c5 | (simp at c5 ⊢; omega)
   clear c5
   (first | rw [c5b0] | (simp only [i64_w, i32_w]; rw [c5b0]) | skip)
   replace H := Option.bind_eq_some_iff.mp H
   obtain ⟨t1127, A60, H⟩ := H
   (try dsimp only at H)
   have A6 := am A60
   clear A60
   have H' := am H
   clear H
   have hcz7_0 := qz w4 BK1126.out
   have hfz7_0 := blk_frozen BK1126.out 0
   go_wp2_with ((go_at_call 131; (with_reducible refine (spec_l1All.calls k _ _ l1 0 (wrap64 ((l1.length : Int) - 1)) t1127 _ ?side1 ?side2 A6.out).mono ?_); (case side1 => exact qC (Kd.C_below HR1.out HB.out)); (case side2 => exact HC1.out); rintro e w' ⟨rfl, ⟨nd, rfl⟩⟩))
   go_meet
   case rel => exact ⟨_, (!t1127), qe, H', ⟨by first | omega | exact Nat.le_refl _⟩, ⟨qb BK1126.out⟩, ⟨qB⟩⟩
  ·rw [if_neg c5] at H
   have c5b0 : ((l1.length : Int) == (l0_0.length : Int)) = false := beq_eq_false_iff_ne.mpr c5
   have c5b1 : ((l1.length : Int) != (l0_0.length : Int)) = true := bne_iff_ne.mpr c5
   have c5b2 : (l1.length == l0_0.length) = false := by first | simpa using c5 | (simp at c5 ⊢; omega)
   (first | rw [c5b0] | (simp only [i64_w, i32_w]; rw [c5b0]) | skip)
   have H' := am H
   clear H
   have hcz8_0 := qz w4 BK1126.out
   have hfz8_0 := blk_frozen BK1126.out 0
   go_wp2
   go_meet
   case rel => exact ⟨_, (true), qe, H', ⟨by first | omega | exact Nat.le_refl _⟩, ⟨qb BK1126.out⟩, ⟨qB⟩⟩
 case rest =>
  clear HC3
  try clear c1
  try clear p2
  try clear c5
  try clear c5b0
  try clear c5b1
  try clear c5b2
  try clear p6
  try clear hcz7_0
  try clear hcz8_0
  try clear hfz7_0
  try clear hfz8_0
  obtain ⟨kq, x21_2, rfl, HA, HJ2, BK1126, HB⟩ := hcut
  cases kq with
  | zero => exact absurd HA.out (by simp [spec_liIs.j0])
  | succ kj2 =>
   have H := HA.out
   clear HA
   simp only [spec_liIs.j0] at H
   by_cases c9 : x21_2 = true
   ·subst c9
    rw [if_pos rfl] at H
    obtain rfl := Option.some.inj H
    go_wp2
    go_ret
    exact ⟨qr, qB⟩
   ·replace c9 := Bool.eq_false_iff.mpr c9
    subst c9
    rw [if_neg (show ¬ (false = true) by decide)] at H
    have H' := am H
    clear H
    go_wp2
    go_loopg [5, 24] kj2 (fun kq v5 v24 w' => ∃ (x5_2 : Int) (x24_2 : Int), v5 = .int .i64 x5_2 ∧ v24 = .int .i64 x24_2 ∧ Aside0 (spec_liIs.l0 kq x5_2 l1 (l1.length : Int) x24_2 l0_0 = some r) ∧ Aside0 (kq ≤ kj2) ∧ Aside0 (w'.heap[gb1126]? = some (.cells #[(.slice A0_0 l0_0.length c0_0)] 26 (0, 0))) ∧ Aside0 (Below w.heap.size w w'))
    case atStart => exact ⟨(0), (0), qe, qe, H', ⟨Nat.le_refl _⟩, ⟨qb BK1126.out⟩, ⟨qB⟩⟩
    case round =>
     clear H'
     try clear c1
     try clear p2
     try clear c5
     try clear c5b0
     try clear c5b1
     try clear c5b2
     try clear p6
     try clear c9
     try clear hcz7_0
     try clear hcz8_0
     try clear hfz7_0
     try clear hfz8_0
     try clear p2
     try clear p6
     obtain ⟨x5_2, x24_2, rfl, rfl, HA, HK2, BK1126, HB⟩ := hrel
     cases gk with
     | zero => exact absurd HA.out (by simp [spec_liIs.l0])
     | succ k2 =>
      have H := HA.out
      clear HA
      simp only [spec_liIs.l0] at H
      by_cases c10 : x24_2 < (l1.length : Int)
      ·rw [if_pos c10] at H
       have c10b0 := decide_eq_true c10
       clear c10
       by_cases c11 : 0 ≤ x24_2
       rotate_left
       ·rw [if_neg c11] at H
        exact absurd H (by simp)
       rw [if_pos c11] at H
       have c11b0 := decide_eq_true c11
       clear c11
       by_cases c12 : x24_2 < (l1.length : Int)
       rotate_left
       ·rw [if_neg c12] at H
        exact absurd H (by simp)
       rw [if_pos c12] at H
       have c12b0 := decide_eq_true c12
       clear c12
       replace H := Option.bind_eq_some_iff.mp H
       obtain ⟨t1129, A130, H⟩ := H
       (try dsimp only at H)
       have A13 := am A130
       clear A130
       by_cases c14 : t1129 = true
       ·subst c14
        rw [if_pos rfl] at H
        obtain rfl := Option.some.inj H
        have p1128 : 0 ≤ (x24_2 : Int) := qd
        have q1128 : x24_2 < (l1.length : Int) := qd
        obtain ⟨ad1128, e1128, hx1128_0⟩ := Kd.at_int HR1.out x24_2 p1128 q1128
        cases e1128
        replace hx1128_0 := (HB.out.cell (World.block_lt_of_cell? w _ hx1128_0)).trans hx1128_0
        replace p1128 := eq_true p1128
        replace q1128 := eq_true q1128
        go_wp2_with (((with_reducible refine gate_callee (f := 93) rfl ?_); refine gL (some 30) Try.func93 #[.int .i64 x5_2, .int .i64 (rd l1 x24_2)] ?_; (with_reducible refine (spec_poIn.calls x5_2 (rd l1 x24_2) true _ A13.out).mono ?_); rintro e w' ⟨rfl, ⟨nd, rfl⟩⟩; refine ⟨_, rfl, ?_⟩))
        go_ret
        exact ⟨qr, qB⟩
       ·replace c14 := Bool.eq_false_iff.mpr c14
        subst c14
        rw [if_neg (show ¬ (false = true) by decide)] at H
        by_cases c15 : 0 ≤ (rd l1 x24_2)
        rotate_left
        ·rw [if_neg c15] at H
         exact absurd H (by simp)
        rw [if_pos c15] at H
        have c15b0 := decide_eq_true c15
        clear c15
        by_cases c16 : (rd l1 x24_2) < (l0_0.length : Int)
        rotate_left
        ·rw [if_neg c16] at H
         exact absurd H (by simp)
        rw [if_pos c16] at H
        have c16b0 := decide_eq_true c16
        clear c16
        by_cases c17 : (Go.bits .andNot .i64 (rd l0_0 (rd l1 x24_2)) x5_2) = 0
        ·rw [if_pos c17] at H
         have c17b0 : ((Go.bits .andNot .i64 (rd l0_0 (rd l1 x24_2)) x5_2) == 0) = true := beq_iff_eq.mpr c17
         have c17b1 : ((Go.bits .andNot .i64 (rd l0_0 (rd l1 x24_2)) x5_2) != 0) = false := bne_eq_false_iff_eq.mpr c17
         clear c17
         have c18b0 := eq_true (qd : 0 ≤ (rd l1 x24_2))
         obtain ⟨ji19, hji19⟩ : ∃ j_ : Int, (shl .i64 1 (rd l1 x24_2)) = j_ := ⟨_, rfl⟩
         first | rw [hji19] at H | simp only [hji19] at H
         (try rw [hji19] at A13)
         have hji19_ : (IntKind.i64.wrap (1 * 2 ^ min (rd l1 x24_2).toNat 64)) = ji19 := hji19
         have hji19z : (rd l1 x24_2) ≤ 64 → (IntKind.i64.wrap (1 * 2 ^ (rd l1 x24_2).toNat)) = ji19 := shl_small hji19
         have hji19u : (IntKind.i64.wrap (2 ^ min (rd l1 x24_2).toNat 64)) = ji19 := by have h_ := hji19_; rw [Int.one_mul] at h_; exact h_
         have hji19v : (rd l1 x24_2) ≤ 64 → (IntKind.i64.wrap (2 ^ (rd l1 x24_2).toNat)) = ji19 := fun hle_ => by have h_ := hji19z hle_; rw [Int.one_mul] at h_; exact h_
         have hji19y : (wrap64 (1 * 2 ^ min (rd l1 x24_2).toNat 64)) = ji19 := (i64_w _).symm.trans hji19_
         have hji19x : (rd l1 x24_2) ≤ 64 → (wrap64 (1 * 2 ^ (rd l1 x24_2).toNat)) = ji19 := fun h_ => (i64_w _).symm.trans (hji19z h_)
         have H' := am H
         clear H
         have p1128 : 0 ≤ (x24_2 : Int) := qd
         have q1128 : x24_2 < (l1.length : Int) := qd
         obtain ⟨ad1128, e1128, hx1128_0⟩ := Kd.at_int HR1.out x24_2 p1128 q1128
         cases e1128
         replace hx1128_0 := (HB.out.cell (World.block_lt_of_cell? w _ hx1128_0)).trans hx1128_0
         replace p1128 := eq_true p1128
         replace q1128 := eq_true q1128
         go_wp2_with (((with_reducible refine gate_callee (f := 93) rfl ?_); refine gL (some 30) Try.func93 #[.int .i64 x5_2, .int .i64 (rd l1 x24_2)] ?_; (with_reducible refine (spec_poIn.calls x5_2 (rd l1 x24_2) false _ A13.out).mono ?_); rintro e w' ⟨rfl, ⟨nd, rfl⟩⟩; refine ⟨_, rfl, ?_⟩; have hcz20_0 := qz wr BK1126.out; have hfz20_0 := blk_frozen BK1126.out 0; have p1130 : 0 ≤ ((rd l1 x24_2) : Int) := qd; have q1130 : (rd l1 x24_2) < (l0_0.length : Int) := qd; obtain ⟨ad1130, e1130, hx1130_0⟩ := Kd.at_int HR0_0.out (rd l1 x24_2) p1130 q1130; cases e1130; replace hx1130_0 := (HB.out.cell (World.block_lt_of_cell? w _ hx1130_0)).trans hx1130_0; replace p1130 := eq_true p1130; replace q1130 := eq_true q1130))
         go_roundg k2
         case measure => have := HJ2.out; have := HK2.out; omega
         case rel => exact ⟨(Go.bits .or .i64 x5_2 (ji19)), (wrap64 (x24_2 + 1)), (by first | rfl | (simp; done) | (simp only [← hji19] <;> (first | rfl | simp)) | (simp [*]; done)), qe, H', ⟨by have := HJ2.out; have := HK2.out; omega⟩, ⟨qb BK1126.out⟩, ⟨qB⟩⟩
        ·rw [if_neg c17] at H
         have c17b0 : ((Go.bits .andNot .i64 (rd l0_0 (rd l1 x24_2)) x5_2) == 0) = false := beq_eq_false_iff_ne.mpr c17
         have c17b1 : ((Go.bits .andNot .i64 (rd l0_0 (rd l1 x24_2)) x5_2) != 0) = true := bne_iff_ne.mpr c17
         obtain rfl := Option.some.inj H
         have p1128 : 0 ≤ (x24_2 : Int) := qd
         have q1128 : x24_2 < (l1.length : Int) := qd
         obtain ⟨ad1128, e1128, hx1128_0⟩ := Kd.at_int HR1.out x24_2 p1128 q1128
         cases e1128
         replace hx1128_0 := (HB.out.cell (World.block_lt_of_cell? w _ hx1128_0)).trans hx1128_0
         replace p1128 := eq_true p1128
         replace q1128 := eq_true q1128
         go_wp2_with (((with_reducible refine gate_callee (f := 93) rfl ?_); refine gL (some 30) Try.func93 #[.int .i64 x5_2, .int .i64 (rd l1 x24_2)] ?_; (with_reducible refine (spec_poIn.calls x5_2 (rd l1 x24_2) false _ A13.out).mono ?_); rintro e w' ⟨rfl, ⟨nd, rfl⟩⟩; refine ⟨_, rfl, ?_⟩; have hcz21_0 := qz wr BK1126.out; have hfz21_0 := blk_frozen BK1126.out 0; have p1130 : 0 ≤ ((rd l1 x24_2) : Int) := qd; have q1130 : (rd l1 x24_2) < (l0_0.length : Int) := qd; obtain ⟨ad1130, e1130, hx1130_0⟩ := Kd.at_int HR0_0.out (rd l1 x24_2) p1130 q1130; cases e1130; replace hx1130_0 := (HB.out.cell (World.block_lt_of_cell? w _ hx1130_0)).trans hx1130_0; replace p1130 := eq_true p1130; replace q1130 := eq_true q1130))
         go_ret
         exact ⟨qr, qB⟩
      ·rw [if_neg c10] at H
       have c10b0 := decide_eq_false c10
       clear c10
       obtain rfl := Option.some.inj H
       go_wp2
       go_ret
       exact ⟨qr, qB⟩
def spec_poIdeal.l0 : Nat → Int → List Int → Int → Int → Option (Bool)
 | 0, _, _, _, _ => none
 | k + 1, x1, x8, x9, x10 => if x10 < x9 then (if 0 ≤ x10 then (if x10 < (x8.length : Int) then ((spec_poIn.f x1 x10).bind fun t305 => (if t305 = true then (if (Go.bits .andNot .i64 (rd x8 x10) x1) = 0 then (spec_poIdeal.l0 k x1 x8 x9 (wrap64 (x10 + 1))) else (some false)) else (spec_poIdeal.l0 k x1 x8 x9 (wrap64 (x10 + 1))))) else (none)) else (none)) else (some true)
def spec_poIdeal.f (k : Nat) (l0_0 : List Int) (a1 : Int) : Option (Bool) := spec_poIdeal.l0 k a1 l0_0 (l0_0.length : Int) 0
theorem spec_poIdeal.mono_l : ∀ k, (∀ y0 y1 y2 y3, LeO (spec_poIdeal.l0 k y0 y1 y2 y3) (spec_poIdeal.l0 (k + 1) y0 y1 y2 y3))
 | 0 => fun _ _ _ _ r h => by simp [spec_poIdeal.l0] at h
 | k + 1 => by
  have ih0 := spec_poIdeal.mono_l k
  ·intro y0 y1 y2 y3
   unfold spec_poIdeal.l0
   repeat' first
   | (with_reducible exact LeO.refl _)
   | (with_reducible exact LeO.none _)
   | (with_reducible refine LeO.ite ?_ ?_)
   | (with_reducible refine LeO.bind ?_ (fun _ => ?_))
   | exact ih0 _ _ _ _
   | exact LeO.none _
   | refine LeO.ite ?_ ?_
   | refine LeO.bind ?_ (fun _ => ?_)
theorem spec_poIdeal.mono : ∀ a0 a1 k, LeO (spec_poIdeal.f k a0 a1) (spec_poIdeal.f (k + 1) a0 a1) := by
 intro a0 a1 k
 have ih0 := spec_poIdeal.mono_l k
 unfold spec_poIdeal.f
 repeat' first
  | (with_reducible exact LeO.refl _)
  | (with_reducible exact LeO.none _)
  | (with_reducible refine LeO.ite ?_ ?_)
  | (with_reducible refine LeO.bind ?_ (fun _ => ?_))
  | exact ih0 _ _ _ _
  | exact LeO.none _
  | refine LeO.ite ?_ ?_
  | refine LeO.bind ?_ (fun _ => ?_)
set_option maxHeartbeats 8000000 in
set_option maxRecDepth 100000 in
theorem spec_poIdeal.calls (k : Nat) (A0_0 : Option Addr) (c0_0 : Nat) (l0_0 : List Int) (a1 : Int) (r : Bool) (w : World) (hr0_0 : Kd.C (Kd.int .i64) w A0_0 l0_0.length l0_0) (hc0_0 : l0_0.length ≤ c0_0) (h : spec_poIdeal.f k l0_0 a1 = some r) :
 Calls Try.prog 92 #[.agg #[.slice A0_0 l0_0.length c0_0], .int .i64 a1] w fun e w' => e = .returned (.bool r) ∧ Below w.heap.size w w' := by
 have hu26 := Try.underlying26
 have HR0_0 := am hr0_0
 have HC0_0 := am hc0_0
 clear hr0_0 hc0_0
 have HB := am (Below.refl w.heap.size w)
 have H := h
 unfold spec_poIdeal.f at H
 clear h
 have H' := am H
 clear H
 go_enter Try.func92, Try.ntmps92
 go_wp2_with (((with_reducible refine gate_dst (N := 2) rfl ?_); refine qx (N := 2) (cs := #[.slice A0_0 l0_0.length c0_0]) (t := 26) ?_; intro gb303 hg w3 hbox hb; have n0_ := am (below_step qB hb); have BK303 := am (hbox); have GW303 := am (qg w hg); have GE303 := am (qg w hg); clear HB; have HB := n0_; clear n0_; clear hb hbox hg; have hcz4_0 := qz w3 BK303.out; have hfz4_0 := blk_frozen BK303.out 0))
 go_loopg [10] k (fun kq v10 w' => ∃ (x10_1 : Int), v10 = .int .i64 x10_1 ∧ Aside0 (spec_poIdeal.l0 kq a1 l0_0 (l0_0.length : Int) x10_1 = some r) ∧ Aside0 (kq ≤ k) ∧ Aside0 (w'.heap[gb303]? = some (.cells #[(.slice A0_0 l0_0.length c0_0)] 26 (0, 0))) ∧ Aside0 (Below w.heap.size w w'))
 case atStart => exact ⟨(0), qe, H', ⟨Nat.le_refl _⟩, ⟨qb BK303.out⟩, ⟨qB⟩⟩
 case round =>
  clear H'
  try clear p2
  try clear hcz4_0
  try clear hfz4_0
  obtain ⟨x10_1, rfl, HA, HK1, BK303, HB⟩ := hrel
  cases gk with
  | zero => exact absurd HA.out (by simp [spec_poIdeal.l0])
  | succ k1 =>
   have H := HA.out
   clear HA
   simp only [spec_poIdeal.l0] at H
   by_cases c5 : x10_1 < (l0_0.length : Int)
   ·rw [if_pos c5] at H
    have c5b0 := decide_eq_true c5
    clear c5
    by_cases c6 : 0 ≤ x10_1
    rotate_left
    ·rw [if_neg c6] at H
     exact absurd H (by simp)
    rw [if_pos c6] at H
    have c6b0 := decide_eq_true c6
    clear c6
    by_cases c7 : x10_1 < (l0_0.length : Int)
    rotate_left
    ·rw [if_neg c7] at H
     exact absurd H (by simp)
    rw [if_pos c7] at H
    have c7b0 := decide_eq_true c7
    clear c7
    replace H := Option.bind_eq_some_iff.mp H
    obtain ⟨t305, A80, H⟩ := H
    (try dsimp only at H)
    have A8 := am A80
    clear A80
    by_cases c9 : t305 = true
    ·subst c9
     rw [if_pos rfl] at H
     by_cases c10 : (Go.bits .andNot .i64 (rd l0_0 x10_1) a1) = 0
     ·rw [if_pos c10] at H
      have c10b0 : ((Go.bits .andNot .i64 (rd l0_0 x10_1) a1) == 0) = true := beq_iff_eq.mpr c10
      have c10b1 : ((Go.bits .andNot .i64 (rd l0_0 x10_1) a1) != 0) = false := bne_eq_false_iff_eq.mpr c10
      clear c10
      have H' := am H
      clear H
      have p304 : 0 ≤ (x10_1 : Int) := qd
      have q304 : x10_1 < (l0_0.length : Int) := qd
      obtain ⟨ad304, e304, hx304_0⟩ := Kd.at_int HR0_0.out x10_1 p304 q304
      cases e304
      replace hx304_0 := (HB.out.cell (World.block_lt_of_cell? w _ hx304_0)).trans hx304_0
      replace p304 := eq_true p304
      replace q304 := eq_true q304
      go_wp2_with (((with_reducible refine gate_callee (f := 93) rfl ?_); refine gL (some 17) Try.func93 #[.int .i64 a1, .int .i64 x10_1] ?_; (with_reducible refine (spec_poIn.calls a1 x10_1 true _ A8.out).mono ?_); rintro e w' ⟨rfl, ⟨nd, rfl⟩⟩; refine ⟨_, rfl, ?_⟩))
      go_roundg k1
      case measure => have := HK1.out; omega
      case rel => exact ⟨(wrap64 (x10_1 + 1)), qe, H', ⟨by have := HK1.out; omega⟩, ⟨qb BK303.out⟩, ⟨qB⟩⟩
     ·rw [if_neg c10] at H
      have c10b0 : ((Go.bits .andNot .i64 (rd l0_0 x10_1) a1) == 0) = false := beq_eq_false_iff_ne.mpr c10
      have c10b1 : ((Go.bits .andNot .i64 (rd l0_0 x10_1) a1) != 0) = true := bne_iff_ne.mpr c10
      obtain rfl := Option.some.inj H
      have p304 : 0 ≤ (x10_1 : Int) := qd
      have q304 : x10_1 < (l0_0.length : Int) := qd
      obtain ⟨ad304, e304, hx304_0⟩ := Kd.at_int HR0_0.out x10_1 p304 q304
      cases e304
      replace hx304_0 := (HB.out.cell (World.block_lt_of_cell? w _ hx304_0)).trans hx304_0
      replace p304 := eq_true p304
      replace q304 := eq_true q304
      go_wp2_with (((with_reducible refine gate_callee (f := 93) rfl ?_); refine gL (some 17) Try.func93 #[.int .i64 a1, .int .i64 x10_1] ?_; (with_reducible refine (spec_poIn.calls a1 x10_1 true _ A8.out).mono ?_); rintro e w' ⟨rfl, ⟨nd, rfl⟩⟩; refine ⟨_, rfl, ?_⟩))
      go_ret
      exact ⟨qr, qB⟩
    ·replace c9 := Bool.eq_false_iff.mpr c9
     subst c9
     rw [if_neg (show ¬ (false = true) by decide)] at H
     have H' := am H
     clear H
     have p304 : 0 ≤ (x10_1 : Int) := qd
     have q304 : x10_1 < (l0_0.length : Int) := qd
     obtain ⟨ad304, e304, hx304_0⟩ := Kd.at_int HR0_0.out x10_1 p304 q304
     cases e304
     replace hx304_0 := (HB.out.cell (World.block_lt_of_cell? w _ hx304_0)).trans hx304_0
     replace p304 := eq_true p304
     replace q304 := eq_true q304
     go_wp2_with (((with_reducible refine gate_callee (f := 93) rfl ?_); refine gL (some 17) Try.func93 #[.int .i64 a1, .int .i64 x10_1] ?_; (with_reducible refine (spec_poIn.calls a1 x10_1 false _ A8.out).mono ?_); rintro e w' ⟨rfl, ⟨nd, rfl⟩⟩; refine ⟨_, rfl, ?_⟩))
     go_roundg k1
     case measure => have := HK1.out; omega
     case rel => exact ⟨(wrap64 (x10_1 + 1)), qe, H', ⟨by have := HK1.out; omega⟩, ⟨qb BK303.out⟩, ⟨qB⟩⟩
   ·rw [if_neg c5] at H
    have c5b0 := decide_eq_false c5
    clear c5
    obtain rfl := Option.some.inj H
    go_wp2
    go_ret
    exact ⟨qr, qB⟩
def spec_poIdeals.l0 : Nat → List Int → Int → List Int → Option (List Int)
 | 0, _, _, _ => none
 | k + 1, x3, x4, x307000 => if x4 < (shl .i64 1 (x307000.length : Int)) then ((spec_poIdeal.f k x307000 x4).bind fun t307 => (if t307 = true then (if x3.length < 17592186044416 then (spec_poIdeals.l0 k (x3 ++ [x4]) (wrap64 (x4 + 1)) x307000) else (none)) else (spec_poIdeals.l0 k x3 (wrap64 (x4 + 1)) x307000))) else (some x3)
def spec_poIdeals.f (k : Nat) (l0_0 : List Int) : Option (List Int) := spec_poIdeals.l0 k ([] : List Int) 0 l0_0
theorem spec_poIdeals.mono_l : ∀ k, (∀ y0 y1 y2, LeO (spec_poIdeals.l0 k y0 y1 y2) (spec_poIdeals.l0 (k + 1) y0 y1 y2))
 | 0 => fun _ _ _ r h => by simp [spec_poIdeals.l0] at h
 | k + 1 => by
  have ih0 := spec_poIdeals.mono_l k
  ·intro y0 y1 y2
   unfold spec_poIdeals.l0
   repeat' first
   | (with_reducible exact spec_poIdeal.mono _ _ _)
   | (with_reducible exact LeO.refl _)
   | (with_reducible exact LeO.none _)
   | (with_reducible refine LeO.ite ?_ ?_)
   | (with_reducible refine LeO.bind ?_ (fun _ => ?_))
   | exact ih0 _ _ _
   | exact spec_poIdeal.mono _ _ _
   | exact LeO.none _
   | refine LeO.ite ?_ ?_
   | refine LeO.bind ?_ (fun _ => ?_)
theorem spec_poIdeals.mono : ∀ a0 k, LeO (spec_poIdeals.f k a0) (spec_poIdeals.f (k + 1) a0) := by
 intro a0 k
 have ih0 := spec_poIdeals.mono_l k
 unfold spec_poIdeals.f
 repeat' first
  | (with_reducible exact spec_poIdeal.mono _ _ _)
  | (with_reducible exact LeO.refl _)
  | (with_reducible exact LeO.none _)
  | (with_reducible refine LeO.ite ?_ ?_)
  | (with_reducible refine LeO.bind ?_ (fun _ => ?_))
  | exact ih0 _ _ _
  | exact spec_poIdeal.mono _ _ _
  | exact LeO.none _
  | refine LeO.ite ?_ ?_
  | refine LeO.bind ?_ (fun _ => ?_)
set_option maxHeartbeats 8000000 in
set_option maxRecDepth 100000 in
theorem spec_poIdeals.calls (k : Nat) (A0_0 : Option Addr) (c0_0 : Nat) (l0_0 : List Int) (r : List Int) (w : World) (hr0_0 : Kd.C (Kd.int .i64) w A0_0 l0_0.length l0_0) (hc0_0 : l0_0.length ≤ c0_0) (h : spec_poIdeals.f k l0_0 = some r) :
 Calls Try.prog 137 #[.agg #[.slice A0_0 l0_0.length c0_0]] w fun e w' => ∃ v0_ : Value, e = .returned (v0_) ∧ Kd.R (Kd.int .i64) 3 w' w.heap.size (fun _ => True) v0_ r ∧ Below w.heap.size w w' := by
 have hu26 := Try.underlying26
 have HR0_0 := am hr0_0
 have HC0_0 := am hc0_0
 clear hr0_0 hc0_0
 have HB := am (Below.refl w.heap.size w)
 have H := h
 unfold spec_poIdeals.f at H
 clear h
 have H' := am H
 clear H
 go_enter Try.func137, Try.ntmps137
 go_wp2_with (((with_reducible refine gate_dst (N := 1) rfl ?_); refine qx (N := 1) (cs := #[.slice A0_0 l0_0.length c0_0]) (t := 26) ?_; intro gb306 hg w2 hbox hb; have n0_ := am (below_step qB hb); have BK306 := am (hbox); have GW306 := am (qg w hg); have GE306 := am (qg w hg); clear HB; have HB := n0_; clear n0_; clear hb hbox hg))
 go_loopg [3, 4] k (fun kq v3 v4 w' => ∃ (x3_1 : List Int) (x4_1 : Int), v4 = .int .i64 x4_1 ∧ Aside0 (spec_poIdeals.l0 kq x3_1 x4_1 l0_0 = some r) ∧ Aside0 (kq ≤ k) ∧ Aside0 (Kd.R (Kd.int .i64) 3 w' w.heap.size (fun _ => True) v3 x3_1) ∧ Aside0 (w'.heap[gb306]? = some (.cells #[(.slice A0_0 l0_0.length c0_0)] 26 (0, 0))) ∧ Aside0 (Below w.heap.size w w'))
 case atStart => exact ⟨(([] : List Int)), (0), qe, H', ⟨Nat.le_refl _⟩, ⟨by first | exact Kd.R_nil _ _ _ _ _ | exact Kd.N_nil _ _ _ _ _ | exact Kd.V_nil _ _ _ _ _ | exact Kd.Q_nil _ _ _ _ _ | exact Kd.S_nil _ _ _ _ _⟩, ⟨qb BK306.out⟩, ⟨qB⟩⟩
 case round =>
  clear H'
  try clear c1
  try clear p2
  obtain ⟨x3_1, x4_1, rfl, HA, HK1, HO_3, BK306, HB⟩ := hrel
  cases gk with
  | zero => exact absurd HA.out (by simp [spec_poIdeals.l0])
  | succ k1 =>
   have H := HA.out
   clear HA
   simp only [spec_poIdeals.l0] at H
   obtain ⟨ji3, hji3⟩ : ∃ j_ : Int, (shl .i64 1 (l0_0.length : Int)) = j_ := ⟨_, rfl⟩
   first | rw [hji3] at H | simp only [hji3] at H
   have hji3_ : (IntKind.i64.wrap (1 * 2 ^ min (l0_0.length : Int).toNat 64)) = ji3 := hji3
   have hji3z : (l0_0.length : Int) ≤ 64 → (IntKind.i64.wrap (1 * 2 ^ (l0_0.length : Int).toNat)) = ji3 := shl_small hji3
   have hji3p : (IntKind.i64.wrap (1 * 2 ^ min l0_0.length 64)) = ji3 := hji3_
   have hji3q : (l0_0.length : Int) ≤ 64 → (IntKind.i64.wrap (1 * 2 ^ l0_0.length)) = ji3 := hji3z
   have hji3r : (IntKind.i64.wrap (2 ^ min l0_0.length 64)) = ji3 := by have h_ := hji3p; rw [Int.one_mul] at h_; exact h_
   have hji3s : (l0_0.length : Int) ≤ 64 → (IntKind.i64.wrap (2 ^ l0_0.length)) = ji3 := fun hle_ => by have h_ := hji3q hle_; rw [Int.one_mul] at h_; exact h_
   have hji3u : (IntKind.i64.wrap (2 ^ min (l0_0.length : Int).toNat 64)) = ji3 := by have h_ := hji3_; rw [Int.one_mul] at h_; exact h_
   have hji3v : (l0_0.length : Int) ≤ 64 → (IntKind.i64.wrap (2 ^ (l0_0.length : Int).toNat)) = ji3 := fun hle_ => by have h_ := hji3z hle_; rw [Int.one_mul] at h_; exact h_
   have hji3y : (wrap64 (1 * 2 ^ min (l0_0.length : Int).toNat 64)) = ji3 := (i64_w _).symm.trans hji3_
   have hji3x : (l0_0.length : Int) ≤ 64 → (wrap64 (1 * 2 ^ (l0_0.length : Int).toNat)) = ji3 := fun h_ => (i64_w _).symm.trans (hji3z h_)
   by_cases c4 : x4_1 < (ji3)
   ·rw [if_pos c4] at H
    have c4b0 := decide_eq_true c4
    clear c4
    replace H := Option.bind_eq_some_iff.mp H
    obtain ⟨t307, A50, H⟩ := H
    (try dsimp only at H)
    have A5 := am A50
    clear A50
    by_cases c6 : t307 = true
    ·subst c6
     rw [if_pos rfl] at H
     by_cases c7 : x3_1.length < 17592186044416
     rotate_left
     ·rw [if_neg c7] at H
      exact absurd H (by simp)
     rw [if_pos c7] at H
     have LMc7 := am c7
     clear c7
     obtain ⟨y308, hy308⟩ : ∃ y_ : List Int, y_ = (x3_1 ++ [x4_1]) := ⟨_, rfl⟩
     first | rw [← hy308] at H | (have H2_ := (Option.bind_some _ _).symm.trans H; clear H; have H := H2_; clear H2_; rw [← hy308] at H)
     have Ny308 := am hy308
     clear hy308
     have H' := am H
     clear H
     have hcz8_0 := qz wr BK306.out
     have hfz8_0 := blk_frozen BK306.out 0
     go_wp2_with (first | ((with_reducible refine gate_callee (f := 92) rfl ?_); refine gL (some 15) Try.func92 #[.agg #[.slice A0_0 l0_0.length c0_0], .int .i64 x4_1] ?_; (with_reducible refine (spec_poIdeal.calls k1 _ _ l0_0 x4_1 true _ ?side1 ?side2 A5.out).mono ?_); (case side1 => exact qC (Kd.C_below HR0_0.out HB.out)); (case side2 => exact HC0_0.out); rintro e w9 ⟨rfl, hb⟩; refine ⟨_, rfl, ?_⟩; replace HO_3 := am (Kd.R_below (qR HO_3.out) hb); replace BK306 := am (blk_below (g := gb306) (o := .cells #[.slice A0_0 l0_0.length c0_0] 26 (0, 0)) (qb BK306.out) hb); replace HB := am (below_step qB hb); (try clear hb); (try clear hb2); (try clear hk); (try clear hi)) | ((with_reducible refine gate_builtin (b := .append) (xs := #[.tmp 16, .tmp 18]) rfl ?_); at_builtin; refine Kd.R_append (Kd.int .i64) (w0 := w) w.heap.size rfl (.tmp 16) (.tmp 18) 24 3 (.int .i64 0) 8 rfl Try.underlying24 info3 rfl (by decide) (by omega) u3 x3_1 x4_1 [.int .i64 x4_1] (fun _ => True) (fun _ => False) rfl rfl ?aP (fun _ hk => hk.elim) ?aF ?aO ?aB ?aS ?aL ?_; (case aP => exact rfl); (case aB => exact qB); (case aF => exact (fun _ _ => trivial)); (case aO => exact (qR HO_3.out)); (case aS => exact (below_size qB)); (case aL => have := LMc7.out; omega); intro v309 w10 ho hb hg hat; rw [← Ny308.out] at ho; replace BK306 := am (blk_grown (g := gb306) (o := .cells #[.slice A0_0 l0_0.length c0_0] 26 (0, 0)) (qb BK306.out) hg (Kd.R_ne HO_3.out BK306.out (by decide))); have n1_ := am (hb); have HO310 := am (ho); clear HB HO_3; have HB := n1_; clear n1_; clear ho hb hg hat))
     go_roundg k1
     case measure => have := HK1.out; omega
     case rel => exact ⟨(y308), (wrap64 (x4_1 + 1)), qe, H', ⟨by have := HK1.out; omega⟩, ⟨qR HO310.out⟩, ⟨qb BK306.out⟩, ⟨qB⟩⟩
    ·replace c6 := Bool.eq_false_iff.mpr c6
     subst c6
     rw [if_neg (show ¬ (false = true) by decide)] at H
     have H' := am H
     clear H
     have hcz11_0 := qz wr BK306.out
     have hfz11_0 := blk_frozen BK306.out 0
     go_wp2_with (((with_reducible refine gate_callee (f := 92) rfl ?_); refine gL (some 15) Try.func92 #[.agg #[.slice A0_0 l0_0.length c0_0], .int .i64 x4_1] ?_; (with_reducible refine (spec_poIdeal.calls k1 _ _ l0_0 x4_1 false _ ?side1 ?side2 A5.out).mono ?_); (case side1 => exact qC (Kd.C_below HR0_0.out HB.out)); (case side2 => exact HC0_0.out); rintro e w12 ⟨rfl, hb⟩; refine ⟨_, rfl, ?_⟩; replace HO_3 := am (Kd.R_below (qR HO_3.out) hb); replace BK306 := am (blk_below (g := gb306) (o := .cells #[.slice A0_0 l0_0.length c0_0] 26 (0, 0)) (qb BK306.out) hb); replace HB := am (below_step qB hb); (try clear hb); (try clear hb2); (try clear hk); (try clear hi)))
     go_roundg k1
     case measure => have := HK1.out; omega
     case rel => exact ⟨(x3_1), (wrap64 (x4_1 + 1)), qe, H', ⟨by have := HK1.out; omega⟩, ⟨qR HO_3.out⟩, ⟨qb BK306.out⟩, ⟨qB⟩⟩
   ·rw [if_neg c4] at H
    have c4b0 := decide_eq_false c4
    clear c4
    obtain rfl := Option.some.inj H
    have hcz13_0 := qz wr BK306.out
    have hfz13_0 := blk_frozen BK306.out 0
    go_wp2
    go_ret
    exact ⟨_, by first | rfl | (simp [errW_none, errW_some] <;> rfl) | (simp only [← hji3]; first | rfl | (simp [errW_none, errW_some] <;> rfl)) | (simp [*, errW_none, errW_some] <;> rfl), qR HO_3.out, qB⟩
mutual
def spec_laChains.l0 : Nat → Int → Bool → List Int → List Int → List Int → Option (Int)
 | 0, _, _, _, _, _ => none
 | k + 1, x1, x2, x7, x8, x315000 => if x1 > 0 then (if 0 ≤ (x8.length : Int) then (if ((x8.length : Int) : Int).toNat ≤ 35184372088832 then (spec_laChains.l1 k x1 x2 x7 x8 (List.replicate ((x8.length : Int) : Int).toNat 0) x7 (x7.length : Int) 0 x315000) else (none)) else (none)) else (if 0 ≤ (wrap64 ((x8.length : Int) - 1)) then (if (wrap64 ((x8.length : Int) - 1)) < (x8.length : Int) then (some (rd x8 (wrap64 ((x8.length : Int) - 1)))) else (none)) else (none))
def spec_laChains.l1 : Nat → Int → Bool → List Int → List Int → List Int → List Int → Int → Int → List Int → Option (Int)
 | 0, _, _, _, _, _, _, _, _, _ => none
 | k + 1, x1, x2, x7, x8, x9, x30, x31, x32, x315000 => if x32 < x31 then (if 0 ≤ x32 then (if x32 < (x30.length : Int) then (spec_laChains.l2 k x1 x2 x7 x8 x9 (rd x30 x32) x30 x31 x32 x7 (x7.length : Int) 0 x315000) else (none)) else (none)) else (spec_laChains.l0 k (wrap64 (x1 - 1)) x2 x7 x9 x315000)
def spec_laChains.l2 : Nat → Int → Bool → List Int → List Int → List Int → Int → List Int → Int → Int → List Int → Int → Int → List Int → Option (Int)
 | 0, _, _, _, _, _, _, _, _, _, _, _, _, _ => none
 | k + 1, x1, x2, x7, x8, x9, x11, x30, x31, x32, x36, x37, x38, x315000 => if x38 < x37 then (if 0 ≤ x38 then (if x38 < (x36.length : Int) then (if 0 ≤ x11 then (if x11 < (x8.length : Int) then (if (rd x8 x11) > 0 then (if (Go.bits .andNot .i64 x11 (rd x36 x38)) = 0 then (if x2 = true then ((spec_laFree.f k x315000 (Go.bits .andNot .i64 (rd x36 x38) x11)).bind fun t329 => (if t329 = true then (if 0 ≤ (rd x36 x38) then (if (rd x36 x38) < (x9.length : Int) then (spec_laChains.l2 k x1 x2 x7 x8 (x9.set ((rd x36 x38) : Int).toNat (wrap64 ((rd x9 (rd x36 x38)) + (rd x8 x11)))) x11 x30 x31 x32 x36 x37 (wrap64 (x38 + 1)) x315000) else (none)) else (none)) else (spec_laChains.l2 k x1 x2 x7 x8 x9 x11 x30 x31 x32 x36 x37 (wrap64 (x38 + 1)) x315000))) else (if 0 ≤ (rd x36 x38) then (if (rd x36 x38) < (x9.length : Int) then (spec_laChains.l2 k x1 x2 x7 x8 (x9.set ((rd x36 x38) : Int).toNat (wrap64 ((rd x9 (rd x36 x38)) + (rd x8 x11)))) x11 x30 x31 x32 x36 x37 (wrap64 (x38 + 1)) x315000) else (none)) else (none))) else (spec_laChains.l2 k x1 x2 x7 x8 x9 x11 x30 x31 x32 x36 x37 (wrap64 (x38 + 1)) x315000)) else (spec_laChains.l2 k x1 x2 x7 x8 x9 x11 x30 x31 x32 x36 x37 (wrap64 (x38 + 1)) x315000)) else (none)) else (none)) else (none)) else (none)) else (spec_laChains.l1 k x1 x2 x7 x8 x9 x30 x31 (wrap64 (x32 + 1)) x315000)
end
def spec_laChains.f (k : Nat) (l0_0 : List Int) (a1 : Int) (a2 : Bool) : Option (Int) := (spec_poIdeals.f k l0_0).bind fun t315 => (if 0 ≤ (shl .i64 1 (l0_0.length : Int)) then (if (shl .i64 1 (l0_0.length : Int) : Int).toNat ≤ 35184372088832 then ((some (List.replicate (shl .i64 1 (l0_0.length : Int) : Int).toNat 0 : List Int)).bind fun y318 => (if 0 < (y318.length : Int) then (spec_laChains.l0 k a1 a2 t315 (y318.set (0 : Int).toNat 1) l0_0) else (none))) else (none)) else (none))
theorem spec_laChains.mono_l : ∀ k, (∀ y0 y1 y2 y3 y4, LeO (spec_laChains.l0 k y0 y1 y2 y3 y4) (spec_laChains.l0 (k + 1) y0 y1 y2 y3 y4)) ∧ (∀ y0 y1 y2 y3 y4 y5 y6 y7 y8, LeO (spec_laChains.l1 k y0 y1 y2 y3 y4 y5 y6 y7 y8) (spec_laChains.l1 (k + 1) y0 y1 y2 y3 y4 y5 y6 y7 y8)) ∧ (∀ y0 y1 y2 y3 y4 y5 y6 y7 y8 y9 y10 y11 y12, LeO (spec_laChains.l2 k y0 y1 y2 y3 y4 y5 y6 y7 y8 y9 y10 y11 y12) (spec_laChains.l2 (k + 1) y0 y1 y2 y3 y4 y5 y6 y7 y8 y9 y10 y11 y12))
 | 0 => ⟨fun _ _ _ _ _ r h => by simp [spec_laChains.l0] at h, fun _ _ _ _ _ _ _ _ _ r h => by simp [spec_laChains.l1] at h, fun _ _ _ _ _ _ _ _ _ _ _ _ _ r h => by simp [spec_laChains.l2] at h⟩
 | k + 1 => by
  obtain ⟨ih0, ih1, ih2⟩ := spec_laChains.mono_l k
  refine ⟨?_, ?_, ?_⟩
  ·intro y0 y1 y2 y3 y4
   unfold spec_laChains.l0
   repeat' first
   | (with_reducible exact spec_laFree.mono _ _ _)
   | (with_reducible exact spec_poIdeals.mono _ _)
   | (with_reducible exact LeO.refl _)
   | (with_reducible exact LeO.none _)
   | (with_reducible refine LeO.ite ?_ ?_)
   | (with_reducible refine LeO.bind ?_ (fun _ => ?_))
   | exact ih0 _ _ _ _ _
   | exact ih1 _ _ _ _ _ _ _ _ _
   | exact ih2 _ _ _ _ _ _ _ _ _ _ _ _ _
   | exact spec_laFree.mono _ _ _
   | exact spec_poIdeals.mono _ _
   | exact LeO.none _
   | refine LeO.ite ?_ ?_
   | refine LeO.bind ?_ (fun _ => ?_)
  ·intro y0 y1 y2 y3 y4 y5 y6 y7 y8
   unfold spec_laChains.l1
   repeat' first
   | (with_reducible exact spec_laFree.mono _ _ _)
   | (with_reducible exact spec_poIdeals.mono _ _)
   | (with_reducible exact LeO.refl _)
   | (with_reducible exact LeO.none _)
   | (with_reducible refine LeO.ite ?_ ?_)
   | (with_reducible refine LeO.bind ?_ (fun _ => ?_))
   | exact ih0 _ _ _ _ _
   | exact ih1 _ _ _ _ _ _ _ _ _
   | exact ih2 _ _ _ _ _ _ _ _ _ _ _ _ _
   | exact spec_laFree.mono _ _ _
   | exact spec_poIdeals.mono _ _
   | exact LeO.none _
   | refine LeO.ite ?_ ?_
   | refine LeO.bind ?_ (fun _ => ?_)
  ·intro y0 y1 y2 y3 y4 y5 y6 y7 y8 y9 y10 y11 y12
   unfold spec_laChains.l2
   repeat' first
   | (with_reducible exact spec_laFree.mono _ _ _)
   | (with_reducible exact spec_poIdeals.mono _ _)
   | (with_reducible exact LeO.refl _)
   | (with_reducible exact LeO.none _)
   | (with_reducible refine LeO.ite ?_ ?_)
   | (with_reducible refine LeO.bind ?_ (fun _ => ?_))
   | exact ih0 _ _ _ _ _
   | exact ih1 _ _ _ _ _ _ _ _ _
   | exact ih2 _ _ _ _ _ _ _ _ _ _ _ _ _
   | exact spec_laFree.mono _ _ _
   | exact spec_poIdeals.mono _ _
   | exact LeO.none _
   | refine LeO.ite ?_ ?_
   | refine LeO.bind ?_ (fun _ => ?_)
theorem spec_laChains.mono : ∀ a0 a1 a2 k, LeO (spec_laChains.f k a0 a1 a2) (spec_laChains.f (k + 1) a0 a1 a2) := by
 intro a0 a1 a2 k
 obtain ⟨ih0, ih1, ih2⟩ := spec_laChains.mono_l k
 unfold spec_laChains.f
 repeat' first
  | (with_reducible exact spec_laFree.mono _ _ _)
  | (with_reducible exact spec_poIdeals.mono _ _)
  | (with_reducible exact LeO.refl _)
  | (with_reducible exact LeO.none _)
  | (with_reducible refine LeO.ite ?_ ?_)
  | (with_reducible refine LeO.bind ?_ (fun _ => ?_))
  | exact ih0 _ _ _ _ _
  | exact ih1 _ _ _ _ _ _ _ _ _
  | exact ih2 _ _ _ _ _ _ _ _ _ _ _ _ _
  | exact spec_laFree.mono _ _ _
  | exact spec_poIdeals.mono _ _
  | exact LeO.none _
  | refine LeO.ite ?_ ?_
  | refine LeO.bind ?_ (fun _ => ?_)
def spec_laChains.T14 : Bool × List (List Nat × List Nat) := (true, [([], []), ([], []), ([0, 1], [0, 1]), ([2], [2]), ([], []), ([], []), ([4, 5], [4, 5]), ([6], [6]), ([3, 7], [3, 7]), ([0, 1, 0, 1, 2, 3, 4, 5, 6, 7, 8], [0, 1]), ([9, 8, 0, 1, 2, 3, 4, 5, 6, 7, 8], [8, 9])])
def spec_laChains.B14 : List Nat := [0, 0, 3, 7, 0, 0, 48, 112, 255, 511, 1023]
theorem spec_laChains.tab14 : rtab .any (opsOf Try.f96 14) = spec_laChains.T14 := by kernel_rfl
theorem spec_laChains.bits14 : waitsOk spec_laChains.T14.2 spec_laChains.B14 = true := by kernel_rfl
set_option maxHeartbeats 8000000 in
set_option maxRecDepth 100000 in
theorem spec_laChains.calls (k : Nat) (A0_0 : Option Addr) (c0_0 : Nat) (l0_0 : List Int) (a1 : Int) (a2 : Bool) (r : Int) (w : World) (hr0_0 : Kd.C (Kd.int .i64) w A0_0 l0_0.length l0_0) (hc0_0 : l0_0.length ≤ c0_0) (h : spec_laChains.f k l0_0 a1 a2 = some r) :
 Calls Try.prog 96 #[.agg #[.slice A0_0 l0_0.length c0_0], .int .i64 a1, .bool a2] w fun e w' => e = .returned (.int .i64 r) ∧ Below w.heap.size w w' := by
 have hu26 := Try.underlying26
 have HR0_0 := am hr0_0
 have HC0_0 := am hc0_0
 clear hr0_0 hc0_0
 have HB := am (Below.refl w.heap.size w)
 have H := h
 unfold spec_laChains.f at H
 clear h
 replace H := Option.bind_eq_some_iff.mp H
 obtain ⟨t315, A40, H⟩ := H
 (try dsimp only at H)
 have A4 := am A40
 clear A40
 obtain ⟨ji5, hji5⟩ : ∃ j_ : Int, (shl .i64 1 (l0_0.length : Int)) = j_ := ⟨_, rfl⟩
 first | rw [hji5] at H | simp only [hji5] at H
 (try rw [hji5] at A4)
 have hji5_ : (IntKind.i64.wrap (1 * 2 ^ min (l0_0.length : Int).toNat 64)) = ji5 := hji5
 have hji5z : (l0_0.length : Int) ≤ 64 → (IntKind.i64.wrap (1 * 2 ^ (l0_0.length : Int).toNat)) = ji5 := shl_small hji5
 have hji5p : (IntKind.i64.wrap (1 * 2 ^ min l0_0.length 64)) = ji5 := hji5_
 have hji5q : (l0_0.length : Int) ≤ 64 → (IntKind.i64.wrap (1 * 2 ^ l0_0.length)) = ji5 := hji5z
 have hji5r : (IntKind.i64.wrap (2 ^ min l0_0.length 64)) = ji5 := by have h_ := hji5p; rw [Int.one_mul] at h_; exact h_
 have hji5s : (l0_0.length : Int) ≤ 64 → (IntKind.i64.wrap (2 ^ l0_0.length)) = ji5 := fun hle_ => by have h_ := hji5q hle_; rw [Int.one_mul] at h_; exact h_
 have hji5u : (IntKind.i64.wrap (2 ^ min (l0_0.length : Int).toNat 64)) = ji5 := by have h_ := hji5_; rw [Int.one_mul] at h_; exact h_
 have hji5v : (l0_0.length : Int) ≤ 64 → (IntKind.i64.wrap (2 ^ (l0_0.length : Int).toNat)) = ji5 := fun hle_ => by have h_ := hji5z hle_; rw [Int.one_mul] at h_; exact h_
 have hji5y : (wrap64 (1 * 2 ^ min (l0_0.length : Int).toNat 64)) = ji5 := (i64_w _).symm.trans hji5_
 have hji5x : (l0_0.length : Int) ≤ 64 → (wrap64 (1 * 2 ^ (l0_0.length : Int).toNat)) = ji5 := fun h_ => (i64_w _).symm.trans (hji5z h_)
 by_cases c6 : 0 ≤ (ji5)
 ·rw [if_pos c6] at H
  have c6b0 := eq_true c6
  have c6b1 := decide_eq_true c6
  clear c6
  by_cases c7 : (ji5 : Int).toNat ≤ 35184372088832
  rotate_left
  ·rw [if_neg c7] at H
   exact absurd H (by simp)
  rw [if_pos c7] at H
  have c7b0 := eq_true c7
  have c7b1 := decide_eq_true c7
  clear c7
  obtain ⟨y318, hy318⟩ : ∃ y_ : List Int, y_ = (List.replicate (ji5 : Int).toNat 0) := ⟨_, rfl⟩
  replace H : (if 0 < (y318.length : Int) then (spec_laChains.l0 k a1 a2 t315 (y318.set (0 : Int).toNat 1) l0_0) else (none)) = some r := by first | (rw [hy318]; with_reducible exact H) | (have H2_ := (Option.bind_some _ _).symm.trans H; rw [hy318]; with_reducible exact H2_) | (have H2_ := (Option.bind_some _ _).symm.trans H; with_reducible exact H2_) | with_reducible exact H | (rw [hy318]; exact H) | exact H
  have Ny318 := am hy318
  clear hy318
  by_cases c8 : 0 < (y318.length : Int)
  rotate_left
  ·rw [if_neg c8] at H
   exact absurd H (by simp)
  rw [if_pos c8] at H
  have c8b0 := decide_eq_true c8
  have c8b1 : decide (0 < y318.length) = true := decide_eq_true (by omega)
  clear c8
  obtain ⟨y321, hy321⟩ : ∃ y_ : List Int, y_ = (y318.set (0 : Int).toNat 1) := ⟨_, rfl⟩
  replace H : (spec_laChains.l0 k a1 a2 t315 y321 l0_0) = some r := by first | (rw [hy321]; with_reducible exact H) | (have H2_ := (Option.bind_some _ _).symm.trans H; rw [hy321]; with_reducible exact H2_) | (have H2_ := (Option.bind_some _ _).symm.trans H; with_reducible exact H2_) | with_reducible exact H | (rw [hy321]; exact H) | exact H
  have Ny321 := am hy321
  clear hy321
  have H' := am H
  clear H
  go_enter Try.func96, Try.ntmps96
  go_wp2_with (first | ((with_reducible refine gate_dst (N := 3) rfl ?_); refine qx (N := 3) (cs := #[.slice A0_0 l0_0.length c0_0]) (t := 26) ?_; intro gb314 hg w10 hbox hb; have n0_ := am (below_step qB hb); have BK314 := am (hbox); have GW314 := am (qg w hg); have GE314 := am (qg w hg); clear HB; have HB := n0_; clear n0_; clear hb hbox hg; have hcz11_0 := qz w10 BK314.out; have hfz11_0 := blk_frozen BK314.out 0) | ((with_reducible refine gate_callee (f := 137) rfl ?_); refine gL (some 15) Try.func137 #[.agg #[.slice A0_0 l0_0.length c0_0]] ?_; (with_reducible refine (spec_poIdeals.calls k _ _ l0_0 t315 _ ?side1 ?side2 A4.out).mono ?_); (case side1 => exact qC (Kd.C_below HR0_0.out HB.out)); (case side2 => exact HC0_0.out); rintro e w12 ⟨v316, rfl, ho0, hb⟩; refine ⟨_, rfl, ?_⟩; have HO317 := am (Kd.R_lower ho0 (below_size qB)); replace BK314 := am (blk_below (g := gb314) (o := .cells #[.slice A0_0 l0_0.length c0_0] 26 (0, 0)) (qb BK314.out) hb); replace HB := am (below_step qB hb); (try clear hb); (try clear hb2); (try clear hk); (try clear hi); (try clear ho0); have hcz13_0 := qz w12 BK314.out; have hfz13_0 := blk_frozen BK314.out 0) | ((with_reducible refine gate_dst (N := 20) rfl ?_); refine Kd.R_make (Kd.int .i64) _ 3 rfl (N := 20) rfl 24 _ _ rfl ji5 rfl rfl Try.underlying24 (.int .i64 0) 8 info3 rfl (by decide) (by omega) 0 (ok := fun _ => True) (okp := fun _ => True) rfl (fun _ hk => hk) trivial (qd) (Nat.le_trans (Nat.mul_le_mul_right _ (qd : ji5.toNat ≤ 35184372088832)) (by omega)) (Below.refl _ _) (Nat.le_refl _) ?_; intro v319 w14 ho15 hb hg_ hnew_; clear hg_ hnew_; (first | rw [← Ny318.out] at ho15 | (simp only [Int.reduceToNat] at ho15; rw [← Ny318.out] at ho15)); have n0_ := am (Kd.R_elder' (qR HO317.out) (Kd.R_base ho15) hb); have HO320 := am (Kd.R_lower (Kd.R_new' ho15 (Kd.R_lt (qR HO317.out))) (below_size qB)); replace BK314 := am (blk_below (g := gb314) (o := .cells #[.slice A0_0 l0_0.length c0_0] 26 (0, 0)) (qb BK314.out) hb); replace HB := am (below_step qB hb); clear HO317; have HO317 := n0_; clear n0_; clear hb ho15; have p9 : 0 ≤ (0 : Int) := (by omega); have q9 : (0 : Int) < ((y318.length : Int) : Int) := qd; have qi9 : (0 < y318.length) = True := eq_true (by omega); obtain ⟨go9, co9, eo9, gb9, gl9, cl9, HG9⟩ := Kd.R_form HO320.out (by omega); (first | cases eo9 | (injection eo9 with ea_ en_ ec_; (first | subst ea_ | (injection ea_ with ea_; subst ea_)); subst ec_; clear en_)); have GB9 := am gb9; have GG9 := am HG9; clear gb9 gl9 HG9; obtain ⟨hx9_0, hf9_0⟩ := Kd.R_celln 0 HO320.out (0 : Int) p9 q9; (try rw [show ((0 : Int)).toNat = 0 from rfl] at hx9_0); (try simp only [Nat.reduceMul, Nat.zero_mul, Nat.zero_add, Nat.reduceAdd] at hx9_0); (try rw [show ((0 : Int)).toNat = 0 from rfl] at hf9_0); (try simp only [Nat.reduceMul, Nat.zero_mul, Nat.zero_add, Nat.reduceAdd] at hf9_0); replace p9 := eq_true p9; replace q9 := eq_true q9; have n_ := am (Kd.R_mono (ok' := (fun k_ => some k_ ≠ (v316 : Value).ownBlock)) HO320.out (fun k_ hk => hk.2)); clear HO320; have HO320 := n_; clear n_; obtain ⟨hy16_, hz16_⟩ := Kd.R_celln 0 HO320.out (0 : Int) (by omega) (qd); (try simp only [Int.reduceToNat, Int.toNat_zero, Int.toNat_ofNat, Nat.reduceMul, Nat.zero_mul, Nat.zero_add] at hy16_ hz16_); (try rw [show ((0 : Int)).toNat = 0 from rfl] at hy16_); (try rw [show ((0 : Int)).toNat = 0 from rfl] at hz16_); have HP16 := Kd.R_putg HO320.out (0 : Int) 1) | ((with_reducible refine gate_store (t := 3) (p := 22) rfl ?_); refine store_event (t := 3) (p := 22) (v := ?vo_w17) (w1 := (w14.setCell ⟨go9, (0 : Int).toNat, none⟩ (.int .i64 1))) ?hg ?ho ?hn ?hr ?_; (case ho => rfl); (case hg => rfl); (case hn => rfl); (case hr => first | (go_simp; done) | (go_simp; rfl) | (obtain ⟨Av_, cv_, ev_⟩ := Kd.R_slice HO317.out; subst ev_; go_simp; done) | (obtain ⟨Av_, cv_, ev_⟩ := Kd.R_slice HO317.out; subst ev_; go_simp; rfl) | (obtain ⟨Av_, cv_, ev_⟩ := Kd.R_slice HO320.out; subst ev_; go_simp; done) | (obtain ⟨Av_, cv_, ev_⟩ := Kd.R_slice HO320.out; subst ev_; go_simp; rfl) | (obtain ⟨Av_, cv_, ev_⟩ := Kd.R_slice HO325.out; subst ev_; go_simp; done) | (obtain ⟨Av_, cv_, ev_⟩ := Kd.R_slice HO325.out; subst ev_; go_simp; rfl)); intro w17 hw; have hg : w14.grownBy w17 (some go9) := (by rw [hw]; exact HP16.2); have hp_ : Kd.R (Kd.int .i64) 3 w17 w.heap.size (fun k_ => some k_ ≠ (v316 : Value).ownBlock) (.slice (some ⟨go9, 0, none⟩) y318.length co9) y321 := (by rw [hw, Ny321.out]; exact HP16.1); clear HP16; replace BK314 := am (blk_grown (g := gb314) (o := .cells #[.slice A0_0 l0_0.length c0_0] 26 (0, 0)) (qb BK314.out) hg (Kd.R_ne HO320.out BK314.out (by decide))); replace HO317 := am (Kd.R_after (v := (.slice (some ⟨go9, 0, none⟩) y318.length co9)) (v1 := (.slice (some ⟨go9, 0, none⟩) y318.length co9)) (ok := (fun _ => True)) (qR HO317.out) hg (.inl rfl)); replace HO320 := am (hp_); replace HB := am ((by rw [hw]; exact below_set (HB.out) GB9.out : Below w.heap.size w w17)); clear hg hw hp_))
  go_loopg [1, 8] k (fun kq v1 v8 w' => ∃ (x1_1 : Int) (x7_1 : List Int) (x8_1 : List Int), v1 = .int .i64 x1_1 ∧ Aside0 (spec_laChains.l0 kq x1_1 a2 x7_1 x8_1 l0_0 = some r) ∧ Aside0 (kq ≤ k) ∧ Aside0 (Kd.R (Kd.int .i64) 3 w' w.heap.size (fun k_ => some k_ ≠ (v8 : Value).ownBlock) v316 x7_1) ∧ Aside0 (Kd.R (Kd.int .i64) 3 w' w.heap.size (fun k_ => some k_ ≠ (v316 : Value).ownBlock) v8 x8_1) ∧ Aside0 (w'.heap[gb314]? = some (.cells #[(.slice A0_0 l0_0.length c0_0)] 26 (0, 0))) ∧ Aside0 (Below w.heap.size w w'))
  case atStart => exact ⟨(a1), (t315), (y321), qe, H', ⟨Nat.le_refl _⟩, ⟨qR (Kd.R_mono HO317.out (fun _ hk => hk.2))⟩, ⟨qR HO320.out⟩, ⟨qb BK314.out⟩, ⟨qB⟩⟩
  case round =>
   clear H'
   try clear c1
   try clear p2
   try clear c6
   try clear c6b0
   try clear c6b1
   try clear p6
   try clear c7
   try clear c7b0
   try clear c7b1
   try clear c8
   try clear c8b0
   try clear c8b1
   try clear c9
   try clear p9
   try clear q9
   try clear hx9
   try clear qi9
   try clear hf9
   try clear c13
   try clear hcz11_0
   try clear hcz13_0
   try clear hfz11_0
   try clear hfz13_0
   try clear hx9_0
   try clear p9
   try clear q9
   obtain ⟨x1_1, x7_1, x8_1, rfl, HA, HK1, HO_7, HO_8, BK314, HB⟩ := hrel
   cases gk with
   | zero => exact absurd HA.out (by simp [spec_laChains.l0])
   | succ k1 =>
    have H := HA.out
    clear HA
    simp only [spec_laChains.l0] at H
    by_cases c18 : x1_1 > 0
    ·rw [if_pos c18] at H
     have c18b0 : decide (0 < x1_1) = true := decide_eq_true c18
     clear c18
     by_cases c19 : 0 ≤ (x8_1.length : Int)
     rotate_left
     ·rw [if_neg c19] at H
      exact absurd H (by simp)
     rw [if_pos c19] at H
     have c19b0 := eq_true c19
     have c19b1 := decide_eq_true c19
     clear c19
     by_cases c20 : ((x8_1.length : Int) : Int).toNat ≤ 35184372088832
     rotate_left
     ·rw [if_neg c20] at H
      exact absurd H (by simp)
     rw [if_pos c20] at H
     have c20b0 := eq_true c20
     have c20b1 := decide_eq_true c20
     clear c20
     obtain ⟨y323, hy323⟩ : ∃ y_ : List Int, y_ = (List.replicate ((x8_1.length : Int) : Int).toNat 0) := ⟨_, rfl⟩
     replace H : (spec_laChains.l1 k1 x1_1 a2 x7_1 x8_1 y323 x7_1 (x7_1.length : Int) 0 l0_0) = some r := by first | (rw [hy323]; with_reducible exact H) | (have H2_ := (Option.bind_some _ _).symm.trans H; rw [hy323]; with_reducible exact H2_) | (have H2_ := (Option.bind_some _ _).symm.trans H; with_reducible exact H2_) | with_reducible exact H | (rw [hy323]; exact H) | exact H
     have Ny323 := am hy323
     clear hy323
     have H' := am H
     clear H
     obtain ⟨Ao21, co21, eo21⟩ := Kd.R_slice HO_8.out
     subst eo21
     go_wp2_with (((with_reducible refine gate_dst (N := 29) rfl ?_); refine Kd.R_make (Kd.int .i64) _ 3 rfl (N := 29) rfl 24 _ _ rfl (x8_1.length : Int) rfl rfl Try.underlying24 (.int .i64 0) 8 info3 rfl (by decide) (by omega) 0 (ok := fun _ => True) (okp := fun _ => True) rfl (fun _ hk => hk) trivial (qd) (Nat.le_trans (Nat.mul_le_mul_right _ (qd : (x8_1.length : Int).toNat ≤ 35184372088832)) (by omega)) (Below.refl _ _) (Nat.le_refl _) ?_; intro v324 w22 ho23 hb hg_ hnew_; clear hg_ hnew_; (first | rw [← Ny323.out] at ho23 | (simp only [Int.reduceToNat] at ho23; rw [← Ny323.out] at ho23)); have n0_ := am (Kd.R_elder' (qR HO_7.out) (Kd.R_base ho23) hb); have n1_ := am (Kd.R_elder' (qR HO_8.out) (Kd.R_base ho23) hb); have HO325 := am (Kd.R_lower (Kd.R_new' (Kd.R_new' ho23 (Kd.R_lt (qR HO_7.out))) (Kd.R_lt (qR HO_8.out))) (below_size qB)); replace BK314 := am (blk_below (g := gb314) (o := .cells #[.slice A0_0 l0_0.length c0_0] 26 (0, 0)) (qb BK314.out) hb); replace HB := am (below_step qB hb); clear HO_7 HO_8; have HO_7 := n0_; have HO_8 := n1_; clear n0_ n1_; clear hb ho23; obtain ⟨Ao24, co24, eo24⟩ := Kd.R_slice HO_7.out; subst eo24))
     go_loopg [32] k1 (fun kq v32 w' => ∃ (x9_2 : List Int) (x32_2 : Int), v32 = .int .i64 x32_2 ∧ Aside0 (spec_laChains.l1 kq x1_1 a2 x7_1 x8_1 x9_2 x7_1 (x7_1.length : Int) x32_2 l0_0 = some r) ∧ Aside0 (kq ≤ k1) ∧ Aside0 (Kd.R (Kd.int .i64) 3 w' w.heap.size (fun k_ => some k_ ≠ ((.slice Ao21 x8_1.length co21) : Value).ownBlock ∧ some k_ ≠ (v324 : Value).ownBlock) (.slice Ao24 x7_1.length co24) x7_1) ∧ Aside0 (Kd.R (Kd.int .i64) 3 w' w.heap.size (fun k_ => some k_ ≠ ((.slice Ao24 x7_1.length co24) : Value).ownBlock ∧ some k_ ≠ (v324 : Value).ownBlock ∧ some k_ ≠ ((.slice Ao24 x7_1.length co24) : Value).ownBlock) (.slice Ao21 x8_1.length co21) x8_1) ∧ Aside0 (Kd.R (Kd.int .i64) 3 w' w.heap.size (fun k_ => some k_ ≠ ((.slice Ao24 x7_1.length co24) : Value).ownBlock ∧ some k_ ≠ ((.slice Ao21 x8_1.length co21) : Value).ownBlock ∧ some k_ ≠ ((.slice Ao24 x7_1.length co24) : Value).ownBlock) v324 x9_2) ∧ Aside0 (Kd.R (Kd.int .i64) 3 w' w.heap.size (fun k_ => some k_ ≠ ((.slice Ao21 x8_1.length co21) : Value).ownBlock ∧ some k_ ≠ (v324 : Value).ownBlock) (.slice Ao24 x7_1.length co24) x7_1) ∧ Aside0 (w'.heap[gb314]? = some (.cells #[(.slice A0_0 l0_0.length c0_0)] 26 (0, 0))) ∧ Aside0 (Below w.heap.size w w'))
     case atStart => exact ⟨(y323), (0), qe, H', ⟨Nat.le_refl _⟩, ⟨qR HO_7.out⟩, ⟨qR (Kd.R_mono HO_8.out (fun _ hk => ⟨hk.1, ⟨hk.2, hk.1⟩⟩))⟩, ⟨qR (Kd.R_mono HO325.out (fun _ hk => ⟨hk.1.2, ⟨hk.2, hk.1.2⟩⟩))⟩, ⟨qR HO_7.out⟩, ⟨qb BK314.out⟩, ⟨qB⟩⟩
     case round =>
      clear H'
      try clear c1
      try clear c2
      try clear p2
      try clear c6
      try clear c6b0
      try clear c6b1
      try clear p6
      try clear c7
      try clear c7b0
      try clear c7b1
      try clear c8
      try clear c8b0
      try clear c8b1
      try clear c9
      try clear p9
      try clear q9
      try clear hx9
      try clear qi9
      try clear hf9
      try clear c13
      try clear c18
      try clear c18b0
      try clear c19
      try clear c19b0
      try clear c19b1
      try clear c20
      try clear c20b0
      try clear c20b1
      try clear hcz11_0
      try clear hcz13_0
      try clear hfz11_0
      try clear hfz13_0
      try clear hx9_0
      try clear p2
      try clear p6
      try clear p9
      try clear q9
      obtain ⟨x9_2, x32_2, rfl, HA, HK2, HO_7, HO_8, HO_9, HO_30, BK314, HB⟩ := hrel
      cases gk with
      | zero => exact absurd HA.out (by simp [spec_laChains.l1])
      | succ k2 =>
       have H := HA.out
       clear HA
       simp only [spec_laChains.l1] at H
       by_cases c25 : x32_2 < (x7_1.length : Int)
       ·rw [if_pos c25] at H
        have c25b0 := decide_eq_true c25
        clear c25
        by_cases c26 : 0 ≤ x32_2
        rotate_left
        ·rw [if_neg c26] at H
         exact absurd H (by simp)
        rw [if_pos c26] at H
        have c26b0 := decide_eq_true c26
        clear c26
        by_cases c27 : x32_2 < (x7_1.length : Int)
        rotate_left
        ·rw [if_neg c27] at H
         exact absurd H (by simp)
        rw [if_pos c27] at H
        have c27b0 := decide_eq_true c27
        clear c27
        have H' := am H
        clear H
        have p326 : 0 ≤ (x32_2 : Int) := qd
        have q326 : x32_2 < (x7_1.length : Int) := qd
        obtain ⟨ad326, e326, hx326_0⟩ := Kd.at_int (Kd.R_reads' HO_30.out).2.2 x32_2 p326 q326
        cases e326
        replace p326 := eq_true p326
        replace q326 := eq_true q326
        go_wp2
        go_loopg [38] k2 (fun kq v38 w' => ∃ (x9_3 : List Int) (x38_3 : Int), v38 = .int .i64 x38_3 ∧ Aside0 (spec_laChains.l2 kq x1_1 a2 x7_1 x8_1 x9_3 (rd x7_1 x32_2) x7_1 (x7_1.length : Int) x32_2 x7_1 (x7_1.length : Int) x38_3 l0_0 = some r) ∧ Aside0 (kq ≤ k2) ∧ Aside0 (Kd.R (Kd.int .i64) 3 w' w.heap.size (fun k_ => some k_ ≠ ((.slice Ao21 x8_1.length co21) : Value).ownBlock ∧ some k_ ≠ (v324 : Value).ownBlock) (.slice (some ad326) x7_1.length co24) x7_1) ∧ Aside0 (Kd.R (Kd.int .i64) 3 w' w.heap.size (fun k_ => some k_ ≠ ((.slice (some ad326) x7_1.length co24) : Value).ownBlock ∧ some k_ ≠ (v324 : Value).ownBlock ∧ some k_ ≠ ((.slice (some ad326) x7_1.length co24) : Value).ownBlock ∧ some k_ ≠ ((.slice (some ad326) x7_1.length co24) : Value).ownBlock) (.slice Ao21 x8_1.length co21) x8_1) ∧ Aside0 (Kd.R (Kd.int .i64) 3 w' w.heap.size (fun k_ => some k_ ≠ ((.slice (some ad326) x7_1.length co24) : Value).ownBlock ∧ some k_ ≠ ((.slice Ao21 x8_1.length co21) : Value).ownBlock ∧ some k_ ≠ ((.slice (some ad326) x7_1.length co24) : Value).ownBlock ∧ some k_ ≠ ((.slice (some ad326) x7_1.length co24) : Value).ownBlock) v324 x9_3) ∧ Aside0 (Kd.R (Kd.int .i64) 3 w' w.heap.size (fun k_ => some k_ ≠ ((.slice Ao21 x8_1.length co21) : Value).ownBlock ∧ some k_ ≠ (v324 : Value).ownBlock) (.slice (some ad326) x7_1.length co24) x7_1) ∧ Aside0 (Kd.R (Kd.int .i64) 3 w' w.heap.size (fun k_ => some k_ ≠ ((.slice Ao21 x8_1.length co21) : Value).ownBlock ∧ some k_ ≠ (v324 : Value).ownBlock) (.slice (some ad326) x7_1.length co24) x7_1) ∧ Aside0 (w'.heap[gb314]? = some (.cells #[(.slice A0_0 l0_0.length c0_0)] 26 (0, 0))) ∧ Aside0 (Below w.heap.size w w'))
        case atStart => exact ⟨(x9_2), (0), qe, H', ⟨Nat.le_refl _⟩, ⟨qR HO_7.out⟩, ⟨qR (Kd.R_mono HO_8.out (fun _ hk => ⟨hk.1, ⟨hk.2.1, ⟨hk.2.2, hk.1⟩⟩⟩))⟩, ⟨qR (Kd.R_mono HO_9.out (fun _ hk => ⟨hk.1, ⟨hk.2.1, ⟨hk.2.2, hk.1⟩⟩⟩))⟩, ⟨qR HO_30.out⟩, ⟨qR HO_7.out⟩, ⟨qb BK314.out⟩, ⟨qB⟩⟩
        case round =>
         clear H'
         try clear c1
         try clear c2
         try clear p2
         try clear p3
         try clear q3
         try clear hx3
         try clear c6
         try clear c6b0
         try clear c6b1
         try clear p6
         try clear c7
         try clear c7b0
         try clear c7b1
         try clear c8
         try clear c8b0
         try clear c8b1
         try clear c9
         try clear p9
         try clear q9
         try clear hx9
         try clear qi9
         try clear hf9
         try clear c13
         try clear c18
         try clear c18b0
         try clear c19
         try clear c19b0
         try clear c19b1
         try clear c20
         try clear c20b0
         try clear c20b1
         try clear c25
         try clear c25b0
         try clear c26
         try clear c26b0
         try clear c27
         try clear c27b0
         try clear hcz11_0
         try clear hcz13_0
         try clear hfz11_0
         try clear hfz13_0
         try clear hx326_0
         try clear hx9_0
         try clear p2
         try clear p326
         try clear p6
         try clear p9
         try clear q326
         try clear q9
         obtain ⟨x9_3, x38_3, rfl, HA, HK3, HO_7, HO_8, HO_9, HO_30, HO_36, BK314, HB⟩ := hrel
         cases gk with
         | zero => exact absurd HA.out (by simp [spec_laChains.l2])
         | succ k3 =>
          have H := HA.out
          clear HA
          simp only [spec_laChains.l2] at H
          by_cases c28 : x38_3 < (x7_1.length : Int)
          ·rw [if_pos c28] at H
           have c28b0 := decide_eq_true c28
           clear c28
           by_cases c29 : 0 ≤ x38_3
           rotate_left
           ·rw [if_neg c29] at H
            exact absurd H (by simp)
           rw [if_pos c29] at H
           have c29b0 := decide_eq_true c29
           clear c29
           by_cases c30 : x38_3 < (x7_1.length : Int)
           rotate_left
           ·rw [if_neg c30] at H
            exact absurd H (by simp)
           rw [if_pos c30] at H
           have c30b0 := decide_eq_true c30
           clear c30
           by_cases c31 : 0 ≤ (rd x7_1 x32_2)
           rotate_left
           ·rw [if_neg c31] at H
            exact absurd H (by simp)
           rw [if_pos c31] at H
           have c31b0 := decide_eq_true c31
           clear c31
           by_cases c32 : (rd x7_1 x32_2) < (x8_1.length : Int)
           rotate_left
           ·rw [if_neg c32] at H
            exact absurd H (by simp)
           rw [if_pos c32] at H
           have c32b0 := decide_eq_true c32
           clear c32
           by_cases c33 : (rd x8_1 (rd x7_1 x32_2)) > 0
           ·rw [if_pos c33] at H
            have c33b0 : decide (0 < (rd x8_1 (rd x7_1 x32_2))) = true := decide_eq_true c33
            clear c33
            by_cases c34 : (Go.bits .andNot .i64 (rd x7_1 x32_2) (rd x7_1 x38_3)) = 0
            ·rw [if_pos c34] at H
             have c34b0 : ((Go.bits .andNot .i64 (rd x7_1 x32_2) (rd x7_1 x38_3)) == 0) = true := beq_iff_eq.mpr c34
             have c34b1 : ((Go.bits .andNot .i64 (rd x7_1 x32_2) (rd x7_1 x38_3)) != 0) = false := bne_eq_false_iff_eq.mpr c34
             clear c34
             by_cases c35 : a2 = true
             ·subst c35
              rw [if_pos rfl] at H
              replace H := Option.bind_eq_some_iff.mp H
              obtain ⟨t329, A360, H⟩ := H
              (try dsimp only at H)
              have A36 := am A360
              clear A360
              by_cases c37 : t329 = true
              ·subst c37
               rw [if_pos rfl] at H
               by_cases c38 : 0 ≤ (rd x7_1 x38_3)
               rotate_left
               ·rw [if_neg c38] at H
                exact absurd H (by simp)
               rw [if_pos c38] at H
               have c38b0 := decide_eq_true c38
               clear c38
               by_cases c39 : (rd x7_1 x38_3) < (x9_3.length : Int)
               rotate_left
               ·rw [if_neg c39] at H
                exact absurd H (by simp)
               rw [if_pos c39] at H
               have c39b0 := decide_eq_true c39
               clear c39
               obtain ⟨y332, hy332⟩ : ∃ y_ : List Int, y_ = (x9_3.set ((rd x7_1 x38_3) : Int).toNat (wrap64 ((rd x9_3 (rd x7_1 x38_3)) + (rd x8_1 (rd x7_1 x32_2))))) := ⟨_, rfl⟩
               replace H : (spec_laChains.l2 k3 x1_1 true x7_1 x8_1 y332 (rd x7_1 x32_2) x7_1 (x7_1.length : Int) x32_2 x7_1 (x7_1.length : Int) (wrap64 (x38_3 + 1)) l0_0) = some r := by first | (rw [hy332]; with_reducible exact H) | (have H2_ := (Option.bind_some _ _).symm.trans H; rw [hy332]; with_reducible exact H2_) | (have H2_ := (Option.bind_some _ _).symm.trans H; with_reducible exact H2_) | with_reducible exact H | (rw [hy332]; exact H) | exact H
               have Ny332 := am hy332
               clear hy332
               have H' := am H
               clear H
               have p327 : 0 ≤ (x38_3 : Int) := qd
               have q327 : x38_3 < (x7_1.length : Int) := qd
               obtain ⟨ad327, e327, hx327_0⟩ := Kd.at_int (Kd.R_reads' HO_36.out).2.2 x38_3 p327 q327
               obtain rfl : ad326 = ad327 := (by injection e327)
               replace p327 := eq_true p327
               replace q327 := eq_true q327
               have p328 : 0 ≤ ((rd x7_1 x32_2) : Int) := qd
               have q328 : (rd x7_1 x32_2) < (x8_1.length : Int) := qd
               obtain ⟨ad328, e328, hx328_0⟩ := Kd.at_int (Kd.R_reads' HO_8.out).2.2 (rd x7_1 x32_2) p328 q328
               cases e328
               replace p328 := eq_true p328
               replace q328 := eq_true q328
               have hcz41_0 := qz wr BK314.out
               have hfz41_0 := blk_frozen BK314.out 0
               try go_wp2_with ((go_at_call 138; (with_reducible refine (spec_laFree.calls k3 _ _ l0_0 (Go.bits .andNot .i64 (rd x7_1 x38_3) (rd x7_1 x32_2)) true _ ?side1 ?side2 A36.out).mono ?_); (case side1 => exact qC (Kd.C_below HR0_0.out HB.out)); (case side2 => exact HC0_0.out); rintro e w42 ⟨rfl, hb⟩; replace HO_7 := am (Kd.R_below (qR HO_7.out) hb); replace HO_8 := am (Kd.R_below (qR HO_8.out) hb); replace HO_9 := am (Kd.R_below (qR HO_9.out) hb); replace HO_30 := am (Kd.R_below (qR HO_30.out) hb); replace HO_36 := am (Kd.R_below (qR HO_36.out) hb); replace BK314 := am (blk_below (g := gb314) (o := .cells #[.slice A0_0 l0_0.length c0_0] 26 (0, 0)) (qb BK314.out) hb); replace HB := am (below_step qB hb); (try clear hb); (try clear hb2); (try clear hk); (try clear hi)))
               have n0_ := am (Kd.R_drew HO_7.out)
               have n1_ := am (Kd.R_drew HO_8.out)
               have n2_ := am (Kd.R_drew HO_9.out)
               have n3_ := am (Kd.R_drew HO_30.out)
               have n4_ := am (Kd.R_drew HO_36.out)
               have n5_ := am (blk_drew BK314.out)
               have n6_ := am (below_drew1 HB.out)
               clear HO_7
               clear HO_8
               clear HO_9
               clear HO_30
               clear HO_36
               clear BK314
               clear HB
               have HO_7 := n0_
               have HO_8 := n1_
               have HO_9 := n2_
               have HO_30 := n3_
               have HO_36 := n4_
               have BK314 := n5_
               have HB := n6_
               clear n0_ n1_ n2_ n3_ n4_ n5_ n6_
               obtain ⟨Ao44, co44, eo44⟩ := Kd.R_slice HO_9.out
               (first | subst eo44 | (injection eo44 with f1_ f2_ f3_; have f4_ := f1_.symm; have f5_ := f3_.symm; clear f1_ f2_ f3_; subst f4_; subst f5_))
               have p330 : 0 ≤ ((rd x7_1 x38_3) : Int) := qd
               have q330 : (rd x7_1 x38_3) < (x9_3.length : Int) := qd
               obtain ⟨ad330, e330, hx330_0⟩ := Kd.at_int (Kd.R_reads' HO_9.out).2.2 (rd x7_1 x38_3) p330 q330
               cases e330
               replace p330 := eq_true p330
               replace q330 := eq_true q330
               have p331 : 0 ≤ ((rd x7_1 x32_2) : Int) := qd
               have q331 : (rd x7_1 x32_2) < (x8_1.length : Int) := qd
               obtain ⟨ad331, e331, hx331_0⟩ := Kd.at_int (Kd.R_reads' HO_8.out).2.2 (rd x7_1 x32_2) p331 q331
               obtain rfl : ad328 = ad331 := (by injection e331)
               replace p331 := eq_true p331
               replace q331 := eq_true q331
               have p40 : 0 ≤ ((rd x7_1 x38_3) : Int) := qd
               have q40 : ((rd x7_1 x38_3) : Int) < ((x9_3.length : Int) : Int) := qd
               obtain ⟨go40, co40, eo40, gb40, gl40, cl40, HG40⟩ := Kd.R_form HO_9.out (by omega)
               (first | cases eo40 | (injection eo40 with ea_ en_ ec_; (first | subst ea_ | (injection ea_ with ea_; subst ea_)); subst ec_; clear en_))
               have GB40 := am gb40
               have GG40 := am HG40
               clear gb40 gl40 HG40
               (first | simp only [add_plain] at hx330_0 | skip)
               obtain ⟨hx40_0, hf40_0⟩ := Kd.R_celln 0 HO_9.out ((rd x7_1 x38_3) : Int) p40 q40
               replace p40 := eq_true p40
               replace q40 := eq_true q40
               have HP45 := Kd.R_putn HO_9.out ((rd x7_1 x38_3) : Int) (wrap64 ((rd x9_3 (rd x7_1 x38_3)) + (rd x8_1 (rd x7_1 x32_2))))
               rw [← Ny332.out] at HP45
               have HQ45 := am HP45
               clear HP45
               refine start_ (n := 11) (S := fun w' => w'.cell? ⟨go40, ((rd x7_1 x38_3)).toNat, none⟩ = some (.int .i64 (rd x9_3 (rd x7_1 x38_3))) ∧ w'.cell? _ = some _) (ds := [10]) #[false, false, false, false, false, false, false, false, false, false, false] (by kernel_rfl) rfl rfl ⟨hx330_0, hx331_0⟩ (fun hHeld => ?_); refine with_tabW spec_laChains.tab14 spec_laChains.bits14 (fun HT_ HW_ => ?_)
               generalize w42.drew = w43 at HO_7 HO_8 HO_9 HO_30 HO_36 BK314 HB GG40 HQ45 hf40_0 hx330_0 hx331_0 hx40_0 hHeld ⊢
               refine pure_ (i := 0) (N := some 64) (v := ?_) (a' := ?_) #[true, false, false, false, false, false, false, false, false, false, false] rfl rfl (any_of HT_.out (by kernel_rfl)) (fun _ _ _ h => h) (Or.inl ⟨by rfl, ?_⟩) ?_ ?_
               rotate_left
               ·intro w'
                go_simp
                with_reducible rfl
               rotate_left
               ·exact qP
               refine pure_ (i := 1) (N := some 65) (v := ?_) (a' := ?_) #[true, true, false, false, false, false, false, false, false, false, false] rfl rfl (any_of HT_.out (by kernel_rfl)) (fun _ _ _ h => h) (Or.inl ⟨by rfl, ?_⟩) ?_ ?_
               rotate_left
               ·intro w'
                go_simp
                with_reducible rfl
               rotate_left
               ·exact qP
               refine pure_ (i := 2) (N := some 66) (v := ?_) (a' := ?_) #[true, true, true, false, false, false, false, false, false, false, false] rfl rfl (any_of HT_.out (by kernel_rfl)) (fun _ _ _ h => h) (Or.inl ⟨by rfl, ?_⟩) ?_ ?_
               rotate_left
               ·intro w'
                go_simp
                with_reducible rfl
               rotate_left
               ·exact qP
               refine pure_ (i := 4) (N := some 68) (v := ?_) (a' := ?_) #[true, true, true, false, true, false, false, false, false, false, false] rfl rfl (any_of HT_.out (by kernel_rfl)) (fun _ _ _ h => h) (Or.inl ⟨by rfl, ?_⟩) ?_ ?_
               rotate_left
               ·intro w'
                go_simp
                with_reducible rfl
               rotate_left
               ·exact qP
               refine pure_ (i := 5) (N := some 69) (v := ?_) (a' := ?_) #[true, true, true, false, true, true, false, false, false, false, false] rfl rfl (any_of HT_.out (by kernel_rfl)) (fun _ _ _ h => h) (Or.inl ⟨by rfl, ?_⟩) ?_ ?_
               rotate_left
               ·intro w'
                go_simp
                with_reducible rfl
               rotate_left
               ·exact qP
               refine pure_ (i := 6) (N := some 70) (v := ?_) (a' := ?_) #[true, true, true, false, true, true, true, false, false, false, false] rfl rfl (any_of HT_.out (by kernel_rfl)) (fun _ _ _ h => h) (Or.inl ⟨by rfl, ?_⟩) ?_ ?_
               rotate_left
               ·intro w'
                go_simp
                with_reducible rfl
               rotate_left
               ·exact qP
               refine take_ (i := 3) (N := some 67) (v := ?_) (a' := ?_) #[true, true, true, true, true, true, true, false, false, false, false] rfl rfl (take_ofW HT_.out HW_.out (by kernel_rfl)) (fun _ _ _ h => h) (Or.inl ⟨by rfl, ?_⟩) hHeld ?_ ?_
               rotate_left
               ·rintro w' ⟨s0, s1⟩
                go_simp
                with_reducible rfl
               rotate_left
               ·exact qP
               refine take_ (i := 7) (N := some 71) (v := ?_) (a' := ?_) #[true, true, true, true, true, true, true, true, false, false, false] rfl rfl (take_ofW HT_.out HW_.out (by kernel_rfl)) (fun _ _ _ h => h) (Or.inl ⟨by rfl, ?_⟩) hHeld ?_ ?_
               rotate_left
               ·rintro w' ⟨s0, s1⟩
                go_simp
                with_reducible rfl
               rotate_left
               ·exact qP
               refine pure_ (i := 8) (N := some 72) (v := ?_) (a' := ?_) #[true, true, true, true, true, true, true, true, true, false, false] rfl rfl (any_of HT_.out (by kernel_rfl)) (fun _ _ _ h => h) (Or.inl ⟨by rfl, ?_⟩) ?_ ?_
               rotate_left
               ·intro w'
                go_simp
                with_reducible rfl
               rotate_left
               ·exact qP
               refine pure_ (i := 9) (N := some 73) (v := ?_) (a' := ?_) #[true, true, true, true, true, true, true, true, true, true, false] rfl rfl (any_of HT_.out (by kernel_rfl)) (fun _ _ _ h => h) (Or.inl ⟨by rfl, ?_⟩) ?_ ?_
               rotate_left
               ·intro w'
                go_simp
                with_reducible rfl
               rotate_left
               ·exact qP
               refine last_ (i := 10) (N := none) #[true, true, true, true, true, true, true, true, true, true, true] rfl rfl (one_of HT_.out (by kernel_rfl)) (by decide) (fun K hK => ?_)
               refine skip_ (w1 := ?_) (by rfl) rfl ?_ ?_
               rotate_left
               ·go_simp
                rfl
               refine hK.out _ _ ?_
               clear hK K
               refine done_ (done_of HT_.out (by kernel_rfl)) ?_
               try go_wp2
               go_roundg k3
               case measure => have := HK1.out; have := HK2.out; have := HK3.out; omega
               case rel => exact ⟨(y332), (wrap64 (x38_3 + 1)), qe, H', ⟨by have := HK1.out; have := HK2.out; have := HK3.out; omega⟩, ⟨qR (Kd.R_mono (Kd.R_far (p := ⟨go40, ((rd x7_1 x38_3) : Int).toNat, none⟩) (Kd.R_mono HO_7.out (fun k_ hk => (⟨hk, fun e_ => hk.2 (by rw [e_]; rfl)⟩ : _ ∧ k_ ≠ go40))) (fun _ hk => hk.2) (.int .i64 (wrap64 ((rd x9_3 (rd x7_1 x38_3)) + (rd x8_1 (rd x7_1 x32_2)))))) (fun _ hk => ⟨hk.1.1, hk.1.2⟩))⟩, ⟨qR (Kd.R_mono (Kd.R_far (p := ⟨go40, ((rd x7_1 x38_3) : Int).toNat, none⟩) (Kd.R_mono HO_8.out (fun k_ hk => (⟨hk, fun e_ => hk.2.1 (by rw [e_]; rfl)⟩ : _ ∧ k_ ≠ go40))) (fun _ hk => hk.2) (.int .i64 (wrap64 ((rd x9_3 (rd x7_1 x38_3)) + (rd x8_1 (rd x7_1 x32_2)))))) (fun _ hk => ⟨hk.1.1, ⟨hk.1.2.1, ⟨hk.1.2.2.1, hk.1.2.2.2⟩⟩⟩))⟩, ⟨qR HQ45.out⟩, ⟨qR (Kd.R_mono (Kd.R_far (p := ⟨go40, ((rd x7_1 x38_3) : Int).toNat, none⟩) (Kd.R_mono HO_30.out (fun k_ hk => (⟨hk, fun e_ => hk.2 (by rw [e_]; rfl)⟩ : _ ∧ k_ ≠ go40))) (fun _ hk => hk.2) (.int .i64 (wrap64 ((rd x9_3 (rd x7_1 x38_3)) + (rd x8_1 (rd x7_1 x32_2)))))) (fun _ hk => ⟨hk.1.1, hk.1.2⟩))⟩, ⟨qR (Kd.R_mono (Kd.R_far (p := ⟨go40, ((rd x7_1 x38_3) : Int).toNat, none⟩) (Kd.R_mono HO_36.out (fun k_ hk => (⟨hk, fun e_ => hk.2 (by rw [e_]; rfl)⟩ : _ ∧ k_ ≠ go40))) (fun _ hk => hk.2) (.int .i64 (wrap64 ((rd x9_3 (rd x7_1 x38_3)) + (rd x8_1 (rd x7_1 x32_2)))))) (fun _ hk => ⟨hk.1.1, hk.1.2⟩))⟩, ⟨by (with_reducible repeat (first | refine blk_drewN ?_ _ | refine blk_drew ?_ | refine blk_alloc ?_ _)); refine blk_far ?_ (by have h_ := Kd.R_ne HO_9.out BK314.out (by decide); intro e_; exact h_ (by rw [e_]; rfl)) _; refine qb ?_; exact BK314.out⟩, ⟨qB⟩⟩
              ·replace c37 := Bool.eq_false_iff.mpr c37
               subst c37
               rw [if_neg (show ¬ (false = true) by decide)] at H
               have H' := am H
               clear H
               have p327 : 0 ≤ (x38_3 : Int) := qd
               have q327 : x38_3 < (x7_1.length : Int) := qd
               obtain ⟨ad327, e327, hx327_0⟩ := Kd.at_int (Kd.R_reads' HO_36.out).2.2 x38_3 p327 q327
               obtain rfl : ad326 = ad327 := (by injection e327)
               replace p327 := eq_true p327
               replace q327 := eq_true q327
               have p328 : 0 ≤ ((rd x7_1 x32_2) : Int) := qd
               have q328 : (rd x7_1 x32_2) < (x8_1.length : Int) := qd
               obtain ⟨ad328, e328, hx328_0⟩ := Kd.at_int (Kd.R_reads' HO_8.out).2.2 (rd x7_1 x32_2) p328 q328
               cases e328
               replace p328 := eq_true p328
               replace q328 := eq_true q328
               have hcz46_0 := qz wr BK314.out
               have hfz46_0 := blk_frozen BK314.out 0
               go_wp2_with ((go_at_call 138; (with_reducible refine (spec_laFree.calls k3 _ _ l0_0 (Go.bits .andNot .i64 (rd x7_1 x38_3) (rd x7_1 x32_2)) false _ ?side1 ?side2 A36.out).mono ?_); (case side1 => exact qC (Kd.C_below HR0_0.out HB.out)); (case side2 => exact HC0_0.out); rintro e w47 ⟨rfl, hb⟩; replace HO_7 := am (Kd.R_below (qR HO_7.out) hb); replace HO_8 := am (Kd.R_below (qR HO_8.out) hb); replace HO_9 := am (Kd.R_below (qR HO_9.out) hb); replace HO_30 := am (Kd.R_below (qR HO_30.out) hb); replace HO_36 := am (Kd.R_below (qR HO_36.out) hb); replace BK314 := am (blk_below (g := gb314) (o := .cells #[.slice A0_0 l0_0.length c0_0] 26 (0, 0)) (qb BK314.out) hb); replace HB := am (below_step qB hb); (try clear hb); (try clear hb2); (try clear hk); (try clear hi)))
               go_roundg k3
               case measure => have := HK1.out; have := HK2.out; have := HK3.out; omega
               case rel => exact ⟨(x9_3), (wrap64 (x38_3 + 1)), qe, H', ⟨by have := HK1.out; have := HK2.out; have := HK3.out; omega⟩, ⟨qR HO_7.out⟩, ⟨qR HO_8.out⟩, ⟨qR HO_9.out⟩, ⟨qR HO_30.out⟩, ⟨qR HO_36.out⟩, ⟨qb BK314.out⟩, ⟨qB⟩⟩
             ·replace c35 := Bool.eq_false_iff.mpr c35
              subst c35
              rw [if_neg (show ¬ (false = true) by decide)] at H
              by_cases c48 : 0 ≤ (rd x7_1 x38_3)
              rotate_left
              ·rw [if_neg c48] at H
               exact absurd H (by simp)
              rw [if_pos c48] at H
              have c48b0 := decide_eq_true c48
              clear c48
              by_cases c49 : (rd x7_1 x38_3) < (x9_3.length : Int)
              rotate_left
              ·rw [if_neg c49] at H
               exact absurd H (by simp)
              rw [if_pos c49] at H
              have c49b0 := decide_eq_true c49
              clear c49
              obtain ⟨y335, hy335⟩ : ∃ y_ : List Int, y_ = (x9_3.set ((rd x7_1 x38_3) : Int).toNat (wrap64 ((rd x9_3 (rd x7_1 x38_3)) + (rd x8_1 (rd x7_1 x32_2))))) := ⟨_, rfl⟩
              replace H : (spec_laChains.l2 k3 x1_1 false x7_1 x8_1 y335 (rd x7_1 x32_2) x7_1 (x7_1.length : Int) x32_2 x7_1 (x7_1.length : Int) (wrap64 (x38_3 + 1)) l0_0) = some r := by first | (rw [hy335]; with_reducible exact H) | (have H2_ := (Option.bind_some _ _).symm.trans H; rw [hy335]; with_reducible exact H2_) | (have H2_ := (Option.bind_some _ _).symm.trans H; with_reducible exact H2_) | with_reducible exact H | (rw [hy335]; exact H) | exact H
              have Ny335 := am hy335
              clear hy335
              have H' := am H
              clear H
              have p327 : 0 ≤ (x38_3 : Int) := qd
              have q327 : x38_3 < (x7_1.length : Int) := qd
              obtain ⟨ad327, e327, hx327_0⟩ := Kd.at_int (Kd.R_reads' HO_36.out).2.2 x38_3 p327 q327
              obtain rfl : ad326 = ad327 := (by injection e327)
              replace p327 := eq_true p327
              replace q327 := eq_true q327
              have p328 : 0 ≤ ((rd x7_1 x32_2) : Int) := qd
              have q328 : (rd x7_1 x32_2) < (x8_1.length : Int) := qd
              obtain ⟨ad328, e328, hx328_0⟩ := Kd.at_int (Kd.R_reads' HO_8.out).2.2 (rd x7_1 x32_2) p328 q328
              cases e328
              replace p328 := eq_true p328
              replace q328 := eq_true q328
              try go_wp2
              have n0_ := am (Kd.R_drew HO_7.out)
              have n1_ := am (Kd.R_drew HO_8.out)
              have n2_ := am (Kd.R_drew HO_9.out)
              have n3_ := am (Kd.R_drew HO_30.out)
              have n4_ := am (Kd.R_drew HO_36.out)
              have n5_ := am (blk_drew BK314.out)
              have n6_ := am (below_drew1 HB.out)
              clear HO_7
              clear HO_8
              clear HO_9
              clear HO_30
              clear HO_36
              clear BK314
              clear HB
              have HO_7 := n0_
              have HO_8 := n1_
              have HO_9 := n2_
              have HO_30 := n3_
              have HO_36 := n4_
              have BK314 := n5_
              have HB := n6_
              clear n0_ n1_ n2_ n3_ n4_ n5_ n6_
              obtain ⟨Ao52, co52, eo52⟩ := Kd.R_slice HO_9.out
              (first | subst eo52 | (injection eo52 with f1_ f2_ f3_; have f4_ := f1_.symm; have f5_ := f3_.symm; clear f1_ f2_ f3_; subst f4_; subst f5_))
              have p333 : 0 ≤ ((rd x7_1 x38_3) : Int) := qd
              have q333 : (rd x7_1 x38_3) < (x9_3.length : Int) := qd
              obtain ⟨ad333, e333, hx333_0⟩ := Kd.at_int (Kd.R_reads' HO_9.out).2.2 (rd x7_1 x38_3) p333 q333
              cases e333
              replace p333 := eq_true p333
              replace q333 := eq_true q333
              have p334 : 0 ≤ ((rd x7_1 x32_2) : Int) := qd
              have q334 : (rd x7_1 x32_2) < (x8_1.length : Int) := qd
              obtain ⟨ad334, e334, hx334_0⟩ := Kd.at_int (Kd.R_reads' HO_8.out).2.2 (rd x7_1 x32_2) p334 q334
              obtain rfl : ad328 = ad334 := (by injection e334)
              replace p334 := eq_true p334
              replace q334 := eq_true q334
              have p50 : 0 ≤ ((rd x7_1 x38_3) : Int) := qd
              have q50 : ((rd x7_1 x38_3) : Int) < ((x9_3.length : Int) : Int) := qd
              obtain ⟨go50, co50, eo50, gb50, gl50, cl50, HG50⟩ := Kd.R_form HO_9.out (by omega)
              (first | cases eo50 | (injection eo50 with ea_ en_ ec_; (first | subst ea_ | (injection ea_ with ea_; subst ea_)); subst ec_; clear en_))
              have GB50 := am gb50
              have GG50 := am HG50
              clear gb50 gl50 HG50
              (first | simp only [add_plain] at hx333_0 | skip)
              obtain ⟨hx50_0, hf50_0⟩ := Kd.R_celln 0 HO_9.out ((rd x7_1 x38_3) : Int) p50 q50
              replace p50 := eq_true p50
              replace q50 := eq_true q50
              have HP53 := Kd.R_putn HO_9.out ((rd x7_1 x38_3) : Int) (wrap64 ((rd x9_3 (rd x7_1 x38_3)) + (rd x8_1 (rd x7_1 x32_2))))
              rw [← Ny335.out] at HP53
              have HQ53 := am HP53
              clear HP53
              refine start_ (n := 11) (S := fun w' => w'.cell? ⟨go50, ((rd x7_1 x38_3)).toNat, none⟩ = some (.int .i64 (rd x9_3 (rd x7_1 x38_3))) ∧ w'.cell? _ = some _) (ds := [10]) #[false, false, false, false, false, false, false, false, false, false, false] (by kernel_rfl) rfl rfl ⟨hx333_0, hx334_0⟩ (fun hHeld => ?_); refine with_tabW spec_laChains.tab14 spec_laChains.bits14 (fun HT_ HW_ => ?_)
              generalize wr.drew = w51 at HO_7 HO_8 HO_9 HO_30 HO_36 BK314 HB GG50 HQ53 hf50_0 hx333_0 hx334_0 hx50_0 hHeld ⊢
              refine pure_ (i := 0) (N := some 64) (v := ?_) (a' := ?_) #[true, false, false, false, false, false, false, false, false, false, false] rfl rfl (any_of HT_.out (by kernel_rfl)) (fun _ _ _ h => h) (Or.inl ⟨by rfl, ?_⟩) ?_ ?_
              rotate_left
              ·intro w'
               go_simp
               with_reducible rfl
              rotate_left
              ·exact qP
              refine pure_ (i := 1) (N := some 65) (v := ?_) (a' := ?_) #[true, true, false, false, false, false, false, false, false, false, false] rfl rfl (any_of HT_.out (by kernel_rfl)) (fun _ _ _ h => h) (Or.inl ⟨by rfl, ?_⟩) ?_ ?_
              rotate_left
              ·intro w'
               go_simp
               with_reducible rfl
              rotate_left
              ·exact qP
              refine pure_ (i := 2) (N := some 66) (v := ?_) (a' := ?_) #[true, true, true, false, false, false, false, false, false, false, false] rfl rfl (any_of HT_.out (by kernel_rfl)) (fun _ _ _ h => h) (Or.inl ⟨by rfl, ?_⟩) ?_ ?_
              rotate_left
              ·intro w'
               go_simp
               with_reducible rfl
              rotate_left
              ·exact qP
              refine pure_ (i := 4) (N := some 68) (v := ?_) (a' := ?_) #[true, true, true, false, true, false, false, false, false, false, false] rfl rfl (any_of HT_.out (by kernel_rfl)) (fun _ _ _ h => h) (Or.inl ⟨by rfl, ?_⟩) ?_ ?_
              rotate_left
              ·intro w'
               go_simp
               with_reducible rfl
              rotate_left
              ·exact qP
              refine pure_ (i := 5) (N := some 69) (v := ?_) (a' := ?_) #[true, true, true, false, true, true, false, false, false, false, false] rfl rfl (any_of HT_.out (by kernel_rfl)) (fun _ _ _ h => h) (Or.inl ⟨by rfl, ?_⟩) ?_ ?_
              rotate_left
              ·intro w'
               go_simp
               with_reducible rfl
              rotate_left
              ·exact qP
              refine pure_ (i := 6) (N := some 70) (v := ?_) (a' := ?_) #[true, true, true, false, true, true, true, false, false, false, false] rfl rfl (any_of HT_.out (by kernel_rfl)) (fun _ _ _ h => h) (Or.inl ⟨by rfl, ?_⟩) ?_ ?_
              rotate_left
              ·intro w'
               go_simp
               with_reducible rfl
              rotate_left
              ·exact qP
              refine take_ (i := 3) (N := some 67) (v := ?_) (a' := ?_) #[true, true, true, true, true, true, true, false, false, false, false] rfl rfl (take_ofW HT_.out HW_.out (by kernel_rfl)) (fun _ _ _ h => h) (Or.inl ⟨by rfl, ?_⟩) hHeld ?_ ?_
              rotate_left
              ·rintro w' ⟨s0, s1⟩
               go_simp
               with_reducible rfl
              rotate_left
              ·exact qP
              refine take_ (i := 7) (N := some 71) (v := ?_) (a' := ?_) #[true, true, true, true, true, true, true, true, false, false, false] rfl rfl (take_ofW HT_.out HW_.out (by kernel_rfl)) (fun _ _ _ h => h) (Or.inl ⟨by rfl, ?_⟩) hHeld ?_ ?_
              rotate_left
              ·rintro w' ⟨s0, s1⟩
               go_simp
               with_reducible rfl
              rotate_left
              ·exact qP
              refine pure_ (i := 8) (N := some 72) (v := ?_) (a' := ?_) #[true, true, true, true, true, true, true, true, true, false, false] rfl rfl (any_of HT_.out (by kernel_rfl)) (fun _ _ _ h => h) (Or.inl ⟨by rfl, ?_⟩) ?_ ?_
              rotate_left
              ·intro w'
               go_simp
               with_reducible rfl
              rotate_left
              ·exact qP
              refine pure_ (i := 9) (N := some 73) (v := ?_) (a' := ?_) #[true, true, true, true, true, true, true, true, true, true, false] rfl rfl (any_of HT_.out (by kernel_rfl)) (fun _ _ _ h => h) (Or.inl ⟨by rfl, ?_⟩) ?_ ?_
              rotate_left
              ·intro w'
               go_simp
               with_reducible rfl
              rotate_left
              ·exact qP
              refine last_ (i := 10) (N := none) #[true, true, true, true, true, true, true, true, true, true, true] rfl rfl (one_of HT_.out (by kernel_rfl)) (by decide) (fun K hK => ?_)
              refine skip_ (w1 := ?_) (by rfl) rfl ?_ ?_
              rotate_left
              ·go_simp
               rfl
              refine hK.out _ _ ?_
              clear hK K
              refine done_ (done_of HT_.out (by kernel_rfl)) ?_
              try go_wp2
              go_roundg k3
              case measure => have := HK1.out; have := HK2.out; have := HK3.out; omega
              case rel => exact ⟨(y335), (wrap64 (x38_3 + 1)), qe, H', ⟨by have := HK1.out; have := HK2.out; have := HK3.out; omega⟩, ⟨qR (Kd.R_mono (Kd.R_far (p := ⟨go50, ((rd x7_1 x38_3) : Int).toNat, none⟩) (Kd.R_mono HO_7.out (fun k_ hk => (⟨hk, fun e_ => hk.2 (by rw [e_]; rfl)⟩ : _ ∧ k_ ≠ go50))) (fun _ hk => hk.2) (.int .i64 (wrap64 ((rd x9_3 (rd x7_1 x38_3)) + (rd x8_1 (rd x7_1 x32_2)))))) (fun _ hk => ⟨hk.1.1, hk.1.2⟩))⟩, ⟨qR (Kd.R_mono (Kd.R_far (p := ⟨go50, ((rd x7_1 x38_3) : Int).toNat, none⟩) (Kd.R_mono HO_8.out (fun k_ hk => (⟨hk, fun e_ => hk.2.1 (by rw [e_]; rfl)⟩ : _ ∧ k_ ≠ go50))) (fun _ hk => hk.2) (.int .i64 (wrap64 ((rd x9_3 (rd x7_1 x38_3)) + (rd x8_1 (rd x7_1 x32_2)))))) (fun _ hk => ⟨hk.1.1, ⟨hk.1.2.1, ⟨hk.1.2.2.1, hk.1.2.2.2⟩⟩⟩))⟩, ⟨qR HQ53.out⟩, ⟨qR (Kd.R_mono (Kd.R_far (p := ⟨go50, ((rd x7_1 x38_3) : Int).toNat, none⟩) (Kd.R_mono HO_30.out (fun k_ hk => (⟨hk, fun e_ => hk.2 (by rw [e_]; rfl)⟩ : _ ∧ k_ ≠ go50))) (fun _ hk => hk.2) (.int .i64 (wrap64 ((rd x9_3 (rd x7_1 x38_3)) + (rd x8_1 (rd x7_1 x32_2)))))) (fun _ hk => ⟨hk.1.1, hk.1.2⟩))⟩, ⟨qR (Kd.R_mono (Kd.R_far (p := ⟨go50, ((rd x7_1 x38_3) : Int).toNat, none⟩) (Kd.R_mono HO_36.out (fun k_ hk => (⟨hk, fun e_ => hk.2 (by rw [e_]; rfl)⟩ : _ ∧ k_ ≠ go50))) (fun _ hk => hk.2) (.int .i64 (wrap64 ((rd x9_3 (rd x7_1 x38_3)) + (rd x8_1 (rd x7_1 x32_2)))))) (fun _ hk => ⟨hk.1.1, hk.1.2⟩))⟩, ⟨by (with_reducible repeat (first | refine blk_drewN ?_ _ | refine blk_drew ?_ | refine blk_alloc ?_ _)); refine blk_far ?_ (by have h_ := Kd.R_ne HO_9.out BK314.out (by decide); intro e_; exact h_ (by rw [e_]; rfl)) _; refine qb ?_; exact BK314.out⟩, ⟨qB⟩⟩
            ·rw [if_neg c34] at H
             have c34b0 : ((Go.bits .andNot .i64 (rd x7_1 x32_2) (rd x7_1 x38_3)) == 0) = false := beq_eq_false_iff_ne.mpr c34
             have c34b1 : ((Go.bits .andNot .i64 (rd x7_1 x32_2) (rd x7_1 x38_3)) != 0) = true := bne_iff_ne.mpr c34
             have H' := am H
             clear H
             have p327 : 0 ≤ (x38_3 : Int) := qd
             have q327 : x38_3 < (x7_1.length : Int) := qd
             obtain ⟨ad327, e327, hx327_0⟩ := Kd.at_int (Kd.R_reads' HO_36.out).2.2 x38_3 p327 q327
             obtain rfl : ad326 = ad327 := (by injection e327)
             replace p327 := eq_true p327
             replace q327 := eq_true q327
             have p328 : 0 ≤ ((rd x7_1 x32_2) : Int) := qd
             have q328 : (rd x7_1 x32_2) < (x8_1.length : Int) := qd
             obtain ⟨ad328, e328, hx328_0⟩ := Kd.at_int (Kd.R_reads' HO_8.out).2.2 (rd x7_1 x32_2) p328 q328
             cases e328
             replace p328 := eq_true p328
             replace q328 := eq_true q328
             go_wp2
             go_roundg k3
             case measure => have := HK1.out; have := HK2.out; have := HK3.out; omega
             case rel => exact ⟨(x9_3), (wrap64 (x38_3 + 1)), qe, H', ⟨by have := HK1.out; have := HK2.out; have := HK3.out; omega⟩, ⟨qR HO_7.out⟩, ⟨qR HO_8.out⟩, ⟨qR HO_9.out⟩, ⟨qR HO_30.out⟩, ⟨qR HO_36.out⟩, ⟨qb BK314.out⟩, ⟨qB⟩⟩
           ·rw [if_neg c33] at H
            have c33b0 : decide (0 < (rd x8_1 (rd x7_1 x32_2))) = false := decide_eq_false c33
            clear c33
            have H' := am H
            clear H
            have p327 : 0 ≤ (x38_3 : Int) := qd
            have q327 : x38_3 < (x7_1.length : Int) := qd
            obtain ⟨ad327, e327, hx327_0⟩ := Kd.at_int (Kd.R_reads' HO_36.out).2.2 x38_3 p327 q327
            obtain rfl : ad326 = ad327 := (by injection e327)
            replace p327 := eq_true p327
            replace q327 := eq_true q327
            have p328 : 0 ≤ ((rd x7_1 x32_2) : Int) := qd
            have q328 : (rd x7_1 x32_2) < (x8_1.length : Int) := qd
            obtain ⟨ad328, e328, hx328_0⟩ := Kd.at_int (Kd.R_reads' HO_8.out).2.2 (rd x7_1 x32_2) p328 q328
            cases e328
            replace p328 := eq_true p328
            replace q328 := eq_true q328
            go_wp2
            go_roundg k3
            case measure => have := HK1.out; have := HK2.out; have := HK3.out; omega
            case rel => exact ⟨(x9_3), (wrap64 (x38_3 + 1)), qe, H', ⟨by have := HK1.out; have := HK2.out; have := HK3.out; omega⟩, ⟨qR HO_7.out⟩, ⟨qR HO_8.out⟩, ⟨qR HO_9.out⟩, ⟨qR HO_30.out⟩, ⟨qR HO_36.out⟩, ⟨qb BK314.out⟩, ⟨qB⟩⟩
          ·rw [if_neg c28] at H
           have c28b0 := decide_eq_false c28
           clear c28
           have H' := am H
           clear H
           go_wp2
           go_roundg k3
           case measure => have := HK1.out; have := HK2.out; have := HK3.out; omega
           case rel => exact ⟨(x9_3), (wrap64 (x32_2 + 1)), qe, H', ⟨by have := HK1.out; have := HK2.out; have := HK3.out; omega⟩, ⟨qR HO_7.out⟩, ⟨qR (Kd.R_mono HO_8.out (fun _ hk => ⟨hk.1, ⟨hk.2.1, hk.2.2.1⟩⟩))⟩, ⟨qR (Kd.R_mono HO_9.out (fun _ hk => ⟨hk.1, ⟨hk.2.1, hk.2.2.1⟩⟩))⟩, ⟨qR HO_30.out⟩, ⟨qb BK314.out⟩, ⟨qB⟩⟩
       ·rw [if_neg c25] at H
        have c25b0 := decide_eq_false c25
        clear c25
        have H' := am H
        clear H
        go_wp2
        go_roundg k2
        case measure => have := HK1.out; have := HK2.out; omega
        case rel => exact ⟨(wrap64 (x1_1 - 1)), (x7_1), (x9_2), qe, H', ⟨by have := HK1.out; have := HK2.out; omega⟩, ⟨qR (Kd.R_mono HO_7.out (fun _ hk => hk.2))⟩, ⟨qR (Kd.R_mono HO_9.out (fun _ hk => hk.1))⟩, ⟨qb BK314.out⟩, ⟨qB⟩⟩
    ·rw [if_neg c18] at H
     have c18b0 : decide (0 < x1_1) = false := decide_eq_false c18
     clear c18
     obtain ⟨ji54, hji54⟩ : ∃ j_ : Int, (wrap64 ((x8_1.length : Int) - 1)) = j_ := ⟨_, rfl⟩
     first | rw [hji54] at H | simp only [hji54] at H
     have hji54w : (IntKind.i64.wrap ((x8_1.length : Int) - 1)) = ji54 := (i64_w _).trans hji54
     by_cases c55 : 0 ≤ (ji54)
     rotate_left
     ·rw [if_neg c55] at H
      exact absurd H (by simp)
     rw [if_pos c55] at H
     have c55b0 := decide_eq_true c55
     clear c55
     by_cases c56 : (ji54) < (x8_1.length : Int)
     rotate_left
     ·rw [if_neg c56] at H
      exact absurd H (by simp)
     rw [if_pos c56] at H
     have c56b0 := decide_eq_true c56
     clear c56
     obtain rfl := Option.some.inj H
     obtain ⟨Ao57, co57, eo57⟩ := Kd.R_slice HO_8.out
     subst eo57
     have p322 : 0 ≤ ((ji54) : Int) := qd
     have q322 : (ji54) < (x8_1.length : Int) := qd
     obtain ⟨ad322, e322, hx322_0⟩ := Kd.at_int (Kd.R_reads' HO_8.out).2.2 (ji54) p322 q322
     cases e322
     replace p322 := eq_true p322
     replace q322 := eq_true q322
     go_wp2
     go_ret
     exact ⟨by first | rfl | (simp [errW_none, errW_some] <;> rfl) | (simp only [← hji5, ← hji54]; first | rfl | (simp [errW_none, errW_some] <;> rfl)) | (simp [*, errW_none, errW_some] <;> rfl), qB⟩
 ·rw [if_neg c6] at H
  exact absurd H (by simp)
mutual
def spec_LabelsBySum.j0 : Nat → Int → Bool → List Int → Option (List Int × Bool)
 | 0, _, _, _ => none
 | k + 1, x1, x23, x894000 => if x23 = true then (some (([] : List Int), false)) else (if 0 ≤ (wrap64 ((wrap64 (x1 * (x894000.length : Int))) + 1)) then (if (wrap64 ((wrap64 (x1 * (x894000.length : Int))) + 1) : Int).toNat ≤ 35184372088832 then ((spec_laAll.f k x894000 ([] : List Int) x1 100000).bind fun t900 => (spec_LabelsBySum.l0 k (List.replicate (wrap64 ((wrap64 (x1 * (x894000.length : Int))) + 1) : Int).toNat 0) t900 (t900.length : Int) 0)) else (none)) else (none))
def spec_LabelsBySum.l0 : Nat → List Int → List (List Int) → Int → Int → Option (List Int × Bool)
 | 0, _, _, _, _ => none
 | k + 1, x6, x33, x34, x35 => if x35 < x34 then (if 0 ≤ x35 then (if x35 < (x33.length : Int) then ((spec_laSum.f k (rd_L1 x33 x35)).bind fun t904 => (if 0 ≤ t904 then (if t904 < (x6.length : Int) then (spec_LabelsBySum.l0 k (x6.set (t904 : Int).toNat (wrap64 ((rd x6 t904) + 1))) x33 x34 (wrap64 (x35 + 1))) else (none)) else (none))) else (none)) else (none)) else (some (x6, true))
end
def spec_LabelsBySum.f (k : Nat) (l0_0 : List Int) (a1 : Int) : Option (List Int × Bool) := (spec_poGood.f k l0_0).bind fun t894 => (if t894 = true then ((spec_laBound.f a1).bind fun t895 => (if t895 = true then ((spec_laChains.f k l0_0 (wrap64 (a1 + 1)) false).bind fun t896 => (spec_LabelsBySum.j0 k a1 (decide (t896 > 100000)) l0_0)) else (spec_LabelsBySum.j0 k a1 true l0_0))) else (spec_LabelsBySum.j0 k a1 true l0_0))
theorem spec_LabelsBySum.mono_l : ∀ k, (∀ y0 y1 y2, LeO (spec_LabelsBySum.j0 k y0 y1 y2) (spec_LabelsBySum.j0 (k + 1) y0 y1 y2)) ∧ (∀ y0 y1 y2 y3, LeO (spec_LabelsBySum.l0 k y0 y1 y2 y3) (spec_LabelsBySum.l0 (k + 1) y0 y1 y2 y3))
 | 0 => ⟨fun _ _ _ r h => by simp [spec_LabelsBySum.j0] at h, fun _ _ _ _ r h => by simp [spec_LabelsBySum.l0] at h⟩
 | k + 1 => by
  obtain ⟨ih0, ih1⟩ := spec_LabelsBySum.mono_l k
  refine ⟨?_, ?_⟩
  ·intro y0 y1 y2
   unfold spec_LabelsBySum.j0
   repeat' first
   | (with_reducible exact spec_laAll.mono _ _ _ _ _)
   | (with_reducible exact spec_laChains.mono _ _ _ _)
   | (with_reducible exact spec_laSum.mono _ _)
   | (with_reducible exact spec_poGood.mono _ _)
   | (with_reducible exact LeO.refl _)
   | (with_reducible exact LeO.none _)
   | (with_reducible refine LeO.ite ?_ ?_)
   | (with_reducible refine LeO.bind ?_ (fun _ => ?_))
   | exact ih0 _ _ _
   | exact ih1 _ _ _ _
   | exact spec_laAll.mono _ _ _ _ _
   | exact spec_laChains.mono _ _ _ _
   | exact spec_laSum.mono _ _
   | exact spec_poGood.mono _ _
   | exact LeO.none _
   | refine LeO.ite ?_ ?_
   | refine LeO.bind ?_ (fun _ => ?_)
  ·intro y0 y1 y2 y3
   unfold spec_LabelsBySum.l0
   repeat' first
   | (with_reducible exact spec_laAll.mono _ _ _ _ _)
   | (with_reducible exact spec_laChains.mono _ _ _ _)
   | (with_reducible exact spec_laSum.mono _ _)
   | (with_reducible exact spec_poGood.mono _ _)
   | (with_reducible exact LeO.refl _)
   | (with_reducible exact LeO.none _)
   | (with_reducible refine LeO.ite ?_ ?_)
   | (with_reducible refine LeO.bind ?_ (fun _ => ?_))
   | exact ih0 _ _ _
   | exact ih1 _ _ _ _
   | exact spec_laAll.mono _ _ _ _ _
   | exact spec_laChains.mono _ _ _ _
   | exact spec_laSum.mono _ _
   | exact spec_poGood.mono _ _
   | exact LeO.none _
   | refine LeO.ite ?_ ?_
   | refine LeO.bind ?_ (fun _ => ?_)
theorem spec_LabelsBySum.mono : ∀ a0 a1 k, LeO (spec_LabelsBySum.f k a0 a1) (spec_LabelsBySum.f (k + 1) a0 a1) := by
 intro a0 a1 k
 obtain ⟨ih0, ih1⟩ := spec_LabelsBySum.mono_l k
 unfold spec_LabelsBySum.f
 repeat' first
  | (with_reducible exact spec_laAll.mono _ _ _ _ _)
  | (with_reducible exact spec_laChains.mono _ _ _ _)
  | (with_reducible exact spec_laSum.mono _ _)
  | (with_reducible exact spec_poGood.mono _ _)
  | (with_reducible exact LeO.refl _)
  | (with_reducible exact LeO.none _)
  | (with_reducible refine LeO.ite ?_ ?_)
  | (with_reducible refine LeO.bind ?_ (fun _ => ?_))
  | exact ih0 _ _ _
  | exact ih1 _ _ _ _
  | exact spec_laAll.mono _ _ _ _ _
  | exact spec_laChains.mono _ _ _ _
  | exact spec_laSum.mono _ _
  | exact spec_poGood.mono _ _
  | exact LeO.none _
  | refine LeO.ite ?_ ?_
  | refine LeO.bind ?_ (fun _ => ?_)
set_option maxHeartbeats 8000000 in
set_option maxRecDepth 100000 in
theorem spec_LabelsBySum.calls (k : Nat) (A0_0 : Option Addr) (c0_0 : Nat) (l0_0 : List Int) (a1 : Int) (r1 : List Int) (r2 : Bool) (w : World) (hr0_0 : Kd.C (Kd.int .i64) w A0_0 l0_0.length l0_0) (hc0_0 : l0_0.length ≤ c0_0) (h : spec_LabelsBySum.f k l0_0 a1 = some (r1, r2)) :
 Calls Try.prog 49 #[.agg #[.slice A0_0 l0_0.length c0_0], .int .i64 a1] w fun e w' => ∃ v0_ : Value, e = .returned (.tuple #[v0_, .bool r2]) ∧ Kd.R (Kd.int .i64) 3 w' w.heap.size (fun _ => True) v0_ r1 ∧ Below w.heap.size w w' := by
 have hu26 := Try.underlying26
 have HR0_0 := am hr0_0
 have HC0_0 := am hc0_0
 clear hr0_0 hc0_0
 have HB := am (Below.refl w.heap.size w)
 have H := h
 unfold spec_LabelsBySum.f at H
 clear h
 have HC3 := am H
 clear H
 go_enter Try.func49, Try.ntmps49
 go_upto_region 1 with (first | ((with_reducible refine gate_dst (N := 2) rfl ?_); refine qx (N := 2) (cs := #[.slice A0_0 l0_0.length c0_0]) (t := 26) ?_; intro gb893 hg w4 hbox hb; have n0_ := am (below_step qB hb); have BK893 := am (hbox); have GW893 := am (qg w hg); have GE893 := am (qg w hg); clear HB; have HB := n0_; clear n0_; clear hb hbox hg))
 (try simp only [Act.put, List.setIfInBounds_toArray, List.set_cons_zero, List.set_cons_succ])
 go_cut [23] (fun v23 wc => ∃ (kq : Nat) (x23_2 : Bool), v23 = .bool x23_2 ∧ Aside0 (spec_LabelsBySum.j0 kq a1 x23_2 l0_0 = some (r1, r2)) ∧ Aside0 (kq ≤ k) ∧ Aside0 (wc.heap[gb893]? = some (.cells #[(.slice A0_0 l0_0.length c0_0)] 26 (0, 0))) ∧ Aside0 (Below w.heap.size w wc))
 case first =>
  have H := HC3.out
  clear HC3
  replace H := Option.bind_eq_some_iff.mp H
  obtain ⟨t894, A50, H⟩ := H
  (try dsimp only at H)
  have A5 := am A50
  clear A50
  by_cases c6 : t894 = true
  ·subst c6
   rw [if_pos rfl] at H
   replace H := Option.bind_eq_some_iff.mp H
   obtain ⟨t895, A70, H⟩ := H
   (try dsimp only at H)
   have A7 := am A70
   clear A70
   by_cases c8 : t895 = true
   ·subst c8
    rw [if_pos rfl] at H
    replace H := Option.bind_eq_some_iff.mp H
    obtain ⟨t896, A90, H⟩ := H
    (try dsimp only at H)
    have A9 := am A90
    clear A90
    have H' := am H
    clear H
    have hcz10_0 := qz w4 BK893.out
    have hfz10_0 := blk_frozen BK893.out 0
    go_wp2_with (first | ((with_reducible refine gate_callee (f := 82) rfl ?_); refine gL (some 10) Try.func82 #[.agg #[.slice A0_0 l0_0.length c0_0]] ?_; (with_reducible refine (spec_poGood.calls k _ _ l0_0 true _ ?side1 ?side2 A5.out).mono ?_); (case side1 => exact qC (Kd.C_below HR0_0.out HB.out)); (case side2 => exact HC0_0.out); rintro e w11 ⟨rfl, hb⟩; refine ⟨_, rfl, ?_⟩; replace BK893 := am (blk_below (g := gb893) (o := .cells #[.slice A0_0 l0_0.length c0_0] 26 (0, 0)) (qb BK893.out) hb); replace HB := am (below_step qB hb); (try clear hb); (try clear hb2); (try clear hk); (try clear hi)) | (go_at_call 83; (with_reducible refine (spec_laBound.calls a1 true _ A7.out).mono ?_); rintro e w' ⟨rfl, ⟨nd, rfl⟩⟩; have hcz12_0 := qz w11 BK893.out; have hfz12_0 := blk_frozen BK893.out 0) | (go_at_call 96; (with_reducible refine (spec_laChains.calls k _ _ l0_0 (wrap64 (a1 + 1)) false t896 _ ?side1 ?side2 A9.out).mono ?_); (case side1 => exact qC (Kd.C_below HR0_0.out qB)); (case side2 => exact HC0_0.out); rintro e w13 ⟨rfl, hb⟩; replace BK893 := am (blk_below (g := gb893) (o := .cells #[.slice A0_0 l0_0.length c0_0] 26 (0, 0)) (qb BK893.out) hb); replace HB := am (below_step qB hb); (try clear hb); (try clear hb2); (try clear hk); (try clear hi)))
    go_meet
    case rel => exact ⟨_, (decide (t896 > 100000)), qe, H', ⟨by first | omega | exact Nat.le_refl _⟩, ⟨qb BK893.out⟩, ⟨qB⟩⟩
   ·replace c8 := Bool.eq_false_iff.mpr c8
    subst c8
    rw [if_neg (show ¬ (false = true) by decide)] at H
    have H' := am H
    clear H
    have hcz14_0 := qz w4 BK893.out
    have hfz14_0 := blk_frozen BK893.out 0
    go_wp2_with (first | ((with_reducible refine gate_callee (f := 82) rfl ?_); refine gL (some 10) Try.func82 #[.agg #[.slice A0_0 l0_0.length c0_0]] ?_; (with_reducible refine (spec_poGood.calls k _ _ l0_0 true _ ?side1 ?side2 A5.out).mono ?_); (case side1 => exact qC (Kd.C_below HR0_0.out HB.out)); (case side2 => exact HC0_0.out); rintro e w15 ⟨rfl, hb⟩; refine ⟨_, rfl, ?_⟩; replace BK893 := am (blk_below (g := gb893) (o := .cells #[.slice A0_0 l0_0.length c0_0] 26 (0, 0)) (qb BK893.out) hb); replace HB := am (below_step qB hb); (try clear hb); (try clear hb2); (try clear hk); (try clear hi)) | (go_at_call 83; (with_reducible refine (spec_laBound.calls a1 false _ A7.out).mono ?_); rintro e w' ⟨rfl, ⟨nd, rfl⟩⟩))
    go_meet
    case rel => exact ⟨_, (true), qe, H', ⟨by first | omega | exact Nat.le_refl _⟩, ⟨qb BK893.out⟩, ⟨qB⟩⟩
  ·replace c6 := Bool.eq_false_iff.mpr c6
   subst c6
   rw [if_neg (show ¬ (false = true) by decide)] at H
   have H' := am H
   clear H
   have hcz16_0 := qz w4 BK893.out
   have hfz16_0 := blk_frozen BK893.out 0
   go_wp2_with (((with_reducible refine gate_callee (f := 82) rfl ?_); refine gL (some 10) Try.func82 #[.agg #[.slice A0_0 l0_0.length c0_0]] ?_; (with_reducible refine (spec_poGood.calls k _ _ l0_0 false _ ?side1 ?side2 A5.out).mono ?_); (case side1 => exact qC (Kd.C_below HR0_0.out HB.out)); (case side2 => exact HC0_0.out); rintro e w17 ⟨rfl, hb⟩; refine ⟨_, rfl, ?_⟩; replace BK893 := am (blk_below (g := gb893) (o := .cells #[.slice A0_0 l0_0.length c0_0] 26 (0, 0)) (qb BK893.out) hb); replace HB := am (below_step qB hb); (try clear hb); (try clear hb2); (try clear hk); (try clear hi)))
   go_meet
   case rel => exact ⟨_, (true), qe, H', ⟨by first | omega | exact Nat.le_refl _⟩, ⟨qb BK893.out⟩, ⟨qB⟩⟩
 case rest =>
  clear HC3
  try clear p2
  try clear c4
  try clear c6
  try clear p6
  try clear c8
  try clear hcz10_0
  try clear hcz12_0
  try clear hcz14_0
  try clear hcz16_0
  try clear hfz10_0
  try clear hfz12_0
  try clear hfz14_0
  try clear hfz16_0
  obtain ⟨kq, x23_2, rfl, HA, HJ2, BK893, HB⟩ := hcut
  cases kq with
  | zero => exact absurd HA.out (by simp [spec_LabelsBySum.j0])
  | succ kj2 =>
   have H := HA.out
   clear HA
   simp only [spec_LabelsBySum.j0] at H
   by_cases c18 : x23_2 = true
   ·subst c18
    rw [if_pos rfl] at H
    simp only [Option.some.injEq, Prod.mk.injEq] at H
    obtain ⟨rfl, rfl⟩ := H
    go_wp2
    go_ret2
    exact ⟨_, qr, by first | exact Kd.R_nil _ _ _ _ _ | exact Kd.N_nil _ _ _ _ _ | exact Kd.V_nil _ _ _ _ _ | exact Kd.Q_nil _ _ _ _ _ | exact Kd.S_nil _ _ _ _ _, qB⟩
   ·replace c18 := Bool.eq_false_iff.mpr c18
    subst c18
    rw [if_neg (show ¬ (false = true) by decide)] at H
    obtain ⟨ji19, hji19⟩ : ∃ j_ : Int, (wrap64 ((wrap64 (a1 * (l0_0.length : Int))) + 1)) = j_ := ⟨_, rfl⟩
    first | rw [hji19] at H | simp only [hji19] at H
    have hji19w : (IntKind.i64.wrap ((wrap64 (a1 * (l0_0.length : Int))) + 1)) = ji19 := (i64_w _).trans hji19
    by_cases c20 : 0 ≤ (ji19)
    ·rw [if_pos c20] at H
     have c20b0 := eq_true c20
     have c20b1 := decide_eq_true c20
     clear c20
     by_cases c21 : (ji19 : Int).toNat ≤ 35184372088832
     rotate_left
     ·rw [if_neg c21] at H
      exact absurd H (by simp)
     rw [if_pos c21] at H
     have c21b0 := eq_true c21
     have c21b1 := decide_eq_true c21
     clear c21
     obtain ⟨y897, hy897⟩ : ∃ y_ : List Int, y_ = (List.replicate (ji19 : Int).toNat 0) := ⟨_, rfl⟩
     first | rw [← hy897] at H | (have H2_ := (Option.bind_some _ _).symm.trans H; clear H; have H := H2_; clear H2_; rw [← hy897] at H)
     have Ny897 := am hy897
     clear hy897
     replace H := Option.bind_eq_some_iff.mp H
     obtain ⟨t900, A220, H⟩ := H
     (try dsimp only at H)
     have A22 := am A220
     clear A220
     have H' := am H
     clear H
     have hcz23_0 := qz wc BK893.out
     have hfz23_0 := blk_frozen BK893.out 0
     go_wp2_with (first | ((with_reducible refine gate_dst (N := 30) rfl ?_); refine Kd.R_make (Kd.int .i64) _ 3 rfl (N := 30) rfl 24 _ _ rfl ji19 rfl rfl Try.underlying24 (.int .i64 0) 8 info3 rfl (by decide) (by omega) 0 (ok := fun _ => True) (okp := fun _ => True) rfl (fun _ hk => hk) trivial (qd) (Nat.le_trans (Nat.mul_le_mul_right _ (qd : ji19.toNat ≤ 35184372088832)) (by omega)) (Below.refl _ _) (Nat.le_refl _) ?_; intro v898 w24 ho25 hb hg_ hnew_; clear hg_ hnew_; (first | rw [← Ny897.out] at ho25 | (simp only [Int.reduceToNat] at ho25; rw [← Ny897.out] at ho25)); have HO899 := am (Kd.R_lower ho25 (below_size qB)); replace BK893 := am (blk_below (g := gb893) (o := .cells #[.slice A0_0 l0_0.length c0_0] 26 (0, 0)) (qb BK893.out) hb); replace HB := am (below_step qB hb); clear hb ho25; have hcz26_0 := qz w24 BK893.out; have hfz26_0 := blk_frozen BK893.out 0) | ((with_reducible refine gate_callee (f := 74) rfl ?_); refine gL (some 33) Try.func74 #[.agg #[.slice A0_0 l0_0.length c0_0], .slice none 0 0, .int .i64 a1, .int .i64 100000] ?_; (refine (spec_laAll.calls kj2 _ _ l0_0 _ _ ([] : List Int) a1 100000 t900 _ ?side1 ?side2 ?side3 ?side4 A22.out).mono ?_); (case side1 => exact qC (Kd.C_below HR0_0.out HB.out)); (case side2 => exact HC0_0.out); (case side3 => exact Kd.C_nil _ _); (case side4 => exact Nat.le_refl _); rintro e w27 ⟨v901, rfl, ho0, hb⟩; refine ⟨_, rfl, ?_⟩; have n0_ := am (Kd.R_below (qR HO899.out) hb); have HO902 := am (Kd.N_lower (Kd.N_mono (ok' := fun k_ => some k_ ≠ (v898 : Value).ownBlock ∧ k_ ≠ gb893) ho0 (fun k_ hk_ => ⟨(Kd.fresh' (Kd.R_lt (qR HO899.out)) k_ hk_), (Kd.freshB (g := gb893) (o := .cells #[.slice A0_0 l0_0.length c0_0] 26 (0, 0)) (qb BK893.out) k_ hk_)⟩)) (below_size qB)); replace BK893 := am (blk_below (g := gb893) (o := .cells #[.slice A0_0 l0_0.length c0_0] 26 (0, 0)) (qb BK893.out) hb); replace HB := am (below_step qB hb); clear HO899; have HO899 := n0_; clear n0_; (try clear hb); (try clear hb2); (try clear hk); (try clear hi); (try clear ho0); obtain ⟨Ao28, co28, eo28⟩ := Kd.N_slice HO902.out; subst eo28))
     go_loopg [35] kj2 (fun kq v35 w' => ∃ (x6_2 : List Int) (x35_2 : Int), v35 = .int .i64 x35_2 ∧ Aside0 (spec_LabelsBySum.l0 kq x6_2 t900 (t900.length : Int) x35_2 = some (r1, r2)) ∧ Aside0 (kq ≤ kj2) ∧ Aside0 (Kd.R (Kd.int .i64) 3 w' w.heap.size (fun _ => True) v898 x6_2) ∧ Aside0 (Kd.N (Kd.slice 3 (Kd.int .i64)) 24 w' w.heap.size (fun k_ => some k_ ≠ (v898 : Value).ownBlock ∧ k_ ≠ gb893) (.slice Ao28 t900.length co28) t900) ∧ Aside0 (w'.heap[gb893]? = some (.cells #[(.slice A0_0 l0_0.length c0_0)] 26 (0, 0))) ∧ Aside0 (Below w.heap.size w w'))
     case atStart => exact ⟨(y897), (0), qe, H', ⟨Nat.le_refl _⟩, ⟨qR HO899.out⟩, ⟨by (with_reducible repeat (first | apply Kd.N_alloc | apply Kd.N_drewN | apply Kd.N_drew)); exact HO902.out⟩, ⟨qb BK893.out⟩, ⟨qB⟩⟩
     case round =>
      clear H'
      try clear c1
      try clear c2
      try clear p2
      try clear c4
      try clear c6
      try clear p6
      try clear c7
      try clear c8
      try clear c18
      try clear c20
      try clear c20b0
      try clear c20b1
      try clear c21
      try clear c21b0
      try clear c21b1
      try clear hcz10_0
      try clear hcz12_0
      try clear hcz14_0
      try clear hcz16_0
      try clear hcz23_0
      try clear hcz26_0
      try clear hfz10_0
      try clear hfz12_0
      try clear hfz14_0
      try clear hfz16_0
      try clear hfz23_0
      try clear hfz26_0
      try clear p2
      try clear p6
      obtain ⟨x6_2, x35_2, rfl, HA, HK2, HO_6, HO_33, BK893, HB⟩ := hrel
      cases gk with
      | zero => exact absurd HA.out (by simp [spec_LabelsBySum.l0])
      | succ k2 =>
       have H := HA.out
       clear HA
       simp only [spec_LabelsBySum.l0] at H
       by_cases c29 : x35_2 < (t900.length : Int)
       ·rw [if_pos c29] at H
        have c29b0 := decide_eq_true c29
        clear c29
        by_cases c30 : 0 ≤ x35_2
        rotate_left
        ·rw [if_neg c30] at H
         exact absurd H (by simp)
        rw [if_pos c30] at H
        have c30b0 := decide_eq_true c30
        clear c30
        by_cases c31 : x35_2 < (t900.length : Int)
        rotate_left
        ·rw [if_neg c31] at H
         exact absurd H (by simp)
        rw [if_pos c31] at H
        have c31b0 := decide_eq_true c31
        clear c31
        replace H := Option.bind_eq_some_iff.mp H
        obtain ⟨t904, A320, H⟩ := H
        (try dsimp only at H)
        have A32 := am A320
        clear A320
        by_cases c33 : 0 ≤ t904
        rotate_left
        ·rw [if_neg c33] at H
         exact absurd H (by simp)
        rw [if_pos c33] at H
        have c33b0 := decide_eq_true c33
        clear c33
        by_cases c34 : t904 < (x6_2.length : Int)
        rotate_left
        ·rw [if_neg c34] at H
         exact absurd H (by simp)
        rw [if_pos c34] at H
        have c34b0 := decide_eq_true c34
        clear c34
        obtain ⟨y906, hy906⟩ : ∃ y_ : List Int, y_ = (x6_2.set (t904 : Int).toNat (wrap64 ((rd x6_2 t904) + 1))) := ⟨_, rfl⟩
        first | rw [← hy906] at H | (have H2_ := (Option.bind_some _ _).symm.trans H; clear H; have H := H2_; clear H2_; rw [← hy906] at H)
        have Ny906 := am hy906
        clear hy906
        have H' := am H
        clear H
        have p903 : 0 ≤ (x35_2 : Int) := qd
        have q903 : x35_2 < (t900.length : Int) := qd
        obtain ⟨ad903, A903_0, c903_0, e903, hx903_0, hl903_0, hi903_0⟩ := at_L1 (Kd.N_reads' HO_33.out).2.2 x35_2 p903 q903
        cases e903
        obtain ⟨ce903, hce903, hMe903, hcc903⟩ := Kd.N_get HO_33.out [] x35_2 p903 (by first | exact q903 | exact qd | (have e_ := (Kd.N_reads' HO_33.out).1; omega))
        obtain ⟨ua903_0, uc903_0, rfl, ul903_0, ge903_0⟩ := Kd.FK_slice_open hMe903
        have hv903_0 := hcc903 0 _ rfl
        rw [Nat.add_zero, show ((Kd.slice 3 (Kd.int .i64))).sz = 1 from rfl, Nat.mul_one] at hv903_0
        replace hv903_0 := Option.some.inj (hv903_0.symm.trans hx903_0)
        injection hv903_0 with hva_ hvn_ hvc_
        rw [hva_] at ge903_0
        rw [hvc_] at ul903_0
        have HL903_0 := am (show Kd.V (Kd.int .i64) 3 _ w.heap.size _ _ (rd_L1 t900 x35_2) from Kd.V_mk ul903_0 ge903_0)
        clear hva_ hvn_ hvc_ ge903_0 ul903_0
        clear hcc903 hce903
        have HR903_0 := am hi903_0
        have HC903_0 := am hl903_0
        clear hi903_0 hl903_0
        replace p903 := eq_true p903
        replace q903 := eq_true q903
        go_wp2_with (first | ((with_reducible refine gate_callee (f := 108) rfl ?_); refine gL (some 41) Try.func108 #[.slice A903_0 (rd_L1 t900 x35_2).length c903_0] ?_; (with_reducible refine (spec_laSum.calls k2 _ _ (rd_L1 t900 x35_2) t904 _ ?side1 ?side2 A32.out).mono ?_); (case side1 => exact qC (by repeat (first | (with_reducible exact HR903_0.out) | (with_reducible refine Kd.C_alloc ?_ _) | (with_reducible refine Kd.C_drewN ?_ _) | (with_reducible refine Kd.C_drew ?_) | exact HR903_0.out))); (case side2 => exact HC903_0.out); rintro e w' ⟨rfl, ⟨nd, rfl⟩⟩; refine ⟨_, rfl, ?_⟩; (try (rw [drewN_self wr]; generalize hq_ : World.drewN wr _ = wr; have n0_ : Aside0 (Kd.V (Kd.int .i64) 3 wr w.heap.size (fun k_ => some k_ ≠ (.slice (some ad903) t900.length co28 : Value).ownBlock ∧ some k_ ≠ (v898 : Value).ownBlock ∧ k_ ≠ gb893) (.slice A903_0 (rd_L1 t900 x35_2).length c903_0) (rd_L1 t900 x35_2)) := ⟨by rw [← hq_]; exact (by (with_reducible repeat (first | apply Kd.V_alloc | apply Kd.V_drewN | apply Kd.V_drew)); exact Kd.V_mono HL903_0.out (fun _ hk => ⟨hk.2, ⟨hk.1.1, hk.1.2⟩⟩))⟩; have n1_ : Aside0 (Kd.N (Kd.slice 3 (Kd.int .i64)) 24 wr w.heap.size (fun k_ => some k_ ≠ (v898 : Value).ownBlock ∧ k_ ≠ gb893) (.slice (some ad903) t900.length co28) t900) := ⟨by rw [← hq_]; exact (by (with_reducible repeat (first | apply Kd.N_alloc | apply Kd.N_drewN | apply Kd.N_drew)); exact HO_33.out)⟩; have n2_ : Aside0 (Kd.R (Kd.int .i64) 3 wr w.heap.size (fun _ => True) v898 x6_2) := ⟨by rw [← hq_]; exact (qR HO_6.out)⟩; have n3_ : Aside0 (wr.heap[gb893]? = some (.cells #[.slice A0_0 l0_0.length c0_0] 26 (0, 0))) := ⟨by rw [← hq_]; exact (qb BK893.out)⟩; have n4_ : Aside0 (Below w.heap.size w wr) := ⟨by rw [← hq_]; exact qB⟩; have n5_ : Aside0 (Kd.C (Kd.int .i64) wr A903_0 (rd_L1 t900 x35_2).length (rd_L1 t900 x35_2)) := ⟨by rw [← hq_]; exact (by repeat (first | (with_reducible exact HR903_0.out) | (with_reducible refine Kd.C_alloc ?_ _) | (with_reducible refine Kd.C_drewN ?_ _) | (with_reducible refine Kd.C_drew ?_) | exact HR903_0.out))⟩; clear HL903_0 HO_33 HO_6 BK893 HB HR903_0 hq_; have HL903_0 := n0_; have HO_33 := n1_; have HO_6 := n2_; have BK893 := n3_; have HB := n4_; have HR903_0 := n5_; clear n0_ n1_ n2_ n3_ n4_ n5_)); obtain ⟨Ao36, co36, eo36⟩ := Kd.R_slice HO_6.out; subst eo36; have p905 : 0 ≤ (t904 : Int) := qd; have q905 : t904 < (x6_2.length : Int) := qd; obtain ⟨ad905, e905, hx905_0⟩ := Kd.at_int (Kd.R_reads' HO_6.out).2.2 t904 p905 q905; cases e905; replace p905 := eq_true p905; replace q905 := eq_true q905; have p35 : 0 ≤ (t904 : Int) := qd; have q35 : (t904 : Int) < ((x6_2.length : Int) : Int) := qd; obtain ⟨go35, co35, eo35, gb35, gl35, cl35, HG35⟩ := Kd.R_form HO_6.out (by omega); (first | cases eo35 | (injection eo35 with ea_ en_ ec_; (first | subst ea_ | (injection ea_ with ea_; subst ea_)); subst ec_; clear en_)); have GB35 := am gb35; have GG35 := am HG35; clear gb35 gl35 HG35; (first | simp only [add_plain] at hx905_0 | skip); obtain ⟨hx35_0, hf35_0⟩ := Kd.R_celln 0 HO_6.out (t904 : Int) p35 q35; replace p35 := eq_true p35; replace q35 := eq_true q35; obtain ⟨hy37_, hz37_⟩ := Kd.R_celln 0 HO_6.out (t904 : Int) (qd) (qd); have HP37 := Kd.R_putg HO_6.out (t904 : Int) (wrap64 ((rd x6_2 t904) + 1))) | ((with_reducible refine gate_store (t := 3) (p := 45) rfl ?_); refine store_event (t := 3) (p := 45) (v := ?vo_w38) (w1 := (wr.setCell ⟨go35, (t904 : Int).toNat, none⟩ (.int .i64 (wrap64 ((rd x6_2 t904) + 1))))) ?hg ?ho ?hn ?hr ?_; (case ho => rfl); (case hg => rfl); (case hn => rfl); (case hr => first | (go_simp; done) | (go_simp; rfl) | (obtain ⟨Av_, cv_, ev_⟩ := Kd.R_slice HO899.out; subst ev_; go_simp; done) | (obtain ⟨Av_, cv_, ev_⟩ := Kd.R_slice HO899.out; subst ev_; go_simp; rfl) | (obtain ⟨Av_, cv_, ev_⟩ := Kd.R_slice HO902.out; subst ev_; go_simp; done) | (obtain ⟨Av_, cv_, ev_⟩ := Kd.R_slice HO902.out; subst ev_; go_simp; rfl)); intro w38 hw; have hg : wr.grownBy w38 (some go35) := (by rw [hw]; exact HP37.2); have hp_ : Kd.R (Kd.int .i64) 3 w38 w.heap.size (fun _ => True) (.slice (some ⟨go35, 0, none⟩) x6_2.length co36) y906 := (by rw [hw, Ny906.out]; exact HP37.1); clear HP37; have n0_ := am (hp_); replace HO_33 := am (Kd.N_afterv (v := (.slice (some ⟨go35, 0, none⟩) x6_2.length co36)) (v1 := (.slice (some ⟨go35, 0, none⟩) x6_2.length co36)) (ok := (fun k_ => k_ ≠ gb893)) (by (with_reducible repeat (first | apply Kd.N_alloc | apply Kd.N_drewN | apply Kd.N_drew)); exact Kd.N_mono HO_33.out (fun _ hk => ⟨hk.2, hk.1⟩)) hg (.inl rfl)); replace BK893 := am (blk_grown (g := gb893) (o := .cells #[.slice A0_0 l0_0.length c0_0] 26 (0, 0)) (qb BK893.out) hg (Kd.R_ne HO_6.out BK893.out (by decide))); replace HL903_0 := am (Kd.V_afterv (v := (.slice (some ⟨go35, 0, none⟩) x6_2.length co36)) (v1 := (.slice (some ⟨go35, 0, none⟩) x6_2.length co36)) (ok := (fun k_ => some k_ ≠ (.slice (some ad903) t900.length co28 : Value).ownBlock ∧ k_ ≠ gb893)) (by (with_reducible repeat (first | apply Kd.V_alloc | apply Kd.V_drewN | apply Kd.V_drew)); exact Kd.V_mono HL903_0.out (fun _ hk => by first | exact ⟨⟨hk.2, hk.1.2⟩, hk.1.1⟩ | exact ⟨⟨hk.1, hk.2.2⟩, hk.2.1⟩)) hg (.inl rfl)); replace HB := am ((by rw [hw]; exact below_set (HB.out) GB35.out : Below w.heap.size w w38)); clear HO_6; have HO_6 := n0_; clear n0_; clear hg hw hp_))
        go_roundg k2
        case measure => have := HJ2.out; have := HK2.out; omega
        case rel => exact ⟨(y906), (wrap64 (x35_2 + 1)), qe, H', ⟨by have := HJ2.out; have := HK2.out; omega⟩, ⟨qR HO_6.out⟩, ⟨by (with_reducible repeat (first | apply Kd.N_alloc | apply Kd.N_drewN | apply Kd.N_drew)); exact Kd.N_mono HO_33.out (fun _ hk => ⟨hk.2, hk.1⟩)⟩, ⟨qb BK893.out⟩, ⟨qB⟩⟩
       ·rw [if_neg c29] at H
        have c29b0 := decide_eq_false c29
        clear c29
        simp only [Option.some.injEq, Prod.mk.injEq] at H
        obtain ⟨rfl, rfl⟩ := H
        go_wp2
        go_ret2
        exact ⟨_, by first | rfl | (simp [errW_none, errW_some] <;> rfl) | (simp only [← hji19]; first | rfl | (simp [errW_none, errW_some] <;> rfl)) | (simp [*, errW_none, errW_some] <;> rfl), qR HO_6.out, qB⟩
    ·rw [if_neg c20] at H
     exact absurd H (by simp)
mutual
def spec_poRectangle.l0 : Nat → Int → Int → List (List Int) → Int → Option (List Int)
 | 0, _, _, _, _ => none
 | k + 1, x0, x1, x5, x6 => if x6 < x0 then (spec_poRectangle.l1 k x0 x1 x5 x6 0) else ((spec_poFrom.f k (wrap64 (x0 * x1)) x5).bind fun t139 => (some t139))
def spec_poRectangle.l1 : Nat → Int → Int → List (List Int) → Int → Int → Option (List Int)
 | 0, _, _, _, _, _ => none
 | k + 1, x0, x1, x5, x6, x7 => if x7 < x1 then (if (wrap64 (x6 + 1)) < x0 then (if x5.length < 5864062014805 then ((some (x5 ++ [(([wrap64 ((wrap64 (x1 * x6)) + x7), wrap64 ((wrap64 ((wrap64 (x1 * x6)) + x1)) + x7)] : List Int))] : List (List Int))).bind fun y145 => (if (wrap64 (x7 + 1)) < x1 then (if y145.length < 5864062014805 then (spec_poRectangle.l1 k x0 x1 (y145 ++ [(([wrap64 ((wrap64 (x1 * x6)) + x7), wrap64 ((wrap64 ((wrap64 (x1 * x6)) + x7)) + 1)] : List Int))]) x6 (wrap64 (x7 + 1))) else (none)) else (spec_poRectangle.l1 k x0 x1 y145 x6 (wrap64 (x7 + 1))))) else (none)) else (if (wrap64 (x7 + 1)) < x1 then (if x5.length < 5864062014805 then (spec_poRectangle.l1 k x0 x1 (x5 ++ [(([wrap64 ((wrap64 (x1 * x6)) + x7), wrap64 ((wrap64 ((wrap64 (x1 * x6)) + x7)) + 1)] : List Int))]) x6 (wrap64 (x7 + 1))) else (none)) else (spec_poRectangle.l1 k x0 x1 x5 x6 (wrap64 (x7 + 1))))) else (spec_poRectangle.l0 k x0 x1 x5 (wrap64 (x6 + 1)))
end
def spec_poRectangle.f (k : Nat) (a0 : Int) (a1 : Int) : Option (List Int) := spec_poRectangle.l0 k a0 a1 ([] : List (List Int)) 0
theorem spec_poRectangle.mono_l : ∀ k, (∀ y0 y1 y2 y3, LeO (spec_poRectangle.l0 k y0 y1 y2 y3) (spec_poRectangle.l0 (k + 1) y0 y1 y2 y3)) ∧ (∀ y0 y1 y2 y3 y4, LeO (spec_poRectangle.l1 k y0 y1 y2 y3 y4) (spec_poRectangle.l1 (k + 1) y0 y1 y2 y3 y4))
 | 0 => ⟨fun _ _ _ _ r h => by simp [spec_poRectangle.l0] at h, fun _ _ _ _ _ r h => by simp [spec_poRectangle.l1] at h⟩
 | k + 1 => by
  obtain ⟨ih0, ih1⟩ := spec_poRectangle.mono_l k
  refine ⟨?_, ?_⟩
  ·intro y0 y1 y2 y3
   unfold spec_poRectangle.l0
   repeat' first
   | (with_reducible exact spec_poFrom.mono _ _ _)
   | (with_reducible exact LeO.refl _)
   | (with_reducible exact LeO.none _)
   | (with_reducible refine LeO.ite ?_ ?_)
   | (with_reducible refine LeO.bind ?_ (fun _ => ?_))
   | exact ih0 _ _ _ _
   | exact ih1 _ _ _ _ _
   | exact spec_poFrom.mono _ _ _
   | exact LeO.none _
   | refine LeO.ite ?_ ?_
   | refine LeO.bind ?_ (fun _ => ?_)
  ·intro y0 y1 y2 y3 y4
   unfold spec_poRectangle.l1
   repeat' first
   | (with_reducible exact spec_poFrom.mono _ _ _)
   | (with_reducible exact LeO.refl _)
   | (with_reducible exact LeO.none _)
   | (with_reducible refine LeO.ite ?_ ?_)
   | (with_reducible refine LeO.bind ?_ (fun _ => ?_))
   | exact ih0 _ _ _ _
   | exact ih1 _ _ _ _ _
   | exact spec_poFrom.mono _ _ _
   | exact LeO.none _
   | refine LeO.ite ?_ ?_
   | refine LeO.bind ?_ (fun _ => ?_)
theorem spec_poRectangle.mono : ∀ a0 a1 k, LeO (spec_poRectangle.f k a0 a1) (spec_poRectangle.f (k + 1) a0 a1) := by
 intro a0 a1 k
 obtain ⟨ih0, ih1⟩ := spec_poRectangle.mono_l k
 unfold spec_poRectangle.f
 repeat' first
  | (with_reducible exact spec_poFrom.mono _ _ _)
  | (with_reducible exact LeO.refl _)
  | (with_reducible exact LeO.none _)
  | (with_reducible refine LeO.ite ?_ ?_)
  | (with_reducible refine LeO.bind ?_ (fun _ => ?_))
  | exact ih0 _ _ _ _
  | exact ih1 _ _ _ _ _
  | exact spec_poFrom.mono _ _ _
  | exact LeO.none _
  | refine LeO.ite ?_ ?_
  | refine LeO.bind ?_ (fun _ => ?_)
set_option maxHeartbeats 8000000 in
set_option maxRecDepth 100000 in
theorem spec_poRectangle.calls (k : Nat) (a0 : Int) (a1 : Int) (r : List Int) (w : World) (h : spec_poRectangle.f k a0 a1 = some r) :
 Calls Try.prog 151 #[.int .i64 a0, .int .i64 a1] w fun e w' => ∃ v0_ : Value, e = .returned (.agg #[v0_]) ∧ Kd.R (Kd.int .i64) 3 w' w.heap.size (fun _ => True) v0_ r ∧ Below w.heap.size w w' := by
 have hu26 := Try.underlying26
 have HB := am (Below.refl w.heap.size w)
 have H := h
 unfold spec_poRectangle.f at H
 clear h
 have H' := am H
 clear H
 go_enter Try.func151, Try.ntmps151
 go_wp2_with (((with_reducible refine gate_dst (N := 4) rfl ?_); refine qx (N := 4) (cs := #[.slice none 0 0]) (t := 26) ?_; intro gb138 hg w3 hbox hb; have n0_ := am (below_step qB hb); have BK138 := am (hbox); have GW138 := am (qg w hg); have GE138 := am (qg w hg); clear HB; have HB := n0_; clear n0_; clear hb hbox hg))
 go_loopg [5, 6] k (fun kq v5 v6 w' => ∃ (x5_1 : List (List Int)) (x6_1 : Int), v6 = .int .i64 x6_1 ∧ Aside0 (spec_poRectangle.l0 kq a0 a1 x5_1 x6_1 = some r) ∧ Aside0 (kq ≤ k) ∧ Aside0 (Kd.S (Kd.slice 3 (Kd.int .i64)) 24 w' w.heap.size (fun _ => True) v5 x5_1) ∧ Aside0 (w'.heap[gb138]? = some (.cells #[(.slice none 0 0)] 26 (0, 0))) ∧ Aside0 (Below w.heap.size w w'))
 case atStart => exact ⟨(([] : List (List Int))), (0), qe, H', ⟨Nat.le_refl _⟩, ⟨by first | exact Kd.S_nil _ _ _ _ _ | exact Kd.N_nil _ _ _ _ _ | exact Kd.V_nil _ _ _ _ _ | exact Kd.Q_nil _ _ _ _ _ | exact Kd.R_nil _ _ _ _ _⟩, ⟨qb BK138.out⟩, ⟨qB⟩⟩
 case round =>
  clear H'
  try clear c1
  try clear p2
  obtain ⟨x5_1, x6_1, rfl, HA, HK1, HO_5, BK138, HB⟩ := hrel
  cases gk with
  | zero => exact absurd HA.out (by simp [spec_poRectangle.l0])
  | succ k1 =>
   have H := HA.out
   clear HA
   simp only [spec_poRectangle.l0] at H
   by_cases c4 : x6_1 < a0
   ·rw [if_pos c4] at H
    have c4b0 := decide_eq_true c4
    clear c4
    have H' := am H
    clear H
    go_wp2
    go_loopg [5, 7] k1 (fun kq v5 v7 w' => ∃ (x5_2 : List (List Int)) (x7_2 : Int), v7 = .int .i64 x7_2 ∧ Aside0 (spec_poRectangle.l1 kq a0 a1 x5_2 x6_1 x7_2 = some r) ∧ Aside0 (kq ≤ k1) ∧ Aside0 (Kd.S (Kd.slice 3 (Kd.int .i64)) 24 w' w.heap.size (fun _ => True) v5 x5_2) ∧ Aside0 (w'.heap[gb138]? = some (.cells #[(.slice none 0 0)] 26 (0, 0))) ∧ Aside0 (Below w.heap.size w w'))
    case atStart => exact ⟨(x5_1), (0), qe, H', ⟨Nat.le_refl _⟩, ⟨qS HO_5.out⟩, ⟨qb BK138.out⟩, ⟨qB⟩⟩
    case round =>
     clear H'
     try clear c1
     try clear p2
     try clear c4
     try clear c4b0
     try clear p2
     obtain ⟨x5_2, x7_2, rfl, HA, HK2, HO_5, BK138, HB⟩ := hrel
     cases gk with
     | zero => exact absurd HA.out (by simp [spec_poRectangle.l1])
     | succ k2 =>
      have H := HA.out
      clear HA
      simp only [spec_poRectangle.l1] at H
      by_cases c5 : x7_2 < a1
      ·rw [if_pos c5] at H
       have c5b0 := decide_eq_true c5
       clear c5
       by_cases c6 : (wrap64 (x6_1 + 1)) < a0
       ·rw [if_pos c6] at H
        have c6b0 := decide_eq_true c6
        clear c6
        obtain ⟨y142, hy142⟩ : ∃ y_ : List Int, y_ = (([wrap64 ((wrap64 (a1 * x6_1)) + x7_2), wrap64 ((wrap64 ((wrap64 (a1 * x6_1)) + a1)) + x7_2)] : List Int)) := ⟨_, rfl⟩
        replace H : (if x5_2.length < 5864062014805 then ((some (x5_2 ++ [y142] : List (List Int))).bind fun y145 => (if (wrap64 (x7_2 + 1)) < a1 then (if y145.length < 5864062014805 then (spec_poRectangle.l1 k2 a0 a1 (y145 ++ [(([wrap64 ((wrap64 (a1 * x6_1)) + x7_2), wrap64 ((wrap64 ((wrap64 (a1 * x6_1)) + x7_2)) + 1)] : List Int))]) x6_1 (wrap64 (x7_2 + 1))) else (none)) else (spec_poRectangle.l1 k2 a0 a1 y145 x6_1 (wrap64 (x7_2 + 1))))) else (none)) = some r := by first | (rw [hy142]; with_reducible exact H) | (have H2_ := (Option.bind_some _ _).symm.trans H; rw [hy142]; with_reducible exact H2_) | (have H2_ := (Option.bind_some _ _).symm.trans H; with_reducible exact H2_) | with_reducible exact H | (rw [hy142]; exact H) | exact H
        have Ny142 := am hy142
        clear hy142
        by_cases c7 : x5_2.length < 5864062014805
        rotate_left
        ·rw [if_neg c7] at H
         exact absurd H (by simp)
        rw [if_pos c7] at H
        have LMc7 := am c7
        clear c7
        obtain ⟨y145, hy145⟩ : ∃ y_ : List (List Int), y_ = (x5_2 ++ [y142]) := ⟨_, rfl⟩
        replace H : (if (wrap64 (x7_2 + 1)) < a1 then (if y145.length < 5864062014805 then (spec_poRectangle.l1 k2 a0 a1 (y145 ++ [(([wrap64 ((wrap64 (a1 * x6_1)) + x7_2), wrap64 ((wrap64 ((wrap64 (a1 * x6_1)) + x7_2)) + 1)] : List Int))]) x6_1 (wrap64 (x7_2 + 1))) else (none)) else (spec_poRectangle.l1 k2 a0 a1 y145 x6_1 (wrap64 (x7_2 + 1)))) = some r := by first | (rw [hy145]; with_reducible exact H) | (have H2_ := (Option.bind_some _ _).symm.trans H; rw [hy145]; with_reducible exact H2_) | (have H2_ := (Option.bind_some _ _).symm.trans H; with_reducible exact H2_) | with_reducible exact H | (rw [hy145]; exact H) | exact H
        have Ny145 := am hy145
        clear hy145
        by_cases c8 : (wrap64 (x7_2 + 1)) < a1
        ·rw [if_pos c8] at H
         have c8b0 := decide_eq_true c8
         clear c8
         obtain ⟨y148, hy148⟩ : ∃ y_ : List Int, y_ = (([wrap64 ((wrap64 (a1 * x6_1)) + x7_2), wrap64 ((wrap64 ((wrap64 (a1 * x6_1)) + x7_2)) + 1)] : List Int)) := ⟨_, rfl⟩
         replace H : (if y145.length < 5864062014805 then (spec_poRectangle.l1 k2 a0 a1 (y145 ++ [y148]) x6_1 (wrap64 (x7_2 + 1))) else (none)) = some r := by first | (rw [hy148]; with_reducible exact H) | (have H2_ := (Option.bind_some _ _).symm.trans H; rw [hy148]; with_reducible exact H2_) | (have H2_ := (Option.bind_some _ _).symm.trans H; with_reducible exact H2_) | with_reducible exact H | (rw [hy148]; exact H) | exact H
         have Ny148 := am hy148
         clear hy148
         by_cases c9 : y145.length < 5864062014805
         rotate_left
         ·rw [if_neg c9] at H
          exact absurd H (by simp)
         rw [if_pos c9] at H
         have LMc9 := am c9
         clear c9
         obtain ⟨y151, hy151⟩ : ∃ y_ : List (List Int), y_ = (y145 ++ [y148]) := ⟨_, rfl⟩
         replace H : (spec_poRectangle.l1 k2 a0 a1 y151 x6_1 (wrap64 (x7_2 + 1))) = some r := by first | (rw [hy151]; with_reducible exact H) | (have H2_ := (Option.bind_some _ _).symm.trans H; rw [hy151]; with_reducible exact H2_) | (have H2_ := (Option.bind_some _ _).symm.trans H; with_reducible exact H2_) | with_reducible exact H | (rw [hy151]; exact H) | exact H
         have Ny151 := am hy151
         clear hy151
         have H' := am H
         clear H
         go_wp2_with (first | ((with_reducible refine gate_dst (N := 35) rfl ?_); refine Kd.R_lit (Kd.int .i64) _ 3 ?hg (N := 35) ?hd (xs := ([wrap64 ((wrap64 (a1 * x6_1)) + x7_2), wrap64 ((wrap64 ((wrap64 (a1 * x6_1)) + a1)) + x7_2)] : List Int)) (inner := [.int .i64 (wrap64 ((wrap64 (a1 * x6_1)) + x7_2)), .int .i64 (wrap64 ((wrap64 ((wrap64 (a1 * x6_1)) + a1)) + x7_2))]) (ok := fun _ => True) (okp := fun _ => True) ?hr ?hp (fun _ hk => hk) trivial (Below.refl _ _) (Nat.le_refl _) (by simp) ?_; (case hd => rfl); (case hg => rfl); (case hr => first | (go_simp; done) | (go_simp; rfl)); (case hp => exact (Reps.one (show Kd.M (Kd.int .i64) _ _ _ (wrap64 ((wrap64 (a1 * x6_1)) + x7_2)) [.int .i64 (wrap64 ((wrap64 (a1 * x6_1)) + x7_2))] from rfl) (Reps.one (show Kd.M (Kd.int .i64) _ _ _ (wrap64 ((wrap64 ((wrap64 (a1 * x6_1)) + a1)) + x7_2)) [.int .i64 (wrap64 ((wrap64 ((wrap64 (a1 * x6_1)) + a1)) + x7_2))] from rfl) (Reps.none _ _)))); intro v143 w10 ho11 hb hg_ hnew_; clear hg_ hnew_; (first | rw [← Ny142.out] at ho11 | (simp only [Int.reduceToNat] at ho11; rw [← Ny142.out] at ho11)); replace HO_5 := am (Kd.S_elder' (qS HO_5.out) (Kd.R_base ho11) hb); have HO144 := am (Kd.R_lower ho11 (below_size qB)); replace BK138 := am (blk_below (g := gb138) (o := .cells #[.slice none 0 0] 26 (0, 0)) (qb BK138.out) hb); replace HB := am (below_step qB hb); clear hb ho11; obtain ⟨Ao13, co13, eo13⟩ := Kd.R_slice HO144.out; subst eo13) | ((with_reducible refine gate_builtin (b := .append) (xs := #[.tmp 22, .tmp 36]) rfl ?_); at_builtin; refine Kd.S_append (Kd.slice 3 (Kd.int .i64)) (w0 := w) w.heap.size rfl (.tmp 22) (.tmp 36) 58 24 (.slice none 0 0) 24 rfl Try.underlying58 info24 rfl (by decide) (by omega) u5 x5_2 y142 [.slice Ao13 y142.length co13] (fun _ => True) (fun k_ => some k_ = (.slice Ao13 y142.length co13 : Value).ownBlock) rfl rfl ?aP (fun k_ hk_ => ((Kd.R_mono (ok' := fun k_ => ((fun _ => True)) k_ ∧ some k_ ≠ (u5 : Value).ownBlock) (Kd.R_apart' (HO144.out) (Kd.S_typed HO_5.out) (by decide)) (fun k_ hk => ⟨trivial, hk.2⟩))).1 k_ hk_.symm) ?aF ?aO ?aB ?aS ?aL ?_; (case aP => exact Kd.M_row (Kd.R_mono (Kd.R_tight rfl (Kd.R_mono (ok' := fun k_ => ((fun _ => True)) k_ ∧ some k_ ≠ (u5 : Value).ownBlock) (Kd.R_apart' (HO144.out) (Kd.S_typed HO_5.out) (by decide)) (fun k_ hk => ⟨trivial, hk.2⟩))) (fun _ h_ => h_))); (case aB => exact qB); (case aF => exact (fun _ _ => trivial)); (case aO => exact (qS (Kd.S_mono HO_5.out (fun k_ hk => ⟨trivial, fun e_ => hk.2 e_⟩)))); (case aS => exact (below_size qB)); (case aL => have := LMc7.out; omega); intro v146 w12 ho hb hg hat; rw [← Ny145.out] at ho; replace BK138 := am (blk_grown (g := gb138) (o := .cells #[.slice none 0 0] 26 (0, 0)) (qb BK138.out) hg (Kd.S_ne HO_5.out BK138.out (by decide))); have n1_ := am (hb); have HO147 := am (ho); clear HB HO_5 HO144; have HB := n1_; clear n1_; clear ho hb hg hat) | ((with_reducible refine gate_dst (N := 54) rfl ?_); refine Kd.R_lit (Kd.int .i64) _ 3 ?hg (N := 54) ?hd (xs := ([wrap64 ((wrap64 (a1 * x6_1)) + x7_2), wrap64 ((wrap64 ((wrap64 (a1 * x6_1)) + x7_2)) + 1)] : List Int)) (inner := [.int .i64 (wrap64 ((wrap64 (a1 * x6_1)) + x7_2)), .int .i64 (wrap64 ((wrap64 ((wrap64 (a1 * x6_1)) + x7_2)) + 1))]) (ok := fun _ => True) (okp := fun _ => True) ?hr ?hp (fun _ hk => hk) trivial (Below.refl _ _) (Nat.le_refl _) (by simp) ?_; (case hd => rfl); (case hg => rfl); (case hr => first | (go_simp; done) | (go_simp; rfl)); (case hp => exact (Reps.one (show Kd.M (Kd.int .i64) _ _ _ (wrap64 ((wrap64 (a1 * x6_1)) + x7_2)) [.int .i64 (wrap64 ((wrap64 (a1 * x6_1)) + x7_2))] from rfl) (Reps.one (show Kd.M (Kd.int .i64) _ _ _ (wrap64 ((wrap64 ((wrap64 (a1 * x6_1)) + x7_2)) + 1)) [.int .i64 (wrap64 ((wrap64 ((wrap64 (a1 * x6_1)) + x7_2)) + 1))] from rfl) (Reps.none _ _)))); intro v149 w14 ho15 hb hg_ hnew_; clear hg_ hnew_; (first | rw [← Ny148.out] at ho15 | (simp only [Int.reduceToNat] at ho15; rw [← Ny148.out] at ho15)); replace HO147 := am (Kd.S_elder' (qS HO147.out) (Kd.R_base ho15) hb); have HO150 := am (Kd.R_lower ho15 (below_size qB)); replace BK138 := am (blk_below (g := gb138) (o := .cells #[.slice none 0 0] 26 (0, 0)) (qb BK138.out) hb); replace HB := am (below_step qB hb); clear hb ho15; obtain ⟨Ao17, co17, eo17⟩ := Kd.R_slice HO150.out; subst eo17) | ((with_reducible refine gate_builtin (b := .append) (xs := #[.tmp 42, .tmp 55]) rfl ?_); at_builtin; refine Kd.S_append (Kd.slice 3 (Kd.int .i64)) (w0 := w) w.heap.size rfl (.tmp 42) (.tmp 55) 58 24 (.slice none 0 0) 24 rfl Try.underlying58 info24 rfl (by decide) (by omega) v146 y145 y148 [.slice Ao17 y148.length co17] (fun _ => True) (fun k_ => some k_ = (.slice Ao17 y148.length co17 : Value).ownBlock) rfl rfl ?aP (fun k_ hk_ => ((Kd.R_mono (ok' := fun k_ => ((fun _ => True)) k_ ∧ some k_ ≠ (v146 : Value).ownBlock) (Kd.R_apart' (HO150.out) (Kd.S_typed HO147.out) (by decide)) (fun k_ hk => ⟨trivial, hk.2⟩))).1 k_ hk_.symm) ?aF ?aO ?aB ?aS ?aL ?_; (case aP => exact Kd.M_row (Kd.R_mono (Kd.R_tight rfl (Kd.R_mono (ok' := fun k_ => ((fun _ => True)) k_ ∧ some k_ ≠ (v146 : Value).ownBlock) (Kd.R_apart' (HO150.out) (Kd.S_typed HO147.out) (by decide)) (fun k_ hk => ⟨trivial, hk.2⟩))) (fun _ h_ => h_))); (case aB => exact qB); (case aF => exact (fun _ _ => trivial)); (case aO => exact (qS (Kd.S_mono HO147.out (fun k_ hk => ⟨trivial, fun e_ => hk.2 e_⟩)))); (case aS => exact (below_size qB)); (case aL => have := LMc9.out; omega); intro v152 w16 ho hb hg hat; rw [← Ny151.out] at ho; replace BK138 := am (blk_grown (g := gb138) (o := .cells #[.slice none 0 0] 26 (0, 0)) (qb BK138.out) hg (Kd.S_ne HO147.out BK138.out (by decide))); have n1_ := am (hb); have HO153 := am (ho); clear HB HO147 HO150; have HB := n1_; clear n1_; clear ho hb hg hat))
         go_roundg k2
         case measure => have := HK1.out; have := HK2.out; omega
         case rel => exact ⟨(y151), (wrap64 (x7_2 + 1)), qe, H', ⟨by have := HK1.out; have := HK2.out; omega⟩, ⟨qS HO153.out⟩, ⟨qb BK138.out⟩, ⟨qB⟩⟩
        ·rw [if_neg c8] at H
         have c8b0 := decide_eq_false c8
         clear c8
         have H' := am H
         clear H
         go_wp2_with (first | ((with_reducible refine gate_dst (N := 35) rfl ?_); refine Kd.R_lit (Kd.int .i64) _ 3 ?hg (N := 35) ?hd (xs := ([wrap64 ((wrap64 (a1 * x6_1)) + x7_2), wrap64 ((wrap64 ((wrap64 (a1 * x6_1)) + a1)) + x7_2)] : List Int)) (inner := [.int .i64 (wrap64 ((wrap64 (a1 * x6_1)) + x7_2)), .int .i64 (wrap64 ((wrap64 ((wrap64 (a1 * x6_1)) + a1)) + x7_2))]) (ok := fun _ => True) (okp := fun _ => True) ?hr ?hp (fun _ hk => hk) trivial (Below.refl _ _) (Nat.le_refl _) (by simp) ?_; (case hd => rfl); (case hg => rfl); (case hr => first | (go_simp; done) | (go_simp; rfl)); (case hp => exact (Reps.one (show Kd.M (Kd.int .i64) _ _ _ (wrap64 ((wrap64 (a1 * x6_1)) + x7_2)) [.int .i64 (wrap64 ((wrap64 (a1 * x6_1)) + x7_2))] from rfl) (Reps.one (show Kd.M (Kd.int .i64) _ _ _ (wrap64 ((wrap64 ((wrap64 (a1 * x6_1)) + a1)) + x7_2)) [.int .i64 (wrap64 ((wrap64 ((wrap64 (a1 * x6_1)) + a1)) + x7_2))] from rfl) (Reps.none _ _)))); intro v143 w18 ho19 hb hg_ hnew_; clear hg_ hnew_; (first | rw [← Ny142.out] at ho19 | (simp only [Int.reduceToNat] at ho19; rw [← Ny142.out] at ho19)); replace HO_5 := am (Kd.S_elder' (qS HO_5.out) (Kd.R_base ho19) hb); have HO144 := am (Kd.R_lower ho19 (below_size qB)); replace BK138 := am (blk_below (g := gb138) (o := .cells #[.slice none 0 0] 26 (0, 0)) (qb BK138.out) hb); replace HB := am (below_step qB hb); clear hb ho19; obtain ⟨Ao21, co21, eo21⟩ := Kd.R_slice HO144.out; subst eo21) | ((with_reducible refine gate_builtin (b := .append) (xs := #[.tmp 22, .tmp 36]) rfl ?_); at_builtin; refine Kd.S_append (Kd.slice 3 (Kd.int .i64)) (w0 := w) w.heap.size rfl (.tmp 22) (.tmp 36) 58 24 (.slice none 0 0) 24 rfl Try.underlying58 info24 rfl (by decide) (by omega) u5 x5_2 y142 [.slice Ao21 y142.length co21] (fun _ => True) (fun k_ => some k_ = (.slice Ao21 y142.length co21 : Value).ownBlock) rfl rfl ?aP (fun k_ hk_ => ((Kd.R_mono (ok' := fun k_ => ((fun _ => True)) k_ ∧ some k_ ≠ (u5 : Value).ownBlock) (Kd.R_apart' (HO144.out) (Kd.S_typed HO_5.out) (by decide)) (fun k_ hk => ⟨trivial, hk.2⟩))).1 k_ hk_.symm) ?aF ?aO ?aB ?aS ?aL ?_; (case aP => exact Kd.M_row (Kd.R_mono (Kd.R_tight rfl (Kd.R_mono (ok' := fun k_ => ((fun _ => True)) k_ ∧ some k_ ≠ (u5 : Value).ownBlock) (Kd.R_apart' (HO144.out) (Kd.S_typed HO_5.out) (by decide)) (fun k_ hk => ⟨trivial, hk.2⟩))) (fun _ h_ => h_))); (case aB => exact qB); (case aF => exact (fun _ _ => trivial)); (case aO => exact (qS (Kd.S_mono HO_5.out (fun k_ hk => ⟨trivial, fun e_ => hk.2 e_⟩)))); (case aS => exact (below_size qB)); (case aL => have := LMc7.out; omega); intro v146 w20 ho hb hg hat; rw [← Ny145.out] at ho; replace BK138 := am (blk_grown (g := gb138) (o := .cells #[.slice none 0 0] 26 (0, 0)) (qb BK138.out) hg (Kd.S_ne HO_5.out BK138.out (by decide))); have n1_ := am (hb); have HO147 := am (ho); clear HB HO_5 HO144; have HB := n1_; clear n1_; clear ho hb hg hat))
         go_roundg k2
         case measure => have := HK1.out; have := HK2.out; omega
         case rel => exact ⟨(y145), (wrap64 (x7_2 + 1)), qe, H', ⟨by have := HK1.out; have := HK2.out; omega⟩, ⟨qS HO147.out⟩, ⟨qb BK138.out⟩, ⟨qB⟩⟩
       ·rw [if_neg c6] at H
        have c6b0 := decide_eq_false c6
        clear c6
        by_cases c22 : (wrap64 (x7_2 + 1)) < a1
        ·rw [if_pos c22] at H
         have c22b0 := decide_eq_true c22
         clear c22
         obtain ⟨y154, hy154⟩ : ∃ y_ : List Int, y_ = (([wrap64 ((wrap64 (a1 * x6_1)) + x7_2), wrap64 ((wrap64 ((wrap64 (a1 * x6_1)) + x7_2)) + 1)] : List Int)) := ⟨_, rfl⟩
         replace H : (if x5_2.length < 5864062014805 then (spec_poRectangle.l1 k2 a0 a1 (x5_2 ++ [y154]) x6_1 (wrap64 (x7_2 + 1))) else (none)) = some r := by first | (rw [hy154]; with_reducible exact H) | (have H2_ := (Option.bind_some _ _).symm.trans H; rw [hy154]; with_reducible exact H2_) | (have H2_ := (Option.bind_some _ _).symm.trans H; with_reducible exact H2_) | with_reducible exact H | (rw [hy154]; exact H) | exact H
         have Ny154 := am hy154
         clear hy154
         by_cases c23 : x5_2.length < 5864062014805
         rotate_left
         ·rw [if_neg c23] at H
          exact absurd H (by simp)
         rw [if_pos c23] at H
         have LMc23 := am c23
         clear c23
         obtain ⟨y157, hy157⟩ : ∃ y_ : List (List Int), y_ = (x5_2 ++ [y154]) := ⟨_, rfl⟩
         replace H : (spec_poRectangle.l1 k2 a0 a1 y157 x6_1 (wrap64 (x7_2 + 1))) = some r := by first | (rw [hy157]; with_reducible exact H) | (have H2_ := (Option.bind_some _ _).symm.trans H; rw [hy157]; with_reducible exact H2_) | (have H2_ := (Option.bind_some _ _).symm.trans H; with_reducible exact H2_) | with_reducible exact H | (rw [hy157]; exact H) | exact H
         have Ny157 := am hy157
         clear hy157
         have H' := am H
         clear H
         go_wp2_with (first | ((with_reducible refine gate_dst (N := 54) rfl ?_); refine Kd.R_lit (Kd.int .i64) _ 3 ?hg (N := 54) ?hd (xs := ([wrap64 ((wrap64 (a1 * x6_1)) + x7_2), wrap64 ((wrap64 ((wrap64 (a1 * x6_1)) + x7_2)) + 1)] : List Int)) (inner := [.int .i64 (wrap64 ((wrap64 (a1 * x6_1)) + x7_2)), .int .i64 (wrap64 ((wrap64 ((wrap64 (a1 * x6_1)) + x7_2)) + 1))]) (ok := fun _ => True) (okp := fun _ => True) ?hr ?hp (fun _ hk => hk) trivial (Below.refl _ _) (Nat.le_refl _) (by simp) ?_; (case hd => rfl); (case hg => rfl); (case hr => first | (go_simp; done) | (go_simp; rfl)); (case hp => exact (Reps.one (show Kd.M (Kd.int .i64) _ _ _ (wrap64 ((wrap64 (a1 * x6_1)) + x7_2)) [.int .i64 (wrap64 ((wrap64 (a1 * x6_1)) + x7_2))] from rfl) (Reps.one (show Kd.M (Kd.int .i64) _ _ _ (wrap64 ((wrap64 ((wrap64 (a1 * x6_1)) + x7_2)) + 1)) [.int .i64 (wrap64 ((wrap64 ((wrap64 (a1 * x6_1)) + x7_2)) + 1))] from rfl) (Reps.none _ _)))); intro v155 w24 ho25 hb hg_ hnew_; clear hg_ hnew_; (first | rw [← Ny154.out] at ho25 | (simp only [Int.reduceToNat] at ho25; rw [← Ny154.out] at ho25)); replace HO_5 := am (Kd.S_elder' (qS HO_5.out) (Kd.R_base ho25) hb); have HO156 := am (Kd.R_lower ho25 (below_size qB)); replace BK138 := am (blk_below (g := gb138) (o := .cells #[.slice none 0 0] 26 (0, 0)) (qb BK138.out) hb); replace HB := am (below_step qB hb); clear hb ho25; obtain ⟨Ao27, co27, eo27⟩ := Kd.R_slice HO156.out; subst eo27) | ((with_reducible refine gate_builtin (b := .append) (xs := #[.tmp 42, .tmp 55]) rfl ?_); at_builtin; refine Kd.S_append (Kd.slice 3 (Kd.int .i64)) (w0 := w) w.heap.size rfl (.tmp 42) (.tmp 55) 58 24 (.slice none 0 0) 24 rfl Try.underlying58 info24 rfl (by decide) (by omega) u5 x5_2 y154 [.slice Ao27 y154.length co27] (fun _ => True) (fun k_ => some k_ = (.slice Ao27 y154.length co27 : Value).ownBlock) rfl rfl ?aP (fun k_ hk_ => ((Kd.R_mono (ok' := fun k_ => ((fun _ => True)) k_ ∧ some k_ ≠ (u5 : Value).ownBlock) (Kd.R_apart' (HO156.out) (Kd.S_typed HO_5.out) (by decide)) (fun k_ hk => ⟨trivial, hk.2⟩))).1 k_ hk_.symm) ?aF ?aO ?aB ?aS ?aL ?_; (case aP => exact Kd.M_row (Kd.R_mono (Kd.R_tight rfl (Kd.R_mono (ok' := fun k_ => ((fun _ => True)) k_ ∧ some k_ ≠ (u5 : Value).ownBlock) (Kd.R_apart' (HO156.out) (Kd.S_typed HO_5.out) (by decide)) (fun k_ hk => ⟨trivial, hk.2⟩))) (fun _ h_ => h_))); (case aB => exact qB); (case aF => exact (fun _ _ => trivial)); (case aO => exact (qS (Kd.S_mono HO_5.out (fun k_ hk => ⟨trivial, fun e_ => hk.2 e_⟩)))); (case aS => exact (below_size qB)); (case aL => have := LMc23.out; omega); intro v158 w26 ho hb hg hat; rw [← Ny157.out] at ho; replace BK138 := am (blk_grown (g := gb138) (o := .cells #[.slice none 0 0] 26 (0, 0)) (qb BK138.out) hg (Kd.S_ne HO_5.out BK138.out (by decide))); have n1_ := am (hb); have HO159 := am (ho); clear HB HO_5 HO156; have HB := n1_; clear n1_; clear ho hb hg hat))
         go_roundg k2
         case measure => have := HK1.out; have := HK2.out; omega
         case rel => exact ⟨(y157), (wrap64 (x7_2 + 1)), qe, H', ⟨by have := HK1.out; have := HK2.out; omega⟩, ⟨qS HO159.out⟩, ⟨qb BK138.out⟩, ⟨qB⟩⟩
        ·rw [if_neg c22] at H
         have c22b0 := decide_eq_false c22
         clear c22
         have H' := am H
         clear H
         go_wp2
         go_roundg k2
         case measure => have := HK1.out; have := HK2.out; omega
         case rel => exact ⟨(x5_2), (wrap64 (x7_2 + 1)), qe, H', ⟨by have := HK1.out; have := HK2.out; omega⟩, ⟨qS HO_5.out⟩, ⟨qb BK138.out⟩, ⟨qB⟩⟩
      ·rw [if_neg c5] at H
       have c5b0 := decide_eq_false c5
       clear c5
       have H' := am H
       clear H
       go_wp2
       go_roundg k2
       case measure => have := HK1.out; have := HK2.out; omega
       case rel => exact ⟨(x5_2), (wrap64 (x6_1 + 1)), qe, H', ⟨by have := HK1.out; have := HK2.out; omega⟩, ⟨qS HO_5.out⟩, ⟨qb BK138.out⟩, ⟨qB⟩⟩
   ·rw [if_neg c4] at H
    have c4b0 := decide_eq_false c4
    clear c4
    replace H := Option.bind_eq_some_iff.mp H
    obtain ⟨t139, A280, H⟩ := H
    (try dsimp only at H)
    have A28 := am A280
    clear A280
    obtain rfl := Option.some.inj H
    obtain ⟨Ao29, co29, eo29⟩ := Kd.S_slice HO_5.out
    subst eo29
    go_wp2_with (((with_reducible refine gate_callee (f := 154) rfl ?_); refine gL (some 61) Try.func154 #[.int .i64 (wrap64 (a0 * a1)), .slice Ao29 x5_1.length co29] ?_; (with_reducible refine (spec_poFrom.calls k1 (wrap64 (a0 * a1)) _ _ x5_1 t139 _ ?side1 ?side2 A28.out).mono ?_); (case side1 => exact qC (Kd.S_reads' HO_5.out).2.2); (case side2 => exact (Kd.S_reads' HO_5.out).2.1); rintro e w30 ⟨v140, rfl, ho0, hb⟩; refine ⟨_, rfl, ?_⟩; replace HO_5 := am (Kd.S_elder' (qS HO_5.out) (Kd.R_base ho0) hb); have HO141 := am (Kd.R_lower ho0 (below_size qB)); replace BK138 := am (blk_below (g := gb138) (o := .cells #[.slice none 0 0] 26 (0, 0)) (qb BK138.out) hb); replace HB := am (below_step qB hb); (try clear hb); (try clear hb2); (try clear hk); (try clear hi); (try clear ho0); obtain ⟨Ao31, co31, eo31⟩ := Kd.R_slice HO141.out; subst eo31; have hcz32_0 := qz w30 BK138.out; have hfz32_0 := blk_frozen BK138.out 0))
    refine bodyPost_ret (results_cell_row rfl _ _ gb138 26 #[.slice Ao31 t139.length co31] (0, 0) _ rfl (by (with_reducible repeat (first | refine blk_drewN ?_ _ | refine blk_drew ?_ | refine blk_alloc ?_ _)); refine blk_put (cs := #[.slice none 0 0]) ?_ 0 _ rfl; refine qb ?_; exact BK138.out) Try.underlying26 rfl (by kernel_rfl)) rfl ?_
    exact ⟨_, qr, qR (Kd.R_mono (Kd.R_far (p := ⟨gb138, 0, none⟩) (Kd.R_types HO141.out BK138.out (by decide)) (fun _ hk => hk.2) (.slice Ao31 t139.length co31)) (fun _ hk => trivial)), qB⟩
def spec_shSides.f (a0 : Int) (a1 : Int) : Option (Bool) := (spec_l1In.f a0 1 10).bind fun t861 => (if t861 = true then ((spec_l1In.f a1 1 10).bind fun t862 => (if t862 = true then (some (decide ((wrap64 (a0 * a1)) ≤ 10))) else (some false))) else (some false))
set_option maxHeartbeats 8000000 in
set_option maxRecDepth 100000 in
theorem spec_shSides.calls (a0 : Int) (a1 : Int) (r : Bool) (w : World) (h : spec_shSides.f a0 a1 = some r) :
 Calls Try.prog 142 #[.int .i64 a0, .int .i64 a1] w fun e w' => e = .returned (.bool r) ∧ Drawn0 w w' := by
 have H := h
 unfold spec_shSides.f at H
 clear h
 replace H := Option.bind_eq_some_iff.mp H
 obtain ⟨t861, A30, H⟩ := H
 (try dsimp only at H)
 have A3 := am A30
 clear A30
 by_cases c4 : t861 = true
 ·subst c4
  rw [if_pos rfl] at H
  replace H := Option.bind_eq_some_iff.mp H
  obtain ⟨t862, A50, H⟩ := H
  (try dsimp only at H)
  have A5 := am A50
  clear A50
  by_cases c6 : t862 = true
  ·subst c6
   rw [if_pos rfl] at H
   obtain rfl := Option.some.inj H
   go_enter Try.func142, Try.ntmps142
   go_wp2_with (first | ((with_reducible refine gate_callee (f := 75) rfl ?_); refine gL (some 6) Try.func75 #[.int .i64 a0, .int .i64 1, .int .i64 10] ?_; (with_reducible refine (spec_l1In.calls a0 1 10 true _ A3.out).mono ?_); rintro e w' ⟨rfl, ⟨nd, rfl⟩⟩; refine ⟨_, rfl, ?_⟩) | (go_at_call 75; (with_reducible refine (spec_l1In.calls a1 1 10 true _ A5.out).mono ?_); rintro e w' ⟨rfl, ⟨nd, rfl⟩⟩))
   go_ret
   exact ⟨by first | rfl | (simp; done) | (simp [*]; done), by repeat (first | exact Drawn0.refl _ | apply Drawn0.step)⟩
  ·replace c6 := Bool.eq_false_iff.mpr c6
   subst c6
   rw [if_neg (show ¬ (false = true) by decide)] at H
   obtain rfl := Option.some.inj H
   go_enter Try.func142, Try.ntmps142
   go_wp2_with (first | ((with_reducible refine gate_callee (f := 75) rfl ?_); refine gL (some 6) Try.func75 #[.int .i64 a0, .int .i64 1, .int .i64 10] ?_; (with_reducible refine (spec_l1In.calls a0 1 10 true _ A3.out).mono ?_); rintro e w' ⟨rfl, ⟨nd, rfl⟩⟩; refine ⟨_, rfl, ?_⟩) | (go_at_call 75; (with_reducible refine (spec_l1In.calls a1 1 10 false _ A5.out).mono ?_); rintro e w' ⟨rfl, ⟨nd, rfl⟩⟩))
   go_ret
   exact ⟨by first | rfl | (simp; done) | (simp [*]; done), by repeat (first | exact Drawn0.refl _ | apply Drawn0.step)⟩
 ·replace c4 := Bool.eq_false_iff.mpr c4
  subst c4
  rw [if_neg (show ¬ (false = true) by decide)] at H
  obtain rfl := Option.some.inj H
  go_enter Try.func142, Try.ntmps142
  go_wp2_with (((with_reducible refine gate_callee (f := 75) rfl ?_); refine gL (some 6) Try.func75 #[.int .i64 a0, .int .i64 1, .int .i64 10] ?_; (with_reducible refine (spec_l1In.calls a0 1 10 false _ A3.out).mono ?_); rintro e w' ⟨rfl, ⟨nd, rfl⟩⟩; refine ⟨_, rfl, ?_⟩))
  go_ret
  exact ⟨by first | rfl | (simp; done) | (simp [*]; done), by repeat (first | exact Drawn0.refl _ | apply Drawn0.step)⟩
end Go.Proofs.Ytmbojobkiainlaa.F
end
