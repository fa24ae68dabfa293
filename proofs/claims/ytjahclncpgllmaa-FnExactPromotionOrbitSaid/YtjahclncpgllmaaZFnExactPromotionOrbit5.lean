/- Part 5 of the texts below the row of FnExactPromotionOrbit: printed functions with their contracts, and plain lemmas. No condition. -/
import Derived.Test.YtjahclncpgllmaaZFnExactPromotionOrbit4
import Derived.LoopTactic
import Derived.Deep.LoopGhost
import Derived.Deep.RegionHeld3
import Derived.OneCell
section
namespace Go.Proofs.Ytjahclncpgllmaa.F
open Go.RowKit Go.Proofs.YtjahclncpgllmaaW.PrintWords Go.Proofs.YtjahclncpgllmaaW.PrintLast Go.Proofs.YtjahclncpgllmaaW.PrintMore
set_option linter.unusedVariables false
set_option linter.unusedSimpArgs false

def orbI (k : Nat) (p : List Int) (f0 f1 f2 f3 f4 f5 f6 f7 f8 f9 : Int) : Nat → List (List Int) → Int × Int × Int × Int × Int × Int × Int × Int × Int × Int → Option (List (List Int) × Bool)
  | 0, _, _ => none
  | d + 1, rows, (x0, x1, x2, x3, x4, x5, x6, x7, x8, x9) => if rows.length ≠ 0 ∧ (x0 = f0 ∧ x1 = f1 ∧ x2 = f2 ∧ x3 = f3 ∧ x4 = f4 ∧ x5 = f5 ∧ x6 = f6 ∧ x7 = f7 ∧ x8 = f8 ∧ x9 = f9) then some (rows, true) else if rows.length = 500 then some ([], false) else if rows.length ≤ 500 then (impl_Poset_n.f p).bind fun n => (impl_line_list.f x0 x1 x2 x3 x4 x5 x6 x7 x8 x9 n).bind fun row => (impl_Poset_promoted.f k p x0 x1 x2 x3 x4 x5 x6 x7 x8 x9).bind fun y => orbI k p f0 f1 f2 f3 f4 f5 f6 f7 f8 f9 d (rows ++ [row]) y else none
theorem orbI_mono (p : List Int) (f0 f1 f2 f3 f4 f5 f6 f7 f8 f9 : Int) (k : Nat) : ∀ d rows x, LeO (orbI k p f0 f1 f2 f3 f4 f5 f6 f7 f8 f9 d rows x) (orbI (k + 1) p f0 f1 f2 f3 f4 f5 f6 f7 f8 f9 (d + 1) rows x)
  | 0, _, _ => fun r h => by cases h
  | d + 1, rows, (x0, x1, x2, x3, x4, x5, x6, x7, x8, x9) => by
    unfold orbI
    exact LeO.ite (LeO.refl _) (LeO.ite (LeO.refl _) (LeO.ite (LeO.bind (LeO.refl _) (fun n => LeO.bind (LeO.refl _) (fun row => LeO.bind (impl_Poset_promoted.mono _ _ _ _ _ _ _ _ _ _ _ _) (fun y => orbI_mono p f0 f1 f2 f3 f4 f5 f6 f7 f8 f9 k d _ _)))) (LeO.refl _)))
def impl_PromotionOrbit.f (k : Nat) (l0_0 : List Int) (l1 : List Int) : Option (List (List Int) × Bool) :=
  (impl_isLinear.f k l0_0 l1).bind fun b => if b = true then (impl_lineOf.f l1).bind fun t => orbI k l0_0 t.1 t.2.1 t.2.2.1 t.2.2.2.1 t.2.2.2.2.1 t.2.2.2.2.2.1 t.2.2.2.2.2.2.1 t.2.2.2.2.2.2.2.1 t.2.2.2.2.2.2.2.2.1 t.2.2.2.2.2.2.2.2.2 k [] t else some ([], false)
theorem impl_PromotionOrbit.mono : ∀ a0 a1 k, LeO (impl_PromotionOrbit.f k a0 a1) (impl_PromotionOrbit.f (k + 1) a0 a1) := fun a0 a1 k => by
  unfold impl_PromotionOrbit.f
  exact LeO.bind (impl_isLinear.mono _ _ _) (fun b => LeO.ite (LeO.bind (LeO.refl _) (fun t => orbI_mono _ _ _ _ _ _ _ _ _ _ _ _ _ _ _)) (LeO.refl _))
theorem or_put {w : World} {g : Nat} {x0 x1 x2 x3 x4 x5 x6 x7 x8 x9 : Int} (h : w.heap[g]? = some (.cells #[.int .i64 x0, .int .i64 x1, .int .i64 x2, .int .i64 x3, .int .i64 x4, .int .i64 x5, .int .i64 x6, .int .i64 x7, .int .i64 x8, .int .i64 x9] 58 (0, 0))) (y0 y1 y2 y3 y4 y5 y6 y7 y8 y9 : Int) : ((((((((((w.setCell ⟨g, 0, none⟩ (.int .i64 y0)).setCell ⟨g, 1, none⟩ (.int .i64 y1)).setCell ⟨g, 2, none⟩ (.int .i64 y2)).setCell ⟨g, 3, none⟩ (.int .i64 y3)).setCell ⟨g, 4, none⟩ (.int .i64 y4)).setCell ⟨g, 5, none⟩ (.int .i64 y5)).setCell ⟨g, 6, none⟩ (.int .i64 y6)).setCell ⟨g, 7, none⟩ (.int .i64 y7)).setCell ⟨g, 8, none⟩ (.int .i64 y8)).setCell ⟨g, 9, none⟩ (.int .i64 y9)).heap[g]? = some (.cells #[.int .i64 y0, .int .i64 y1, .int .i64 y2, .int .i64 y3, .int .i64 y4, .int .i64 y5, .int .i64 y6, .int .i64 y7, .int .i64 y8, .int .i64 y9] 58 (0, 0)) :=
  by
  have h0 : (w.setCell ⟨g, 0, none⟩ (.int .i64 y0)).heap[g]? = some (.cells #[.int .i64 y0, .int .i64 x1, .int .i64 x2, .int .i64 x3, .int .i64 x4, .int .i64 x5, .int .i64 x6, .int .i64 x7, .int .i64 x8, .int .i64 x9] 58 (0, 0)) := blk_put h 0 _ rfl
  have h1 : ((w.setCell ⟨g, 0, none⟩ (.int .i64 y0)).setCell ⟨g, 1, none⟩ (.int .i64 y1)).heap[g]? = some (.cells #[.int .i64 y0, .int .i64 y1, .int .i64 x2, .int .i64 x3, .int .i64 x4, .int .i64 x5, .int .i64 x6, .int .i64 x7, .int .i64 x8, .int .i64 x9] 58 (0, 0)) := blk_put h0 1 _ rfl
  have h2 : (((w.setCell ⟨g, 0, none⟩ (.int .i64 y0)).setCell ⟨g, 1, none⟩ (.int .i64 y1)).setCell ⟨g, 2, none⟩ (.int .i64 y2)).heap[g]? = some (.cells #[.int .i64 y0, .int .i64 y1, .int .i64 y2, .int .i64 x3, .int .i64 x4, .int .i64 x5, .int .i64 x6, .int .i64 x7, .int .i64 x8, .int .i64 x9] 58 (0, 0)) := blk_put h1 2 _ rfl
  have h3 : ((((w.setCell ⟨g, 0, none⟩ (.int .i64 y0)).setCell ⟨g, 1, none⟩ (.int .i64 y1)).setCell ⟨g, 2, none⟩ (.int .i64 y2)).setCell ⟨g, 3, none⟩ (.int .i64 y3)).heap[g]? = some (.cells #[.int .i64 y0, .int .i64 y1, .int .i64 y2, .int .i64 y3, .int .i64 x4, .int .i64 x5, .int .i64 x6, .int .i64 x7, .int .i64 x8, .int .i64 x9] 58 (0, 0)) := blk_put h2 3 _ rfl
  have h4 : (((((w.setCell ⟨g, 0, none⟩ (.int .i64 y0)).setCell ⟨g, 1, none⟩ (.int .i64 y1)).setCell ⟨g, 2, none⟩ (.int .i64 y2)).setCell ⟨g, 3, none⟩ (.int .i64 y3)).setCell ⟨g, 4, none⟩ (.int .i64 y4)).heap[g]? = some (.cells #[.int .i64 y0, .int .i64 y1, .int .i64 y2, .int .i64 y3, .int .i64 y4, .int .i64 x5, .int .i64 x6, .int .i64 x7, .int .i64 x8, .int .i64 x9] 58 (0, 0)) := blk_put h3 4 _ rfl
  have h5 : ((((((w.setCell ⟨g, 0, none⟩ (.int .i64 y0)).setCell ⟨g, 1, none⟩ (.int .i64 y1)).setCell ⟨g, 2, none⟩ (.int .i64 y2)).setCell ⟨g, 3, none⟩ (.int .i64 y3)).setCell ⟨g, 4, none⟩ (.int .i64 y4)).setCell ⟨g, 5, none⟩ (.int .i64 y5)).heap[g]? = some (.cells #[.int .i64 y0, .int .i64 y1, .int .i64 y2, .int .i64 y3, .int .i64 y4, .int .i64 y5, .int .i64 x6, .int .i64 x7, .int .i64 x8, .int .i64 x9] 58 (0, 0)) := blk_put h4 5 _ rfl
  have h6 : (((((((w.setCell ⟨g, 0, none⟩ (.int .i64 y0)).setCell ⟨g, 1, none⟩ (.int .i64 y1)).setCell ⟨g, 2, none⟩ (.int .i64 y2)).setCell ⟨g, 3, none⟩ (.int .i64 y3)).setCell ⟨g, 4, none⟩ (.int .i64 y4)).setCell ⟨g, 5, none⟩ (.int .i64 y5)).setCell ⟨g, 6, none⟩ (.int .i64 y6)).heap[g]? = some (.cells #[.int .i64 y0, .int .i64 y1, .int .i64 y2, .int .i64 y3, .int .i64 y4, .int .i64 y5, .int .i64 y6, .int .i64 x7, .int .i64 x8, .int .i64 x9] 58 (0, 0)) := blk_put h5 6 _ rfl
  have h7 : ((((((((w.setCell ⟨g, 0, none⟩ (.int .i64 y0)).setCell ⟨g, 1, none⟩ (.int .i64 y1)).setCell ⟨g, 2, none⟩ (.int .i64 y2)).setCell ⟨g, 3, none⟩ (.int .i64 y3)).setCell ⟨g, 4, none⟩ (.int .i64 y4)).setCell ⟨g, 5, none⟩ (.int .i64 y5)).setCell ⟨g, 6, none⟩ (.int .i64 y6)).setCell ⟨g, 7, none⟩ (.int .i64 y7)).heap[g]? = some (.cells #[.int .i64 y0, .int .i64 y1, .int .i64 y2, .int .i64 y3, .int .i64 y4, .int .i64 y5, .int .i64 y6, .int .i64 y7, .int .i64 x8, .int .i64 x9] 58 (0, 0)) := blk_put h6 7 _ rfl
  have h8 : (((((((((w.setCell ⟨g, 0, none⟩ (.int .i64 y0)).setCell ⟨g, 1, none⟩ (.int .i64 y1)).setCell ⟨g, 2, none⟩ (.int .i64 y2)).setCell ⟨g, 3, none⟩ (.int .i64 y3)).setCell ⟨g, 4, none⟩ (.int .i64 y4)).setCell ⟨g, 5, none⟩ (.int .i64 y5)).setCell ⟨g, 6, none⟩ (.int .i64 y6)).setCell ⟨g, 7, none⟩ (.int .i64 y7)).setCell ⟨g, 8, none⟩ (.int .i64 y8)).heap[g]? = some (.cells #[.int .i64 y0, .int .i64 y1, .int .i64 y2, .int .i64 y3, .int .i64 y4, .int .i64 y5, .int .i64 y6, .int .i64 y7, .int .i64 y8, .int .i64 x9] 58 (0, 0)) := blk_put h7 8 _ rfl
  have h9 : ((((((((((w.setCell ⟨g, 0, none⟩ (.int .i64 y0)).setCell ⟨g, 1, none⟩ (.int .i64 y1)).setCell ⟨g, 2, none⟩ (.int .i64 y2)).setCell ⟨g, 3, none⟩ (.int .i64 y3)).setCell ⟨g, 4, none⟩ (.int .i64 y4)).setCell ⟨g, 5, none⟩ (.int .i64 y5)).setCell ⟨g, 6, none⟩ (.int .i64 y6)).setCell ⟨g, 7, none⟩ (.int .i64 y7)).setCell ⟨g, 8, none⟩ (.int .i64 y8)).setCell ⟨g, 9, none⟩ (.int .i64 y9)).heap[g]? = some (.cells #[.int .i64 y0, .int .i64 y1, .int .i64 y2, .int .i64 y3, .int .i64 y4, .int .i64 y5, .int .i64 y6, .int .i64 y7, .int .i64 y8, .int .i64 y9] 58 (0, 0)) := blk_put h8 9 _ rfl
  exact h9
theorem or_far {w : World} {g g' : Nat} {t : TypeId} {cs : Array Value} (h : w.heap[g']? = some (.cells cs t (0, 0))) (hne : g' ≠ g) (y0 y1 y2 y3 y4 y5 y6 y7 y8 y9 : Int) : ((((((((((w.setCell ⟨g, 0, none⟩ (.int .i64 y0)).setCell ⟨g, 1, none⟩ (.int .i64 y1)).setCell ⟨g, 2, none⟩ (.int .i64 y2)).setCell ⟨g, 3, none⟩ (.int .i64 y3)).setCell ⟨g, 4, none⟩ (.int .i64 y4)).setCell ⟨g, 5, none⟩ (.int .i64 y5)).setCell ⟨g, 6, none⟩ (.int .i64 y6)).setCell ⟨g, 7, none⟩ (.int .i64 y7)).setCell ⟨g, 8, none⟩ (.int .i64 y8)).setCell ⟨g, 9, none⟩ (.int .i64 y9)).heap[g']? = some (.cells cs t (0, 0)) :=
  blk_far (p := ⟨g, 9, none⟩) (blk_far (p := ⟨g, 8, none⟩) (blk_far (p := ⟨g, 7, none⟩) (blk_far (p := ⟨g, 6, none⟩) (blk_far (p := ⟨g, 5, none⟩) (blk_far (p := ⟨g, 4, none⟩) (blk_far (p := ⟨g, 3, none⟩) (blk_far (p := ⟨g, 2, none⟩) (blk_far (p := ⟨g, 1, none⟩) (blk_far (p := ⟨g, 0, none⟩) (h) hne _) hne _) hne _) hne _) hne _) hne _) hne _) hne _) hne _) hne _
theorem or_S {w : World} {g base : Nat} {v : Value} {xs : List (List Int)} {ok : Nat → Prop} (h : Kd.S (Kd.slice 3 (Kd.int .i64)) 22 w base (fun k => ok k ∧ k ≠ g) v xs) (y0 y1 y2 y3 y4 y5 y6 y7 y8 y9 : Int) : Kd.S (Kd.slice 3 (Kd.int .i64)) 22 ((((((((((w.setCell ⟨g, 0, none⟩ (.int .i64 y0)).setCell ⟨g, 1, none⟩ (.int .i64 y1)).setCell ⟨g, 2, none⟩ (.int .i64 y2)).setCell ⟨g, 3, none⟩ (.int .i64 y3)).setCell ⟨g, 4, none⟩ (.int .i64 y4)).setCell ⟨g, 5, none⟩ (.int .i64 y5)).setCell ⟨g, 6, none⟩ (.int .i64 y6)).setCell ⟨g, 7, none⟩ (.int .i64 y7)).setCell ⟨g, 8, none⟩ (.int .i64 y8)).setCell ⟨g, 9, none⟩ (.int .i64 y9)) base (fun _ => True) v xs :=
  Kd.S_mono (Kd.S_far (p := ⟨g, 9, none⟩) (Kd.S_far (p := ⟨g, 8, none⟩) (Kd.S_far (p := ⟨g, 7, none⟩) (Kd.S_far (p := ⟨g, 6, none⟩) (Kd.S_far (p := ⟨g, 5, none⟩) (Kd.S_far (p := ⟨g, 4, none⟩) (Kd.S_far (p := ⟨g, 3, none⟩) (Kd.S_far (p := ⟨g, 2, none⟩) (Kd.S_far (p := ⟨g, 1, none⟩) (Kd.S_far (p := ⟨g, 0, none⟩) (h) (fun _ hk => hk.2) _) (fun _ hk => hk.2) _) (fun _ hk => hk.2) _) (fun _ hk => hk.2) _) (fun _ hk => hk.2) _) (fun _ hk => hk.2) _) (fun _ hk => hk.2) _) (fun _ hk => hk.2) _) (fun _ hk => hk.2) _) (fun _ hk => hk.2) _) (fun _ _ => trivial)
theorem or_below {B : Nat} {w0 w : World} {g : Nat} (h : Below B w0 w) (hg : B ≤ g) (y0 y1 y2 y3 y4 y5 y6 y7 y8 y9 : Int) : Below B w0 ((((((((((w.setCell ⟨g, 0, none⟩ (.int .i64 y0)).setCell ⟨g, 1, none⟩ (.int .i64 y1)).setCell ⟨g, 2, none⟩ (.int .i64 y2)).setCell ⟨g, 3, none⟩ (.int .i64 y3)).setCell ⟨g, 4, none⟩ (.int .i64 y4)).setCell ⟨g, 5, none⟩ (.int .i64 y5)).setCell ⟨g, 6, none⟩ (.int .i64 y6)).setCell ⟨g, 7, none⟩ (.int .i64 y7)).setCell ⟨g, 8, none⟩ (.int .i64 y8)).setCell ⟨g, 9, none⟩ (.int .i64 y9)) :=
  Below.setCell (p := ⟨g, 9, none⟩) (Below.setCell (p := ⟨g, 8, none⟩) (Below.setCell (p := ⟨g, 7, none⟩) (Below.setCell (p := ⟨g, 6, none⟩) (Below.setCell (p := ⟨g, 5, none⟩) (Below.setCell (p := ⟨g, 4, none⟩) (Below.setCell (p := ⟨g, 3, none⟩) (Below.setCell (p := ⟨g, 2, none⟩) (Below.setCell (p := ⟨g, 1, none⟩) (Below.setCell (p := ⟨g, 0, none⟩) (h) hg _) hg _) hg _) hg _) hg _) hg _) hg _) hg _) hg _) hg _
def orbI_T9 : Bool × List (List Nat × List Nat) := (true, [([], []), ([], []), ([], []), ([2], [2]), ([1, 3, 3], [1, 3]), ([4], [4]), ([0, 5, 4], [0, 5]), ([6, 6, 0, 1, 2, 3, 4, 5, 6], [0, 6])])
def orbI_B9 : List Nat := [0, 0, 0, 4, 14, 30, 63, 127]
theorem orbI_tab9 : rtab .any (opsOf Try.f47 9) = orbI_T9 := by kernel_rfl
theorem orbI_bits9 : waitsOk orbI_T9.2 orbI_B9 = true := by kernel_rfl
attribute [local go_sem high] eqA58
set_option maxHeartbeats 8000000 in
set_option maxRecDepth 100000 in
theorem impl_PromotionOrbit.calls (k : Nat) (A0_0 : Option Addr) (c0_0 : Nat) (l0_0 : List Int) (A1 : Option Addr) (c1 : Nat) (l1 : List Int) (r1 : List (List Int)) (r2 : Bool) (w : World) (hr0_0 : Kd.C (Kd.int .i64) w A0_0 l0_0.length l0_0) (hc0_0 : l0_0.length ≤ c0_0) (hr1 : Kd.C (Kd.int .i64) w A1 l1.length l1) (hc1 : l1.length ≤ c1) (h : impl_PromotionOrbit.f k l0_0 l1 = some (r1, r2)) :
    Calls Try.prog 47 #[.agg #[.slice A0_0 l0_0.length c0_0], .slice A1 l1.length c1] w fun e w' => ∃ v0_ : Value, e = .returned (.tuple #[v0_, .bool r2]) ∧ Kd.S (Kd.slice 3 (Kd.int .i64)) 22 w' w.heap.size (fun _ => True) v0_ r1 ∧ Below w.heap.size w w' := by
  have hu30 := Try.underlying28
  have hu58 := Try.underlying58
  unfold impl_PromotionOrbit.f at h
  obtain ⟨b, hb, h⟩ := Option.bind_eq_some_iff.1 h
  have HR0 := Aside0.mk hr0_0
  have HC0 := Aside0.mk hc0_0
  have HR1 := Aside0.mk hr1
  have HC1 := Aside0.mk hc1
  have HLI := Aside0.mk hb
  have HP0 : Aside0 ((w.alloc (.cells #[.slice A0_0 l0_0.length c0_0] 28 (0, 0))).heap[w.heap.size]? = some (.cells #[.slice A0_0 l0_0.length c0_0] 28 (0, 0))) := ⟨blk_new w _⟩
  have HB0 : Aside0 (Below w.heap.size w (w.alloc (.cells #[.slice A0_0 l0_0.length c0_0] 28 (0, 0)))) := ⟨below_alloc (Below.refl w.heap.size w) _⟩
  clear hr0_0 hc0_0 hr1 hc1 hb
  cases b with
  | false =>
    obtain ⟨rfl, rfl⟩ : [] = r1 ∧ false = r2 := by simpa using h
    clear h
    go_enter Try.func47, Try.ntmps47
    go_wp2_with (go_at_call 56; (with_reducible refine (impl_isLinear.calls k A0_0 c0_0 l0_0 A1 c1 l1 false _ (Kd.C_below HR0.out HB0.out) HC0.out (Kd.C_below HR1.out HB0.out) HC1.out HLI.out).mono ?_); rintro e w1 ⟨rfl, hb1⟩; have HB1 := Aside0.mk (HB0.out.trans (hb1.mono HB0.out.size)); clear hb1)
    refine bodyPost_ret (results_tmp2 rfl _ _ _) rfl ?_
    exact ⟨_, rfl, Kd.S_nil _ _ _ _ _, HB1.out⟩
  | true =>
    have h := (if_pos rfl).symm.trans h
    obtain ⟨t, hline, hrun⟩ := Option.bind_eq_some_iff.1 h
    obtain ⟨f0, f1, f2, f3, f4, f5, f6, f7, f8, f9⟩ := t
    have HL := Aside0.mk hline
    have HRUN := Aside0.mk hrun
    clear h hline hrun
    go_enter Try.func47, Try.ntmps47
    go_wp2_with (first
      | (go_at_call 56; (with_reducible refine (impl_isLinear.calls k A0_0 c0_0 l0_0 A1 c1 l1 true _ (Kd.C_below HR0.out HB0.out) HC0.out (Kd.C_below HR1.out HB0.out) HC1.out HLI.out).mono ?_); rintro e WA ⟨rfl, hb1⟩; have HB1 := Aside0.mk (HB0.out.trans (hb1.mono HB0.out.size)); have HP1 := Aside0.mk (blk_below HP0.out hb1); clear hb1 h)
      | ((with_reducible refine gate_dst (N := 13) rfl ?_); refine Kd.S_lits (Kd.slice 3 (Kd.int .i64)) (w0 := WA) WA.heap.size 22 ?hg (N := 13) ?hd (xs := []) (inner := []) (ok := fun _ => True) (fun _ _ => False) ?hr ?hl ?hp ?ha (fun _ _ _ => trivial) trivial (Below.refl _ _) (Nat.le_refl _) (by simp) ?_; (case hd => rfl); (case hg => rfl); (case hr => first | (go_simp; done) | (go_simp; rfl)); (case hl => rfl); (case hp => intro j x hj; cases hj); (case ha => rintro i j k ⟨⟩); intro v3 w3 hs3 hb3 hg3 hn3; have HS3 := Aside0.mk hs3; have HB3 := Aside0.mk hb3; clear hs3 hb3 hg3 hn3)
      | (go_at_call 60; (with_reducible refine (impl_lineOf.calls A1 c1 l1 f0 f1 f2 f3 f4 f5 f6 f7 f8 f9 _ (Kd.C_below HR1.out (HB1.out.trans (HB3.out.mono HB1.out.size))) HC1.out HL.out).mono ?_); rintro e w4 ⟨rfl, hb4⟩; have HB4 := Aside0.mk (below_step HB3.out hb4); have HS4 := Aside0.mk (Kd.S_below HS3.out hb4); clear hb4))
    obtain ⟨g1, hg1⟩ : ∃ x, x = w4.heap.size := ⟨_, rfl⟩
    have HG1 : Aside0 (w.heap.size < g1) := ⟨by rw [hg1]; exact Nat.lt_of_lt_of_le (blk_lt HP1.out) HB4.out.size⟩
    have HBA : Aside0 (Below w.heap.size w w4) := ⟨HB1.out.trans (HB4.out.mono HB1.out.size)⟩
    have HPA : Aside0 (w4.heap[w.heap.size]? = some (.cells #[.slice A0_0 l0_0.length c0_0] 28 (0, 0))) := ⟨blk_below HP1.out HB4.out⟩
    have HSA := Aside0.mk (Kd.S_lower HS4.out HB1.out.size)
    have HF1 : Aside0 ((w4.alloc (.cells #[.int .i64 f0, .int .i64 f1, .int .i64 f2, .int .i64 f3, .int .i64 f4, .int .i64 f5, .int .i64 f6, .int .i64 f7, .int .i64 f8, .int .i64 f9] 58 (0, 0))).heap[g1]? = some (.cells #[.int .i64 f0, .int .i64 f1, .int .i64 f2, .int .i64 f3, .int .i64 f4, .int .i64 f5, .int .i64 f6, .int .i64 f7, .int .i64 f8, .int .i64 f9] 58 (0, 0))) := ⟨by rw [hg1]; exact blk_new w4 _⟩
    have HF2 : Aside0 (((w4.alloc (.cells #[.int .i64 f0, .int .i64 f1, .int .i64 f2, .int .i64 f3, .int .i64 f4, .int .i64 f5, .int .i64 f6, .int .i64 f7, .int .i64 f8, .int .i64 f9] 58 (0, 0))).alloc (.cells #[.int .i64 f0, .int .i64 f1, .int .i64 f2, .int .i64 f3, .int .i64 f4, .int .i64 f5, .int .i64 f6, .int .i64 f7, .int .i64 f8, .int .i64 f9] 58 (0, 0))).heap[g1 + 1]? = some (.cells #[.int .i64 f0, .int .i64 f1, .int .i64 f2, .int .i64 f3, .int .i64 f4, .int .i64 f5, .int .i64 f6, .int .i64 f7, .int .i64 f8, .int .i64 f9] 58 (0, 0))) := ⟨by have := blk_new (w4.alloc (.cells #[.int .i64 f0, .int .i64 f1, .int .i64 f2, .int .i64 f3, .int .i64 f4, .int .i64 f5, .int .i64 f6, .int .i64 f7, .int .i64 f8, .int .i64 f9] 58 (0, 0))) (.cells #[.int .i64 f0, .int .i64 f1, .int .i64 f2, .int .i64 f3, .int .i64 f4, .int .i64 f5, .int .i64 f6, .int .i64 f7, .int .i64 f8, .int .i64 f9] 58 (0, 0)); rw [show (w4.alloc (.cells #[.int .i64 f0, .int .i64 f1, .int .i64 f2, .int .i64 f3, .int .i64 f4, .int .i64 f5, .int .i64 f6, .int .i64 f7, .int .i64 f8, .int .i64 f9] 58 (0, 0))).heap.size = g1 + 1 by rw [hg1]; simp] at this; exact this⟩
    rw [← hg1]
    clear hg1
    go_loopg [6, 8] k (fun kq v6 v8 w' => ∃ (rows : List (List Int)) (x0 x1 x2 x3 x4 x5 x6 x7 x8 x9 : Int) (g2 : Nat), v8 = .pointer (some ⟨g2, 0, none⟩) ∧ Aside0 (orbI k l0_0 f0 f1 f2 f3 f4 f5 f6 f7 f8 f9 kq rows (x0, x1, x2, x3, x4, x5, x6, x7, x8, x9) = some (r1, r2)) ∧ Aside0 (Kd.S (Kd.slice 3 (Kd.int .i64)) 22 w' w.heap.size (fun _ => True) v6 rows) ∧ Aside0 (w'.heap[w.heap.size]? = some (.cells #[.slice A0_0 l0_0.length c0_0] 28 (0, 0))) ∧ Aside0 (w'.heap[g1]? = some (.cells #[.int .i64 f0, .int .i64 f1, .int .i64 f2, .int .i64 f3, .int .i64 f4, .int .i64 f5, .int .i64 f6, .int .i64 f7, .int .i64 f8, .int .i64 f9] 58 (0, 0))) ∧ Aside0 (w'.heap[g2]? = some (.cells #[.int .i64 x0, .int .i64 x1, .int .i64 x2, .int .i64 x3, .int .i64 x4, .int .i64 x5, .int .i64 x6, .int .i64 x7, .int .i64 x8, .int .i64 x9] 58 (0, 0))) ∧ Aside0 (g2 ≠ w.heap.size ∧ g2 ≠ g1 ∧ w.heap.size ≤ g2) ∧ Aside0 (Below w.heap.size w w'))
    case atStart => exact ⟨[], f0, f1, f2, f3, f4, f5, f6, f7, f8, f9, g1 + 1, rfl, HRUN, ⟨Kd.S_alloc (Kd.S_alloc HSA.out _) _⟩, ⟨blk_alloc (blk_alloc HPA.out _) _⟩, ⟨blk_alloc HF1.out _⟩, HF2, ⟨by have := HG1.out; omega, by omega, by have := HG1.out; omega⟩, ⟨below_alloc (below_alloc HBA.out _) _⟩⟩
    case round =>
      clear HRUN HS3 HS4 HB3 HB4 HBA HPA HSA HF1 HF2
      obtain ⟨rows, x0, x1, x2, x3, x4, x5, x6, x7, x8, x9, g2, rfl, HR, HS, BKP, BK1, BK2, HG2, HB⟩ := hrel
      obtain ⟨Ao, co, e6⟩ := Kd.R_slice (Kd.S_R HS.out)
      subst e6
      have GEP : Aside0 (w.heap.size ≤ w.heap.size) := ⟨Nat.le_refl _⟩
      have GE1 : Aside0 (w.heap.size ≤ g1) := ⟨by have := HG1.out; omega⟩
      have GE2 : Aside0 (w.heap.size ≤ g2) := ⟨HG2.out.2.2⟩
      have hca0 : wr.cell? ⟨g1, 0, none⟩ = some (.int .i64 f0) := (blk_cell BK1.out 0).trans rfl
      have hcb0 : wr.cell? ⟨g2, 0, none⟩ = some (.int .i64 x0) := (blk_cell BK2.out 0).trans rfl
      have hca1 : wr.cell? ⟨g1, 1, none⟩ = some (.int .i64 f1) := (blk_cell BK1.out 1).trans rfl
      have hcb1 : wr.cell? ⟨g2, 1, none⟩ = some (.int .i64 x1) := (blk_cell BK2.out 1).trans rfl
      have hca2 : wr.cell? ⟨g1, 2, none⟩ = some (.int .i64 f2) := (blk_cell BK1.out 2).trans rfl
      have hcb2 : wr.cell? ⟨g2, 2, none⟩ = some (.int .i64 x2) := (blk_cell BK2.out 2).trans rfl
      have hca3 : wr.cell? ⟨g1, 3, none⟩ = some (.int .i64 f3) := (blk_cell BK1.out 3).trans rfl
      have hcb3 : wr.cell? ⟨g2, 3, none⟩ = some (.int .i64 x3) := (blk_cell BK2.out 3).trans rfl
      have hca4 : wr.cell? ⟨g1, 4, none⟩ = some (.int .i64 f4) := (blk_cell BK1.out 4).trans rfl
      have hcb4 : wr.cell? ⟨g2, 4, none⟩ = some (.int .i64 x4) := (blk_cell BK2.out 4).trans rfl
      have hca5 : wr.cell? ⟨g1, 5, none⟩ = some (.int .i64 f5) := (blk_cell BK1.out 5).trans rfl
      have hcb5 : wr.cell? ⟨g2, 5, none⟩ = some (.int .i64 x5) := (blk_cell BK2.out 5).trans rfl
      have hca6 : wr.cell? ⟨g1, 6, none⟩ = some (.int .i64 f6) := (blk_cell BK1.out 6).trans rfl
      have hcb6 : wr.cell? ⟨g2, 6, none⟩ = some (.int .i64 x6) := (blk_cell BK2.out 6).trans rfl
      have hca7 : wr.cell? ⟨g1, 7, none⟩ = some (.int .i64 f7) := (blk_cell BK1.out 7).trans rfl
      have hcb7 : wr.cell? ⟨g2, 7, none⟩ = some (.int .i64 x7) := (blk_cell BK2.out 7).trans rfl
      have hca8 : wr.cell? ⟨g1, 8, none⟩ = some (.int .i64 f8) := (blk_cell BK1.out 8).trans rfl
      have hcb8 : wr.cell? ⟨g2, 8, none⟩ = some (.int .i64 x8) := (blk_cell BK2.out 8).trans rfl
      have hca9 : wr.cell? ⟨g1, 9, none⟩ = some (.int .i64 f9) := (blk_cell BK1.out 9).trans rfl
      have hcb9 : wr.cell? ⟨g2, 9, none⟩ = some (.int .i64 x9) := (blk_cell BK2.out 9).trans rfl
      cases gk with
      | zero => exact absurd HR.out (by simp [orbI])
      | succ k1 =>
        have hR := HR.out
        unfold orbI at hR
        clear HR
        by_cases h0 : rows.length = 0
        · rw [if_neg (fun hh => hh.1 h0)] at hR
          have d0a : ((rows.length : Int) == 0) = true := beq_iff_eq.2 (by omega)
          have d0b : (rows.length == 0) = true := beq_iff_eq.2 (by omega)
          have H0 := Aside0.mk h0
          clear h0
          by_cases h500 : rows.length = 500
          · exact absurd H0.out (by omega)
          · rw [if_neg h500] at hR
            split at hR
            rotate_left
            · cases hR
            rename_i hle
            obtain ⟨n, hn, hR⟩ := Option.bind_eq_some_iff.1 hR
            obtain ⟨row, hrow, hR⟩ := Option.bind_eq_some_iff.1 hR
            obtain ⟨⟨y0, y1, y2, y3, y4, y5, y6, y7, y8, y9⟩, hpr, hR⟩ := Option.bind_eq_some_iff.1 hR
            have HN := Aside0.mk hn
            have HW := Aside0.mk hrow
            have HPR := Aside0.mk hpr
            have HRUN := Aside0.mk hR
            have HLE := Aside0.mk hle
            have d1 : ((rows.length : Int) == 500) = false := beq_eq_false_iff_ne.mpr (by omega)
            have d2 : decide ((rows.length : Int) = 500) = false := decide_eq_false (by omega)
            have d3 : (rows.length == 500) = false := beq_eq_false_iff_ne.mpr (by omega)
            clear hR hn hrow hpr hle h500
            go_wp2_with (fail)
            clear d0a d0b
            have n0_ := Aside0.mk (Kd.S_drew HS.out)
            have n1_ := Aside0.mk (blk_drew BKP.out)
            have n2_ := Aside0.mk (blk_drew BK1.out)
            have n3_ := Aside0.mk (blk_drew BK2.out)
            have n4_ := Aside0.mk (below_drew1 HB.out)
            clear hca0 hcb0
            clear hca1 hcb1
            clear hca2 hcb2
            clear hca3 hcb3
            clear hca4 hcb4
            clear hca5 hcb5
            clear hca6 hcb6
            clear hca7 hcb7
            clear hca8 hcb8
            clear hca9 hcb9
            clear HS BKP BK1 BK2 HB
            have HS := n0_
            have BKP := n1_
            have BK1 := n2_
            have BK2 := n3_
            have HB := n4_
            clear n0_ n1_ n2_ n3_ n4_
            refine start_ (n := 8) (S := fun w' => w'.cell? ⟨g2, 0, none⟩ = some (.int .i64 x0) ∧ w'.cell? ⟨g2, 1, none⟩ = some (.int .i64 x1) ∧ w'.cell? ⟨g2, 2, none⟩ = some (.int .i64 x2) ∧ w'.cell? ⟨g2, 3, none⟩ = some (.int .i64 x3) ∧ w'.cell? ⟨g2, 4, none⟩ = some (.int .i64 x4) ∧ w'.cell? ⟨g2, 5, none⟩ = some (.int .i64 x5) ∧ w'.cell? ⟨g2, 6, none⟩ = some (.int .i64 x6) ∧ w'.cell? ⟨g2, 7, none⟩ = some (.int .i64 x7) ∧ w'.cell? ⟨g2, 8, none⟩ = some (.int .i64 x8) ∧ w'.cell? ⟨g2, 9, none⟩ = some (.int .i64 x9) ∧ w'.cell? ⟨w.heap.size, 0, none⟩ = some (.slice A0_0 l0_0.length c0_0)) (ds := []) #[false, false, false, false, false, false, false, false] (by kernel_rfl) rfl rfl ⟨(blk_cell BK2.out 0).trans rfl, (blk_cell BK2.out 1).trans rfl, (blk_cell BK2.out 2).trans rfl, (blk_cell BK2.out 3).trans rfl, (blk_cell BK2.out 4).trans rfl, (blk_cell BK2.out 5).trans rfl, (blk_cell BK2.out 6).trans rfl, (blk_cell BK2.out 7).trans rfl, (blk_cell BK2.out 8).trans rfl, (blk_cell BK2.out 9).trans rfl, (blk_cell BKP.out 0).trans rfl⟩ (fun hHeld => ?_); refine with_tabW orbI_tab9 orbI_bits9 (fun HT_ HW_ => ?_)
            generalize wr.drew = w36 at HS BKP BK1 BK2 HB hHeld ⊢
            refine pure_ (i := 0) (N := some 31) (v := ?_) (a' := ?_) #[true, false, false, false, false, false, false, false] rfl rfl (any_of HT_.out (by kernel_rfl)) (fun _ _ _ h => h) (Or.inl ⟨by rfl, ?_⟩) ?_ ?_
            rotate_left
            · intro w'
              go_simp
              with_reducible rfl
            rotate_left
            · simp only [Act.put, List.setIfInBounds_toArray, List.set_cons_zero, List.set_cons_succ, i64_w, i32_w]
              rfl
            refine take_ (i := 1) (N := some 32) (v := ?_) (a' := ?_) #[true, true, false, false, false, false, false, false] rfl rfl (take_ofW HT_.out HW_.out (by kernel_rfl)) (fun _ _ _ h => h) (Or.inl ⟨by rfl, ?_⟩) hHeld ?_ ?_
            rotate_left
            · rintro w' ⟨s0, s1, s2, s3, s4, s5, s6, s7, s8, s9, s10⟩
              go_simp
              with_reducible rfl
            rotate_left
            · simp only [Act.put, List.setIfInBounds_toArray, List.set_cons_zero, List.set_cons_succ, i64_w, i32_w]
              rfl
            refine take_ (i := 2) (N := some 33) (v := ?_) (a' := ?_) #[true, true, true, false, false, false, false, false] rfl rfl (take_ofW HT_.out HW_.out (by kernel_rfl)) (fun _ _ _ h => h) (Or.inl ⟨by rfl, ?_⟩) hHeld ?_ ?_
            rotate_left
            · rintro w' ⟨s0, s1, s2, s3, s4, s5, s6, s7, s8, s9, s10⟩
              go_simp
              with_reducible rfl
            rotate_left
            · simp only [Act.put, List.setIfInBounds_toArray, List.set_cons_zero, List.set_cons_succ, i64_w, i32_w]
              rfl
            refine one_ (i := 3) (N := some 34) #[true, true, true, true, false, false, false, false] rfl rfl (one_of HT_.out (by kernel_rfl)) (by decide) (fun K hK => ?_)
            refine goes_ Try.func58 (by kernel_rfl) rfl #[.agg #[.slice A0_0 l0_0.length c0_0]] (by rfl) rfl rfl (by (try simp only [List.map_toArray, List.map_cons, List.map_nil]); first | done | rfl | (simp only [List.length_drop, List.length_take]; rfl)) ?_
            with_reducible refine (impl_Poset_n.calls _ _ l0_0 n _ ?side1 ?side2 HN.out).mono ?_
            (case side1 => repeat (first | exact (Kd.C_below HR0.out HB.out) | (with_reducible refine Kd.C_alloc ?_ _) | (with_reducible refine Kd.C_drewN ?_ _) | (with_reducible refine Kd.C_drew ?_)))
            (case side2 => exact HC0.out)
            rintro e w37 ⟨rfl, hb⟩
            refine ⟨_, rfl, ?_⟩
            have n0_ := Aside0.mk (Kd.S_below (by (with_reducible repeat (first | apply Kd.S_alloc | apply Kd.S_drewN | apply Kd.S_drew)); exact HS.out) hb)
            have n1_ := Aside0.mk (blk_below (g := w.heap.size) (o := .cells #[.slice A0_0 l0_0.length c0_0] 28 (0, 0)) (by (with_reducible repeat (first | refine blk_drewN ?_ _ | refine blk_drew ?_ | refine blk_alloc ?_ _)); exact BKP.out) hb)
            have n2_ := Aside0.mk (blk_below (g := g1) (o := .cells #[.int .i64 f0, .int .i64 f1, .int .i64 f2, .int .i64 f3, .int .i64 f4, .int .i64 f5, .int .i64 f6, .int .i64 f7, .int .i64 f8, .int .i64 f9] 58 (0, 0)) (by (with_reducible repeat (first | refine blk_drewN ?_ _ | refine blk_drew ?_ | refine blk_alloc ?_ _)); exact BK1.out) hb)
            have n3_ := Aside0.mk (blk_below (g := g2) (o := .cells #[.int .i64 x0, .int .i64 x1, .int .i64 x2, .int .i64 x3, .int .i64 x4, .int .i64 x5, .int .i64 x6, .int .i64 x7, .int .i64 x8, .int .i64 x9] 58 (0, 0)) (by (with_reducible repeat (first | refine blk_drewN ?_ _ | refine blk_drew ?_ | refine blk_alloc ?_ _)); exact BK2.out) hb)
            have n4_ := Aside0.mk (below_step (by repeat (first | (with_reducible first | exact HB.out | apply below_alloc | apply pw_below_drewN | apply below_drew1 | refine below_set ?_ GEP.out | refine below_set ?_ GE1.out | refine below_set ?_ GE2.out) | exact HB.out)) hb)
            clear HS
            clear BKP
            clear BK1
            clear BK2
            clear HB
            have HS := n0_
            have BKP := n1_
            have BK1 := n2_
            have BK2 := n3_
            have HB := n4_
            clear n0_ n1_ n2_ n3_ n4_
            (try clear hb)
            (try clear hb2)
            (try clear hk)
            (try clear hi)
            refine hK.out _ _ ⟨(blk_cell BK2.out 0).trans rfl, (blk_cell BK2.out 1).trans rfl, (blk_cell BK2.out 2).trans rfl, (blk_cell BK2.out 3).trans rfl, (blk_cell BK2.out 4).trans rfl, (blk_cell BK2.out 5).trans rfl, (blk_cell BK2.out 6).trans rfl, (blk_cell BK2.out 7).trans rfl, (blk_cell BK2.out 8).trans rfl, (blk_cell BK2.out 9).trans rfl, (blk_cell BKP.out 0).trans rfl⟩ (fun hHeld => ?_)
            clear hK K
            refine norm_ (a' := ?_) ?_ ?_
            rotate_left
            · show Act.put _ (some 34) _ = _
              simp only [Act.put, List.setIfInBounds_toArray, List.set_cons_zero, List.set_cons_succ, i64_w, i32_w]
              rfl
            refine one_ (i := 4) (N := some 35) #[true, true, true, true, true, false, false, false] rfl rfl (one_of HT_.out (by kernel_rfl)) (by decide) (fun K hK => ?_)
            refine goes_ Try.func61 (by kernel_rfl) rfl #[.agg #[.int .i64 x0, .int .i64 x1, .int .i64 x2, .int .i64 x3, .int .i64 x4, .int .i64 x5, .int .i64 x6, .int .i64 x7, .int .i64 x8, .int .i64 x9], .int .i64 n] (by rfl) rfl rfl (by (try simp only [List.map_toArray, List.map_cons, List.map_nil]); first | done | rfl | (simp only [List.length_drop, List.length_take]; rfl)) ?_
            with_reducible refine (impl_line_list.calls x0 x1 x2 x3 x4 x5 x6 x7 x8 x9 n row _ HW.out).mono ?_
            rintro e w38 ⟨v917, rfl, ho0, hb⟩
            refine ⟨_, rfl, ?_⟩
            have n0_ := Aside0.mk (Kd.S_elder' (by (with_reducible repeat (first | apply Kd.S_alloc | apply Kd.S_drewN | apply Kd.S_drew)); exact HS.out) (Kd.R_base ho0) hb)
            have n1_ := Aside0.mk (Kd.R_lower ho0 (below_size (by repeat (first | (with_reducible first | exact HB.out | apply below_alloc | apply pw_below_drewN | apply below_drew1 | refine below_set ?_ GEP.out | refine below_set ?_ GE1.out | refine below_set ?_ GE2.out) | exact HB.out))))
            have n2_ := Aside0.mk (blk_below (g := w.heap.size) (o := .cells #[.slice A0_0 l0_0.length c0_0] 28 (0, 0)) (by (with_reducible repeat (first | refine blk_drewN ?_ _ | refine blk_drew ?_ | refine blk_alloc ?_ _)); exact BKP.out) hb)
            have n3_ := Aside0.mk (blk_below (g := g1) (o := .cells #[.int .i64 f0, .int .i64 f1, .int .i64 f2, .int .i64 f3, .int .i64 f4, .int .i64 f5, .int .i64 f6, .int .i64 f7, .int .i64 f8, .int .i64 f9] 58 (0, 0)) (by (with_reducible repeat (first | refine blk_drewN ?_ _ | refine blk_drew ?_ | refine blk_alloc ?_ _)); exact BK1.out) hb)
            have n4_ := Aside0.mk (blk_below (g := g2) (o := .cells #[.int .i64 x0, .int .i64 x1, .int .i64 x2, .int .i64 x3, .int .i64 x4, .int .i64 x5, .int .i64 x6, .int .i64 x7, .int .i64 x8, .int .i64 x9] 58 (0, 0)) (by (with_reducible repeat (first | refine blk_drewN ?_ _ | refine blk_drew ?_ | refine blk_alloc ?_ _)); exact BK2.out) hb)
            have n5_ := Aside0.mk (below_step (by repeat (first | (with_reducible first | exact HB.out | apply below_alloc | apply pw_below_drewN | apply below_drew1 | refine below_set ?_ GEP.out | refine below_set ?_ GE1.out | refine below_set ?_ GE2.out) | exact HB.out)) hb)
            clear HS
            clear BKP
            clear BK1
            clear BK2
            clear HB
            have HS := n0_
            have HO918 := n1_
            have BKP := n2_
            have BK1 := n3_
            have BK2 := n4_
            have HB := n5_
            clear n0_ n1_ n2_ n3_ n4_ n5_
            (try clear hb)
            (try clear hb2)
            (try clear hk)
            (try clear hi)
            (try clear ho0)
            obtain ⟨Ao40, co40, eo40⟩ := Kd.R_slice HO918.out
            (first | subst eo40 | (injection eo40 with f1_ f2_ f3_; have f4_ := f1_.symm; have f5_ := f3_.symm; clear f1_ f2_ f3_; subst f4_; subst f5_))
            refine hK.out _ _ ⟨(blk_cell BK2.out 0).trans rfl, (blk_cell BK2.out 1).trans rfl, (blk_cell BK2.out 2).trans rfl, (blk_cell BK2.out 3).trans rfl, (blk_cell BK2.out 4).trans rfl, (blk_cell BK2.out 5).trans rfl, (blk_cell BK2.out 6).trans rfl, (blk_cell BK2.out 7).trans rfl, (blk_cell BK2.out 8).trans rfl, (blk_cell BK2.out 9).trans rfl, (blk_cell BKP.out 0).trans rfl⟩ (fun hHeld => ?_)
            clear hK K
            refine norm_ (a' := ?_) ?_ ?_
            rotate_left
            · show Act.put _ (some 35) _ = _
              simp only [Act.put, List.setIfInBounds_toArray, List.set_cons_zero, List.set_cons_succ, i64_w, i32_w]
              rfl
            refine one_ (i := 5) (N := some 36) #[true, true, true, true, true, true, false, false] rfl rfl (one_of HT_.out (by kernel_rfl)) (by decide) (fun K hK => ?_)
            refine value_ (w1 := ?_) (v := ?_) (by rfl) rfl ?_ ?_
            rotate_left 2
            · go_simp
              constructor
              · rfl
              · rfl
            refine hK.out _ _ ⟨(blk_cell (blk_alloc BK2.out _) 0).trans rfl, (blk_cell (blk_alloc BK2.out _) 1).trans rfl, (blk_cell (blk_alloc BK2.out _) 2).trans rfl, (blk_cell (blk_alloc BK2.out _) 3).trans rfl, (blk_cell (blk_alloc BK2.out _) 4).trans rfl, (blk_cell (blk_alloc BK2.out _) 5).trans rfl, (blk_cell (blk_alloc BK2.out _) 6).trans rfl, (blk_cell (blk_alloc BK2.out _) 7).trans rfl, (blk_cell (blk_alloc BK2.out _) 8).trans rfl, (blk_cell (blk_alloc BK2.out _) 9).trans rfl, (blk_cell (blk_alloc BKP.out _) 0).trans rfl⟩ (fun hHeld => ?_)
            clear hK K
            refine norm_ (a' := ?_) ?_ ?_
            rotate_left
            · show Act.put _ (some 36) _ = _
              simp only [Act.put, List.setIfInBounds_toArray, List.set_cons_zero, List.set_cons_succ, i64_w, i32_w]
              rfl
            refine one_ (i := 6) (N := some 37) #[true, true, true, true, true, true, true, false] rfl rfl (one_of HT_.out (by kernel_rfl)) (by decide) (fun K hK => ?_)
            refine Kd.S_append_step (Kd.slice 3 (Kd.int .i64)) (w0 := w) w.heap.size (by rfl) (.tmp 31) (.tmp 36) 38 22 (.slice none 0 0) 24 rfl Try.underlying38 info22 rfl (by decide) (by omega) (.slice Ao rows.length co) rows row [.slice Ao40 row.length co40] (fun _ => True) (fun k_ => some k_ = (.slice Ao40 row.length co40 : Value).ownBlock) rfl rfl ?aP (fun k_ hk_ => ((Kd.R_mono (ok' := fun k_ => ((fun _ => True)) k_ ∧ some k_ ≠ (.slice Ao rows.length co : Value).ownBlock) (Kd.R_apart' (HO918.out) (Kd.S_typed HS.out) (by decide)) (fun k_ hk => ⟨trivial, hk.2⟩))).1 k_ hk_.symm) ?aF ?aO ?aB ?aS ?aL ?_
            (case aP => exact Kd.M_row (Kd.R_mono (Kd.R_tight rfl (Kd.R_mono (ok' := fun k_ => ((fun _ => True)) k_ ∧ some k_ ≠ (.slice Ao rows.length co : Value).ownBlock) (Kd.R_apart' (HO918.out) (Kd.S_typed HS.out) (by decide)) (fun k_ hk => ⟨trivial, hk.2⟩))) (fun _ h_ => h_)))
            (case aB => exact (by repeat (first | (with_reducible first | exact HB.out | apply below_alloc | apply pw_below_drewN | apply below_drew1 | refine below_set ?_ GEP.out | refine below_set ?_ GE1.out | refine below_set ?_ GE2.out) | exact HB.out)))
            (case aF => exact (fun _ _ => trivial))
            (case aO => exact (by (with_reducible repeat (first | apply Kd.S_alloc | apply Kd.S_drewN | apply Kd.S_drew)); exact Kd.S_mono HS.out (fun k_ hk => ⟨trivial, fun e_ => hk.2 e_⟩)))
            (case aS => exact (below_size (by repeat (first | (with_reducible first | exact HB.out | apply below_alloc | apply pw_below_drewN | apply below_drew1 | refine below_set ?_ GEP.out | refine below_set ?_ GE1.out | refine below_set ?_ GE2.out) | exact HB.out))))
            (case aL => have := HLE.out; omega)
            intro v920 w39 ho hb hg hat
            have n0_ := Aside0.mk (blk_grown (g := w.heap.size) (o := .cells #[.slice A0_0 l0_0.length c0_0] 28 (0, 0)) (by (with_reducible repeat (first | refine blk_drewN ?_ _ | refine blk_drew ?_ | refine blk_alloc ?_ _)); exact BKP.out) hg (Kd.S_ne HS.out BKP.out (by decide)))
            have n1_ := Aside0.mk (blk_grown (g := g1) (o := .cells #[.int .i64 f0, .int .i64 f1, .int .i64 f2, .int .i64 f3, .int .i64 f4, .int .i64 f5, .int .i64 f6, .int .i64 f7, .int .i64 f8, .int .i64 f9] 58 (0, 0)) (by (with_reducible repeat (first | refine blk_drewN ?_ _ | refine blk_drew ?_ | refine blk_alloc ?_ _)); exact BK1.out) hg (Kd.S_ne HS.out BK1.out (by decide)))
            have n2_ := Aside0.mk (blk_grown (g := g2) (o := .cells #[.int .i64 x0, .int .i64 x1, .int .i64 x2, .int .i64 x3, .int .i64 x4, .int .i64 x5, .int .i64 x6, .int .i64 x7, .int .i64 x8, .int .i64 x9] 58 (0, 0)) (by (with_reducible repeat (first | refine blk_drewN ?_ _ | refine blk_drew ?_ | refine blk_alloc ?_ _)); exact BK2.out) hg (Kd.S_ne HS.out BK2.out (by decide)))
            have n3_ := Aside0.mk (hb)
            have n4_ := Aside0.mk (ho)
            clear BKP
            clear BK1
            clear BK2
            clear HB
            clear HS
            clear HO918
            have BKP := n0_
            have BK1 := n1_
            have BK2 := n2_
            have HB := n3_
            have HO921 := n4_
            clear n0_ n1_ n2_ n3_ n4_
            clear ho hb hg hat
            refine hK.out _ _ ⟨(blk_cell BK2.out 0).trans rfl, (blk_cell BK2.out 1).trans rfl, (blk_cell BK2.out 2).trans rfl, (blk_cell BK2.out 3).trans rfl, (blk_cell BK2.out 4).trans rfl, (blk_cell BK2.out 5).trans rfl, (blk_cell BK2.out 6).trans rfl, (blk_cell BK2.out 7).trans rfl, (blk_cell BK2.out 8).trans rfl, (blk_cell BK2.out 9).trans rfl, (blk_cell BKP.out 0).trans rfl⟩ (fun hHeld => ?_)
            clear hK K
            refine norm_ (a' := ?_) ?_ ?_
            rotate_left
            · show Act.put _ (some 37) _ = _
              simp only [Act.put, List.setIfInBounds_toArray, List.set_cons_zero, List.set_cons_succ, i64_w, i32_w]
              rfl
            refine pure_ (i := 7) (N := some 6) (v := ?_) (a' := ?_) #[true, true, true, true, true, true, true, true] rfl rfl (any_of HT_.out (by kernel_rfl)) (fun _ _ _ h => h) (Or.inl ⟨by rfl, ?_⟩) ?_ ?_
            rotate_left
            · intro w'
              go_simp
              with_reducible rfl
            rotate_left
            · simp only [Act.put, List.setIfInBounds_toArray, List.set_cons_zero, List.set_cons_succ, i64_w, i32_w]
              rfl
            refine done_ (done_of HT_.out (by kernel_rfl)) ?_
            have BK3 : Aside0 ((w39.alloc (.cells #[.int .i64 x0, .int .i64 x1, .int .i64 x2, .int .i64 x3, .int .i64 x4, .int .i64 x5, .int .i64 x6, .int .i64 x7, .int .i64 x8, .int .i64 x9] 58 (0, 0))).heap[w39.heap.size]? = some (.cells #[.int .i64 x0, .int .i64 x1, .int .i64 x2, .int .i64 x3, .int .i64 x4, .int .i64 x5, .int .i64 x6, .int .i64 x7, .int .i64 x8, .int .i64 x9] 58 (0, 0))) := ⟨blk_new w39 _⟩
            have BKP3 : Aside0 ((w39.alloc (.cells #[.int .i64 x0, .int .i64 x1, .int .i64 x2, .int .i64 x3, .int .i64 x4, .int .i64 x5, .int .i64 x6, .int .i64 x7, .int .i64 x8, .int .i64 x9] 58 (0, 0))).heap[w.heap.size]? = some (.cells #[.slice A0_0 l0_0.length c0_0] 28 (0, 0))) := ⟨blk_alloc BKP.out _⟩
            have BK13 : Aside0 ((w39.alloc (.cells #[.int .i64 x0, .int .i64 x1, .int .i64 x2, .int .i64 x3, .int .i64 x4, .int .i64 x5, .int .i64 x6, .int .i64 x7, .int .i64 x8, .int .i64 x9] 58 (0, 0))).heap[g1]? = some (.cells #[.int .i64 f0, .int .i64 f1, .int .i64 f2, .int .i64 f3, .int .i64 f4, .int .i64 f5, .int .i64 f6, .int .i64 f7, .int .i64 f8, .int .i64 f9] 58 (0, 0))) := ⟨blk_alloc BK1.out _⟩
            have HB3 : Aside0 (Below w.heap.size w (w39.alloc (.cells #[.int .i64 x0, .int .i64 x1, .int .i64 x2, .int .i64 x3, .int .i64 x4, .int .i64 x5, .int .i64 x6, .int .i64 x7, .int .i64 x8, .int .i64 x9] 58 (0, 0)))) := ⟨below_alloc HB.out _⟩
            have HS3 := Aside0.mk (Kd.S_alloc HO921.out (.cells #[.int .i64 x0, .int .i64 x1, .int .i64 x2, .int .i64 x3, .int .i64 x4, .int .i64 x5, .int .i64 x6, .int .i64 x7, .int .i64 x8, .int .i64 x9] 58 (0, 0)))
            have hcl0 : w39.cell? ⟨g2, 0, none⟩ = some (.int .i64 x0) := (blk_cell BK2.out 0).trans rfl
            have hcl1 : w39.cell? ⟨g2, 1, none⟩ = some (.int .i64 x1) := (blk_cell BK2.out 1).trans rfl
            have hcl2 : w39.cell? ⟨g2, 2, none⟩ = some (.int .i64 x2) := (blk_cell BK2.out 2).trans rfl
            have hcl3 : w39.cell? ⟨g2, 3, none⟩ = some (.int .i64 x3) := (blk_cell BK2.out 3).trans rfl
            have hcl4 : w39.cell? ⟨g2, 4, none⟩ = some (.int .i64 x4) := (blk_cell BK2.out 4).trans rfl
            have hcl5 : w39.cell? ⟨g2, 5, none⟩ = some (.int .i64 x5) := (blk_cell BK2.out 5).trans rfl
            have hcl6 : w39.cell? ⟨g2, 6, none⟩ = some (.int .i64 x6) := (blk_cell BK2.out 6).trans rfl
            have hcl7 : w39.cell? ⟨g2, 7, none⟩ = some (.int .i64 x7) := (blk_cell BK2.out 7).trans rfl
            have hcl8 : w39.cell? ⟨g2, 8, none⟩ = some (.int .i64 x8) := (blk_cell BK2.out 8).trans rfl
            have hcl9 : w39.cell? ⟨g2, 9, none⟩ = some (.int .i64 x9) := (blk_cell BK2.out 9).trans rfl
            have hcp : (w39.alloc (.cells #[.int .i64 x0, .int .i64 x1, .int .i64 x2, .int .i64 x3, .int .i64 x4, .int .i64 x5, .int .i64 x6, .int .i64 x7, .int .i64 x8, .int .i64 x9] 58 (0, 0))).cell? ⟨w.heap.size, 0, none⟩ = some (.slice A0_0 l0_0.length c0_0) := (blk_cell BKP3.out 0).trans rfl
            go_wp2_with (go_at_call 85; (with_reducible refine (impl_Poset_promoted.calls k A0_0 c0_0 l0_0 x0 x1 x2 x3 x4 x5 x6 x7 x8 x9 y0 y1 y2 y3 y4 y5 y6 y7 y8 y9 _ (Kd.C_below HR0.out HB3.out) HC0.out HPR.out).mono ?_); rintro e w40 ⟨rfl, hb⟩; have BK4 := Aside0.mk (blk_below BK3.out hb); have BKP4 := Aside0.mk (blk_below BKP3.out hb); have BK14 := Aside0.mk (blk_below BK13.out hb); have HB4 := Aside0.mk (below_step HB3.out hb); have HS4 := Aside0.mk (Kd.S_below HS3.out hb); have hq0 : w40.cell? ⟨w39.heap.size, 0, none⟩ = some (.int .i64 x0) := (blk_cell BK4.out 0).trans rfl; have hf0 := blk_frozen BK4.out 0; have hq1 : w40.cell? ⟨w39.heap.size, 1, none⟩ = some (.int .i64 x1) := (blk_cell BK4.out 1).trans rfl; have hf1 := blk_frozen BK4.out 1; have hq2 : w40.cell? ⟨w39.heap.size, 2, none⟩ = some (.int .i64 x2) := (blk_cell BK4.out 2).trans rfl; have hf2 := blk_frozen BK4.out 2; have hq3 : w40.cell? ⟨w39.heap.size, 3, none⟩ = some (.int .i64 x3) := (blk_cell BK4.out 3).trans rfl; have hf3 := blk_frozen BK4.out 3; have hq4 : w40.cell? ⟨w39.heap.size, 4, none⟩ = some (.int .i64 x4) := (blk_cell BK4.out 4).trans rfl; have hf4 := blk_frozen BK4.out 4; have hq5 : w40.cell? ⟨w39.heap.size, 5, none⟩ = some (.int .i64 x5) := (blk_cell BK4.out 5).trans rfl; have hf5 := blk_frozen BK4.out 5; have hq6 : w40.cell? ⟨w39.heap.size, 6, none⟩ = some (.int .i64 x6) := (blk_cell BK4.out 6).trans rfl; have hf6 := blk_frozen BK4.out 6; have hq7 : w40.cell? ⟨w39.heap.size, 7, none⟩ = some (.int .i64 x7) := (blk_cell BK4.out 7).trans rfl; have hf7 := blk_frozen BK4.out 7; have hq8 : w40.cell? ⟨w39.heap.size, 8, none⟩ = some (.int .i64 x8) := (blk_cell BK4.out 8).trans rfl; have hf8 := blk_frozen BK4.out 8; have hq9 : w40.cell? ⟨w39.heap.size, 9, none⟩ = some (.int .i64 x9) := (blk_cell BK4.out 9).trans rfl; have hf9 := blk_frozen BK4.out 9; clear hb)
            have hG : w.heap.size ≤ w39.heap.size := HB.out.size
            have hne1 : g1 ≠ w39.heap.size := fun e_ => absurd (blk_lt BK1.out) (by omega)
            have hneP : w.heap.size ≠ w39.heap.size := fun e_ => absurd (blk_lt BKP.out) (by omega)
            go_roundg k1
            case measure => omega
            case rel => exact ⟨rows ++ [row], y0, y1, y2, y3, y4, y5, y6, y7, y8, y9, w39.heap.size, rfl, HRUN, ⟨or_S (Kd.S_types HS4.out BK4.out (by decide)) _ _ _ _ _ _ _ _ _ _⟩, ⟨or_far BKP4.out hneP _ _ _ _ _ _ _ _ _ _⟩, ⟨or_far BK14.out hne1 _ _ _ _ _ _ _ _ _ _⟩, ⟨or_put BK4.out _ _ _ _ _ _ _ _ _ _⟩, ⟨fun e_ => hneP e_.symm, fun e_ => hne1 e_.symm, hG⟩, ⟨or_below HB4.out hG _ _ _ _ _ _ _ _ _ _⟩⟩
        · have d0a : ((rows.length : Int) == 0) = false := beq_eq_false_iff_ne.mpr (by omega)
          have d0b : (rows.length == 0) = false := beq_eq_false_iff_ne.mpr (by omega)
          have d0c : (rows = []) = False := eq_false (by intro e_; exact h0 (by rw [e_]; rfl))
          by_cases hE : x0 = f0 ∧ x1 = f1 ∧ x2 = f2 ∧ x3 = f3 ∧ x4 = f4 ∧ x5 = f5 ∧ x6 = f6 ∧ x7 = f7 ∧ x8 = f8 ∧ x9 = f9
          · rw [if_pos ⟨h0, hE⟩] at hR
            obtain ⟨rfl, rfl⟩ : rows = r1 ∧ true = r2 := by simpa using hR
            have hN : (!(x0 == f0) || (!(x1 == f1) || (!(x2 == f2) || (!(x3 == f3) || (!(x4 == f4) || (!(x5 == f5) || (!(x6 == f6) || (!(x7 == f7) || (!(x8 == f8) || (!(x9 == f9))))))))))) = false := by obtain ⟨e0, e1, e2, e3, e4, e5, e6, e7, e8, e9⟩ := hE; simp [*]
            clear hR hE
            go_wp2_with (fail)
            refine bodyPost_ret (results_tmp2 rfl _ _ _) rfl ?_
            exact ⟨_, rfl, HS.out, HB.out⟩
          · rw [if_neg (fun hh => hE hh.2)] at hR
            have hN : (!(x0 == f0) || (!(x1 == f1) || (!(x2 == f2) || (!(x3 == f3) || (!(x4 == f4) || (!(x5 == f5) || (!(x6 == f6) || (!(x7 == f7) || (!(x8 == f8) || (!(x9 == f9))))))))))) = true := by cases hb_ : (!(x0 == f0) || (!(x1 == f1) || (!(x2 == f2) || (!(x3 == f3) || (!(x4 == f4) || (!(x5 == f5) || (!(x6 == f6) || (!(x7 == f7) || (!(x8 == f8) || (!(x9 == f9))))))))))) with | true => rfl | false => exact absurd (by simpa [and_assoc] using hb_) hE
            clear hE
            by_cases h500 : rows.length = 500
            · rw [if_pos h500] at hR
              obtain ⟨rfl, rfl⟩ : [] = r1 ∧ false = r2 := by simpa using hR
              have d1 : ((rows.length : Int) == 500) = true := beq_iff_eq.2 (by omega)
              have d2 : decide ((rows.length : Int) = 500) = true := decide_eq_true (by omega)
              have d3 : (rows.length == 500) = true := beq_iff_eq.2 (by omega)
              clear hR
              go_wp2_with (fail)
              refine bodyPost_ret (results_tmp2 rfl _ _ _) rfl ?_
              exact ⟨_, rfl, Kd.S_nil _ _ _ _ _, HB.out⟩
            · rw [if_neg h500] at hR
              split at hR
              rotate_left
              · cases hR
              rename_i hle
              obtain ⟨n, hn, hR⟩ := Option.bind_eq_some_iff.1 hR
              obtain ⟨row, hrow, hR⟩ := Option.bind_eq_some_iff.1 hR
              obtain ⟨⟨y0, y1, y2, y3, y4, y5, y6, y7, y8, y9⟩, hpr, hR⟩ := Option.bind_eq_some_iff.1 hR
              have HN := Aside0.mk hn
              have HW := Aside0.mk hrow
              have HPR := Aside0.mk hpr
              have HRUN := Aside0.mk hR
              have HLE := Aside0.mk hle
              have d1 : ((rows.length : Int) == 500) = false := beq_eq_false_iff_ne.mpr (by omega)
              have d2 : decide ((rows.length : Int) = 500) = false := decide_eq_false (by omega)
              have d3 : (rows.length == 500) = false := beq_eq_false_iff_ne.mpr (by omega)
              clear hR hn hrow hpr hle h500
              go_wp2_with (fail)
              clear hN d0a d0b d0c
              have n0_ := Aside0.mk (Kd.S_drew HS.out)
              have n1_ := Aside0.mk (blk_drew BKP.out)
              have n2_ := Aside0.mk (blk_drew BK1.out)
              have n3_ := Aside0.mk (blk_drew BK2.out)
              have n4_ := Aside0.mk (below_drew1 HB.out)
              clear hca0 hcb0
              clear hca1 hcb1
              clear hca2 hcb2
              clear hca3 hcb3
              clear hca4 hcb4
              clear hca5 hcb5
              clear hca6 hcb6
              clear hca7 hcb7
              clear hca8 hcb8
              clear hca9 hcb9
              clear HS BKP BK1 BK2 HB
              have HS := n0_
              have BKP := n1_
              have BK1 := n2_
              have BK2 := n3_
              have HB := n4_
              clear n0_ n1_ n2_ n3_ n4_
              refine start_ (n := 8) (S := fun w' => w'.cell? ⟨g2, 0, none⟩ = some (.int .i64 x0) ∧ w'.cell? ⟨g2, 1, none⟩ = some (.int .i64 x1) ∧ w'.cell? ⟨g2, 2, none⟩ = some (.int .i64 x2) ∧ w'.cell? ⟨g2, 3, none⟩ = some (.int .i64 x3) ∧ w'.cell? ⟨g2, 4, none⟩ = some (.int .i64 x4) ∧ w'.cell? ⟨g2, 5, none⟩ = some (.int .i64 x5) ∧ w'.cell? ⟨g2, 6, none⟩ = some (.int .i64 x6) ∧ w'.cell? ⟨g2, 7, none⟩ = some (.int .i64 x7) ∧ w'.cell? ⟨g2, 8, none⟩ = some (.int .i64 x8) ∧ w'.cell? ⟨g2, 9, none⟩ = some (.int .i64 x9) ∧ w'.cell? ⟨w.heap.size, 0, none⟩ = some (.slice A0_0 l0_0.length c0_0)) (ds := []) #[false, false, false, false, false, false, false, false] (by kernel_rfl) rfl rfl ⟨(blk_cell BK2.out 0).trans rfl, (blk_cell BK2.out 1).trans rfl, (blk_cell BK2.out 2).trans rfl, (blk_cell BK2.out 3).trans rfl, (blk_cell BK2.out 4).trans rfl, (blk_cell BK2.out 5).trans rfl, (blk_cell BK2.out 6).trans rfl, (blk_cell BK2.out 7).trans rfl, (blk_cell BK2.out 8).trans rfl, (blk_cell BK2.out 9).trans rfl, (blk_cell BKP.out 0).trans rfl⟩ (fun hHeld => ?_); refine with_tabW orbI_tab9 orbI_bits9 (fun HT_ HW_ => ?_)
              generalize wr.drew = w36 at HS BKP BK1 BK2 HB hHeld ⊢
              refine pure_ (i := 0) (N := some 31) (v := ?_) (a' := ?_) #[true, false, false, false, false, false, false, false] rfl rfl (any_of HT_.out (by kernel_rfl)) (fun _ _ _ h => h) (Or.inl ⟨by rfl, ?_⟩) ?_ ?_
              rotate_left
              · intro w'
                go_simp
                with_reducible rfl
              rotate_left
              · simp only [Act.put, List.setIfInBounds_toArray, List.set_cons_zero, List.set_cons_succ, i64_w, i32_w]
                rfl
              refine take_ (i := 1) (N := some 32) (v := ?_) (a' := ?_) #[true, true, false, false, false, false, false, false] rfl rfl (take_ofW HT_.out HW_.out (by kernel_rfl)) (fun _ _ _ h => h) (Or.inl ⟨by rfl, ?_⟩) hHeld ?_ ?_
              rotate_left
              · rintro w' ⟨s0, s1, s2, s3, s4, s5, s6, s7, s8, s9, s10⟩
                go_simp
                with_reducible rfl
              rotate_left
              · simp only [Act.put, List.setIfInBounds_toArray, List.set_cons_zero, List.set_cons_succ, i64_w, i32_w]
                rfl
              refine take_ (i := 2) (N := some 33) (v := ?_) (a' := ?_) #[true, true, true, false, false, false, false, false] rfl rfl (take_ofW HT_.out HW_.out (by kernel_rfl)) (fun _ _ _ h => h) (Or.inl ⟨by rfl, ?_⟩) hHeld ?_ ?_
              rotate_left
              · rintro w' ⟨s0, s1, s2, s3, s4, s5, s6, s7, s8, s9, s10⟩
                go_simp
                with_reducible rfl
              rotate_left
              · simp only [Act.put, List.setIfInBounds_toArray, List.set_cons_zero, List.set_cons_succ, i64_w, i32_w]
                rfl
              refine one_ (i := 3) (N := some 34) #[true, true, true, true, false, false, false, false] rfl rfl (one_of HT_.out (by kernel_rfl)) (by decide) (fun K hK => ?_)
              refine goes_ Try.func58 (by kernel_rfl) rfl #[.agg #[.slice A0_0 l0_0.length c0_0]] (by rfl) rfl rfl (by (try simp only [List.map_toArray, List.map_cons, List.map_nil]); first | done | rfl | (simp only [List.length_drop, List.length_take]; rfl)) ?_
              with_reducible refine (impl_Poset_n.calls _ _ l0_0 n _ ?side1 ?side2 HN.out).mono ?_
              (case side1 => repeat (first | exact (Kd.C_below HR0.out HB.out) | (with_reducible refine Kd.C_alloc ?_ _) | (with_reducible refine Kd.C_drewN ?_ _) | (with_reducible refine Kd.C_drew ?_)))
              (case side2 => exact HC0.out)
              rintro e w37 ⟨rfl, hb⟩
              refine ⟨_, rfl, ?_⟩
              have n0_ := Aside0.mk (Kd.S_below (by (with_reducible repeat (first | apply Kd.S_alloc | apply Kd.S_drewN | apply Kd.S_drew)); exact HS.out) hb)
              have n1_ := Aside0.mk (blk_below (g := w.heap.size) (o := .cells #[.slice A0_0 l0_0.length c0_0] 28 (0, 0)) (by (with_reducible repeat (first | refine blk_drewN ?_ _ | refine blk_drew ?_ | refine blk_alloc ?_ _)); exact BKP.out) hb)
              have n2_ := Aside0.mk (blk_below (g := g1) (o := .cells #[.int .i64 f0, .int .i64 f1, .int .i64 f2, .int .i64 f3, .int .i64 f4, .int .i64 f5, .int .i64 f6, .int .i64 f7, .int .i64 f8, .int .i64 f9] 58 (0, 0)) (by (with_reducible repeat (first | refine blk_drewN ?_ _ | refine blk_drew ?_ | refine blk_alloc ?_ _)); exact BK1.out) hb)
              have n3_ := Aside0.mk (blk_below (g := g2) (o := .cells #[.int .i64 x0, .int .i64 x1, .int .i64 x2, .int .i64 x3, .int .i64 x4, .int .i64 x5, .int .i64 x6, .int .i64 x7, .int .i64 x8, .int .i64 x9] 58 (0, 0)) (by (with_reducible repeat (first | refine blk_drewN ?_ _ | refine blk_drew ?_ | refine blk_alloc ?_ _)); exact BK2.out) hb)
              have n4_ := Aside0.mk (below_step (by repeat (first | (with_reducible first | exact HB.out | apply below_alloc | apply pw_below_drewN | apply below_drew1 | refine below_set ?_ GEP.out | refine below_set ?_ GE1.out | refine below_set ?_ GE2.out) | exact HB.out)) hb)
              clear HS
              clear BKP
              clear BK1
              clear BK2
              clear HB
              have HS := n0_
              have BKP := n1_
              have BK1 := n2_
              have BK2 := n3_
              have HB := n4_
              clear n0_ n1_ n2_ n3_ n4_
              (try clear hb)
              (try clear hb2)
              (try clear hk)
              (try clear hi)
              refine hK.out _ _ ⟨(blk_cell BK2.out 0).trans rfl, (blk_cell BK2.out 1).trans rfl, (blk_cell BK2.out 2).trans rfl, (blk_cell BK2.out 3).trans rfl, (blk_cell BK2.out 4).trans rfl, (blk_cell BK2.out 5).trans rfl, (blk_cell BK2.out 6).trans rfl, (blk_cell BK2.out 7).trans rfl, (blk_cell BK2.out 8).trans rfl, (blk_cell BK2.out 9).trans rfl, (blk_cell BKP.out 0).trans rfl⟩ (fun hHeld => ?_)
              clear hK K
              refine norm_ (a' := ?_) ?_ ?_
              rotate_left
              · show Act.put _ (some 34) _ = _
                simp only [Act.put, List.setIfInBounds_toArray, List.set_cons_zero, List.set_cons_succ, i64_w, i32_w]
                rfl
              refine one_ (i := 4) (N := some 35) #[true, true, true, true, true, false, false, false] rfl rfl (one_of HT_.out (by kernel_rfl)) (by decide) (fun K hK => ?_)
              refine goes_ Try.func61 (by kernel_rfl) rfl #[.agg #[.int .i64 x0, .int .i64 x1, .int .i64 x2, .int .i64 x3, .int .i64 x4, .int .i64 x5, .int .i64 x6, .int .i64 x7, .int .i64 x8, .int .i64 x9], .int .i64 n] (by rfl) rfl rfl (by (try simp only [List.map_toArray, List.map_cons, List.map_nil]); first | done | rfl | (simp only [List.length_drop, List.length_take]; rfl)) ?_
              with_reducible refine (impl_line_list.calls x0 x1 x2 x3 x4 x5 x6 x7 x8 x9 n row _ HW.out).mono ?_
              rintro e w38 ⟨v917, rfl, ho0, hb⟩
              refine ⟨_, rfl, ?_⟩
              have n0_ := Aside0.mk (Kd.S_elder' (by (with_reducible repeat (first | apply Kd.S_alloc | apply Kd.S_drewN | apply Kd.S_drew)); exact HS.out) (Kd.R_base ho0) hb)
              have n1_ := Aside0.mk (Kd.R_lower ho0 (below_size (by repeat (first | (with_reducible first | exact HB.out | apply below_alloc | apply pw_below_drewN | apply below_drew1 | refine below_set ?_ GEP.out | refine below_set ?_ GE1.out | refine below_set ?_ GE2.out) | exact HB.out))))
              have n2_ := Aside0.mk (blk_below (g := w.heap.size) (o := .cells #[.slice A0_0 l0_0.length c0_0] 28 (0, 0)) (by (with_reducible repeat (first | refine blk_drewN ?_ _ | refine blk_drew ?_ | refine blk_alloc ?_ _)); exact BKP.out) hb)
              have n3_ := Aside0.mk (blk_below (g := g1) (o := .cells #[.int .i64 f0, .int .i64 f1, .int .i64 f2, .int .i64 f3, .int .i64 f4, .int .i64 f5, .int .i64 f6, .int .i64 f7, .int .i64 f8, .int .i64 f9] 58 (0, 0)) (by (with_reducible repeat (first | refine blk_drewN ?_ _ | refine blk_drew ?_ | refine blk_alloc ?_ _)); exact BK1.out) hb)
              have n4_ := Aside0.mk (blk_below (g := g2) (o := .cells #[.int .i64 x0, .int .i64 x1, .int .i64 x2, .int .i64 x3, .int .i64 x4, .int .i64 x5, .int .i64 x6, .int .i64 x7, .int .i64 x8, .int .i64 x9] 58 (0, 0)) (by (with_reducible repeat (first | refine blk_drewN ?_ _ | refine blk_drew ?_ | refine blk_alloc ?_ _)); exact BK2.out) hb)
              have n5_ := Aside0.mk (below_step (by repeat (first | (with_reducible first | exact HB.out | apply below_alloc | apply pw_below_drewN | apply below_drew1 | refine below_set ?_ GEP.out | refine below_set ?_ GE1.out | refine below_set ?_ GE2.out) | exact HB.out)) hb)
              clear HS
              clear BKP
              clear BK1
              clear BK2
              clear HB
              have HS := n0_
              have HO918 := n1_
              have BKP := n2_
              have BK1 := n3_
              have BK2 := n4_
              have HB := n5_
              clear n0_ n1_ n2_ n3_ n4_ n5_
              (try clear hb)
              (try clear hb2)
              (try clear hk)
              (try clear hi)
              (try clear ho0)
              obtain ⟨Ao40, co40, eo40⟩ := Kd.R_slice HO918.out
              (first | subst eo40 | (injection eo40 with f1_ f2_ f3_; have f4_ := f1_.symm; have f5_ := f3_.symm; clear f1_ f2_ f3_; subst f4_; subst f5_))
              refine hK.out _ _ ⟨(blk_cell BK2.out 0).trans rfl, (blk_cell BK2.out 1).trans rfl, (blk_cell BK2.out 2).trans rfl, (blk_cell BK2.out 3).trans rfl, (blk_cell BK2.out 4).trans rfl, (blk_cell BK2.out 5).trans rfl, (blk_cell BK2.out 6).trans rfl, (blk_cell BK2.out 7).trans rfl, (blk_cell BK2.out 8).trans rfl, (blk_cell BK2.out 9).trans rfl, (blk_cell BKP.out 0).trans rfl⟩ (fun hHeld => ?_)
              clear hK K
              refine norm_ (a' := ?_) ?_ ?_
              rotate_left
              · show Act.put _ (some 35) _ = _
                simp only [Act.put, List.setIfInBounds_toArray, List.set_cons_zero, List.set_cons_succ, i64_w, i32_w]
                rfl
              refine one_ (i := 5) (N := some 36) #[true, true, true, true, true, true, false, false] rfl rfl (one_of HT_.out (by kernel_rfl)) (by decide) (fun K hK => ?_)
              refine value_ (w1 := ?_) (v := ?_) (by rfl) rfl ?_ ?_
              rotate_left 2
              · go_simp
                constructor
                · rfl
                · rfl
              refine hK.out _ _ ⟨(blk_cell (blk_alloc BK2.out _) 0).trans rfl, (blk_cell (blk_alloc BK2.out _) 1).trans rfl, (blk_cell (blk_alloc BK2.out _) 2).trans rfl, (blk_cell (blk_alloc BK2.out _) 3).trans rfl, (blk_cell (blk_alloc BK2.out _) 4).trans rfl, (blk_cell (blk_alloc BK2.out _) 5).trans rfl, (blk_cell (blk_alloc BK2.out _) 6).trans rfl, (blk_cell (blk_alloc BK2.out _) 7).trans rfl, (blk_cell (blk_alloc BK2.out _) 8).trans rfl, (blk_cell (blk_alloc BK2.out _) 9).trans rfl, (blk_cell (blk_alloc BKP.out _) 0).trans rfl⟩ (fun hHeld => ?_)
              clear hK K
              refine norm_ (a' := ?_) ?_ ?_
              rotate_left
              · show Act.put _ (some 36) _ = _
                simp only [Act.put, List.setIfInBounds_toArray, List.set_cons_zero, List.set_cons_succ, i64_w, i32_w]
                rfl
              refine one_ (i := 6) (N := some 37) #[true, true, true, true, true, true, true, false] rfl rfl (one_of HT_.out (by kernel_rfl)) (by decide) (fun K hK => ?_)
              refine Kd.S_append_step (Kd.slice 3 (Kd.int .i64)) (w0 := w) w.heap.size (by rfl) (.tmp 31) (.tmp 36) 38 22 (.slice none 0 0) 24 rfl Try.underlying38 info22 rfl (by decide) (by omega) (.slice Ao rows.length co) rows row [.slice Ao40 row.length co40] (fun _ => True) (fun k_ => some k_ = (.slice Ao40 row.length co40 : Value).ownBlock) rfl rfl ?aP (fun k_ hk_ => ((Kd.R_mono (ok' := fun k_ => ((fun _ => True)) k_ ∧ some k_ ≠ (.slice Ao rows.length co : Value).ownBlock) (Kd.R_apart' (HO918.out) (Kd.S_typed HS.out) (by decide)) (fun k_ hk => ⟨trivial, hk.2⟩))).1 k_ hk_.symm) ?aF ?aO ?aB ?aS ?aL ?_
              (case aP => exact Kd.M_row (Kd.R_mono (Kd.R_tight rfl (Kd.R_mono (ok' := fun k_ => ((fun _ => True)) k_ ∧ some k_ ≠ (.slice Ao rows.length co : Value).ownBlock) (Kd.R_apart' (HO918.out) (Kd.S_typed HS.out) (by decide)) (fun k_ hk => ⟨trivial, hk.2⟩))) (fun _ h_ => h_)))
              (case aB => exact (by repeat (first | (with_reducible first | exact HB.out | apply below_alloc | apply pw_below_drewN | apply below_drew1 | refine below_set ?_ GEP.out | refine below_set ?_ GE1.out | refine below_set ?_ GE2.out) | exact HB.out)))
              (case aF => exact (fun _ _ => trivial))
              (case aO => exact (by (with_reducible repeat (first | apply Kd.S_alloc | apply Kd.S_drewN | apply Kd.S_drew)); exact Kd.S_mono HS.out (fun k_ hk => ⟨trivial, fun e_ => hk.2 e_⟩)))
              (case aS => exact (below_size (by repeat (first | (with_reducible first | exact HB.out | apply below_alloc | apply pw_below_drewN | apply below_drew1 | refine below_set ?_ GEP.out | refine below_set ?_ GE1.out | refine below_set ?_ GE2.out) | exact HB.out))))
              (case aL => have := HLE.out; omega)
              intro v920 w39 ho hb hg hat
              have n0_ := Aside0.mk (blk_grown (g := w.heap.size) (o := .cells #[.slice A0_0 l0_0.length c0_0] 28 (0, 0)) (by (with_reducible repeat (first | refine blk_drewN ?_ _ | refine blk_drew ?_ | refine blk_alloc ?_ _)); exact BKP.out) hg (Kd.S_ne HS.out BKP.out (by decide)))
              have n1_ := Aside0.mk (blk_grown (g := g1) (o := .cells #[.int .i64 f0, .int .i64 f1, .int .i64 f2, .int .i64 f3, .int .i64 f4, .int .i64 f5, .int .i64 f6, .int .i64 f7, .int .i64 f8, .int .i64 f9] 58 (0, 0)) (by (with_reducible repeat (first | refine blk_drewN ?_ _ | refine blk_drew ?_ | refine blk_alloc ?_ _)); exact BK1.out) hg (Kd.S_ne HS.out BK1.out (by decide)))
              have n2_ := Aside0.mk (blk_grown (g := g2) (o := .cells #[.int .i64 x0, .int .i64 x1, .int .i64 x2, .int .i64 x3, .int .i64 x4, .int .i64 x5, .int .i64 x6, .int .i64 x7, .int .i64 x8, .int .i64 x9] 58 (0, 0)) (by (with_reducible repeat (first | refine blk_drewN ?_ _ | refine blk_drew ?_ | refine blk_alloc ?_ _)); exact BK2.out) hg (Kd.S_ne HS.out BK2.out (by decide)))
              have n3_ := Aside0.mk (hb)
              have n4_ := Aside0.mk (ho)
              clear BKP
              clear BK1
              clear BK2
              clear HB
              clear HS
              clear HO918
              have BKP := n0_
              have BK1 := n1_
              have BK2 := n2_
              have HB := n3_
              have HO921 := n4_
              clear n0_ n1_ n2_ n3_ n4_
              clear ho hb hg hat
              refine hK.out _ _ ⟨(blk_cell BK2.out 0).trans rfl, (blk_cell BK2.out 1).trans rfl, (blk_cell BK2.out 2).trans rfl, (blk_cell BK2.out 3).trans rfl, (blk_cell BK2.out 4).trans rfl, (blk_cell BK2.out 5).trans rfl, (blk_cell BK2.out 6).trans rfl, (blk_cell BK2.out 7).trans rfl, (blk_cell BK2.out 8).trans rfl, (blk_cell BK2.out 9).trans rfl, (blk_cell BKP.out 0).trans rfl⟩ (fun hHeld => ?_)
              clear hK K
              refine norm_ (a' := ?_) ?_ ?_
              rotate_left
              · show Act.put _ (some 37) _ = _
                simp only [Act.put, List.setIfInBounds_toArray, List.set_cons_zero, List.set_cons_succ, i64_w, i32_w]
                rfl
              refine pure_ (i := 7) (N := some 6) (v := ?_) (a' := ?_) #[true, true, true, true, true, true, true, true] rfl rfl (any_of HT_.out (by kernel_rfl)) (fun _ _ _ h => h) (Or.inl ⟨by rfl, ?_⟩) ?_ ?_
              rotate_left
              · intro w'
                go_simp
                with_reducible rfl
              rotate_left
              · simp only [Act.put, List.setIfInBounds_toArray, List.set_cons_zero, List.set_cons_succ, i64_w, i32_w]
                rfl
              refine done_ (done_of HT_.out (by kernel_rfl)) ?_
              have BK3 : Aside0 ((w39.alloc (.cells #[.int .i64 x0, .int .i64 x1, .int .i64 x2, .int .i64 x3, .int .i64 x4, .int .i64 x5, .int .i64 x6, .int .i64 x7, .int .i64 x8, .int .i64 x9] 58 (0, 0))).heap[w39.heap.size]? = some (.cells #[.int .i64 x0, .int .i64 x1, .int .i64 x2, .int .i64 x3, .int .i64 x4, .int .i64 x5, .int .i64 x6, .int .i64 x7, .int .i64 x8, .int .i64 x9] 58 (0, 0))) := ⟨blk_new w39 _⟩
              have BKP3 : Aside0 ((w39.alloc (.cells #[.int .i64 x0, .int .i64 x1, .int .i64 x2, .int .i64 x3, .int .i64 x4, .int .i64 x5, .int .i64 x6, .int .i64 x7, .int .i64 x8, .int .i64 x9] 58 (0, 0))).heap[w.heap.size]? = some (.cells #[.slice A0_0 l0_0.length c0_0] 28 (0, 0))) := ⟨blk_alloc BKP.out _⟩
              have BK13 : Aside0 ((w39.alloc (.cells #[.int .i64 x0, .int .i64 x1, .int .i64 x2, .int .i64 x3, .int .i64 x4, .int .i64 x5, .int .i64 x6, .int .i64 x7, .int .i64 x8, .int .i64 x9] 58 (0, 0))).heap[g1]? = some (.cells #[.int .i64 f0, .int .i64 f1, .int .i64 f2, .int .i64 f3, .int .i64 f4, .int .i64 f5, .int .i64 f6, .int .i64 f7, .int .i64 f8, .int .i64 f9] 58 (0, 0))) := ⟨blk_alloc BK1.out _⟩
              have HB3 : Aside0 (Below w.heap.size w (w39.alloc (.cells #[.int .i64 x0, .int .i64 x1, .int .i64 x2, .int .i64 x3, .int .i64 x4, .int .i64 x5, .int .i64 x6, .int .i64 x7, .int .i64 x8, .int .i64 x9] 58 (0, 0)))) := ⟨below_alloc HB.out _⟩
              have HS3 := Aside0.mk (Kd.S_alloc HO921.out (.cells #[.int .i64 x0, .int .i64 x1, .int .i64 x2, .int .i64 x3, .int .i64 x4, .int .i64 x5, .int .i64 x6, .int .i64 x7, .int .i64 x8, .int .i64 x9] 58 (0, 0)))
              have hcl0 : w39.cell? ⟨g2, 0, none⟩ = some (.int .i64 x0) := (blk_cell BK2.out 0).trans rfl
              have hcl1 : w39.cell? ⟨g2, 1, none⟩ = some (.int .i64 x1) := (blk_cell BK2.out 1).trans rfl
              have hcl2 : w39.cell? ⟨g2, 2, none⟩ = some (.int .i64 x2) := (blk_cell BK2.out 2).trans rfl
              have hcl3 : w39.cell? ⟨g2, 3, none⟩ = some (.int .i64 x3) := (blk_cell BK2.out 3).trans rfl
              have hcl4 : w39.cell? ⟨g2, 4, none⟩ = some (.int .i64 x4) := (blk_cell BK2.out 4).trans rfl
              have hcl5 : w39.cell? ⟨g2, 5, none⟩ = some (.int .i64 x5) := (blk_cell BK2.out 5).trans rfl
              have hcl6 : w39.cell? ⟨g2, 6, none⟩ = some (.int .i64 x6) := (blk_cell BK2.out 6).trans rfl
              have hcl7 : w39.cell? ⟨g2, 7, none⟩ = some (.int .i64 x7) := (blk_cell BK2.out 7).trans rfl
              have hcl8 : w39.cell? ⟨g2, 8, none⟩ = some (.int .i64 x8) := (blk_cell BK2.out 8).trans rfl
              have hcl9 : w39.cell? ⟨g2, 9, none⟩ = some (.int .i64 x9) := (blk_cell BK2.out 9).trans rfl
              have hcp : (w39.alloc (.cells #[.int .i64 x0, .int .i64 x1, .int .i64 x2, .int .i64 x3, .int .i64 x4, .int .i64 x5, .int .i64 x6, .int .i64 x7, .int .i64 x8, .int .i64 x9] 58 (0, 0))).cell? ⟨w.heap.size, 0, none⟩ = some (.slice A0_0 l0_0.length c0_0) := (blk_cell BKP3.out 0).trans rfl
              go_wp2_with (go_at_call 85; (with_reducible refine (impl_Poset_promoted.calls k A0_0 c0_0 l0_0 x0 x1 x2 x3 x4 x5 x6 x7 x8 x9 y0 y1 y2 y3 y4 y5 y6 y7 y8 y9 _ (Kd.C_below HR0.out HB3.out) HC0.out HPR.out).mono ?_); rintro e w40 ⟨rfl, hb⟩; have BK4 := Aside0.mk (blk_below BK3.out hb); have BKP4 := Aside0.mk (blk_below BKP3.out hb); have BK14 := Aside0.mk (blk_below BK13.out hb); have HB4 := Aside0.mk (below_step HB3.out hb); have HS4 := Aside0.mk (Kd.S_below HS3.out hb); have hq0 : w40.cell? ⟨w39.heap.size, 0, none⟩ = some (.int .i64 x0) := (blk_cell BK4.out 0).trans rfl; have hf0 := blk_frozen BK4.out 0; have hq1 : w40.cell? ⟨w39.heap.size, 1, none⟩ = some (.int .i64 x1) := (blk_cell BK4.out 1).trans rfl; have hf1 := blk_frozen BK4.out 1; have hq2 : w40.cell? ⟨w39.heap.size, 2, none⟩ = some (.int .i64 x2) := (blk_cell BK4.out 2).trans rfl; have hf2 := blk_frozen BK4.out 2; have hq3 : w40.cell? ⟨w39.heap.size, 3, none⟩ = some (.int .i64 x3) := (blk_cell BK4.out 3).trans rfl; have hf3 := blk_frozen BK4.out 3; have hq4 : w40.cell? ⟨w39.heap.size, 4, none⟩ = some (.int .i64 x4) := (blk_cell BK4.out 4).trans rfl; have hf4 := blk_frozen BK4.out 4; have hq5 : w40.cell? ⟨w39.heap.size, 5, none⟩ = some (.int .i64 x5) := (blk_cell BK4.out 5).trans rfl; have hf5 := blk_frozen BK4.out 5; have hq6 : w40.cell? ⟨w39.heap.size, 6, none⟩ = some (.int .i64 x6) := (blk_cell BK4.out 6).trans rfl; have hf6 := blk_frozen BK4.out 6; have hq7 : w40.cell? ⟨w39.heap.size, 7, none⟩ = some (.int .i64 x7) := (blk_cell BK4.out 7).trans rfl; have hf7 := blk_frozen BK4.out 7; have hq8 : w40.cell? ⟨w39.heap.size, 8, none⟩ = some (.int .i64 x8) := (blk_cell BK4.out 8).trans rfl; have hf8 := blk_frozen BK4.out 8; have hq9 : w40.cell? ⟨w39.heap.size, 9, none⟩ = some (.int .i64 x9) := (blk_cell BK4.out 9).trans rfl; have hf9 := blk_frozen BK4.out 9; clear hb)
              have hG : w.heap.size ≤ w39.heap.size := HB.out.size
              have hne1 : g1 ≠ w39.heap.size := fun e_ => absurd (blk_lt BK1.out) (by omega)
              have hneP : w.heap.size ≠ w39.heap.size := fun e_ => absurd (blk_lt BKP.out) (by omega)
              go_roundg k1
              case measure => omega
              case rel => exact ⟨rows ++ [row], y0, y1, y2, y3, y4, y5, y6, y7, y8, y9, w39.heap.size, rfl, HRUN, ⟨or_S (Kd.S_types HS4.out BK4.out (by decide)) _ _ _ _ _ _ _ _ _ _⟩, ⟨or_far BKP4.out hneP _ _ _ _ _ _ _ _ _ _⟩, ⟨or_far BK14.out hne1 _ _ _ _ _ _ _ _ _ _⟩, ⟨or_put BK4.out _ _ _ _ _ _ _ _ _ _⟩, ⟨fun e_ => hneP e_.symm, fun e_ => hne1 e_.symm, hG⟩, ⟨or_below HB4.out hG _ _ _ _ _ _ _ _ _ _⟩⟩
end Go.Proofs.Ytjahclncpgllmaa.F
end

section
namespace Go.Proofs.Ytjahclncpgllmaa.F
open Go.RowKit Go.Proofs.YtjahclncpgllmaaW.PrintWords Go.Proofs.YtjahclncpgllmaaW.PrintLast Go.Proofs.YtjahclncpgllmaaW.PrintMore
set_option linter.unusedVariables false
set_option linter.unusedSimpArgs false
theorem laws_FnExactPromotionOrbit.belowD {w w' : World} (h : Drawn0 w w') : Below w.heap.size w w' := by
  obtain ⟨m, rfl⟩ := h
  exact pw_below_drewN (Below.refl _ _) m
set_option maxHeartbeats 8000000 in
set_option maxRecDepth 100000 in
theorem laws_FnExactPromotionOrbit.calls0 (k k1 : Nat) (A0 : Option Addr) (c0 : Nat) (l0 : List Int) (A1 : Option Addr) (c1 : Nat) (l1 : List Int)  (w : World) (hr0 : Kd.C (Kd.int .i64) w A0 l0.length l0) (hc0 : l0.length ≤ c0) (hr1 : Kd.C (Kd.int .i64) w A1 l1.length l1) (hc1 : l1.length ≤ c1) (hx : decide ((l1.length : Int) > 1048576) = true) :
    Calls Try.prog 12 #[.agg #[.slice A0 l0.length c0], .slice A1 l1.length c1] w fun e w' => e = .returned (.bool true) ∧ Below w.heap.size w w' := by
  have HR0 := Aside0.mk hr0
  have HC0 := Aside0.mk hc0
  clear hr0 hc0
  have HR1 := Aside0.mk hr1
  have HC1 := Aside0.mk hc1
  clear hr1 hc1
  have HT0 := Aside0.mk (Below.refl w.heap.size w)
  go_enter Try.func12, Try.ntmps12
  go_wp2_with (first | ((with_reducible refine gate_dst (N := 2) rfl ?_); refine box_event ?hg (N := 2) ?hd (cs := #[.slice A0 l0.length c0]) (t := 24) ?hr ?_; (case hd => rfl); (case hg => rfl); (case hr => first | (go_simp; done) | (go_simp; rfl)); intro g2 hg_ w1 hbox_ hb_; have HB1 := Aside0.mk hb_; have HZ1 : Aside0 (w.heap.size ≤ w1.heap.size) := ⟨hb_.size⟩; have HT1 := Aside0.mk (HT0.out.trans (Below.mono hb_ HT0.out.size)); have HG2 : Aside0 (w.heap.size ≤ g2 ∧ g2 < w1.heap.size) := ⟨Nat.le_of_eq hg_.symm, blk_lt hbox_⟩; have HBK_ := Aside0.mk hbox_; clear hb_ hbox_ hg_; have HBK2 := HBK_; clear HBK_; have hcz2 : w1.cell? ⟨g2, 0, none⟩ = some (.slice A0 l0.length c0) := (blk_cell HBK2.out 0).trans rfl; have hfz2 := blk_frozen HBK2.out 0))
  go_ret
  exact ⟨by first | rfl | (simp; done) | (simp [*]; done), by repeat (first | (with_reducible first | exact HT1.out | apply below_alloc | apply pw_below_drewN | apply below_drew1) | exact HT1.out)⟩
set_option maxHeartbeats 8000000 in
set_option maxRecDepth 100000 in
theorem laws_FnExactPromotionOrbit.calls1 (k k1 : Nat) (A0 : Option Addr) (c0 : Nat) (l0 : List Int) (A1 : Option Addr) (c1 : Nat) (l1 : List Int) (z1 : Int) (w : World) (hr0 : Kd.C (Kd.int .i64) w A0 l0.length l0) (hc0 : l0.length ≤ c0) (hr1 : Kd.C (Kd.int .i64) w A1 l1.length l1) (hc1 : l1.length ≤ c1) (hy0 : decide ((l1.length : Int) > 1048576) = false) (hy1_ : laws_szPoset.f l0 1048576 = some z1) (hx : decide (z1 < 0) = true) :
    Calls Try.prog 12 #[.agg #[.slice A0 l0.length c0], .slice A1 l1.length c1] w fun e w' => e = .returned (.bool true) ∧ Below w.heap.size w w' := by
  have HR0 := Aside0.mk hr0
  have HC0 := Aside0.mk hc0
  clear hr0 hc0
  have HR1 := Aside0.mk hr1
  have HC1 := Aside0.mk hc1
  clear hr1 hc1
  have hy1 := Aside0.mk hy1_
  clear hy1_
  have HT0 := Aside0.mk (Below.refl w.heap.size w)
  go_enter Try.func12, Try.ntmps12
  go_wp2_with (first | ((with_reducible refine gate_dst (N := 2) rfl ?_); refine box_event ?hg (N := 2) ?hd (cs := #[.slice A0 l0.length c0]) (t := 24) ?hr ?_; (case hd => rfl); (case hg => rfl); (case hr => first | (go_simp; done) | (go_simp; rfl)); intro g2 hg_ w1 hbox_ hb_; have HB1 := Aside0.mk hb_; have HZ1 : Aside0 (w.heap.size ≤ w1.heap.size) := ⟨hb_.size⟩; have HT1 := Aside0.mk (HT0.out.trans (Below.mono hb_ HT0.out.size)); have HG2 : Aside0 (w.heap.size ≤ g2 ∧ g2 < w1.heap.size) := ⟨Nat.le_of_eq hg_.symm, blk_lt hbox_⟩; have HBK_ := Aside0.mk hbox_; clear hb_ hbox_ hg_; have HBK2 := HBK_; clear HBK_; have hcz2 : w1.cell? ⟨g2, 0, none⟩ = some (.slice A0 l0.length c0) := (blk_cell HBK2.out 0).trans rfl; have hfz2 := blk_frozen HBK2.out 0))
  have hcall_ := laws_szPoset.calls _ _ l0 1048576 z1 _ (Kd.C_below HR0.out HT1.out) HC0.out hy1.out
  refine hcall_.mono ?_
  clear hcall_ 
  rintro e w2 ⟨rfl, hb_⟩
  have HB2 := Aside0.mk hb_
  have HZ2 : Aside0 (w1.heap.size ≤ w2.heap.size) := ⟨hb_.size⟩
  have HT2 := Aside0.mk (HT1.out.trans (Below.mono hb_ HT1.out.size))
  clear hb_
  have n_ := Aside0.mk (blk_below HBK2.out HB2.out)
  clear HBK2 hcz2
  have HBK2 := n_
  clear n_
  have hcz2 : w2.cell? ⟨g2, 0, none⟩ = some (.slice A0 l0.length c0) := (blk_cell HBK2.out 0).trans rfl
  go_wp2
  go_ret
  exact ⟨by first | rfl | (simp; done) | (simp [*]; done), by repeat (first | (with_reducible first | exact HT2.out | apply below_alloc | apply pw_below_drewN | apply below_drew1) | exact HT2.out)⟩
set_option maxHeartbeats 8000000 in
set_option maxRecDepth 100000 in
theorem laws_FnExactPromotionOrbit.calls2 (k k1 : Nat) (A0 : Option Addr) (c0 : Nat) (l0 : List Int) (A1 : Option Addr) (c1 : Nat) (l1 : List Int) (z1 : Int) (v2 : List (List Int)) (v3 : Bool) (m4 : Int) (u5 : List Int) (m6 : Int) (u7 : List Int) (m8 : Int) (u9 : List (List Int)) (w : World) (hr0 : Kd.C (Kd.int .i64) w A0 l0.length l0) (hc0 : l0.length ≤ c0) (hr1 : Kd.C (Kd.int .i64) w A1 l1.length l1) (hc1 : l1.length ≤ c1) (hy0 : decide ((l1.length : Int) > 1048576) = false) (hy1_ : laws_szPoset.f l0 1048576 = some z1) (hy2 : decide (z1 < 0) = false) (hy3_ : laws_toPoset.f k1 l0 = some l0) (hy4_ : laws_toIntS.f k1 l1 = some l1) (hy5_ : spec_PromotionOrbit.f k l0 l1 = some (v2, v3)) (hy6_ : impl_PromotionOrbit.f k l0 l1 = some (v2, v3)) (hy7_ : laws_eqIntSS.f k1 v2 v2 = some true) (hy8_ : laws_eqPoset.f k1 l0 l0 = some true) (hy9_ : laws_eqIntS.f k1 l1 l1 = some true) (hy10_ : laws_markPoset.f k1 l0 1 = some (m4, u5)) (hy11_ : laws_markIntS.f k1 l1 m4 = some (m6, u7)) (hy12 : decide (m6 < 0) = false) (hy13_ : laws_markIntSS.f k1 v2 1 = some (m8, u9)) (hy14_ : laws_heldIntSS.f k1 u9 1 = some m8) (hy15 : decide (m8 < 0) = false) :
    Calls Try.prog 12 #[.agg #[.slice A0 l0.length c0], .slice A1 l1.length c1] w fun e w' => e = .returned (.bool true) ∧ Below w.heap.size w w' := by
  have HR0 := Aside0.mk hr0
  have HC0 := Aside0.mk hc0
  clear hr0 hc0
  have HR1 := Aside0.mk hr1
  have HC1 := Aside0.mk hc1
  clear hr1 hc1
  have hy1 := Aside0.mk hy1_
  clear hy1_
  have hy3 := Aside0.mk hy3_
  clear hy3_
  have hy4 := Aside0.mk hy4_
  clear hy4_
  have hy5 := Aside0.mk hy5_
  clear hy5_
  have hy6 := Aside0.mk hy6_
  clear hy6_
  have hy7 := Aside0.mk hy7_
  clear hy7_
  have hy8 := Aside0.mk hy8_
  clear hy8_
  have hy9 := Aside0.mk hy9_
  clear hy9_
  have hy10 := Aside0.mk hy10_
  clear hy10_
  have hy11 := Aside0.mk hy11_
  clear hy11_
  have hy13 := Aside0.mk hy13_
  clear hy13_
  have hy14 := Aside0.mk hy14_
  clear hy14_
  have HT0 := Aside0.mk (Below.refl w.heap.size w)
  go_enter Try.func12, Try.ntmps12
  go_wp2_with (first | ((with_reducible refine gate_dst (N := 2) rfl ?_); refine box_event ?hg (N := 2) ?hd (cs := #[.slice A0 l0.length c0]) (t := 24) ?hr ?_; (case hd => rfl); (case hg => rfl); (case hr => first | (go_simp; done) | (go_simp; rfl)); intro g2 hg_ w1 hbox_ hb_; have HB1 := Aside0.mk hb_; have HZ1 : Aside0 (w.heap.size ≤ w1.heap.size) := ⟨hb_.size⟩; have HT1 := Aside0.mk (HT0.out.trans (Below.mono hb_ HT0.out.size)); have HG2 : Aside0 (w.heap.size ≤ g2 ∧ g2 < w1.heap.size) := ⟨Nat.le_of_eq hg_.symm, blk_lt hbox_⟩; have HBK_ := Aside0.mk hbox_; clear hb_ hbox_ hg_; have HBK2 := HBK_; clear HBK_; have hcz2 : w1.cell? ⟨g2, 0, none⟩ = some (.slice A0 l0.length c0) := (blk_cell HBK2.out 0).trans rfl; have hfz2 := blk_frozen HBK2.out 0))
  have hcall_ := laws_szPoset.calls _ _ l0 1048576 z1 _ (Kd.C_below HR0.out HT1.out) HC0.out hy1.out
  refine hcall_.mono ?_
  clear hcall_ 
  rintro e w2 ⟨rfl, hb_⟩
  have HB2 := Aside0.mk hb_
  have HZ2 : Aside0 (w1.heap.size ≤ w2.heap.size) := ⟨hb_.size⟩
  have HT2 := Aside0.mk (HT1.out.trans (Below.mono hb_ HT1.out.size))
  clear hb_
  have n_ := Aside0.mk (blk_below HBK2.out HB2.out)
  clear HBK2 hcz2
  have HBK2 := n_
  clear n_
  have hcz2 : w2.cell? ⟨g2, 0, none⟩ = some (.slice A0 l0.length c0) := (blk_cell HBK2.out 0).trans rfl
  go_wp2_with fail
  have hcall_ := laws_toPoset.calls k1 _ _ l0 l0 _ (Kd.C_below HR0.out HT2.out) HC0.out hy3.out
  refine hcall_.mono ?_
  clear hcall_ 
  rintro e w3 ⟨v1x, rfl, hx1_, hb_⟩
  have HB3 := Aside0.mk hb_
  have HZ3 : Aside0 (w2.heap.size ≤ w3.heap.size) := ⟨hb_.size⟩
  have HT3 := Aside0.mk (HT2.out.trans (Below.mono hb_ HT2.out.size))
  clear hb_
  have n_ := Aside0.mk (blk_below HBK2.out HB3.out)
  clear HBK2 hcz2
  have HBK2 := n_
  clear n_
  have hcz2 : w3.cell? ⟨g2, 0, none⟩ = some (.slice A0 l0.length c0) := (blk_cell HBK2.out 0).trans rfl
  have HX1 := Aside0.mk (Kd.R_lower (Kd.R_mono (ok' := fun k_ => w2.heap.size ≤ k_ ∧ k_ < w3.heap.size) (Kd.R_bound hx1_) (fun k_ h_ => ⟨h_.2.1, h_.2.2.1⟩)) HT2.out.size)
  clear hx1_
  go_wp2_with fail
  have hcall_ := laws_toIntS.calls k1 _ _ l1 l1 _ (Kd.C_below HR1.out HT3.out) HC1.out hy4.out
  refine hcall_.mono ?_
  clear hcall_ 
  rintro e w4 ⟨v2x, rfl, hx2_, hb_⟩
  have HB4 := Aside0.mk hb_
  have HZ4 : Aside0 (w3.heap.size ≤ w4.heap.size) := ⟨hb_.size⟩
  have HT4 := Aside0.mk (HT3.out.trans (Below.mono hb_ HT3.out.size))
  clear hb_
  have n_ := Aside0.mk (Kd.R_below HX1.out HB4.out)
  clear HX1
  have HX1 := n_
  clear n_
  have n_ := Aside0.mk (blk_below HBK2.out HB4.out)
  clear HBK2 hcz2
  have HBK2 := n_
  clear n_
  have hcz2 : w4.cell? ⟨g2, 0, none⟩ = some (.slice A0 l0.length c0) := (blk_cell HBK2.out 0).trans rfl
  have HX2 := Aside0.mk (Kd.R_lower (Kd.R_mono (ok' := fun k_ => w3.heap.size ≤ k_ ∧ k_ < w4.heap.size) (Kd.R_bound hx2_) (fun k_ h_ => ⟨h_.2.1, h_.2.2.1⟩)) HT3.out.size)
  clear hx2_
  go_wp2_with fail
  obtain ⟨A1_, c1_, e1_, hl1_, hC1_⟩ := Kd.R_reads HX1.out
  obtain ⟨A2_, c2_, e2_, hl2_, hC2_⟩ := Kd.R_reads HX2.out
  have hcall_ := spec_PromotionOrbit.calls k _ _ l0 _ _ l1 v2 v3 _ hC1_ hl1_ hC2_ hl2_ hy5.out
  rw [← e1_] at hcall_
  rw [← e2_] at hcall_
  refine hcall_.mono ?_
  clear hcall_ hC1_ hl1_ e1_ c1_ A1_ hC2_ hl2_ e2_ c2_ A2_
  rintro e w5 ⟨v3x, rfl, hx3_, hb_⟩
  have HB5 := Aside0.mk hb_
  have HZ5 : Aside0 (w4.heap.size ≤ w5.heap.size) := ⟨hb_.size⟩
  have HT5 := Aside0.mk (HT4.out.trans (Below.mono hb_ HT4.out.size))
  clear hb_
  have n_ := Aside0.mk (Kd.R_below HX1.out HB5.out)
  clear HX1
  have HX1 := n_
  clear n_
  have n_ := Aside0.mk (Kd.R_below HX2.out HB5.out)
  clear HX2
  have HX2 := n_
  clear n_
  have n_ := Aside0.mk (blk_below HBK2.out HB5.out)
  clear HBK2 hcz2
  have HBK2 := n_
  clear n_
  have hcz2 : w5.cell? ⟨g2, 0, none⟩ = some (.slice A0 l0.length c0) := (blk_cell HBK2.out 0).trans rfl
  have HX3 := Aside0.mk (Kd.S_lower (Kd.S_mono (ok' := fun k_ => w4.heap.size ≤ k_ ∧ k_ < w5.heap.size) (Kd.S_bound hx3_) (fun k_ h_ => ⟨h_.2.1, h_.2.2.1⟩)) HT4.out.size)
  clear hx3_
  go_wp2_with fail
  have hcall_ := laws_toPoset.calls k1 _ _ l0 l0 _ (Kd.C_below HR0.out HT5.out) HC0.out hy3.out
  refine hcall_.mono ?_
  clear hcall_ 
  rintro e w6 ⟨v4x, rfl, hx4_, hb_⟩
  have HB6 := Aside0.mk hb_
  have HZ6 : Aside0 (w5.heap.size ≤ w6.heap.size) := ⟨hb_.size⟩
  have HT6 := Aside0.mk (HT5.out.trans (Below.mono hb_ HT5.out.size))
  clear hb_
  have n_ := Aside0.mk (Kd.R_below HX1.out HB6.out)
  clear HX1
  have HX1 := n_
  clear n_
  have n_ := Aside0.mk (Kd.R_below HX2.out HB6.out)
  clear HX2
  have HX2 := n_
  clear n_
  have n_ := Aside0.mk (Kd.S_below HX3.out HB6.out)
  clear HX3
  have HX3 := n_
  clear n_
  have n_ := Aside0.mk (blk_below HBK2.out HB6.out)
  clear HBK2 hcz2
  have HBK2 := n_
  clear n_
  have hcz2 : w6.cell? ⟨g2, 0, none⟩ = some (.slice A0 l0.length c0) := (blk_cell HBK2.out 0).trans rfl
  have HX4 := Aside0.mk (Kd.R_lower (Kd.R_mono (ok' := fun k_ => w5.heap.size ≤ k_ ∧ k_ < w6.heap.size) (Kd.R_bound hx4_) (fun k_ h_ => ⟨h_.2.1, h_.2.2.1⟩)) HT5.out.size)
  clear hx4_
  obtain ⟨Aq4, cq4, eq_⟩ := Kd.R_slice HX4.out
  subst eq_
  go_wp2_with (first | ((with_reducible refine gate_dst (N := 8) rfl ?_); refine box_event ?hg (N := 8) ?hd (cs := #[.slice none 0 0]) (t := 28) ?hr ?_; (case hd => rfl); (case hg => rfl); (case hr => first | (go_simp; done) | (go_simp; rfl)); intro g8 hg_ w7 hbox_ hb_; have HB7 := Aside0.mk hb_; have HZ7 : Aside0 (w6.heap.size ≤ w7.heap.size) := ⟨hb_.size⟩; have HT7 := Aside0.mk (HT6.out.trans (Below.mono hb_ HT6.out.size)); have HG8 : Aside0 (w6.heap.size ≤ g8 ∧ g8 < w7.heap.size) := ⟨Nat.le_of_eq hg_.symm, blk_lt hbox_⟩; have HBK_ := Aside0.mk hbox_; clear hb_ hbox_ hg_; have n_ := Aside0.mk (Kd.R_below HX1.out HB7.out); clear HX1; have HX1 := n_; clear n_; have n_ := Aside0.mk (Kd.R_below HX2.out HB7.out); clear HX2; have HX2 := n_; clear n_; have n_ := Aside0.mk (Kd.S_below HX3.out HB7.out); clear HX3; have HX3 := n_; clear n_; have n_ := Aside0.mk (Kd.R_below HX4.out HB7.out); clear HX4; have HX4 := n_; clear n_; have n_ := Aside0.mk (blk_below HBK2.out HB7.out); clear HBK2 hcz2; have HBK2 := n_; clear n_; have hcz2 : w7.cell? ⟨g2, 0, none⟩ = some (.slice A0 l0.length c0) := (blk_cell HBK2.out 0).trans rfl; have HBK8 := HBK_; clear HBK_; have hcz8 : w7.cell? ⟨g8, 0, none⟩ = some (.slice none 0 0) := (blk_cell HBK8.out 0).trans rfl; have hfz8 := blk_frozen HBK8.out 0) | ((with_reducible refine gate_store (t := 28) (p := 8) rfl ?_); refine store_event (t := 28) (p := 8) (v := ?vo_) (w1 := (w7.setCell ⟨g8, 0, none⟩ (.slice Aq4 l0.length cq4))) ?hg ?ho ?hn ?hr ?_; (case ho => rfl); (case hg => rfl); (case hn => rfl); (case hr => first | (go_simp; done) | (go_simp; rfl)); intro w8 hw_; have hlt_ : w.heap.size ≤ g8 := (by have z1 := HZ1.out; have z2 := HZ2.out; have z3 := HZ3.out; have z4 := HZ4.out; have z5 := HZ5.out; have z6 := HZ6.out; have z7 := HZ7.out; have hg_ := HG8.out; have h0_ := HT0.out.size; omega); have HT8 : Aside0 (Below w.heap.size w w8) := ⟨by rw [hw_]; exact below_set HT7.out hlt_⟩; have HZ8 : Aside0 (w7.heap.size ≤ w8.heap.size) := ⟨by rw [hw_]; simp [World.setCell]⟩; have n_ : Aside0 (Kd.R (Kd.int .i64) 3 w8 w.heap.size (fun k_ => w2.heap.size ≤ k_ ∧ k_ < w3.heap.size) v1x l0) := ⟨by rw [hw_]; exact Kd.R_far HX1.out (p := ⟨g8, 0, none⟩) (fun k_ h_ => by have z1 := HZ1.out; have z2 := HZ2.out; have z3 := HZ3.out; have z4 := HZ4.out; have z5 := HZ5.out; have z6 := HZ6.out; have z7 := HZ7.out; have hg_ := HG8.out; show k_ ≠ g8; omega) _⟩; clear HX1; have HX1 := n_; clear n_; have n_ : Aside0 (Kd.R (Kd.int .i64) 3 w8 w.heap.size (fun k_ => w3.heap.size ≤ k_ ∧ k_ < w4.heap.size) v2x l1) := ⟨by rw [hw_]; exact Kd.R_far HX2.out (p := ⟨g8, 0, none⟩) (fun k_ h_ => by have z1 := HZ1.out; have z2 := HZ2.out; have z3 := HZ3.out; have z4 := HZ4.out; have z5 := HZ5.out; have z6 := HZ6.out; have z7 := HZ7.out; have hg_ := HG8.out; show k_ ≠ g8; omega) _⟩; clear HX2; have HX2 := n_; clear n_; have n_ : Aside0 (Kd.S (Kd.slice 3 (Kd.int .i64)) 22 w8 w.heap.size (fun k_ => w4.heap.size ≤ k_ ∧ k_ < w5.heap.size) v3x v2) := ⟨by rw [hw_]; exact Kd.S_far HX3.out (p := ⟨g8, 0, none⟩) (fun k_ h_ => by have z1 := HZ1.out; have z2 := HZ2.out; have z3 := HZ3.out; have z4 := HZ4.out; have z5 := HZ5.out; have z6 := HZ6.out; have z7 := HZ7.out; have hg_ := HG8.out; show k_ ≠ g8; omega) _⟩; clear HX3; have HX3 := n_; clear n_; have n_ : Aside0 (Kd.R (Kd.int .i64) 3 w8 w.heap.size (fun k_ => w5.heap.size ≤ k_ ∧ k_ < w6.heap.size) (.slice Aq4 l0.length cq4) l0) := ⟨by rw [hw_]; exact Kd.R_far HX4.out (p := ⟨g8, 0, none⟩) (fun k_ h_ => by have z1 := HZ1.out; have z2 := HZ2.out; have z3 := HZ3.out; have z4 := HZ4.out; have z5 := HZ5.out; have z6 := HZ6.out; have z7 := HZ7.out; have hg_ := HG8.out; show k_ ≠ g8; omega) _⟩; clear HX4; have HX4 := n_; clear n_; have nb2_ : Aside0 (w8.heap[g2]? = some (.cells #[.slice A0 l0.length c0] 24 (0, 0))) := ⟨by rw [hw_]; exact (Below.heap_setCell _ _ _ _ (by have z1 := HZ1.out; have z2 := HZ2.out; have z3 := HZ3.out; have z4 := HZ4.out; have z5 := HZ5.out; have z6 := HZ6.out; have z7 := HZ7.out; have h1_ := HG2.out; have h2_ := HG8.out; show g2 ≠ g8; omega)).trans HBK2.out⟩; have nb8_ : Aside0 (w8.heap[g8]? = some (.cells #[.slice Aq4 l0.length cq4] 28 (0, 0))) := ⟨by rw [hw_]; exact one_setCell HBK8.out⟩; clear hcz2; clear hcz8; clear hw_; clear HBK2; have HBK2 := nb2_; clear nb2_; have hcz2 : w8.cell? ⟨g2, 0, none⟩ = some (.slice A0 l0.length c0) := (blk_cell HBK2.out 0).trans rfl; clear HBK8; have HBK8 := nb8_; clear nb8_; have hcz8 : w8.cell? ⟨g8, 0, none⟩ = some (.slice Aq4 l0.length cq4) := (blk_cell HBK8.out 0).trans rfl))
  have hcall_ := laws_toIntS.calls k1 _ _ l1 l1 _ (Kd.C_below HR1.out HT8.out) HC1.out hy4.out
  refine hcall_.mono ?_
  clear hcall_ 
  rintro e w9 ⟨v5x, rfl, hx5_, hb_⟩
  have HB9 := Aside0.mk hb_
  have HZ9 : Aside0 (w8.heap.size ≤ w9.heap.size) := ⟨hb_.size⟩
  have HT9 := Aside0.mk (HT8.out.trans (Below.mono hb_ HT8.out.size))
  clear hb_
  have n_ := Aside0.mk (Kd.R_below HX1.out HB9.out)
  clear HX1
  have HX1 := n_
  clear n_
  have n_ := Aside0.mk (Kd.R_below HX2.out HB9.out)
  clear HX2
  have HX2 := n_
  clear n_
  have n_ := Aside0.mk (Kd.S_below HX3.out HB9.out)
  clear HX3
  have HX3 := n_
  clear n_
  have n_ := Aside0.mk (Kd.R_below HX4.out HB9.out)
  clear HX4
  have HX4 := n_
  clear n_
  have n_ := Aside0.mk (blk_below HBK2.out HB9.out)
  clear HBK2 hcz2
  have HBK2 := n_
  clear n_
  have hcz2 : w9.cell? ⟨g2, 0, none⟩ = some (.slice A0 l0.length c0) := (blk_cell HBK2.out 0).trans rfl
  have n_ := Aside0.mk (blk_below HBK8.out HB9.out)
  clear HBK8 hcz8
  have HBK8 := n_
  clear n_
  have hcz8 : w9.cell? ⟨g8, 0, none⟩ = some (.slice Aq4 l0.length cq4) := (blk_cell HBK8.out 0).trans rfl
  have HX5 := Aside0.mk (Kd.R_lower (Kd.R_mono (ok' := fun k_ => w8.heap.size ≤ k_ ∧ k_ < w9.heap.size) (Kd.R_bound hx5_) (fun k_ h_ => ⟨h_.2.1, h_.2.2.1⟩)) HT8.out.size)
  clear hx5_
  go_wp2_with fail
  obtain ⟨A4_, c4_, e4_, hl4_, hC4_⟩ := Kd.R_reads HX4.out
  obtain ⟨A5_, c5_, e5_, hl5_, hC5_⟩ := Kd.R_reads HX5.out
  have hcall_ := impl_PromotionOrbit.calls k _ _ l0 _ _ l1 v2 v3 _ hC4_ hl4_ hC5_ hl5_ hy6.out
  rw [← e4_] at hcall_
  rw [← e5_] at hcall_
  refine hcall_.mono ?_
  clear hcall_ hC4_ hl4_ e4_ c4_ A4_ hC5_ hl5_ e5_ c5_ A5_
  rintro e w10 ⟨v6x, rfl, hx6_, hb_⟩
  have HB10 := Aside0.mk hb_
  have HZ10 : Aside0 (w9.heap.size ≤ w10.heap.size) := ⟨hb_.size⟩
  have HT10 := Aside0.mk (HT9.out.trans (Below.mono hb_ HT9.out.size))
  clear hb_
  have n_ := Aside0.mk (Kd.R_below HX1.out HB10.out)
  clear HX1
  have HX1 := n_
  clear n_
  have n_ := Aside0.mk (Kd.R_below HX2.out HB10.out)
  clear HX2
  have HX2 := n_
  clear n_
  have n_ := Aside0.mk (Kd.S_below HX3.out HB10.out)
  clear HX3
  have HX3 := n_
  clear n_
  have n_ := Aside0.mk (Kd.R_below HX4.out HB10.out)
  clear HX4
  have HX4 := n_
  clear n_
  have n_ := Aside0.mk (Kd.R_below HX5.out HB10.out)
  clear HX5
  have HX5 := n_
  clear n_
  have n_ := Aside0.mk (blk_below HBK2.out HB10.out)
  clear HBK2 hcz2
  have HBK2 := n_
  clear n_
  have hcz2 : w10.cell? ⟨g2, 0, none⟩ = some (.slice A0 l0.length c0) := (blk_cell HBK2.out 0).trans rfl
  have n_ := Aside0.mk (blk_below HBK8.out HB10.out)
  clear HBK8 hcz8
  have HBK8 := n_
  clear n_
  have hcz8 : w10.cell? ⟨g8, 0, none⟩ = some (.slice Aq4 l0.length cq4) := (blk_cell HBK8.out 0).trans rfl
  have HX6 := Aside0.mk (Kd.S_lower (Kd.S_mono (ok' := fun k_ => w9.heap.size ≤ k_ ∧ k_ < w10.heap.size) (Kd.S_bound hx6_) (fun k_ h_ => ⟨h_.2.1, h_.2.2.1⟩)) HT9.out.size)
  clear hx6_
  go_wp2_with fail
  obtain ⟨A6_, c6_, e6_, hl6_, hC6_⟩ := Kd.S_reads HX6.out
  obtain ⟨A3_, c3_, e3_, hl3_, hC3_⟩ := Kd.S_reads HX3.out
  have hcall_ := laws_eqIntSS.calls k1 _ _ v2 _ _ v2 true _ hC6_ hl6_ hC3_ hl3_ hy7.out
  rw [← e6_] at hcall_
  rw [← e3_] at hcall_
  refine hcall_.mono ?_
  clear hcall_ hC6_ hl6_ e6_ c6_ A6_ hC3_ hl3_ e3_ c3_ A3_
  rintro e w11 ⟨rfl, hb0_⟩
  have hb_ := laws_FnExactPromotionOrbit.belowD hb0_
  clear hb0_
  have HB11 := Aside0.mk hb_
  have HZ11 : Aside0 (w10.heap.size ≤ w11.heap.size) := ⟨hb_.size⟩
  have HT11 := Aside0.mk (HT10.out.trans (Below.mono hb_ HT10.out.size))
  clear hb_
  have n_ := Aside0.mk (Kd.R_below HX1.out HB11.out)
  clear HX1
  have HX1 := n_
  clear n_
  have n_ := Aside0.mk (Kd.R_below HX2.out HB11.out)
  clear HX2
  have HX2 := n_
  clear n_
  have n_ := Aside0.mk (Kd.S_below HX3.out HB11.out)
  clear HX3
  have HX3 := n_
  clear n_
  have n_ := Aside0.mk (Kd.R_below HX4.out HB11.out)
  clear HX4
  have HX4 := n_
  clear n_
  have n_ := Aside0.mk (Kd.R_below HX5.out HB11.out)
  clear HX5
  have HX5 := n_
  clear n_
  have n_ := Aside0.mk (Kd.S_below HX6.out HB11.out)
  clear HX6
  have HX6 := n_
  clear n_
  have n_ := Aside0.mk (blk_below HBK2.out HB11.out)
  clear HBK2 hcz2
  have HBK2 := n_
  clear n_
  have hcz2 : w11.cell? ⟨g2, 0, none⟩ = some (.slice A0 l0.length c0) := (blk_cell HBK2.out 0).trans rfl
  have n_ := Aside0.mk (blk_below HBK8.out HB11.out)
  clear HBK8 hcz8
  have HBK8 := n_
  clear n_
  have hcz8 : w11.cell? ⟨g8, 0, none⟩ = some (.slice Aq4 l0.length cq4) := (blk_cell HBK8.out 0).trans rfl
  go_wp2_with fail
  have HB12 := Aside0.mk (below_drew (Below.refl w11.heap.size w11))
  have HZ12 : Aside0 (w11.heap.size ≤ w11.drew.heap.size) := ⟨Nat.le_refl _⟩
  have HT12 := Aside0.mk (HT11.out.trans (Below.mono HB12.out HT11.out.size))
  have n_ := Aside0.mk (Kd.R_below HX1.out HB12.out)
  clear HX1
  have HX1 := n_
  clear n_
  have n_ := Aside0.mk (Kd.R_below HX2.out HB12.out)
  clear HX2
  have HX2 := n_
  clear n_
  have n_ := Aside0.mk (Kd.S_below HX3.out HB12.out)
  clear HX3
  have HX3 := n_
  clear n_
  have n_ := Aside0.mk (Kd.R_below HX4.out HB12.out)
  clear HX4
  have HX4 := n_
  clear n_
  have n_ := Aside0.mk (Kd.R_below HX5.out HB12.out)
  clear HX5
  have HX5 := n_
  clear n_
  have n_ := Aside0.mk (Kd.S_below HX6.out HB12.out)
  clear HX6
  have HX6 := n_
  clear n_
  have n_ := Aside0.mk (blk_below HBK2.out HB12.out)
  clear HBK2 hcz2
  have HBK2 := n_
  clear n_
  have hcz2 : w11.drew.cell? ⟨g2, 0, none⟩ = some (.slice A0 l0.length c0) := (blk_cell HBK2.out 0).trans rfl
  have n_ := Aside0.mk (blk_below HBK8.out HB12.out)
  clear HBK8 hcz8
  have HBK8 := n_
  clear n_
  have hcz8 : w11.drew.cell? ⟨g8, 0, none⟩ = some (.slice Aq4 l0.length cq4) := (blk_cell HBK8.out 0).trans rfl
  go_region_held3 (fun w_ => w_.cell? ⟨g2, 0, none⟩ = some (.slice A0 l0.length c0) ∧ w_.cell? ⟨g8, 0, none⟩ = some (.slice Aq4 l0.length cq4)) (exact ⟨hcz2, hcz8⟩) (first | (go_at_call 17; have hcall_ := laws_toPoset.calls k1 _ _ l0 l0 _ (Kd.C_below HR0.out HT12.out) HC0.out hy3.out; refine hcall_.mono ?_; clear hcall_; rintro e w13 ⟨v7x, rfl, hx7_, hb_⟩; have HB13 := Aside0.mk hb_; have HZ13 : Aside0 (w11.drew.heap.size ≤ w13.heap.size) := ⟨hb_.size⟩; have HT13 := Aside0.mk (HT12.out.trans (Below.mono hb_ HT12.out.size)); clear hb_; have n_ := Aside0.mk (Kd.R_below HX1.out HB13.out); clear HX1; have HX1 := n_; clear n_; have n_ := Aside0.mk (Kd.R_below HX2.out HB13.out); clear HX2; have HX2 := n_; clear n_; have n_ := Aside0.mk (Kd.S_below HX3.out HB13.out); clear HX3; have HX3 := n_; clear n_; have n_ := Aside0.mk (Kd.R_below HX4.out HB13.out); clear HX4; have HX4 := n_; clear n_; have n_ := Aside0.mk (Kd.R_below HX5.out HB13.out); clear HX5; have HX5 := n_; clear n_; have n_ := Aside0.mk (Kd.S_below HX6.out HB13.out); clear HX6; have HX6 := n_; clear n_; have n_ := Aside0.mk (blk_below HBK2.out HB13.out); clear HBK2 hcz2; have HBK2 := n_; clear n_; have hcz2 : w13.cell? ⟨g2, 0, none⟩ = some (.slice A0 l0.length c0) := (blk_cell HBK2.out 0).trans rfl; have n_ := Aside0.mk (blk_below HBK8.out HB13.out); clear HBK8 hcz8; have HBK8 := n_; clear n_; have hcz8 : w13.cell? ⟨g8, 0, none⟩ = some (.slice Aq4 l0.length cq4) := (blk_cell HBK8.out 0).trans rfl; have HX7 := Aside0.mk (Kd.R_lower (Kd.R_mono (ok' := fun k_ => w11.drew.heap.size ≤ k_ ∧ k_ < w13.heap.size) (Kd.R_bound hx7_) (fun k_ h_ => ⟨h_.2.1, h_.2.2.1⟩)) HT12.out.size); clear hx7_) | (go_at_call 21; obtain ⟨A4_, c4_, e4_, hl4_, hC4_⟩ := Kd.R_reads HX4.out; obtain ⟨A7_, c7_, e7_, hl7_, hC7_⟩ := Kd.R_reads HX7.out; have hcall_ := laws_eqPoset.calls k1 _ _ l0 _ _ l0 true _ hC4_ hl4_ hC7_ hl7_ hy8.out; rw [← e4_] at hcall_; rw [← e7_] at hcall_; refine hcall_.mono ?_; clear hcall_ hC4_ hl4_ e4_ c4_ A4_ hC7_ hl7_ e7_ c7_ A7_; rintro e w14 ⟨rfl, hb_⟩; have HB14 := Aside0.mk hb_; have HZ14 : Aside0 (w13.heap.size ≤ w14.heap.size) := ⟨hb_.size⟩; have HT14 := Aside0.mk (HT13.out.trans (Below.mono hb_ HT13.out.size)); clear hb_; have n_ := Aside0.mk (Kd.R_below HX1.out HB14.out); clear HX1; have HX1 := n_; clear n_; have n_ := Aside0.mk (Kd.R_below HX2.out HB14.out); clear HX2; have HX2 := n_; clear n_; have n_ := Aside0.mk (Kd.S_below HX3.out HB14.out); clear HX3; have HX3 := n_; clear n_; have n_ := Aside0.mk (Kd.R_below HX4.out HB14.out); clear HX4; have HX4 := n_; clear n_; have n_ := Aside0.mk (Kd.R_below HX5.out HB14.out); clear HX5; have HX5 := n_; clear n_; have n_ := Aside0.mk (Kd.S_below HX6.out HB14.out); clear HX6; have HX6 := n_; clear n_; have n_ := Aside0.mk (Kd.R_below HX7.out HB14.out); clear HX7; have HX7 := n_; clear n_; have n_ := Aside0.mk (blk_below HBK2.out HB14.out); clear HBK2 hcz2; have HBK2 := n_; clear n_; have hcz2 : w14.cell? ⟨g2, 0, none⟩ = some (.slice A0 l0.length c0) := (blk_cell HBK2.out 0).trans rfl; have n_ := Aside0.mk (blk_below HBK8.out HB14.out); clear HBK8 hcz8; have HBK8 := n_; clear n_; have hcz8 : w14.cell? ⟨g8, 0, none⟩ = some (.slice Aq4 l0.length cq4) := (blk_cell HBK8.out 0).trans rfl))
  go_wp2_with fail
  have hcall_ := laws_toIntS.calls k1 _ _ l1 l1 _ (Kd.C_below HR1.out HT14.out) HC1.out hy4.out
  refine hcall_.mono ?_
  clear hcall_ 
  rintro e w15 ⟨v8x, rfl, hx8_, hb_⟩
  have HB15 := Aside0.mk hb_
  have HZ15 : Aside0 (w14.heap.size ≤ w15.heap.size) := ⟨hb_.size⟩
  have HT15 := Aside0.mk (HT14.out.trans (Below.mono hb_ HT14.out.size))
  clear hb_
  have n_ := Aside0.mk (Kd.R_below HX1.out HB15.out)
  clear HX1
  have HX1 := n_
  clear n_
  have n_ := Aside0.mk (Kd.R_below HX2.out HB15.out)
  clear HX2
  have HX2 := n_
  clear n_
  have n_ := Aside0.mk (Kd.S_below HX3.out HB15.out)
  clear HX3
  have HX3 := n_
  clear n_
  have n_ := Aside0.mk (Kd.R_below HX4.out HB15.out)
  clear HX4
  have HX4 := n_
  clear n_
  have n_ := Aside0.mk (Kd.R_below HX5.out HB15.out)
  clear HX5
  have HX5 := n_
  clear n_
  have n_ := Aside0.mk (Kd.S_below HX6.out HB15.out)
  clear HX6
  have HX6 := n_
  clear n_
  have n_ := Aside0.mk (Kd.R_below HX7.out HB15.out)
  clear HX7
  have HX7 := n_
  clear n_
  have n_ := Aside0.mk (blk_below HBK2.out HB15.out)
  clear HBK2 hcz2
  have HBK2 := n_
  clear n_
  have hcz2 : w15.cell? ⟨g2, 0, none⟩ = some (.slice A0 l0.length c0) := (blk_cell HBK2.out 0).trans rfl
  have n_ := Aside0.mk (blk_below HBK8.out HB15.out)
  clear HBK8 hcz8
  have HBK8 := n_
  clear n_
  have hcz8 : w15.cell? ⟨g8, 0, none⟩ = some (.slice Aq4 l0.length cq4) := (blk_cell HBK8.out 0).trans rfl
  have HX8 := Aside0.mk (Kd.R_lower (Kd.R_mono (ok' := fun k_ => w14.heap.size ≤ k_ ∧ k_ < w15.heap.size) (Kd.R_bound hx8_) (fun k_ h_ => ⟨h_.2.1, h_.2.2.1⟩)) HT14.out.size)
  clear hx8_
  go_wp2_with fail
  obtain ⟨A5_, c5_, e5_, hl5_, hC5_⟩ := Kd.R_reads HX5.out
  obtain ⟨A8_, c8_, e8_, hl8_, hC8_⟩ := Kd.R_reads HX8.out
  have hcall_ := laws_eqIntS.calls k1 _ _ l1 _ _ l1 true _ hC5_ hl5_ hC8_ hl8_ hy9.out
  rw [← e5_] at hcall_
  rw [← e8_] at hcall_
  refine hcall_.mono ?_
  clear hcall_ hC5_ hl5_ e5_ c5_ A5_ hC8_ hl8_ e8_ c8_ A8_
  rintro e w16 ⟨rfl, hb0_⟩
  have hb_ := laws_FnExactPromotionOrbit.belowD hb0_
  clear hb0_
  have HB16 := Aside0.mk hb_
  have HZ16 : Aside0 (w15.heap.size ≤ w16.heap.size) := ⟨hb_.size⟩
  have HT16 := Aside0.mk (HT15.out.trans (Below.mono hb_ HT15.out.size))
  clear hb_
  have n_ := Aside0.mk (Kd.R_below HX1.out HB16.out)
  clear HX1
  have HX1 := n_
  clear n_
  have n_ := Aside0.mk (Kd.R_below HX2.out HB16.out)
  clear HX2
  have HX2 := n_
  clear n_
  have n_ := Aside0.mk (Kd.S_below HX3.out HB16.out)
  clear HX3
  have HX3 := n_
  clear n_
  have n_ := Aside0.mk (Kd.R_below HX4.out HB16.out)
  clear HX4
  have HX4 := n_
  clear n_
  have n_ := Aside0.mk (Kd.R_below HX5.out HB16.out)
  clear HX5
  have HX5 := n_
  clear n_
  have n_ := Aside0.mk (Kd.S_below HX6.out HB16.out)
  clear HX6
  have HX6 := n_
  clear n_
  have n_ := Aside0.mk (Kd.R_below HX7.out HB16.out)
  clear HX7
  have HX7 := n_
  clear n_
  have n_ := Aside0.mk (Kd.R_below HX8.out HB16.out)
  clear HX8
  have HX8 := n_
  clear n_
  have n_ := Aside0.mk (blk_below HBK2.out HB16.out)
  clear HBK2 hcz2
  have HBK2 := n_
  clear n_
  have hcz2 : w16.cell? ⟨g2, 0, none⟩ = some (.slice A0 l0.length c0) := (blk_cell HBK2.out 0).trans rfl
  have n_ := Aside0.mk (blk_below HBK8.out HB16.out)
  clear HBK8 hcz8
  have HBK8 := n_
  clear n_
  have hcz8 : w16.cell? ⟨g8, 0, none⟩ = some (.slice Aq4 l0.length cq4) := (blk_cell HBK8.out 0).trans rfl
  go_wp2_with fail
  refine (laws_markPoset.calls k1 (fun k_ => some k_ = ((.slice Aq4 l0.length cq4) : Value).ownBlock) (.slice Aq4 l0.length cq4) l0 1 m4 u5 w _ HT16.out (Kd.R_tight rfl HX4.out) hy10.out).mono ?_
  rintro e w17 ⟨rfl, hy_, hb_, hk_⟩
  have HT17 := Aside0.mk hb_
  have HK17 := Aside0.mk hk_
  have HZ17 : Aside0 (w16.heap.size ≤ w17.heap.size) := ⟨hk_.1⟩
  have HO := HX4
  have HY := Aside0.mk (Kd.R_reok rfl hy_ (fun k_ e_ => HO.out.1 k_ e_))
  clear hy_ hb_ hk_
  have n_ := Aside0.mk (Kd.R_kept HX1.out HK17.out (fun k_ h_ h2_ => by have z1 := HZ1.out; have z2 := HZ2.out; have z3 := HZ3.out; have z4 := HZ4.out; have z5 := HZ5.out; have z6 := HZ6.out; have z7 := HZ7.out; have z8 := HZ8.out; have z9 := HZ9.out; have z10 := HZ10.out; have z11 := HZ11.out; have z12 := HZ12.out; have z13 := HZ13.out; have z14 := HZ14.out; have z15 := HZ15.out; have z16 := HZ16.out; have z17 := HZ17.out; have h3_ := HO.out.1 k_ h2_.symm; omega))
  clear HX1
  have HX1 := n_
  clear n_
  have n_ := Aside0.mk (Kd.R_kept HX2.out HK17.out (fun k_ h_ h2_ => by have z1 := HZ1.out; have z2 := HZ2.out; have z3 := HZ3.out; have z4 := HZ4.out; have z5 := HZ5.out; have z6 := HZ6.out; have z7 := HZ7.out; have z8 := HZ8.out; have z9 := HZ9.out; have z10 := HZ10.out; have z11 := HZ11.out; have z12 := HZ12.out; have z13 := HZ13.out; have z14 := HZ14.out; have z15 := HZ15.out; have z16 := HZ16.out; have z17 := HZ17.out; have h3_ := HO.out.1 k_ h2_.symm; omega))
  clear HX2
  have HX2 := n_
  clear n_
  have n_ := Aside0.mk (Kd.S_kept HX3.out HK17.out (fun k_ h_ h2_ => by have z1 := HZ1.out; have z2 := HZ2.out; have z3 := HZ3.out; have z4 := HZ4.out; have z5 := HZ5.out; have z6 := HZ6.out; have z7 := HZ7.out; have z8 := HZ8.out; have z9 := HZ9.out; have z10 := HZ10.out; have z11 := HZ11.out; have z12 := HZ12.out; have z13 := HZ13.out; have z14 := HZ14.out; have z15 := HZ15.out; have z16 := HZ16.out; have z17 := HZ17.out; have h3_ := HO.out.1 k_ h2_.symm; omega))
  clear HX3
  have HX3 := n_
  clear n_
  have n_ := Aside0.mk (Kd.R_kept HX5.out HK17.out (fun k_ h_ h2_ => by have z1 := HZ1.out; have z2 := HZ2.out; have z3 := HZ3.out; have z4 := HZ4.out; have z5 := HZ5.out; have z6 := HZ6.out; have z7 := HZ7.out; have z8 := HZ8.out; have z9 := HZ9.out; have z10 := HZ10.out; have z11 := HZ11.out; have z12 := HZ12.out; have z13 := HZ13.out; have z14 := HZ14.out; have z15 := HZ15.out; have z16 := HZ16.out; have z17 := HZ17.out; have h3_ := HO.out.1 k_ h2_.symm; omega))
  clear HX5
  have HX5 := n_
  clear n_
  have n_ := Aside0.mk (Kd.S_kept HX6.out HK17.out (fun k_ h_ h2_ => by have z1 := HZ1.out; have z2 := HZ2.out; have z3 := HZ3.out; have z4 := HZ4.out; have z5 := HZ5.out; have z6 := HZ6.out; have z7 := HZ7.out; have z8 := HZ8.out; have z9 := HZ9.out; have z10 := HZ10.out; have z11 := HZ11.out; have z12 := HZ12.out; have z13 := HZ13.out; have z14 := HZ14.out; have z15 := HZ15.out; have z16 := HZ16.out; have z17 := HZ17.out; have h3_ := HO.out.1 k_ h2_.symm; omega))
  clear HX6
  have HX6 := n_
  clear n_
  have n_ := Aside0.mk (Kd.R_kept HX7.out HK17.out (fun k_ h_ h2_ => by have z1 := HZ1.out; have z2 := HZ2.out; have z3 := HZ3.out; have z4 := HZ4.out; have z5 := HZ5.out; have z6 := HZ6.out; have z7 := HZ7.out; have z8 := HZ8.out; have z9 := HZ9.out; have z10 := HZ10.out; have z11 := HZ11.out; have z12 := HZ12.out; have z13 := HZ13.out; have z14 := HZ14.out; have z15 := HZ15.out; have z16 := HZ16.out; have z17 := HZ17.out; have h3_ := HO.out.1 k_ h2_.symm; omega))
  clear HX7
  have HX7 := n_
  clear n_
  have n_ := Aside0.mk (Kd.R_kept HX8.out HK17.out (fun k_ h_ h2_ => by have z1 := HZ1.out; have z2 := HZ2.out; have z3 := HZ3.out; have z4 := HZ4.out; have z5 := HZ5.out; have z6 := HZ6.out; have z7 := HZ7.out; have z8 := HZ8.out; have z9 := HZ9.out; have z10 := HZ10.out; have z11 := HZ11.out; have z12 := HZ12.out; have z13 := HZ13.out; have z14 := HZ14.out; have z15 := HZ15.out; have z16 := HZ16.out; have z17 := HZ17.out; have h3_ := HO.out.1 k_ h2_.symm; omega))
  clear HX8
  have HX8 := n_
  clear n_
  have n_ := Aside0.mk ((HK17.out.2 g2 (blk_lt HBK2.out) (fun h2_ => by have z1 := HZ1.out; have z2 := HZ2.out; have z3 := HZ3.out; have z4 := HZ4.out; have z5 := HZ5.out; have z6 := HZ6.out; have z7 := HZ7.out; have z8 := HZ8.out; have z9 := HZ9.out; have z10 := HZ10.out; have z11 := HZ11.out; have z12 := HZ12.out; have z13 := HZ13.out; have z14 := HZ14.out; have z15 := HZ15.out; have z16 := HZ16.out; have z17 := HZ17.out; have hg_ := HG2.out; have h3_ := HO.out.1 g2 h2_.symm; omega)).trans HBK2.out)
  clear HBK2 hcz2
  have HBK2 := n_
  clear n_
  have hcz2 : w17.cell? ⟨g2, 0, none⟩ = some (.slice A0 l0.length c0) := (blk_cell HBK2.out 0).trans rfl
  have n_ := Aside0.mk ((HK17.out.2 g8 (blk_lt HBK8.out) (fun h2_ => by have z1 := HZ1.out; have z2 := HZ2.out; have z3 := HZ3.out; have z4 := HZ4.out; have z5 := HZ5.out; have z6 := HZ6.out; have z7 := HZ7.out; have z8 := HZ8.out; have z9 := HZ9.out; have z10 := HZ10.out; have z11 := HZ11.out; have z12 := HZ12.out; have z13 := HZ13.out; have z14 := HZ14.out; have z15 := HZ15.out; have z16 := HZ16.out; have z17 := HZ17.out; have hg_ := HG8.out; have h3_ := HO.out.1 g8 h2_.symm; omega)).trans HBK8.out)
  clear HBK8 hcz8
  have HBK8 := n_
  clear n_
  have hcz8 : w17.cell? ⟨g8, 0, none⟩ = some (.slice Aq4 l0.length cq4) := (blk_cell HBK8.out 0).trans rfl
  clear HX4 HO
  have HX4 := HY
  clear HY
  go_wp2_with fail
  refine (laws_markIntS.calls k1 (fun k_ => some k_ = (v5x : Value).ownBlock) v5x l1 m4 m6 u7 w _ HT17.out (Kd.R_tight rfl HX5.out) hy11.out).mono ?_
  rintro e w18 ⟨rfl, hy_, hb_, hk_⟩
  have HT18 := Aside0.mk hb_
  have HK18 := Aside0.mk hk_
  have HZ18 : Aside0 (w17.heap.size ≤ w18.heap.size) := ⟨hk_.1⟩
  have HO := HX5
  have HY := Aside0.mk (Kd.R_reok rfl hy_ (fun k_ e_ => HO.out.1 k_ e_))
  clear hy_ hb_ hk_
  have n_ := Aside0.mk (Kd.R_kept HX1.out HK18.out (fun k_ h_ h2_ => by have z1 := HZ1.out; have z2 := HZ2.out; have z3 := HZ3.out; have z4 := HZ4.out; have z5 := HZ5.out; have z6 := HZ6.out; have z7 := HZ7.out; have z8 := HZ8.out; have z9 := HZ9.out; have z10 := HZ10.out; have z11 := HZ11.out; have z12 := HZ12.out; have z13 := HZ13.out; have z14 := HZ14.out; have z15 := HZ15.out; have z16 := HZ16.out; have z17 := HZ17.out; have z18 := HZ18.out; have h3_ := HO.out.1 k_ h2_.symm; omega))
  clear HX1
  have HX1 := n_
  clear n_
  have n_ := Aside0.mk (Kd.R_kept HX2.out HK18.out (fun k_ h_ h2_ => by have z1 := HZ1.out; have z2 := HZ2.out; have z3 := HZ3.out; have z4 := HZ4.out; have z5 := HZ5.out; have z6 := HZ6.out; have z7 := HZ7.out; have z8 := HZ8.out; have z9 := HZ9.out; have z10 := HZ10.out; have z11 := HZ11.out; have z12 := HZ12.out; have z13 := HZ13.out; have z14 := HZ14.out; have z15 := HZ15.out; have z16 := HZ16.out; have z17 := HZ17.out; have z18 := HZ18.out; have h3_ := HO.out.1 k_ h2_.symm; omega))
  clear HX2
  have HX2 := n_
  clear n_
  have n_ := Aside0.mk (Kd.S_kept HX3.out HK18.out (fun k_ h_ h2_ => by have z1 := HZ1.out; have z2 := HZ2.out; have z3 := HZ3.out; have z4 := HZ4.out; have z5 := HZ5.out; have z6 := HZ6.out; have z7 := HZ7.out; have z8 := HZ8.out; have z9 := HZ9.out; have z10 := HZ10.out; have z11 := HZ11.out; have z12 := HZ12.out; have z13 := HZ13.out; have z14 := HZ14.out; have z15 := HZ15.out; have z16 := HZ16.out; have z17 := HZ17.out; have z18 := HZ18.out; have h3_ := HO.out.1 k_ h2_.symm; omega))
  clear HX3
  have HX3 := n_
  clear n_
  have n_ := Aside0.mk (Kd.R_kept HX4.out HK18.out (fun k_ h_ h2_ => by have z1 := HZ1.out; have z2 := HZ2.out; have z3 := HZ3.out; have z4 := HZ4.out; have z5 := HZ5.out; have z6 := HZ6.out; have z7 := HZ7.out; have z8 := HZ8.out; have z9 := HZ9.out; have z10 := HZ10.out; have z11 := HZ11.out; have z12 := HZ12.out; have z13 := HZ13.out; have z14 := HZ14.out; have z15 := HZ15.out; have z16 := HZ16.out; have z17 := HZ17.out; have z18 := HZ18.out; have h3_ := HO.out.1 k_ h2_.symm; omega))
  clear HX4
  have HX4 := n_
  clear n_
  have n_ := Aside0.mk (Kd.S_kept HX6.out HK18.out (fun k_ h_ h2_ => by have z1 := HZ1.out; have z2 := HZ2.out; have z3 := HZ3.out; have z4 := HZ4.out; have z5 := HZ5.out; have z6 := HZ6.out; have z7 := HZ7.out; have z8 := HZ8.out; have z9 := HZ9.out; have z10 := HZ10.out; have z11 := HZ11.out; have z12 := HZ12.out; have z13 := HZ13.out; have z14 := HZ14.out; have z15 := HZ15.out; have z16 := HZ16.out; have z17 := HZ17.out; have z18 := HZ18.out; have h3_ := HO.out.1 k_ h2_.symm; omega))
  clear HX6
  have HX6 := n_
  clear n_
  have n_ := Aside0.mk (Kd.R_kept HX7.out HK18.out (fun k_ h_ h2_ => by have z1 := HZ1.out; have z2 := HZ2.out; have z3 := HZ3.out; have z4 := HZ4.out; have z5 := HZ5.out; have z6 := HZ6.out; have z7 := HZ7.out; have z8 := HZ8.out; have z9 := HZ9.out; have z10 := HZ10.out; have z11 := HZ11.out; have z12 := HZ12.out; have z13 := HZ13.out; have z14 := HZ14.out; have z15 := HZ15.out; have z16 := HZ16.out; have z17 := HZ17.out; have z18 := HZ18.out; have h3_ := HO.out.1 k_ h2_.symm; omega))
  clear HX7
  have HX7 := n_
  clear n_
  have n_ := Aside0.mk (Kd.R_kept HX8.out HK18.out (fun k_ h_ h2_ => by have z1 := HZ1.out; have z2 := HZ2.out; have z3 := HZ3.out; have z4 := HZ4.out; have z5 := HZ5.out; have z6 := HZ6.out; have z7 := HZ7.out; have z8 := HZ8.out; have z9 := HZ9.out; have z10 := HZ10.out; have z11 := HZ11.out; have z12 := HZ12.out; have z13 := HZ13.out; have z14 := HZ14.out; have z15 := HZ15.out; have z16 := HZ16.out; have z17 := HZ17.out; have z18 := HZ18.out; have h3_ := HO.out.1 k_ h2_.symm; omega))
  clear HX8
  have HX8 := n_
  clear n_
  have n_ := Aside0.mk ((HK18.out.2 g2 (blk_lt HBK2.out) (fun h2_ => by have z1 := HZ1.out; have z2 := HZ2.out; have z3 := HZ3.out; have z4 := HZ4.out; have z5 := HZ5.out; have z6 := HZ6.out; have z7 := HZ7.out; have z8 := HZ8.out; have z9 := HZ9.out; have z10 := HZ10.out; have z11 := HZ11.out; have z12 := HZ12.out; have z13 := HZ13.out; have z14 := HZ14.out; have z15 := HZ15.out; have z16 := HZ16.out; have z17 := HZ17.out; have z18 := HZ18.out; have hg_ := HG2.out; have h3_ := HO.out.1 g2 h2_.symm; omega)).trans HBK2.out)
  clear HBK2 hcz2
  have HBK2 := n_
  clear n_
  have hcz2 : w18.cell? ⟨g2, 0, none⟩ = some (.slice A0 l0.length c0) := (blk_cell HBK2.out 0).trans rfl
  have n_ := Aside0.mk ((HK18.out.2 g8 (blk_lt HBK8.out) (fun h2_ => by have z1 := HZ1.out; have z2 := HZ2.out; have z3 := HZ3.out; have z4 := HZ4.out; have z5 := HZ5.out; have z6 := HZ6.out; have z7 := HZ7.out; have z8 := HZ8.out; have z9 := HZ9.out; have z10 := HZ10.out; have z11 := HZ11.out; have z12 := HZ12.out; have z13 := HZ13.out; have z14 := HZ14.out; have z15 := HZ15.out; have z16 := HZ16.out; have z17 := HZ17.out; have z18 := HZ18.out; have hg_ := HG8.out; have h3_ := HO.out.1 g8 h2_.symm; omega)).trans HBK8.out)
  clear HBK8 hcz8
  have HBK8 := n_
  clear n_
  have hcz8 : w18.cell? ⟨g8, 0, none⟩ = some (.slice Aq4 l0.length cq4) := (blk_cell HBK8.out 0).trans rfl
  clear HX5 HO
  have HX5 := HY
  clear HY
  go_wp2_with fail
  obtain ⟨A6_, c6_, e6_, hl6_, hC6_⟩ := Kd.S_reads HX6.out
  obtain ⟨A3_, c3_, e3_, hl3_, hC3_⟩ := Kd.S_reads HX3.out
  have hcall_ := laws_eqIntSS.calls k1 _ _ v2 _ _ v2 true _ hC6_ hl6_ hC3_ hl3_ hy7.out
  rw [← e6_] at hcall_
  rw [← e3_] at hcall_
  refine hcall_.mono ?_
  clear hcall_ hC6_ hl6_ e6_ c6_ A6_ hC3_ hl3_ e3_ c3_ A3_
  rintro e w19 ⟨rfl, hb0_⟩
  have hb_ := laws_FnExactPromotionOrbit.belowD hb0_
  clear hb0_
  have HB19 := Aside0.mk hb_
  have HZ19 : Aside0 (w18.heap.size ≤ w19.heap.size) := ⟨hb_.size⟩
  have HT19 := Aside0.mk (HT18.out.trans (Below.mono hb_ HT18.out.size))
  clear hb_
  have n_ := Aside0.mk (Kd.R_below HX1.out HB19.out)
  clear HX1
  have HX1 := n_
  clear n_
  have n_ := Aside0.mk (Kd.R_below HX2.out HB19.out)
  clear HX2
  have HX2 := n_
  clear n_
  have n_ := Aside0.mk (Kd.S_below HX3.out HB19.out)
  clear HX3
  have HX3 := n_
  clear n_
  have n_ := Aside0.mk (Kd.R_below HX4.out HB19.out)
  clear HX4
  have HX4 := n_
  clear n_
  have n_ := Aside0.mk (Kd.R_below HX5.out HB19.out)
  clear HX5
  have HX5 := n_
  clear n_
  have n_ := Aside0.mk (Kd.S_below HX6.out HB19.out)
  clear HX6
  have HX6 := n_
  clear n_
  have n_ := Aside0.mk (Kd.R_below HX7.out HB19.out)
  clear HX7
  have HX7 := n_
  clear n_
  have n_ := Aside0.mk (Kd.R_below HX8.out HB19.out)
  clear HX8
  have HX8 := n_
  clear n_
  have n_ := Aside0.mk (blk_below HBK2.out HB19.out)
  clear HBK2 hcz2
  have HBK2 := n_
  clear n_
  have hcz2 : w19.cell? ⟨g2, 0, none⟩ = some (.slice A0 l0.length c0) := (blk_cell HBK2.out 0).trans rfl
  have n_ := Aside0.mk (blk_below HBK8.out HB19.out)
  clear HBK8 hcz8
  have HBK8 := n_
  clear n_
  have hcz8 : w19.cell? ⟨g8, 0, none⟩ = some (.slice Aq4 l0.length cq4) := (blk_cell HBK8.out 0).trans rfl
  go_wp2_with fail
  refine (laws_markIntSS.calls k1 (fun k_ => w9.heap.size ≤ k_ ∧ k_ < w10.heap.size) v6x v2 1 m8 u9 w _ HT19.out HX6.out hy13.out).mono ?_
  rintro e w20 ⟨rfl, hy_, hb_, hk_⟩
  have HT20 := Aside0.mk hb_
  have HK20 := Aside0.mk hk_
  have HZ20 : Aside0 (w19.heap.size ≤ w20.heap.size) := ⟨hk_.1⟩
  have HO := HX6
  have HY := Aside0.mk hy_
  clear hy_ hb_ hk_
  have n_ := Aside0.mk (Kd.R_kept HX1.out HK20.out (fun k_ h_ h2_ => by have z1 := HZ1.out; have z2 := HZ2.out; have z3 := HZ3.out; have z4 := HZ4.out; have z5 := HZ5.out; have z6 := HZ6.out; have z7 := HZ7.out; have z8 := HZ8.out; have z9 := HZ9.out; have z10 := HZ10.out; have z11 := HZ11.out; have z12 := HZ12.out; have z13 := HZ13.out; have z14 := HZ14.out; have z15 := HZ15.out; have z16 := HZ16.out; have z17 := HZ17.out; have z18 := HZ18.out; have z19 := HZ19.out; have z20 := HZ20.out; omega))
  clear HX1
  have HX1 := n_
  clear n_
  have n_ := Aside0.mk (Kd.R_kept HX2.out HK20.out (fun k_ h_ h2_ => by have z1 := HZ1.out; have z2 := HZ2.out; have z3 := HZ3.out; have z4 := HZ4.out; have z5 := HZ5.out; have z6 := HZ6.out; have z7 := HZ7.out; have z8 := HZ8.out; have z9 := HZ9.out; have z10 := HZ10.out; have z11 := HZ11.out; have z12 := HZ12.out; have z13 := HZ13.out; have z14 := HZ14.out; have z15 := HZ15.out; have z16 := HZ16.out; have z17 := HZ17.out; have z18 := HZ18.out; have z19 := HZ19.out; have z20 := HZ20.out; omega))
  clear HX2
  have HX2 := n_
  clear n_
  have n_ := Aside0.mk (Kd.S_kept HX3.out HK20.out (fun k_ h_ h2_ => by have z1 := HZ1.out; have z2 := HZ2.out; have z3 := HZ3.out; have z4 := HZ4.out; have z5 := HZ5.out; have z6 := HZ6.out; have z7 := HZ7.out; have z8 := HZ8.out; have z9 := HZ9.out; have z10 := HZ10.out; have z11 := HZ11.out; have z12 := HZ12.out; have z13 := HZ13.out; have z14 := HZ14.out; have z15 := HZ15.out; have z16 := HZ16.out; have z17 := HZ17.out; have z18 := HZ18.out; have z19 := HZ19.out; have z20 := HZ20.out; omega))
  clear HX3
  have HX3 := n_
  clear n_
  have n_ := Aside0.mk (Kd.R_kept HX4.out HK20.out (fun k_ h_ h2_ => by have z1 := HZ1.out; have z2 := HZ2.out; have z3 := HZ3.out; have z4 := HZ4.out; have z5 := HZ5.out; have z6 := HZ6.out; have z7 := HZ7.out; have z8 := HZ8.out; have z9 := HZ9.out; have z10 := HZ10.out; have z11 := HZ11.out; have z12 := HZ12.out; have z13 := HZ13.out; have z14 := HZ14.out; have z15 := HZ15.out; have z16 := HZ16.out; have z17 := HZ17.out; have z18 := HZ18.out; have z19 := HZ19.out; have z20 := HZ20.out; omega))
  clear HX4
  have HX4 := n_
  clear n_
  have n_ := Aside0.mk (Kd.R_kept HX5.out HK20.out (fun k_ h_ h2_ => by have z1 := HZ1.out; have z2 := HZ2.out; have z3 := HZ3.out; have z4 := HZ4.out; have z5 := HZ5.out; have z6 := HZ6.out; have z7 := HZ7.out; have z8 := HZ8.out; have z9 := HZ9.out; have z10 := HZ10.out; have z11 := HZ11.out; have z12 := HZ12.out; have z13 := HZ13.out; have z14 := HZ14.out; have z15 := HZ15.out; have z16 := HZ16.out; have z17 := HZ17.out; have z18 := HZ18.out; have z19 := HZ19.out; have z20 := HZ20.out; omega))
  clear HX5
  have HX5 := n_
  clear n_
  have n_ := Aside0.mk (Kd.R_kept HX7.out HK20.out (fun k_ h_ h2_ => by have z1 := HZ1.out; have z2 := HZ2.out; have z3 := HZ3.out; have z4 := HZ4.out; have z5 := HZ5.out; have z6 := HZ6.out; have z7 := HZ7.out; have z8 := HZ8.out; have z9 := HZ9.out; have z10 := HZ10.out; have z11 := HZ11.out; have z12 := HZ12.out; have z13 := HZ13.out; have z14 := HZ14.out; have z15 := HZ15.out; have z16 := HZ16.out; have z17 := HZ17.out; have z18 := HZ18.out; have z19 := HZ19.out; have z20 := HZ20.out; omega))
  clear HX7
  have HX7 := n_
  clear n_
  have n_ := Aside0.mk (Kd.R_kept HX8.out HK20.out (fun k_ h_ h2_ => by have z1 := HZ1.out; have z2 := HZ2.out; have z3 := HZ3.out; have z4 := HZ4.out; have z5 := HZ5.out; have z6 := HZ6.out; have z7 := HZ7.out; have z8 := HZ8.out; have z9 := HZ9.out; have z10 := HZ10.out; have z11 := HZ11.out; have z12 := HZ12.out; have z13 := HZ13.out; have z14 := HZ14.out; have z15 := HZ15.out; have z16 := HZ16.out; have z17 := HZ17.out; have z18 := HZ18.out; have z19 := HZ19.out; have z20 := HZ20.out; omega))
  clear HX8
  have HX8 := n_
  clear n_
  have n_ := Aside0.mk ((HK20.out.2 g2 (blk_lt HBK2.out) (fun h2_ => by have z1 := HZ1.out; have z2 := HZ2.out; have z3 := HZ3.out; have z4 := HZ4.out; have z5 := HZ5.out; have z6 := HZ6.out; have z7 := HZ7.out; have z8 := HZ8.out; have z9 := HZ9.out; have z10 := HZ10.out; have z11 := HZ11.out; have z12 := HZ12.out; have z13 := HZ13.out; have z14 := HZ14.out; have z15 := HZ15.out; have z16 := HZ16.out; have z17 := HZ17.out; have z18 := HZ18.out; have z19 := HZ19.out; have z20 := HZ20.out; have hg_ := HG2.out; omega)).trans HBK2.out)
  clear HBK2 hcz2
  have HBK2 := n_
  clear n_
  have hcz2 : w20.cell? ⟨g2, 0, none⟩ = some (.slice A0 l0.length c0) := (blk_cell HBK2.out 0).trans rfl
  have n_ := Aside0.mk ((HK20.out.2 g8 (blk_lt HBK8.out) (fun h2_ => by have z1 := HZ1.out; have z2 := HZ2.out; have z3 := HZ3.out; have z4 := HZ4.out; have z5 := HZ5.out; have z6 := HZ6.out; have z7 := HZ7.out; have z8 := HZ8.out; have z9 := HZ9.out; have z10 := HZ10.out; have z11 := HZ11.out; have z12 := HZ12.out; have z13 := HZ13.out; have z14 := HZ14.out; have z15 := HZ15.out; have z16 := HZ16.out; have z17 := HZ17.out; have z18 := HZ18.out; have z19 := HZ19.out; have z20 := HZ20.out; have hg_ := HG8.out; omega)).trans HBK8.out)
  clear HBK8 hcz8
  have HBK8 := n_
  clear n_
  have hcz8 : w20.cell? ⟨g8, 0, none⟩ = some (.slice Aq4 l0.length cq4) := (blk_cell HBK8.out 0).trans rfl
  clear HX6 HO
  have HX6 := HY
  clear HY
  go_wp2_with fail
  obtain ⟨A6_, c6_, e6_, hl6_, hC6_⟩ := Kd.S_reads HX6.out
  have hcall_ := laws_heldIntSS.calls k1 _ _ u9 1 m8 _ hC6_ hl6_ hy14.out
  rw [← e6_] at hcall_
  refine hcall_.mono ?_
  clear hcall_ hC6_ hl6_ e6_ c6_ A6_
  rintro e w21 ⟨rfl, hb0_⟩
  have hb_ := laws_FnExactPromotionOrbit.belowD hb0_
  clear hb0_
  have HB21 := Aside0.mk hb_
  have HZ21 : Aside0 (w20.heap.size ≤ w21.heap.size) := ⟨hb_.size⟩
  have HT21 := Aside0.mk (HT20.out.trans (Below.mono hb_ HT20.out.size))
  clear hb_
  have n_ := Aside0.mk (Kd.R_below HX1.out HB21.out)
  clear HX1
  have HX1 := n_
  clear n_
  have n_ := Aside0.mk (Kd.R_below HX2.out HB21.out)
  clear HX2
  have HX2 := n_
  clear n_
  have n_ := Aside0.mk (Kd.S_below HX3.out HB21.out)
  clear HX3
  have HX3 := n_
  clear n_
  have n_ := Aside0.mk (Kd.R_below HX4.out HB21.out)
  clear HX4
  have HX4 := n_
  clear n_
  have n_ := Aside0.mk (Kd.R_below HX5.out HB21.out)
  clear HX5
  have HX5 := n_
  clear n_
  have n_ := Aside0.mk (Kd.S_below HX6.out HB21.out)
  clear HX6
  have HX6 := n_
  clear n_
  have n_ := Aside0.mk (Kd.R_below HX7.out HB21.out)
  clear HX7
  have HX7 := n_
  clear n_
  have n_ := Aside0.mk (Kd.R_below HX8.out HB21.out)
  clear HX8
  have HX8 := n_
  clear n_
  have n_ := Aside0.mk (blk_below HBK2.out HB21.out)
  clear HBK2 hcz2
  have HBK2 := n_
  clear n_
  have hcz2 : w21.cell? ⟨g2, 0, none⟩ = some (.slice A0 l0.length c0) := (blk_cell HBK2.out 0).trans rfl
  have n_ := Aside0.mk (blk_below HBK8.out HB21.out)
  clear HBK8 hcz8
  have HBK8 := n_
  clear n_
  have hcz8 : w21.cell? ⟨g8, 0, none⟩ = some (.slice Aq4 l0.length cq4) := (blk_cell HBK8.out 0).trans rfl
  go_wp2_with fail
  have hcall_ := laws_toPoset.calls k1 _ _ l0 l0 _ (Kd.C_below HR0.out HT21.out) HC0.out hy3.out
  refine hcall_.mono ?_
  clear hcall_ 
  rintro e w22 ⟨v9x, rfl, hx9_, hb_⟩
  have HB22 := Aside0.mk hb_
  have HZ22 : Aside0 (w21.heap.size ≤ w22.heap.size) := ⟨hb_.size⟩
  have HT22 := Aside0.mk (HT21.out.trans (Below.mono hb_ HT21.out.size))
  clear hb_
  have n_ := Aside0.mk (Kd.R_below HX1.out HB22.out)
  clear HX1
  have HX1 := n_
  clear n_
  have n_ := Aside0.mk (Kd.R_below HX2.out HB22.out)
  clear HX2
  have HX2 := n_
  clear n_
  have n_ := Aside0.mk (Kd.S_below HX3.out HB22.out)
  clear HX3
  have HX3 := n_
  clear n_
  have n_ := Aside0.mk (Kd.R_below HX4.out HB22.out)
  clear HX4
  have HX4 := n_
  clear n_
  have n_ := Aside0.mk (Kd.R_below HX5.out HB22.out)
  clear HX5
  have HX5 := n_
  clear n_
  have n_ := Aside0.mk (Kd.S_below HX6.out HB22.out)
  clear HX6
  have HX6 := n_
  clear n_
  have n_ := Aside0.mk (Kd.R_below HX7.out HB22.out)
  clear HX7
  have HX7 := n_
  clear n_
  have n_ := Aside0.mk (Kd.R_below HX8.out HB22.out)
  clear HX8
  have HX8 := n_
  clear n_
  have n_ := Aside0.mk (blk_below HBK2.out HB22.out)
  clear HBK2 hcz2
  have HBK2 := n_
  clear n_
  have hcz2 : w22.cell? ⟨g2, 0, none⟩ = some (.slice A0 l0.length c0) := (blk_cell HBK2.out 0).trans rfl
  have n_ := Aside0.mk (blk_below HBK8.out HB22.out)
  clear HBK8 hcz8
  have HBK8 := n_
  clear n_
  have hcz8 : w22.cell? ⟨g8, 0, none⟩ = some (.slice Aq4 l0.length cq4) := (blk_cell HBK8.out 0).trans rfl
  have HX9 := Aside0.mk (Kd.R_lower (Kd.R_mono (ok' := fun k_ => w21.heap.size ≤ k_ ∧ k_ < w22.heap.size) (Kd.R_bound hx9_) (fun k_ h_ => ⟨h_.2.1, h_.2.2.1⟩)) HT21.out.size)
  clear hx9_
  go_wp2_with fail
  have hcall_ := laws_toIntS.calls k1 _ _ l1 l1 _ (Kd.C_below HR1.out HT22.out) HC1.out hy4.out
  refine hcall_.mono ?_
  clear hcall_ 
  rintro e w23 ⟨v10x, rfl, hx10_, hb_⟩
  have HB23 := Aside0.mk hb_
  have HZ23 : Aside0 (w22.heap.size ≤ w23.heap.size) := ⟨hb_.size⟩
  have HT23 := Aside0.mk (HT22.out.trans (Below.mono hb_ HT22.out.size))
  clear hb_
  have n_ := Aside0.mk (Kd.R_below HX1.out HB23.out)
  clear HX1
  have HX1 := n_
  clear n_
  have n_ := Aside0.mk (Kd.R_below HX2.out HB23.out)
  clear HX2
  have HX2 := n_
  clear n_
  have n_ := Aside0.mk (Kd.S_below HX3.out HB23.out)
  clear HX3
  have HX3 := n_
  clear n_
  have n_ := Aside0.mk (Kd.R_below HX4.out HB23.out)
  clear HX4
  have HX4 := n_
  clear n_
  have n_ := Aside0.mk (Kd.R_below HX5.out HB23.out)
  clear HX5
  have HX5 := n_
  clear n_
  have n_ := Aside0.mk (Kd.S_below HX6.out HB23.out)
  clear HX6
  have HX6 := n_
  clear n_
  have n_ := Aside0.mk (Kd.R_below HX7.out HB23.out)
  clear HX7
  have HX7 := n_
  clear n_
  have n_ := Aside0.mk (Kd.R_below HX8.out HB23.out)
  clear HX8
  have HX8 := n_
  clear n_
  have n_ := Aside0.mk (Kd.R_below HX9.out HB23.out)
  clear HX9
  have HX9 := n_
  clear n_
  have n_ := Aside0.mk (blk_below HBK2.out HB23.out)
  clear HBK2 hcz2
  have HBK2 := n_
  clear n_
  have hcz2 : w23.cell? ⟨g2, 0, none⟩ = some (.slice A0 l0.length c0) := (blk_cell HBK2.out 0).trans rfl
  have n_ := Aside0.mk (blk_below HBK8.out HB23.out)
  clear HBK8 hcz8
  have HBK8 := n_
  clear n_
  have hcz8 : w23.cell? ⟨g8, 0, none⟩ = some (.slice Aq4 l0.length cq4) := (blk_cell HBK8.out 0).trans rfl
  have HX10 := Aside0.mk (Kd.R_lower (Kd.R_mono (ok' := fun k_ => w22.heap.size ≤ k_ ∧ k_ < w23.heap.size) (Kd.R_bound hx10_) (fun k_ h_ => ⟨h_.2.1, h_.2.2.1⟩)) HT22.out.size)
  clear hx10_
  go_wp2_with fail
  obtain ⟨A9_, c9_, e9_, hl9_, hC9_⟩ := Kd.R_reads HX9.out
  obtain ⟨A10_, c10_, e10_, hl10_, hC10_⟩ := Kd.R_reads HX10.out
  have hcall_ := impl_PromotionOrbit.calls k _ _ l0 _ _ l1 v2 v3 _ hC9_ hl9_ hC10_ hl10_ hy6.out
  rw [← e9_] at hcall_
  rw [← e10_] at hcall_
  refine hcall_.mono ?_
  clear hcall_ hC9_ hl9_ e9_ c9_ A9_ hC10_ hl10_ e10_ c10_ A10_
  rintro e w24 ⟨v11x, rfl, hx11_, hb_⟩
  have HB24 := Aside0.mk hb_
  have HZ24 : Aside0 (w23.heap.size ≤ w24.heap.size) := ⟨hb_.size⟩
  have HT24 := Aside0.mk (HT23.out.trans (Below.mono hb_ HT23.out.size))
  clear hb_
  have n_ := Aside0.mk (Kd.R_below HX1.out HB24.out)
  clear HX1
  have HX1 := n_
  clear n_
  have n_ := Aside0.mk (Kd.R_below HX2.out HB24.out)
  clear HX2
  have HX2 := n_
  clear n_
  have n_ := Aside0.mk (Kd.S_below HX3.out HB24.out)
  clear HX3
  have HX3 := n_
  clear n_
  have n_ := Aside0.mk (Kd.R_below HX4.out HB24.out)
  clear HX4
  have HX4 := n_
  clear n_
  have n_ := Aside0.mk (Kd.R_below HX5.out HB24.out)
  clear HX5
  have HX5 := n_
  clear n_
  have n_ := Aside0.mk (Kd.S_below HX6.out HB24.out)
  clear HX6
  have HX6 := n_
  clear n_
  have n_ := Aside0.mk (Kd.R_below HX7.out HB24.out)
  clear HX7
  have HX7 := n_
  clear n_
  have n_ := Aside0.mk (Kd.R_below HX8.out HB24.out)
  clear HX8
  have HX8 := n_
  clear n_
  have n_ := Aside0.mk (Kd.R_below HX9.out HB24.out)
  clear HX9
  have HX9 := n_
  clear n_
  have n_ := Aside0.mk (Kd.R_below HX10.out HB24.out)
  clear HX10
  have HX10 := n_
  clear n_
  have n_ := Aside0.mk (blk_below HBK2.out HB24.out)
  clear HBK2 hcz2
  have HBK2 := n_
  clear n_
  have hcz2 : w24.cell? ⟨g2, 0, none⟩ = some (.slice A0 l0.length c0) := (blk_cell HBK2.out 0).trans rfl
  have n_ := Aside0.mk (blk_below HBK8.out HB24.out)
  clear HBK8 hcz8
  have HBK8 := n_
  clear n_
  have hcz8 : w24.cell? ⟨g8, 0, none⟩ = some (.slice Aq4 l0.length cq4) := (blk_cell HBK8.out 0).trans rfl
  have HX11 := Aside0.mk (Kd.S_lower (Kd.S_mono (ok' := fun k_ => w23.heap.size ≤ k_ ∧ k_ < w24.heap.size) (Kd.S_bound hx11_) (fun k_ h_ => ⟨h_.2.1, h_.2.2.1⟩)) HT23.out.size)
  clear hx11_
  go_wp2_with fail
  obtain ⟨A11_, c11_, e11_, hl11_, hC11_⟩ := Kd.S_reads HX11.out
  obtain ⟨A3_, c3_, e3_, hl3_, hC3_⟩ := Kd.S_reads HX3.out
  have hcall_ := laws_eqIntSS.calls k1 _ _ v2 _ _ v2 true _ hC11_ hl11_ hC3_ hl3_ hy7.out
  rw [← e11_] at hcall_
  rw [← e3_] at hcall_
  refine hcall_.mono ?_
  clear hcall_ hC11_ hl11_ e11_ c11_ A11_ hC3_ hl3_ e3_ c3_ A3_
  rintro e w25 ⟨rfl, hb0_⟩
  have hb_ := laws_FnExactPromotionOrbit.belowD hb0_
  clear hb0_
  have HB25 := Aside0.mk hb_
  have HZ25 : Aside0 (w24.heap.size ≤ w25.heap.size) := ⟨hb_.size⟩
  have HT25 := Aside0.mk (HT24.out.trans (Below.mono hb_ HT24.out.size))
  clear hb_
  have n_ := Aside0.mk (Kd.R_below HX1.out HB25.out)
  clear HX1
  have HX1 := n_
  clear n_
  have n_ := Aside0.mk (Kd.R_below HX2.out HB25.out)
  clear HX2
  have HX2 := n_
  clear n_
  have n_ := Aside0.mk (Kd.S_below HX3.out HB25.out)
  clear HX3
  have HX3 := n_
  clear n_
  have n_ := Aside0.mk (Kd.R_below HX4.out HB25.out)
  clear HX4
  have HX4 := n_
  clear n_
  have n_ := Aside0.mk (Kd.R_below HX5.out HB25.out)
  clear HX5
  have HX5 := n_
  clear n_
  have n_ := Aside0.mk (Kd.S_below HX6.out HB25.out)
  clear HX6
  have HX6 := n_
  clear n_
  have n_ := Aside0.mk (Kd.R_below HX7.out HB25.out)
  clear HX7
  have HX7 := n_
  clear n_
  have n_ := Aside0.mk (Kd.R_below HX8.out HB25.out)
  clear HX8
  have HX8 := n_
  clear n_
  have n_ := Aside0.mk (Kd.R_below HX9.out HB25.out)
  clear HX9
  have HX9 := n_
  clear n_
  have n_ := Aside0.mk (Kd.R_below HX10.out HB25.out)
  clear HX10
  have HX10 := n_
  clear n_
  have n_ := Aside0.mk (Kd.S_below HX11.out HB25.out)
  clear HX11
  have HX11 := n_
  clear n_
  have n_ := Aside0.mk (blk_below HBK2.out HB25.out)
  clear HBK2 hcz2
  have HBK2 := n_
  clear n_
  have hcz2 : w25.cell? ⟨g2, 0, none⟩ = some (.slice A0 l0.length c0) := (blk_cell HBK2.out 0).trans rfl
  have n_ := Aside0.mk (blk_below HBK8.out HB25.out)
  clear HBK8 hcz8
  have HBK8 := n_
  clear n_
  have hcz8 : w25.cell? ⟨g8, 0, none⟩ = some (.slice Aq4 l0.length cq4) := (blk_cell HBK8.out 0).trans rfl
  go_wp2_with fail
  obtain ⟨A6_, c6_, e6_, hl6_, hC6_⟩ := Kd.S_reads HX6.out
  have hcall_ := laws_heldIntSS.calls k1 _ _ u9 1 m8 _ hC6_ hl6_ hy14.out
  rw [← e6_] at hcall_
  refine hcall_.mono ?_
  clear hcall_ hC6_ hl6_ e6_ c6_ A6_
  rintro e w26 ⟨rfl, hb0_⟩
  have hb_ := laws_FnExactPromotionOrbit.belowD hb0_
  clear hb0_
  have HB26 := Aside0.mk hb_
  have HZ26 : Aside0 (w25.heap.size ≤ w26.heap.size) := ⟨hb_.size⟩
  have HT26 := Aside0.mk (HT25.out.trans (Below.mono hb_ HT25.out.size))
  clear hb_
  have n_ := Aside0.mk (Kd.R_below HX1.out HB26.out)
  clear HX1
  have HX1 := n_
  clear n_
  have n_ := Aside0.mk (Kd.R_below HX2.out HB26.out)
  clear HX2
  have HX2 := n_
  clear n_
  have n_ := Aside0.mk (Kd.S_below HX3.out HB26.out)
  clear HX3
  have HX3 := n_
  clear n_
  have n_ := Aside0.mk (Kd.R_below HX4.out HB26.out)
  clear HX4
  have HX4 := n_
  clear n_
  have n_ := Aside0.mk (Kd.R_below HX5.out HB26.out)
  clear HX5
  have HX5 := n_
  clear n_
  have n_ := Aside0.mk (Kd.S_below HX6.out HB26.out)
  clear HX6
  have HX6 := n_
  clear n_
  have n_ := Aside0.mk (Kd.R_below HX7.out HB26.out)
  clear HX7
  have HX7 := n_
  clear n_
  have n_ := Aside0.mk (Kd.R_below HX8.out HB26.out)
  clear HX8
  have HX8 := n_
  clear n_
  have n_ := Aside0.mk (Kd.R_below HX9.out HB26.out)
  clear HX9
  have HX9 := n_
  clear n_
  have n_ := Aside0.mk (Kd.R_below HX10.out HB26.out)
  clear HX10
  have HX10 := n_
  clear n_
  have n_ := Aside0.mk (Kd.S_below HX11.out HB26.out)
  clear HX11
  have HX11 := n_
  clear n_
  have n_ := Aside0.mk (blk_below HBK2.out HB26.out)
  clear HBK2 hcz2
  have HBK2 := n_
  clear n_
  have hcz2 : w26.cell? ⟨g2, 0, none⟩ = some (.slice A0 l0.length c0) := (blk_cell HBK2.out 0).trans rfl
  have n_ := Aside0.mk (blk_below HBK8.out HB26.out)
  clear HBK8 hcz8
  have HBK8 := n_
  clear n_
  have hcz8 : w26.cell? ⟨g8, 0, none⟩ = some (.slice Aq4 l0.length cq4) := (blk_cell HBK8.out 0).trans rfl
  go_wp2
  go_ret
  exact ⟨by first | rfl | (simp; done) | (simp [*]; done), by repeat (first | (with_reducible first | exact HT26.out | apply below_alloc | apply pw_below_drewN | apply below_drew1) | exact HT26.out)⟩
open Classical in
noncomputable def laws_FnExactPromotionOrbit.f (k : Nat) (l0 : List Int) (l1 : List Int) : Option Bool := if ∃ k1 : Nat, (∃ (_ : Unit), (decide ((l1.length : Int) > 1048576) = true)) ∨ (∃ (z1 : Int), (decide ((l1.length : Int) > 1048576) = false) ∧ (laws_szPoset.f l0 1048576 = some z1) ∧ (decide (z1 < 0) = true)) ∨ (∃ (z1 : Int) (v2 : List (List Int)) (v3 : Bool) (m4 : Int) (u5 : List Int) (m6 : Int) (u7 : List Int) (m8 : Int) (u9 : List (List Int)), (decide ((l1.length : Int) > 1048576) = false) ∧ (laws_szPoset.f l0 1048576 = some z1) ∧ (decide (z1 < 0) = false) ∧ (laws_toPoset.f k1 l0 = some l0) ∧ (laws_toIntS.f k1 l1 = some l1) ∧ (spec_PromotionOrbit.f k l0 l1 = some (v2, v3)) ∧ (impl_PromotionOrbit.f k l0 l1 = some (v2, v3)) ∧ (laws_eqIntSS.f k1 v2 v2 = some true) ∧ (laws_eqPoset.f k1 l0 l0 = some true) ∧ (laws_eqIntS.f k1 l1 l1 = some true) ∧ (laws_markPoset.f k1 l0 1 = some (m4, u5)) ∧ (laws_markIntS.f k1 l1 m4 = some (m6, u7)) ∧ (decide (m6 < 0) = false) ∧ (laws_markIntSS.f k1 v2 1 = some (m8, u9)) ∧ (laws_heldIntSS.f k1 u9 1 = some m8) ∧ (decide (m8 < 0) = false)) then some true else none
theorem laws_FnExactPromotionOrbit.calls (k : Nat) (A0 : Option Addr) (c0 : Nat) (l0 : List Int) (A1 : Option Addr) (c1 : Nat) (l1 : List Int) (r : Bool) (w : World) (hr0 : Kd.C (Kd.int .i64) w A0 l0.length l0) (hc0 : l0.length ≤ c0) (hr1 : Kd.C (Kd.int .i64) w A1 l1.length l1) (hc1 : l1.length ≤ c1) (h : laws_FnExactPromotionOrbit.f k l0 l1 = some r) :
    Calls Try.prog 12 #[.agg #[.slice A0 l0.length c0], .slice A1 l1.length c1] w fun e w' => e = .returned (.bool r) ∧ Below w.heap.size w w' := by
  unfold laws_FnExactPromotionOrbit.f at h
  split at h
  · rename_i hh
    obtain rfl := Option.some.inj h
    obtain ⟨k1, hh⟩ := hh
    rcases hh with ⟨_, hx⟩ | ⟨z1, hy0, hy1, hx⟩ | ⟨z1, v2, v3, m4, u5, m6, u7, m8, u9, hy0, hy1, hy2, hy3, hy4, hy5, hy6, hy7, hy8, hy9, hy10, hy11, hy12, hy13, hy14, hy15⟩
    · exact laws_FnExactPromotionOrbit.calls0 k k1 _ _ l0 _ _ l1  w hr0 hc0 hr1 hc1 hx
    · exact laws_FnExactPromotionOrbit.calls1 k k1 _ _ l0 _ _ l1 z1 w hr0 hc0 hr1 hc1 hy0 hy1 hx
    · exact laws_FnExactPromotionOrbit.calls2 k k1 _ _ l0 _ _ l1 z1 v2 v3 m4 u5 m6 u7 m8 u9 w hr0 hc0 hr1 hc1 hy0 hy1 hy2 hy3 hy4 hy5 hy6 hy7 hy8 hy9 hy10 hy11 hy12 hy13 hy14 hy15
  · cases h
end Go.Proofs.Ytjahclncpgllmaa.F
end
