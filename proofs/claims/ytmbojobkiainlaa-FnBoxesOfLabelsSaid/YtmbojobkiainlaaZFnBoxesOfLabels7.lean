/- Part 7 of the texts below the row of FnBoxesOfLabels: printed functions with their contracts, and plain lemmas. No condition. -/
import Derived.Test.YtmbojobkiainlaaZFnBoxesOfLabels6
import Derived.SizedLaws
import Derived.ChangeSlices
import Derived.WalkKit
import Derived.ProofKit
import Derived.OpenShut
import Derived.Lib.SmallJoins
import Derived.Deep.Matrix
section
section
namespace Go.Proofs.YtmbojobkiainlaaW.PrintWords
open Go.ChangeShapes Go.WideShapes
theorem sized_ints {H : Type} {enc : TypeId × Value → H} {P : Program} {W : World} {base : Nat} {spare : Nat → Bool} {held : Bool} {t e : TypeId} {k : IntKind} {a : Option Addr} {len cap : Nat} {d : DataW H} {ps : List MemPlace} {ts : List TypeId} {ds : List (DataW H)} {j : Nat}
 (hsz : (DataW.weightsEach P ts ds).all (· ≤ reachBytes) = true) (ht : ts[j]? = some t) (hd : ds[j]? = some d) (hu : P.underlying t = some (.slice e)) (he : P.underlying e = some (.int k)) (hc : P.cellsOf e = 1) {B : Nat} (hB : P.bytesOf e = B)
 (h : DataW.Trod enc P W base spare held t (.slice a len cap) d ps) : len * B ≤ 140737488351232 := by
 obtain ⟨fuel, hf⟩ := h
 rcases open_ints hu he hc hf with ⟨hcs, _⟩ | ⟨x, l, c, zs, hcs, _, hl, _, hz, hx, _, _⟩
 ·simp [Value.cells] at hcs
  obtain ⟨rfl, rfl, rfl⟩ := hcs
  simp
 ·simp [Value.cells] at hcs
  obtain ⟨rfl, rfl, rfl⟩ := hcs
  obtain ⟨hx, _⟩ := Prod.mk.inj hx
  subst hx
  have z := sized_slice hsz ht hd hu
  rw [hB] at z
  have hl2 : len ≤ zs.length := by
   rw [hz]
   split
   ·exact hl
   ·exact Nat.le_refl _
  have h1 : (lits (H := H) k (zs.take len)).length + (lits (H := H) k (zs.drop len)).length = zs.length := by
   simp [lits]
   omega
  rw [h1] at z
  exact Nat.le_trans (Nat.mul_le_mul_right _ hl2) z
end Go.Proofs.YtmbojobkiainlaaW.PrintWords
end
end

section
namespace Go.Proofs.YtmbojobkiainlaaW.RowKit
open Go.ChangeShapes Go.WideShapes Go.Deep Go.RowKit Go.Proofs.YtmbojobkiainlaaW.PrintWords
variable {H : Type} {enc : TypeId × Value → H} {P : Program} {w : World} {base : Nat} {held : Bool}
structure PxInts (w : World) (k : IntKind) (A : Option Addr) (c : Nat) (l : List Int) : Prop where
 le : l.length ≤ c
 c : Kd.C (Kd.int k) w A l.length l
 m : l.length ≤ maxLen
 wf : ∀ n ∈ l, (Lit.int k n).wf = true
theorem ints_of {t e : TypeId} {k : IntKind} {fuel : Nat} {cs : List Value} {x : DataW H × List MemPlace} (ht : P.underlying t = some (.slice e)) (he : P.underlying e = some (.int k)) (hc : P.cellsOf e = 1)
 (h : DataW.trod enc P w base (fun _ => true) held fuel t cs = some x) : ∃ A c l, cs = [.slice A (List.length l) c] ∧ PxInts w k A c l := by
 rcases open_ints ht he hc h with ⟨hcs, _⟩ | ⟨a, len, cap, zs, hcs, _, hl, hm, hz, _, hcell, hwz⟩
 ·obtain ⟨l, e1, h1, h2, h3, h4⟩ := ReadsInt.ofRowC (k := k) (w := w) (a := none) (len := 0) (cap := 0) (zs := []) (.inl ⟨rfl, rfl, rfl, rfl⟩)
  exact ⟨none, 0, l, by rw [hcs, ← e1], h4, Kd.C_of_reads (d := (0 : Int)) (h1 := fun _ => rfl) h1, h2, h3⟩
 ·obtain ⟨l, e1, h1, h2, h3, h4⟩ := ReadsInt.ofRowC (k := k) (w := w) (a := some a) (len := len) (cap := cap) (zs := zs) (.inr ⟨_, rfl, hl, hm, by simpa using hz, hcell, hwz⟩)
  exact ⟨some a, cap, l, by rw [hcs, ← e1], h4, Kd.C_of_reads (d := (0 : Int)) (h1 := fun _ => rfl) h1, h2, h3⟩
theorem open_sl {r : Reach} {b0 : Nat} {t e : TypeId} {k : IntKind} {v : Value} {d : DataW H} {p : List MemPlace} (ht : P.underlying t = some (.slice e)) (he : P.underlying e = some (.int k)) (hc : P.cellsOf e = 1)
 (hv : Value.okWide P w r b0 t v) (h : DataW.Trod enc P w base (fun _ => true) held t v d p) : ∃ A c l, v = .slice A (List.length l) c ∧ PxInts w k A c l := by
 obtain ⟨a, len, cap, rfl⟩ := okWide_slice ht hv
 obtain ⟨fuel, hf⟩ := h
 obtain ⟨A, c, l, hcs, hi⟩ := ints_of ht he hc hf
 simp [Value.cells] at hcs
 obtain ⟨rfl, rfl, rfl⟩ := hcs
 exact ⟨_, _, l, rfl, hi⟩
theorem open_st {r : Reach} {b0 : Nat} {t q e : TypeId} {k : IntKind} {f0 : Field} {v : Value} {d : DataW H} {p : List MemPlace} (hs : P.underlying t = some (.struct #[f0])) (hone : oneCellFields P #[f0] = true) (hC : P.cellsOf t = 1)
 (hq : f0.type = q) (ht : P.underlying q = some (.slice e)) (he : P.underlying e = some (.int k)) (hc : P.cellsOf e = 1)
 (hv : Value.okWide P w r b0 t v) (h : DataW.Trod enc P w base (fun _ => true) held t v d p) : ∃ A c l, v = .agg #[.slice A (List.length l) c] ∧ PxInts w k A c l := by
 subst hq
 obtain ⟨cs, rfl, hsz⟩ := okWide_struct hs hv
 obtain ⟨c0, rfl⟩ : ∃ c0, cs = #[c0] := by
  obtain ⟨l⟩ := cs
  match l, hsz.trans hC with
  | [c0], _ => exact ⟨c0, rfl⟩
 obtain ⟨fuel, hf⟩ := h
 obtain ⟨y0, n, _, _, h0⟩ := trod_struct1 hs hf
 obtain ⟨o0, k0⟩ := Go.Deep.hone_of hone 0 f0 rfl
 obtain ⟨A, c, l, hcs, hi⟩ := ints_of ht he hc (by simpa [Value.cells, o0, k0] using h0 : DataW.trod enc P w base (fun _ => true) held n f0.type [c0] = some y0)
 simp at hcs
 subst hcs
 exact ⟨A, c, l, rfl, hi⟩
structure PxRows (w : World) (k : IntKind) (q : TypeId) (A : Option Addr) (c : Nat) (l : List (List Int)) : Prop where
 le : l.length ≤ c
 c : Kd.C (Kd.slice q (Kd.int k)) w A l.length l
 m : l.length ≤ maxLen
 m2 : ∀ r ∈ l, r.length ≤ maxLen
 wf : ∀ r ∈ l, ∀ n ∈ r, (Lit.int k n).wf = true
theorem open_ss {r : Reach} {b0 : Nat} {t e q : TypeId} {k : IntKind} {v : Value} {d : DataW H} {p : List MemPlace} (ht : P.underlying t = some (.slice e)) (he : P.underlying e = some (.slice q)) (hq : P.underlying q = some (.int k))
 (ce : P.cellsOf e = 1) (cq : P.cellsOf q = 1)
 (hv : Value.okWide P w r b0 t v) (h : DataW.Trod enc P w base (fun _ => true) held t v d p) : ∃ A c l, v = .slice A (List.length l) c ∧ PxRows w k q A c l := by
 obtain ⟨a, len, cap, rfl⟩ := okWide_slice ht hv
 obtain ⟨fuel, hf⟩ := h
 rcases Go.Deep.open_int_rows ht he hq ce cq hf with ⟨hcs, _⟩ | ⟨x, len', cap', AA, L, C, Z, hcs, _, hl, hm, _, hr⟩
 ·simp [Value.cells] at hcs
  obtain ⟨rfl, rfl, rfl⟩ := hcs
  exact ⟨none, 0, [], rfl, Nat.le_refl _, ⟨rfl, Nat.zero_le _, fun h => absurd h (Nat.lt_irrefl _)⟩, Nat.zero_le _, (fun _ h => by cases h), (fun _ h => by cases h)⟩
 ·simp [Value.cells] at hcs
  obtain ⟨rfl, rfl, rfl⟩ := hcs
  have each : ∀ r, r < cap → PxInts w k (AA r) (C r) ((Z r).take (L r)) ∧ L r = ((Z r).take (L r)).length := by
   intro r hrc
   obtain ⟨_, h1, h2, h3, h4, h5, h6⟩ := hr r hrc
   have hz : ((Z r).take (L r)).length = L r := by rw [List.length_take]; omega
   refine ⟨⟨by omega, ⟨by rfl, by unfold maxLen at h2; omega, fun hp => ?_⟩, by omega, fun n hn => h4 n (List.mem_of_mem_take hn)⟩, hz.symm⟩
   cases ha : AA r with
   | none => have := h5 ha; omega
   | some ad =>
    refine ⟨ad, rfl, fun j p hj => ⟨[.int k p], rfl, rfl, fun i u hu => ?_⟩⟩
    have hj1 := (List.getElem?_eq_some_iff.1 hj).1
    have hjl : j < L r := by omega
    cases i with
    | succ i => simp at hu
    | zero =>
     simp at hu
     subst hu
     have := (h6 ad ha).2 j (by omega)
     rw [List.getD_eq_getElem?_getD, ← List.getElem?_take_of_lt hjl, hj] at this
     have e1 : j * (Kd.int k).sz + 0 = j := by show j * 1 + 0 = j; omega
     rw [e1]
     exact this
  refine ⟨some x, cap, (List.range len).map (fun r => (Z r).take (L r)), by simp, ⟨by simpa using hl, ⟨by simp, ?_, fun hp => ⟨x, rfl, fun j p hj => ?_⟩⟩, by simp; omega, ?_, ?_⟩⟩
  ·simp; unfold maxLen at hm; omega
  ·simp only [List.getElem?_map, Option.map_eq_some_iff] at hj
   obtain ⟨r, hr1, rfl⟩ := hj
   obtain ⟨hr2, hr3⟩ := List.getElem?_eq_some_iff.1 hr1
   simp at hr2 hr3
   subst hr3
   obtain ⟨hi, hL⟩ := each j (by omega)
   refine ⟨[.slice (AA j) ((Z j).take (L j)).length (C j)], rfl, ⟨AA j, C j, rfl, hi.le, hi.c⟩, fun i u hu => ?_⟩
   cases i with
   | succ i => simp at hu
   | zero =>
    simp only [List.getElem?_cons_zero, Option.some.injEq] at hu
    subst hu
    have e1 : j * (Kd.slice q (Kd.int k)).sz + 0 = j := by show j * 1 + 0 = j; omega
    rw [e1, ← hL]
    exact (hr j (by omega)).1
  ·intro r hr1
   obtain ⟨j, hj, rfl⟩ := List.mem_map.1 hr1
   rw [List.mem_range] at hj
   exact (each j (by omega)).1.m
  ·intro r hr1
   obtain ⟨j, hj, rfl⟩ := List.mem_map.1 hr1
   rw [List.mem_range] at hj
   exact (each j (by omega)).1.wf
end Go.Proofs.YtmbojobkiainlaaW.RowKit
end

section
namespace Go.Proofs.Ytmbojobkiainlaa.F
open Go.RowKit Go.Proofs.YtmbojobkiainlaaW.PrintWords Go.Proofs.YtmbojobkiainlaaW.PrintLast Go.Proofs.YtmbojobkiainlaaW.PrintMore Go.Proofs.YtmbojobkiainlaaW.RowKit
set_option linter.unusedVariables false
def laws_FnBoxesOfLabels.Pure : Prop := ∀ (l0 : List Int) (l1 : List Int), l0.length ≤ maxLen → (∀ n ∈ l0, (Lit.int .u8 n).wf = true) → l1.length ≤ maxLen → (∀ n ∈ l1, (Lit.int .u8 n).wf = true) → ∃ k, laws_FnBoxesOfLabels.f k l0 l1 = some true
theorem laws_FnBoxesOfLabels.walk (P : laws_FnBoxesOfLabels.Pure) (A0 : Option Addr) (c0 : Nat) (l0 : List Int) (A1 : Option Addr) (c1 : Nat) (l1 : List Int) (w : World) (i0 : PxInts w .u8 A0 c0 l0) (i1 : PxInts w .u8 A1 c1 l1) :
 Calls Try.prog 5 #[.slice A0 l0.length c0, .slice A1 l1.length c1] w fun e w' => e = .returned (.bool true) ∧ Below w.heap.size w w' := by
 obtain ⟨k, h⟩ := P l0 l1 i0.m i0.wf i1.m i1.wf
 refine (laws_FnBoxesOfLabels.calls k _ _ l0 _ _ l1 true w i0.c i0.le i1.c i1.le h).mono ?_
 rintro e w' ⟨rfl, hd⟩
 exact ⟨rfl, hd⟩
end Go.Proofs.Ytmbojobkiainlaa.F
end

section
namespace Go.Proofs.Ytmbojobkiainlaa.Q
open Go.RowKit Go.Proofs.YtmbojobkiainlaaW.PrintWords Go.Proofs.Ytmbojobkiainlaa.F
set_option linter.unusedVariables false
theorem wf_sm {n : Int} (h0 : -1000000 ≤ n) (h1 : n ≤ 4611686018427387904) : (Lit.int .i64 n).wf = true := WalkArith.wf_i64 (by omega)
theorem cAt_0 : cAt 0 0 := ⟨Int.le_refl _, Int.le_refl _⟩
theorem bound_ok {l : List Int} (hl : bytesL l) {B : Nat} {a : Int} (s : Int) {n : Nat} (hn : n ≤ 10) (ha : cAt B a) (hB : B ≤ 10000) : ∃ m a' s', spec_l1Cur_bound.f l a s (n : Int) = some (m, a', s') ∧ -1 ≤ m ∧ m ≤ 20 := by
 unfold spec_l1Cur_bound.f
 obtain ⟨b, a0, s0, e0, h0⟩ := one_ok hl s 10 ha (by omega)
 rw [e0]
 simp only [Option.bind_some]
 cases b with
 | true =>
  obtain ⟨x, a1, s1, e1, _, hx⟩ := among_ok hl s0 h0 (by omega) (m := ([(-1), 0, 12, 13] : List Int)) (by simp)
  rw [if_pos rfl, e1]
  refine ⟨_, _, _, rfl, ?_⟩
  simp only [List.mem_cons, List.mem_nil_iff, or_false] at hx
  show -1 ≤ x ∧ x ≤ 20
  omega
 | false =>
  obtain ⟨x, a1, s1, e1, _, x0, x1⟩ := cpick_ok hl s0 (wrap64 ((n : Int) + 1)) h0 (by omega)
  rw [if_neg Bool.false_ne_true, e1]
  refine ⟨_, _, _, rfl, ?_⟩
  show -1 ≤ x ∧ x ≤ 20
  rw [wid (by omega) (by omega)] at x1
  omega
def pairsOf : List (List Int) := [[1, 1], [1, 4], [2, 2], [2, 3], [3, 2], [2, 4], [4, 2], [3, 3], [2, 5], [5, 2], [3, 1]]
theorem pairs_all : (List.range 11).all (fun i => decide (2 = ((pairsOf.getD i []).length : Int) ∧ (Lit.int .i64 (rd (pairsOf.getD i []) 0)).wf = true ∧ (Lit.int .i64 (rd (pairsOf.getD i []) 1)).wf = true)) = true := by decide +kernel
theorem sides_ok {l : List Int} (hl : bytesL l) {B : Nat} {a : Int} (s : Int) (ha : cAt B a) (hB : B ≤ 10000) : ∃ x y a' s', spec_l1Cur_sides.f l a s = some (x, y, a', s') ∧ (Lit.int .i64 x).wf = true ∧ (Lit.int .i64 y).wf = true ∧ cAt (B + 6) a' := by
 unfold spec_l1Cur_sides.f
 obtain ⟨b, a0, s0, e0, h0⟩ := one_ok hl s 10 ha (by omega)
 simp only [Option.bind_some]
 rw [e0]
 simp only [Option.bind_some]
 cases b with
 | true =>
  obtain ⟨x, a1, s1, e1, g1, x0, x1⟩ := cpick_ok hl s0 13 h0 (by omega)
  obtain ⟨y, a2, s2, e2, g2, y0, y1⟩ := cpick_ok hl s1 13 g1 (by omega)
  rw [if_pos rfl, e1]
  simp only [Option.bind_some]
  rw [e2]
  exact ⟨_, _, _, _, rfl, wf_wrap64 _, wf_wrap64 _, g2⟩
 | false =>
  obtain ⟨x, a1, s1, e1, g1, x0, x1⟩ := cpick_ok hl s0 11 h0 (by omega)
  rw [if_neg Bool.false_ne_true]
  have e1' : spec_l1Cur_pick.f l a0 s0 (((pairsOf.length : Nat) : Int)) = some (x, a1, s1) := e1
  obtain ⟨i, rfl⟩ := Int.eq_ofNat_of_zero_le x0
  have hi : i < 11 := by omega
  have hk := of_decide_eq_true (List.all_eq_true.1 pairs_all i (List.mem_range.2 hi))
  have hrd : rd_L1 pairsOf (i : Int) = pairsOf.getD i [] := by unfold rd_L1; rw [Int.toNat_natCast]
  show ∃ x y a' s', ((spec_l1Cur_pick.f l a0 s0 ((pairsOf.length : Nat) : Int)).bind fun bt => _) = some (x, y, a', s') ∧ _
  rw [e1']
  simp only [Option.bind_some]
  refine ⟨rd (rd_L1 pairsOf (i : Int)) 0, rd (rd_L1 pairsOf (i : Int)) 1, a1, s1, ?_, ?_, ?_, cAt_mono g1 (by omega)⟩
  ·refine (if_pos x0).trans ((if_pos (show (i : Int) < ((pairsOf.length : Nat) : Int) by show (i : Int) < 11; omega)).trans ((if_pos ?_).trans (if_pos ?_)))
   ·show 0 < (((rd_L1 pairsOf (i : Int)).length : Nat) : Int)
    rw [hrd]; omega
   ·show 1 < (((rd_L1 pairsOf (i : Int)).length : Nat) : Int)
    rw [hrd]; omega
  ·rw [hrd]; exact hk.2.1
  ·rw [hrd]; exact hk.2.2
theorem drawBB_ok {l : List Int} (hl : bytesL l) : ∃ a b m, Ev (fun k => spec_DrawBoxBySum.f k l) (a, b, m) ∧ (Lit.int .i64 a).wf = true ∧ (Lit.int .i64 b).wf = true ∧ (Lit.int .i64 m).wf = true := by
 obtain ⟨x, y, a, s, e, hx, hy, h3⟩ := sides_ok hl 0 cAt_0 (by omega)
 obtain ⟨m, a1, s1, e1, m0, m1⟩ := bound_ok hl s (n := 4) (by omega) h3 (by omega)
 refine ⟨x, y, m, ?_, hx, hy, wf_sm (by omega) (by omega)⟩
 unfold spec_DrawBoxBySum.f
 have e2 : ∀ k, spec_DrawBoxCount.f k l = some (x, y, m) := fun k => by
  unfold spec_DrawBoxCount.f spec_DrawBoxCountR.f
  rw [e]
  simp only [Option.bind_some]
  have e1' : spec_l1Cur_bound.f l a s 4 = some (m, a1, s1) := e1
  rw [e1']; rfl
 exact Ev.bind ⟨0, fun k _ => e2 k⟩ (Ev.now _)
theorem drawLS_ok {l : List Int} (hl : bytesL l) : ∃ p m, Ev (fun k => spec_DrawLabelsBySum.f k l) (p, m) ∧ p.length ≤ 21 ∧ wfL p ∧ (Lit.int .i64 m).wf = true := by
 obtain ⟨p, a, s, e, h1, h2, h3⟩ := poset_ok hl 0 (most := 6) (by omega) (by omega) cAt_0 (by omega)
 obtain ⟨m, a1, s1, e1, m0, m1⟩ := bound_ok hl s (n := 3) (by omega) h3 (by omega)
 refine ⟨p, m, ?_, h1, h2, wf_sm (by omega) (by omega)⟩
 unfold spec_DrawLabelsBySum.f spec_DrawLabelsBySumR.f
 exact Ev.bind (Ev.bind e (Ev.call e1 (Ev.now _))) (Ev.now _)
def wA (p : List Int) (q : Nat) : Nat := wvN (stB p false) (idealsN p) (q + 1) (allN p)
def cV (p : List Int) (m : Int) : Int × Bool := if isPo p = true ∧ (0 ≤ m ∧ m ≤ 12) then (((wA p m.toNat : Nat) : Int), true) else (0, false)
theorem cl_impl (p : List Int) (m : Int) : Ev (fun k => impl_CountLabels.f k p m) (cV p m) := by
 unfold impl_CountLabels.f cV
 cases hpo : isPo p with
 | false =>
  refine Ev.bind (IsPoset_ev p) ?_
  rw [hpo, if_neg (fun h => Bool.false_ne_true h.1)]; exact Ev.no (by simp) (Ev.now _)
 | true =>
  have hP := (isPo_iff p).1 hpo
  refine Ev.bind (IsPoset_ev p) ?_
  rw [hpo, isBound_eq]
  by_cases hm : 0 ≤ m ∧ m ≤ 12
  ·obtain ⟨q, rfl⟩ := Int.eq_ofNat_of_zero_le hm.1
   rw [range_true hm, if_pos ⟨rfl, hm⟩, Int.toNat_natCast]
   exact Ev.yes rfl (Ev.call rfl (Ev.yes rfl (Ev.bind (count_ev hP (by omega)) (Ev.now _))))
  ·rw [range_false hm, if_neg (fun h => hm h.2)]; exact Ev.yes rfl (Ev.call rfl (Ev.no (by simp) (Ev.now _)))
def lbV (p : List Int) (m : Int) : List Int × Bool := if isPo p = true ∧ (0 ≤ m ∧ m ≤ 12) ∧ wA p m.toNat ≤ 100000 then (ints (sumsL p m.toNat), true) else ([], false)
theorem lb_impl (p : List Int) (m : Int) : Ev (fun k => impl_LabelsBySum.f k p m) (lbV p m) := by
 unfold impl_LabelsBySum.f lbV
 refine Ev.bind (IsPoset_ev p) ?_
 cases hpo : isPo p with
 | false => rw [if_neg (fun h => Bool.false_ne_true h.1)]; exact Ev.no (by simp) (Ev.now _)
 | true =>
  have hP := (isPo_iff p).1 hpo
  refine Ev.yes rfl ?_
  rw [isBound_eq]
  by_cases hm : 0 ≤ m ∧ m ≤ 12
  rotate_left
  ·rw [range_false hm, if_neg (fun h => hm h.2.1)]
   exact Ev.call rfl (Ev.no (by simp) (Ev.now _))
  obtain ⟨q, rfl⟩ := Int.eq_ofNat_of_zero_le hm.1
  rw [range_true hm, Int.toNat_natCast]
  refine Ev.call rfl (Ev.yes rfl (Ev.bind (count_ev hP (by omega)) ?_))
  by_cases hb : wA p q ≤ 100000
  ·rw [if_pos ⟨rfl, hm, hb⟩]
   refine Ev.no (by unfold wA at hb; omega) (Ev.bind (chains_ev hP (by omega)) (Ev.now _))
  ·rw [if_neg (fun h => hb h.2.2)]
   exact Ev.yes (by unfold wA at hb; omega) (Ev.now _)
theorem sum_run : ∀ (l : List Nat) (pre : List Nat) (acc : Nat), pre.length + l.length ≤ 100000 → acc + sumL l ≤ 4000000000000000000 → Ev (fun k => laws_oSum.l0 k (acc : Int) (ints (pre ++ l)) ((ints (pre ++ l)).length : Int) (pre.length : Int)) ((acc + sumL l : Nat) : Int)
 | [], pre, acc, _, _ => by
  rw [List.append_nil]
  exact Ev.step (by intro k; simp only [laws_oSum.l0]; rfl) (Ev.no (by rw [ints_len]; omega) (Ev.now _))
 | x :: l, pre, acc, h, hb => by
  rw [List.length_cons] at h
  simp only [sumL] at hb
  have hlen : (ints (pre ++ x :: l)).length = pre.length + (l.length + 1) := by rw [ints_len, List.length_append, List.length_cons]
  refine Ev.step (by intro k; simp only [laws_oSum.l0]; rfl) (Ev.yes (by omega) (Ev.yes (by omega) (Ev.yes (by omega) ?_)))
  have hrd : rd (ints (pre ++ x :: l)) ((pre.length : Nat) : Int) = (x : Int) := by
   rw [rd_ints, List.getD_eq_getElem?_getD, List.getElem?_append_right (Nat.le_refl _), Nat.sub_self]; rfl
  rw [hrd, wid1 (show pre.length < pre.length + 1 by omega) (by omega), wid (n := (acc : Int) + (x : Int)) (by omega) (by omega)]
  have ih := sum_run l (pre ++ [x]) (acc + x) (by rw [List.length_append, List.length_singleton]; omega) (by omega)
  have e1 : pre ++ [x] ++ l = pre ++ x :: l := by rw [List.append_assoc]; rfl
  rw [e1, List.length_append, List.length_singleton] at ih
  simp only [sumL]
  rw [show acc + (x + sumL l) = acc + x + sumL l by omega]
  exact ih
theorem oSum_ev {l : List Nat} (h : l.length ≤ 100000) (hb : sumL l ≤ 4000000000000000000) : Ev (fun k => laws_oSum.f k (ints l)) ((sumL l : Nat) : Int) := by
 unfold laws_oSum.f
 have := sum_run l [] 0 (by simpa using h) (by omega)
 rw [Nat.zero_add] at this
 exact this
theorem sums_len (p : List Int) (q : Nat) : (sumsL p q).length = p.length * q + 1 := by unfold sumsL; rw [List.length_map, List.length_range]
theorem oSum_sums {p : List Int} (hP : PO p) {q : Nat} (hq : q ≤ 12) : Ev (fun k => laws_oSum.f k (ints (sumsL p q))) ((wA p q : Nat) : Int) := by
 have ht := sums_total p q
 have hb := wvN_small hP.small (B := stB p false) (k := q + 1) (t := allN p) (fun s t h => stB_sub h) (by omega)
 have hl : p.length * q ≤ 10 * 12 := Nat.mul_le_mul hP.small hq
 have := oSum_ev (l := sumsL p q) (by rw [sums_len]; omega) (by show sumL ((List.range (p.length * q + 1)).map (wT p q)) ≤ _; rw [ht]; omega)
 rw [show sumL (sumsL p q) = wA p q from ht] at this
 exact this
def symB (a b : Nat) : Bool := (List.range 13).all fun q =>
 let l := bx0 b q a 1 (bsFirst (a * b * q + 1))
 l == bx0 a q b 1 (bsFirst (b * a * q + 1)) && l.reverse == l
theorem allSym : (List.range 11).all (fun a => (List.range 11).all fun b => a == 0 || b == 0 || decide (10 < a * b) || symB a b) = true := by decide +kernel
theorem sidesOk_swap {a b : Int} (h : sidesOk a b) : sidesOk b a := ⟨h.2.1, h.1, by rw [Int.mul_comm]; exact h.2.2⟩
theorem box_val {a b : Nat} (h : sidesOk (a : Int) (b : Int)) : ∃ p, Ev (fun k => impl_rectangle.f k (a : Int) (b : Int)) p ∧ PO p ∧ p.length = a * b ∧ ∀ q, q ≤ 12 → ints (sumsL p q) = bx0 b q a 1 (bsFirst (a * b * q + 1)) := by
 obtain ⟨na, nb, p, ea, eb, h1, h2, h3, h4, hnm, hr, hP, hl⟩ := rect_impl h
 obtain rfl : a = na := by omega
 obtain rfl : b = nb := by omega
 refine ⟨p, Ev.of (impl_rectangle.mono _ _) hr, hP, hl, fun q hq => ?_⟩
 obtain ⟨n', m', en, em, _, _, _, _, _, hk⟩ := sides_all allBS h
 obtain rfl : a = n' := by omega
 obtain rfl : b = m' := by omega
 unfold okBS at hk
 rw [hr] at hk
 simp only [bsP] at hk
 rw [← kN_first] at hk
 have := bsRun_at hP.small 13 0 (by omega) hk q (Nat.zero_le _) (by omega)
 rw [← hl, this]; rfl
structure Boxes (a b m : Int) (p : List Int) (q : Nat) : Prop where
 po : PO p
 q12 : q ≤ 12
 hm : m = (q : Int)
 rect : Ev (fun k => impl_Rectangle.f k a b) (p, true)
 own : Ev (fun k => impl_BoxBySum.f k a b m) (ints (sumsL p q), true)
 ref : Ev (fun k => spec_BoxBySum.f k a b m) (ints (sumsL p q), true)
 turn : Ev (fun k => impl_BoxBySum.f k b a m) (ints (sumsL p q), true)
 cnt : Ev (fun k => impl_BoxCount.f k a b m) (((wA p q : Nat) : Int), true)
 cref : Ev (fun k => spec_BoxCount.f k a b m) (((wA p q : Nat) : Int), true)
 pal : (ints (sumsL p q)).reverse = ints (sumsL p q)
theorem by_impl {a b : Int} (h : sidesOk a b) {p : List Int} (hp : Ev (fun k => impl_rectangle.f k a b) p) (hP : PO p) {q : Nat} (hq : q ≤ 12) : Ev (fun k => impl_BoxBySum.f k a b (q : Int)) (ints (sumsL p q), true) := by
 unfold impl_BoxBySum.f
 refine Ev.bind (Rectangle_yes h hp) (Ev.yes rfl ?_)
 rw [isBound_eq, range_true ⟨Int.natCast_nonneg _, by omega⟩]
 exact Ev.call rfl (Ev.yes rfl (Ev.bind (chains_ev hP (by omega)) (Ev.now _)))
theorem boxes {a b m : Int} (ha : (Lit.int .i64 a).wf = true) (hb : (Lit.int .i64 b).wf = true) (hm : (Lit.int .i64 m).wf = true) :
 (∃ p q, Boxes a b m p q) ∨ (Ev (fun k => impl_BoxBySum.f k a b m) ([], false) ∧ Ev (fun k => spec_BoxBySum.f k a b m) ([], false) ∧ Ev (fun k => impl_BoxCount.f k a b m) (0, false) ∧ Ev (fun k => spec_BoxCount.f k a b m) (0, false)) := by
 obtain ⟨r1, s1, i1, _⟩ := BoxBySum_same a ha b hb m hm
 obtain ⟨r2, s2, i2, _⟩ := BoxCount_same a ha b hb m hm
 by_cases h : sidesOk a b ∧ (0 ≤ m ∧ m ≤ 12)
 ·left
  obtain ⟨h, hm⟩ := h
  obtain ⟨q, rfl⟩ := Int.eq_ofNat_of_zero_le hm.1
  obtain ⟨na, nb, rfl, rfl, _, _, _, _, _, hsym⟩ := sides_all allSym h
  obtain ⟨p, hp, hP, hl, hv⟩ := box_val h
  obtain ⟨p', hp', hP', hl', hv'⟩ := box_val (sidesOk_swap h)
  have hs := List.all_eq_true.1 hsym q (List.mem_range.2 (by omega))
  simp only [Bool.and_eq_true] at hs
  have h1 := eq_of_beq hs.1
  have h2 := eq_of_beq hs.2
  have own := by_impl h hp hP (show q ≤ 12 by omega)
  have turn := by_impl (sidesOk_swap h) hp' hP' (show q ≤ 12 by omega)
  rw [hv' q (by omega), ← h1, ← hv q (by omega)] at turn
  have cnt : Ev (fun k => impl_BoxCount.f k (na : Int) (nb : Int) (q : Int)) (((wA p q : Nat) : Int), true) := by
   unfold impl_BoxCount.f
   refine Ev.bind (Rectangle_yes h hp) (Ev.yes rfl ?_)
   rw [isBound_eq, range_true hm]
   exact Ev.call rfl (Ev.yes rfl (Ev.bind (count_ev hP (by omega)) (Ev.now _)))
  refine ⟨p, q, hP, by omega, rfl, Rectangle_yes h hp, own, ?_, turn, cnt, ?_, ?_⟩
  ·rw [Ev.uniq own i1]; exact s1
  ·rw [Ev.uniq cnt i2]; exact s2
  ·rw [hv q (by omega)]; exact h2
 ·right
  have e1 : Ev (fun k => impl_BoxBySum.f k a b m) ([], false) := by
   unfold impl_BoxBySum.f
   by_cases h1 : sidesOk a b
   ·obtain ⟨na, nb, p, rfl, rfl, _, _, _, _, _, hr, hP, hl⟩ := rect_impl h1
    refine Ev.bind (Rectangle_yes h1 (Ev.of (impl_rectangle.mono _ _) hr)) (Ev.yes rfl ?_)
    rw [isBound_eq, range_false (fun h2 => h ⟨h1, h2⟩)]
    exact Ev.call rfl (Ev.no (by simp) (Ev.now _))
   ·exact Ev.bind (Rectangle_no h1) (Ev.no (by simp) (Ev.now _))
  have e2 : Ev (fun k => impl_BoxCount.f k a b m) (0, false) := by
   unfold impl_BoxCount.f
   by_cases h1 : sidesOk a b
   ·obtain ⟨na, nb, p, rfl, rfl, _, _, _, _, _, hr, hP, hl⟩ := rect_impl h1
    refine Ev.bind (Rectangle_yes h1 (Ev.of (impl_rectangle.mono _ _) hr)) (Ev.yes rfl ?_)
    rw [isBound_eq, range_false (fun h2 => h ⟨h1, h2⟩)]
    exact Ev.call rfl (Ev.no (by simp) (Ev.now _))
   ·exact Ev.bind (Rectangle_no h1) (Ev.no (by simp) (Ev.now _))
  refine ⟨e1, ?_, e2, ?_⟩
  ·rw [Ev.uniq e1 i1]; exact s1
  ·rw [Ev.uniq e2 i2]; exact s2
theorem ends_loop {l : List Int} (h : l.length ≤ 100000) (hr : l.reverse = l) : Ev (fun k => laws_FnBoxesOfLabels.l0 k l l (l.length : Int) 0) true := by
 have key : ∀ i, i ≤ l.length → Ev (fun k => laws_FnBoxesOfLabels.l0 k l l (l.length : Int) (i : Int)) true := by
  refine downTo _ ?_ ?_
  ·exact Ev.step (by intro k; simp only [laws_FnBoxesOfLabels.l0]; rfl) (Ev.no (by omega) (Ev.now _))
  ·intro i hi ih
   have e1 : wrap64 (wrap64 ((l.length : Int) - 1) - (i : Int)) = ((l.length - 1 - i : Nat) : Int) := by
    rw [wid (n := (l.length : Int) - 1) (by omega) (by omega), wid (by omega) (by omega)]; omega
   refine Ev.step (by intro k; simp only [laws_FnBoxesOfLabels.l0]; rfl) (Ev.yes (by omega) (Ev.yes (by omega) (Ev.yes (by omega) ?_)))
   rw [e1, wid1 hi (by omega)]
   refine Ev.yes (by omega) (Ev.yes (by omega) (Ev.yes ?_ ih))
   rw [rdN, rdN, ← reverse_getD l i hi, hr]
 exact key 0 (Nat.zero_le _)
theorem FnBoxesOfLabels : laws_FnBoxesOfLabels.Pure := by
 intro l0 l1 h0 b0 h1 b1
 have hb0 : bytesL l0 := fun n hn => by
  have := b0 n hn
  simp only [Lit.wf, Bool.and_eq_true, decide_eq_true_eq] at this
  exact this
 have hb1 : bytesL l1 := fun n hn => by
  have := b1 n hn
  simp only [Lit.wf, Bool.and_eq_true, decide_eq_true_eq] at this
  exact this
 refine Ev.rounds (g := fun k => laws_FnBoxesOfLabels.f k l0 l1) ?_
 unfold laws_FnBoxesOfLabels.f
 rcases big_or l0 l1 with hbig | ⟨hbig, _, _⟩
 ·exact Ev.call hbig (Ev.yes rfl (Ev.now _))
 refine Ev.call hbig (Ev.no Bool.false_ne_true ?_)
 obtain ⟨a, b, m, d1, ha, hb, hm⟩ := drawBB_ok hb0
 obtain ⟨p, x, d2, p1, p2, p3⟩ := drawLS_ok hb1
 have hne : ∀ b : Bool, (b != b) = false := fun b => by cases b <;> rfl
 have lb_spec : Ev (fun k => spec_LabelsBySum.f k p x) (lbV p x) := by
  obtain ⟨v, h1, h2, _⟩ := LabelsBySum_same p (by omega) p2 x p3
  rw [Ev.uniq (lb_impl p x) h2]; exact h1
 -- what is told of the second draw
 have toJ2 : ∀ {s : List Int} {f : Bool} {c : Int}, Ev (fun k => laws_FnBoxesOfLabels.j2 k a b m s f c) true → Ev (fun k => laws_FnBoxesOfLabels.j0 k l1 a b m s f c false) true := by
  intro s f c h2
  refine Ev.step (by intro k; simp only [laws_FnBoxesOfLabels.j0]; rfl) (Ev.no Bool.false_ne_true ?_)
  have hl : (lbV p x).1.length ≤ 1000 := by
   unfold lbV
   split
   ·rename_i h
    have hP := (isPo_iff p).1 h.1
    have : p.length * x.toNat ≤ 10 * 12 := Nat.mul_le_mul hP.small (by omega)
    rw [ints_len, sums_len]; omega
   ·exact Nat.zero_le _
  refine Ev.bind d2 (Ev.bind (lb_impl p x) (Ev.bind lb_spec (Ev.no (by rw [hne]; exact Bool.false_ne_true) (Ev.bind (oSame_refl (a := (lbV p x).1) (by omega)) ?_))))
  show Ev (fun k => laws_FnBoxesOfLabels.j1 k a b m s f c x (lbV p x).1 (lbV p x).2 false p) true
  refine Ev.step (by intro k; simp only [laws_FnBoxesOfLabels.j1]; rfl) (Ev.no Bool.false_ne_true ?_)
  by_cases h : isPo p = true ∧ (0 ≤ x ∧ x ≤ 12) ∧ wA p x.toNat ≤ 100000
  ·have e1 : lbV p x = (ints (sumsL p x.toNat), true) := by unfold lbV; rw [if_pos h]
   have e2 : cV p x = (((wA p x.toNat : Nat) : Int), true) := by unfold cV; rw [if_pos ⟨h.1, h.2.1⟩]
   rw [e1]
   have hc := cl_impl p x
   rw [e2] at hc
   exact Ev.yes rfl (Ev.bind hc (Ev.yes rfl (Ev.bind (oSum_sums ((isPo_iff p).1 h.1) (by omega)) (Ev.yes rfl h2))))
  ·have e1 : lbV p x = ([], false) := by unfold lbV; rw [if_neg h]
   rw [e1]
   exact Ev.no Bool.false_ne_true h2
 rcases boxes ha hb hm with ⟨r, q, B⟩ | ⟨e1, e2, e3, e4⟩
 rotate_left
 ·refine Ev.bind d1 (Ev.bind e1 (Ev.bind e2 (Ev.bind e3 (Ev.bind e4 ?_))))
  refine Ev.no (by rw [hne]; exact Bool.false_ne_true) (Ev.bind (oSame_refl (a := []) (by simp)) (Ev.yes rfl (Ev.no (by rw [hne]; exact Bool.false_ne_true) (Ev.yes (c := (0 : Int) = 0) rfl ?_))))
  refine toJ2 (s := []) (f := false) (c := 0) ?_
  exact Ev.step (by intro k; simp only [laws_FnBoxesOfLabels.j2]; rfl) (Ev.no Bool.false_ne_true (Ev.now _))
 have hsl : (ints (sumsL r q)).length ≤ 1000 := by
  have : r.length * q ≤ 10 * 12 := Nat.mul_le_mul B.po.small B.q12
  rw [ints_len, sums_len]; omega
 refine Ev.bind d1 (Ev.bind B.own (Ev.bind B.ref (Ev.bind B.cnt (Ev.bind B.cref ?_))))
 refine Ev.no (by rw [hne]; exact Bool.false_ne_true) (Ev.bind (oSame_refl (a := ints (sumsL r q)) (by omega)) (Ev.yes rfl (Ev.no (by rw [hne]; exact Bool.false_ne_true) (Ev.yes rfl ?_))))
 refine toJ2 (s := ints (sumsL r q)) (f := true) (c := ((wA r q : Nat) : Int)) ?_
 have hc := cl_impl r m
 have e2 : cV r m = (((wA r q : Nat) : Int), true) := by
  unfold cV
  have := B.q12
  rw [B.hm, if_pos ⟨(isPo_iff r).2 B.po, by omega, by omega⟩, Int.toNat_natCast]
 rw [e2] at hc
 have j3 : Ev (fun k => laws_FnBoxesOfLabels.j3 k (ints (sumsL r q)) false) true :=
  Ev.step (by intro k; simp only [laws_FnBoxesOfLabels.j3]; rfl) (Ev.no Bool.false_ne_true (ends_loop (by omega) B.pal))
 refine Ev.step (by intro k; simp only [laws_FnBoxesOfLabels.j2]; rfl) (Ev.yes (c := true = true) rfl ?_)
 refine Ev.bind B.rect (Ev.bind hc (Ev.bind B.turn (Ev.bind (lb_impl r m) ?_)))
 refine Ev.yes rfl (Ev.yes rfl (Ev.yes rfl (Ev.yes rfl (Ev.bind (oSum_sums B.po B.q12) (Ev.yes rfl (Ev.bind (oSame_refl (a := ints (sumsL r q)) (by omega)) (Ev.yes rfl ?_)))))))
 by_cases h : isPo r = true ∧ (0 ≤ m ∧ m ≤ 12) ∧ wA r m.toNat ≤ 100000
 ·have e1 : lbV r m = (ints (sumsL r q), true) := by unfold lbV; rw [if_pos h, B.hm, Int.toNat_natCast]
  rw [e1]
  exact Ev.yes rfl (Ev.bind (oSame_refl (a := ints (sumsL r q)) (by omega)) j3)
 ·have e1 : lbV r m = ([], false) := by unfold lbV; rw [if_neg h]
  rw [e1]
  exact Ev.no Bool.false_ne_true j3
end Go.Proofs.Ytmbojobkiainlaa.Q
end
