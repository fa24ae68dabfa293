/- Part 7 of the texts below the row of FnLabelsCounted: printed functions with their contracts, and plain lemmas. No condition. -/
import Derived.Test.YtmbojobkiainlaaZFnLabelsCounted6
import Derived.SizedLaws
import Derived.ChangeSlices
import Derived.WalkKit
import Derived.ProofKit
import Derived.OpenShut
import Derived.Lib.SmallJoins
import Derived.Deep.Matrix
section
section
namespace Go.Proofs.YtmbojobkiainlaaW.PrintWords
open Go.ChangeShapes Go.WideShapes
theorem sized_ints {H : Type} {enc : TypeId × Value → H} {P : Program} {W : World} {base : Nat} {spare : Nat → Bool} {held : Bool} {t e : TypeId} {k : IntKind} {a : Option Addr} {len cap : Nat} {d : DataW H} {ps : List MemPlace} {ts : List TypeId} {ds : List (DataW H)} {j : Nat}
 (hsz : (DataW.weightsEach P ts ds).all (· ≤ reachBytes) = true) (ht : ts[j]? = some t) (hd : ds[j]? = some d) (hu : P.underlying t = some (.slice e)) (he : P.underlying e = some (.int k)) (hc : P.cellsOf e = 1) {B : Nat} (hB : P.bytesOf e = B)
 (h : DataW.Trod enc P W base spare held t (.slice a len cap) d ps) : len * B ≤ 140737488351232 := by
 obtain ⟨fuel, hf⟩ := h
 rcases open_ints hu he hc hf with ⟨hcs, _⟩ | ⟨x, l, c, zs, hcs, _, hl, _, hz, hx, _, _⟩
 ·simp [Value.cells] at hcs
  obtain ⟨rfl, rfl, rfl⟩ := hcs
  simp
 ·simp [Value.cells] at hcs
  obtain ⟨rfl, rfl, rfl⟩ := hcs
  obtain ⟨hx, _⟩ := Prod.mk.inj hx
  subst hx
  have z := sized_slice hsz ht hd hu
  rw [hB] at z
  have hl2 : len ≤ zs.length := by
   rw [hz]
   split
   ·exact hl
   ·exact Nat.le_refl _
  have h1 : (lits (H := H) k (zs.take len)).length + (lits (H := H) k (zs.drop len)).length = zs.length := by
   simp [lits]
   omega
  rw [h1] at z
  exact Nat.le_trans (Nat.mul_le_mul_right _ hl2) z
end Go.Proofs.YtmbojobkiainlaaW.PrintWords
end
end

section
namespace Go.Proofs.YtmbojobkiainlaaW.RowKit
open Go.ChangeShapes Go.WideShapes Go.Deep Go.RowKit Go.Proofs.YtmbojobkiainlaaW.PrintWords
variable {H : Type} {enc : TypeId × Value → H} {P : Program} {w : World} {base : Nat} {held : Bool}
structure PxInts (w : World) (k : IntKind) (A : Option Addr) (c : Nat) (l : List Int) : Prop where
 le : l.length ≤ c
 c : Kd.C (Kd.int k) w A l.length l
 m : l.length ≤ maxLen
 wf : ∀ n ∈ l, (Lit.int k n).wf = true
theorem ints_of {t e : TypeId} {k : IntKind} {fuel : Nat} {cs : List Value} {x : DataW H × List MemPlace} (ht : P.underlying t = some (.slice e)) (he : P.underlying e = some (.int k)) (hc : P.cellsOf e = 1)
 (h : DataW.trod enc P w base (fun _ => true) held fuel t cs = some x) : ∃ A c l, cs = [.slice A (List.length l) c] ∧ PxInts w k A c l := by
 rcases open_ints ht he hc h with ⟨hcs, _⟩ | ⟨a, len, cap, zs, hcs, _, hl, hm, hz, _, hcell, hwz⟩
 ·obtain ⟨l, e1, h1, h2, h3, h4⟩ := ReadsInt.ofRowC (k := k) (w := w) (a := none) (len := 0) (cap := 0) (zs := []) (.inl ⟨rfl, rfl, rfl, rfl⟩)
  exact ⟨none, 0, l, by rw [hcs, ← e1], h4, Kd.C_of_reads (d := (0 : Int)) (h1 := fun _ => rfl) h1, h2, h3⟩
 ·obtain ⟨l, e1, h1, h2, h3, h4⟩ := ReadsInt.ofRowC (k := k) (w := w) (a := some a) (len := len) (cap := cap) (zs := zs) (.inr ⟨_, rfl, hl, hm, by simpa using hz, hcell, hwz⟩)
  exact ⟨some a, cap, l, by rw [hcs, ← e1], h4, Kd.C_of_reads (d := (0 : Int)) (h1 := fun _ => rfl) h1, h2, h3⟩
theorem open_sl {r : Reach} {b0 : Nat} {t e : TypeId} {k : IntKind} {v : Value} {d : DataW H} {p : List MemPlace} (ht : P.underlying t = some (.slice e)) (he : P.underlying e = some (.int k)) (hc : P.cellsOf e = 1)
 (hv : Value.okWide P w r b0 t v) (h : DataW.Trod enc P w base (fun _ => true) held t v d p) : ∃ A c l, v = .slice A (List.length l) c ∧ PxInts w k A c l := by
 obtain ⟨a, len, cap, rfl⟩ := okWide_slice ht hv
 obtain ⟨fuel, hf⟩ := h
 obtain ⟨A, c, l, hcs, hi⟩ := ints_of ht he hc hf
 simp [Value.cells] at hcs
 obtain ⟨rfl, rfl, rfl⟩ := hcs
 exact ⟨_, _, l, rfl, hi⟩
theorem open_st {r : Reach} {b0 : Nat} {t q e : TypeId} {k : IntKind} {f0 : Field} {v : Value} {d : DataW H} {p : List MemPlace} (hs : P.underlying t = some (.struct #[f0])) (hone : oneCellFields P #[f0] = true) (hC : P.cellsOf t = 1)
 (hq : f0.type = q) (ht : P.underlying q = some (.slice e)) (he : P.underlying e = some (.int k)) (hc : P.cellsOf e = 1)
 (hv : Value.okWide P w r b0 t v) (h : DataW.Trod enc P w base (fun _ => true) held t v d p) : ∃ A c l, v = .agg #[.slice A (List.length l) c] ∧ PxInts w k A c l := by
 subst hq
 obtain ⟨cs, rfl, hsz⟩ := okWide_struct hs hv
 obtain ⟨c0, rfl⟩ : ∃ c0, cs = #[c0] := by
  obtain ⟨l⟩ := cs
  match l, hsz.trans hC with
  | [c0], _ => exact ⟨c0, rfl⟩
 obtain ⟨fuel, hf⟩ := h
 obtain ⟨y0, n, _, _, h0⟩ := trod_struct1 hs hf
 obtain ⟨o0, k0⟩ := Go.Deep.hone_of hone 0 f0 rfl
 obtain ⟨A, c, l, hcs, hi⟩ := ints_of ht he hc (by simpa [Value.cells, o0, k0] using h0 : DataW.trod enc P w base (fun _ => true) held n f0.type [c0] = some y0)
 simp at hcs
 subst hcs
 exact ⟨A, c, l, rfl, hi⟩
structure PxRows (w : World) (k : IntKind) (q : TypeId) (A : Option Addr) (c : Nat) (l : List (List Int)) : Prop where
 le : l.length ≤ c
 c : Kd.C (Kd.slice q (Kd.int k)) w A l.length l
 m : l.length ≤ maxLen
 m2 : ∀ r ∈ l, r.length ≤ maxLen
 wf : ∀ r ∈ l, ∀ n ∈ r, (Lit.int k n).wf = true
theorem open_ss {r : Reach} {b0 : Nat} {t e q : TypeId} {k : IntKind} {v : Value} {d : DataW H} {p : List MemPlace} (ht : P.underlying t = some (.slice e)) (he : P.underlying e = some (.slice q)) (hq : P.underlying q = some (.int k))
 (ce : P.cellsOf e = 1) (cq : P.cellsOf q = 1)
 (hv : Value.okWide P w r b0 t v) (h : DataW.Trod enc P w base (fun _ => true) held t v d p) : ∃ A c l, v = .slice A (List.length l) c ∧ PxRows w k q A c l := by
 obtain ⟨a, len, cap, rfl⟩ := okWide_slice ht hv
 obtain ⟨fuel, hf⟩ := h
 rcases Go.Deep.open_int_rows ht he hq ce cq hf with ⟨hcs, _⟩ | ⟨x, len', cap', AA, L, C, Z, hcs, _, hl, hm, _, hr⟩
 ·simp [Value.cells] at hcs
  obtain ⟨rfl, rfl, rfl⟩ := hcs
  exact ⟨none, 0, [], rfl, Nat.le_refl _, ⟨rfl, Nat.zero_le _, fun h => absurd h (Nat.lt_irrefl _)⟩, Nat.zero_le _, (fun _ h => by cases h), (fun _ h => by cases h)⟩
 ·simp [Value.cells] at hcs
  obtain ⟨rfl, rfl, rfl⟩ := hcs
  have each : ∀ r, r < cap → PxInts w k (AA r) (C r) ((Z r).take (L r)) ∧ L r = ((Z r).take (L r)).length := by
   intro r hrc
   obtain ⟨_, h1, h2, h3, h4, h5, h6⟩ := hr r hrc
   have hz : ((Z r).take (L r)).length = L r := by rw [List.length_take]; omega
   refine ⟨⟨by omega, ⟨by rfl, by unfold maxLen at h2; omega, fun hp => ?_⟩, by omega, fun n hn => h4 n (List.mem_of_mem_take hn)⟩, hz.symm⟩
   cases ha : AA r with
   | none => have := h5 ha; omega
   | some ad =>
    refine ⟨ad, rfl, fun j p hj => ⟨[.int k p], rfl, rfl, fun i u hu => ?_⟩⟩
    have hj1 := (List.getElem?_eq_some_iff.1 hj).1
    have hjl : j < L r := by omega
    cases i with
    | succ i => simp at hu
    | zero =>
     simp at hu
     subst hu
     have := (h6 ad ha).2 j (by omega)
     rw [List.getD_eq_getElem?_getD, ← List.getElem?_take_of_lt hjl, hj] at this
     have e1 : j * (Kd.int k).sz + 0 = j := by show j * 1 + 0 = j; omega
     rw [e1]
     exact this
  refine ⟨some x, cap, (List.range len).map (fun r => (Z r).take (L r)), by simp, ⟨by simpa using hl, ⟨by simp, ?_, fun hp => ⟨x, rfl, fun j p hj => ?_⟩⟩, by simp; omega, ?_, ?_⟩⟩
  ·simp; unfold maxLen at hm; omega
  ·simp only [List.getElem?_map, Option.map_eq_some_iff] at hj
   obtain ⟨r, hr1, rfl⟩ := hj
   obtain ⟨hr2, hr3⟩ := List.getElem?_eq_some_iff.1 hr1
   simp at hr2 hr3
   subst hr3
   obtain ⟨hi, hL⟩ := each j (by omega)
   refine ⟨[.slice (AA j) ((Z j).take (L j)).length (C j)], rfl, ⟨AA j, C j, rfl, hi.le, hi.c⟩, fun i u hu => ?_⟩
   cases i with
   | succ i => simp at hu
   | zero =>
    simp only [List.getElem?_cons_zero, Option.some.injEq] at hu
    subst hu
    have e1 : j * (Kd.slice q (Kd.int k)).sz + 0 = j := by show j * 1 + 0 = j; omega
    rw [e1, ← hL]
    exact (hr j (by omega)).1
  ·intro r hr1
   obtain ⟨j, hj, rfl⟩ := List.mem_map.1 hr1
   rw [List.mem_range] at hj
   exact (each j (by omega)).1.m
  ·intro r hr1
   obtain ⟨j, hj, rfl⟩ := List.mem_map.1 hr1
   rw [List.mem_range] at hj
   exact (each j (by omega)).1.wf
end Go.Proofs.YtmbojobkiainlaaW.RowKit
end

section
namespace Go.Proofs.Ytmbojobkiainlaa.F
open Go.RowKit Go.Proofs.YtmbojobkiainlaaW.PrintWords Go.Proofs.YtmbojobkiainlaaW.PrintLast Go.Proofs.YtmbojobkiainlaaW.PrintMore Go.Proofs.YtmbojobkiainlaaW.RowKit
set_option linter.unusedVariables false
def laws_FnLabelsCounted.Pure : Prop := ∀ (l0 : List Int) (l1 : List Int), l0.length ≤ maxLen → (∀ n ∈ l0, (Lit.int .u8 n).wf = true) → l1.length ≤ maxLen → (∀ n ∈ l1, (Lit.int .u8 n).wf = true) → ∃ k, laws_FnLabelsCounted.f k l0 l1 = some true
theorem laws_FnLabelsCounted.walk (P : laws_FnLabelsCounted.Pure) (A0 : Option Addr) (c0 : Nat) (l0 : List Int) (A1 : Option Addr) (c1 : Nat) (l1 : List Int) (w : World) (i0 : PxInts w .u8 A0 c0 l0) (i1 : PxInts w .u8 A1 c1 l1) :
 Calls Try.prog 4 #[.slice A0 l0.length c0, .slice A1 l1.length c1] w fun e w' => e = .returned (.bool true) ∧ Below w.heap.size w w' := by
 obtain ⟨k, h⟩ := P l0 l1 i0.m i0.wf i1.m i1.wf
 refine (laws_FnLabelsCounted.calls k _ _ l0 _ _ l1 true w i0.c i0.le i1.c i1.le h).mono ?_
 rintro e w' ⟨rfl, hd⟩
 exact ⟨rfl, hd⟩
end Go.Proofs.Ytmbojobkiainlaa.F
end

section
namespace Go.Proofs.Ytmbojobkiainlaa.Q
open Go.RowKit Go.Proofs.YtmbojobkiainlaaW.PrintWords Go.Proofs.Ytmbojobkiainlaa.F
set_option linter.unusedVariables false
theorem wf_sm {n : Int} (h0 : -1000000 ≤ n) (h1 : n ≤ 4611686018427387904) : (Lit.int .i64 n).wf = true := WalkArith.wf_i64 (by omega)
theorem cAt_0 : cAt 0 0 := ⟨Int.le_refl _, Int.le_refl _⟩
theorem bound_ok {l : List Int} (hl : bytesL l) {B : Nat} {a : Int} (s : Int) {n : Nat} (hn : n ≤ 10) (ha : cAt B a) (hB : B ≤ 10000) : ∃ m a' s', spec_l1Cur_bound.f l a s (n : Int) = some (m, a', s') ∧ -1 ≤ m ∧ m ≤ 20 := by
 unfold spec_l1Cur_bound.f
 obtain ⟨b, a0, s0, e0, h0⟩ := one_ok hl s 10 ha (by omega)
 rw [e0]
 simp only [Option.bind_some]
 cases b with
 | true =>
  obtain ⟨x, a1, s1, e1, _, hx⟩ := among_ok hl s0 h0 (by omega) (m := ([(-1), 0, 12, 13] : List Int)) (by simp)
  rw [if_pos rfl, e1]
  refine ⟨_, _, _, rfl, ?_⟩
  simp only [List.mem_cons, List.mem_nil_iff, or_false] at hx
  show -1 ≤ x ∧ x ≤ 20
  omega
 | false =>
  obtain ⟨x, a1, s1, e1, _, x0, x1⟩ := cpick_ok hl s0 (wrap64 ((n : Int) + 1)) h0 (by omega)
  rw [if_neg Bool.false_ne_true, e1]
  refine ⟨_, _, _, rfl, ?_⟩
  show -1 ≤ x ∧ x ≤ 20
  rw [wid (by omega) (by omega)] at x1
  omega
theorem drawCL_ok {l : List Int} (hl : bytesL l) : ∃ p m, Ev (fun k => spec_DrawCountLabels.f k l) (p, m) ∧ p.length ≤ 21 ∧ wfL p ∧ (Lit.int .i64 m).wf = true := by
 obtain ⟨p, a, s, e, h1, h2, h3⟩ := poset_ok hl 0 (most := 6) (by omega) (by omega) cAt_0 (by omega)
 obtain ⟨m, a1, s1, e1, m0, m1⟩ := bound_ok hl s (n := 5) (by omega) h3 (by omega)
 refine ⟨p, m, ?_, h1, h2, wf_sm (by omega) (by omega)⟩
 unfold spec_DrawCountLabels.f spec_DrawCountLabelsR.f
 exact Ev.bind (Ev.bind e (Ev.call e1 (Ev.now _))) (Ev.now _)
theorem drawLP_ok {l : List Int} (hl : bytesL l) : ∃ p x, Ev (fun k => spec_DrawLabelPolynomialAt.f k l) (p, x) ∧ p.length ≤ 21 ∧ wfL p ∧ (Lit.int .i64 x).wf = true := by
 obtain ⟨b, a0, s0, e0, h0⟩ := one_ok hl 0 10 cAt_0 (by omega)
 obtain ⟨p, a, s, e, h1, h2, h3⟩ := poset_ok hl s0 (most := 6) (by omega) (by omega) h0 (by omega)
 cases b with
 | true =>
  obtain ⟨x, a1, s1, e1, _, hx⟩ := among_ok hl s h3 (by omega) (m := ([(-14), (-13), 13, 14, 4611686018427387904] : List Int)) (by simp)
  simp only [List.mem_cons, List.mem_nil_iff, or_false] at hx
  refine ⟨p, x, ?_, h1, h2, wf_sm (by omega) (by omega)⟩
  unfold spec_DrawLabelPolynomialAt.f spec_DrawLabelPolynomialAtR.f
  exact Ev.bind (Ev.call e0 (Ev.yes rfl (Ev.bind e (Ev.call e1 (Ev.now _))))) (Ev.now _)
 | false =>
  obtain ⟨x, a1, s1, e1, _, x0, x1⟩ := cpick_ok hl s 19 h3 (by omega)
  refine ⟨p, wrap64 (x - 9), ?_, h1, h2, wf_wrap64 _⟩
  unfold spec_DrawLabelPolynomialAt.f spec_DrawLabelPolynomialAtR.f
  exact Ev.bind (Ev.call e0 (Ev.no Bool.false_ne_true (Ev.bind e (Ev.call e1 (Ev.now _))))) (Ev.now _)
theorem drawSC_ok {l : List Int} (hl : bytesL l) : ∃ p, Ev (fun k => spec_DrawStepCounts.f k l) p ∧ p.length ≤ 21 ∧ wfL p := by
 obtain ⟨p, a, s, e, h1, h2, h3⟩ := poset_ok hl 0 (most := 7) (by omega) (by omega) cAt_0 (by omega)
 refine ⟨p, ?_, h1, h2⟩
 unfold spec_DrawStepCounts.f spec_DrawStepCountsR.f
 exact Ev.bind (Ev.bind e (Ev.now _)) (Ev.now _)
def cV (p : List Int) (b : Bool) (m : Int) : Int × Bool := if isPo p = true ∧ (0 ≤ m ∧ m ≤ 12) then (((wvN (stB p b) (idealsN p) (m.toNat + 1) (allN p) : Nat) : Int), true) else (0, false)
theorem cV_snd (p : List Int) (b : Bool) (m : Int) : (cV p b m).2 = decide (isPo p = true ∧ (0 ≤ m ∧ m ≤ 12)) := by
 unfold cV
 by_cases h : isPo p = true ∧ (0 ≤ m ∧ m ≤ 12)
 ·rw [if_pos h, decide_eq_true h]
 ·rw [if_neg h, decide_eq_false h]
theorem cl_impl (p : List Int) (m : Int) : Ev (fun k => impl_CountLabels.f k p m) (cV p false m) := by
 unfold impl_CountLabels.f cV
 cases hpo : isPo p with
 | false =>
  refine Ev.bind (IsPoset_ev p) ?_
  rw [hpo, if_neg (fun h => Bool.false_ne_true h.1)]; exact Ev.no (by simp) (Ev.now _)
 | true =>
  have hP := (isPo_iff p).1 hpo
  refine Ev.bind (IsPoset_ev p) ?_
  rw [hpo, isBound_eq]
  by_cases hm : 0 ≤ m ∧ m ≤ 12
  ·obtain ⟨q, rfl⟩ := Int.eq_ofNat_of_zero_le hm.1
   rw [range_true hm, if_pos ⟨rfl, hm⟩, Int.toNat_natCast]
   exact Ev.yes rfl (Ev.call rfl (Ev.yes rfl (Ev.bind (count_ev hP (by omega)) (Ev.now _))))
  ·rw [range_false hm, if_neg (fun h => hm h.2)]; exact Ev.yes rfl (Ev.call rfl (Ev.no (by simp) (Ev.now _)))
theorem cs_impl (p : List Int) (m : Int) : Ev (fun k => impl_CountStrict.f k p m) (cV p true m) := by
 unfold impl_CountStrict.f cV
 cases hpo : isPo p with
 | false =>
  refine Ev.bind (IsPoset_ev p) ?_
  rw [hpo, if_neg (fun h => Bool.false_ne_true h.1)]; exact Ev.no (by simp) (Ev.now _)
 | true =>
  have hP := (isPo_iff p).1 hpo
  refine Ev.bind (IsPoset_ev p) ?_
  rw [hpo, isBound_eq]
  by_cases hm : 0 ≤ m ∧ m ≤ 12
  ·obtain ⟨q, rfl⟩ := Int.eq_ofNat_of_zero_le hm.1
   have hw : wrap64 ((q : Int) + 1) = ((q + 1 : Nat) : Int) := wid1 (show q < q + 1 by omega) (by omega)
   rw [range_true hm, if_pos ⟨rfl, hm⟩, Int.toNat_natCast, hw]
   refine Ev.yes rfl (Ev.call rfl (Ev.yes rfl (Ev.bind ?_ (Ev.now _))))
   rw [← poly_strict hP (by omega)]
   exact polynomial_ev hP _
  ·rw [range_false hm, if_neg (fun h => hm h.2)]; exact Ev.yes rfl (Ev.call rfl (Ev.no (by simp) (Ev.now _)))
def lpV (p : List Int) (x : Int) : Int × Bool := if isPo p = true ∧ (-13 ≤ x ∧ x ≤ 13) then (polyL x (ints (stepsN p)) 0 0, true) else (0, false)
theorem lp_impl (p : List Int) (x : Int) : Ev (fun k => impl_LabelPolynomialAt.f k p x) (lpV p x) := by
 unfold impl_LabelPolynomialAt.f lpV
 cases hpo : isPo p with
 | false =>
  refine Ev.bind (IsPoset_ev p) ?_
  rw [hpo, if_neg (fun h => Bool.false_ne_true h.1)]; exact Ev.no (by simp) (Ev.now _)
 | true =>
  have hP := (isPo_iff p).1 hpo
  refine Ev.bind (IsPoset_ev p) ?_
  rw [hpo, within_eq]
  by_cases hx : -13 ≤ x ∧ x ≤ 13
  ·rw [range_true hx, if_pos ⟨rfl, hx⟩]
   exact Ev.yes rfl (Ev.call rfl (Ev.yes rfl (Ev.bind (polynomial_ev hP x) (Ev.now _))))
  ·rw [range_false hx, if_neg (fun h => hx h.2)]; exact Ev.yes rfl (Ev.call rfl (Ev.no (by simp) (Ev.now _)))
def scV (p : List Int) : List Int × Bool := if isPo p = true then (ints (stepsN p), true) else ([], false)
theorem scV_snd (p : List Int) : (scV p).2 = isPo p := by unfold scV; cases isPo p <;> rfl
theorem sc_impl (p : List Int) : Ev (fun k => impl_StepCounts.f k p) (scV p) := by
 unfold impl_StepCounts.f scV
 refine Ev.bind (IsPoset_ev p) ?_
 cases hpo : isPo p with
 | false => exact Ev.no (by simp) (Ev.now _)
 | true => exact Ev.yes rfl (Ev.bind (steps_ev ((isPo_iff p).1 hpo)) (Ev.now _))
theorem linear_impl {p : List Int} (hP : PO p) : Ev (fun k => impl_CountLinear.f k p) (((ways p 0 : Nat) : Int), true) := by
 unfold impl_CountLinear.f impl_CountOrders.f
 refine Ev.bind (a := (((ways p 0 : Nat) : Int), true)) (Ev.bind (IsPoset_ev p) ?_) (Ev.now _)
 rw [(isPo_iff p).2 hP]
 have hwl : 0 < ((Wl p 0).length : Int) := by rw [Wl_len]; have := Nat.two_pow_pos p.length; omega
 refine Ev.yes rfl (Ev.bind (ways_table hP) (Ev.yes hwl ?_))
 have : rd (Wl p 0) 0 = ((ways p 0 : Nat) : Int) := by
  refine (rdN (Wl p 0) 0).trans ?_
  rw [Wl_get p 0 (Nat.two_pow_pos _)]; unfold wayAt; rw [if_pos (Nat.zero_le _), if_pos (idealB_zero' p)]
 rw [this]
 exact Ev.now _
def sn (k : Nat) : Int := if k % 2 = 0 then 1 else -1
theorem sn_succ (k : Nat) : sn (k + 1) = - sn k := by
 unfold sn
 by_cases h : k % 2 = 0
 ·rw [if_neg (by omega), if_pos h]
 ·rw [if_pos (by omega), if_neg h]; rfl
theorem sn_sq (k : Nat) : sn k * sn k = 1 := by unfold sn; split <;> rfl
theorem sn_two (k : Nat) : sn k = 1 ∨ sn k = -1 := by unfold sn; split <;> simp
def alt : List Nat → Int
 | [] => 0
 | x :: l => sn l.length * (x : Int) + alt l
theorem nbs_one : ∀ j, nbs 1 j = sn j
 | 0 => rfl
 | j + 1 => by
  have h : nbs 1 (j + 1) + nbs 1 j = nbs 0 (j + 1) := nbs_succ 0 j
  have e : nbs 0 (j + 1) = 0 := by unfold nbs; simp
  rw [e, nbs_one j] at h
  rw [sn_succ]; omega
theorem dot_alt : ∀ (l : List Nat) (j : Nat), dotI 1 l j = sn (j + l.length) * alt l
 | [], j => by simp [dotI, alt]
 | x :: l, j => by
  show (x : Int) * nbs 1 (j + 1) + dotI 1 l (j + 1) = sn (j + (l.length + 1)) * (sn l.length * (x : Int) + alt l)
  rw [nbs_one, dot_alt l (j + 1), show j + (l.length + 1) = j + 1 + l.length by omega, Int.mul_add, ← Int.mul_assoc]
  have e : sn (j + 1 + l.length) * sn l.length = sn (j + 1) := by
   generalize j + 1 = i
   generalize l.length = k
   unfold sn
   by_cases h1 : i % 2 = 0 <;> by_cases h2 : k % 2 = 0
   ·rw [if_pos (by omega), if_pos h2, if_pos h1]; rfl
   ·rw [if_neg (by omega), if_neg h2, if_pos h1]; rfl
   ·rw [if_neg (by omega), if_pos h2, if_neg h1]; rfl
   ·rw [if_pos (by omega), if_neg h2, if_neg h1]; rfl
  rw [e, Int.mul_comm (x : Int)]
theorem alt_steps {p : List Int} (hp : PO p) : alt (stepsN p) = 1 := by
 have h := dot_weak hp 1
 rw [dot_alt, wI_one hp, sg_all, stepsN_len, Nat.zero_add, Int.mul_one] at h
 have e : (if p.length % 2 = 0 then (1 : Int) else -1) = sn p.length := rfl
 rw [e] at h
 have h2 : sn p.length * (sn p.length * alt (stepsN p)) = sn p.length * sn p.length := by rw [h]
 rw [← Int.mul_assoc, sn_sq, Int.one_mul] at h2
 exact h2
theorem alt_small : ∀ l : List Nat, (∀ n ∈ l, n ≤ 576650390625) → -(576650390625 * (l.length : Int)) ≤ alt l ∧ alt l ≤ 576650390625 * (l.length : Int)
 | [], _ => ⟨by show _ ≤ (0 : Int); simp, by show (0 : Int) ≤ _; simp⟩
 | x :: l, h => by
  obtain ⟨h1, h2⟩ := alt_small l (fun n hn => h n (List.mem_cons_of_mem _ hn))
  have hx := h x List.mem_cons_self
  show -(576650390625 * ((l.length + 1 : Nat) : Int)) ≤ sn l.length * (x : Int) + alt l ∧ sn l.length * (x : Int) + alt l ≤ 576650390625 * ((l.length + 1 : Nat) : Int)
  rcases sn_two l.length with e | e <;> rw [e] <;> omega
theorem alt_drop (l : List Nat) {i : Nat} (h : i < l.length) : alt (l.drop i) = sn (l.length - (i + 1)) * ((l.getD i 0 : Nat) : Int) + alt (l.drop (i + 1)) := by
 rw [List.drop_eq_getElem_cons h]
 show sn (l.drop (i + 1)).length * ((l[i] : Nat) : Int) + _ = _
 rw [List.length_drop, List.getD_eq_getElem?_getD, List.getElem?_eq_getElem h]; rfl
theorem alt_loop {x6 x7 x11 : Int} {x10 : Bool} {x : List Int} {S : List Nat} (hl : S.length ≤ 10) (hS : ∀ n ∈ S, n ≤ 576650390625) (h1 : alt S = 1) (tail : Ev (fun k => laws_FnLabelsCounted.j5 k x6 x7 x10 x11 x) true) :
 ∀ i, i ≤ S.length → Ev (fun k => laws_FnLabelsCounted.l0 k x6 x7 x10 x11 (ints S) (alt (S.drop i)) (sn (S.length - i)) ((i : Int) - 1) x) true
 | 0, _ => by
  rw [List.drop_zero, h1]
  exact Ev.step (by intro k; simp only [laws_FnLabelsCounted.l0]; rfl) (Ev.no (by omega) (Ev.yes (c := (1 : Int) = 1) rfl tail))
 | i + 1, hi => by
  have ih := alt_loop hl hS h1 tail i (by omega)
  rw [show ((i + 1 : Nat) : Int) - 1 = (i : Int) by omega]
  refine Ev.step (by intro k; simp only [laws_FnLabelsCounted.l0]; rfl) (Ev.yes (by omega) (Ev.yes (by omega) (Ev.yes (by rw [ints_len]; omega) ?_)))
  have hb := alt_small (S.drop (i + 1)) (fun n hn => hS n (List.mem_of_mem_drop hn))
  have hx : S.getD i 0 ≤ 576650390625 := by
   rw [List.getD_eq_getElem?_getD, List.getElem?_eq_getElem (show i < S.length by omega)]
   exact hS _ (List.getElem_mem _)
  have hd := alt_drop S (show i < S.length by omega)
  rw [List.length_drop] at hb
  rw [rd_ints]
  have e1 : wrap64 (sn (S.length - (i + 1)) * ((S.getD i 0 : Nat) : Int)) = sn (S.length - (i + 1)) * ((S.getD i 0 : Nat) : Int) := by
   rcases sn_two (S.length - (i + 1)) with e | e <;> rw [e] <;> exact wid (by omega) (by omega)
  have e2 : wrap64 (alt (S.drop (i + 1)) + sn (S.length - (i + 1)) * ((S.getD i 0 : Nat) : Int)) = alt (S.drop i) := by
   rw [hd, Int.add_comm]
   rcases sn_two (S.length - (i + 1)) with e | e <;> rw [e] <;> exact wid (by omega) (by omega)
  have e3 : wrap64 (-sn (S.length - (i + 1))) = sn (S.length - i) := by
   rw [show S.length - i = S.length - (i + 1) + 1 by omega, sn_succ]
   rcases sn_two (S.length - (i + 1)) with e | e <;> rw [e] <;> exact wid (by omega) (by omega)
  rw [e1, e2, e3, wid (by omega) (by omega)]
  exact ih
theorem last_part {p : List Int} {m : Int} : Ev (fun k => laws_FnLabelsCounted.j5 k m (cV p false m).1 (cV p false m).2 (cV p true m).1 p) true := by
 refine Ev.step (by intro k; simp only [laws_FnLabelsCounted.j5]; rfl) ?_
 rw [cV_snd]
 by_cases h : isPo p = true ∧ (0 ≤ m ∧ m ≤ 12)
 rotate_left
 ·rw [decide_eq_false h]; exact Ev.no Bool.false_ne_true (Ev.now _)
 rw [decide_eq_true h]
 have hP := (isPo_iff p).1 h.1
 obtain ⟨q, rfl⟩ := Int.eq_ofNat_of_zero_le h.2.1
 have e1 : wrap64 ((q : Int) + 1) = ((q + 1 : Nat) : Int) := wid1 (show q < q + 1 by omega) (by omega)
 have e2 : wrap64 (wrap64 (-(q : Int)) - 1) = -((q + 1 : Nat) : Int) := by
  rw [wid (n := -(q : Int)) (by omega) (by omega), wid (by omega) (by omega)]; omega
 refine Ev.yes rfl (Ev.bind (lp_impl p _) (Ev.bind (lp_impl p _) ?_))
 rw [e1, e2]
 have v1 : lpV p ((q + 1 : Nat) : Int) = (((wvN (stB p true) (idealsN p) (q + 1) (allN p) : Nat) : Int), true) := by
  unfold lpV; rw [if_pos ⟨h.1, by omega, by omega⟩, poly_strict hP (by omega)]
 have v2 : lpV p (-((q + 1 : Nat) : Int)) = (sg p.length (allN p) * wI p (q + 1) (allN p), true) := by
  unfold lpV; rw [if_pos ⟨h.1, by omega, by omega⟩, poly_weak hP (by omega)]
 have c1 : (cV p false (q : Int)).1 = wI p (q + 1) (allN p) := by unfold cV; rw [if_pos h, Int.toNat_natCast]; rfl
 have c2 : (cV p true (q : Int)).1 = ((wvN (stB p true) (idealsN p) (q + 1) (allN p) : Nat) : Int) := by unfold cV; rw [if_pos h, Int.toNat_natCast]
 rw [v1, v2, c1, c2, sg_all]
 have hle := strict_le p (q + 1) (allN p)
 have hb := wvN_small hP.small (B := stB p false) (k := q + 1) (t := allN p) (fun s t h => stB_sub h) (by omega)
 have hfin : (decide (((wvN (stB p true) (idealsN p) (q + 1) (allN p) : Nat) : Int) ≤ wI p (q + 1) (allN p))) = true := decide_eq_true (by unfold wI; omega)
 by_cases hpar : p.length % 2 = 0
 ·rw [if_pos hpar, Int.one_mul]
  refine Ev.no (by omega) (Ev.yes rfl (Ev.yes rfl (Ev.yes rfl (Ev.yes rfl ?_))))
  rw [hfin]; exact Ev.now _
 ·rw [if_neg hpar]
  refine Ev.yes (by omega) (Ev.yes rfl (Ev.yes rfl (Ev.yes rfl (Ev.yes ?_ ?_))))
  ·show wrap64 (-(-1 * wI p (q + 1) (allN p))) = wI p (q + 1) (allN p)
   unfold wI
   rw [wid (by omega) (by omega)]; omega
  ·rw [hfin]; exact Ev.now _
theorem FnLabelsCounted : laws_FnLabelsCounted.Pure := by
 intro l0 l1 h0 b0 h1 b1
 have hb0 : bytesL l0 := fun n hn => by
  have := b0 n hn
  simp only [Lit.wf, Bool.and_eq_true, decide_eq_true_eq] at this
  exact this
 have hb1 : bytesL l1 := fun n hn => by
  have := b1 n hn
  simp only [Lit.wf, Bool.and_eq_true, decide_eq_true_eq] at this
  exact this
 refine Ev.rounds (g := fun k => laws_FnLabelsCounted.f k l0 l1) ?_
 unfold laws_FnLabelsCounted.f
 rcases big_or l0 l1 with hbig | ⟨hbig, _, _⟩
 ·exact Ev.call hbig (Ev.yes rfl (Ev.now _))
 refine Ev.call hbig (Ev.no Bool.false_ne_true ?_)
 obtain ⟨p, m, d1, p1, p2, p3⟩ := drawCL_ok hb0
 obtain ⟨q, x, d2, q1, q2, q3⟩ := drawLP_ok hb1
 obtain ⟨r, d3, r1, r2⟩ := drawSC_ok hb1
 have hne : ∀ b : Bool, (b != b) = false := fun b => by cases b <;> rfl
 have cl_spec : Ev (fun k => spec_CountLabels.f k p m) (cV p false m) := by
  obtain ⟨v, h1, h2, _⟩ := CountLabels_same p (by omega) p2 m p3
  rw [Ev.uniq (cl_impl p m) h2]; exact h1
 have cs_spec : Ev (fun k => spec_CountStrict.f k p m) (cV p true m) := by
  obtain ⟨v, h1, h2, _⟩ := CountStrict_same p (by omega) p2 m p3
  rw [Ev.uniq (cs_impl p m) h2]; exact h1
 have lp_spec : Ev (fun k => spec_LabelPolynomialAt.f k q x) (lpV q x) := by
  obtain ⟨v, h1, h2, _⟩ := LabelPolynomialAt_same q (by omega) q2 x q3
  rw [Ev.uniq (lp_impl q x) h2]; exact h1
 have sc_spec : Ev (fun k => spec_StepCounts.f k r) (scV r) := by
  obtain ⟨v, h1, h2, _⟩ := StepCounts_same r (by omega) r2
  rw [Ev.uniq (sc_impl r) h2]; exact h1
 refine Ev.bind d1 (Ev.bind (cl_impl p m) (Ev.bind cl_spec (Ev.bind (cs_impl p m) (Ev.bind cs_spec ?_))))
 refine Ev.no (by rw [hne]; exact Bool.false_ne_true) (Ev.yes rfl (Ev.no (by rw [hne]; exact Bool.false_ne_true) (Ev.yes rfl ?_)))
 have e0 : ((cV p true m).2 != (cV p false m).2) = false := by rw [cV_snd, cV_snd, hne]
 rw [e0]
 refine Ev.step (by intro k; simp only [laws_FnLabelsCounted.j0]; rfl) (Ev.no Bool.false_ne_true ?_)
 refine Ev.bind d2 (Ev.bind (lp_impl q x) (Ev.bind lp_spec (Ev.no (by rw [hne]; exact Bool.false_ne_true) ?_)))
 rw [bne_self_eq_false]
 refine Ev.step (by intro k; simp only [laws_FnLabelsCounted.j1]; rfl) (Ev.no Bool.false_ne_true ?_)
 have hsl : (scV r).1.length ≤ 10 := by
  unfold scV
  split
  ·rename_i h
   rw [ints_len, stepsN_len]; exact ((isPo_iff r).1 h).small
  ·exact Nat.zero_le _
 refine Ev.bind d3 (Ev.bind (sc_impl r) (Ev.bind sc_spec (Ev.no (by rw [hne]; exact Bool.false_ne_true) (Ev.bind (oSame_refl (a := (scV r).1) (by omega)) (Ev.yes rfl (Ev.bind (IsPoset_ev r) ?_))))))
 rw [scV_snd, hne]
 refine Ev.step (by intro k; simp only [laws_FnLabelsCounted.j2]; rfl) (Ev.no Bool.false_ne_true ?_)
 cases hr : isPo r with
 | false => exact Ev.no Bool.false_ne_true last_part
 | true =>
  have hP := (isPo_iff r).1 hr
  have hn := hP.small
  have hpos := hP.pos
  have hsc : (scV r).1 = ints (stepsN r) := by unfold scV; rw [if_pos hr]
  have hlen : ((ints (stepsN r)).length : Int) = (r.length : Int) := by rw [ints_len, stepsN_len]
  have hw : wrap64 ((r.length : Int) - 1) = ((r.length - 1 : Nat) : Int) := by rw [wid (by omega) (by omega)]; omega
  rw [hsc]
  refine Ev.yes rfl (Ev.bind (linear_impl hP) (Ev.yes rfl (Ev.yes hlen ?_)))
  rw [hlen, hw]
  refine Ev.yes (by omega) (Ev.yes (by omega) ?_)
  have hlast : rd (ints (stepsN r)) ((r.length - 1 : Nat) : Int) = ((ways r 0 : Nat) : Int) := by
   rw [rd_ints, ← last_step hP]
   unfold stepsN
   rw [List.getD_eq_getElem?_getD, List.getElem?_map, List.getElem?_range (show r.length - 1 < r.length by omega)]
   show ((wvN (opB r) (idealsN r) (r.length - 1 + 1) (allN r) : Nat) : Int) = _
   rw [show r.length - 1 + 1 = r.length by omega]
  rw [hlast, bne_self_eq_false]
  refine Ev.step (by intro k; simp only [laws_FnLabelsCounted.j3]; rfl) (Ev.no Bool.false_ne_true ?_)
  have key := alt_loop (x6 := m) (x7 := (cV p false m).1) (x11 := (cV p true m).1) (x10 := (cV p false m).2) (x := p) (S := stepsN r) (by rw [stepsN_len]; exact hn) (steps_small hP) (alt_steps hP) last_part (stepsN r).length (Nat.le_refl _)
  rw [List.drop_length, Nat.sub_self] at key
  rw [ints_len, wid (by omega) (by rw [stepsN_len]; omega)]
  exact key
end Go.Proofs.Ytmbojobkiainlaa.Q
end
