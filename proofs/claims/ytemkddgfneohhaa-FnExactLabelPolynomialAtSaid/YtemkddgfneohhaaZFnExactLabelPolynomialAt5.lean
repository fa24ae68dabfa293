/- Part 5 of the texts below the row of FnExactLabelPolynomialAt: printed functions with their contracts, and plain lemmas. No condition. -/
import Derived.Test.YtemkddgfneohhaaZFnExactLabelPolynomialAt4
import Derived.SizedLaws
import Derived.ChangeSlices
import Derived.WalkKit
import Derived.ProofKit
import Derived.OpenShut
import Derived.Lib.SmallJoins
import Derived.Deep.Matrix
section
section
namespace Go.Proofs.YtemkddgfneohhaaW.PrintWords
open Go.ChangeShapes Go.WideShapes
/-- A row's slice of whole numbers is no longer than its weight allows. -/
theorem sized_ints {H : Type} {enc : TypeId × Value → H} {P : Program} {W : World} {base : Nat} {spare : Nat → Bool} {held : Bool} {t e : TypeId} {k : IntKind} {a : Option Addr} {len cap : Nat} {d : DataW H} {ps : List MemPlace} {ts : List TypeId} {ds : List (DataW H)} {j : Nat}
    (hsz : (DataW.weightsEach P ts ds).all (· ≤ reachBytes) = true) (ht : ts[j]? = some t) (hd : ds[j]? = some d) (hu : P.underlying t = some (.slice e)) (he : P.underlying e = some (.int k)) (hc : P.cellsOf e = 1) {B : Nat} (hB : P.bytesOf e = B)
    (h : DataW.Trod enc P W base spare held t (.slice a len cap) d ps) : len * B ≤ 140737488351232 := by
  obtain ⟨fuel, hf⟩ := h
  rcases open_ints hu he hc hf with ⟨hcs, _⟩ | ⟨x, l, c, zs, hcs, _, hl, _, hz, hx, _, _⟩
  · simp [Value.cells] at hcs
    obtain ⟨rfl, rfl, rfl⟩ := hcs
    simp
  · simp [Value.cells] at hcs
    obtain ⟨rfl, rfl, rfl⟩ := hcs
    obtain ⟨hx, _⟩ := Prod.mk.inj hx
    subst hx
    have z := sized_slice hsz ht hd hu
    rw [hB] at z
    have hl2 : len ≤ zs.length := by
      rw [hz]
      split
      · exact hl
      · exact Nat.le_refl _
    have h1 : (lits (H := H) k (zs.take len)).length + (lits (H := H) k (zs.drop len)).length = zs.length := by
      simp [lits]
      omega
    rw [h1] at z
    exact Nat.le_trans (Nat.mul_le_mul_right _ hl2) z
end Go.Proofs.YtemkddgfneohhaaW.PrintWords
end
end

section
namespace Go.Proofs.YtemkddgfneohhaaW.RowKit
open Go.ChangeShapes Go.WideShapes Go.Deep Go.RowKit Go.Proofs.YtemkddgfneohhaaW.PrintWords
variable {H : Type} {enc : TypeId × Value → H} {P : Program} {w : World} {base : Nat} {held : Bool}
/-- What is known of a slice of whole numbers that came in. -/
structure PxInts (w : World) (k : IntKind) (A : Option Addr) (c : Nat) (l : List Int) : Prop where
  le : l.length ≤ c
  c : Kd.C (Kd.int k) w A l.length l
  m : l.length ≤ maxLen
  wf : ∀ n ∈ l, (Lit.int k n).wf = true
theorem ints_of {t e : TypeId} {k : IntKind} {fuel : Nat} {cs : List Value} {x : DataW H × List MemPlace} (ht : P.underlying t = some (.slice e)) (he : P.underlying e = some (.int k)) (hc : P.cellsOf e = 1)
    (h : DataW.trod enc P w base (fun _ => true) held fuel t cs = some x) : ∃ A c l, cs = [.slice A (List.length l) c] ∧ PxInts w k A c l := by
  rcases open_ints ht he hc h with ⟨hcs, _⟩ | ⟨a, len, cap, zs, hcs, _, hl, hm, hz, _, hcell, hwz⟩
  · obtain ⟨l, e1, h1, h2, h3, h4⟩ := ReadsInt.ofRowC (k := k) (w := w) (a := none) (len := 0) (cap := 0) (zs := []) (.inl ⟨rfl, rfl, rfl, rfl⟩)
    exact ⟨none, 0, l, by rw [hcs, ← e1], h4, Kd.C_of_reads (d := (0 : Int)) (h1 := fun _ => rfl) h1, h2, h3⟩
  · obtain ⟨l, e1, h1, h2, h3, h4⟩ := ReadsInt.ofRowC (k := k) (w := w) (a := some a) (len := len) (cap := cap) (zs := zs) (.inr ⟨_, rfl, hl, hm, by simpa using hz, hcell, hwz⟩)
    exact ⟨some a, cap, l, by rw [hcs, ← e1], h4, Kd.C_of_reads (d := (0 : Int)) (h1 := fun _ => rfl) h1, h2, h3⟩
theorem open_sl {r : Reach} {b0 : Nat} {t e : TypeId} {k : IntKind} {v : Value} {d : DataW H} {p : List MemPlace} (ht : P.underlying t = some (.slice e)) (he : P.underlying e = some (.int k)) (hc : P.cellsOf e = 1)
    (hv : Value.okWide P w r b0 t v) (h : DataW.Trod enc P w base (fun _ => true) held t v d p) : ∃ A c l, v = .slice A (List.length l) c ∧ PxInts w k A c l := by
  obtain ⟨a, len, cap, rfl⟩ := okWide_slice ht hv
  obtain ⟨fuel, hf⟩ := h
  obtain ⟨A, c, l, hcs, hi⟩ := ints_of ht he hc hf
  simp [Value.cells] at hcs
  obtain ⟨rfl, rfl, rfl⟩ := hcs
  exact ⟨_, _, l, rfl, hi⟩
theorem open_st {r : Reach} {b0 : Nat} {t q e : TypeId} {k : IntKind} {f0 : Field} {v : Value} {d : DataW H} {p : List MemPlace} (hs : P.underlying t = some (.struct #[f0])) (hone : oneCellFields P #[f0] = true) (hC : P.cellsOf t = 1)
    (hq : f0.type = q) (ht : P.underlying q = some (.slice e)) (he : P.underlying e = some (.int k)) (hc : P.cellsOf e = 1)
    (hv : Value.okWide P w r b0 t v) (h : DataW.Trod enc P w base (fun _ => true) held t v d p) : ∃ A c l, v = .agg #[.slice A (List.length l) c] ∧ PxInts w k A c l := by
  subst hq
  obtain ⟨cs, rfl, hsz⟩ := okWide_struct hs hv
  obtain ⟨c0, rfl⟩ : ∃ c0, cs = #[c0] := by
    obtain ⟨l⟩ := cs
    match l, hsz.trans hC with
    | [c0], _ => exact ⟨c0, rfl⟩
  obtain ⟨fuel, hf⟩ := h
  obtain ⟨y0, n, _, _, h0⟩ := trod_struct1 hs hf
  obtain ⟨o0, k0⟩ := Go.Deep.hone_of hone 0 f0 rfl
  obtain ⟨A, c, l, hcs, hi⟩ := ints_of ht he hc (by simpa [Value.cells, o0, k0] using h0 : DataW.trod enc P w base (fun _ => true) held n f0.type [c0] = some y0)
  simp at hcs
  subst hcs
  exact ⟨A, c, l, rfl, hi⟩
/-- What is known of a slice of slices of whole numbers that came in. -/
structure PxRows (w : World) (k : IntKind) (q : TypeId) (A : Option Addr) (c : Nat) (l : List (List Int)) : Prop where
  le : l.length ≤ c
  c : Kd.C (Kd.slice q (Kd.int k)) w A l.length l
  m : l.length ≤ maxLen
  m2 : ∀ r ∈ l, r.length ≤ maxLen
  wf : ∀ r ∈ l, ∀ n ∈ r, (Lit.int k n).wf = true
theorem open_ss {r : Reach} {b0 : Nat} {t e q : TypeId} {k : IntKind} {v : Value} {d : DataW H} {p : List MemPlace} (ht : P.underlying t = some (.slice e)) (he : P.underlying e = some (.slice q)) (hq : P.underlying q = some (.int k))
    (ce : P.cellsOf e = 1) (cq : P.cellsOf q = 1)
    (hv : Value.okWide P w r b0 t v) (h : DataW.Trod enc P w base (fun _ => true) held t v d p) : ∃ A c l, v = .slice A (List.length l) c ∧ PxRows w k q A c l := by
  obtain ⟨a, len, cap, rfl⟩ := okWide_slice ht hv
  obtain ⟨fuel, hf⟩ := h
  rcases Go.Deep.open_int_rows ht he hq ce cq hf with ⟨hcs, _⟩ | ⟨x, len', cap', AA, L, C, Z, hcs, _, hl, hm, _, hr⟩
  · simp [Value.cells] at hcs
    obtain ⟨rfl, rfl, rfl⟩ := hcs
    exact ⟨none, 0, [], rfl, Nat.le_refl _, ⟨rfl, Nat.zero_le _, fun h => absurd h (Nat.lt_irrefl _)⟩, Nat.zero_le _, (fun _ h => by cases h), (fun _ h => by cases h)⟩
  · simp [Value.cells] at hcs
    obtain ⟨rfl, rfl, rfl⟩ := hcs
    have each : ∀ r, r < cap → PxInts w k (AA r) (C r) ((Z r).take (L r)) ∧ L r = ((Z r).take (L r)).length := by
      intro r hrc
      obtain ⟨_, h1, h2, h3, h4, h5, h6⟩ := hr r hrc
      have hz : ((Z r).take (L r)).length = L r := by rw [List.length_take]; omega
      refine ⟨⟨by omega, ⟨by rfl, by unfold maxLen at h2; omega, fun hp => ?_⟩, by omega, fun n hn => h4 n (List.mem_of_mem_take hn)⟩, hz.symm⟩
      cases ha : AA r with
      | none => have := h5 ha; omega
      | some ad =>
        refine ⟨ad, rfl, fun j p hj => ⟨[.int k p], rfl, rfl, fun i u hu => ?_⟩⟩
        have hj1 := (List.getElem?_eq_some_iff.1 hj).1
        have hjl : j < L r := by omega
        cases i with
        | succ i => simp at hu
        | zero =>
          simp at hu
          subst hu
          have := (h6 ad ha).2 j (by omega)
          rw [List.getD_eq_getElem?_getD, ← List.getElem?_take_of_lt hjl, hj] at this
          have e1 : j * (Kd.int k).sz + 0 = j := by show j * 1 + 0 = j; omega
          rw [e1]
          exact this
    refine ⟨some x, cap, (List.range len).map (fun r => (Z r).take (L r)), by simp, ⟨by simpa using hl, ⟨by simp, ?_, fun hp => ⟨x, rfl, fun j p hj => ?_⟩⟩, by simp; omega, ?_, ?_⟩⟩
    · simp; unfold maxLen at hm; omega
    · simp only [List.getElem?_map, Option.map_eq_some_iff] at hj
      obtain ⟨r, hr1, rfl⟩ := hj
      obtain ⟨hr2, hr3⟩ := List.getElem?_eq_some_iff.1 hr1
      simp at hr2 hr3
      subst hr3
      obtain ⟨hi, hL⟩ := each j (by omega)
      refine ⟨[.slice (AA j) ((Z j).take (L j)).length (C j)], rfl, ⟨AA j, C j, rfl, hi.le, hi.c⟩, fun i u hu => ?_⟩
      cases i with
      | succ i => simp at hu
      | zero =>
        simp only [List.getElem?_cons_zero, Option.some.injEq] at hu
        subst hu
        have e1 : j * (Kd.slice q (Kd.int k)).sz + 0 = j := by show j * 1 + 0 = j; omega
        rw [e1, ← hL]
        exact (hr j (by omega)).1
    · intro r hr1
      obtain ⟨j, hj, rfl⟩ := List.mem_map.1 hr1
      rw [List.mem_range] at hj
      exact (each j (by omega)).1.m
    · intro r hr1
      obtain ⟨j, hj, rfl⟩ := List.mem_map.1 hr1
      rw [List.mem_range] at hj
      exact (each j (by omega)).1.wf
end Go.Proofs.YtemkddgfneohhaaW.RowKit
end

section
namespace Go.Proofs.Ytemkddgfneohhaa.F
open Go.RowKit Go.Proofs.YtemkddgfneohhaaW.PrintWords Go.Proofs.YtemkddgfneohhaaW.PrintLast Go.Proofs.YtemkddgfneohhaaW.PrintMore Go.Proofs.YtemkddgfneohhaaW.RowKit
set_option linter.unusedVariables false
def laws_FnExactLabelPolynomialAt.Pure : Prop := ∀ (l0 : List Int) (a1 : Int), l0.length ≤ maxLen → (∀ n ∈ l0, (Lit.int .i64 n).wf = true) → (Lit.int .i64 a1).wf = true → ∃ k, laws_FnExactLabelPolynomialAt.f k l0 a1 = some true
theorem laws_FnExactLabelPolynomialAt.walk (P : laws_FnExactLabelPolynomialAt.Pure) (A0 : Option Addr) (c0 : Nat) (l0 : List Int) (a1 : Int) (w : World) (i0 : PxInts w .i64 A0 c0 l0) (w1 : (Lit.int .i64 a1).wf = true) :
    Calls Try.prog 7 #[.agg #[.slice A0 l0.length c0], .int .i64 a1] w fun e w' => e = .returned (.bool true) ∧ Below w.heap.size w w' := by
  obtain ⟨k, h⟩ := P l0 a1 i0.m i0.wf w1
  refine (laws_FnExactLabelPolynomialAt.calls k _ _ l0 a1 true w i0.c i0.le h).mono ?_
  rintro e w' ⟨rfl, hd⟩
  exact ⟨rfl, hd⟩
end Go.Proofs.Ytemkddgfneohhaa.F
end

section
namespace Go.Proofs.Ytemkddgfneohhaa.Q
open Go.RowKit Go.Proofs.YtemkddgfneohhaaW.PrintWords Go.Proofs.Ytemkddgfneohhaa.F
set_option linter.unusedVariables false
theorem spec_poly {x : Int} (h0 : -13 ≤ x) (h1 : x ≤ 13) (S : List Int) (hS : S.length ≤ 10) : ∀ i, i ≤ S.length → ∀ acc : Int, Ev (fun k => spec_LabelPolynomialAt.l0 k x acc S (S.length : Int) (i : Int)) (polyL x (S.drop i) i acc, true) := by
  refine downTo _ ?_ ?_
  · intro acc
    rw [List.drop_length]
    exact Ev.step (by intro k; simp only [spec_LabelPolynomialAt.l0]; rfl) (Ev.no (by omega) (Ev.now _))
  · intro i hi ih acc
    refine Ev.step (by intro k; simp only [spec_LabelPolynomialAt.l0]; rfl) (Ev.yes (by omega) (Ev.yes (by omega) (Ev.yes (by omega) ?_)))
    rw [wid1 hi (by omega), List.drop_eq_getElem_cons hi]
    refine Ev.bind (laChoose_ev h0 h1 (by omega)) ?_
    rw [rdN' hi]
    exact ih _
theorem LabelPolynomialAt_same (p : List Int) (hp : p.length ≤ 1048576) (_ : ∀ n ∈ p, (Lit.int .i64 n).wf = true) (x : Int) (_ : (Lit.int .i64 x).wf = true) :
    ∃ r, Ev (fun k => spec_LabelPolynomialAt.f k p x) r ∧ Ev (fun k => impl_LabelPolynomialAt.f k p x) r ∧ True := by
  unfold spec_LabelPolynomialAt.f impl_LabelPolynomialAt.f
  cases hpo : isPo p with
  | false =>
    refine ⟨(0, false), Ev.bind (poGood_ev p) ?_, Ev.bind (IsPoset_ev p) ?_, trivial⟩
    · rw [hpo]
      refine Ev.no (by simp) ?_
      refine Ev.step (by intro k; simp only [spec_LabelPolynomialAt.j0]; rfl) ?_
      exact Ev.yes (by simp) (Ev.now _)
    · rw [hpo]; exact Ev.no (by simp) (Ev.now _)
  | true =>
    have hP := (isPo_iff p).1 hpo
    have hn := hP.small
    by_cases hx : -13 ≤ x ∧ x ≤ 13
    rotate_left
    · refine ⟨(0, false), Ev.bind (poGood_ev p) ?_, Ev.bind (IsPoset_ev p) ?_, trivial⟩
      · rw [hpo, l1In_eq, range_false hx]
        refine Ev.yes rfl (Ev.call rfl ?_)
        refine Ev.step (by intro k; simp only [spec_LabelPolynomialAt.j0]; rfl) ?_
        exact Ev.yes (by simp) (Ev.now _)
      · rw [hpo, within_eq, range_false hx]; exact Ev.yes rfl (Ev.call rfl (Ev.no (by simp) (Ev.now _)))
    refine ⟨(polyL x (ints (stepsN p)) 0 0, true), Ev.bind (poGood_ev p) ?_, Ev.bind (IsPoset_ev p) ?_, trivial⟩
    · rw [hpo, l1In_eq, range_true hx]
      refine Ev.yes rfl (Ev.call rfl ?_)
      refine Ev.step (by intro k; simp only [spec_LabelPolynomialAt.j0]; rfl) ?_
      refine Ev.no (by simp) (Ev.bind (laSteps_ev hP) ?_)
      exact spec_poly hx.1 hx.2 (ints (stepsN p)) (by rw [ints_len, stepsN_len]; exact hn) 0 (Nat.zero_le _) 0
    · rw [hpo, within_eq, range_true hx]
      exact Ev.yes rfl (Ev.call rfl (Ev.yes rfl (Ev.bind (polynomial_ev hP x) (Ev.now _))))
theorem FnExactLabelPolynomialAt : laws_FnExactLabelPolynomialAt.Pure := by
  intro l0 a1 hm_l0 hw_l0 hw_a1
  by_cases hl_l0 : l0.length ≤ 1048576
  rotate_left
  · exact ⟨0, by unfold laws_FnExactLabelPolynomialAt.f; exact if_pos ⟨0, (Or.inl ⟨-1, (szPoset_eq l0 1048576 (by omega) hm_l0).trans (by rw [if_neg hl_l0]), by decide⟩)⟩⟩
  obtain ⟨r, hs_, hi_, hr_⟩ := LabelPolynomialAt_same l0 hl_l0 hw_l0 a1 hw_a1
  obtain ⟨K0, e0⟩ := toPoset_ev l0 hl_l0
  obtain ⟨K1, e1⟩ := hs_
  obtain ⟨K2, e2⟩ := hi_
  obtain ⟨K3, e3⟩ := eqPoset_refl l0 (by omega)
  obtain ⟨K, hK_⟩ : ∃ K, K = 0 + K0 + K1 + K2 + K3 := ⟨_, rfl⟩
  refine ⟨K, ?_⟩
  unfold laws_FnExactLabelPolynomialAt.f
  exact if_pos ⟨K, Or.inr (⟨((1048576 - l0.length : Nat) : Int), r.1, r.2, (szPoset_eq l0 1048576 (by omega) hm_l0).trans (by rw [if_pos hl_l0]), decide_eq_false (by omega), e0 K (by omega), e1 K (by omega), e2 K (by omega), e3 K (by omega)⟩)⟩
end Go.Proofs.Ytemkddgfneohhaa.Q
end
