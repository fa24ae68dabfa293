/- Part 6 of the texts below the row of FnExactComplementLabels: printed functions with their contracts, and plain lemmas. No condition. -/
import Derived.Test.YtfahkoimleiknaaZFnExactComplementLabels5
import Derived.SizedLaws
import Derived.ChangeSlices
import Derived.WalkKit
import Derived.ProofKit
import Derived.OpenShut
import Derived.Lib.SmallJoins
import Derived.Deep.Matrix
section
namespace Go.Proofs.YtfahkoimleiknaaW.PrintWords
open Go.ChangeShapes Go.WideShapes
/-- A row's slice of whole numbers is no longer than its weight allows. -/
theorem sized_ints {H : Type} {enc : TypeId × Value → H} {P : Program} {W : World} {base : Nat} {spare : Nat → Bool} {held : Bool} {t e : TypeId} {k : IntKind} {a : Option Addr} {len cap : Nat} {d : DataW H} {ps : List MemPlace} {ts : List TypeId} {ds : List (DataW H)} {j : Nat}
    (hsz : (DataW.weightsEach P ts ds).all (· ≤ reachBytes) = true) (ht : ts[j]? = some t) (hd : ds[j]? = some d) (hu : P.underlying t = some (.slice e)) (he : P.underlying e = some (.int k)) (hc : P.cellsOf e = 1) {B : Nat} (hB : P.bytesOf e = B)
    (h : DataW.Trod enc P W base spare held t (.slice a len cap) d ps) : len * B ≤ 140737488351232 := by
  obtain ⟨fuel, hf⟩ := h
  rcases open_ints hu he hc hf with ⟨hcs, _⟩ | ⟨x, l, c, zs, hcs, _, hl, _, hz, hx, _, _⟩
  · simp [Value.cells] at hcs
    obtain ⟨rfl, rfl, rfl⟩ := hcs
    simp
  · simp [Value.cells] at hcs
    obtain ⟨rfl, rfl, rfl⟩ := hcs
    obtain ⟨hx, _⟩ := Prod.mk.inj hx
    subst hx
    have z := sized_slice hsz ht hd hu
    rw [hB] at z
    have hl2 : len ≤ zs.length := by
      rw [hz]
      split
      · exact hl
      · exact Nat.le_refl _
    have h1 : (lits (H := H) k (zs.take len)).length + (lits (H := H) k (zs.drop len)).length = zs.length := by
      simp [lits]
      omega
    rw [h1] at z
    exact Nat.le_trans (Nat.mul_le_mul_right _ hl2) z
end Go.Proofs.YtfahkoimleiknaaW.PrintWords
end

section
namespace Go.Proofs.YtfahkoimleiknaaW.RowKit
open Go.ChangeShapes Go.WideShapes Go.Deep Go.RowKit Go.Proofs.YtfahkoimleiknaaW.PrintWords
variable {H : Type} {enc : TypeId × Value → H} {P : Program} {w : World} {base : Nat} {held : Bool}
/-- What is known of a slice of whole numbers that came in. -/
structure Ints (w : World) (k : IntKind) (A : Option Addr) (c : Nat) (l : List Int) : Prop where
  le : l.length ≤ c
  c : Kd.C (Kd.int k) w A l.length l
  m : l.length ≤ maxLen
  wf : ∀ n ∈ l, (Lit.int k n).wf = true
theorem ints_of {t e : TypeId} {k : IntKind} {fuel : Nat} {cs : List Value} {x : DataW H × List MemPlace} (ht : P.underlying t = some (.slice e)) (he : P.underlying e = some (.int k)) (hc : P.cellsOf e = 1)
    (h : DataW.trod enc P w base (fun _ => true) held fuel t cs = some x) : ∃ A c l, cs = [.slice A (List.length l) c] ∧ Ints w k A c l := by
  rcases open_ints ht he hc h with ⟨hcs, _⟩ | ⟨a, len, cap, zs, hcs, _, hl, hm, hz, _, hcell, hwz⟩
  · obtain ⟨l, e1, h1, h2, h3, h4⟩ := ReadsInt.ofRowC (k := k) (w := w) (a := none) (len := 0) (cap := 0) (zs := []) (.inl ⟨rfl, rfl, rfl, rfl⟩)
    exact ⟨none, 0, l, by rw [hcs, ← e1], h4, Kd.C_of_reads (d := (0 : Int)) (h1 := fun _ => rfl) h1, h2, h3⟩
  · obtain ⟨l, e1, h1, h2, h3, h4⟩ := ReadsInt.ofRowC (k := k) (w := w) (a := some a) (len := len) (cap := cap) (zs := zs) (.inr ⟨_, rfl, hl, hm, by simpa using hz, hcell, hwz⟩)
    exact ⟨some a, cap, l, by rw [hcs, ← e1], h4, Kd.C_of_reads (d := (0 : Int)) (h1 := fun _ => rfl) h1, h2, h3⟩
theorem open_sl {r : Reach} {b0 : Nat} {t e : TypeId} {k : IntKind} {v : Value} {d : DataW H} {p : List MemPlace} (ht : P.underlying t = some (.slice e)) (he : P.underlying e = some (.int k)) (hc : P.cellsOf e = 1)
    (hv : Value.okWide P w r b0 t v) (h : DataW.Trod enc P w base (fun _ => true) held t v d p) : ∃ A c l, v = .slice A (List.length l) c ∧ Ints w k A c l := by
  obtain ⟨a, len, cap, rfl⟩ := okWide_slice ht hv
  obtain ⟨fuel, hf⟩ := h
  obtain ⟨A, c, l, hcs, hi⟩ := ints_of ht he hc hf
  simp [Value.cells] at hcs
  obtain ⟨rfl, rfl, rfl⟩ := hcs
  exact ⟨_, _, l, rfl, hi⟩
theorem open_st {r : Reach} {b0 : Nat} {t q e : TypeId} {k : IntKind} {f0 : Field} {v : Value} {d : DataW H} {p : List MemPlace} (hs : P.underlying t = some (.struct #[f0])) (hone : oneCellFields P #[f0] = true) (hC : P.cellsOf t = 1)
    (hq : f0.type = q) (ht : P.underlying q = some (.slice e)) (he : P.underlying e = some (.int k)) (hc : P.cellsOf e = 1)
    (hv : Value.okWide P w r b0 t v) (h : DataW.Trod enc P w base (fun _ => true) held t v d p) : ∃ A c l, v = .agg #[.slice A (List.length l) c] ∧ Ints w k A c l := by
  subst hq
  obtain ⟨cs, rfl, hsz⟩ := okWide_struct hs hv
  obtain ⟨c0, rfl⟩ : ∃ c0, cs = #[c0] := by
    obtain ⟨l⟩ := cs
    match l, hsz.trans hC with
    | [c0], _ => exact ⟨c0, rfl⟩
  obtain ⟨fuel, hf⟩ := h
  obtain ⟨y0, n, _, _, h0⟩ := trod_struct1 hs hf
  obtain ⟨o0, k0⟩ := Go.Deep.hone_of hone 0 f0 rfl
  obtain ⟨A, c, l, hcs, hi⟩ := ints_of ht he hc (by simpa [Value.cells, o0, k0] using h0 : DataW.trod enc P w base (fun _ => true) held n f0.type [c0] = some y0)
  simp at hcs
  subst hcs
  exact ⟨A, c, l, rfl, hi⟩
/-- What is known of a slice of slices of whole numbers that came in. -/
structure Rows (w : World) (k : IntKind) (q : TypeId) (A : Option Addr) (c : Nat) (l : List (List Int)) : Prop where
  le : l.length ≤ c
  c : Kd.C (Kd.slice q (Kd.int k)) w A l.length l
  m : l.length ≤ maxLen
  m2 : ∀ r ∈ l, r.length ≤ maxLen
  wf : ∀ r ∈ l, ∀ n ∈ r, (Lit.int k n).wf = true
theorem open_ss {r : Reach} {b0 : Nat} {t e q : TypeId} {k : IntKind} {v : Value} {d : DataW H} {p : List MemPlace} (ht : P.underlying t = some (.slice e)) (he : P.underlying e = some (.slice q)) (hq : P.underlying q = some (.int k))
    (ce : P.cellsOf e = 1) (cq : P.cellsOf q = 1)
    (hv : Value.okWide P w r b0 t v) (h : DataW.Trod enc P w base (fun _ => true) held t v d p) : ∃ A c l, v = .slice A (List.length l) c ∧ Rows w k q A c l := by
  obtain ⟨a, len, cap, rfl⟩ := okWide_slice ht hv
  obtain ⟨fuel, hf⟩ := h
  rcases Go.Deep.open_int_rows ht he hq ce cq hf with ⟨hcs, _⟩ | ⟨x, len', cap', AA, L, C, Z, hcs, _, hl, hm, _, hr⟩
  · simp [Value.cells] at hcs
    obtain ⟨rfl, rfl, rfl⟩ := hcs
    exact ⟨none, 0, [], rfl, Nat.le_refl _, ⟨rfl, Nat.zero_le _, fun h => absurd h (Nat.lt_irrefl _)⟩, Nat.zero_le _, (fun _ h => by cases h), (fun _ h => by cases h)⟩
  · simp [Value.cells] at hcs
    obtain ⟨rfl, rfl, rfl⟩ := hcs
    have each : ∀ r, r < cap → Ints w k (AA r) (C r) ((Z r).take (L r)) ∧ L r = ((Z r).take (L r)).length := by
      intro r hrc
      obtain ⟨_, h1, h2, h3, h4, h5, h6⟩ := hr r hrc
      have hz : ((Z r).take (L r)).length = L r := by rw [List.length_take]; omega
      refine ⟨⟨by omega, ⟨by rfl, by unfold maxLen at h2; omega, fun hp => ?_⟩, by omega, fun n hn => h4 n (List.mem_of_mem_take hn)⟩, hz.symm⟩
      cases ha : AA r with
      | none => have := h5 ha; omega
      | some ad =>
        refine ⟨ad, rfl, fun j p hj => ⟨[.int k p], rfl, rfl, fun i u hu => ?_⟩⟩
        have hj1 := (List.getElem?_eq_some_iff.1 hj).1
        have hjl : j < L r := by omega
        cases i with
        | succ i => simp at hu
        | zero =>
          simp at hu
          subst hu
          have := (h6 ad ha).2 j (by omega)
          rw [List.getD_eq_getElem?_getD, ← List.getElem?_take_of_lt hjl, hj] at this
          have e1 : j * (Kd.int k).sz + 0 = j := by show j * 1 + 0 = j; omega
          rw [e1]
          exact this
    refine ⟨some x, cap, (List.range len).map (fun r => (Z r).take (L r)), by simp, ⟨by simpa using hl, ⟨by simp, ?_, fun hp => ⟨x, rfl, fun j p hj => ?_⟩⟩, by simp; omega, ?_, ?_⟩⟩
    · simp; unfold maxLen at hm; omega
    · simp only [List.getElem?_map, Option.map_eq_some_iff] at hj
      obtain ⟨r, hr1, rfl⟩ := hj
      obtain ⟨hr2, hr3⟩ := List.getElem?_eq_some_iff.1 hr1
      simp at hr2 hr3
      subst hr3
      obtain ⟨hi, hL⟩ := each j (by omega)
      refine ⟨[.slice (AA j) ((Z j).take (L j)).length (C j)], rfl, ⟨AA j, C j, rfl, hi.le, hi.c⟩, fun i u hu => ?_⟩
      cases i with
      | succ i => simp at hu
      | zero =>
        simp only [List.getElem?_cons_zero, Option.some.injEq] at hu
        subst hu
        have e1 : j * (Kd.slice q (Kd.int k)).sz + 0 = j := by show j * 1 + 0 = j; omega
        rw [e1, ← hL]
        exact (hr j (by omega)).1
    · intro r hr1
      obtain ⟨j, hj, rfl⟩ := List.mem_map.1 hr1
      rw [List.mem_range] at hj
      exact (each j (by omega)).1.m
    · intro r hr1
      obtain ⟨j, hj, rfl⟩ := List.mem_map.1 hr1
      rw [List.mem_range] at hj
      exact (each j (by omega)).1.wf
end Go.Proofs.YtfahkoimleiknaaW.RowKit
end

section
namespace Go.Proofs.Ytfahkoimleiknaa.F
open Go.RowKit Go.Proofs.YtfahkoimleiknaaW.PrintWords Go.Proofs.YtfahkoimleiknaaW.PrintLast Go.Proofs.YtfahkoimleiknaaW.PrintMore Go.Proofs.YtfahkoimleiknaaW.RowKit
set_option linter.unusedVariables false
def laws_FnExactComplementLabels.Pure : Prop := ∀ (l0 : List Int) (l1 : List Int) (a2 : Int), l0.length ≤ maxLen → (∀ n ∈ l0, (Lit.int .i64 n).wf = true) → l1.length ≤ maxLen → (∀ n ∈ l1, (Lit.int .i64 n).wf = true) → (Lit.int .i64 a2).wf = true → ∃ k, laws_FnExactComplementLabels.f k l0 l1 a2 = some true
theorem laws_FnExactComplementLabels.walk (P : laws_FnExactComplementLabels.Pure) (A0 : Option Addr) (c0 : Nat) (l0 : List Int) (A1 : Option Addr) (c1 : Nat) (l1 : List Int) (a2 : Int) (w : World) (i0 : Ints w .i64 A0 c0 l0) (i1 : Ints w .i64 A1 c1 l1) (w2 : (Lit.int .i64 a2).wf = true) :
    Calls Try.prog 12 #[.agg #[.slice A0 l0.length c0], .slice A1 l1.length c1, .int .i64 a2] w fun e w' => e = .returned (.bool true) ∧ Below w.heap.size w w' := by
  obtain ⟨k, h⟩ := P l0 l1 a2 i0.m i0.wf i1.m i1.wf w2
  refine (laws_FnExactComplementLabels.calls k _ _ l0 _ _ l1 a2 true w i0.c i0.le i1.c i1.le h).mono ?_
  rintro e w' ⟨rfl, hd⟩
  exact ⟨rfl, hd⟩
end Go.Proofs.Ytfahkoimleiknaa.F
end

section
namespace Go.Proofs.Ytfahkoimleiknaa.Q
open Go.RowKit Go.Proofs.YtfahkoimleiknaaW.PrintWords Go.Proofs.Ytfahkoimleiknaa.F
set_option linter.unusedVariables false
def turnedL (f : List Int) (m : Int) : List Int := f.reverse.map fun x => wrap64 (m - x)
theorem turnedL_take (f : List Int) (m : Int) (i : Nat) (hi : i < f.length) : (turnedL f m).take i ++ [wrap64 (m - f.getD (f.length - 1 - i) 0)] = (turnedL f m).take (i + 1) := by
  rw [List.take_add_one]
  unfold turnedL
  rw [List.getElem?_map, List.getElem?_reverse hi, List.getD_eq_getElem?_getD, List.getElem?_eq_getElem (show f.length - 1 - i < f.length by omega)]
  rfl
theorem turned_ev (f : List Int) (m : Int) (h : f.length ≤ 1000) : Ev (fun k => impl_turned.f k f m) (turnedL f m) := by
  unfold impl_turned.f
  refine Ev.bind (backwards_ev f (by omega)) ?_
  rw [List.length_reverse]
  have key : ∀ i, i ≤ f.length → Ev (fun k => impl_turned.l0 k m ((turnedL f m).take i) f.reverse (f.length : Int) (i : Int)) (turnedL f m) := by
    refine downTo _ ?_ ?_
    · refine Ev.step (by intro k; simp only [impl_turned.l0]; rfl) (Ev.no (by omega) (Ev.ret ?_))
      rw [List.take_of_length_le (by simp [turnedL])]
    · intro i hi ih
      refine Ev.step (by intro k; simp only [impl_turned.l0]; rfl) (Ev.yes (by omega) (Ev.yes (by omega) (Ev.yes (by simp; omega) (Ev.yes (by simp; omega) ?_))))
      rw [rdN, reverse_getD f i hi, turnedL_take f m i hi, wid1 hi (by omega)]
      exact ih
  exact key 0 (by omega)
theorem impl_ComplementLabels_ev (p f : List Int) (m : Int) : Ev (fun k => impl_ComplementLabels.f k p f m) (if isPo p && (isB m && labA p f m 0) then (turnedL f m, true) else ([], false)) := by
  unfold impl_ComplementLabels.f
  refine Ev.bind (labelled_ev p f m) ?_
  cases h : (isPo p && (isB m && labA p f m 0)) with
  | false => exact Ev.no (by simp) (Ev.ret (by simp))
  | true =>
    obtain ⟨h1, h2, n, rfl, h3⟩ := labelled_small h
    exact Ev.yes rfl (Ev.bind (turned_ev f n (by omega)) (Ev.ret (by simp)))
theorem spec_ComplementLabels_ev (p f : List Int) (m : Int) : Ev (fun k => spec_ComplementLabels.f k p f m) (if isPo p && (isB m && labA p f m 0) then (turnedL f m, true) else ([], false)) := by
  have stop : Ev (fun k => spec_ComplementLabels.j0 k f m true) ([], false) := Ev.step (by intro k; simp only [spec_ComplementLabels.j0]; rfl) (Ev.yes (show true = true from rfl) (Ev.ret rfl))
  unfold spec_ComplementLabels.f
  refine Ev.bind (poGood_ev p) ?_
  cases hp : isPo p with
  | false => exact Ev.no (by simp) (evc stop (by simp))
  | true =>
  have hpo := (isPo_iff p).1 hp
  have hn := hpo.small
  refine Ev.yes rfl (Ev.call (laBound_eq m) ?_)
  cases hb : isB m with
  | false => exact Ev.no (by simp) (evc stop (by simp))
  | true =>
  refine Ev.yes rfl (Ev.bind (laAre_ev hpo f m 0) ?_)
  cases hl : labA p f m 0 with
  | false => exact evc stop (by simp)
  | true =>
  have hfl : f.length = p.length := by unfold labA at hl; rw [Bool.and_eq_true, decide_eq_true_eq] at hl; exact hl.1
  have hp1 := hpo.pos
  refine Ev.step (by intro k; simp only [spec_ComplementLabels.j0]; rfl) (Ev.no (by simp) ?_)
  have key : ∀ i, i ≤ f.length → Ev (fun k => spec_ComplementLabels.l0 k f m ((turnedL f m).take i) ((f.length : Int) - 1 - (i : Int))) (turnedL f m, true) := by
    refine downTo _ ?_ ?_
    · refine Ev.step (by intro k; simp only [spec_ComplementLabels.l0]; rfl) (Ev.no (by omega) (Ev.ret ?_))
      rw [List.take_of_length_le (by simp [turnedL])]
    · intro i hi ih
      refine Ev.step (by intro k; simp only [spec_ComplementLabels.l0]; rfl) (Ev.yes (by omega) (Ev.yes (by omega) (Ev.yes (by omega) (Ev.yes (by simp; omega) ?_))))
      have ej : (f.length : Int) - 1 - (i : Int) = ((f.length - 1 - i : Nat) : Int) := by omega
      have ew : wrap64 ((f.length : Int) - 1 - (i : Int) - 1) = (f.length : Int) - 1 - ((i + 1 : Nat) : Int) := by rw [wid (by omega) (by omega)]; omega
      rw [ew, ej, rdN, turnedL_take f m i hi]
      exact ih
  have e0 : wrap64 ((f.length : Int) - 1) = (f.length : Int) - 1 - ((0 : Nat) : Int) := by rw [wid (by omega) (by omega)]; omega
  rw [e0]
  exact evc (key 0 (by omega)) (by simp)
theorem ComplementLabels_same (p : List Int) (hp : p.length ≤ 1048576) (_ : ∀ n ∈ p, (Lit.int .i64 n).wf = true) (f : List Int) (hf : f.length ≤ 1048576) (_ : ∀ n ∈ f, (Lit.int .i64 n).wf = true) (m : Int) (_ : (Lit.int .i64 m).wf = true) :
    ∃ r, Ev (fun k => spec_ComplementLabels.f k p f m) r ∧ Ev (fun k => impl_ComplementLabels.f k p f m) r ∧ r.1.length ≤ 1048576 := by
  refine ⟨_, spec_ComplementLabels_ev p f m, impl_ComplementLabels_ev p f m, ?_⟩
  split
  · simp [turnedL, hf]
  · exact Nat.zero_le _
theorem FnExactComplementLabels : laws_FnExactComplementLabels.Pure := by
  intro p f m hm_p hw_p hm_f hw_f hw_m
  refine Ev.rounds (g := fun k => laws_FnExactComplementLabels.f k p f m) ?_
  unfold laws_FnExactComplementLabels.f
  refine Ev.ite (fun _ => Ev.ret rfl) (fun hb_f => ?_)
  have hl_f : f.length ≤ 1048576 := by omega
  refine Ev.call (szPoset_eq p (1048576) (by omega) hm_p) ?_
  refine Ev.ite (fun _ => Ev.ret rfl) (fun hb_p => ?_)
  have hl0_p : p.length ≤ 1048576 := by
    rcases Nat.lt_or_ge (1048576) p.length with h | h
    · rw [if_neg (by omega)] at hb_p; omega
    · exact h
  have hl_p : p.length ≤ 1048576 := by omega
  try rw [if_pos hl0_p]
  obtain ⟨r, hs, hi, hr⟩ := ComplementLabels_same p hl_p hw_p f hl_f hw_f m hw_m
  repeat (first
    | exact Ev.ret rfl
    | (refine Ev.bind hs ?_)
    | (refine Ev.bind hi ?_)
    | (refine Ev.call hs ?_)
    | (refine Ev.call hi ?_)
    | (refine Ev.bind (toPoset_ev p hl_p) ?_)
    | (refine Ev.bind (eqPoset_refl p ?hb) ?_; (case hb => omega))
    | (refine Ev.bind (markPoset_ev1 p ?hb) ?_; (case hb => omega))
    | (refine Ev.bind (toIntS_ev f hl_f) ?_)
    | (refine Ev.bind (eqIntS_refl f ?hb) ?_; (case hb => omega))
    | (refine Ev.bind (markIntS_ev1 f ?hb) ?_; (case hb => omega))
    | (refine Ev.bind (markIntS_ev f _ ?hb) ?_; (case hb => omega))
    | (refine Ev.bind (eqIntS_refl _ ?hb) ?_; (case hb => omega))
    | (refine Ev.bind (markIntS_ev1 _ ?hb) ?_; (case hb => omega))
    | (refine Ev.bind (heldIntS_ev1 _ ?hb) ?_; (case hb => omega))
    | (refine Ev.yes rfl ?_)
    | (refine Ev.no ?hn ?_; (case hn => first | (simp; done) | omega))
    | (refine Ev.step (by intro k; simp only [laws_FnExactComplementLabels.j0]; rfl) ?_)
    | (refine Ev.step (by intro k; simp only [laws_FnExactComplementLabels.j1]; rfl) ?_)
    | (refine Ev.step (by intro k; simp only [laws_FnExactComplementLabels.j2]; rfl) ?_)
    )
end Go.Proofs.Ytfahkoimleiknaa.Q
end
