/- Part 5 of the texts below the row of FnExactFromLattice: printed functions with their contracts, and plain lemmas. No condition. -/
import Derived.Test.YtfahkoimleiknaaZFnExactFromLattice4
import Derived.SizedLaws
import Derived.ChangeSlices
import Derived.WalkKit
import Derived.ProofKit
import Derived.OpenShut
import Derived.Lib.SmallJoins
import Derived.Deep.Matrix
section
section
namespace Go.Proofs.YtfahkoimleiknaaW.PrintWords
open Go.ChangeShapes Go.WideShapes
/-- A row's slice of whole numbers is no longer than its weight allows. -/
theorem sized_ints {H : Type} {enc : TypeId × Value → H} {P : Program} {W : World} {base : Nat} {spare : Nat → Bool} {held : Bool} {t e : TypeId} {k : IntKind} {a : Option Addr} {len cap : Nat} {d : DataW H} {ps : List MemPlace} {ts : List TypeId} {ds : List (DataW H)} {j : Nat}
    (hsz : (DataW.weightsEach P ts ds).all (· ≤ reachBytes) = true) (ht : ts[j]? = some t) (hd : ds[j]? = some d) (hu : P.underlying t = some (.slice e)) (he : P.underlying e = some (.int k)) (hc : P.cellsOf e = 1) {B : Nat} (hB : P.bytesOf e = B)
    (h : DataW.Trod enc P W base spare held t (.slice a len cap) d ps) : len * B ≤ 140737488351232 := by
  obtain ⟨fuel, hf⟩ := h
  rcases open_ints hu he hc hf with ⟨hcs, _⟩ | ⟨x, l, c, zs, hcs, _, hl, _, hz, hx, _, _⟩
  · simp [Value.cells] at hcs
    obtain ⟨rfl, rfl, rfl⟩ := hcs
    simp
  · simp [Value.cells] at hcs
    obtain ⟨rfl, rfl, rfl⟩ := hcs
    obtain ⟨hx, _⟩ := Prod.mk.inj hx
    subst hx
    have z := sized_slice hsz ht hd hu
    rw [hB] at z
    have hl2 : len ≤ zs.length := by
      rw [hz]
      split
      · exact hl
      · exact Nat.le_refl _
    have h1 : (lits (H := H) k (zs.take len)).length + (lits (H := H) k (zs.drop len)).length = zs.length := by
      simp [lits]
      omega
    rw [h1] at z
    exact Nat.le_trans (Nat.mul_le_mul_right _ hl2) z
end Go.Proofs.YtfahkoimleiknaaW.PrintWords
end
end

section
namespace Go.Proofs.YtfahkoimleiknaaW.RowKit
open Go.ChangeShapes Go.WideShapes Go.Deep Go.RowKit Go.Proofs.YtfahkoimleiknaaW.PrintWords
variable {H : Type} {enc : TypeId × Value → H} {P : Program} {w : World} {base : Nat} {held : Bool}
/-- What is known of a slice of whole numbers that came in. -/
structure PxInts (w : World) (k : IntKind) (A : Option Addr) (c : Nat) (l : List Int) : Prop where
  le : l.length ≤ c
  c : Kd.C (Kd.int k) w A l.length l
  m : l.length ≤ maxLen
  wf : ∀ n ∈ l, (Lit.int k n).wf = true
theorem ints_of {t e : TypeId} {k : IntKind} {fuel : Nat} {cs : List Value} {x : DataW H × List MemPlace} (ht : P.underlying t = some (.slice e)) (he : P.underlying e = some (.int k)) (hc : P.cellsOf e = 1)
    (h : DataW.trod enc P w base (fun _ => true) held fuel t cs = some x) : ∃ A c l, cs = [.slice A (List.length l) c] ∧ PxInts w k A c l := by
  rcases open_ints ht he hc h with ⟨hcs, _⟩ | ⟨a, len, cap, zs, hcs, _, hl, hm, hz, _, hcell, hwz⟩
  · obtain ⟨l, e1, h1, h2, h3, h4⟩ := ReadsInt.ofRowC (k := k) (w := w) (a := none) (len := 0) (cap := 0) (zs := []) (.inl ⟨rfl, rfl, rfl, rfl⟩)
    exact ⟨none, 0, l, by rw [hcs, ← e1], h4, Kd.C_of_reads (d := (0 : Int)) (h1 := fun _ => rfl) h1, h2, h3⟩
  · obtain ⟨l, e1, h1, h2, h3, h4⟩ := ReadsInt.ofRowC (k := k) (w := w) (a := some a) (len := len) (cap := cap) (zs := zs) (.inr ⟨_, rfl, hl, hm, by simpa using hz, hcell, hwz⟩)
    exact ⟨some a, cap, l, by rw [hcs, ← e1], h4, Kd.C_of_reads (d := (0 : Int)) (h1 := fun _ => rfl) h1, h2, h3⟩
theorem open_sl {r : Reach} {b0 : Nat} {t e : TypeId} {k : IntKind} {v : Value} {d : DataW H} {p : List MemPlace} (ht : P.underlying t = some (.slice e)) (he : P.underlying e = some (.int k)) (hc : P.cellsOf e = 1)
    (hv : Value.okWide P w r b0 t v) (h : DataW.Trod enc P w base (fun _ => true) held t v d p) : ∃ A c l, v = .slice A (List.length l) c ∧ PxInts w k A c l := by
  obtain ⟨a, len, cap, rfl⟩ := okWide_slice ht hv
  obtain ⟨fuel, hf⟩ := h
  obtain ⟨A, c, l, hcs, hi⟩ := ints_of ht he hc hf
  simp [Value.cells] at hcs
  obtain ⟨rfl, rfl, rfl⟩ := hcs
  exact ⟨_, _, l, rfl, hi⟩
theorem open_st {r : Reach} {b0 : Nat} {t q e : TypeId} {k : IntKind} {f0 : Field} {v : Value} {d : DataW H} {p : List MemPlace} (hs : P.underlying t = some (.struct #[f0])) (hone : oneCellFields P #[f0] = true) (hC : P.cellsOf t = 1)
    (hq : f0.type = q) (ht : P.underlying q = some (.slice e)) (he : P.underlying e = some (.int k)) (hc : P.cellsOf e = 1)
    (hv : Value.okWide P w r b0 t v) (h : DataW.Trod enc P w base (fun _ => true) held t v d p) : ∃ A c l, v = .agg #[.slice A (List.length l) c] ∧ PxInts w k A c l := by
  subst hq
  obtain ⟨cs, rfl, hsz⟩ := okWide_struct hs hv
  obtain ⟨c0, rfl⟩ : ∃ c0, cs = #[c0] := by
    obtain ⟨l⟩ := cs
    match l, hsz.trans hC with
    | [c0], _ => exact ⟨c0, rfl⟩
  obtain ⟨fuel, hf⟩ := h
  obtain ⟨y0, n, _, _, h0⟩ := trod_struct1 hs hf
  obtain ⟨o0, k0⟩ := Go.Deep.hone_of hone 0 f0 rfl
  obtain ⟨A, c, l, hcs, hi⟩ := ints_of ht he hc (by simpa [Value.cells, o0, k0] using h0 : DataW.trod enc P w base (fun _ => true) held n f0.type [c0] = some y0)
  simp at hcs
  subst hcs
  exact ⟨A, c, l, rfl, hi⟩
/-- What is known of a slice of slices of whole numbers that came in. -/
structure PxRows (w : World) (k : IntKind) (q : TypeId) (A : Option Addr) (c : Nat) (l : List (List Int)) : Prop where
  le : l.length ≤ c
  c : Kd.C (Kd.slice q (Kd.int k)) w A l.length l
  m : l.length ≤ maxLen
  m2 : ∀ r ∈ l, r.length ≤ maxLen
  wf : ∀ r ∈ l, ∀ n ∈ r, (Lit.int k n).wf = true
theorem open_ss {r : Reach} {b0 : Nat} {t e q : TypeId} {k : IntKind} {v : Value} {d : DataW H} {p : List MemPlace} (ht : P.underlying t = some (.slice e)) (he : P.underlying e = some (.slice q)) (hq : P.underlying q = some (.int k))
    (ce : P.cellsOf e = 1) (cq : P.cellsOf q = 1)
    (hv : Value.okWide P w r b0 t v) (h : DataW.Trod enc P w base (fun _ => true) held t v d p) : ∃ A c l, v = .slice A (List.length l) c ∧ PxRows w k q A c l := by
  obtain ⟨a, len, cap, rfl⟩ := okWide_slice ht hv
  obtain ⟨fuel, hf⟩ := h
  rcases Go.Deep.open_int_rows ht he hq ce cq hf with ⟨hcs, _⟩ | ⟨x, len', cap', AA, L, C, Z, hcs, _, hl, hm, _, hr⟩
  · simp [Value.cells] at hcs
    obtain ⟨rfl, rfl, rfl⟩ := hcs
    exact ⟨none, 0, [], rfl, Nat.le_refl _, ⟨rfl, Nat.zero_le _, fun h => absurd h (Nat.lt_irrefl _)⟩, Nat.zero_le _, (fun _ h => by cases h), (fun _ h => by cases h)⟩
  · simp [Value.cells] at hcs
    obtain ⟨rfl, rfl, rfl⟩ := hcs
    have each : ∀ r, r < cap → PxInts w k (AA r) (C r) ((Z r).take (L r)) ∧ L r = ((Z r).take (L r)).length := by
      intro r hrc
      obtain ⟨_, h1, h2, h3, h4, h5, h6⟩ := hr r hrc
      have hz : ((Z r).take (L r)).length = L r := by rw [List.length_take]; omega
      refine ⟨⟨by omega, ⟨by rfl, by unfold maxLen at h2; omega, fun hp => ?_⟩, by omega, fun n hn => h4 n (List.mem_of_mem_take hn)⟩, hz.symm⟩
      cases ha : AA r with
      | none => have := h5 ha; omega
      | some ad =>
        refine ⟨ad, rfl, fun j p hj => ⟨[.int k p], rfl, rfl, fun i u hu => ?_⟩⟩
        have hj1 := (List.getElem?_eq_some_iff.1 hj).1
        have hjl : j < L r := by omega
        cases i with
        | succ i => simp at hu
        | zero =>
          simp at hu
          subst hu
          have := (h6 ad ha).2 j (by omega)
          rw [List.getD_eq_getElem?_getD, ← List.getElem?_take_of_lt hjl, hj] at this
          have e1 : j * (Kd.int k).sz + 0 = j := by show j * 1 + 0 = j; omega
          rw [e1]
          exact this
    refine ⟨some x, cap, (List.range len).map (fun r => (Z r).take (L r)), by simp, ⟨by simpa using hl, ⟨by simp, ?_, fun hp => ⟨x, rfl, fun j p hj => ?_⟩⟩, by simp; omega, ?_, ?_⟩⟩
    · simp; unfold maxLen at hm; omega
    · simp only [List.getElem?_map, Option.map_eq_some_iff] at hj
      obtain ⟨r, hr1, rfl⟩ := hj
      obtain ⟨hr2, hr3⟩ := List.getElem?_eq_some_iff.1 hr1
      simp at hr2 hr3
      subst hr3
      obtain ⟨hi, hL⟩ := each j (by omega)
      refine ⟨[.slice (AA j) ((Z j).take (L j)).length (C j)], rfl, ⟨AA j, C j, rfl, hi.le, hi.c⟩, fun i u hu => ?_⟩
      cases i with
      | succ i => simp at hu
      | zero =>
        simp only [List.getElem?_cons_zero, Option.some.injEq] at hu
        subst hu
        have e1 : j * (Kd.slice q (Kd.int k)).sz + 0 = j := by show j * 1 + 0 = j; omega
        rw [e1, ← hL]
        exact (hr j (by omega)).1
    · intro r hr1
      obtain ⟨j, hj, rfl⟩ := List.mem_map.1 hr1
      rw [List.mem_range] at hj
      exact (each j (by omega)).1.m
    · intro r hr1
      obtain ⟨j, hj, rfl⟩ := List.mem_map.1 hr1
      rw [List.mem_range] at hj
      exact (each j (by omega)).1.wf
end Go.Proofs.YtfahkoimleiknaaW.RowKit
end

section
namespace Go.Proofs.Ytfahkoimleiknaa.F
open Go.RowKit Go.Proofs.YtfahkoimleiknaaW.PrintWords Go.Proofs.YtfahkoimleiknaaW.PrintLast Go.Proofs.YtfahkoimleiknaaW.PrintMore Go.Proofs.YtfahkoimleiknaaW.RowKit
set_option linter.unusedVariables false
def laws_FnExactFromLattice.Pure : Prop := ∀ (l0 : List Int), l0.length ≤ maxLen → (∀ n ∈ l0, (Lit.int .i64 n).wf = true) → ∃ k, laws_FnExactFromLattice.f k l0 = some true
theorem laws_FnExactFromLattice.walk (P : laws_FnExactFromLattice.Pure) (A0 : Option Addr) (c0 : Nat) (l0 : List Int) (w : World) (i0 : PxInts w .i64 A0 c0 l0) :
    Calls Try.prog 6 #[.slice A0 l0.length c0] w fun e w' => e = .returned (.bool true) ∧ Below w.heap.size w w' := by
  obtain ⟨k, h⟩ := P l0 i0.m i0.wf
  refine (laws_FnExactFromLattice.calls k _ _ l0 true w i0.c i0.le h).mono ?_
  rintro e w' ⟨rfl, hd⟩
  exact ⟨rfl, hd⟩
end Go.Proofs.Ytfahkoimleiknaa.F
end

section
namespace Go.Proofs.Ytfahkoimleiknaa.Q
open Go.RowKit Go.Proofs.YtfahkoimleiknaaW.PrintWords Go.Proofs.Ytfahkoimleiknaa.F
set_option linter.unusedVariables false
/-- How many rows the first t numbers ask for. -/
def mxs (w : List Int) : Nat → Nat
  | 0 => 0
  | t + 1 => max (mxs w t) ((w.getD t 0).toNat + 1)
theorem mxs_succ (w : List Int) (t : Nat) : mxs w (t + 1) = max (mxs w t) ((w.getD t 0).toNat + 1) := rfl
theorem mxs_mono (w : List Int) {i j : Nat} (h : i ≤ j) : mxs w i ≤ mxs w j := by
  induction j with
  | zero => have : i = 0 := by omega
            subst this; exact Nat.le_refl _
  | succ j ih =>
    rcases Nat.lt_or_ge i (j + 1) with h1 | h1
    · exact Nat.le_trans (ih (by omega)) (by rw [mxs_succ]; omega)
    · have : i = j + 1 := by omega
      subst this; exact Nat.le_refl _
theorem mxs_le (w : List Int) (b : Nat) : ∀ t, (∀ k, k < t → (w.getD k 0).toNat < b) → mxs w t ≤ b := by
  intro t
  induction t with
  | zero => intro _; exact Nat.zero_le _
  | succ t ih => intro h; have h1 := h t (by omega); have h2 := ih (fun k hk => h k (by omega)); rw [mxs_succ]; omega
theorem totLen_app (a b : List (List Int)) : totLen (a ++ b) = totLen a + totLen b := by
  induction a with
  | nil => simp [totLen]
  | cons x a ih => simp only [List.cons_append, totLen, ih]; omega
theorem totLen_rep (n : Nat) : totLen (List.replicate n []) = 0 := by
  induction n with
  | zero => rfl
  | succ n ih => rw [List.replicate_succ]; simp [totLen, ih]
theorem totLen_set (l : List (List Int)) (v : Int) : ∀ i, i < l.length → totLen (l.set i (row l i ++ [v])) = totLen l + 1 := by
  induction l with
  | nil => intro i h; simp at h
  | cons x l ih =>
    intro i h
    cases i with
    | zero =>
      have : row (x :: l) 0 = x := rfl
      rw [this]
      simp only [List.set_cons_zero, totLen, List.length_append, List.length_singleton]; omega
    | succ i =>
      have : row (x :: l) (i + 1) = row l i := by unfold row; simp
      rw [this]
      simp only [List.set_cons_succ, totLen, ih i (by simpa using h)]; omega
theorem totLen_mem {l : List (List Int)} {q : List Int} (h : q ∈ l) : q.length ≤ totLen l := by
  induction l with
  | nil => cases h
  | cons x l ih =>
    simp only [totLen]
    rcases List.mem_cons.1 h with rfl | h
    · omega
    · have := ih h; omega
theorem totLen_row (l : List (List Int)) (i : Nat) : (row l i).length ≤ totLen l := by
  rcases Nat.lt_or_ge i l.length with h | h
  · have : row l i = l[i] := by unfold row; rw [List.getD_eq_getElem?_getD, List.getElem?_eq_getElem h]; rfl
    rw [this]; exact totLen_mem (List.getElem_mem h)
  · have : row l i = [] := by unfold row; rw [List.getD_eq_getElem?_getD, List.getElem?_eq_none h]; rfl
    rw [this]; exact Nat.zero_le _
theorem totLen_ge (l : List (List Int)) (h : ∀ q ∈ l, 1 ≤ q.length) : l.length ≤ totLen l := by
  induction l with
  | nil => exact Nat.zero_le _
  | cons x l ih =>
    have h1 := h x List.mem_cons_self
    have h2 := ih (fun q hq => h q (List.mem_cons_of_mem _ hq))
    simp only [totLen, List.length_cons]; omega
theorem isTab_short {X : List (List Int)} (h : totLen X < X.length) : isTab X = false := by
  cases e : isTab X with
  | false => rfl
  | true =>
    obtain ⟨a, b, ht⟩ := isTab_facts e
    have hb := ht.b1
    have hl := ht.len
    have := totLen_ge X (fun q hq => by
      obtain ⟨i, hi, rfl⟩ := List.getElem_of_mem hq
      have h1 := ht.rlen i (by omega)
      have : row X i = X[i] := by unfold row; rw [List.getD_eq_getElem?_getD, List.getElem?_eq_getElem hi]; rfl
      rw [this] at h1; omega)
    omega
theorem rep_succ (l : List (List Int)) (n : Nat) : l ++ [[]] ++ List.replicate n [] = l ++ List.replicate (n + 1) [] := by
  rw [List.append_assoc, List.replicate_succ]; rfl
/-- The program makes rows until row r is there. -/
theorem grow_ev (w : List Int) (n t r : Nat) (R : List (List Int) × Bool) (hr : r ≤ 9) : ∀ (d : Nat) (x : List (List Int)), d = r + 1 - x.length → x.length ≤ 10 → totLen x ≤ 10 →
    Ev (fun k => impl_FromLattice.l0 k ((x ++ List.replicate d []).set r (row (x ++ List.replicate d []) r ++ [(t : Int)])) w (n : Int) (wrap64 ((t : Int) + 1))) R →
    Ev (fun k => impl_FromLattice.l1 k x (t : Int) (r : Int) w (n : Int) (t : Int)) R := by
  intro d
  induction d with
  | zero =>
    intro x hd hx hq h
    rw [List.replicate_zero, List.append_nil] at h
    refine Ev.step (by intro k; simp only [impl_FromLattice.l1]; rfl) (Ev.no (by omega) (Ev.yes (by omega) (Ev.yes (by omega) ?_)))
    rw [rdRow, Int.toNat_natCast]
    have := totLen_row x r
    exact Ev.yes (by omega) h
  | succ d ih =>
    intro x hd hx hq h
    refine Ev.step (by intro k; simp only [impl_FromLattice.l1]; rfl) (Ev.yes (by omega) (Ev.yes (by omega) ?_))
    refine ih (x ++ [[]]) (by rw [List.length_append, List.length_singleton]; omega) (by rw [List.length_append, List.length_singleton]; omega) (by rw [totLen_app]; simp [totLen]; exact hq) ?_
    rw [rep_succ]
    exact h
theorem row_app (a b : List (List Int)) {r : Nat} (h : r < a.length) : row (a ++ b) r = row a r := by
  unfold row; rw [List.getD_eq_getElem?_getD, List.getElem?_append_left h, List.getD_eq_getElem?_getD]
def latR (X : List (List Int)) : List (List Int) × Bool := if isTab X then (X, true) else ([], false)
theorem both_run (w : List Int) (n M : Nat) (hn : w.length = n) (hn10 : n ≤ 10) (hM : mxs w n = M) (hM10 : M ≤ 10) (hin : ∀ k, k < n → 0 ≤ w.getD k 0 ∧ w.getD k 0 ≤ 9) :
    ∀ t, t ≤ n → ∀ x : List (List Int), x.length = mxs w t → totLen x = t → ∃ X : List (List Int), X.length = M ∧ totLen X = n ∧
      Ev (fun k => impl_FromLattice.l0 k x w (n : Int) (t : Int)) (latR X) ∧ Ev (fun k => spec_FromLattice.l1 k (x ++ List.replicate (M - x.length) []) w (n : Int) (t : Int)) (latR X) := by
  refine downTo _ ?_ ?_
  · intro x hx hq
    have hx2 : x.length = M := by omega
    refine ⟨x, hx2, hq, ?_, ?_⟩
    · refine Ev.step (by intro k; simp only [impl_FromLattice.l0]; rfl) (Ev.no (by omega) (Ev.bind (IsTableau_ev x) ?_))
      unfold latR
      cases isTab x with
      | true => exact Ev.yes rfl (Ev.now _)
      | false => exact Ev.no (by simp) (Ev.now _)
    · rw [hx2, Nat.sub_self, List.replicate_zero, List.append_nil]
      refine Ev.step (by intro k; simp only [spec_FromLattice.l1]; rfl) (Ev.no (by omega) (Ev.bind (shGood_ev x) ?_))
      unfold latR
      cases isTab x with
      | true => exact Ev.yes rfl (Ev.now _)
      | false => exact Ev.no (by simp) (Ev.now _)
  · intro t ht ih x hx hq
    have h1 := hin t ht
    obtain ⟨r, hr⟩ := Int.eq_ofNat_of_zero_le h1.1
    have hm : mxs w (t + 1) = max (mxs w t) (r + 1) := by rw [mxs_succ, hr, Int.toNat_natCast]
    have hmM : mxs w (t + 1) ≤ M := by rw [← hM]; exact mxs_mono w (by omega)
    generalize hy : x ++ List.replicate (r + 1 - x.length) [] = y
    have hyl : y.length = mxs w (t + 1) := by rw [← hy, List.length_append, List.length_replicate]; omega
    have hyt : totLen y = t := by rw [← hy, totLen_app, totLen_rep]; omega
    obtain ⟨X, g1, g2, g3, g4⟩ := ih (y.set r (row y r ++ [(t : Int)])) (by rw [List.length_set]; exact hyl) (by rw [totLen_set _ _ _ (by omega)]; omega)
    refine ⟨X, g1, g2, ?_, ?_⟩
    · refine Ev.step (by intro k; simp only [impl_FromLattice.l0]; rfl) (Ev.yes (by omega) (Ev.yes (by omega) (Ev.yes (by omega) ?_)))
      rw [rdN, hr]
      refine Ev.call (within_eq _ _ _) (Ev.yes (range_true (by omega)) ?_)
      refine grow_ev w n t r _ (by omega) _ x rfl (by omega) (by omega) ?_
      rw [hy, wid1 ht (by omega)]
      exact g3
    · have e : x ++ List.replicate (M - x.length) [] = y ++ List.replicate (M - y.length) [] := by
        rw [← hy, List.append_assoc, List.replicate_append_replicate, List.length_append, List.length_replicate]
        congr 2; omega
      rw [e]
      refine Ev.step (by intro k; simp only [spec_FromLattice.l1]; rfl) (Ev.yes (by omega) (Ev.yes (by omega) (Ev.yes (by omega) ?_)))
      rw [rdN, hr, rdRow, Int.toNat_natCast, row_app _ _ (by omega), List.set_append_left _ _ (by omega)]
      have := totLen_row y r
      refine Ev.yes (by omega) (Ev.yes (by rw [List.length_append]; omega) (Ev.yes (by omega) ?_))
      rw [wid1 ht (by omega)]
      rw [List.length_set] at g4
      exact g4
/-- A number out of range ends the program. -/
theorem bad_run (w : List Int) (n : Nat) (hn : w.length = n) (hn10 : n ≤ 10) (j : Nat) (hj : j < n) (hbad : ¬ (0 ≤ w.getD j 0 ∧ w.getD j 0 ≤ 9)) (hin : ∀ k, k < j → 0 ≤ w.getD k 0 ∧ w.getD k 0 ≤ 9) :
    ∀ t, t ≤ j → ∀ x : List (List Int), x.length ≤ 10 → totLen x = t → Ev (fun k => impl_FromLattice.l0 k x w (n : Int) (t : Int)) ([], false) := by
  refine downTo _ ?_ ?_
  · intro x hx hq
    refine Ev.step (by intro k; simp only [impl_FromLattice.l0]; rfl) (Ev.yes (by omega) (Ev.yes (by omega) (Ev.yes (by omega) ?_)))
    rw [rdN]
    exact Ev.call (within_eq _ _ _) (Ev.no (by rw [range_false hbad]; simp) (Ev.now _))
  · intro t ht ih x hx hq
    have h1 := hin t ht
    obtain ⟨r, hr⟩ := Int.eq_ofNat_of_zero_le h1.1
    have hyl : (x ++ List.replicate (r + 1 - x.length) ([] : List Int)).length ≤ 10 ∧ r < (x ++ List.replicate (r + 1 - x.length) ([] : List Int)).length := by rw [List.length_append, List.length_replicate]; omega
    refine Ev.step (by intro k; simp only [impl_FromLattice.l0]; rfl) (Ev.yes (by omega) (Ev.yes (by omega) (Ev.yes (by omega) ?_)))
    rw [rdN, hr]
    refine Ev.call (within_eq _ _ _) (Ev.yes (range_true (by omega)) ?_)
    refine grow_ev w n t r _ (by omega) _ x rfl (by omega) (by omega) ?_
    rw [wid1 (n := n) (i := t) (by omega) (by omega)]
    refine ih _ (by rw [List.length_set]; exact hyl.1) ?_
    rw [totLen_set _ _ _ hyl.2, totLen_app, totLen_rep]; omega
theorem first_bad (P : Nat → Bool) (n : Nat) (h : ¬ ∀ k, k < n → P k = true) : ∃ j, j < n ∧ P j = false ∧ ∀ k, k < j → P k = true := by
  induction n with
  | zero => exact absurd (fun k hk => absurd hk (Nat.not_lt_zero k)) h
  | succ n ih =>
    by_cases h1 : ∀ k, k < n → P k = true
    · cases h2 : P n with
      | false => exact ⟨n, by omega, h2, h1⟩
      | true => exact absurd (fun k hk => by
          rcases Nat.lt_succ_iff_lt_or_eq.1 hk with h3 | h3
          · exact h1 k h3
          · subst h3; exact h2) h
    · obtain ⟨j, a, b, c⟩ := ih h1
      exact ⟨j, by omega, b, c⟩
theorem l1Most_eq (a b : Int) : spec_l1Most.f a b = some (max a b) := by
  unfold spec_l1Most.f
  by_cases h : a > b
  · rw [if_pos h, Int.max_eq_left (by omega)]
  · rw [if_neg h, Int.max_eq_right (by omega)]
theorem most_run (w : List Int) (n : Nat) (hn : w.length = n) (hn10 : n ≤ 10) (hn1 : 1 ≤ n) (hin : ∀ k, k < n → 0 ≤ w.getD k 0 ∧ w.getD k 0 ≤ 9) (R : List (List Int) × Bool)
    (h : Ev (fun k => spec_FromLattice.l1 k (List.replicate (mxs w n) []) w (n : Int) 0) R) :
    ∀ t, t ≤ n → Ev (fun k => spec_FromLattice.l0 k w (((max (mxs w t) 1 : Nat) : Int) - 1) w (n : Int) (t : Int)) R := by
  have hb : ∀ t, t ≤ n → mxs w t ≤ 10 := fun t ht => mxs_le w 10 t (fun k hk => by have := hin k (by omega); omega)
  refine downTo _ ?_ ?_
  · have h1 : 1 ≤ mxs w n := by
      have : mxs w 1 ≤ mxs w n := mxs_mono w hn1
      have h2 : 1 ≤ mxs w 1 := by rw [mxs_succ]; omega
      omega
    have h2 := hb n (Nat.le_refl _)
    refine Ev.step (by intro k; simp only [spec_FromLattice.l0]; rfl) (Ev.no (by omega) ?_)
    have e : wrap64 ((((max (mxs w n) 1 : Nat) : Int) - 1) + 1) = ((mxs w n : Nat) : Int) := by
      rw [wid (by omega) (by omega)]; omega
    rw [e, Int.toNat_natCast, hn]
    exact Ev.yes (by omega) (Ev.yes (by omega) h)
  · intro t ht ih
    have h1 := hin t ht
    obtain ⟨r, hr⟩ := Int.eq_ofNat_of_zero_le h1.1
    have hm : mxs w (t + 1) = max (mxs w t) (r + 1) := by rw [mxs_succ, hr, Int.toNat_natCast]
    refine Ev.step (by intro k; simp only [spec_FromLattice.l0]; rfl) (Ev.yes (by omega) (Ev.yes (by omega) (Ev.yes (by omega) ?_)))
    rw [rdN, hr, wid1 ht (by omega)]
    refine Ev.call (l1Most_eq _ _) ?_
    have e : max (((max (mxs w t) 1 : Nat) : Int) - 1) (r : Int) = ((max (mxs w (t + 1)) 1 : Nat) : Int) - 1 := by
      rw [hm]; omega
    rw [e]
    exact ih
theorem latR_small (X : List (List Int)) (h1 : X.length ≤ 1000) (h2 : totLen X ≤ 1000) : (latR X).1.length ≤ 1000 ∧ (∀ q ∈ (latR X).1, q.length ≤ 1000) ∧ totLen (latR X).1 ≤ 1000000 := by
  unfold latR
  split
  · exact ⟨h1, fun q hq => by have := totLen_mem (l := X) hq; omega, by show totLen X ≤ _; omega⟩
  · exact ⟨by simp, by simp, by simp [totLen]⟩
theorem FromLattice_same (w : List Int) (hw : w.length ≤ 1048576) (_ : ∀ n ∈ w, (Lit.int .i64 n).wf = true) :
    ∃ r, Ev (fun k => spec_FromLattice.f k w) r ∧ Ev (fun k => impl_FromLattice.f k w) r ∧ (r.1.length ≤ 1000 ∧ (∀ q ∈ r.1, q.length ≤ 1000) ∧ totLen r.1 ≤ 1000000) := by
  unfold spec_FromLattice.f impl_FromLattice.f
  rw [within_eq, l1In_eq]
  have none_ : ((([] : List (List Int)), false).1.length ≤ 1000 ∧ (∀ q ∈ (([] : List (List Int)), false).1, q.length ≤ 1000) ∧ totLen (([] : List (List Int)), false).1 ≤ 1000000) := ⟨by simp, by simp, by simp [totLen]⟩
  have stop : Ev (fun k => spec_FromLattice.j0 k w true) ([], false) := Ev.step (by intro k; simp only [spec_FromLattice.j0]; rfl) (Ev.yes (show true = true from rfl) (Ev.now _))
  by_cases hl : 1 ≤ (w.length : Int) ∧ (w.length : Int) ≤ 10
  rotate_left
  · rw [range_false hl]
    exact ⟨([], false), Ev.call rfl (Ev.no (by simp) stop), Ev.call rfl (Ev.no (by simp) (Ev.now _)), none_⟩
  rw [range_true hl]
  generalize hn : w.length = n at hl
  have hn10 : n ≤ 10 := by omega
  have hn1 : 1 ≤ n := by omega
  have go : Ev (fun k => spec_l1All.f k w 0 (wrap64 ((n : Int) - 1))) (allFrom (fun i => inR 0 ((n : Int) - 1) (w.getD i 0)) n 0) := by
    rw [show wrap64 ((n : Int) - 1) = (n : Int) - 1 from wid (by omega) (by omega)]
    have := l1All_ev w 0 ((n : Int) - 1) (by omega)
    rw [hn] at this; exact this
  by_cases hin : ∀ k, k < n → decide (0 ≤ w.getD k 0 ∧ w.getD k 0 ≤ 9) = true
  rotate_left
  · obtain ⟨j, h1, h2, h3⟩ := first_bad _ n hin
    have h2' := of_decide_eq_false h2
    refine ⟨([], false), Ev.call rfl (Ev.yes rfl (Ev.bind go ?_)), Ev.call rfl (Ev.yes rfl ?_), none_⟩
    · have e : allFrom (fun i => inR 0 ((n : Int) - 1) (w.getD i 0)) n 0 = false := by
        rw [← Bool.not_eq_true, allFrom_iff]
        intro h
        have := inR_iff.1 (h j (Nat.zero_le _) h1)
        omega
      rw [e]; exact stop
    · exact bad_run w n hn hn10 j h1 h2' (fun k hk => of_decide_eq_true (h3 k hk)) 0 (Nat.zero_le _) [] (by simp) rfl
  have hin' : ∀ k, k < n → 0 ≤ w.getD k 0 ∧ w.getD k 0 ≤ 9 := fun k hk => of_decide_eq_true (hin k hk)
  have hM10 : mxs w n ≤ 10 := mxs_le w 10 n (fun k hk => by have := hin' k hk; omega)
  obtain ⟨X, g1, g2, g3, g4⟩ := both_run w n (mxs w n) hn hn10 rfl hM10 hin' 0 (Nat.zero_le _) [] rfl rfl
  refine ⟨latR X, Ev.call rfl (Ev.yes rfl (Ev.bind go ?_)), Ev.call rfl (Ev.yes rfl g3), latR_small X (by omega) (by omega)⟩
  cases hall : allFrom (fun i => inR 0 ((n : Int) - 1) (w.getD i 0)) n 0 with
  | true =>
    show Ev (fun k => spec_FromLattice.j0 k w false) _
    refine Ev.step (by intro k; simp only [spec_FromLattice.j0]; rfl) (Ev.no (by simp) ?_)
    rw [hn]
    have := most_run w n hn hn10 hn1 hin' (latR X) (by simpa using g4) 0 (Nat.zero_le _)
    exact this
  | false =>
    have e : latR X = ([], false) := by
      have : isTab X = false := by
        apply isTab_short
        rw [g1, g2]
        rcases Nat.lt_or_ge n (mxs w n) with h | h
        · exact h
        · exfalso
          have : allFrom (fun i => inR 0 ((n : Int) - 1) (w.getD i 0)) n 0 = true := by
            rw [allFrom_iff]
            intro k _ hk
            rw [inR_iff]
            have h1 := hin' k hk
            have h2 : mxs w (k + 1) ≤ mxs w n := mxs_mono w (by omega)
            have h3 : (w.getD k 0).toNat + 1 ≤ mxs w (k + 1) := by rw [mxs_succ]; omega
            omega
          rw [this] at hall; cases hall
      unfold latR; rw [this]; rfl
    rw [e]; exact stop
theorem FnExactFromLattice : laws_FnExactFromLattice.Pure := by
  intro l0 hm_l0 hw_l0
  by_cases hb_l0 : ((l0.length : Int) > 1048576)
  · exact ⟨0, by unfold laws_FnExactFromLattice.f; exact if_pos ⟨0, (Or.inl ⟨(), decide_eq_true hb_l0⟩)⟩⟩
  have hl_l0 : l0.length ≤ 1048576 := by omega
  obtain ⟨r, hs_, hi_, hr_⟩ := FromLattice_same l0 hl_l0 hw_l0
  obtain ⟨hr1_, hr2_, hr3_⟩ := hr_
  obtain ⟨K0, e0⟩ := toIntS_ev l0 hl_l0
  obtain ⟨K1, e1⟩ := hs_
  obtain ⟨K2, e2⟩ := hi_
  obtain ⟨K3, e3⟩ := eqIntSS_refl r.1 (by omega) (fun q_ hq_ => by have := hr2_ q_ hq_; omega)
  obtain ⟨K4, e4⟩ := eqIntS_refl l0 (by omega)
  obtain ⟨K5, e5⟩ := markIntS_ev1 l0 (by omega)
  obtain ⟨K6, e6⟩ := markIntSS_ev1 r.1 (by omega) (by omega)
  obtain ⟨K7, e7⟩ := heldIntSS_ev1 r.1 (by omega) (by omega)
  obtain ⟨K, hK_⟩ : ∃ K, K = 0 + K0 + K1 + K2 + K3 + K4 + K5 + K6 + K7 := ⟨_, rfl⟩
  refine ⟨K, ?_⟩
  unfold laws_FnExactFromLattice.f
  exact if_pos ⟨K, Or.inr (⟨r.1, r.2, ((1 + l0.length : Nat) : Int), (upFrom 1 l0.length), ((1 + totLen r.1 : Nat) : Int), (upRows 1 r.1), decide_eq_false hb_l0, e0 K (by omega), e1 K (by omega), e2 K (by omega), e3 K (by omega), e4 K (by omega), e5 K (by omega), decide_eq_false (by omega), e6 K (by omega), e7 K (by omega), decide_eq_false (by omega)⟩)⟩
end Go.Proofs.Ytfahkoimleiknaa.Q
end
