/- Part 5 of the texts below the row of FnExactBoxBySum: printed functions with their contracts, and plain lemmas. No condition. -/
import Derived.Test.YtemkddgfneohhaaZFnExactBoxBySum4
import Derived.SizedLaws
import Derived.ChangeSlices
import Derived.WalkKit
import Derived.ProofKit
import Derived.OpenShut
import Derived.Lib.SmallJoins
import Derived.Deep.Matrix
section
section
namespace Go.Proofs.YtemkddgfneohhaaW.PrintWords
open Go.ChangeShapes Go.WideShapes
/-- A row's slice of whole numbers is no longer than its weight allows. -/
theorem sized_ints {H : Type} {enc : TypeId × Value → H} {P : Program} {W : World} {base : Nat} {spare : Nat → Bool} {held : Bool} {t e : TypeId} {k : IntKind} {a : Option Addr} {len cap : Nat} {d : DataW H} {ps : List MemPlace} {ts : List TypeId} {ds : List (DataW H)} {j : Nat}
    (hsz : (DataW.weightsEach P ts ds).all (· ≤ reachBytes) = true) (ht : ts[j]? = some t) (hd : ds[j]? = some d) (hu : P.underlying t = some (.slice e)) (he : P.underlying e = some (.int k)) (hc : P.cellsOf e = 1) {B : Nat} (hB : P.bytesOf e = B)
    (h : DataW.Trod enc P W base spare held t (.slice a len cap) d ps) : len * B ≤ 140737488351232 := by
  obtain ⟨fuel, hf⟩ := h
  rcases open_ints hu he hc hf with ⟨hcs, _⟩ | ⟨x, l, c, zs, hcs, _, hl, _, hz, hx, _, _⟩
  · simp [Value.cells] at hcs
    obtain ⟨rfl, rfl, rfl⟩ := hcs
    simp
  · simp [Value.cells] at hcs
    obtain ⟨rfl, rfl, rfl⟩ := hcs
    obtain ⟨hx, _⟩ := Prod.mk.inj hx
    subst hx
    have z := sized_slice hsz ht hd hu
    rw [hB] at z
    have hl2 : len ≤ zs.length := by
      rw [hz]
      split
      · exact hl
      · exact Nat.le_refl _
    have h1 : (lits (H := H) k (zs.take len)).length + (lits (H := H) k (zs.drop len)).length = zs.length := by
      simp [lits]
      omega
    rw [h1] at z
    exact Nat.le_trans (Nat.mul_le_mul_right _ hl2) z
end Go.Proofs.YtemkddgfneohhaaW.PrintWords
end
end

section
namespace Go.Proofs.YtemkddgfneohhaaW.RowKit
open Go.ChangeShapes Go.WideShapes Go.Deep Go.RowKit Go.Proofs.YtemkddgfneohhaaW.PrintWords
variable {H : Type} {enc : TypeId × Value → H} {P : Program} {w : World} {base : Nat} {held : Bool}
/-- What is known of a slice of whole numbers that came in. -/
structure PxInts (w : World) (k : IntKind) (A : Option Addr) (c : Nat) (l : List Int) : Prop where
  le : l.length ≤ c
  c : Kd.C (Kd.int k) w A l.length l
  m : l.length ≤ maxLen
  wf : ∀ n ∈ l, (Lit.int k n).wf = true
theorem ints_of {t e : TypeId} {k : IntKind} {fuel : Nat} {cs : List Value} {x : DataW H × List MemPlace} (ht : P.underlying t = some (.slice e)) (he : P.underlying e = some (.int k)) (hc : P.cellsOf e = 1)
    (h : DataW.trod enc P w base (fun _ => true) held fuel t cs = some x) : ∃ A c l, cs = [.slice A (List.length l) c] ∧ PxInts w k A c l := by
  rcases open_ints ht he hc h with ⟨hcs, _⟩ | ⟨a, len, cap, zs, hcs, _, hl, hm, hz, _, hcell, hwz⟩
  · obtain ⟨l, e1, h1, h2, h3, h4⟩ := ReadsInt.ofRowC (k := k) (w := w) (a := none) (len := 0) (cap := 0) (zs := []) (.inl ⟨rfl, rfl, rfl, rfl⟩)
    exact ⟨none, 0, l, by rw [hcs, ← e1], h4, Kd.C_of_reads (d := (0 : Int)) (h1 := fun _ => rfl) h1, h2, h3⟩
  · obtain ⟨l, e1, h1, h2, h3, h4⟩ := ReadsInt.ofRowC (k := k) (w := w) (a := some a) (len := len) (cap := cap) (zs := zs) (.inr ⟨_, rfl, hl, hm, by simpa using hz, hcell, hwz⟩)
    exact ⟨some a, cap, l, by rw [hcs, ← e1], h4, Kd.C_of_reads (d := (0 : Int)) (h1 := fun _ => rfl) h1, h2, h3⟩
theorem open_sl {r : Reach} {b0 : Nat} {t e : TypeId} {k : IntKind} {v : Value} {d : DataW H} {p : List MemPlace} (ht : P.underlying t = some (.slice e)) (he : P.underlying e = some (.int k)) (hc : P.cellsOf e = 1)
    (hv : Value.okWide P w r b0 t v) (h : DataW.Trod enc P w base (fun _ => true) held t v d p) : ∃ A c l, v = .slice A (List.length l) c ∧ PxInts w k A c l := by
  obtain ⟨a, len, cap, rfl⟩ := okWide_slice ht hv
  obtain ⟨fuel, hf⟩ := h
  obtain ⟨A, c, l, hcs, hi⟩ := ints_of ht he hc hf
  simp [Value.cells] at hcs
  obtain ⟨rfl, rfl, rfl⟩ := hcs
  exact ⟨_, _, l, rfl, hi⟩
theorem open_st {r : Reach} {b0 : Nat} {t q e : TypeId} {k : IntKind} {f0 : Field} {v : Value} {d : DataW H} {p : List MemPlace} (hs : P.underlying t = some (.struct #[f0])) (hone : oneCellFields P #[f0] = true) (hC : P.cellsOf t = 1)
    (hq : f0.type = q) (ht : P.underlying q = some (.slice e)) (he : P.underlying e = some (.int k)) (hc : P.cellsOf e = 1)
    (hv : Value.okWide P w r b0 t v) (h : DataW.Trod enc P w base (fun _ => true) held t v d p) : ∃ A c l, v = .agg #[.slice A (List.length l) c] ∧ PxInts w k A c l := by
  subst hq
  obtain ⟨cs, rfl, hsz⟩ := okWide_struct hs hv
  obtain ⟨c0, rfl⟩ : ∃ c0, cs = #[c0] := by
    obtain ⟨l⟩ := cs
    match l, hsz.trans hC with
    | [c0], _ => exact ⟨c0, rfl⟩
  obtain ⟨fuel, hf⟩ := h
  obtain ⟨y0, n, _, _, h0⟩ := trod_struct1 hs hf
  obtain ⟨o0, k0⟩ := Go.Deep.hone_of hone 0 f0 rfl
  obtain ⟨A, c, l, hcs, hi⟩ := ints_of ht he hc (by simpa [Value.cells, o0, k0] using h0 : DataW.trod enc P w base (fun _ => true) held n f0.type [c0] = some y0)
  simp at hcs
  subst hcs
  exact ⟨A, c, l, rfl, hi⟩
/-- What is known of a slice of slices of whole numbers that came in. -/
structure PxRows (w : World) (k : IntKind) (q : TypeId) (A : Option Addr) (c : Nat) (l : List (List Int)) : Prop where
  le : l.length ≤ c
  c : Kd.C (Kd.slice q (Kd.int k)) w A l.length l
  m : l.length ≤ maxLen
  m2 : ∀ r ∈ l, r.length ≤ maxLen
  wf : ∀ r ∈ l, ∀ n ∈ r, (Lit.int k n).wf = true
theorem open_ss {r : Reach} {b0 : Nat} {t e q : TypeId} {k : IntKind} {v : Value} {d : DataW H} {p : List MemPlace} (ht : P.underlying t = some (.slice e)) (he : P.underlying e = some (.slice q)) (hq : P.underlying q = some (.int k))
    (ce : P.cellsOf e = 1) (cq : P.cellsOf q = 1)
    (hv : Value.okWide P w r b0 t v) (h : DataW.Trod enc P w base (fun _ => true) held t v d p) : ∃ A c l, v = .slice A (List.length l) c ∧ PxRows w k q A c l := by
  obtain ⟨a, len, cap, rfl⟩ := okWide_slice ht hv
  obtain ⟨fuel, hf⟩ := h
  rcases Go.Deep.open_int_rows ht he hq ce cq hf with ⟨hcs, _⟩ | ⟨x, len', cap', AA, L, C, Z, hcs, _, hl, hm, _, hr⟩
  · simp [Value.cells] at hcs
    obtain ⟨rfl, rfl, rfl⟩ := hcs
    exact ⟨none, 0, [], rfl, Nat.le_refl _, ⟨rfl, Nat.zero_le _, fun h => absurd h (Nat.lt_irrefl _)⟩, Nat.zero_le _, (fun _ h => by cases h), (fun _ h => by cases h)⟩
  · simp [Value.cells] at hcs
    obtain ⟨rfl, rfl, rfl⟩ := hcs
    have each : ∀ r, r < cap → PxInts w k (AA r) (C r) ((Z r).take (L r)) ∧ L r = ((Z r).take (L r)).length := by
      intro r hrc
      obtain ⟨_, h1, h2, h3, h4, h5, h6⟩ := hr r hrc
      have hz : ((Z r).take (L r)).length = L r := by rw [List.length_take]; omega
      refine ⟨⟨by omega, ⟨by rfl, by unfold maxLen at h2; omega, fun hp => ?_⟩, by omega, fun n hn => h4 n (List.mem_of_mem_take hn)⟩, hz.symm⟩
      cases ha : AA r with
      | none => have := h5 ha; omega
      | some ad =>
        refine ⟨ad, rfl, fun j p hj => ⟨[.int k p], rfl, rfl, fun i u hu => ?_⟩⟩
        have hj1 := (List.getElem?_eq_some_iff.1 hj).1
        have hjl : j < L r := by omega
        cases i with
        | succ i => simp at hu
        | zero =>
          simp at hu
          subst hu
          have := (h6 ad ha).2 j (by omega)
          rw [List.getD_eq_getElem?_getD, ← List.getElem?_take_of_lt hjl, hj] at this
          have e1 : j * (Kd.int k).sz + 0 = j := by show j * 1 + 0 = j; omega
          rw [e1]
          exact this
    refine ⟨some x, cap, (List.range len).map (fun r => (Z r).take (L r)), by simp, ⟨by simpa using hl, ⟨by simp, ?_, fun hp => ⟨x, rfl, fun j p hj => ?_⟩⟩, by simp; omega, ?_, ?_⟩⟩
    · simp; unfold maxLen at hm; omega
    · simp only [List.getElem?_map, Option.map_eq_some_iff] at hj
      obtain ⟨r, hr1, rfl⟩ := hj
      obtain ⟨hr2, hr3⟩ := List.getElem?_eq_some_iff.1 hr1
      simp at hr2 hr3
      subst hr3
      obtain ⟨hi, hL⟩ := each j (by omega)
      refine ⟨[.slice (AA j) ((Z j).take (L j)).length (C j)], rfl, ⟨AA j, C j, rfl, hi.le, hi.c⟩, fun i u hu => ?_⟩
      cases i with
      | succ i => simp at hu
      | zero =>
        simp only [List.getElem?_cons_zero, Option.some.injEq] at hu
        subst hu
        have e1 : j * (Kd.slice q (Kd.int k)).sz + 0 = j := by show j * 1 + 0 = j; omega
        rw [e1, ← hL]
        exact (hr j (by omega)).1
    · intro r hr1
      obtain ⟨j, hj, rfl⟩ := List.mem_map.1 hr1
      rw [List.mem_range] at hj
      exact (each j (by omega)).1.m
    · intro r hr1
      obtain ⟨j, hj, rfl⟩ := List.mem_map.1 hr1
      rw [List.mem_range] at hj
      exact (each j (by omega)).1.wf
end Go.Proofs.YtemkddgfneohhaaW.RowKit
end

section
namespace Go.Proofs.Ytemkddgfneohhaa.F
open Go.RowKit Go.Proofs.YtemkddgfneohhaaW.PrintWords Go.Proofs.YtemkddgfneohhaaW.PrintLast Go.Proofs.YtemkddgfneohhaaW.PrintMore Go.Proofs.YtemkddgfneohhaaW.RowKit
set_option linter.unusedVariables false
def laws_FnExactBoxBySum.Pure : Prop := ∀ (a0 : Int) (a1 : Int) (a2 : Int), (Lit.int .i64 a0).wf = true → (Lit.int .i64 a1).wf = true → (Lit.int .i64 a2).wf = true → ∃ k, laws_FnExactBoxBySum.f k a0 a1 a2 = some true
theorem laws_FnExactBoxBySum.walk (P : laws_FnExactBoxBySum.Pure) (a0 : Int) (a1 : Int) (a2 : Int) (w : World) (w0 : (Lit.int .i64 a0).wf = true) (w1 : (Lit.int .i64 a1).wf = true) (w2 : (Lit.int .i64 a2).wf = true) :
    Calls Try.prog 5 #[.int .i64 a0, .int .i64 a1, .int .i64 a2] w fun e w' => e = .returned (.bool true) ∧ Below w.heap.size w w' := by
  obtain ⟨k, h⟩ := P a0 a1 a2 w0 w1 w2
  refine (laws_FnExactBoxBySum.calls k a0 a1 a2 true w h).mono ?_
  rintro e w' ⟨rfl, hd⟩
  exact ⟨rfl, hd⟩
end Go.Proofs.Ytemkddgfneohhaa.F
end

section
namespace Go.Proofs.Ytemkddgfneohhaa.Q
open Go.RowKit Go.Proofs.YtemkddgfneohhaaW.PrintWords Go.Proofs.Ytemkddgfneohhaa.F
set_option linter.unusedVariables false
/-! What the reference's loops do to a list. -/
def op1 (u : Nat) (f : Nat → Int) (k : Nat) : Int := if u ≤ k then wrap64 (f k - f (k - u)) else f k
def pre (d : Nat) (f : Nat → Int) (k : Nat) : Int := if h : 0 < d ∧ d ≤ k then wrap64 (f k + pre d f (k - d)) else f k
termination_by k
decreasing_by omega
theorem pre_lo {d : Nat} {f : Nat → Int} {k : Nat} (h : k < d) : pre d f k = f k := by
  rw [pre, dif_neg (by omega)]
theorem pre_hi {d : Nat} {f : Nat → Int} {k : Nat} (h0 : 0 < d) (h : d ≤ k) : pre d f k = wrap64 (f k + pre d f (k - d)) := by
  rw [pre, dif_pos ⟨h0, h⟩]
def op1L (u : Nat) (l : List Int) : List Int := l.take u ++ List.zipWith (fun x y => wrap64 (x - y)) (l.drop u) l
def op2go : List Int → List Int → List Int
  | y :: q, x :: l => wrap64 (x + y) :: op2go (q ++ [wrap64 (x + y)]) l
  | _, _ => []
def op2L (d : Nat) (l : List Int) : List Int := l.take d ++ op2go (l.take d) (l.drop d)
theorem rwL_of (l : List Int) : l = rwL l.length fun k => l.getD k 0 := by
  unfold rwL
  apply List.ext_getElem
  · simp
  · intro i h1 h2
    rw [List.getElem_map, List.getElem_range, List.getD_eq_getElem?_getD, List.getElem?_eq_getElem h1]; rfl
theorem rwL_at {M : Nat} {f : Nat → Int} {i : Nat} (h : i < M) : (rwL M f)[i]? = some (f i) := by
  unfold rwL
  rw [List.getElem?_map, List.getElem?_range h]; rfl
theorem rwL_no {M : Nat} {f : Nat → Int} {i : Nat} (h : M ≤ i) : (rwL M f)[i]? = none := List.getElem?_eq_none (by rw [rwL_len]; exact h)
theorem op1L_eq (u M : Nat) (f : Nat → Int) : op1L u (rwL M f) = rwL M (op1 u f) := by
  apply List.ext_getElem?
  intro i
  unfold op1L
  rcases Nat.lt_or_ge i M with hi | hi
  · rw [rwL_at hi]
    unfold op1
    by_cases hu : u ≤ i
    · rw [if_pos hu, List.getElem?_append_right (by rw [List.length_take, rwL_len]; omega), List.length_take, rwL_len, Nat.min_eq_left (by omega), List.getElem?_zipWith, List.getElem?_drop, show u + (i - u) = i by omega, rwL_at hi, rwL_at (by omega)]
    · rw [if_neg hu, List.getElem?_append_left (by rw [List.length_take, rwL_len]; omega), List.getElem?_take, if_pos (by omega), rwL_at hi]
  · rw [rwL_no hi]
    apply List.getElem?_eq_none
    rw [List.length_append, List.length_take, List.length_zipWith, List.length_drop, rwL_len]
    omega
theorem op2go_eq {d : Nat} (hd : 0 < d) (f : Nat → Int) : ∀ r k, d ≤ k → op2go ((List.range' (k - d) d).map (pre d f)) ((List.range' k r).map f) = (List.range' k r).map (pre d f)
  | 0, k, _ => by
    rw [List.range'_zero, List.map_nil, List.map_nil]
    cases (List.range' (k - d) d).map (pre d f) <;> rfl
  | r + 1, k, h => by
    obtain ⟨e, rfl⟩ : ∃ e, d = e + 1 := ⟨d - 1, by omega⟩
    rw [List.range'_succ, List.range'_succ, List.map_cons, List.map_cons, List.map_cons]
    have hz : wrap64 (f k + pre (e + 1) f (k - (e + 1))) = pre (e + 1) f k := (pre_hi hd h).symm
    unfold op2go
    rw [hz]
    have e2 : (List.range' (k - (e + 1) + 1) e).map (pre (e + 1) f) ++ [pre (e + 1) f k] = (List.range' (k + 1 - (e + 1)) (e + 1)).map (pre (e + 1) f) := by
      rw [List.range'_1_concat, List.map_append, List.map_cons, List.map_nil, show k + 1 - (e + 1) = k - (e + 1) + 1 by omega, show k - (e + 1) + 1 + e = k by omega]
    rw [e2, op2go_eq hd f r (k + 1) (by omega)]
theorem rwL_take (M d : Nat) (f : Nat → Int) : (rwL M f).take d = (List.range' 0 (min d M)).map f := by
  unfold rwL
  rw [← List.map_take, List.take_range, List.range_eq_range']
theorem rwL_drop (M d : Nat) (f : Nat → Int) : (rwL M f).drop d = (List.range' d (M - d)).map f := by
  unfold rwL
  rw [← List.map_drop, List.range_eq_range', List.drop_range']
  simp
theorem op2L_eq {d : Nat} (hd : 0 < d) (M : Nat) (f : Nat → Int) : op2L d (rwL M f) = rwL M (pre d f) := by
  unfold op2L
  rw [rwL_take, rwL_drop]
  rcases Nat.lt_or_ge M d with h | h
  · rw [Nat.min_eq_right (by omega), show M - d = 0 by omega, List.range'_zero, List.map_nil]
    have e : op2go ((List.range' 0 M).map f) [] = [] := by cases (List.range' 0 M).map f <;> rfl
    rw [e, List.append_nil]
    unfold rwL
    rw [List.range_eq_range']
    exact List.map_congr_left fun i hi => (pre_lo (by have := List.mem_range'_1.1 hi; omega)).symm
  · rw [Nat.min_eq_left h]
    have e0 : (List.range' 0 d).map f = (List.range' (d - d) d).map (pre d f) := by
      rw [Nat.sub_self]
      exact List.map_congr_left fun i hi => (pre_lo (by have := List.mem_range'_1.1 hi; omega)).symm
    rw [e0, op2go_eq hd f (M - d) d (Nat.le_refl _), Nat.sub_self, ← List.map_append]
    unfold rwL
    have e5 : List.range' 0 d ++ List.range' d (M - d) = List.range' 0 M := by
      have h5 := List.range'_append_1 (s := 0) (m := d) (n := M - d)
      rw [Nat.zero_add, show d + (M - d) = M by omega] at h5
      exact h5
    rw [List.range_eq_range', e5]
theorem bs_l3 {a b m : Int} {r c d : Nat} (hd : 1 ≤ d) (hd2 : d ≤ 100) {M : Nat} (hM : M ≤ 1000) (g : Nat → Int) {x : Int} {res : List Int × Bool} (hr : Ev (fun k => spec_BoxBySum.l1 k a b m (rwL M (pre d g)) (r : Int) (wrap64 ((c : Int) + 1))) res) :
    ∀ i, i ≤ M → d ≤ i → Ev (fun k => spec_BoxBySum.l3 k a b m (rwL M fun k => if k < i then pre d g k else g k) (r : Int) (c : Int) (d : Int) (i : Int)) res := by
  refine downTo M ?_ ?_
  · intro _
    refine Ev.step (by intro k; simp only [spec_BoxBySum.l3]; rfl) (Ev.no (by rw [rwL_len]; omega) ?_)
    have e : rwL M (fun k => if k < M then pre d g k else g k) = rwL M (pre d g) := rwL_congr fun i hi => by rw [if_pos hi]
    rw [e]
    exact hr
  · intro i hi ih hdi
    have e1 : wrap64 ((i : Int) - (d : Int)) = ((i - d : Nat) : Int) := by rw [wid (by omega) (by omega)]; omega
    refine Ev.step (by intro k; simp only [spec_BoxBySum.l3]; rfl) (Ev.yes (by rw [rwL_len]; omega) (Ev.yes (by omega) ?_))
    rw [e1]
    refine Ev.yes (by omega) (Ev.yes (by rw [rwL_len]; omega) ?_)
    rw [rwL_get hi, rwL_get (show i - d < M by omega), if_neg (Nat.lt_irrefl i), if_pos (show i - d < i by omega), ← pre_hi hd hdi, wid1 hi (by omega), Int.toNat_natCast, rwL_set hi]
    have e2 : rwL M (fun j => if j = i then pre d g i else if j < i then pre d g j else g j) = rwL M fun k => if k < i + 1 then pre d g k else g k := rwL_congr fun j _ => by
      by_cases h : j = i
      · subst h; rw [if_pos rfl, if_pos (Nat.lt_succ_self _)]
      · rw [if_neg h]
        by_cases h2 : j < i
        · rw [if_pos h2, if_pos (by omega)]
        · rw [if_neg h2, if_neg (by omega)]
    rw [e2]
    exact ih (by omega)
theorem bs_l2 {a b m : Int} {r c u d : Nat} (hu : u ≤ 100) (hd : 1 ≤ d) (hd2 : d ≤ 100) {M : Nat} (hM : M ≤ 1000) (hM1 : 1 ≤ M) (f : Nat → Int) {res : List Int × Bool} (hr : Ev (fun k => spec_BoxBySum.l1 k a b m (rwL M (pre d (op1 u f))) (r : Int) (wrap64 ((c : Int) + 1))) res) :
    ∀ (e n : Nat), n - u = e → n ≤ M → Ev (fun k => spec_BoxBySum.l2 k a b m (rwL M fun k => if n ≤ k then op1 u f k else f k) (r : Int) (c : Int) (u : Int) (d : Int) ((n : Int) - 1)) res
  | 0, n, he, hn => by
    refine Ev.step (by intro k; simp only [spec_BoxBySum.l2]; rfl) (Ev.no (by omega) ?_)
    have e1 : rwL M (fun k => if n ≤ k then op1 u f k else f k) = rwL M (fun k => if k < min d M then pre d (op1 u f) k else op1 u f k) := rwL_congr fun k hk => by
      have e2 : (if n ≤ k then op1 u f k else f k) = op1 u f k := by
        by_cases h : n ≤ k
        · rw [if_pos h]
        · rw [if_neg h]; unfold op1; rw [if_neg (by omega)]
      rw [e2]
      by_cases h : k < min d M
      · rw [if_pos h, pre_lo (by omega)]
      · rw [if_neg h]
    rw [e1]
    rcases Nat.lt_or_ge M d with h | h
    · rw [Nat.min_eq_right (by omega)]
      have e3 : rwL M (fun k => if k < M then pre d (op1 u f) k else op1 u f k) = rwL M (pre d (op1 u f)) := rwL_congr fun i hi => by rw [if_pos hi]
      rw [e3]
      refine Ev.step (by intro k; simp only [spec_BoxBySum.l3]; rfl) (Ev.no (by rw [rwL_len]; omega) hr)
    · rw [Nat.min_eq_left h]
      exact bs_l3 hd hd2 hM (op1 u f) (x := 0) hr d h (Nat.le_refl _)
  | e + 1, n, he, hn => by
    obtain ⟨i, rfl⟩ : ∃ i, n = i + 1 := ⟨n - 1, by omega⟩
    have hi : i < M := by omega
    have e0 : (((i + 1 : Nat) : Int) - 1) = (i : Int) := by omega
    have e1 : wrap64 ((i : Int) - (u : Int)) = ((i - u : Nat) : Int) := by rw [wid (by omega) (by omega)]; omega
    rw [e0]
    refine Ev.step (by intro k; simp only [spec_BoxBySum.l2]; rfl) (Ev.yes (by omega) (Ev.yes (by omega) (Ev.yes (by rw [rwL_len]; omega) ?_)))
    rw [e1]
    refine Ev.yes (by omega) (Ev.yes (by rw [rwL_len]; omega) ?_)
    rw [rwL_get hi, rwL_get (show i - u < M by omega), if_neg (show ¬ i + 1 ≤ i by omega), if_neg (show ¬ i + 1 ≤ i - u by omega), wid (n := (i : Int) - 1) (by omega) (by omega), Int.toNat_natCast, rwL_set hi]
    have e2 : rwL M (fun j => if j = i then wrap64 (f i - f (i - u)) else if i + 1 ≤ j then op1 u f j else f j) = rwL M fun k => if i ≤ k then op1 u f k else f k := rwL_congr fun j _ => by
      by_cases h : j = i
      · subst h; rw [if_pos rfl, if_pos (Nat.le_refl _)]; unfold op1; rw [if_pos (by omega)]
      · rw [if_neg h]
        by_cases h2 : i + 1 ≤ j
        · rw [if_pos h2, if_pos (by omega)]
        · rw [if_neg h2, if_neg (by omega)]
    rw [e2]
    exact bs_l2 hu hd hd2 hM hM1 f hr e i (by omega) (by omega)
def bx1 (m r : Nat) : Nat → Nat → List Int → List Int
  | 0, _, l => l
  | n + 1, c, l => bx1 m r n (c + 1) (op2L (r + c - 1) (op1L (r + c + m - 1) l))
def bx0 (b m : Nat) : Nat → Nat → List Int → List Int
  | 0, _, l => l
  | n + 1, r, l => bx0 b m n (r + 1) (bx1 m r b 1 l)
theorem op_form (u d : Nat) (hd : 0 < d) (l : List Int) : op2L d (op1L u l) = rwL l.length (pre d (op1 u fun k => l.getD k 0)) := by
  conv => lhs; rw [rwL_of l]
  rw [op1L_eq, op2L_eq hd]
theorem op_len (u d : Nat) (hd : 0 < d) (l : List Int) : (op2L d (op1L u l)).length = l.length := by rw [op_form u d hd, rwL_len]
theorem bx1_len (m r : Nat) (hr : 1 ≤ r) : ∀ n c l, 1 ≤ c → (bx1 m r n c l).length = l.length
  | 0, _, _, _ => rfl
  | n + 1, c, l, hc => by unfold bx1; rw [bx1_len m r hr n (c + 1) _ (by omega), op_len _ _ (by omega)]
theorem bs_l1 {a b : Int} {m r nb : Nat} (hb : b = (nb : Int)) (hb10 : nb ≤ 10) (hm : m ≤ 12) (hr1 : 1 ≤ r) (hr10 : r ≤ 10) {M : Nat} (hM : M ≤ 1000) (hM1 : 1 ≤ M) {res : List Int × Bool} :
    ∀ (n c : Nat) (l : List Int), 1 ≤ c → c + n = nb + 1 → l.length = M → Ev (fun k => spec_BoxBySum.l0 k a b (m : Int) (bx1 m r n c l) (wrap64 ((r : Int) + 1))) res → Ev (fun k => spec_BoxBySum.l1 k a b (m : Int) l (r : Int) (c : Int)) res
  | 0, c, l, hc, hcn, hl, h => by
    refine Ev.step (by intro k; simp only [spec_BoxBySum.l1]; rfl) (Ev.no (by omega) h)
  | n + 1, c, l, hc, hcn, hl, h => by
    have e1 : wrap64 (wrap64 (wrap64 ((r : Int) + (c : Int)) + (m : Int)) - 1) = ((r + c + m - 1 : Nat) : Int) := by
      rw [wid (n := (r : Int) + (c : Int)) (by omega) (by omega), wid (n := (r : Int) + (c : Int) + (m : Int)) (by omega) (by omega), wid (by omega) (by omega)]
      omega
    have e2 : wrap64 (wrap64 ((r : Int) + (c : Int)) - 1) = ((r + c - 1 : Nat) : Int) := by
      rw [wid (n := (r : Int) + (c : Int)) (by omega) (by omega), wid (by omega) (by omega)]
      omega
    have e3 : wrap64 ((l.length : Int) - 1) = (M : Int) - 1 := by rw [hl]; exact wid (by omega) (by omega)
    refine Ev.step (by intro k; simp only [spec_BoxBySum.l1]; rfl) (Ev.yes (by omega) ?_)
    rw [e1, e2, e3]
    have e4 : l = rwL M fun k => if M ≤ k then op1 (r + c + m - 1) (fun k => l.getD k 0) k else l.getD k 0 := by
      conv => lhs; rw [rwL_of l, hl]
      exact rwL_congr fun k hk => by rw [if_neg (by omega)]
    have hrec := bs_l1 (a := a) hb hb10 hm hr1 hr10 hM hM1 n (c + 1) (op2L (r + c - 1) (op1L (r + c + m - 1) l)) (by omega) (by omega) (by rw [op_len _ _ (by omega), hl]) h
    rw [op_form _ _ (by omega), hl] at hrec
    have := bs_l2 (a := a) (b := b) (m := (m : Int)) (r := r) (c := c) (u := r + c + m - 1) (d := r + c - 1) (by omega) (by omega) (by omega) hM hM1 (fun k => l.getD k 0) (by rw [wid1 (show c < nb + 1 by omega) (by omega)]; exact hrec) _ M rfl (Nat.le_refl _)
    rw [← e4] at this
    exact this
theorem bs_l0 {a b : Int} {m na nb : Nat} (ha : a = (na : Int)) (hb : b = (nb : Int)) (ha10 : na ≤ 10) (hb10 : nb ≤ 10) (hm : m ≤ 12) {M : Nat} (hM : M ≤ 1000) (hM1 : 1 ≤ M) :
    ∀ (n r : Nat) (l : List Int), 1 ≤ r → r + n = na + 1 → l.length = M → Ev (fun k => spec_BoxBySum.l0 k a b (m : Int) l (r : Int)) (bx0 nb m n r l, true)
  | 0, r, l, hr, hrn, hl => Ev.step (by intro k; simp only [spec_BoxBySum.l0]; rfl) (Ev.no (by omega) (Ev.now _))
  | n + 1, r, l, hr, hrn, hl => by
    refine Ev.step (by intro k; simp only [spec_BoxBySum.l0]; rfl) (Ev.yes (by omega) ?_)
    refine bs_l1 (m := m) (r := r) hb hb10 hm hr (by omega) hM hM1 nb 1 l (Nat.le_refl _) (by omega) hl ?_
    rw [wid1 (show r < na + 1 by omega) (by omega)]
    exact bs_l0 ha hb ha10 hb10 hm hM hM1 n (r + 1) _ (by omega) (by omega) (by rw [bx1_len m r hr nb 1 l (Nat.le_refl _), hl])
/-! The finite part. -/
def bsFirst (M : Nat) : List Int := (List.replicate M 0).set 0 1
def bsRun (a b n : Nat) (p : List Int) (ids : List Nat) : Nat → Nat → List Nat → Bool
  | 0, _, _ => true
  | d + 1, m, vals => (bx0 b m a 1 (bsFirst (n * m + 1)) == ints (kDigits (sumL vals) (n * m + 1))) && bsRun a b n p ids d (m + 1) (kstep p ids vals)
def bsP (a b : Nat) : Option (List Int) → Bool
  | some p => bsRun a b p.length p (idealsN p) 13 0 ((idealsN p).map fun s => if s = 0 then 1 else 0)
  | none => false
def okBS (a b : Nat) : Bool := bsP a b (impl_rectangle.f 200 (a : Int) (b : Int))
theorem allBS : (List.range 11).all (fun a => (List.range 11).all fun b => a == 0 || b == 0 || decide (10 < a * b) || okBS a b) = true := by decide +kernel
theorem bsRun_at {a b : Nat} {p : List Int} (hp : p.length ≤ 10) : ∀ (d m : Nat), m + d ≤ 13 → bsRun a b p.length p (idealsN p) d m ((idealsN p).map (kN p m)) = true → ∀ q, m ≤ q → q < m + d → bx0 b q a 1 (bsFirst (p.length * q + 1)) = ints ((List.range (p.length * q + 1)).map (wT p q))
  | 0, m, _, _, q, h1, h2 => by omega
  | d + 1, m, hd, h, q, h1, h2 => by
    unfold bsRun at h
    rw [Bool.and_eq_true, kstep_eq] at h
    rcases Nat.lt_or_ge m q with hq | hq
    · exact bsRun_at hp d (m + 1) (by omega) h.2 q (by omega) (by omega)
    · obtain rfl : q = m := by omega
      rw [← kDigits_eq hp (by omega)]
      exact eq_of_beq h.1
theorem BoxBySum_same (a : Int) (_ : (Lit.int .i64 a).wf = true) (b : Int) (_ : (Lit.int .i64 b).wf = true) (m : Int) (_ : (Lit.int .i64 m).wf = true) :
    ∃ r, Ev (fun k => spec_BoxBySum.f k a b m) r ∧ Ev (fun k => impl_BoxBySum.f k a b m) r ∧ r.1.length ≤ 1000 := by
  have hs : spec_shSides.f a b = some (decide (sidesOk a b)) := (show spec_shSides.f a b = impl_areSides.f a b 10 from rfl).trans (areSides_iff a b)
  by_cases h : sidesOk a b
  rotate_left
  · refine ⟨([], false), ?_, ?_, Nat.zero_le _⟩
    · unfold spec_BoxBySum.f spec_laBox.f
      rw [hs, decide_eq_false h]
      exact Ev.call rfl (Ev.no (by simp) (Ev.now _))
    · unfold impl_BoxBySum.f
      exact Ev.bind (Rectangle_no h) (Ev.no (by simp) (Ev.now _))
  obtain ⟨na, nb, p, rfl, rfl, h1, h2, h3, h4, hnm, hr, hP, hl⟩ := rect_impl h
  have hp := Ev.of (impl_rectangle.mono _ _) hr
  by_cases hm : 0 ≤ m ∧ m ≤ 12
  rotate_left
  · refine ⟨([], false), ?_, ?_, Nat.zero_le _⟩
    · unfold spec_BoxBySum.f spec_laBox.f
      rw [hs, decide_eq_true h, laBound_eq, range_false hm]
      exact Ev.call rfl (Ev.no (by simp) (Ev.now _))
    · unfold impl_BoxBySum.f
      refine Ev.bind (Rectangle_yes h hp) (Ev.yes rfl ?_)
      rw [isBound_eq, range_false hm]
      exact Ev.call rfl (Ev.no (by simp) (Ev.now _))
  obtain ⟨q, rfl⟩ := Int.eq_ofNat_of_zero_le hm.1
  obtain ⟨n', m', en, em, _, _, _, _, _, hk⟩ := sides_all allBS h
  obtain rfl : na = n' := by omega
  obtain rfl : nb = m' := by omega
  unfold okBS at hk
  rw [hr] at hk
  simp only [bsP] at hk
  rw [← kN_first] at hk
  have hq := bsRun_at hP.small 13 0 (by omega) hk q (Nat.zero_le _) (by omega)
  have hM : p.length * q ≤ 10 * 12 := Nat.mul_le_mul hP.small (by omega)
  refine ⟨(ints (sumsL p q), true), ?_, ?_, ?_⟩
  · unfold spec_BoxBySum.f spec_laBox.f
    rw [hs, decide_eq_true h, laBound_eq, range_true hm]
    have e0 : wrap64 ((na : Int) * (nb : Int)) = ((p.length : Nat) : Int) := by rw [hl, ← Int.natCast_mul]; exact wid (by omega) (by omega)
    have e1 : wrap64 (wrap64 (((p.length : Nat) : Int) * (q : Int)) + 1) = ((p.length * q + 1 : Nat) : Int) := by
      rw [← Int.natCast_mul, wid (n := ((p.length * q : Nat) : Int)) (by omega) (by omega), wid (by omega) (by omega)]; omega
    rw [e0, e1]
    refine Ev.call rfl (Ev.yes rfl (Ev.yes (by omega) (Ev.yes (by rw [Int.toNat_natCast]; omega) (Ev.call rfl (Ev.yes ?_ ?_)))))
    · rw [List.length_replicate, Int.toNat_natCast]; omega
    · rw [Int.toNat_natCast]
      have := bs_l0 (a := (na : Int)) (b := (nb : Int)) (m := q) rfl rfl (by omega) (by omega) (by omega) (M := p.length * q + 1) (by omega) (by omega) na 1 (bsFirst (p.length * q + 1)) (Nat.le_refl _) (by omega) (by unfold bsFirst; rw [List.length_set, List.length_replicate])
      rw [hq] at this
      exact this
  · unfold impl_BoxBySum.f
    refine Ev.bind (Rectangle_yes h hp) (Ev.yes rfl ?_)
    rw [isBound_eq, range_true hm]
    exact Ev.call rfl (Ev.yes rfl (Ev.bind (chains_ev hP (by omega)) (Ev.now _)))
  · show (ints (sumsL p q)).length ≤ 1000
    rw [ints_len]; unfold sumsL; rw [List.length_map, List.length_range]; omega
theorem FnExactBoxBySum : laws_FnExactBoxBySum.Pure := by
  intro a b m hw_a hw_b hw_m
  refine Ev.rounds (g := fun k => laws_FnExactBoxBySum.f k a b m) ?_
  unfold laws_FnExactBoxBySum.f
  obtain ⟨r, hs, hi, hr⟩ := BoxBySum_same a hw_a b hw_b m hw_m
  repeat (first
    | exact Ev.ret rfl
    | (refine Ev.bind hs ?_)
    | (refine Ev.bind hi ?_)
    | (refine Ev.call hs ?_)
    | (refine Ev.call hi ?_)
    | (refine Ev.bind (eqIntS_refl _ ?hb) ?_; (case hb => omega))
    | (refine Ev.bind (markIntS_ev1 _ ?hb) ?_; (case hb => omega))
    | (refine Ev.bind (heldIntS_ev1 _ ?hb) ?_; (case hb => omega))
    | (refine Ev.yes rfl ?_)
    | (refine Ev.no ?hn ?_; (case hn => first | (simp; done) | omega))
    | (refine Ev.step (by intro k; simp only [laws_FnExactBoxBySum.j0]; rfl) ?_)
    | (refine Ev.step (by intro k; simp only [laws_FnExactBoxBySum.j1]; rfl) ?_)
    )
end Go.Proofs.Ytemkddgfneohhaa.Q
end
