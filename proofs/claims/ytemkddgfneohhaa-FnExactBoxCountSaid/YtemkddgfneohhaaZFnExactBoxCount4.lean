/- Part 4 of the texts below the row of FnExactBoxCount: printed functions with their contracts, and plain lemmas. No condition. -/
import Derived.Test.YtemkddgfneohhaaZFnExactBoxCount3
import Derived.SizedLaws
import Derived.ChangeSlices
import Derived.WalkKit
import Derived.ProofKit
import Derived.OpenShut
import Derived.Lib.SmallJoins
import Derived.Deep.Matrix
section
section
namespace Go.Proofs.YtemkddgfneohhaaW.PrintWords
open Go.ChangeShapes Go.WideShapes
/-- A row's slice of whole numbers is no longer than its weight allows. -/
theorem sized_ints {H : Type} {enc : TypeId × Value → H} {P : Program} {W : World} {base : Nat} {spare : Nat → Bool} {held : Bool} {t e : TypeId} {k : IntKind} {a : Option Addr} {len cap : Nat} {d : DataW H} {ps : List MemPlace} {ts : List TypeId} {ds : List (DataW H)} {j : Nat}
    (hsz : (DataW.weightsEach P ts ds).all (· ≤ reachBytes) = true) (ht : ts[j]? = some t) (hd : ds[j]? = some d) (hu : P.underlying t = some (.slice e)) (he : P.underlying e = some (.int k)) (hc : P.cellsOf e = 1) {B : Nat} (hB : P.bytesOf e = B)
    (h : DataW.Trod enc P W base spare held t (.slice a len cap) d ps) : len * B ≤ 140737488351232 := by
  obtain ⟨fuel, hf⟩ := h
  rcases open_ints hu he hc hf with ⟨hcs, _⟩ | ⟨x, l, c, zs, hcs, _, hl, _, hz, hx, _, _⟩
  · simp [Value.cells] at hcs
    obtain ⟨rfl, rfl, rfl⟩ := hcs
    simp
  · simp [Value.cells] at hcs
    obtain ⟨rfl, rfl, rfl⟩ := hcs
    obtain ⟨hx, _⟩ := Prod.mk.inj hx
    subst hx
    have z := sized_slice hsz ht hd hu
    rw [hB] at z
    have hl2 : len ≤ zs.length := by
      rw [hz]
      split
      · exact hl
      · exact Nat.le_refl _
    have h1 : (lits (H := H) k (zs.take len)).length + (lits (H := H) k (zs.drop len)).length = zs.length := by
      simp [lits]
      omega
    rw [h1] at z
    exact Nat.le_trans (Nat.mul_le_mul_right _ hl2) z
end Go.Proofs.YtemkddgfneohhaaW.PrintWords
end
end

section
namespace Go.Proofs.YtemkddgfneohhaaW.RowKit
open Go.ChangeShapes Go.WideShapes Go.Deep Go.RowKit Go.Proofs.YtemkddgfneohhaaW.PrintWords
variable {H : Type} {enc : TypeId × Value → H} {P : Program} {w : World} {base : Nat} {held : Bool}
/-- What is known of a slice of whole numbers that came in. -/
structure PxInts (w : World) (k : IntKind) (A : Option Addr) (c : Nat) (l : List Int) : Prop where
  le : l.length ≤ c
  c : Kd.C (Kd.int k) w A l.length l
  m : l.length ≤ maxLen
  wf : ∀ n ∈ l, (Lit.int k n).wf = true
theorem ints_of {t e : TypeId} {k : IntKind} {fuel : Nat} {cs : List Value} {x : DataW H × List MemPlace} (ht : P.underlying t = some (.slice e)) (he : P.underlying e = some (.int k)) (hc : P.cellsOf e = 1)
    (h : DataW.trod enc P w base (fun _ => true) held fuel t cs = some x) : ∃ A c l, cs = [.slice A (List.length l) c] ∧ PxInts w k A c l := by
  rcases open_ints ht he hc h with ⟨hcs, _⟩ | ⟨a, len, cap, zs, hcs, _, hl, hm, hz, _, hcell, hwz⟩
  · obtain ⟨l, e1, h1, h2, h3, h4⟩ := ReadsInt.ofRowC (k := k) (w := w) (a := none) (len := 0) (cap := 0) (zs := []) (.inl ⟨rfl, rfl, rfl, rfl⟩)
    exact ⟨none, 0, l, by rw [hcs, ← e1], h4, Kd.C_of_reads (d := (0 : Int)) (h1 := fun _ => rfl) h1, h2, h3⟩
  · obtain ⟨l, e1, h1, h2, h3, h4⟩ := ReadsInt.ofRowC (k := k) (w := w) (a := some a) (len := len) (cap := cap) (zs := zs) (.inr ⟨_, rfl, hl, hm, by simpa using hz, hcell, hwz⟩)
    exact ⟨some a, cap, l, by rw [hcs, ← e1], h4, Kd.C_of_reads (d := (0 : Int)) (h1 := fun _ => rfl) h1, h2, h3⟩
theorem open_sl {r : Reach} {b0 : Nat} {t e : TypeId} {k : IntKind} {v : Value} {d : DataW H} {p : List MemPlace} (ht : P.underlying t = some (.slice e)) (he : P.underlying e = some (.int k)) (hc : P.cellsOf e = 1)
    (hv : Value.okWide P w r b0 t v) (h : DataW.Trod enc P w base (fun _ => true) held t v d p) : ∃ A c l, v = .slice A (List.length l) c ∧ PxInts w k A c l := by
  obtain ⟨a, len, cap, rfl⟩ := okWide_slice ht hv
  obtain ⟨fuel, hf⟩ := h
  obtain ⟨A, c, l, hcs, hi⟩ := ints_of ht he hc hf
  simp [Value.cells] at hcs
  obtain ⟨rfl, rfl, rfl⟩ := hcs
  exact ⟨_, _, l, rfl, hi⟩
theorem open_st {r : Reach} {b0 : Nat} {t q e : TypeId} {k : IntKind} {f0 : Field} {v : Value} {d : DataW H} {p : List MemPlace} (hs : P.underlying t = some (.struct #[f0])) (hone : oneCellFields P #[f0] = true) (hC : P.cellsOf t = 1)
    (hq : f0.type = q) (ht : P.underlying q = some (.slice e)) (he : P.underlying e = some (.int k)) (hc : P.cellsOf e = 1)
    (hv : Value.okWide P w r b0 t v) (h : DataW.Trod enc P w base (fun _ => true) held t v d p) : ∃ A c l, v = .agg #[.slice A (List.length l) c] ∧ PxInts w k A c l := by
  subst hq
  obtain ⟨cs, rfl, hsz⟩ := okWide_struct hs hv
  obtain ⟨c0, rfl⟩ : ∃ c0, cs = #[c0] := by
    obtain ⟨l⟩ := cs
    match l, hsz.trans hC with
    | [c0], _ => exact ⟨c0, rfl⟩
  obtain ⟨fuel, hf⟩ := h
  obtain ⟨y0, n, _, _, h0⟩ := trod_struct1 hs hf
  obtain ⟨o0, k0⟩ := Go.Deep.hone_of hone 0 f0 rfl
  obtain ⟨A, c, l, hcs, hi⟩ := ints_of ht he hc (by simpa [Value.cells, o0, k0] using h0 : DataW.trod enc P w base (fun _ => true) held n f0.type [c0] = some y0)
  simp at hcs
  subst hcs
  exact ⟨A, c, l, rfl, hi⟩
/-- What is known of a slice of slices of whole numbers that came in. -/
structure PxRows (w : World) (k : IntKind) (q : TypeId) (A : Option Addr) (c : Nat) (l : List (List Int)) : Prop where
  le : l.length ≤ c
  c : Kd.C (Kd.slice q (Kd.int k)) w A l.length l
  m : l.length ≤ maxLen
  m2 : ∀ r ∈ l, r.length ≤ maxLen
  wf : ∀ r ∈ l, ∀ n ∈ r, (Lit.int k n).wf = true
theorem open_ss {r : Reach} {b0 : Nat} {t e q : TypeId} {k : IntKind} {v : Value} {d : DataW H} {p : List MemPlace} (ht : P.underlying t = some (.slice e)) (he : P.underlying e = some (.slice q)) (hq : P.underlying q = some (.int k))
    (ce : P.cellsOf e = 1) (cq : P.cellsOf q = 1)
    (hv : Value.okWide P w r b0 t v) (h : DataW.Trod enc P w base (fun _ => true) held t v d p) : ∃ A c l, v = .slice A (List.length l) c ∧ PxRows w k q A c l := by
  obtain ⟨a, len, cap, rfl⟩ := okWide_slice ht hv
  obtain ⟨fuel, hf⟩ := h
  rcases Go.Deep.open_int_rows ht he hq ce cq hf with ⟨hcs, _⟩ | ⟨x, len', cap', AA, L, C, Z, hcs, _, hl, hm, _, hr⟩
  · simp [Value.cells] at hcs
    obtain ⟨rfl, rfl, rfl⟩ := hcs
    exact ⟨none, 0, [], rfl, Nat.le_refl _, ⟨rfl, Nat.zero_le _, fun h => absurd h (Nat.lt_irrefl _)⟩, Nat.zero_le _, (fun _ h => by cases h), (fun _ h => by cases h)⟩
  · simp [Value.cells] at hcs
    obtain ⟨rfl, rfl, rfl⟩ := hcs
    have each : ∀ r, r < cap → PxInts w k (AA r) (C r) ((Z r).take (L r)) ∧ L r = ((Z r).take (L r)).length := by
      intro r hrc
      obtain ⟨_, h1, h2, h3, h4, h5, h6⟩ := hr r hrc
      have hz : ((Z r).take (L r)).length = L r := by rw [List.length_take]; omega
      refine ⟨⟨by omega, ⟨by rfl, by unfold maxLen at h2; omega, fun hp => ?_⟩, by omega, fun n hn => h4 n (List.mem_of_mem_take hn)⟩, hz.symm⟩
      cases ha : AA r with
      | none => have := h5 ha; omega
      | some ad =>
        refine ⟨ad, rfl, fun j p hj => ⟨[.int k p], rfl, rfl, fun i u hu => ?_⟩⟩
        have hj1 := (List.getElem?_eq_some_iff.1 hj).1
        have hjl : j < L r := by omega
        cases i with
        | succ i => simp at hu
        | zero =>
          simp at hu
          subst hu
          have := (h6 ad ha).2 j (by omega)
          rw [List.getD_eq_getElem?_getD, ← List.getElem?_take_of_lt hjl, hj] at this
          have e1 : j * (Kd.int k).sz + 0 = j := by show j * 1 + 0 = j; omega
          rw [e1]
          exact this
    refine ⟨some x, cap, (List.range len).map (fun r => (Z r).take (L r)), by simp, ⟨by simpa using hl, ⟨by simp, ?_, fun hp => ⟨x, rfl, fun j p hj => ?_⟩⟩, by simp; omega, ?_, ?_⟩⟩
    · simp; unfold maxLen at hm; omega
    · simp only [List.getElem?_map, Option.map_eq_some_iff] at hj
      obtain ⟨r, hr1, rfl⟩ := hj
      obtain ⟨hr2, hr3⟩ := List.getElem?_eq_some_iff.1 hr1
      simp at hr2 hr3
      subst hr3
      obtain ⟨hi, hL⟩ := each j (by omega)
      refine ⟨[.slice (AA j) ((Z j).take (L j)).length (C j)], rfl, ⟨AA j, C j, rfl, hi.le, hi.c⟩, fun i u hu => ?_⟩
      cases i with
      | succ i => simp at hu
      | zero =>
        simp only [List.getElem?_cons_zero, Option.some.injEq] at hu
        subst hu
        have e1 : j * (Kd.slice q (Kd.int k)).sz + 0 = j := by show j * 1 + 0 = j; omega
        rw [e1, ← hL]
        exact (hr j (by omega)).1
    · intro r hr1
      obtain ⟨j, hj, rfl⟩ := List.mem_map.1 hr1
      rw [List.mem_range] at hj
      exact (each j (by omega)).1.m
    · intro r hr1
      obtain ⟨j, hj, rfl⟩ := List.mem_map.1 hr1
      rw [List.mem_range] at hj
      exact (each j (by omega)).1.wf
end Go.Proofs.YtemkddgfneohhaaW.RowKit
end

section
namespace Go.Proofs.Ytemkddgfneohhaa.F
open Go.RowKit Go.Proofs.YtemkddgfneohhaaW.PrintWords Go.Proofs.YtemkddgfneohhaaW.PrintLast Go.Proofs.YtemkddgfneohhaaW.PrintMore Go.Proofs.YtemkddgfneohhaaW.RowKit
set_option linter.unusedVariables false
def laws_FnExactBoxCount.Pure : Prop := ∀ (a0 : Int) (a1 : Int) (a2 : Int), (Lit.int .i64 a0).wf = true → (Lit.int .i64 a1).wf = true → (Lit.int .i64 a2).wf = true → ∃ k, laws_FnExactBoxCount.f k a0 a1 a2 = some true
theorem laws_FnExactBoxCount.walk (P : laws_FnExactBoxCount.Pure) (a0 : Int) (a1 : Int) (a2 : Int) (w : World) (w0 : (Lit.int .i64 a0).wf = true) (w1 : (Lit.int .i64 a1).wf = true) (w2 : (Lit.int .i64 a2).wf = true) :
    Calls Try.prog 3 #[.int .i64 a0, .int .i64 a1, .int .i64 a2] w fun e w' => e = .returned (.bool true) ∧ Below w.heap.size w w' := by
  obtain ⟨k, h⟩ := P a0 a1 a2 w0 w1 w2
  refine (laws_FnExactBoxCount.calls k a0 a1 a2 true w h).mono ?_
  rintro e w' ⟨rfl, hd⟩
  exact ⟨rfl, hd⟩
end Go.Proofs.Ytemkddgfneohhaa.F
end

section
namespace Go.Proofs.Ytemkddgfneohhaa.Q
open Go.RowKit Go.Proofs.YtemkddgfneohhaaW.PrintWords Go.Proofs.Ytemkddgfneohhaa.F
set_option linter.unusedVariables false
/-- The counts of rows by ideals, one step on, as lists. -/
def cstep (ids vals : List Nat) : List Nat := ids.map fun t => sumL (((ids.zip vals).filter fun x => subB x.1 t).map fun x => x.2)
theorem zip_map_self {α β : Type} (f : α → β) : ∀ l : List α, l.zip (l.map f) = l.map fun x => (x, f x)
  | [] => rfl
  | x :: l => by rw [List.map_cons, List.zip_cons_cons, zip_map_self f l, List.map_cons]
theorem cstep_eq (p : List Int) (ids : List Nat) (k : Nat) : cstep ids (ids.map (wvN (stB p false) ids k)) = ids.map (wvN (stB p false) ids (k + 1)) := by
  unfold cstep
  refine List.map_congr_left fun t _ => ?_
  rw [zip_map_self, List.filter_map, List.map_map]
  conv => rhs; unfold wvN
  congr 1
  have e : ((fun x : Nat × Nat => x.2) ∘ fun x => (x, wvN (stB p false) ids k x)) = wvN (stB p false) ids k := rfl
  rw [e]
  congr 1
  refine List.filter_congr fun s _ => ?_
  show subB s t = stB p false s t
  rw [stB_false]
def boxB : Option (Int × Bool) → Nat → Bool
  | some x, n => decide (x.1 = (n : Int)) && x.2
  | none, _ => false
def boxRun (a b : Nat) (ids : List Nat) : Nat → Nat → List Nat → Bool
  | 0, _, _ => true
  | d + 1, m, vals => boxB (spec_BoxCount.f 200 (a : Int) (b : Int) (m : Int)) (sumL vals) && boxRun a b ids d (m + 1) (cstep ids vals)
def boxP (a b : Nat) : Option (List Int) → Bool
  | some p => boxRun a b (idealsN p) 13 0 ((idealsN p).map fun t => if t = 0 then 1 else 0)
  | none => false
def okBox (a b : Nat) : Bool := boxP a b (impl_rectangle.f 200 (a : Int) (b : Int))
theorem allBox : (List.range 11).all (fun a => (List.range 11).all fun b => a == 0 || b == 0 || decide (10 < a * b) || okBox a b) = true := by decide +kernel
theorem boxRun_at {a b : Nat} {p : List Int} : ∀ (d m : Nat), boxRun a b (idealsN p) d m ((idealsN p).map (wvN (stB p false) (idealsN p) m)) = true → ∀ q, m ≤ q → q < m + d → boxB (spec_BoxCount.f 200 (a : Int) (b : Int) (q : Int)) (sumL ((idealsN p).map (wvN (stB p false) (idealsN p) q))) = true
  | 0, m, _, q, h1, h2 => by omega
  | d + 1, m, h, q, h1, h2 => by
    unfold boxRun at h
    rw [Bool.and_eq_true, cstep_eq] at h
    rcases Nat.lt_or_ge m q with hq | hq
    · exact boxRun_at d (m + 1) h.2 q (by omega) (by omega)
    · rw [show q = m by omega]; exact h.1
theorem box_spec {a b : Int} (h : sidesOk a b) : ∃ (p : List Int), Ev (fun k => impl_rectangle.f k a b) p ∧ PO p ∧ ∀ m : Nat, m ≤ 12 → Ev (fun k => spec_BoxCount.f k a b (m : Int)) (((wvN (stB p false) (idealsN p) (m + 1) (allN p) : Nat) : Int), true) := by
  obtain ⟨n, m, p, rfl, rfl, h1, h2, h3, h4, hnm, hr, hp, hl⟩ := rect_impl h
  obtain ⟨n', m', en, em, _, _, _, _, _, hk⟩ := sides_all allBox h
  obtain rfl : n = n' := by omega
  obtain rfl : m = m' := by omega
  unfold okBox at hk
  rw [hr] at hk
  simp only [boxP] at hk
  refine ⟨p, Ev.of (impl_rectangle.mono _ _) hr, hp, fun j hj => ?_⟩
  have hb := boxRun_at 13 0 hk j (Nat.zero_le _) (by omega)
  rw [wv_total]
  cases hs : spec_BoxCount.f 200 (n : Int) (m : Int) (j : Int) with
  | none => rw [hs] at hb; simp [boxB] at hb
  | some x =>
    rw [hs] at hb
    simp only [boxB, Bool.and_eq_true, decide_eq_true_eq] at hb
    have := Ev.of (spec_BoxCount.mono _ _ _) hs
    rw [show x = (((sumL ((idealsN p).map (wvN (stB p false) (idealsN p) j)) : Nat) : Int), true) from Prod.ext hb.1 hb.2] at this
    exact this
theorem BoxCount_same (a : Int) (_ : (Lit.int .i64 a).wf = true) (b : Int) (_ : (Lit.int .i64 b).wf = true) (m : Int) (_ : (Lit.int .i64 m).wf = true) :
    ∃ r, Ev (fun k => spec_BoxCount.f k a b m) r ∧ Ev (fun k => impl_BoxCount.f k a b m) r ∧ True := by
  have hs : spec_shSides.f a b = some (decide (sidesOk a b)) := (show spec_shSides.f a b = impl_areSides.f a b 10 from rfl).trans (areSides_iff a b)
  by_cases h : sidesOk a b
  rotate_left
  · refine ⟨(0, false), ?_, ?_, trivial⟩
    · unfold spec_BoxCount.f spec_laBox.f
      rw [hs, decide_eq_false h]
      exact Ev.call rfl (Ev.no (by simp) (Ev.now _))
    · unfold impl_BoxCount.f
      exact Ev.bind (Rectangle_no h) (Ev.no (by simp) (Ev.now _))
  obtain ⟨p, hp, hP, hspec⟩ := box_spec h
  by_cases hm : 0 ≤ m ∧ m ≤ 12
  rotate_left
  · refine ⟨(0, false), ?_, ?_, trivial⟩
    · unfold spec_BoxCount.f spec_laBox.f
      rw [hs, decide_eq_true h, laBound_eq, range_false hm]
      exact Ev.call rfl (Ev.no (by simp) (Ev.now _))
    · unfold impl_BoxCount.f
      refine Ev.bind (Rectangle_yes h hp) (Ev.yes rfl ?_)
      rw [isBound_eq, range_false hm]
      exact Ev.call rfl (Ev.no (by simp) (Ev.now _))
  obtain ⟨q, rfl⟩ := Int.eq_ofNat_of_zero_le hm.1
  refine ⟨_, hspec q (by omega), ?_, trivial⟩
  unfold impl_BoxCount.f
  refine Ev.bind (Rectangle_yes h hp) (Ev.yes rfl ?_)
  rw [isBound_eq, range_true hm]
  exact Ev.call rfl (Ev.yes rfl (Ev.bind (count_ev hP (by omega)) (Ev.now _)))
theorem FnExactBoxCount : laws_FnExactBoxCount.Pure := by
  intro a b m hw_a hw_b hw_m
  refine Ev.rounds (g := fun k => laws_FnExactBoxCount.f k a b m) ?_
  unfold laws_FnExactBoxCount.f
  obtain ⟨r, hs, hi, hr⟩ := BoxCount_same a hw_a b hw_b m hw_m
  repeat (first
    | exact Ev.ret rfl
    | (refine Ev.bind hs ?_)
    | (refine Ev.bind hi ?_)
    | (refine Ev.call hs ?_)
    | (refine Ev.call hi ?_)
    | (refine Ev.yes rfl ?_)
    | (refine Ev.no ?hn ?_; (case hn => first | (simp; done) | omega))
    )
end Go.Proofs.Ytemkddgfneohhaa.Q
end
