/- Part 6 of the texts below the row of FnExactLabelsBySum: printed functions with their contracts, and plain lemmas. No condition. -/
import Derived.Test.YtemkddgfneohhaaZFnExactLabelsBySum5
import Derived.SizedLaws
import Derived.ChangeSlices
import Derived.WalkKit
import Derived.ProofKit
import Derived.OpenShut
import Derived.Lib.SmallJoins
import Derived.Deep.Matrix
section
section
namespace Go.Proofs.YtemkddgfneohhaaW.PrintWords
open Go.ChangeShapes Go.WideShapes
/-- A row's slice of whole numbers is no longer than its weight allows. -/
theorem sized_ints {H : Type} {enc : TypeId × Value → H} {P : Program} {W : World} {base : Nat} {spare : Nat → Bool} {held : Bool} {t e : TypeId} {k : IntKind} {a : Option Addr} {len cap : Nat} {d : DataW H} {ps : List MemPlace} {ts : List TypeId} {ds : List (DataW H)} {j : Nat}
    (hsz : (DataW.weightsEach P ts ds).all (· ≤ reachBytes) = true) (ht : ts[j]? = some t) (hd : ds[j]? = some d) (hu : P.underlying t = some (.slice e)) (he : P.underlying e = some (.int k)) (hc : P.cellsOf e = 1) {B : Nat} (hB : P.bytesOf e = B)
    (h : DataW.Trod enc P W base spare held t (.slice a len cap) d ps) : len * B ≤ 140737488351232 := by
  obtain ⟨fuel, hf⟩ := h
  rcases open_ints hu he hc hf with ⟨hcs, _⟩ | ⟨x, l, c, zs, hcs, _, hl, _, hz, hx, _, _⟩
  · simp [Value.cells] at hcs
    obtain ⟨rfl, rfl, rfl⟩ := hcs
    simp
  · simp [Value.cells] at hcs
    obtain ⟨rfl, rfl, rfl⟩ := hcs
    obtain ⟨hx, _⟩ := Prod.mk.inj hx
    subst hx
    have z := sized_slice hsz ht hd hu
    rw [hB] at z
    have hl2 : len ≤ zs.length := by
      rw [hz]
      split
      · exact hl
      · exact Nat.le_refl _
    have h1 : (lits (H := H) k (zs.take len)).length + (lits (H := H) k (zs.drop len)).length = zs.length := by
      simp [lits]
      omega
    rw [h1] at z
    exact Nat.le_trans (Nat.mul_le_mul_right _ hl2) z
end Go.Proofs.YtemkddgfneohhaaW.PrintWords
end
end

section
namespace Go.Proofs.YtemkddgfneohhaaW.RowKit
open Go.ChangeShapes Go.WideShapes Go.Deep Go.RowKit Go.Proofs.YtemkddgfneohhaaW.PrintWords
variable {H : Type} {enc : TypeId × Value → H} {P : Program} {w : World} {base : Nat} {held : Bool}
/-- What is known of a slice of whole numbers that came in. -/
structure PxInts (w : World) (k : IntKind) (A : Option Addr) (c : Nat) (l : List Int) : Prop where
  le : l.length ≤ c
  c : Kd.C (Kd.int k) w A l.length l
  m : l.length ≤ maxLen
  wf : ∀ n ∈ l, (Lit.int k n).wf = true
theorem ints_of {t e : TypeId} {k : IntKind} {fuel : Nat} {cs : List Value} {x : DataW H × List MemPlace} (ht : P.underlying t = some (.slice e)) (he : P.underlying e = some (.int k)) (hc : P.cellsOf e = 1)
    (h : DataW.trod enc P w base (fun _ => true) held fuel t cs = some x) : ∃ A c l, cs = [.slice A (List.length l) c] ∧ PxInts w k A c l := by
  rcases open_ints ht he hc h with ⟨hcs, _⟩ | ⟨a, len, cap, zs, hcs, _, hl, hm, hz, _, hcell, hwz⟩
  · obtain ⟨l, e1, h1, h2, h3, h4⟩ := ReadsInt.ofRowC (k := k) (w := w) (a := none) (len := 0) (cap := 0) (zs := []) (.inl ⟨rfl, rfl, rfl, rfl⟩)
    exact ⟨none, 0, l, by rw [hcs, ← e1], h4, Kd.C_of_reads (d := (0 : Int)) (h1 := fun _ => rfl) h1, h2, h3⟩
  · obtain ⟨l, e1, h1, h2, h3, h4⟩ := ReadsInt.ofRowC (k := k) (w := w) (a := some a) (len := len) (cap := cap) (zs := zs) (.inr ⟨_, rfl, hl, hm, by simpa using hz, hcell, hwz⟩)
    exact ⟨some a, cap, l, by rw [hcs, ← e1], h4, Kd.C_of_reads (d := (0 : Int)) (h1 := fun _ => rfl) h1, h2, h3⟩
theorem open_sl {r : Reach} {b0 : Nat} {t e : TypeId} {k : IntKind} {v : Value} {d : DataW H} {p : List MemPlace} (ht : P.underlying t = some (.slice e)) (he : P.underlying e = some (.int k)) (hc : P.cellsOf e = 1)
    (hv : Value.okWide P w r b0 t v) (h : DataW.Trod enc P w base (fun _ => true) held t v d p) : ∃ A c l, v = .slice A (List.length l) c ∧ PxInts w k A c l := by
  obtain ⟨a, len, cap, rfl⟩ := okWide_slice ht hv
  obtain ⟨fuel, hf⟩ := h
  obtain ⟨A, c, l, hcs, hi⟩ := ints_of ht he hc hf
  simp [Value.cells] at hcs
  obtain ⟨rfl, rfl, rfl⟩ := hcs
  exact ⟨_, _, l, rfl, hi⟩
theorem open_st {r : Reach} {b0 : Nat} {t q e : TypeId} {k : IntKind} {f0 : Field} {v : Value} {d : DataW H} {p : List MemPlace} (hs : P.underlying t = some (.struct #[f0])) (hone : oneCellFields P #[f0] = true) (hC : P.cellsOf t = 1)
    (hq : f0.type = q) (ht : P.underlying q = some (.slice e)) (he : P.underlying e = some (.int k)) (hc : P.cellsOf e = 1)
    (hv : Value.okWide P w r b0 t v) (h : DataW.Trod enc P w base (fun _ => true) held t v d p) : ∃ A c l, v = .agg #[.slice A (List.length l) c] ∧ PxInts w k A c l := by
  subst hq
  obtain ⟨cs, rfl, hsz⟩ := okWide_struct hs hv
  obtain ⟨c0, rfl⟩ : ∃ c0, cs = #[c0] := by
    obtain ⟨l⟩ := cs
    match l, hsz.trans hC with
    | [c0], _ => exact ⟨c0, rfl⟩
  obtain ⟨fuel, hf⟩ := h
  obtain ⟨y0, n, _, _, h0⟩ := trod_struct1 hs hf
  obtain ⟨o0, k0⟩ := Go.Deep.hone_of hone 0 f0 rfl
  obtain ⟨A, c, l, hcs, hi⟩ := ints_of ht he hc (by simpa [Value.cells, o0, k0] using h0 : DataW.trod enc P w base (fun _ => true) held n f0.type [c0] = some y0)
  simp at hcs
  subst hcs
  exact ⟨A, c, l, rfl, hi⟩
/-- What is known of a slice of slices of whole numbers that came in. -/
structure PxRows (w : World) (k : IntKind) (q : TypeId) (A : Option Addr) (c : Nat) (l : List (List Int)) : Prop where
  le : l.length ≤ c
  c : Kd.C (Kd.slice q (Kd.int k)) w A l.length l
  m : l.length ≤ maxLen
  m2 : ∀ r ∈ l, r.length ≤ maxLen
  wf : ∀ r ∈ l, ∀ n ∈ r, (Lit.int k n).wf = true
theorem open_ss {r : Reach} {b0 : Nat} {t e q : TypeId} {k : IntKind} {v : Value} {d : DataW H} {p : List MemPlace} (ht : P.underlying t = some (.slice e)) (he : P.underlying e = some (.slice q)) (hq : P.underlying q = some (.int k))
    (ce : P.cellsOf e = 1) (cq : P.cellsOf q = 1)
    (hv : Value.okWide P w r b0 t v) (h : DataW.Trod enc P w base (fun _ => true) held t v d p) : ∃ A c l, v = .slice A (List.length l) c ∧ PxRows w k q A c l := by
  obtain ⟨a, len, cap, rfl⟩ := okWide_slice ht hv
  obtain ⟨fuel, hf⟩ := h
  rcases Go.Deep.open_int_rows ht he hq ce cq hf with ⟨hcs, _⟩ | ⟨x, len', cap', AA, L, C, Z, hcs, _, hl, hm, _, hr⟩
  · simp [Value.cells] at hcs
    obtain ⟨rfl, rfl, rfl⟩ := hcs
    exact ⟨none, 0, [], rfl, Nat.le_refl _, ⟨rfl, Nat.zero_le _, fun h => absurd h (Nat.lt_irrefl _)⟩, Nat.zero_le _, (fun _ h => by cases h), (fun _ h => by cases h)⟩
  · simp [Value.cells] at hcs
    obtain ⟨rfl, rfl, rfl⟩ := hcs
    have each : ∀ r, r < cap → PxInts w k (AA r) (C r) ((Z r).take (L r)) ∧ L r = ((Z r).take (L r)).length := by
      intro r hrc
      obtain ⟨_, h1, h2, h3, h4, h5, h6⟩ := hr r hrc
      have hz : ((Z r).take (L r)).length = L r := by rw [List.length_take]; omega
      refine ⟨⟨by omega, ⟨by rfl, by unfold maxLen at h2; omega, fun hp => ?_⟩, by omega, fun n hn => h4 n (List.mem_of_mem_take hn)⟩, hz.symm⟩
      cases ha : AA r with
      | none => have := h5 ha; omega
      | some ad =>
        refine ⟨ad, rfl, fun j p hj => ⟨[.int k p], rfl, rfl, fun i u hu => ?_⟩⟩
        have hj1 := (List.getElem?_eq_some_iff.1 hj).1
        have hjl : j < L r := by omega
        cases i with
        | succ i => simp at hu
        | zero =>
          simp at hu
          subst hu
          have := (h6 ad ha).2 j (by omega)
          rw [List.getD_eq_getElem?_getD, ← List.getElem?_take_of_lt hjl, hj] at this
          have e1 : j * (Kd.int k).sz + 0 = j := by show j * 1 + 0 = j; omega
          rw [e1]
          exact this
    refine ⟨some x, cap, (List.range len).map (fun r => (Z r).take (L r)), by simp, ⟨by simpa using hl, ⟨by simp, ?_, fun hp => ⟨x, rfl, fun j p hj => ?_⟩⟩, by simp; omega, ?_, ?_⟩⟩
    · simp; unfold maxLen at hm; omega
    · simp only [List.getElem?_map, Option.map_eq_some_iff] at hj
      obtain ⟨r, hr1, rfl⟩ := hj
      obtain ⟨hr2, hr3⟩ := List.getElem?_eq_some_iff.1 hr1
      simp at hr2 hr3
      subst hr3
      obtain ⟨hi, hL⟩ := each j (by omega)
      refine ⟨[.slice (AA j) ((Z j).take (L j)).length (C j)], rfl, ⟨AA j, C j, rfl, hi.le, hi.c⟩, fun i u hu => ?_⟩
      cases i with
      | succ i => simp at hu
      | zero =>
        simp only [List.getElem?_cons_zero, Option.some.injEq] at hu
        subst hu
        have e1 : j * (Kd.slice q (Kd.int k)).sz + 0 = j := by show j * 1 + 0 = j; omega
        rw [e1, ← hL]
        exact (hr j (by omega)).1
    · intro r hr1
      obtain ⟨j, hj, rfl⟩ := List.mem_map.1 hr1
      rw [List.mem_range] at hj
      exact (each j (by omega)).1.m
    · intro r hr1
      obtain ⟨j, hj, rfl⟩ := List.mem_map.1 hr1
      rw [List.mem_range] at hj
      exact (each j (by omega)).1.wf
end Go.Proofs.YtemkddgfneohhaaW.RowKit
end

section
namespace Go.Proofs.Ytemkddgfneohhaa.F
open Go.RowKit Go.Proofs.YtemkddgfneohhaaW.PrintWords Go.Proofs.YtemkddgfneohhaaW.PrintLast Go.Proofs.YtemkddgfneohhaaW.PrintMore Go.Proofs.YtemkddgfneohhaaW.RowKit
set_option linter.unusedVariables false
def laws_FnExactLabelsBySum.Pure : Prop := ∀ (l0 : List Int) (a1 : Int), l0.length ≤ maxLen → (∀ n ∈ l0, (Lit.int .i64 n).wf = true) → (Lit.int .i64 a1).wf = true → ∃ k, laws_FnExactLabelsBySum.f k l0 a1 = some true
theorem laws_FnExactLabelsBySum.walk (P : laws_FnExactLabelsBySum.Pure) (A0 : Option Addr) (c0 : Nat) (l0 : List Int) (a1 : Int) (w : World) (i0 : PxInts w .i64 A0 c0 l0) (w1 : (Lit.int .i64 a1).wf = true) :
    Calls Try.prog 10 #[.agg #[.slice A0 l0.length c0], .int .i64 a1] w fun e w' => e = .returned (.bool true) ∧ Below w.heap.size w w' := by
  obtain ⟨k, h⟩ := P l0 a1 i0.m i0.wf w1
  refine (laws_FnExactLabelsBySum.calls k _ _ l0 a1 true w i0.c i0.le h).mono ?_
  rintro e w' ⟨rfl, hd⟩
  exact ⟨rfl, hd⟩
end Go.Proofs.Ytemkddgfneohhaa.F
end

section
namespace Go.Proofs.Ytemkddgfneohhaa.Q
open Go.RowKit Go.Proofs.YtemkddgfneohhaaW.PrintWords Go.Proofs.Ytemkddgfneohhaa.F
set_option linter.unusedVariables false
theorem lab_small {p : List Int} {m : Nat} {f : List Nat} (h : LabN p m f) : ∀ x ∈ f, x ≤ m := by
  intro x hx
  obtain ⟨i, hi, rfl⟩ := List.getElem_of_mem hx
  have := h.le i (by have := h.len; omega)
  rw [List.getD_eq_getElem?_getD, List.getElem?_eq_getElem hi] at this
  exact this
theorem sum_bound (m : Nat) : ∀ l : List Nat, (∀ x ∈ l, x ≤ m) → l.sum ≤ l.length * m := by
  intro l
  induction l with
  | nil => intro _; simp
  | cons x l ih =>
    intro h
    have h1 := ih (fun y hy => h y (List.mem_cons_of_mem _ hy))
    have h2 := h x List.mem_cons_self
    rw [List.sum_cons, List.length_cons, Nat.succ_mul]; omega
def cntS (l : List (List Nat)) (s : Nat) : Nat := l.countP fun f => decide (f.sum = s)
theorem cntS_snoc (l : List (List Nat)) (f : List Nat) (s : Nat) : cntS (l ++ [f]) s = if s = f.sum then cntS l s + 1 else cntS l s := by
  unfold cntS
  rw [List.countP_append]
  by_cases h : s = f.sum
  · subst h; simp
  · rw [if_neg h]
    have : decide (f.sum = s) = false := decide_eq_false (fun e => h e.symm)
    simp [this]
theorem bySum_loop {p : List Int} {m : Nat} (hn : p.length ≤ 10) (hm : m ≤ 12) {N : Nat} (hN : N = p.length * m + 1) (R : List (List Nat)) (hR : ∀ f ∈ R, LabN p m f) (hl : R.length ≤ 100000) :
    ∀ i, i ≤ R.length → Ev (fun k => spec_LabelsBySum.l0 k (Tl N (cntS (R.take i))) (R.map ints) (R.length : Int) (i : Int)) (Tl N (cntS R), true) := by
  refine downTo _ ?_ ?_
  · refine Ev.step (by intro k; simp only [spec_LabelsBySum.l0]; rfl) (Ev.no (by omega) (Ev.ret ?_))
    rw [List.take_length]
  · intro i hi ih
    have hf := hR R[i] (List.getElem_mem hi)
    have hs := lab_small hf
    have hsum : R[i].sum < N := by
      have h1 := sum_bound m _ hs
      rw [hf.len] at h1
      omega
    have hrow : rd_L1 (R.map ints) (i : Int) = ints R[i] := by
      unfold rd_L1
      rw [Int.toNat_natCast, List.getD_eq_getElem?_getD, List.getElem?_map, List.getElem?_eq_getElem hi]; rfl
    refine Ev.step (by intro k; simp only [spec_LabelsBySum.l0]; rfl) (Ev.yes (by omega) (Ev.yes (by omega) (Ev.yes (by rw [List.length_map]; omega) ?_)))
    rw [hrow, wid1 hi (by omega)]
    refine Ev.bind (laSum_ev (f := R[i]) (by rw [hf.len]; omega) (fun x hx => by have := hs x hx; omega)) (Ev.yes (by omega) (Ev.yes (by rw [Tl_len]; omega) ?_))
    have hc : cntS (R.take i) R[i].sum ≤ 100000 := Nat.le_trans List.countP_le_length (by rw [List.length_take]; omega)
    rw [Tl_get N _ hsum, Int.toNat_natCast, wid (by omega) (by omega), show ((cntS (R.take i) R[i].sum : Nat) : Int) + 1 = ((cntS (R.take i) R[i].sum + 1 : Nat) : Int) by omega, Tl_set hsum]
    have e : (Tl N fun u => if u = R[i].sum then cntS (R.take i) R[i].sum + 1 else cntS (R.take i) u) = Tl N (cntS (R.take (i + 1))) := Tl_congr fun t _ => by
      rw [take_snoc R i hi, cntS_snoc]
      split
      · rename_i h; rw [h]
      · rfl
    rw [e]
    exact ih
theorem LabelsBySum_same (p : List Int) (hp : p.length ≤ 1048576) (_ : ∀ n ∈ p, (Lit.int .i64 n).wf = true) (m : Int) (_ : (Lit.int .i64 m).wf = true) :
    ∃ r, Ev (fun k => spec_LabelsBySum.f k p m) r ∧ Ev (fun k => impl_LabelsBySum.f k p m) r ∧ r.1.length ≤ 1048576 := by
  unfold spec_LabelsBySum.f impl_LabelsBySum.f
  have stop : ∀ m, Ev (fun k => spec_LabelsBySum.j0 k m true p) ([], false) := fun m => Ev.step (by intro k; simp only [spec_LabelsBySum.j0]; rfl) (Ev.yes (show true = true from rfl) (Ev.now _))
  cases hpo : isPo p with
  | false =>
    refine ⟨([], false), Ev.bind (poGood_ev p) ?_, Ev.bind (IsPoset_ev p) ?_, Nat.zero_le _⟩
    · rw [hpo]; exact Ev.no (by simp) (stop m)
    · rw [hpo]; exact Ev.no (by simp) (Ev.now _)
  | true =>
    have hP := (isPo_iff p).1 hpo
    have hn := hP.small
    by_cases hm : 0 ≤ m ∧ m ≤ 12
    rotate_left
    · refine ⟨([], false), Ev.bind (poGood_ev p) ?_, Ev.bind (IsPoset_ev p) ?_, Nat.zero_le _⟩
      · rw [hpo]; refine Ev.yes rfl ?_
        rw [laBound_eq, range_false hm]
        exact Ev.call rfl (Ev.no (by simp) (stop m))
      · rw [hpo]; refine Ev.yes rfl ?_
        rw [isBound_eq, range_false hm]
        exact Ev.call rfl (Ev.no (by simp) (Ev.now _))
    obtain ⟨q, rfl⟩ := Int.eq_ofNat_of_zero_le hm.1
    have hq : q ≤ 12 := by omega
    have hb : q * p.length ≤ 12 * 10 := Nat.mul_le_mul hq hn
    have hcomm : p.length * q = q * p.length := Nat.mul_comm _ _
    have hcount := labs_count hP q
    have hspec : ∀ r, Ev (fun k => spec_LabelsBySum.j0 k (q : Int) (decide (((wvN (stB p false) (idealsN p) (q + 1) (allN p) : Nat) : Int) > 100000)) p) r → Ev (fun k => (spec_poGood.f k p).bind fun t366 => (if t366 = true then ((spec_laBound.f (q : Int)).bind fun t367 => (if t367 = true then ((spec_laChains.f k p (wrap64 ((q : Int) + 1)) false).bind fun t368 => (spec_LabelsBySum.j0 k (q : Int) (decide (t368 > 100000)) p)) else (spec_LabelsBySum.j0 k (q : Int) true p))) else (spec_LabelsBySum.j0 k (q : Int) true p))) r := fun r h => by
      refine Ev.bind (poGood_ev p) ?_
      rw [hpo]; refine Ev.yes rfl ?_
      rw [laBound_eq, range_true hm]
      refine Ev.call rfl (Ev.yes rfl ?_)
      rw [show wrap64 ((q : Int) + 1) = ((q + 1 : Nat) : Int) by rw [wid (by omega) (by omega)]; omega]
      exact Ev.bind (laChains_ev hP false (by omega)) h
    have himpl : ∀ r, Ev (fun k => if ((wvN (stB p false) (idealsN p) (q + 1) (allN p) : Nat) : Int) > 100000 then some (([] : List Int), false) else (impl_Poset_chains.f k p (q : Int)).bind fun t383 => some (t383, true)) r → Ev (fun k => (impl_IsPoset.f k p).bind fun t380 => (if t380 = true then ((impl_isBound.f (q : Int)).bind fun t381 => (if t381 = true then ((impl_Poset_count.f k p (q : Int)).bind fun t382 => (if t382 > 100000 then (some (([] : List Int), false)) else ((impl_Poset_chains.f k p (q : Int)).bind fun t383 => (some (t383, true))))) else (some (([] : List Int), false)))) else (some (([] : List Int), false)))) r := fun r h => by
      refine Ev.bind (IsPoset_ev p) ?_
      rw [hpo]; refine Ev.yes rfl ?_
      rw [isBound_eq, range_true hm]
      exact Ev.call rfl (Ev.yes rfl (Ev.bind (count_ev hP (by omega)) h))
    by_cases hbig : ((wvN (stB p false) (idealsN p) (q + 1) (allN p) : Nat) : Int) > 100000
    · refine ⟨([], false), hspec _ ?_, himpl _ (Ev.yes hbig (Ev.now _)), Nat.zero_le _⟩
      rw [decide_eq_true hbig]
      exact stop _
    · refine ⟨(ints (sumsL p q), true), hspec _ ?_, himpl _ (Ev.no hbig (Ev.bind (chains_ev hP hq) (Ev.now _))), ?_⟩
      · rw [decide_eq_false hbig]
        have e1 : wrap64 (wrap64 ((q : Int) * (p.length : Int)) + 1) = ((p.length * q + 1 : Nat) : Int) := by
          rw [← Int.natCast_mul, wid (n := ((q * p.length : Nat) : Int)) (by omega) (by omega), wid (by omega) (by omega)]; omega
        refine Ev.step (by intro k; simp only [spec_LabelsBySum.j0]; rfl) (Ev.no (by simp) ?_)
        rw [e1, Int.toNat_natCast]
        refine Ev.yes (by omega) (Ev.yes (by omega) (Ev.bind (labs_ev hP hq (most := 100000) (Nat.le_refl _) (by rw [hcount]; omega)) ?_))
        rw [List.length_map, Tl_zero]
        have := bySum_loop hn hq rfl (labsN p q) (fun f hf => (mem_labsN hP q f).1 hf) (by rw [hcount]; omega) 0 (Nat.zero_le _)
        have e2 : Tl (p.length * q + 1) (cntS (labsN p q)) = ints (sumsL p q) := by
          unfold Tl sumsL ints
          rw [List.map_map]
          refine List.map_congr_left fun s _ => ?_
          show ((cntS (labsN p q) s : Nat) : Int) = ((wT p q s : Nat) : Int)
          rw [← labs_sum hP q s]; rfl
        rw [e2] at this
        exact this
      · show (ints (sumsL p q)).length ≤ _
        rw [ints_len]; unfold sumsL; rw [List.length_map, List.length_range]; omega
theorem FnExactLabelsBySum : laws_FnExactLabelsBySum.Pure := by
  intro l0 a1 hm_l0 hw_l0 hw_a1
  by_cases hl_l0 : l0.length ≤ 1048576
  rotate_left
  · exact ⟨0, by unfold laws_FnExactLabelsBySum.f; exact if_pos ⟨0, (Or.inl ⟨-1, (szPoset_eq l0 1048576 (by omega) hm_l0).trans (by rw [if_neg hl_l0]), by decide⟩)⟩⟩
  obtain ⟨r, hs_, hi_, hr_⟩ := LabelsBySum_same l0 hl_l0 hw_l0 a1 hw_a1
  obtain ⟨K0, e0⟩ := toPoset_ev l0 hl_l0
  obtain ⟨K1, e1⟩ := hs_
  obtain ⟨K2, e2⟩ := hi_
  obtain ⟨K3, e3⟩ := eqIntS_refl r.1 (by omega)
  obtain ⟨K4, e4⟩ := eqPoset_refl l0 (by omega)
  obtain ⟨K5, e5⟩ := markPoset_ev1 l0 (by omega)
  obtain ⟨K6, e6⟩ := markIntS_ev1 r.1 (by omega)
  obtain ⟨K7, e7⟩ := heldIntS_ev1 r.1.length (by omega)
  obtain ⟨K, hK_⟩ : ∃ K, K = 0 + K0 + K1 + K2 + K3 + K4 + K5 + K6 + K7 := ⟨_, rfl⟩
  refine ⟨K, ?_⟩
  unfold laws_FnExactLabelsBySum.f
  exact if_pos ⟨K, Or.inr (⟨((1048576 - l0.length : Nat) : Int), r.1, r.2, ((1 + l0.length : Nat) : Int), (upFrom 1 l0.length), ((1 + r.1.length : Nat) : Int), (upFrom 1 r.1.length), (szPoset_eq l0 1048576 (by omega) hm_l0).trans (by rw [if_pos hl_l0]), decide_eq_false (by omega), e0 K (by omega), e1 K (by omega), e2 K (by omega), e3 K (by omega), e4 K (by omega), e5 K (by omega), decide_eq_false (by omega), e6 K (by omega), e7 K (by omega), decide_eq_false (by omega)⟩)⟩
end Go.Proofs.Ytemkddgfneohhaa.Q
end
