/- Part 7 of the texts below the row of FnExactPromoteLinear: printed functions with their contracts, and plain lemmas. No condition. -/
import Derived.Test.YtjahclncpgllmaaZFnExactPromoteLinear6
import Derived.SizedLaws
import Derived.ChangeSlices
import Derived.WalkKit
import Derived.ProofKit
import Derived.OpenShut
import Derived.Lib.SmallJoins
import Derived.Deep.Matrix
section
section
namespace Go.Proofs.YtjahclncpgllmaaW.PrintWords
open Go.ChangeShapes Go.WideShapes
/-- A row's slice of whole numbers is no longer than its weight allows. -/
theorem sized_ints {H : Type} {enc : TypeId × Value → H} {P : Program} {W : World} {base : Nat} {spare : Nat → Bool} {held : Bool} {t e : TypeId} {k : IntKind} {a : Option Addr} {len cap : Nat} {d : DataW H} {ps : List MemPlace} {ts : List TypeId} {ds : List (DataW H)} {j : Nat}
    (hsz : (DataW.weightsEach P ts ds).all (· ≤ reachBytes) = true) (ht : ts[j]? = some t) (hd : ds[j]? = some d) (hu : P.underlying t = some (.slice e)) (he : P.underlying e = some (.int k)) (hc : P.cellsOf e = 1) {B : Nat} (hB : P.bytesOf e = B)
    (h : DataW.Trod enc P W base spare held t (.slice a len cap) d ps) : len * B ≤ 140737488351232 := by
  obtain ⟨fuel, hf⟩ := h
  rcases open_ints hu he hc hf with ⟨hcs, _⟩ | ⟨x, l, c, zs, hcs, _, hl, _, hz, hx, _, _⟩
  · simp [Value.cells] at hcs
    obtain ⟨rfl, rfl, rfl⟩ := hcs
    simp
  · simp [Value.cells] at hcs
    obtain ⟨rfl, rfl, rfl⟩ := hcs
    obtain ⟨hx, _⟩ := Prod.mk.inj hx
    subst hx
    have z := sized_slice hsz ht hd hu
    rw [hB] at z
    have hl2 : len ≤ zs.length := by
      rw [hz]
      split
      · exact hl
      · exact Nat.le_refl _
    have h1 : (lits (H := H) k (zs.take len)).length + (lits (H := H) k (zs.drop len)).length = zs.length := by
      simp [lits]
      omega
    rw [h1] at z
    exact Nat.le_trans (Nat.mul_le_mul_right _ hl2) z
end Go.Proofs.YtjahclncpgllmaaW.PrintWords
end
end

section
namespace Go.Proofs.YtjahclncpgllmaaW.RowKit
open Go.ChangeShapes Go.WideShapes Go.Deep Go.RowKit Go.Proofs.YtjahclncpgllmaaW.PrintWords
variable {H : Type} {enc : TypeId × Value → H} {P : Program} {w : World} {base : Nat} {held : Bool}
/-- What is known of a slice of whole numbers that came in. -/
structure PxInts (w : World) (k : IntKind) (A : Option Addr) (c : Nat) (l : List Int) : Prop where
  le : l.length ≤ c
  c : Kd.C (Kd.int k) w A l.length l
  m : l.length ≤ maxLen
  wf : ∀ n ∈ l, (Lit.int k n).wf = true
theorem ints_of {t e : TypeId} {k : IntKind} {fuel : Nat} {cs : List Value} {x : DataW H × List MemPlace} (ht : P.underlying t = some (.slice e)) (he : P.underlying e = some (.int k)) (hc : P.cellsOf e = 1)
    (h : DataW.trod enc P w base (fun _ => true) held fuel t cs = some x) : ∃ A c l, cs = [.slice A (List.length l) c] ∧ PxInts w k A c l := by
  rcases open_ints ht he hc h with ⟨hcs, _⟩ | ⟨a, len, cap, zs, hcs, _, hl, hm, hz, _, hcell, hwz⟩
  · obtain ⟨l, e1, h1, h2, h3, h4⟩ := ReadsInt.ofRowC (k := k) (w := w) (a := none) (len := 0) (cap := 0) (zs := []) (.inl ⟨rfl, rfl, rfl, rfl⟩)
    exact ⟨none, 0, l, by rw [hcs, ← e1], h4, Kd.C_of_reads (d := (0 : Int)) (h1 := fun _ => rfl) h1, h2, h3⟩
  · obtain ⟨l, e1, h1, h2, h3, h4⟩ := ReadsInt.ofRowC (k := k) (w := w) (a := some a) (len := len) (cap := cap) (zs := zs) (.inr ⟨_, rfl, hl, hm, by simpa using hz, hcell, hwz⟩)
    exact ⟨some a, cap, l, by rw [hcs, ← e1], h4, Kd.C_of_reads (d := (0 : Int)) (h1 := fun _ => rfl) h1, h2, h3⟩
theorem open_sl {r : Reach} {b0 : Nat} {t e : TypeId} {k : IntKind} {v : Value} {d : DataW H} {p : List MemPlace} (ht : P.underlying t = some (.slice e)) (he : P.underlying e = some (.int k)) (hc : P.cellsOf e = 1)
    (hv : Value.okWide P w r b0 t v) (h : DataW.Trod enc P w base (fun _ => true) held t v d p) : ∃ A c l, v = .slice A (List.length l) c ∧ PxInts w k A c l := by
  obtain ⟨a, len, cap, rfl⟩ := okWide_slice ht hv
  obtain ⟨fuel, hf⟩ := h
  obtain ⟨A, c, l, hcs, hi⟩ := ints_of ht he hc hf
  simp [Value.cells] at hcs
  obtain ⟨rfl, rfl, rfl⟩ := hcs
  exact ⟨_, _, l, rfl, hi⟩
theorem open_st {r : Reach} {b0 : Nat} {t q e : TypeId} {k : IntKind} {f0 : Field} {v : Value} {d : DataW H} {p : List MemPlace} (hs : P.underlying t = some (.struct #[f0])) (hone : oneCellFields P #[f0] = true) (hC : P.cellsOf t = 1)
    (hq : f0.type = q) (ht : P.underlying q = some (.slice e)) (he : P.underlying e = some (.int k)) (hc : P.cellsOf e = 1)
    (hv : Value.okWide P w r b0 t v) (h : DataW.Trod enc P w base (fun _ => true) held t v d p) : ∃ A c l, v = .agg #[.slice A (List.length l) c] ∧ PxInts w k A c l := by
  subst hq
  obtain ⟨cs, rfl, hsz⟩ := okWide_struct hs hv
  obtain ⟨c0, rfl⟩ : ∃ c0, cs = #[c0] := by
    obtain ⟨l⟩ := cs
    match l, hsz.trans hC with
    | [c0], _ => exact ⟨c0, rfl⟩
  obtain ⟨fuel, hf⟩ := h
  obtain ⟨y0, n, _, _, h0⟩ := trod_struct1 hs hf
  obtain ⟨o0, k0⟩ := Go.Deep.hone_of hone 0 f0 rfl
  obtain ⟨A, c, l, hcs, hi⟩ := ints_of ht he hc (by simpa [Value.cells, o0, k0] using h0 : DataW.trod enc P w base (fun _ => true) held n f0.type [c0] = some y0)
  simp at hcs
  subst hcs
  exact ⟨A, c, l, rfl, hi⟩
/-- What is known of a slice of slices of whole numbers that came in. -/
structure PxRows (w : World) (k : IntKind) (q : TypeId) (A : Option Addr) (c : Nat) (l : List (List Int)) : Prop where
  le : l.length ≤ c
  c : Kd.C (Kd.slice q (Kd.int k)) w A l.length l
  m : l.length ≤ maxLen
  m2 : ∀ r ∈ l, r.length ≤ maxLen
  wf : ∀ r ∈ l, ∀ n ∈ r, (Lit.int k n).wf = true
theorem open_ss {r : Reach} {b0 : Nat} {t e q : TypeId} {k : IntKind} {v : Value} {d : DataW H} {p : List MemPlace} (ht : P.underlying t = some (.slice e)) (he : P.underlying e = some (.slice q)) (hq : P.underlying q = some (.int k))
    (ce : P.cellsOf e = 1) (cq : P.cellsOf q = 1)
    (hv : Value.okWide P w r b0 t v) (h : DataW.Trod enc P w base (fun _ => true) held t v d p) : ∃ A c l, v = .slice A (List.length l) c ∧ PxRows w k q A c l := by
  obtain ⟨a, len, cap, rfl⟩ := okWide_slice ht hv
  obtain ⟨fuel, hf⟩ := h
  rcases Go.Deep.open_int_rows ht he hq ce cq hf with ⟨hcs, _⟩ | ⟨x, len', cap', AA, L, C, Z, hcs, _, hl, hm, _, hr⟩
  · simp [Value.cells] at hcs
    obtain ⟨rfl, rfl, rfl⟩ := hcs
    exact ⟨none, 0, [], rfl, Nat.le_refl _, ⟨rfl, Nat.zero_le _, fun h => absurd h (Nat.lt_irrefl _)⟩, Nat.zero_le _, (fun _ h => by cases h), (fun _ h => by cases h)⟩
  · simp [Value.cells] at hcs
    obtain ⟨rfl, rfl, rfl⟩ := hcs
    have each : ∀ r, r < cap → PxInts w k (AA r) (C r) ((Z r).take (L r)) ∧ L r = ((Z r).take (L r)).length := by
      intro r hrc
      obtain ⟨_, h1, h2, h3, h4, h5, h6⟩ := hr r hrc
      have hz : ((Z r).take (L r)).length = L r := by rw [List.length_take]; omega
      refine ⟨⟨by omega, ⟨by rfl, by unfold maxLen at h2; omega, fun hp => ?_⟩, by omega, fun n hn => h4 n (List.mem_of_mem_take hn)⟩, hz.symm⟩
      cases ha : AA r with
      | none => have := h5 ha; omega
      | some ad =>
        refine ⟨ad, rfl, fun j p hj => ⟨[.int k p], rfl, rfl, fun i u hu => ?_⟩⟩
        have hj1 := (List.getElem?_eq_some_iff.1 hj).1
        have hjl : j < L r := by omega
        cases i with
        | succ i => simp at hu
        | zero =>
          simp at hu
          subst hu
          have := (h6 ad ha).2 j (by omega)
          rw [List.getD_eq_getElem?_getD, ← List.getElem?_take_of_lt hjl, hj] at this
          have e1 : j * (Kd.int k).sz + 0 = j := by show j * 1 + 0 = j; omega
          rw [e1]
          exact this
    refine ⟨some x, cap, (List.range len).map (fun r => (Z r).take (L r)), by simp, ⟨by simpa using hl, ⟨by simp, ?_, fun hp => ⟨x, rfl, fun j p hj => ?_⟩⟩, by simp; omega, ?_, ?_⟩⟩
    · simp; unfold maxLen at hm; omega
    · simp only [List.getElem?_map, Option.map_eq_some_iff] at hj
      obtain ⟨r, hr1, rfl⟩ := hj
      obtain ⟨hr2, hr3⟩ := List.getElem?_eq_some_iff.1 hr1
      simp at hr2 hr3
      subst hr3
      obtain ⟨hi, hL⟩ := each j (by omega)
      refine ⟨[.slice (AA j) ((Z j).take (L j)).length (C j)], rfl, ⟨AA j, C j, rfl, hi.le, hi.c⟩, fun i u hu => ?_⟩
      cases i with
      | succ i => simp at hu
      | zero =>
        simp only [List.getElem?_cons_zero, Option.some.injEq] at hu
        subst hu
        have e1 : j * (Kd.slice q (Kd.int k)).sz + 0 = j := by show j * 1 + 0 = j; omega
        rw [e1, ← hL]
        exact (hr j (by omega)).1
    · intro r hr1
      obtain ⟨j, hj, rfl⟩ := List.mem_map.1 hr1
      rw [List.mem_range] at hj
      exact (each j (by omega)).1.m
    · intro r hr1
      obtain ⟨j, hj, rfl⟩ := List.mem_map.1 hr1
      rw [List.mem_range] at hj
      exact (each j (by omega)).1.wf
end Go.Proofs.YtjahclncpgllmaaW.RowKit
end

section
namespace Go.Proofs.Ytjahclncpgllmaa.F
open Go.RowKit Go.Proofs.YtjahclncpgllmaaW.PrintWords Go.Proofs.YtjahclncpgllmaaW.PrintLast Go.Proofs.YtjahclncpgllmaaW.PrintMore Go.Proofs.YtjahclncpgllmaaW.RowKit
set_option linter.unusedVariables false
def laws_FnExactPromoteLinear.Pure : Prop := ∀ (l0 : List Int) (l1 : List Int) (a2 : Int), l0.length ≤ maxLen → (∀ n ∈ l0, (Lit.int .i64 n).wf = true) → l1.length ≤ maxLen → (∀ n ∈ l1, (Lit.int .i64 n).wf = true) → (Lit.int .i64 a2).wf = true → ∃ k, laws_FnExactPromoteLinear.f k l0 l1 a2 = some true
theorem laws_FnExactPromoteLinear.walk (P : laws_FnExactPromoteLinear.Pure) (A0 : Option Addr) (c0 : Nat) (l0 : List Int) (A1 : Option Addr) (c1 : Nat) (l1 : List Int) (a2 : Int) (w : World) (i0 : PxInts w .i64 A0 c0 l0) (i1 : PxInts w .i64 A1 c1 l1) (w2 : (Lit.int .i64 a2).wf = true) :
    Calls Try.prog 10 #[.agg #[.slice A0 l0.length c0], .slice A1 l1.length c1, .int .i64 a2] w fun e w' => e = .returned (.bool true) ∧ Below w.heap.size w w' := by
  obtain ⟨k, h⟩ := P l0 l1 a2 i0.m i0.wf i1.m i1.wf w2
  refine (laws_FnExactPromoteLinear.calls k _ _ l0 _ _ l1 a2 true w i0.c i0.le i1.c i1.le h).mono ?_
  rintro e w' ⟨rfl, hd⟩
  exact ⟨rfl, hd⟩
end Go.Proofs.Ytjahclncpgllmaa.F
end

section
namespace Go.Proofs.Ytjahclncpgllmaa.Q
open Go.RowKit Go.Proofs.YtjahclncpgllmaaW.PrintWords Go.Proofs.Ytjahclncpgllmaa.F
set_option linter.unusedVariables false
theorem prom_l1 {p : List Int} (hp : PO p) (n : Nat) (hn : n ≤ 1000) : ∀ i, i ≤ n → ∀ v, ordB p v = true → Ev (fun k => impl_PromoteLinear.l1 k (n : Int) (i : Int) p (v.getD 0 0) (v.getD 1 0) (v.getD 2 0) (v.getD 3 0) (v.getD 4 0) (v.getD 5 0) (v.getD 6 0) (v.getD 7 0) (v.getD 8 0) (v.getD 9 0)) (itL (unL p) v (n - i), true) := by
  have h1 := hp.pos
  have h2 := hp.small
  refine downTo _ ?_ ?_
  · intro v hv
    rw [Nat.sub_self]
    show Ev _ (v, true)
    exact Ev.step (by intro k; simp only [impl_PromoteLinear.l1]; rfl) (Ev.no (by omega) (Ev.call (show impl_Poset_n.f p = some (p.length : Int) from rfl) (Ev.call (list10_eq (ordB_len hv) h2) (Ev.now (v, true)))))
  · intro i hi ih v hv
    refine Ev.step (by intro k; simp only [impl_PromoteLinear.l1]; rfl) (Ev.yes (by omega) (Ev.bind (un10_ev hp hv) ?_))
    rw [wid1 hi (by omega)]
    have := ih _ (unL_ok hp hv)
    rw [show n - i = (n - (i + 1)) + 1 by omega]
    exact this
theorem prom_l0 {p : List Int} (hp : PO p) (t : Int) (n : Nat) (hn : n ≤ 1000) (ht0 : -1000 ≤ t) (ht : t ≤ 1000) : ∀ i, i ≤ n → ∀ v, ordB p v = true → Ev (fun k => impl_PromoteLinear.l0 k t (n : Int) (i : Int) p (v.getD 0 0) (v.getD 1 0) (v.getD 2 0) (v.getD 3 0) (v.getD 4 0) (v.getD 5 0) (v.getD 6 0) (v.getD 7 0) (v.getD 8 0) (v.getD 9 0)) (itL (unL p) (itL (proL p) v (n - i)) (-t).toNat, true) := by
  have h1 := hp.pos
  have h2 := hp.small
  refine downTo _ ?_ ?_
  · intro v hv
    rw [Nat.sub_self]
    refine Ev.step (by intro k; simp only [impl_PromoteLinear.l0]; rfl) (Ev.no (by omega) ?_)
    have e : mx (wrap64 (-t)) 0 = ((-t).toNat : Int) := by
      rw [wid (by omega) (by omega)]; unfold mx; split <;> omega
    rw [e]
    have := prom_l1 hp (-t).toNat (by omega) 0 (by omega) v hv
    rw [Nat.sub_zero] at this
    exact this
  · intro i hi ih v hv
    refine Ev.step (by intro k; simp only [impl_PromoteLinear.l0]; rfl) (Ev.yes (by omega) (Ev.bind (pro10_ev hp hv) ?_))
    rw [wid1 hi (by omega)]
    have := ih _ (proL_ok hp hv)
    rw [show n - i = (n - (i + 1)) + 1 by omega]
    exact this
theorem PromoteLinear_same (p : List Int) (hp : p.length ≤ 1048576) (_ : ∀ n ∈ p, (Lit.int .i64 n).wf = true) (w : List Int) (hw : w.length ≤ 1048576) (_ : ∀ n ∈ w, (Lit.int .i64 n).wf = true) (t : Int) (_ : (Lit.int .i64 t).wf = true) :
    ∃ r, Ev (fun k => spec_PromoteLinear.f k p w t) r ∧ Ev (fun k => impl_PromoteLinear.f k p w t) r ∧ r.1.length ≤ 1048576 := by
  unfold spec_PromoteLinear.f impl_PromoteLinear.f
  have stop : Ev (fun k => impl_PromoteLinear.j0 k w t true p) ([], false) := Ev.step (by intro k; simp only [impl_PromoteLinear.j0]; rfl) (Ev.yes (show true = true from rfl) (Ev.now _))
  cases h : linB p w with
  | false =>
    refine ⟨([], false), Ev.bind (liGiven_ev p w) ?_, Ev.bind (isLinear_ev p w (by omega)) ?_, Nat.zero_le _⟩
    · rw [h]; exact Ev.no (by simp) (Ev.now _)
    · rw [h]; exact Ev.no (by simp) stop
  | true =>
    have H := linB_lin h
    have h1 := H.pos
    have h2 := H.small
    have h3 := H.len
    by_cases hi : -100 ≤ t ∧ t ≤ 100
    rotate_left
    · refine ⟨([], false), Ev.bind (liGiven_ev p w) ?_, Ev.bind (isLinear_ev p w (by omega)) ?_, Nat.zero_le _⟩
      · rw [h]
        exact Ev.yes rfl (Ev.call (l1In_eq _ _ _) (Ev.no (by rw [range_false hi]; simp) (Ev.now _)))
      · rw [h]
        refine Ev.yes rfl (Ev.call (within_eq _ _ _) ?_)
        rw [range_false hi]
        exact stop
    · have hl := ordB_len (promL_ok H.po H.ord t)
      refine ⟨(promL p w t, true), Ev.bind (liGiven_ev p w) ?_, Ev.bind (isLinear_ev p w (by omega)) ?_, by show (promL p w t).length ≤ _; omega⟩
      · rw [h]
        exact Ev.yes rfl (Ev.call (l1In_eq _ _ _) (Ev.yes (range_true hi) (Ev.bind (liPromote_ev H.po H.ord t (by omega) (by omega)) (Ev.now _))))
      · rw [h]
        refine Ev.yes rfl (Ev.call (within_eq _ _ _) ?_)
        rw [range_true hi]
        show Ev (fun k => impl_PromoteLinear.j0 k w t false p) _
        refine Ev.step (by intro k; simp only [impl_PromoteLinear.j0]; rfl) (Ev.no (by simp) ?_)
        refine Ev.call (lineOf_eq (by omega)) ?_
        have e : mx t 0 = (t.toNat : Int) := by unfold mx; split <;> omega
        rw [e]
        refine evc (prom_l0 H.po t t.toNat (by omega) (by omega) (by omega) 0 (by omega) w H.ord) ?_
        rw [Nat.sub_zero]
        unfold promL
        split
        · rw [show (-t).toNat = 0 by omega]; rfl
        · rw [show t.toNat = 0 by omega]; rfl
theorem FnExactPromoteLinear : laws_FnExactPromoteLinear.Pure := by
  intro p w t hm_p hw_p hm_w hw_w hw_t
  refine Ev.rounds (g := fun k => laws_FnExactPromoteLinear.f k p w t) ?_
  unfold laws_FnExactPromoteLinear.f
  refine Ev.ite (fun _ => Ev.ret rfl) (fun hb_w => ?_)
  have hl_w : w.length ≤ 1048576 := by omega
  refine Ev.call (szPoset_eq p (1048576) (by omega) hm_p) ?_
  refine Ev.ite (fun _ => Ev.ret rfl) (fun hb_p => ?_)
  have hl0_p : p.length ≤ 1048576 := by
    rcases Nat.lt_or_ge (1048576) p.length with h | h
    · rw [if_neg (by omega)] at hb_p; omega
    · exact h
  have hl_p : p.length ≤ 1048576 := by omega
  try rw [if_pos hl0_p]
  obtain ⟨r, hs, hi, hr⟩ := PromoteLinear_same p hl_p hw_p w hl_w hw_w t hw_t
  repeat (first
    | exact Ev.ret rfl
    | (refine Ev.bind hs ?_)
    | (refine Ev.bind hi ?_)
    | (refine Ev.call hs ?_)
    | (refine Ev.call hi ?_)
    | (refine Ev.bind (toPoset_ev p hl_p) ?_)
    | (refine Ev.bind (eqPoset_refl p ?hb) ?_; (case hb => omega))
    | (refine Ev.bind (markPoset_ev1 p ?hb) ?_; (case hb => omega))
    | (refine Ev.bind (toIntS_ev w hl_w) ?_)
    | (refine Ev.bind (eqIntS_refl w ?hb) ?_; (case hb => omega))
    | (refine Ev.bind (markIntS_ev1 w ?hb) ?_; (case hb => omega))
    | (refine Ev.bind (markIntS_ev w _ ?hb) ?_; (case hb => omega))
    | (refine Ev.bind (eqIntS_refl _ ?hb) ?_; (case hb => omega))
    | (refine Ev.bind (markIntS_ev1 _ ?hb) ?_; (case hb => omega))
    | (refine Ev.bind (heldIntS_ev1 _ ?hb) ?_; (case hb => omega))
    | (refine Ev.yes rfl ?_)
    | (refine Ev.no ?hn ?_; (case hn => first | (simp; done) | omega))
    | (refine Ev.step (by intro k; simp only [laws_FnExactPromoteLinear.j0]; rfl) ?_)
    | (refine Ev.step (by intro k; simp only [laws_FnExactPromoteLinear.j1]; rfl) ?_)
    | (refine Ev.step (by intro k; simp only [laws_FnExactPromoteLinear.j2]; rfl) ?_)
    )
end Go.Proofs.Ytjahclncpgllmaa.Q
end
