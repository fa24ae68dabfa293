/- Part 6 of the texts below the row of FnExactLabelsWith: printed functions with their contracts, and plain lemmas. No condition. -/
import Derived.Test.YtemkddgfneohhaaZFnExactLabelsWith5
import Derived.SizedLaws
import Derived.ChangeSlices
import Derived.WalkKit
import Derived.ProofKit
import Derived.OpenShut
import Derived.Lib.SmallJoins
import Derived.Deep.Matrix
section
section
namespace Go.Proofs.YtemkddgfneohhaaW.PrintWords
open Go.ChangeShapes Go.WideShapes
/-- A row's slice of whole numbers is no longer than its weight allows. -/
theorem sized_ints {H : Type} {enc : TypeId × Value → H} {P : Program} {W : World} {base : Nat} {spare : Nat → Bool} {held : Bool} {t e : TypeId} {k : IntKind} {a : Option Addr} {len cap : Nat} {d : DataW H} {ps : List MemPlace} {ts : List TypeId} {ds : List (DataW H)} {j : Nat}
    (hsz : (DataW.weightsEach P ts ds).all (· ≤ reachBytes) = true) (ht : ts[j]? = some t) (hd : ds[j]? = some d) (hu : P.underlying t = some (.slice e)) (he : P.underlying e = some (.int k)) (hc : P.cellsOf e = 1) {B : Nat} (hB : P.bytesOf e = B)
    (h : DataW.Trod enc P W base spare held t (.slice a len cap) d ps) : len * B ≤ 140737488351232 := by
  obtain ⟨fuel, hf⟩ := h
  rcases open_ints hu he hc hf with ⟨hcs, _⟩ | ⟨x, l, c, zs, hcs, _, hl, _, hz, hx, _, _⟩
  · simp [Value.cells] at hcs
    obtain ⟨rfl, rfl, rfl⟩ := hcs
    simp
  · simp [Value.cells] at hcs
    obtain ⟨rfl, rfl, rfl⟩ := hcs
    obtain ⟨hx, _⟩ := Prod.mk.inj hx
    subst hx
    have z := sized_slice hsz ht hd hu
    rw [hB] at z
    have hl2 : len ≤ zs.length := by
      rw [hz]
      split
      · exact hl
      · exact Nat.le_refl _
    have h1 : (lits (H := H) k (zs.take len)).length + (lits (H := H) k (zs.drop len)).length = zs.length := by
      simp [lits]
      omega
    rw [h1] at z
    exact Nat.le_trans (Nat.mul_le_mul_right _ hl2) z
end Go.Proofs.YtemkddgfneohhaaW.PrintWords
end
end

section
namespace Go.Proofs.YtemkddgfneohhaaW.RowKit
open Go.ChangeShapes Go.WideShapes Go.Deep Go.RowKit Go.Proofs.YtemkddgfneohhaaW.PrintWords
variable {H : Type} {enc : TypeId × Value → H} {P : Program} {w : World} {base : Nat} {held : Bool}
/-- What is known of a slice of whole numbers that came in. -/
structure PxInts (w : World) (k : IntKind) (A : Option Addr) (c : Nat) (l : List Int) : Prop where
  le : l.length ≤ c
  c : Kd.C (Kd.int k) w A l.length l
  m : l.length ≤ maxLen
  wf : ∀ n ∈ l, (Lit.int k n).wf = true
theorem ints_of {t e : TypeId} {k : IntKind} {fuel : Nat} {cs : List Value} {x : DataW H × List MemPlace} (ht : P.underlying t = some (.slice e)) (he : P.underlying e = some (.int k)) (hc : P.cellsOf e = 1)
    (h : DataW.trod enc P w base (fun _ => true) held fuel t cs = some x) : ∃ A c l, cs = [.slice A (List.length l) c] ∧ PxInts w k A c l := by
  rcases open_ints ht he hc h with ⟨hcs, _⟩ | ⟨a, len, cap, zs, hcs, _, hl, hm, hz, _, hcell, hwz⟩
  · obtain ⟨l, e1, h1, h2, h3, h4⟩ := ReadsInt.ofRowC (k := k) (w := w) (a := none) (len := 0) (cap := 0) (zs := []) (.inl ⟨rfl, rfl, rfl, rfl⟩)
    exact ⟨none, 0, l, by rw [hcs, ← e1], h4, Kd.C_of_reads (d := (0 : Int)) (h1 := fun _ => rfl) h1, h2, h3⟩
  · obtain ⟨l, e1, h1, h2, h3, h4⟩ := ReadsInt.ofRowC (k := k) (w := w) (a := some a) (len := len) (cap := cap) (zs := zs) (.inr ⟨_, rfl, hl, hm, by simpa using hz, hcell, hwz⟩)
    exact ⟨some a, cap, l, by rw [hcs, ← e1], h4, Kd.C_of_reads (d := (0 : Int)) (h1 := fun _ => rfl) h1, h2, h3⟩
theorem open_sl {r : Reach} {b0 : Nat} {t e : TypeId} {k : IntKind} {v : Value} {d : DataW H} {p : List MemPlace} (ht : P.underlying t = some (.slice e)) (he : P.underlying e = some (.int k)) (hc : P.cellsOf e = 1)
    (hv : Value.okWide P w r b0 t v) (h : DataW.Trod enc P w base (fun _ => true) held t v d p) : ∃ A c l, v = .slice A (List.length l) c ∧ PxInts w k A c l := by
  obtain ⟨a, len, cap, rfl⟩ := okWide_slice ht hv
  obtain ⟨fuel, hf⟩ := h
  obtain ⟨A, c, l, hcs, hi⟩ := ints_of ht he hc hf
  simp [Value.cells] at hcs
  obtain ⟨rfl, rfl, rfl⟩ := hcs
  exact ⟨_, _, l, rfl, hi⟩
theorem open_st {r : Reach} {b0 : Nat} {t q e : TypeId} {k : IntKind} {f0 : Field} {v : Value} {d : DataW H} {p : List MemPlace} (hs : P.underlying t = some (.struct #[f0])) (hone : oneCellFields P #[f0] = true) (hC : P.cellsOf t = 1)
    (hq : f0.type = q) (ht : P.underlying q = some (.slice e)) (he : P.underlying e = some (.int k)) (hc : P.cellsOf e = 1)
    (hv : Value.okWide P w r b0 t v) (h : DataW.Trod enc P w base (fun _ => true) held t v d p) : ∃ A c l, v = .agg #[.slice A (List.length l) c] ∧ PxInts w k A c l := by
  subst hq
  obtain ⟨cs, rfl, hsz⟩ := okWide_struct hs hv
  obtain ⟨c0, rfl⟩ : ∃ c0, cs = #[c0] := by
    obtain ⟨l⟩ := cs
    match l, hsz.trans hC with
    | [c0], _ => exact ⟨c0, rfl⟩
  obtain ⟨fuel, hf⟩ := h
  obtain ⟨y0, n, _, _, h0⟩ := trod_struct1 hs hf
  obtain ⟨o0, k0⟩ := Go.Deep.hone_of hone 0 f0 rfl
  obtain ⟨A, c, l, hcs, hi⟩ := ints_of ht he hc (by simpa [Value.cells, o0, k0] using h0 : DataW.trod enc P w base (fun _ => true) held n f0.type [c0] = some y0)
  simp at hcs
  subst hcs
  exact ⟨A, c, l, rfl, hi⟩
/-- What is known of a slice of slices of whole numbers that came in. -/
structure PxRows (w : World) (k : IntKind) (q : TypeId) (A : Option Addr) (c : Nat) (l : List (List Int)) : Prop where
  le : l.length ≤ c
  c : Kd.C (Kd.slice q (Kd.int k)) w A l.length l
  m : l.length ≤ maxLen
  m2 : ∀ r ∈ l, r.length ≤ maxLen
  wf : ∀ r ∈ l, ∀ n ∈ r, (Lit.int k n).wf = true
theorem open_ss {r : Reach} {b0 : Nat} {t e q : TypeId} {k : IntKind} {v : Value} {d : DataW H} {p : List MemPlace} (ht : P.underlying t = some (.slice e)) (he : P.underlying e = some (.slice q)) (hq : P.underlying q = some (.int k))
    (ce : P.cellsOf e = 1) (cq : P.cellsOf q = 1)
    (hv : Value.okWide P w r b0 t v) (h : DataW.Trod enc P w base (fun _ => true) held t v d p) : ∃ A c l, v = .slice A (List.length l) c ∧ PxRows w k q A c l := by
  obtain ⟨a, len, cap, rfl⟩ := okWide_slice ht hv
  obtain ⟨fuel, hf⟩ := h
  rcases Go.Deep.open_int_rows ht he hq ce cq hf with ⟨hcs, _⟩ | ⟨x, len', cap', AA, L, C, Z, hcs, _, hl, hm, _, hr⟩
  · simp [Value.cells] at hcs
    obtain ⟨rfl, rfl, rfl⟩ := hcs
    exact ⟨none, 0, [], rfl, Nat.le_refl _, ⟨rfl, Nat.zero_le _, fun h => absurd h (Nat.lt_irrefl _)⟩, Nat.zero_le _, (fun _ h => by cases h), (fun _ h => by cases h)⟩
  · simp [Value.cells] at hcs
    obtain ⟨rfl, rfl, rfl⟩ := hcs
    have each : ∀ r, r < cap → PxInts w k (AA r) (C r) ((Z r).take (L r)) ∧ L r = ((Z r).take (L r)).length := by
      intro r hrc
      obtain ⟨_, h1, h2, h3, h4, h5, h6⟩ := hr r hrc
      have hz : ((Z r).take (L r)).length = L r := by rw [List.length_take]; omega
      refine ⟨⟨by omega, ⟨by rfl, by unfold maxLen at h2; omega, fun hp => ?_⟩, by omega, fun n hn => h4 n (List.mem_of_mem_take hn)⟩, hz.symm⟩
      cases ha : AA r with
      | none => have := h5 ha; omega
      | some ad =>
        refine ⟨ad, rfl, fun j p hj => ⟨[.int k p], rfl, rfl, fun i u hu => ?_⟩⟩
        have hj1 := (List.getElem?_eq_some_iff.1 hj).1
        have hjl : j < L r := by omega
        cases i with
        | succ i => simp at hu
        | zero =>
          simp at hu
          subst hu
          have := (h6 ad ha).2 j (by omega)
          rw [List.getD_eq_getElem?_getD, ← List.getElem?_take_of_lt hjl, hj] at this
          have e1 : j * (Kd.int k).sz + 0 = j := by show j * 1 + 0 = j; omega
          rw [e1]
          exact this
    refine ⟨some x, cap, (List.range len).map (fun r => (Z r).take (L r)), by simp, ⟨by simpa using hl, ⟨by simp, ?_, fun hp => ⟨x, rfl, fun j p hj => ?_⟩⟩, by simp; omega, ?_, ?_⟩⟩
    · simp; unfold maxLen at hm; omega
    · simp only [List.getElem?_map, Option.map_eq_some_iff] at hj
      obtain ⟨r, hr1, rfl⟩ := hj
      obtain ⟨hr2, hr3⟩ := List.getElem?_eq_some_iff.1 hr1
      simp at hr2 hr3
      subst hr3
      obtain ⟨hi, hL⟩ := each j (by omega)
      refine ⟨[.slice (AA j) ((Z j).take (L j)).length (C j)], rfl, ⟨AA j, C j, rfl, hi.le, hi.c⟩, fun i u hu => ?_⟩
      cases i with
      | succ i => simp at hu
      | zero =>
        simp only [List.getElem?_cons_zero, Option.some.injEq] at hu
        subst hu
        have e1 : j * (Kd.slice q (Kd.int k)).sz + 0 = j := by show j * 1 + 0 = j; omega
        rw [e1, ← hL]
        exact (hr j (by omega)).1
    · intro r hr1
      obtain ⟨j, hj, rfl⟩ := List.mem_map.1 hr1
      rw [List.mem_range] at hj
      exact (each j (by omega)).1.m
    · intro r hr1
      obtain ⟨j, hj, rfl⟩ := List.mem_map.1 hr1
      rw [List.mem_range] at hj
      exact (each j (by omega)).1.wf
end Go.Proofs.YtemkddgfneohhaaW.RowKit
end

section
namespace Go.Proofs.Ytemkddgfneohhaa.F
open Go.RowKit Go.Proofs.YtemkddgfneohhaaW.PrintWords Go.Proofs.YtemkddgfneohhaaW.PrintLast Go.Proofs.YtemkddgfneohhaaW.PrintMore Go.Proofs.YtemkddgfneohhaaW.RowKit
set_option linter.unusedVariables false
def laws_FnExactLabelsWith.Pure : Prop := ∀ (l0 : List Int) (a1 : Int) (a2 : Int), l0.length ≤ maxLen → (∀ n ∈ l0, (Lit.int .i64 n).wf = true) → (Lit.int .i64 a1).wf = true → (Lit.int .i64 a2).wf = true → ∃ k, laws_FnExactLabelsWith.f k l0 a1 a2 = some true
theorem laws_FnExactLabelsWith.walk (P : laws_FnExactLabelsWith.Pure) (A0 : Option Addr) (c0 : Nat) (l0 : List Int) (a1 : Int) (a2 : Int) (w : World) (i0 : PxInts w .i64 A0 c0 l0) (w1 : (Lit.int .i64 a1).wf = true) (w2 : (Lit.int .i64 a2).wf = true) :
    Calls Try.prog 9 #[.agg #[.slice A0 l0.length c0], .int .i64 a1, .int .i64 a2] w fun e w' => e = .returned (.bool true) ∧ Below w.heap.size w w' := by
  obtain ⟨k, h⟩ := P l0 a1 a2 i0.m i0.wf w1 w2
  refine (laws_FnExactLabelsWith.calls k _ _ l0 a1 a2 true w i0.c i0.le h).mono ?_
  rintro e w' ⟨rfl, hd⟩
  exact ⟨rfl, hd⟩
end Go.Proofs.Ytemkddgfneohhaa.F
end

section
namespace Go.Proofs.Ytemkddgfneohhaa.Q
open Go.RowKit Go.Proofs.YtemkddgfneohhaaW.PrintWords Go.Proofs.Ytemkddgfneohhaa.F
set_option linter.unusedVariables false
theorem LabelsWith_same (p : List Int) (hp : p.length ≤ 1048576) (_ : ∀ n ∈ p, (Lit.int .i64 n).wf = true) (m : Int) (_ : (Lit.int .i64 m).wf = true) (a : Int) (_ : (Lit.int .i64 a).wf = true) :
    ∃ r, Ev (fun k => spec_LabelsWith.f k p m a) r ∧ Ev (fun k => impl_LabelsWith.f k p m a) r ∧ r.1.length ≤ 1000 := by
  unfold spec_LabelsWith.f impl_LabelsWith.f
  have stop : ∀ m, Ev (fun k => impl_LabelsWith.j0 k m a true p) ([], false) := fun m => Ev.step (by intro k; simp only [impl_LabelsWith.j0]; rfl) (Ev.yes (show true = true from rfl) (Ev.now _))
  cases hpo : isPo p with
  | false =>
    refine ⟨([], false), Ev.bind (a := false) ?_ (Ev.no (by simp) (Ev.now _)), Ev.bind (IsPoset_ev p) ?_, Nat.zero_le _⟩
    · unfold spec_laFew.f
      refine Ev.bind (poGood_ev p) ?_
      rw [hpo]; exact Ev.no (by simp) (Ev.now _)
    · rw [hpo]; exact Ev.no (by simp) (stop m)
  | true =>
    have hP := (isPo_iff p).1 hpo
    have hn := hP.small
    by_cases hm : 0 ≤ m ∧ m ≤ 12
    rotate_left
    · refine ⟨([], false), Ev.bind (a := false) ?_ (Ev.no (by simp) (Ev.now _)), Ev.bind (IsPoset_ev p) ?_, Nat.zero_le _⟩
      · unfold spec_laFew.f
        refine Ev.bind (poGood_ev p) ?_
        rw [hpo]; refine Ev.yes rfl ?_
        rw [laBound_eq, range_false hm]
        exact Ev.call rfl (Ev.no (by simp) (Ev.now _))
      · rw [hpo]; refine Ev.yes rfl ?_
        rw [isBound_eq, range_false hm]
        exact Ev.call rfl (Ev.no (by simp) (stop m))
    obtain ⟨q, rfl⟩ := Int.eq_ofNat_of_zero_le hm.1
    have hcount := labs_count hP q
    have hfew : Ev (fun k => spec_laFew.f k p (q : Int)) (decide (((wvN (stB p false) (idealsN p) (q + 1) (allN p) : Nat) : Int) ≤ 1000)) := by
      unfold spec_laFew.f
      refine Ev.bind (poGood_ev p) ?_
      rw [hpo]; refine Ev.yes rfl ?_
      rw [laBound_eq, range_true hm]
      refine Ev.call rfl (Ev.yes rfl ?_)
      rw [show wrap64 ((q : Int) + 1) = ((q + 1 : Nat) : Int) by rw [wid (by omega) (by omega)]; omega]
      exact Ev.bind (laChains_ev hP false (by omega)) (Ev.now _)
    have himpl : ∀ r, Ev (fun k => impl_LabelsWith.j0 k (q : Int) a (decide (((wvN (stB p false) (idealsN p) (q + 1) (allN p) : Nat) : Int) > 1000)) p) r → Ev (fun k => (impl_IsPoset.f k p).bind fun t347 => (if t347 = true then ((impl_isBound.f (q : Int)).bind fun t348 => (if t348 = true then ((impl_Poset_count.f k p (q : Int)).bind fun t349 => (impl_LabelsWith.j0 k (q : Int) a (decide (t349 > 1000)) p)) else (impl_LabelsWith.j0 k (q : Int) a true p))) else (impl_LabelsWith.j0 k (q : Int) a true p))) r := fun r h => by
      refine Ev.bind (IsPoset_ev p) ?_
      rw [hpo]; refine Ev.yes rfl ?_
      rw [isBound_eq, range_true hm]
      exact Ev.call rfl (Ev.yes rfl (Ev.bind (count_ev hP (by omega)) h))
    by_cases hbig : ((wvN (stB p false) (idealsN p) (q + 1) (allN p) : Nat) : Int) ≤ 1000
    rotate_left
    · refine ⟨([], false), Ev.bind hfew ?_, himpl _ ?_, Nat.zero_le _⟩
      · rw [decide_eq_false hbig]; exact Ev.no (by simp) (Ev.now _)
      · rw [decide_eq_true (by omega)]; exact stop _
    have hlen : (labsN p q).length ≤ 1000 := by rw [hcount]; omega
    have hpos : 0 < (labsN p q).length := laN_ne hP q p.length [] (by simp) (fun i hi => by cases hi)
    have hw : wrap64 ((((labsN p q).map ints).length : Int) - 1) = ((labsN p q).length : Int) - 1 := by rw [List.length_map, wid (by omega) (by omega)]
    by_cases ha : 0 ≤ a ∧ a ≤ ((labsN p q).length : Int) - 1
    rotate_left
    · refine ⟨([], false), Ev.bind hfew ?_, himpl _ ?_, Nat.zero_le _⟩
      · rw [decide_eq_true hbig]
        refine Ev.yes rfl (Ev.bind (labs_ev hP (by omega) (most := 1000) (by omega) hlen) ?_)
        rw [hw, l1In_eq, range_false ha]
        exact Ev.call rfl (Ev.no (by simp) (Ev.now _))
      · rw [decide_eq_false (by omega)]
        refine Ev.step (by intro k; simp only [impl_LabelsWith.j0]; rfl) (Ev.no (by simp) (Ev.bind (labels_ev hP (by omega) (by omega)) ?_))
        rw [hw, within_eq, range_false ha]
        exact Ev.call rfl (Ev.no (by simp) (Ev.now _))
    obtain ⟨i, rfl⟩ := Int.eq_ofNat_of_zero_le ha.1
    have hi : i < (labsN p q).length := by omega
    have hrow : rd_L1 ((labsN p q).map ints) (i : Int) = ints (labsN p q)[i] := by
      unfold rd_L1
      rw [Int.toNat_natCast, List.getD_eq_getElem?_getD, List.getElem?_map, List.getElem?_eq_getElem hi]; rfl
    refine ⟨(ints (labsN p q)[i], true), Ev.bind hfew ?_, himpl _ ?_, ?_⟩
    · rw [decide_eq_true hbig]
      refine Ev.yes rfl (Ev.bind (labs_ev hP (by omega) (most := 1000) (by omega) hlen) ?_)
      rw [hw, l1In_eq, range_true ha, hrow]
      exact Ev.call rfl (Ev.yes rfl (Ev.yes (by omega) (Ev.yes (by rw [List.length_map]; omega) (Ev.now _))))
    · rw [decide_eq_false (by omega)]
      refine Ev.step (by intro k; simp only [impl_LabelsWith.j0]; rfl) (Ev.no (by simp) (Ev.bind (labels_ev hP (by omega) (by omega)) ?_))
      rw [hw, within_eq, range_true ha, hrow]
      exact Ev.call rfl (Ev.yes rfl (Ev.yes (by omega) (Ev.yes (by rw [List.length_map]; omega) (Ev.now _))))
    · show (ints (labsN p q)[i]).length ≤ 1000
      rw [ints_len, ((mem_labsN hP q _).1 (List.getElem_mem hi)).len]; omega
theorem FnExactLabelsWith : laws_FnExactLabelsWith.Pure := by
  intro p m a hm_p hw_p hw_m hw_a
  refine Ev.rounds (g := fun k => laws_FnExactLabelsWith.f k p m a) ?_
  unfold laws_FnExactLabelsWith.f
  refine Ev.call (szPoset_eq p (1048576) (by omega) hm_p) ?_
  refine Ev.ite (fun _ => Ev.ret rfl) (fun hb_p => ?_)
  have hl0_p : p.length ≤ 1048576 := by
    rcases Nat.lt_or_ge (1048576) p.length with h | h
    · rw [if_neg (by omega)] at hb_p; omega
    · exact h
  have hl_p : p.length ≤ 1048576 := by omega
  try rw [if_pos hl0_p]
  obtain ⟨r, hs, hi, hr⟩ := LabelsWith_same p hl_p hw_p m hw_m a hw_a
  repeat (first
    | exact Ev.ret rfl
    | (refine Ev.bind hs ?_)
    | (refine Ev.bind hi ?_)
    | (refine Ev.call hs ?_)
    | (refine Ev.call hi ?_)
    | (refine Ev.bind (toPoset_ev p hl_p) ?_)
    | (refine Ev.bind (eqPoset_refl p ?hb) ?_; (case hb => omega))
    | (refine Ev.bind (markPoset_ev1 p ?hb) ?_; (case hb => omega))
    | (refine Ev.bind (eqIntS_refl _ ?hb) ?_; (case hb => omega))
    | (refine Ev.bind (markIntS_ev1 _ ?hb) ?_; (case hb => omega))
    | (refine Ev.bind (heldIntS_ev1 _ ?hb) ?_; (case hb => omega))
    | (refine Ev.yes rfl ?_)
    | (refine Ev.no ?hn ?_; (case hn => first | (simp; done) | omega))
    | (refine Ev.step (by intro k; simp only [laws_FnExactLabelsWith.j0]; rfl) ?_)
    | (refine Ev.step (by intro k; simp only [laws_FnExactLabelsWith.j1]; rfl) ?_)
    | (refine Ev.step (by intro k; simp only [laws_FnExactLabelsWith.j2]; rfl) ?_)
    )
end Go.Proofs.Ytemkddgfneohhaa.Q
end
