/- Part 6 of the texts below the row of FnExactSelfEvacuated: printed functions with their contracts, and plain lemmas. No condition. -/
import Derived.Test.YtjahclncpgllmaaZFnExactSelfEvacuated5
import Derived.SizedLaws
import Derived.ChangeSlices
import Derived.WalkKit
import Derived.ProofKit
import Derived.OpenShut
import Derived.Lib.SmallJoins
import Derived.Deep.Matrix
section
section
namespace Go.Proofs.YtjahclncpgllmaaW.PrintWords
open Go.ChangeShapes Go.WideShapes
/-- A row's slice of whole numbers is no longer than its weight allows. -/
theorem sized_ints {H : Type} {enc : TypeId × Value → H} {P : Program} {W : World} {base : Nat} {spare : Nat → Bool} {held : Bool} {t e : TypeId} {k : IntKind} {a : Option Addr} {len cap : Nat} {d : DataW H} {ps : List MemPlace} {ts : List TypeId} {ds : List (DataW H)} {j : Nat}
    (hsz : (DataW.weightsEach P ts ds).all (· ≤ reachBytes) = true) (ht : ts[j]? = some t) (hd : ds[j]? = some d) (hu : P.underlying t = some (.slice e)) (he : P.underlying e = some (.int k)) (hc : P.cellsOf e = 1) {B : Nat} (hB : P.bytesOf e = B)
    (h : DataW.Trod enc P W base spare held t (.slice a len cap) d ps) : len * B ≤ 140737488351232 := by
  obtain ⟨fuel, hf⟩ := h
  rcases open_ints hu he hc hf with ⟨hcs, _⟩ | ⟨x, l, c, zs, hcs, _, hl, _, hz, hx, _, _⟩
  · simp [Value.cells] at hcs
    obtain ⟨rfl, rfl, rfl⟩ := hcs
    simp
  · simp [Value.cells] at hcs
    obtain ⟨rfl, rfl, rfl⟩ := hcs
    obtain ⟨hx, _⟩ := Prod.mk.inj hx
    subst hx
    have z := sized_slice hsz ht hd hu
    rw [hB] at z
    have hl2 : len ≤ zs.length := by
      rw [hz]
      split
      · exact hl
      · exact Nat.le_refl _
    have h1 : (lits (H := H) k (zs.take len)).length + (lits (H := H) k (zs.drop len)).length = zs.length := by
      simp [lits]
      omega
    rw [h1] at z
    exact Nat.le_trans (Nat.mul_le_mul_right _ hl2) z
end Go.Proofs.YtjahclncpgllmaaW.PrintWords
end
end

section
namespace Go.Proofs.YtjahclncpgllmaaW.RowKit
open Go.ChangeShapes Go.WideShapes Go.Deep Go.RowKit Go.Proofs.YtjahclncpgllmaaW.PrintWords
variable {H : Type} {enc : TypeId × Value → H} {P : Program} {w : World} {base : Nat} {held : Bool}
/-- What is known of a slice of whole numbers that came in. -/
structure PxInts (w : World) (k : IntKind) (A : Option Addr) (c : Nat) (l : List Int) : Prop where
  le : l.length ≤ c
  c : Kd.C (Kd.int k) w A l.length l
  m : l.length ≤ maxLen
  wf : ∀ n ∈ l, (Lit.int k n).wf = true
theorem ints_of {t e : TypeId} {k : IntKind} {fuel : Nat} {cs : List Value} {x : DataW H × List MemPlace} (ht : P.underlying t = some (.slice e)) (he : P.underlying e = some (.int k)) (hc : P.cellsOf e = 1)
    (h : DataW.trod enc P w base (fun _ => true) held fuel t cs = some x) : ∃ A c l, cs = [.slice A (List.length l) c] ∧ PxInts w k A c l := by
  rcases open_ints ht he hc h with ⟨hcs, _⟩ | ⟨a, len, cap, zs, hcs, _, hl, hm, hz, _, hcell, hwz⟩
  · obtain ⟨l, e1, h1, h2, h3, h4⟩ := ReadsInt.ofRowC (k := k) (w := w) (a := none) (len := 0) (cap := 0) (zs := []) (.inl ⟨rfl, rfl, rfl, rfl⟩)
    exact ⟨none, 0, l, by rw [hcs, ← e1], h4, Kd.C_of_reads (d := (0 : Int)) (h1 := fun _ => rfl) h1, h2, h3⟩
  · obtain ⟨l, e1, h1, h2, h3, h4⟩ := ReadsInt.ofRowC (k := k) (w := w) (a := some a) (len := len) (cap := cap) (zs := zs) (.inr ⟨_, rfl, hl, hm, by simpa using hz, hcell, hwz⟩)
    exact ⟨some a, cap, l, by rw [hcs, ← e1], h4, Kd.C_of_reads (d := (0 : Int)) (h1 := fun _ => rfl) h1, h2, h3⟩
theorem open_sl {r : Reach} {b0 : Nat} {t e : TypeId} {k : IntKind} {v : Value} {d : DataW H} {p : List MemPlace} (ht : P.underlying t = some (.slice e)) (he : P.underlying e = some (.int k)) (hc : P.cellsOf e = 1)
    (hv : Value.okWide P w r b0 t v) (h : DataW.Trod enc P w base (fun _ => true) held t v d p) : ∃ A c l, v = .slice A (List.length l) c ∧ PxInts w k A c l := by
  obtain ⟨a, len, cap, rfl⟩ := okWide_slice ht hv
  obtain ⟨fuel, hf⟩ := h
  obtain ⟨A, c, l, hcs, hi⟩ := ints_of ht he hc hf
  simp [Value.cells] at hcs
  obtain ⟨rfl, rfl, rfl⟩ := hcs
  exact ⟨_, _, l, rfl, hi⟩
theorem open_st {r : Reach} {b0 : Nat} {t q e : TypeId} {k : IntKind} {f0 : Field} {v : Value} {d : DataW H} {p : List MemPlace} (hs : P.underlying t = some (.struct #[f0])) (hone : oneCellFields P #[f0] = true) (hC : P.cellsOf t = 1)
    (hq : f0.type = q) (ht : P.underlying q = some (.slice e)) (he : P.underlying e = some (.int k)) (hc : P.cellsOf e = 1)
    (hv : Value.okWide P w r b0 t v) (h : DataW.Trod enc P w base (fun _ => true) held t v d p) : ∃ A c l, v = .agg #[.slice A (List.length l) c] ∧ PxInts w k A c l := by
  subst hq
  obtain ⟨cs, rfl, hsz⟩ := okWide_struct hs hv
  obtain ⟨c0, rfl⟩ : ∃ c0, cs = #[c0] := by
    obtain ⟨l⟩ := cs
    match l, hsz.trans hC with
    | [c0], _ => exact ⟨c0, rfl⟩
  obtain ⟨fuel, hf⟩ := h
  obtain ⟨y0, n, _, _, h0⟩ := trod_struct1 hs hf
  obtain ⟨o0, k0⟩ := Go.Deep.hone_of hone 0 f0 rfl
  obtain ⟨A, c, l, hcs, hi⟩ := ints_of ht he hc (by simpa [Value.cells, o0, k0] using h0 : DataW.trod enc P w base (fun _ => true) held n f0.type [c0] = some y0)
  simp at hcs
  subst hcs
  exact ⟨A, c, l, rfl, hi⟩
/-- What is known of a slice of slices of whole numbers that came in. -/
structure PxRows (w : World) (k : IntKind) (q : TypeId) (A : Option Addr) (c : Nat) (l : List (List Int)) : Prop where
  le : l.length ≤ c
  c : Kd.C (Kd.slice q (Kd.int k)) w A l.length l
  m : l.length ≤ maxLen
  m2 : ∀ r ∈ l, r.length ≤ maxLen
  wf : ∀ r ∈ l, ∀ n ∈ r, (Lit.int k n).wf = true
theorem open_ss {r : Reach} {b0 : Nat} {t e q : TypeId} {k : IntKind} {v : Value} {d : DataW H} {p : List MemPlace} (ht : P.underlying t = some (.slice e)) (he : P.underlying e = some (.slice q)) (hq : P.underlying q = some (.int k))
    (ce : P.cellsOf e = 1) (cq : P.cellsOf q = 1)
    (hv : Value.okWide P w r b0 t v) (h : DataW.Trod enc P w base (fun _ => true) held t v d p) : ∃ A c l, v = .slice A (List.length l) c ∧ PxRows w k q A c l := by
  obtain ⟨a, len, cap, rfl⟩ := okWide_slice ht hv
  obtain ⟨fuel, hf⟩ := h
  rcases Go.Deep.open_int_rows ht he hq ce cq hf with ⟨hcs, _⟩ | ⟨x, len', cap', AA, L, C, Z, hcs, _, hl, hm, _, hr⟩
  · simp [Value.cells] at hcs
    obtain ⟨rfl, rfl, rfl⟩ := hcs
    exact ⟨none, 0, [], rfl, Nat.le_refl _, ⟨rfl, Nat.zero_le _, fun h => absurd h (Nat.lt_irrefl _)⟩, Nat.zero_le _, (fun _ h => by cases h), (fun _ h => by cases h)⟩
  · simp [Value.cells] at hcs
    obtain ⟨rfl, rfl, rfl⟩ := hcs
    have each : ∀ r, r < cap → PxInts w k (AA r) (C r) ((Z r).take (L r)) ∧ L r = ((Z r).take (L r)).length := by
      intro r hrc
      obtain ⟨_, h1, h2, h3, h4, h5, h6⟩ := hr r hrc
      have hz : ((Z r).take (L r)).length = L r := by rw [List.length_take]; omega
      refine ⟨⟨by omega, ⟨by rfl, by unfold maxLen at h2; omega, fun hp => ?_⟩, by omega, fun n hn => h4 n (List.mem_of_mem_take hn)⟩, hz.symm⟩
      cases ha : AA r with
      | none => have := h5 ha; omega
      | some ad =>
        refine ⟨ad, rfl, fun j p hj => ⟨[.int k p], rfl, rfl, fun i u hu => ?_⟩⟩
        have hj1 := (List.getElem?_eq_some_iff.1 hj).1
        have hjl : j < L r := by omega
        cases i with
        | succ i => simp at hu
        | zero =>
          simp at hu
          subst hu
          have := (h6 ad ha).2 j (by omega)
          rw [List.getD_eq_getElem?_getD, ← List.getElem?_take_of_lt hjl, hj] at this
          have e1 : j * (Kd.int k).sz + 0 = j := by show j * 1 + 0 = j; omega
          rw [e1]
          exact this
    refine ⟨some x, cap, (List.range len).map (fun r => (Z r).take (L r)), by simp, ⟨by simpa using hl, ⟨by simp, ?_, fun hp => ⟨x, rfl, fun j p hj => ?_⟩⟩, by simp; omega, ?_, ?_⟩⟩
    · simp; unfold maxLen at hm; omega
    · simp only [List.getElem?_map, Option.map_eq_some_iff] at hj
      obtain ⟨r, hr1, rfl⟩ := hj
      obtain ⟨hr2, hr3⟩ := List.getElem?_eq_some_iff.1 hr1
      simp at hr2 hr3
      subst hr3
      obtain ⟨hi, hL⟩ := each j (by omega)
      refine ⟨[.slice (AA j) ((Z j).take (L j)).length (C j)], rfl, ⟨AA j, C j, rfl, hi.le, hi.c⟩, fun i u hu => ?_⟩
      cases i with
      | succ i => simp at hu
      | zero =>
        simp only [List.getElem?_cons_zero, Option.some.injEq] at hu
        subst hu
        have e1 : j * (Kd.slice q (Kd.int k)).sz + 0 = j := by show j * 1 + 0 = j; omega
        rw [e1, ← hL]
        exact (hr j (by omega)).1
    · intro r hr1
      obtain ⟨j, hj, rfl⟩ := List.mem_map.1 hr1
      rw [List.mem_range] at hj
      exact (each j (by omega)).1.m
    · intro r hr1
      obtain ⟨j, hj, rfl⟩ := List.mem_map.1 hr1
      rw [List.mem_range] at hj
      exact (each j (by omega)).1.wf
end Go.Proofs.YtjahclncpgllmaaW.RowKit
end

section
namespace Go.Proofs.Ytjahclncpgllmaa.F
open Go.RowKit Go.Proofs.YtjahclncpgllmaaW.PrintWords Go.Proofs.YtjahclncpgllmaaW.PrintLast Go.Proofs.YtjahclncpgllmaaW.PrintMore Go.Proofs.YtjahclncpgllmaaW.RowKit
set_option linter.unusedVariables false
def laws_FnExactSelfEvacuated.Pure : Prop := ∀ (l0 : List Int), l0.length ≤ maxLen → (∀ n ∈ l0, (Lit.int .i64 n).wf = true) → ∃ k, laws_FnExactSelfEvacuated.f k l0 = some true
theorem laws_FnExactSelfEvacuated.walk (P : laws_FnExactSelfEvacuated.Pure) (A0 : Option Addr) (c0 : Nat) (l0 : List Int) (w : World) (i0 : PxInts w .i64 A0 c0 l0) :
    Calls Try.prog 14 #[.agg #[.slice A0 l0.length c0]] w fun e w' => e = .returned (.bool true) ∧ Below w.heap.size w w' := by
  obtain ⟨k, h⟩ := P l0 i0.m i0.wf
  refine (laws_FnExactSelfEvacuated.calls k _ _ l0 true w i0.c i0.le h).mono ?_
  rintro e w' ⟨rfl, hd⟩
  exact ⟨rfl, hd⟩
end Go.Proofs.Ytjahclncpgllmaa.F
end

section
namespace Go.Proofs.Ytjahclncpgllmaa.Q
open Go.RowKit Go.Proofs.YtjahclncpgllmaaW.PrintWords Go.Proofs.Ytjahclncpgllmaa.F
set_option linter.unusedVariables false
theorem linW_run {p : List Int} (hp : PO p) : ∀ (d s r : Nat), s < 2 ^ p.length → pcard p.length s + d = p.length → r < ways p s → ordRun p s (ints (linW p d s r)) = some (allN p) := by
  have hn := hp.small
  intro d
  induction d with
  | zero =>
    intro s r hs hc hr
    show some s = _
    rw [all_of_pcard hs (by omega)]
  | succ d ih =>
    intro s r hs hc hr
    have hall : s ≠ allN p := by
      intro e
      rw [e, pcard_all] at hc; omega
    have hst := ways_step hs hall
    obtain ⟨h1, h2⟩ := pick_ok (p := p) (s := s) (nextN p s) r (by omega)
    obtain ⟨_, m1, m2, m3⟩ := mem_nextN.1 h1
    have e : ints (linW p (d + 1) s r) = (((pick p s (nextN p s) r).1 : Nat) : Int) :: ints (linW p d (s ||| 2 ^ (pick p s (nextN p s) r).1) (pick p s (nextN p s) r).2) := rfl
    rw [e]
    unfold ordRun
    rw [Int.toNat_natCast, if_pos ⟨⟨by omega, by omega⟩, m2, m3⟩]
    exact ih _ _ (or_lt hs (pow_lt_pow m1)) (by rw [pcard_add m1 m2]; omega) h2
theorem rowsTo_ord {p : List Int} (hp : PO p) : ∀ q ∈ rowsTo p (ways p 0), ordB p q = true := by
  intro q hq
  obtain ⟨r, hr, rfl⟩ := List.mem_map.1 hq
  exact ordB_iff.2 (linW_run hp p.length 0 r (Nat.two_pow_pos _) (by rw [pcard_zero]; omega) (List.mem_range.1 hr))
theorem l1Same_run {a b : List Int} (hl : a.length = b.length) (h : a.length ≤ 1000) : ∀ i, i ≤ a.length → ∀ v : Bool, (v = true ↔ ∀ j, i ≤ j → j < a.length → a.getD j 0 = b.getD j 0) → Ev (fun k => spec_l1Same.l0 k a b (a.length : Int) (i : Int)) v := by
  refine downTo _ ?_ ?_
  · intro v hv
    refine Ev.step (by intro k; simp only [spec_l1Same.l0]; rfl) (Ev.no (by omega) (Ev.ret ?_))
    symm; rw [hv]; intro j h1 h2; omega
  · intro i hi ih v hv
    refine Ev.step (by intro k; simp only [spec_l1Same.l0]; rfl) (Ev.yes (by omega) (Ev.yes (by omega) (Ev.yes (by omega) (Ev.yes (by omega) ?_))))
    rw [rdN, rdN, wid (by omega) (by omega)]
    refine Ev.ite (fun he => ?_) (fun he => ?_)
    · refine ih v (hv.trans ?_)
      constructor
      · intro g j h1 h2
        exact g j (by omega) h2
      · intro g j h1 h2
        rcases Nat.lt_or_ge i j with h3 | h3
        · exact g j h3 h2
        · have : j = i := by omega
          rw [this]; exact he
    · refine Ev.ret ?_
      cases v with
      | false => rfl
      | true => exact absurd (hv.1 rfl i (Nat.le_refl _) hi) he
theorem l1Same_ev {a b : List Int} (hl : a.length = b.length) (h : a.length ≤ 1000) : Ev (fun k => spec_l1Same.f k a b) (decide (a = b)) := by
  unfold spec_l1Same.f
  refine Ev.yes (by omega) (l1Same_run hl h 0 (Nat.zero_le _) _ ?_)
  rw [decide_eq_true_eq]
  exact ⟨fun g j _ _ => by rw [g], fun g => ext_getD hl (fun i hi => g i (Nat.zero_le _) hi)⟩
theorem T10_same {a b : List Int} (hl : a.length = b.length) (h : a.length ≤ 10) : ((T10 a).1 == (T10 b).1 && ((T10 a).2.1 == (T10 b).2.1 && ((T10 a).2.2.1 == (T10 b).2.2.1 && ((T10 a).2.2.2.1 == (T10 b).2.2.2.1 && ((T10 a).2.2.2.2.1 == (T10 b).2.2.2.2.1 && ((T10 a).2.2.2.2.2.1 == (T10 b).2.2.2.2.2.1 && ((T10 a).2.2.2.2.2.2.1 == (T10 b).2.2.2.2.2.2.1 && ((T10 a).2.2.2.2.2.2.2.1 == (T10 b).2.2.2.2.2.2.2.1 && ((T10 a).2.2.2.2.2.2.2.2.1 == (T10 b).2.2.2.2.2.2.2.2.1 && ((T10 a).2.2.2.2.2.2.2.2.2 == (T10 b).2.2.2.2.2.2.2.2.2)))))))))) = decide (a = b) := by
  rw [Bool.eq_iff_iff]
  simp only [T10, Bool.and_eq_true, beq_iff_eq, decide_eq_true_eq]
  constructor
  · rintro ⟨h0, h1, h2, h3, h4, h5, h6, h7, h8, h9⟩
    refine ext_getD hl (fun i hi => ?_)
    have hi10 : i < 10 := by omega
    match i, hi10 with
    | 0, _ => exact h0
    | 1, _ => exact h1
    | 2, _ => exact h2
    | 3, _ => exact h3
    | 4, _ => exact h4
    | 5, _ => exact h5
    | 6, _ => exact h6
    | 7, _ => exact h7
    | 8, _ => exact h8
    | 9, _ => exact h9
    | _ + 10, h => exact absurd h (by omega)
  · rintro rfl
    exact ⟨rfl, rfl, rfl, rfl, rfl, rfl, rfl, rfl, rfl, rfl⟩
theorem self_runs {p : List Int} (hp : PO p) (rows : List (List Int)) (hr : rows.length ≤ 500) (ho : ∀ q ∈ rows, ordB p q = true) : ∀ i, i ≤ rows.length → ∀ c : Int, ∃ c', Ev (fun k => spec_SelfEvacuated.l0 k c rows (rows.length : Int) (i : Int) p) (c', true) ∧ Ev (fun k => impl_SelfEvacuated.l0 k true c rows (rows.length : Int) (i : Int) p) (c', true) := by
  have hn := hp.small
  refine downTo _ ?_ ?_
  · intro c
    exact ⟨c, Ev.step (by intro k; simp only [spec_SelfEvacuated.l0]; rfl) (Ev.no (by omega) (Ev.now _)), Ev.step (by intro k; simp only [impl_SelfEvacuated.l0]; rfl) (Ev.no (by omega) (Ev.now _))⟩
  · intro i hi ih c
    have hq := ho _ (List.getElem_mem hi)
    have hlen := ordB_len hq
    have hpos : 1 ≤ p.length := hp.pos
    have hev := evL_ok (p.length - 1) rows[i] hq (by omega)
    have e1 : wrap64 ((i : Int) + 1) = ((i + 1 : Nat) : Int) := by rw [wid (by omega) (by omega)]; rfl
    have hd : decide (evL p rows[i] (p.length - 1) = rows[i]) = true ∨ decide (evL p rows[i] (p.length - 1) = rows[i]) = false := by cases decide (evL p rows[i] (p.length - 1) = rows[i]) <;> simp
    have hs : ∀ c', Ev (fun k => spec_SelfEvacuated.l0 k (if decide (evL p rows[i] (p.length - 1) = rows[i]) = true then wrap64 (c + 1) else c) rows (rows.length : Int) ((i + 1 : Nat) : Int) p) (c', true) → Ev (fun k => spec_SelfEvacuated.l0 k c rows (rows.length : Int) (i : Int) p) (c', true) := by
      intro c' g
      refine Ev.step (by intro k; simp only [spec_SelfEvacuated.l0]; rfl) (Ev.yes (by omega) (Ev.yes (by omega) (Ev.yes (by omega) ?_)))
      rw [rdL_get hi, e1]
      refine Ev.bind (liEvacuate_ev hp hq) (Ev.bind (l1Same_ev hev.2 (by omega)) ?_)
      refine Ev.ite (fun h => ?_) (fun h => ?_)
      · rw [if_pos h] at g; exact g
      · rw [if_neg h] at g; exact g
    have him : ∀ c', Ev (fun k => impl_SelfEvacuated.l0 k true (if decide (evL p rows[i] (p.length - 1) = rows[i]) = true then wrap64 (c + 1) else c) rows (rows.length : Int) ((i + 1 : Nat) : Int) p) (c', true) → Ev (fun k => impl_SelfEvacuated.l0 k true c rows (rows.length : Int) (i : Int) p) (c', true) := by
      intro c' g
      refine Ev.step (by intro k; simp only [impl_SelfEvacuated.l0]; rfl) (Ev.yes (by omega) (Ev.yes (by omega) (Ev.yes (by omega) ?_)))
      rw [rdL_get hi, e1]
      refine Ev.call (lineOf_eq (by omega)) (Ev.bind (ev10_ev hp hq) ?_)
      rw [T10_same hev.2 (by omega)]
      refine Ev.ite (fun h => ?_) (fun h => ?_)
      · rw [if_pos h] at g; exact g
      · rw [if_neg h] at g; exact g
    obtain ⟨c', g1, g2⟩ := ih (if decide (evL p rows[i] (p.length - 1) = rows[i]) = true then wrap64 (c + 1) else c)
    exact ⟨c', hs c' g1, him c' g2⟩
theorem SelfEvacuated_same (p : List Int) (hp : p.length ≤ 1048576) (_ : ∀ n ∈ p, (Lit.int .i64 n).wf = true) :
    ∃ r, Ev (fun k => spec_SelfEvacuated.f k p) r ∧ Ev (fun k => impl_SelfEvacuated.f k p) r ∧ True := by
  have hfew := few_ev p
  unfold spec_SelfEvacuated.f impl_SelfEvacuated.f
  cases hpo : isPo p with
  | false =>
    rw [if_neg (fun h => by rw [hpo] at h; exact absurd h.1 (by simp))] at hfew
    refine ⟨(0, false), Ev.bind (poGood_ev p) ?_, Ev.bind hfew ?_, trivial⟩
    · rw [hpo]; exact Ev.no (by simp) (Ev.now _)
    · exact Ev.step (by intro k; simp only [impl_SelfEvacuated.l0]; rfl) (Ev.no (by simp) (Ev.now _))
  | true =>
    have hP := (isPo_iff p).1 hpo
    have hli := liAll_ev hP
    by_cases hw : ways p 0 ≤ 500
    · rw [if_pos ⟨hpo, hw⟩] at hfew
      rw [if_pos hw] at hli
      obtain ⟨c', g1, g2⟩ := self_runs hP (rowsTo p (ways p 0)) (by rw [rowsTo_len]; exact hw) (rowsTo_ord hP) 0 (Nat.zero_le _) 0
      refine ⟨(c', true), Ev.bind (poGood_ev p) ?_, Ev.bind hfew g2, trivial⟩
      rw [hpo]
      exact Ev.yes rfl (Ev.bind hli (Ev.yes rfl g1))
    · rw [if_neg (fun h => hw h.2)] at hfew
      rw [if_neg hw] at hli
      refine ⟨(0, false), Ev.bind (poGood_ev p) ?_, Ev.bind hfew ?_, trivial⟩
      · rw [hpo]
        exact Ev.yes rfl (Ev.bind hli (Ev.no (by simp) (Ev.now _)))
      · exact Ev.step (by intro k; simp only [impl_SelfEvacuated.l0]; rfl) (Ev.no (by simp) (Ev.now _))
theorem FnExactSelfEvacuated : laws_FnExactSelfEvacuated.Pure := by
  intro l0 hm_l0 hw_l0
  by_cases hl_l0 : l0.length ≤ 1048576
  rotate_left
  · exact ⟨0, by unfold laws_FnExactSelfEvacuated.f; exact if_pos ⟨0, (Or.inl ⟨-1, (szPoset_eq l0 1048576 (by omega) hm_l0).trans (by rw [if_neg hl_l0]), by decide⟩)⟩⟩
  obtain ⟨r, hs_, hi_, hr_⟩ := SelfEvacuated_same l0 hl_l0 hw_l0
  obtain ⟨K0, e0⟩ := toPoset_ev l0 hl_l0
  obtain ⟨K1, e1⟩ := hs_
  obtain ⟨K2, e2⟩ := hi_
  obtain ⟨K3, e3⟩ := eqPoset_refl l0 (by omega)
  obtain ⟨K, hK_⟩ : ∃ K, K = 0 + K0 + K1 + K2 + K3 := ⟨_, rfl⟩
  refine ⟨K, ?_⟩
  unfold laws_FnExactSelfEvacuated.f
  exact if_pos ⟨K, Or.inr (⟨((1048576 - l0.length : Nat) : Int), r.1, r.2, (szPoset_eq l0 1048576 (by omega) hm_l0).trans (by rw [if_pos hl_l0]), decide_eq_false (by omega), e0 K (by omega), e1 K (by omega), e2 K (by omega), e3 K (by omega)⟩)⟩
end Go.Proofs.Ytjahclncpgllmaa.Q
end
