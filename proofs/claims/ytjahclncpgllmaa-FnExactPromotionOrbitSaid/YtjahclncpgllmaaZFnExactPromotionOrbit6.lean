/- Part 6 of the texts below the row of FnExactPromotionOrbit: printed functions with their contracts, and plain lemmas. No condition. -/
import Derived.Test.YtjahclncpgllmaaZFnExactPromotionOrbit5
import Derived.SizedLaws
import Derived.ChangeSlices
import Derived.WalkKit
import Derived.ProofKit
import Derived.OpenShut
import Derived.Lib.SmallJoins
import Derived.Deep.Matrix
section
section
namespace Go.Proofs.YtjahclncpgllmaaW.PrintWords
open Go.ChangeShapes Go.WideShapes
/-- A row's slice of whole numbers is no longer than its weight allows. -/
theorem sized_ints {H : Type} {enc : TypeId × Value → H} {P : Program} {W : World} {base : Nat} {spare : Nat → Bool} {held : Bool} {t e : TypeId} {k : IntKind} {a : Option Addr} {len cap : Nat} {d : DataW H} {ps : List MemPlace} {ts : List TypeId} {ds : List (DataW H)} {j : Nat}
    (hsz : (DataW.weightsEach P ts ds).all (· ≤ reachBytes) = true) (ht : ts[j]? = some t) (hd : ds[j]? = some d) (hu : P.underlying t = some (.slice e)) (he : P.underlying e = some (.int k)) (hc : P.cellsOf e = 1) {B : Nat} (hB : P.bytesOf e = B)
    (h : DataW.Trod enc P W base spare held t (.slice a len cap) d ps) : len * B ≤ 140737488351232 := by
  obtain ⟨fuel, hf⟩ := h
  rcases open_ints hu he hc hf with ⟨hcs, _⟩ | ⟨x, l, c, zs, hcs, _, hl, _, hz, hx, _, _⟩
  · simp [Value.cells] at hcs
    obtain ⟨rfl, rfl, rfl⟩ := hcs
    simp
  · simp [Value.cells] at hcs
    obtain ⟨rfl, rfl, rfl⟩ := hcs
    obtain ⟨hx, _⟩ := Prod.mk.inj hx
    subst hx
    have z := sized_slice hsz ht hd hu
    rw [hB] at z
    have hl2 : len ≤ zs.length := by
      rw [hz]
      split
      · exact hl
      · exact Nat.le_refl _
    have h1 : (lits (H := H) k (zs.take len)).length + (lits (H := H) k (zs.drop len)).length = zs.length := by
      simp [lits]
      omega
    rw [h1] at z
    exact Nat.le_trans (Nat.mul_le_mul_right _ hl2) z
end Go.Proofs.YtjahclncpgllmaaW.PrintWords
end
end

section
namespace Go.Proofs.YtjahclncpgllmaaW.RowKit
open Go.ChangeShapes Go.WideShapes Go.Deep Go.RowKit Go.Proofs.YtjahclncpgllmaaW.PrintWords
variable {H : Type} {enc : TypeId × Value → H} {P : Program} {w : World} {base : Nat} {held : Bool}
/-- What is known of a slice of whole numbers that came in. -/
structure PxInts (w : World) (k : IntKind) (A : Option Addr) (c : Nat) (l : List Int) : Prop where
  le : l.length ≤ c
  c : Kd.C (Kd.int k) w A l.length l
  m : l.length ≤ maxLen
  wf : ∀ n ∈ l, (Lit.int k n).wf = true
theorem ints_of {t e : TypeId} {k : IntKind} {fuel : Nat} {cs : List Value} {x : DataW H × List MemPlace} (ht : P.underlying t = some (.slice e)) (he : P.underlying e = some (.int k)) (hc : P.cellsOf e = 1)
    (h : DataW.trod enc P w base (fun _ => true) held fuel t cs = some x) : ∃ A c l, cs = [.slice A (List.length l) c] ∧ PxInts w k A c l := by
  rcases open_ints ht he hc h with ⟨hcs, _⟩ | ⟨a, len, cap, zs, hcs, _, hl, hm, hz, _, hcell, hwz⟩
  · obtain ⟨l, e1, h1, h2, h3, h4⟩ := ReadsInt.ofRowC (k := k) (w := w) (a := none) (len := 0) (cap := 0) (zs := []) (.inl ⟨rfl, rfl, rfl, rfl⟩)
    exact ⟨none, 0, l, by rw [hcs, ← e1], h4, Kd.C_of_reads (d := (0 : Int)) (h1 := fun _ => rfl) h1, h2, h3⟩
  · obtain ⟨l, e1, h1, h2, h3, h4⟩ := ReadsInt.ofRowC (k := k) (w := w) (a := some a) (len := len) (cap := cap) (zs := zs) (.inr ⟨_, rfl, hl, hm, by simpa using hz, hcell, hwz⟩)
    exact ⟨some a, cap, l, by rw [hcs, ← e1], h4, Kd.C_of_reads (d := (0 : Int)) (h1 := fun _ => rfl) h1, h2, h3⟩
theorem open_sl {r : Reach} {b0 : Nat} {t e : TypeId} {k : IntKind} {v : Value} {d : DataW H} {p : List MemPlace} (ht : P.underlying t = some (.slice e)) (he : P.underlying e = some (.int k)) (hc : P.cellsOf e = 1)
    (hv : Value.okWide P w r b0 t v) (h : DataW.Trod enc P w base (fun _ => true) held t v d p) : ∃ A c l, v = .slice A (List.length l) c ∧ PxInts w k A c l := by
  obtain ⟨a, len, cap, rfl⟩ := okWide_slice ht hv
  obtain ⟨fuel, hf⟩ := h
  obtain ⟨A, c, l, hcs, hi⟩ := ints_of ht he hc hf
  simp [Value.cells] at hcs
  obtain ⟨rfl, rfl, rfl⟩ := hcs
  exact ⟨_, _, l, rfl, hi⟩
theorem open_st {r : Reach} {b0 : Nat} {t q e : TypeId} {k : IntKind} {f0 : Field} {v : Value} {d : DataW H} {p : List MemPlace} (hs : P.underlying t = some (.struct #[f0])) (hone : oneCellFields P #[f0] = true) (hC : P.cellsOf t = 1)
    (hq : f0.type = q) (ht : P.underlying q = some (.slice e)) (he : P.underlying e = some (.int k)) (hc : P.cellsOf e = 1)
    (hv : Value.okWide P w r b0 t v) (h : DataW.Trod enc P w base (fun _ => true) held t v d p) : ∃ A c l, v = .agg #[.slice A (List.length l) c] ∧ PxInts w k A c l := by
  subst hq
  obtain ⟨cs, rfl, hsz⟩ := okWide_struct hs hv
  obtain ⟨c0, rfl⟩ : ∃ c0, cs = #[c0] := by
    obtain ⟨l⟩ := cs
    match l, hsz.trans hC with
    | [c0], _ => exact ⟨c0, rfl⟩
  obtain ⟨fuel, hf⟩ := h
  obtain ⟨y0, n, _, _, h0⟩ := trod_struct1 hs hf
  obtain ⟨o0, k0⟩ := Go.Deep.hone_of hone 0 f0 rfl
  obtain ⟨A, c, l, hcs, hi⟩ := ints_of ht he hc (by simpa [Value.cells, o0, k0] using h0 : DataW.trod enc P w base (fun _ => true) held n f0.type [c0] = some y0)
  simp at hcs
  subst hcs
  exact ⟨A, c, l, rfl, hi⟩
/-- What is known of a slice of slices of whole numbers that came in. -/
structure PxRows (w : World) (k : IntKind) (q : TypeId) (A : Option Addr) (c : Nat) (l : List (List Int)) : Prop where
  le : l.length ≤ c
  c : Kd.C (Kd.slice q (Kd.int k)) w A l.length l
  m : l.length ≤ maxLen
  m2 : ∀ r ∈ l, r.length ≤ maxLen
  wf : ∀ r ∈ l, ∀ n ∈ r, (Lit.int k n).wf = true
theorem open_ss {r : Reach} {b0 : Nat} {t e q : TypeId} {k : IntKind} {v : Value} {d : DataW H} {p : List MemPlace} (ht : P.underlying t = some (.slice e)) (he : P.underlying e = some (.slice q)) (hq : P.underlying q = some (.int k))
    (ce : P.cellsOf e = 1) (cq : P.cellsOf q = 1)
    (hv : Value.okWide P w r b0 t v) (h : DataW.Trod enc P w base (fun _ => true) held t v d p) : ∃ A c l, v = .slice A (List.length l) c ∧ PxRows w k q A c l := by
  obtain ⟨a, len, cap, rfl⟩ := okWide_slice ht hv
  obtain ⟨fuel, hf⟩ := h
  rcases Go.Deep.open_int_rows ht he hq ce cq hf with ⟨hcs, _⟩ | ⟨x, len', cap', AA, L, C, Z, hcs, _, hl, hm, _, hr⟩
  · simp [Value.cells] at hcs
    obtain ⟨rfl, rfl, rfl⟩ := hcs
    exact ⟨none, 0, [], rfl, Nat.le_refl _, ⟨rfl, Nat.zero_le _, fun h => absurd h (Nat.lt_irrefl _)⟩, Nat.zero_le _, (fun _ h => by cases h), (fun _ h => by cases h)⟩
  · simp [Value.cells] at hcs
    obtain ⟨rfl, rfl, rfl⟩ := hcs
    have each : ∀ r, r < cap → PxInts w k (AA r) (C r) ((Z r).take (L r)) ∧ L r = ((Z r).take (L r)).length := by
      intro r hrc
      obtain ⟨_, h1, h2, h3, h4, h5, h6⟩ := hr r hrc
      have hz : ((Z r).take (L r)).length = L r := by rw [List.length_take]; omega
      refine ⟨⟨by omega, ⟨by rfl, by unfold maxLen at h2; omega, fun hp => ?_⟩, by omega, fun n hn => h4 n (List.mem_of_mem_take hn)⟩, hz.symm⟩
      cases ha : AA r with
      | none => have := h5 ha; omega
      | some ad =>
        refine ⟨ad, rfl, fun j p hj => ⟨[.int k p], rfl, rfl, fun i u hu => ?_⟩⟩
        have hj1 := (List.getElem?_eq_some_iff.1 hj).1
        have hjl : j < L r := by omega
        cases i with
        | succ i => simp at hu
        | zero =>
          simp at hu
          subst hu
          have := (h6 ad ha).2 j (by omega)
          rw [List.getD_eq_getElem?_getD, ← List.getElem?_take_of_lt hjl, hj] at this
          have e1 : j * (Kd.int k).sz + 0 = j := by show j * 1 + 0 = j; omega
          rw [e1]
          exact this
    refine ⟨some x, cap, (List.range len).map (fun r => (Z r).take (L r)), by simp, ⟨by simpa using hl, ⟨by simp, ?_, fun hp => ⟨x, rfl, fun j p hj => ?_⟩⟩, by simp; omega, ?_, ?_⟩⟩
    · simp; unfold maxLen at hm; omega
    · simp only [List.getElem?_map, Option.map_eq_some_iff] at hj
      obtain ⟨r, hr1, rfl⟩ := hj
      obtain ⟨hr2, hr3⟩ := List.getElem?_eq_some_iff.1 hr1
      simp at hr2 hr3
      subst hr3
      obtain ⟨hi, hL⟩ := each j (by omega)
      refine ⟨[.slice (AA j) ((Z j).take (L j)).length (C j)], rfl, ⟨AA j, C j, rfl, hi.le, hi.c⟩, fun i u hu => ?_⟩
      cases i with
      | succ i => simp at hu
      | zero =>
        simp only [List.getElem?_cons_zero, Option.some.injEq] at hu
        subst hu
        have e1 : j * (Kd.slice q (Kd.int k)).sz + 0 = j := by show j * 1 + 0 = j; omega
        rw [e1, ← hL]
        exact (hr j (by omega)).1
    · intro r hr1
      obtain ⟨j, hj, rfl⟩ := List.mem_map.1 hr1
      rw [List.mem_range] at hj
      exact (each j (by omega)).1.m
    · intro r hr1
      obtain ⟨j, hj, rfl⟩ := List.mem_map.1 hr1
      rw [List.mem_range] at hj
      exact (each j (by omega)).1.wf
end Go.Proofs.YtjahclncpgllmaaW.RowKit
end

section
namespace Go.Proofs.Ytjahclncpgllmaa.F
open Go.RowKit Go.Proofs.YtjahclncpgllmaaW.PrintWords Go.Proofs.YtjahclncpgllmaaW.PrintLast Go.Proofs.YtjahclncpgllmaaW.PrintMore Go.Proofs.YtjahclncpgllmaaW.RowKit
set_option linter.unusedVariables false
def laws_FnExactPromotionOrbit.Pure : Prop := ∀ (l0 : List Int) (l1 : List Int), l0.length ≤ maxLen → (∀ n ∈ l0, (Lit.int .i64 n).wf = true) → l1.length ≤ maxLen → (∀ n ∈ l1, (Lit.int .i64 n).wf = true) → ∃ k, laws_FnExactPromotionOrbit.f k l0 l1 = some true
theorem laws_FnExactPromotionOrbit.walk (P : laws_FnExactPromotionOrbit.Pure) (A0 : Option Addr) (c0 : Nat) (l0 : List Int) (A1 : Option Addr) (c1 : Nat) (l1 : List Int) (w : World) (i0 : PxInts w .i64 A0 c0 l0) (i1 : PxInts w .i64 A1 c1 l1) :
    Calls Try.prog 12 #[.agg #[.slice A0 l0.length c0], .slice A1 l1.length c1] w fun e w' => e = .returned (.bool true) ∧ Below w.heap.size w w' := by
  obtain ⟨k, h⟩ := P l0 l1 i0.m i0.wf i1.m i1.wf
  refine (laws_FnExactPromotionOrbit.calls k _ _ l0 _ _ l1 true w i0.c i0.le i1.c i1.le h).mono ?_
  rintro e w' ⟨rfl, hd⟩
  exact ⟨rfl, hd⟩
end Go.Proofs.Ytjahclncpgllmaa.F
end

section
namespace Go.Proofs.Ytjahclncpgllmaa.Q
open Go.RowKit Go.Proofs.YtjahclncpgllmaaW.PrintWords Go.Proofs.Ytjahclncpgllmaa.F
set_option linter.unusedVariables false
theorem promL_one (p w : List Int) : promL p w 1 = proL p w := rfl
def orbI10 (k : Nat) (p w : List Int) (d : Nat) (rows : List (List Int)) (v : List Int) : Option (List (List Int) × Bool) :=
  orbI k p (w.getD 0 0) (w.getD 1 0) (w.getD 2 0) (w.getD 3 0) (w.getD 4 0) (w.getD 5 0) (w.getD 6 0) (w.getD 7 0) (w.getD 8 0) (w.getD 9 0) d rows (T10 v)
theorem orbI_step {p w v : List Int} (k d : Nat) (rows : List (List Int)) (hv : v.length = p.length) (hw : w.length = p.length) (hn : p.length ≤ 10) (hr : rows.length ≤ 500) :
    orbI10 k p w (d + 1) rows v = if rows.length ≠ 0 ∧ v = w then some (rows, true) else if rows.length = 500 then some ([], false) else (pro10 k p v).bind fun y => orbI k p (w.getD 0 0) (w.getD 1 0) (w.getD 2 0) (w.getD 3 0) (w.getD 4 0) (w.getD 5 0) (w.getD 6 0) (w.getD 7 0) (w.getD 8 0) (w.getD 9 0) d (rows ++ [v]) y := by
  unfold orbI10 T10
  simp only [orbI]
  have hc : (rows.length ≠ 0 ∧ (v.getD 0 0 = w.getD 0 0 ∧ v.getD 1 0 = w.getD 1 0 ∧ v.getD 2 0 = w.getD 2 0 ∧ v.getD 3 0 = w.getD 3 0 ∧ v.getD 4 0 = w.getD 4 0 ∧ v.getD 5 0 = w.getD 5 0 ∧ v.getD 6 0 = w.getD 6 0 ∧ v.getD 7 0 = w.getD 7 0 ∧ v.getD 8 0 = w.getD 8 0 ∧ v.getD 9 0 = w.getD 9 0)) ↔ (rows.length ≠ 0 ∧ v = w) := and_congr_right fun _ => T10_conj (by omega) (by omega)
  by_cases h : rows.length ≠ 0 ∧ v = w
  · rw [if_pos (hc.2 h), if_pos h]
  · rw [if_neg (fun g => h (hc.1 g)), if_neg h]
    by_cases h5 : rows.length = 500
    · rw [if_pos h5, if_pos h5]
    · rw [if_neg h5, if_neg h5, if_pos hr, show impl_Poset_n.f p = some (p.length : Int) from rfl, Option.bind_some]
      have hl := list10_eq hv hn
      unfold list10 at hl
      rw [hl, Option.bind_some]
      rfl
theorem orbit_both {p w : List Int} (hp : PO p) (hw : ordB p w = true) : ∀ (m : Nat) (rows : List (List Int)) (now : List Int), rows.length + m = 500 → 1 ≤ rows.length → (∀ q ∈ rows, q.length ≤ 10) → ordB p now = true →
    ∃ r : List (List Int) × Bool, (∃ K, ∀ k d, K ≤ k → K ≤ d → orRun k p w d rows now = some r) ∧ (∃ K, ∀ k d, K ≤ k → K ≤ d → orbI10 k p w d rows now = some r) ∧ r.1.length ≤ 500 ∧ (∀ q ∈ r.1, q.length ≤ 10) := by
  have hn := hp.small
  have hlw := ordB_len hw
  intro m
  induction m with
  | zero =>
    intro rows now hm h1 hq ho
    have hln := ordB_len ho
    obtain ⟨K1, e1⟩ := l1Same_ev (a := now) (b := w) (by omega) (by omega)
    replace e1 : ∀ k, K1 ≤ k → spec_l1Same.f k now w = some (decide (now = w)) := e1
    by_cases he : now = w
    · refine ⟨(rows, true), ⟨K1 + 1, fun k d hk hd => ?_⟩, ⟨1, fun k d hk hd => ?_⟩, by show rows.length ≤ _; omega, hq⟩
      · obtain ⟨d, rfl⟩ : ∃ d', d = d' + 1 := ⟨d - 1, by omega⟩
        unfold orRun
        rw [e1 k (by omega), Option.bind_some, if_pos (decide_eq_true he)]
      · obtain ⟨d, rfl⟩ : ∃ d', d = d' + 1 := ⟨d - 1, by omega⟩
        rw [orbI_step k d rows hln hlw hn (by omega), if_pos ⟨by omega, he⟩]
    · refine ⟨([], false), ⟨K1 + 1, fun k d hk hd => ?_⟩, ⟨1, fun k d hk hd => ?_⟩, Nat.zero_le _, fun q hq => by cases hq⟩
      · obtain ⟨d, rfl⟩ : ∃ d', d = d' + 1 := ⟨d - 1, by omega⟩
        unfold orRun
        rw [e1 k (by omega), Option.bind_some, if_neg (fun g => he (of_decide_eq_true g)), if_pos (by omega)]
      · obtain ⟨d, rfl⟩ : ∃ d', d = d' + 1 := ⟨d - 1, by omega⟩
        rw [orbI_step k d rows hln hlw hn (by omega), if_neg (fun g => he g.2), if_pos (by omega)]
  | succ m ih =>
    intro rows now hm h1 hq ho
    have hln := ordB_len ho
    obtain ⟨K1, e1⟩ := l1Same_ev (a := now) (b := w) (by omega) (by omega)
    replace e1 : ∀ k, K1 ≤ k → spec_l1Same.f k now w = some (decide (now = w)) := e1
    by_cases he : now = w
    · refine ⟨(rows, true), ⟨K1 + 1, fun k d hk hd => ?_⟩, ⟨1, fun k d hk hd => ?_⟩, by show rows.length ≤ _; omega, hq⟩
      · obtain ⟨d, rfl⟩ : ∃ d', d = d' + 1 := ⟨d - 1, by omega⟩
        unfold orRun
        rw [e1 k (by omega), Option.bind_some, if_pos (decide_eq_true he)]
      · obtain ⟨d, rfl⟩ : ∃ d', d = d' + 1 := ⟨d - 1, by omega⟩
        rw [orbI_step k d rows hln hlw hn (by omega), if_pos ⟨by omega, he⟩]
    · obtain ⟨K2, e2⟩ := liPromote_ev hp ho 1 (by omega) (by omega)
      obtain ⟨K3, e3⟩ := pro10_ev hp ho
      replace e2 : ∀ k, K2 ≤ k → spec_liPromote.f k p now 1 = some (promL p now 1) := e2
      replace e3 : ∀ k, K3 ≤ k → pro10 k p now = some (T10 (proL p now)) := e3
      obtain ⟨r, ⟨K4, e4⟩, ⟨K5, e5⟩, g1, g2⟩ := ih (rows ++ [now]) (proL p now) (by rw [List.length_append, List.length_singleton]; omega) (by rw [List.length_append]; omega) (fun q hq2 => by
        rcases List.mem_append.1 hq2 with h | h
        · exact hq q h
        · rw [List.mem_singleton.1 h]; omega) (proL_ok hp ho)
      refine ⟨r, ⟨K1 + K2 + K4 + 1, fun k d hk hd => ?_⟩, ⟨K3 + K5 + 1, fun k d hk hd => ?_⟩, g1, g2⟩
      · obtain ⟨d, rfl⟩ : ∃ d', d = d' + 1 := ⟨d - 1, by omega⟩
        unfold orRun
        rw [e1 k (by omega), Option.bind_some, if_neg (fun g => he (of_decide_eq_true g)), if_neg (by omega), if_pos (by omega), e2 k (by omega), Option.bind_some, promL_one]
        exact e4 k d (by omega) (by omega)
      · obtain ⟨d, rfl⟩ : ∃ d', d = d' + 1 := ⟨d - 1, by omega⟩
        rw [orbI_step k d rows hln hlw hn (by omega), if_neg (fun g => he g.2), if_neg (by omega), e3 k (by omega), Option.bind_some]
        exact e5 k d (by omega) (by omega)
theorem PromotionOrbit_same (p : List Int) (hp : p.length ≤ 1048576) (_ : ∀ n ∈ p, (Lit.int .i64 n).wf = true) (w : List Int) (hw : w.length ≤ 1048576) (_ : ∀ n ∈ w, (Lit.int .i64 n).wf = true) :
    ∃ r, Ev (fun k => spec_PromotionOrbit.f k p w) r ∧ Ev (fun k => impl_PromotionOrbit.f k p w) r ∧ r.1.length ≤ 1000 ∧ (∀ q ∈ r.1, q.length ≤ 1000) ∧ totLen r.1 ≤ 1000000 := by
  have none_ : (([] : List (List Int)), false).1.length ≤ 1000 ∧ (∀ q ∈ (([] : List (List Int)), false).1, q.length ≤ 1000) ∧ totLen (([] : List (List Int)), false).1 ≤ 1000000 := ⟨Nat.zero_le _, fun q hq => absurd hq (by simp), totLen_few (Nat.zero_le _) (fun q hq => absurd hq (by simp))⟩
  unfold spec_PromotionOrbit.f impl_PromotionOrbit.f
  cases h : linB p w with
  | false =>
    refine ⟨([], false), Ev.bind (liGiven_ev p w) ?_, Ev.bind (isLinear_ev p w (by omega)) ?_, none_⟩
    · rw [h]; exact Ev.no (by simp) (Ev.now _)
    · rw [h]; exact Ev.no (by simp) (Ev.now _)
  | true =>
    have H := linB_lin h
    have h1 := H.pos
    have h2 := H.small
    have h3 := H.len
    obtain ⟨r, ⟨K4, e4⟩, ⟨K5, e5⟩, g1, g2⟩ := orbit_both H.po H.ord 499 [w] (proL p w) rfl (Nat.le_refl _) (fun q hq => by rw [List.mem_singleton.1 hq]; omega) (proL_ok H.po H.ord)
    have q1 : r.1.length ≤ 1000 := by omega
    have q2 : ∀ q ∈ r.1, q.length ≤ 1000 := fun q hq => by have := g2 q hq; omega
    refine ⟨r, Ev.bind (liGiven_ev p w) ?_, Ev.bind (isLinear_ev p w (by omega)) ?_, q1, q2, totLen_few q1 q2⟩
    · rw [h]
      refine Ev.yes rfl (Ev.call (l1Own_eq (by omega)) (Ev.bind (liPromote_ev H.po H.ord 1 (by omega) (by omega)) ⟨K4, fun k hk => ?_⟩))
      rw [promL_one]
      exact e4 k k hk hk
    · rw [h]
      obtain ⟨K3, e3⟩ := pro10_ev H.po H.ord
      replace e3 : ∀ k, K3 ≤ k → pro10 k p w = some (T10 (proL p w)) := e3
      refine Ev.yes rfl (Ev.call (lineOf_eq (by omega)) ⟨K3 + K5 + 1, fun k hk => ?_⟩)
      have hs : ∀ d, orbI10 k p w (d + 1) [] w = (pro10 k p w).bind fun y => orbI k p (w.getD 0 0) (w.getD 1 0) (w.getD 2 0) (w.getD 3 0) (w.getD 4 0) (w.getD 5 0) (w.getD 6 0) (w.getD 7 0) (w.getD 8 0) (w.getD 9 0) d ([] ++ [w]) y := fun d => by
        rw [orbI_step k d [] h3 h3 h2 (Nat.zero_le _), if_neg (fun g => g.1 rfl), if_neg (by simp)]
      show orbI10 k p w k [] w = some r
      obtain ⟨d, hd⟩ : ∃ d', k = d' + 1 := ⟨k - 1, by omega⟩
      have := hs d
      rw [← hd] at this
      rw [this, e3 k (by omega), Option.bind_some]
      exact e5 k d (by omega) (by omega)
theorem FnExactPromotionOrbit : laws_FnExactPromotionOrbit.Pure := by
  intro l0 l1 hm_l0 hw_l0 hm_l1 hw_l1
  by_cases hb_l1 : ((l1.length : Int) > 1048576)
  · exact ⟨0, by unfold laws_FnExactPromotionOrbit.f; exact if_pos ⟨0, (Or.inl ⟨(), decide_eq_true hb_l1⟩)⟩⟩
  have hl_l1 : l1.length ≤ 1048576 := by omega
  by_cases hl_l0 : l0.length ≤ 1048576
  rotate_left
  · exact ⟨0, by unfold laws_FnExactPromotionOrbit.f; exact if_pos ⟨0, (Or.inr (Or.inl ⟨-1, decide_eq_false hb_l1, (szPoset_eq l0 1048576 (by omega) hm_l0).trans (by rw [if_neg hl_l0]), by decide⟩))⟩⟩
  obtain ⟨r, hs_, hi_, hr_⟩ := PromotionOrbit_same l0 hl_l0 hw_l0 l1 hl_l1 hw_l1
  obtain ⟨hr1_, hr2_, hr3_⟩ := hr_
  obtain ⟨K0, e0⟩ := toPoset_ev l0 hl_l0
  obtain ⟨K1, e1⟩ := toIntS_ev l1 hl_l1
  obtain ⟨K2, e2⟩ := hs_
  obtain ⟨K3, e3⟩ := hi_
  obtain ⟨K4, e4⟩ := eqIntSS_refl r.1 (by omega) (fun q_ hq_ => by have := hr2_ q_ hq_; omega)
  obtain ⟨K5, e5⟩ := eqPoset_refl l0 (by omega)
  obtain ⟨K6, e6⟩ := eqIntS_refl l1 (by omega)
  obtain ⟨K7, e7⟩ := markPoset_ev1 l0 (by omega)
  obtain ⟨K8, e8⟩ := markIntS_ev l1 (1 + l0.length) (by omega)
  obtain ⟨K9, e9⟩ := markIntSS_ev1 r.1 (by omega) (by omega)
  obtain ⟨K10, e10⟩ := heldIntSS_ev1 r.1 (by omega) (by omega)
  obtain ⟨K, hK_⟩ : ∃ K, K = 0 + K0 + K1 + K2 + K3 + K4 + K5 + K6 + K7 + K8 + K9 + K10 := ⟨_, rfl⟩
  refine ⟨K, ?_⟩
  unfold laws_FnExactPromotionOrbit.f
  exact if_pos ⟨K, Or.inr (Or.inr (⟨((1048576 - l0.length : Nat) : Int), r.1, r.2, ((1 + l0.length : Nat) : Int), (upFrom 1 l0.length), ((1 + l0.length + l1.length : Nat) : Int), (upFrom (1 + l0.length) l1.length), ((1 + totLen r.1 : Nat) : Int), (upRows 1 r.1), decide_eq_false hb_l1, (szPoset_eq l0 1048576 (by omega) hm_l0).trans (by rw [if_pos hl_l0]), decide_eq_false (by omega), e0 K (by omega), e1 K (by omega), e2 K (by omega), e3 K (by omega), e4 K (by omega), e5 K (by omega), e6 K (by omega), e7 K (by omega), e8 K (by omega), decide_eq_false (by omega), e9 K (by omega), e10 K (by omega), decide_eq_false (by omega)⟩))⟩
end Go.Proofs.Ytjahclncpgllmaa.Q
end
