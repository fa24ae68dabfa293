/- Part 6 of the texts below the row of FnExactRankLabels: printed functions with their contracts, and plain lemmas. No condition. -/
import Derived.Test.YtemkddgfneohhaaZFnExactRankLabels5
import Derived.SizedLaws
import Derived.ChangeSlices
import Derived.WalkKit
import Derived.ProofKit
import Derived.OpenShut
import Derived.Lib.SmallJoins
import Derived.Deep.Matrix
section
section
namespace Go.Proofs.YtemkddgfneohhaaW.PrintWords
open Go.ChangeShapes Go.WideShapes
/-- A row's slice of whole numbers is no longer than its weight allows. -/
theorem sized_ints {H : Type} {enc : TypeId × Value → H} {P : Program} {W : World} {base : Nat} {spare : Nat → Bool} {held : Bool} {t e : TypeId} {k : IntKind} {a : Option Addr} {len cap : Nat} {d : DataW H} {ps : List MemPlace} {ts : List TypeId} {ds : List (DataW H)} {j : Nat}
    (hsz : (DataW.weightsEach P ts ds).all (· ≤ reachBytes) = true) (ht : ts[j]? = some t) (hd : ds[j]? = some d) (hu : P.underlying t = some (.slice e)) (he : P.underlying e = some (.int k)) (hc : P.cellsOf e = 1) {B : Nat} (hB : P.bytesOf e = B)
    (h : DataW.Trod enc P W base spare held t (.slice a len cap) d ps) : len * B ≤ 140737488351232 := by
  obtain ⟨fuel, hf⟩ := h
  rcases open_ints hu he hc hf with ⟨hcs, _⟩ | ⟨x, l, c, zs, hcs, _, hl, _, hz, hx, _, _⟩
  · simp [Value.cells] at hcs
    obtain ⟨rfl, rfl, rfl⟩ := hcs
    simp
  · simp [Value.cells] at hcs
    obtain ⟨rfl, rfl, rfl⟩ := hcs
    obtain ⟨hx, _⟩ := Prod.mk.inj hx
    subst hx
    have z := sized_slice hsz ht hd hu
    rw [hB] at z
    have hl2 : len ≤ zs.length := by
      rw [hz]
      split
      · exact hl
      · exact Nat.le_refl _
    have h1 : (lits (H := H) k (zs.take len)).length + (lits (H := H) k (zs.drop len)).length = zs.length := by
      simp [lits]
      omega
    rw [h1] at z
    exact Nat.le_trans (Nat.mul_le_mul_right _ hl2) z
end Go.Proofs.YtemkddgfneohhaaW.PrintWords
end
end

section
namespace Go.Proofs.YtemkddgfneohhaaW.RowKit
open Go.ChangeShapes Go.WideShapes Go.Deep Go.RowKit Go.Proofs.YtemkddgfneohhaaW.PrintWords
variable {H : Type} {enc : TypeId × Value → H} {P : Program} {w : World} {base : Nat} {held : Bool}
/-- What is known of a slice of whole numbers that came in. -/
structure PxInts (w : World) (k : IntKind) (A : Option Addr) (c : Nat) (l : List Int) : Prop where
  le : l.length ≤ c
  c : Kd.C (Kd.int k) w A l.length l
  m : l.length ≤ maxLen
  wf : ∀ n ∈ l, (Lit.int k n).wf = true
theorem ints_of {t e : TypeId} {k : IntKind} {fuel : Nat} {cs : List Value} {x : DataW H × List MemPlace} (ht : P.underlying t = some (.slice e)) (he : P.underlying e = some (.int k)) (hc : P.cellsOf e = 1)
    (h : DataW.trod enc P w base (fun _ => true) held fuel t cs = some x) : ∃ A c l, cs = [.slice A (List.length l) c] ∧ PxInts w k A c l := by
  rcases open_ints ht he hc h with ⟨hcs, _⟩ | ⟨a, len, cap, zs, hcs, _, hl, hm, hz, _, hcell, hwz⟩
  · obtain ⟨l, e1, h1, h2, h3, h4⟩ := ReadsInt.ofRowC (k := k) (w := w) (a := none) (len := 0) (cap := 0) (zs := []) (.inl ⟨rfl, rfl, rfl, rfl⟩)
    exact ⟨none, 0, l, by rw [hcs, ← e1], h4, Kd.C_of_reads (d := (0 : Int)) (h1 := fun _ => rfl) h1, h2, h3⟩
  · obtain ⟨l, e1, h1, h2, h3, h4⟩ := ReadsInt.ofRowC (k := k) (w := w) (a := some a) (len := len) (cap := cap) (zs := zs) (.inr ⟨_, rfl, hl, hm, by simpa using hz, hcell, hwz⟩)
    exact ⟨some a, cap, l, by rw [hcs, ← e1], h4, Kd.C_of_reads (d := (0 : Int)) (h1 := fun _ => rfl) h1, h2, h3⟩
theorem open_sl {r : Reach} {b0 : Nat} {t e : TypeId} {k : IntKind} {v : Value} {d : DataW H} {p : List MemPlace} (ht : P.underlying t = some (.slice e)) (he : P.underlying e = some (.int k)) (hc : P.cellsOf e = 1)
    (hv : Value.okWide P w r b0 t v) (h : DataW.Trod enc P w base (fun _ => true) held t v d p) : ∃ A c l, v = .slice A (List.length l) c ∧ PxInts w k A c l := by
  obtain ⟨a, len, cap, rfl⟩ := okWide_slice ht hv
  obtain ⟨fuel, hf⟩ := h
  obtain ⟨A, c, l, hcs, hi⟩ := ints_of ht he hc hf
  simp [Value.cells] at hcs
  obtain ⟨rfl, rfl, rfl⟩ := hcs
  exact ⟨_, _, l, rfl, hi⟩
theorem open_st {r : Reach} {b0 : Nat} {t q e : TypeId} {k : IntKind} {f0 : Field} {v : Value} {d : DataW H} {p : List MemPlace} (hs : P.underlying t = some (.struct #[f0])) (hone : oneCellFields P #[f0] = true) (hC : P.cellsOf t = 1)
    (hq : f0.type = q) (ht : P.underlying q = some (.slice e)) (he : P.underlying e = some (.int k)) (hc : P.cellsOf e = 1)
    (hv : Value.okWide P w r b0 t v) (h : DataW.Trod enc P w base (fun _ => true) held t v d p) : ∃ A c l, v = .agg #[.slice A (List.length l) c] ∧ PxInts w k A c l := by
  subst hq
  obtain ⟨cs, rfl, hsz⟩ := okWide_struct hs hv
  obtain ⟨c0, rfl⟩ : ∃ c0, cs = #[c0] := by
    obtain ⟨l⟩ := cs
    match l, hsz.trans hC with
    | [c0], _ => exact ⟨c0, rfl⟩
  obtain ⟨fuel, hf⟩ := h
  obtain ⟨y0, n, _, _, h0⟩ := trod_struct1 hs hf
  obtain ⟨o0, k0⟩ := Go.Deep.hone_of hone 0 f0 rfl
  obtain ⟨A, c, l, hcs, hi⟩ := ints_of ht he hc (by simpa [Value.cells, o0, k0] using h0 : DataW.trod enc P w base (fun _ => true) held n f0.type [c0] = some y0)
  simp at hcs
  subst hcs
  exact ⟨A, c, l, rfl, hi⟩
/-- What is known of a slice of slices of whole numbers that came in. -/
structure PxRows (w : World) (k : IntKind) (q : TypeId) (A : Option Addr) (c : Nat) (l : List (List Int)) : Prop where
  le : l.length ≤ c
  c : Kd.C (Kd.slice q (Kd.int k)) w A l.length l
  m : l.length ≤ maxLen
  m2 : ∀ r ∈ l, r.length ≤ maxLen
  wf : ∀ r ∈ l, ∀ n ∈ r, (Lit.int k n).wf = true
theorem open_ss {r : Reach} {b0 : Nat} {t e q : TypeId} {k : IntKind} {v : Value} {d : DataW H} {p : List MemPlace} (ht : P.underlying t = some (.slice e)) (he : P.underlying e = some (.slice q)) (hq : P.underlying q = some (.int k))
    (ce : P.cellsOf e = 1) (cq : P.cellsOf q = 1)
    (hv : Value.okWide P w r b0 t v) (h : DataW.Trod enc P w base (fun _ => true) held t v d p) : ∃ A c l, v = .slice A (List.length l) c ∧ PxRows w k q A c l := by
  obtain ⟨a, len, cap, rfl⟩ := okWide_slice ht hv
  obtain ⟨fuel, hf⟩ := h
  rcases Go.Deep.open_int_rows ht he hq ce cq hf with ⟨hcs, _⟩ | ⟨x, len', cap', AA, L, C, Z, hcs, _, hl, hm, _, hr⟩
  · simp [Value.cells] at hcs
    obtain ⟨rfl, rfl, rfl⟩ := hcs
    exact ⟨none, 0, [], rfl, Nat.le_refl _, ⟨rfl, Nat.zero_le _, fun h => absurd h (Nat.lt_irrefl _)⟩, Nat.zero_le _, (fun _ h => by cases h), (fun _ h => by cases h)⟩
  · simp [Value.cells] at hcs
    obtain ⟨rfl, rfl, rfl⟩ := hcs
    have each : ∀ r, r < cap → PxInts w k (AA r) (C r) ((Z r).take (L r)) ∧ L r = ((Z r).take (L r)).length := by
      intro r hrc
      obtain ⟨_, h1, h2, h3, h4, h5, h6⟩ := hr r hrc
      have hz : ((Z r).take (L r)).length = L r := by rw [List.length_take]; omega
      refine ⟨⟨by omega, ⟨by rfl, by unfold maxLen at h2; omega, fun hp => ?_⟩, by omega, fun n hn => h4 n (List.mem_of_mem_take hn)⟩, hz.symm⟩
      cases ha : AA r with
      | none => have := h5 ha; omega
      | some ad =>
        refine ⟨ad, rfl, fun j p hj => ⟨[.int k p], rfl, rfl, fun i u hu => ?_⟩⟩
        have hj1 := (List.getElem?_eq_some_iff.1 hj).1
        have hjl : j < L r := by omega
        cases i with
        | succ i => simp at hu
        | zero =>
          simp at hu
          subst hu
          have := (h6 ad ha).2 j (by omega)
          rw [List.getD_eq_getElem?_getD, ← List.getElem?_take_of_lt hjl, hj] at this
          have e1 : j * (Kd.int k).sz + 0 = j := by show j * 1 + 0 = j; omega
          rw [e1]
          exact this
    refine ⟨some x, cap, (List.range len).map (fun r => (Z r).take (L r)), by simp, ⟨by simpa using hl, ⟨by simp, ?_, fun hp => ⟨x, rfl, fun j p hj => ?_⟩⟩, by simp; omega, ?_, ?_⟩⟩
    · simp; unfold maxLen at hm; omega
    · simp only [List.getElem?_map, Option.map_eq_some_iff] at hj
      obtain ⟨r, hr1, rfl⟩ := hj
      obtain ⟨hr2, hr3⟩ := List.getElem?_eq_some_iff.1 hr1
      simp at hr2 hr3
      subst hr3
      obtain ⟨hi, hL⟩ := each j (by omega)
      refine ⟨[.slice (AA j) ((Z j).take (L j)).length (C j)], rfl, ⟨AA j, C j, rfl, hi.le, hi.c⟩, fun i u hu => ?_⟩
      cases i with
      | succ i => simp at hu
      | zero =>
        simp only [List.getElem?_cons_zero, Option.some.injEq] at hu
        subst hu
        have e1 : j * (Kd.slice q (Kd.int k)).sz + 0 = j := by show j * 1 + 0 = j; omega
        rw [e1, ← hL]
        exact (hr j (by omega)).1
    · intro r hr1
      obtain ⟨j, hj, rfl⟩ := List.mem_map.1 hr1
      rw [List.mem_range] at hj
      exact (each j (by omega)).1.m
    · intro r hr1
      obtain ⟨j, hj, rfl⟩ := List.mem_map.1 hr1
      rw [List.mem_range] at hj
      exact (each j (by omega)).1.wf
end Go.Proofs.YtemkddgfneohhaaW.RowKit
end

section
namespace Go.Proofs.Ytemkddgfneohhaa.F
open Go.RowKit Go.Proofs.YtemkddgfneohhaaW.PrintWords Go.Proofs.YtemkddgfneohhaaW.PrintLast Go.Proofs.YtemkddgfneohhaaW.PrintMore Go.Proofs.YtemkddgfneohhaaW.RowKit
set_option linter.unusedVariables false
def laws_FnExactRankLabels.Pure : Prop := ∀ (l0 : List Int) (l1 : List Int) (a2 : Int), l0.length ≤ maxLen → (∀ n ∈ l0, (Lit.int .i64 n).wf = true) → l1.length ≤ maxLen → (∀ n ∈ l1, (Lit.int .i64 n).wf = true) → (Lit.int .i64 a2).wf = true → ∃ k, laws_FnExactRankLabels.f k l0 l1 a2 = some true
theorem laws_FnExactRankLabels.walk (P : laws_FnExactRankLabels.Pure) (A0 : Option Addr) (c0 : Nat) (l0 : List Int) (A1 : Option Addr) (c1 : Nat) (l1 : List Int) (a2 : Int) (w : World) (i0 : PxInts w .i64 A0 c0 l0) (i1 : PxInts w .i64 A1 c1 l1) (w2 : (Lit.int .i64 a2).wf = true) :
    Calls Try.prog 11 #[.agg #[.slice A0 l0.length c0], .slice A1 l1.length c1, .int .i64 a2] w fun e w' => e = .returned (.bool true) ∧ Below w.heap.size w w' := by
  obtain ⟨k, h⟩ := P l0 l1 a2 i0.m i0.wf i1.m i1.wf w2
  refine (laws_FnExactRankLabels.calls k _ _ l0 _ _ l1 a2 true w i0.c i0.le i1.c i1.le h).mono ?_
  rintro e w' ⟨rfl, hd⟩
  exact ⟨rfl, hd⟩
end Go.Proofs.Ytemkddgfneohhaa.F
end

section
namespace Go.Proofs.Ytemkddgfneohhaa.Q
open Go.RowKit Go.Proofs.YtemkddgfneohhaaW.PrintWords Go.Proofs.Ytemkddgfneohhaa.F
set_option linter.unusedVariables false
theorem cmpInt_lt {a b : Int} (h : a < b) : cmp_Compare_int.f a b = some (-1) := by
  unfold cmp_Compare_int.f; simp [h, cmp_isNaN_int.f]
theorem cmpInt_gt {a b : Int} (h : b < a) : cmp_Compare_int.f a b = some 1 := by
  unfold cmp_Compare_int.f; simp [h, Int.not_lt.2 (Int.le_of_lt h), cmp_isNaN_int.f]
theorem cmpInt_eq (a : Int) : cmp_Compare_int.f a a = some 0 := by
  unfold cmp_Compare_int.f; simp [cmp_isNaN_int.f]
theorem cmp_same {a : List Int} (h : a.length ≤ 1000) : ∀ d i k, i + d = a.length → d < k → slices_Compare_int_int.l0 k a a a (a.length : Int) (i : Int) = some 0
  | 0, i, k, hi, hk => by
    obtain ⟨k, rfl⟩ : ∃ k', k = k' + 1 := ⟨k - 1, by omega⟩
    unfold slices_Compare_int_int.l0
    rw [if_neg (by omega), if_neg (by omega)]
  | d + 1, i, k, hi, hk => by
    obtain ⟨k, rfl⟩ : ∃ k', k = k' + 1 := ⟨k - 1, by omega⟩
    unfold slices_Compare_int_int.l0
    rw [if_pos (by omega), if_pos (by omega), if_pos (by omega), if_neg (by omega), if_pos (by omega), cmpInt_eq, Option.bind_some, if_pos rfl, wid1 (n := a.length) (by omega) (by omega)]
    exact cmp_same h d (i + 1) k (by omega) (by omega)
theorem cmp_first {a b : List Int} (hl : a.length = b.length) (h : a.length ≤ 1000) {j : Nat} (hj : j < a.length) {v : Int} (hv : v ≠ 0) (he : cmp_Compare_int.f (a.getD j 0) (b.getD j 0) = some v) : ∀ d i k, i + d = j → (∀ t, i ≤ t → t < j → a.getD t 0 = b.getD t 0) → d < k → slices_Compare_int_int.l0 k a b a (a.length : Int) (i : Int) = some v
  | 0, i, k, hi, _, hk => by
    obtain ⟨k, rfl⟩ : ∃ k', k = k' + 1 := ⟨k - 1, by omega⟩
    have : i = j := by omega
    subst this
    unfold slices_Compare_int_int.l0
    rw [if_pos (by omega), if_pos (by omega), if_pos (by omega), if_neg (by omega), if_pos (by omega), rdN, rdN, he, Option.bind_some, if_neg hv]
  | d + 1, i, k, hi, hs, hk => by
    obtain ⟨k, rfl⟩ : ∃ k', k = k' + 1 := ⟨k - 1, by omega⟩
    unfold slices_Compare_int_int.l0
    rw [if_pos (by omega), if_pos (by omega), if_pos (by omega), if_neg (by omega), if_pos (by omega), rdN, rdN, hs i (Nat.le_refl _) (by omega), cmpInt_eq, Option.bind_some, if_pos rfl, wid1 (n := a.length) (by omega) (by omega)]
    exact cmp_first hl h hj hv he d (i + 1) k (by omega) (fun t h1 h2 => hs t (by omega) h2) (by omega)
theorem lex_at {a b : List Nat} (hl : a.length = b.length) (h : lexN a b) : ∃ j, j < a.length ∧ (∀ i, i < j → a.getD i 0 = b.getD i 0) ∧ a.getD j 0 < b.getD j 0 := by
  obtain ⟨j, h1, h2⟩ := h
  refine ⟨j, ?_, h1, h2⟩
  rcases Nat.lt_or_ge j a.length with h3 | h3
  · exact h3
  · rw [List.getD_eq_getElem?_getD, List.getD_eq_getElem?_getD, List.getElem?_eq_none h3, List.getElem?_eq_none (by omega)] at h2
    exact absurd h2 (Nat.lt_irrefl _)
theorem cmp_lt {a b : List Nat} (hl : a.length = b.length) (h : a.length ≤ 1000) (hx : lexN a b) {k : Nat} (hk : a.length ≤ k) : slices_Compare_int_int.f k (ints a) (ints b) = some (-1) := by
  obtain ⟨j, h1, h2, h3⟩ := lex_at hl hx
  unfold slices_Compare_int_int.f
  exact cmp_first (by rw [ints_len, ints_len, hl]) (by rw [ints_len]; exact h) (j := j) (by rw [ints_len]; exact h1) (by decide) (cmpInt_lt (by rw [ints_get, ints_get]; omega)) j 0 k (by omega) (fun t _ ht => by rw [ints_get, ints_get, h2 t ht]) (by omega)
theorem cmp_gt {a b : List Nat} (hl : a.length = b.length) (h : a.length ≤ 1000) (hx : lexN b a) {k : Nat} (hk : a.length ≤ k) : slices_Compare_int_int.f k (ints a) (ints b) = some 1 := by
  obtain ⟨j, h1, h2, h3⟩ := lex_at hl.symm hx
  unfold slices_Compare_int_int.f
  exact cmp_first (by rw [ints_len, ints_len, hl]) (by rw [ints_len]; exact h) (j := j) (by rw [ints_len]; omega) (by decide) (cmpInt_gt (by rw [ints_get, ints_get]; omega)) j 0 k (by omega) (fun t _ ht => by rw [ints_get, ints_get, h2 t ht]) (by omega)
theorem cmp_eq {a : List Nat} (h : a.length ≤ 1000) {k : Nat} (hk : a.length < k) : slices_Compare_int_int.f k (ints a) (ints a) = some 0 := by
  unfold slices_Compare_int_int.f
  exact cmp_same (by rw [ints_len]; exact h) _ 0 k (by rw [Nat.zero_add]) (by rw [ints_len]; exact hk)
theorem mid_eq {a b : Nat} (h : a + b ≤ 100000) : wrap64 ((IntKind.u64.wrap (wrap64 ((a : Int) + (b : Int)))) / 2) = (((a + b) / 2 : Nat) : Int) := by
  rw [wid (n := (a : Int) + b) (by omega) (by omega), IntKind.wrap_u64, wid (by omega) (by omega)]
  omega
theorem search_run (F : List Int → List Int → Option Int) {l : List (List Nat)} {f : List Int} (hl : l.length ≤ 1000) {i : Nat} (hi : i < l.length) (hlo : ∀ h, (hh : h < l.length) → h < i → F (ints l[h]) f = some (-1)) (hhi : ∀ h, (hh : h < l.length) → i < h → F (ints l[h]) f = some 1) (heq : F (ints l[i]) f = some 0) :
    ∀ d lo hi' k, lo ≤ i → i ≤ hi' → hi' ≤ l.length → hi' - lo ≤ d → d < k → BinarySearchFunc_rank.l0 F k (l.map ints) f (l.length : Int) (lo : Int) (hi' : Int) = some ((i : Int), true) := by
  have row : ∀ h, (hh : h < l.length) → rd_L1 (l.map ints) (h : Int) = ints l[h] := fun h hh => by
    unfold rd_L1
    rw [Int.toNat_natCast, List.getD_eq_getElem?_getD, List.getElem?_map, List.getElem?_eq_getElem hh]; rfl
  intro d
  induction d with
  | zero =>
    intro lo hi' k h1 h2 h3 h4 h5
    obtain ⟨k, rfl⟩ : ∃ k', k = k' + 1 := ⟨k - 1, by omega⟩
    have : lo = i := by omega
    subst this
    unfold BinarySearchFunc_rank.l0
    rw [if_neg (by omega), if_pos (by omega), if_pos (by omega), if_pos (by rw [List.length_map]; omega), row lo hi, heq]
    rfl
  | succ d ih =>
    intro lo hi' k h1 h2 h3 h4 h5
    by_cases hlt : lo < hi'
    rotate_left
    · exact ih lo hi' k h1 h2 h3 (by omega) (by omega)
    obtain ⟨k, rfl⟩ : ∃ k', k = k' + 1 := ⟨k - 1, by omega⟩
    unfold BinarySearchFunc_rank.l0
    rw [mid_eq (by omega)]
    have hm : (lo + hi') / 2 < l.length := by omega
    have hm1 : lo ≤ (lo + hi') / 2 := by omega
    have hm2 : (lo + hi') / 2 < hi' := by omega
    generalize (lo + hi') / 2 = c at *
    rw [if_pos (by omega), if_pos (by omega), if_pos (by rw [List.length_map]; omega), row c hm]
    rcases Nat.lt_trichotomy c i with h6 | h6 | h6
    · rw [hlo c hm h6, Option.bind_some, if_pos (by decide), wid1 (n := l.length) hm (by omega)]
      exact ih (c + 1) hi' k (by omega) h2 h3 (by omega) (by omega)
    · subst h6
      rw [heq, Option.bind_some, if_neg (by decide)]
      exact ih lo c k h1 (Nat.le_refl _) (by omega) (by omega) (by omega)
    · rw [hhi c hm h6, Option.bind_some, if_neg (by decide)]
      exact ih lo c k h1 (by omega) (by omega) (by omega) (by omega)
/-- Labels as told, as natural numbers. -/
theorem lab_nat {p f : List Int} {q : Nat} (hp : PO p) (h : labA p f (q : Int) 0 = true) (hq : q ≤ 1000) : ∃ g, f = ints g ∧ LabN p q g := by
  unfold labA at h
  rw [Bool.and_eq_true, Bool.and_eq_true, decide_eq_true_eq, allFrom_iff, allFrom_iff] at h
  obtain ⟨h1, h2, h3⟩ := h
  have hr : ∀ i, i < f.length → 0 ≤ f.getD i 0 ∧ f.getD i 0 ≤ (q : Int) := fun i hi => inR_iff.1 (h2 i (Nat.zero_le _) hi)
  obtain ⟨g, hg⟩ : ∃ g, g = f.map Int.toNat := ⟨_, rfl⟩
  have hgi : ∀ i, i < f.length → ((g.getD i 0 : Nat) : Int) = f.getD i 0 := fun i hi => by
    have := hr i hi
    have e1 : f.getD i 0 = f[i] := by rw [List.getD_eq_getElem?_getD, List.getElem?_eq_getElem hi]; rfl
    have e2 : g.getD i 0 = f[i].toNat := by rw [hg, List.getD_eq_getElem?_getD, List.getElem?_map, List.getElem?_eq_getElem hi]; rfl
    rw [e1] at this
    rw [e1, e2]
    omega
  refine ⟨g, ?_, ?_, fun i hi => ?_, fun i hi j hj => ?_⟩
  · refine ext_getD (by rw [ints_len, hg, List.length_map]) fun i hi => ?_
    rw [ints_get, hgi i hi]
  · rw [hg, List.length_map, h1]
  · have := hr i (by omega)
    have := hgi i (by omega)
    omega
  · have hji : j < i := lt_of_bit (hp.lt i hi) hj
    have h5 := (allFrom_iff _ _ _).1 (h3 i (Nat.zero_le _) (by omega)) j (Nat.zero_le _) hji
    rw [hj, Bool.not_true, Bool.false_or, Bool.not_eq_true', decide_eq_false_iff_not] at h5
    have k1 := hr j (by omega)
    have k2 := hgi i (by omega)
    have k3 := hgi j (by omega)
    rw [Int.add_zero, wid (by omega) (by omega)] at h5
    omega
theorem RankLabels_same (p : List Int) (hp : p.length ≤ 1048576) (_ : ∀ n ∈ p, (Lit.int .i64 n).wf = true) (f : List Int) (hf : f.length ≤ 1048576) (_ : ∀ n ∈ f, (Lit.int .i64 n).wf = true) (m : Int) (_ : (Lit.int .i64 m).wf = true) :
    ∃ r, Ev (fun k => spec_RankLabels.f k p f m) r ∧ Ev (fun k => impl_RankLabels.f k p f m) r ∧ True := by
  unfold spec_RankLabels.f impl_RankLabels.f
  have sstop : Ev (fun k => spec_RankLabels.j0 k f m true p) (0, false) := Ev.step (by intro k; simp only [spec_RankLabels.j0]; rfl) (Ev.yes (show true = true from rfl) (Ev.now _))
  have istop : ∀ {g : Nat → Option (Int × Bool)}, (isPo p && (isB m && labA p f m 0)) = false → Ev (fun k => (impl_labelled.f k p f m).bind fun b => if b = true then g k else some (0, false)) (0, false) := fun h => by
    refine Ev.bind (labelled_ev p f m) ?_
    rw [h]; exact Ev.no (by simp) (Ev.now _)
  cases hpo : isPo p with
  | false =>
    refine ⟨(0, false), Ev.bind (a := false) ?_ (Ev.no (by simp) sstop), istop (by rw [hpo]; rfl), trivial⟩
    unfold spec_laFew.f
    refine Ev.bind (poGood_ev p) ?_
    rw [hpo]; exact Ev.no (by simp) (Ev.now _)
  | true =>
    have hP := (isPo_iff p).1 hpo
    have hn := hP.small
    by_cases hm : 0 ≤ m ∧ m ≤ 12
    rotate_left
    · have hB : isB m = false := by
        cases h : isB m with
        | false => rfl
        | true => exact absurd (inR_iff.1 h) hm
      refine ⟨(0, false), Ev.bind (a := false) ?_ (Ev.no (by simp) sstop), istop (by rw [hpo, hB]; rfl), trivial⟩
      unfold spec_laFew.f
      refine Ev.bind (poGood_ev p) ?_
      rw [hpo]; refine Ev.yes rfl ?_
      rw [laBound_eq, range_false hm]
      exact Ev.call rfl (Ev.no (by simp) (Ev.now _))
    have hB : isB m = true := inR_iff.2 hm
    obtain ⟨q, rfl⟩ := Int.eq_ofNat_of_zero_le hm.1
    have hcount := labs_count hP q
    have hfew : Ev (fun k => spec_laFew.f k p (q : Int)) (decide (((wvN (stB p false) (idealsN p) (q + 1) (allN p) : Nat) : Int) ≤ 1000)) := by
      unfold spec_laFew.f
      refine Ev.bind (poGood_ev p) ?_
      rw [hpo]; refine Ev.yes rfl ?_
      rw [laBound_eq, range_true hm]
      refine Ev.call rfl (Ev.yes rfl ?_)
      rw [show wrap64 ((q : Int) + 1) = ((q + 1 : Nat) : Int) by rw [wid (by omega) (by omega)]; omega]
      exact Ev.bind (laChains_ev hP false (by omega)) (Ev.now _)
    cases hlab : labA p f (q : Int) 0 with
    | false =>
      refine ⟨(0, false), Ev.bind hfew ?_, istop (by rw [hpo, hB, hlab]; rfl), trivial⟩
      by_cases hbig : ((wvN (stB p false) (idealsN p) (q + 1) (allN p) : Nat) : Int) ≤ 1000
      · rw [decide_eq_true hbig]
        refine Ev.yes rfl (Ev.bind (laAre_ev hP f (q : Int) 0) ?_)
        rw [hlab]; exact sstop
      · rw [decide_eq_false hbig]; exact Ev.no (by simp) sstop
    | true =>
    have hgo : (isPo p && (isB (q : Int) && labA p f (q : Int) 0)) = true := by rw [hpo, hB, hlab]; rfl
    by_cases hbig : ((wvN (stB p false) (idealsN p) (q + 1) (allN p) : Nat) : Int) ≤ 1000
    rotate_left
    · refine ⟨(0, false), Ev.bind hfew ?_, Ev.bind (labelled_ev p f (q : Int)) ?_, trivial⟩
      · rw [decide_eq_false hbig]; exact Ev.no (by simp) sstop
      · rw [hgo]
        exact Ev.yes rfl (Ev.bind (count_ev hP (by omega)) (Ev.yes (by omega) (Ev.now _)))
    have hlen : (labsN p q).length ≤ 1000 := by rw [hcount]; omega
    obtain ⟨g, rfl, hg⟩ := lab_nat hP hlab (by omega)
    obtain ⟨i, hi, hgi⟩ := List.getElem_of_mem ((mem_labsN hP q g).2 hg)
    have hlenr : ∀ h, (hh : h < (labsN p q).length) → (labsN p q)[h].length = p.length := fun h hh => ((mem_labsN hP q _).1 (List.getElem_mem hh)).len
    have hsort := List.pairwise_iff_getElem.1 (labsN_sorted hP q)
    have hw1 : g.length = p.length := hg.len
    refine ⟨((i : Int), true), Ev.bind hfew ?_, Ev.bind (labelled_ev p _ (q : Int)) ?_, trivial⟩
    · rw [decide_eq_true hbig]
      refine Ev.yes rfl (Ev.bind (laAre_ev hP _ (q : Int) 0) ?_)
      rw [hlab]
      show Ev (fun k => spec_RankLabels.j0 k (ints g) (q : Int) false p) _
      refine Ev.step (by intro k; simp only [spec_RankLabels.j0]; rfl) (Ev.no (by simp) (Ev.bind (labs_ev hP (by omega) (most := 1000) (by omega) hlen) ?_))
      rw [List.length_map]
      have key : ∀ j, j ≤ (labsN p q).length → Ev (fun k => spec_RankLabels.l0 k (ints g) (if i < j then (i : Int) else 0) ((labsN p q).map ints) ((labsN p q).length : Int) (j : Int)) ((i : Int), true) := by
        refine downTo _ ?_ ?_
        · rw [if_pos hi]
          exact Ev.step (by intro k; simp only [spec_RankLabels.l0]; rfl) (Ev.no (by omega) (Ev.now _))
        · intro j hj ih
          refine Ev.step (by intro k; simp only [spec_RankLabels.l0]; rfl) (Ev.yes (by omega) (Ev.yes (by omega) (Ev.yes (by rw [List.length_map]; omega) ?_)))
          have row : rd_L1 ((labsN p q).map ints) (j : Int) = ints (labsN p q)[j] := by
            unfold rd_L1
            rw [Int.toNat_natCast, List.getD_eq_getElem?_getD, List.getElem?_map, List.getElem?_eq_getElem hj]; rfl
          rw [row, wid1 (n := (labsN p q).length) hj (by omega)]
          refine Ev.bind (l1Same_ev (by rw [ints_len, ints_len, hlenr j hj, hw1]) (by rw [ints_len, hlenr j hj]; omega)) ?_
          by_cases hji : j = i
          · subst hji
            rw [hgi, decide_eq_true rfl]
            refine Ev.yes rfl ?_
            rw [if_pos (by omega)] at ih
            exact ih
          · have hne : (labsN p q)[j] ≠ g := fun e => by
              rcases Nat.lt_or_gt_of_ne hji with h | h
              · have := hsort j i hj hi h
                rw [e, hgi] at this
                exact lexN_irr _ this
              · have := hsort i j hi hj h
                rw [e, hgi] at this
                exact lexN_irr _ this
            have hne2 : ints (labsN p q)[j] ≠ ints g := fun e => hne (by
              refine ext_nat (by rw [hlenr j hj, hw1]) fun t ht => ?_
              have e1 := ints_get (labsN p q)[j] t
              rw [e, ints_get] at e1
              omega)
            rw [decide_eq_false hne2]
            refine Ev.no (by simp) ?_
            by_cases h : i < j
            · rw [if_pos h]; rw [if_pos (by omega)] at ih; exact ih
            · rw [if_neg h]; rw [if_neg (by omega)] at ih; exact ih
      have := key 0 (Nat.zero_le _)
      rw [if_neg (by omega)] at this
      exact this
    · rw [hgo]
      refine Ev.yes rfl (Ev.bind (count_ev hP (by omega)) (Ev.no (by omega) (Ev.bind (labels_ev hP (by omega) (by omega)) ?_)))
      refine ⟨1001, fun k hk => ?_⟩
      have h := search_run (fun x y => slices_Compare_int_int.f k x y) (l := labsN p q) (f := ints g) hlen hi
        (fun h hh hlt => cmp_lt (by rw [hlenr h hh, hw1]) (by rw [hlenr h hh]; omega) (by have := hsort h i hh hi hlt; rw [hgi] at this; exact this) (by rw [hlenr h hh]; omega))
        (fun h hh hlt => cmp_gt (by rw [hlenr h hh, hw1]) (by rw [hlenr h hh]; omega) (by have := hsort i h hi hh hlt; rw [hgi] at this; exact this) (by rw [hlenr h hh]; omega))
        (by rw [hgi]; exact cmp_eq (by omega) (by omega)) (labsN p q).length 0 (labsN p q).length k (Nat.zero_le _) (by omega) (Nat.le_refl _) (by omega) (by omega)
      show (BinarySearchFunc_rank.f (fun x y => slices_Compare_int_int.f k x y) k ((labsN p q).map ints) (ints g)).bind _ = _
      unfold BinarySearchFunc_rank.f
      rw [List.length_map]
      rw [show ((0 : Nat) : Int) = 0 from rfl] at h
      rw [h]; rfl
theorem FnExactRankLabels : laws_FnExactRankLabels.Pure := by
  intro l0 l1 a2 hm_l0 hw_l0 hm_l1 hw_l1 hw_a2
  by_cases hb_l1 : ((l1.length : Int) > 1048576)
  · exact ⟨0, by unfold laws_FnExactRankLabels.f; exact if_pos ⟨0, (Or.inl ⟨(), decide_eq_true hb_l1⟩)⟩⟩
  have hl_l1 : l1.length ≤ 1048576 := by omega
  by_cases hl_l0 : l0.length ≤ 1048576
  rotate_left
  · exact ⟨0, by unfold laws_FnExactRankLabels.f; exact if_pos ⟨0, (Or.inr (Or.inl ⟨-1, decide_eq_false hb_l1, (szPoset_eq l0 1048576 (by omega) hm_l0).trans (by rw [if_neg hl_l0]), by decide⟩))⟩⟩
  obtain ⟨r, hs_, hi_, hr_⟩ := RankLabels_same l0 hl_l0 hw_l0 l1 hl_l1 hw_l1 a2 hw_a2
  obtain ⟨K0, e0⟩ := toPoset_ev l0 hl_l0
  obtain ⟨K1, e1⟩ := toIntS_ev l1 hl_l1
  obtain ⟨K2, e2⟩ := hs_
  obtain ⟨K3, e3⟩ := hi_
  obtain ⟨K4, e4⟩ := eqPoset_refl l0 (by omega)
  obtain ⟨K5, e5⟩ := eqIntS_refl l1 (by omega)
  obtain ⟨K, hK_⟩ : ∃ K, K = 0 + K0 + K1 + K2 + K3 + K4 + K5 := ⟨_, rfl⟩
  refine ⟨K, ?_⟩
  unfold laws_FnExactRankLabels.f
  exact if_pos ⟨K, Or.inr (Or.inr (⟨((1048576 - l0.length : Nat) : Int), r.1, r.2, decide_eq_false hb_l1, (szPoset_eq l0 1048576 (by omega) hm_l0).trans (by rw [if_pos hl_l0]), decide_eq_false (by omega), e0 K (by omega), e1 K (by omega), e2 K (by omega), e3 K (by omega), e4 K (by omega), e5 K (by omega)⟩))⟩
end Go.Proofs.Ytemkddgfneohhaa.Q
end
