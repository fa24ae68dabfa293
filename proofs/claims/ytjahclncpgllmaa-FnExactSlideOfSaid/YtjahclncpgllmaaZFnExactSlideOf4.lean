/- Part 4 of the texts below the row of FnExactSlideOf: printed functions with their contracts, and plain lemmas. No condition. -/
import Derived.Test.YtjahclncpgllmaaZFnExactSlideOf3
import Derived.SizedLaws
import Derived.ChangeSlices
import Derived.WalkKit
import Derived.ProofKit
import Derived.OpenShut
import Derived.Lib.SmallJoins
import Derived.Deep.Matrix
section
section
namespace Go.Proofs.YtjahclncpgllmaaW.PrintWords
open Go.ChangeShapes Go.WideShapes
/-- A row's slice of whole numbers is no longer than its weight allows. -/
theorem sized_ints {H : Type} {enc : TypeId × Value → H} {P : Program} {W : World} {base : Nat} {spare : Nat → Bool} {held : Bool} {t e : TypeId} {k : IntKind} {a : Option Addr} {len cap : Nat} {d : DataW H} {ps : List MemPlace} {ts : List TypeId} {ds : List (DataW H)} {j : Nat}
    (hsz : (DataW.weightsEach P ts ds).all (· ≤ reachBytes) = true) (ht : ts[j]? = some t) (hd : ds[j]? = some d) (hu : P.underlying t = some (.slice e)) (he : P.underlying e = some (.int k)) (hc : P.cellsOf e = 1) {B : Nat} (hB : P.bytesOf e = B)
    (h : DataW.Trod enc P W base spare held t (.slice a len cap) d ps) : len * B ≤ 140737488351232 := by
  obtain ⟨fuel, hf⟩ := h
  rcases open_ints hu he hc hf with ⟨hcs, _⟩ | ⟨x, l, c, zs, hcs, _, hl, _, hz, hx, _, _⟩
  · simp [Value.cells] at hcs
    obtain ⟨rfl, rfl, rfl⟩ := hcs
    simp
  · simp [Value.cells] at hcs
    obtain ⟨rfl, rfl, rfl⟩ := hcs
    obtain ⟨hx, _⟩ := Prod.mk.inj hx
    subst hx
    have z := sized_slice hsz ht hd hu
    rw [hB] at z
    have hl2 : len ≤ zs.length := by
      rw [hz]
      split
      · exact hl
      · exact Nat.le_refl _
    have h1 : (lits (H := H) k (zs.take len)).length + (lits (H := H) k (zs.drop len)).length = zs.length := by
      simp [lits]
      omega
    rw [h1] at z
    exact Nat.le_trans (Nat.mul_le_mul_right _ hl2) z
end Go.Proofs.YtjahclncpgllmaaW.PrintWords
end
end

section
namespace Go.Proofs.YtjahclncpgllmaaW.RowKit
open Go.ChangeShapes Go.WideShapes Go.Deep Go.RowKit Go.Proofs.YtjahclncpgllmaaW.PrintWords
variable {H : Type} {enc : TypeId × Value → H} {P : Program} {w : World} {base : Nat} {held : Bool}
/-- What is known of a slice of whole numbers that came in. -/
structure PxInts (w : World) (k : IntKind) (A : Option Addr) (c : Nat) (l : List Int) : Prop where
  le : l.length ≤ c
  c : Kd.C (Kd.int k) w A l.length l
  m : l.length ≤ maxLen
  wf : ∀ n ∈ l, (Lit.int k n).wf = true
theorem ints_of {t e : TypeId} {k : IntKind} {fuel : Nat} {cs : List Value} {x : DataW H × List MemPlace} (ht : P.underlying t = some (.slice e)) (he : P.underlying e = some (.int k)) (hc : P.cellsOf e = 1)
    (h : DataW.trod enc P w base (fun _ => true) held fuel t cs = some x) : ∃ A c l, cs = [.slice A (List.length l) c] ∧ PxInts w k A c l := by
  rcases open_ints ht he hc h with ⟨hcs, _⟩ | ⟨a, len, cap, zs, hcs, _, hl, hm, hz, _, hcell, hwz⟩
  · obtain ⟨l, e1, h1, h2, h3, h4⟩ := ReadsInt.ofRowC (k := k) (w := w) (a := none) (len := 0) (cap := 0) (zs := []) (.inl ⟨rfl, rfl, rfl, rfl⟩)
    exact ⟨none, 0, l, by rw [hcs, ← e1], h4, Kd.C_of_reads (d := (0 : Int)) (h1 := fun _ => rfl) h1, h2, h3⟩
  · obtain ⟨l, e1, h1, h2, h3, h4⟩ := ReadsInt.ofRowC (k := k) (w := w) (a := some a) (len := len) (cap := cap) (zs := zs) (.inr ⟨_, rfl, hl, hm, by simpa using hz, hcell, hwz⟩)
    exact ⟨some a, cap, l, by rw [hcs, ← e1], h4, Kd.C_of_reads (d := (0 : Int)) (h1 := fun _ => rfl) h1, h2, h3⟩
theorem open_sl {r : Reach} {b0 : Nat} {t e : TypeId} {k : IntKind} {v : Value} {d : DataW H} {p : List MemPlace} (ht : P.underlying t = some (.slice e)) (he : P.underlying e = some (.int k)) (hc : P.cellsOf e = 1)
    (hv : Value.okWide P w r b0 t v) (h : DataW.Trod enc P w base (fun _ => true) held t v d p) : ∃ A c l, v = .slice A (List.length l) c ∧ PxInts w k A c l := by
  obtain ⟨a, len, cap, rfl⟩ := okWide_slice ht hv
  obtain ⟨fuel, hf⟩ := h
  obtain ⟨A, c, l, hcs, hi⟩ := ints_of ht he hc hf
  simp [Value.cells] at hcs
  obtain ⟨rfl, rfl, rfl⟩ := hcs
  exact ⟨_, _, l, rfl, hi⟩
theorem open_st {r : Reach} {b0 : Nat} {t q e : TypeId} {k : IntKind} {f0 : Field} {v : Value} {d : DataW H} {p : List MemPlace} (hs : P.underlying t = some (.struct #[f0])) (hone : oneCellFields P #[f0] = true) (hC : P.cellsOf t = 1)
    (hq : f0.type = q) (ht : P.underlying q = some (.slice e)) (he : P.underlying e = some (.int k)) (hc : P.cellsOf e = 1)
    (hv : Value.okWide P w r b0 t v) (h : DataW.Trod enc P w base (fun _ => true) held t v d p) : ∃ A c l, v = .agg #[.slice A (List.length l) c] ∧ PxInts w k A c l := by
  subst hq
  obtain ⟨cs, rfl, hsz⟩ := okWide_struct hs hv
  obtain ⟨c0, rfl⟩ : ∃ c0, cs = #[c0] := by
    obtain ⟨l⟩ := cs
    match l, hsz.trans hC with
    | [c0], _ => exact ⟨c0, rfl⟩
  obtain ⟨fuel, hf⟩ := h
  obtain ⟨y0, n, _, _, h0⟩ := trod_struct1 hs hf
  obtain ⟨o0, k0⟩ := Go.Deep.hone_of hone 0 f0 rfl
  obtain ⟨A, c, l, hcs, hi⟩ := ints_of ht he hc (by simpa [Value.cells, o0, k0] using h0 : DataW.trod enc P w base (fun _ => true) held n f0.type [c0] = some y0)
  simp at hcs
  subst hcs
  exact ⟨A, c, l, rfl, hi⟩
/-- What is known of a slice of slices of whole numbers that came in. -/
structure PxRows (w : World) (k : IntKind) (q : TypeId) (A : Option Addr) (c : Nat) (l : List (List Int)) : Prop where
  le : l.length ≤ c
  c : Kd.C (Kd.slice q (Kd.int k)) w A l.length l
  m : l.length ≤ maxLen
  m2 : ∀ r ∈ l, r.length ≤ maxLen
  wf : ∀ r ∈ l, ∀ n ∈ r, (Lit.int k n).wf = true
theorem open_ss {r : Reach} {b0 : Nat} {t e q : TypeId} {k : IntKind} {v : Value} {d : DataW H} {p : List MemPlace} (ht : P.underlying t = some (.slice e)) (he : P.underlying e = some (.slice q)) (hq : P.underlying q = some (.int k))
    (ce : P.cellsOf e = 1) (cq : P.cellsOf q = 1)
    (hv : Value.okWide P w r b0 t v) (h : DataW.Trod enc P w base (fun _ => true) held t v d p) : ∃ A c l, v = .slice A (List.length l) c ∧ PxRows w k q A c l := by
  obtain ⟨a, len, cap, rfl⟩ := okWide_slice ht hv
  obtain ⟨fuel, hf⟩ := h
  rcases Go.Deep.open_int_rows ht he hq ce cq hf with ⟨hcs, _⟩ | ⟨x, len', cap', AA, L, C, Z, hcs, _, hl, hm, _, hr⟩
  · simp [Value.cells] at hcs
    obtain ⟨rfl, rfl, rfl⟩ := hcs
    exact ⟨none, 0, [], rfl, Nat.le_refl _, ⟨rfl, Nat.zero_le _, fun h => absurd h (Nat.lt_irrefl _)⟩, Nat.zero_le _, (fun _ h => by cases h), (fun _ h => by cases h)⟩
  · simp [Value.cells] at hcs
    obtain ⟨rfl, rfl, rfl⟩ := hcs
    have each : ∀ r, r < cap → PxInts w k (AA r) (C r) ((Z r).take (L r)) ∧ L r = ((Z r).take (L r)).length := by
      intro r hrc
      obtain ⟨_, h1, h2, h3, h4, h5, h6⟩ := hr r hrc
      have hz : ((Z r).take (L r)).length = L r := by rw [List.length_take]; omega
      refine ⟨⟨by omega, ⟨by rfl, by unfold maxLen at h2; omega, fun hp => ?_⟩, by omega, fun n hn => h4 n (List.mem_of_mem_take hn)⟩, hz.symm⟩
      cases ha : AA r with
      | none => have := h5 ha; omega
      | some ad =>
        refine ⟨ad, rfl, fun j p hj => ⟨[.int k p], rfl, rfl, fun i u hu => ?_⟩⟩
        have hj1 := (List.getElem?_eq_some_iff.1 hj).1
        have hjl : j < L r := by omega
        cases i with
        | succ i => simp at hu
        | zero =>
          simp at hu
          subst hu
          have := (h6 ad ha).2 j (by omega)
          rw [List.getD_eq_getElem?_getD, ← List.getElem?_take_of_lt hjl, hj] at this
          have e1 : j * (Kd.int k).sz + 0 = j := by show j * 1 + 0 = j; omega
          rw [e1]
          exact this
    refine ⟨some x, cap, (List.range len).map (fun r => (Z r).take (L r)), by simp, ⟨by simpa using hl, ⟨by simp, ?_, fun hp => ⟨x, rfl, fun j p hj => ?_⟩⟩, by simp; omega, ?_, ?_⟩⟩
    · simp; unfold maxLen at hm; omega
    · simp only [List.getElem?_map, Option.map_eq_some_iff] at hj
      obtain ⟨r, hr1, rfl⟩ := hj
      obtain ⟨hr2, hr3⟩ := List.getElem?_eq_some_iff.1 hr1
      simp at hr2 hr3
      subst hr3
      obtain ⟨hi, hL⟩ := each j (by omega)
      refine ⟨[.slice (AA j) ((Z j).take (L j)).length (C j)], rfl, ⟨AA j, C j, rfl, hi.le, hi.c⟩, fun i u hu => ?_⟩
      cases i with
      | succ i => simp at hu
      | zero =>
        simp only [List.getElem?_cons_zero, Option.some.injEq] at hu
        subst hu
        have e1 : j * (Kd.slice q (Kd.int k)).sz + 0 = j := by show j * 1 + 0 = j; omega
        rw [e1, ← hL]
        exact (hr j (by omega)).1
    · intro r hr1
      obtain ⟨j, hj, rfl⟩ := List.mem_map.1 hr1
      rw [List.mem_range] at hj
      exact (each j (by omega)).1.m
    · intro r hr1
      obtain ⟨j, hj, rfl⟩ := List.mem_map.1 hr1
      rw [List.mem_range] at hj
      exact (each j (by omega)).1.wf
end Go.Proofs.YtjahclncpgllmaaW.RowKit
end

section
namespace Go.Proofs.Ytjahclncpgllmaa.F
open Go.RowKit Go.Proofs.YtjahclncpgllmaaW.PrintWords Go.Proofs.YtjahclncpgllmaaW.PrintLast Go.Proofs.YtjahclncpgllmaaW.PrintMore Go.Proofs.YtjahclncpgllmaaW.RowKit
set_option linter.unusedVariables false
def laws_FnExactSlideOf.Pure : Prop := ∀ (l0 : List Int) (l1 : List Int), l0.length ≤ maxLen → (∀ n ∈ l0, (Lit.int .i64 n).wf = true) → l1.length ≤ maxLen → (∀ n ∈ l1, (Lit.int .i64 n).wf = true) → ∃ k, laws_FnExactSlideOf.f k l0 l1 = some true
theorem laws_FnExactSlideOf.walk (P : laws_FnExactSlideOf.Pure) (A0 : Option Addr) (c0 : Nat) (l0 : List Int) (A1 : Option Addr) (c1 : Nat) (l1 : List Int) (w : World) (i0 : PxInts w .i64 A0 c0 l0) (i1 : PxInts w .i64 A1 c1 l1) :
    Calls Try.prog 8 #[.agg #[.slice A0 l0.length c0], .slice A1 l1.length c1] w fun e w' => e = .returned (.bool true) ∧ Below w.heap.size w w' := by
  obtain ⟨k, h⟩ := P l0 l1 i0.m i0.wf i1.m i1.wf
  refine (laws_FnExactSlideOf.calls k _ _ l0 _ _ l1 true w i0.c i0.le i1.c i1.le h).mono ?_
  rintro e w' ⟨rfl, hd⟩
  exact ⟨rfl, hd⟩
end Go.Proofs.Ytjahclncpgllmaa.F
end

section
namespace Go.Proofs.Ytjahclncpgllmaa.Q
open Go.RowKit Go.Proofs.YtjahclncpgllmaaW.PrintWords Go.Proofs.Ytjahclncpgllmaa.F
set_option linter.unusedVariables false
/-- What element i covers. -/
def covN (p : List Int) (i : Nat) : Nat := (itemsN (L p i)).foldl (fun a e => ndiff a (L p e)) (L p i)
theorem foldl_ndiff_bit (g : Nat → Nat) (l : List Nat) (i : Nat) : ∀ a, (l.foldl (fun a e => ndiff a (g e)) a).testBit i = (a.testBit i && l.all fun e => !(g e).testBit i) := by
  induction l with
  | nil => intro a; simp
  | cons x l ih => intro a; rw [List.foldl_cons, ih, ndiff_bit, List.all_cons, Bool.and_assoc]
theorem foldl_ndiff_le (g : Nat → Nat) (l : List Nat) : ∀ a, l.foldl (fun a e => ndiff a (g e)) a ≤ a := by
  induction l with
  | nil => intro a; exact Nat.le_refl _
  | cons x l ih => intro a; exact Nat.le_trans (ih _) (ndiff_le _ _)
theorem covN_lt {p : List Int} (hp : PO p) {i : Nat} (hi : i < p.length) : covN p i < 2 ^ i := Nat.lt_of_le_of_lt (foldl_ndiff_le _ _ _) (hp.lt i hi)
theorem covN_bit {p : List Int} {i j : Nat} : (covN p i).testBit j = true ↔ (L p i).testBit j = true ∧ ∀ z, z < 10 → (L p i).testBit z = true → (L p z).testBit j = false := by
  unfold covN
  rw [foldl_ndiff_bit (L p), Bool.and_eq_true, List.all_eq_true]
  constructor
  · rintro ⟨a, b⟩
    exact ⟨a, fun z hz h => by have := b z (mem_itemsN.2 ⟨hz, h⟩); simpa using this⟩
  · rintro ⟨a, b⟩
    exact ⟨a, fun z hz => by obtain ⟨h1, h2⟩ := mem_itemsN.1 hz; rw [b z h1 h2]; rfl⟩
theorem covered_ev {p : List Int} (hp : PO p) {x : Nat} (hx : x < p.length) : Ev (fun k => impl_Poset_covered.f k p (x : Int)) ((covN p x : Nat) : Int) := by
  have hn := hp.small
  unfold impl_Poset_covered.f covN
  have hL := hp.lt x hx
  have hlt62 : L p x < 2 ^ 62 := lt_pow hL (by omega)
  refine Ev.yes (by omega) (Ev.yes (by omega) ?_)
  rw [rdN, hp.val x hx]
  refine Ev.bind (items_ev _ hlt62) ?_
  rw [ints_len]
  have hl := itemsN_len (L p x)
  have key : ∀ i, i ≤ (itemsN (L p x)).length → ∀ a : Nat, a < 2 ^ 62 → Ev (fun k => impl_Poset_covered.l0 k (a : Int) (ints (itemsN (L p x))) ((itemsN (L p x)).length : Int) (i : Int) p) (((itemsN (L p x)).drop i).foldl (fun a e => ndiff a (L p e)) a : Nat) := by
    refine downTo _ ?_ ?_
    · intro a ha
      refine Ev.step (by intro k; simp only [impl_Poset_covered.l0]; rfl) (Ev.no (by omega) (Ev.ret ?_))
      rw [List.drop_length]; rfl
    · intro i hi ih a ha
      have hlt := items_lt hL hi
      refine Ev.step (by intro k; simp only [impl_Poset_covered.l0]; rfl) (Ev.yes (by omega) (Ev.yes (by omega) (Ev.yes (by rw [ints_len]; omega) ?_)))
      rw [rd_ints, wid1 hi (by omega), rdN, foldl_drop_step _ _ 0 _ hi]
      refine Ev.yes (by omega) (Ev.yes (by omega) ?_)
      have hlt2 : (itemsN (L p x)).getD i 0 < p.length := by omega
      rw [hp.val _ hlt2, bits_andNotN ha (lt_pow (hp.lt _ hlt2) (by omega))]
      exact ih _ (ndiff_lt ha)
  exact key 0 (by omega) _ hlt62
theorem lit_ev {p : List Int} (hp : PO p) {x j : Nat} (hx : x < p.length) (hj : j < p.length) : Ev (fun k => lit_slideOf.f k (x : Int) p (j : Int)) ((covN p x).testBit j) := by
  have hn := hp.small
  unfold lit_slideOf.f
  exact Ev.bind (covered_ev hp hx) (Ev.const (has_eq (lt_pow (covN_lt hp hx) (by omega)) (by omega)))
theorem poCovers_ev {p : List Int} (hp : PO p) {j x : Nat} (hj : j < p.length) (hx : x < p.length) : Ev (fun k => spec_poCovers.f k p (j : Int) (x : Int)) ((covN p x).testBit j) := by
  have hn := hp.small
  have hL := hp.lt x hx
  unfold spec_poCovers.f
  refine Ev.yes (by omega) (Ev.yes (by omega) ?_)
  rw [rdN, hp.val x hx]
  refine Ev.call (poIn_eq (by omega)) ?_
  refine Ev.ite (fun hb => ?_) (fun hb => ?_)
  rotate_left
  · refine Ev.ret ?_
    cases h : (covN p x).testBit j with
    | false => rfl
    | true => exact absurd (covN_bit.1 h).1 hb
  have hjx : j < x := lt_of_bit hL hb
  rw [wid1 hjx (by omega)]
  have key : ∀ z, z ≤ x → j < z → (∀ y, j < y → y < z → (L p x).testBit y = true → (L p y).testBit j = false) → Ev (fun k => spec_poCovers.l0 k (j : Int) (x : Int) (z : Int) p) ((covN p x).testBit j) := by
    refine downTo _ ?_ ?_
    · intro _ h
      refine Ev.step (by intro k; simp only [spec_poCovers.l0]; rfl) (Ev.no (by omega) (Ev.ret ?_))
      symm
      refine covN_bit.2 ⟨hb, fun y _ hy => ?_⟩
      cases hyj : (L p y).testBit j with
      | false => rfl
      | true =>
        have h1 := lt_of_bit hL hy
        have h2 := lt_of_bit (hp.lt y (by omega)) hyj
        rw [h y h2 h1 hy] at hyj
        cases hyj
    · intro z hz ih hjz h
      have hzp : z < p.length := by omega
      refine Ev.step (by intro k; simp only [spec_poCovers.l0]; rfl) (Ev.yes (by omega) (Ev.yes (by omega) (Ev.yes (by omega) ?_)))
      rw [rdN, hp.val x hx, rdN, hp.val z hzp, wid1 hz (by omega)]
      refine Ev.call (poIn_eq (by omega)) ?_
      refine Ev.ite (fun hxz => Ev.yes (by omega) (Ev.yes (by omega) (Ev.call (poIn_eq (by omega)) (Ev.ite (fun hzj => ?_) (fun hzj => ?_))))) (fun hxz => ?_)
      · refine Ev.ret ?_
        cases hc : (covN p x).testBit j with
        | false => rfl
        | true =>
          have := (covN_bit.1 hc).2 z (by omega) hxz
          rw [this] at hzj; cases hzj
      · refine ih (by omega) (fun y h1 h2 h3 => ?_)
        rcases Nat.lt_or_ge y z with h4 | h4
        · exact h y h1 h4 h3
        · have : y = z := by omega
          rw [this]; simpa using hzj
      · refine ih (by omega) (fun y h1 h2 h3 => ?_)
        rcases Nat.lt_or_ge y z with h4 | h4
        · exact h y h1 h4 h3
        · have : y = z := by omega
          rw [this] at h3; exact absurd h3 hxz
  exact key (j + 1) (by omega) (by omega) (fun y h1 h2 _ => by omega)
def ups (p : List Int) (j : Nat) : List Nat := (List.range p.length).filter fun i => (covN p i).testBit j
theorem ups_mem {p : List Int} {j i : Nat} : i ∈ ups p j ↔ i < p.length ∧ (covN p i).testBit j = true := by
  unfold ups; rw [List.mem_filter, List.mem_range]
theorem ups_len (p : List Int) (j : Nat) : (ups p j).length ≤ p.length := by
  unfold ups; have := List.length_filter_le (fun i => (covN p i).testBit j) (List.range p.length); simpa using this
theorem range_succ_filter (c : Nat → Bool) (i : Nat) : (List.range (i + 1)).filter c = (List.range i).filter c ++ (if c i = true then [i] else []) := by
  rw [List.range_succ, List.filter_append, List.filter_cons, List.filter_nil]
theorem liCovers_ev {p : List Int} (hp : PO p) {j : Nat} (hj : j < p.length) : Ev (fun k => spec_liCovers.f k p (j : Int)) (ints (ups p j)) := by
  have hn := hp.small
  unfold spec_liCovers.f
  have key : ∀ i, i ≤ p.length → Ev (fun k => spec_liCovers.l0 k (j : Int) (ints ((List.range i).filter fun i => (covN p i).testBit j)) (p.length : Int) (i : Int) p) (ints (ups p j)) := by
    refine downTo _ ?_ ?_
    · exact Ev.step (by intro k; simp only [spec_liCovers.l0]; rfl) (Ev.no (by omega) (Ev.ret rfl))
    · intro i hi ih
      rw [range_succ_filter] at ih
      have hl : ((List.range i).filter fun i => (covN p i).testBit j).length ≤ i := by
        have := List.length_filter_le (fun i => (covN p i).testBit j) (List.range i); simpa using this
      refine Ev.step (by intro k; simp only [spec_liCovers.l0]; rfl) (Ev.yes (by omega) (Ev.bind (poCovers_ev hp hj hi) ?_))
      rw [wid1 hi (by omega)]
      refine Ev.ite (fun hc => Ev.yes (by rw [ints_len]; omega) ?_) (fun hc => ?_)
      · rw [if_pos hc, ints_app] at ih
        exact ih
      · rw [if_neg hc, List.append_nil] at ih
        exact ih
  exact key 0 (Nat.zero_le _)
theorem l1Has_ev {l : List Nat} (hl : l.length ≤ 100) (e : Nat) : Ev (fun k => spec_l1Has.f k (ints l) (e : Int)) (decide (e ∈ l)) := by
  unfold spec_l1Has.f
  rw [ints_len]
  have key : ∀ i, i ≤ l.length → (∀ x ∈ l.take i, x ≠ e) → Ev (fun k => spec_l1Has.l0 k (e : Int) (ints l) (l.length : Int) (i : Int)) (decide (e ∈ l)) := by
    refine downTo _ ?_ ?_
    · intro h
      rw [List.take_length] at h
      refine Ev.step (by intro k; simp only [spec_l1Has.l0]; rfl) (Ev.no (by omega) (Ev.ret ?_))
      symm; exact decide_eq_false (fun hm => h e hm rfl)
    · intro i hi ih h
      refine Ev.step (by intro k; simp only [spec_l1Has.l0]; rfl) (Ev.yes (by omega) (Ev.yes (by omega) (Ev.yes (by rw [ints_len]; omega) ?_)))
      rw [rd_ints, wid1 hi (by omega)]
      have hg : l.getD i 0 = l[i] := by rw [List.getD_eq_getElem?_getD, List.getElem?_eq_getElem hi]; rfl
      refine Ev.ite (fun he => ?_) (fun he => ?_)
      · refine Ev.ret ?_
        symm; refine decide_eq_true ?_
        have : l[i] = e := by rw [← hg]; omega
        rw [← this]; exact List.getElem_mem hi
      · refine ih (fun x hx => ?_)
        rw [List.take_add_one, List.mem_append] at hx
        rcases hx with hx | hx
        · exact h x hx
        · rw [List.getElem?_eq_getElem hi] at hx
          have hx : x = l[i] := by simpa using hx
          rw [hx, ← hg]; omega
  exact key 0 (Nat.zero_le _) (fun x hx => by simp at hx)
theorem ordRun_all {p l : List Int} : ∀ {s t : Nat}, ordRun p s l = some t → ∀ e, t.testBit e = true → s.testBit e = false → (e : Int) ∈ l := by
  induction l with
  | nil => intro s t h e h1 h2; simp only [ordRun] at h; rw [← Option.some.inj h, h2] at h1; cases h1
  | cons x l ih =>
    intro s t h e h1 h2
    simp only [ordRun] at h
    split at h
    · rename_i hc
      by_cases hxe : x.toNat = e
      · have : x = (e : Int) := by omega
        rw [this]; exact List.mem_cons_self
      · refine List.mem_cons_of_mem _ (ih h e h1 ?_)
        rw [Nat.testBit_or, h2, pow_bit]
        simpa using hxe
    · cases h
theorem ordB_all {p w : List Int} (h : ordB p w = true) {e : Nat} (he : e < p.length) : (e : Int) ∈ w :=
  ordRun_all (ordB_iff.1 h) e (by rw [allN_bit]; exact decide_eq_true he) (Nat.zero_testBit e)
/-- The first one of w that covers j. -/
def nxtS (p w : List Int) (j : Nat) : Option Int := w.find? fun e => (covN p e.toNat).testBit j
/-- The chain on from outs, whose last one is j. -/
def slN (p w : List Int) : Nat → Nat → List Int → List Int
  | 0, _, outs => outs
  | d + 1, j, outs => match nxtS p w j with
    | none => outs
    | some e => slN p w d e.toNat (outs ++ [e])
theorem find_drop {α : Type} (c : α → Bool) (l : List α) (d : α) {i : Nat} (h : i < l.length) : (l.drop i).find? c = if c (l.getD i d) = true then some (l.getD i d) else (l.drop (i + 1)).find? c := by
  rw [List.drop_eq_getElem_cons h, List.find?_cons, List.getD_eq_getElem?_getD, List.getElem?_eq_getElem h]
  show _ = if c l[i] = true then some l[i] else _
  cases hc : c l[i] <;> simp
theorem index_runs {w : List Int} (hw : w.length ≤ 100) {F : Int → Option Bool} {c : Int → Bool} (hF : ∀ x ∈ w, F x = some (c x)) : ∀ j, j ≤ w.length → ∃ r : Int, (∀ k, w.length - j + 1 ≤ k → IndexFunc_slideOf.l0 F k w (w.length : Int) (j : Int) = some r) ∧ ((r = -1 ∧ (w.drop j).find? c = none) ∨ (∃ i : Nat, r = (i : Int) ∧ i < w.length ∧ (w.drop j).find? c = some (w.getD i 0))) := by
  refine downTo _ ?_ ?_
  · refine ⟨-1, fun k hk => ?_, Or.inl ⟨rfl, by rw [List.drop_length]; rfl⟩⟩
    obtain ⟨k, rfl⟩ : ∃ k', k = k' + 1 := ⟨k - 1, by omega⟩
    simp only [IndexFunc_slideOf.l0]
    rw [if_neg (by omega)]
  · intro j hj ih
    obtain ⟨r, hr, hx⟩ := ih
    have hm : w.getD j 0 ∈ w := by rw [List.getD_eq_getElem?_getD, List.getElem?_eq_getElem hj]; exact List.getElem_mem hj
    have hf := hF _ hm
    rw [find_drop c w 0 hj]
    cases hc : c (w.getD j 0) with
    | true =>
      refine ⟨(j : Int), fun k hk => ?_, Or.inr ⟨j, rfl, hj, by rw [if_pos rfl]⟩⟩
      obtain ⟨k, rfl⟩ : ∃ k', k = k' + 1 := ⟨k - 1, by omega⟩
      simp only [IndexFunc_slideOf.l0]
      rw [if_pos (by omega), if_pos (by omega), if_pos (by omega), rdN, hf, hc]
      rfl
    | false =>
      refine ⟨r, fun k hk => ?_, ?_⟩
      · obtain ⟨k, rfl⟩ : ∃ k', k = k' + 1 := ⟨k - 1, by omega⟩
        simp only [IndexFunc_slideOf.l0]
        rw [if_pos (by omega), if_pos (by omega), if_pos (by omega), rdN, hf, hc, wid1 hj (by omega)]
        exact hr k (by omega)
      · rw [if_neg (by simp)]; exact hx
theorem lit_all {p : List Int} (hp : PO p) : ∃ K, ∀ k, K ≤ k → ∀ j, j < p.length → ∀ x, x < p.length → lit_slideOf.f k (x : Int) p (j : Int) = some ((covN p x).testBit j) := by
  obtain ⟨K, hK⟩ := Ev.all (g := fun s k => if s / p.length < p.length ∧ s % p.length < p.length then lit_slideOf.f k ((s % p.length : Nat) : Int) p ((s / p.length : Nat) : Int) else some false) (r := fun s => if s / p.length < p.length ∧ s % p.length < p.length then (covN p (s % p.length)).testBit (s / p.length) else false) (p.length * p.length) (fun s hs => by
    by_cases h : s / p.length < p.length ∧ s % p.length < p.length
    · simp only [if_pos h]; exact lit_ev hp h.2 h.1
    · simp only [if_neg h]; exact Ev.now _)
  refine ⟨K, fun k hk j hj x hx => ?_⟩
  have h0 : 0 < p.length := by omega
  have e1 : (j * p.length + x) / p.length = j := by rw [Nat.mul_comm, Nat.mul_add_div h0, Nat.div_eq_of_lt hx, Nat.add_zero]
  have e2 : (j * p.length + x) % p.length = x := by rw [Nat.mul_comm, Nat.mul_add_mod, Nat.mod_eq_of_lt hx]
  have hs : j * p.length + x < p.length * p.length := by
    have : (j + 1) * p.length ≤ p.length * p.length := Nat.mul_le_mul_right _ hj
    rw [Nat.add_mul, Nat.one_mul] at this; omega
  have := hK k hk _ hs
  simp only [e1, e2, if_pos (And.intro hj hx)] at this
  exact this
theorem nxt_up {p w : List Int} (hp : PO p) (hw : ordB p w = true) {j : Nat} {e : Int} (h : nxtS p w j = some e) : ∃ x : Nat, e = (x : Int) ∧ x < p.length ∧ j < x ∧ (covN p x).testBit j = true := by
  have h1 := List.mem_of_find?_eq_some h
  have h2 := List.find?_some h
  have h3 := ordB_range hw e h1
  have h4 : e.toNat < p.length := by omega
  exact ⟨e.toNat, by omega, h4, lt_of_bit (covN_lt hp h4) h2, h2⟩
theorem slRun_ev {p w : List Int} (hp : PO p) (hw : ordB p w = true) (k : Nat) (hk : w.length + 1 ≤ k) (hK : ∀ j, j < p.length → ∀ x, x < p.length → lit_slideOf.f k (x : Int) p (j : Int) = some ((covN p x).testBit j)) :
    ∀ d j outs, j < p.length → p.length ≤ j + d → outs.length + d ≤ 1000 → outs.getD (outs.length - 1) 0 = (j : Int) → ∀ kd, d + 1 ≤ kd → slRun k p w kd outs = some (slN p w d j outs) := by
  have hn := hp.small
  have hlen := ordB_len hw
  intro d
  induction d with
  | zero => intro j outs hj hd; omega
  | succ d ih =>
    intro j outs hj hd ho hlast kd hkd
    obtain ⟨kd, rfl⟩ : ∃ k', kd = k' + 1 := ⟨kd - 1, by omega⟩
    obtain ⟨r, h1, h2⟩ := index_runs (w := w) (by omega) (F := fun e => lit_slideOf.f k e p (outs.getD (outs.length - 1) 0)) (c := fun e => (covN p e.toNat).testBit j) (fun x hx => by
      have h3 := ordB_range hw x hx
      obtain ⟨x, rfl⟩ : ∃ y : Nat, x = (y : Int) := ⟨x.toNat, by omega⟩
      show lit_slideOf.f k (x : Int) p _ = _
      rw [hlast, Int.toNat_natCast]
      exact hK j hj x (by omega)) 0 (Nat.zero_le _)
    unfold slRun IndexFunc_slideOf.f
    have h1k := h1 k (by omega)
    rw [show ((0 : Nat) : Int) = 0 from rfl] at h1k
    rw [h1k]
    rw [List.drop_zero] at h2
    show (if r < 0 then _ else _) = _
    unfold slN
    rcases h2 with ⟨rfl, h2⟩ | ⟨i, rfl, hi, h2⟩
    · rw [if_pos (by omega), show nxtS p w j = none from h2]
    · have hnx : nxtS p w j = some (w.getD i 0) := h2
      obtain ⟨x, hx, hxn, hjx, _⟩ := nxt_up hp hw hnx
      rw [if_neg (by omega), if_pos ⟨by omega, by omega⟩, hnx, rdN]
      have ht : (w.getD i 0).toNat = x := by omega
      show _ = some (slN p w d (w.getD i 0).toNat (outs ++ [w.getD i 0]))
      rw [ht]
      refine ih x _ hxn (by omega) (by rw [List.length_append, List.length_singleton]; omega) ?_ kd (by omega)
      rw [← hx, List.length_append, List.length_singleton, Nat.add_sub_cancel, List.getD_eq_getElem?_getD, List.getElem?_append_right (Nat.le_refl _), Nat.sub_self]
      rfl
theorem spec_run {p w : List Int} (hp : PO p) (hw : ordB p w = true) : ∀ d j outs, j < p.length → p.length ≤ j + d → 1 ≤ outs.length → outs.length + d ≤ 1000 → outs.getD (outs.length - 1) 0 = (j : Int) → Ev (fun k => spec_SlideOf.l0 k w outs (ints (ups p j)) p) (slN p w d j outs, true) := by
  have hn := hp.small
  have hlen := ordB_len hw
  intro d
  induction d with
  | zero => intro j outs hj hd; omega
  | succ d ih =>
    intro j outs hj hd h1o ho hlast
    have hul := ups_len p j
    refine Ev.step (by intro k; simp only [spec_SlideOf.l0]; rfl) ?_
    rw [ints_len]
    unfold slN
    by_cases hu : 0 < (ups p j).length
    · refine Ev.yes (by omega) ?_
      obtain ⟨u, hu⟩ : ∃ u, u ∈ ups p j := ⟨_, List.getElem_mem hu⟩
      obtain ⟨hun, huc⟩ := ups_mem.1 hu
      have huw := ordB_all hw hun
      obtain ⟨e, hnx⟩ : ∃ e, nxtS p w j = some e := by
        cases h : nxtS p w j with
        | some e => exact ⟨e, rfl⟩
        | none => exact absurd huc (by have := List.find?_eq_none.1 h _ huw; rwa [Int.toNat_natCast] at this)
      obtain ⟨x, hx, hxn, hjx, _⟩ := nxt_up hp hw hnx
      rw [hnx]
      have ht : e.toNat = x := by omega
      show Ev _ (slN p w d e.toNat (outs ++ [e]), true)
      rw [ht]
      have hl2 : (outs ++ [e]).length = outs.length + 1 := by rw [List.length_append, List.length_singleton]
      have hg2 : (outs ++ [e]).getD outs.length 0 = (x : Int) := by
        rw [← hx, List.getD_eq_getElem?_getD, List.getElem?_append_right (Nat.le_refl _), Nat.sub_self]; rfl
      have hnext := ih x (outs ++ [e]) hxn (by omega) (by omega) (by omega) (by rw [hl2, Nat.add_sub_cancel]; exact hg2)
      have key : ∀ i, i ≤ w.length → (w.drop i).find? (fun e => (covN p e.toNat).testBit j) = some e → Ev (fun k => spec_SlideOf.l1 k w outs (ints (ups p j)) w (w.length : Int) (i : Int) p) (slN p w d x (outs ++ [e]), true) := by
        refine downTo _ ?_ ?_
        · intro h; rw [List.drop_length] at h; cases h
        · intro i hi ih2 h
          have hm : w.getD i 0 ∈ w := by rw [List.getD_eq_getElem?_getD, List.getElem?_eq_getElem hi]; exact List.getElem_mem hi
          have hr := ordB_range hw _ hm
          obtain ⟨y, hy⟩ : ∃ y : Nat, w.getD i 0 = (y : Int) := ⟨(w.getD i 0).toNat, by omega⟩
          rw [find_drop _ w 0 hi, hy, Int.toNat_natCast] at h
          refine Ev.step (by intro k; simp only [spec_SlideOf.l1]; rfl) (Ev.yes (by omega) (Ev.yes (by omega) (Ev.yes (by omega) ?_)))
          rw [rdN, hy, wid1 hi (by omega)]
          refine Ev.bind (l1Has_ev (by omega) y) ?_
          by_cases hc : (covN p y).testBit j = true
          · rw [if_pos hc] at h
            have he : e = (y : Int) := (Option.some.inj h).symm
            have hyx : y = x := by omega
            subst he
            subst hyx
            refine Ev.yes (decide_eq_true (ups_mem.2 ⟨hxn, hc⟩)) (Ev.yes (by omega) (Ev.call rfl ?_))
            rw [hl2, wid (by omega) (by omega), show ((outs.length + 1 : Nat) : Int) - 1 = (outs.length : Int) by omega]
            refine Ev.yes (by omega) (Ev.yes (by omega) ?_)
            rw [rdN, hg2]
            exact Ev.bind (liCovers_ev hp hxn) hnext
          · rw [if_neg hc] at h
            refine Ev.no (fun hd => hc (ups_mem.1 (of_decide_eq_true hd)).2) ?_
            exact ih2 h
      exact key 0 (Nat.zero_le _) hnx
    · refine Ev.no (by omega) (Ev.ret ?_)
      have : nxtS p w j = none := by
        cases h : nxtS p w j with
        | none => rfl
        | some e =>
          obtain ⟨x, _, hxn, _, hc⟩ := nxt_up hp hw h
          have := List.length_pos_of_mem (ups_mem.2 ⟨hxn, hc⟩)
          omega
      rw [this]
theorem slN_len (p w : List Int) : ∀ d j outs, (slN p w d j outs).length ≤ outs.length + d := by
  intro d
  induction d with
  | zero => intro j outs; exact Nat.le_refl _
  | succ d ih =>
    intro j outs
    unfold slN
    cases nxtS p w j with
    | none => show outs.length ≤ _; omega
    | some e =>
      have := ih e.toNat (outs ++ [e])
      rw [List.length_append, List.length_singleton] at this
      show (slN p w d e.toNat (outs ++ [e])).length ≤ _
      omega
theorem SlideOf_same (p : List Int) (hp : p.length ≤ 1048576) (_ : ∀ n ∈ p, (Lit.int .i64 n).wf = true) (w : List Int) (hw : w.length ≤ 1048576) (_ : ∀ n ∈ w, (Lit.int .i64 n).wf = true) :
    ∃ r, Ev (fun k => spec_SlideOf.f k p w) r ∧ Ev (fun k => impl_SlideOf.f k p w) r ∧ r.1.length ≤ 1048576 := by
  unfold spec_SlideOf.f impl_SlideOf.f
  cases h : linB p w with
  | false =>
    refine ⟨([], false), Ev.bind (liGiven_ev p w) ?_, Ev.bind (isLinear_ev p w (by omega)) ?_, Nat.zero_le _⟩
    · rw [h]; exact Ev.no (by simp) (Ev.now _)
    · rw [h]; exact Ev.no (by simp) (Ev.now _)
  | true =>
    have H := linB_lin h
    have h1 := H.pos
    have h2 := H.small
    have h3 := H.len
    have hr := ordB_range H.ord (w.getD 0 0) (by rw [List.getD_eq_getElem?_getD, List.getElem?_eq_getElem (by omega)]; exact List.getElem_mem _)
    obtain ⟨j, hj⟩ : ∃ j : Nat, w.getD 0 0 = (j : Int) := ⟨(w.getD 0 0).toNat, by omega⟩
    have hjn : j < p.length := by omega
    have e0 : rd w 0 = (j : Int) := by rw [← hj]; exact rdN w 0
    refine ⟨(slN p w p.length j [(j : Int)], true), Ev.bind (liGiven_ev p w) ?_, Ev.bind (isLinear_ev p w (by omega)) ?_, ?_⟩
    · rw [h, e0]
      exact Ev.yes rfl (Ev.yes (by omega) (Ev.bind (liCovers_ev H.po hjn) (spec_run H.po H.ord p.length j _ hjn (by omega) (Nat.le_refl _) (by simp; omega) rfl)))
    · rw [h, e0]
      refine Ev.yes rfl (Ev.yes (by omega) ?_)
      obtain ⟨K, hK⟩ := lit_all H.po
      refine Ev.bind (a := slN p w p.length j [(j : Int)]) ⟨K + w.length + 1, fun k hk => ?_⟩ (Ev.now _)
      exact slRun_ev H.po H.ord k (by omega) (hK k (by omega)) p.length j _ hjn (by omega) (by simp; omega) rfl k (by omega)
    · have := slN_len p w p.length j [(j : Int)]
      show (slN p w p.length j [(j : Int)]).length ≤ _
      rw [List.length_singleton] at this
      omega
theorem FnExactSlideOf : laws_FnExactSlideOf.Pure := by
  intro l0 l1 hm_l0 hw_l0 hm_l1 hw_l1
  by_cases hb_l1 : ((l1.length : Int) > 1048576)
  · exact ⟨0, by unfold laws_FnExactSlideOf.f; exact if_pos ⟨0, (Or.inl ⟨(), decide_eq_true hb_l1⟩)⟩⟩
  have hl_l1 : l1.length ≤ 1048576 := by omega
  by_cases hl_l0 : l0.length ≤ 1048576
  rotate_left
  · exact ⟨0, by unfold laws_FnExactSlideOf.f; exact if_pos ⟨0, (Or.inr (Or.inl ⟨-1, decide_eq_false hb_l1, (szPoset_eq l0 1048576 (by omega) hm_l0).trans (by rw [if_neg hl_l0]), by decide⟩))⟩⟩
  obtain ⟨r, hs_, hi_, hr_⟩ := SlideOf_same l0 hl_l0 hw_l0 l1 hl_l1 hw_l1
  obtain ⟨K0, e0⟩ := toPoset_ev l0 hl_l0
  obtain ⟨K1, e1⟩ := toIntS_ev l1 hl_l1
  obtain ⟨K2, e2⟩ := hs_
  obtain ⟨K3, e3⟩ := hi_
  obtain ⟨K4, e4⟩ := eqIntS_refl r.1 (by omega)
  obtain ⟨K5, e5⟩ := eqPoset_refl l0 (by omega)
  obtain ⟨K6, e6⟩ := eqIntS_refl l1 (by omega)
  obtain ⟨K7, e7⟩ := markPoset_ev1 l0 (by omega)
  obtain ⟨K8, e8⟩ := markIntS_ev l1 (1 + l0.length) (by omega)
  obtain ⟨K9, e9⟩ := markIntS_ev1 r.1 (by omega)
  obtain ⟨K10, e10⟩ := heldIntS_ev1 r.1.length (by omega)
  obtain ⟨K, hK_⟩ : ∃ K, K = 0 + K0 + K1 + K2 + K3 + K4 + K5 + K6 + K7 + K8 + K9 + K10 := ⟨_, rfl⟩
  refine ⟨K, ?_⟩
  unfold laws_FnExactSlideOf.f
  exact if_pos ⟨K, Or.inr (Or.inr (⟨((1048576 - l0.length : Nat) : Int), r.1, r.2, ((1 + l0.length : Nat) : Int), (upFrom 1 l0.length), ((1 + l0.length + l1.length : Nat) : Int), (upFrom (1 + l0.length) l1.length), ((1 + r.1.length : Nat) : Int), (upFrom 1 r.1.length), decide_eq_false hb_l1, (szPoset_eq l0 1048576 (by omega) hm_l0).trans (by rw [if_pos hl_l0]), decide_eq_false (by omega), e0 K (by omega), e1 K (by omega), e2 K (by omega), e3 K (by omega), e4 K (by omega), e5 K (by omega), e6 K (by omega), e7 K (by omega), e8 K (by omega), decide_eq_false (by omega), e9 K (by omega), e10 K (by omega), decide_eq_false (by omega)⟩))⟩
end Go.Proofs.Ytjahclncpgllmaa.Q
end
