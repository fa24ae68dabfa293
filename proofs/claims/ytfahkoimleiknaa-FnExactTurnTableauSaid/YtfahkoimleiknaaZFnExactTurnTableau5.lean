/- Part 5 of the texts below the row of FnExactTurnTableau: printed functions with their contracts, and plain lemmas. No condition. -/
import Derived.Test.YtfahkoimleiknaaZFnExactTurnTableau4
import Derived.SizedLaws
import Derived.ChangeSlices
import Derived.WalkKit
import Derived.ProofKit
import Derived.OpenShut
import Derived.Lib.SmallJoins
import Derived.Deep.Matrix
section
section
namespace Go.Proofs.YtfahkoimleiknaaW.PrintWords
open Go.ChangeShapes Go.WideShapes
/-- A row's slice of whole numbers is no longer than its weight allows. -/
theorem sized_ints {H : Type} {enc : TypeId × Value → H} {P : Program} {W : World} {base : Nat} {spare : Nat → Bool} {held : Bool} {t e : TypeId} {k : IntKind} {a : Option Addr} {len cap : Nat} {d : DataW H} {ps : List MemPlace} {ts : List TypeId} {ds : List (DataW H)} {j : Nat}
    (hsz : (DataW.weightsEach P ts ds).all (· ≤ reachBytes) = true) (ht : ts[j]? = some t) (hd : ds[j]? = some d) (hu : P.underlying t = some (.slice e)) (he : P.underlying e = some (.int k)) (hc : P.cellsOf e = 1) {B : Nat} (hB : P.bytesOf e = B)
    (h : DataW.Trod enc P W base spare held t (.slice a len cap) d ps) : len * B ≤ 140737488351232 := by
  obtain ⟨fuel, hf⟩ := h
  rcases open_ints hu he hc hf with ⟨hcs, _⟩ | ⟨x, l, c, zs, hcs, _, hl, _, hz, hx, _, _⟩
  · simp [Value.cells] at hcs
    obtain ⟨rfl, rfl, rfl⟩ := hcs
    simp
  · simp [Value.cells] at hcs
    obtain ⟨rfl, rfl, rfl⟩ := hcs
    obtain ⟨hx, _⟩ := Prod.mk.inj hx
    subst hx
    have z := sized_slice hsz ht hd hu
    rw [hB] at z
    have hl2 : len ≤ zs.length := by
      rw [hz]
      split
      · exact hl
      · exact Nat.le_refl _
    have h1 : (lits (H := H) k (zs.take len)).length + (lits (H := H) k (zs.drop len)).length = zs.length := by
      simp [lits]
      omega
    rw [h1] at z
    exact Nat.le_trans (Nat.mul_le_mul_right _ hl2) z
end Go.Proofs.YtfahkoimleiknaaW.PrintWords
end
end

section
namespace Go.Proofs.YtfahkoimleiknaaW.RowKit
open Go.ChangeShapes Go.WideShapes Go.Deep Go.RowKit Go.Proofs.YtfahkoimleiknaaW.PrintWords
variable {H : Type} {enc : TypeId × Value → H} {P : Program} {w : World} {base : Nat} {held : Bool}
/-- What is known of a slice of whole numbers that came in. -/
structure PxInts (w : World) (k : IntKind) (A : Option Addr) (c : Nat) (l : List Int) : Prop where
  le : l.length ≤ c
  c : Kd.C (Kd.int k) w A l.length l
  m : l.length ≤ maxLen
  wf : ∀ n ∈ l, (Lit.int k n).wf = true
theorem ints_of {t e : TypeId} {k : IntKind} {fuel : Nat} {cs : List Value} {x : DataW H × List MemPlace} (ht : P.underlying t = some (.slice e)) (he : P.underlying e = some (.int k)) (hc : P.cellsOf e = 1)
    (h : DataW.trod enc P w base (fun _ => true) held fuel t cs = some x) : ∃ A c l, cs = [.slice A (List.length l) c] ∧ PxInts w k A c l := by
  rcases open_ints ht he hc h with ⟨hcs, _⟩ | ⟨a, len, cap, zs, hcs, _, hl, hm, hz, _, hcell, hwz⟩
  · obtain ⟨l, e1, h1, h2, h3, h4⟩ := ReadsInt.ofRowC (k := k) (w := w) (a := none) (len := 0) (cap := 0) (zs := []) (.inl ⟨rfl, rfl, rfl, rfl⟩)
    exact ⟨none, 0, l, by rw [hcs, ← e1], h4, Kd.C_of_reads (d := (0 : Int)) (h1 := fun _ => rfl) h1, h2, h3⟩
  · obtain ⟨l, e1, h1, h2, h3, h4⟩ := ReadsInt.ofRowC (k := k) (w := w) (a := some a) (len := len) (cap := cap) (zs := zs) (.inr ⟨_, rfl, hl, hm, by simpa using hz, hcell, hwz⟩)
    exact ⟨some a, cap, l, by rw [hcs, ← e1], h4, Kd.C_of_reads (d := (0 : Int)) (h1 := fun _ => rfl) h1, h2, h3⟩
theorem open_sl {r : Reach} {b0 : Nat} {t e : TypeId} {k : IntKind} {v : Value} {d : DataW H} {p : List MemPlace} (ht : P.underlying t = some (.slice e)) (he : P.underlying e = some (.int k)) (hc : P.cellsOf e = 1)
    (hv : Value.okWide P w r b0 t v) (h : DataW.Trod enc P w base (fun _ => true) held t v d p) : ∃ A c l, v = .slice A (List.length l) c ∧ PxInts w k A c l := by
  obtain ⟨a, len, cap, rfl⟩ := okWide_slice ht hv
  obtain ⟨fuel, hf⟩ := h
  obtain ⟨A, c, l, hcs, hi⟩ := ints_of ht he hc hf
  simp [Value.cells] at hcs
  obtain ⟨rfl, rfl, rfl⟩ := hcs
  exact ⟨_, _, l, rfl, hi⟩
theorem open_st {r : Reach} {b0 : Nat} {t q e : TypeId} {k : IntKind} {f0 : Field} {v : Value} {d : DataW H} {p : List MemPlace} (hs : P.underlying t = some (.struct #[f0])) (hone : oneCellFields P #[f0] = true) (hC : P.cellsOf t = 1)
    (hq : f0.type = q) (ht : P.underlying q = some (.slice e)) (he : P.underlying e = some (.int k)) (hc : P.cellsOf e = 1)
    (hv : Value.okWide P w r b0 t v) (h : DataW.Trod enc P w base (fun _ => true) held t v d p) : ∃ A c l, v = .agg #[.slice A (List.length l) c] ∧ PxInts w k A c l := by
  subst hq
  obtain ⟨cs, rfl, hsz⟩ := okWide_struct hs hv
  obtain ⟨c0, rfl⟩ : ∃ c0, cs = #[c0] := by
    obtain ⟨l⟩ := cs
    match l, hsz.trans hC with
    | [c0], _ => exact ⟨c0, rfl⟩
  obtain ⟨fuel, hf⟩ := h
  obtain ⟨y0, n, _, _, h0⟩ := trod_struct1 hs hf
  obtain ⟨o0, k0⟩ := Go.Deep.hone_of hone 0 f0 rfl
  obtain ⟨A, c, l, hcs, hi⟩ := ints_of ht he hc (by simpa [Value.cells, o0, k0] using h0 : DataW.trod enc P w base (fun _ => true) held n f0.type [c0] = some y0)
  simp at hcs
  subst hcs
  exact ⟨A, c, l, rfl, hi⟩
/-- What is known of a slice of slices of whole numbers that came in. -/
structure PxRows (w : World) (k : IntKind) (q : TypeId) (A : Option Addr) (c : Nat) (l : List (List Int)) : Prop where
  le : l.length ≤ c
  c : Kd.C (Kd.slice q (Kd.int k)) w A l.length l
  m : l.length ≤ maxLen
  m2 : ∀ r ∈ l, r.length ≤ maxLen
  wf : ∀ r ∈ l, ∀ n ∈ r, (Lit.int k n).wf = true
theorem open_ss {r : Reach} {b0 : Nat} {t e q : TypeId} {k : IntKind} {v : Value} {d : DataW H} {p : List MemPlace} (ht : P.underlying t = some (.slice e)) (he : P.underlying e = some (.slice q)) (hq : P.underlying q = some (.int k))
    (ce : P.cellsOf e = 1) (cq : P.cellsOf q = 1)
    (hv : Value.okWide P w r b0 t v) (h : DataW.Trod enc P w base (fun _ => true) held t v d p) : ∃ A c l, v = .slice A (List.length l) c ∧ PxRows w k q A c l := by
  obtain ⟨a, len, cap, rfl⟩ := okWide_slice ht hv
  obtain ⟨fuel, hf⟩ := h
  rcases Go.Deep.open_int_rows ht he hq ce cq hf with ⟨hcs, _⟩ | ⟨x, len', cap', AA, L, C, Z, hcs, _, hl, hm, _, hr⟩
  · simp [Value.cells] at hcs
    obtain ⟨rfl, rfl, rfl⟩ := hcs
    exact ⟨none, 0, [], rfl, Nat.le_refl _, ⟨rfl, Nat.zero_le _, fun h => absurd h (Nat.lt_irrefl _)⟩, Nat.zero_le _, (fun _ h => by cases h), (fun _ h => by cases h)⟩
  · simp [Value.cells] at hcs
    obtain ⟨rfl, rfl, rfl⟩ := hcs
    have each : ∀ r, r < cap → PxInts w k (AA r) (C r) ((Z r).take (L r)) ∧ L r = ((Z r).take (L r)).length := by
      intro r hrc
      obtain ⟨_, h1, h2, h3, h4, h5, h6⟩ := hr r hrc
      have hz : ((Z r).take (L r)).length = L r := by rw [List.length_take]; omega
      refine ⟨⟨by omega, ⟨by rfl, by unfold maxLen at h2; omega, fun hp => ?_⟩, by omega, fun n hn => h4 n (List.mem_of_mem_take hn)⟩, hz.symm⟩
      cases ha : AA r with
      | none => have := h5 ha; omega
      | some ad =>
        refine ⟨ad, rfl, fun j p hj => ⟨[.int k p], rfl, rfl, fun i u hu => ?_⟩⟩
        have hj1 := (List.getElem?_eq_some_iff.1 hj).1
        have hjl : j < L r := by omega
        cases i with
        | succ i => simp at hu
        | zero =>
          simp at hu
          subst hu
          have := (h6 ad ha).2 j (by omega)
          rw [List.getD_eq_getElem?_getD, ← List.getElem?_take_of_lt hjl, hj] at this
          have e1 : j * (Kd.int k).sz + 0 = j := by show j * 1 + 0 = j; omega
          rw [e1]
          exact this
    refine ⟨some x, cap, (List.range len).map (fun r => (Z r).take (L r)), by simp, ⟨by simpa using hl, ⟨by simp, ?_, fun hp => ⟨x, rfl, fun j p hj => ?_⟩⟩, by simp; omega, ?_, ?_⟩⟩
    · simp; unfold maxLen at hm; omega
    · simp only [List.getElem?_map, Option.map_eq_some_iff] at hj
      obtain ⟨r, hr1, rfl⟩ := hj
      obtain ⟨hr2, hr3⟩ := List.getElem?_eq_some_iff.1 hr1
      simp at hr2 hr3
      subst hr3
      obtain ⟨hi, hL⟩ := each j (by omega)
      refine ⟨[.slice (AA j) ((Z j).take (L j)).length (C j)], rfl, ⟨AA j, C j, rfl, hi.le, hi.c⟩, fun i u hu => ?_⟩
      cases i with
      | succ i => simp at hu
      | zero =>
        simp only [List.getElem?_cons_zero, Option.some.injEq] at hu
        subst hu
        have e1 : j * (Kd.slice q (Kd.int k)).sz + 0 = j := by show j * 1 + 0 = j; omega
        rw [e1, ← hL]
        exact (hr j (by omega)).1
    · intro r hr1
      obtain ⟨j, hj, rfl⟩ := List.mem_map.1 hr1
      rw [List.mem_range] at hj
      exact (each j (by omega)).1.m
    · intro r hr1
      obtain ⟨j, hj, rfl⟩ := List.mem_map.1 hr1
      rw [List.mem_range] at hj
      exact (each j (by omega)).1.wf
end Go.Proofs.YtfahkoimleiknaaW.RowKit
end

section
namespace Go.Proofs.Ytfahkoimleiknaa.F
open Go.RowKit Go.Proofs.YtfahkoimleiknaaW.PrintWords Go.Proofs.YtfahkoimleiknaaW.PrintLast Go.Proofs.YtfahkoimleiknaaW.PrintMore Go.Proofs.YtfahkoimleiknaaW.RowKit
set_option linter.unusedVariables false
def laws_FnExactTurnTableau.Pure : Prop := ∀ (l0 : List (List Int)), l0.length ≤ maxLen → (∀ r ∈ l0, r.length ≤ maxLen) → (∀ r ∈ l0, ∀ n ∈ r, (Lit.int .i64 n).wf = true) → ∃ k, laws_FnExactTurnTableau.f k l0 = some true
theorem laws_FnExactTurnTableau.walk (P : laws_FnExactTurnTableau.Pure) (A0 : Option Addr) (c0 : Nat) (l0 : List (List Int)) (w : World) (i0 : PxRows w .i64 3 A0 c0 l0) :
    Calls Try.prog 9 #[.slice A0 l0.length c0] w fun e w' => e = .returned (.bool true) ∧ Below w.heap.size w w' := by
  obtain ⟨k, h⟩ := P l0 i0.m i0.m2 i0.wf
  refine (laws_FnExactTurnTableau.calls k _ _ l0 true w i0.c i0.le h).mono ?_
  rintro e w' ⟨rfl, hd⟩
  exact ⟨rfl, hd⟩
end Go.Proofs.Ytfahkoimleiknaa.F
end

section
namespace Go.Proofs.Ytfahkoimleiknaa.Q
open Go.RowKit Go.Proofs.YtfahkoimleiknaaW.PrintWords Go.Proofs.Ytfahkoimleiknaa.F
set_option linter.unusedVariables false
/-- The columns, the c-th one down to row n c. -/
def colsTo (rows : List (List Int)) (b : Nat) (n : Nat → Nat) : List (List Int) := (List.range b).map fun c => (List.range (n c)).map fun r => (row rows r).getD c 0
theorem colsTo_len (rows : List (List Int)) (b : Nat) (n : Nat → Nat) : (colsTo rows b n).length = b := by unfold colsTo; simp
theorem colsTo_row (rows : List (List Int)) {b c : Nat} (n : Nat → Nat) (hc : c < b) : row (colsTo rows b n) c = (List.range (n c)).map fun r => (row rows r).getD c 0 := by
  unfold row colsTo
  rw [List.getD_eq_getElem?_getD, List.getElem?_map, List.getElem?_range hc]; rfl
theorem colsTo_step (rows : List (List Int)) {b c : Nat} (n n' : Nat → Nat) (hc : c < b) (h1 : n' c = n c + 1) (h2 : ∀ d, d ≠ c → n' d = n d) :
    (colsTo rows b n).set c (row (colsTo rows b n) c ++ [(row rows (n c)).getD c 0]) = colsTo rows b n' := by
  rw [colsTo_row rows n hc]
  apply List.ext_getElem?
  intro i
  rw [List.getElem?_set]
  unfold colsTo
  rw [List.getElem?_map, List.getElem?_map, List.length_map, List.length_range]
  by_cases hi : c = i
  · subst hi
    rw [if_pos rfl, if_pos hc, List.getElem?_range hc, Option.map_some, h1, List.range_succ, List.map_append]; rfl
  · rw [if_neg hi]
    rcases Nat.lt_or_ge i b with hb | hb
    · rw [List.getElem?_range hb, Option.map_some, Option.map_some, h2 i (fun e => hi e.symm)]
    · rw [List.getElem?_eq_none (by simpa using hb)]; rfl
theorem turn_both {rows : List (List Int)} {a b : Nat} (h : Tab rows a b) : ∃ T : List (List Int), Ev (fun k => spec_TurnTableau.l0 k rows [] (b : Int) 0) (T, true) ∧ Ev (fun k => impl_TurnTableau.l0 k (List.replicate b []) rows (a : Int) 0) (T, true) ∧ T.length ≤ 1000 ∧ ∀ q ∈ T, q.length ≤ 1000 := by
  obtain ⟨hA, ha1, hb1, ha10, hb10, hab, hcol, hlen, hcell⟩ := h
  refine ⟨colsTo rows b (fun _ => a), ?_, ?_, by rw [colsTo_len]; omega, ?_⟩
  · have key : ∀ c, c ≤ b → Ev (fun k => spec_TurnTableau.l0 k rows ((colsTo rows b (fun _ => a)).take c) (b : Int) (c : Int)) (colsTo rows b (fun _ => a), true) := by
      refine downTo _ ?_ ?_
      · rw [List.take_of_length_le (by rw [colsTo_len]; omega)]
        exact Ev.step (by intro k; simp only [spec_TurnTableau.l0]; rfl) (Ev.no (by omega) (Ev.now _))
      · intro c hc ih
        refine Ev.step (by intro k; simp only [spec_TurnTableau.l0]; rfl) (Ev.yes (by omega) ?_)
        rw [hA]
        have hR : row (colsTo rows b (fun _ => a)) c = (List.range a).map fun r => (row rows r).getD c 0 := colsTo_row rows _ hc
        have inner : ∀ r, r ≤ a → Ev (fun k => spec_TurnTableau.l1 k rows ((colsTo rows b (fun _ => a)).take c) (c : Int) ((List.range r).map fun r => (row rows r).getD c 0) (b : Int) (c : Int) (a : Int) (r : Int)) (colsTo rows b (fun _ => a), true) := by
          refine downTo _ ?_ ?_
          · refine Ev.step (by intro k; simp only [spec_TurnTableau.l1]; rfl) (Ev.no (by omega) (Ev.yes (by rw [List.length_take, colsTo_len]; omega) ?_))
            rw [wid1 hc (by omega), ← hR]
            have e : (colsTo rows b (fun _ => a)).take c ++ [row (colsTo rows b (fun _ => a)) c] = (colsTo rows b (fun _ => a)).take (c + 1) := by
              rw [List.take_add_one]
              have hc2 : c < (colsTo rows b (fun _ => a)).length := by rw [colsTo_len]; exact hc
              unfold row
              rw [List.getD_eq_getElem?_getD, List.getElem?_eq_getElem hc2]; rfl
            rw [e]
            exact ih
          · intro r hr ihr
            refine Ev.step (by intro k; simp only [spec_TurnTableau.l1]; rfl) (Ev.yes (by omega) (Ev.yes (by omega) (Ev.yes (by omega) (Ev.yes (by omega) ?_))))
            rw [rdRow, hlen r hr, rdN, wid1 hr (by omega)]
            refine Ev.yes (by omega) (Ev.yes (by simp; omega) ?_)
            rw [List.range_succ, List.map_append] at ihr
            exact ihr
        exact inner 0 (by omega)
    exact key 0 (by omega)
  · have key : ∀ r, r ≤ a → Ev (fun k => impl_TurnTableau.l0 k (colsTo rows b (fun _ => r)) rows (a : Int) (r : Int)) (colsTo rows b (fun _ => a), true) := by
      refine downTo _ ?_ ?_
      · exact Ev.step (by intro k; simp only [impl_TurnTableau.l0]; rfl) (Ev.no (by omega) (Ev.now _))
      · intro r hr ih
        refine Ev.step (by intro k; simp only [impl_TurnTableau.l0]; rfl) (Ev.yes (by omega) (Ev.yes (by omega) (Ev.yes (by omega) ?_)))
        rw [rdRow, hlen r hr]
        have inner : ∀ c, c ≤ b → Ev (fun k => impl_TurnTableau.l1 k (colsTo rows b (fun d => if d < c then r + 1 else r)) rows (a : Int) (r : Int) (row rows r) (b : Int) (c : Int)) (colsTo rows b (fun _ => a), true) := by
          refine downTo _ ?_ ?_
          · refine Ev.step (by intro k; simp only [impl_TurnTableau.l1]; rfl) (Ev.no (by omega) ?_)
            rw [wid1 hr (by omega)]
            have e : colsTo rows b (fun d => if d < b then r + 1 else r) = colsTo rows b (fun _ => r + 1) := by
              unfold colsTo
              apply List.map_congr_left
              intro d hd
              rw [List.mem_range] at hd
              simp only [if_pos hd]
            rw [e]; exact ih
          · intro c hc ihc
            refine Ev.step (by intro k; simp only [impl_TurnTableau.l1]; rfl) (Ev.yes (by omega) (Ev.yes (by omega) (Ev.yes (by rw [hlen r hr]; omega) (Ev.yes (by rw [colsTo_len]; omega) ?_))))
            rw [rdRow, rdN, Int.toNat_natCast, wid1 hc (by omega)]
            have hst := colsTo_step rows (b := b) (c := c) (fun d => if d < c then r + 1 else r) (fun d => if d < c + 1 then r + 1 else r) hc (by simp) (fun d hd => by
              show (if d < c + 1 then r + 1 else r) = if d < c then r + 1 else r
              by_cases h1 : d < c
              · rw [if_pos h1, if_pos (by omega)]
              · rw [if_neg h1, if_neg (by omega)])
            have hz : (if c < c then r + 1 else r) = r := if_neg (Nat.lt_irrefl c)
            simp only [hz] at hst
            rw [hst]
            refine Ev.yes ?_ ihc
            rw [colsTo_row rows _ hc]; simp; omega
        have e : colsTo rows b (fun d => if d < 0 then r + 1 else r) = colsTo rows b (fun _ => r) := rfl
        have := inner 0 (by omega)
        rw [e] at this
        exact this
    have e : colsTo rows b (fun _ => 0) = List.replicate b [] := by
      unfold colsTo
      apply List.ext_getElem?
      intro i
      rw [List.getElem?_map, List.getElem?_replicate]
      rcases Nat.lt_or_ge i b with hb | hb
      · rw [List.getElem?_range hb, if_pos hb]; rfl
      · rw [List.getElem?_eq_none (by simpa using hb), if_neg (by omega)]; rfl
    have := key 0 (by omega)
    rw [e] at this
    exact this
  · intro q hq
    unfold colsTo at hq
    obtain ⟨c, _, rfl⟩ := List.mem_map.1 hq
    simp; omega
theorem TurnTableau_same (rows : List (List Int)) (_ : rows.length ≤ 1048576) (_ : ∀ q ∈ rows, q.length ≤ 1048576) (_ : ∀ r ∈ rows, ∀ n ∈ r, (Lit.int .i64 n).wf = true) :
    ∃ r, Ev (fun k => spec_TurnTableau.f k rows) r ∧ Ev (fun k => impl_TurnTableau.f k rows) r ∧ (r.1.length ≤ 1000 ∧ (∀ q ∈ r.1, q.length ≤ 1000) ∧ totLen r.1 ≤ 1000000) := by
  unfold spec_TurnTableau.f impl_TurnTableau.f
  cases h : isTab rows with
  | false =>
    refine ⟨([], false), Ev.bind (shGood_ev rows) ?_, Ev.bind (IsTableau_ev rows) ?_, ?_⟩
    rotate_left
    · rw [h]; exact Ev.no (by simp) (Ev.now _)
    rotate_left
    · rw [h]; exact Ev.no (by simp) (Ev.now _)
    · exact ⟨by simp, by simp, by simp [totLen]⟩
  | true =>
    obtain ⟨a, b, ht⟩ := isTab_facts h
    obtain ⟨T, g1, g2, g3, g4⟩ := turn_both ht
    have ha := ht.len
    have ha1 := ht.a1
    have hb10 := ht.b10
    refine ⟨(T, true), Ev.bind (shGood_ev rows) ?_, Ev.bind (IsTableau_ev rows) ?_, ⟨g3, g4, totLen_few g3 g4⟩⟩
    · rw [h]
      refine Ev.yes rfl (Ev.yes (by omega) ?_)
      rw [ht.col]; exact g1
    · rw [h]
      refine Ev.yes rfl (Ev.yes (by omega) ?_)
      rw [ht.col, ha, Int.toNat_natCast]
      exact Ev.yes (by omega) (Ev.yes (by omega) g2)
theorem FnExactTurnTableau : laws_FnExactTurnTableau.Pure := by
  intro l0 hm_l0 hm2_l0 hw_l0
  obtain ⟨Kzz1, ezz1⟩ := szIntSS_ev l0 1048576 (by omega) hm_l0 hm2_l0
  by_cases hb_l0 : (szR l0 1048576) < 0
  · exact ⟨0, by unfold laws_FnExactTurnTableau.f; exact if_pos ⟨Kzz1, (Or.inl ⟨(szR l0 1048576), ezz1 Kzz1 (Nat.le_refl _), decide_eq_true hb_l0⟩)⟩⟩
  obtain ⟨hl_l0, hl2_l0⟩ := szRows_small hb_l0
  obtain ⟨r, hs_, hi_, hr_⟩ := TurnTableau_same l0 hl_l0 hl2_l0 hw_l0
  obtain ⟨hr1_, hr2_, hr3_⟩ := hr_
  obtain ⟨K0, e0⟩ := toIntSS_ev l0 hl_l0 hl2_l0
  obtain ⟨K1, e1⟩ := hs_
  obtain ⟨K2, e2⟩ := hi_
  obtain ⟨K3, e3⟩ := eqIntSS_refl r.1 (by omega) (fun q_ hq_ => by have := hr2_ q_ hq_; omega)
  obtain ⟨K4, e4⟩ := eqIntSS_refl l0 (by omega) (fun q_ hq_ => by have := hl2_l0 q_ hq_; omega)
  obtain ⟨K5, e5⟩ := markIntSS_ev1 l0 (totLen_small hl_l0 hl2_l0) (by omega)
  obtain ⟨K6, e6⟩ := markIntSS_ev1 r.1 (by omega) (by omega)
  obtain ⟨K7, e7⟩ := heldIntSS_ev1 r.1 (by omega) (by omega)
  obtain ⟨K, hK_⟩ : ∃ K, K = 0 + Kzz1 + K0 + K1 + K2 + K3 + K4 + K5 + K6 + K7 := ⟨_, rfl⟩
  refine ⟨K, ?_⟩
  unfold laws_FnExactTurnTableau.f
  exact if_pos ⟨K, Or.inr (⟨(szR l0 1048576), r.1, r.2, ((1 + totLen l0 : Nat) : Int), (upRows 1 l0), ((1 + totLen r.1 : Nat) : Int), (upRows 1 r.1), ezz1 K (by omega), decide_eq_false hb_l0, e0 K (by omega), e1 K (by omega), e2 K (by omega), e3 K (by omega), e4 K (by omega), e5 K (by omega), decide_eq_false (by omega), e6 K (by omega), e7 K (by omega), decide_eq_false (by omega)⟩)⟩
end Go.Proofs.Ytfahkoimleiknaa.Q
end
