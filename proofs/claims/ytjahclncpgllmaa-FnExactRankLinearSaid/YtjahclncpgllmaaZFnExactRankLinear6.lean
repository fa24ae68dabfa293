/- Part 6 of the texts below the row of FnExactRankLinear: printed functions with their contracts, and plain lemmas. No condition. -/
import Derived.Test.YtjahclncpgllmaaZFnExactRankLinear5
import Derived.SizedLaws
import Derived.ChangeSlices
import Derived.WalkKit
import Derived.ProofKit
import Derived.OpenShut
import Derived.Lib.SmallJoins
import Derived.Deep.Matrix
section
section
namespace Go.Proofs.YtjahclncpgllmaaW.PrintWords
open Go.ChangeShapes Go.WideShapes
/-- A row's slice of whole numbers is no longer than its weight allows. -/
theorem sized_ints {H : Type} {enc : TypeId × Value → H} {P : Program} {W : World} {base : Nat} {spare : Nat → Bool} {held : Bool} {t e : TypeId} {k : IntKind} {a : Option Addr} {len cap : Nat} {d : DataW H} {ps : List MemPlace} {ts : List TypeId} {ds : List (DataW H)} {j : Nat}
    (hsz : (DataW.weightsEach P ts ds).all (· ≤ reachBytes) = true) (ht : ts[j]? = some t) (hd : ds[j]? = some d) (hu : P.underlying t = some (.slice e)) (he : P.underlying e = some (.int k)) (hc : P.cellsOf e = 1) {B : Nat} (hB : P.bytesOf e = B)
    (h : DataW.Trod enc P W base spare held t (.slice a len cap) d ps) : len * B ≤ 140737488351232 := by
  obtain ⟨fuel, hf⟩ := h
  rcases open_ints hu he hc hf with ⟨hcs, _⟩ | ⟨x, l, c, zs, hcs, _, hl, _, hz, hx, _, _⟩
  · simp [Value.cells] at hcs
    obtain ⟨rfl, rfl, rfl⟩ := hcs
    simp
  · simp [Value.cells] at hcs
    obtain ⟨rfl, rfl, rfl⟩ := hcs
    obtain ⟨hx, _⟩ := Prod.mk.inj hx
    subst hx
    have z := sized_slice hsz ht hd hu
    rw [hB] at z
    have hl2 : len ≤ zs.length := by
      rw [hz]
      split
      · exact hl
      · exact Nat.le_refl _
    have h1 : (lits (H := H) k (zs.take len)).length + (lits (H := H) k (zs.drop len)).length = zs.length := by
      simp [lits]
      omega
    rw [h1] at z
    exact Nat.le_trans (Nat.mul_le_mul_right _ hl2) z
end Go.Proofs.YtjahclncpgllmaaW.PrintWords
end
end

section
namespace Go.Proofs.YtjahclncpgllmaaW.RowKit
open Go.ChangeShapes Go.WideShapes Go.Deep Go.RowKit Go.Proofs.YtjahclncpgllmaaW.PrintWords
variable {H : Type} {enc : TypeId × Value → H} {P : Program} {w : World} {base : Nat} {held : Bool}
/-- What is known of a slice of whole numbers that came in. -/
structure PxInts (w : World) (k : IntKind) (A : Option Addr) (c : Nat) (l : List Int) : Prop where
  le : l.length ≤ c
  c : Kd.C (Kd.int k) w A l.length l
  m : l.length ≤ maxLen
  wf : ∀ n ∈ l, (Lit.int k n).wf = true
theorem ints_of {t e : TypeId} {k : IntKind} {fuel : Nat} {cs : List Value} {x : DataW H × List MemPlace} (ht : P.underlying t = some (.slice e)) (he : P.underlying e = some (.int k)) (hc : P.cellsOf e = 1)
    (h : DataW.trod enc P w base (fun _ => true) held fuel t cs = some x) : ∃ A c l, cs = [.slice A (List.length l) c] ∧ PxInts w k A c l := by
  rcases open_ints ht he hc h with ⟨hcs, _⟩ | ⟨a, len, cap, zs, hcs, _, hl, hm, hz, _, hcell, hwz⟩
  · obtain ⟨l, e1, h1, h2, h3, h4⟩ := ReadsInt.ofRowC (k := k) (w := w) (a := none) (len := 0) (cap := 0) (zs := []) (.inl ⟨rfl, rfl, rfl, rfl⟩)
    exact ⟨none, 0, l, by rw [hcs, ← e1], h4, Kd.C_of_reads (d := (0 : Int)) (h1 := fun _ => rfl) h1, h2, h3⟩
  · obtain ⟨l, e1, h1, h2, h3, h4⟩ := ReadsInt.ofRowC (k := k) (w := w) (a := some a) (len := len) (cap := cap) (zs := zs) (.inr ⟨_, rfl, hl, hm, by simpa using hz, hcell, hwz⟩)
    exact ⟨some a, cap, l, by rw [hcs, ← e1], h4, Kd.C_of_reads (d := (0 : Int)) (h1 := fun _ => rfl) h1, h2, h3⟩
theorem open_sl {r : Reach} {b0 : Nat} {t e : TypeId} {k : IntKind} {v : Value} {d : DataW H} {p : List MemPlace} (ht : P.underlying t = some (.slice e)) (he : P.underlying e = some (.int k)) (hc : P.cellsOf e = 1)
    (hv : Value.okWide P w r b0 t v) (h : DataW.Trod enc P w base (fun _ => true) held t v d p) : ∃ A c l, v = .slice A (List.length l) c ∧ PxInts w k A c l := by
  obtain ⟨a, len, cap, rfl⟩ := okWide_slice ht hv
  obtain ⟨fuel, hf⟩ := h
  obtain ⟨A, c, l, hcs, hi⟩ := ints_of ht he hc hf
  simp [Value.cells] at hcs
  obtain ⟨rfl, rfl, rfl⟩ := hcs
  exact ⟨_, _, l, rfl, hi⟩
theorem open_st {r : Reach} {b0 : Nat} {t q e : TypeId} {k : IntKind} {f0 : Field} {v : Value} {d : DataW H} {p : List MemPlace} (hs : P.underlying t = some (.struct #[f0])) (hone : oneCellFields P #[f0] = true) (hC : P.cellsOf t = 1)
    (hq : f0.type = q) (ht : P.underlying q = some (.slice e)) (he : P.underlying e = some (.int k)) (hc : P.cellsOf e = 1)
    (hv : Value.okWide P w r b0 t v) (h : DataW.Trod enc P w base (fun _ => true) held t v d p) : ∃ A c l, v = .agg #[.slice A (List.length l) c] ∧ PxInts w k A c l := by
  subst hq
  obtain ⟨cs, rfl, hsz⟩ := okWide_struct hs hv
  obtain ⟨c0, rfl⟩ : ∃ c0, cs = #[c0] := by
    obtain ⟨l⟩ := cs
    match l, hsz.trans hC with
    | [c0], _ => exact ⟨c0, rfl⟩
  obtain ⟨fuel, hf⟩ := h
  obtain ⟨y0, n, _, _, h0⟩ := trod_struct1 hs hf
  obtain ⟨o0, k0⟩ := Go.Deep.hone_of hone 0 f0 rfl
  obtain ⟨A, c, l, hcs, hi⟩ := ints_of ht he hc (by simpa [Value.cells, o0, k0] using h0 : DataW.trod enc P w base (fun _ => true) held n f0.type [c0] = some y0)
  simp at hcs
  subst hcs
  exact ⟨A, c, l, rfl, hi⟩
/-- What is known of a slice of slices of whole numbers that came in. -/
structure PxRows (w : World) (k : IntKind) (q : TypeId) (A : Option Addr) (c : Nat) (l : List (List Int)) : Prop where
  le : l.length ≤ c
  c : Kd.C (Kd.slice q (Kd.int k)) w A l.length l
  m : l.length ≤ maxLen
  m2 : ∀ r ∈ l, r.length ≤ maxLen
  wf : ∀ r ∈ l, ∀ n ∈ r, (Lit.int k n).wf = true
theorem open_ss {r : Reach} {b0 : Nat} {t e q : TypeId} {k : IntKind} {v : Value} {d : DataW H} {p : List MemPlace} (ht : P.underlying t = some (.slice e)) (he : P.underlying e = some (.slice q)) (hq : P.underlying q = some (.int k))
    (ce : P.cellsOf e = 1) (cq : P.cellsOf q = 1)
    (hv : Value.okWide P w r b0 t v) (h : DataW.Trod enc P w base (fun _ => true) held t v d p) : ∃ A c l, v = .slice A (List.length l) c ∧ PxRows w k q A c l := by
  obtain ⟨a, len, cap, rfl⟩ := okWide_slice ht hv
  obtain ⟨fuel, hf⟩ := h
  rcases Go.Deep.open_int_rows ht he hq ce cq hf with ⟨hcs, _⟩ | ⟨x, len', cap', AA, L, C, Z, hcs, _, hl, hm, _, hr⟩
  · simp [Value.cells] at hcs
    obtain ⟨rfl, rfl, rfl⟩ := hcs
    exact ⟨none, 0, [], rfl, Nat.le_refl _, ⟨rfl, Nat.zero_le _, fun h => absurd h (Nat.lt_irrefl _)⟩, Nat.zero_le _, (fun _ h => by cases h), (fun _ h => by cases h)⟩
  · simp [Value.cells] at hcs
    obtain ⟨rfl, rfl, rfl⟩ := hcs
    have each : ∀ r, r < cap → PxInts w k (AA r) (C r) ((Z r).take (L r)) ∧ L r = ((Z r).take (L r)).length := by
      intro r hrc
      obtain ⟨_, h1, h2, h3, h4, h5, h6⟩ := hr r hrc
      have hz : ((Z r).take (L r)).length = L r := by rw [List.length_take]; omega
      refine ⟨⟨by omega, ⟨by rfl, by unfold maxLen at h2; omega, fun hp => ?_⟩, by omega, fun n hn => h4 n (List.mem_of_mem_take hn)⟩, hz.symm⟩
      cases ha : AA r with
      | none => have := h5 ha; omega
      | some ad =>
        refine ⟨ad, rfl, fun j p hj => ⟨[.int k p], rfl, rfl, fun i u hu => ?_⟩⟩
        have hj1 := (List.getElem?_eq_some_iff.1 hj).1
        have hjl : j < L r := by omega
        cases i with
        | succ i => simp at hu
        | zero =>
          simp at hu
          subst hu
          have := (h6 ad ha).2 j (by omega)
          rw [List.getD_eq_getElem?_getD, ← List.getElem?_take_of_lt hjl, hj] at this
          have e1 : j * (Kd.int k).sz + 0 = j := by show j * 1 + 0 = j; omega
          rw [e1]
          exact this
    refine ⟨some x, cap, (List.range len).map (fun r => (Z r).take (L r)), by simp, ⟨by simpa using hl, ⟨by simp, ?_, fun hp => ⟨x, rfl, fun j p hj => ?_⟩⟩, by simp; omega, ?_, ?_⟩⟩
    · simp; unfold maxLen at hm; omega
    · simp only [List.getElem?_map, Option.map_eq_some_iff] at hj
      obtain ⟨r, hr1, rfl⟩ := hj
      obtain ⟨hr2, hr3⟩ := List.getElem?_eq_some_iff.1 hr1
      simp at hr2 hr3
      subst hr3
      obtain ⟨hi, hL⟩ := each j (by omega)
      refine ⟨[.slice (AA j) ((Z j).take (L j)).length (C j)], rfl, ⟨AA j, C j, rfl, hi.le, hi.c⟩, fun i u hu => ?_⟩
      cases i with
      | succ i => simp at hu
      | zero =>
        simp only [List.getElem?_cons_zero, Option.some.injEq] at hu
        subst hu
        have e1 : j * (Kd.slice q (Kd.int k)).sz + 0 = j := by show j * 1 + 0 = j; omega
        rw [e1, ← hL]
        exact (hr j (by omega)).1
    · intro r hr1
      obtain ⟨j, hj, rfl⟩ := List.mem_map.1 hr1
      rw [List.mem_range] at hj
      exact (each j (by omega)).1.m
    · intro r hr1
      obtain ⟨j, hj, rfl⟩ := List.mem_map.1 hr1
      rw [List.mem_range] at hj
      exact (each j (by omega)).1.wf
end Go.Proofs.YtjahclncpgllmaaW.RowKit
end

section
namespace Go.Proofs.Ytjahclncpgllmaa.F
open Go.RowKit Go.Proofs.YtjahclncpgllmaaW.PrintWords Go.Proofs.YtjahclncpgllmaaW.PrintLast Go.Proofs.YtjahclncpgllmaaW.PrintMore Go.Proofs.YtjahclncpgllmaaW.RowKit
set_option linter.unusedVariables false
def laws_FnExactRankLinear.Pure : Prop := ∀ (l0 : List Int) (l1 : List Int), l0.length ≤ maxLen → (∀ n ∈ l0, (Lit.int .i64 n).wf = true) → l1.length ≤ maxLen → (∀ n ∈ l1, (Lit.int .i64 n).wf = true) → ∃ k, laws_FnExactRankLinear.f k l0 l1 = some true
theorem laws_FnExactRankLinear.walk (P : laws_FnExactRankLinear.Pure) (A0 : Option Addr) (c0 : Nat) (l0 : List Int) (A1 : Option Addr) (c1 : Nat) (l1 : List Int) (w : World) (i0 : PxInts w .i64 A0 c0 l0) (i1 : PxInts w .i64 A1 c1 l1) :
    Calls Try.prog 7 #[.agg #[.slice A0 l0.length c0], .slice A1 l1.length c1] w fun e w' => e = .returned (.bool true) ∧ Below w.heap.size w w' := by
  obtain ⟨k, h⟩ := P l0 l1 i0.m i0.wf i1.m i1.wf
  refine (laws_FnExactRankLinear.calls k _ _ l0 _ _ l1 true w i0.c i0.le i1.c i1.le h).mono ?_
  rintro e w' ⟨rfl, hd⟩
  exact ⟨rfl, hd⟩
end Go.Proofs.Ytjahclncpgllmaa.F
end

section
namespace Go.Proofs.Ytjahclncpgllmaa.Q
open Go.RowKit Go.Proofs.YtjahclncpgllmaaW.PrintWords Go.Proofs.Ytjahclncpgllmaa.F
set_option linter.unusedVariables false
theorem rank_spec_in {p : List Int} (hp : PO p) {s own : Nat} (hs : s < 2 ^ p.length) (ho : own < p.length) (w : List Int) (n i0 : Int) (R : Int × Bool) : ∀ i, i ≤ own → ∀ acc : Int,
    Ev (fun k => spec_RankLinear.l0 k (Cl p 0) (rkF p s acc (nextTo p s own i)) ((s ||| 2 ^ own : Nat) : Int) w n (wrap64 (i0 + 1)) p) R → Ev (fun k => spec_RankLinear.l1 k (Cl p 0) acc (s : Int) (own : Int) (i : Int) w n i0 p) R := by
  have hn := hp.small
  refine downTo _ ?_ ?_
  · intro acc h
    rw [nextTo_end] at h
    refine Ev.step (by intro k; simp only [spec_RankLinear.l1]; rfl) (Ev.no (by omega) (Ev.yes (by omega) ?_))
    rw [shlN (by omega), bits_orN (lt_pow hs (by omega)) (Nat.pow_lt_pow_right (by decide) (by omega))]
    exact h
  · intro i hi ih acc h
    have hip : i < p.length := by omega
    rw [nextTo_step hi] at h
    refine Ev.step (by intro k; simp only [spec_RankLinear.l1]; rfl) (Ev.yes (by omega) (Ev.call (poIn_eq (by omega)) ?_))
    rw [wid1 (i := i) (n := p.length) hip (by omega)]
    cases hb : s.testBit i with
    | true =>
      rw [hb] at h
      exact Ev.yes rfl (ih acc (by simpa using h))
    | false =>
      rw [hb] at h
      refine Ev.no (by simp) (Ev.yes (by omega) (Ev.yes (by omega) ?_))
      rw [rdN, hp.val i hip, bits_andNotN (lt_pow (L_lt hp hip) (by omega)) (lt_pow hs (by omega))]
      cases hc : subB (L p i) s with
      | false =>
        rw [hc] at h
        refine Ev.no (fun h5 => ?_) (ih acc (by simpa using h))
        have h4 : ndiff (L p i) s = 0 := by exact_mod_cast h5
        unfold subB at hc; rw [h4] at hc; simp at hc
      | true =>
        rw [hc] at h
        have h4 : ndiff (L p i) s = 0 := by unfold subB at hc; exact beq_iff_eq.1 hc
        have hsi : s ||| 2 ^ i < 2 ^ p.length := or_lt hs (pow_lt_pow hip)
        refine Ev.yes (by rw [h4]; rfl) ?_
        rw [shlN (by omega), bits_orN (lt_pow hs (by omega)) (Nat.pow_lt_pow_right (by decide) (by omega))]
        refine Ev.yes (by omega) (Ev.yes (by rw [Cl_len]; omega) ?_)
        rw [rdN, Cl_at hsi]
        refine ih _ ?_
        simpa [rkF] using h
theorem rank_impl_in {p : List Int} (hp : PO p) {s own : Nat} (hs : s < 2 ^ p.length) (hid : idealB p s = true) (ho : own < p.length) (w : List Int) (n i0 : Int) (R : Int × Bool) : ∀ j, j ≤ (nextN p s).length → ∀ acc : Int,
    Ev (fun k => impl_RankLinear.l0 k (Wl p 0) (rkF p s acc (((nextN p s).drop j).filter fun e => decide (e < own))) ((s ||| 2 ^ own : Nat) : Int) w n (wrap64 (i0 + 1)) p) R → Ev (fun k => impl_RankLinear.l1 k (Wl p 0) acc (s : Int) (own : Int) w n i0 (ints (nextN p s)) ((nextN p s).length : Int) (j : Int) p) R := by
  have hn := hp.small
  have hl := nextN_len p s
  refine downTo _ ?_ ?_
  · intro acc h
    rw [List.drop_length] at h
    refine Ev.step (by intro k; simp only [impl_RankLinear.l1]; rfl) (Ev.no (by omega) (Ev.yes (by omega) ?_))
    rw [shlN (by omega), bits_orN (lt_pow hs (by omega)) (Nat.pow_lt_pow_right (by decide) (by omega))]
    exact h
  · intro j hj ih acc h
    have hm := nextN_get hj
    have hd : (nextN p s).drop j = (nextN p s).getD j 0 :: (nextN p s).drop (j + 1) := by
      rw [List.drop_eq_getElem_cons hj, List.getD_eq_getElem?_getD, List.getElem?_eq_getElem hj]; rfl
    rw [hd] at h
    refine Ev.step (by intro k; simp only [impl_RankLinear.l1]; rfl) (Ev.yes (by omega) (Ev.yes (by omega) (Ev.yes (by rw [ints_len]; omega) ?_)))
    rw [rd_ints, wid1 hj (by omega)]
    generalize (nextN p s).getD j 0 = e at h hm
    obtain ⟨h1, h2⟩ := Wl_next hp hs hid hm
    have he := (mem_nextN.1 hm).2.1
    rw [List.filter_cons] at h
    by_cases hlt : e < own
    · rw [decide_eq_true hlt] at h
      refine Ev.yes (by omega) (Ev.yes (by omega) ?_)
      rw [shlN (by omega), bits_orN (lt_pow hs (by omega)) (Nat.pow_lt_pow_right (by decide) (by omega))]
      refine Ev.yes (by omega) (Ev.yes (by rw [Wl_len]; omega) ?_)
      rw [rdN, h2]
      refine ih _ ?_
      simpa [rkF] using h
    · rw [decide_eq_false hlt] at h
      exact Ev.no (by omega) (ih acc (by simpa using h))
theorem rank_run {p : List Int} (hp : PO p) (w : List Int) (hw : w.length ≤ 10) : ∀ i, i ≤ w.length → ∀ (s : Nat) (acc : Int), s < 2 ^ p.length → idealB p s = true → ordRun p s (w.drop i) = some (allN p) →
    ∃ r : Int, Ev (fun k => spec_RankLinear.l0 k (Cl p 0) acc (s : Int) w (w.length : Int) (i : Int) p) (r, true) ∧ Ev (fun k => impl_RankLinear.l0 k (Wl p 0) acc (s : Int) w (w.length : Int) (i : Int) p) (r, true) := by
  have hn := hp.small
  refine downTo _ ?_ ?_
  · intro s acc _ _ _
    exact ⟨acc, Ev.step (by intro k; simp only [spec_RankLinear.l0]; rfl) (Ev.no (by omega) (Ev.now _)), Ev.step (by intro k; simp only [impl_RankLinear.l0]; rfl) (Ev.no (by omega) (Ev.now _))⟩
  · intro i hi ih s acc hs hid ho
    rw [drop_getD w hi] at ho
    simp only [ordRun] at ho
    split at ho
    rotate_left
    · cases ho
    rename_i hc
    obtain ⟨⟨c1, c2⟩, c3, c4⟩ := hc
    obtain ⟨own, he⟩ := Int.eq_ofNat_of_zero_le c1
    rw [he, Int.toNat_natCast] at c3 c4 ho
    rw [he] at c2
    have hown : own < p.length := by omega
    have hmem : own ∈ nextN p s := mem_nextN.2 ⟨by omega, hown, c3, c4⟩
    obtain ⟨r, g1, g2⟩ := ih (s ||| 2 ^ own) (rkF p s acc (nextTo p s own 0)) (or_lt hs (pow_lt_pow hown)) (idealB_add hp hid hmem) ho
    have ew : wrap64 ((i : Int) + 1) = ((i + 1 : Nat) : Int) := wid1 hi (by omega)
    refine ⟨r, Ev.step (by intro k; simp only [spec_RankLinear.l0]; rfl) (Ev.yes (by omega) (Ev.yes (by omega) (Ev.yes (by omega) ?_))), Ev.step (by intro k; simp only [impl_RankLinear.l0]; rfl) (Ev.yes (by omega) (Ev.yes (by omega) (Ev.yes (by omega) (Ev.bind (next_ev hp hs) ?_))))⟩
    · rw [rdN, he]
      refine rank_spec_in hp hs hown w _ _ _ 0 (Nat.zero_le _) acc ?_
      rw [ew]; exact g1
    · rw [rdN, he, ints_len]
      refine rank_impl_in hp hs hid hown w _ _ _ 0 (Nat.zero_le _) acc ?_
      rw [ew, List.drop_zero, nextTo_eq hn (by omega)]; exact g2
theorem RankLinear_same (p : List Int) (hp : p.length ≤ 1048576) (_ : ∀ n ∈ p, (Lit.int .i64 n).wf = true) (w : List Int) (hw : w.length ≤ 1048576) (_ : ∀ n ∈ w, (Lit.int .i64 n).wf = true) :
    ∃ r, Ev (fun k => spec_RankLinear.f k p w) r ∧ Ev (fun k => impl_RankLinear.f k p w) r ∧ True := by
  unfold spec_RankLinear.f impl_RankLinear.f
  have stop : Ev (fun k => spec_RankLinear.j0 k w true p) (0, false) := Ev.step (by intro k; simp only [spec_RankLinear.j0]; rfl) (Ev.yes (show true = true from rfl) (Ev.now _))
  cases hpo : isPo p with
  | false =>
    have h : linB p w = false := by unfold linB; rw [hpo]; rfl
    refine ⟨(0, false), Ev.bind (poGood_ev p) ?_, Ev.bind (isLinear_ev p w (by omega)) ?_, trivial⟩
    · rw [hpo]; exact Ev.no (by simp) stop
    · rw [h]; exact Ev.no (by simp) (Ev.now _)
  | true =>
  have hP := (isPo_iff p).1 hpo
  cases ho : ordB p w with
  | false =>
    have h : linB p w = false := by unfold linB; rw [hpo, ho]; rfl
    refine ⟨(0, false), Ev.bind (poGood_ev p) ?_, Ev.bind (isLinear_ev p w (by omega)) ?_, trivial⟩
    · rw [hpo]
      refine Ev.yes rfl (Ev.bind (liIs_ev hP w) ?_)
      rw [ho]; exact stop
    · rw [h]; exact Ev.no (by simp) (Ev.now _)
  | true =>
    have h : linB p w = true := by unfold linB; rw [hpo, ho]; rfl
    have hl := ordB_len ho
    have hn := hP.small
    obtain ⟨r, g1, g2⟩ := rank_run hP w (by omega) 0 (Nat.zero_le _) 0 0 (Nat.two_pow_pos _) (idealB_zero p) (by rw [List.drop_zero]; exact ordB_iff.1 ho)
    refine ⟨(r, true), Ev.bind (poGood_ev p) ?_, Ev.bind (isLinear_ev p w (by omega)) ?_, trivial⟩
    · rw [hpo]
      refine Ev.yes rfl (Ev.bind (liIs_ev hP w) ?_)
      rw [ho]
      show Ev (fun k => spec_RankLinear.j0 k w false p) _
      exact Ev.step (by intro k; simp only [spec_RankLinear.j0]; rfl) (Ev.no (by simp) (Ev.bind (liCounts_ev hP) g1))
    · rw [h]
      exact Ev.yes rfl (Ev.bind (ways_table hP) g2)
theorem FnExactRankLinear : laws_FnExactRankLinear.Pure := by
  intro l0 l1 hm_l0 hw_l0 hm_l1 hw_l1
  by_cases hb_l1 : ((l1.length : Int) > 1048576)
  · exact ⟨0, by unfold laws_FnExactRankLinear.f; exact if_pos ⟨0, (Or.inl ⟨(), decide_eq_true hb_l1⟩)⟩⟩
  have hl_l1 : l1.length ≤ 1048576 := by omega
  by_cases hl_l0 : l0.length ≤ 1048576
  rotate_left
  · exact ⟨0, by unfold laws_FnExactRankLinear.f; exact if_pos ⟨0, (Or.inr (Or.inl ⟨-1, decide_eq_false hb_l1, (szPoset_eq l0 1048576 (by omega) hm_l0).trans (by rw [if_neg hl_l0]), by decide⟩))⟩⟩
  obtain ⟨r, hs_, hi_, hr_⟩ := RankLinear_same l0 hl_l0 hw_l0 l1 hl_l1 hw_l1
  obtain ⟨K0, e0⟩ := toPoset_ev l0 hl_l0
  obtain ⟨K1, e1⟩ := toIntS_ev l1 hl_l1
  obtain ⟨K2, e2⟩ := hs_
  obtain ⟨K3, e3⟩ := hi_
  obtain ⟨K4, e4⟩ := eqPoset_refl l0 (by omega)
  obtain ⟨K5, e5⟩ := eqIntS_refl l1 (by omega)
  obtain ⟨K, hK_⟩ : ∃ K, K = 0 + K0 + K1 + K2 + K3 + K4 + K5 := ⟨_, rfl⟩
  refine ⟨K, ?_⟩
  unfold laws_FnExactRankLinear.f
  exact if_pos ⟨K, Or.inr (Or.inr (⟨((1048576 - l0.length : Nat) : Int), r.1, r.2, decide_eq_false hb_l1, (szPoset_eq l0 1048576 (by omega) hm_l0).trans (by rw [if_pos hl_l0]), decide_eq_false (by omega), e0 K (by omega), e1 K (by omega), e2 K (by omega), e3 K (by omega), e4 K (by omega), e5 K (by omega)⟩))⟩
end Go.Proofs.Ytjahclncpgllmaa.Q
end
