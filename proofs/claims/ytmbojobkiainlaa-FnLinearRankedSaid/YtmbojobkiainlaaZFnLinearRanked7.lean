/- Part 7 of the texts below the row of FnLinearRanked: printed functions with their contracts, and plain lemmas. No condition. -/
import Derived.Test.YtmbojobkiainlaaZFnLinearRanked6
import Derived.SizedLaws
import Derived.ChangeSlices
import Derived.WalkKit
import Derived.ProofKit
import Derived.OpenShut
import Derived.Lib.SmallJoins
import Derived.Deep.Matrix
section
section
namespace Go.Proofs.YtmbojobkiainlaaW.PrintWords
open Go.ChangeShapes Go.WideShapes
theorem sized_ints {H : Type} {enc : TypeId × Value → H} {P : Program} {W : World} {base : Nat} {spare : Nat → Bool} {held : Bool} {t e : TypeId} {k : IntKind} {a : Option Addr} {len cap : Nat} {d : DataW H} {ps : List MemPlace} {ts : List TypeId} {ds : List (DataW H)} {j : Nat}
 (hsz : (DataW.weightsEach P ts ds).all (· ≤ reachBytes) = true) (ht : ts[j]? = some t) (hd : ds[j]? = some d) (hu : P.underlying t = some (.slice e)) (he : P.underlying e = some (.int k)) (hc : P.cellsOf e = 1) {B : Nat} (hB : P.bytesOf e = B)
 (h : DataW.Trod enc P W base spare held t (.slice a len cap) d ps) : len * B ≤ 140737488351232 := by
 obtain ⟨fuel, hf⟩ := h
 rcases open_ints hu he hc hf with ⟨hcs, _⟩ | ⟨x, l, c, zs, hcs, _, hl, _, hz, hx, _, _⟩
 ·simp [Value.cells] at hcs
  obtain ⟨rfl, rfl, rfl⟩ := hcs
  simp
 ·simp [Value.cells] at hcs
  obtain ⟨rfl, rfl, rfl⟩ := hcs
  obtain ⟨hx, _⟩ := Prod.mk.inj hx
  subst hx
  have z := sized_slice hsz ht hd hu
  rw [hB] at z
  have hl2 : len ≤ zs.length := by
   rw [hz]
   split
   ·exact hl
   ·exact Nat.le_refl _
  have h1 : (lits (H := H) k (zs.take len)).length + (lits (H := H) k (zs.drop len)).length = zs.length := by
   simp [lits]
   omega
  rw [h1] at z
  exact Nat.le_trans (Nat.mul_le_mul_right _ hl2) z
end Go.Proofs.YtmbojobkiainlaaW.PrintWords
end
end

section
namespace Go.Proofs.YtmbojobkiainlaaW.RowKit
open Go.ChangeShapes Go.WideShapes Go.Deep Go.RowKit Go.Proofs.YtmbojobkiainlaaW.PrintWords
variable {H : Type} {enc : TypeId × Value → H} {P : Program} {w : World} {base : Nat} {held : Bool}
structure PxInts (w : World) (k : IntKind) (A : Option Addr) (c : Nat) (l : List Int) : Prop where
 le : l.length ≤ c
 c : Kd.C (Kd.int k) w A l.length l
 m : l.length ≤ maxLen
 wf : ∀ n ∈ l, (Lit.int k n).wf = true
theorem ints_of {t e : TypeId} {k : IntKind} {fuel : Nat} {cs : List Value} {x : DataW H × List MemPlace} (ht : P.underlying t = some (.slice e)) (he : P.underlying e = some (.int k)) (hc : P.cellsOf e = 1)
 (h : DataW.trod enc P w base (fun _ => true) held fuel t cs = some x) : ∃ A c l, cs = [.slice A (List.length l) c] ∧ PxInts w k A c l := by
 rcases open_ints ht he hc h with ⟨hcs, _⟩ | ⟨a, len, cap, zs, hcs, _, hl, hm, hz, _, hcell, hwz⟩
 ·obtain ⟨l, e1, h1, h2, h3, h4⟩ := ReadsInt.ofRowC (k := k) (w := w) (a := none) (len := 0) (cap := 0) (zs := []) (.inl ⟨rfl, rfl, rfl, rfl⟩)
  exact ⟨none, 0, l, by rw [hcs, ← e1], h4, Kd.C_of_reads (d := (0 : Int)) (h1 := fun _ => rfl) h1, h2, h3⟩
 ·obtain ⟨l, e1, h1, h2, h3, h4⟩ := ReadsInt.ofRowC (k := k) (w := w) (a := some a) (len := len) (cap := cap) (zs := zs) (.inr ⟨_, rfl, hl, hm, by simpa using hz, hcell, hwz⟩)
  exact ⟨some a, cap, l, by rw [hcs, ← e1], h4, Kd.C_of_reads (d := (0 : Int)) (h1 := fun _ => rfl) h1, h2, h3⟩
theorem open_sl {r : Reach} {b0 : Nat} {t e : TypeId} {k : IntKind} {v : Value} {d : DataW H} {p : List MemPlace} (ht : P.underlying t = some (.slice e)) (he : P.underlying e = some (.int k)) (hc : P.cellsOf e = 1)
 (hv : Value.okWide P w r b0 t v) (h : DataW.Trod enc P w base (fun _ => true) held t v d p) : ∃ A c l, v = .slice A (List.length l) c ∧ PxInts w k A c l := by
 obtain ⟨a, len, cap, rfl⟩ := okWide_slice ht hv
 obtain ⟨fuel, hf⟩ := h
 obtain ⟨A, c, l, hcs, hi⟩ := ints_of ht he hc hf
 simp [Value.cells] at hcs
 obtain ⟨rfl, rfl, rfl⟩ := hcs
 exact ⟨_, _, l, rfl, hi⟩
theorem open_st {r : Reach} {b0 : Nat} {t q e : TypeId} {k : IntKind} {f0 : Field} {v : Value} {d : DataW H} {p : List MemPlace} (hs : P.underlying t = some (.struct #[f0])) (hone : oneCellFields P #[f0] = true) (hC : P.cellsOf t = 1)
 (hq : f0.type = q) (ht : P.underlying q = some (.slice e)) (he : P.underlying e = some (.int k)) (hc : P.cellsOf e = 1)
 (hv : Value.okWide P w r b0 t v) (h : DataW.Trod enc P w base (fun _ => true) held t v d p) : ∃ A c l, v = .agg #[.slice A (List.length l) c] ∧ PxInts w k A c l := by
 subst hq
 obtain ⟨cs, rfl, hsz⟩ := okWide_struct hs hv
 obtain ⟨c0, rfl⟩ : ∃ c0, cs = #[c0] := by
  obtain ⟨l⟩ := cs
  match l, hsz.trans hC with
  | [c0], _ => exact ⟨c0, rfl⟩
 obtain ⟨fuel, hf⟩ := h
 obtain ⟨y0, n, _, _, h0⟩ := trod_struct1 hs hf
 obtain ⟨o0, k0⟩ := Go.Deep.hone_of hone 0 f0 rfl
 obtain ⟨A, c, l, hcs, hi⟩ := ints_of ht he hc (by simpa [Value.cells, o0, k0] using h0 : DataW.trod enc P w base (fun _ => true) held n f0.type [c0] = some y0)
 simp at hcs
 subst hcs
 exact ⟨A, c, l, rfl, hi⟩
structure PxRows (w : World) (k : IntKind) (q : TypeId) (A : Option Addr) (c : Nat) (l : List (List Int)) : Prop where
 le : l.length ≤ c
 c : Kd.C (Kd.slice q (Kd.int k)) w A l.length l
 m : l.length ≤ maxLen
 m2 : ∀ r ∈ l, r.length ≤ maxLen
 wf : ∀ r ∈ l, ∀ n ∈ r, (Lit.int k n).wf = true
theorem open_ss {r : Reach} {b0 : Nat} {t e q : TypeId} {k : IntKind} {v : Value} {d : DataW H} {p : List MemPlace} (ht : P.underlying t = some (.slice e)) (he : P.underlying e = some (.slice q)) (hq : P.underlying q = some (.int k))
 (ce : P.cellsOf e = 1) (cq : P.cellsOf q = 1)
 (hv : Value.okWide P w r b0 t v) (h : DataW.Trod enc P w base (fun _ => true) held t v d p) : ∃ A c l, v = .slice A (List.length l) c ∧ PxRows w k q A c l := by
 obtain ⟨a, len, cap, rfl⟩ := okWide_slice ht hv
 obtain ⟨fuel, hf⟩ := h
 rcases Go.Deep.open_int_rows ht he hq ce cq hf with ⟨hcs, _⟩ | ⟨x, len', cap', AA, L, C, Z, hcs, _, hl, hm, _, hr⟩
 ·simp [Value.cells] at hcs
  obtain ⟨rfl, rfl, rfl⟩ := hcs
  exact ⟨none, 0, [], rfl, Nat.le_refl _, ⟨rfl, Nat.zero_le _, fun h => absurd h (Nat.lt_irrefl _)⟩, Nat.zero_le _, (fun _ h => by cases h), (fun _ h => by cases h)⟩
 ·simp [Value.cells] at hcs
  obtain ⟨rfl, rfl, rfl⟩ := hcs
  have each : ∀ r, r < cap → PxInts w k (AA r) (C r) ((Z r).take (L r)) ∧ L r = ((Z r).take (L r)).length := by
   intro r hrc
   obtain ⟨_, h1, h2, h3, h4, h5, h6⟩ := hr r hrc
   have hz : ((Z r).take (L r)).length = L r := by rw [List.length_take]; omega
   refine ⟨⟨by omega, ⟨by rfl, by unfold maxLen at h2; omega, fun hp => ?_⟩, by omega, fun n hn => h4 n (List.mem_of_mem_take hn)⟩, hz.symm⟩
   cases ha : AA r with
   | none => have := h5 ha; omega
   | some ad =>
    refine ⟨ad, rfl, fun j p hj => ⟨[.int k p], rfl, rfl, fun i u hu => ?_⟩⟩
    have hj1 := (List.getElem?_eq_some_iff.1 hj).1
    have hjl : j < L r := by omega
    cases i with
    | succ i => simp at hu
    | zero =>
     simp at hu
     subst hu
     have := (h6 ad ha).2 j (by omega)
     rw [List.getD_eq_getElem?_getD, ← List.getElem?_take_of_lt hjl, hj] at this
     have e1 : j * (Kd.int k).sz + 0 = j := by show j * 1 + 0 = j; omega
     rw [e1]
     exact this
  refine ⟨some x, cap, (List.range len).map (fun r => (Z r).take (L r)), by simp, ⟨by simpa using hl, ⟨by simp, ?_, fun hp => ⟨x, rfl, fun j p hj => ?_⟩⟩, by simp; omega, ?_, ?_⟩⟩
  ·simp; unfold maxLen at hm; omega
  ·simp only [List.getElem?_map, Option.map_eq_some_iff] at hj
   obtain ⟨r, hr1, rfl⟩ := hj
   obtain ⟨hr2, hr3⟩ := List.getElem?_eq_some_iff.1 hr1
   simp at hr2 hr3
   subst hr3
   obtain ⟨hi, hL⟩ := each j (by omega)
   refine ⟨[.slice (AA j) ((Z j).take (L j)).length (C j)], rfl, ⟨AA j, C j, rfl, hi.le, hi.c⟩, fun i u hu => ?_⟩
   cases i with
   | succ i => simp at hu
   | zero =>
    simp only [List.getElem?_cons_zero, Option.some.injEq] at hu
    subst hu
    have e1 : j * (Kd.slice q (Kd.int k)).sz + 0 = j := by show j * 1 + 0 = j; omega
    rw [e1, ← hL]
    exact (hr j (by omega)).1
  ·intro r hr1
   obtain ⟨j, hj, rfl⟩ := List.mem_map.1 hr1
   rw [List.mem_range] at hj
   exact (each j (by omega)).1.m
  ·intro r hr1
   obtain ⟨j, hj, rfl⟩ := List.mem_map.1 hr1
   rw [List.mem_range] at hj
   exact (each j (by omega)).1.wf
end Go.Proofs.YtmbojobkiainlaaW.RowKit
end

section
namespace Go.Proofs.Ytmbojobkiainlaa.F
open Go.RowKit Go.Proofs.YtmbojobkiainlaaW.PrintWords Go.Proofs.YtmbojobkiainlaaW.PrintLast Go.Proofs.YtmbojobkiainlaaW.PrintMore Go.Proofs.YtmbojobkiainlaaW.RowKit
set_option linter.unusedVariables false
def laws_FnLinearRanked.Pure : Prop := ∀ (l0 : List Int) (l1 : List Int), l0.length ≤ maxLen → (∀ n ∈ l0, (Lit.int .u8 n).wf = true) → l1.length ≤ maxLen → (∀ n ∈ l1, (Lit.int .u8 n).wf = true) → ∃ k, laws_FnLinearRanked.f k l0 l1 = some true
theorem laws_FnLinearRanked.walk (P : laws_FnLinearRanked.Pure) (A0 : Option Addr) (c0 : Nat) (l0 : List Int) (A1 : Option Addr) (c1 : Nat) (l1 : List Int) (w : World) (i0 : PxInts w .u8 A0 c0 l0) (i1 : PxInts w .u8 A1 c1 l1) :
 Calls Try.prog 6 #[.slice A0 l0.length c0, .slice A1 l1.length c1] w fun e w' => e = .returned (.bool true) ∧ Below w.heap.size w w' := by
 obtain ⟨k, h⟩ := P l0 l1 i0.m i0.wf i1.m i1.wf
 refine (laws_FnLinearRanked.calls k _ _ l0 _ _ l1 true w i0.c i0.le i1.c i1.le h).mono ?_
 rintro e w' ⟨rfl, hd⟩
 exact ⟨rfl, hd⟩
end Go.Proofs.Ytmbojobkiainlaa.F
end

section
namespace Go.Proofs.Ytmbojobkiainlaa.Q
open Go.RowKit Go.Proofs.YtmbojobkiainlaaW.PrintWords Go.Proofs.Ytmbojobkiainlaa.F
set_option linter.unusedVariables false
theorem allW_sorted {p : List Int} : ∀ d s, (allW p d s).Pairwise fun a b => ∃ j, (∀ i, i < j → a.getD i 0 = b.getD i 0) ∧ a.getD j 0 < b.getD j 0 := by
 intro d
 induction d with
 | zero => intro s; unfold allW; exact List.pairwise_singleton _ _
 | succ d ih =>
  intro s
  unfold allW
  refine List.pairwise_flatMap.2 ⟨fun e _ => ?_, ?_⟩
  ·refine List.pairwise_map.2 (List.Pairwise.imp ?_ (ih _))
   rintro a b ⟨j, h1, h2⟩
   refine ⟨j + 1, fun i hi => ?_, h2⟩
   cases i with
   | zero => rfl
   | succ i => exact h1 i (by omega)
  ·refine List.Pairwise.imp ?_ (nextN_sorted p s)
   intro a b hab x hx y hy
   obtain ⟨v, _, rfl⟩ := List.mem_map.1 hx
   obtain ⟨u, _, rfl⟩ := List.mem_map.1 hy
   exact ⟨0, fun i hi => by omega, hab⟩
theorem rows_less {p : List Int} (hp : PO p) {i : Nat} (hi : i + 1 < (rowsTo p (ways p 0)).length) : Ev (fun k => laws_oLess.f k (rowsTo p (ways p 0))[i] (rowsTo p (ways p 0))[i + 1]) true := by
 have hn := hp.small
 have hla := rowsTo_mem _ (List.getElem_mem (l := rowsTo p (ways p 0)) (n := i) (by omega))
 have hlb := rowsTo_mem _ (List.getElem_mem (l := rowsTo p (ways p 0)) (n := i + 1) hi)
 have hs := List.pairwise_iff_getElem.1 (allW_sorted (p := p) p.length 0)
 have hlen : (rowsTo p (ways p 0)).length = (allW p p.length 0).length := by rw [rows_allW hp, List.length_map]
 obtain ⟨j, h1, h2⟩ := hs i (i + 1) (by omega) (by omega) (by omega)
 have e : ∀ t, (ht : t < (rowsTo p (ways p 0)).length) → (rowsTo p (ways p 0))[t] = ints ((allW p p.length 0)[t]'(by omega)) := fun t ht => by
  simp only [rows_allW hp, List.getElem_map]
 have ea := e i (by omega)
 have eb := e (i + 1) hi
 have hj : j < (rowsTo p (ways p 0))[i].length := by
  rcases Nat.lt_or_ge j (rowsTo p (ways p 0))[i].length with h | h
  ·exact h
  ·exfalso
   have hb : (allW p p.length 0)[i + 1].length ≤ j := by
    have := hlb; rw [eb, ints_len] at this; omega
   rw [List.getD_eq_getElem?_getD, List.getD_eq_getElem?_getD, List.getElem?_eq_none (l := (allW p p.length 0)[i + 1]) hb] at h2
   exact absurd h2 (Nat.not_lt_zero _)
 refine oLess_ev (j := j) (by omega) (by omega) hj (fun t ht => ?_) ?_
 ·rw [ea, eb, ints_get, ints_get, h1 t ht]
 ·rw [ea, eb, ints_get, ints_get]; omega
theorem small_ok {l : List Int} (hl : bytesL l) {B : Nat} {a : Int} (s : Int) (ha : cAt B a) (hB : B ≤ 9000) : ∃ p a' s', Ev (fun k => spec_l1Cur_small.f k l a s) (p, a', s') ∧ p.length ≤ 21 ∧ wfL p ∧ cAt (B + 200) a' := by
 unfold spec_l1Cur_small.f
 obtain ⟨b, a0, s0, e0, h0⟩ := one_ok hl s 10 ha (by omega)
 cases b with
 | true =>
  obtain ⟨p, a1, s1, e1, p1, p2, h1⟩ := poset_ok hl s0 (most := 8) (by omega) (by omega) h0 (by omega)
  exact ⟨p, a1, s1, Ev.call e0 (Ev.yes rfl (Ev.bind e1 (Ev.now _))), p1, p2, cAt_mono h1 (by omega)⟩
 | false =>
  obtain ⟨p, a1, s1, e1, p1, p2, h1⟩ := poset_ok hl s0 (most := 5) (by omega) (by omega) h0 (by omega)
  exact ⟨p, a1, s1, Ev.call e0 (Ev.no Bool.false_ne_true (Ev.bind e1 (Ev.now _))), p1, p2, cAt_mono h1 (by omega)⟩
theorem cAt0 : cAt 0 0 := ⟨Int.le_refl _, Int.le_refl _⟩
theorem drawAll_ok {l : List Int} (hl : bytesL l) : ∃ p, Ev (fun k => spec_DrawAllLinear.f k l) p ∧ p.length ≤ 21 ∧ wfL p := by
 obtain ⟨p, a, s, e, h1, h2, _⟩ := small_ok hl 0 cAt0 (by omega)
 refine ⟨p, ?_, h1, h2⟩
 unfold spec_DrawAllLinear.f spec_DrawAllLinearR.f
 exact Ev.bind (Ev.bind e (Ev.now _)) (Ev.now _)
theorem drawRank_ok {l : List Int} (hl : bytesL l) : ∃ p w, Ev (fun k => spec_DrawRankLinear.f k l) (p, w) ∧ p.length ≤ 21 ∧ wfL p ∧ w.length ≤ 21 ∧ wfL w := by
 obtain ⟨p, w, a, s, e, h1, h2, h3, h4, _⟩ := linear_ok hl 0 (most := 8) (by omega) (by omega) cAt0 (by omega)
 refine ⟨p, w, ?_, h1, h2, h3, h4⟩
 unfold spec_DrawRankLinear.f spec_DrawIsLinear.f spec_DrawIsLinearR.f
 exact Ev.bind (Ev.bind (Ev.bind e (Ev.now _)) (Ev.now _)) (Ev.now _)
theorem drawWith_ok {l : List Int} (hl : bytesL l) : ∃ p r, Ev (fun k => spec_DrawLinearWith.f k l) (p, r) ∧ p.length ≤ 21 ∧ wfL p ∧ (Lit.int .i64 r).wf = true := by
 obtain ⟨p, a, s, e, h1, h2, h3⟩ := poset_ok hl 0 (most := 8) (by omega) (by omega) cAt0 (by omega)
 have key : ∃ r a' s', Ev (fun k => spec_DrawLinearWithR.f k l 0 0) (p, r, a', s') ∧ (Lit.int .i64 r).wf = true := by
  unfold spec_DrawLinearWithR.f
  cases hpo : isPo p with
  | false =>
   refine ⟨0, a, s, Ev.bind e (Ev.bind (poGood_ev p) ?_), by decide⟩
   rw [hpo]; exact Ev.no Bool.false_ne_true (Ev.now _)
  | true =>
   have hP := (isPo_iff p).1 hpo
   have hn := hP.small
   have hw := ways_le hn 0
   have hex := ways_pos hP
   have hcl : 0 < ((Cl p 0).length : Int) := by rw [Cl_len]; have := Nat.two_pow_pos p.length; omega
   have hfc := first_cnt hP
   obtain ⟨b, a0, s0, e0, h0⟩ := one_ok hl s 5 h3 (by omega)
   cases b with
   | true =>
    obtain ⟨x, a1, s1, e1, _, hx⟩ := among_ok hl s0 h0 (by omega) (m := ([(-1), 0, wrap64 (((ways p 0 : Nat) : Int) - 1), ((ways p 0 : Nat) : Int)] : List Int)) (by simp)
    refine ⟨x, a1, s1, Ev.bind e (Ev.bind (poGood_ev p) ?_), ?_⟩
    ·rw [hpo]
     refine Ev.yes rfl (Ev.bind (liCounts_ev hP) (Ev.yes hcl (Ev.call e0 (Ev.yes rfl ?_))))
     rw [hfc]
     exact Ev.call e1 (Ev.now _)
    ·simp only [List.mem_cons, List.mem_nil_iff, or_false] at hx
     rcases hx with rfl | rfl | rfl | rfl
     ·decide
     ·decide
     ·exact wf_wrap64 _
     ·exact wf_small (by omega) (by omega)
   | false =>
    obtain ⟨t, ht, t1, t2⟩ : ∃ t : Nat, spec_l1Least.f ((ways p 0 : Nat) : Int) 60000 = some (t : Int) ∧ 1 ≤ t ∧ t ≤ 60000 := by
     unfold spec_l1Least.f
     by_cases h : ((ways p 0 : Nat) : Int) < 60000
     ·rw [if_pos h]; exact ⟨_, rfl, hex, by omega⟩
     ·rw [if_neg h]; exact ⟨60000, rfl, by omega, by omega⟩
    obtain ⟨x, a1, s1, e1, _, x0, x1⟩ := cpick_ok hl s0 (t : Int) h0 (by omega)
    refine ⟨x, a1, s1, Ev.bind e (Ev.bind (poGood_ev p) ?_), wf_small (by omega) (by omega)⟩
    rw [hpo]
    refine Ev.yes rfl (Ev.bind (liCounts_ev hP) (Ev.yes hcl (Ev.call e0 (Ev.no Bool.false_ne_true ?_))))
    rw [hfc]
    exact Ev.call ht (Ev.call e1 (Ev.now _))
 obtain ⟨r, a', s', g, hr⟩ := key
 refine ⟨p, r, ?_, h1, h2, hr⟩
 unfold spec_DrawLinearWith.f
 exact Ev.bind g (Ev.now _)
def cntV (p : List Int) : Int × Bool := if isPo p = true then (((ways p 0 : Nat) : Int), true) else (0, false)
theorem countLinear_impl (p : List Int) : Ev (fun k => impl_CountLinear.f k p) (cntV p) := by
 unfold impl_CountLinear.f impl_CountOrders.f cntV
 cases hpo : isPo p with
 | false =>
  refine Ev.bind (a := (0, false)) (Ev.bind (IsPoset_ev p) ?_) (Ev.now _)
  rw [hpo]; exact Ev.no Bool.false_ne_true (Ev.now _)
 | true =>
  have hP := (isPo_iff p).1 hpo
  refine Ev.bind (a := (((ways p 0 : Nat) : Int), true)) (Ev.bind (IsPoset_ev p) ?_) (Ev.now _)
  rw [hpo]
  have hwl : 0 < ((Wl p 0).length : Int) := by rw [Wl_len]; have := Nat.two_pow_pos p.length; omega
  refine Ev.yes rfl (Ev.bind (ways_table hP) (Ev.yes hwl ?_))
  rw [first_way hP]
  exact Ev.now _
theorem countLinear_spec (p : List Int) : Ev (fun k => spec_CountLinear.f k p) (cntV p) := by
 unfold spec_CountLinear.f cntV
 cases hpo : isPo p with
 | false =>
  refine Ev.bind (poGood_ev p) ?_
  rw [hpo]; exact Ev.no Bool.false_ne_true (Ev.now _)
 | true =>
  have hP := (isPo_iff p).1 hpo
  have hcl : 0 < ((Cl p 0).length : Int) := by rw [Cl_len]; have := Nat.two_pow_pos p.length; omega
  refine Ev.bind (poGood_ev p) ?_
  rw [hpo]
  refine Ev.yes rfl (Ev.bind (liCounts_ev hP) (Ev.yes hcl ?_))
  rw [first_cnt hP]
  exact Ev.now _
def allV (p : List Int) : List (List Int) × Bool := if isPo p = true ∧ ways p 0 ≤ 500 then (rowsTo p (ways p 0), true) else ([], false)
theorem allLinear_impl (p : List Int) : Ev (fun k => impl_AllLinear.f k p) (allV p) := by
 unfold impl_AllLinear.f
 exact Ev.bind (few_ev p) (Ev.now _)
theorem allLinear_spec (p : List Int) : Ev (fun k => spec_AllLinear.f k p) (allV p) := by
 unfold spec_AllLinear.f allV
 refine Ev.bind (poGood_ev p) ?_
 cases hpo : isPo p with
 | false => exact Ev.no Bool.false_ne_true (Ev.ret (by simp))
 | true =>
  have h := liAll_ev ((isPo_iff p).1 hpo)
  refine Ev.yes rfl (Ev.bind h (Ev.ret ?_))
  by_cases hw : ways p 0 ≤ 500
  ·rw [if_pos hw, if_pos ⟨rfl, hw⟩]
  ·rw [if_neg hw, if_neg (fun g => hw g.2)]
def withV (p : List Int) (a : Int) : List Int × Bool := if isPo p = true ∧ (0 ≤ a ∧ a < ((ways p 0 : Nat) : Int)) then (ints (linW p p.length 0 a.toNat), true) else ([], false)
theorem with_spec (p : List Int) (a : Int) : Ev (fun k => spec_LinearWith.f k p a) (withV p a) := by
 unfold spec_LinearWith.f withV
 refine Ev.bind (poGood_ev p) ?_
 cases hpo : isPo p with
 | false => exact Ev.no Bool.false_ne_true (Ev.ret (by simp))
 | true =>
  have hP := (isPo_iff p).1 hpo
  have hn := hP.small
  have hw := ways_le hn 0
  have hcl : 0 < ((Cl p 0).length : Int) := by rw [Cl_len]; have := Nat.two_pow_pos p.length; omega
  refine Ev.yes rfl (Ev.bind (liCounts_ev hP) (Ev.yes hcl ?_))
  rw [first_cnt hP, wid (by omega) (by omega), l1In_eq]
  by_cases ha : 0 ≤ a ∧ a ≤ ((ways p 0 : Nat) : Int) - 1
  ·obtain ⟨r, rfl⟩ := Int.eq_ofNat_of_zero_le ha.1
   rw [range_true ha, if_pos ⟨rfl, ⟨ha.1, by omega⟩⟩, Int.toNat_natCast]
   exact Ev.call rfl (Ev.yes rfl (Ev.bind (liWith_ev hP (r := r) (by omega)) (Ev.now _)))
  ·rw [range_false ha, if_neg (fun h => ha ⟨h.2.1, by omega⟩)]
   exact Ev.call rfl (Ev.no Bool.false_ne_true (Ev.now _))
theorem with_impl {p : List Int} (hp : p.length ≤ 1048576) (hw : wfL p) {a : Int} (ha : (Lit.int .i64 a).wf = true) : Ev (fun k => impl_LinearWith.f k p a) (withV p a) := by
 obtain ⟨r, h1, h2, _⟩ := LinearWith_same p hp hw a ha
 rw [Ev.uniq (with_spec p a) h1]
 exact h2
theorem rank_both {p w : List Int} (hp : p.length ≤ 1048576) (hwp : wfL p) (hl : w.length ≤ 1048576) (hww : wfL w) : ∃ r : Int × Bool, Ev (fun k => impl_RankLinear.f k p w) r ∧ Ev (fun k => spec_RankLinear.f k p w) r ∧ r.2 = linB p w ∧ (r.2 = true → withV p r.1 = (w, true) ∧ (Lit.int .i64 r.1).wf = true) := by
 obtain ⟨r, h1, h2, _⟩ := RankLinear_same p hp hwp w hl hww
 refine ⟨r, h2, h1, ?_⟩
 cases h : linB p w with
 | false =>
  have : Ev (fun k => impl_RankLinear.f k p w) (0, false) := by
   unfold impl_RankLinear.f
   refine Ev.bind (isLinear_ev p w (by omega)) ?_
   rw [h]; exact Ev.no Bool.false_ne_true (Ev.now _)
  rw [Ev.uniq h2 this]
  exact ⟨rfl, fun h => absurd h Bool.false_ne_true⟩
 | true =>
  have H := linB_lin h
  obtain ⟨i, hi, e⟩ := List.mem_map.1 ((mem_rows H.po w).2 H.ord)
  have hi := List.mem_range.1 hi
  have hw := ways_le H.small 0
  have hs := rank_spec H.po hi
  rw [e] at hs
  rw [Ev.uniq h1 hs]
  refine ⟨rfl, fun _ => ⟨?_, wf_small (by show (-1000000 : Int) ≤ (i : Int); omega) (by show (i : Int) ≤ _; omega)⟩⟩
  unfold withV
  rw [if_pos ⟨(isPo_iff p).2 H.po, ⟨by show (0 : Int) ≤ (i : Int); omega, by show (i : Int) < _; omega⟩⟩]
  show (ints (linW p p.length 0 ((i : Nat) : Int).toNat), true) = _
  rw [Int.toNat_natCast, e]
theorem rank_of_with {p : List Int} {r : Nat} (hP : PO p) (hr : r < ways p 0) (hp : p.length ≤ 1048576) (hwp : wfL p) : Ev (fun k => impl_RankLinear.f k p (ints (linW p p.length 0 r))) (((r : Nat) : Int), true) ∧ linB p (ints (linW p p.length 0 r)) = true := by
 have hn := hP.small
 have ho : ordB p (ints (linW p p.length 0 r)) = true := (mem_rows hP _).1 (List.mem_map.2 ⟨r, List.mem_range.2 hr, rfl⟩)
 have hl := ordB_len ho
 refine ⟨?_, by unfold linB; rw [(isPo_iff p).2 hP, ho]; rfl⟩
 obtain ⟨q, h1, h2, _⟩ := RankLinear_same p hp hwp (ints (linW p p.length 0 r)) (by omega) (fun n hn2 => by
  have := ordB_range ho n hn2
  exact wf_small (by omega) (by omega))
 rw [← Ev.uniq h1 (rank_spec hP hr)]
 exact h2
theorem FnLinearRanked : laws_FnLinearRanked.Pure := by
 intro l0 l1 h0 b0 h1 b1
 have hb0 : bytesL l0 := fun n hn => by
  have := b0 n hn
  simp only [Lit.wf, Bool.and_eq_true, decide_eq_true_eq] at this
  exact this
 have hb1 : bytesL l1 := fun n hn => by
  have := b1 n hn
  simp only [Lit.wf, Bool.and_eq_true, decide_eq_true_eq] at this
  exact this
 refine Ev.rounds (g := fun k => laws_FnLinearRanked.f k l0 l1) ?_
 unfold laws_FnLinearRanked.f
 rcases big_or l0 l1 with hbig | ⟨hbig, _, _⟩
 ·exact Ev.call hbig (Ev.yes rfl (Ev.now _))
 refine Ev.call hbig (Ev.no Bool.false_ne_true ?_)
 obtain ⟨p, rank, d1, p1, p2, p3⟩ := drawWith_ok hb0
 obtain ⟨q, d2, q1, q2⟩ := drawAll_ok hb1
 obtain ⟨r, list, d3, r1, r2, r3, r4⟩ := drawRank_ok hb1
 refine Ev.bind d1 (Ev.bind (with_impl (by omega) p2 p3) (Ev.bind (with_spec p rank) ?_))
 have hne : ∀ b : Bool, (b != b) = false := fun b => by cases b <;> rfl
 refine Ev.no (by rw [hne]; exact Bool.false_ne_true) ?_
 have hwl : (withV p rank).1.length ≤ 21 := by
  unfold withV
  split
  ·rw [ints_len, linW_len]; exact p1
  ·exact Nat.zero_le _
 refine Ev.bind (oSame_refl (a := (withV p rank).1) (by omega)) ?_
 show Ev (fun k => laws_FnLinearRanked.j0 k l1 rank (withV p rank).1 (withV p rank).2 false p) true
 refine Ev.step (by intro k; simp only [laws_FnLinearRanked.j0]; rfl) (Ev.no Bool.false_ne_true ?_)
 refine Ev.bind d2 (Ev.bind (allLinear_impl q) (Ev.bind (allLinear_spec q) (Ev.bind (countLinear_impl q) (Ev.bind (countLinear_spec q) ?_))))
 have hqlen : (allV q).1.length ≤ 500 ∧ ∀ x ∈ (allV q).1, x.length ≤ 21 := by
  unfold allV
  split
  ·rename_i h
   exact ⟨by rw [rowsTo_len]; exact h.2, fun x hx => by rw [rowsTo_mem x hx]; exact q1⟩
  ·exact ⟨Nat.zero_le _, fun x hx => by cases hx⟩
 refine Ev.no (by rw [hne]; exact Bool.false_ne_true) (Ev.bind (oSameRows_refl (by omega) (fun x hx => by have := hqlen.2 x hx; omega)) (Ev.yes rfl (Ev.no (by rw [hne]; exact Bool.false_ne_true) (Ev.yes rfl ?_))))
 -- what is told of the list
 have toJ1 : Ev (fun k => laws_FnLinearRanked.j1 k l1 rank (withV p rank).1 (withV p rank).2 (allV q).1 false p q) true := by
  refine Ev.step (by intro k; simp only [laws_FnLinearRanked.j1]; rfl) (Ev.no Bool.false_ne_true ?_)
  have tail : Ev (fun k => (spec_DrawRankLinear.f k l1).bind fun bt1177 => ((impl_RankLinear.f k bt1177.1 bt1177.2).bind fun bt1184 => ((spec_RankLinear.f k bt1177.1 bt1177.2).bind fun bt1186 => (if (bt1184.2 != bt1186.2) = true then (laws_FnLinearRanked.j3 k rank (withV p rank).1 (withV p rank).2 bt1177.2 bt1184.1 bt1184.2 true p bt1177.1) else (if bt1184.1 = bt1186.1 then ((laws_oLinear.f k bt1177.1 bt1177.2).bind fun t1188 => (laws_FnLinearRanked.j3 k rank (withV p rank).1 (withV p rank).2 bt1177.2 bt1184.1 bt1184.2 (bt1184.2 != t1188) p bt1177.1)) else (laws_FnLinearRanked.j3 k rank (withV p rank).1 (withV p rank).2 bt1177.2 bt1184.1 bt1184.2 true p bt1177.1)))))) true := by
   obtain ⟨at_, g1, g2, g3, g4⟩ := rank_both (p := r) (w := list) (by omega) r2 (by omega) r4
   refine Ev.bind d3 (Ev.bind g1 (Ev.bind g2 ?_))
   refine Ev.no (by rw [hne]; exact Bool.false_ne_true) (Ev.yes rfl (Ev.bind (oLinear_ev r list (by omega)) ?_))
   rw [g3, hne]
   refine Ev.step (by intro k; simp only [laws_FnLinearRanked.j3]; rfl) (Ev.no Bool.false_ne_true ?_)
   have toJ4 : Ev (fun k => laws_FnLinearRanked.j4 k rank (withV p rank).1 (withV p rank).2 p) true := by
    refine Ev.step (by intro k; simp only [laws_FnLinearRanked.j4]; rfl) ?_
    unfold withV
    by_cases h : isPo p = true ∧ (0 ≤ rank ∧ rank < ((ways p 0 : Nat) : Int))
    ·rw [if_pos h]
     have hP := (isPo_iff p).1 h.1
     obtain ⟨n, rfl⟩ := Int.eq_ofNat_of_zero_le h.2.1
     obtain ⟨k1, k2⟩ := rank_of_with hP (r := n) (by omega) (by omega) p2
     have hl : (ints (linW p p.length 0 n)).length ≤ 9223372036854775807 := by rw [ints_len, linW_len]; omega
     refine Ev.yes rfl ?_
     rw [Int.toNat_natCast]
     refine Ev.bind k1 (Ev.yes rfl (Ev.yes rfl (Ev.bind (oLinear_ev p _ hl) ?_)))
     rw [k2]
     exact Ev.now _
    ·rw [if_neg h]
     exact Ev.no Bool.false_ne_true (Ev.now _)
   cases hlin : linB r list with
   | false => exact Ev.no Bool.false_ne_true toJ4
   | true =>
    obtain ⟨k1, k2⟩ := g4 (by rw [g3]; exact hlin)
    refine Ev.yes rfl (Ev.bind (with_impl (by omega) r2 k2) ?_)
    rw [k1]
    exact Ev.yes rfl (Ev.bind (oSame_refl (a := list) (by omega)) (Ev.yes rfl toJ4))
  have key : ∀ i, i ≤ (allV q).1.length → Ev (fun k => laws_FnLinearRanked.l0 k l1 rank (withV p rank).1 (withV p rank).2 (allV q).1 (allV q).1 ((allV q).1.length : Int) (i : Int) p q) true := by
   refine downTo _ ?_ ?_
   ·exact Ev.step (by intro k; simp only [laws_FnLinearRanked.l0]; rfl) (Ev.no (by omega) tail)
   ·intro i hi ih
    have hx := hqlen.2 _ (List.getElem_mem hi)
    have hh : isPo q = true ∧ ways q 0 ≤ 500 := by
     by_cases h : isPo q = true ∧ ways q 0 ≤ 500
     ·exact h
     ·unfold allV at hi; rw [if_neg h] at hi; exact absurd hi (Nat.not_lt_zero _)
    have hQ := (isPo_iff q).1 hh.1
    have hall : (allV q).1 = rowsTo q (ways q 0) := by unfold allV; rw [if_pos hh]
    refine Ev.step (by intro k; simp only [laws_FnLinearRanked.l0]; rfl) (Ev.yes (by omega) (Ev.yes (by omega) (Ev.yes (by omega) ?_)))
    rw [rdL_at hi, wid1 hi (by omega)]
    have hlin : linB q (allV q).1[i] = true := by
     unfold linB
     rw [hh.1, (mem_rows hQ _).1 (by rw [← hall]; exact List.getElem_mem hi)]; rfl
    refine Ev.bind (oLinear_ev q _ (by omega)) ?_
    rw [hlin]
    refine Ev.yes rfl ?_
    cases i with
    | zero => exact Ev.no (by omega) ih
    | succ i =>
     refine Ev.yes (by omega) ?_
     rw [show wrap64 (((i + 1 : Nat) : Int) - 1) = (i : Int) by rw [wid (by omega) (by omega)]; omega]
     refine Ev.yes (by omega) (Ev.yes (by omega) ?_)
     rw [rdL_at (rows := (allV q).1) (i := i) (by omega)]
     have hless := rows_less hQ (i := i) (by rw [← hall]; exact hi)
     refine Ev.bind (a := true) ?_ (Ev.yes rfl ih)
     simp only [hall]
     exact hless
  exact key 0 (Nat.zero_le _)
 unfold cntV
 by_cases hpo : isPo q = true
 ·rw [if_pos hpo]
  refine Ev.yes rfl ?_
  have hd : (allV q).2 = decide (((ways q 0 : Nat) : Int) ≤ 500) := by
   unfold allV
   by_cases hw : ways q 0 ≤ 500
   ·rw [if_pos ⟨hpo, hw⟩, decide_eq_true (by omega)]
   ·rw [if_neg (fun h => hw h.2), decide_eq_false (by omega)]
  rw [← hd]
  refine Ev.no (by rw [hne]; exact Bool.false_ne_true) ?_
  by_cases ht : (allV q).2 = true
  ·rw [ht]
   refine Ev.yes rfl ?_
   have : (((allV q).1.length : Int) != ((ways q 0 : Nat) : Int)) = false := by
    have hw : ways q 0 ≤ 500 := by
     by_cases hw : ways q 0 ≤ 500
     ·exact hw
     ·unfold allV at ht; rw [if_neg (fun h => hw h.2)] at ht; cases ht
    unfold allV
    rw [if_pos ⟨hpo, hw⟩, rowsTo_len]
    simp
   rw [this]
   exact toJ1
  ·rw [Bool.eq_false_iff.2 ht]
   exact Ev.no Bool.false_ne_true toJ1
 ·rw [if_neg hpo]
  have hf : (allV q).2 = false := by unfold allV; rw [if_neg (fun h => hpo h.1)]
  rw [hf]
  exact Ev.no Bool.false_ne_true (Ev.no Bool.false_ne_true (Ev.no Bool.false_ne_true toJ1))
end Go.Proofs.Ytmbojobkiainlaa.Q
end
