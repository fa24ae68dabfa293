/- Part 6 of the texts below the row of FnExactCountReturned: printed functions with their contracts, and plain lemmas. No condition. -/
import Derived.Test.YtnihjpnheooeoaaZFnExactCountReturned5
import Derived.SizedLaws
import Derived.ChangeSlices
import Derived.WalkKit
import Derived.ProofKit
import Derived.OpenShut
import Derived.Lib.SmallJoins
import Derived.Deep.Matrix
section
section
namespace Go.Proofs.YtnihjpnheooeoaaW.PrintWords
open Go.ChangeShapes Go.WideShapes
/-- A row's slice of whole numbers is no longer than its weight allows. -/
theorem sized_ints {H : Type} {enc : TypeId × Value → H} {P : Program} {W : World} {base : Nat} {spare : Nat → Bool} {held : Bool} {t e : TypeId} {k : IntKind} {a : Option Addr} {len cap : Nat} {d : DataW H} {ps : List MemPlace} {ts : List TypeId} {ds : List (DataW H)} {j : Nat}
    (hsz : (DataW.weightsEach P ts ds).all (· ≤ reachBytes) = true) (ht : ts[j]? = some t) (hd : ds[j]? = some d) (hu : P.underlying t = some (.slice e)) (he : P.underlying e = some (.int k)) (hc : P.cellsOf e = 1) {B : Nat} (hB : P.bytesOf e = B)
    (h : DataW.Trod enc P W base spare held t (.slice a len cap) d ps) : len * B ≤ 140737488351232 := by
  obtain ⟨fuel, hf⟩ := h
  rcases open_ints hu he hc hf with ⟨hcs, _⟩ | ⟨x, l, c, zs, hcs, _, hl, _, hz, hx, _, _⟩
  · simp [Value.cells] at hcs
    obtain ⟨rfl, rfl, rfl⟩ := hcs
    simp
  · simp [Value.cells] at hcs
    obtain ⟨rfl, rfl, rfl⟩ := hcs
    obtain ⟨hx, _⟩ := Prod.mk.inj hx
    subst hx
    have z := sized_slice hsz ht hd hu
    rw [hB] at z
    have hl2 : len ≤ zs.length := by
      rw [hz]
      split
      · exact hl
      · exact Nat.le_refl _
    have h1 : (lits (H := H) k (zs.take len)).length + (lits (H := H) k (zs.drop len)).length = zs.length := by
      simp [lits]
      omega
    rw [h1] at z
    exact Nat.le_trans (Nat.mul_le_mul_right _ hl2) z
end Go.Proofs.YtnihjpnheooeoaaW.PrintWords
end
end

section
namespace Go.Proofs.YtnihjpnheooeoaaW.RowKit
open Go.ChangeShapes Go.WideShapes Go.Deep Go.RowKit Go.Proofs.YtnihjpnheooeoaaW.PrintWords
variable {H : Type} {enc : TypeId × Value → H} {P : Program} {w : World} {base : Nat} {held : Bool}
/-- What is known of a slice of whole numbers that came in. -/
structure PxInts (w : World) (k : IntKind) (A : Option Addr) (c : Nat) (l : List Int) : Prop where
  le : l.length ≤ c
  c : Kd.C (Kd.int k) w A l.length l
  m : l.length ≤ maxLen
  wf : ∀ n ∈ l, (Lit.int k n).wf = true
theorem ints_of {t e : TypeId} {k : IntKind} {fuel : Nat} {cs : List Value} {x : DataW H × List MemPlace} (ht : P.underlying t = some (.slice e)) (he : P.underlying e = some (.int k)) (hc : P.cellsOf e = 1)
    (h : DataW.trod enc P w base (fun _ => true) held fuel t cs = some x) : ∃ A c l, cs = [.slice A (List.length l) c] ∧ PxInts w k A c l := by
  rcases open_ints ht he hc h with ⟨hcs, _⟩ | ⟨a, len, cap, zs, hcs, _, hl, hm, hz, _, hcell, hwz⟩
  · obtain ⟨l, e1, h1, h2, h3, h4⟩ := ReadsInt.ofRowC (k := k) (w := w) (a := none) (len := 0) (cap := 0) (zs := []) (.inl ⟨rfl, rfl, rfl, rfl⟩)
    exact ⟨none, 0, l, by rw [hcs, ← e1], h4, Kd.C_of_reads (d := (0 : Int)) (h1 := fun _ => rfl) h1, h2, h3⟩
  · obtain ⟨l, e1, h1, h2, h3, h4⟩ := ReadsInt.ofRowC (k := k) (w := w) (a := some a) (len := len) (cap := cap) (zs := zs) (.inr ⟨_, rfl, hl, hm, by simpa using hz, hcell, hwz⟩)
    exact ⟨some a, cap, l, by rw [hcs, ← e1], h4, Kd.C_of_reads (d := (0 : Int)) (h1 := fun _ => rfl) h1, h2, h3⟩
theorem open_sl {r : Reach} {b0 : Nat} {t e : TypeId} {k : IntKind} {v : Value} {d : DataW H} {p : List MemPlace} (ht : P.underlying t = some (.slice e)) (he : P.underlying e = some (.int k)) (hc : P.cellsOf e = 1)
    (hv : Value.okWide P w r b0 t v) (h : DataW.Trod enc P w base (fun _ => true) held t v d p) : ∃ A c l, v = .slice A (List.length l) c ∧ PxInts w k A c l := by
  obtain ⟨a, len, cap, rfl⟩ := okWide_slice ht hv
  obtain ⟨fuel, hf⟩ := h
  obtain ⟨A, c, l, hcs, hi⟩ := ints_of ht he hc hf
  simp [Value.cells] at hcs
  obtain ⟨rfl, rfl, rfl⟩ := hcs
  exact ⟨_, _, l, rfl, hi⟩
theorem open_st {r : Reach} {b0 : Nat} {t q e : TypeId} {k : IntKind} {f0 : Field} {v : Value} {d : DataW H} {p : List MemPlace} (hs : P.underlying t = some (.struct #[f0])) (hone : oneCellFields P #[f0] = true) (hC : P.cellsOf t = 1)
    (hq : f0.type = q) (ht : P.underlying q = some (.slice e)) (he : P.underlying e = some (.int k)) (hc : P.cellsOf e = 1)
    (hv : Value.okWide P w r b0 t v) (h : DataW.Trod enc P w base (fun _ => true) held t v d p) : ∃ A c l, v = .agg #[.slice A (List.length l) c] ∧ PxInts w k A c l := by
  subst hq
  obtain ⟨cs, rfl, hsz⟩ := okWide_struct hs hv
  obtain ⟨c0, rfl⟩ : ∃ c0, cs = #[c0] := by
    obtain ⟨l⟩ := cs
    match l, hsz.trans hC with
    | [c0], _ => exact ⟨c0, rfl⟩
  obtain ⟨fuel, hf⟩ := h
  obtain ⟨y0, n, _, _, h0⟩ := trod_struct1 hs hf
  obtain ⟨o0, k0⟩ := Go.Deep.hone_of hone 0 f0 rfl
  obtain ⟨A, c, l, hcs, hi⟩ := ints_of ht he hc (by simpa [Value.cells, o0, k0] using h0 : DataW.trod enc P w base (fun _ => true) held n f0.type [c0] = some y0)
  simp at hcs
  subst hcs
  exact ⟨A, c, l, rfl, hi⟩
/-- What is known of a slice of slices of whole numbers that came in. -/
structure PxRows (w : World) (k : IntKind) (q : TypeId) (A : Option Addr) (c : Nat) (l : List (List Int)) : Prop where
  le : l.length ≤ c
  c : Kd.C (Kd.slice q (Kd.int k)) w A l.length l
  m : l.length ≤ maxLen
  m2 : ∀ r ∈ l, r.length ≤ maxLen
  wf : ∀ r ∈ l, ∀ n ∈ r, (Lit.int k n).wf = true
theorem open_ss {r : Reach} {b0 : Nat} {t e q : TypeId} {k : IntKind} {v : Value} {d : DataW H} {p : List MemPlace} (ht : P.underlying t = some (.slice e)) (he : P.underlying e = some (.slice q)) (hq : P.underlying q = some (.int k))
    (ce : P.cellsOf e = 1) (cq : P.cellsOf q = 1)
    (hv : Value.okWide P w r b0 t v) (h : DataW.Trod enc P w base (fun _ => true) held t v d p) : ∃ A c l, v = .slice A (List.length l) c ∧ PxRows w k q A c l := by
  obtain ⟨a, len, cap, rfl⟩ := okWide_slice ht hv
  obtain ⟨fuel, hf⟩ := h
  rcases Go.Deep.open_int_rows ht he hq ce cq hf with ⟨hcs, _⟩ | ⟨x, len', cap', AA, L, C, Z, hcs, _, hl, hm, _, hr⟩
  · simp [Value.cells] at hcs
    obtain ⟨rfl, rfl, rfl⟩ := hcs
    exact ⟨none, 0, [], rfl, Nat.le_refl _, ⟨rfl, Nat.zero_le _, fun h => absurd h (Nat.lt_irrefl _)⟩, Nat.zero_le _, (fun _ h => by cases h), (fun _ h => by cases h)⟩
  · simp [Value.cells] at hcs
    obtain ⟨rfl, rfl, rfl⟩ := hcs
    have each : ∀ r, r < cap → PxInts w k (AA r) (C r) ((Z r).take (L r)) ∧ L r = ((Z r).take (L r)).length := by
      intro r hrc
      obtain ⟨_, h1, h2, h3, h4, h5, h6⟩ := hr r hrc
      have hz : ((Z r).take (L r)).length = L r := by rw [List.length_take]; omega
      refine ⟨⟨by omega, ⟨by rfl, by unfold maxLen at h2; omega, fun hp => ?_⟩, by omega, fun n hn => h4 n (List.mem_of_mem_take hn)⟩, hz.symm⟩
      cases ha : AA r with
      | none => have := h5 ha; omega
      | some ad =>
        refine ⟨ad, rfl, fun j p hj => ⟨[.int k p], rfl, rfl, fun i u hu => ?_⟩⟩
        have hj1 := (List.getElem?_eq_some_iff.1 hj).1
        have hjl : j < L r := by omega
        cases i with
        | succ i => simp at hu
        | zero =>
          simp at hu
          subst hu
          have := (h6 ad ha).2 j (by omega)
          rw [List.getD_eq_getElem?_getD, ← List.getElem?_take_of_lt hjl, hj] at this
          have e1 : j * (Kd.int k).sz + 0 = j := by show j * 1 + 0 = j; omega
          rw [e1]
          exact this
    refine ⟨some x, cap, (List.range len).map (fun r => (Z r).take (L r)), by simp, ⟨by simpa using hl, ⟨by simp, ?_, fun hp => ⟨x, rfl, fun j p hj => ?_⟩⟩, by simp; omega, ?_, ?_⟩⟩
    · simp; unfold maxLen at hm; omega
    · simp only [List.getElem?_map, Option.map_eq_some_iff] at hj
      obtain ⟨r, hr1, rfl⟩ := hj
      obtain ⟨hr2, hr3⟩ := List.getElem?_eq_some_iff.1 hr1
      simp at hr2 hr3
      subst hr3
      obtain ⟨hi, hL⟩ := each j (by omega)
      refine ⟨[.slice (AA j) ((Z j).take (L j)).length (C j)], rfl, ⟨AA j, C j, rfl, hi.le, hi.c⟩, fun i u hu => ?_⟩
      cases i with
      | succ i => simp at hu
      | zero =>
        simp only [List.getElem?_cons_zero, Option.some.injEq] at hu
        subst hu
        have e1 : j * (Kd.slice q (Kd.int k)).sz + 0 = j := by show j * 1 + 0 = j; omega
        rw [e1, ← hL]
        exact (hr j (by omega)).1
    · intro r hr1
      obtain ⟨j, hj, rfl⟩ := List.mem_map.1 hr1
      rw [List.mem_range] at hj
      exact (each j (by omega)).1.m
    · intro r hr1
      obtain ⟨j, hj, rfl⟩ := List.mem_map.1 hr1
      rw [List.mem_range] at hj
      exact (each j (by omega)).1.wf
end Go.Proofs.YtnihjpnheooeoaaW.RowKit
end

section
namespace Go.Proofs.Ytnihjpnheooeoaa.F
open Go.RowKit Go.Proofs.YtnihjpnheooeoaaW.PrintWords Go.Proofs.YtnihjpnheooeoaaW.PrintLast Go.Proofs.YtnihjpnheooeoaaW.PrintMore Go.Proofs.YtnihjpnheooeoaaW.RowKit
set_option linter.unusedVariables false
def laws_FnExactCountReturned.Pure : Prop := ∀ (l0 : List Int) (a1 : Int), l0.length ≤ maxLen → (∀ n ∈ l0, (Lit.int .i64 n).wf = true) → (Lit.int .i64 a1).wf = true → ∃ k, laws_FnExactCountReturned.f k l0 a1 = some true
theorem laws_FnExactCountReturned.walk (P : laws_FnExactCountReturned.Pure) (A0 : Option Addr) (c0 : Nat) (l0 : List Int) (a1 : Int) (w : World) (i0 : PxInts w .i64 A0 c0 l0) (w1 : (Lit.int .i64 a1).wf = true) :
    Calls Try.prog 5 #[.agg #[.slice A0 l0.length c0], .int .i64 a1] w fun e w' => e = .returned (.bool true) ∧ Below w.heap.size w w' := by
  obtain ⟨k, h⟩ := P l0 a1 i0.m i0.wf w1
  refine (laws_FnExactCountReturned.calls k _ _ l0 a1 true w i0.c i0.le h).mono ?_
  rintro e w' ⟨rfl, hd⟩
  exact ⟨rfl, hd⟩
end Go.Proofs.Ytnihjpnheooeoaa.F
end

section
namespace Go.Proofs.Ytnihjpnheooeoaa.Q
open Go.RowKit Go.Proofs.YtnihjpnheooeoaaW.PrintWords Go.Proofs.Ytnihjpnheooeoaa.F
set_option linter.unusedVariables false
theorem ret_spec {p : List Int} (hp : PO p) {t : Nat} (ht : t ≤ 100) (rows : List (List Int)) (hr : rows.length ≤ 500) (ho : ∀ q ∈ rows, ordB p q = true) : ∀ i, i ≤ rows.length → ∀ c : Nat, c ≤ i → Ev (fun k => spec_CountReturned.l0 k (t : Int) (c : Int) rows (rows.length : Int) (i : Int) p) (((c + (rows.drop i).countP (fun w => decide (itL (proL p) w t = w)) : Nat) : Int), true) := by
  have hn := hp.small
  refine downTo _ ?_ ?_
  · intro c _
    rw [List.drop_length]
    exact Ev.step (by intro k; simp only [spec_CountReturned.l0]; rfl) (Ev.no (by omega) (Ev.now _))
  · intro i hi ih c hc
    have hq := ho _ (List.getElem_mem hi)
    have hlen := ordB_len hq
    have hev := ordB_len (itL_ord hp t _ hq)
    have hd : rows.drop i = rows[i] :: rows.drop (i + 1) := List.drop_eq_getElem_cons hi
    rw [hd]
    refine Ev.step (by intro k; simp only [spec_CountReturned.l0]; rfl) (Ev.yes (by omega) (Ev.yes (by omega) (Ev.yes (by omega) ?_)))
    rw [rdL_at hi, wid1 hi (by omega)]
    have hpr := liPromote_ev hp hq (t : Int) (by omega) (by omega)
    have he : promL p rows[i] (t : Int) = itL (proL p) rows[i] t := by unfold promL; rw [if_pos (by omega), Int.toNat_natCast]
    rw [he] at hpr
    refine Ev.bind hpr (Ev.bind (l1Same_ev (by omega) (by omega)) ?_)
    by_cases h : itL (proL p) rows[i] t = rows[i]
    · rw [decide_eq_true h, List.countP_cons_of_pos (by simpa using h)]
      refine Ev.yes rfl ?_
      rw [show wrap64 ((c : Int) + 1) = ((c + 1 : Nat) : Int) by rw [wid (by omega) (by omega)]; omega]
      have := ih (c + 1) (by omega)
      rw [show c + 1 + (rows.drop (i + 1)).countP (fun w => decide (itL (proL p) w t = w)) = c + ((rows.drop (i + 1)).countP (fun w => decide (itL (proL p) w t = w)) + 1) by omega] at this
      exact this
    · rw [decide_eq_false h, List.countP_cons_of_neg (by simpa using h)]
      exact Ev.no (by simp) (ih c (by omega))
theorem CountReturned_same (p : List Int) (hp : p.length ≤ 1048576) (_ : ∀ n ∈ p, (Lit.int .i64 n).wf = true) (m : Int) (_ : (Lit.int .i64 m).wf = true) :
    ∃ r, Ev (fun k => spec_CountReturned.f k p m) r ∧ Ev (fun k => impl_CountReturned.f k p m) r ∧ True := by
  unfold spec_CountReturned.f impl_CountReturned.f
  have sstop : Ev (fun k => spec_CountReturned.j0 k m true p) (0, false) := Ev.step (by intro k; simp only [spec_CountReturned.j0]; rfl) (Ev.yes (show true = true from rfl) (Ev.now _))
  have istop : ∀ rows, Ev (fun k => impl_CountReturned.j0 k m rows true) (0, false) := fun rows => Ev.step (by intro k; simp only [impl_CountReturned.j0]; rfl) (Ev.yes (show true = true from rfl) (Ev.now _))
  cases hpo : isPo p with
  | false =>
    refine ⟨(0, false), Ev.bind (poGood_ev p) ?_, Ev.bind (linearCycles_none (fun h => by rw [hpo] at h; exact Bool.false_ne_true h.1)) (Ev.no Bool.false_ne_true (istop _)), trivial⟩
    rw [hpo]; exact Ev.no (by simp) sstop
  | true =>
    have hP := (isPo_iff p).1 hpo
    have hli := liAll_ev hP
    by_cases hw : ways p 0 ≤ 500
    rotate_left
    · rw [if_neg hw] at hli
      refine ⟨(0, false), Ev.bind (poGood_ev p) ?_, Ev.bind (linearCycles_none (fun h => hw h.2)) (Ev.no Bool.false_ne_true (istop _)), trivial⟩
      rw [hpo]
      refine Ev.yes rfl ?_
      rw [l1In_eq]
      refine Ev.call rfl ?_
      cases hb : (decide (0 ≤ m) && decide (m ≤ 100)) with
      | false => exact sstop
      | true =>
        show Ev (fun k => spec_CountReturned.j0 k m false p) _
        exact Ev.step (by intro k; simp only [spec_CountReturned.j0]; rfl) (Ev.no Bool.false_ne_true (Ev.bind hli (Ev.no Bool.false_ne_true (Ev.now _))))
    rw [if_pos hw] at hli
    obtain ⟨V, out, hM, hperm, hcy⟩ := linearCycles_ev hP hw
    by_cases hm : 0 ≤ m ∧ m ≤ 100
    rotate_left
    · refine ⟨(0, false), Ev.bind (poGood_ev p) ?_, Ev.bind hcy (Ev.yes rfl ?_), trivial⟩
      · rw [hpo]
        refine Ev.yes rfl ?_
        rw [l1In_eq, range_false hm]
        exact Ev.call rfl sstop
      · rw [within_eq, range_false hm]
        exact Ev.call rfl (istop _)
    obtain ⟨t, rfl⟩ := Int.eq_ofNat_of_zero_le hm.1
    have hrl : (rowsTo p (ways p 0)).length ≤ 500 := by rw [rowsTo_len]; exact hw
    have hs := ret_spec hP (t := t) (by omega) (rowsTo p (ways p 0)) hrl (fun q hq => (mem_rows hP q).1 hq) 0 (Nat.zero_le _) 0 (Nat.le_refl _)
    rw [List.drop_zero, Nat.zero_add] at hs
    have hVl : V.length ≤ 500 := by rw [hperm.length_eq, allLn_len]; exact hw
    have hcount : (rowsTo p (ways p 0)).countP (fun w => decide (itL (proL p) w t = w)) = fixN t (out.map List.length) := by
      haveI : DecidableEq Ln := fun a b => Classical.propDecidable (a = b)
      rw [← hM.fixed t (fun x => decide (itN (mv p) t x = x)) (fun x _ => by rw [decide_eq_true_eq]), hperm.countP_eq]
      unfold allLn
      rw [List.countP_map]
      refine List.countP_congr fun w hw2 => ?_
      show decide _ = true ↔ decide (itN (mv p) t (enc w) = enc w) = true
      rw [decide_eq_true_eq, decide_eq_true_eq]
      exact (back_iff hP ((mem_rows hP w).1 hw2) t).symm
    refine ⟨(((fixN t (out.map List.length) : Nat) : Int), true), Ev.bind (poGood_ev p) ?_, Ev.bind hcy (Ev.yes rfl ?_), trivial⟩
    · rw [hpo]
      refine Ev.yes rfl ?_
      rw [l1In_eq, range_true hm]
      refine Ev.call rfl ?_
      show Ev (fun k => spec_CountReturned.j0 k (t : Int) false p) _
      refine Ev.step (by intro k; simp only [spec_CountReturned.j0]; rfl) (Ev.no (by simp) (Ev.bind hli (Ev.yes rfl ?_)))
      rw [hcount] at hs
      exact hs
    · rw [within_eq, range_true hm]
      refine Ev.call rfl ?_
      show Ev (fun k => impl_CountReturned.j0 k (t : Int) out false) _
      refine Ev.step (by intro k; simp only [impl_CountReturned.j0]; rfl) (Ev.no (by simp) (Ev.bind (lens_ev (by have := met_len hM; omega)) (Ev.bind (fixed_ev (t := t) (by omega) hM hVl) ?_)))
      exact Ev.now _
theorem FnExactCountReturned : laws_FnExactCountReturned.Pure := by
  intro l0 a1 hm_l0 hw_l0 hw_a1
  by_cases hl_l0 : l0.length ≤ 1048576
  rotate_left
  · exact ⟨0, by unfold laws_FnExactCountReturned.f; exact if_pos ⟨0, (Or.inl ⟨-1, (szPoset_eq l0 1048576 (by omega) hm_l0).trans (by rw [if_neg hl_l0]), by decide⟩)⟩⟩
  obtain ⟨r, hs_, hi_, hr_⟩ := CountReturned_same l0 hl_l0 hw_l0 a1 hw_a1
  obtain ⟨K0, e0⟩ := toPoset_ev l0 hl_l0
  obtain ⟨K1, e1⟩ := hs_
  obtain ⟨K2, e2⟩ := hi_
  obtain ⟨K3, e3⟩ := eqPoset_refl l0 (by omega)
  obtain ⟨K, hK_⟩ : ∃ K, K = 0 + K0 + K1 + K2 + K3 := ⟨_, rfl⟩
  refine ⟨K, ?_⟩
  unfold laws_FnExactCountReturned.f
  exact if_pos ⟨K, Or.inr (⟨((1048576 - l0.length : Nat) : Int), r.1, r.2, (szPoset_eq l0 1048576 (by omega) hm_l0).trans (by rw [if_pos hl_l0]), decide_eq_false (by omega), e0 K (by omega), e1 K (by omega), e2 K (by omega), e3 K (by omega)⟩)⟩
end Go.Proofs.Ytnihjpnheooeoaa.Q
end
