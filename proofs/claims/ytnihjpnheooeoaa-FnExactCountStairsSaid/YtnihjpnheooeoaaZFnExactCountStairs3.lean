/- Part 3 of the texts below the row of FnExactCountStairs: printed functions with their contracts, and plain lemmas. No condition. -/
import Derived.Test.YtnihjpnheooeoaaZFnExactCountStairs2
import Derived.SizedLaws
import Derived.ChangeSlices
import Derived.WalkKit
import Derived.ProofKit
import Derived.OpenShut
import Derived.Lib.SmallJoins
import Derived.Deep.Matrix
section
section
namespace Go.Proofs.YtnihjpnheooeoaaW.PrintWords
open Go.ChangeShapes Go.WideShapes
/-- A row's slice of whole numbers is no longer than its weight allows. -/
theorem sized_ints {H : Type} {enc : TypeId × Value → H} {P : Program} {W : World} {base : Nat} {spare : Nat → Bool} {held : Bool} {t e : TypeId} {k : IntKind} {a : Option Addr} {len cap : Nat} {d : DataW H} {ps : List MemPlace} {ts : List TypeId} {ds : List (DataW H)} {j : Nat}
    (hsz : (DataW.weightsEach P ts ds).all (· ≤ reachBytes) = true) (ht : ts[j]? = some t) (hd : ds[j]? = some d) (hu : P.underlying t = some (.slice e)) (he : P.underlying e = some (.int k)) (hc : P.cellsOf e = 1) {B : Nat} (hB : P.bytesOf e = B)
    (h : DataW.Trod enc P W base spare held t (.slice a len cap) d ps) : len * B ≤ 140737488351232 := by
  obtain ⟨fuel, hf⟩ := h
  rcases open_ints hu he hc hf with ⟨hcs, _⟩ | ⟨x, l, c, zs, hcs, _, hl, _, hz, hx, _, _⟩
  · simp [Value.cells] at hcs
    obtain ⟨rfl, rfl, rfl⟩ := hcs
    simp
  · simp [Value.cells] at hcs
    obtain ⟨rfl, rfl, rfl⟩ := hcs
    obtain ⟨hx, _⟩ := Prod.mk.inj hx
    subst hx
    have z := sized_slice hsz ht hd hu
    rw [hB] at z
    have hl2 : len ≤ zs.length := by
      rw [hz]
      split
      · exact hl
      · exact Nat.le_refl _
    have h1 : (lits (H := H) k (zs.take len)).length + (lits (H := H) k (zs.drop len)).length = zs.length := by
      simp [lits]
      omega
    rw [h1] at z
    exact Nat.le_trans (Nat.mul_le_mul_right _ hl2) z
end Go.Proofs.YtnihjpnheooeoaaW.PrintWords
end
end

section
namespace Go.Proofs.YtnihjpnheooeoaaW.RowKit
open Go.ChangeShapes Go.WideShapes Go.Deep Go.RowKit Go.Proofs.YtnihjpnheooeoaaW.PrintWords
variable {H : Type} {enc : TypeId × Value → H} {P : Program} {w : World} {base : Nat} {held : Bool}
/-- What is known of a slice of whole numbers that came in. -/
structure PxInts (w : World) (k : IntKind) (A : Option Addr) (c : Nat) (l : List Int) : Prop where
  le : l.length ≤ c
  c : Kd.C (Kd.int k) w A l.length l
  m : l.length ≤ maxLen
  wf : ∀ n ∈ l, (Lit.int k n).wf = true
theorem ints_of {t e : TypeId} {k : IntKind} {fuel : Nat} {cs : List Value} {x : DataW H × List MemPlace} (ht : P.underlying t = some (.slice e)) (he : P.underlying e = some (.int k)) (hc : P.cellsOf e = 1)
    (h : DataW.trod enc P w base (fun _ => true) held fuel t cs = some x) : ∃ A c l, cs = [.slice A (List.length l) c] ∧ PxInts w k A c l := by
  rcases open_ints ht he hc h with ⟨hcs, _⟩ | ⟨a, len, cap, zs, hcs, _, hl, hm, hz, _, hcell, hwz⟩
  · obtain ⟨l, e1, h1, h2, h3, h4⟩ := ReadsInt.ofRowC (k := k) (w := w) (a := none) (len := 0) (cap := 0) (zs := []) (.inl ⟨rfl, rfl, rfl, rfl⟩)
    exact ⟨none, 0, l, by rw [hcs, ← e1], h4, Kd.C_of_reads (d := (0 : Int)) (h1 := fun _ => rfl) h1, h2, h3⟩
  · obtain ⟨l, e1, h1, h2, h3, h4⟩ := ReadsInt.ofRowC (k := k) (w := w) (a := some a) (len := len) (cap := cap) (zs := zs) (.inr ⟨_, rfl, hl, hm, by simpa using hz, hcell, hwz⟩)
    exact ⟨some a, cap, l, by rw [hcs, ← e1], h4, Kd.C_of_reads (d := (0 : Int)) (h1 := fun _ => rfl) h1, h2, h3⟩
theorem open_sl {r : Reach} {b0 : Nat} {t e : TypeId} {k : IntKind} {v : Value} {d : DataW H} {p : List MemPlace} (ht : P.underlying t = some (.slice e)) (he : P.underlying e = some (.int k)) (hc : P.cellsOf e = 1)
    (hv : Value.okWide P w r b0 t v) (h : DataW.Trod enc P w base (fun _ => true) held t v d p) : ∃ A c l, v = .slice A (List.length l) c ∧ PxInts w k A c l := by
  obtain ⟨a, len, cap, rfl⟩ := okWide_slice ht hv
  obtain ⟨fuel, hf⟩ := h
  obtain ⟨A, c, l, hcs, hi⟩ := ints_of ht he hc hf
  simp [Value.cells] at hcs
  obtain ⟨rfl, rfl, rfl⟩ := hcs
  exact ⟨_, _, l, rfl, hi⟩
theorem open_st {r : Reach} {b0 : Nat} {t q e : TypeId} {k : IntKind} {f0 : Field} {v : Value} {d : DataW H} {p : List MemPlace} (hs : P.underlying t = some (.struct #[f0])) (hone : oneCellFields P #[f0] = true) (hC : P.cellsOf t = 1)
    (hq : f0.type = q) (ht : P.underlying q = some (.slice e)) (he : P.underlying e = some (.int k)) (hc : P.cellsOf e = 1)
    (hv : Value.okWide P w r b0 t v) (h : DataW.Trod enc P w base (fun _ => true) held t v d p) : ∃ A c l, v = .agg #[.slice A (List.length l) c] ∧ PxInts w k A c l := by
  subst hq
  obtain ⟨cs, rfl, hsz⟩ := okWide_struct hs hv
  obtain ⟨c0, rfl⟩ : ∃ c0, cs = #[c0] := by
    obtain ⟨l⟩ := cs
    match l, hsz.trans hC with
    | [c0], _ => exact ⟨c0, rfl⟩
  obtain ⟨fuel, hf⟩ := h
  obtain ⟨y0, n, _, _, h0⟩ := trod_struct1 hs hf
  obtain ⟨o0, k0⟩ := Go.Deep.hone_of hone 0 f0 rfl
  obtain ⟨A, c, l, hcs, hi⟩ := ints_of ht he hc (by simpa [Value.cells, o0, k0] using h0 : DataW.trod enc P w base (fun _ => true) held n f0.type [c0] = some y0)
  simp at hcs
  subst hcs
  exact ⟨A, c, l, rfl, hi⟩
/-- What is known of a slice of slices of whole numbers that came in. -/
structure PxRows (w : World) (k : IntKind) (q : TypeId) (A : Option Addr) (c : Nat) (l : List (List Int)) : Prop where
  le : l.length ≤ c
  c : Kd.C (Kd.slice q (Kd.int k)) w A l.length l
  m : l.length ≤ maxLen
  m2 : ∀ r ∈ l, r.length ≤ maxLen
  wf : ∀ r ∈ l, ∀ n ∈ r, (Lit.int k n).wf = true
theorem open_ss {r : Reach} {b0 : Nat} {t e q : TypeId} {k : IntKind} {v : Value} {d : DataW H} {p : List MemPlace} (ht : P.underlying t = some (.slice e)) (he : P.underlying e = some (.slice q)) (hq : P.underlying q = some (.int k))
    (ce : P.cellsOf e = 1) (cq : P.cellsOf q = 1)
    (hv : Value.okWide P w r b0 t v) (h : DataW.Trod enc P w base (fun _ => true) held t v d p) : ∃ A c l, v = .slice A (List.length l) c ∧ PxRows w k q A c l := by
  obtain ⟨a, len, cap, rfl⟩ := okWide_slice ht hv
  obtain ⟨fuel, hf⟩ := h
  rcases Go.Deep.open_int_rows ht he hq ce cq hf with ⟨hcs, _⟩ | ⟨x, len', cap', AA, L, C, Z, hcs, _, hl, hm, _, hr⟩
  · simp [Value.cells] at hcs
    obtain ⟨rfl, rfl, rfl⟩ := hcs
    exact ⟨none, 0, [], rfl, Nat.le_refl _, ⟨rfl, Nat.zero_le _, fun h => absurd h (Nat.lt_irrefl _)⟩, Nat.zero_le _, (fun _ h => by cases h), (fun _ h => by cases h)⟩
  · simp [Value.cells] at hcs
    obtain ⟨rfl, rfl, rfl⟩ := hcs
    have each : ∀ r, r < cap → PxInts w k (AA r) (C r) ((Z r).take (L r)) ∧ L r = ((Z r).take (L r)).length := by
      intro r hrc
      obtain ⟨_, h1, h2, h3, h4, h5, h6⟩ := hr r hrc
      have hz : ((Z r).take (L r)).length = L r := by rw [List.length_take]; omega
      refine ⟨⟨by omega, ⟨by rfl, by unfold maxLen at h2; omega, fun hp => ?_⟩, by omega, fun n hn => h4 n (List.mem_of_mem_take hn)⟩, hz.symm⟩
      cases ha : AA r with
      | none => have := h5 ha; omega
      | some ad =>
        refine ⟨ad, rfl, fun j p hj => ⟨[.int k p], rfl, rfl, fun i u hu => ?_⟩⟩
        have hj1 := (List.getElem?_eq_some_iff.1 hj).1
        have hjl : j < L r := by omega
        cases i with
        | succ i => simp at hu
        | zero =>
          simp at hu
          subst hu
          have := (h6 ad ha).2 j (by omega)
          rw [List.getD_eq_getElem?_getD, ← List.getElem?_take_of_lt hjl, hj] at this
          have e1 : j * (Kd.int k).sz + 0 = j := by show j * 1 + 0 = j; omega
          rw [e1]
          exact this
    refine ⟨some x, cap, (List.range len).map (fun r => (Z r).take (L r)), by simp, ⟨by simpa using hl, ⟨by simp, ?_, fun hp => ⟨x, rfl, fun j p hj => ?_⟩⟩, by simp; omega, ?_, ?_⟩⟩
    · simp; unfold maxLen at hm; omega
    · simp only [List.getElem?_map, Option.map_eq_some_iff] at hj
      obtain ⟨r, hr1, rfl⟩ := hj
      obtain ⟨hr2, hr3⟩ := List.getElem?_eq_some_iff.1 hr1
      simp at hr2 hr3
      subst hr3
      obtain ⟨hi, hL⟩ := each j (by omega)
      refine ⟨[.slice (AA j) ((Z j).take (L j)).length (C j)], rfl, ⟨AA j, C j, rfl, hi.le, hi.c⟩, fun i u hu => ?_⟩
      cases i with
      | succ i => simp at hu
      | zero =>
        simp only [List.getElem?_cons_zero, Option.some.injEq] at hu
        subst hu
        have e1 : j * (Kd.slice q (Kd.int k)).sz + 0 = j := by show j * 1 + 0 = j; omega
        rw [e1, ← hL]
        exact (hr j (by omega)).1
    · intro r hr1
      obtain ⟨j, hj, rfl⟩ := List.mem_map.1 hr1
      rw [List.mem_range] at hj
      exact (each j (by omega)).1.m
    · intro r hr1
      obtain ⟨j, hj, rfl⟩ := List.mem_map.1 hr1
      rw [List.mem_range] at hj
      exact (each j (by omega)).1.wf
end Go.Proofs.YtnihjpnheooeoaaW.RowKit
end

section
namespace Go.Proofs.Ytnihjpnheooeoaa.F
open Go.RowKit Go.Proofs.YtnihjpnheooeoaaW.PrintWords Go.Proofs.YtnihjpnheooeoaaW.PrintLast Go.Proofs.YtnihjpnheooeoaaW.PrintMore Go.Proofs.YtnihjpnheooeoaaW.RowKit
set_option linter.unusedVariables false
def laws_FnExactCountStairs.Pure : Prop := ∀ (a0 : Int), (Lit.int .i64 a0).wf = true → ∃ k, laws_FnExactCountStairs.f k a0 = some true
theorem laws_FnExactCountStairs.walk (P : laws_FnExactCountStairs.Pure) (a0 : Int) (w : World) (w0 : (Lit.int .i64 a0).wf = true) :
    Calls Try.prog 3 #[.int .i64 a0] w fun e w' => e = .returned (.bool true) ∧ Below w.heap.size w w' := by
  obtain ⟨k, h⟩ := P a0 w0
  refine (laws_FnExactCountStairs.calls k a0 true w h).mono ?_
  rintro e w' ⟨rfl, hd⟩
  exact ⟨rfl, hd⟩
end Go.Proofs.Ytnihjpnheooeoaa.F
end

section
namespace Go.Proofs.Ytnihjpnheooeoaa.Q
open Go.RowKit Go.Proofs.YtnihjpnheooeoaaW.PrintWords Go.Proofs.Ytnihjpnheooeoaa.F
set_option linter.unusedVariables false
def okRs (p : List Int) (r : Int × Bool) : Bool := isPo p && (idealB p 0 && (decide (r.1 = ((cnt p 10 0 : Nat) : Int)) && r.2))
def okOs : Option (List Int × Bool) → Option (Int × Bool) → Bool
  | some p, some r => p.2 && okRs p.1 r
  | _, _ => false
def okCS (n : Nat) : Bool := okOs (impl_Staircase.f 200 (n : Int)) (spec_CountStairs.f 200 (n : Int))
theorem okRs_parts {p : List Int} {r : Int × Bool} (h : okRs p r = true) : PO p ∧ idealB p 0 = true ∧ r.1 = ((cnt p 10 0 : Nat) : Int) ∧ r.2 = true := by
  unfold okRs at h
  generalize cnt p 10 0 = c at h ⊢
  rw [Bool.and_eq_true, Bool.and_eq_true, Bool.and_eq_true, decide_eq_true_eq, isPo_iff] at h
  exact h
theorem allCS : (List.range 5).all (fun n => n == 0 || okCS n) = true := by decide +kernel
theorem okOs_parts {o1 : Option (List Int × Bool)} {o2 : Option (Int × Bool)} (h : okOs o1 o2 = true) : ∃ p c, o1 = some (p, true) ∧ o2 = some (c, true) ∧ PO p ∧ idealB p 0 = true ∧ c = ((cnt p 10 0 : Nat) : Int) := by
  cases o1 with
  | none => simp [okOs] at h
  | some q =>
    cases o2 with
    | none => simp [okOs] at h
    | some r =>
      obtain ⟨p, b⟩ := q
      simp only [okOs] at h
      rw [Bool.and_eq_true] at h
      obtain ⟨h1, h2, h3, h4⟩ := okRs_parts h.2
      obtain ⟨c, d⟩ := r
      have h5 : d = true := h4
      have h6 : c = ((cnt p 10 0 : Nat) : Int) := h3
      have h7 : b = true := h.1
      subst h5 h7
      exact ⟨p, c, rfl, rfl, h1, h2, h6⟩
theorem CountStairs_some (n : Nat) (h : 1 ≤ n ∧ n ≤ 4) : ∃ p c, impl_Staircase.f 200 (n : Int) = some (p, true) ∧ spec_CountStairs.f 200 (n : Int) = some (c, true) ∧ PO p ∧ idealB p 0 = true ∧ c = ((cnt p 10 0 : Nat) : Int) := by
  have hk := List.all_eq_true.1 allCS n (List.mem_range.2 (by omega))
  rw [Bool.or_eq_true, beq_iff_eq] at hk
  have hk2 : okCS n = true := hk.resolve_left (by omega)
  unfold okCS at hk2
  exact okOs_parts hk2
theorem ways_zero {p : List Int} (hP : PO p) (hid : idealB p 0 = true) : rd (Wl p 0) 0 = ((cnt p 10 0 : Nat) : Int) := by
  have h2 : 0 < 2 ^ p.length := Nat.two_pow_pos _
  have h3 := Wl_get p 0 h2
  have h4 := rdN (Wl p 0) 0
  rw [h3] at h4
  refine h4.trans ?_
  unfold wayAt
  rw [if_pos (Nat.le_refl _), if_pos hid, ways_cnt h2 hP.small]
theorem CountStairs_same (a : Int) : ∃ r, Ev (fun k => spec_CountStairs.f k a) r ∧ Ev (fun k => impl_CountStairs.f k a) r := by
  by_cases h : 1 ≤ a ∧ a ≤ 4
  · obtain ⟨n, rfl⟩ := Int.eq_ofNat_of_zero_le (show 0 ≤ a by omega)
    obtain ⟨p, c, hp, hr, hP, hid, hc⟩ := CountStairs_some n (by omega)
    refine ⟨(c, true), Ev.of (spec_CountStairs.mono _) hr, ?_⟩
    unfold impl_CountStairs.f
    have h2 : 0 < 2 ^ p.length := Nat.two_pow_pos _
    refine Ev.bind (Ev.of (impl_Staircase.mono _) hp) ?_
    refine Ev.yes rfl ?_
    refine Ev.bind (ways_table hP) ?_
    refine Ev.yes (by rw [Wl_len]; exact Int.ofNat_lt.2 h2) ?_
    refine Ev.ret ?_
    rw [ways_zero hP hid, hc]
  · refine ⟨(0, false), ?_, ?_⟩
    · unfold spec_CountStairs.f
      rw [l1In_eq, range_false h]
      refine Ev.call rfl ?_
      exact Ev.no (by simp) (Ev.ret rfl)
    · unfold impl_CountStairs.f impl_Staircase.f
      rw [within_eq, range_false h]
      refine Ev.bind (Ev.call rfl (Ev.no (by simp) (Ev.ret rfl))) ?_
      exact Ev.no (by simp) (Ev.ret rfl)
theorem FnExactCountStairs : laws_FnExactCountStairs.Pure := by
  intro a _
  refine Ev.rounds (g := fun k => laws_FnExactCountStairs.f k a) ?_
  unfold laws_FnExactCountStairs.f
  obtain ⟨r, h1, h2⟩ := CountStairs_same a
  refine Ev.bind h1 (Ev.bind h2 ?_)
  refine Ev.yes rfl (Ev.no (by simp) (Ev.ret rfl))
end Go.Proofs.Ytnihjpnheooeoaa.Q
end
