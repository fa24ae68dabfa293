/- Part 6 of the texts below the row of FnExactMajorTable: printed functions with their contracts, and plain lemmas. No condition. -/
import Derived.Test.YtnihjpnheooeoaaZFnExactMajorTable5
import Derived.SizedLaws
import Derived.ChangeSlices
import Derived.WalkKit
import Derived.ProofKit
import Derived.OpenShut
import Derived.Lib.SmallJoins
import Derived.Deep.Matrix
section
section
namespace Go.Proofs.YtnihjpnheooeoaaW.PrintWords
open Go.ChangeShapes Go.WideShapes
/-- A row's slice of whole numbers is no longer than its weight allows. -/
theorem sized_ints {H : Type} {enc : TypeId × Value → H} {P : Program} {W : World} {base : Nat} {spare : Nat → Bool} {held : Bool} {t e : TypeId} {k : IntKind} {a : Option Addr} {len cap : Nat} {d : DataW H} {ps : List MemPlace} {ts : List TypeId} {ds : List (DataW H)} {j : Nat}
    (hsz : (DataW.weightsEach P ts ds).all (· ≤ reachBytes) = true) (ht : ts[j]? = some t) (hd : ds[j]? = some d) (hu : P.underlying t = some (.slice e)) (he : P.underlying e = some (.int k)) (hc : P.cellsOf e = 1) {B : Nat} (hB : P.bytesOf e = B)
    (h : DataW.Trod enc P W base spare held t (.slice a len cap) d ps) : len * B ≤ 140737488351232 := by
  obtain ⟨fuel, hf⟩ := h
  rcases open_ints hu he hc hf with ⟨hcs, _⟩ | ⟨x, l, c, zs, hcs, _, hl, _, hz, hx, _, _⟩
  · simp [Value.cells] at hcs
    obtain ⟨rfl, rfl, rfl⟩ := hcs
    simp
  · simp [Value.cells] at hcs
    obtain ⟨rfl, rfl, rfl⟩ := hcs
    obtain ⟨hx, _⟩ := Prod.mk.inj hx
    subst hx
    have z := sized_slice hsz ht hd hu
    rw [hB] at z
    have hl2 : len ≤ zs.length := by
      rw [hz]
      split
      · exact hl
      · exact Nat.le_refl _
    have h1 : (lits (H := H) k (zs.take len)).length + (lits (H := H) k (zs.drop len)).length = zs.length := by
      simp [lits]
      omega
    rw [h1] at z
    exact Nat.le_trans (Nat.mul_le_mul_right _ hl2) z
end Go.Proofs.YtnihjpnheooeoaaW.PrintWords
end
end

section
namespace Go.Proofs.YtnihjpnheooeoaaW.RowKit
open Go.ChangeShapes Go.WideShapes Go.Deep Go.RowKit Go.Proofs.YtnihjpnheooeoaaW.PrintWords
variable {H : Type} {enc : TypeId × Value → H} {P : Program} {w : World} {base : Nat} {held : Bool}
/-- What is known of a slice of whole numbers that came in. -/
structure PxInts (w : World) (k : IntKind) (A : Option Addr) (c : Nat) (l : List Int) : Prop where
  le : l.length ≤ c
  c : Kd.C (Kd.int k) w A l.length l
  m : l.length ≤ maxLen
  wf : ∀ n ∈ l, (Lit.int k n).wf = true
theorem ints_of {t e : TypeId} {k : IntKind} {fuel : Nat} {cs : List Value} {x : DataW H × List MemPlace} (ht : P.underlying t = some (.slice e)) (he : P.underlying e = some (.int k)) (hc : P.cellsOf e = 1)
    (h : DataW.trod enc P w base (fun _ => true) held fuel t cs = some x) : ∃ A c l, cs = [.slice A (List.length l) c] ∧ PxInts w k A c l := by
  rcases open_ints ht he hc h with ⟨hcs, _⟩ | ⟨a, len, cap, zs, hcs, _, hl, hm, hz, _, hcell, hwz⟩
  · obtain ⟨l, e1, h1, h2, h3, h4⟩ := ReadsInt.ofRowC (k := k) (w := w) (a := none) (len := 0) (cap := 0) (zs := []) (.inl ⟨rfl, rfl, rfl, rfl⟩)
    exact ⟨none, 0, l, by rw [hcs, ← e1], h4, Kd.C_of_reads (d := (0 : Int)) (h1 := fun _ => rfl) h1, h2, h3⟩
  · obtain ⟨l, e1, h1, h2, h3, h4⟩ := ReadsInt.ofRowC (k := k) (w := w) (a := some a) (len := len) (cap := cap) (zs := zs) (.inr ⟨_, rfl, hl, hm, by simpa using hz, hcell, hwz⟩)
    exact ⟨some a, cap, l, by rw [hcs, ← e1], h4, Kd.C_of_reads (d := (0 : Int)) (h1 := fun _ => rfl) h1, h2, h3⟩
theorem open_sl {r : Reach} {b0 : Nat} {t e : TypeId} {k : IntKind} {v : Value} {d : DataW H} {p : List MemPlace} (ht : P.underlying t = some (.slice e)) (he : P.underlying e = some (.int k)) (hc : P.cellsOf e = 1)
    (hv : Value.okWide P w r b0 t v) (h : DataW.Trod enc P w base (fun _ => true) held t v d p) : ∃ A c l, v = .slice A (List.length l) c ∧ PxInts w k A c l := by
  obtain ⟨a, len, cap, rfl⟩ := okWide_slice ht hv
  obtain ⟨fuel, hf⟩ := h
  obtain ⟨A, c, l, hcs, hi⟩ := ints_of ht he hc hf
  simp [Value.cells] at hcs
  obtain ⟨rfl, rfl, rfl⟩ := hcs
  exact ⟨_, _, l, rfl, hi⟩
theorem open_st {r : Reach} {b0 : Nat} {t q e : TypeId} {k : IntKind} {f0 : Field} {v : Value} {d : DataW H} {p : List MemPlace} (hs : P.underlying t = some (.struct #[f0])) (hone : oneCellFields P #[f0] = true) (hC : P.cellsOf t = 1)
    (hq : f0.type = q) (ht : P.underlying q = some (.slice e)) (he : P.underlying e = some (.int k)) (hc : P.cellsOf e = 1)
    (hv : Value.okWide P w r b0 t v) (h : DataW.Trod enc P w base (fun _ => true) held t v d p) : ∃ A c l, v = .agg #[.slice A (List.length l) c] ∧ PxInts w k A c l := by
  subst hq
  obtain ⟨cs, rfl, hsz⟩ := okWide_struct hs hv
  obtain ⟨c0, rfl⟩ : ∃ c0, cs = #[c0] := by
    obtain ⟨l⟩ := cs
    match l, hsz.trans hC with
    | [c0], _ => exact ⟨c0, rfl⟩
  obtain ⟨fuel, hf⟩ := h
  obtain ⟨y0, n, _, _, h0⟩ := trod_struct1 hs hf
  obtain ⟨o0, k0⟩ := Go.Deep.hone_of hone 0 f0 rfl
  obtain ⟨A, c, l, hcs, hi⟩ := ints_of ht he hc (by simpa [Value.cells, o0, k0] using h0 : DataW.trod enc P w base (fun _ => true) held n f0.type [c0] = some y0)
  simp at hcs
  subst hcs
  exact ⟨A, c, l, rfl, hi⟩
/-- What is known of a slice of slices of whole numbers that came in. -/
structure PxRows (w : World) (k : IntKind) (q : TypeId) (A : Option Addr) (c : Nat) (l : List (List Int)) : Prop where
  le : l.length ≤ c
  c : Kd.C (Kd.slice q (Kd.int k)) w A l.length l
  m : l.length ≤ maxLen
  m2 : ∀ r ∈ l, r.length ≤ maxLen
  wf : ∀ r ∈ l, ∀ n ∈ r, (Lit.int k n).wf = true
theorem open_ss {r : Reach} {b0 : Nat} {t e q : TypeId} {k : IntKind} {v : Value} {d : DataW H} {p : List MemPlace} (ht : P.underlying t = some (.slice e)) (he : P.underlying e = some (.slice q)) (hq : P.underlying q = some (.int k))
    (ce : P.cellsOf e = 1) (cq : P.cellsOf q = 1)
    (hv : Value.okWide P w r b0 t v) (h : DataW.Trod enc P w base (fun _ => true) held t v d p) : ∃ A c l, v = .slice A (List.length l) c ∧ PxRows w k q A c l := by
  obtain ⟨a, len, cap, rfl⟩ := okWide_slice ht hv
  obtain ⟨fuel, hf⟩ := h
  rcases Go.Deep.open_int_rows ht he hq ce cq hf with ⟨hcs, _⟩ | ⟨x, len', cap', AA, L, C, Z, hcs, _, hl, hm, _, hr⟩
  · simp [Value.cells] at hcs
    obtain ⟨rfl, rfl, rfl⟩ := hcs
    exact ⟨none, 0, [], rfl, Nat.le_refl _, ⟨rfl, Nat.zero_le _, fun h => absurd h (Nat.lt_irrefl _)⟩, Nat.zero_le _, (fun _ h => by cases h), (fun _ h => by cases h)⟩
  · simp [Value.cells] at hcs
    obtain ⟨rfl, rfl, rfl⟩ := hcs
    have each : ∀ r, r < cap → PxInts w k (AA r) (C r) ((Z r).take (L r)) ∧ L r = ((Z r).take (L r)).length := by
      intro r hrc
      obtain ⟨_, h1, h2, h3, h4, h5, h6⟩ := hr r hrc
      have hz : ((Z r).take (L r)).length = L r := by rw [List.length_take]; omega
      refine ⟨⟨by omega, ⟨by rfl, by unfold maxLen at h2; omega, fun hp => ?_⟩, by omega, fun n hn => h4 n (List.mem_of_mem_take hn)⟩, hz.symm⟩
      cases ha : AA r with
      | none => have := h5 ha; omega
      | some ad =>
        refine ⟨ad, rfl, fun j p hj => ⟨[.int k p], rfl, rfl, fun i u hu => ?_⟩⟩
        have hj1 := (List.getElem?_eq_some_iff.1 hj).1
        have hjl : j < L r := by omega
        cases i with
        | succ i => simp at hu
        | zero =>
          simp at hu
          subst hu
          have := (h6 ad ha).2 j (by omega)
          rw [List.getD_eq_getElem?_getD, ← List.getElem?_take_of_lt hjl, hj] at this
          have e1 : j * (Kd.int k).sz + 0 = j := by show j * 1 + 0 = j; omega
          rw [e1]
          exact this
    refine ⟨some x, cap, (List.range len).map (fun r => (Z r).take (L r)), by simp, ⟨by simpa using hl, ⟨by simp, ?_, fun hp => ⟨x, rfl, fun j p hj => ?_⟩⟩, by simp; omega, ?_, ?_⟩⟩
    · simp; unfold maxLen at hm; omega
    · simp only [List.getElem?_map, Option.map_eq_some_iff] at hj
      obtain ⟨r, hr1, rfl⟩ := hj
      obtain ⟨hr2, hr3⟩ := List.getElem?_eq_some_iff.1 hr1
      simp at hr2 hr3
      subst hr3
      obtain ⟨hi, hL⟩ := each j (by omega)
      refine ⟨[.slice (AA j) ((Z j).take (L j)).length (C j)], rfl, ⟨AA j, C j, rfl, hi.le, hi.c⟩, fun i u hu => ?_⟩
      cases i with
      | succ i => simp at hu
      | zero =>
        simp only [List.getElem?_cons_zero, Option.some.injEq] at hu
        subst hu
        have e1 : j * (Kd.slice q (Kd.int k)).sz + 0 = j := by show j * 1 + 0 = j; omega
        rw [e1, ← hL]
        exact (hr j (by omega)).1
    · intro r hr1
      obtain ⟨j, hj, rfl⟩ := List.mem_map.1 hr1
      rw [List.mem_range] at hj
      exact (each j (by omega)).1.m
    · intro r hr1
      obtain ⟨j, hj, rfl⟩ := List.mem_map.1 hr1
      rw [List.mem_range] at hj
      exact (each j (by omega)).1.wf
end Go.Proofs.YtnihjpnheooeoaaW.RowKit
end

section
namespace Go.Proofs.Ytnihjpnheooeoaa.F
open Go.RowKit Go.Proofs.YtnihjpnheooeoaaW.PrintWords Go.Proofs.YtnihjpnheooeoaaW.PrintLast Go.Proofs.YtnihjpnheooeoaaW.PrintMore Go.Proofs.YtnihjpnheooeoaaW.RowKit
set_option linter.unusedVariables false
def laws_FnExactMajorTable.Pure : Prop := ∀ (a0 : Int) (a1 : Int), (Lit.int .i64 a0).wf = true → (Lit.int .i64 a1).wf = true → ∃ k, laws_FnExactMajorTable.f k a0 a1 = some true
theorem laws_FnExactMajorTable.walk (P : laws_FnExactMajorTable.Pure) (a0 : Int) (a1 : Int) (w : World) (w0 : (Lit.int .i64 a0).wf = true) (w1 : (Lit.int .i64 a1).wf = true) :
    Calls Try.prog 6 #[.int .i64 a0, .int .i64 a1] w fun e w' => e = .returned (.bool true) ∧ Below w.heap.size w w' := by
  obtain ⟨k, h⟩ := P a0 a1 w0 w1
  refine (laws_FnExactMajorTable.calls k a0 a1 true w h).mono ?_
  rintro e w' ⟨rfl, hd⟩
  exact ⟨rfl, hd⟩
end Go.Proofs.Ytnihjpnheooeoaa.F
end

section
namespace Go.Proofs.Ytnihjpnheooeoaa.Q
open Go.RowKit Go.Proofs.YtnihjpnheooeoaaW.PrintWords Go.Proofs.Ytnihjpnheooeoaa.F
set_option linter.unusedVariables false
/-! The finite part: the sums of descents of all tableaux. -/
def majO : Option (List (List Int)) → Option Int → Option Int → Bool
  | some T, some m, some m' => decide (m = m') && (decide (0 ≤ m) && decide (m ≤ 100))
  | _, _, _ => false
def majW (a b : Nat) (w : List Int) : Bool := majO (impl_tableau.f 100 (a : Int) (b : Int) w) ((impl_tableau.f 100 (a : Int) (b : Int) w).bind fun T => impl_major.f 100 T) ((impl_tableau.f 100 (a : Int) (b : Int) w).bind fun T => spec_shMajor.f 100 T)
def majA (a b : Nat) (l : List (List Nat)) : Bool := decide (l.length ≤ 500) && l.all fun w => majW a b (ints w)
def majP (a b : Nat) : Option (List Int) → Bool
  | some p => majA a b (allW p p.length 0)
  | none => false
def okMaj (a b : Nat) : Bool := majP a b (impl_rectangle.f 200 (a : Int) (b : Int))
theorem allMaj : (List.range 11).all (fun a => (List.range 11).all fun b => a == 0 || b == 0 || decide (10 < a * b) || okMaj a b) = true := by decide +kernel
theorem majW_parts {a b : Nat} {w : List Int} (h : majW a b w = true) : ∃ (T : List (List Int)) (m : Nat), m ≤ 100 ∧ impl_tableau.f 100 (a : Int) (b : Int) w = some T ∧ impl_major.f 100 T = some (m : Int) ∧ spec_shMajor.f 100 T = some (m : Int) := by
  unfold majW at h
  cases hT : impl_tableau.f 100 (a : Int) (b : Int) w with
  | none => rw [hT] at h; simp [majO] at h
  | some T =>
    rw [hT, Option.bind_some, Option.bind_some] at h
    cases h1 : impl_major.f 100 T with
    | none => rw [h1] at h; simp [majO] at h
    | some m =>
      cases h2 : spec_shMajor.f 100 T with
      | none => rw [h1, h2] at h; simp [majO] at h
      | some m' =>
        rw [h1, h2] at h
        simp only [majO, Bool.and_eq_true, decide_eq_true_eq] at h
        obtain ⟨e, h3, h4⟩ := h
        obtain ⟨n, rfl⟩ := Int.eq_ofNat_of_zero_le h3
        subst e
        exact ⟨T, n, by omega, rfl, h1, h2⟩
theorem maj_all {a b : Int} (h : sidesOk a b) : ∃ (n m : Nat) (p : List Int), a = (n : Int) ∧ b = (m : Int) ∧ Ev (fun k => impl_rectangle.f k a b) p ∧ Ev (fun k => spec_poRectangle.f k a b) p ∧ PO p ∧ ways p 0 ≤ 500 ∧ ∀ w ∈ rowsTo p (ways p 0), majW n m w = true := by
  obtain ⟨n, m, p, rfl, rfl, h1, h2, h3, h4, hnm, e1, e2, hp, hl⟩ := rect_both h
  have hk := List.all_eq_true.1 (List.all_eq_true.1 allMaj n (List.mem_range.2 (by omega))) m (List.mem_range.2 (by omega))
  rw [Bool.or_eq_true, Bool.or_eq_true, Bool.or_eq_true, beq_iff_eq, beq_iff_eq, decide_eq_true_eq] at hk
  have hk : okMaj n m = true := by
    rcases hk with ((hk | hk) | hk) | hk
    · omega
    · omega
    · omega
    · exact hk
  unfold okMaj at hk
  cases hr : impl_rectangle.f 200 (n : Int) (m : Int) with
  | none => rw [hr] at hk; simp [majP] at hk
  | some q =>
    have hq := Ev.uniq (Ev.of (impl_rectangle.mono _ _) hr) e1
    subst hq
    rw [hr] at hk
    simp only [majP] at hk
    unfold majA at hk
    have hW := allW_eq hp q.length 0 (Nat.two_pow_pos _) (by rw [pcard_zero]; omega)
    rw [hW, Bool.and_eq_true, decide_eq_true_eq, List.length_map, List.length_range] at hk
    refine ⟨n, m, q, rfl, rfl, e1, e2, hp, hk.1, fun w hw => ?_⟩
    unfold rowsTo at hw
    obtain ⟨r, hr1, rfl⟩ := List.mem_map.1 hw
    exact List.all_eq_true.1 hk.2 _ (List.mem_map.2 ⟨r, hr1, rfl⟩)
/-! The table. -/
def padTo (l : List Int) (m : Nat) : List Int := l ++ List.replicate (m + 1 - l.length) 0
def bump (l : List Int) (m : Nat) : List Int := (padTo l m).set m (wrap64 ((padTo l m).getD m 0 + 1))
theorem padTo_len (l : List Int) (m : Nat) : (padTo l m).length = max l.length (m + 1) := by unfold padTo; rw [List.length_append, List.length_replicate]; omega
theorem bump_len (l : List Int) (m : Nat) : (bump l m).length = max l.length (m + 1) := by unfold bump; rw [List.length_set, padTo_len]
theorem padTo_id {l : List Int} {m : Nat} (h : m < l.length) : padTo l m = l := by unfold padTo; rw [show m + 1 - l.length = 0 by omega]; simp
theorem padTo_step {l : List Int} {m : Nat} (h : l.length ≤ m) : padTo (l ++ [0]) m = padTo l m := by
  unfold padTo
  rw [List.append_assoc]
  congr 1
  rw [List.length_append, List.length_singleton, show m + 1 - l.length = (m + 1 - (l.length + 1)) + 1 by omega, List.replicate_succ]
  rfl
theorem bump_step {l : List Int} {m : Nat} (h : l.length ≤ m) : bump (l ++ [0]) m = bump l m := by unfold bump; rw [padTo_step h]
theorem spec_bump {Ts : List (List (List Int))} {m : Nat} (hm : m ≤ 100) {n i : Int} {r : List Int × Bool} : ∀ (d : Nat) (l : List Int), m + 1 - l.length = d → Ev (fun k => spec_MajorTable.l0 k (bump l m) Ts n (wrap64 (i + 1))) r → Ev (fun k => spec_MajorTable.l1 k l (m : Int) Ts n i) r
  | 0, l, h, hr => by
    refine Ev.step (by intro k; simp only [spec_MajorTable.l1]; rfl) (Ev.no (by omega) (Ev.yes (by omega) (Ev.yes (by omega) ?_)))
    have e : l.set (m : Int).toNat (wrap64 (rd l (m : Int) + 1)) = bump l m := by unfold bump; rw [padTo_id (by omega), Int.toNat_natCast, rdN]
    rw [e]
    exact hr
  | d + 1, l, h, hr => by
    refine Ev.step (by intro k; simp only [spec_MajorTable.l1]; rfl) (Ev.yes (by omega) (Ev.yes (by omega) ?_))
    exact spec_bump hm d (l ++ [0]) (by rw [List.length_append, List.length_singleton]; omega) (by rw [bump_step (by omega)]; exact hr)
theorem impl_bump {Ts : List (List Int)} {a b : Int} {m : Nat} (hm : m ≤ 100) {n i : Int} {r : List Int} : ∀ (d : Nat) (l : List Int), m + 1 - l.length = d → Ev (fun k => impl_majors.l0 k a b (bump l m) Ts n (wrap64 (i + 1))) r → Ev (fun k => impl_majors.l1 k a b l (m : Int) Ts n i) r
  | 0, l, h, hr => by
    refine Ev.step (by intro k; simp only [impl_majors.l1]; rfl) (Ev.no (by omega) (Ev.yes (by omega) (Ev.yes (by omega) ?_)))
    have e : l.set (m : Int).toNat (wrap64 (rd l (m : Int) + 1)) = bump l m := by unfold bump; rw [padTo_id (by omega), Int.toNat_natCast, rdN]
    rw [e]
    exact hr
  | d + 1, l, h, hr => by
    refine Ev.step (by intro k; simp only [impl_majors.l1]; rfl) (Ev.yes (by omega) (Ev.yes (by omega) ?_))
    exact impl_bump hm d (l ++ [0]) (by rw [List.length_append, List.length_singleton]; omega) (by rw [bump_step (by omega)]; exact hr)
/-- The tableau of an order, and its sum. -/
def tabOf (a b : Nat) (w : List Int) : List (List Int) := (impl_tableau.f 100 (a : Int) (b : Int) w).getD []
def majOf (a b : Nat) (w : List Int) : Nat := ((impl_major.f 100 (tabOf a b w)).getD 0).toNat
theorem maj_at {a b : Nat} {w : List Int} (h : majW a b w = true) : Ev (fun k => impl_tableau.f k (a : Int) (b : Int) w) (tabOf a b w) ∧ Ev (fun k => spec_shRows.f k (a : Int) (b : Int) w) (tabOf a b w) ∧ majOf a b w ≤ 100 ∧ Ev (fun k => impl_major.f k (tabOf a b w)) (majOf a b w : Int) ∧ Ev (fun k => spec_shMajor.f k (tabOf a b w)) (majOf a b w : Int) := by
  obtain ⟨T, m, hm, h1, h2, h3⟩ := majW_parts h
  have e1 : tabOf a b w = T := by unfold tabOf; rw [h1]; rfl
  have e2 : majOf a b w = m := by unfold majOf; rw [e1, h2]; rfl
  have h4 : Ev (fun k => impl_tableau.f k (a : Int) (b : Int) w) T := Ev.of (impl_tableau.mono _ _ _) h1
  rw [e1, e2]
  refine ⟨h4, ?_, hm, Ev.of (impl_major.mono _) h2, Ev.of (spec_shMajor.mono _) h3⟩
  obtain ⟨K, hK⟩ := h4
  exact ⟨K, fun k hk => (tabof_same k _ _ _).trans (hK k hk)⟩
theorem getD_ints (l : List (List Int)) (i : Nat) (hi : i < l.length) : rd_L1 l (i : Int) = l[i] := by
  unfold rd_L1
  rw [Int.toNat_natCast, List.getD_eq_getElem?_getD, List.getElem?_eq_getElem hi]; rfl
theorem impl_table {a b : Nat} {W : List (List Int)} (hW : ∀ w ∈ W, majW a b w = true) (hl : W.length ≤ 500) : ∀ i, i ≤ W.length → ∀ l : List Int, Ev (fun k => impl_majors.l0 k (a : Int) (b : Int) l W (W.length : Int) (i : Int)) ((W.drop i).foldl (fun l w => bump l (majOf a b w)) l) := by
  refine downTo _ ?_ ?_
  · intro l
    rw [List.drop_length]
    exact Ev.step (by intro k; simp only [impl_majors.l0]; rfl) (Ev.no (by omega) (Ev.now _))
  · intro i hi ih l
    obtain ⟨h1, _, h3, h4, _⟩ := maj_at (hW _ (List.getElem_mem hi))
    rw [List.drop_eq_getElem_cons hi, List.foldl_cons]
    refine Ev.step (by intro k; simp only [impl_majors.l0]; rfl) (Ev.yes (by omega) (Ev.yes (by omega) (Ev.yes (by omega) ?_)))
    rw [getD_ints W i hi]
    refine Ev.bind h1 (Ev.bind h4 (impl_bump h3 _ l rfl ?_))
    rw [wid (by omega) (by omega)]
    exact ih _
theorem spec_table {a b : Nat} {W : List (List Int)} (hW : ∀ w ∈ W, majW a b w = true) (hl : W.length ≤ 500) : ∀ i, i ≤ W.length → ∀ l : List Int, Ev (fun k => spec_MajorTable.l0 k l (W.map (tabOf a b)) ((W.map (tabOf a b)).length : Int) (i : Int)) ((W.drop i).foldl (fun l w => bump l (majOf a b w)) l, true) := by
  rw [List.length_map]
  refine downTo _ ?_ ?_
  · intro l
    rw [List.drop_length]
    exact Ev.step (by intro k; simp only [spec_MajorTable.l0]; rfl) (Ev.no (by omega) (Ev.now _))
  · intro i hi ih l
    obtain ⟨_, _, h3, _, h5⟩ := maj_at (hW _ (List.getElem_mem hi))
    rw [List.drop_eq_getElem_cons hi, List.foldl_cons]
    refine Ev.step (by intro k; simp only [spec_MajorTable.l0]; rfl) (Ev.yes (by omega) (Ev.yes (by omega) (Ev.yes (by rw [List.length_map]; omega) ?_)))
    have e : rd_L3 (W.map (tabOf a b)) (i : Int) = tabOf a b W[i] := by
      unfold rd_L3
      rw [Int.toNat_natCast, List.getD_eq_getElem?_getD, List.getElem?_map, List.getElem?_eq_getElem hi]; rfl
    rw [e]
    refine Ev.bind h5 (spec_bump h3 _ l rfl ?_)
    rw [wid (by omega) (by omega)]
    exact ih _
theorem fold_len {a b : Nat} : ∀ (W : List (List Int)), (∀ w ∈ W, majOf a b w ≤ 100) → ∀ l : List Int, l.length ≤ 1000 → (W.foldl (fun l w => bump l (majOf a b w)) l).length ≤ 1000
  | [], _, _, h => h
  | w :: W, hW, l, h => by
    rw [List.foldl_cons]
    exact fold_len W (fun x hx => hW x (List.mem_cons_of_mem _ hx)) _ (by rw [bump_len]; have := hW w List.mem_cons_self; omega)
/-- The reference's list of tableaux. -/
theorem shAll_run {a b : Nat} {p : List Int} (hp : PO p) (hw : ways p 0 ≤ 500) (hW : ∀ w ∈ rowsTo p (ways p 0), majW a b w = true) : ∀ r, r ≤ ways p 0 → Ev (fun k => spec_shAll.l0 k (a : Int) (b : Int) (Cl p 0) ((rowsTo p r).map (tabOf a b)) (r : Int) p) ((rowsTo p (ways p 0)).map (tabOf a b)) := by
  have h2 : 0 < 2 ^ p.length := Nat.two_pow_pos _
  refine downTo _ ?_ ?_
  · refine Ev.step (by intro k; simp only [spec_shAll.l0]; rfl) (Ev.yes (by rw [Cl_len]; omega) ?_)
    rw [first_cnt hp]
    exact Ev.no (by omega) (Ev.now _)
  · intro r hr ih
    have hmem : ints (linW p p.length 0 r) ∈ rowsTo p (ways p 0) := List.mem_map.2 ⟨r, List.mem_range.2 hr, rfl⟩
    obtain ⟨_, h1, _⟩ := maj_at (hW _ hmem)
    refine Ev.step (by intro k; simp only [spec_shAll.l0]; rfl) (Ev.yes (by rw [Cl_len]; omega) ?_)
    rw [first_cnt hp]
    refine Ev.yes (by omega) (Ev.bind (liWith_ev hp hr) (Ev.bind h1 (Ev.yes (by rw [List.length_map, rowsTo_len]; omega) ?_)))
    rw [wid (by omega) (by omega)]
    have e : (rowsTo p r).map (tabOf a b) ++ [tabOf a b (ints (linW p p.length 0 r))] = (rowsTo p (r + 1)).map (tabOf a b) := by unfold rowsTo; rw [List.range_succ, List.map_append, List.map_append]; rfl
    rw [e]
    exact ih
theorem MajorTable_same (a : Int) (_ : (Lit.int .i64 a).wf = true) (b : Int) (_ : (Lit.int .i64 b).wf = true) :
    ∃ r, Ev (fun k => spec_MajorTable.f k a b) r ∧ Ev (fun k => impl_MajorTable.f k a b) r ∧ r.1.length ≤ 1000 := by
  unfold spec_MajorTable.f impl_MajorTable.f
  have hs : spec_shSides.f a b = some (decide (sidesOk a b)) := by exact (show spec_shSides.f a b = impl_areSides.f a b 10 from rfl).trans (areSides_iff a b)
  rw [hs, areSides_iff]
  by_cases h : sidesOk a b
  rotate_left
  · rw [decide_eq_false h]
    exact ⟨([], false), Ev.call rfl (Ev.no (by simp) (Ev.now _)), Ev.call rfl (Ev.no (by simp) (Ev.now _)), Nat.zero_le _⟩
  rw [decide_eq_true h]
  obtain ⟨n, m, p, rfl, rfl, e1, e2, hp, hw, hW⟩ := maj_all h
  have hlen : (rowsTo p (ways p 0)).length ≤ 500 := by rw [rowsTo_len]; exact hw
  have hfew := few_ev p
  rw [if_pos ⟨(isPo_iff p).2 hp, hw⟩] at hfew
  refine ⟨((rowsTo p (ways p 0)).foldl (fun l w => bump l (majOf n m w)) [], true), Ev.call rfl (Ev.yes rfl ?_), Ev.call rfl (Ev.yes rfl ?_), fold_len _ (fun w hx => (maj_at (hW w hx)).2.2.1) [] (Nat.zero_le _)⟩
  · refine Ev.bind (a := (rowsTo p (ways p 0)).map (tabOf n m)) ?_ (spec_table hW hlen 0 (Nat.zero_le _) [])
    unfold spec_shAll.f
    exact Ev.bind e2 (Ev.bind (liCounts_ev hp) (shAll_run hp hw hW 0 (Nat.zero_le _)))
  · refine Ev.bind (a := (rowsTo p (ways p 0)).foldl (fun l w => bump l (majOf n m w)) []) ?_ (Ev.now _)
    unfold impl_majors.f
    exact Ev.bind e1 (Ev.bind hfew (impl_table hW hlen 0 (Nat.zero_le _) []))
theorem FnExactMajorTable : laws_FnExactMajorTable.Pure := by
  intro a b hw_a hw_b
  refine Ev.rounds (g := fun k => laws_FnExactMajorTable.f k a b) ?_
  unfold laws_FnExactMajorTable.f
  obtain ⟨r, hs, hi, hr⟩ := MajorTable_same a hw_a b hw_b
  repeat (first
    | exact Ev.ret rfl
    | (refine Ev.bind hs ?_)
    | (refine Ev.bind hi ?_)
    | (refine Ev.call hs ?_)
    | (refine Ev.call hi ?_)
    | (refine Ev.bind (eqIntS_refl _ ?hb) ?_; (case hb => omega))
    | (refine Ev.bind (markIntS_ev1 _ ?hb) ?_; (case hb => omega))
    | (refine Ev.bind (heldIntS_ev1 _ ?hb) ?_; (case hb => omega))
    | (refine Ev.yes rfl ?_)
    | (refine Ev.no ?hn ?_; (case hn => first | (simp; done) | omega))
    | (refine Ev.step (by intro k; simp only [laws_FnExactMajorTable.j0]; rfl) ?_)
    | (refine Ev.step (by intro k; simp only [laws_FnExactMajorTable.j1]; rfl) ?_)
    )
end Go.Proofs.Ytnihjpnheooeoaa.Q
end
