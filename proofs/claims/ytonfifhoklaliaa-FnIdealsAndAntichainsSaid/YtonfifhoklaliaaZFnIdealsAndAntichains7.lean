/- Part 7 of the texts below the row of FnIdealsAndAntichains: printed functions with their contracts, and plain lemmas. No condition. -/
import Derived.Test.YtonfifhoklaliaaZFnIdealsAndAntichains6
import Derived.SizedLaws
import Derived.ChangeSlices
import Derived.WalkKit
import Derived.ProofKit
import Derived.OpenShut
import Derived.Lib.SmallJoins
import Derived.Deep.Matrix
section
section
namespace Go.Proofs.YtonfifhoklaliaaW.PrintWords
open Go.ChangeShapes Go.WideShapes
theorem sized_ints {H : Type} {enc : TypeId × Value → H} {P : Program} {W : World} {base : Nat} {spare : Nat → Bool} {held : Bool} {t e : TypeId} {k : IntKind} {a : Option Addr} {len cap : Nat} {d : DataW H} {ps : List MemPlace} {ts : List TypeId} {ds : List (DataW H)} {j : Nat}
 (hsz : (DataW.weightsEach P ts ds).all (· ≤ reachBytes) = true) (ht : ts[j]? = some t) (hd : ds[j]? = some d) (hu : P.underlying t = some (.slice e)) (he : P.underlying e = some (.int k)) (hc : P.cellsOf e = 1) {B : Nat} (hB : P.bytesOf e = B)
 (h : DataW.Trod enc P W base spare held t (.slice a len cap) d ps) : len * B ≤ 140737488351232 := by
 obtain ⟨fuel, hf⟩ := h
 rcases open_ints hu he hc hf with ⟨hcs, _⟩ | ⟨x, l, c, zs, hcs, _, hl, _, hz, hx, _, _⟩
 ·simp [Value.cells] at hcs
  obtain ⟨rfl, rfl, rfl⟩ := hcs
  simp
 ·simp [Value.cells] at hcs
  obtain ⟨rfl, rfl, rfl⟩ := hcs
  obtain ⟨hx, _⟩ := Prod.mk.inj hx
  subst hx
  have z := sized_slice hsz ht hd hu
  rw [hB] at z
  have hl2 : len ≤ zs.length := by
   rw [hz]
   split
   ·exact hl
   ·exact Nat.le_refl _
  have h1 : (lits (H := H) k (zs.take len)).length + (lits (H := H) k (zs.drop len)).length = zs.length := by
   simp [lits]
   omega
  rw [h1] at z
  exact Nat.le_trans (Nat.mul_le_mul_right _ hl2) z
end Go.Proofs.YtonfifhoklaliaaW.PrintWords
end
end

section
namespace Go.Proofs.YtonfifhoklaliaaW.RowKit
open Go.ChangeShapes Go.WideShapes Go.Deep Go.RowKit Go.Proofs.YtonfifhoklaliaaW.PrintWords
variable {H : Type} {enc : TypeId × Value → H} {P : Program} {w : World} {base : Nat} {held : Bool}
structure PxInts (w : World) (k : IntKind) (A : Option Addr) (c : Nat) (l : List Int) : Prop where
 le : l.length ≤ c
 c : Kd.C (Kd.int k) w A l.length l
 m : l.length ≤ maxLen
 wf : ∀ n ∈ l, (Lit.int k n).wf = true
theorem ints_of {t e : TypeId} {k : IntKind} {fuel : Nat} {cs : List Value} {x : DataW H × List MemPlace} (ht : P.underlying t = some (.slice e)) (he : P.underlying e = some (.int k)) (hc : P.cellsOf e = 1)
 (h : DataW.trod enc P w base (fun _ => true) held fuel t cs = some x) : ∃ A c l, cs = [.slice A (List.length l) c] ∧ PxInts w k A c l := by
 rcases open_ints ht he hc h with ⟨hcs, _⟩ | ⟨a, len, cap, zs, hcs, _, hl, hm, hz, _, hcell, hwz⟩
 ·obtain ⟨l, e1, h1, h2, h3, h4⟩ := ReadsInt.ofRowC (k := k) (w := w) (a := none) (len := 0) (cap := 0) (zs := []) (.inl ⟨rfl, rfl, rfl, rfl⟩)
  exact ⟨none, 0, l, by rw [hcs, ← e1], h4, Kd.C_of_reads (d := (0 : Int)) (h1 := fun _ => rfl) h1, h2, h3⟩
 ·obtain ⟨l, e1, h1, h2, h3, h4⟩ := ReadsInt.ofRowC (k := k) (w := w) (a := some a) (len := len) (cap := cap) (zs := zs) (.inr ⟨_, rfl, hl, hm, by simpa using hz, hcell, hwz⟩)
  exact ⟨some a, cap, l, by rw [hcs, ← e1], h4, Kd.C_of_reads (d := (0 : Int)) (h1 := fun _ => rfl) h1, h2, h3⟩
theorem open_sl {r : Reach} {b0 : Nat} {t e : TypeId} {k : IntKind} {v : Value} {d : DataW H} {p : List MemPlace} (ht : P.underlying t = some (.slice e)) (he : P.underlying e = some (.int k)) (hc : P.cellsOf e = 1)
 (hv : Value.okWide P w r b0 t v) (h : DataW.Trod enc P w base (fun _ => true) held t v d p) : ∃ A c l, v = .slice A (List.length l) c ∧ PxInts w k A c l := by
 obtain ⟨a, len, cap, rfl⟩ := okWide_slice ht hv
 obtain ⟨fuel, hf⟩ := h
 obtain ⟨A, c, l, hcs, hi⟩ := ints_of ht he hc hf
 simp [Value.cells] at hcs
 obtain ⟨rfl, rfl, rfl⟩ := hcs
 exact ⟨_, _, l, rfl, hi⟩
theorem open_st {r : Reach} {b0 : Nat} {t q e : TypeId} {k : IntKind} {f0 : Field} {v : Value} {d : DataW H} {p : List MemPlace} (hs : P.underlying t = some (.struct #[f0])) (hone : oneCellFields P #[f0] = true) (hC : P.cellsOf t = 1)
 (hq : f0.type = q) (ht : P.underlying q = some (.slice e)) (he : P.underlying e = some (.int k)) (hc : P.cellsOf e = 1)
 (hv : Value.okWide P w r b0 t v) (h : DataW.Trod enc P w base (fun _ => true) held t v d p) : ∃ A c l, v = .agg #[.slice A (List.length l) c] ∧ PxInts w k A c l := by
 subst hq
 obtain ⟨cs, rfl, hsz⟩ := okWide_struct hs hv
 obtain ⟨c0, rfl⟩ : ∃ c0, cs = #[c0] := by
  obtain ⟨l⟩ := cs
  match l, hsz.trans hC with
  | [c0], _ => exact ⟨c0, rfl⟩
 obtain ⟨fuel, hf⟩ := h
 obtain ⟨y0, n, _, _, h0⟩ := trod_struct1 hs hf
 obtain ⟨o0, k0⟩ := Go.Deep.hone_of hone 0 f0 rfl
 obtain ⟨A, c, l, hcs, hi⟩ := ints_of ht he hc (by simpa [Value.cells, o0, k0] using h0 : DataW.trod enc P w base (fun _ => true) held n f0.type [c0] = some y0)
 simp at hcs
 subst hcs
 exact ⟨A, c, l, rfl, hi⟩
structure PxRows (w : World) (k : IntKind) (q : TypeId) (A : Option Addr) (c : Nat) (l : List (List Int)) : Prop where
 le : l.length ≤ c
 c : Kd.C (Kd.slice q (Kd.int k)) w A l.length l
 m : l.length ≤ maxLen
 m2 : ∀ r ∈ l, r.length ≤ maxLen
 wf : ∀ r ∈ l, ∀ n ∈ r, (Lit.int k n).wf = true
theorem open_ss {r : Reach} {b0 : Nat} {t e q : TypeId} {k : IntKind} {v : Value} {d : DataW H} {p : List MemPlace} (ht : P.underlying t = some (.slice e)) (he : P.underlying e = some (.slice q)) (hq : P.underlying q = some (.int k))
 (ce : P.cellsOf e = 1) (cq : P.cellsOf q = 1)
 (hv : Value.okWide P w r b0 t v) (h : DataW.Trod enc P w base (fun _ => true) held t v d p) : ∃ A c l, v = .slice A (List.length l) c ∧ PxRows w k q A c l := by
 obtain ⟨a, len, cap, rfl⟩ := okWide_slice ht hv
 obtain ⟨fuel, hf⟩ := h
 rcases Go.Deep.open_int_rows ht he hq ce cq hf with ⟨hcs, _⟩ | ⟨x, len', cap', AA, L, C, Z, hcs, _, hl, hm, _, hr⟩
 ·simp [Value.cells] at hcs
  obtain ⟨rfl, rfl, rfl⟩ := hcs
  exact ⟨none, 0, [], rfl, Nat.le_refl _, ⟨rfl, Nat.zero_le _, fun h => absurd h (Nat.lt_irrefl _)⟩, Nat.zero_le _, (fun _ h => by cases h), (fun _ h => by cases h)⟩
 ·simp [Value.cells] at hcs
  obtain ⟨rfl, rfl, rfl⟩ := hcs
  have each : ∀ r, r < cap → PxInts w k (AA r) (C r) ((Z r).take (L r)) ∧ L r = ((Z r).take (L r)).length := by
   intro r hrc
   obtain ⟨_, h1, h2, h3, h4, h5, h6⟩ := hr r hrc
   have hz : ((Z r).take (L r)).length = L r := by rw [List.length_take]; omega
   refine ⟨⟨by omega, ⟨by rfl, by unfold maxLen at h2; omega, fun hp => ?_⟩, by omega, fun n hn => h4 n (List.mem_of_mem_take hn)⟩, hz.symm⟩
   cases ha : AA r with
   | none => have := h5 ha; omega
   | some ad =>
    refine ⟨ad, rfl, fun j p hj => ⟨[.int k p], rfl, rfl, fun i u hu => ?_⟩⟩
    have hj1 := (List.getElem?_eq_some_iff.1 hj).1
    have hjl : j < L r := by omega
    cases i with
    | succ i => simp at hu
    | zero =>
     simp at hu
     subst hu
     have := (h6 ad ha).2 j (by omega)
     rw [List.getD_eq_getElem?_getD, ← List.getElem?_take_of_lt hjl, hj] at this
     have e1 : j * (Kd.int k).sz + 0 = j := by show j * 1 + 0 = j; omega
     rw [e1]
     exact this
  refine ⟨some x, cap, (List.range len).map (fun r => (Z r).take (L r)), by simp, ⟨by simpa using hl, ⟨by simp, ?_, fun hp => ⟨x, rfl, fun j p hj => ?_⟩⟩, by simp; omega, ?_, ?_⟩⟩
  ·simp; unfold maxLen at hm; omega
  ·simp only [List.getElem?_map, Option.map_eq_some_iff] at hj
   obtain ⟨r, hr1, rfl⟩ := hj
   obtain ⟨hr2, hr3⟩ := List.getElem?_eq_some_iff.1 hr1
   simp at hr2 hr3
   subst hr3
   obtain ⟨hi, hL⟩ := each j (by omega)
   refine ⟨[.slice (AA j) ((Z j).take (L j)).length (C j)], rfl, ⟨AA j, C j, rfl, hi.le, hi.c⟩, fun i u hu => ?_⟩
   cases i with
   | succ i => simp at hu
   | zero =>
    simp only [List.getElem?_cons_zero, Option.some.injEq] at hu
    subst hu
    have e1 : j * (Kd.slice q (Kd.int k)).sz + 0 = j := by show j * 1 + 0 = j; omega
    rw [e1, ← hL]
    exact (hr j (by omega)).1
  ·intro r hr1
   obtain ⟨j, hj, rfl⟩ := List.mem_map.1 hr1
   rw [List.mem_range] at hj
   exact (each j (by omega)).1.m
  ·intro r hr1
   obtain ⟨j, hj, rfl⟩ := List.mem_map.1 hr1
   rw [List.mem_range] at hj
   exact (each j (by omega)).1.wf
end Go.Proofs.YtonfifhoklaliaaW.RowKit
end

section
namespace Go.Proofs.Ytonfifhoklaliaa.F
open Go.RowKit Go.Proofs.YtonfifhoklaliaaW.PrintWords Go.Proofs.YtonfifhoklaliaaW.PrintLast Go.Proofs.YtonfifhoklaliaaW.PrintMore Go.Proofs.YtonfifhoklaliaaW.RowKit
set_option linter.unusedVariables false
def laws_FnIdealsAndAntichains.Pure : Prop := ∀ (l0 : List Int) (l1 : List Int), l0.length ≤ maxLen → (∀ n ∈ l0, (Lit.int .u8 n).wf = true) → l1.length ≤ maxLen → (∀ n ∈ l1, (Lit.int .u8 n).wf = true) → ∃ k, laws_FnIdealsAndAntichains.f k l0 l1 = some true
theorem laws_FnIdealsAndAntichains.walk (P : laws_FnIdealsAndAntichains.Pure) (A0 : Option Addr) (c0 : Nat) (l0 : List Int) (A1 : Option Addr) (c1 : Nat) (l1 : List Int) (w : World) (i0 : PxInts w .u8 A0 c0 l0) (i1 : PxInts w .u8 A1 c1 l1) :
 Calls Try.prog 4 #[.slice A0 l0.length c0, .slice A1 l1.length c1] w fun e w' => e = .returned (.bool true) ∧ Below w.heap.size w w' := by
 obtain ⟨k, h⟩ := P l0 l1 i0.m i0.wf i1.m i1.wf
 refine (laws_FnIdealsAndAntichains.calls k _ _ l0 _ _ l1 true w i0.c i0.le i1.c i1.le h).mono ?_
 rintro e w' ⟨rfl, hd⟩
 exact ⟨rfl, hd⟩
end Go.Proofs.Ytonfifhoklaliaa.F
end

section
namespace Go.Proofs.Ytonfifhoklaliaa.Q
open Go.RowKit Go.Proofs.YtonfifhoklaliaaW.PrintWords Go.Proofs.Ytonfifhoklaliaa.F
set_option linter.unusedVariables false
theorem cAt_0 : cAt 0 0 := ⟨Int.le_refl _, Int.le_refl _⟩
theorem poSet_eq {p : List Int} (hp : PO p) (x : Int) : spec_poSet.f p x = some (setB p x) := by
 have hn := hp.small
 unfold spec_poSet.f
 rw [mask_eq (by omega), l1In_eq, pow_int]
 simp only [Option.bind_some]
 have := Nat.two_pow_pos p.length
 have e : ((2 ^ p.length : Nat) : Int) - 1 = ((allN p : Nat) : Int) := by unfold allN; omega
 rw [e]; rfl
def ofSet {α : Type} (d : α) (f : List Int → Nat → α) (p : List Int) (x : Int) : α × Bool := if (isPo p && setB p x) = true then (f p x.toNat, true) else (d, false)
theorem ofSet_impl {α : Type} {d : α} {f : List Int → Nat → α} {g : Nat → List Int → Int → Option α} (h : ∀ {p : List Int}, PO p → ∀ {s : Nat}, s < 2 ^ p.length → Ev (fun k => g k p (s : Int)) (f p s)) (p : List Int) (x : Int) :
 Ev (fun k => (impl_isSet.f k p x).bind fun t => (if t = true then ((g k p x).bind fun t2 => (some (t2, true))) else (some (d, false)))) (ofSet d f p x) := by
 unfold ofSet
 refine Ev.bind (isSet_ev p x) ?_
 cases hc : isPo p && setB p x with
 | false => exact Ev.no (by simp) (Ev.now _)
 | true =>
  rw [Bool.and_eq_true] at hc
  obtain ⟨s, rfl, hs⟩ := setB_iff.1 hc.2
  rw [if_pos rfl, Int.toNat_natCast]
  exact Ev.yes rfl (Ev.bind (h ((isPo_iff p).1 hc.1) hs) (Ev.now _))
theorem ofSet_spec {α : Type} {d : α} {f : List Int → Nat → α} {g : Nat → List Int → Int → Option α} (h : ∀ {p : List Int}, PO p → ∀ {s : Nat}, s < 2 ^ p.length → Ev (fun k => g k p (s : Int)) (f p s)) (p : List Int) (x : Int) :
 Ev (fun k => (spec_poGood.f k p).bind fun t => (if t = true then ((spec_poSet.f p x).bind fun t1 => (if t1 = true then ((g k p x).bind fun t2 => (some (t2, true))) else (some (d, false)))) else (some (d, false)))) (ofSet d f p x) := by
 unfold ofSet
 refine Ev.bind (poGood_ev p) ?_
 cases hpo : isPo p with
 | false => rw [Bool.false_and, if_neg Bool.false_ne_true]; exact Ev.no (by simp) (Ev.now _)
 | true =>
  have hp := (isPo_iff p).1 hpo
  rw [Bool.true_and]
  refine Ev.yes rfl (Ev.call (poSet_eq hp x) ?_)
  cases hc : setB p x with
  | false => exact Ev.no (by simp) (Ev.now _)
  | true =>
   obtain ⟨s, rfl, hs⟩ := setB_iff.1 hc
   rw [if_pos rfl, Int.toNat_natCast]
   exact Ev.yes rfl (Ev.bind (h hp hs) (Ev.now _))
def topV := ofSet (0 : Int) fun p s => ((topN p s : Nat) : Int)
def dnV := ofSet (0 : Int) fun p s => ((closeN p s : Nat) : Int)
def boV := ofSet (0 : Int) fun p s => ((botN p s : Nat) : Int)
def idB := ofSet false fun p s => idealB p s
def acB := ofSet false fun p s => topN p s == s
theorem top_impl (p : List Int) (x : Int) : Ev (fun k => impl_TopOf.f k p x) (topV p x) := ofSet_impl (g := impl_Poset_top.f) (fun hp _ hs => top_ev hp hs) p x
theorem top_spec (p : List Int) (x : Int) : Ev (fun k => spec_TopOf.f k p x) (topV p x) := ofSet_spec (g := spec_poTop.f) (fun hp _ hs => poTop_ev hp hs) p x
theorem dn_impl (p : List Int) (x : Int) : Ev (fun k => impl_IdealOf.f k p x) (dnV p x) := ofSet_impl (g := impl_Poset_close.f) (fun hp _ hs => close_ev hp hs) p x
theorem dn_spec (p : List Int) (x : Int) : Ev (fun k => spec_IdealOf.f k p x) (dnV p x) := ofSet_spec (g := spec_poDown.f) (fun hp _ hs => poDown_ev hp hs) p x
theorem bo_impl (p : List Int) (x : Int) : Ev (fun k => impl_BottomOf.f k p x) (boV p x) := ofSet_impl (g := impl_Poset_bottom.f) (fun hp _ hs => bottom_ev hp hs) p x
theorem bo_spec (p : List Int) (x : Int) : Ev (fun k => spec_BottomOf.f k p x) (boV p x) := ofSet_spec (g := spec_poBottom.f) (fun hp _ hs => poBottom_ev hp hs) p x
theorem id_spec (p : List Int) (x : Int) : Ev (fun k => spec_IsIdeal.f k p x) (idB p x) := ofSet_spec (g := spec_poIdeal.f) (fun hp _ hs => poIdeal_ev hp hs) p x
theorem id_impl (p : List Int) (x : Int) : Ev (fun k => impl_IsIdeal.f k p x) (idB p x) := by
 unfold impl_IsIdeal.f idB ofSet
 refine Ev.bind (isSet_ev p x) ?_
 cases hc : isPo p && setB p x with
 | false => exact Ev.no (by simp) (Ev.now _)
 | true =>
  rw [Bool.and_eq_true] at hc
  obtain ⟨s, rfl, hs⟩ := setB_iff.1 hc.2
  have hp := (isPo_iff p).1 hc.1
  rw [if_pos rfl, Int.toNat_natCast]
  refine Ev.yes rfl (Ev.bind (close_ev hp hs) (Ev.ret ?_))
  show _ = (idealB p s, true)
  rw [← closeN_eq hp hs]
  congr 1
  rw [Bool.eq_iff_iff, beq_iff_eq, beq_iff_eq]; omega
theorem ac_impl (p : List Int) (x : Int) : Ev (fun k => impl_IsAntichain.f k p x) (acB p x) := by
 unfold impl_IsAntichain.f acB ofSet
 refine Ev.bind (isSet_ev p x) ?_
 cases hc : isPo p && setB p x with
 | false => exact Ev.no (by simp) (Ev.now _)
 | true =>
  rw [Bool.and_eq_true] at hc
  obtain ⟨s, rfl, hs⟩ := setB_iff.1 hc.2
  have hp := (isPo_iff p).1 hc.1
  rw [if_pos rfl, Int.toNat_natCast]
  refine Ev.yes rfl (Ev.bind (top_ev hp hs) (Ev.ret ?_))
  congr 1
  rw [Bool.eq_iff_iff, beq_iff_eq, beq_iff_eq]; omega
theorem ac_spec (p : List Int) (x : Int) : Ev (fun k => spec_IsAntichain.f k p x) (acB p x) := by
 unfold spec_IsAntichain.f acB ofSet
 refine Ev.bind (poGood_ev p) ?_
 cases hpo : isPo p with
 | false => rw [Bool.false_and, if_neg Bool.false_ne_true]; exact Ev.no (by simp) (Ev.now _)
 | true =>
  have hp := (isPo_iff p).1 hpo
  rw [Bool.true_and]
  refine Ev.yes rfl (Ev.call (poSet_eq hp x) ?_)
  cases hc : setB p x with
  | false => exact Ev.no (by simp) (Ev.now _)
  | true =>
   obtain ⟨s, rfl, hs⟩ := setB_iff.1 hc
   rw [if_pos rfl, Int.toNat_natCast]
   refine Ev.yes rfl (Ev.bind (poTop_ev hp hs) (Ev.ret ?_))
   congr 1
   rw [Bool.eq_iff_iff, beq_iff_eq, beq_iff_eq]; omega
theorem of_yes {α : Type} {d : α} {f : List Int → Nat → α} {p : List Int} (hp : PO p) {s : Nat} (hs : s < 2 ^ p.length) : ofSet d f p (s : Int) = (f p s, true) := by
 unfold ofSet
 rw [(isPo_iff p).2 hp, setB_iff.2 ⟨s, rfl, hs⟩, Bool.true_and, if_pos rfl, Int.toNat_natCast]
theorem of_no {α : Type} {d : α} {f : List Int → Nat → α} {p : List Int} {x : Int} (h : (isPo p && setB p x) = false) : ofSet d f p x = (d, false) := by
 unfold ofSet; rw [h, if_neg Bool.false_ne_true]
theorem setOf_ok {l : List Int} (hl : bytesL l) {B : Nat} {a : Int} (s : Int) (p : List Int) (ha : cAt B a) (hB : B ≤ 10000) : ∃ x a' s', spec_l1Cur_setOf.f l a s p = some (x, a', s') ∧ cAt (B + 8) a' := by
 unfold spec_l1Cur_setOf.f
 obtain ⟨t, ht, t0⟩ : ∃ t : Int, spec_l1Least.f (p.length : Int) 12 = some t ∧ 0 ≤ t := by
  unfold spec_l1Least.f
  by_cases h : (p.length : Int) < 12
  ·rw [if_pos h]; exact ⟨_, rfl, by omega⟩
  ·rw [if_neg h]; exact ⟨_, rfl, by omega⟩
 obtain ⟨x1, a1, s1, e1, h1, _⟩ := cpick_ok hl s 256 ha (by omega)
 obtain ⟨x2, a2, s2, e2, h2, _⟩ := cpick_ok hl s1 16 h1 (by omega)
 obtain ⟨b, a3, s3, e3, h3⟩ := one_ok hl s2 12 h2 (by omega)
 rw [ht]
 simp only [Option.bind_some]
 rw [e1]
 simp only [Option.bind_some]
 rw [e2]
 simp only [Option.bind_some]
 rw [if_pos t0, e3]
 simp only [Option.bind_some]
 cases b with
 | true =>
  obtain ⟨x, a4, s4, e4, h4, _⟩ := among_ok hl s3 h3 (by omega) (m := ([(-1), shl .i64 1 t, 0, wrap64 ((shl .i64 1 t) - 1), 4611686018427387904] : List Int)) (by simp)
  rw [if_pos rfl, e4]
  exact ⟨_, _, _, rfl, cAt_mono h4 (by omega)⟩
 | false =>
  rw [if_neg Bool.false_ne_true]
  exact ⟨_, _, _, rfl, cAt_mono h3 (by omega)⟩
theorem drawII_ok {l : List Int} (hl : bytesL l) : ∃ p x, Ev (fun k => spec_DrawIsIdeal.f k l) (p, x) := by
 obtain ⟨p, a, s, e, h1, h2, h3⟩ := poset_ok hl 0 (most := 10) (by omega) (by omega) cAt_0 (by omega)
 obtain ⟨x, a1, s1, e1, h4⟩ := setOf_ok hl s p h3 (by omega)
 have key : ∃ x a' s', Ev (fun k => spec_DrawIsIdealR.f k l 0 0) (p, x, a', s') := by
  unfold spec_DrawIsIdealR.f
  cases hpo : isPo p with
  | false =>
   refine ⟨x, a1, s1, Ev.bind e (Ev.call e1 (Ev.bind (poGood_ev p) ?_))⟩
   rw [hpo]; exact Ev.no Bool.false_ne_true (Ev.now _)
  | true =>
   have hp := (isPo_iff p).1 hpo
   cases hc : setB p x with
   | false =>
    refine ⟨x, a1, s1, Ev.bind e (Ev.call e1 (Ev.bind (poGood_ev p) ?_))⟩
    rw [hpo]
    refine Ev.yes rfl (Ev.call (poSet_eq hp x) ?_)
    rw [hc]; exact Ev.no Bool.false_ne_true (Ev.now _)
   | true =>
    obtain ⟨n, rfl, hs⟩ := setB_iff.1 hc
    obtain ⟨b, a2, s2, e2, h5⟩ := one_ok hl s1 2 h4 (by omega)
    cases b with
    | true =>
     refine ⟨((closeN p n : Nat) : Int), a2, s2, Ev.bind e (Ev.call e1 (Ev.bind (poGood_ev p) ?_))⟩
     rw [hpo]
     refine Ev.yes rfl (Ev.call (poSet_eq hp _) ?_)
     rw [hc]
     exact Ev.yes rfl (Ev.call e2 (Ev.yes rfl (Ev.bind (poDown_ev hp hs) (Ev.now _))))
    | false =>
     refine ⟨(n : Int), a2, s2, Ev.bind e (Ev.call e1 (Ev.bind (poGood_ev p) ?_))⟩
     rw [hpo]
     refine Ev.yes rfl (Ev.call (poSet_eq hp _) ?_)
     rw [hc]
     exact Ev.yes rfl (Ev.call e2 (Ev.no Bool.false_ne_true (Ev.now _)))
 obtain ⟨x, a', s', g⟩ := key
 refine ⟨p, x, ?_⟩
 unfold spec_DrawIsIdeal.f
 exact Ev.bind g (Ev.now _)
theorem drawIA_ok {l : List Int} (hl : bytesL l) : ∃ p x, Ev (fun k => spec_DrawIsAntichain.f k l) (p, x) := by
 obtain ⟨p, x, e⟩ := drawII_ok hl
 have key : ∃ x a' s', Ev (fun k => spec_DrawIsAntichainR.f k l 0 0 l) (p, x, a', s') := by
  unfold spec_DrawIsAntichainR.f
  cases hpo : isPo p with
  | false =>
   refine ⟨x, 0, 0, Ev.bind e (Ev.bind (poGood_ev p) ?_)⟩
   rw [hpo]; exact Ev.no Bool.false_ne_true (Ev.now _)
  | true =>
   have hp := (isPo_iff p).1 hpo
   cases hc : setB p x with
   | false =>
    refine ⟨x, 0, 0, Ev.bind e (Ev.bind (poGood_ev p) ?_)⟩
    rw [hpo]
    refine Ev.yes rfl (Ev.call (poSet_eq hp x) ?_)
    rw [hc]; exact Ev.no Bool.false_ne_true (Ev.now _)
   | true =>
    obtain ⟨n, rfl, hs⟩ := setB_iff.1 hc
    obtain ⟨b, a2, s2, e2, h5⟩ := one_ok hl 0 2 cAt_0 (by omega)
    cases b with
    | true =>
     refine ⟨((topN p n : Nat) : Int), a2, s2, Ev.bind e (Ev.bind (poGood_ev p) ?_)⟩
     rw [hpo]
     refine Ev.yes rfl (Ev.call (poSet_eq hp _) ?_)
     rw [hc]
     exact Ev.yes rfl (Ev.call e2 (Ev.yes rfl (Ev.bind (poTop_ev hp hs) (Ev.now _))))
    | false =>
     refine ⟨(n : Int), a2, s2, Ev.bind e (Ev.bind (poGood_ev p) ?_)⟩
     rw [hpo]
     refine Ev.yes rfl (Ev.call (poSet_eq hp _) ?_)
     rw [hc]
     exact Ev.yes rfl (Ev.call e2 (Ev.no Bool.false_ne_true (Ev.now _)))
 obtain ⟨x, a', s', g⟩ := key
 refine ⟨p, x, ?_⟩
 unfold spec_DrawIsAntichain.f
 exact Ev.bind g (Ev.now _)
theorem drawIs_ok {l : List Int} (hl : bytesL l) : ∃ p, Ev (fun k => spec_DrawIdealsOf.f k l) p := by
 obtain ⟨p, a, s, e, h1, h2, h3⟩ := poset_ok hl 0 (most := 10) (by omega) (by omega) cAt_0 (by omega)
 refine ⟨p, ?_⟩
 unfold spec_DrawIdealsOf.f
 refine Ev.bind (a := p) ?_ (Ev.now _)
 unfold spec_DrawIsPoset.f spec_DrawIsPosetR.f
 exact Ev.bind (Ev.bind e (Ev.now _)) (Ev.now _)
theorem drawIO_ok {l : List Int} (hl : bytesL l) : ∃ p x, Ev (fun k => spec_DrawIdealOf.f k l) (p, x) := by
 obtain ⟨p, x, e⟩ := drawII_ok hl
 refine ⟨p, x, ?_⟩
 unfold spec_DrawIdealOf.f
 exact Ev.bind e (Ev.now _)
def idV (p : List Int) : List Int × Bool := if isPo p = true then (ints (idealsN p), true) else ([], false)
theorem ids_impl (p : List Int) : Ev (fun k => impl_IdealsOf.f k p) (idV p) := by
 unfold impl_IdealsOf.f idV
 refine Ev.bind (IsPoset_ev p) ?_
 cases hpo : isPo p with
 | false => exact Ev.no (by simp) (Ev.now _)
 | true => exact Ev.yes rfl (Ev.bind (ideals_ev ((isPo_iff p).1 hpo)) (Ev.now _))
theorem ids_spec (p : List Int) : Ev (fun k => spec_IdealsOf.f k p) (idV p) := by
 unfold spec_IdealsOf.f idV
 refine Ev.bind (poGood_ev p) ?_
 cases hpo : isPo p with
 | false => exact Ev.no (by simp) (Ev.now _)
 | true => exact Ev.yes rfl (Ev.bind (poIdeals_ev ((isPo_iff p).1 hpo)) (Ev.now _))
theorem idV_snd (p : List Int) : (idV p).2 = isPo p := by unfold idV; cases isPo p <;> rfl
theorem anV_snd (p : List Int) : (anV p).2 = isPo p := by unfold anV; cases isPo p <;> rfl
theorem antis_len_le (p : List Int) : (antisN p).length ≤ 2 ^ p.length := by
 unfold antisN
 have := List.length_filter_le (fun s => topN p s == s) (List.range (2 ^ p.length))
 rwa [List.length_range] at this
theorem hne' (b : Bool) : (b != b) = false := by cases b <;> rfl
theorem last_law {l1 : List Int} (h1 : bytesL l1) : Ev (fun k => (spec_DrawIsAntichain.f k l1).bind fun bt => ((impl_IsAntichain.f k bt.1 bt.2).bind fun a => ((spec_IsAntichain.f k bt.1 bt.2).bind fun b => (if (a.2 == b.2) = true then (some (a.1 == b.1)) else (some false))))) true := by
 obtain ⟨p, x, e⟩ := drawIA_ok h1
 exact Ev.bind e (Ev.bind (ac_impl p x) (Ev.bind (ac_spec p x) (Ev.yes (by simp) (Ev.ret (by simp)))))
theorem j3_law {l1 : List Int} (h1 : bytesL l1) : Ev (fun k => laws_FnIdealsAndAntichains.j3 k l1) true := by
 obtain ⟨p, x, e⟩ := drawIO_ok h1
 have j5 : Ev (fun k => laws_FnIdealsAndAntichains.j5 k l1 false) true :=
  Ev.step (by intro k; simp only [laws_FnIdealsAndAntichains.j5]; rfl) (Ev.no Bool.false_ne_true (last_law h1))
 refine Ev.step (by intro k; simp only [laws_FnIdealsAndAntichains.j3]; rfl) ?_
 refine Ev.bind e (Ev.bind (dn_impl p x) (Ev.bind (dn_spec p x) (Ev.bind (top_impl p x) (Ev.bind (top_spec p x) (Ev.bind (bo_impl p x) (Ev.bind (bo_spec p x) (Ev.bind (id_impl p x) (Ev.bind (id_spec p x) ?_))))))))
 have no : ∀ b : Bool, ¬ (b != b) = true := fun b => by rw [hne']; exact Bool.false_ne_true
 cases hc : isPo p && setB p x with
 | false =>
  have a1 : topV p x = (0, false) := of_no hc
  have a2 : dnV p x = (0, false) := of_no hc
  have a3 : boV p x = (0, false) := of_no hc
  have a4 : idB p x = (false, false) := of_no hc
  rw [a1, a2, a3, a4]
  refine Ev.no (no _) (Ev.yes (c := (0 : Int) = 0) rfl (Ev.no (no _) (Ev.yes (c := (0 : Int) = 0) rfl (Ev.no (no _) (Ev.yes (c := (0 : Int) = 0) rfl (Ev.no (no _) (Ev.no (no _) (Ev.no (no _) (Ev.no (no _) ?_)))))))))
  show Ev (fun k => laws_FnIdealsAndAntichains.j4 k l1 x 0 false 0 0 false false p) true
  exact Ev.step (by intro k; simp only [laws_FnIdealsAndAntichains.j4]; rfl) (Ev.no Bool.false_ne_true (Ev.no Bool.false_ne_true (last_law h1)))
 | true =>
  rw [Bool.and_eq_true] at hc
  obtain ⟨s, rfl, hs⟩ := setB_iff.1 hc.2
  have hp := (isPo_iff p).1 hc.1
  have a1 : topV p (s : Int) = (((topN p s : Nat) : Int), true) := of_yes hp hs
  have a2 : dnV p (s : Int) = (((closeN p s : Nat) : Int), true) := of_yes hp hs
  have a3 : boV p (s : Int) = (((botN p s : Nat) : Int), true) := of_yes hp hs
  have a4 : idB p (s : Int) = (idealB p s, true) := of_yes hp hs
  rw [a1, a2, a3, a4]
  refine Ev.no (no _) (Ev.yes rfl (Ev.no (no _) (Ev.yes rfl (Ev.no (no _) (Ev.yes rfl (Ev.no (no _) (Ev.no (no _) (Ev.no (no _) (Ev.no (no _) ?_)))))))))
  show Ev (fun k => laws_FnIdealsAndAntichains.j4 k l1 (s : Int) ((closeN p s : Nat) : Int) true ((topN p s : Nat) : Int) ((botN p s : Nat) : Int) (idealB p s) false p) true
  refine Ev.step (by intro k; simp only [laws_FnIdealsAndAntichains.j4]; rfl) (Ev.no Bool.false_ne_true (Ev.yes (c := true = true) rfl ?_))
  have b1 : acB p ((topN p s : Nat) : Int) = (true, true) := by
   have := of_yes (d := false) (f := fun p s => topN p s == s) hp (topN_lt (p := p) hs)
   unfold acB; rw [this, top_top hp hs, beq_self_eq_true]
  have b2 : acB p ((botN p s : Nat) : Int) = (true, true) := by
   have := of_yes (d := false) (f := fun p s => topN p s == s) hp (botN_lt hp hs)
   unfold acB; rw [this, top_bot hp hs, beq_self_eq_true]
  have b3 : idB p ((closeN p s : Nat) : Int) = (true, true) := by
   have := of_yes (d := false) (f := fun p s => idealB p s) hp (closeN_lt hp hs)
   unfold idB; rw [this, close_ideal hp hs]
  have c1 := ac_impl p ((topN p s : Nat) : Int)
  have c2 := ac_impl p ((botN p s : Nat) : Int)
  have c3 := id_impl p ((closeN p s : Nat) : Int)
  rw [b1] at c1
  rw [b2] at c2
  rw [b3] at c3
  refine Ev.bind c1 (Ev.bind c2 (Ev.yes rfl (Ev.yes rfl (Ev.yes rfl (Ev.yes rfl (Ev.bind (a := true) ?_ (Ev.yes rfl ?_)))))))
  ·unfold laws_nIdeal.f
   exact Ev.bind c3 (Ev.yes rfl (Ev.now _))
  ·have e1 : (idealB p s != (((closeN p s : Nat) : Int) == (s : Int))) = false := by
    have : (((closeN p s : Nat) : Int) == (s : Int)) = idealB p s := by
     rw [← closeN_eq hp hs, Bool.eq_iff_iff, beq_iff_eq, beq_iff_eq]; omega
    rw [this, hne']
   refine Ev.no (by rw [e1]; exact Bool.false_ne_true) ?_
   by_cases h0 : s = 0
   ·subst h0
    exact Ev.no (by omega) j5
   ·refine Ev.yes (by omega) (Ev.no (by have := top_nonzero hp hs h0; omega) ?_)
    have e2 : (((botN p s : Nat) : Int) == 0) = false := by rw [beq_eq_false_iff_ne]; have := bot_nonzero hp hs h0; omega
    rw [e2]
    exact j5
theorem ideal_at {p : List Int} {i : Nat} (h : i < (idealsN p).length) : (idealsN p).getD i 0 ∈ idealsN p := by
 rw [List.getD_eq_getElem?_getD, List.getElem?_eq_getElem h]; exact List.getElem_mem h
set_option maxHeartbeats 1000000 in
theorem loop_law {l1 p : List Int} (h1 : bytesL l1) (hl1 : l1.length ≤ 1048576) (hp : PO p) : ∀ i, i ≤ (idealsN p).length → Ev (fun k => laws_FnIdealsAndAntichains.l0 k l1 (ints (idealsN p)) (ints (antisN p)) (ints (idealsN p)) ((ints (idealsN p)).length : Int) (i : Int) p) true := by
 have hn := hp.small
 have h2 := small10 hn
 have hlen := idealsN_len p
 have halen := antis_len_le p
 obtain ⟨t, ht, hnum⟩ := numberOf_ev (l := l1) (by omega) h1
 refine downTo _ ?_ ?_
 ·exact Ev.step (by intro k; simp only [laws_FnIdealsAndAntichains.l0]; rfl) (Ev.no (by rw [ints_len]; omega) (j3_law h1))
 ·intro i hi ih
  have hsm := mem_idealsN.1 (ideal_at hi)
  generalize hs : (idealsN p).getD i 0 = s at hsm
  have hz : ¬ (((idealsN p).length : Nat) : Int) = 0 := by omega
  have hj : (7 * i + t) % (idealsN p).length < (idealsN p).length := Nat.mod_lt _ (by omega)
  have hum := mem_idealsN.1 (ideal_at hj)
  generalize hu : (idealsN p).getD ((7 * i + t) % (idealsN p).length) 0 = u at hum
  generalize hjj : (7 * i + t) % (idealsN p).length = j at hj hu
  have e1 : Int.tmod (wrap64 ((wrap64 (7 * (i : Int))) + (t : Int))) ((ints (idealsN p)).length : Int) = (j : Int) := by
   rw [← hjj, ints_len, wid (n := 7 * (i : Int)) (by omega) (by omega), wid (by omega) (by omega), Int.tmod_eq_emod_of_nonneg (by omega), show (7 * (i : Int) + (t : Int)) = ((7 * i + t : Nat) : Int) by omega, ← Int.natCast_emod]
  have r1 : rd (ints (idealsN p)) (i : Int) = (s : Int) := by rw [rd_ints, hs]
  have r2 : rd (ints (idealsN p)) (j : Int) = (u : Int) := by rw [rd_ints, hu]
  have g1 := top_impl p (s : Int)
  rw [show topV p (s : Int) = (((topN p s : Nat) : Int), true) from of_yes hp hsm.1] at g1
  have g2 := dn_impl p ((topN p s : Nat) : Int)
  rw [show dnV p ((topN p s : Nat) : Int) = (((closeN p (topN p s) : Nat) : Int), true) from of_yes hp (topN_lt (p := p) hsm.1), close_top hp hsm.1 hsm.2] at g2
  refine Ev.step (by intro k; simp only [laws_FnIdealsAndAntichains.l0]; rfl) (Ev.yes (by rw [ints_len]; omega) (Ev.yes (by omega) (Ev.yes (by rw [ints_len]; omega) ?_)))
  rw [r1]
  refine Ev.bind g1 (Ev.bind g2 (Ev.bind hnum (Ev.no (by rw [ints_len]; exact hz) ?_)))
  rw [e1, r2, wid1 hi (by omega)]
  refine Ev.yes (Int.natCast_nonneg _) (Ev.yes (by rw [ints_len]; exact Int.ofNat_lt.2 hj) (Ev.yes rfl (Ev.bind (nHas_ev (l := antisN p) (by omega) (mem_antisN.2 ⟨topN_lt hsm.1, top_top hp hsm.1⟩)) (Ev.yes rfl (Ev.yes rfl (Ev.yes rfl ?_))))))
  rw [bits_orN (lt_pow hsm.1 (by omega)) (lt_pow hum.1 (by omega)), bits_andN (lt_pow hsm.1 (by omega)) (lt_pow hum.1 (by omega))]
  refine Ev.bind (nHas_ev (l := idealsN p) (by omega) (mem_idealsN.2 ⟨or_lt hsm.1 hum.1, union_ideal hsm.2 hum.2⟩)) (Ev.yes rfl (Ev.bind (nHas_ev (l := idealsN p) (by omega) (mem_idealsN.2 ⟨Nat.lt_of_le_of_lt Nat.and_le_left hsm.1, meet_ideal hsm.2 hum.2⟩)) (Ev.yes rfl ?_)))
  cases i with
  | zero => exact Ev.no (by omega) ih
  | succ i =>
   have e3 : wrap64 (((i + 1 : Nat) : Int) - 1) = (i : Int) := by rw [wid (by omega) (by omega)]; omega
   rw [e3]
   refine Ev.yes (by omega) (Ev.yes (by omega) (Ev.yes (by rw [ints_len]; omega) ?_))
   have hlt : (idealsN p).getD i 0 < s := by
    have := List.pairwise_iff_getElem.1 (ideals_sorted p) i (i + 1) (by omega) hi (by omega)
    rw [← hs, List.getD_eq_getElem?_getD, List.getD_eq_getElem?_getD, List.getElem?_eq_getElem (show i < (idealsN p).length by omega), List.getElem?_eq_getElem hi]
    exact this
   rw [rd_ints]
   exact Ev.no (by omega) ih
theorem FnIdealsAndAntichains : laws_FnIdealsAndAntichains.Pure := by
 intro l0 l1 h0 b0 h1 b1
 have hb0 : bytesL l0 := fun n hn => by
  have := b0 n hn
  simp only [Lit.wf, Bool.and_eq_true, decide_eq_true_eq] at this
  exact this
 have hb1 : bytesL l1 := fun n hn => by
  have := b1 n hn
  simp only [Lit.wf, Bool.and_eq_true, decide_eq_true_eq] at this
  exact this
 refine Ev.rounds (g := fun k => laws_FnIdealsAndAntichains.f k l0 l1) ?_
 unfold laws_FnIdealsAndAntichains.f
 rcases big_or l0 l1 with hbig | ⟨hbig, _, hl1⟩
 ·exact Ev.call hbig (Ev.yes rfl (Ev.now _))
 refine Ev.call hbig (Ev.no Bool.false_ne_true ?_)
 obtain ⟨p, d1⟩ := drawIs_ok hb0
 have no : ∀ b : Bool, ¬ (b != b) = true := fun b => by rw [hne']; exact Bool.false_ne_true
 have cnt : Ev (fun k => impl_CountIdeals.f k p) (((idV p).1.length : Int), (idV p).2) := by
  unfold impl_CountIdeals.f
  exact Ev.bind (ids_impl p) (Ev.now _)
 have hil : (idV p).1.length ≤ 1024 := by
  unfold idV
  split
  ·rename_i h
   rw [ints_len]; exact Nat.le_trans (idealsN_len p) (small10 ((isPo_iff p).1 h).small)
  ·exact Nat.zero_le _
 have hal : (anV p).1.length ≤ 1024 := by
  unfold anV
  split
  ·rename_i h
   rw [ints_len]; exact Nat.le_trans (antis_len_le p) (small10 ((isPo_iff p).1 h).small)
  ·exact Nat.zero_le _
 refine Ev.bind d1 (Ev.bind (ids_impl p) (Ev.bind (ids_spec p) (Ev.bind (anti_impl p) (Ev.bind (anti_spec p) (Ev.bind cnt ?_)))))
 refine Ev.no (no _) (Ev.bind (nSame_refl (a := (idV p).1) (by omega)) (Ev.yes rfl (Ev.no (no _) (Ev.bind (nSame_refl (a := (anV p).1) (by omega)) (Ev.yes rfl ?_)))))
 rw [idV_snd, anV_snd]
 refine Ev.no (no _) (Ev.no (no _) (Ev.bind (IsPoset_ev p) (Ev.no (no _) (Ev.bind (a := isPo p) ?_ ?_))))
 ·unfold spec_IsPoset.f
  exact Ev.bind (poGood_ev p) (Ev.now _)
 rw [hne']
 refine Ev.step (by intro k; simp only [laws_FnIdealsAndAntichains.j0]; rfl) (Ev.no Bool.false_ne_true ?_)
 cases hpo : isPo p with
 | false => exact Ev.no Bool.false_ne_true (j3_law hb1)
 | true =>
  have hp := (isPo_iff p).1 hpo
  have hn := hp.small
  have e1 : (idV p).1 = ints (idealsN p) := by unfold idV; rw [if_pos hpo]
  have e2 : (anV p).1 = ints (antisN p) := by unfold anV; rw [if_pos hpo]
  rw [e1] at hil ⊢
  rw [e2]
  rw [ints_len] at hil
  have hpos : 0 < (idealsN p).length := List.length_pos_of_mem (zero_mem p)
  have hw : wrap64 (((ints (idealsN p)).length : Int) - 1) = (((idealsN p).length - 1 : Nat) : Int) := by rw [ints_len, wid (by omega) (by omega)]; omega
  refine Ev.yes (by first | trivial | rfl) (Ev.yes (by rw [ints_len, ints_len, antis_len hp]) (Ev.yes (by first | trivial | rfl) (Ev.yes (by rw [ints_len]; omega) (Ev.yes ?_ ?_))))
  ·have := rd_ints (idealsN p) 0
   rw [ideals_first] at this
   exact this
  rw [hw]
  refine Ev.yes (by omega) (Ev.yes (by rw [ints_len]; omega) ?_)
  have e3 : (rd (ints (idealsN p)) (((idealsN p).length - 1 : Nat) : Int) != wrap64 ((shl .i64 1 (p.length : Int)) - 1)) = false := by
   rw [rd_ints, ideals_last hp, mask_eq (by omega), pow_int]
   have := Nat.two_pow_pos p.length
   have e : ((2 ^ p.length : Nat) : Int) - 1 = ((allN p : Nat) : Int) := by unfold allN; omega
   rw [e, bne_self_eq_false]
  rw [e3]
  refine Ev.step (by intro k; simp only [laws_FnIdealsAndAntichains.j1]; rfl) (Ev.no Bool.false_ne_true ?_)
  exact loop_law hb1 hl1 hp 0 (Nat.zero_le _)
end Go.Proofs.Ytonfifhoklaliaa.Q
end
