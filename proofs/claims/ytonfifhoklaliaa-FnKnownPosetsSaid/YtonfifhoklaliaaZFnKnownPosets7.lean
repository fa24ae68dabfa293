/- Part 7 of the texts below the row of FnKnownPosets: printed functions with their contracts, and plain lemmas. No condition. -/
import Derived.Test.YtonfifhoklaliaaZFnKnownPosets6
import Derived.SizedLaws
import Derived.ChangeSlices
import Derived.WalkKit
import Derived.ProofKit
import Derived.OpenShut
import Derived.Lib.SmallJoins
import Derived.Deep.Matrix
section
section
namespace Go.Proofs.YtonfifhoklaliaaW.PrintWords
open Go.ChangeShapes Go.WideShapes
theorem sized_ints {H : Type} {enc : TypeId × Value → H} {P : Program} {W : World} {base : Nat} {spare : Nat → Bool} {held : Bool} {t e : TypeId} {k : IntKind} {a : Option Addr} {len cap : Nat} {d : DataW H} {ps : List MemPlace} {ts : List TypeId} {ds : List (DataW H)} {j : Nat}
 (hsz : (DataW.weightsEach P ts ds).all (· ≤ reachBytes) = true) (ht : ts[j]? = some t) (hd : ds[j]? = some d) (hu : P.underlying t = some (.slice e)) (he : P.underlying e = some (.int k)) (hc : P.cellsOf e = 1) {B : Nat} (hB : P.bytesOf e = B)
 (h : DataW.Trod enc P W base spare held t (.slice a len cap) d ps) : len * B ≤ 140737488351232 := by
 obtain ⟨fuel, hf⟩ := h
 rcases open_ints hu he hc hf with ⟨hcs, _⟩ | ⟨x, l, c, zs, hcs, _, hl, _, hz, hx, _, _⟩
 ·simp [Value.cells] at hcs
  obtain ⟨rfl, rfl, rfl⟩ := hcs
  simp
 ·simp [Value.cells] at hcs
  obtain ⟨rfl, rfl, rfl⟩ := hcs
  obtain ⟨hx, _⟩ := Prod.mk.inj hx
  subst hx
  have z := sized_slice hsz ht hd hu
  rw [hB] at z
  have hl2 : len ≤ zs.length := by
   rw [hz]
   split
   ·exact hl
   ·exact Nat.le_refl _
  have h1 : (lits (H := H) k (zs.take len)).length + (lits (H := H) k (zs.drop len)).length = zs.length := by
   simp [lits]
   omega
  rw [h1] at z
  exact Nat.le_trans (Nat.mul_le_mul_right _ hl2) z
end Go.Proofs.YtonfifhoklaliaaW.PrintWords
end
end

section
namespace Go.Proofs.YtonfifhoklaliaaW.RowKit
open Go.ChangeShapes Go.WideShapes Go.Deep Go.RowKit Go.Proofs.YtonfifhoklaliaaW.PrintWords
variable {H : Type} {enc : TypeId × Value → H} {P : Program} {w : World} {base : Nat} {held : Bool}
structure PxInts (w : World) (k : IntKind) (A : Option Addr) (c : Nat) (l : List Int) : Prop where
 le : l.length ≤ c
 c : Kd.C (Kd.int k) w A l.length l
 m : l.length ≤ maxLen
 wf : ∀ n ∈ l, (Lit.int k n).wf = true
theorem ints_of {t e : TypeId} {k : IntKind} {fuel : Nat} {cs : List Value} {x : DataW H × List MemPlace} (ht : P.underlying t = some (.slice e)) (he : P.underlying e = some (.int k)) (hc : P.cellsOf e = 1)
 (h : DataW.trod enc P w base (fun _ => true) held fuel t cs = some x) : ∃ A c l, cs = [.slice A (List.length l) c] ∧ PxInts w k A c l := by
 rcases open_ints ht he hc h with ⟨hcs, _⟩ | ⟨a, len, cap, zs, hcs, _, hl, hm, hz, _, hcell, hwz⟩
 ·obtain ⟨l, e1, h1, h2, h3, h4⟩ := ReadsInt.ofRowC (k := k) (w := w) (a := none) (len := 0) (cap := 0) (zs := []) (.inl ⟨rfl, rfl, rfl, rfl⟩)
  exact ⟨none, 0, l, by rw [hcs, ← e1], h4, Kd.C_of_reads (d := (0 : Int)) (h1 := fun _ => rfl) h1, h2, h3⟩
 ·obtain ⟨l, e1, h1, h2, h3, h4⟩ := ReadsInt.ofRowC (k := k) (w := w) (a := some a) (len := len) (cap := cap) (zs := zs) (.inr ⟨_, rfl, hl, hm, by simpa using hz, hcell, hwz⟩)
  exact ⟨some a, cap, l, by rw [hcs, ← e1], h4, Kd.C_of_reads (d := (0 : Int)) (h1 := fun _ => rfl) h1, h2, h3⟩
theorem open_sl {r : Reach} {b0 : Nat} {t e : TypeId} {k : IntKind} {v : Value} {d : DataW H} {p : List MemPlace} (ht : P.underlying t = some (.slice e)) (he : P.underlying e = some (.int k)) (hc : P.cellsOf e = 1)
 (hv : Value.okWide P w r b0 t v) (h : DataW.Trod enc P w base (fun _ => true) held t v d p) : ∃ A c l, v = .slice A (List.length l) c ∧ PxInts w k A c l := by
 obtain ⟨a, len, cap, rfl⟩ := okWide_slice ht hv
 obtain ⟨fuel, hf⟩ := h
 obtain ⟨A, c, l, hcs, hi⟩ := ints_of ht he hc hf
 simp [Value.cells] at hcs
 obtain ⟨rfl, rfl, rfl⟩ := hcs
 exact ⟨_, _, l, rfl, hi⟩
theorem open_st {r : Reach} {b0 : Nat} {t q e : TypeId} {k : IntKind} {f0 : Field} {v : Value} {d : DataW H} {p : List MemPlace} (hs : P.underlying t = some (.struct #[f0])) (hone : oneCellFields P #[f0] = true) (hC : P.cellsOf t = 1)
 (hq : f0.type = q) (ht : P.underlying q = some (.slice e)) (he : P.underlying e = some (.int k)) (hc : P.cellsOf e = 1)
 (hv : Value.okWide P w r b0 t v) (h : DataW.Trod enc P w base (fun _ => true) held t v d p) : ∃ A c l, v = .agg #[.slice A (List.length l) c] ∧ PxInts w k A c l := by
 subst hq
 obtain ⟨cs, rfl, hsz⟩ := okWide_struct hs hv
 obtain ⟨c0, rfl⟩ : ∃ c0, cs = #[c0] := by
  obtain ⟨l⟩ := cs
  match l, hsz.trans hC with
  | [c0], _ => exact ⟨c0, rfl⟩
 obtain ⟨fuel, hf⟩ := h
 obtain ⟨y0, n, _, _, h0⟩ := trod_struct1 hs hf
 obtain ⟨o0, k0⟩ := Go.Deep.hone_of hone 0 f0 rfl
 obtain ⟨A, c, l, hcs, hi⟩ := ints_of ht he hc (by simpa [Value.cells, o0, k0] using h0 : DataW.trod enc P w base (fun _ => true) held n f0.type [c0] = some y0)
 simp at hcs
 subst hcs
 exact ⟨A, c, l, rfl, hi⟩
structure PxRows (w : World) (k : IntKind) (q : TypeId) (A : Option Addr) (c : Nat) (l : List (List Int)) : Prop where
 le : l.length ≤ c
 c : Kd.C (Kd.slice q (Kd.int k)) w A l.length l
 m : l.length ≤ maxLen
 m2 : ∀ r ∈ l, r.length ≤ maxLen
 wf : ∀ r ∈ l, ∀ n ∈ r, (Lit.int k n).wf = true
theorem open_ss {r : Reach} {b0 : Nat} {t e q : TypeId} {k : IntKind} {v : Value} {d : DataW H} {p : List MemPlace} (ht : P.underlying t = some (.slice e)) (he : P.underlying e = some (.slice q)) (hq : P.underlying q = some (.int k))
 (ce : P.cellsOf e = 1) (cq : P.cellsOf q = 1)
 (hv : Value.okWide P w r b0 t v) (h : DataW.Trod enc P w base (fun _ => true) held t v d p) : ∃ A c l, v = .slice A (List.length l) c ∧ PxRows w k q A c l := by
 obtain ⟨a, len, cap, rfl⟩ := okWide_slice ht hv
 obtain ⟨fuel, hf⟩ := h
 rcases Go.Deep.open_int_rows ht he hq ce cq hf with ⟨hcs, _⟩ | ⟨x, len', cap', AA, L, C, Z, hcs, _, hl, hm, _, hr⟩
 ·simp [Value.cells] at hcs
  obtain ⟨rfl, rfl, rfl⟩ := hcs
  exact ⟨none, 0, [], rfl, Nat.le_refl _, ⟨rfl, Nat.zero_le _, fun h => absurd h (Nat.lt_irrefl _)⟩, Nat.zero_le _, (fun _ h => by cases h), (fun _ h => by cases h)⟩
 ·simp [Value.cells] at hcs
  obtain ⟨rfl, rfl, rfl⟩ := hcs
  have each : ∀ r, r < cap → PxInts w k (AA r) (C r) ((Z r).take (L r)) ∧ L r = ((Z r).take (L r)).length := by
   intro r hrc
   obtain ⟨_, h1, h2, h3, h4, h5, h6⟩ := hr r hrc
   have hz : ((Z r).take (L r)).length = L r := by rw [List.length_take]; omega
   refine ⟨⟨by omega, ⟨by rfl, by unfold maxLen at h2; omega, fun hp => ?_⟩, by omega, fun n hn => h4 n (List.mem_of_mem_take hn)⟩, hz.symm⟩
   cases ha : AA r with
   | none => have := h5 ha; omega
   | some ad =>
    refine ⟨ad, rfl, fun j p hj => ⟨[.int k p], rfl, rfl, fun i u hu => ?_⟩⟩
    have hj1 := (List.getElem?_eq_some_iff.1 hj).1
    have hjl : j < L r := by omega
    cases i with
    | succ i => simp at hu
    | zero =>
     simp at hu
     subst hu
     have := (h6 ad ha).2 j (by omega)
     rw [List.getD_eq_getElem?_getD, ← List.getElem?_take_of_lt hjl, hj] at this
     have e1 : j * (Kd.int k).sz + 0 = j := by show j * 1 + 0 = j; omega
     rw [e1]
     exact this
  refine ⟨some x, cap, (List.range len).map (fun r => (Z r).take (L r)), by simp, ⟨by simpa using hl, ⟨by simp, ?_, fun hp => ⟨x, rfl, fun j p hj => ?_⟩⟩, by simp; omega, ?_, ?_⟩⟩
  ·simp; unfold maxLen at hm; omega
  ·simp only [List.getElem?_map, Option.map_eq_some_iff] at hj
   obtain ⟨r, hr1, rfl⟩ := hj
   obtain ⟨hr2, hr3⟩ := List.getElem?_eq_some_iff.1 hr1
   simp at hr2 hr3
   subst hr3
   obtain ⟨hi, hL⟩ := each j (by omega)
   refine ⟨[.slice (AA j) ((Z j).take (L j)).length (C j)], rfl, ⟨AA j, C j, rfl, hi.le, hi.c⟩, fun i u hu => ?_⟩
   cases i with
   | succ i => simp at hu
   | zero =>
    simp only [List.getElem?_cons_zero, Option.some.injEq] at hu
    subst hu
    have e1 : j * (Kd.slice q (Kd.int k)).sz + 0 = j := by show j * 1 + 0 = j; omega
    rw [e1, ← hL]
    exact (hr j (by omega)).1
  ·intro r hr1
   obtain ⟨j, hj, rfl⟩ := List.mem_map.1 hr1
   rw [List.mem_range] at hj
   exact (each j (by omega)).1.m
  ·intro r hr1
   obtain ⟨j, hj, rfl⟩ := List.mem_map.1 hr1
   rw [List.mem_range] at hj
   exact (each j (by omega)).1.wf
end Go.Proofs.YtonfifhoklaliaaW.RowKit
end

section
namespace Go.Proofs.Ytonfifhoklaliaa.F
open Go.RowKit Go.Proofs.YtonfifhoklaliaaW.PrintWords Go.Proofs.YtonfifhoklaliaaW.PrintLast Go.Proofs.YtonfifhoklaliaaW.PrintMore Go.Proofs.YtonfifhoklaliaaW.RowKit
set_option linter.unusedVariables false
def laws_FnKnownPosets.Pure : Prop := ∀ (l0 : List Int) (l1 : List Int), l0.length ≤ maxLen → (∀ n ∈ l0, (Lit.int .u8 n).wf = true) → l1.length ≤ maxLen → (∀ n ∈ l1, (Lit.int .u8 n).wf = true) → ∃ k, laws_FnKnownPosets.f k l0 l1 = some true
theorem laws_FnKnownPosets.walk (P : laws_FnKnownPosets.Pure) (A0 : Option Addr) (c0 : Nat) (l0 : List Int) (A1 : Option Addr) (c1 : Nat) (l1 : List Int) (w : World) (i0 : PxInts w .u8 A0 c0 l0) (i1 : PxInts w .u8 A1 c1 l1) :
 Calls Try.prog 3 #[.slice A0 l0.length c0, .slice A1 l1.length c1] w fun e w' => e = .returned (.bool true) ∧ Below w.heap.size w w' := by
 obtain ⟨k, h⟩ := P l0 l1 i0.m i0.wf i1.m i1.wf
 refine (laws_FnKnownPosets.calls k _ _ l0 _ _ l1 true w i0.c i0.le i1.c i1.le h).mono ?_
 rintro e w' ⟨rfl, hd⟩
 exact ⟨rfl, hd⟩
end Go.Proofs.Ytonfifhoklaliaa.F
end

section
namespace Go.Proofs.Ytonfifhoklaliaa.Q
open Go.RowKit Go.Proofs.YtonfifhoklaliaaW.PrintWords Go.Proofs.Ytonfifhoklaliaa.F
set_option linter.unusedVariables false
theorem cAt_0 : cAt 0 0 := ⟨Int.le_refl _, Int.le_refl _⟩
theorem hne' (b : Bool) : (b != b) = false := by cases b <;> rfl
def fenceL : List Int := [1, 2, 3, 4, 5, 8, 10, 11, 0]
def stairL : List Int := [1, 2, 3, 4, 5, 0, -1]
theorem drawF_ok {l : List Int} (hl : bytesL l) : ∃ t, Ev (fun k => spec_DrawFence.f k l) t ∧ t ∈ fenceL := by
 obtain ⟨x, a, s, e, _, h⟩ := among_ok hl 0 cAt_0 (by omega) (m := fenceL) (by decide)
 refine ⟨x, ⟨0, fun k _ => ?_⟩, h⟩
 show spec_DrawFence.f k l = some x
 unfold spec_DrawFence.f spec_DrawFenceR.f
 have e' : spec_l1Cur_among.f l 0 0 ([1, 2, 3, 4, 5, 8, 10, 11, 0] : List Int) = some (x, a, s) := e
 rw [e']; rfl
theorem drawS_ok {l : List Int} (hl : bytesL l) : ∃ t, Ev (fun k => spec_DrawStaircase.f k l) t ∧ t ∈ stairL := by
 obtain ⟨x, a, s, e, _, h⟩ := among_ok hl 0 cAt_0 (by omega) (m := stairL) (by decide)
 refine ⟨x, ⟨0, fun k _ => ?_⟩, h⟩
 show spec_DrawStaircase.f k l = some x
 unfold spec_DrawStaircase.f spec_DrawStaircaseR.f
 have e' : spec_l1Cur_among.f l 0 0 ([1, 2, 3, 4, 5, 0, (-1)] : List Int) = some (x, a, s) := e
 rw [e']; rfl
theorem drawR_ok {l : List Int} (hl : bytesL l) : ∃ a b, Ev (fun k => spec_DrawRectangle.f k l) (a, b) := by
 obtain ⟨x, a, s, e, h1, _⟩ := among_ok hl 0 cAt_0 (by omega) (m := ([1, 2, 3, 4, 5, 10, 11, 0, 4611686018427387904] : List Int)) (by decide)
 obtain ⟨y, a2, s2, e2, _, _⟩ := among_ok hl s h1 (by omega) (m := ([1, 2, 3, 5, 10, 0, (-1), 4611686018427387904] : List Int)) (by decide)
 refine ⟨x, y, ⟨0, fun k _ => ?_⟩⟩
 show spec_DrawRectangle.f k l = some (x, y)
 unfold spec_DrawRectangle.f spec_DrawRectangleR.f
 rw [e]
 simp only [Option.bind_some]
 rw [e2]; rfl
theorem drawH_ok {l : List Int} (hl : bytesL l) : ∃ p, Ev (fun k => spec_DrawHeightsOf.f k l) p := by
 obtain ⟨p, a, s, e, h1, h2, h3⟩ := poset_ok hl 0 (most := 10) (by omega) (by omega) cAt_0 (by omega)
 refine ⟨p, ?_⟩
 unfold spec_DrawHeightsOf.f
 refine Ev.bind (a := p) ?_ (Ev.now _)
 unfold spec_DrawIsPoset.f spec_DrawIsPosetR.f
 exact Ev.bind (Ev.bind e (Ev.now _)) (Ev.now _)
def htV (p : List Int) : List Int × Bool := if isPo p = true then (ints (hgo p p.length), true) else ([], false)
theorem ht_impl (p : List Int) : Ev (fun k => impl_HeightsOf.f k p) (htV p) := by
 unfold impl_HeightsOf.f htV
 refine Ev.bind (IsPoset_ev p) ?_
 cases hpo : isPo p with
 | false => exact Ev.no (by simp) (Ev.now _)
 | true => exact Ev.yes rfl (Ev.bind (heights_ev ((isPo_iff p).1 hpo)) (Ev.now _))
theorem ht_spec (p : List Int) : Ev (fun k => spec_HeightsOf.f k p) (htV p) := by
 unfold spec_HeightsOf.f htV
 refine Ev.bind (poGood_ev p) ?_
 cases hpo : isPo p with
 | false => exact Ev.no (by simp) (Ev.now _)
 | true => exact Ev.yes rfl (Ev.bind (poHeights_ev ((isPo_iff p).1 hpo)) (Ev.now _))
theorem count_ids {p : List Int} (hp : PO p) : Ev (fun k => impl_CountIdeals.f k p) (((idealsN p).length : Int), true) := by
 unfold impl_CountIdeals.f
 refine Ev.bind (a := (ints (idealsN p), true)) ?_ (Ev.ret (by rw [ints_len]))
 unfold impl_IdealsOf.f
 refine Ev.bind (IsPoset_ev p) ?_
 rw [(isPo_iff p).2 hp]
 exact Ev.yes rfl (Ev.bind (ideals_ev hp) (Ev.now _))
theorem nPoset_refl {p : List Int} (h : p.length ≤ 1000) : Ev (fun k => laws_nPoset.f k p p) true := by
 unfold laws_nPoset.f
 exact Ev.bind (nSame_refl (by omega)) (Ev.now _)
theorem j10_law {l1 : List Int} (h1 : bytesL l1) : Ev (fun k => laws_FnKnownPosets.j10 k l1) true := by
 obtain ⟨p, d⟩ := drawH_ok h1
 have hl : (htV p).1.length ≤ 10 := by
  unfold htV
  split
  ·rename_i h; rw [ints_len, hgo_len]; exact ((isPo_iff p).1 h).small
  ·exact Nat.zero_le _
 refine Ev.step (by intro k; simp only [laws_FnKnownPosets.j10]; rfl) ?_
 refine Ev.bind d (Ev.bind (ht_impl p) (Ev.bind (ht_spec p) (Ev.bind (ranked_impl (IsPoset_ev p)) (Ev.bind (a := rkV p) ?_ ?_))))
 ·unfold spec_IsRanked.f
  exact ranked_spec (poGood_ev p)
 ·exact Ev.yes (by simp) (Ev.bind (nSame_refl (a := (htV p).1) (by omega)) (Ev.yes rfl (Ev.yes (by simp) (Ev.ret (by simp)))))
def fl : Nat → Int → Int → Int
 | 0, _, y => y
 | d + 1, x, y => fl d y (wrap64 (x + y))
theorem l3_law {l1 : List Int} (h1 : bytesL l1) {t c : Int} (ht : t ≤ 1000) : ∀ (d : Nat) (x y k0 : Int), 0 ≤ k0 → (d : Int) = max 0 (t - k0) → c = fl d x y → Ev (fun k => laws_FnKnownPosets.l3 k l1 t c true x y k0) true
 | 0, x, y, k0, h0, hd, hc => by
  refine Ev.step (by intro k; simp only [laws_FnKnownPosets.l3]; rfl) (Ev.no (by omega) (Ev.yes (c := true = true) rfl (Ev.yes hc (j10_law h1))))
 | d + 1, x, y, k0, h0, hd, hc => by
  refine Ev.step (by intro k; simp only [laws_FnKnownPosets.l3]; rfl) (Ev.yes (by omega) ?_)
  rw [wid (n := k0 + 1) (by omega) (by omega)]
  exact l3_law h1 ht d y (wrap64 (x + y)) (k0 + 1) (by omega) (by omega) hc
def okF (t : Int) : Option (List Int × Bool) → Option (List Int × Bool) → Bool
 | some (p, u), some (q, v) => (p == q && u == v && decide (p.length ≤ 10)) && (!u || (isPo p && decide (((idealsN p).length : Int) = fl (t - 1).toNat 1 2)))
 | _, _ => false
theorem allF : fenceL.all (fun t => okF t (impl_Fence.f 400 t) (spec_Fence.f 400 t)) = true := by decide +kernel
theorem okF_parts {t : Int} {o1 o2 : Option (List Int × Bool)} (h : okF t o1 o2 = true) : ∃ p u, o1 = some (p, u) ∧ o2 = some (p, u) ∧ p.length ≤ 10 ∧ (u = true → PO p ∧ ((idealsN p).length : Int) = fl (t - 1).toNat 1 2) := by
 cases o1 with
 | none => simp [okF] at h
 | some a =>
  cases o2 with
  | none => simp [okF] at h
  | some b =>
   obtain ⟨p, u⟩ := a
   obtain ⟨q, v⟩ := b
   simp only [okF, Bool.and_eq_true, beq_iff_eq, decide_eq_true_eq] at h
   obtain ⟨⟨⟨rfl, rfl⟩, hl⟩, h2⟩ := h
   refine ⟨p, u, rfl, rfl, hl, fun hu => ?_⟩
   subst hu
   simpa [isPo_iff] using h2
theorem j7_law {l1 : List Int} (h1 : bytesL l1) : Ev (fun k => laws_FnKnownPosets.j7 k l1) true := by
 obtain ⟨t, d, ht⟩ := drawF_ok h1
 obtain ⟨p, u, e1, e2, hl, hu⟩ := okF_parts (List.all_eq_true.1 allF t ht)
 have ht2 : t ≤ 11 := by
  unfold fenceL at ht
  simp only [List.mem_cons, List.mem_nil_iff, or_false] at ht
  omega
 refine Ev.step (by intro k; simp only [laws_FnKnownPosets.j7]; rfl) ?_
 refine Ev.bind d (Ev.bind (Ev.of (impl_Fence.mono _) e1) (Ev.bind (Ev.of (spec_Fence.mono _) e2) (Ev.no (by rw [hne']; exact Bool.false_ne_true) (Ev.bind (nPoset_refl (p := p) (by omega)) ?_))))
 show Ev (fun k => laws_FnKnownPosets.j8 k l1 t u false p) true
 refine Ev.step (by intro k; simp only [laws_FnKnownPosets.j8]; rfl) (Ev.no Bool.false_ne_true ?_)
 cases u with
 | false => exact Ev.no Bool.false_ne_true (j10_law h1)
 | true =>
  obtain ⟨hp, hc⟩ := hu rfl
  refine Ev.yes (by first | trivial | rfl) (Ev.bind (count_ids hp) ?_)
  exact l3_law h1 (by omega) (t - 1).toNat 1 2 1 (by omega) (by omega) hc
def sl : Nat → Int → Int → Int
 | 0, _, x => x
 | d + 1, i, x => sl d (wrap64 (i + 1)) (wrap64 (Int.tdiv (wrap64 ((wrap64 (x * 2)) * (wrap64 ((wrap64 (2 * i)) + 1)))) (wrap64 (i + 2))))
theorem l2_law {l1 p : List Int} (h1 : bytesL l1) {t c : Int} (ht : t ≤ 1000) (hp : (p.length : Int) = wrap64 (Int.tdiv (wrap64 (t * (wrap64 (t + 1)))) 2)) : ∀ (d : Nat) (x i : Int), 0 ≤ i → (d : Int) = max 0 (t + 1 - i) → c = sl d i x → Ev (fun k => laws_FnKnownPosets.l2 k l1 t c true x i p) true
 | 0, x, i, h0, hd, hc => by
  refine Ev.step (by intro k; simp only [laws_FnKnownPosets.l2]; rfl) (Ev.no (by omega) (Ev.yes (c := true = true) rfl (Ev.yes hc (Ev.yes hp (j7_law h1)))))
 | d + 1, x, i, h0, hd, hc => by
  refine Ev.step (by intro k; simp only [laws_FnKnownPosets.l2]; rfl) (Ev.yes (by omega) (Ev.no (by rw [wid (by omega) (by omega)]; omega) ?_))
  unfold sl at hc
  have e : wrap64 (i + 1) = i + 1 := wid (by omega) (by omega)
  have ih := l2_law (p := p) (c := c) h1 ht hp d (wrap64 (Int.tdiv (wrap64 ((wrap64 (x * 2)) * (wrap64 ((wrap64 (2 * i)) + 1)))) (wrap64 (i + 2)))) (wrap64 (i + 1)) (by omega) (by omega) hc
  exact ih
def okT (t : Int) : Option (List Int × Bool) → Option (List Int × Bool) → Bool
 | some (p, u), some (q, v) => (p == q && u == v && decide (p.length ≤ 10)) && (!u || (isPo p && (decide (((idealsN p).length : Int) = sl (t + 1).toNat 0 1) && decide ((p.length : Int) = wrap64 (Int.tdiv (wrap64 (t * (wrap64 (t + 1)))) 2)))))
 | _, _ => false
theorem allT : stairL.all (fun t => okT t (impl_Staircase.f 200 t) (spec_Staircase.f 200 t)) = true := by decide +kernel
theorem okT_parts {t : Int} {o1 o2 : Option (List Int × Bool)} (h : okT t o1 o2 = true) : ∃ p u, o1 = some (p, u) ∧ o2 = some (p, u) ∧ p.length ≤ 10 ∧ (u = true → PO p ∧ ((idealsN p).length : Int) = sl (t + 1).toNat 0 1 ∧ (p.length : Int) = wrap64 (Int.tdiv (wrap64 (t * (wrap64 (t + 1)))) 2)) := by
 cases o1 with
 | none => simp [okT] at h
 | some a =>
  cases o2 with
  | none => simp [okT] at h
  | some b =>
   obtain ⟨p, u⟩ := a
   obtain ⟨q, v⟩ := b
   simp only [okT, Bool.and_eq_true, beq_iff_eq, decide_eq_true_eq] at h
   obtain ⟨⟨⟨rfl, rfl⟩, hl⟩, h2⟩ := h
   refine ⟨p, u, rfl, rfl, hl, fun hu => ?_⟩
   subst hu
   simpa [isPo_iff] using h2
theorem j4_law {l1 : List Int} (h1 : bytesL l1) : Ev (fun k => laws_FnKnownPosets.j4 k l1) true := by
 obtain ⟨t, d, ht⟩ := drawS_ok h1
 obtain ⟨p, u, e1, e2, hl, hu⟩ := okT_parts (List.all_eq_true.1 allT t ht)
 have ht2 : -1 ≤ t ∧ t ≤ 5 := by
  unfold stairL at ht
  simp only [List.mem_cons, List.mem_nil_iff, or_false] at ht
  omega
 refine Ev.step (by intro k; simp only [laws_FnKnownPosets.j4]; rfl) ?_
 refine Ev.bind d (Ev.bind (Ev.of (impl_Staircase.mono _) e1) (Ev.bind (Ev.of (spec_Staircase.mono _) e2) (Ev.no (by rw [hne']; exact Bool.false_ne_true) (Ev.bind (nPoset_refl (p := p) (by omega)) ?_))))
 show Ev (fun k => laws_FnKnownPosets.j5 k l1 t u false p) true
 refine Ev.step (by intro k; simp only [laws_FnKnownPosets.j5]; rfl) (Ev.no Bool.false_ne_true ?_)
 cases u with
 | false => exact Ev.no Bool.false_ne_true (j7_law h1)
 | true =>
  obtain ⟨hp, hc, hlen⟩ := hu rfl
  refine Ev.yes (by first | trivial | rfl) (Ev.bind (count_ids hp) ?_)
  exact l2_law h1 (by omega) hlen (t + 1).toNat 1 0 (by omega) (by omega) hc
def wl (b : Int) : Nat → Int → Int → Int
 | 0, _, x => x
 | d + 1, i, x => wl b d (wrap64 (i + 1)) (wrap64 (Int.tdiv (wrap64 (x * (wrap64 (b + i)))) i))
def okKp (a b : Nat) (p : List Int) : Bool := decide (((idealsN p).length : Int) = wl (b : Int) a 1 1) && (rkB p && (List.range p.length).all fun e => decide (((hgo p p.length).getD e 0 : Int) = wrap64 ((wrap64 (Int.tdiv (e : Int) (b : Int))) + (Int.tmod (e : Int) (b : Int)))))
def okKO (a b : Nat) : Option (List Int) → Bool
 | some p => okKp a b p
 | none => false
def okK (a b : Nat) : Bool := okKO a b (impl_rectangle.f 200 (a : Int) (b : Int))
theorem okK_parts {a b : Nat} {p : List Int} (hr : impl_rectangle.f 200 (a : Int) (b : Int) = some p) (h : okK a b = true) : ((idealsN p).length : Int) = wl (b : Int) a 1 1 ∧ rkB p = true ∧ ∀ e, e < p.length → ((hgo p p.length).getD e 0 : Int) = wrap64 ((wrap64 (Int.tdiv (e : Int) (b : Int))) + (Int.tmod (e : Int) (b : Int))) := by
 unfold okK at h
 rw [hr] at h
 simp only [okKO] at h
 unfold okKp at h
 rw [Bool.and_eq_true, Bool.and_eq_true, decide_eq_true_eq] at h
 exact ⟨h.1, h.2.1, fun e he => of_decide_eq_true (List.all_eq_true.1 h.2.2 e (List.mem_range.2 he))⟩
theorem allK : (List.range 11).all (fun a => (List.range 11).all fun b => a == 0 || b == 0 || decide (10 < a * b) || okK a b) = true := by decide +kernel
theorem l1_law {l1 : List Int} (h1 : bytesL l1) {b : Nat} (hb : 1 ≤ b) {p : List Int} (hp : PO p) (hh : ∀ e, e < p.length → ((hgo p p.length).getD e 0 : Int) = wrap64 ((wrap64 (Int.tdiv (e : Int) (b : Int))) + (Int.tmod (e : Int) (b : Int)))) :
 ∀ e, e ≤ p.length → Ev (fun k => laws_FnKnownPosets.l1 k l1 (b : Int) (ints (hgo p p.length)) (p.length : Int) (e : Int)) true := by
 have hn := hp.small
 refine downTo _ ?_ ?_
 ·exact Ev.step (by intro k; simp only [laws_FnKnownPosets.l1]; rfl) (Ev.no (by omega) (j4_law h1))
 ·intro e he ih
  refine Ev.step (by intro k; simp only [laws_FnKnownPosets.l1]; rfl) (Ev.yes (by omega) (Ev.yes (by omega) (Ev.yes (by rw [ints_len, hgo_len]; omega) (Ev.no (by omega) (Ev.yes ?_ ?_)))))
  ·rw [rd_ints]; exact hh e he
  ·rw [wid1 he (by omega)]; exact ih
theorem l0_law {l1 : List Int} {a b : Nat} {c : Int} {hs : List Int} (ha : a ≤ 1000) (tail : Ev (fun k => laws_FnKnownPosets.j2 k l1 (b : Int) hs false) true) : ∀ (d : Nat) (i : Nat) (x : Int), 1 ≤ i → i + d = a + 1 → c = wl (b : Int) d (i : Int) x → Ev (fun k => laws_FnKnownPosets.l0 k l1 (a : Int) (b : Int) c true true true hs true x (i : Int)) true
 | 0, i, x, h1, hd, hc => by
  refine Ev.step (by intro k; simp only [laws_FnKnownPosets.l0]; rfl) (Ev.no (by omega) (Ev.yes (c := true = true) rfl (Ev.yes hc (Ev.yes (c := true = true) rfl (Ev.yes (c := true = true) rfl tail)))))
 | d + 1, i, x, h1, hd, hc => by
  refine Ev.step (by intro k; simp only [laws_FnKnownPosets.l0]; rfl) (Ev.yes (by omega) (Ev.no (by omega) ?_))
  unfold wl at hc
  rw [wid1 (show i < a + 1 by omega) (by omega)] at hc ⊢
  exact l0_law ha tail d (i + 1) _ (by omega) (by omega) hc
theorem poSides_eq (a b : Int) : spec_poSides.f a b = some (decide (sidesOk a b)) := (show spec_poSides.f a b = impl_areSides.f a b 10 from rfl).trans (areSides_iff a b)
theorem FnKnownPosets : laws_FnKnownPosets.Pure := by
 intro l0 l1 h0 b0 h1 b1
 have hb0 : bytesL l0 := fun n hn => by
  have := b0 n hn
  simp only [Lit.wf, Bool.and_eq_true, decide_eq_true_eq] at this
  exact this
 have hb1 : bytesL l1 := fun n hn => by
  have := b1 n hn
  simp only [Lit.wf, Bool.and_eq_true, decide_eq_true_eq] at this
  exact this
 refine Ev.rounds (g := fun k => laws_FnKnownPosets.f k l0 l1) ?_
 unfold laws_FnKnownPosets.f
 rcases big_or l0 l1 with hbig | ⟨hbig, _, _⟩
 ·exact Ev.call hbig (Ev.yes rfl (Ev.now _))
 refine Ev.call hbig (Ev.no Bool.false_ne_true ?_)
 obtain ⟨a, b, d⟩ := drawR_ok hb0
 have no : ∀ b : Bool, ¬ (b != b) = true := fun b => by rw [hne']; exact Bool.false_ne_true
 by_cases h : sidesOk a b
 rotate_left
 ·have s : Ev (fun k => spec_Rectangle.f k a b) ([], false) := by
   unfold spec_Rectangle.f
   refine Ev.call (poSides_eq a b) ?_
   rw [decide_eq_false h]
   exact Ev.no (by simp) (Ev.now _)
  refine Ev.bind d (Ev.bind (Rectangle_no h) (Ev.bind s (Ev.no (no _) (Ev.bind (nPoset_refl (by simp)) ?_))))
  show Ev (fun k => laws_FnKnownPosets.j0 k l1 a b false false []) true
  exact Ev.step (by intro k; simp only [laws_FnKnownPosets.j0]; rfl) (Ev.no Bool.false_ne_true (Ev.no Bool.false_ne_true (j4_law hb1)))
 obtain ⟨n, m, p, rfl, rfl, n1, m1, n10, m10, hnm, hr, hp, hl⟩ := rect_impl h
 obtain ⟨n', m', q, en, em, _, _, _, _, _, hq1, hq2, _, _⟩ := rect_both h
 have hpi := Ev.of (impl_rectangle.mono _ _) hr
 have hpq : p = q := Ev.uniq hpi hq1
 obtain ⟨n2, m2, en2, em2, _, _, _, _, _, hk⟩ := sides_all allK h
 obtain rfl : n = n2 := by omega
 obtain rfl : m = m2 := by omega
 obtain ⟨k1, k2, hh⟩ := okK_parts hr hk
 clear hk
 have hps := hp.small
 have s : Ev (fun k => spec_Rectangle.f k (n : Int) (m : Int)) (p, true) := by
  unfold spec_Rectangle.f
  refine Ev.call (poSides_eq _ _) ?_
  rw [decide_eq_true h, hpq]
  exact Ev.yes rfl (Ev.bind hq2 (Ev.now _))
 refine Ev.bind d (Ev.bind (Rectangle_yes h hpi) (Ev.bind s (Ev.no (no _) (Ev.bind (nPoset_refl (p := p) (by omega)) ?_))))
 show Ev (fun k => laws_FnKnownPosets.j0 k l1 (n : Int) (m : Int) true false p) true
 refine Ev.step (by intro k; simp only [laws_FnKnownPosets.j0]; rfl) (Ev.no Bool.false_ne_true (Ev.yes (by first | trivial | rfl) ?_))
 have r1 := ranked_impl (IsPoset_ev p)
 rw [show rkV p = (true, true) by unfold rkV; rw [(isPo_iff p).2 hp, if_pos rfl, k2]] at r1
 have r2 := ht_impl p
 rw [show htV p = (ints (hgo p p.length), true) by unfold htV; rw [(isPo_iff p).2 hp, if_pos rfl]] at r2
 refine Ev.bind (count_ids hp) (Ev.bind r1 (Ev.bind r2 ?_))
 refine l0_law (by omega) ?_ n 1 1 (Nat.le_refl _) (by omega) k1
 refine Ev.step (by intro k; simp only [laws_FnKnownPosets.j2]; rfl) (Ev.no Bool.false_ne_true ?_)
 have := l1_law hb1 m1 hp hh 0 (Nat.zero_le _)
 rw [ints_len, hgo_len]
 exact this
end Go.Proofs.Ytonfifhoklaliaa.Q
end
