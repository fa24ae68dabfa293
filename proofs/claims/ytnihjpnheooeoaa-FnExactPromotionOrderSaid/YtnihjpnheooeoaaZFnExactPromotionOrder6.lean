/- Part 6 of the texts below the row of FnExactPromotionOrder: printed functions with their contracts, and plain lemmas. No condition. -/
import Derived.Test.YtnihjpnheooeoaaZFnExactPromotionOrder5
import Derived.SizedLaws
import Derived.ChangeSlices
import Derived.WalkKit
import Derived.ProofKit
import Derived.OpenShut
import Derived.Lib.SmallJoins
import Derived.Deep.Matrix
section
section
namespace Go.Proofs.YtnihjpnheooeoaaW.PrintWords
open Go.ChangeShapes Go.WideShapes
/-- A row's slice of whole numbers is no longer than its weight allows. -/
theorem sized_ints {H : Type} {enc : TypeId × Value → H} {P : Program} {W : World} {base : Nat} {spare : Nat → Bool} {held : Bool} {t e : TypeId} {k : IntKind} {a : Option Addr} {len cap : Nat} {d : DataW H} {ps : List MemPlace} {ts : List TypeId} {ds : List (DataW H)} {j : Nat}
    (hsz : (DataW.weightsEach P ts ds).all (· ≤ reachBytes) = true) (ht : ts[j]? = some t) (hd : ds[j]? = some d) (hu : P.underlying t = some (.slice e)) (he : P.underlying e = some (.int k)) (hc : P.cellsOf e = 1) {B : Nat} (hB : P.bytesOf e = B)
    (h : DataW.Trod enc P W base spare held t (.slice a len cap) d ps) : len * B ≤ 140737488351232 := by
  obtain ⟨fuel, hf⟩ := h
  rcases open_ints hu he hc hf with ⟨hcs, _⟩ | ⟨x, l, c, zs, hcs, _, hl, _, hz, hx, _, _⟩
  · simp [Value.cells] at hcs
    obtain ⟨rfl, rfl, rfl⟩ := hcs
    simp
  · simp [Value.cells] at hcs
    obtain ⟨rfl, rfl, rfl⟩ := hcs
    obtain ⟨hx, _⟩ := Prod.mk.inj hx
    subst hx
    have z := sized_slice hsz ht hd hu
    rw [hB] at z
    have hl2 : len ≤ zs.length := by
      rw [hz]
      split
      · exact hl
      · exact Nat.le_refl _
    have h1 : (lits (H := H) k (zs.take len)).length + (lits (H := H) k (zs.drop len)).length = zs.length := by
      simp [lits]
      omega
    rw [h1] at z
    exact Nat.le_trans (Nat.mul_le_mul_right _ hl2) z
end Go.Proofs.YtnihjpnheooeoaaW.PrintWords
end
end

section
namespace Go.Proofs.YtnihjpnheooeoaaW.RowKit
open Go.ChangeShapes Go.WideShapes Go.Deep Go.RowKit Go.Proofs.YtnihjpnheooeoaaW.PrintWords
variable {H : Type} {enc : TypeId × Value → H} {P : Program} {w : World} {base : Nat} {held : Bool}
/-- What is known of a slice of whole numbers that came in. -/
structure PxInts (w : World) (k : IntKind) (A : Option Addr) (c : Nat) (l : List Int) : Prop where
  le : l.length ≤ c
  c : Kd.C (Kd.int k) w A l.length l
  m : l.length ≤ maxLen
  wf : ∀ n ∈ l, (Lit.int k n).wf = true
theorem ints_of {t e : TypeId} {k : IntKind} {fuel : Nat} {cs : List Value} {x : DataW H × List MemPlace} (ht : P.underlying t = some (.slice e)) (he : P.underlying e = some (.int k)) (hc : P.cellsOf e = 1)
    (h : DataW.trod enc P w base (fun _ => true) held fuel t cs = some x) : ∃ A c l, cs = [.slice A (List.length l) c] ∧ PxInts w k A c l := by
  rcases open_ints ht he hc h with ⟨hcs, _⟩ | ⟨a, len, cap, zs, hcs, _, hl, hm, hz, _, hcell, hwz⟩
  · obtain ⟨l, e1, h1, h2, h3, h4⟩ := ReadsInt.ofRowC (k := k) (w := w) (a := none) (len := 0) (cap := 0) (zs := []) (.inl ⟨rfl, rfl, rfl, rfl⟩)
    exact ⟨none, 0, l, by rw [hcs, ← e1], h4, Kd.C_of_reads (d := (0 : Int)) (h1 := fun _ => rfl) h1, h2, h3⟩
  · obtain ⟨l, e1, h1, h2, h3, h4⟩ := ReadsInt.ofRowC (k := k) (w := w) (a := some a) (len := len) (cap := cap) (zs := zs) (.inr ⟨_, rfl, hl, hm, by simpa using hz, hcell, hwz⟩)
    exact ⟨some a, cap, l, by rw [hcs, ← e1], h4, Kd.C_of_reads (d := (0 : Int)) (h1 := fun _ => rfl) h1, h2, h3⟩
theorem open_sl {r : Reach} {b0 : Nat} {t e : TypeId} {k : IntKind} {v : Value} {d : DataW H} {p : List MemPlace} (ht : P.underlying t = some (.slice e)) (he : P.underlying e = some (.int k)) (hc : P.cellsOf e = 1)
    (hv : Value.okWide P w r b0 t v) (h : DataW.Trod enc P w base (fun _ => true) held t v d p) : ∃ A c l, v = .slice A (List.length l) c ∧ PxInts w k A c l := by
  obtain ⟨a, len, cap, rfl⟩ := okWide_slice ht hv
  obtain ⟨fuel, hf⟩ := h
  obtain ⟨A, c, l, hcs, hi⟩ := ints_of ht he hc hf
  simp [Value.cells] at hcs
  obtain ⟨rfl, rfl, rfl⟩ := hcs
  exact ⟨_, _, l, rfl, hi⟩
theorem open_st {r : Reach} {b0 : Nat} {t q e : TypeId} {k : IntKind} {f0 : Field} {v : Value} {d : DataW H} {p : List MemPlace} (hs : P.underlying t = some (.struct #[f0])) (hone : oneCellFields P #[f0] = true) (hC : P.cellsOf t = 1)
    (hq : f0.type = q) (ht : P.underlying q = some (.slice e)) (he : P.underlying e = some (.int k)) (hc : P.cellsOf e = 1)
    (hv : Value.okWide P w r b0 t v) (h : DataW.Trod enc P w base (fun _ => true) held t v d p) : ∃ A c l, v = .agg #[.slice A (List.length l) c] ∧ PxInts w k A c l := by
  subst hq
  obtain ⟨cs, rfl, hsz⟩ := okWide_struct hs hv
  obtain ⟨c0, rfl⟩ : ∃ c0, cs = #[c0] := by
    obtain ⟨l⟩ := cs
    match l, hsz.trans hC with
    | [c0], _ => exact ⟨c0, rfl⟩
  obtain ⟨fuel, hf⟩ := h
  obtain ⟨y0, n, _, _, h0⟩ := trod_struct1 hs hf
  obtain ⟨o0, k0⟩ := Go.Deep.hone_of hone 0 f0 rfl
  obtain ⟨A, c, l, hcs, hi⟩ := ints_of ht he hc (by simpa [Value.cells, o0, k0] using h0 : DataW.trod enc P w base (fun _ => true) held n f0.type [c0] = some y0)
  simp at hcs
  subst hcs
  exact ⟨A, c, l, rfl, hi⟩
/-- What is known of a slice of slices of whole numbers that came in. -/
structure PxRows (w : World) (k : IntKind) (q : TypeId) (A : Option Addr) (c : Nat) (l : List (List Int)) : Prop where
  le : l.length ≤ c
  c : Kd.C (Kd.slice q (Kd.int k)) w A l.length l
  m : l.length ≤ maxLen
  m2 : ∀ r ∈ l, r.length ≤ maxLen
  wf : ∀ r ∈ l, ∀ n ∈ r, (Lit.int k n).wf = true
theorem open_ss {r : Reach} {b0 : Nat} {t e q : TypeId} {k : IntKind} {v : Value} {d : DataW H} {p : List MemPlace} (ht : P.underlying t = some (.slice e)) (he : P.underlying e = some (.slice q)) (hq : P.underlying q = some (.int k))
    (ce : P.cellsOf e = 1) (cq : P.cellsOf q = 1)
    (hv : Value.okWide P w r b0 t v) (h : DataW.Trod enc P w base (fun _ => true) held t v d p) : ∃ A c l, v = .slice A (List.length l) c ∧ PxRows w k q A c l := by
  obtain ⟨a, len, cap, rfl⟩ := okWide_slice ht hv
  obtain ⟨fuel, hf⟩ := h
  rcases Go.Deep.open_int_rows ht he hq ce cq hf with ⟨hcs, _⟩ | ⟨x, len', cap', AA, L, C, Z, hcs, _, hl, hm, _, hr⟩
  · simp [Value.cells] at hcs
    obtain ⟨rfl, rfl, rfl⟩ := hcs
    exact ⟨none, 0, [], rfl, Nat.le_refl _, ⟨rfl, Nat.zero_le _, fun h => absurd h (Nat.lt_irrefl _)⟩, Nat.zero_le _, (fun _ h => by cases h), (fun _ h => by cases h)⟩
  · simp [Value.cells] at hcs
    obtain ⟨rfl, rfl, rfl⟩ := hcs
    have each : ∀ r, r < cap → PxInts w k (AA r) (C r) ((Z r).take (L r)) ∧ L r = ((Z r).take (L r)).length := by
      intro r hrc
      obtain ⟨_, h1, h2, h3, h4, h5, h6⟩ := hr r hrc
      have hz : ((Z r).take (L r)).length = L r := by rw [List.length_take]; omega
      refine ⟨⟨by omega, ⟨by rfl, by unfold maxLen at h2; omega, fun hp => ?_⟩, by omega, fun n hn => h4 n (List.mem_of_mem_take hn)⟩, hz.symm⟩
      cases ha : AA r with
      | none => have := h5 ha; omega
      | some ad =>
        refine ⟨ad, rfl, fun j p hj => ⟨[.int k p], rfl, rfl, fun i u hu => ?_⟩⟩
        have hj1 := (List.getElem?_eq_some_iff.1 hj).1
        have hjl : j < L r := by omega
        cases i with
        | succ i => simp at hu
        | zero =>
          simp at hu
          subst hu
          have := (h6 ad ha).2 j (by omega)
          rw [List.getD_eq_getElem?_getD, ← List.getElem?_take_of_lt hjl, hj] at this
          have e1 : j * (Kd.int k).sz + 0 = j := by show j * 1 + 0 = j; omega
          rw [e1]
          exact this
    refine ⟨some x, cap, (List.range len).map (fun r => (Z r).take (L r)), by simp, ⟨by simpa using hl, ⟨by simp, ?_, fun hp => ⟨x, rfl, fun j p hj => ?_⟩⟩, by simp; omega, ?_, ?_⟩⟩
    · simp; unfold maxLen at hm; omega
    · simp only [List.getElem?_map, Option.map_eq_some_iff] at hj
      obtain ⟨r, hr1, rfl⟩ := hj
      obtain ⟨hr2, hr3⟩ := List.getElem?_eq_some_iff.1 hr1
      simp at hr2 hr3
      subst hr3
      obtain ⟨hi, hL⟩ := each j (by omega)
      refine ⟨[.slice (AA j) ((Z j).take (L j)).length (C j)], rfl, ⟨AA j, C j, rfl, hi.le, hi.c⟩, fun i u hu => ?_⟩
      cases i with
      | succ i => simp at hu
      | zero =>
        simp only [List.getElem?_cons_zero, Option.some.injEq] at hu
        subst hu
        have e1 : j * (Kd.slice q (Kd.int k)).sz + 0 = j := by show j * 1 + 0 = j; omega
        rw [e1, ← hL]
        exact (hr j (by omega)).1
    · intro r hr1
      obtain ⟨j, hj, rfl⟩ := List.mem_map.1 hr1
      rw [List.mem_range] at hj
      exact (each j (by omega)).1.m
    · intro r hr1
      obtain ⟨j, hj, rfl⟩ := List.mem_map.1 hr1
      rw [List.mem_range] at hj
      exact (each j (by omega)).1.wf
end Go.Proofs.YtnihjpnheooeoaaW.RowKit
end

section
namespace Go.Proofs.Ytnihjpnheooeoaa.F
open Go.RowKit Go.Proofs.YtnihjpnheooeoaaW.PrintWords Go.Proofs.YtnihjpnheooeoaaW.PrintLast Go.Proofs.YtnihjpnheooeoaaW.PrintMore Go.Proofs.YtnihjpnheooeoaaW.RowKit
set_option linter.unusedVariables false
def laws_FnExactPromotionOrder.Pure : Prop := ∀ (l0 : List Int), l0.length ≤ maxLen → (∀ n ∈ l0, (Lit.int .i64 n).wf = true) → ∃ k, laws_FnExactPromotionOrder.f k l0 = some true
theorem laws_FnExactPromotionOrder.walk (P : laws_FnExactPromotionOrder.Pure) (A0 : Option Addr) (c0 : Nat) (l0 : List Int) (w : World) (i0 : PxInts w .i64 A0 c0 l0) :
    Calls Try.prog 7 #[.agg #[.slice A0 l0.length c0]] w fun e w' => e = .returned (.bool true) ∧ Below w.heap.size w w' := by
  obtain ⟨k, h⟩ := P l0 i0.m i0.wf
  refine (laws_FnExactPromotionOrder.calls k _ _ l0 true w i0.c i0.le h).mono ?_
  rintro e w' ⟨rfl, hd⟩
  exact ⟨rfl, hd⟩
end Go.Proofs.Ytnihjpnheooeoaa.F
end

section
namespace Go.Proofs.Ytnihjpnheooeoaa.Q
open Go.RowKit Go.Proofs.YtnihjpnheooeoaaW.PrintWords Go.Proofs.Ytnihjpnheooeoaa.F
set_option linter.unusedVariables false
theorem liGcd_ev : ∀ b a : Nat, Ev (fun k => spec_liGcd.f k (a : Int) (b : Int)) ((Nat.gcd a b : Nat) : Int) := by
  intro b
  induction b using Nat.strongRecOn with
  | _ b ih =>
    intro a
    unfold spec_liGcd.f
    refine Ev.step (by intro k; simp only [spec_liGcd.l0]; rfl) ?_
    by_cases h : b = 0
    · subst h; exact Ev.no (by omega) (Ev.ret (by simp))
    · refine Ev.yes (by omega) (Ev.no (by omega) ?_)
      rw [tmodN, gcd_turn]
      have := ih (a % b) (Nat.mod_lt _ (by omega)) b
      unfold spec_liGcd.f at this
      exact this
theorem itL_succ (f : List Int → List Int) : ∀ t w, itL f w (t + 1) = f (itL f w t)
  | 0, _ => rfl
  | t + 1, w => by
    show itL f (f w) (t + 1) = f (itL f (f w) t)
    exact itL_succ f t (f w)
/-- The reference's way round one cycle. -/
theorem len_run {p : List Int} (hp : PO p) {w : List Int} (hw : ordB p w = true) {c : Nat} (hc : c ≤ 1000) (hback : ∀ t, itL (proL p) w t = w ↔ c ∣ t) (order : Int) (rows : List (List Int)) (n i : Int) (R : Int × Bool)
    (h : Ev (fun k => (spec_liGcd.f k order (c : Int)).bind fun t677 => (if t677 = 0 then (none) else (if (wrap64 ((wrap64 (Int.tdiv order t677)) * (c : Int))) > 1000000 then (some (0, false)) else (spec_PromotionOrder.l0 k (wrap64 ((wrap64 (Int.tdiv order t677)) * (c : Int))) rows n (wrap64 (i + 1)) p)))) R) :
    ∀ j, j ≤ c → 0 < j → Ev (fun k => spec_PromotionOrder.l1 k order w (j : Int) (itL (proL p) w j) rows n i p) R := by
  have hn := hp.small
  refine downTo _ ?_ ?_
  · intro _
    refine Ev.step (by intro k; simp only [spec_PromotionOrder.l1]; rfl) ?_
    have hl := ordB_len (itL_ord hp c w hw)
    have hl2 := ordB_len hw
    refine Ev.bind (l1Same_ev (by omega) (by omega)) ?_
    rw [decide_eq_true ((hback c).2 (Nat.dvd_refl c))]
    exact Ev.yes rfl h
  · intro j hj ih hj0
    refine Ev.step (by intro k; simp only [spec_PromotionOrder.l1]; rfl) ?_
    have hj2 := itL_ord hp j w hw
    have hl := ordB_len hj2
    have hl2 := ordB_len hw
    refine Ev.bind (l1Same_ev (by omega) (by omega)) ?_
    have hne : ¬ itL (proL p) w j = w := fun e => by
      have := Nat.le_of_dvd hj0 ((hback j).1 e)
      omega
    rw [decide_eq_false hne]
    refine Ev.no (by simp) ?_
    have hpr := liPromote_ev hp hj2 1 (by omega) (by omega)
    refine Ev.bind hpr ?_
    rw [wid1 hj (by omega)]
    have := ih (by omega)
    rw [itL_succ] at this
    exact this
theorem order_run {p : List Int} (hp : PO p) {M : Nat} (hM : M = 1000000) (g : List Int → Nat) (rows : List (List Int)) (hr : rows.length ≤ 500) (ho : ∀ w ∈ rows, ordB p w = true ∧ 0 < g w ∧ g w ≤ 500 ∧ ∀ t, itL (proL p) w t = w ↔ g w ∣ t) :
    ∀ i, i ≤ rows.length → ∀ a : Nat, 0 < a → a ≤ M → Ev (fun k => spec_PromotionOrder.l0 k (a : Int) rows (rows.length : Int) (i : Int) p) (if lcmL a ((rows.map g).drop i) ≤ M then (((lcmL a ((rows.map g).drop i) : Nat) : Int), true) else (0, false)) := by
  refine downTo _ ?_ ?_
  · intro a ha haM
    rw [List.drop_of_length_le (by rw [List.length_map]; exact Nat.le_refl _)]
    refine Ev.step (by intro k; simp only [spec_PromotionOrder.l0]; rfl) (Ev.no (by omega) (Ev.ret ?_))
    show _ = if a ≤ M then _ else _
    rw [if_pos haM]; rfl
  · intro i hi ih a ha haM
    obtain ⟨hw, hc, hc2, hback⟩ := ho _ (List.getElem_mem hi)
    have hd : (rows.map g).drop i = g rows[i] :: (rows.map g).drop (i + 1) := by
      rw [List.drop_eq_getElem_cons (by rw [List.length_map]; exact hi), List.getElem_map]
    rw [hd]
    refine Ev.step (by intro k; simp only [spec_PromotionOrder.l0]; rfl) (Ev.yes (by omega) (Ev.yes (by omega) (Ev.yes (by omega) ?_)))
    rw [rdL_at hi]
    refine Ev.bind (liPromote_ev hp hw 1 (by omega) (by omega)) ?_
    generalize rows[i] = w at hw hc hc2 hback ⊢
    generalize g w = c at hc hc2 hback ⊢
    refine len_run hp hw (c := c) (by omega) hback (a : Int) rows _ _ _ ?_ 1 hc Nat.one_pos
    have hgp : 0 < Nat.gcd a c := Nat.gcd_pos_of_pos_left c ha
    have hgd := Nat.gcd_dvd_left a c
    have hq2 : a / Nat.gcd a c ≤ a := Nat.div_le_self _ _
    have hlcm : a / Nat.gcd a c * c = Nat.lcm a c := by
      unfold Nat.lcm
      rw [Nat.mul_comm, ← Nat.mul_div_assoc _ hgd, Nat.mul_comm]
    have hlp : 0 < Nat.lcm a c := Nat.lcm_pos ha hc
    refine Ev.bind (liGcd_ev c a) (Ev.no (by omega) ?_)
    rw [tdivN]
    generalize a / Nat.gcd a c = q at hq2 hlcm ⊢
    rw [wid (n := (q : Int)) (by omega) (by omega)]
    have hm : (q : Int) * (c : Int) = ((Nat.lcm a c : Nat) : Int) := by rw [← hlcm]; exact (Int.natCast_mul _ _).symm
    have hle : Nat.lcm a c ≤ 1000000 * 500 := by rw [← hlcm]; exact Nat.mul_le_mul (by omega) hc2
    rw [hm, wid (n := ((Nat.lcm a c : Nat) : Int)) (by omega) (by omega), wid1 hi (by omega)]
    show Ev _ (if lcmL (Nat.lcm a c) ((rows.map g).drop (i + 1)) ≤ M then _ else _)
    have hrest : ∀ x ∈ (rows.map g).drop (i + 1), 0 < x := fun x hx => by
      obtain ⟨v, hv, rfl⟩ := List.mem_map.1 (List.mem_of_mem_drop hx)
      exact (ho v hv).2.1
    by_cases hb : M < Nat.lcm a c
    · refine Ev.yes (by omega) (Ev.ret ?_)
      have h2 := Nat.le_of_dvd (lcmL_pos _ _ hlp hrest) (lcmL_first ((rows.map g).drop (i + 1)) (Nat.lcm a c))
      rw [if_neg (by omega)]
    · exact Ev.no (by omega) (ih (Nat.lcm a c) hlp (by omega))
theorem PromotionOrder_same (p : List Int) (hp : p.length ≤ 1048576) (_ : ∀ n ∈ p, (Lit.int .i64 n).wf = true) :
    ∃ r, Ev (fun k => spec_PromotionOrder.f k p) r ∧ Ev (fun k => impl_PromotionOrder.f k p) r ∧ True := by
  unfold spec_PromotionOrder.f impl_PromotionOrder.f
  cases hpo : isPo p with
  | false =>
    refine ⟨(0, false), Ev.bind (poGood_ev p) ?_, Ev.bind (linearCycles_none (fun h => by rw [hpo] at h; exact Bool.false_ne_true h.1)) (Ev.no Bool.false_ne_true (Ev.now _)), trivial⟩
    rw [hpo]; exact Ev.no Bool.false_ne_true (Ev.now _)
  | true =>
    have hP := (isPo_iff p).1 hpo
    have hli := liAll_ev hP
    by_cases hw : ways p 0 ≤ 500
    rotate_left
    · rw [if_neg hw] at hli
      refine ⟨(0, false), Ev.bind (poGood_ev p) ?_, Ev.bind (linearCycles_none (fun h => hw h.2)) (Ev.no Bool.false_ne_true (Ev.now _)), trivial⟩
      rw [hpo]
      exact Ev.yes rfl (Ev.bind hli (Ev.no Bool.false_ne_true (Ev.now _)))
    rw [if_pos hw] at hli
    obtain ⟨V, out, hM, hperm, hcy⟩ := linearCycles_ev hP hw
    have hVl : V.length ≤ 500 := by rw [hperm.length_eq, allLn_len]; exact hw
    have hol := met_len hM
    have hrl : (rowsTo p (ways p 0)).length ≤ 500 := by rw [rowsTo_len]; exact hw
    have hsum := met_sum hM
    have hlen : ∀ o ∈ out, 0 < o.length ∧ o.length ≤ 500 := fun o ho => ⟨(hM.cyc o ho).pos, by
      have : o.length ≤ (out.map List.length).sum := by
        have h1 := List.mem_map_of_mem (f := List.length) ho
        have key : ∀ (l : List Nat), ∀ x ∈ l, x ≤ l.sum := by
          intro l
          induction l with
          | nil => intro x hx; cases hx
          | cons y l ih =>
            intro x hx
            rw [List.sum_cons]
            rcases List.mem_cons.1 hx with rfl | hx
            · omega
            · have := ih x hx; omega
        exact key _ _ h1
      omega⟩
    have hex : ∀ w, w ∈ rowsTo p (ways p 0) → ∃ c, c ∈ out.map List.length ∧ ∀ t, itL (proL p) w t = w ↔ c ∣ t := fun w h => by
      have ho := (mem_rows hP w).1 h
      have h1 : enc w ∈ V := hperm.mem_iff.2 ((mem_allLn hP).2 ⟨w, ho, rfl⟩)
      rw [hM.flat] at h1
      obtain ⟨o, ho1, ho2⟩ := List.mem_flatten.1 h1
      refine ⟨o.length, List.mem_map_of_mem ho1, fun t => ?_⟩
      rw [← back_iff hP ho]
      exact (hM.cyc o ho1).back _ ho2 t
    obtain ⟨g, hg⟩ : ∃ g : List Int → Nat, ∀ w ∈ rowsTo p (ways p 0), g w ∈ out.map List.length ∧ ∀ t, itL (proL p) w t = w ↔ g w ∣ t := by
      haveI : ∀ w, Decidable (w ∈ rowsTo p (ways p 0)) := fun w => Classical.propDecidable _
      refine ⟨fun w => if h : w ∈ rowsTo p (ways p 0) then (hex w h).choose else 0, fun w h => ?_⟩
      have := (hex w h).choose_spec
      simp only [dif_pos h]
      exact this
    have hgl : ∀ w ∈ rowsTo p (ways p 0), ordB p w = true ∧ 0 < g w ∧ g w ≤ 500 ∧ ∀ t, itL (proL p) w t = w ↔ g w ∣ t := fun w h => by
      obtain ⟨h1, h2⟩ := hg w h
      obtain ⟨o, ho, e⟩ := List.mem_map.1 h1
      have := hlen o ho
      exact ⟨(mem_rows hP w).1 h, by omega, by omega, h2⟩
    have hsame : lcmL 1 ((rowsTo p (ways p 0)).map g) = lcmL 1 (out.map List.length) := by
      refine lcmL_same (fun c hc => ?_) (fun c hc => ?_)
      · obtain ⟨w, h, rfl⟩ := List.mem_map.1 hc
        exact (hg w h).1
      · obtain ⟨o, ho, rfl⟩ := List.mem_map.1 hc
        obtain ⟨x, hx⟩ := List.exists_mem_of_length_pos (hlen o ho).1
        have hxV : x ∈ V := by rw [hM.flat]; exact List.mem_flatten.2 ⟨o, ho, hx⟩
        obtain ⟨w, hw2, rfl⟩ := (mem_allLn hP).1 (hM.sub x hxV)
        have h1 := (mem_rows hP w).2 hw2
        refine List.mem_map.2 ⟨w, h1, ?_⟩
        have h2 := (hg w h1).2
        have h3 : ∀ t, g w ∣ t ↔ o.length ∣ t := fun t => by
          rw [← h2 t, ← back_iff hP hw2]
          exact (hM.cyc o ho).back _ hx t
        exact Nat.dvd_antisymm ((h3 _).2 (Nat.dvd_refl _)) ((h3 _).1 (Nat.dvd_refl _))
    have hs := order_run hP rfl g (rowsTo p (ways p 0)) hrl hgl 0 (Nat.zero_le _) 1 Nat.one_pos (by decide)
    rw [List.drop_zero, hsame] at hs
    refine ⟨lcmTo 1000000 (out.map List.length), Ev.bind (poGood_ev p) ?_, Ev.bind hcy (Ev.yes rfl ?_), trivial⟩
    · rw [hpo]
      exact Ev.yes rfl (Ev.bind hli (Ev.yes rfl hs))
    · refine Ev.bind (lens_ev (out := out) (by omega)) (Ev.bind (common_ev (l := out.map List.length) (by rw [List.length_map]; omega) (fun c hc => ?_)) (Ev.ret rfl))
      obtain ⟨o, ho, rfl⟩ := List.mem_map.1 hc
      have := hlen o ho
      omega
theorem FnExactPromotionOrder : laws_FnExactPromotionOrder.Pure := by
  intro l0 hm_l0 hw_l0
  by_cases hl_l0 : l0.length ≤ 1048576
  rotate_left
  · exact ⟨0, by unfold laws_FnExactPromotionOrder.f; exact if_pos ⟨0, (Or.inl ⟨-1, (szPoset_eq l0 1048576 (by omega) hm_l0).trans (by rw [if_neg hl_l0]), by decide⟩)⟩⟩
  obtain ⟨r, hs_, hi_, hr_⟩ := PromotionOrder_same l0 hl_l0 hw_l0
  obtain ⟨K0, e0⟩ := toPoset_ev l0 hl_l0
  obtain ⟨K1, e1⟩ := hs_
  obtain ⟨K2, e2⟩ := hi_
  obtain ⟨K3, e3⟩ := eqPoset_refl l0 (by omega)
  obtain ⟨K, hK_⟩ : ∃ K, K = 0 + K0 + K1 + K2 + K3 := ⟨_, rfl⟩
  refine ⟨K, ?_⟩
  unfold laws_FnExactPromotionOrder.f
  exact if_pos ⟨K, Or.inr (⟨((1048576 - l0.length : Nat) : Int), r.1, r.2, (szPoset_eq l0 1048576 (by omega) hm_l0).trans (by rw [if_pos hl_l0]), decide_eq_false (by omega), e0 K (by omega), e1 K (by omega), e2 K (by omega), e3 K (by omega)⟩)⟩
end Go.Proofs.Ytnihjpnheooeoaa.Q
end
