/- Part 5 of the texts below the row of FnBoxesOfLabels: printed functions with their contracts, and plain lemmas. No condition. -/
import Derived.Test.YtmbojobkiainlaaZFnBoxesOfLabels4
import Derived.LoopTactic
import Derived.Deep.LoopGhost
section
namespace Go.Proofs.Ytmbojobkiainlaa.Q
open Go.RowKit Go.Proofs.YtmbojobkiainlaaW.PrintWords Go.Proofs.Ytmbojobkiainlaa.F
set_option linter.unusedVariables false
def cstep (ids vals : List Nat) : List Nat := ids.map fun t => sumL (((ids.zip vals).filter fun x => subB x.1 t).map fun x => x.2)
theorem zip_map_self {α β : Type} (f : α → β) : ∀ l : List α, l.zip (l.map f) = l.map fun x => (x, f x)
 | [] => rfl
 | x :: l => by rw [List.map_cons, List.zip_cons_cons, zip_map_self f l, List.map_cons]
theorem cstep_eq (p : List Int) (ids : List Nat) (k : Nat) : cstep ids (ids.map (wvN (stB p false) ids k)) = ids.map (wvN (stB p false) ids (k + 1)) := by
 unfold cstep
 refine List.map_congr_left fun t _ => ?_
 rw [zip_map_self, List.filter_map, List.map_map]
 conv => rhs; unfold wvN
 congr 1
 have e : ((fun x : Nat × Nat => x.2) ∘ fun x => (x, wvN (stB p false) ids k x)) = wvN (stB p false) ids k := rfl
 rw [e]
 congr 1
 refine List.filter_congr fun s _ => ?_
 show subB s t = stB p false s t
 rw [stB_false]
def boxB : Option (Int × Bool) → Nat → Bool
 | some x, n => decide (x.1 = (n : Int)) && x.2
 | none, _ => false
def boxRun (a b : Nat) (ids : List Nat) : Nat → Nat → List Nat → Bool
 | 0, _, _ => true
 | d + 1, m, vals => boxB (spec_BoxCount.f 200 (a : Int) (b : Int) (m : Int)) (sumL vals) && boxRun a b ids d (m + 1) (cstep ids vals)
def boxP (a b : Nat) : Option (List Int) → Bool
 | some p => boxRun a b (idealsN p) 13 0 ((idealsN p).map fun t => if t = 0 then 1 else 0)
 | none => false
def okBox (a b : Nat) : Bool := boxP a b (impl_rectangle.f 200 (a : Int) (b : Int))
theorem allBox : (List.range 11).all (fun a => (List.range 11).all fun b => a == 0 || b == 0 || decide (10 < a * b) || okBox a b) = true := by decide +kernel
theorem boxRun_at {a b : Nat} {p : List Int} : ∀ (d m : Nat), boxRun a b (idealsN p) d m ((idealsN p).map (wvN (stB p false) (idealsN p) m)) = true → ∀ q, m ≤ q → q < m + d → boxB (spec_BoxCount.f 200 (a : Int) (b : Int) (q : Int)) (sumL ((idealsN p).map (wvN (stB p false) (idealsN p) q))) = true
 | 0, m, _, q, h1, h2 => by omega
 | d + 1, m, h, q, h1, h2 => by
  unfold boxRun at h
  rw [Bool.and_eq_true, cstep_eq] at h
  rcases Nat.lt_or_ge m q with hq | hq
  ·exact boxRun_at d (m + 1) h.2 q (by omega) (by omega)
  ·rw [show q = m by omega]; exact h.1
theorem box_spec {a b : Int} (h : sidesOk a b) : ∃ (p : List Int), Ev (fun k => impl_rectangle.f k a b) p ∧ PO p ∧ ∀ m : Nat, m ≤ 12 → Ev (fun k => spec_BoxCount.f k a b (m : Int)) (((wvN (stB p false) (idealsN p) (m + 1) (allN p) : Nat) : Int), true) := by
 obtain ⟨n, m, p, rfl, rfl, h1, h2, h3, h4, hnm, hr, hp, hl⟩ := rect_impl h
 obtain ⟨n', m', en, em, _, _, _, _, _, hk⟩ := sides_all allBox h
 obtain rfl : n = n' := by omega
 obtain rfl : m = m' := by omega
 unfold okBox at hk
 rw [hr] at hk
 simp only [boxP] at hk
 refine ⟨p, Ev.of (impl_rectangle.mono _ _) hr, hp, fun j hj => ?_⟩
 have hb := boxRun_at 13 0 hk j (Nat.zero_le _) (by omega)
 rw [wv_total]
 cases hs : spec_BoxCount.f 200 (n : Int) (m : Int) (j : Int) with
 | none => rw [hs] at hb; simp [boxB] at hb
 | some x =>
  rw [hs] at hb
  simp only [boxB, Bool.and_eq_true, decide_eq_true_eq] at hb
  have := Ev.of (spec_BoxCount.mono _ _ _) hs
  rw [show x = (((sumL ((idealsN p).map (wvN (stB p false) (idealsN p) j)) : Nat) : Int), true) from Prod.ext hb.1 hb.2] at this
  exact this
theorem BoxCount_same (a : Int) (_ : (Lit.int .i64 a).wf = true) (b : Int) (_ : (Lit.int .i64 b).wf = true) (m : Int) (_ : (Lit.int .i64 m).wf = true) :
 ∃ r, Ev (fun k => spec_BoxCount.f k a b m) r ∧ Ev (fun k => impl_BoxCount.f k a b m) r ∧ True := by
 have hs : spec_shSides.f a b = some (decide (sidesOk a b)) := (show spec_shSides.f a b = impl_areSides.f a b 10 from rfl).trans (areSides_iff a b)
 by_cases h : sidesOk a b
 rotate_left
 ·refine ⟨(0, false), ?_, ?_, trivial⟩
  ·unfold spec_BoxCount.f spec_laBox.f
   rw [hs, decide_eq_false h]
   exact Ev.call rfl (Ev.no (by simp) (Ev.now _))
  ·unfold impl_BoxCount.f
   exact Ev.bind (Rectangle_no h) (Ev.no (by simp) (Ev.now _))
 obtain ⟨p, hp, hP, hspec⟩ := box_spec h
 by_cases hm : 0 ≤ m ∧ m ≤ 12
 rotate_left
 ·refine ⟨(0, false), ?_, ?_, trivial⟩
  ·unfold spec_BoxCount.f spec_laBox.f
   rw [hs, decide_eq_true h, laBound_eq, range_false hm]
   exact Ev.call rfl (Ev.no (by simp) (Ev.now _))
  ·unfold impl_BoxCount.f
   refine Ev.bind (Rectangle_yes h hp) (Ev.yes rfl ?_)
   rw [isBound_eq, range_false hm]
   exact Ev.call rfl (Ev.no (by simp) (Ev.now _))
 obtain ⟨q, rfl⟩ := Int.eq_ofNat_of_zero_le hm.1
 refine ⟨_, hspec q (by omega), ?_, trivial⟩
 unfold impl_BoxCount.f
 refine Ev.bind (Rectangle_yes h hp) (Ev.yes rfl ?_)
 rw [isBound_eq, range_true hm]
 exact Ev.call rfl (Ev.yes rfl (Ev.bind (count_ev hP (by omega)) (Ev.now _)))
end Go.Proofs.Ytmbojobkiainlaa.Q
end

section
namespace Go.Proofs.Ytmbojobkiainlaa.F
open Go.RowKit Go.Maps Go.Proofs.YtmbojobkiainlaaW.PrintWords Go.Proofs.YtmbojobkiainlaaW.PrintLast Go.Proofs.YtmbojobkiainlaaW.PrintMore
set_option linter.unusedVariables false
set_option linter.unusedSimpArgs false
/-- The row of M numbers that a function tells. -/
def rwL (M : Nat) (f : Nat → Int) : List Int := (List.range M).map f
theorem rwL_len (M : Nat) (f : Nat → Int) : (rwL M f).length = M := by simp [rwL]
theorem rwL_get {M : Nat} {f : Nat → Int} {i : Nat} (h : i < M) : rd (rwL M f) (i : Int) = f i := by
 unfold rd rwL
 rw [Int.toNat_natCast, List.getD_eq_getElem?_getD, List.getElem?_map, List.getElem?_range h]; rfl
theorem rwL_congr {M : Nat} {f g : Nat → Int} (h : ∀ i, i < M → f i = g i) : rwL M f = rwL M g := List.map_congr_left fun i hi => h i (List.mem_range.1 hi)
theorem rwL_set {M : Nat} {f : Nat → Int} {i : Nat} {x : Int} (h : i < M) : (rwL M f).set i x = rwL M fun j => if j = i then x else f j := by
 apply List.ext_getElem?
 intro j
 unfold rwL
 rw [List.getElem?_set, List.getElem?_map, List.getElem?_map, List.length_map, List.length_range]
 by_cases hj : j < M
 ·rw [List.getElem?_range hj]
  by_cases e : i = j
  ·subst e
   rw [if_pos rfl, if_pos h]
   simp
  ·rw [if_neg e]
   simp only [Option.map_some]
   rw [if_neg (fun h => e h.symm)]
 ·rw [List.getElem?_eq_none (l := List.range M) (by simpa using hj)]
  by_cases e : i = j
  ·subst e; exact absurd h hj
  ·rw [if_neg e]; rfl
theorem rwL_zero (M : Nat) : List.replicate M (0 : Int) = rwL M fun _ => 0 := by
 unfold rwL
 apply List.ext_getElem
 ·simp
 ·intro i h1 h2; simp
abbrev RwRow (w : World) (base M : Nat) (g c : Nat) (f : Nat → Int) : Prop := Kd.R (Kd.int .i64) 3 w base (fun _ => True) (.slice (some ⟨g, 0, none⟩) M c) (rwL M f)
theorem rw_cell {W : World} {base M g c : Nat} {f : Nat → Int} (h : RwRow W base M g c f) {i : Nat} (hi : i < M) : W.cell? ⟨g, i, none⟩ = some (.int .i64 (f i)) ∧ W.frozen? ⟨g, i, none⟩ = false := by
 have h2 := Kd.R_celln (0 : Int) h (i : Int) (by omega) (by omega)
 rw [Int.toNat_natCast] at h2
 refine ⟨h2.1.trans ?_, h2.2⟩
 have := rwL_get (f := f) hi
 unfold rd at this
 rw [← this]
 rfl
theorem rw_put {W : World} {base M g c : Nat} {f : Nat → Int} (h : RwRow W base M g c f) {i : Nat} (hi : i < M) (x : Int) : RwRow (W.setCell ⟨g, i, none⟩ (.int .i64 x)) base M g c (fun j => if j = i then x else f j) ∧ W.grownBy (W.setCell ⟨g, i, none⟩ (.int .i64 x)) (some g) := by
 have h0 : Kd.R (Kd.int .i64) 3 W base (fun _ => True) (.slice (some ⟨g, 0, none⟩) (rwL M f).length c) (rwL M f) := by rw [rwL_len]; exact h
 obtain ⟨h1, h2⟩ := Kd.R_put h0 (i : Int) x
 rw [Int.toNat_natCast] at h1 h2
 rw [rwL_set hi, rwL_len] at h1
 exact ⟨h1, h2⟩
theorem rw_block {W : World} {base M g c : Nat} {f : Nat → Int} (h : RwRow W base M g c f) : g < W.heap.size ∧ base ≤ g ∧ ∃ cells, W.heap[g]? = some (.cells cells 3 (0, 0)) := by
 obtain ⟨_, h1, h2, q, hq, cells, hc⟩ := (Kd.R_bound h).1 g rfl
 obtain ⟨cells', hc'⟩ := Kd.R_typed h g rfl
 exact ⟨h2, h1, cells', hc'⟩
theorem rw_move {W W1 : World} {base M g c : Nat} {f : Nat → Int} (h : RwRow W base M g c f) (hm : W1.heap[g]? = W.heap[g]?) : RwRow W1 base M g c f :=
 Kd.R_mono (Kd.R_move (Kd.R_tight rfl h) (fun k hk => by
  have : k = g := by injection hk
  rw [this]; exact hm)) (fun _ _ => trivial)
/-- How a row reads: by its block and its room. -/
def rwD (g c : Nat) : DataW Unit := .agg [.lit (.int .i64 (g : Int)), .lit (.int .i64 (c : Int))]
theorem rwD_inj {g c g' c' : Nat} (h : rwD g c = rwD g' c') : g = g' ∧ c = c' := by
 unfold rwD at h
 injection h with h
 injection h with h1 h2
 injection h1 with h1
 injection h1 with _ h1
 injection h2 with h2 _
 injection h2 with h2
 injection h2 with _ h2
 omega
def rwR (M : Nat) : Value → Option (DataW Unit × List MemPlace)
 | .slice (some ⟨g, 0, none⟩) n c => if n = M then some (rwD g c, []) else none
 | _ => none
theorem rwR_mk (M g c : Nat) : rwR M (.slice (some ⟨g, 0, none⟩) M c) = some (rwD g c, []) := by
 show (if M = M then _ else _) = _
 rw [if_pos rfl]
theorem rwR_inv {M : Nat} {v : Value} {y : DataW Unit × List MemPlace} (h : rwR M v = some y) : ∃ x : Nat × Nat, v = .slice (some ⟨x.1, 0, none⟩) M x.2 ∧ y.1 = rwD x.1 x.2 := by
 unfold rwR at h
 split at h
 ·rename_i g n c
  split at h
  ·rename_i e
   subst e
   injection h with h
   exact ⟨(g, c), rfl, by rw [← h]⟩
  ·cases h
 ·cases h
/-- What a map of rows reads as at the numbers of a list. -/
structure RwReads (w : World) (base top M : Nat) (D : DataW Unit) (ids : List Int) (v : Int → Nat → Int) : Prop where
 at_ : ∀ s ∈ ids, (∃ g c, Maps.has D (.int .i64 s) = true ∧ (∀ z, D.atKey (.int .i64 s) z = rwD g c) ∧ g < top ∧ RwRow w base M g c (v s)) ∨ (Maps.has D (.int .i64 s) = false ∧ ∀ j, v s j = 0)
 has_ : ∀ kl, Maps.has D kl = true → ∃ s ∈ ids, kl = .int .i64 s
theorem rw_keep {w w' : World} {base top M : Nat} {D : DataW Unit} {ids : List Int} {v : Int → Nat → Int} (h : RwReads w base top M D ids v) (hk : ∀ k, k < top → (∃ cells, w.heap[k]? = some (.cells cells 3 (0, 0))) → w'.heap[k]? = w.heap[k]?) : RwReads w' base top M D ids v :=
 ⟨fun s hs => by
  rcases h.at_ s hs with ⟨g, c, h1, h2, h3, h4⟩ | h1
  ·exact .inl ⟨g, c, h1, h2, h3, rw_move h4 (hk g h3 (rw_block h4).2.2)⟩
  ·exact .inr h1, h.has_⟩
theorem rw_up {w : World} {base top top' M : Nat} {D : DataW Unit} {ids : List Int} {v : Int → Nat → Int} (h : RwReads w base top M D ids v) (ht : top ≤ top') : RwReads w base top' M D ids v :=
 ⟨fun s hs => by
  rcases h.at_ s hs with ⟨g, c, h1, h2, h3, h4⟩ | h1
  ·exact .inl ⟨g, c, h1, h2, Nat.lt_of_lt_of_le h3 ht, h4⟩
  ·exact .inr h1, h.has_⟩
/-- A block that is no row is written, or one from top on. -/
theorem rw_grown {w w' : World} {base top M : Nat} {D : DataW Unit} {ids : List Int} {v : Int → Nat → Int} {row : Option Nat} (h : RwReads w base top M D ids v) (htop : top ≤ w.heap.size) (hg : w.grownBy w' row) (hr : ∀ k, row = some k → top ≤ k ∨ ∀ cells, w.heap[k]? ≠ some (.cells cells 3 (0, 0))) : RwReads w' base top M D ids v :=
 rw_keep h fun k hk hc => hg.block k (by omega) (fun e => by
  rcases hr k e.symm with h1 | h1
  ·omega
  ·obtain ⟨cells, hc⟩ := hc
   exact h1 cells hc)
theorem rw_below {w w' : World} {base top M : Nat} {D : DataW Unit} {ids : List Int} {v : Int → Nat → Int} (h : RwReads w base top M D ids v) (htop : top ≤ w.heap.size) (hb : Below w.heap.size w w') : RwReads w' base top M D ids v :=
 rw_keep h fun k hk _ => hb.block k (by omega)
theorem rw_nomap {H : Type} {P : Program} {k : TypeId} {R : Value → Option (DataW H × List MemPlace)} {W : World} {b n : Nat} {D : DataW H} (hm : W.ownsMap P k R b n D) : ∀ cells, W.heap[b]? ≠ some (.cells cells 3 (0, 0)) := fun cells hc => by
 obtain ⟨es, clock, hb, _⟩ := hm
 rw [hb] at hc
 cases hc
theorem rw_noiter {H : Type} {P : Program} {k : TypeId} {R : Value → Option (DataW H × List MemPlace)} {W : World} {b r n cnt : Nat} {D : DataW H} {left : Lit → Bool} (hm : W.ranges P k R b r n D left cnt) : ∀ cells, W.heap[r]? ≠ some (.cells cells 3 (0, 0)) := fun cells hc => by
 obtain ⟨es, clock, since, seen, c0, _, _, _, _, hr, _⟩ := hm
 rw [hr] at hc
 cases hc
theorem mp_normH {H : Type} {P : Program} {k : TypeId} {R : Value → Option (DataW H × List MemPlace)} {w : World} {b n : Nat} {D : DataW H} {ids : List Int} (K : Keyed P k) (h : w.ownsMap P k R b n D) (hh : ∀ kl, Maps.has D kl = true → ∃ s ∈ ids, kl = .int .i64 s) : w.ownsMap P k R b ids.length D := by
 refine mp_tight h ?_
 obtain ⟨es, rfl, hp, hk⟩ := h.entries K
 rw [Maps.size_eq]
 haveI : DecidableEq Lit := fun a b => Classical.propDecidable (a = b)
 have hn : (es.map Prod.fst).Nodup := by
  rw [List.nodup_iff_pairwise_ne, List.pairwise_map]
  exact hp
 have hsub : ∀ x ∈ es.map Prod.fst, x ∈ ids.map (Lit.int .i64) := fun x hx => by
  obtain ⟨p, hp1, rfl⟩ := List.mem_map.1 hx
  obtain ⟨s, hs, e⟩ := hh p.1 (List.any_eq_true.2 ⟨p, hp1, WideAt.sameKey_self (hk p hp1)⟩)
  rw [e]
  exact List.mem_map.2 ⟨s, hs, rfl⟩
 have := mp_nodup_le _ _ hn hsub
 rw [List.length_map, List.length_map] at this
 exact this
theorem rw_empty (w : World) (base top M : Nat) (ids : List Int) : RwReads w base top M (.map []) ids (fun _ _ => 0) := ⟨fun s _ => .inr ⟨rfl, fun _ => rfl⟩, fun kl h => by cases h⟩
theorem rw_congr {w : World} {base top M : Nat} {D : DataW Unit} {ids : List Int} {v v' : Int → Nat → Int} (h : RwReads w base top M D ids v) (e : ∀ s ∈ ids, ∀ j, (j < M ∨ Maps.has D (.int .i64 s) = false) → v s j = v' s j) : RwReads w base top M D ids v' :=
 ⟨fun s hs => by
  rcases h.at_ s hs with ⟨g, c, h1, h2, h3, h4⟩ | ⟨h1, h2⟩
  ·refine .inl ⟨g, c, h1, h2, h3, ?_⟩
   have e2 : rwL M (v s) = rwL M (v' s) := rwL_congr fun j hj => e s hs j (.inl hj)
   unfold RwRow at h4 ⊢
   rwa [e2] at h4
  ·exact .inr ⟨h1, fun j => by rw [← e s hs j (.inr h1)]; exact h2 j⟩, h.has_⟩
/-- A row is laid into the map. -/
theorem rw_store {w : World} {base top M : Nat} {D : DataW Unit} {ids : List Int} {v : Int → Nat → Int} (hD : Maps.IsMap D) (h : RwReads w base top M D ids v) {t : Int} (ht : t ∈ ids) {g c : Nat} (hg : g < top) {f : Nat → Int} (hr : RwRow w base M g c f) : RwReads w base top M (D.put (.int .i64 t) (rwD g c)) ids (fun s => if s = t then f else v s) := by
 refine ⟨fun s hs => ?_, fun kl hk => ?_⟩
 ·by_cases e : s = t
  ·subst e
   refine .inl ⟨g, c, Maps.has_put_same hD (show WideAt.IsKeyLit (.int .i64 s) from trivial) _, fun z => Maps.atKey_put_same hD (show WideAt.IsKeyLit (.int .i64 s) from trivial) _ _, hg, ?_⟩
   rw [if_pos rfl]
   exact hr
  ·have hne : Lit.int .i64 s ≠ .int .i64 t := fun e2 => e (by injection e2)
   rw [if_neg e, Maps.has_put_other hne]
   rcases h.at_ s hs with ⟨g', c', h1, h2, h3, h4⟩ | h1
   ·exact .inl ⟨g', c', h1, fun z => by rw [Maps.atKey_put_other hne]; exact h2 z, h3, h4⟩
   ·exact .inr h1
 ·by_cases e : kl = .int .i64 t
  ·exact ⟨t, ht, e⟩
  ·rw [Maps.has_put_other e] at hk
   exact h.has_ kl hk
/-- The row of an entry that comes. -/
theorem rw_val {w : World} {base top M : Nat} {D : DataW Unit} {ids : List Int} {v : Int → Nat → Int} (h : RwReads w base top M D ids v) {x : Int} {g c : Nat} (hk : Maps.has D (.int .i64 x) = true) (hat : ∀ z, D.atKey (.int .i64 x) z = rwD g c) : x ∈ ids ∧ g < top ∧ RwRow w base M g c (v x) := by
 obtain ⟨s, hs, e⟩ := h.has_ _ hk
 injection e with _ e
 subst e
 rcases h.at_ x hs with ⟨g', c', h1, h2, h3, h4⟩ | ⟨h1, _⟩
 ·obtain ⟨rfl, rfl⟩ := rwD_inj ((hat .nil).symm.trans (h2 .nil))
  exact ⟨hs, h3, h4⟩
 ·rw [hk] at h1; cases h1
theorem rw_absent {w : World} {base top M : Nat} {D : DataW Unit} {ids : List Int} {v : Int → Nat → Int} (h : RwReads w base top M D ids v) {s : Int} (hs : s ∈ ids) (hk : Maps.has D (.int .i64 s) = false) : ∀ j, v s j = 0 := by
 rcases h.at_ s hs with ⟨g, c, h1, _⟩ | ⟨_, h2⟩
 ·rw [hk] at h1; cases h1
 ·exact h2
theorem rw_apart {H : Type} {P : Program} {k : TypeId} {R : Value → Option (DataW H × List MemPlace)} {W : World} {b n base M g c : Nat} {D : DataW H} {f : Nat → Int} (hm : W.ownsMap P k R b n D) (h : RwRow W base M g c f) : some b ≠ some g := fun e => by
 obtain ⟨_, _, cells, hc⟩ := rw_block h
 exact rw_nomap hm cells (by rw [Option.some.inj e]; exact hc)
theorem rw_apart_iter {H : Type} {P : Program} {k : TypeId} {R : Value → Option (DataW H × List MemPlace)} {W : World} {b r n base M g c cnt : Nat} {D : DataW H} {left : Lit → Bool} {f : Nat → Int} (hm : W.ranges P k R b r n D left cnt) (h : RwRow W base M g c f) : some r ≠ some g := fun e => by
 obtain ⟨_, _, cells, hc⟩ := rw_block h
 exact rw_noiter hm cells (by rw [Option.some.inj e]; exact hc)
theorem rw_invK (key : Value) (kl : Lit) (h : keyOf Try.prog 3 key = some kl) : ∃ x, key = Value.int .i64 x := by
 obtain ⟨x, rfl, _⟩ := Maps.keyOf_int_inv Try.underlying3 h
 exact ⟨x, rfl⟩
theorem rw_invV (M : Nat) (v : Value) (y : DataW Unit × List MemPlace) (h : rwR M v = some y) : ∃ x : Nat × Nat, v = .slice (some ⟨x.1, 0, none⟩) M x.2 := by
 obtain ⟨x, e, _⟩ := rwR_inv h
 exact ⟨x, e⟩
theorem rw_fun {w : World} {base M g c : Nat} {f f' : Nat → Int} (h : RwRow w base M g c f) (e : ∀ j, j < M → f j = f' j) : RwRow w base M g c f' := by
 have e2 : rwL M f = rwL M f' := rwL_congr e
 unfold RwRow at h ⊢
 rwa [e2] at h
theorem rw_kept {w w' : World} {base M g c : Nat} {f : Nat → Int} {row : Option Nat} (h : RwRow w base M g c f) (hg : w.grownBy w' row) (hne : some g ≠ row) : RwRow w' base M g c f := rw_move h (hg.block g (rw_block h).1 hne)
theorem rw_bel {w w' : World} {base M g c : Nat} {f : Nat → Int} (h : RwRow w base M g c f) (hb : Below w.heap.size w w') : RwRow w' base M g c f := rw_move h (hb.block g (rw_block h).1)
def chPos (n : Int) : Int := if n > 0 then n else 0
/-- What a row gives to the place j of a row that leaves out so many more. -/
def chTerm (out : Int) (vs : Nat → Int) (j : Nat) : Int := if out ≤ (j : Int) then chPos (vs ((j : Int) - out).toNat) else 0
/-- .. as far as its first i numbers go. -/
def chPart (out : Int) (vs : Nat → Int) (i j : Nat) : Int := if out ≤ (j : Int) ∧ (j : Int) - out < (i : Int) then chPos (vs ((j : Int) - out).toNat) else 0
def chSub (s t : Int) : Bool := Go.bits .andNot .i64 s t == 0
def chOut (p : List Int) (t : Int) : Int := wrap64 ((p.length : Int) - (impl_size.f t).getD 0)
def chNew (p ids : List Int) (v : Int → Nat → Int) (t : Int) (j : Nat) : Int := wrap64 (mpTot ids (fun s => chSub s t) (fun s => chTerm (chOut p t) (v s) j))
def chAt (p ids : List Int) : Nat → Int → Nat → Int
 | 0 => fun s j => if s = 0 then (if j = 0 then 1 else 0) else 0
 | q + 1 => chNew p ids (chAt p ids q)
def chM (p : List Int) (m : Int) : Int := wrap64 (wrap64 ((p.length : Int) * m) + 1)
structure ChOk (p ids : List Int) (m : Int) : Prop where
 ok : cntOk ids = true
 m0 : 0 ≤ m
 m1 : m ≤ 1000
 M1 : 1 ≤ chM p m
 M2 : chM p m ≤ 2000000
 sz : ∀ t ∈ ids, ∃ z, impl_size.f t = some z
 o1 : ∀ t ∈ ids, 0 ≤ chOut p t ∧ chOut p t ≤ 2000000
 rng : ∀ q : Nat, (q : Int) < m → ∀ t ∈ ids, ∀ s ∈ ids, chSub s t = true → ∀ i : Nat, (i : Int) < chM p m → 0 < chAt p ids q s i → (i : Int) + chOut p t < chM p m
def chOkB (p ids : List Int) (m : Int) : Bool := cntOk ids && (decide (0 ≤ m ∧ m ≤ 1000) && (decide (1 ≤ chM p m ∧ chM p m ≤ 2000000) && (ids.all (fun t => (impl_size.f t).isSome && decide (0 ≤ chOut p t ∧ chOut p t ≤ 2000000)) && (List.range m.toNat).all fun q => ids.all fun t => ids.all fun s => !chSub s t || (List.range (chM p m).toNat).all fun i => !decide (0 < chAt p ids q s i) || decide ((i : Int) + chOut p t < chM p m))))
theorem chOkB_iff (p ids : List Int) (m : Int) : chOkB p ids m = true ↔ ChOk p ids m := by
 unfold chOkB
 simp only [Bool.and_eq_true, decide_eq_true_eq, List.all_eq_true, List.mem_range, Bool.or_eq_true, Bool.not_eq_true', decide_eq_false_iff_not]
 constructor
 ·rintro ⟨h1, ⟨h2, h3⟩, ⟨h4, h5⟩, h6, h7⟩
  refine ⟨h1, h2, h3, h4, h5, fun t ht => Option.isSome_iff_exists.1 (h6 t ht).1, fun t ht => (h6 t ht).2, fun q hq t ht s hs hst i hi h0 => ?_⟩
  rcases h7 q (by omega) t ht s hs with h | h
  ·rw [hst] at h; cases h
  ·rcases h i (by omega) with h | h
   ·exact absurd h0 h
   ·exact h
 ·intro h
  refine ⟨h.ok, ⟨h.m0, h.m1⟩, ⟨h.M1, h.M2⟩, fun t ht => ⟨Option.isSome_iff_exists.2 (h.sz t ht), h.o1 t ht⟩, fun q hq t ht s hs => ?_⟩
  cases hst : chSub s t with
  | false => exact .inl rfl
  | true =>
   refine .inr fun i hi => ?_
   by_cases h0 : 0 < chAt p ids q s i
   ·exact .inr (h.rng q (by omega) t ht s hs hst i (by omega) h0)
   ·exact .inl h0
def chTot (p ids : List Int) (m : Int) (j : Nat) : Int := wrap64 (mpTot ids (fun _ => true) (fun s => chAt p ids m.toNat s j))
def impl_Poset_chains.f (k : Nat) (l0_0 : List Int) (a1 : Int) : Option (List Int) := (impl_Poset_ideals.f k l0_0).bind fun ids => if chOkB l0_0 ids a1 = true then some (rwL (chM l0_0 a1).toNat (chTot l0_0 ids a1)) else none
theorem impl_Poset_chains.mono : ∀ a0 a1 k, LeO (impl_Poset_chains.f k a0 a1) (impl_Poset_chains.f (k + 1) a0 a1) := fun a0 a1 k => LeO.bind (impl_Poset_ideals.mono _ _) (fun _ => LeO.refl _)
/-! The rows while they are drawn up. -/
def chS (p ids : List Int) (v : Int → Nat → Int) (t : Int) (left : Lit → Bool) (j : Nat) : Int := wrap64 (mpTot ids (fun s => chSub s t && !left (.int .i64 s)) (fun s => chTerm (chOut p t) (v s) j))
def chMid (p ids : List Int) (v : Int → Nat → Int) (i : Nat) (s : Int) (j : Nat) : Int := if s ∈ ids.take i then chNew p ids v s j else 0
theorem chPart_zero (out : Int) (vs : Nat → Int) (j : Nat) : chPart out vs 0 j = 0 := by
 unfold chPart
 rw [if_neg]
 omega
theorem chPart_step {out : Int} (ho : 0 ≤ out) (vs : Nat → Int) (i j : Nat) : chPart out vs (i + 1) j = chPart out vs i j + if (j : Int) = (i : Int) + out then chPos (vs i) else 0 := by
 unfold chPart
 by_cases e : (j : Int) = (i : Int) + out
 ·rw [if_pos e, if_pos (by omega), if_neg (by omega), show ((j : Int) - out).toNat = i by omega]
  omega
 ·rw [if_neg e]
  by_cases h : out ≤ (j : Int) ∧ (j : Int) - out < (i : Int)
  ·rw [if_pos h, if_pos (by omega)]; omega
  ·rw [if_neg h, if_neg (by omega)]; omega
theorem chPart_all {out : Int} (ho : 0 ≤ out) (vs : Nat → Int) {M j : Nat} (hj : j < M) : chPart out vs M j = chTerm out vs j := by
 unfold chPart chTerm
 by_cases h : out ≤ (j : Int)
 ·rw [if_pos h, if_pos (by omega)]
 ·rw [if_neg h, if_neg (by omega)]
theorem ch_start {p ids : List Int} {v : Int → Nat → Int} {w : World} {base top M : Nat} {D : DataW Unit} (h : RwReads w base top M D ids v) (t : Int) (j : Nat) : chS p ids v t (Maps.has D) j = 0 := by
 unfold chS
 rw [mpTot_none]
 ·unfold wrap64; decide
 ·intro s hs hp
  simp only [Bool.and_eq_true, Bool.not_eq_true'] at hp
  unfold chTerm
  rw [rw_absent h hs hp.2]
  split <;> rfl
theorem ch_step {p ids : List Int} {v : Int → Nat → Int} {t x : Int} {left : Lit → Bool} (hn : ids.Nodup) (hx : x ∈ ids) (hlx : left (.int .i64 x) = true) (j : Nat) :
 chS p ids v t (fun z => left z && !z.sameKey (.int .i64 x)) j = if chSub x t = true then wrap64 (chS p ids v t left j + chTerm (chOut p t) (v x) j) else chS p ids v t left j := by
 have := mpTot_step (v := fun s => chTerm (chOut p t) (v s) j) (x := x) (P := fun s => chSub s t && !left (.int .i64 s)) (P' := fun s => chSub s t && !(fun z : Lit => left z && !z.sameKey (.int .i64 x)) (.int .i64 s)) (by rw [hlx]; simp) (fun y hy => by show (_ && !((fun z : Lit => left z && !z.sameKey (.int .i64 x)) (.int .i64 y))) = _; rw [mp_strike left x y hy]) ids hn hx
 unfold chS
 rw [this]
 cases hb : chSub x t with
 | false =>
  rw [if_neg (by simp), if_neg (by simp)]
  congr 1; omega
 | true =>
  rw [if_pos (by rw [mp_struck]; rfl), if_pos rfl, mp_wrap_add]
theorem ch_end {p ids : List Int} {v : Int → Nat → Int} {t : Int} {left : Lit → Bool} (hl : ∀ kl, left kl = false) (j : Nat) : chS p ids v t left j = chNew p ids v t j := by
 unfold chS chNew
 congr 1
 exact mpTot_congr fun s hs => by rw [hl]; simp
theorem ch_mid {p ids : List Int} {v : Int → Nat → Int} {i : Nat} (hi : i < ids.length) (s : Int) (j : Nat) : (fun s' => if s' = ids.getD i 0 then chNew p ids v (ids.getD i 0) else chMid p ids v i s') s j = chMid p ids v (i + 1) s j := by
 have e0 : ids.take (i + 1) = ids.take i ++ [ids.getD i 0] := by
  rw [List.take_add_one, List.getElem?_eq_getElem hi, List.getD_eq_getElem?_getD, List.getElem?_eq_getElem hi]; rfl
 show (if s = ids.getD i 0 then chNew p ids v (ids.getD i 0) else chMid p ids v i s) j = _
 unfold chMid
 rw [e0]
 by_cases e : s = ids.getD i 0
 ·rw [if_pos e, if_pos (List.mem_append.2 (.inr (by rw [e]; exact List.mem_singleton.2 rfl))), e]
 ·rw [if_neg e]
  by_cases e2 : s ∈ ids.take i
  ·have h1 : s ∈ ids.take i ++ [ids.getD i 0] := List.mem_append.2 (.inl e2)
   rw [if_pos h1, if_pos e2]
  ·have h1 : ¬ s ∈ ids.take i ++ [ids.getD i 0] := fun h => by
    rcases List.mem_append.1 h with h | h
    ·exact e2 h
    ·exact e (List.mem_singleton.1 h)
   rw [if_neg h1, if_neg e2]
theorem ch_done {p ids : List Int} {v : Int → Nat → Int} {s : Int} (hs : s ∈ ids) (j : Nat) : chMid p ids v ids.length s j = chNew p ids v s j := by
 unfold chMid
 rw [List.take_length, if_pos hs]
/-- The totals: what the rows that have come give. -/
def chG (ids : List Int) (v : Int → Nat → Int) (left : Lit → Bool) (j : Nat) : Int := wrap64 (mpTot ids (fun s => !left (.int .i64 s)) (fun s => v s j))
theorem chG_step {ids : List Int} {v : Int → Nat → Int} {x : Int} {left : Lit → Bool} (hn : ids.Nodup) (hx : x ∈ ids) (hlx : left (.int .i64 x) = true) (j : Nat) :
 chG ids v (fun z => left z && !z.sameKey (.int .i64 x)) j = wrap64 (chG ids v left j + v x j) := by
 unfold chG
 rw [mp_wrap_add]
 congr 1
 have := mpTot_step (v := fun s => v s j) (x := x) (P := fun s => !left (.int .i64 s)) (P' := fun s => !(fun z : Lit => left z && !z.sameKey (.int .i64 x)) (.int .i64 s)) (by rw [hlx]; rfl) (fun y hy => by show (!((fun z : Lit => left z && !z.sameKey (.int .i64 x)) (.int .i64 y))) = _; rw [mp_strike left x y hy]) ids hn hx
 rw [this, if_pos (by show (!_) = true; rw [mp_struck]; rfl)]
theorem chG_start {ids : List Int} {v : Int → Nat → Int} {w : World} {base top M : Nat} {D : DataW Unit} (h : RwReads w base top M D ids v) (j : Nat) : chG ids v (Maps.has D) j = 0 := by
 unfold chG
 rw [mpTot_none]
 ·unfold wrap64; decide
 ·intro s hs hp
  exact rw_absent h hs (by simpa using hp) j
theorem chG_end {ids : List Int} {v : Int → Nat → Int} {left : Lit → Bool} (hl : ∀ kl, left kl = false) (j : Nat) : chG ids v left j = wrap64 (mpTot ids (fun _ => true) (fun s => v s j)) := by
 unfold chG
 congr 1
 exact mpTot_congr fun s hs => by rw [hl]; rfl
theorem ch_first (ids : List Int) (h : (0 : Int) ∈ ids) {w : World} {base top M g c : Nat} (hg : g < top) {p : List Int} (hr : RwRow w base M g c (fun j => if j = 0 then 1 else 0)) : RwReads w base top M ((DataW.map []).put (.int .i64 0) (rwD g c)) ids (chAt p ids 0) :=
 rw_congr (rw_store ⟨[], rfl⟩ (rw_empty w base top M ids) h hg hr) (fun s hs j _ => by
  unfold chAt
  by_cases e : s = 0
  ·rw [if_pos e, if_pos e]
  ·rw [if_neg e, if_neg e])
set_option maxHeartbeats 16000000 in
set_option maxRecDepth 100000 in
theorem impl_Poset_chains.calls (k : Nat) (A0_0 : Option Addr) (c0_0 : Nat) (l0_0 : List Int) (a1 : Int) (r : List Int) (w : World) (hr0_0 : Kd.C (Kd.int .i64) w A0_0 l0_0.length l0_0) (hc0_0 : l0_0.length ≤ c0_0) (h : impl_Poset_chains.f k l0_0 a1 = some r) :
 Calls Try.prog 105 #[.agg #[.slice A0_0 l0_0.length c0_0], .int .i64 a1] w fun e w' => ∃ v0_ : Value, e = .returned (v0_) ∧ Kd.R (Kd.int .i64) 3 w' w.heap.size (fun _ => True) v0_ r ∧ Below w.heap.size w w' := by
 have hu30 := Try.underlying26
 have hmm := @run_makeMap Try.prog
 unfold impl_Poset_chains.f at h
 obtain ⟨ids, hid, h⟩ := Option.bind_eq_some_iff.1 h
 split at h
 rotate_left
 ·cases h
 rename_i hokb
 have hok := (chOkB_iff l0_0 ids a1).1 hokb
 clear hokb
 have h := Option.some.inj h
 obtain ⟨hnd, h0, hlen, hwf⟩ := cntOk_parts hok.ok
 obtain ⟨nn, hnn⟩ : ∃ x : Int, x = (l0_0.length : Int) := ⟨_, rfl⟩
 obtain ⟨M, hM⟩ : ∃ x : Nat, x = (chM l0_0 a1).toNat := ⟨_, rfl⟩
 have hM2 : wrap64 (wrap64 (nn * a1) + 1) = (M : Int) := by rw [hM, hnn]; have := hok.M1; unfold chM at this ⊢; omega
 have hpos : 0 < ids.length := List.length_pos_of_mem h0
 have hM0 : (0 : Int) < (M : Int) := by rw [hM]; have := hok.M1; omega
 have hM1 : decide ((0 : Int) < (M : Int)) = true := decide_eq_true hM0
 have hM3 : 0 < M := by omega
 have HMM : Aside0 ((M : Int) = chM l0_0 a1 ∧ 1 ≤ M ∧ M ≤ 2000000) := ⟨by have := hok.M1; have := hok.M2; omega⟩
 rw [← hM] at h
 have HRES := am h
 have HM2 := am hM2
 have HNN : Aside0 (impl_Poset_n.f l0_0 = some nn) := ⟨by rw [hnn]; rfl⟩
 have HNN2 := am hnn
 have HOK := am hok
 have HID := am hid
 have HND := am hnd
 have HZ := am h0
 have HLEN := am hlen
 have HWF := am hwf
 have HP := am hpos
 have HR0 := am hr0_0
 have HC := am hc0_0
 clear h hid hnd h0 hlen hwf hpos hr0_0 hc0_0 hok hnn hM hM2
 obtain ⟨w0, hw0⟩ : ∃ W, W = (w.alloc (.cells #[.slice A0_0 l0_0.length c0_0] 26 (0, 0))) := ⟨_, rfl⟩
 have HP0 : Aside0 (w0.heap[w.heap.size]? = some (.cells #[.slice A0_0 l0_0.length c0_0] 26 (0, 0))) := ⟨by rw [hw0]; exact blk_new w _⟩
 have HB0 : Aside0 (Below w.heap.size w w0) := ⟨by rw [hw0]; exact below_alloc (Below.refl w.heap.size w) _⟩
 have HIDC : Aside0 (Calls Try.prog 127 #[.agg #[.slice A0_0 l0_0.length c0_0]] (w.alloc (.cells #[.slice A0_0 l0_0.length c0_0] 26 (0, 0))) fun e w' => ∃ v0_ : Value, e = .returned v0_ ∧ Kd.R (Kd.int .i64) 3 w' w0.heap.size (fun _ => True) v0_ ids ∧ Below w0.heap.size w0 w') := ⟨by rw [← hw0]; exact impl_Poset_ideals.calls k A0_0 c0_0 l0_0 ids w0 (Kd.C_below HR0.out HB0.out) HC.out HID.out⟩
 clear hw0
 go_enter Try.func105, Try.ntmps105
 go_wp2_with (first
  | (go_at_call 127; (with_reducible refine HIDC.out.mono ?_); rintro e w1 ⟨vi, rfl, hr1, hb1⟩; obtain ⟨g, cap, rfl, hgb, hgl, _⟩ := Kd.R_form hr1 HP.out; have HR1 := am hr1; have HB1 := am (HB0.out.trans (hb1.mono HB0.out.size)); have HPX := am (blk_below HP0.out hb1); have hcp1 : (w1.alloc (.map #[] 0)).cell? ⟨w.heap.size, 0, none⟩ = some (.slice A0_0 l0_0.length c0_0) := (blk_cell (blk_alloc HPX.out _) 0).trans rfl; clear hr1 hb1 hgb)
  | (go_at_call 101; (with_reducible refine (impl_Poset_n.calls A0_0 c0_0 l0_0 nn _ (Kd.C_below HR0.out (below_alloc HB1.out _)) HC.out HNN.out).mono ?_); rintro e w2 ⟨rfl, hb2⟩; have HB2 := am hb2; have HBW2 := am (((Below.refl w1.heap.size w1).alloc (Nat.le_refl _) (.map #[] 0)).trans (hb2.mono (by simp))); clear hb2)
  | ((with_reducible refine gate_dst (N := 30) rfl ?_); refine Kd.R_make (Kd.int .i64) (w0 := w1) w1.heap.size 3 rfl (N := 30) rfl 24 _ _ rfl _ rfl rfl Try.underlying24 (.int .i64 0) 8 info3 rfl (by decide) (by omega) 0 (ok := fun _ => True) (okp := fun _ => True) rfl (fun _ hk => hk) trivial ?h0 ?hl ?hb ?hbs ?_; (case h0 => have := HM2.out; omega); (case hl => have := HM2.out; have := HMM.out; omega); (case hb => exact HBW2.out); (case hbs => exact HBW2.out.size); intro v3 w3 hr3 hb3 hg3 hnew3; rw [HM2.out, Int.toNat_natCast, rwL_zero] at hr3; obtain ⟨g3, c3, ev3, hg3b, hg3l, _⟩ := Kd.R_form hr3 (by rw [rwL_len]; exact HMM.out.2.1); rw [rwL_len] at ev3; subst ev3; have HR3 : Aside0 (RwRow w3 w1.heap.size M g3 c3 fun _ => 0) := ⟨hr3⟩; have HB3 := am hb3; have HG3 := am hg3; have hc3 := (rw_cell HR3.out (i := 0) (by have := HMM.out; omega)).1; have hf3 := (rw_cell HR3.out (i := 0) (by have := HMM.out; omega)).2; clear hr3 hb3 hg3 hnew3 hg3b hg3l)
  | ((with_reducible refine gate_store (t := 3) (p := 32) rfl ?_); refine store_event (t := 3) (p := 32) (v := ?vo) (w1 := (w3.setCell ⟨g3, 0, none⟩ (.int .i64 1))) ?hg ?ho ?hn ?hr ?_; (case ho => rfl); (case hg => rfl); (case hn => rfl); (case hr => first | (go_simp; done) | (go_simp; rfl)); intro w4 hw4; have HPUT := am (rw_put HR3.out (i := 0) (by have := HMM.out; omega) 1); have HR4 : Aside0 (RwRow w4 w1.heap.size M g3 c3 fun j => if j = 0 then 1 else 0) := ⟨by rw [hw4]; exact HPUT.out.1⟩; have HG4 : Aside0 (w3.grownBy w4 (some g3)) := ⟨by rw [hw4]; exact HPUT.out.2⟩; have HMAP3 : Aside0 (w3.ownsMap Try.prog 3 (rwR M) w1.heap.size 0 (.map [])) := ⟨((World.ownsMap_made w1 Try.prog 3 (rwR M)).kept (mp_grown HB2.out) (by simp)).kept HG3.out (by simp)⟩; have HMAP4 : Aside0 (w4.ownsMap Try.prog 3 (rwR M) w1.heap.size 0 (.map [])) := ⟨HMAP3.out.kept HG4.out (rw_apart HMAP3.out HR3.out)⟩; clear hw4 hc3 hf3)
  | (at_mapUpdate; refine wpList_mapUpdate_own _ rfl _ _ _ 102 rfl 3 24 mp_law Try.underlying102 (rwR M) w1.heap.size 0 (.map []) rfl HMAP4.out (by unfold maxLen; omega) _ _ _ rfl rfl (keyOf_int_mk Try.underlying3 (by decide)) _ [] (rwR_mk M g3 c3) ?_; intro w5 hown5 hgrow5; have HOWN5 := am hown5; have HG5 := am hgrow5; clear hown5 hgrow5)
  | go_in)
 have HR5 : Aside0 (RwRow w5 w1.heap.size M g3 c3 fun j => if j = 0 then 1 else 0) := ⟨rw_kept HR4.out HG5.out (fun e => rw_apart HMAP4.out HR4.out e.symm)⟩
 have HRD5 : Aside0 (RwReads w5 w1.heap.size w5.heap.size M ((DataW.map []).put (.int .i64 0) (rwD g3 c3)) ids (chAt l0_0 ids 0)) := ⟨ch_first ids HZ.out (rw_block HR5.out).1 HR5.out⟩
 have HB5 : Aside0 (Below w1.heap.size w1 w5) := ⟨(HB3.out.grown HG4.out (by have := HB3.out.size; omega) (fun j hj => by cases hj; exact (rw_block HR3.out).2.1)).grown HG5.out (by have := HB3.out.size; have := HG4.out.size; omega) (fun j hj => by cases hj; exact Nat.le_refl _)⟩
 have HD5 : Aside0 (w5.ownsMap Try.prog 3 (rwR M) w1.heap.size ids.length ((DataW.map []).put (.int .i64 0) (rwD g3 c3))) := ⟨mp_normH mp_law HOWN5.out HRD5.out.has_⟩
 clear HB2 HBW2 HR3 HB3 HG3 HPUT HR4 HG4 HMAP3 HMAP4 HOWN5 HG5 HR5 hcp1 hmm
 have hmm := @run_makeMap Try.prog
 go_loopg [6, 36] (a1.toNat + 1) (fun kq v6 v36 w' => ∃ (q b : Nat) (D : DataW Unit), v6 = .map (some b) ∧ v36 = .int .i64 (q : Int) ∧ Aside0 (kq + q = a1.toNat + 1 ∧ (q : Int) ≤ a1) ∧ Aside0 (w1.heap.size ≤ b) ∧ Aside0 (w'.ownsMap Try.prog 3 (rwR M) b ids.length D) ∧ Aside0 (RwReads w' w1.heap.size w'.heap.size M D ids (chAt l0_0 ids q)) ∧ Aside0 (Below w1.heap.size w1 w'))
 case atStart => exact ⟨0, _, _, rfl, rfl, ⟨by have := HOK.out.m0; omega⟩, ⟨Nat.le_refl _⟩, HD5, HRD5, HB5⟩
 case round =>
  obtain ⟨q, b, D, rfl, rfl, HK, HBB, HD, HRD, HBW⟩ := hrel
  obtain ⟨WA, rfl⟩ : ∃ x, x = wr := ⟨wr, rfl⟩
  cases gk with
  | zero => exact absurd HK.out (by omega)
  | succ k1 =>
   clear HRD5 HB5 HD5
   by_cases hq : (q : Int) < a1
   ·have d1 : decide ((q : Int) < a1) = true := decide_eq_true hq
    have HQ := am hq
    go_wp2_with (fail)
    clear d1 hq
    go_loopg [41] (ids.length + 1) (fun kq v41 w' => ∃ (i : Nat) (D1 : DataW Unit), v41 = .int .i64 (i : Int) ∧ Aside0 (kq + i = ids.length + 1 ∧ i ≤ ids.length) ∧ Aside0 (w'.ownsMap Try.prog 3 (rwR M) WA.heap.size ids.length D1) ∧ Aside0 (RwReads w' w1.heap.size w'.heap.size M D1 ids (chMid l0_0 ids (chAt l0_0 ids q) i)) ∧ Aside0 (w'.ownsMap Try.prog 3 (rwR M) b ids.length D) ∧ Aside0 (RwReads w' w1.heap.size w'.heap.size M D ids (chAt l0_0 ids q)) ∧ Aside0 (Below w1.heap.size w1 w'))
    case atStart =>
     refine ⟨0, _, rfl, ⟨rfl, Nat.zero_le _⟩, ⟨(World.ownsMap_made WA Try.prog 3 _).mono (Nat.zero_le _)⟩, ⟨rw_congr (rw_empty _ _ _ _ _) (fun s _ j _ => by unfold chMid; rw [if_neg (by simp)])⟩, ⟨HD.out.alloc _⟩, ⟨?_⟩, ⟨HBW.out.alloc HBW.out.size _⟩⟩
     exact rw_up (rw_below HRD.out (Nat.le_refl _) (below_alloc (Below.refl _ _) _)) (by simp)
    case round =>
     obtain ⟨i, D1, rfl, HK2, HD1, HRD1, HD0, HRD0, HBW1⟩ := hrel
     obtain ⟨WB, rfl⟩ : ∃ x, x = wr := ⟨wr, rfl⟩
     cases gk with
     | zero => exact absurd HK2.out (by omega)
     | succ k2 =>
      by_cases hi : i < ids.length
      ·have hcell := mp_cell HR1.out HBW1.out i hi
       have hmem : ids.getD i 0 ∈ ids := by rw [List.getD_eq_getElem?_getD, List.getElem?_eq_getElem hi]; exact List.getElem_mem hi
       obtain ⟨t, ht⟩ : ∃ t, t = ids.getD i 0 := ⟨_, rfl⟩
       rw [← ht] at hcell hmem
       have HTE := am ht
       have HTM := am hmem
       obtain ⟨sz, hsz⟩ := HOK.out.sz t hmem
       have HSZ := am hsz
       obtain ⟨out, hout⟩ : ∃ x, x = wrap64 (nn - sz) := ⟨_, rfl⟩
       have HOE : Aside0 (out = chOut l0_0 t) := ⟨by unfold chOut; rw [hsz, Option.getD_some, ← HNN2.out]; exact hout⟩
       have HO1 : Aside0 (0 ≤ out ∧ out ≤ 2000000) := ⟨by rw [HOE.out]; exact HOK.out.o1 t hmem⟩
       have hout' : wrap64 (nn - sz) = out := hout.symm
       have hcpB : WB.cell? ⟨w.heap.size, 0, none⟩ = some (.slice A0_0 l0_0.length c0_0) := (blk_cell (blk_below HPX.out HBW1.out) 0).trans rfl
       clear ht hmem hsz hout
       have e1 : (0 : Int) ≤ (i : Int) := by omega
       have e2 : (i : Int) < (ids.length : Int) := by omega
       have e3 : decide ((i : Int) < (ids.length : Int)) = true := decide_eq_true e2
       have e4 : decide (i < ids.length) = true := decide_eq_true hi
       have e5 := eq_true hi
       have HI := am hi
       have HFIRST : Aside0 True := ⟨trivial⟩
       clear hi
       go_wp2_with (first
        | (go_at_call 101; clear HFIRST; (with_reducible refine (impl_Poset_n.calls A0_0 c0_0 l0_0 nn _ (Kd.C_below HR0.out (HB1.out.trans (HBW1.out.mono HB1.out.size))) HC.out HNN.out).mono ?_); rintro e w2 ⟨rfl, hb2⟩; have HB2 := am hb2; have HBW2 := am (HBW1.out.trans (hb2.mono HBW1.out.size)); clear hb2)
        | ((with_reducible refine gate_dst (N := 50) rfl ?_); refine Kd.R_make (Kd.int .i64) (w0 := w1) w1.heap.size 3 rfl (N := 50) rfl 24 _ _ rfl _ rfl rfl Try.underlying24 (.int .i64 0) 8 info3 rfl (by decide) (by omega) 0 (ok := fun _ => True) (okp := fun _ => True) rfl (fun _ hk => hk) trivial ?h0 ?hl ?hb ?hbs ?_; (case h0 => have := HM2.out; omega); (case hl => have := HM2.out; have := HMM.out; omega); (case hb => exact HBW2.out); (case hbs => exact HBW2.out.size); intro v3 w3 hr3 hb3 hg3 hnew3; rw [HM2.out, Int.toNat_natCast, rwL_zero] at hr3; obtain ⟨go, co, ev3, hg3b, hg3l, _⟩ := Kd.R_form hr3 (by rw [rwL_len]; exact HMM.out.2.1); rw [rwL_len] at ev3; subst ev3; have HR3 : Aside0 (RwRow w3 w1.heap.size M go co fun _ => 0) := ⟨hr3⟩; have HB3 := am hb3; have HG3 := am hg3; have HGO : Aside0 (w2.heap.size ≤ go) := ⟨by obtain ⟨x, hx1, hx2⟩ := hnew3; have hx3 : some go = some x := hx1; injection hx3 with hx3; omega⟩; have hcp3 : w3.cell? ⟨w.heap.size, 0, none⟩ = some (.slice A0_0 l0_0.length c0_0) := (blk_cell (blk_below HPX.out HB3.out) 0).trans rfl; clear hr3 hb3 hg3 hnew3 hg3b hg3l)
        | (go_at_call 101; (with_reducible refine (impl_Poset_n.calls A0_0 c0_0 l0_0 nn _ (Kd.C_below HR0.out (HB1.out.trans (HB3.out.mono HB1.out.size))) HC.out HNN.out).mono ?_); rintro e w4 ⟨rfl, hb4⟩; have HB4 := am hb4; clear hb4)
        | (go_at_call 141; (with_reducible refine (impl_size.calls t sz _ HSZ.out).mono ?_); rintro e w5 ⟨rfl, hd5⟩; have HB5 : Aside0 (Below w4.heap.size w4 w5) := ⟨by obtain ⟨nd, rfl⟩ := hd5; exact pw_below_drewN (Below.refl _ _) nd⟩; have HG35 : Aside0 (w2.grownBy w5 none) := ⟨(HG3.out.andThen (mp_grown HB4.out) (by simp)).andThen (mp_grown HB5.out) (by simp)⟩; have HB25 : Aside0 (Below WB.heap.size WB w5) := ⟨HB2.out.trans (Below.mono ⟨HG35.out.os, HG35.out.tape, HG35.out.output, HG35.out.size, fun j hj => HG35.out.block j hj (by simp)⟩ HB2.out.size)⟩; have HD05 := am (HD0.out.kept (mp_grown HB25.out) (by simp)); clear hd5)
        | (at_range; refine wpList_range_own _ rfl _ 102 rfl 3 24 mp_law Try.underlying102 _ b ids.length D rfl HD05.out ?_; intro w6 hrg0 hg0 hs0; have HRG0 := am hrg0; have HG0 := am hg0; clear hrg0 hg0 hs0)
        | go_in)
       go_frame
       clear hcell e1 e2 e3 e4 e5 hcpB hcp3
       obtain ⟨ri, hri⟩ : ∃ x, x = w5.heap.size := ⟨_, rfl⟩
       rw [← hri] at HRG0 ⊢
       have HNUM : Aside0 (WA.heap.size < WB.heap.size ∧ WB.heap.size ≤ ri ∧ b < WA.heap.size ∧ w1.heap.size ≤ WA.heap.size ∧ WB.heap.size ≤ go ∧ WB.heap.size ≤ w6.heap.size) := ⟨by have h1 := HD1.out.lt; have h2 := HD.out.lt; have h3 := HBW.out.size; have h4 := HB25.out.size; have h5 := HGO.out; have h6 := HB2.out.size; have h7 := HG0.out.size; omega⟩
       have HROW6 : Aside0 (RwRow w6 w1.heap.size M go co (chS l0_0 ids (chAt l0_0 ids q) t (Maps.has D))) := ⟨rw_fun (rw_kept (rw_bel (rw_bel HR3.out HB4.out) HB5.out) HG0.out (by simp)) (fun j _ => (ch_start HRD0.out t j).symm)⟩
       have HD16 : Aside0 (w6.ownsMap Try.prog 3 (rwR M) WA.heap.size ids.length D1) := ⟨(HD1.out.kept (mp_grown HB25.out) (by simp)).kept HG0.out (by simp)⟩
       have HRD16 : Aside0 (RwReads w6 w1.heap.size WB.heap.size M D1 ids (chMid l0_0 ids (chAt l0_0 ids q) i)) := ⟨rw_grown (rw_below HRD1.out (Nat.le_refl _) HB25.out) HB25.out.size HG0.out (fun k hk => by cases hk)⟩
       have HRD06 : Aside0 (RwReads w6 w1.heap.size WB.heap.size M D ids (chAt l0_0 ids q)) := ⟨rw_grown (rw_below HRD0.out (Nat.le_refl _) HB25.out) HB25.out.size HG0.out (fun k hk => by cases hk)⟩
       have HBW6 : Aside0 (Below w1.heap.size w1 w6) := ⟨(HBW1.out.trans (HB25.out.mono HBW1.out.size)).grown HG0.out (by have := HBW1.out.size; have := HB25.out.size; omega) (fun j hj => by cases hj)⟩
       rw [hout']
       clear hri HB2 HBW2 HR3 HB3 HG3 HGO HB4 HB5 HG35 HB25 HD05 HG0 HSZ hout'
       go_loopg [13] (Maps.size D + 1) (fun kq _ w' => ∃ (left : Lit → Bool) (cnt : Nat), Aside0 (kq = cnt + 1) ∧ Aside0 (w'.ranges Try.prog 3 (rwR M) b ri ids.length D left cnt) ∧ Aside0 (RwRow w' w1.heap.size M go co (chS l0_0 ids (chAt l0_0 ids q) t left)) ∧ Aside0 (w'.ownsMap Try.prog 3 (rwR M) WA.heap.size ids.length D1) ∧ Aside0 (RwReads w' w1.heap.size WB.heap.size M D1 ids (chMid l0_0 ids (chAt l0_0 ids q) i)) ∧ Aside0 (RwReads w' w1.heap.size WB.heap.size M D ids (chAt l0_0 ids q)) ∧ Aside0 (Below w1.heap.size w1 w' ∧ WB.heap.size ≤ w'.heap.size))
       case atStart => exact ⟨_, _, ⟨rfl⟩, HRG0, HROW6, HD16, HRD16, HRD06, ⟨HBW6.out, HNUM.out.2.2.2.2.2⟩⟩
       case round =>
        obtain ⟨left, cnt, HK3, HRG, HROW, HD1c, HRD1c, HRD0c, HBWc⟩ := hrel
        obtain ⟨WC, rfl⟩ : ∃ x, x = wr := ⟨wr, rfl⟩
        clear HRG0 HROW6 HD16 HRD16 HRD06 HBW6
        go_wp2_with (first
         | (at_next; refine wpList_next_ranges _ rfl _ rfl 3 mp_law (rwR M) (Value.int .i64) (fun x : Nat × Nat => Value.slice (some ⟨x.1, 0, none⟩) M x.2) rw_invK (rw_invV M) b ri ids.length D left cnt rfl HRG.out ?_ ?_)
         | go_in)
        ·intro hc0 hl0
         have hwi : wrap64 ((i : Int) + 1) = ((i + 1 : Nat) : Int) := by unfold wrap64; have := HI.out; have := HLEN.out; omega
         have HL0 := am hl0
         clear hc0 hl0
         go_wp2_with (first
          | (at_mapUpdate; refine wpList_mapUpdate_own _ rfl _ _ _ 102 rfl 3 24 mp_law Try.underlying102 (rwR M) WA.heap.size ids.length D1 rfl HD1c.out (by have := HLEN.out; unfold maxLen; omega) _ _ _ rfl rfl (keyOf_int_mk Try.underlying3 (mp_wf (HWF.out t HTM.out))) _ [] (rwR_mk M go co) ?_; intro wE hownE hgrowE; have HOWNE := am hownE; have HGE := am hgrowE; clear hownE hgrowE)
          | go_in)
         have HROWE : Aside0 (RwRow wE w1.heap.size M go co (chNew l0_0 ids (chAt l0_0 ids q) t)) := ⟨rw_fun (rw_kept HROW.out HGE.out (fun e => rw_apart HD1c.out HROW.out e.symm)) (fun j _ => ch_end HL0.out j)⟩
         have HRDE : Aside0 (RwReads wE w1.heap.size wE.heap.size M (D1.put (.int .i64 t) (rwD go co)) ids (chMid l0_0 ids (chAt l0_0 ids q) (i + 1))) := ⟨rw_congr (rw_store HD1c.out.isMap (rw_up (rw_grown HRD1c.out HBWc.out.2 HGE.out (fun k hk => by cases hk; exact .inr (rw_nomap HD1c.out))) (by have := HBWc.out.2; have := HGE.out.size; omega)) HTM.out (rw_block HROWE.out).1 HROWE.out) (fun s hs j _ => by have := ch_mid (p := l0_0) (v := chAt l0_0 ids q) HI.out s j; rw [← HTE.out] at this; exact this)⟩
         go_roundg k2
         case measure => omega
         case rel =>
          exact ⟨i + 1, _, by rw [hwi], ⟨by have := HK2.out; have := HI.out; omega⟩, ⟨mp_normH mp_law HOWNE.out HRDE.out.has_⟩, HRDE, ⟨HRG.out.owns.kept HGE.out (by have := HNUM.out; intro e; have := Option.some.inj e; omega)⟩, ⟨rw_up (rw_grown HRD0c.out HBWc.out.2 HGE.out (fun k hk => by cases hk; exact .inr (rw_nomap HD1c.out))) (by have := HBWc.out.2; have := HGE.out.size; omega)⟩, ⟨HBWc.out.1.grown HGE.out HBWc.out.1.size (fun j hj => by cases hj; exact HNUM.out.2.2.2.1)⟩⟩
        ·intro x xg xc kl d ps wn cnt1 hkx hlx hRv hat hrg1 hlt hg1 hs1 hen
         rw [rwR_mk] at hRv
         obtain ⟨rfl, rfl⟩ : rwD xg xc = d ∧ [] = ps := by simpa using hRv
         obtain ⟨x', ex, rfl, hwx⟩ := Maps.keyOf_int_inv Try.underlying3 hkx
         cases ex
         have HX := am (rw_val HRD0c.out (Maps.has_true_of_atKey hat) hat)
         have HXR : Aside0 (RwRow wn w1.heap.size M xg xc (chAt l0_0 ids q x)) := ⟨rw_kept HX.out.2.2 hg1 (fun e => by have := HNUM.out; have := HX.out.2.1; have := Option.some.inj e; omega)⟩
         have HLX := am hlx
         have HRG1 := am hrg1
         have HLT := am hlt
         have HROWn : Aside0 (RwRow wn w1.heap.size M go co (chS l0_0 ids (chAt l0_0 ids q) t left)) := ⟨rw_kept HROW.out hg1 (fun e => rw_apart_iter HRG.out HROW.out e.symm)⟩
         have HD1n := am (HD1c.out.kept hg1 (by have := HNUM.out; intro e; have := Option.some.inj e; omega))
         have HRD1n := am (rw_grown HRD1c.out HBWc.out.2 hg1 (fun k hk => by cases hk; exact .inr (rw_noiter HRG.out)))
         have HRD0n := am (rw_grown HRD0c.out HBWc.out.2 hg1 (fun k hk => by cases hk; exact .inr (rw_noiter HRG.out)))
         have HBWn : Aside0 (Below w1.heap.size w1 wn ∧ WB.heap.size ≤ wn.heap.size) := ⟨HBWc.out.1.grown hg1 HBWc.out.1.size (fun j hj => by cases hj; have := HNUM.out; omega), by have := HBWc.out.2; have := hg1.size; omega⟩
         clear hkx hlx hRv hat hrg1 hlt hg1 hs1 hwx
         cases hb : (Go.bits .andNot .i64 x t == 0) with
         | false =>
          have HB0 : Aside0 (chSub x t = false) := ⟨hb⟩
          have hbn : (Go.bits .andNot .i64 x t != 0) = true := by unfold bne; rw [hb]; rfl
          go_wp2_with (fail)
          go_roundg (cnt1 + 1)
          case measure => have := HK3.out; have := HLT.out; omega
          case rel => exact ⟨_, cnt1, ⟨rfl⟩, HRG1, ⟨rw_fun HROWn.out (fun j _ => by rw [ch_step HND.out HX.out.1 HLX.out j, if_neg (by rw [HB0.out]; simp)])⟩, HD1n, HRD1n, HRD0n, HBWn⟩
         | true =>
          have HB0 : Aside0 (chSub x t = true) := ⟨hb⟩
          have hbn : (Go.bits .andNot .i64 x t != 0) = false := by unfold bne; rw [hb]; rfl
          go_wp2_with (fail)
          clear hb hbn hen
          go_loopg [69] (M + 1) (fun kq v69 w' => ∃ (j : Nat), v69 = .int .i64 (j : Int) ∧ Aside0 (kq + j = M + 1 ∧ j ≤ M) ∧ Aside0 (RwRow w' w1.heap.size M go co (fun y => wrap64 (chS l0_0 ids (chAt l0_0 ids q) t left y + chPart out (chAt l0_0 ids q x) j y))) ∧ Aside0 (wn.grownBy w' (some go)))
          case atStart => exact ⟨0, rfl, ⟨rfl, Nat.zero_le _⟩, ⟨rw_fun HROWn.out (fun y _ => by rw [chPart_zero]; unfold chS; rw [mp_wrap_add, Int.add_zero])⟩, ⟨World.grownBy.refl _ _⟩⟩
          case round =>
           obtain ⟨j, rfl, HK4, HROWk, HGK⟩ := hrel
           obtain ⟨WD, rfl⟩ : ∃ x, x = wr := ⟨wr, rfl⟩
           cases gk with
           | zero => exact absurd HK4.out (by omega)
           | succ k4 =>
            by_cases hj : j < M
            ·have HJ := am hj
             have HXRk := am (rw_kept HXR.out HGK.out (fun e => by have := HNUM.out; have := HX.out.2.1; have := Option.some.inj e; omega))
             have hcl := (rw_cell HXRk.out hj).1
             obtain ⟨n, hn⟩ : ∃ n, n = chAt l0_0 ids q x j := ⟨_, rfl⟩
             rw [← hn] at hcl
             have HNE := am hn
             have e1 : (0 : Int) ≤ (j : Int) := by omega
             have e2 : (j : Int) < (M : Int) := by omega
             have e3 : decide ((j : Int) < (M : Int)) = true := decide_eq_true e2
             have e4 : decide (j < M) = true := decide_eq_true hj
             have e5 := eq_true hj
             have HWJ : Aside0 (wrap64 ((j : Int) + 1) = ((j + 1 : Nat) : Int)) := ⟨by unfold wrap64; have := HMM.out; omega⟩
             clear hn hj
             by_cases hp : 0 < n
             ·have p1 : decide (0 < n) = true := decide_eq_true hp
              have p2 : decide (n > 0) = true := decide_eq_true hp
              obtain ⟨jo, hjo⟩ : ∃ x : Nat, x = ((j : Int) + out).toNat := ⟨_, rfl⟩
              have HJO : Aside0 ((jo : Int) = (j : Int) + out ∧ jo < M) := ⟨by
               have h1 := HO1.out
               have h2 := HOK.out.rng q HQ.out t HTM.out x HX.out.1 HB0.out j (by have := HMM.out; have := HJ.out; omega) (by rw [← HNE.out]; exact hp)
               rw [← HOE.out] at h2
               have := HMM.out
               omega⟩
              have hidx : wrap64 ((j : Int) + out) = (jo : Int) := by have h1 := HJO.out; have h2 := HMM.out; unfold wrap64; omega
              have hco := (rw_cell HROWk.out HJO.out.2).1
              have hfo := (rw_cell HROWk.out HJO.out.2).2
              obtain ⟨uo, huo⟩ : ∃ n, n = wrap64 (chS l0_0 ids (chAt l0_0 ids q) t left jo + chPart out (chAt l0_0 ids q x) j jo) := ⟨_, rfl⟩
              rw [← huo] at hco
              have HUO := am huo
              have f1 : (0 : Int) ≤ (jo : Int) := by omega
              have f2 : (jo : Int) < (M : Int) := by have := HJO.out; omega
              have f3 : decide ((jo : Int) < (M : Int)) = true := decide_eq_true f2
              have f4 : decide (jo < M) = true := decide_eq_true HJO.out.2
              have f5 := eq_true HJO.out.2
              clear hjo huo
              have HPUT := am (rw_put HROWk.out HJO.out.2 (wrap64 (uo + n)))
              go_wp2_with (fail)
              go_roundg k4
              case measure => omega
              case rel =>
               refine ⟨j + 1, by rw [HWJ.out], ⟨by have := HK4.out; have := HJ.out; omega⟩, ⟨rw_fun HPUT.out.1 (fun y hy => ?_)⟩, ⟨HGK.out.trans HPUT.out.2⟩⟩
               show (if y = jo then wrap64 (uo + n) else _) = wrap64 (_ + chPart out (chAt l0_0 ids q x) (j + 1) y)
               rw [chPart_step HO1.out.1, ← HNE.out]
               have hpn : chPos n = n := by unfold chPos; rw [if_pos hp]
               by_cases ey : y = jo
               ·rw [if_pos ey, if_pos (by rw [ey]; exact HJO.out.1), HUO.out, hpn, mp_wrap_add, ey]
                congr 1; omega
               ·rw [if_neg ey, if_neg (fun e => ey (by have := HJO.out.1; omega)), Int.add_zero]
             ·have p1 : decide (0 < n) = false := decide_eq_false hp
              have p2 : decide (n > 0) = false := decide_eq_false hp
              go_wp2_with (fail)
              go_roundg k4
              case measure => omega
              case rel =>
               refine ⟨j + 1, by rw [HWJ.out], ⟨by have := HK4.out; have := HJ.out; omega⟩, ⟨rw_fun HROWk.out (fun y hy => ?_)⟩, HGK⟩
               show _ = wrap64 (_ + chPart out (chAt l0_0 ids q x) (j + 1) y)
               rw [chPart_step HO1.out.1, ← HNE.out]
               have hpn : chPos n = 0 := by unfold chPos; rw [if_neg (by omega)]
               rw [hpn, ite_self, Int.add_zero]
            ·have HJE : Aside0 (j = M) := ⟨by have := HK4.out; omega⟩
             have e3 : decide ((j : Int) < (M : Int)) = false := decide_eq_false (by omega)
             have e4 : decide (j < M) = false := decide_eq_false hj
             have e5 : (j < M) = False := eq_false hj
             clear hj
             go_wp2_with (fail)
             go_roundg (cnt1 + 1)
             case measure => have := HK3.out; have := HLT.out; omega
             case rel =>
              refine ⟨_, cnt1, ⟨rfl⟩, ⟨HRG1.out.kept HGK.out (rw_apart HRG1.out.owns HROWn.out) (rw_apart_iter HRG1.out HROWn.out)⟩, ⟨rw_fun HROWk.out (fun y hy => ?_)⟩, ⟨HD1n.out.kept HGK.out (rw_apart HD1n.out HROWn.out)⟩, ⟨rw_grown HRD1n.out HBWn.out.2 HGK.out (fun k hk => by cases hk; exact .inl HNUM.out.2.2.2.2.1)⟩, ⟨rw_grown HRD0n.out HBWn.out.2 HGK.out (fun k hk => by cases hk; exact .inl HNUM.out.2.2.2.2.1)⟩, ⟨HBWn.out.1.grown HGK.out HBWn.out.1.size (fun z hz => by cases hz; have := HNUM.out; omega), by have := HBWn.out.2; have := HGK.out.size; omega⟩⟩
              rw [HJE.out, chPart_all HO1.out.1 _ hy, ch_step HND.out HX.out.1 HLX.out y, if_pos HB0.out, HOE.out]
      ·have hi' : i = ids.length := by have := HK2.out; omega
       have e3 : decide ((i : Int) < (ids.length : Int)) = false := decide_eq_false (by omega)
       have e4 : decide (i < ids.length) = false := decide_eq_false hi
       have e5 : (i < ids.length) = False := eq_false hi
       have HWQ : Aside0 (wrap64 ((q : Int) + 1) = ((q + 1 : Nat) : Int)) := ⟨by unfold wrap64; have := HQ.out; have := HOK.out.m1; omega⟩
       have HE := am hi'
       clear hi hi'
       go_wp2_with (fail)
       go_roundg k1
       case measure => omega
       case rel => exact ⟨q + 1, _, D1, rfl, by rw [HWQ.out], ⟨by have := HK.out; have := HQ.out; omega⟩, ⟨HBW.out.size⟩, HD1, ⟨rw_congr HRD1.out (fun s hs j _ => by rw [HE.out, ch_done hs j]; rfl)⟩, HBW1⟩
   ·have HQE : Aside0 ((q : Int) = a1) := ⟨by have := HK.out; omega⟩
    have d1 : decide ((q : Int) < a1) = false := decide_eq_false hq
    have hcpA : WA.cell? ⟨w.heap.size, 0, none⟩ = some (.slice A0_0 l0_0.length c0_0) := (blk_cell (blk_below HPX.out HBW.out) 0).trans rfl
    clear hq
    go_wp2_with (first
     | (go_at_call 101; (with_reducible refine (impl_Poset_n.calls A0_0 c0_0 l0_0 nn _ (Kd.C_below HR0.out (HB1.out.trans (HBW.out.mono HB1.out.size))) HC.out HNN.out).mono ?_); rintro e w2 ⟨rfl, hb2⟩; have HB2 := am hb2; have HBW2 := am (HBW.out.trans (hb2.mono HBW.out.size)); clear hb2)
     | ((with_reducible refine gate_dst (N := 97) rfl ?_); refine Kd.R_make (Kd.int .i64) (w0 := w1) w1.heap.size 3 rfl (N := 97) rfl 24 _ _ rfl _ rfl rfl Try.underlying24 (.int .i64 0) 8 info3 rfl (by decide) (by omega) 0 (ok := fun _ => True) (okp := fun _ => True) rfl (fun _ hk => hk) trivial ?h0 ?hl ?hb ?hbs ?_; (case h0 => have := HM2.out; omega); (case hl => have := HM2.out; have := HMM.out; omega); (case hb => exact HBW2.out); (case hbs => exact HBW2.out.size); intro v3 w3 hr3 hb3 hg3 hnew3; rw [HM2.out, Int.toNat_natCast, rwL_zero] at hr3; obtain ⟨go, co, ev3, hg3b, hg3l, _⟩ := Kd.R_form hr3 (by rw [rwL_len]; exact HMM.out.2.1); rw [rwL_len] at ev3; subst ev3; have HR3 : Aside0 (RwRow w3 w1.heap.size M go co fun _ => 0) := ⟨hr3⟩; have HB3 := am hb3; have HG3 := am hg3; have HGO : Aside0 (w2.heap.size ≤ go) := ⟨by obtain ⟨x, hx1, hx2⟩ := hnew3; have hx3 : some go = some x := hx1; injection hx3 with hx3; omega⟩; have HD03 := am ((HD.out.kept (mp_grown HB2.out) (by simp)).kept hg3 (by simp)); clear hr3 hb3 hg3 hnew3 hg3b hg3l)
     | (at_range; refine wpList_range_own _ rfl _ 102 rfl 3 24 mp_law Try.underlying102 _ b ids.length D rfl HD03.out ?_; intro w6 hrg0 hg0 hs0; have HRG0 := am hrg0; have HG0 := am hg0; clear hrg0 hg0 hs0)
     | go_in)
    go_frame
    clear d1 hcpA
    obtain ⟨ri, hri⟩ : ∃ x, x = w3.heap.size := ⟨_, rfl⟩
    rw [← hri] at HRG0 ⊢
    have HNUM : Aside0 (WA.heap.size ≤ ri ∧ b < WA.heap.size ∧ w1.heap.size ≤ WA.heap.size ∧ WA.heap.size ≤ go ∧ WA.heap.size ≤ w6.heap.size) := ⟨by have h2 := HD.out.lt; have h3 := HBW.out.size; have h5 := HGO.out; have h6 := HB2.out.size; have h7 := HG0.out.size; have h8 := HG3.out.size; omega⟩
    have HTOT6 : Aside0 (RwRow w6 w1.heap.size M go co (chG ids (chAt l0_0 ids q) (Maps.has D))) := ⟨rw_fun (rw_kept HR3.out HG0.out (by simp)) (fun j _ => (chG_start HRD.out j).symm)⟩
    have HRD6 : Aside0 (RwReads w6 w1.heap.size WA.heap.size M D ids (chAt l0_0 ids q)) := ⟨rw_grown (rw_grown (rw_below HRD.out (Nat.le_refl _) HB2.out) HB2.out.size HG3.out (fun k hk => by cases hk)) (by have := HB2.out.size; have := HG3.out.size; omega) HG0.out (fun k hk => by cases hk)⟩
    have HBW6 : Aside0 (Below w1.heap.size w1 w6) := ⟨HB3.out.grown HG0.out HB3.out.size (fun j hj => by cases hj)⟩
    clear hri HB2 HBW2 HR3 HB3 HG3 HGO HD03 HG0
    go_loopg [19] (Maps.size D + 1) (fun kq _ w' => ∃ (left : Lit → Bool) (cnt : Nat), Aside0 (kq = cnt + 1) ∧ Aside0 (w'.ranges Try.prog 3 (rwR M) b ri ids.length D left cnt) ∧ Aside0 (RwRow w' w1.heap.size M go co (chG ids (chAt l0_0 ids q) left)) ∧ Aside0 (RwReads w' w1.heap.size WA.heap.size M D ids (chAt l0_0 ids q)) ∧ Aside0 (Below w1.heap.size w1 w' ∧ WA.heap.size ≤ w'.heap.size))
    case atStart => exact ⟨_, _, ⟨rfl⟩, HRG0, HTOT6, HRD6, ⟨HBW6.out, HNUM.out.2.2.2.2⟩⟩
    case round =>
     obtain ⟨left, cnt, HK3, HRG, HROW, HRD0c, HBWc⟩ := hrel
     obtain ⟨WC, rfl⟩ : ∃ x, x = wr := ⟨wr, rfl⟩
     clear HRG0 HTOT6 HRD6 HBW6
     go_wp2_with (first
      | (at_next; refine wpList_next_ranges _ rfl _ rfl 3 mp_law (rwR M) (Value.int .i64) (fun x : Nat × Nat => Value.slice (some ⟨x.1, 0, none⟩) M x.2) rw_invK (rw_invV M) b ri ids.length D left cnt rfl HRG.out ?_ ?_)
      | go_in)
     ·intro hc0 hl0
      have HL0 := am hl0
      clear hc0 hl0
      go_wp2_with (fail)
      go_ret
      have e : rwL M (chG ids (chAt l0_0 ids q) left) = r := by
       rw [← HRES.out]
       refine rwL_congr fun j _ => ?_
       rw [chG_end HL0.out]
       unfold chTot
       rw [← HQE.out, Int.toNat_natCast]
      have hR := HROW.out
      unfold RwRow at hR
      rw [e] at hR
      exact ⟨_, rfl, Kd.R_lower hR HB1.out.size, HB1.out.trans (HBWc.out.1.mono HB1.out.size)⟩
     ·intro x xg xc kl d ps wn cnt1 hkx hlx hRv hat hrg1 hlt hg1 hs1 hen
      rw [rwR_mk] at hRv
      obtain ⟨rfl, rfl⟩ : rwD xg xc = d ∧ [] = ps := by simpa using hRv
      obtain ⟨x', ex, rfl, hwx⟩ := Maps.keyOf_int_inv Try.underlying3 hkx
      cases ex
      have HX := am (rw_val HRD0c.out (Maps.has_true_of_atKey hat) hat)
      have HXR : Aside0 (RwRow wn w1.heap.size M xg xc (chAt l0_0 ids q x)) := ⟨rw_kept HX.out.2.2 hg1 (fun e => by have := HNUM.out; have := HX.out.2.1; have := Option.some.inj e; omega)⟩
      have HLX := am hlx
      have HRG1 := am hrg1
      have HLT := am hlt
      have HROWn : Aside0 (RwRow wn w1.heap.size M go co (chG ids (chAt l0_0 ids q) left)) := ⟨rw_kept HROW.out hg1 (fun e => rw_apart_iter HRG.out HROW.out e.symm)⟩
      have HRD0n := am (rw_grown HRD0c.out HBWc.out.2 hg1 (fun k hk => by cases hk; exact .inr (rw_noiter HRG.out)))
      have HBWn : Aside0 (Below w1.heap.size w1 wn ∧ WA.heap.size ≤ wn.heap.size) := ⟨HBWc.out.1.grown hg1 HBWc.out.1.size (fun j hj => by cases hj; have := HNUM.out; omega), by have := HBWc.out.2; have := hg1.size; omega⟩
      clear hkx hlx hRv hat hrg1 hlt hg1 hs1 hwx
      go_wp2_with (fail)
      clear hen
      go_loopg [106] (M + 1) (fun kq v106 w' => ∃ (j : Nat), v106 = .int .i64 (j : Int) ∧ Aside0 (kq + j = M + 1 ∧ j ≤ M) ∧ Aside0 (RwRow w' w1.heap.size M go co (fun y => if y < j then wrap64 (chG ids (chAt l0_0 ids q) left y + chAt l0_0 ids q x y) else chG ids (chAt l0_0 ids q) left y)) ∧ Aside0 (wn.grownBy w' (some go)))
      case atStart => exact ⟨0, rfl, ⟨rfl, Nat.zero_le _⟩, ⟨rw_fun HROWn.out (fun y _ => by rw [if_neg (Nat.not_lt_zero _)])⟩, ⟨World.grownBy.refl _ _⟩⟩
      case round =>
       obtain ⟨j, rfl, HK4, HROWk, HGK⟩ := hrel
       obtain ⟨WD, rfl⟩ : ∃ x, x = wr := ⟨wr, rfl⟩
       cases gk with
       | zero => exact absurd HK4.out (by omega)
       | succ k4 =>
        by_cases hj : j < M
        ·have HJ := am hj
         have HXRk := am (rw_kept HXR.out HGK.out (fun e => by have := HNUM.out; have := HX.out.2.1; have := Option.some.inj e; omega))
         have hcl := (rw_cell HXRk.out hj).1
         have hco := (rw_cell HROWk.out hj).1
         have hfo := (rw_cell HROWk.out hj).2
         rw [if_neg (Nat.lt_irrefl j)] at hco
         obtain ⟨n, hn⟩ : ∃ n, n = chAt l0_0 ids q x j := ⟨_, rfl⟩
         obtain ⟨uo, huo⟩ : ∃ n, n = chG ids (chAt l0_0 ids q) left j := ⟨_, rfl⟩
         rw [← hn] at hcl
         rw [← huo] at hco
         have HNE := am hn
         have HUO := am huo
         have e1 : (0 : Int) ≤ (j : Int) := by omega
         have e2 : (j : Int) < (M : Int) := by omega
         have e3 : decide ((j : Int) < (M : Int)) = true := decide_eq_true e2
         have e4 : decide (j < M) = true := decide_eq_true hj
         have e5 := eq_true hj
         have HWJ : Aside0 (wrap64 ((j : Int) + 1) = ((j + 1 : Nat) : Int)) := ⟨by unfold wrap64; have := HMM.out; omega⟩
         clear hn hj huo
         have HPUT := am (rw_put HROWk.out HJ.out (wrap64 (uo + n)))
         go_wp2_with (fail)
         go_roundg k4
         case measure => omega
         case rel =>
          refine ⟨j + 1, by rw [HWJ.out], ⟨by have := HK4.out; have := HJ.out; omega⟩, ⟨rw_fun HPUT.out.1 (fun y hy => ?_)⟩, ⟨HGK.out.trans HPUT.out.2⟩⟩
          show (if y = j then _ else _) = if y < j + 1 then _ else _
          by_cases ey : y = j
          ·rw [if_pos ey, if_pos (by omega), HNE.out, HUO.out, ey]
          ·rw [if_neg ey]
           by_cases hy2 : y < j
           ·rw [if_pos hy2, if_pos (by omega)]
           ·rw [if_neg hy2, if_neg (by omega)]
        ·have HJE : Aside0 (j = M) := ⟨by have := HK4.out; omega⟩
         have e3 : decide ((j : Int) < (M : Int)) = false := decide_eq_false (by omega)
         have e4 : decide (j < M) = false := decide_eq_false hj
         have e5 : (j < M) = False := eq_false hj
         clear hj
         go_wp2_with (fail)
         go_roundg (cnt1 + 1)
         case measure => have := HK3.out; have := HLT.out; omega
         case rel =>
          refine ⟨_, cnt1, ⟨rfl⟩, ⟨HRG1.out.kept HGK.out (rw_apart HRG1.out.owns HROWn.out) (rw_apart_iter HRG1.out HROWn.out)⟩, ⟨rw_fun HROWk.out (fun y hy => ?_)⟩, ⟨rw_grown HRD0n.out HBWn.out.2 HGK.out (fun k hk => by cases hk; exact .inl HNUM.out.2.2.2.1)⟩, ⟨HBWn.out.1.grown HGK.out HBWn.out.1.size (fun z hz => by cases hz; have := HNUM.out; omega), by have := HBWn.out.2; have := HGK.out.size; omega⟩⟩
          rw [HJE.out, if_pos hy, chG_step HND.out HX.out.1 HLX.out y]
end Go.Proofs.Ytmbojobkiainlaa.F
end

section
namespace Go.Proofs.Ytmbojobkiainlaa.F
open Go.RowKit Go.Proofs.YtmbojobkiainlaaW.PrintWords Go.Proofs.YtmbojobkiainlaaW.PrintLast Go.Proofs.YtmbojobkiainlaaW.PrintMore
attribute [local go_sem] max2_int min2_int max_two min_two max_three min_three max_four min_four
set_option linter.unusedVariables false
set_option linter.unusedSimpArgs false
def impl_BoxBySum.f (k : Nat) (a0 : Int) (a1 : Int) (a2 : Int) : Option (List Int × Bool) := (impl_Rectangle.f k a0 a1).bind fun bt852 => (if bt852.2 = true then ((impl_isBound.f a2).bind fun t857 => (if t857 = true then ((impl_Poset_chains.f k bt852.1 a2).bind fun t858 => (some (t858, true))) else (some (([] : List Int), false)))) else (some (([] : List Int), false)))
theorem impl_BoxBySum.mono : ∀ a0 a1 a2 k, LeO (impl_BoxBySum.f k a0 a1 a2) (impl_BoxBySum.f (k + 1) a0 a1 a2) := by
 intro a0 a1 a2 k
 unfold impl_BoxBySum.f
 repeat' first
  | (with_reducible exact impl_Poset_chains.mono _ _ _)
  | (with_reducible exact impl_Rectangle.mono _ _ _)
  | (with_reducible exact LeO.refl _)
  | (with_reducible exact LeO.none _)
  | (with_reducible refine LeO.ite ?_ ?_)
  | (with_reducible refine LeO.bind ?_ (fun _ => ?_))
  | exact impl_Poset_chains.mono _ _ _
  | exact impl_Rectangle.mono _ _ _
  | exact LeO.none _
  | refine LeO.ite ?_ ?_
  | refine LeO.bind ?_ (fun _ => ?_)
set_option maxHeartbeats 8000000 in
set_option maxRecDepth 100000 in
theorem impl_BoxBySum.calls (k : Nat) (a0 : Int) (a1 : Int) (a2 : Int) (r1 : List Int) (r2 : Bool) (w : World) (h : impl_BoxBySum.f k a0 a1 a2 = some (r1, r2)) :
 Calls Try.prog 43 #[.int .i64 a0, .int .i64 a1, .int .i64 a2] w fun e w' => ∃ v0_ : Value, e = .returned (.tuple #[v0_, .bool r2]) ∧ Kd.R (Kd.int .i64) 3 w' w.heap.size (fun _ => True) v0_ r1 ∧ Below w.heap.size w w' := by
 have hu26 := Try.underlying26
 have HB := am (Below.refl w.heap.size w)
 have H := h
 unfold impl_BoxBySum.f at H
 clear h
 replace H := Option.bind_eq_some_iff.mp H
 obtain ⟨⟨t852, t855⟩, A40, H⟩ := H
 (try dsimp only at H)
 have A4 := am A40
 clear A40
 by_cases c5 : t855 = true
 ·subst c5
  rw [if_pos rfl] at H
  replace H := Option.bind_eq_some_iff.mp H
  obtain ⟨t857, A60, H⟩ := H
  (try dsimp only at H)
  have A6 := am A60
  clear A60
  by_cases c7 : t857 = true
  ·subst c7
   rw [if_pos rfl] at H
   replace H := Option.bind_eq_some_iff.mp H
   obtain ⟨t858, A80, H⟩ := H
   (try dsimp only at H)
   have A8 := am A80
   clear A80
   simp only [Option.some.injEq, Prod.mk.injEq] at H
   obtain ⟨rfl, rfl⟩ := H
   go_enter Try.func43, Try.ntmps43
   go_wp2_with (first | ((with_reducible refine gate_callee (f := 51) rfl ?_); refine gL (some 13) Try.func51 #[.int .i64 a0, .int .i64 a1] ?_; (with_reducible refine (impl_Rectangle.calls k a0 a1 t852 true _ A4.out).mono ?_); rintro e w9 ⟨v853, rfl, ho0, hb⟩; refine ⟨_, rfl, ?_⟩; have HO854 := am (Kd.R_lower ho0 (below_size qB)); replace HB := am (below_step qB hb); (try clear hb); (try clear hb2); (try clear hk); (try clear hi); (try clear ho0)) | ((with_reducible refine gate_dst (N := 8) rfl ?_); refine qx (N := 8) (cs := #[.slice none 0 0]) (t := 26) ?_; intro gb856 hg w10 hbox hb; replace HO854 := am (Kd.R_below (qR HO854.out) hb); have n1_ := am (below_step qB hb); have BK856 := am (hbox); have GW856 := am (qg w hg); have GE856 := am (qg w hg); clear HB; have HB := n1_; clear n1_; clear hb hbox hg; obtain ⟨Ao11, co11, eo11⟩ := Kd.R_slice HO854.out; subst eo11; have hcz12_0 := qz w10 BK856.out; have hfz12_0 := blk_frozen BK856.out 0) | (go_at_call 69; (with_reducible refine (impl_isBound.calls a2 true _ A6.out).mono ?_); rintro e w' ⟨rfl, ⟨nd, rfl⟩⟩) | ((with_reducible refine gate_callee (f := 105) rfl ?_); refine gL (some 25) Try.func105 #[.agg #[.slice Ao11 t852.length co11], .int .i64 a2] ?_; (with_reducible refine (impl_Poset_chains.calls k _ _ t852 a2 t858 _ ?side1 ?side2 A8.out).mono ?_); (case side1 => refine (Kd.R_reads' (e := 3) (base := w.heap.size) (ok := fun k_ => True) (n := t852.length) (c := co11) ?_).2.2; exact (qR ((Kd.R_mono (Kd.R_far (p := ⟨gb856, 0, none⟩) (Kd.R_types HO854.out BK856.out (by decide)) (fun _ hk => hk.2) (.slice Ao11 t852.length co11)) (fun _ h_ => h_.1))))); (case side2 => exact (Kd.R_reads' HO854.out).2.1); rintro e w13 ⟨v859, rfl, ho0, hb⟩; refine ⟨_, rfl, ?_⟩; have n0_ := am (Kd.R_elder' (qR ((Kd.R_mono (Kd.R_far (p := ⟨gb856, 0, none⟩) (Kd.R_types HO854.out BK856.out (by decide)) (fun _ hk => hk.2) (.slice Ao11 t852.length co11)) (fun _ h_ => h_.1)))) (Kd.R_base ho0) hb); have HO860 := am (Kd.R_lower (Kd.R_new' ho0 (Kd.R_lt (qR ((Kd.R_mono (Kd.R_far (p := ⟨gb856, 0, none⟩) (Kd.R_types HO854.out BK856.out (by decide)) (fun _ hk => hk.2) (.slice Ao11 t852.length co11)) (fun _ h_ => h_.1)))))) (below_size qB)); replace BK856 := am (blk_below (g := gb856) (o := .cells #[.slice Ao11 t852.length co11] 26 (0, 0)) (by (with_reducible repeat (first | refine blk_drewN ?_ _ | refine blk_drew ?_ | refine blk_alloc ?_ _)); refine blk_put (cs := #[.slice none 0 0]) ?_ 0 _ rfl; refine qb ?_; exact BK856.out) hb); replace HB := am (below_step qB hb); clear HO854; have HO854 := n0_; clear n0_; (try clear hb); (try clear hb2); (try clear hk); (try clear hi); (try clear ho0)))
   go_ret2
   exact ⟨_, qr, qR (Kd.R_mono HO860.out (fun _ hk => trivial)), qB⟩
  ·replace c7 := Bool.eq_false_iff.mpr c7
   subst c7
   rw [if_neg (show ¬ (false = true) by decide)] at H
   simp only [Option.some.injEq, Prod.mk.injEq] at H
   obtain ⟨rfl, rfl⟩ := H
   go_enter Try.func43, Try.ntmps43
   go_wp2_with (first | ((with_reducible refine gate_callee (f := 51) rfl ?_); refine gL (some 13) Try.func51 #[.int .i64 a0, .int .i64 a1] ?_; (with_reducible refine (impl_Rectangle.calls k a0 a1 t852 true _ A4.out).mono ?_); rintro e w14 ⟨v853, rfl, ho0, hb⟩; refine ⟨_, rfl, ?_⟩; have HO854 := am (Kd.R_lower ho0 (below_size qB)); replace HB := am (below_step qB hb); (try clear hb); (try clear hb2); (try clear hk); (try clear hi); (try clear ho0)) | ((with_reducible refine gate_dst (N := 8) rfl ?_); refine qx (N := 8) (cs := #[.slice none 0 0]) (t := 26) ?_; intro gb856 hg w15 hbox hb; replace HO854 := am (Kd.R_below (qR HO854.out) hb); have n1_ := am (below_step qB hb); have BK856 := am (hbox); have GW856 := am (qg w hg); have GE856 := am (qg w hg); clear HB; have HB := n1_; clear n1_; clear hb hbox hg; obtain ⟨Ao16, co16, eo16⟩ := Kd.R_slice HO854.out; subst eo16; have hcz17_0 := qz w15 BK856.out; have hfz17_0 := blk_frozen BK856.out 0) | (go_at_call 69; (with_reducible refine (impl_isBound.calls a2 false _ A6.out).mono ?_); rintro e w' ⟨rfl, ⟨nd, rfl⟩⟩))
   go_ret2
   exact ⟨_, qr, by first | exact Kd.R_nil _ _ _ _ _ | exact Kd.N_nil _ _ _ _ _ | exact Kd.V_nil _ _ _ _ _ | exact Kd.Q_nil _ _ _ _ _ | exact Kd.S_nil _ _ _ _ _, qB⟩
 ·replace c5 := Bool.eq_false_iff.mpr c5
  subst c5
  rw [if_neg (show ¬ (false = true) by decide)] at H
  simp only [Option.some.injEq, Prod.mk.injEq] at H
  obtain ⟨rfl, rfl⟩ := H
  go_enter Try.func43, Try.ntmps43
  go_wp2_with (first | ((with_reducible refine gate_callee (f := 51) rfl ?_); refine gL (some 13) Try.func51 #[.int .i64 a0, .int .i64 a1] ?_; (with_reducible refine (impl_Rectangle.calls k a0 a1 t852 false _ A4.out).mono ?_); rintro e w18 ⟨v853, rfl, ho0, hb⟩; refine ⟨_, rfl, ?_⟩; have HO854 := am (Kd.R_lower ho0 (below_size qB)); replace HB := am (below_step qB hb); (try clear hb); (try clear hb2); (try clear hk); (try clear hi); (try clear ho0)) | ((with_reducible refine gate_dst (N := 8) rfl ?_); refine qx (N := 8) (cs := #[.slice none 0 0]) (t := 26) ?_; intro gb856 hg w19 hbox hb; replace HO854 := am (Kd.R_below (qR HO854.out) hb); have n1_ := am (below_step qB hb); have BK856 := am (hbox); have GW856 := am (qg w hg); have GE856 := am (qg w hg); clear HB; have HB := n1_; clear n1_; clear hb hbox hg; obtain ⟨Ao20, co20, eo20⟩ := Kd.R_slice HO854.out; subst eo20; have hcz21_0 := qz w19 BK856.out; have hfz21_0 := blk_frozen BK856.out 0))
  go_ret2
  exact ⟨_, qr, by first | exact Kd.R_nil _ _ _ _ _ | exact Kd.N_nil _ _ _ _ _ | exact Kd.V_nil _ _ _ _ _ | exact Kd.Q_nil _ _ _ _ _ | exact Kd.S_nil _ _ _ _ _, qB⟩
def impl_LabelsBySum.f (k : Nat) (l0_0 : List Int) (a1 : Int) : Option (List Int × Bool) := (impl_IsPoset.f k l0_0).bind fun t886 => (if t886 = true then ((impl_isBound.f a1).bind fun t887 => (if t887 = true then ((impl_Poset_count.f k l0_0 a1).bind fun t888 => (if t888 > 100000 then (some (([] : List Int), false)) else ((impl_Poset_chains.f k l0_0 a1).bind fun t889 => (some (t889, true))))) else (some (([] : List Int), false)))) else (some (([] : List Int), false)))
theorem impl_LabelsBySum.mono : ∀ a0 a1 k, LeO (impl_LabelsBySum.f k a0 a1) (impl_LabelsBySum.f (k + 1) a0 a1) := by
 intro a0 a1 k
 unfold impl_LabelsBySum.f
 repeat' first
  | (with_reducible exact impl_IsPoset.mono _ _)
  | (with_reducible exact impl_Poset_chains.mono _ _ _)
  | (with_reducible exact impl_Poset_count.mono _ _ _)
  | (with_reducible exact LeO.refl _)
  | (with_reducible exact LeO.none _)
  | (with_reducible refine LeO.ite ?_ ?_)
  | (with_reducible refine LeO.bind ?_ (fun _ => ?_))
  | exact impl_IsPoset.mono _ _
  | exact impl_Poset_chains.mono _ _ _
  | exact impl_Poset_count.mono _ _ _
  | exact LeO.none _
  | refine LeO.ite ?_ ?_
  | refine LeO.bind ?_ (fun _ => ?_)
set_option maxHeartbeats 8000000 in
set_option maxRecDepth 100000 in
theorem impl_LabelsBySum.calls (k : Nat) (A0_0 : Option Addr) (c0_0 : Nat) (l0_0 : List Int) (a1 : Int) (r1 : List Int) (r2 : Bool) (w : World) (hr0_0 : Kd.C (Kd.int .i64) w A0_0 l0_0.length l0_0) (hc0_0 : l0_0.length ≤ c0_0) (h : impl_LabelsBySum.f k l0_0 a1 = some (r1, r2)) :
 Calls Try.prog 48 #[.agg #[.slice A0_0 l0_0.length c0_0], .int .i64 a1] w fun e w' => ∃ v0_ : Value, e = .returned (.tuple #[v0_, .bool r2]) ∧ Kd.R (Kd.int .i64) 3 w' w.heap.size (fun _ => True) v0_ r1 ∧ Below w.heap.size w w' := by
 have hu26 := Try.underlying26
 have HR0_0 := am hr0_0
 have HC0_0 := am hc0_0
 clear hr0_0 hc0_0
 have HB := am (Below.refl w.heap.size w)
 have H := h
 unfold impl_LabelsBySum.f at H
 clear h
 replace H := Option.bind_eq_some_iff.mp H
 obtain ⟨t886, A30, H⟩ := H
 (try dsimp only at H)
 have A3 := am A30
 clear A30
 by_cases c4 : t886 = true
 ·subst c4
  rw [if_pos rfl] at H
  replace H := Option.bind_eq_some_iff.mp H
  obtain ⟨t887, A50, H⟩ := H
  (try dsimp only at H)
  have A5 := am A50
  clear A50
  by_cases c6 : t887 = true
  ·subst c6
   rw [if_pos rfl] at H
   replace H := Option.bind_eq_some_iff.mp H
   obtain ⟨t888, A70, H⟩ := H
   (try dsimp only at H)
   have A7 := am A70
   clear A70
   by_cases c8 : t888 > 100000
   ·rw [if_pos c8] at H
    have c8b0 : decide (100000 < t888) = true := decide_eq_true c8
    clear c8
    simp only [Option.some.injEq, Prod.mk.injEq] at H
    obtain ⟨rfl, rfl⟩ := H
    go_enter Try.func48, Try.ntmps48
    go_wp2_with (first | ((with_reducible refine gate_dst (N := 2) rfl ?_); refine qx (N := 2) (cs := #[.slice A0_0 l0_0.length c0_0]) (t := 26) ?_; intro gb885 hg w9 hbox hb; have n0_ := am (below_step qB hb); have BK885 := am (hbox); have GW885 := am (qg w hg); have GE885 := am (qg w hg); clear HB; have HB := n0_; clear n0_; clear hb hbox hg; have hcz10_0 := qz w9 BK885.out; have hfz10_0 := blk_frozen BK885.out 0) | ((with_reducible refine gate_callee (f := 40) rfl ?_); refine gL (some 7) Try.func40 #[.agg #[.slice A0_0 l0_0.length c0_0]] ?_; (with_reducible refine (impl_IsPoset.calls k _ _ l0_0 true _ ?side1 ?side2 A3.out).mono ?_); (case side1 => exact qC (Kd.C_below HR0_0.out HB.out)); (case side2 => exact HC0_0.out); rintro e w11 ⟨rfl, hb⟩; refine ⟨_, rfl, ?_⟩; replace BK885 := am (blk_below (g := gb885) (o := .cells #[.slice A0_0 l0_0.length c0_0] 26 (0, 0)) (qb BK885.out) hb); replace HB := am (below_step qB hb); (try clear hb); (try clear hb2); (try clear hk); (try clear hi)) | (go_at_call 69; (with_reducible refine (impl_isBound.calls a1 true _ A5.out).mono ?_); rintro e w' ⟨rfl, ⟨nd, rfl⟩⟩; have hcz12_0 := qz w11 BK885.out; have hfz12_0 := blk_frozen BK885.out 0) | (go_at_call 70; (with_reducible refine (impl_Poset_count.calls k _ _ l0_0 a1 t888 _ ?side1 ?side2 A7.out).mono ?_); (case side1 => exact qC (Kd.C_below HR0_0.out qB)); (case side2 => exact HC0_0.out); rintro e w13 ⟨rfl, hb⟩; replace BK885 := am (blk_below (g := gb885) (o := .cells #[.slice A0_0 l0_0.length c0_0] 26 (0, 0)) (qb BK885.out) hb); replace HB := am (below_step qB hb); (try clear hb); (try clear hb2); (try clear hk); (try clear hi)))
    go_ret2
    exact ⟨_, qr, by first | exact Kd.R_nil _ _ _ _ _ | exact Kd.N_nil _ _ _ _ _ | exact Kd.V_nil _ _ _ _ _ | exact Kd.Q_nil _ _ _ _ _ | exact Kd.S_nil _ _ _ _ _, qB⟩
   ·rw [if_neg c8] at H
    have c8b0 : decide (100000 < t888) = false := decide_eq_false c8
    clear c8
    replace H := Option.bind_eq_some_iff.mp H
    obtain ⟨t889, A140, H⟩ := H
    (try dsimp only at H)
    have A14 := am A140
    clear A140
    simp only [Option.some.injEq, Prod.mk.injEq] at H
    obtain ⟨rfl, rfl⟩ := H
    go_enter Try.func48, Try.ntmps48
    go_wp2_with (first | ((with_reducible refine gate_dst (N := 2) rfl ?_); refine qx (N := 2) (cs := #[.slice A0_0 l0_0.length c0_0]) (t := 26) ?_; intro gb885 hg w15 hbox hb; have n0_ := am (below_step qB hb); have BK885 := am (hbox); have GW885 := am (qg w hg); have GE885 := am (qg w hg); clear HB; have HB := n0_; clear n0_; clear hb hbox hg; have hcz16_0 := qz w15 BK885.out; have hfz16_0 := blk_frozen BK885.out 0) | ((with_reducible refine gate_callee (f := 40) rfl ?_); refine gL (some 7) Try.func40 #[.agg #[.slice A0_0 l0_0.length c0_0]] ?_; (with_reducible refine (impl_IsPoset.calls k _ _ l0_0 true _ ?side1 ?side2 A3.out).mono ?_); (case side1 => exact qC (Kd.C_below HR0_0.out HB.out)); (case side2 => exact HC0_0.out); rintro e w17 ⟨rfl, hb⟩; refine ⟨_, rfl, ?_⟩; replace BK885 := am (blk_below (g := gb885) (o := .cells #[.slice A0_0 l0_0.length c0_0] 26 (0, 0)) (qb BK885.out) hb); replace HB := am (below_step qB hb); (try clear hb); (try clear hb2); (try clear hk); (try clear hi)) | (go_at_call 69; (with_reducible refine (impl_isBound.calls a1 true _ A5.out).mono ?_); rintro e w' ⟨rfl, ⟨nd, rfl⟩⟩; have hcz18_0 := qz w17 BK885.out; have hfz18_0 := blk_frozen BK885.out 0) | (go_at_call 70; (with_reducible refine (impl_Poset_count.calls k _ _ l0_0 a1 t888 _ ?side1 ?side2 A7.out).mono ?_); (case side1 => exact qC (Kd.C_below HR0_0.out qB)); (case side2 => exact HC0_0.out); rintro e w19 ⟨rfl, hb⟩; replace BK885 := am (blk_below (g := gb885) (o := .cells #[.slice A0_0 l0_0.length c0_0] 26 (0, 0)) (qb BK885.out) hb); replace HB := am (below_step qB hb); (try clear hb); (try clear hb2); (try clear hk); (try clear hi); have hcz20_0 := qz w19 BK885.out; have hfz20_0 := blk_frozen BK885.out 0) | ((with_reducible refine gate_callee (f := 105) rfl ?_); refine gL (some 22) Try.func105 #[.agg #[.slice A0_0 l0_0.length c0_0], .int .i64 a1] ?_; (with_reducible refine (impl_Poset_chains.calls k _ _ l0_0 a1 t889 _ ?side1 ?side2 A14.out).mono ?_); (case side1 => exact qC (Kd.C_below HR0_0.out HB.out)); (case side2 => exact HC0_0.out); rintro e w21 ⟨v890, rfl, ho0, hb⟩; refine ⟨_, rfl, ?_⟩; have HO891 := am (Kd.R_lower ho0 (below_size qB)); replace BK885 := am (blk_below (g := gb885) (o := .cells #[.slice A0_0 l0_0.length c0_0] 26 (0, 0)) (qb BK885.out) hb); replace HB := am (below_step qB hb); (try clear hb); (try clear hb2); (try clear hk); (try clear hi); (try clear ho0)))
    go_ret2
    exact ⟨_, qr, qR HO891.out, qB⟩
  ·replace c6 := Bool.eq_false_iff.mpr c6
   subst c6
   rw [if_neg (show ¬ (false = true) by decide)] at H
   simp only [Option.some.injEq, Prod.mk.injEq] at H
   obtain ⟨rfl, rfl⟩ := H
   go_enter Try.func48, Try.ntmps48
   go_wp2_with (first | ((with_reducible refine gate_dst (N := 2) rfl ?_); refine qx (N := 2) (cs := #[.slice A0_0 l0_0.length c0_0]) (t := 26) ?_; intro gb885 hg w22 hbox hb; have n0_ := am (below_step qB hb); have BK885 := am (hbox); have GW885 := am (qg w hg); have GE885 := am (qg w hg); clear HB; have HB := n0_; clear n0_; clear hb hbox hg; have hcz23_0 := qz w22 BK885.out; have hfz23_0 := blk_frozen BK885.out 0) | ((with_reducible refine gate_callee (f := 40) rfl ?_); refine gL (some 7) Try.func40 #[.agg #[.slice A0_0 l0_0.length c0_0]] ?_; (with_reducible refine (impl_IsPoset.calls k _ _ l0_0 true _ ?side1 ?side2 A3.out).mono ?_); (case side1 => exact qC (Kd.C_below HR0_0.out HB.out)); (case side2 => exact HC0_0.out); rintro e w24 ⟨rfl, hb⟩; refine ⟨_, rfl, ?_⟩; replace BK885 := am (blk_below (g := gb885) (o := .cells #[.slice A0_0 l0_0.length c0_0] 26 (0, 0)) (qb BK885.out) hb); replace HB := am (below_step qB hb); (try clear hb); (try clear hb2); (try clear hk); (try clear hi)) | (go_at_call 69; (with_reducible refine (impl_isBound.calls a1 false _ A5.out).mono ?_); rintro e w' ⟨rfl, ⟨nd, rfl⟩⟩))
   go_ret2
   exact ⟨_, qr, by first | exact Kd.R_nil _ _ _ _ _ | exact Kd.N_nil _ _ _ _ _ | exact Kd.V_nil _ _ _ _ _ | exact Kd.Q_nil _ _ _ _ _ | exact Kd.S_nil _ _ _ _ _, qB⟩
 ·replace c4 := Bool.eq_false_iff.mpr c4
  subst c4
  rw [if_neg (show ¬ (false = true) by decide)] at H
  simp only [Option.some.injEq, Prod.mk.injEq] at H
  obtain ⟨rfl, rfl⟩ := H
  go_enter Try.func48, Try.ntmps48
  go_wp2_with (first | ((with_reducible refine gate_dst (N := 2) rfl ?_); refine qx (N := 2) (cs := #[.slice A0_0 l0_0.length c0_0]) (t := 26) ?_; intro gb885 hg w25 hbox hb; have n0_ := am (below_step qB hb); have BK885 := am (hbox); have GW885 := am (qg w hg); have GE885 := am (qg w hg); clear HB; have HB := n0_; clear n0_; clear hb hbox hg; have hcz26_0 := qz w25 BK885.out; have hfz26_0 := blk_frozen BK885.out 0) | ((with_reducible refine gate_callee (f := 40) rfl ?_); refine gL (some 7) Try.func40 #[.agg #[.slice A0_0 l0_0.length c0_0]] ?_; (with_reducible refine (impl_IsPoset.calls k _ _ l0_0 false _ ?side1 ?side2 A3.out).mono ?_); (case side1 => exact qC (Kd.C_below HR0_0.out HB.out)); (case side2 => exact HC0_0.out); rintro e w27 ⟨rfl, hb⟩; refine ⟨_, rfl, ?_⟩; replace BK885 := am (blk_below (g := gb885) (o := .cells #[.slice A0_0 l0_0.length c0_0] 26 (0, 0)) (qb BK885.out) hb); replace HB := am (below_step qB hb); (try clear hb); (try clear hb2); (try clear hk); (try clear hi)))
  go_ret2
  exact ⟨_, qr, by first | exact Kd.R_nil _ _ _ _ _ | exact Kd.N_nil _ _ _ _ _ | exact Kd.V_nil _ _ _ _ _ | exact Kd.Q_nil _ _ _ _ _ | exact Kd.S_nil _ _ _ _ _, qB⟩
end Go.Proofs.Ytmbojobkiainlaa.F
end

section
namespace Go.Proofs.Ytmbojobkiainlaa.Q
open Go.RowKit Go.Proofs.YtmbojobkiainlaaW.PrintWords Go.Proofs.Ytmbojobkiainlaa.F
set_option linter.unusedVariables false
theorem size_all : (List.range 1024).all (fun t => decide (impl_size.f (t : Int) = some ((pcard 10 t : Nat) : Int))) = true := by decide +kernel
theorem pcard_ten {n t : Nat} (hn : n ≤ 10) (ht : t < 2 ^ n) : pcard 10 t = pcard n t := by
 obtain ⟨d, hd⟩ : ∃ d, 10 = n + d := ⟨10 - n, by omega⟩
 rw [hd]
 clear hd
 induction d with
 | zero => rfl
 | succ d ih =>
  rw [show n + (d + 1) = (n + d) + 1 by omega, pcard_succ, ih, bit_lt ht (by omega)]; simp
theorem size_ev {p : List Int} (hp : p.length ≤ 10) {t : Nat} (ht : t < 2 ^ p.length) : impl_size.f (t : Int) = some ((pcard p.length t : Nat) : Int) := by
 have h2 := two_pow_small hp
 rw [← pcard_ten hp ht]
 exact of_decide_eq_true (List.all_eq_true.1 size_all t (List.mem_range.2 (by omega)))
theorem chOut_eq {p : List Int} (hp : p.length ≤ 10) {t : Nat} (ht : t < 2 ^ p.length) : chOut p (t : Int) = ((outN p t : Nat) : Int) := by
 unfold chOut outN
 rw [size_ev hp ht, Option.getD_some]
 have := pcard_le p.length t
 rw [wid (by omega) (by omega)]
 omega
theorem chSub_eq {s t : Nat} (hs : s < 2 ^ 62) (ht : t < 2 ^ 62) : chSub (s : Int) (t : Int) = subB s t := by
 unfold chSub subB
 rw [bits_andNotN hs ht, Bool.eq_iff_iff, beq_iff_eq, beq_iff_eq]
 omega
theorem chAt_eq {p : List Int} (hp : p.length ≤ 10) : ∀ q, q ≤ 13 → ∀ s ∈ idealsN p, ∀ j, chAt p (ints (idealsN p)) q (s : Int) j = ((wsN p q s j : Nat) : Int)
 | 0, _, s, _, j => by
  unfold chAt wsN
  by_cases h : s = 0
  ·subst h
   by_cases hj : j = 0
   ·subst hj; rfl
   ·simp [hj]
  ·rw [if_neg (by omega), if_neg (fun h2 => h h2.1)]; rfl
 | q + 1, hq, t, ht, j => by
  have ht2 := (mem_idealsN.1 ht).1
  have h62 : ∀ s ∈ idealsN p, s < 2 ^ 62 := fun s hs => lt_pow (mem_idealsN.1 hs).1 (by omega)
  have hs := wvN_small hp (B := stB p false) (k := q + 1) (t := t) (fun s t h => stB_sub h) (by omega)
  have hle := wsN_le p (q + 1) t j
  unfold chAt chNew
  rw [mpTot_ints (P := fun s => subB s t) (v := fun s => if outN p t ≤ j then wsN p q s (j - outN p t) else 0) (idealsN p) (fun s hs => chSub_eq (h62 s hs) (h62 t ht)) (fun s hs => ?_)]
  ·have e : sumL (((idealsN p).filter fun s => subB s t).map fun s => if outN p t ≤ j then wsN p q s (j - outN p t) else 0) = wsN p (q + 1) t j := by
    conv => rhs; unfold wsN
    by_cases h : outN p t ≤ j
    ·rw [if_pos h]
     simp only [if_pos h]
    ·rw [if_neg h]
     exact sumL_none _ _ fun s _ => by rw [if_neg h]
   rw [e]
   exact wid (by omega) (by omega)
  ·unfold chTerm
   rw [chOut_eq hp ht2]
   by_cases h : outN p t ≤ j
   ·rw [if_pos (by omega), if_pos h, show ((j : Int) - ((outN p t : Nat) : Int)).toNat = j - outN p t by omega, chAt_eq hp q (by omega) s hs]
    unfold chPos
    split
    ·rfl
    ·omega
   ·rw [if_neg (by omega), if_neg h]; rfl
theorem chM_eq {p : List Int} (hp : p.length ≤ 10) {m : Nat} (hm : m ≤ 1000) : chM p (m : Int) = ((p.length * m + 1 : Nat) : Int) := by
 have h1 : p.length * m ≤ 10 * 1000 := Nat.mul_le_mul hp hm
 have e : (p.length : Int) * (m : Int) = ((p.length * m : Nat) : Int) := (Int.natCast_mul _ _).symm
 unfold chM
 rw [e, wid (n := ((p.length * m : Nat) : Int)) (by omega) (by omega), wid (by omega) (by omega)]
 omega
theorem chOk_ids {p : List Int} (hp : PO p) {m : Nat} (hm : m ≤ 12) : ChOk p (ints (idealsN p)) (m : Int) := by
 have hn := hp.small
 have hM := chM_eq hn (m := m) (by omega)
 have h1 : p.length * m ≤ 10 * 12 := Nat.mul_le_mul hn hm
 have mem : ∀ x ∈ ints (idealsN p), ∃ t : Nat, x = (t : Int) ∧ t ∈ idealsN p := fun x hx => by
  obtain ⟨t, ht, rfl⟩ := List.mem_map.1 hx
  exact ⟨t, rfl, ht⟩
 refine ⟨cntOk_ids hn, by omega, by omega, by rw [hM]; omega, by rw [hM]; omega, fun x hx => ?_, fun x hx => ?_, fun q hq x hx y hy hs i hi h0 => ?_⟩
 ·obtain ⟨t, rfl, ht⟩ := mem x hx
  exact ⟨_, size_ev hn (mem_idealsN.1 ht).1⟩
 ·obtain ⟨t, rfl, ht⟩ := mem x hx
  rw [chOut_eq hn (mem_idealsN.1 ht).1]
  have := outN_le p t
  omega
 ·obtain ⟨t, rfl, ht⟩ := mem x hx
  obtain ⟨s, rfl, hs2⟩ := mem y hy
  rw [chAt_eq hn q (by omega) s hs2] at h0
  rw [chOut_eq hn (mem_idealsN.1 ht).1, hM]
  have hle : i ≤ p.length * q := by
   rcases Nat.lt_or_ge (p.length * q) i with h | h
   ·rw [wsN_zero p q s i h] at h0; omega
   ·exact h
  have h2 : p.length * q + p.length ≤ p.length * m := by
   rw [← Nat.mul_succ]; exact Nat.mul_le_mul_left _ (by omega)
  have := outN_le p t
  omega
def sumsL (p : List Int) (m : Nat) : List Nat := (List.range (p.length * m + 1)).map (wT p m)
theorem chains_ev {p : List Int} (hp : PO p) {m : Nat} (hm : m ≤ 12) : Ev (fun k => impl_Poset_chains.f k p (m : Int)) (ints (sumsL p m)) := by
 have hn := hp.small
 unfold impl_Poset_chains.f
 refine Ev.bind (ideals_ev hp) ⟨0, fun k _ => ?_⟩
 dsimp only
 rw [if_pos ((chOkB_iff _ _ _).2 (chOk_ids hp hm))]
 congr 1
 rw [chM_eq hn (by omega), Int.toNat_natCast]
 unfold rwL sumsL ints
 rw [List.map_map]
 refine List.map_congr_left fun j hj => ?_
 unfold chTot
 rw [Int.toNat_natCast]
 have hs := wT_small hn (m := m) (by omega) j
 have e := mpTot_ints (P' := fun _ => true) (v' := fun s => chAt p (ints (idealsN p)) m s j) (P := fun _ => true) (v := fun s => wsN p m s j) (idealsN p) (fun _ _ => rfl) (fun s hs => chAt_eq hn m (by omega) s hs j)
 rw [List.filter_eq_self.2 (fun _ _ => rfl)] at e
 unfold ints at e
 rw [e]
 exact wid (by unfold wT at hs; omega) (by unfold wT at hs; omega)
def op1 (u : Nat) (f : Nat → Int) (k : Nat) : Int := if u ≤ k then wrap64 (f k - f (k - u)) else f k
def pre (d : Nat) (f : Nat → Int) (k : Nat) : Int := if h : 0 < d ∧ d ≤ k then wrap64 (f k + pre d f (k - d)) else f k
termination_by k
decreasing_by omega
theorem pre_lo {d : Nat} {f : Nat → Int} {k : Nat} (h : k < d) : pre d f k = f k := by
 rw [pre, dif_neg (by omega)]
theorem pre_hi {d : Nat} {f : Nat → Int} {k : Nat} (h0 : 0 < d) (h : d ≤ k) : pre d f k = wrap64 (f k + pre d f (k - d)) := by
 rw [pre, dif_pos ⟨h0, h⟩]
def op1L (u : Nat) (l : List Int) : List Int := l.take u ++ List.zipWith (fun x y => wrap64 (x - y)) (l.drop u) l
def op2go : List Int → List Int → List Int
 | y :: q, x :: l => wrap64 (x + y) :: op2go (q ++ [wrap64 (x + y)]) l
 | _, _ => []
def op2L (d : Nat) (l : List Int) : List Int := l.take d ++ op2go (l.take d) (l.drop d)
theorem rwL_of (l : List Int) : l = rwL l.length fun k => l.getD k 0 := by
 unfold rwL
 apply List.ext_getElem
 ·simp
 ·intro i h1 h2
  rw [List.getElem_map, List.getElem_range, List.getD_eq_getElem?_getD, List.getElem?_eq_getElem h1]; rfl
theorem rwL_at {M : Nat} {f : Nat → Int} {i : Nat} (h : i < M) : (rwL M f)[i]? = some (f i) := by
 unfold rwL
 rw [List.getElem?_map, List.getElem?_range h]; rfl
theorem rwL_no {M : Nat} {f : Nat → Int} {i : Nat} (h : M ≤ i) : (rwL M f)[i]? = none := List.getElem?_eq_none (by rw [rwL_len]; exact h)
theorem op1L_eq (u M : Nat) (f : Nat → Int) : op1L u (rwL M f) = rwL M (op1 u f) := by
 apply List.ext_getElem?
 intro i
 unfold op1L
 rcases Nat.lt_or_ge i M with hi | hi
 ·rw [rwL_at hi]
  unfold op1
  by_cases hu : u ≤ i
  ·rw [if_pos hu, List.getElem?_append_right (by rw [List.length_take, rwL_len]; omega), List.length_take, rwL_len, Nat.min_eq_left (by omega), List.getElem?_zipWith, List.getElem?_drop, show u + (i - u) = i by omega, rwL_at hi, rwL_at (by omega)]
  ·rw [if_neg hu, List.getElem?_append_left (by rw [List.length_take, rwL_len]; omega), List.getElem?_take, if_pos (by omega), rwL_at hi]
 ·rw [rwL_no hi]
  apply List.getElem?_eq_none
  rw [List.length_append, List.length_take, List.length_zipWith, List.length_drop, rwL_len]
  omega
theorem op2go_eq {d : Nat} (hd : 0 < d) (f : Nat → Int) : ∀ r k, d ≤ k → op2go ((List.range' (k - d) d).map (pre d f)) ((List.range' k r).map f) = (List.range' k r).map (pre d f)
 | 0, k, _ => by
  rw [List.range'_zero, List.map_nil, List.map_nil]
  cases (List.range' (k - d) d).map (pre d f) <;> rfl
 | r + 1, k, h => by
  obtain ⟨e, rfl⟩ : ∃ e, d = e + 1 := ⟨d - 1, by omega⟩
  rw [List.range'_succ, List.range'_succ, List.map_cons, List.map_cons, List.map_cons]
  have hz : wrap64 (f k + pre (e + 1) f (k - (e + 1))) = pre (e + 1) f k := (pre_hi hd h).symm
  unfold op2go
  rw [hz]
  have e2 : (List.range' (k - (e + 1) + 1) e).map (pre (e + 1) f) ++ [pre (e + 1) f k] = (List.range' (k + 1 - (e + 1)) (e + 1)).map (pre (e + 1) f) := by
   rw [List.range'_1_concat, List.map_append, List.map_cons, List.map_nil, show k + 1 - (e + 1) = k - (e + 1) + 1 by omega, show k - (e + 1) + 1 + e = k by omega]
  rw [e2, op2go_eq hd f r (k + 1) (by omega)]
theorem rwL_take (M d : Nat) (f : Nat → Int) : (rwL M f).take d = (List.range' 0 (min d M)).map f := by
 unfold rwL
 rw [← List.map_take, List.take_range, List.range_eq_range']
theorem rwL_drop (M d : Nat) (f : Nat → Int) : (rwL M f).drop d = (List.range' d (M - d)).map f := by
 unfold rwL
 rw [← List.map_drop, List.range_eq_range', List.drop_range']
 simp
theorem op2L_eq {d : Nat} (hd : 0 < d) (M : Nat) (f : Nat → Int) : op2L d (rwL M f) = rwL M (pre d f) := by
 unfold op2L
 rw [rwL_take, rwL_drop]
 rcases Nat.lt_or_ge M d with h | h
 ·rw [Nat.min_eq_right (by omega), show M - d = 0 by omega, List.range'_zero, List.map_nil]
  have e : op2go ((List.range' 0 M).map f) [] = [] := by cases (List.range' 0 M).map f <;> rfl
  rw [e, List.append_nil]
  unfold rwL
  rw [List.range_eq_range']
  exact List.map_congr_left fun i hi => (pre_lo (by have := List.mem_range'_1.1 hi; omega)).symm
 ·rw [Nat.min_eq_left h]
  have e0 : (List.range' 0 d).map f = (List.range' (d - d) d).map (pre d f) := by
   rw [Nat.sub_self]
   exact List.map_congr_left fun i hi => (pre_lo (by have := List.mem_range'_1.1 hi; omega)).symm
  rw [e0, op2go_eq hd f (M - d) d (Nat.le_refl _), Nat.sub_self, ← List.map_append]
  unfold rwL
  have e5 : List.range' 0 d ++ List.range' d (M - d) = List.range' 0 M := by
   have h5 := List.range'_append_1 (s := 0) (m := d) (n := M - d)
   rw [Nat.zero_add, show d + (M - d) = M by omega] at h5
   exact h5
  rw [List.range_eq_range', e5]
theorem bs_l3 {a b m : Int} {r c d : Nat} (hd : 1 ≤ d) (hd2 : d ≤ 100) {M : Nat} (hM : M ≤ 1000) (g : Nat → Int) {x : Int} {res : List Int × Bool} (hr : Ev (fun k => spec_BoxBySum.l1 k a b m (rwL M (pre d g)) (r : Int) (wrap64 ((c : Int) + 1))) res) :
 ∀ i, i ≤ M → d ≤ i → Ev (fun k => spec_BoxBySum.l3 k a b m (rwL M fun k => if k < i then pre d g k else g k) (r : Int) (c : Int) (d : Int) (i : Int)) res := by
 refine downTo M ?_ ?_
 ·intro _
  refine Ev.step (by intro k; simp only [spec_BoxBySum.l3]; rfl) (Ev.no (by rw [rwL_len]; omega) ?_)
  have e : rwL M (fun k => if k < M then pre d g k else g k) = rwL M (pre d g) := rwL_congr fun i hi => by rw [if_pos hi]
  rw [e]
  exact hr
 ·intro i hi ih hdi
  have e1 : wrap64 ((i : Int) - (d : Int)) = ((i - d : Nat) : Int) := by rw [wid (by omega) (by omega)]; omega
  refine Ev.step (by intro k; simp only [spec_BoxBySum.l3]; rfl) (Ev.yes (by rw [rwL_len]; omega) (Ev.yes (by omega) ?_))
  rw [e1]
  refine Ev.yes (by omega) (Ev.yes (by rw [rwL_len]; omega) ?_)
  rw [rwL_get hi, rwL_get (show i - d < M by omega), if_neg (Nat.lt_irrefl i), if_pos (show i - d < i by omega), ← pre_hi hd hdi, wid1 hi (by omega), Int.toNat_natCast, rwL_set hi]
  have e2 : rwL M (fun j => if j = i then pre d g i else if j < i then pre d g j else g j) = rwL M fun k => if k < i + 1 then pre d g k else g k := rwL_congr fun j _ => by
   by_cases h : j = i
   ·subst h; rw [if_pos rfl, if_pos (Nat.lt_succ_self _)]
   ·rw [if_neg h]
    by_cases h2 : j < i
    ·rw [if_pos h2, if_pos (by omega)]
    ·rw [if_neg h2, if_neg (by omega)]
  rw [e2]
  exact ih (by omega)
theorem bs_l2 {a b m : Int} {r c u d : Nat} (hu : u ≤ 100) (hd : 1 ≤ d) (hd2 : d ≤ 100) {M : Nat} (hM : M ≤ 1000) (hM1 : 1 ≤ M) (f : Nat → Int) {res : List Int × Bool} (hr : Ev (fun k => spec_BoxBySum.l1 k a b m (rwL M (pre d (op1 u f))) (r : Int) (wrap64 ((c : Int) + 1))) res) :
 ∀ (e n : Nat), n - u = e → n ≤ M → Ev (fun k => spec_BoxBySum.l2 k a b m (rwL M fun k => if n ≤ k then op1 u f k else f k) (r : Int) (c : Int) (u : Int) (d : Int) ((n : Int) - 1)) res
 | 0, n, he, hn => by
  refine Ev.step (by intro k; simp only [spec_BoxBySum.l2]; rfl) (Ev.no (by omega) ?_)
  have e1 : rwL M (fun k => if n ≤ k then op1 u f k else f k) = rwL M (fun k => if k < min d M then pre d (op1 u f) k else op1 u f k) := rwL_congr fun k hk => by
   have e2 : (if n ≤ k then op1 u f k else f k) = op1 u f k := by
    by_cases h : n ≤ k
    ·rw [if_pos h]
    ·rw [if_neg h]; unfold op1; rw [if_neg (by omega)]
   rw [e2]
   by_cases h : k < min d M
   ·rw [if_pos h, pre_lo (by omega)]
   ·rw [if_neg h]
  rw [e1]
  rcases Nat.lt_or_ge M d with h | h
  ·rw [Nat.min_eq_right (by omega)]
   have e3 : rwL M (fun k => if k < M then pre d (op1 u f) k else op1 u f k) = rwL M (pre d (op1 u f)) := rwL_congr fun i hi => by rw [if_pos hi]
   rw [e3]
   refine Ev.step (by intro k; simp only [spec_BoxBySum.l3]; rfl) (Ev.no (by rw [rwL_len]; omega) hr)
  ·rw [Nat.min_eq_left h]
   exact bs_l3 hd hd2 hM (op1 u f) (x := 0) hr d h (Nat.le_refl _)
 | e + 1, n, he, hn => by
  obtain ⟨i, rfl⟩ : ∃ i, n = i + 1 := ⟨n - 1, by omega⟩
  have hi : i < M := by omega
  have e0 : (((i + 1 : Nat) : Int) - 1) = (i : Int) := by omega
  have e1 : wrap64 ((i : Int) - (u : Int)) = ((i - u : Nat) : Int) := by rw [wid (by omega) (by omega)]; omega
  rw [e0]
  refine Ev.step (by intro k; simp only [spec_BoxBySum.l2]; rfl) (Ev.yes (by omega) (Ev.yes (by omega) (Ev.yes (by rw [rwL_len]; omega) ?_)))
  rw [e1]
  refine Ev.yes (by omega) (Ev.yes (by rw [rwL_len]; omega) ?_)
  rw [rwL_get hi, rwL_get (show i - u < M by omega), if_neg (show ¬ i + 1 ≤ i by omega), if_neg (show ¬ i + 1 ≤ i - u by omega), wid (n := (i : Int) - 1) (by omega) (by omega), Int.toNat_natCast, rwL_set hi]
  have e2 : rwL M (fun j => if j = i then wrap64 (f i - f (i - u)) else if i + 1 ≤ j then op1 u f j else f j) = rwL M fun k => if i ≤ k then op1 u f k else f k := rwL_congr fun j _ => by
   by_cases h : j = i
   ·subst h; rw [if_pos rfl, if_pos (Nat.le_refl _)]; unfold op1; rw [if_pos (by omega)]
   ·rw [if_neg h]
    by_cases h2 : i + 1 ≤ j
    ·rw [if_pos h2, if_pos (by omega)]
    ·rw [if_neg h2, if_neg (by omega)]
  rw [e2]
  exact bs_l2 hu hd hd2 hM hM1 f hr e i (by omega) (by omega)
def bx1 (m r : Nat) : Nat → Nat → List Int → List Int
 | 0, _, l => l
 | n + 1, c, l => bx1 m r n (c + 1) (op2L (r + c - 1) (op1L (r + c + m - 1) l))
def bx0 (b m : Nat) : Nat → Nat → List Int → List Int
 | 0, _, l => l
 | n + 1, r, l => bx0 b m n (r + 1) (bx1 m r b 1 l)
theorem op_form (u d : Nat) (hd : 0 < d) (l : List Int) : op2L d (op1L u l) = rwL l.length (pre d (op1 u fun k => l.getD k 0)) := by
 conv => lhs; rw [rwL_of l]
 rw [op1L_eq, op2L_eq hd]
theorem op_len (u d : Nat) (hd : 0 < d) (l : List Int) : (op2L d (op1L u l)).length = l.length := by rw [op_form u d hd, rwL_len]
theorem bx1_len (m r : Nat) (hr : 1 ≤ r) : ∀ n c l, 1 ≤ c → (bx1 m r n c l).length = l.length
 | 0, _, _, _ => rfl
 | n + 1, c, l, hc => by unfold bx1; rw [bx1_len m r hr n (c + 1) _ (by omega), op_len _ _ (by omega)]
theorem bs_l1 {a b : Int} {m r nb : Nat} (hb : b = (nb : Int)) (hb10 : nb ≤ 10) (hm : m ≤ 12) (hr1 : 1 ≤ r) (hr10 : r ≤ 10) {M : Nat} (hM : M ≤ 1000) (hM1 : 1 ≤ M) {res : List Int × Bool} :
 ∀ (n c : Nat) (l : List Int), 1 ≤ c → c + n = nb + 1 → l.length = M → Ev (fun k => spec_BoxBySum.l0 k a b (m : Int) (bx1 m r n c l) (wrap64 ((r : Int) + 1))) res → Ev (fun k => spec_BoxBySum.l1 k a b (m : Int) l (r : Int) (c : Int)) res
 | 0, c, l, hc, hcn, hl, h => by
  refine Ev.step (by intro k; simp only [spec_BoxBySum.l1]; rfl) (Ev.no (by omega) h)
 | n + 1, c, l, hc, hcn, hl, h => by
  have e1 : wrap64 (wrap64 (wrap64 ((r : Int) + (c : Int)) + (m : Int)) - 1) = ((r + c + m - 1 : Nat) : Int) := by
   rw [wid (n := (r : Int) + (c : Int)) (by omega) (by omega), wid (n := (r : Int) + (c : Int) + (m : Int)) (by omega) (by omega), wid (by omega) (by omega)]
   omega
  have e2 : wrap64 (wrap64 ((r : Int) + (c : Int)) - 1) = ((r + c - 1 : Nat) : Int) := by
   rw [wid (n := (r : Int) + (c : Int)) (by omega) (by omega), wid (by omega) (by omega)]
   omega
  have e3 : wrap64 ((l.length : Int) - 1) = (M : Int) - 1 := by rw [hl]; exact wid (by omega) (by omega)
  refine Ev.step (by intro k; simp only [spec_BoxBySum.l1]; rfl) (Ev.yes (by omega) ?_)
  rw [e1, e2, e3]
  have e4 : l = rwL M fun k => if M ≤ k then op1 (r + c + m - 1) (fun k => l.getD k 0) k else l.getD k 0 := by
   conv => lhs; rw [rwL_of l, hl]
   exact rwL_congr fun k hk => by rw [if_neg (by omega)]
  have hrec := bs_l1 (a := a) hb hb10 hm hr1 hr10 hM hM1 n (c + 1) (op2L (r + c - 1) (op1L (r + c + m - 1) l)) (by omega) (by omega) (by rw [op_len _ _ (by omega), hl]) h
  rw [op_form _ _ (by omega), hl] at hrec
  have := bs_l2 (a := a) (b := b) (m := (m : Int)) (r := r) (c := c) (u := r + c + m - 1) (d := r + c - 1) (by omega) (by omega) (by omega) hM hM1 (fun k => l.getD k 0) (by rw [wid1 (show c < nb + 1 by omega) (by omega)]; exact hrec) _ M rfl (Nat.le_refl _)
  rw [← e4] at this
  exact this
theorem bs_l0 {a b : Int} {m na nb : Nat} (ha : a = (na : Int)) (hb : b = (nb : Int)) (ha10 : na ≤ 10) (hb10 : nb ≤ 10) (hm : m ≤ 12) {M : Nat} (hM : M ≤ 1000) (hM1 : 1 ≤ M) :
 ∀ (n r : Nat) (l : List Int), 1 ≤ r → r + n = na + 1 → l.length = M → Ev (fun k => spec_BoxBySum.l0 k a b (m : Int) l (r : Int)) (bx0 nb m n r l, true)
 | 0, r, l, hr, hrn, hl => Ev.step (by intro k; simp only [spec_BoxBySum.l0]; rfl) (Ev.no (by omega) (Ev.now _))
 | n + 1, r, l, hr, hrn, hl => by
  refine Ev.step (by intro k; simp only [spec_BoxBySum.l0]; rfl) (Ev.yes (by omega) ?_)
  refine bs_l1 (m := m) (r := r) hb hb10 hm hr (by omega) hM hM1 nb 1 l (Nat.le_refl _) (by omega) hl ?_
  rw [wid1 (show r < na + 1 by omega) (by omega)]
  exact bs_l0 ha hb ha10 hb10 hm hM hM1 n (r + 1) _ (by omega) (by omega) (by rw [bx1_len m r hr nb 1 l (Nat.le_refl _), hl])
def bsFirst (M : Nat) : List Int := (List.replicate M 0).set 0 1
def bsRun (a b n : Nat) (p : List Int) (ids : List Nat) : Nat → Nat → List Nat → Bool
 | 0, _, _ => true
 | d + 1, m, vals => (bx0 b m a 1 (bsFirst (n * m + 1)) == ints (kDigits (sumL vals) (n * m + 1))) && bsRun a b n p ids d (m + 1) (kstep p ids vals)
def bsP (a b : Nat) : Option (List Int) → Bool
 | some p => bsRun a b p.length p (idealsN p) 13 0 ((idealsN p).map fun s => if s = 0 then 1 else 0)
 | none => false
def okBS (a b : Nat) : Bool := bsP a b (impl_rectangle.f 200 (a : Int) (b : Int))
theorem allBS : (List.range 11).all (fun a => (List.range 11).all fun b => a == 0 || b == 0 || decide (10 < a * b) || okBS a b) = true := by decide +kernel
theorem bsRun_at {a b : Nat} {p : List Int} (hp : p.length ≤ 10) : ∀ (d m : Nat), m + d ≤ 13 → bsRun a b p.length p (idealsN p) d m ((idealsN p).map (kN p m)) = true → ∀ q, m ≤ q → q < m + d → bx0 b q a 1 (bsFirst (p.length * q + 1)) = ints ((List.range (p.length * q + 1)).map (wT p q))
 | 0, m, _, _, q, h1, h2 => by omega
 | d + 1, m, hd, h, q, h1, h2 => by
  unfold bsRun at h
  rw [Bool.and_eq_true, kstep_eq] at h
  rcases Nat.lt_or_ge m q with hq | hq
  ·exact bsRun_at hp d (m + 1) (by omega) h.2 q (by omega) (by omega)
  ·obtain rfl : q = m := by omega
   rw [← kDigits_eq hp (by omega)]
   exact eq_of_beq h.1
theorem BoxBySum_same (a : Int) (_ : (Lit.int .i64 a).wf = true) (b : Int) (_ : (Lit.int .i64 b).wf = true) (m : Int) (_ : (Lit.int .i64 m).wf = true) :
 ∃ r, Ev (fun k => spec_BoxBySum.f k a b m) r ∧ Ev (fun k => impl_BoxBySum.f k a b m) r ∧ r.1.length ≤ 1000 := by
 have hs : spec_shSides.f a b = some (decide (sidesOk a b)) := (show spec_shSides.f a b = impl_areSides.f a b 10 from rfl).trans (areSides_iff a b)
 by_cases h : sidesOk a b
 rotate_left
 ·refine ⟨([], false), ?_, ?_, Nat.zero_le _⟩
  ·unfold spec_BoxBySum.f spec_laBox.f
   rw [hs, decide_eq_false h]
   exact Ev.call rfl (Ev.no (by simp) (Ev.now _))
  ·unfold impl_BoxBySum.f
   exact Ev.bind (Rectangle_no h) (Ev.no (by simp) (Ev.now _))
 obtain ⟨na, nb, p, rfl, rfl, h1, h2, h3, h4, hnm, hr, hP, hl⟩ := rect_impl h
 have hp := Ev.of (impl_rectangle.mono _ _) hr
 by_cases hm : 0 ≤ m ∧ m ≤ 12
 rotate_left
 ·refine ⟨([], false), ?_, ?_, Nat.zero_le _⟩
  ·unfold spec_BoxBySum.f spec_laBox.f
   rw [hs, decide_eq_true h, laBound_eq, range_false hm]
   exact Ev.call rfl (Ev.no (by simp) (Ev.now _))
  ·unfold impl_BoxBySum.f
   refine Ev.bind (Rectangle_yes h hp) (Ev.yes rfl ?_)
   rw [isBound_eq, range_false hm]
   exact Ev.call rfl (Ev.no (by simp) (Ev.now _))
 obtain ⟨q, rfl⟩ := Int.eq_ofNat_of_zero_le hm.1
 obtain ⟨n', m', en, em, _, _, _, _, _, hk⟩ := sides_all allBS h
 obtain rfl : na = n' := by omega
 obtain rfl : nb = m' := by omega
 unfold okBS at hk
 rw [hr] at hk
 simp only [bsP] at hk
 rw [← kN_first] at hk
 have hq := bsRun_at hP.small 13 0 (by omega) hk q (Nat.zero_le _) (by omega)
 have hM : p.length * q ≤ 10 * 12 := Nat.mul_le_mul hP.small (by omega)
 refine ⟨(ints (sumsL p q), true), ?_, ?_, ?_⟩
 ·unfold spec_BoxBySum.f spec_laBox.f
  rw [hs, decide_eq_true h, laBound_eq, range_true hm]
  have e0 : wrap64 ((na : Int) * (nb : Int)) = ((p.length : Nat) : Int) := by rw [hl, ← Int.natCast_mul]; exact wid (by omega) (by omega)
  have e1 : wrap64 (wrap64 (((p.length : Nat) : Int) * (q : Int)) + 1) = ((p.length * q + 1 : Nat) : Int) := by
   rw [← Int.natCast_mul, wid (n := ((p.length * q : Nat) : Int)) (by omega) (by omega), wid (by omega) (by omega)]; omega
  rw [e0, e1]
  refine Ev.call rfl (Ev.yes rfl (Ev.yes (by omega) (Ev.yes (by rw [Int.toNat_natCast]; omega) (Ev.call rfl (Ev.yes ?_ ?_)))))
  ·rw [List.length_replicate, Int.toNat_natCast]; omega
  ·rw [Int.toNat_natCast]
   have := bs_l0 (a := (na : Int)) (b := (nb : Int)) (m := q) rfl rfl (by omega) (by omega) (by omega) (M := p.length * q + 1) (by omega) (by omega) na 1 (bsFirst (p.length * q + 1)) (Nat.le_refl _) (by omega) (by unfold bsFirst; rw [List.length_set, List.length_replicate])
   rw [hq] at this
   exact this
 ·unfold impl_BoxBySum.f
  refine Ev.bind (Rectangle_yes h hp) (Ev.yes rfl ?_)
  rw [isBound_eq, range_true hm]
  exact Ev.call rfl (Ev.yes rfl (Ev.bind (chains_ev hP (by omega)) (Ev.now _)))
 ·show (ints (sumsL p q)).length ≤ 1000
  rw [ints_len]; unfold sumsL; rw [List.length_map, List.length_range]; omega
theorem lab_small {p : List Int} {m : Nat} {f : List Nat} (h : LabN p m f) : ∀ x ∈ f, x ≤ m := by
 intro x hx
 obtain ⟨i, hi, rfl⟩ := List.getElem_of_mem hx
 have := h.le i (by have := h.len; omega)
 rw [List.getD_eq_getElem?_getD, List.getElem?_eq_getElem hi] at this
 exact this
theorem sum_bound (m : Nat) : ∀ l : List Nat, (∀ x ∈ l, x ≤ m) → l.sum ≤ l.length * m := by
 intro l
 induction l with
 | nil => intro _; simp
 | cons x l ih =>
  intro h
  have h1 := ih (fun y hy => h y (List.mem_cons_of_mem _ hy))
  have h2 := h x List.mem_cons_self
  rw [List.sum_cons, List.length_cons, Nat.succ_mul]; omega
def cntS (l : List (List Nat)) (s : Nat) : Nat := l.countP fun f => decide (f.sum = s)
theorem cntS_snoc (l : List (List Nat)) (f : List Nat) (s : Nat) : cntS (l ++ [f]) s = if s = f.sum then cntS l s + 1 else cntS l s := by
 unfold cntS
 rw [List.countP_append]
 by_cases h : s = f.sum
 ·subst h; simp
 ·rw [if_neg h]
  have : decide (f.sum = s) = false := decide_eq_false (fun e => h e.symm)
  simp [this]
theorem bySum_loop {p : List Int} {m : Nat} (hn : p.length ≤ 10) (hm : m ≤ 12) {N : Nat} (hN : N = p.length * m + 1) (R : List (List Nat)) (hR : ∀ f ∈ R, LabN p m f) (hl : R.length ≤ 100000) :
 ∀ i, i ≤ R.length → Ev (fun k => spec_LabelsBySum.l0 k (Tl N (cntS (R.take i))) (R.map ints) (R.length : Int) (i : Int)) (Tl N (cntS R), true) := by
 refine downTo _ ?_ ?_
 ·refine Ev.step (by intro k; simp only [spec_LabelsBySum.l0]; rfl) (Ev.no (by omega) (Ev.ret ?_))
  rw [List.take_length]
 ·intro i hi ih
  have hf := hR R[i] (List.getElem_mem hi)
  have hs := lab_small hf
  have hsum : R[i].sum < N := by
   have h1 := sum_bound m _ hs
   rw [hf.len] at h1
   omega
  have hrow : rd_L1 (R.map ints) (i : Int) = ints R[i] := by
   unfold rd_L1
   rw [Int.toNat_natCast, List.getD_eq_getElem?_getD, List.getElem?_map, List.getElem?_eq_getElem hi]; rfl
  refine Ev.step (by intro k; simp only [spec_LabelsBySum.l0]; rfl) (Ev.yes (by omega) (Ev.yes (by omega) (Ev.yes (by rw [List.length_map]; omega) ?_)))
  rw [hrow, wid1 hi (by omega)]
  refine Ev.bind (laSum_ev (f := R[i]) (by rw [hf.len]; omega) (fun x hx => by have := hs x hx; omega)) (Ev.yes (by omega) (Ev.yes (by rw [Tl_len]; omega) ?_))
  have hc : cntS (R.take i) R[i].sum ≤ 100000 := Nat.le_trans List.countP_le_length (by rw [List.length_take]; omega)
  rw [Tl_get N _ hsum, Int.toNat_natCast, wid (by omega) (by omega), show ((cntS (R.take i) R[i].sum : Nat) : Int) + 1 = ((cntS (R.take i) R[i].sum + 1 : Nat) : Int) by omega, Tl_set hsum]
  have e : (Tl N fun u => if u = R[i].sum then cntS (R.take i) R[i].sum + 1 else cntS (R.take i) u) = Tl N (cntS (R.take (i + 1))) := Tl_congr fun t _ => by
   rw [take_snoc R i hi, cntS_snoc]
   split
   ·rename_i h; rw [h]
   ·rfl
  rw [e]
  exact ih
theorem LabelsBySum_same (p : List Int) (hp : p.length ≤ 1048576) (_ : ∀ n ∈ p, (Lit.int .i64 n).wf = true) (m : Int) (_ : (Lit.int .i64 m).wf = true) :
 ∃ r, Ev (fun k => spec_LabelsBySum.f k p m) r ∧ Ev (fun k => impl_LabelsBySum.f k p m) r ∧ r.1.length ≤ 1048576 := by
 unfold spec_LabelsBySum.f impl_LabelsBySum.f
 have stop : ∀ m, Ev (fun k => spec_LabelsBySum.j0 k m true p) ([], false) := fun m => Ev.step (by intro k; simp only [spec_LabelsBySum.j0]; rfl) (Ev.yes (show true = true from rfl) (Ev.now _))
 cases hpo : isPo p with
 | false =>
  refine ⟨([], false), Ev.bind (poGood_ev p) ?_, Ev.bind (IsPoset_ev p) ?_, Nat.zero_le _⟩
  ·rw [hpo]; exact Ev.no (by simp) (stop m)
  ·rw [hpo]; exact Ev.no (by simp) (Ev.now _)
 | true =>
  have hP := (isPo_iff p).1 hpo
  have hn := hP.small
  by_cases hm : 0 ≤ m ∧ m ≤ 12
  rotate_left
  ·refine ⟨([], false), Ev.bind (poGood_ev p) ?_, Ev.bind (IsPoset_ev p) ?_, Nat.zero_le _⟩
   ·rw [hpo]; refine Ev.yes rfl ?_
    rw [laBound_eq, range_false hm]
    exact Ev.call rfl (Ev.no (by simp) (stop m))
   ·rw [hpo]; refine Ev.yes rfl ?_
    rw [isBound_eq, range_false hm]
    exact Ev.call rfl (Ev.no (by simp) (Ev.now _))
  obtain ⟨q, rfl⟩ := Int.eq_ofNat_of_zero_le hm.1
  have hq : q ≤ 12 := by omega
  have hb : q * p.length ≤ 12 * 10 := Nat.mul_le_mul hq hn
  have hcomm : p.length * q = q * p.length := Nat.mul_comm _ _
  have hcount := labs_count hP q
  have hspec : ∀ r, Ev (fun k => spec_LabelsBySum.j0 k (q : Int) (decide (((wvN (stB p false) (idealsN p) (q + 1) (allN p) : Nat) : Int) > 100000)) p) r → Ev (fun k => (spec_poGood.f k p).bind fun t366 => (if t366 = true then ((spec_laBound.f (q : Int)).bind fun t367 => (if t367 = true then ((spec_laChains.f k p (wrap64 ((q : Int) + 1)) false).bind fun t368 => (spec_LabelsBySum.j0 k (q : Int) (decide (t368 > 100000)) p)) else (spec_LabelsBySum.j0 k (q : Int) true p))) else (spec_LabelsBySum.j0 k (q : Int) true p))) r := fun r h => by
   refine Ev.bind (poGood_ev p) ?_
   rw [hpo]; refine Ev.yes rfl ?_
   rw [laBound_eq, range_true hm]
   refine Ev.call rfl (Ev.yes rfl ?_)
   rw [show wrap64 ((q : Int) + 1) = ((q + 1 : Nat) : Int) by rw [wid (by omega) (by omega)]; omega]
   exact Ev.bind (laChains_ev hP false (by omega)) h
  have himpl : ∀ r, Ev (fun k => if ((wvN (stB p false) (idealsN p) (q + 1) (allN p) : Nat) : Int) > 100000 then some (([] : List Int), false) else (impl_Poset_chains.f k p (q : Int)).bind fun t383 => some (t383, true)) r → Ev (fun k => (impl_IsPoset.f k p).bind fun t380 => (if t380 = true then ((impl_isBound.f (q : Int)).bind fun t381 => (if t381 = true then ((impl_Poset_count.f k p (q : Int)).bind fun t382 => (if t382 > 100000 then (some (([] : List Int), false)) else ((impl_Poset_chains.f k p (q : Int)).bind fun t383 => (some (t383, true))))) else (some (([] : List Int), false)))) else (some (([] : List Int), false)))) r := fun r h => by
   refine Ev.bind (IsPoset_ev p) ?_
   rw [hpo]; refine Ev.yes rfl ?_
   rw [isBound_eq, range_true hm]
   exact Ev.call rfl (Ev.yes rfl (Ev.bind (count_ev hP (by omega)) h))
  by_cases hbig : ((wvN (stB p false) (idealsN p) (q + 1) (allN p) : Nat) : Int) > 100000
  ·refine ⟨([], false), hspec _ ?_, himpl _ (Ev.yes hbig (Ev.now _)), Nat.zero_le _⟩
   rw [decide_eq_true hbig]
   exact stop _
  ·refine ⟨(ints (sumsL p q), true), hspec _ ?_, himpl _ (Ev.no hbig (Ev.bind (chains_ev hP hq) (Ev.now _))), ?_⟩
   ·rw [decide_eq_false hbig]
    have e1 : wrap64 (wrap64 ((q : Int) * (p.length : Int)) + 1) = ((p.length * q + 1 : Nat) : Int) := by
     rw [← Int.natCast_mul, wid (n := ((q * p.length : Nat) : Int)) (by omega) (by omega), wid (by omega) (by omega)]; omega
    refine Ev.step (by intro k; simp only [spec_LabelsBySum.j0]; rfl) (Ev.no (by simp) ?_)
    rw [e1, Int.toNat_natCast]
    refine Ev.yes (by omega) (Ev.yes (by omega) (Ev.bind (labs_ev hP hq (most := 100000) (Nat.le_refl _) (by rw [hcount]; omega)) ?_))
    rw [List.length_map, Tl_zero]
    have := bySum_loop hn hq rfl (labsN p q) (fun f hf => (mem_labsN hP q f).1 hf) (by rw [hcount]; omega) 0 (Nat.zero_le _)
    have e2 : Tl (p.length * q + 1) (cntS (labsN p q)) = ints (sumsL p q) := by
     unfold Tl sumsL ints
     rw [List.map_map]
     refine List.map_congr_left fun s _ => ?_
     show ((cntS (labsN p q) s : Nat) : Int) = ((wT p q s : Nat) : Int)
     rw [← labs_sum hP q s]; rfl
    rw [e2] at this
    exact this
   ·show (ints (sumsL p q)).length ≤ _
    rw [ints_len]; unfold sumsL; rw [List.length_map, List.length_range]; omega
end Go.Proofs.Ytmbojobkiainlaa.Q
end

section
namespace Go.Proofs.Ytmbojobkiainlaa.F
open Go.RowKit Go.Proofs.YtmbojobkiainlaaW.PrintWords Go.Proofs.YtmbojobkiainlaaW.PrintLast Go.Proofs.YtmbojobkiainlaaW.PrintMore
set_option linter.unusedVariables false
set_option linter.unusedSimpArgs false
mutual
def spec_StairA.l0 : Nat → Int → List (List Int) → Int → Option ((List (List Int)))
 | 0, _, _, _ => none
 | k + 1, x0, x4, x5 => if x5 ≤ x0 then (spec_StairA.l1 k x0 x4 x5 0) else (some x4)
def spec_StairA.l1 : Nat → Int → List (List Int) → Int → Int → Option ((List (List Int)))
 | 0, _, _, _, _ => none
 | k + 1, x0, x4, x5, x6 => if (wrap64 (x6 + x5)) ≤ x0 then (if x4.length < 5864062014805 then (spec_StairA.l1 k x0 (x4 ++ [(([x6, wrap64 (x6 + x5)] : List Int))]) x5 (wrap64 (x6 + 1))) else (none)) else (spec_StairA.l0 k x0 x4 (wrap64 (x5 + 1)))
end
def spec_StairA.f (k : Nat) (a0 : Int) : Option ((List (List Int))) := spec_StairA.l0 k a0 ([] : List (List Int)) 1
theorem spec_StairA.mono_l : ∀ k, (∀ y0 y1 y2, LeO (spec_StairA.l0 k y0 y1 y2) (spec_StairA.l0 (k + 1) y0 y1 y2)) ∧ (∀ y0 y1 y2 y3, LeO (spec_StairA.l1 k y0 y1 y2 y3) (spec_StairA.l1 (k + 1) y0 y1 y2 y3))
 | 0 => ⟨fun _ _ _ r h => by simp [spec_StairA.l0] at h, fun _ _ _ _ r h => by simp [spec_StairA.l1] at h⟩
 | k + 1 => by
  obtain ⟨ih0, ih1⟩ := spec_StairA.mono_l k
  refine ⟨?_, ?_⟩
  ·intro y0 y1 y2
   unfold spec_StairA.l0
   repeat' first
   | (with_reducible exact LeO.refl _)
   | (with_reducible exact LeO.none _)
   | (with_reducible refine LeO.ite ?_ ?_)
   | (with_reducible refine LeO.bind ?_ (fun _ => ?_))
   | exact ih0 _ _ _
   | exact ih1 _ _ _ _
   | exact LeO.none _
   | refine LeO.ite ?_ ?_
   | refine LeO.bind ?_ (fun _ => ?_)
  ·intro y0 y1 y2 y3
   unfold spec_StairA.l1
   repeat' first
   | (with_reducible exact LeO.refl _)
   | (with_reducible exact LeO.none _)
   | (with_reducible refine LeO.ite ?_ ?_)
   | (with_reducible refine LeO.bind ?_ (fun _ => ?_))
   | exact ih0 _ _ _
   | exact ih1 _ _ _ _
   | exact LeO.none _
   | refine LeO.ite ?_ ?_
   | refine LeO.bind ?_ (fun _ => ?_)
theorem spec_StairA.mono : ∀ a0 k, LeO (spec_StairA.f k a0) (spec_StairA.f (k + 1) a0) := by
 intro a0 k
 obtain ⟨ih0, ih1⟩ := spec_StairA.mono_l k
 unfold spec_StairA.f
 repeat' first
  | (with_reducible exact LeO.refl _)
  | (with_reducible exact LeO.none _)
  | (with_reducible refine LeO.ite ?_ ?_)
  | (with_reducible refine LeO.bind ?_ (fun _ => ?_))
  | exact ih0 _ _ _
  | exact ih1 _ _ _ _
  | exact LeO.none _
  | refine LeO.ite ?_ ?_
  | refine LeO.bind ?_ (fun _ => ?_)
mutual
def spec_StairB.l0 : Nat → List (List Int) → List (List Int) → Int → Int → List Int → Option (List Int × Bool)
 | 0, _, _, _, _, _ => none
 | k + 1, x1, x40, x41, x42, x1387000 => if x42 < x41 then (if 0 ≤ x42 then (if x42 < (x40.length : Int) then (spec_StairB.l1 k x1 x42 (rd_L1 x40 x42) x40 x41 x42 x1 (x1.length : Int) 0 x1387000) else (none)) else (none)) else (some (x1387000, true))
def spec_StairB.l1 : Nat → List (List Int) → Int → List Int → List (List Int) → Int → Int → List (List Int) → Int → Int → List Int → Option (List Int × Bool)
 | 0, _, _, _, _, _, _, _, _, _, _ => none
 | k + 1, x1, x8, x9, x40, x41, x42, x47, x48, x49, x1387000 => if x49 < x48 then (if 0 ≤ x49 then (if x49 < (x47.length : Int) then (if x8 = x49 then (spec_StairB.l1 k x1 x8 x9 x40 x41 x42 x47 x48 (wrap64 (x49 + 1)) x1387000) else (if 0 < (x9.length : Int) then (if 0 < ((rd_L1 x47 x49).length : Int) then (if (rd x9 0) ≤ (rd (rd_L1 x47 x49) 0) then (if 1 < ((rd_L1 x47 x49).length : Int) then (if 1 < (x9.length : Int) then (if (rd (rd_L1 x47 x49) 1) ≤ (rd x9 1) then (if 0 ≤ x8 then (if x8 < (x1387000.length : Int) then (spec_StairB.l1 k x1 x8 x9 x40 x41 x42 x47 x48 (wrap64 (x49 + 1)) (x1387000.set (x8 : Int).toNat (Go.bits .or .i64 (rd x1387000 x8) (shl .i64 1 x49)))) else (none)) else (none)) else (spec_StairB.l1 k x1 x8 x9 x40 x41 x42 x47 x48 (wrap64 (x49 + 1)) x1387000)) else (none)) else (none)) else (spec_StairB.l1 k x1 x8 x9 x40 x41 x42 x47 x48 (wrap64 (x49 + 1)) x1387000)) else (none)) else (none))) else (none)) else (none)) else (spec_StairB.l0 k x1 x40 x41 (wrap64 (x42 + 1)) x1387000)
end
def spec_StairB.f (k : Nat) (a0 : Int) (l1 : List (List Int)) : Option (List Int × Bool) := if 0 ≤ (l1.length : Int) then (if ((l1.length : Int) : Int).toNat ≤ 35184372088832 then (spec_StairB.l0 k l1 l1 (l1.length : Int) 0 (List.replicate ((l1.length : Int) : Int).toNat 0)) else (none)) else (none)
theorem spec_StairB.mono_l : ∀ k, (∀ y0 y1 y2 y3 y4, LeO (spec_StairB.l0 k y0 y1 y2 y3 y4) (spec_StairB.l0 (k + 1) y0 y1 y2 y3 y4)) ∧ (∀ y0 y1 y2 y3 y4 y5 y6 y7 y8 y9, LeO (spec_StairB.l1 k y0 y1 y2 y3 y4 y5 y6 y7 y8 y9) (spec_StairB.l1 (k + 1) y0 y1 y2 y3 y4 y5 y6 y7 y8 y9))
 | 0 => ⟨fun _ _ _ _ _ r h => by simp [spec_StairB.l0] at h, fun _ _ _ _ _ _ _ _ _ _ r h => by simp [spec_StairB.l1] at h⟩
 | k + 1 => by
  obtain ⟨ih0, ih1⟩ := spec_StairB.mono_l k
  refine ⟨?_, ?_⟩
  ·intro y0 y1 y2 y3 y4
   unfold spec_StairB.l0
   repeat' first
   | (with_reducible exact LeO.refl _)
   | (with_reducible exact LeO.none _)
   | (with_reducible refine LeO.ite ?_ ?_)
   | (with_reducible refine LeO.bind ?_ (fun _ => ?_))
   | exact ih0 _ _ _ _ _
   | exact ih1 _ _ _ _ _ _ _ _ _ _
   | exact LeO.none _
   | refine LeO.ite ?_ ?_
   | refine LeO.bind ?_ (fun _ => ?_)
  ·intro y0 y1 y2 y3 y4 y5 y6 y7 y8 y9
   unfold spec_StairB.l1
   repeat' first
   | (with_reducible exact LeO.refl _)
   | (with_reducible exact LeO.none _)
   | (with_reducible refine LeO.ite ?_ ?_)
   | (with_reducible refine LeO.bind ?_ (fun _ => ?_))
   | exact ih0 _ _ _ _ _
   | exact ih1 _ _ _ _ _ _ _ _ _ _
   | exact LeO.none _
   | refine LeO.ite ?_ ?_
   | refine LeO.bind ?_ (fun _ => ?_)
theorem spec_StairB.mono : ∀ a0 a1 k, LeO (spec_StairB.f k a0 a1) (spec_StairB.f (k + 1) a0 a1) := by
 intro a0 a1 k
 obtain ⟨ih0, ih1⟩ := spec_StairB.mono_l k
 unfold spec_StairB.f
 repeat' first
  | (with_reducible exact LeO.refl _)
  | (with_reducible exact LeO.none _)
  | (with_reducible refine LeO.ite ?_ ?_)
  | (with_reducible refine LeO.bind ?_ (fun _ => ?_))
  | exact ih0 _ _ _ _ _
  | exact ih1 _ _ _ _ _ _ _ _ _ _
  | exact LeO.none _
  | refine LeO.ite ?_ ?_
  | refine LeO.bind ?_ (fun _ => ?_)
def spec_StairB.T18 : Bool × List (List Nat × List Nat) := (true, [([], []), ([], []), ([0, 1], [0, 1]), ([2], [2]), ([3], [3]), ([4, 3], [3, 4]), ([5, 3], [3, 5]), ([3], [3]), ([7, 3], [3, 7]), ([8, 3], [3, 8]), ([6, 9, 3], [3, 6, 9]), ([3, 10], [3, 10]), ([11, 3], [11]), ([12], [12]), ([13, 12], [12, 13]), ([14, 12], [12, 14]), ([12], [12]), ([16, 12], [12, 16]), ([17, 12], [12, 17]), ([15, 18, 12], [12, 15, 18]), ([12, 19], [12, 19])])
def spec_StairB.B18 : List Nat := [0, 0, 3, 7, 15, 31, 63, 15, 143, 399, 1023, 2047, 4095, 8191, 16383, 32767, 8191, 73727, 204799, 524287, 1048575]
theorem spec_StairB.tab18 : rtab .any (opsOf Try.f152 18) = spec_StairB.T18 := by kernel_rfl
theorem spec_StairB.bits18 : waitsOk spec_StairB.T18.2 spec_StairB.B18 = true := by kernel_rfl
def spec_StairB.T19 : Bool × List (List Nat × List Nat) := (true, [([], []), ([0], [0]), ([], []), ([1, 2], [1, 2]), ([3], [3]), ([], []), ([5], [5]), ([4, 6], [4, 6]), ([1, 2, 0, 1, 2, 3, 4, 5, 6, 7], [1, 2]), ([8, 7, 0, 1, 2, 3, 4, 5, 6, 7], [7, 8])])
def spec_StairB.B19 : List Nat := [0, 1, 0, 7, 15, 0, 32, 127, 255, 511]
theorem spec_StairB.tab19 : rtab .any (opsOf Try.f152 19) = spec_StairB.T19 := by kernel_rfl
theorem spec_StairB.bits19 : waitsOk spec_StairB.T19.2 spec_StairB.B19 = true := by kernel_rfl
def spec_Staircase.f (k : Nat) (a0 : Int) : Option (List Int × Bool) := (spec_l1In.f a0 1 4).bind fun b => if b = true then (spec_StairA.f k a0).bind fun st => spec_StairB.f k a0 st else some ([], false)
theorem spec_Staircase.mono : ∀ a0 k, LeO (spec_Staircase.f k a0) (spec_Staircase.f (k + 1) a0) := fun a0 k => LeO.bind (LeO.refl _) (fun b => LeO.ite (LeO.bind (spec_StairA.mono _ _) (fun st => spec_StairB.mono _ _ _)) (LeO.refl _))
set_option maxHeartbeats 8000000 in
set_option maxRecDepth 100000 in
theorem spec_Staircase.calls (k : Nat) (a0 : Int) (r1 : List Int) (r2 : Bool) (w : World) (h : spec_Staircase.f k a0 = some (r1, r2)) :
 Calls Try.prog 152 #[.int .i64 a0] w fun e w' => ∃ v0_ : Value, e = .returned (.tuple #[.agg #[v0_], .bool r2]) ∧ Kd.R (Kd.int .i64) 3 w' w.heap.size (fun _ => True) v0_ r1 ∧ Below w.heap.size w w' := by
 have hu26 := Try.underlying26
 unfold spec_Staircase.f at h
 obtain ⟨b, hb1, h⟩ := Option.bind_eq_some_iff.1 h
 have HIN := am hb1
 have HB := am (Below.refl w.heap.size w)
 clear hb1
 cases b with
 | false =>
  obtain ⟨rfl, rfl⟩ : [] = r1 ∧ false = r2 := by simpa using h
  clear h
  go_enter Try.func152, Try.ntmps152
  go_wp2_with (first | ((with_reducible refine gate_dst (N := 2) rfl ?_); refine qx (N := 2) (cs := #[.slice none 0 0]) (t := 26) ?_; intro gb1382 hg w5 hbox hb; have n0_ := am (below_step qB hb); have BK1382 := am (hbox); have GW1382 := am (qg w hg); have GE1382 := am (qg w hg); clear HB; have HB := n0_; clear n0_; clear hb hbox hg) | (go_at_call 75; (with_reducible refine (spec_l1In.calls a0 1 4 false _ HIN.out).mono ?_); rintro e w' ⟨rfl, ⟨nd, rfl⟩⟩; have hcz : (w5.drewN nd).cell? ⟨gb1382, 0, none⟩ = some (.slice none 0 0) := (blk_cell (blk_drewN BK1382.out nd) 0).trans rfl; have hfz := blk_frozen (blk_drewN BK1382.out nd) 0))
  refine bodyPost_ret (results_ct rfl _ _ gb1382 26 #[.slice none 0 0] (0, 0) _ rfl (by refine blk_put (cs := #[.slice none 0 0]) ?_ 0 _ rfl; refine qb ?_; exact BK1382.out) Try.underlying26 rfl (by kernel_rfl)) rfl ?_
  exact ⟨_, rfl, Kd.R_nil _ _ _ _ _, below_set qB GE1382.out⟩
 | true =>
  have h := (if_pos rfl).symm.trans h
  obtain ⟨st0, hst, h⟩ := Option.bind_eq_some_iff.1 h
  have H' := am (show spec_StairA.l0 k a0 ([] : List (List Int)) 1 = some st0 from hst)
  have HBRUN := am h
  clear hst h
  go_enter Try.func152, Try.ntmps152
  go_wp2_with (first | ((with_reducible refine gate_dst (N := 2) rfl ?_); refine qx (N := 2) (cs := #[.slice none 0 0]) (t := 26) ?_; intro gb1382 hg w5 hbox hb; have n0_ := am (below_step qB hb); have BK1382 := am (hbox); have GW1382 := am (qg w hg); have GE1382 := am (qg w hg); clear HB; have HB := n0_; clear n0_; clear hb hbox hg) | (go_at_call 75; (with_reducible refine (spec_l1In.calls a0 1 4 true _ HIN.out).mono ?_); rintro e w' ⟨rfl, ⟨nd, rfl⟩⟩; have BKA := am (blk_drewN BK1382.out nd); have HBA := am (pw_below_drewN HB.out nd); clear BK1382 HB; generalize w5.drewN nd = W1 at BKA HBA ⊢; have HB := am (Below.refl W1.heap.size W1)))
  go_loopg [4, 5] k (fun kq v4 v5 w' => ∃ (x4_1 : List (List Int)) (x5_1 : Int), v5 = .int .i64 x5_1 ∧ Aside0 (spec_StairA.l0 kq a0 x4_1 x5_1 = some st0) ∧ Aside0 (kq ≤ k) ∧ Aside0 (Kd.S (Kd.slice 3 (Kd.int .i64)) 24 w' W1.heap.size (fun _ => True) v4 x4_1) ∧ Aside0 (Below W1.heap.size W1 w'))
  case atStart => exact ⟨(([] : List (List Int))), (1), qe, H', ⟨Nat.le_refl _⟩, ⟨by first | exact Kd.S_nil _ _ _ _ _ | exact Kd.N_nil _ _ _ _ _ | exact Kd.V_nil _ _ _ _ _ | exact Kd.Q_nil _ _ _ _ _ | exact Kd.R_nil _ _ _ _ _⟩, ⟨qB⟩⟩
  case round =>
   clear H'
   try clear c1
   obtain ⟨x4_1, x5_1, rfl, HA, HK1, HO_4, HB⟩ := hrel
   cases gk with
   | zero => exact absurd HA.out (by simp [spec_StairA.l0])
   | succ k1 =>
    have H := HA.out
    clear HA
    simp only [spec_StairA.l0] at H
    by_cases c2 : x5_1 ≤ a0
    ·rw [if_pos c2] at H
     have c2b0 := decide_eq_true c2
     clear c2
     have H' := am H
     clear H
     go_wp2
     go_loopg [4, 6] k1 (fun kq v4 v6 w' => ∃ (x4_2 : List (List Int)) (x6_2 : Int), v6 = .int .i64 x6_2 ∧ Aside0 (spec_StairA.l1 kq a0 x4_2 x5_1 x6_2 = some st0) ∧ Aside0 (kq ≤ k1) ∧ Aside0 (Kd.S (Kd.slice 3 (Kd.int .i64)) 24 w' W1.heap.size (fun _ => True) v4 x4_2) ∧ Aside0 (Below W1.heap.size W1 w'))
     case atStart => exact ⟨(x4_1), (0), qe, H', ⟨Nat.le_refl _⟩, ⟨qS HO_4.out⟩, ⟨qB⟩⟩
     case round =>
      clear H'
      try clear c1
      try clear c2
      try clear c2b0
      try clear p2
      obtain ⟨x4_2, x6_2, rfl, HA, HK2, HO_4, HB⟩ := hrel
      cases gk with
      | zero => exact absurd HA.out (by simp [spec_StairA.l1])
      | succ k2 =>
       have H := HA.out
       clear HA
       simp only [spec_StairA.l1] at H
       by_cases c3 : (wrap64 (x6_2 + x5_1)) ≤ a0
       ·rw [if_pos c3] at H
        have c3b0 : decide ((wrap64 (x6_2 + x5_1)) ≤ a0) = true := decide_eq_true c3
        clear c3
        obtain ⟨y1376, hy1376⟩ : ∃ y_ : List Int, y_ = (([x6_2, wrap64 (x6_2 + x5_1)] : List Int)) := ⟨_, rfl⟩
        first | rw [← hy1376] at H | (have H2_ := (Option.bind_some _ _).symm.trans H; clear H; have H := H2_; clear H2_; rw [← hy1376] at H)
        have Ny1376 := am hy1376
        clear hy1376
        by_cases c4 : x4_2.length < 5864062014805
        rotate_left
        ·rw [if_neg c4] at H
         exact absurd H (by simp)
        rw [if_pos c4] at H
        have LMc4 := am c4
        clear c4
        obtain ⟨y1379, hy1379⟩ : ∃ y_ : List (List Int), y_ = (x4_2 ++ [y1376]) := ⟨_, rfl⟩
        first | rw [← hy1379] at H | (have H2_ := (Option.bind_some _ _).symm.trans H; clear H; have H := H2_; clear H2_; rw [← hy1379] at H)
        have Ny1379 := am hy1379
        clear hy1379
        have H' := am H
        clear H
        go_wp2_with (first | ((with_reducible refine gate_dst (N := 33) rfl ?_); refine Kd.R_lit (Kd.int .i64) _ 3 ?hg (N := 33) ?hd (xs := ([x6_2, wrap64 (x6_2 + x5_1)] : List Int)) (inner := [.int .i64 x6_2, .int .i64 (wrap64 (x6_2 + x5_1))]) (ok := fun _ => True) (okp := fun _ => True) ?hr ?hp (fun _ hk => hk) trivial (Below.refl _ _) (Nat.le_refl _) (by simp) ?_; (case hd => rfl); (case hg => rfl); (case hr => first | (go_simp; done) | (go_simp; rfl)); (case hp => exact (Reps.one (show Kd.M (Kd.int .i64) _ _ _ x6_2 [.int .i64 x6_2] from rfl) (Reps.one (show Kd.M (Kd.int .i64) _ _ _ (wrap64 (x6_2 + x5_1)) [.int .i64 (wrap64 (x6_2 + x5_1))] from rfl) (Reps.none _ _)))); intro v1377 w5 ho6 hb hg_ hnew_; clear hg_ hnew_; (first | rw [← Ny1376.out] at ho6 | (simp only [Int.reduceToNat] at ho6; rw [← Ny1376.out] at ho6)); replace HO_4 := am (Kd.S_elder' (qS HO_4.out) (Kd.R_base ho6) hb); have HO1378 := am (Kd.R_lower ho6 (below_size qB)); replace HB := am (below_step qB hb); clear hb ho6; obtain ⟨Ao8, co8, eo8⟩ := Kd.R_slice HO1378.out; subst eo8) | ((with_reducible refine gate_builtin (b := .append) (xs := #[.tmp 28, .tmp 34]) rfl ?_); at_builtin; refine Kd.S_append (Kd.slice 3 (Kd.int .i64)) (w0 := W1) W1.heap.size rfl (.tmp 28) (.tmp 34) 58 24 (.slice none 0 0) 24 rfl Try.underlying58 info24 rfl (by decide) (by omega) u4 x4_2 y1376 [.slice Ao8 y1376.length co8] (fun _ => True) (fun k_ => some k_ = (.slice Ao8 y1376.length co8 : Value).ownBlock) rfl rfl ?aP (fun k_ hk_ => ((Kd.R_mono (ok' := fun k_ => ((fun _ => True)) k_ ∧ some k_ ≠ (u4 : Value).ownBlock) (Kd.R_apart' (HO1378.out) (Kd.S_typed HO_4.out) (by decide)) (fun k_ hk => ⟨trivial, hk.2⟩))).1 k_ hk_.symm) ?aF ?aO ?aB ?aS ?aL ?_; (case aP => exact Kd.M_row (Kd.R_mono (Kd.R_tight rfl (Kd.R_mono (ok' := fun k_ => ((fun _ => True)) k_ ∧ some k_ ≠ (u4 : Value).ownBlock) (Kd.R_apart' (HO1378.out) (Kd.S_typed HO_4.out) (by decide)) (fun k_ hk => ⟨trivial, hk.2⟩))) (fun _ h_ => h_))); (case aB => exact qB); (case aF => exact (fun _ _ => trivial)); (case aO => exact (qS (Kd.S_mono HO_4.out (fun k_ hk => ⟨trivial, fun e_ => hk.2 e_⟩)))); (case aS => exact (below_size qB)); (case aL => have := LMc4.out; omega); intro v1380 w7 ho hb hg hat; rw [← Ny1379.out] at ho; have n0_ := am (hb); have HO1381 := am (ho); clear HB HO_4 HO1378; have HB := n0_; clear n0_; clear ho hb hg hat))
        go_roundg k2
        case measure => have := HK1.out; have := HK2.out; omega
        case rel => exact ⟨(y1379), (wrap64 (x6_2 + 1)), qe, H', ⟨by have := HK1.out; have := HK2.out; omega⟩, ⟨qS HO1381.out⟩, ⟨qB⟩⟩
       ·rw [if_neg c3] at H
        have c3b0 : decide ((wrap64 (x6_2 + x5_1)) ≤ a0) = false := decide_eq_false c3
        clear c3
        have H' := am H
        clear H
        go_wp2
        go_roundg k2
        case measure => have := HK1.out; have := HK2.out; omega
        case rel => exact ⟨(x4_2), (wrap64 (x5_1 + 1)), qe, H', ⟨by have := HK1.out; have := HK2.out; omega⟩, ⟨qS HO_4.out⟩, ⟨qB⟩⟩
    ·rw [if_neg c2] at H
     have c2b0 := decide_eq_false c2
     clear c2
     obtain rfl := Option.some.inj H
     obtain ⟨As1, cs1, es1⟩ := Kd.S_slice HO_4.out
     subst es1
     have HR1 := am (Kd.S_reads' HO_4.out).2.2
     have HC1 := am (Kd.S_reads' HO_4.out).2.1
     have BK1382 := am (blk_below BKA.out HB.out)
     have HBW := am (HBA.out.trans (HB.out.mono HBA.out.size))
     obtain ⟨W2, rfl⟩ : ∃ x, x = wr := ⟨wr, rfl⟩
     clear HB HO_4 BKA HBA
     have HB := am (Below.refl W2.heap.size W2)
     have H : (if 0 ≤ (x4_1.length : Int) then (if ((x4_1.length : Int) : Int).toNat ≤ 35184372088832 then (spec_StairB.l0 k x4_1 x4_1 (x4_1.length : Int) 0 (List.replicate ((x4_1.length : Int) : Int).toNat 0)) else (none)) else (none)) = some (r1, r2) := HBRUN.out
     clear HBRUN
     by_cases c3 : 0 ≤ (x4_1.length : Int)
     ·rw [if_pos c3] at H
      have c3b0 := eq_true c3
      have c3b1 : decide (0 ≤ (x4_1.length : Int)) = true := decide_eq_true c3
      clear c3
      by_cases c4 : ((x4_1.length : Int) : Int).toNat ≤ 35184372088832
      rotate_left
      ·rw [if_neg c4] at H
       exact absurd H (by simp)
      rw [if_pos c4] at H
      have c4b0 := eq_true c4
      have c4b1 : decide (((x4_1.length : Int) : Int).toNat ≤ 35184372088832) = true := decide_eq_true c4
      clear c4
      obtain ⟨y1383, hy1383⟩ : ∃ y_ : List Int, y_ = (List.replicate ((x4_1.length : Int) : Int).toNat 0) := ⟨_, rfl⟩
      first | rw [← hy1383] at H | (have H2_ := (Option.bind_some _ _).symm.trans H; clear H; have H := H2_; clear H2_; rw [← hy1383] at H)
      have Ny1383 := am hy1383
      clear hy1383
      have H' := am H
      clear H
      go_wp2_with (first | ((with_reducible refine gate_dst (N := 38) rfl ?_); refine Kd.R_make (Kd.int .i64) _ 3 rfl (N := 38) rfl 24 _ _ rfl (x4_1.length : Int) rfl rfl Try.underlying24 (.int .i64 0) 8 info3 rfl (by decide) (by omega) 0 (ok := fun _ => True) (okp := fun _ => True) rfl (fun _ hk => hk) trivial (qd) (Nat.le_trans (Nat.mul_le_mul_right _ (qd : (x4_1.length : Int).toNat ≤ 35184372088832)) (by omega)) (Below.refl _ _) (Nat.le_refl _) ?_; intro v1384 w6 ho7 hb hg_ hnew_; clear hg_ hnew_; (first | rw [← Ny1383.out] at ho7 | (simp only [Int.reduceToNat] at ho7; rw [← Ny1383.out] at ho7)); have HO1385 := am (Kd.R_lower ho7 (below_size qB)); replace BK1382 := am (blk_below (g := gb1382) (o := .cells #[.slice none 0 0] 26 (0, 0)) (qb BK1382.out) hb); replace HB := am (below_step qB hb); clear hb ho7; obtain ⟨Ao8, co8, eo8⟩ := Kd.R_slice HO1385.out; subst eo8) | ((with_reducible refine gate_dst (N := 7) rfl ?_); refine qx (N := 7) (cs := #[.slice none 0 0]) (t := 26) ?_; intro gb1386 hg w9 hbox hb; replace HO1385 := am (Kd.R_below (qR HO1385.out) hb); have n1_ := am (blk_below (g := gb1382) (o := .cells #[.slice none 0 0] 26 (0, 0)) (qb BK1382.out) hb); have n2_ := am (below_step qB hb); have BK1386 := am (hbox); have GW1386 := am (qg W2 hg); have GE1386 := am (qg W2 hg); have NB1382_1386 := am ((by rw [hg]; exact Nat.ne_of_lt (blk_lt (g := gb1382) (o := .cells #[.slice none 0 0] 26 (0, 0)) (qb BK1382.out)) : gb1382 ≠ gb1386)); have NB1386_1382 := am ((by rw [hg]; exact Nat.ne_of_gt (blk_lt (g := gb1382) (o := .cells #[.slice none 0 0] 26 (0, 0)) (qb BK1382.out)) : gb1386 ≠ gb1382)); clear BK1382 HB; have BK1382 := n1_; have HB := n2_; clear n1_ n2_; clear hb hbox hg; have hnb10 := NB1386_1382.out; have hnc10 := NB1382_1386.out; have hcz11_0 := qz w9 BK1386.out; have hfz11_0 := blk_frozen BK1386.out 0))
      go_loopg [42] k (fun kq v42 w' => ∃ (x42_1 : Int) (x1387000_1 : List Int) (u1387000 : Value), v42 = .int .i64 x42_1 ∧ Aside0 (spec_StairB.l0 kq x4_1 x4_1 (x4_1.length : Int) x42_1 x1387000_1 = some (r1, r2)) ∧ Aside0 (kq ≤ k) ∧ Aside0 (Kd.R (Kd.int .i64) 3 w' W2.heap.size (fun _ => True) u1387000 x1387000_1) ∧ Aside0 (w'.heap[gb1382]? = some (.cells #[(.slice none 0 0)] 26 (0, 0))) ∧ Aside0 (w'.heap[gb1386]? = some (.cells #[u1387000] 26 (0, 0))) ∧ Aside0 (Below W2.heap.size W2 w'))
      case atStart => exact ⟨(0), (y1383), (.slice Ao8 y1383.length co8), qe, H', ⟨Nat.le_refl _⟩, ⟨qR (Kd.R_mono (Kd.R_far (p := ⟨gb1386, 0, none⟩) (Kd.R_types HO1385.out BK1386.out (by decide)) (fun _ hk => hk.2) (.slice Ao8 y1383.length co8)) (fun _ hk => trivial))⟩, ⟨by (with_reducible repeat (first | refine blk_drewN ?_ _ | refine blk_drew ?_ | refine blk_alloc ?_ _)); refine blk_far ?_ NB1382_1386.out _; refine qb ?_; exact BK1382.out⟩, ⟨by (with_reducible repeat (first | refine blk_drewN ?_ _ | refine blk_drew ?_ | refine blk_alloc ?_ _)); refine blk_put (cs := #[.slice none 0 0]) ?_ 0 _ rfl; refine qb ?_; exact BK1386.out⟩, ⟨qB⟩⟩
      case round =>
       clear H'
       try clear c1
       try clear p2
       try clear c3
       try clear c3b0
       try clear c3b1
       try clear c4
       try clear c4b0
       try clear c4b1
       try clear c10
       try clear hcz11_0
       try clear hfz11_0
       obtain ⟨x42_1, x1387000_1, u1387000, rfl, HA, HK1, HO_1387000, BK1382, BK1386, HB⟩ := hrel
       cases gk with
       | zero => exact absurd HA.out (by simp [spec_StairB.l0])
       | succ k1 =>
        have H := HA.out
        clear HA
        simp only [spec_StairB.l0] at H
        by_cases c12 : x42_1 < (x4_1.length : Int)
        ·rw [if_pos c12] at H
         have c12b0 := decide_eq_true c12
         clear c12
         by_cases c13 : 0 ≤ x42_1
         rotate_left
         ·rw [if_neg c13] at H
          exact absurd H (by simp)
         rw [if_pos c13] at H
         have c13b0 := decide_eq_true c13
         clear c13
         by_cases c14 : x42_1 < (x4_1.length : Int)
         rotate_left
         ·rw [if_neg c14] at H
          exact absurd H (by simp)
         rw [if_pos c14] at H
         have c14b0 := decide_eq_true c14
         clear c14
         have H' := am H
         clear H
         have p1387 : 0 ≤ (x42_1 : Int) := qd
         have q1387 : x42_1 < (x4_1.length : Int) := qd
         obtain ⟨ad1387, A1387_0, c1387_0, e1387, hx1387_0, hl1387_0, hi1387_0⟩ := at_L1 HR1.out x42_1 p1387 q1387
         cases e1387
         replace hx1387_0 := (HB.out.cell (World.block_lt_of_cell? W2 _ hx1387_0)).trans hx1387_0
         have HR1387_0 := am hi1387_0
         have HC1387_0 := am hl1387_0
         clear hi1387_0 hl1387_0
         replace p1387 := eq_true p1387
         replace q1387 := eq_true q1387
         go_wp2
         go_loopg [49] k1 (fun kq v49 w' => ∃ (x49_2 : Int) (x1387000_2 : List Int) (u1387000 : Value), v49 = .int .i64 x49_2 ∧ Aside0 (spec_StairB.l1 kq x4_1 x42_1 (rd_L1 x4_1 x42_1) x4_1 (x4_1.length : Int) x42_1 x4_1 (x4_1.length : Int) x49_2 x1387000_2 = some (r1, r2)) ∧ Aside0 (kq ≤ k1) ∧ Aside0 (Kd.R (Kd.int .i64) 3 w' W2.heap.size (fun _ => True) u1387000 x1387000_2) ∧ Aside0 (w'.heap[gb1382]? = some (.cells #[(.slice none 0 0)] 26 (0, 0))) ∧ Aside0 (w'.heap[gb1386]? = some (.cells #[u1387000] 26 (0, 0))) ∧ Aside0 (Below W2.heap.size W2 w'))
         case atStart => exact ⟨(0), (x1387000_1), (u1387000), qe, H', ⟨Nat.le_refl _⟩, ⟨qR HO_1387000.out⟩, ⟨qb BK1382.out⟩, ⟨qb BK1386.out⟩, ⟨qB⟩⟩
         case round =>
          clear H'
          try clear c1
          try clear p1
          try clear q1
          try clear hx1
          try clear p2
          try clear c3
          try clear c3b0
          try clear c3b1
          try clear c4
          try clear c4b0
          try clear c4b1
          try clear c10
          try clear c12
          try clear c12b0
          try clear c13
          try clear c13b0
          try clear p13
          try clear q13
          try clear hx13
          try clear c14
          try clear c14b0
          try clear hcz11_0
          try clear hfz11_0
          try clear hx1387_0
          try clear p1387
          try clear p2
          try clear q1387
          obtain ⟨x49_2, x1387000_2, u1387000, rfl, HA, HK2, HO_1387000, BK1382, BK1386, HB⟩ := hrel
          cases gk with
          | zero => exact absurd HA.out (by simp [spec_StairB.l1])
          | succ k2 =>
           have H := HA.out
           clear HA
           simp only [spec_StairB.l1] at H
           by_cases c15 : x49_2 < (x4_1.length : Int)
           ·rw [if_pos c15] at H
            have c15b0 := decide_eq_true c15
            clear c15
            by_cases c16 : 0 ≤ x49_2
            rotate_left
            ·rw [if_neg c16] at H
             exact absurd H (by simp)
            rw [if_pos c16] at H
            have c16b0 := decide_eq_true c16
            clear c16
            by_cases c17 : x49_2 < (x4_1.length : Int)
            rotate_left
            ·rw [if_neg c17] at H
             exact absurd H (by simp)
            rw [if_pos c17] at H
            have c17b0 := decide_eq_true c17
            clear c17
            by_cases c18 : x42_1 = x49_2
            ·rw [if_pos c18] at H
             have c18b0 : (x42_1 == x49_2) = true := beq_iff_eq.mpr c18
             have c18b1 : (x42_1 != x49_2) = false := bne_eq_false_iff_eq.mpr c18
             clear c18
             have H' := am H
             clear H
             have p1388 : 0 ≤ (x49_2 : Int) := qd
             have q1388 : x49_2 < (x4_1.length : Int) := qd
             obtain ⟨ad1388, A1388_0, c1388_0, e1388, hx1388_0, hl1388_0, hi1388_0⟩ := at_L1 HR1.out x49_2 p1388 q1388
             obtain rfl : ad1387 = ad1388 := (by injection e1388)
             replace hx1388_0 := (HB.out.cell (World.block_lt_of_cell? W2 _ hx1388_0)).trans hx1388_0
             have HR1388_0 := am hi1388_0
             have HC1388_0 := am hl1388_0
             clear hi1388_0 hl1388_0
             replace p1388 := eq_true p1388
             replace q1388 := eq_true q1388
             try go_wp2
             have n0_ := am (Kd.R_drew HO_1387000.out)
             have n1_ := am (blk_drew BK1382.out)
             have n2_ := am (blk_drew BK1386.out)
             have n3_ := am (below_drew1 HB.out)
             clear HO_1387000
             clear BK1382
             clear BK1386
             clear HB
             have HO_1387000 := n0_
             have BK1382 := n1_
             have BK1386 := n2_
             have HB := n3_
             clear n0_ n1_ n2_ n3_
             refine start_ (n := 21) (S := fun w' => True) (ds := []) #[false, false, false, false, false, false, false, false, false, false, false, false, false, false, false, false, false, false, false, false, false] (by kernel_rfl) rfl rfl trivial (fun hHeld => ?_); refine with_tabW spec_StairB.tab18 spec_StairB.bits18 (fun HT_ HW_ => ?_)
             generalize wr.drew = w19 at HO_1387000 BK1382 BK1386 HB hHeld ⊢
             refine pure_ (i := 0) (N := some 54) (v := ?_) (a' := ?_) #[true, false, false, false, false, false, false, false, false, false, false, false, false, false, false, false, false, false, false, false, false] rfl rfl (any_of HT_.out (by kernel_rfl)) (fun _ _ _ h => h) (Or.inl ⟨by rfl, ?_⟩) ?_ ?_
             rotate_left
             ·intro w'
              go_simp
              with_reducible rfl
             rotate_left
             ·exact qP
             refine pure_ (i := 1) (N := some 55) (v := ?_) (a' := ?_) #[true, true, false, false, false, false, false, false, false, false, false, false, false, false, false, false, false, false, false, false, false] rfl rfl (any_of HT_.out (by kernel_rfl)) (fun _ _ _ h => h) (Or.inl ⟨by rfl, ?_⟩) ?_ ?_
             rotate_left
             ·intro w'
              go_simp
              with_reducible rfl
             rotate_left
             ·exact qP
             refine pure_ (i := 2) (N := some 56) (v := ?_) (a' := ?_) #[true, true, true, false, false, false, false, false, false, false, false, false, false, false, false, false, false, false, false, false, false] rfl rfl (any_of HT_.out (by kernel_rfl)) (fun _ _ _ h => h) (Or.inl ⟨by rfl, ?_⟩) ?_ ?_
             rotate_left
             ·intro w'
              go_simp
              with_reducible rfl
             rotate_left
             ·exact qP
             refine pure_ (i := 3) (N := some 57) (v := ?_) (a' := ?_) #[true, true, true, true, false, false, false, false, false, false, false, false, false, false, false, false, false, false, false, false, false] rfl rfl (any_of HT_.out (by kernel_rfl)) (fun _ _ _ h => h) (Or.inl ⟨by rfl, ?_⟩) ?_ ?_
             rotate_left
             ·intro w'
              go_simp
              with_reducible rfl
             rotate_left
             ·exact qP
             refine pure_ (i := 4) (N := some 58) (v := undef) (a' := ?_) #[true, true, true, true, true, false, false, false, false, false, false, false, false, false, false, false, false, false, false, false, false] rfl rfl (any_of HT_.out (by kernel_rfl)) (fun _ _ _ h => h) (Or.inr ⟨by rfl, rfl⟩) ?_ ?_
             rotate_left
             ·exact qP
             refine pure_ (i := 5) (N := some 59) (v := undef) (a' := ?_) #[true, true, true, true, true, true, false, false, false, false, false, false, false, false, false, false, false, false, false, false, false] rfl rfl (any_of HT_.out (by kernel_rfl)) (fun _ _ _ h => h) (Or.inr ⟨by rfl, rfl⟩) ?_ ?_
             rotate_left
             ·exact qP
             refine pure_ (i := 6) (N := some 60) (v := undef) (a' := ?_) #[true, true, true, true, true, true, true, false, false, false, false, false, false, false, false, false, false, false, false, false, false] rfl rfl (any_of HT_.out (by kernel_rfl)) (fun _ _ _ h => h) (Or.inr ⟨by rfl, rfl⟩) ?_ ?_
             rotate_left
             ·exact qP
             refine pure_ (i := 7) (N := some 61) (v := undef) (a' := ?_) #[true, true, true, true, true, true, true, true, false, false, false, false, false, false, false, false, false, false, false, false, false] rfl rfl (any_of HT_.out (by kernel_rfl)) (fun _ _ _ h => h) (Or.inr ⟨by rfl, rfl⟩) ?_ ?_
             rotate_left
             ·exact qP
             refine pure_ (i := 8) (N := some 62) (v := undef) (a' := ?_) #[true, true, true, true, true, true, true, true, true, false, false, false, false, false, false, false, false, false, false, false, false] rfl rfl (any_of HT_.out (by kernel_rfl)) (fun _ _ _ h => h) (Or.inr ⟨by rfl, rfl⟩) ?_ ?_
             rotate_left
             ·exact qP
             refine pure_ (i := 9) (N := some 63) (v := undef) (a' := ?_) #[true, true, true, true, true, true, true, true, true, true, false, false, false, false, false, false, false, false, false, false, false] rfl rfl (any_of HT_.out (by kernel_rfl)) (fun _ _ _ h => h) (Or.inr ⟨by rfl, rfl⟩) ?_ ?_
             rotate_left
             ·exact qP
             refine pure_ (i := 10) (N := some 64) (v := undef) (a' := ?_) #[true, true, true, true, true, true, true, true, true, true, true, false, false, false, false, false, false, false, false, false, false] rfl rfl (any_of HT_.out (by kernel_rfl)) (fun _ _ _ h => h) (Or.inr ⟨by rfl, rfl⟩) ?_ ?_
             rotate_left
             ·exact qP
             refine pure_ (i := 11) (N := some 65) (v := ?_) (a' := ?_) #[true, true, true, true, true, true, true, true, true, true, true, true, false, false, false, false, false, false, false, false, false] rfl rfl (any_of HT_.out (by kernel_rfl)) (fun _ _ _ h => h) (Or.inl ⟨by rfl, ?_⟩) ?_ ?_
             rotate_left
             ·intro w'
              go_simp
              with_reducible rfl
             rotate_left
             ·exact qP
             refine pure_ (i := 12) (N := some 66) (v := ?_) (a' := ?_) #[true, true, true, true, true, true, true, true, true, true, true, true, true, false, false, false, false, false, false, false, false] rfl rfl (any_of HT_.out (by kernel_rfl)) (fun _ _ _ h => h) (Or.inl ⟨by rfl, ?_⟩) ?_ ?_
             rotate_left
             ·intro w'
              go_simp
              with_reducible rfl
             rotate_left
             ·exact qP
             refine pure_ (i := 13) (N := some 67) (v := undef) (a' := ?_) #[true, true, true, true, true, true, true, true, true, true, true, true, true, true, false, false, false, false, false, false, false] rfl rfl (any_of HT_.out (by kernel_rfl)) (fun _ _ _ h => h) (Or.inr ⟨by rfl, rfl⟩) ?_ ?_
             rotate_left
             ·exact qP
             refine pure_ (i := 14) (N := some 68) (v := undef) (a' := ?_) #[true, true, true, true, true, true, true, true, true, true, true, true, true, true, true, false, false, false, false, false, false] rfl rfl (any_of HT_.out (by kernel_rfl)) (fun _ _ _ h => h) (Or.inr ⟨by rfl, rfl⟩) ?_ ?_
             rotate_left
             ·exact qP
             refine pure_ (i := 15) (N := some 69) (v := undef) (a' := ?_) #[true, true, true, true, true, true, true, true, true, true, true, true, true, true, true, true, false, false, false, false, false] rfl rfl (any_of HT_.out (by kernel_rfl)) (fun _ _ _ h => h) (Or.inr ⟨by rfl, rfl⟩) ?_ ?_
             rotate_left
             ·exact qP
             refine pure_ (i := 16) (N := some 70) (v := undef) (a' := ?_) #[true, true, true, true, true, true, true, true, true, true, true, true, true, true, true, true, true, false, false, false, false] rfl rfl (any_of HT_.out (by kernel_rfl)) (fun _ _ _ h => h) (Or.inr ⟨by rfl, rfl⟩) ?_ ?_
             rotate_left
             ·exact qP
             refine pure_ (i := 17) (N := some 71) (v := undef) (a' := ?_) #[true, true, true, true, true, true, true, true, true, true, true, true, true, true, true, true, true, true, false, false, false] rfl rfl (any_of HT_.out (by kernel_rfl)) (fun _ _ _ h => h) (Or.inr ⟨by rfl, rfl⟩) ?_ ?_
             rotate_left
             ·exact qP
             refine pure_ (i := 18) (N := some 72) (v := undef) (a' := ?_) #[true, true, true, true, true, true, true, true, true, true, true, true, true, true, true, true, true, true, true, false, false] rfl rfl (any_of HT_.out (by kernel_rfl)) (fun _ _ _ h => h) (Or.inr ⟨by rfl, rfl⟩) ?_ ?_
             rotate_left
             ·exact qP
             refine pure_ (i := 19) (N := some 73) (v := undef) (a' := ?_) #[true, true, true, true, true, true, true, true, true, true, true, true, true, true, true, true, true, true, true, true, false] rfl rfl (any_of HT_.out (by kernel_rfl)) (fun _ _ _ h => h) (Or.inr ⟨by rfl, rfl⟩) ?_ ?_
             rotate_left
             ·exact qP
             refine pure_ (i := 20) (N := some 74) (v := ?_) (a' := ?_) #[true, true, true, true, true, true, true, true, true, true, true, true, true, true, true, true, true, true, true, true, true] rfl rfl (any_of HT_.out (by kernel_rfl)) (fun _ _ _ h => h) (Or.inl ⟨by rfl, ?_⟩) ?_ ?_
             rotate_left
             ·intro w'
              go_simp
              with_reducible rfl
             rotate_left
             ·exact qP
             refine done_ (done_of HT_.out (by kernel_rfl)) ?_
             try go_wp2
             go_roundg k2
             case measure => have := HK1.out; have := HK2.out; omega
             case rel => exact ⟨(wrap64 (x49_2 + 1)), (x1387000_2), (u1387000), qe, H', ⟨by have := HK1.out; have := HK2.out; omega⟩, ⟨qR HO_1387000.out⟩, ⟨qb BK1382.out⟩, ⟨qb BK1386.out⟩, ⟨qB⟩⟩
            ·rw [if_neg c18] at H
             have c18b0 : (x42_1 == x49_2) = false := beq_eq_false_iff_ne.mpr c18
             have c18b1 : (x42_1 != x49_2) = true := bne_iff_ne.mpr c18
             by_cases c20 : 0 < ((rd_L1 x4_1 x42_1).length : Int)
             rotate_left
             ·rw [if_neg c20] at H
              exact absurd H (by simp)
             rw [if_pos c20] at H
             have c20b0 := decide_eq_true c20
             have c20b1 : decide (0 < (rd_L1 x4_1 x42_1).length) = true := decide_eq_true (by omega)
             clear c20
             by_cases c21 : 0 < ((rd_L1 x4_1 x49_2).length : Int)
             rotate_left
             ·rw [if_neg c21] at H
              exact absurd H (by simp)
             rw [if_pos c21] at H
             have c21b0 := decide_eq_true c21
             have c21b1 : decide (0 < (rd_L1 x4_1 x49_2).length) = true := decide_eq_true (by omega)
             clear c21
             by_cases c22 : (rd (rd_L1 x4_1 x42_1) 0) ≤ (rd (rd_L1 x4_1 x49_2) 0)
             ·rw [if_pos c22] at H
              have c22b0 := decide_eq_true c22
              clear c22
              by_cases c23 : 1 < ((rd_L1 x4_1 x49_2).length : Int)
              rotate_left
              ·rw [if_neg c23] at H
               exact absurd H (by simp)
              rw [if_pos c23] at H
              have c23b0 := decide_eq_true c23
              have c23b1 : decide (1 < (rd_L1 x4_1 x49_2).length) = true := decide_eq_true (by omega)
              clear c23
              by_cases c24 : 1 < ((rd_L1 x4_1 x42_1).length : Int)
              rotate_left
              ·rw [if_neg c24] at H
               exact absurd H (by simp)
              rw [if_pos c24] at H
              have c24b0 := decide_eq_true c24
              have c24b1 : decide (1 < (rd_L1 x4_1 x42_1).length) = true := decide_eq_true (by omega)
              clear c24
              by_cases c25 : (rd (rd_L1 x4_1 x49_2) 1) ≤ (rd (rd_L1 x4_1 x42_1) 1)
              ·rw [if_pos c25] at H
               have c25b0 := decide_eq_true c25
               clear c25
               by_cases c26 : 0 ≤ x42_1
               rotate_left
               ·rw [if_neg c26] at H
                exact absurd H (by simp)
               rw [if_pos c26] at H
               have c26b0 := decide_eq_true c26
               clear c26
               by_cases c27 : x42_1 < (x1387000_2.length : Int)
               rotate_left
               ·rw [if_neg c27] at H
                exact absurd H (by simp)
               rw [if_pos c27] at H
               have c27b0 := decide_eq_true c27
               clear c27
               have c28b0 := eq_true (qd : 0 ≤ x49_2)
               obtain ⟨ji29, hji29⟩ : ∃ j_ : Int, (shl .i64 1 x49_2) = j_ := ⟨_, rfl⟩
               first | rw [hji29] at H | simp only [hji29] at H
               have hji29_ : (IntKind.i64.wrap (1 * 2 ^ min x49_2.toNat 64)) = ji29 := hji29
               have hji29z : x49_2 ≤ 64 → (IntKind.i64.wrap (1 * 2 ^ x49_2.toNat)) = ji29 := shl_small hji29
               have hji29u : (IntKind.i64.wrap (2 ^ min x49_2.toNat 64)) = ji29 := by have h_ := hji29_; rw [Int.one_mul] at h_; exact h_
               have hji29v : x49_2 ≤ 64 → (IntKind.i64.wrap (2 ^ x49_2.toNat)) = ji29 := fun hle_ => by have h_ := hji29z hle_; rw [Int.one_mul] at h_; exact h_
               have hji29y : (wrap64 (1 * 2 ^ min x49_2.toNat 64)) = ji29 := (i64_w _).symm.trans hji29_
               have hji29x : x49_2 ≤ 64 → (wrap64 (1 * 2 ^ x49_2.toNat)) = ji29 := fun h_ => (i64_w _).symm.trans (hji29z h_)
               obtain ⟨y1394, hy1394⟩ : ∃ y_ : List Int, y_ = (x1387000_2.set (x42_1 : Int).toNat (Go.bits .or .i64 (rd x1387000_2 x42_1) (ji29))) := ⟨_, rfl⟩
               first | rw [← hy1394] at H | (have H2_ := (Option.bind_some _ _).symm.trans H; clear H; have H := H2_; clear H2_; rw [← hy1394] at H)
               have Ny1394 := am hy1394
               clear hy1394
               have H' := am H
               clear H
               have p1388 : 0 ≤ (x49_2 : Int) := qd
               have q1388 : x49_2 < (x4_1.length : Int) := qd
               obtain ⟨ad1388, A1388_0, c1388_0, e1388, hx1388_0, hl1388_0, hi1388_0⟩ := at_L1 HR1.out x49_2 p1388 q1388
               obtain rfl : ad1387 = ad1388 := (by injection e1388)
               replace hx1388_0 := (HB.out.cell (World.block_lt_of_cell? W2 _ hx1388_0)).trans hx1388_0
               have HR1388_0 := am hi1388_0
               have HC1388_0 := am hl1388_0
               clear hi1388_0 hl1388_0
               replace p1388 := eq_true p1388
               replace q1388 := eq_true q1388
               try go_wp2
               have n0_ := am (Kd.R_drew HO_1387000.out)
               have n1_ := am (blk_drew BK1382.out)
               have n2_ := am (blk_drew BK1386.out)
               have n3_ := am (below_drew1 HB.out)
               clear HO_1387000
               clear BK1382
               clear BK1386
               clear HB
               have HO_1387000 := n0_
               have BK1382 := n1_
               have BK1386 := n2_
               have HB := n3_
               clear n0_ n1_ n2_ n3_
               have p1389 : 0 ≤ (0 : Int) := (by omega)
               have q1389 : 0 < ((rd_L1 x4_1 x42_1).length : Int) := qd
               obtain ⟨ad1389, e1389, hx1389_0⟩ := Kd.at_int HR1387_0.out 0 p1389 q1389
               have hw1389_0 := hx1389_0
               (try rw [show ((0 : Int)).toNat = 0 from rfl] at hw1389_0)
               (try rw [show 0 * 1 = 0 from rfl] at hw1389_0)
               (try rw [Addr.add_zero'] at hw1389_0)
               cases e1389
               have qi1389 : (0 < (rd_L1 x4_1 x42_1).length) = True := eq_true (by omega)
               (try rw [show ((0 : Int)).toNat = 0 from rfl] at hx1389_0)
               (try rw [Addr.add_zero'] at hx1389_0)
               replace hx1389_0 := (HB.out.cell (World.block_lt_of_cell? W2 _ hx1389_0)).trans hx1389_0
               replace p1389 := eq_true p1389
               replace q1389 := eq_true q1389
               have p1390 : 0 ≤ (0 : Int) := (by omega)
               have q1390 : 0 < ((rd_L1 x4_1 x49_2).length : Int) := qd
               obtain ⟨ad1390, e1390, hx1390_0⟩ := Kd.at_int HR1388_0.out 0 p1390 q1390
               have hw1390_0 := hx1390_0
               (try rw [show ((0 : Int)).toNat = 0 from rfl] at hw1390_0)
               (try rw [show 0 * 1 = 0 from rfl] at hw1390_0)
               (try rw [Addr.add_zero'] at hw1390_0)
               cases e1390
               have qi1390 : (0 < (rd_L1 x4_1 x49_2).length) = True := eq_true (by omega)
               (try rw [show ((0 : Int)).toNat = 0 from rfl] at hx1390_0)
               (try rw [Addr.add_zero'] at hx1390_0)
               replace hx1390_0 := (HB.out.cell (World.block_lt_of_cell? W2 _ hx1390_0)).trans hx1390_0
               replace p1390 := eq_true p1390
               replace q1390 := eq_true q1390
               have p1391 : 0 ≤ (1 : Int) := (by omega)
               have q1391 : 1 < ((rd_L1 x4_1 x49_2).length : Int) := qd
               obtain ⟨ad1391, e1391, hx1391_0⟩ := Kd.at_int HR1388_0.out 1 p1391 q1391
               have hw1391_0 := hx1391_0
               (try rw [show ((1 : Int)).toNat = 1 from rfl] at hw1391_0)
               (try rw [show 1 * 1 = 1 from rfl] at hw1391_0)
               (try simp only [Nat.reduceMul, Nat.reduceEqDiff, Go.Addr.add, ↓reduceIte] at hw1391_0)
               obtain rfl : ad1390 = ad1391 := (by injection e1391)
               (try simp only [show (1 : Int).toNat = 1 from rfl, Nat.reduceMul, Nat.reduceEqDiff, Go.Addr.add, ↓reduceIte] at hx1391_0)
               have qi1391 : (1 < (rd_L1 x4_1 x49_2).length) = True := eq_true (by omega)
               (try rw [show ((1 : Int)).toNat = 1 from rfl] at hx1391_0)
               replace hx1391_0 := (HB.out.cell (World.block_lt_of_cell? W2 _ hx1391_0)).trans hx1391_0
               replace p1391 := eq_true p1391
               replace q1391 := eq_true q1391
               have p1392 : 0 ≤ (1 : Int) := (by omega)
               have q1392 : 1 < ((rd_L1 x4_1 x42_1).length : Int) := qd
               obtain ⟨ad1392, e1392, hx1392_0⟩ := Kd.at_int HR1387_0.out 1 p1392 q1392
               have hw1392_0 := hx1392_0
               (try rw [show ((1 : Int)).toNat = 1 from rfl] at hw1392_0)
               (try rw [show 1 * 1 = 1 from rfl] at hw1392_0)
               (try simp only [Nat.reduceMul, Nat.reduceEqDiff, Go.Addr.add, ↓reduceIte] at hw1392_0)
               obtain rfl : ad1389 = ad1392 := (by injection e1392)
               (try simp only [show (1 : Int).toNat = 1 from rfl, Nat.reduceMul, Nat.reduceEqDiff, Go.Addr.add, ↓reduceIte] at hx1392_0)
               have qi1392 : (1 < (rd_L1 x4_1 x42_1).length) = True := eq_true (by omega)
               (try rw [show ((1 : Int)).toNat = 1 from rfl] at hx1392_0)
               replace hx1392_0 := (HB.out.cell (World.block_lt_of_cell? W2 _ hx1392_0)).trans hx1392_0
               replace p1392 := eq_true p1392
               replace q1392 := eq_true q1392
               refine start_ (n := 21) (S := fun w' => w'.cell? ad1389 = some (.int .i64 (rd (rd_L1 x4_1 x42_1) 0)) ∧ w'.cell? ad1390 = some (.int .i64 (rd (rd_L1 x4_1 x49_2) 0)) ∧ w'.cell? ⟨ad1390.block, ad1390.off + 1, none⟩ = some (.int .i64 (rd (rd_L1 x4_1 x49_2) 1)) ∧ w'.cell? ⟨ad1389.block, ad1389.off + 1, none⟩ = some (.int .i64 (rd (rd_L1 x4_1 x42_1) 1))) (ds := []) #[false, false, false, false, false, false, false, false, false, false, false, false, false, false, false, false, false, false, false, false, false] (by kernel_rfl) rfl rfl ⟨((HB.out.cell (World.block_lt_of_cell? W2 _ hw1389_0)).trans hw1389_0), ((HB.out.cell (World.block_lt_of_cell? W2 _ hw1390_0)).trans hw1390_0), ((HB.out.cell (World.block_lt_of_cell? W2 _ hw1391_0)).trans hw1391_0), ((HB.out.cell (World.block_lt_of_cell? W2 _ hw1392_0)).trans hw1392_0)⟩ (fun hHeld => ?_); refine with_tabW spec_StairB.tab18 spec_StairB.bits18 (fun HT_ HW_ => ?_)
               generalize wr.drew = w31 at HO_1387000 BK1382 BK1386 HB hx1389_0 hx1390_0 hx1391_0 hx1392_0 hHeld ⊢
               refine pure_ (i := 0) (N := some 54) (v := ?_) (a' := ?_) #[true, false, false, false, false, false, false, false, false, false, false, false, false, false, false, false, false, false, false, false, false] rfl rfl (any_of HT_.out (by kernel_rfl)) (fun _ _ _ h => h) (Or.inl ⟨by rfl, ?_⟩) ?_ ?_
               rotate_left
               ·intro w'
                go_simp
                with_reducible rfl
               rotate_left
               ·exact qP
               refine pure_ (i := 1) (N := some 55) (v := ?_) (a' := ?_) #[true, true, false, false, false, false, false, false, false, false, false, false, false, false, false, false, false, false, false, false, false] rfl rfl (any_of HT_.out (by kernel_rfl)) (fun _ _ _ h => h) (Or.inl ⟨by rfl, ?_⟩) ?_ ?_
               rotate_left
               ·intro w'
                go_simp
                with_reducible rfl
               rotate_left
               ·exact qP
               refine pure_ (i := 2) (N := some 56) (v := ?_) (a' := ?_) #[true, true, true, false, false, false, false, false, false, false, false, false, false, false, false, false, false, false, false, false, false] rfl rfl (any_of HT_.out (by kernel_rfl)) (fun _ _ _ h => h) (Or.inl ⟨by rfl, ?_⟩) ?_ ?_
               rotate_left
               ·intro w'
                go_simp
                with_reducible rfl
               rotate_left
               ·exact qP
               refine pure_ (i := 3) (N := some 57) (v := ?_) (a' := ?_) #[true, true, true, true, false, false, false, false, false, false, false, false, false, false, false, false, false, false, false, false, false] rfl rfl (any_of HT_.out (by kernel_rfl)) (fun _ _ _ h => h) (Or.inl ⟨by rfl, ?_⟩) ?_ ?_
               rotate_left
               ·intro w'
                go_simp
                with_reducible rfl
               rotate_left
               ·exact qP
               refine pure_ (i := 4) (N := some 58) (v := ?_) (a' := ?_) #[true, true, true, true, true, false, false, false, false, false, false, false, false, false, false, false, false, false, false, false, false] rfl rfl (any_of HT_.out (by kernel_rfl)) (fun _ _ _ h => h) (Or.inl ⟨by rfl, ?_⟩) ?_ ?_
               rotate_left
               ·intro w'
                go_simp
                with_reducible rfl
               rotate_left
               ·exact qP
               refine pure_ (i := 5) (N := some 59) (v := ?_) (a' := ?_) #[true, true, true, true, true, true, false, false, false, false, false, false, false, false, false, false, false, false, false, false, false] rfl rfl (any_of HT_.out (by kernel_rfl)) (fun _ _ _ h => h) (Or.inl ⟨by rfl, ?_⟩) ?_ ?_
               rotate_left
               ·intro w'
                go_simp
                with_reducible rfl
               rotate_left
               ·exact qP
               refine pure_ (i := 7) (N := some 61) (v := ?_) (a' := ?_) #[true, true, true, true, true, true, false, true, false, false, false, false, false, false, false, false, false, false, false, false, false] rfl rfl (any_of HT_.out (by kernel_rfl)) (fun _ _ _ h => h) (Or.inl ⟨by rfl, ?_⟩) ?_ ?_
               rotate_left
               ·intro w'
                go_simp
                with_reducible rfl
               rotate_left
               ·exact qP
               refine pure_ (i := 8) (N := some 62) (v := ?_) (a' := ?_) #[true, true, true, true, true, true, false, true, true, false, false, false, false, false, false, false, false, false, false, false, false] rfl rfl (any_of HT_.out (by kernel_rfl)) (fun _ _ _ h => h) (Or.inl ⟨by rfl, ?_⟩) ?_ ?_
               rotate_left
               ·intro w'
                go_simp
                with_reducible rfl
               rotate_left
               ·exact qP
               refine take_ (i := 6) (N := some 60) (v := ?_) (a' := ?_) #[true, true, true, true, true, true, true, true, true, false, false, false, false, false, false, false, false, false, false, false, false] rfl rfl (take_ofW HT_.out HW_.out (by kernel_rfl)) (fun _ _ _ h => h) (Or.inl ⟨by rfl, ?_⟩) hHeld ?_ ?_
               rotate_left
               ·rintro w' ⟨s0, s1, s2, s3⟩
                go_simp
                with_reducible rfl
               rotate_left
               ·exact qP
               refine take_ (i := 9) (N := some 63) (v := ?_) (a' := ?_) #[true, true, true, true, true, true, true, true, true, true, false, false, false, false, false, false, false, false, false, false, false] rfl rfl (take_ofW HT_.out HW_.out (by kernel_rfl)) (fun _ _ _ h => h) (Or.inl ⟨by rfl, ?_⟩) hHeld ?_ ?_
               rotate_left
               ·rintro w' ⟨s0, s1, s2, s3⟩
                go_simp
                with_reducible rfl
               rotate_left
               ·exact qP
               refine pure_ (i := 10) (N := some 64) (v := ?_) (a' := ?_) #[true, true, true, true, true, true, true, true, true, true, true, false, false, false, false, false, false, false, false, false, false] rfl rfl (any_of HT_.out (by kernel_rfl)) (fun _ _ _ h => h) (Or.inl ⟨by rfl, ?_⟩) ?_ ?_
               rotate_left
               ·intro w'
                go_simp
                with_reducible rfl
               rotate_left
               ·exact qP
               refine pure_ (i := 11) (N := some 65) (v := ?_) (a' := ?_) #[true, true, true, true, true, true, true, true, true, true, true, true, false, false, false, false, false, false, false, false, false] rfl rfl (any_of HT_.out (by kernel_rfl)) (fun _ _ _ h => h) (Or.inl ⟨by rfl, ?_⟩) ?_ ?_
               rotate_left
               ·intro w'
                go_simp
                with_reducible rfl
               rotate_left
               ·exact qP
               refine pure_ (i := 12) (N := some 66) (v := ?_) (a' := ?_) #[true, true, true, true, true, true, true, true, true, true, true, true, true, false, false, false, false, false, false, false, false] rfl rfl (any_of HT_.out (by kernel_rfl)) (fun _ _ _ h => h) (Or.inl ⟨by rfl, ?_⟩) ?_ ?_
               rotate_left
               ·intro w'
                go_simp
                with_reducible rfl
               rotate_left
               ·exact qP
               refine pure_ (i := 13) (N := some 67) (v := ?_) (a' := ?_) #[true, true, true, true, true, true, true, true, true, true, true, true, true, true, false, false, false, false, false, false, false] rfl rfl (any_of HT_.out (by kernel_rfl)) (fun _ _ _ h => h) (Or.inl ⟨by rfl, ?_⟩) ?_ ?_
               rotate_left
               ·intro w'
                go_simp
                with_reducible rfl
               rotate_left
               ·exact qP
               refine pure_ (i := 14) (N := some 68) (v := ?_) (a' := ?_) #[true, true, true, true, true, true, true, true, true, true, true, true, true, true, true, false, false, false, false, false, false] rfl rfl (any_of HT_.out (by kernel_rfl)) (fun _ _ _ h => h) (Or.inl ⟨by rfl, ?_⟩) ?_ ?_
               rotate_left
               ·intro w'
                go_simp
                with_reducible rfl
               rotate_left
               ·exact qP
               refine pure_ (i := 16) (N := some 70) (v := ?_) (a' := ?_) #[true, true, true, true, true, true, true, true, true, true, true, true, true, true, true, false, true, false, false, false, false] rfl rfl (any_of HT_.out (by kernel_rfl)) (fun _ _ _ h => h) (Or.inl ⟨by rfl, ?_⟩) ?_ ?_
               rotate_left
               ·intro w'
                go_simp
                with_reducible rfl
               rotate_left
               ·exact qP
               refine pure_ (i := 17) (N := some 71) (v := ?_) (a' := ?_) #[true, true, true, true, true, true, true, true, true, true, true, true, true, true, true, false, true, true, false, false, false] rfl rfl (any_of HT_.out (by kernel_rfl)) (fun _ _ _ h => h) (Or.inl ⟨by rfl, ?_⟩) ?_ ?_
               rotate_left
               ·intro w'
                go_simp
                with_reducible rfl
               rotate_left
               ·exact qP
               refine take_ (i := 15) (N := some 69) (v := ?_) (a' := ?_) #[true, true, true, true, true, true, true, true, true, true, true, true, true, true, true, true, true, true, false, false, false] rfl rfl (take_ofW HT_.out HW_.out (by kernel_rfl)) (fun _ _ _ h => h) (Or.inl ⟨by rfl, ?_⟩) hHeld ?_ ?_
               rotate_left
               ·rintro w' ⟨s0, s1, s2, s3⟩
                go_simp
                with_reducible rfl
               rotate_left
               ·exact qP
               refine take_ (i := 18) (N := some 72) (v := ?_) (a' := ?_) #[true, true, true, true, true, true, true, true, true, true, true, true, true, true, true, true, true, true, true, false, false] rfl rfl (take_ofW HT_.out HW_.out (by kernel_rfl)) (fun _ _ _ h => h) (Or.inl ⟨by rfl, ?_⟩) hHeld ?_ ?_
               rotate_left
               ·rintro w' ⟨s0, s1, s2, s3⟩
                go_simp
                with_reducible rfl
               rotate_left
               ·exact qP
               refine pure_ (i := 19) (N := some 73) (v := ?_) (a' := ?_) #[true, true, true, true, true, true, true, true, true, true, true, true, true, true, true, true, true, true, true, true, false] rfl rfl (any_of HT_.out (by kernel_rfl)) (fun _ _ _ h => h) (Or.inl ⟨by rfl, ?_⟩) ?_ ?_
               rotate_left
               ·intro w'
                go_simp
                with_reducible rfl
               rotate_left
               ·exact qP
               refine pure_ (i := 20) (N := some 74) (v := ?_) (a' := ?_) #[true, true, true, true, true, true, true, true, true, true, true, true, true, true, true, true, true, true, true, true, true] rfl rfl (any_of HT_.out (by kernel_rfl)) (fun _ _ _ h => h) (Or.inl ⟨by rfl, ?_⟩) ?_ ?_
               rotate_left
               ·intro w'
                go_simp
                with_reducible rfl
               rotate_left
               ·exact qP
               refine done_ (done_of HT_.out (by kernel_rfl)) ?_
               try go_wp2
               have n0_ := am (Kd.R_drew HO_1387000.out)
               have n1_ := am (blk_drew BK1382.out)
               have n2_ := am (blk_drew BK1386.out)
               have n3_ := am (below_drew1 HB.out)
               clear HO_1387000
               clear BK1382
               clear BK1386
               clear HB
               have HO_1387000 := n0_
               have BK1382 := n1_
               have BK1386 := n2_
               have HB := n3_
               clear n0_ n1_ n2_ n3_
               obtain ⟨Ao33, co33, eo33⟩ := Kd.R_slice HO_1387000.out
               (first | subst eo33 | (injection eo33 with f1_ f2_ f3_; have f4_ := f1_.symm; have f5_ := f3_.symm; clear f1_ f2_ f3_; subst f4_; subst f5_))
               have p1393 : 0 ≤ (x42_1 : Int) := qd
               have q1393 : x42_1 < (x1387000_2.length : Int) := qd
               obtain ⟨ad1393, e1393, hx1393_0⟩ := Kd.at_int (Kd.R_reads' HO_1387000.out).2.2 x42_1 p1393 q1393
               cases e1393
               replace p1393 := eq_true p1393
               replace q1393 := eq_true q1393
               have p30 : 0 ≤ (x42_1 : Int) := qd
               have q30 : (x42_1 : Int) < ((x1387000_2.length : Int) : Int) := qd
               obtain ⟨go30, co30, eo30, gb30, gl30, cl30, HG30⟩ := Kd.R_form HO_1387000.out (by omega)
               (first | cases eo30 | (injection eo30 with ea_ en_ ec_; (first | subst ea_ | (injection ea_ with ea_; subst ea_)); subst ec_; clear en_))
               have GB30 := am gb30
               have GG30 := am HG30
               clear gb30 gl30 HG30
               (first | simp only [add_plain] at hx1393_0 | skip)
               obtain ⟨hx30_0, hf30_0⟩ := Kd.R_celln 0 HO_1387000.out (x42_1 : Int) p30 q30
               replace p30 := eq_true p30
               replace q30 := eq_true q30
               have HP34 := Kd.R_putn HO_1387000.out (x42_1 : Int) (Go.bits .or .i64 (rd x1387000_2 x42_1) (ji29))
               rw [← Ny1394.out] at HP34
               have HQ34 := am HP34
               clear HP34
               refine start_ (n := 10) (S := fun w' => w'.cell? ⟨gb1386, 0, none⟩ = some (.slice (some ⟨go30, 0, none⟩) x1387000_2.length co33) ∧ w'.cell? ⟨go30, (x42_1).toNat, none⟩ = some (.int .i64 (rd x1387000_2 x42_1))) (ds := [9]) #[false, false, false, false, false, false, false, false, false, false] (by kernel_rfl) rfl rfl ⟨(blk_cell BK1386.out 0).trans rfl, hx1393_0⟩ (fun hHeld => ?_); refine with_tabW spec_StairB.tab19 spec_StairB.bits19 (fun HT_ HW_ => ?_)
               generalize w31.drew = w32 at HO_1387000 BK1382 BK1386 HB GG30 HQ34 hf30_0 hx1393_0 hx30_0 hHeld ⊢
               refine pure_ (i := 0) (N := some 75) (v := ?_) (a' := ?_) #[true, false, false, false, false, false, false, false, false, false] rfl rfl (any_of HT_.out (by kernel_rfl)) (fun _ _ _ h => h) (Or.inl ⟨by rfl, ?_⟩) ?_ ?_
               rotate_left
               ·intro w'
                go_simp
                with_reducible rfl
               rotate_left
               ·exact qP
               refine pure_ (i := 2) (N := some 77) (v := ?_) (a' := ?_) #[true, false, true, false, false, false, false, false, false, false] rfl rfl (any_of HT_.out (by kernel_rfl)) (fun _ _ _ h => h) (Or.inl ⟨by rfl, ?_⟩) ?_ ?_
               rotate_left
               ·intro w'
                go_simp
                with_reducible rfl
               rotate_left
               ·exact qP
               refine pure_ (i := 5) (N := some 80) (v := ?_) (a' := ?_) #[true, false, true, false, false, true, false, false, false, false] rfl rfl (any_of HT_.out (by kernel_rfl)) (fun _ _ _ h => h) (Or.inl ⟨by rfl, ?_⟩) ?_ ?_
               rotate_left
               ·intro w'
                go_simp
                with_reducible rfl
               rotate_left
               ·exact qP
               refine pure_ (i := 6) (N := some 81) (v := ?_) (a' := ?_) #[true, false, true, false, false, true, true, false, false, false] rfl rfl (any_of HT_.out (by kernel_rfl)) (fun _ _ _ h => h) (Or.inl ⟨by rfl, ?_⟩) ?_ ?_
               rotate_left
               ·intro w'
                go_simp
                with_reducible rfl
               rotate_left
               ·exact qP
               refine take_ (i := 1) (N := some 76) (v := ?_) (a' := ?_) #[true, true, true, false, false, true, true, false, false, false] rfl rfl (take_ofW HT_.out HW_.out (by kernel_rfl)) (fun _ _ _ h => h) (Or.inl ⟨by rfl, ?_⟩) hHeld ?_ ?_
               rotate_left
               ·rintro w' ⟨s0, s1⟩
                go_simp
                with_reducible rfl
               rotate_left
               ·exact qP
               refine pure_ (i := 3) (N := some 78) (v := ?_) (a' := ?_) #[true, true, true, true, false, true, true, false, false, false] rfl rfl (any_of HT_.out (by kernel_rfl)) (fun _ _ _ h => h) (Or.inl ⟨by rfl, ?_⟩) ?_ ?_
               rotate_left
               ·intro w'
                go_simp
                with_reducible rfl
               rotate_left
               ·exact qP
               refine take_ (i := 4) (N := some 79) (v := ?_) (a' := ?_) #[true, true, true, true, true, true, true, false, false, false] rfl rfl (take_ofW HT_.out HW_.out (by kernel_rfl)) (fun _ _ _ h => h) (Or.inl ⟨by rfl, ?_⟩) hHeld ?_ ?_
               rotate_left
               ·rintro w' ⟨s0, s1⟩
                go_simp
                with_reducible rfl
               rotate_left
               ·exact qP
               refine pure_ (i := 7) (N := some 82) (v := ?_) (a' := ?_) #[true, true, true, true, true, true, true, true, false, false] rfl rfl (any_of HT_.out (by kernel_rfl)) (fun _ _ _ h => h) (Or.inl ⟨by rfl, ?_⟩) ?_ ?_
               rotate_left
               ·intro w'
                go_simp
                with_reducible rfl
               rotate_left
               ·exact qP
               refine pure_ (i := 8) (N := some 83) (v := ?_) (a' := ?_) #[true, true, true, true, true, true, true, true, true, false] rfl rfl (any_of HT_.out (by kernel_rfl)) (fun _ _ _ h => h) (Or.inl ⟨by rfl, ?_⟩) ?_ ?_
               rotate_left
               ·intro w'
                go_simp
                with_reducible rfl
               rotate_left
               ·exact qP
               refine last_ (i := 9) (N := none) #[true, true, true, true, true, true, true, true, true, true] rfl rfl (one_of HT_.out (by kernel_rfl)) (by decide) (fun K hK => ?_)
               refine skip_ (w1 := ?_) (by rfl) rfl ?_ ?_
               rotate_left
               ·go_simp
                rfl
               refine hK.out _ _ ?_
               clear hK K
               refine done_ (done_of HT_.out (by kernel_rfl)) ?_
               try go_wp2
               go_roundg k2
               case measure => have := HK1.out; have := HK2.out; omega
               case rel => exact ⟨(wrap64 (x49_2 + 1)), (y1394), (.slice (some ⟨go30, 0, none⟩) x1387000_2.length co33), qe, H', ⟨by have := HK1.out; have := HK2.out; omega⟩, ⟨qR HQ34.out⟩, ⟨by (with_reducible repeat (first | refine blk_drewN ?_ _ | refine blk_drew ?_ | refine blk_alloc ?_ _)); refine blk_far ?_ (by have h_ := Kd.R_ne HO_1387000.out BK1382.out (by decide); intro e_; exact h_ (by rw [e_]; rfl)) _; refine qb ?_; exact BK1382.out⟩, ⟨by (with_reducible repeat (first | refine blk_drewN ?_ _ | refine blk_drew ?_ | refine blk_alloc ?_ _)); refine blk_far ?_ (by have h_ := Kd.R_ne HO_1387000.out BK1386.out (by decide); intro e_; exact h_ (by rw [e_]; rfl)) _; refine qb ?_; exact BK1386.out⟩, ⟨qB⟩⟩
              ·rw [if_neg c25] at H
               have c25b0 := decide_eq_false c25
               clear c25
               have H' := am H
               clear H
               have p1388 : 0 ≤ (x49_2 : Int) := qd
               have q1388 : x49_2 < (x4_1.length : Int) := qd
               obtain ⟨ad1388, A1388_0, c1388_0, e1388, hx1388_0, hl1388_0, hi1388_0⟩ := at_L1 HR1.out x49_2 p1388 q1388
               obtain rfl : ad1387 = ad1388 := (by injection e1388)
               replace hx1388_0 := (HB.out.cell (World.block_lt_of_cell? W2 _ hx1388_0)).trans hx1388_0
               have HR1388_0 := am hi1388_0
               have HC1388_0 := am hl1388_0
               clear hi1388_0 hl1388_0
               replace p1388 := eq_true p1388
               replace q1388 := eq_true q1388
               try go_wp2
               have n0_ := am (Kd.R_drew HO_1387000.out)
               have n1_ := am (blk_drew BK1382.out)
               have n2_ := am (blk_drew BK1386.out)
               have n3_ := am (below_drew1 HB.out)
               clear HO_1387000
               clear BK1382
               clear BK1386
               clear HB
               have HO_1387000 := n0_
               have BK1382 := n1_
               have BK1386 := n2_
               have HB := n3_
               clear n0_ n1_ n2_ n3_
               have p1389 : 0 ≤ (0 : Int) := (by omega)
               have q1389 : 0 < ((rd_L1 x4_1 x42_1).length : Int) := qd
               obtain ⟨ad1389, e1389, hx1389_0⟩ := Kd.at_int HR1387_0.out 0 p1389 q1389
               have hw1389_0 := hx1389_0
               (try rw [show ((0 : Int)).toNat = 0 from rfl] at hw1389_0)
               (try rw [show 0 * 1 = 0 from rfl] at hw1389_0)
               (try rw [Addr.add_zero'] at hw1389_0)
               cases e1389
               have qi1389 : (0 < (rd_L1 x4_1 x42_1).length) = True := eq_true (by omega)
               (try rw [show ((0 : Int)).toNat = 0 from rfl] at hx1389_0)
               (try rw [Addr.add_zero'] at hx1389_0)
               replace hx1389_0 := (HB.out.cell (World.block_lt_of_cell? W2 _ hx1389_0)).trans hx1389_0
               replace p1389 := eq_true p1389
               replace q1389 := eq_true q1389
               have p1390 : 0 ≤ (0 : Int) := (by omega)
               have q1390 : 0 < ((rd_L1 x4_1 x49_2).length : Int) := qd
               obtain ⟨ad1390, e1390, hx1390_0⟩ := Kd.at_int HR1388_0.out 0 p1390 q1390
               have hw1390_0 := hx1390_0
               (try rw [show ((0 : Int)).toNat = 0 from rfl] at hw1390_0)
               (try rw [show 0 * 1 = 0 from rfl] at hw1390_0)
               (try rw [Addr.add_zero'] at hw1390_0)
               cases e1390
               have qi1390 : (0 < (rd_L1 x4_1 x49_2).length) = True := eq_true (by omega)
               (try rw [show ((0 : Int)).toNat = 0 from rfl] at hx1390_0)
               (try rw [Addr.add_zero'] at hx1390_0)
               replace hx1390_0 := (HB.out.cell (World.block_lt_of_cell? W2 _ hx1390_0)).trans hx1390_0
               replace p1390 := eq_true p1390
               replace q1390 := eq_true q1390
               have p1391 : 0 ≤ (1 : Int) := (by omega)
               have q1391 : 1 < ((rd_L1 x4_1 x49_2).length : Int) := qd
               obtain ⟨ad1391, e1391, hx1391_0⟩ := Kd.at_int HR1388_0.out 1 p1391 q1391
               have hw1391_0 := hx1391_0
               (try rw [show ((1 : Int)).toNat = 1 from rfl] at hw1391_0)
               (try rw [show 1 * 1 = 1 from rfl] at hw1391_0)
               (try simp only [Nat.reduceMul, Nat.reduceEqDiff, Go.Addr.add, ↓reduceIte] at hw1391_0)
               obtain rfl : ad1390 = ad1391 := (by injection e1391)
               (try simp only [show (1 : Int).toNat = 1 from rfl, Nat.reduceMul, Nat.reduceEqDiff, Go.Addr.add, ↓reduceIte] at hx1391_0)
               have qi1391 : (1 < (rd_L1 x4_1 x49_2).length) = True := eq_true (by omega)
               (try rw [show ((1 : Int)).toNat = 1 from rfl] at hx1391_0)
               replace hx1391_0 := (HB.out.cell (World.block_lt_of_cell? W2 _ hx1391_0)).trans hx1391_0
               replace p1391 := eq_true p1391
               replace q1391 := eq_true q1391
               have p1392 : 0 ≤ (1 : Int) := (by omega)
               have q1392 : 1 < ((rd_L1 x4_1 x42_1).length : Int) := qd
               obtain ⟨ad1392, e1392, hx1392_0⟩ := Kd.at_int HR1387_0.out 1 p1392 q1392
               have hw1392_0 := hx1392_0
               (try rw [show ((1 : Int)).toNat = 1 from rfl] at hw1392_0)
               (try rw [show 1 * 1 = 1 from rfl] at hw1392_0)
               (try simp only [Nat.reduceMul, Nat.reduceEqDiff, Go.Addr.add, ↓reduceIte] at hw1392_0)
               obtain rfl : ad1389 = ad1392 := (by injection e1392)
               (try simp only [show (1 : Int).toNat = 1 from rfl, Nat.reduceMul, Nat.reduceEqDiff, Go.Addr.add, ↓reduceIte] at hx1392_0)
               have qi1392 : (1 < (rd_L1 x4_1 x42_1).length) = True := eq_true (by omega)
               (try rw [show ((1 : Int)).toNat = 1 from rfl] at hx1392_0)
               replace hx1392_0 := (HB.out.cell (World.block_lt_of_cell? W2 _ hx1392_0)).trans hx1392_0
               replace p1392 := eq_true p1392
               replace q1392 := eq_true q1392
               refine start_ (n := 21) (S := fun w' => w'.cell? ad1389 = some (.int .i64 (rd (rd_L1 x4_1 x42_1) 0)) ∧ w'.cell? ad1390 = some (.int .i64 (rd (rd_L1 x4_1 x49_2) 0)) ∧ w'.cell? ⟨ad1390.block, ad1390.off + 1, none⟩ = some (.int .i64 (rd (rd_L1 x4_1 x49_2) 1)) ∧ w'.cell? ⟨ad1389.block, ad1389.off + 1, none⟩ = some (.int .i64 (rd (rd_L1 x4_1 x42_1) 1))) (ds := []) #[false, false, false, false, false, false, false, false, false, false, false, false, false, false, false, false, false, false, false, false, false] (by kernel_rfl) rfl rfl ⟨((HB.out.cell (World.block_lt_of_cell? W2 _ hw1389_0)).trans hw1389_0), ((HB.out.cell (World.block_lt_of_cell? W2 _ hw1390_0)).trans hw1390_0), ((HB.out.cell (World.block_lt_of_cell? W2 _ hw1391_0)).trans hw1391_0), ((HB.out.cell (World.block_lt_of_cell? W2 _ hw1392_0)).trans hw1392_0)⟩ (fun hHeld => ?_); refine with_tabW spec_StairB.tab18 spec_StairB.bits18 (fun HT_ HW_ => ?_)
               generalize wr.drew = w35 at HO_1387000 BK1382 BK1386 HB hx1389_0 hx1390_0 hx1391_0 hx1392_0 hHeld ⊢
               refine pure_ (i := 0) (N := some 54) (v := ?_) (a' := ?_) #[true, false, false, false, false, false, false, false, false, false, false, false, false, false, false, false, false, false, false, false, false] rfl rfl (any_of HT_.out (by kernel_rfl)) (fun _ _ _ h => h) (Or.inl ⟨by rfl, ?_⟩) ?_ ?_
               rotate_left
               ·intro w'
                go_simp
                with_reducible rfl
               rotate_left
               ·exact qP
               refine pure_ (i := 1) (N := some 55) (v := ?_) (a' := ?_) #[true, true, false, false, false, false, false, false, false, false, false, false, false, false, false, false, false, false, false, false, false] rfl rfl (any_of HT_.out (by kernel_rfl)) (fun _ _ _ h => h) (Or.inl ⟨by rfl, ?_⟩) ?_ ?_
               rotate_left
               ·intro w'
                go_simp
                with_reducible rfl
               rotate_left
               ·exact qP
               refine pure_ (i := 2) (N := some 56) (v := ?_) (a' := ?_) #[true, true, true, false, false, false, false, false, false, false, false, false, false, false, false, false, false, false, false, false, false] rfl rfl (any_of HT_.out (by kernel_rfl)) (fun _ _ _ h => h) (Or.inl ⟨by rfl, ?_⟩) ?_ ?_
               rotate_left
               ·intro w'
                go_simp
                with_reducible rfl
               rotate_left
               ·exact qP
               refine pure_ (i := 3) (N := some 57) (v := ?_) (a' := ?_) #[true, true, true, true, false, false, false, false, false, false, false, false, false, false, false, false, false, false, false, false, false] rfl rfl (any_of HT_.out (by kernel_rfl)) (fun _ _ _ h => h) (Or.inl ⟨by rfl, ?_⟩) ?_ ?_
               rotate_left
               ·intro w'
                go_simp
                with_reducible rfl
               rotate_left
               ·exact qP
               refine pure_ (i := 4) (N := some 58) (v := ?_) (a' := ?_) #[true, true, true, true, true, false, false, false, false, false, false, false, false, false, false, false, false, false, false, false, false] rfl rfl (any_of HT_.out (by kernel_rfl)) (fun _ _ _ h => h) (Or.inl ⟨by rfl, ?_⟩) ?_ ?_
               rotate_left
               ·intro w'
                go_simp
                with_reducible rfl
               rotate_left
               ·exact qP
               refine pure_ (i := 5) (N := some 59) (v := ?_) (a' := ?_) #[true, true, true, true, true, true, false, false, false, false, false, false, false, false, false, false, false, false, false, false, false] rfl rfl (any_of HT_.out (by kernel_rfl)) (fun _ _ _ h => h) (Or.inl ⟨by rfl, ?_⟩) ?_ ?_
               rotate_left
               ·intro w'
                go_simp
                with_reducible rfl
               rotate_left
               ·exact qP
               refine pure_ (i := 7) (N := some 61) (v := ?_) (a' := ?_) #[true, true, true, true, true, true, false, true, false, false, false, false, false, false, false, false, false, false, false, false, false] rfl rfl (any_of HT_.out (by kernel_rfl)) (fun _ _ _ h => h) (Or.inl ⟨by rfl, ?_⟩) ?_ ?_
               rotate_left
               ·intro w'
                go_simp
                with_reducible rfl
               rotate_left
               ·exact qP
               refine pure_ (i := 8) (N := some 62) (v := ?_) (a' := ?_) #[true, true, true, true, true, true, false, true, true, false, false, false, false, false, false, false, false, false, false, false, false] rfl rfl (any_of HT_.out (by kernel_rfl)) (fun _ _ _ h => h) (Or.inl ⟨by rfl, ?_⟩) ?_ ?_
               rotate_left
               ·intro w'
                go_simp
                with_reducible rfl
               rotate_left
               ·exact qP
               refine take_ (i := 6) (N := some 60) (v := ?_) (a' := ?_) #[true, true, true, true, true, true, true, true, true, false, false, false, false, false, false, false, false, false, false, false, false] rfl rfl (take_ofW HT_.out HW_.out (by kernel_rfl)) (fun _ _ _ h => h) (Or.inl ⟨by rfl, ?_⟩) hHeld ?_ ?_
               rotate_left
               ·rintro w' ⟨s0, s1, s2, s3⟩
                go_simp
                with_reducible rfl
               rotate_left
               ·exact qP
               refine take_ (i := 9) (N := some 63) (v := ?_) (a' := ?_) #[true, true, true, true, true, true, true, true, true, true, false, false, false, false, false, false, false, false, false, false, false] rfl rfl (take_ofW HT_.out HW_.out (by kernel_rfl)) (fun _ _ _ h => h) (Or.inl ⟨by rfl, ?_⟩) hHeld ?_ ?_
               rotate_left
               ·rintro w' ⟨s0, s1, s2, s3⟩
                go_simp
                with_reducible rfl
               rotate_left
               ·exact qP
               refine pure_ (i := 10) (N := some 64) (v := ?_) (a' := ?_) #[true, true, true, true, true, true, true, true, true, true, true, false, false, false, false, false, false, false, false, false, false] rfl rfl (any_of HT_.out (by kernel_rfl)) (fun _ _ _ h => h) (Or.inl ⟨by rfl, ?_⟩) ?_ ?_
               rotate_left
               ·intro w'
                go_simp
                with_reducible rfl
               rotate_left
               ·exact qP
               refine pure_ (i := 11) (N := some 65) (v := ?_) (a' := ?_) #[true, true, true, true, true, true, true, true, true, true, true, true, false, false, false, false, false, false, false, false, false] rfl rfl (any_of HT_.out (by kernel_rfl)) (fun _ _ _ h => h) (Or.inl ⟨by rfl, ?_⟩) ?_ ?_
               rotate_left
               ·intro w'
                go_simp
                with_reducible rfl
               rotate_left
               ·exact qP
               refine pure_ (i := 12) (N := some 66) (v := ?_) (a' := ?_) #[true, true, true, true, true, true, true, true, true, true, true, true, true, false, false, false, false, false, false, false, false] rfl rfl (any_of HT_.out (by kernel_rfl)) (fun _ _ _ h => h) (Or.inl ⟨by rfl, ?_⟩) ?_ ?_
               rotate_left
               ·intro w'
                go_simp
                with_reducible rfl
               rotate_left
               ·exact qP
               refine pure_ (i := 13) (N := some 67) (v := ?_) (a' := ?_) #[true, true, true, true, true, true, true, true, true, true, true, true, true, true, false, false, false, false, false, false, false] rfl rfl (any_of HT_.out (by kernel_rfl)) (fun _ _ _ h => h) (Or.inl ⟨by rfl, ?_⟩) ?_ ?_
               rotate_left
               ·intro w'
                go_simp
                with_reducible rfl
               rotate_left
               ·exact qP
               refine pure_ (i := 14) (N := some 68) (v := ?_) (a' := ?_) #[true, true, true, true, true, true, true, true, true, true, true, true, true, true, true, false, false, false, false, false, false] rfl rfl (any_of HT_.out (by kernel_rfl)) (fun _ _ _ h => h) (Or.inl ⟨by rfl, ?_⟩) ?_ ?_
               rotate_left
               ·intro w'
                go_simp
                with_reducible rfl
               rotate_left
               ·exact qP
               refine pure_ (i := 16) (N := some 70) (v := ?_) (a' := ?_) #[true, true, true, true, true, true, true, true, true, true, true, true, true, true, true, false, true, false, false, false, false] rfl rfl (any_of HT_.out (by kernel_rfl)) (fun _ _ _ h => h) (Or.inl ⟨by rfl, ?_⟩) ?_ ?_
               rotate_left
               ·intro w'
                go_simp
                with_reducible rfl
               rotate_left
               ·exact qP
               refine pure_ (i := 17) (N := some 71) (v := ?_) (a' := ?_) #[true, true, true, true, true, true, true, true, true, true, true, true, true, true, true, false, true, true, false, false, false] rfl rfl (any_of HT_.out (by kernel_rfl)) (fun _ _ _ h => h) (Or.inl ⟨by rfl, ?_⟩) ?_ ?_
               rotate_left
               ·intro w'
                go_simp
                with_reducible rfl
               rotate_left
               ·exact qP
               refine take_ (i := 15) (N := some 69) (v := ?_) (a' := ?_) #[true, true, true, true, true, true, true, true, true, true, true, true, true, true, true, true, true, true, false, false, false] rfl rfl (take_ofW HT_.out HW_.out (by kernel_rfl)) (fun _ _ _ h => h) (Or.inl ⟨by rfl, ?_⟩) hHeld ?_ ?_
               rotate_left
               ·rintro w' ⟨s0, s1, s2, s3⟩
                go_simp
                with_reducible rfl
               rotate_left
               ·exact qP
               refine take_ (i := 18) (N := some 72) (v := ?_) (a' := ?_) #[true, true, true, true, true, true, true, true, true, true, true, true, true, true, true, true, true, true, true, false, false] rfl rfl (take_ofW HT_.out HW_.out (by kernel_rfl)) (fun _ _ _ h => h) (Or.inl ⟨by rfl, ?_⟩) hHeld ?_ ?_
               rotate_left
               ·rintro w' ⟨s0, s1, s2, s3⟩
                go_simp
                with_reducible rfl
               rotate_left
               ·exact qP
               refine pure_ (i := 19) (N := some 73) (v := ?_) (a' := ?_) #[true, true, true, true, true, true, true, true, true, true, true, true, true, true, true, true, true, true, true, true, false] rfl rfl (any_of HT_.out (by kernel_rfl)) (fun _ _ _ h => h) (Or.inl ⟨by rfl, ?_⟩) ?_ ?_
               rotate_left
               ·intro w'
                go_simp
                with_reducible rfl
               rotate_left
               ·exact qP
               refine pure_ (i := 20) (N := some 74) (v := ?_) (a' := ?_) #[true, true, true, true, true, true, true, true, true, true, true, true, true, true, true, true, true, true, true, true, true] rfl rfl (any_of HT_.out (by kernel_rfl)) (fun _ _ _ h => h) (Or.inl ⟨by rfl, ?_⟩) ?_ ?_
               rotate_left
               ·intro w'
                go_simp
                with_reducible rfl
               rotate_left
               ·exact qP
               refine done_ (done_of HT_.out (by kernel_rfl)) ?_
               try go_wp2
               go_roundg k2
               case measure => have := HK1.out; have := HK2.out; omega
               case rel => exact ⟨(wrap64 (x49_2 + 1)), (x1387000_2), (u1387000), qe, H', ⟨by have := HK1.out; have := HK2.out; omega⟩, ⟨qR HO_1387000.out⟩, ⟨qb BK1382.out⟩, ⟨qb BK1386.out⟩, ⟨qB⟩⟩
             ·rw [if_neg c22] at H
              have c22b0 := decide_eq_false c22
              clear c22
              have H' := am H
              clear H
              have p1388 : 0 ≤ (x49_2 : Int) := qd
              have q1388 : x49_2 < (x4_1.length : Int) := qd
              obtain ⟨ad1388, A1388_0, c1388_0, e1388, hx1388_0, hl1388_0, hi1388_0⟩ := at_L1 HR1.out x49_2 p1388 q1388
              obtain rfl : ad1387 = ad1388 := (by injection e1388)
              replace hx1388_0 := (HB.out.cell (World.block_lt_of_cell? W2 _ hx1388_0)).trans hx1388_0
              have HR1388_0 := am hi1388_0
              have HC1388_0 := am hl1388_0
              clear hi1388_0 hl1388_0
              replace p1388 := eq_true p1388
              replace q1388 := eq_true q1388
              try go_wp2
              have n0_ := am (Kd.R_drew HO_1387000.out)
              have n1_ := am (blk_drew BK1382.out)
              have n2_ := am (blk_drew BK1386.out)
              have n3_ := am (below_drew1 HB.out)
              clear HO_1387000
              clear BK1382
              clear BK1386
              clear HB
              have HO_1387000 := n0_
              have BK1382 := n1_
              have BK1386 := n2_
              have HB := n3_
              clear n0_ n1_ n2_ n3_
              have p1389 : 0 ≤ (0 : Int) := (by omega)
              have q1389 : 0 < ((rd_L1 x4_1 x42_1).length : Int) := qd
              obtain ⟨ad1389, e1389, hx1389_0⟩ := Kd.at_int HR1387_0.out 0 p1389 q1389
              have hw1389_0 := hx1389_0
              (try rw [show ((0 : Int)).toNat = 0 from rfl] at hw1389_0)
              (try rw [show 0 * 1 = 0 from rfl] at hw1389_0)
              (try rw [Addr.add_zero'] at hw1389_0)
              cases e1389
              have qi1389 : (0 < (rd_L1 x4_1 x42_1).length) = True := eq_true (by omega)
              (try rw [show ((0 : Int)).toNat = 0 from rfl] at hx1389_0)
              (try rw [Addr.add_zero'] at hx1389_0)
              replace hx1389_0 := (HB.out.cell (World.block_lt_of_cell? W2 _ hx1389_0)).trans hx1389_0
              replace p1389 := eq_true p1389
              replace q1389 := eq_true q1389
              have p1390 : 0 ≤ (0 : Int) := (by omega)
              have q1390 : 0 < ((rd_L1 x4_1 x49_2).length : Int) := qd
              obtain ⟨ad1390, e1390, hx1390_0⟩ := Kd.at_int HR1388_0.out 0 p1390 q1390
              have hw1390_0 := hx1390_0
              (try rw [show ((0 : Int)).toNat = 0 from rfl] at hw1390_0)
              (try rw [show 0 * 1 = 0 from rfl] at hw1390_0)
              (try rw [Addr.add_zero'] at hw1390_0)
              cases e1390
              have qi1390 : (0 < (rd_L1 x4_1 x49_2).length) = True := eq_true (by omega)
              (try rw [show ((0 : Int)).toNat = 0 from rfl] at hx1390_0)
              (try rw [Addr.add_zero'] at hx1390_0)
              replace hx1390_0 := (HB.out.cell (World.block_lt_of_cell? W2 _ hx1390_0)).trans hx1390_0
              replace p1390 := eq_true p1390
              replace q1390 := eq_true q1390
              refine start_ (n := 21) (S := fun w' => w'.cell? ad1389 = some (.int .i64 (rd (rd_L1 x4_1 x42_1) 0)) ∧ w'.cell? ad1390 = some (.int .i64 (rd (rd_L1 x4_1 x49_2) 0))) (ds := []) #[false, false, false, false, false, false, false, false, false, false, false, false, false, false, false, false, false, false, false, false, false] (by kernel_rfl) rfl rfl ⟨((HB.out.cell (World.block_lt_of_cell? W2 _ hw1389_0)).trans hw1389_0), ((HB.out.cell (World.block_lt_of_cell? W2 _ hw1390_0)).trans hw1390_0)⟩ (fun hHeld => ?_); refine with_tabW spec_StairB.tab18 spec_StairB.bits18 (fun HT_ HW_ => ?_)
              generalize wr.drew = w36 at HO_1387000 BK1382 BK1386 HB hx1389_0 hx1390_0 hHeld ⊢
              refine pure_ (i := 0) (N := some 54) (v := ?_) (a' := ?_) #[true, false, false, false, false, false, false, false, false, false, false, false, false, false, false, false, false, false, false, false, false] rfl rfl (any_of HT_.out (by kernel_rfl)) (fun _ _ _ h => h) (Or.inl ⟨by rfl, ?_⟩) ?_ ?_
              rotate_left
              ·intro w'
               go_simp
               with_reducible rfl
              rotate_left
              ·exact qP
              refine pure_ (i := 1) (N := some 55) (v := ?_) (a' := ?_) #[true, true, false, false, false, false, false, false, false, false, false, false, false, false, false, false, false, false, false, false, false] rfl rfl (any_of HT_.out (by kernel_rfl)) (fun _ _ _ h => h) (Or.inl ⟨by rfl, ?_⟩) ?_ ?_
              rotate_left
              ·intro w'
               go_simp
               with_reducible rfl
              rotate_left
              ·exact qP
              refine pure_ (i := 2) (N := some 56) (v := ?_) (a' := ?_) #[true, true, true, false, false, false, false, false, false, false, false, false, false, false, false, false, false, false, false, false, false] rfl rfl (any_of HT_.out (by kernel_rfl)) (fun _ _ _ h => h) (Or.inl ⟨by rfl, ?_⟩) ?_ ?_
              rotate_left
              ·intro w'
               go_simp
               with_reducible rfl
              rotate_left
              ·exact qP
              refine pure_ (i := 3) (N := some 57) (v := ?_) (a' := ?_) #[true, true, true, true, false, false, false, false, false, false, false, false, false, false, false, false, false, false, false, false, false] rfl rfl (any_of HT_.out (by kernel_rfl)) (fun _ _ _ h => h) (Or.inl ⟨by rfl, ?_⟩) ?_ ?_
              rotate_left
              ·intro w'
               go_simp
               with_reducible rfl
              rotate_left
              ·exact qP
              refine pure_ (i := 4) (N := some 58) (v := ?_) (a' := ?_) #[true, true, true, true, true, false, false, false, false, false, false, false, false, false, false, false, false, false, false, false, false] rfl rfl (any_of HT_.out (by kernel_rfl)) (fun _ _ _ h => h) (Or.inl ⟨by rfl, ?_⟩) ?_ ?_
              rotate_left
              ·intro w'
               go_simp
               with_reducible rfl
              rotate_left
              ·exact qP
              refine pure_ (i := 5) (N := some 59) (v := ?_) (a' := ?_) #[true, true, true, true, true, true, false, false, false, false, false, false, false, false, false, false, false, false, false, false, false] rfl rfl (any_of HT_.out (by kernel_rfl)) (fun _ _ _ h => h) (Or.inl ⟨by rfl, ?_⟩) ?_ ?_
              rotate_left
              ·intro w'
               go_simp
               with_reducible rfl
              rotate_left
              ·exact qP
              refine pure_ (i := 7) (N := some 61) (v := ?_) (a' := ?_) #[true, true, true, true, true, true, false, true, false, false, false, false, false, false, false, false, false, false, false, false, false] rfl rfl (any_of HT_.out (by kernel_rfl)) (fun _ _ _ h => h) (Or.inl ⟨by rfl, ?_⟩) ?_ ?_
              rotate_left
              ·intro w'
               go_simp
               with_reducible rfl
              rotate_left
              ·exact qP
              refine pure_ (i := 8) (N := some 62) (v := ?_) (a' := ?_) #[true, true, true, true, true, true, false, true, true, false, false, false, false, false, false, false, false, false, false, false, false] rfl rfl (any_of HT_.out (by kernel_rfl)) (fun _ _ _ h => h) (Or.inl ⟨by rfl, ?_⟩) ?_ ?_
              rotate_left
              ·intro w'
               go_simp
               with_reducible rfl
              rotate_left
              ·exact qP
              refine take_ (i := 6) (N := some 60) (v := ?_) (a' := ?_) #[true, true, true, true, true, true, true, true, true, false, false, false, false, false, false, false, false, false, false, false, false] rfl rfl (take_ofW HT_.out HW_.out (by kernel_rfl)) (fun _ _ _ h => h) (Or.inl ⟨by rfl, ?_⟩) hHeld ?_ ?_
              rotate_left
              ·rintro w' ⟨s0, s1⟩
               go_simp
               with_reducible rfl
              rotate_left
              ·exact qP
              refine take_ (i := 9) (N := some 63) (v := ?_) (a' := ?_) #[true, true, true, true, true, true, true, true, true, true, false, false, false, false, false, false, false, false, false, false, false] rfl rfl (take_ofW HT_.out HW_.out (by kernel_rfl)) (fun _ _ _ h => h) (Or.inl ⟨by rfl, ?_⟩) hHeld ?_ ?_
              rotate_left
              ·rintro w' ⟨s0, s1⟩
               go_simp
               with_reducible rfl
              rotate_left
              ·exact qP
              refine pure_ (i := 10) (N := some 64) (v := ?_) (a' := ?_) #[true, true, true, true, true, true, true, true, true, true, true, false, false, false, false, false, false, false, false, false, false] rfl rfl (any_of HT_.out (by kernel_rfl)) (fun _ _ _ h => h) (Or.inl ⟨by rfl, ?_⟩) ?_ ?_
              rotate_left
              ·intro w'
               go_simp
               with_reducible rfl
              rotate_left
              ·exact qP
              refine pure_ (i := 11) (N := some 65) (v := ?_) (a' := ?_) #[true, true, true, true, true, true, true, true, true, true, true, true, false, false, false, false, false, false, false, false, false] rfl rfl (any_of HT_.out (by kernel_rfl)) (fun _ _ _ h => h) (Or.inl ⟨by rfl, ?_⟩) ?_ ?_
              rotate_left
              ·intro w'
               go_simp
               with_reducible rfl
              rotate_left
              ·exact qP
              refine pure_ (i := 12) (N := some 66) (v := ?_) (a' := ?_) #[true, true, true, true, true, true, true, true, true, true, true, true, true, false, false, false, false, false, false, false, false] rfl rfl (any_of HT_.out (by kernel_rfl)) (fun _ _ _ h => h) (Or.inl ⟨by rfl, ?_⟩) ?_ ?_
              rotate_left
              ·intro w'
               go_simp
               with_reducible rfl
              rotate_left
              ·exact qP
              refine pure_ (i := 13) (N := some 67) (v := undef) (a' := ?_) #[true, true, true, true, true, true, true, true, true, true, true, true, true, true, false, false, false, false, false, false, false] rfl rfl (any_of HT_.out (by kernel_rfl)) (fun _ _ _ h => h) (Or.inr ⟨by rfl, rfl⟩) ?_ ?_
              rotate_left
              ·exact qP
              refine pure_ (i := 14) (N := some 68) (v := undef) (a' := ?_) #[true, true, true, true, true, true, true, true, true, true, true, true, true, true, true, false, false, false, false, false, false] rfl rfl (any_of HT_.out (by kernel_rfl)) (fun _ _ _ h => h) (Or.inr ⟨by rfl, rfl⟩) ?_ ?_
              rotate_left
              ·exact qP
              refine pure_ (i := 15) (N := some 69) (v := undef) (a' := ?_) #[true, true, true, true, true, true, true, true, true, true, true, true, true, true, true, true, false, false, false, false, false] rfl rfl (any_of HT_.out (by kernel_rfl)) (fun _ _ _ h => h) (Or.inr ⟨by rfl, rfl⟩) ?_ ?_
              rotate_left
              ·exact qP
              refine pure_ (i := 16) (N := some 70) (v := undef) (a' := ?_) #[true, true, true, true, true, true, true, true, true, true, true, true, true, true, true, true, true, false, false, false, false] rfl rfl (any_of HT_.out (by kernel_rfl)) (fun _ _ _ h => h) (Or.inr ⟨by rfl, rfl⟩) ?_ ?_
              rotate_left
              ·exact qP
              refine pure_ (i := 17) (N := some 71) (v := undef) (a' := ?_) #[true, true, true, true, true, true, true, true, true, true, true, true, true, true, true, true, true, true, false, false, false] rfl rfl (any_of HT_.out (by kernel_rfl)) (fun _ _ _ h => h) (Or.inr ⟨by rfl, rfl⟩) ?_ ?_
              rotate_left
              ·exact qP
              refine pure_ (i := 18) (N := some 72) (v := undef) (a' := ?_) #[true, true, true, true, true, true, true, true, true, true, true, true, true, true, true, true, true, true, true, false, false] rfl rfl (any_of HT_.out (by kernel_rfl)) (fun _ _ _ h => h) (Or.inr ⟨by rfl, rfl⟩) ?_ ?_
              rotate_left
              ·exact qP
              refine pure_ (i := 19) (N := some 73) (v := undef) (a' := ?_) #[true, true, true, true, true, true, true, true, true, true, true, true, true, true, true, true, true, true, true, true, false] rfl rfl (any_of HT_.out (by kernel_rfl)) (fun _ _ _ h => h) (Or.inr ⟨by rfl, rfl⟩) ?_ ?_
              rotate_left
              ·exact qP
              refine pure_ (i := 20) (N := some 74) (v := ?_) (a' := ?_) #[true, true, true, true, true, true, true, true, true, true, true, true, true, true, true, true, true, true, true, true, true] rfl rfl (any_of HT_.out (by kernel_rfl)) (fun _ _ _ h => h) (Or.inl ⟨by rfl, ?_⟩) ?_ ?_
              rotate_left
              ·intro w'
               go_simp
               with_reducible rfl
              rotate_left
              ·exact qP
              refine done_ (done_of HT_.out (by kernel_rfl)) ?_
              try go_wp2
              go_roundg k2
              case measure => have := HK1.out; have := HK2.out; omega
              case rel => exact ⟨(wrap64 (x49_2 + 1)), (x1387000_2), (u1387000), qe, H', ⟨by have := HK1.out; have := HK2.out; omega⟩, ⟨qR HO_1387000.out⟩, ⟨qb BK1382.out⟩, ⟨qb BK1386.out⟩, ⟨qB⟩⟩
           ·rw [if_neg c15] at H
            have c15b0 := decide_eq_false c15
            clear c15
            have H' := am H
            clear H
            go_wp2
            go_roundg k2
            case measure => have := HK1.out; have := HK2.out; omega
            case rel => exact ⟨(wrap64 (x42_1 + 1)), (x1387000_2), (u1387000), qe, H', ⟨by have := HK1.out; have := HK2.out; omega⟩, ⟨qR HO_1387000.out⟩, ⟨qb BK1382.out⟩, ⟨qb BK1386.out⟩, ⟨qB⟩⟩
        ·rw [if_neg c12] at H
         have c12b0 := decide_eq_false c12
         clear c12
         simp only [Option.some.injEq, Prod.mk.injEq] at H
         obtain ⟨rfl, rfl⟩ := H
         have hnb37 := NB1386_1382.out
         have hnc37 := NB1382_1386.out
         have hcz38_0 := qz wr BK1386.out
         have hfz38_0 := blk_frozen BK1386.out 0
         obtain ⟨Ao39, co39, eo39⟩ := Kd.R_slice HO_1387000.out
         subst eo39
         have hcz40_0 := qz wr BK1382.out
         have hfz40_0 := blk_frozen BK1382.out 0
         go_wp2
         refine bodyPost_ret (results_ct rfl _ _ gb1382 26 #[.slice Ao39 x1387000_1.length co39] (0, 0) _ rfl (by (with_reducible repeat (first | refine blk_drewN ?_ _ | refine blk_drew ?_ | refine blk_alloc ?_ _)); refine blk_put (cs := #[.slice none 0 0]) ?_ 0 _ rfl; refine qb ?_; exact BK1382.out) Try.underlying26 rfl (by kernel_rfl)) rfl ?_
         exact ⟨_, rfl, Kd.R_lower (qR (Kd.R_mono (Kd.R_far (p := ⟨gb1382, 0, none⟩) (Kd.R_types HO_1387000.out BK1382.out (by decide)) (fun _ hk => hk.2) (.slice Ao39 x1387000_1.length co39)) (fun _ hk => trivial))) HBW.out.size, below_set (by repeat (first | (with_reducible first | exact (HBW.out.trans (HB.out.mono HBW.out.size)) | apply below_alloc | apply pw_below_drewN | apply below_drew1) | exact (HBW.out.trans (HB.out.mono HBW.out.size)))) GE1382.out⟩
     ·rw [if_neg c3] at H
      exact absurd H (by simp)
end Go.Proofs.Ytmbojobkiainlaa.F
end

section
namespace Go.Proofs.Ytmbojobkiainlaa.F
open Go.RowKit Go.Proofs.YtmbojobkiainlaaW.PrintWords Go.Proofs.YtmbojobkiainlaaW.PrintLast Go.Proofs.YtmbojobkiainlaaW.PrintMore
attribute [local go_sem] max2_int min2_int max_two min_two max_three min_three max_four min_four
set_option linter.unusedVariables false
set_option linter.unusedSimpArgs false
mutual
def spec_l1Cur_surePoset.l0 : Nat → Int → List (List Int) → Int → List Int → Int → Int → Option (List Int × Int × Int)
 | 0, _, _, _, _, _, _ => none
 | k + 1, x9, x10, x11, x1000, x1001, x1002 => if x11 > 0 then (spec_l1Cur_surePoset.j1 k x9 x10 x11 (decide (x9 > 1)) x1000 x1001 x1002) else (spec_l1Cur_surePoset.j1 k x9 x10 x11 false x1000 x1001 x1002)
def spec_l1Cur_surePoset.j1 : Nat → Int → List (List Int) → Int → Bool → List Int → Int → Int → Option (List Int × Int × Int)
 | 0, _, _, _, _, _, _, _ => none
 | k + 1, x9, x10, x11, x61, x1000, x1001, x1002 => if x61 = true then ((spec_l1Cur_pick.f x1000 x1001 x1002 (wrap64 (x9 - 1))).bind fun bt213 => ((spec_l1Cur_pick.f x1000 bt213.2.1 bt213.2.2 (wrap64 ((wrap64 (x9 - 1)) - bt213.1))).bind fun bt216 => (if x10.length < 5864062014805 then (spec_l1Cur_surePoset.l0 k x9 (x10 ++ [(([bt213.1, wrap64 ((wrap64 (bt213.1 + 1)) + bt216.1)] : List Int))]) (wrap64 (x11 - 1)) x1000 bt216.2.1 bt216.2.2) else (none)))) else ((spec_poFrom.f k x9 x10).bind fun t225 => (some (t225, x1001, x1002)))
end
def spec_l1Cur_surePoset.f (k : Nat) (s0_0 : List Int) (s0_1 : Int) (s0_2 : Int) (a1 : Int) : Option (List Int × Int × Int) := (spec_l1Cur_pick.f s0_0 s0_1 s0_2 5).bind fun bt178 => (if bt178.1 = 0 then ((spec_l1Cur_pick.f s0_0 bt178.2.1 bt178.2.2 2).bind fun bt181 => ((spec_l1Most.f 1 (wrap64 (Int.tdiv a1 2))).bind fun t184 => ((spec_l1Cur_pick.f s0_0 bt181.2.1 bt181.2.2 t184).bind fun bt185 => ((spec_poRectangle.f k (wrap64 (1 + bt181.1)) (wrap64 (1 + bt185.1))).bind fun t188 => (some (t188, bt185.2.1, bt185.2.2)))))) else (if bt178.1 = 1 then ((spec_l1Cur_pick.f s0_0 bt178.2.1 bt178.2.2 2).bind fun bt191 => ((spec_Staircase.f k (wrap64 (1 + bt191.1))).bind fun bt194 => (some (bt194.1, bt191.2.1, bt191.2.2)))) else (if bt178.1 = 2 then ((spec_l1Cur_pick.f s0_0 bt178.2.1 bt178.2.2 a1).bind fun bt199 => ((spec_Fence.f k (wrap64 (1 + bt199.1))).bind fun bt202 => (some (bt202.1, bt199.2.1, bt199.2.2)))) else ((spec_l1Cur_pick.f s0_0 bt178.2.1 bt178.2.2 a1).bind fun bt207 => ((spec_l1Cur_pick.f s0_0 bt207.2.1 bt207.2.2 (wrap64 (2 * (wrap64 (1 + bt207.1))))).bind fun bt210 => (spec_l1Cur_surePoset.l0 k (wrap64 (1 + bt207.1)) ([] : List (List Int)) bt210.1 s0_0 bt210.2.1 bt210.2.2))))))
theorem spec_l1Cur_surePoset.mono_l : ∀ k, (∀ y0 y1 y2 y3 y4 y5, LeO (spec_l1Cur_surePoset.l0 k y0 y1 y2 y3 y4 y5) (spec_l1Cur_surePoset.l0 (k + 1) y0 y1 y2 y3 y4 y5)) ∧ (∀ y0 y1 y2 y3 y4 y5 y6, LeO (spec_l1Cur_surePoset.j1 k y0 y1 y2 y3 y4 y5 y6) (spec_l1Cur_surePoset.j1 (k + 1) y0 y1 y2 y3 y4 y5 y6))
 | 0 => ⟨fun _ _ _ _ _ _ r h => by simp [spec_l1Cur_surePoset.l0] at h, fun _ _ _ _ _ _ _ r h => by simp [spec_l1Cur_surePoset.j1] at h⟩
 | k + 1 => by
  obtain ⟨ih0, ih1⟩ := spec_l1Cur_surePoset.mono_l k
  refine ⟨?_, ?_⟩
  ·intro y0 y1 y2 y3 y4 y5
   unfold spec_l1Cur_surePoset.l0
   repeat' first
   | (with_reducible exact spec_Fence.mono _ _)
   | (with_reducible exact spec_Staircase.mono _ _)
   | (with_reducible exact spec_poFrom.mono _ _ _)
   | (with_reducible exact spec_poRectangle.mono _ _ _)
   | (with_reducible exact LeO.refl _)
   | (with_reducible exact LeO.none _)
   | (with_reducible refine LeO.ite ?_ ?_)
   | (with_reducible refine LeO.bind ?_ (fun _ => ?_))
   | exact ih0 _ _ _ _ _ _
   | exact ih1 _ _ _ _ _ _ _
   | exact spec_Fence.mono _ _
   | exact spec_Staircase.mono _ _
   | exact spec_poFrom.mono _ _ _
   | exact spec_poRectangle.mono _ _ _
   | exact LeO.none _
   | refine LeO.ite ?_ ?_
   | refine LeO.bind ?_ (fun _ => ?_)
  ·intro y0 y1 y2 y3 y4 y5 y6
   unfold spec_l1Cur_surePoset.j1
   repeat' first
   | (with_reducible exact spec_Fence.mono _ _)
   | (with_reducible exact spec_Staircase.mono _ _)
   | (with_reducible exact spec_poFrom.mono _ _ _)
   | (with_reducible exact spec_poRectangle.mono _ _ _)
   | (with_reducible exact LeO.refl _)
   | (with_reducible exact LeO.none _)
   | (with_reducible refine LeO.ite ?_ ?_)
   | (with_reducible refine LeO.bind ?_ (fun _ => ?_))
   | exact ih0 _ _ _ _ _ _
   | exact ih1 _ _ _ _ _ _ _
   | exact spec_Fence.mono _ _
   | exact spec_Staircase.mono _ _
   | exact spec_poFrom.mono _ _ _
   | exact spec_poRectangle.mono _ _ _
   | exact LeO.none _
   | refine LeO.ite ?_ ?_
   | refine LeO.bind ?_ (fun _ => ?_)
theorem spec_l1Cur_surePoset.mono : ∀ a0 a1 a2 a3 k, LeO (spec_l1Cur_surePoset.f k a0 a1 a2 a3) (spec_l1Cur_surePoset.f (k + 1) a0 a1 a2 a3) := by
 intro a0 a1 a2 a3 k
 obtain ⟨ih0, ih1⟩ := spec_l1Cur_surePoset.mono_l k
 unfold spec_l1Cur_surePoset.f
 repeat' first
  | (with_reducible exact spec_Fence.mono _ _)
  | (with_reducible exact spec_Staircase.mono _ _)
  | (with_reducible exact spec_poFrom.mono _ _ _)
  | (with_reducible exact spec_poRectangle.mono _ _ _)
  | (with_reducible exact LeO.refl _)
  | (with_reducible exact LeO.none _)
  | (with_reducible refine LeO.ite ?_ ?_)
  | (with_reducible refine LeO.bind ?_ (fun _ => ?_))
  | exact ih0 _ _ _ _ _ _
  | exact ih1 _ _ _ _ _ _ _
  | exact spec_Fence.mono _ _
  | exact spec_Staircase.mono _ _
  | exact spec_poFrom.mono _ _ _
  | exact spec_poRectangle.mono _ _ _
  | exact LeO.none _
  | refine LeO.ite ?_ ?_
  | refine LeO.bind ?_ (fun _ => ?_)
set_option maxHeartbeats 8000000 in
set_option maxRecDepth 100000 in
theorem spec_l1Cur_surePoset.calls (k : Nat) (g : Nat) (s0_0 : List Int) (s0_1 : Int) (s0_2 : Int) (a1 : Int) (r1 : List Int) (r2 : Int) (r3 : Int) (w0 w : World) (hI : IsS67 w0 w g s0_0 s0_1 s0_2) (hB : Below w0.heap.size w0 w) (h : spec_l1Cur_surePoset.f k s0_0 s0_1 s0_2 a1 = some (r1, r2, r3)) :
 Calls Try.prog 124 #[.pointer (some ⟨g, 0, none⟩), .int .i64 a1] w fun e w' => ∃ v0_ : Value, e = .returned (.agg #[v0_]) ∧ Kd.R (Kd.int .i64) 3 w' w.heap.size (fun _ => True) v0_ r1 ∧ IsS67 w0 w' g s0_0 r2 r3 ∧ Below w0.heap.size w0 w' ∧ KeepBut w w' g none := by
 have hu26 := Try.underlying26
 have HI0 := am hI
 have HK := am (KeepBut.refl w g none)
 have HL := am hB.size
 clear hI
 have HW0 := am hB.size
 have HB := am hB
 clear hB
 have H := h
 unfold spec_l1Cur_surePoset.f at H
 clear h
 replace H := Option.bind_eq_some_iff.mp H
 obtain ⟨⟨t178, t179, t180⟩, A30, H⟩ := H
 (try dsimp only at H)
 have A3 := am A30
 clear A30
 by_cases c4 : t178 = 0
 ·rw [if_pos c4] at H
  have c4b0 : (t178 == 0) = true := beq_iff_eq.mpr c4
  have c4b1 : (t178 != 0) = false := bne_eq_false_iff_eq.mpr c4
  clear c4
  replace H := Option.bind_eq_some_iff.mp H
  obtain ⟨⟨t181, t182, t183⟩, A50, H⟩ := H
  (try dsimp only at H)
  have A5 := am A50
  clear A50
  replace H := Option.bind_eq_some_iff.mp H
  obtain ⟨t184, A60, H⟩ := H
  (try dsimp only at H)
  have A6 := am A60
  clear A60
  replace H := Option.bind_eq_some_iff.mp H
  obtain ⟨⟨t185, t186, t187⟩, A70, H⟩ := H
  (try dsimp only at H)
  have A7 := am A70
  clear A70
  replace H := Option.bind_eq_some_iff.mp H
  obtain ⟨t188, A80, H⟩ := H
  (try dsimp only at H)
  have A8 := am A80
  clear A80
  simp only [Option.some.injEq, Prod.mk.injEq] at H
  obtain ⟨rfl, rfl, rfl⟩ := H
  go_enter Try.func124, Try.ntmps124
  go_wp2_with (first | ((with_reducible refine gate_dst (N := 4) rfl ?_); refine qx (N := 4) (cs := #[.slice none 0 0]) (t := 26) ?_; intro gb177 hg w9 hbox hb; have n0_ := am (IsS67.below qI67 hb); have n1_ := am (KeepBut.trans qK (KeepBut.of_below hb g none) (.inl rfl)); have n2_ := am (below_step qB hb); have BK177 := am (hbox); have GW177 := am ((by rw [hg]; exact (keep_size (w := w) (g := g) (row := none) qK) : w.heap.size ≤ gb177)); have GE177 := am ((Nat.le_trans HW0.out (by rw [hg]; exact (keep_size (w := w) (g := g) (row := none) qK) : w.heap.size ≤ gb177) : w0.heap.size ≤ gb177)); have NB0_177 := am ((by rw [hg]; exact Nat.ne_of_lt (IsS67.lt (show IsS67 w0 _ g s0_0 s0_1 s0_2 from qI67)) : g ≠ gb177)); have NB177_0 := am ((by rw [hg]; exact Nat.ne_of_gt (IsS67.lt (show IsS67 w0 _ g s0_0 s0_1 s0_2 from qI67)) : gb177 ≠ g)); clear HI0 HK HB; have HI0 := n0_; have HK := n1_; have HB := n2_; clear n0_ n1_ n2_; clear hb hbox hg) | ((with_reducible refine gate_callee (f := 68) rfl ?_); refine gL (some 14) Try.func68 #[.pointer (some ⟨g, 0, none⟩), .int .i64 5] ?_; (with_reducible refine (spec_l1Cur_pick.calls g s0_0 s0_1 s0_2 5 t178 t179 t180 w0 _ ?side1 ?side2 A3.out).mono ?_); (case side1 => exact qI67); (case side2 => exact qB); rintro e w10 ⟨rfl, hi, hb, hk⟩; refine ⟨_, rfl, ?_⟩; replace BK177 := am (KeepBut.blk hk (g' := gb177) (o := .cells #[.slice none 0 0] 26 (0, 0)) (qb BK177.out) NB177_0.out (by simp)); have n1_ := am (KeepBut.trans qK hk (.inl rfl)); have n2_ := am (hb); replace HI0 := am (hi); clear HK HB; have HK := n1_; have HB := n2_; clear n1_ n2_; (try clear hb); (try clear hb2); (try clear hk); (try clear hi)) | ((with_reducible refine gate_callee (f := 68) rfl ?_); refine gL (some 18) Try.func68 #[.pointer (some ⟨g, 0, none⟩), .int .i64 2] ?_; (with_reducible refine (spec_l1Cur_pick.calls g s0_0 t179 t180 2 t181 t182 t183 w0 _ ?side1 ?side2 A5.out).mono ?_); (case side1 => exact qI67); (case side2 => exact qB); rintro e w11 ⟨rfl, hi, hb, hk⟩; refine ⟨_, rfl, ?_⟩; replace BK177 := am (KeepBut.blk hk (g' := gb177) (o := .cells #[.slice none 0 0] 26 (0, 0)) (qb BK177.out) NB177_0.out (by simp)); have n1_ := am (KeepBut.trans qK hk (.inl rfl)); have n2_ := am (hb); replace HI0 := am (hi); clear HK HB; have HK := n1_; have HB := n2_; clear n1_ n2_; (try clear hb); (try clear hb2); (try clear hk); (try clear hi)) | ((with_reducible refine gate_callee (f := 95) rfl ?_); refine gL (some 23) Try.func95 #[.int .i64 1, .int .i64 (wrap64 (Int.tdiv a1 2))] ?_; (with_reducible refine (spec_l1Most.calls 1 (wrap64 (Int.tdiv a1 2)) t184 _ A6.out).mono ?_); rintro e w' ⟨rfl, ⟨nd, rfl⟩⟩; refine ⟨_, rfl, ?_⟩; (try (rw [drewN_self w11]; generalize hq_ : World.drewN w11 _ = w11; have n0_ : Aside0 (w11.heap[gb177]? = some (.cells #[.slice none 0 0] 26 (0, 0))) := ⟨by rw [← hq_]; exact (qb BK177.out)⟩; have n1_ : Aside0 (IsS67 w0 w11 g s0_0 t182 t183) := ⟨by rw [← hq_]; exact qI67⟩; have n2_ : Aside0 (KeepBut w w11 g none) := ⟨by rw [← hq_]; exact qK⟩; have n3_ : Aside0 (Below w0.heap.size w0 w11) := ⟨by rw [← hq_]; exact qB⟩; clear BK177 HI0 HK HB hq_; have BK177 := n0_; have HI0 := n1_; have HK := n2_; have HB := n3_; clear n0_ n1_ n2_ n3_))) | ((with_reducible refine gate_callee (f := 68) rfl ?_); refine gL (some 24) Try.func68 #[.pointer (some ⟨g, 0, none⟩), .int .i64 t184] ?_; (with_reducible refine (spec_l1Cur_pick.calls g s0_0 t182 t183 t184 t185 t186 t187 w0 _ ?side1 ?side2 A7.out).mono ?_); (case side1 => exact qI67); (case side2 => exact qB); rintro e w12 ⟨rfl, hi, hb, hk⟩; refine ⟨_, rfl, ?_⟩; replace BK177 := am (KeepBut.blk hk (g' := gb177) (o := .cells #[.slice none 0 0] 26 (0, 0)) (qb BK177.out) NB177_0.out (by simp)); have n1_ := am (KeepBut.trans qK hk (.inl rfl)); have n2_ := am (hb); replace HI0 := am (hi); clear HK HB; have HK := n1_; have HB := n2_; clear n1_ n2_; (try clear hb); (try clear hb2); (try clear hk); (try clear hi)) | ((with_reducible refine gate_callee (f := 151) rfl ?_); refine gL (some 26) Try.func151 #[.int .i64 (wrap64 (1 + t181)), .int .i64 (wrap64 (1 + t185))] ?_; (with_reducible refine (spec_poRectangle.calls k (wrap64 (1 + t181)) (wrap64 (1 + t185)) t188 _ A8.out).mono ?_); rintro e w13 ⟨v189, rfl, ho0, hb⟩; refine ⟨_, rfl, ?_⟩; have HO190 := am (Kd.R_lower ho0 (keep_size (w := w) (g := g) (row := none) qK)); have n1_ := am (IsS67.below qI67 hb); replace BK177 := am (blk_below (g := gb177) (o := .cells #[.slice none 0 0] 26 (0, 0)) (qb BK177.out) hb); have n3_ := am (KeepBut.trans qK (KeepBut.of_below hb g none) (.inl rfl)); replace HB := am (below_step qB hb); clear HI0 HK; have HI0 := n1_; have HK := n3_; clear n1_ n3_; (try clear hb); (try clear hb2); (try clear hk); (try clear hi); (try clear ho0); obtain ⟨Ao14, co14, eo14⟩ := Kd.R_slice HO190.out; subst eo14; have hnb15 := NB177_0.out; have hnc15 := NB0_177.out; have hcz16_0 := qz w13 BK177.out; have hfz16_0 := blk_frozen BK177.out 0))
  refine bodyPost_ret (results_cell_row rfl _ _ gb177 26 #[.slice Ao14 t188.length co14] (0, 0) _ rfl (by (with_reducible repeat (first | refine blk_drewN ?_ _ | refine blk_drew ?_ | refine blk_alloc ?_ _)); refine blk_put (cs := #[.slice none 0 0]) ?_ 0 _ rfl; refine qb ?_; exact BK177.out) Try.underlying26 rfl (by kernel_rfl)) rfl ?_
  exact ⟨_, qr, qR (Kd.R_mono (Kd.R_far (p := ⟨gb177, 0, none⟩) (Kd.R_types HO190.out BK177.out (by decide)) (fun _ hk => hk.2) (.slice Ao14 t188.length co14)) (fun _ hk => trivial)), qI67, qB, qK⟩
 ·rw [if_neg c4] at H
  have c4b0 : (t178 == 0) = false := beq_eq_false_iff_ne.mpr c4
  have c4b1 : (t178 != 0) = true := bne_iff_ne.mpr c4
  by_cases c17 : t178 = 1
  ·rw [if_pos c17] at H
   have c17b0 : (t178 == 1) = true := beq_iff_eq.mpr c17
   have c17b1 : (t178 != 1) = false := bne_eq_false_iff_eq.mpr c17
   clear c17
   replace H := Option.bind_eq_some_iff.mp H
   obtain ⟨⟨t191, t192, t193⟩, A180, H⟩ := H
   (try dsimp only at H)
   have A18 := am A180
   clear A180
   replace H := Option.bind_eq_some_iff.mp H
   obtain ⟨⟨t194, t197⟩, A190, H⟩ := H
   (try dsimp only at H)
   have A19 := am A190
   clear A190
   simp only [Option.some.injEq, Prod.mk.injEq] at H
   obtain ⟨rfl, rfl, rfl⟩ := H
   go_enter Try.func124, Try.ntmps124
   go_wp2_with (first | ((with_reducible refine gate_dst (N := 4) rfl ?_); refine qx (N := 4) (cs := #[.slice none 0 0]) (t := 26) ?_; intro gb177 hg w20 hbox hb; have n0_ := am (IsS67.below qI67 hb); have n1_ := am (KeepBut.trans qK (KeepBut.of_below hb g none) (.inl rfl)); have n2_ := am (below_step qB hb); have BK177 := am (hbox); have GW177 := am ((by rw [hg]; exact (keep_size (w := w) (g := g) (row := none) qK) : w.heap.size ≤ gb177)); have GE177 := am ((Nat.le_trans HW0.out (by rw [hg]; exact (keep_size (w := w) (g := g) (row := none) qK) : w.heap.size ≤ gb177) : w0.heap.size ≤ gb177)); have NB0_177 := am ((by rw [hg]; exact Nat.ne_of_lt (IsS67.lt (show IsS67 w0 _ g s0_0 s0_1 s0_2 from qI67)) : g ≠ gb177)); have NB177_0 := am ((by rw [hg]; exact Nat.ne_of_gt (IsS67.lt (show IsS67 w0 _ g s0_0 s0_1 s0_2 from qI67)) : gb177 ≠ g)); clear HI0 HK HB; have HI0 := n0_; have HK := n1_; have HB := n2_; clear n0_ n1_ n2_; clear hb hbox hg) | ((with_reducible refine gate_callee (f := 68) rfl ?_); refine gL (some 14) Try.func68 #[.pointer (some ⟨g, 0, none⟩), .int .i64 5] ?_; (with_reducible refine (spec_l1Cur_pick.calls g s0_0 s0_1 s0_2 5 t178 t179 t180 w0 _ ?side1 ?side2 A3.out).mono ?_); (case side1 => exact qI67); (case side2 => exact qB); rintro e w21 ⟨rfl, hi, hb, hk⟩; refine ⟨_, rfl, ?_⟩; replace BK177 := am (KeepBut.blk hk (g' := gb177) (o := .cells #[.slice none 0 0] 26 (0, 0)) (qb BK177.out) NB177_0.out (by simp)); have n1_ := am (KeepBut.trans qK hk (.inl rfl)); have n2_ := am (hb); replace HI0 := am (hi); clear HK HB; have HK := n1_; have HB := n2_; clear n1_ n2_; (try clear hb); (try clear hb2); (try clear hk); (try clear hi)) | ((with_reducible refine gate_callee (f := 68) rfl ?_); refine gL (some 31) Try.func68 #[.pointer (some ⟨g, 0, none⟩), .int .i64 2] ?_; (with_reducible refine (spec_l1Cur_pick.calls g s0_0 t179 t180 2 t191 t192 t193 w0 _ ?side1 ?side2 A18.out).mono ?_); (case side1 => exact qI67); (case side2 => exact qB); rintro e w22 ⟨rfl, hi, hb, hk⟩; refine ⟨_, rfl, ?_⟩; replace BK177 := am (KeepBut.blk hk (g' := gb177) (o := .cells #[.slice none 0 0] 26 (0, 0)) (qb BK177.out) NB177_0.out (by simp)); have n1_ := am (KeepBut.trans qK hk (.inl rfl)); have n2_ := am (hb); replace HI0 := am (hi); clear HK HB; have HK := n1_; have HB := n2_; clear n1_ n2_; (try clear hb); (try clear hb2); (try clear hk); (try clear hi)) | ((with_reducible refine gate_callee (f := 152) rfl ?_); refine gL (some 33) Try.func152 #[.int .i64 (wrap64 (1 + t191))] ?_; (with_reducible refine (spec_Staircase.calls k (wrap64 (1 + t191)) t194 t197 _ A19.out).mono ?_); rintro e w23 ⟨v195, rfl, ho0, hb⟩; refine ⟨_, rfl, ?_⟩; have HO196 := am (Kd.R_lower ho0 (keep_size (w := w) (g := g) (row := none) qK)); have n1_ := am (IsS67.below qI67 hb); replace BK177 := am (blk_below (g := gb177) (o := .cells #[.slice none 0 0] 26 (0, 0)) (qb BK177.out) hb); have n3_ := am (KeepBut.trans qK (KeepBut.of_below hb g none) (.inl rfl)); replace HB := am (below_step qB hb); clear HI0 HK; have HI0 := n1_; have HK := n3_; clear n1_ n3_; (try clear hb); (try clear hb2); (try clear hk); (try clear hi); (try clear ho0)) | ((with_reducible refine gate_dst (N := 5) rfl ?_); refine qx (N := 5) (cs := #[.slice none 0 0]) (t := 26) ?_; intro gb198 hg w24 hbox hb; replace HO196 := am (Kd.R_below (qR HO196.out) hb); have n1_ := am (IsS67.below qI67 hb); have n2_ := am (blk_below (g := gb177) (o := .cells #[.slice none 0 0] 26 (0, 0)) (qb BK177.out) hb); have n3_ := am (KeepBut.trans qK (KeepBut.of_below hb g none) (.inl rfl)); have n4_ := am (below_step qB hb); have BK198 := am (hbox); have GW198 := am ((by rw [hg]; exact (keep_size (w := w) (g := g) (row := none) qK) : w.heap.size ≤ gb198)); have GE198 := am ((Nat.le_trans HW0.out (by rw [hg]; exact (keep_size (w := w) (g := g) (row := none) qK) : w.heap.size ≤ gb198) : w0.heap.size ≤ gb198)); have NB177_198 := am ((by rw [hg]; exact Nat.ne_of_lt (blk_lt (g := gb177) (o := .cells #[.slice none 0 0] 26 (0, 0)) (qb BK177.out)) : gb177 ≠ gb198)); have NB198_177 := am ((by rw [hg]; exact Nat.ne_of_gt (blk_lt (g := gb177) (o := .cells #[.slice none 0 0] 26 (0, 0)) (qb BK177.out)) : gb198 ≠ gb177)); have NB0_198 := am ((by rw [hg]; exact Nat.ne_of_lt (IsS67.lt (show IsS67 w0 _ g s0_0 t192 t193 from qI67)) : g ≠ gb198)); have NB198_0 := am ((by rw [hg]; exact Nat.ne_of_gt (IsS67.lt (show IsS67 w0 _ g s0_0 t192 t193 from qI67)) : gb198 ≠ g)); clear HI0 BK177 HK HB; have HI0 := n1_; have BK177 := n2_; have HK := n3_; have HB := n4_; clear n1_ n2_ n3_ n4_; clear hb hbox hg; obtain ⟨Ao25, co25, eo25⟩ := Kd.R_slice HO196.out; subst eo25; have hnb26 := NB198_177.out; have hnc26 := NB177_198.out; have hnb27 := NB198_0.out; have hnc27 := NB0_198.out; have hcz28_0 := qz w24 BK198.out; have hfz28_0 := blk_frozen BK198.out 0; have hnb29 := NB177_0.out; have hnc29 := NB0_177.out; have hcz30_0 := qz w24 BK177.out; have hfz30_0 := blk_frozen BK177.out 0))
   refine bodyPost_ret (results_cell_row rfl _ _ gb177 26 #[.slice Ao25 t194.length co25] (0, 0) _ rfl (by (with_reducible repeat (first | refine blk_drewN ?_ _ | refine blk_drew ?_ | refine blk_alloc ?_ _)); refine blk_put (cs := #[.slice none 0 0]) ?_ 0 _ rfl; (with_reducible repeat (first | refine blk_drewN ?_ _ | refine blk_drew ?_ | refine blk_alloc ?_ _)); refine blk_far ?_ NB177_198.out _; refine qb ?_; exact BK177.out) Try.underlying26 rfl (by kernel_rfl)) rfl ?_
   exact ⟨_, qr, qR (Kd.R_mono (Kd.R_far (p := ⟨gb177, 0, none⟩) (Kd.R_far (p := ⟨gb198, 0, none⟩) (Kd.R_types (Kd.R_types HO196.out BK198.out (by decide)) BK177.out (by decide)) (fun _ hk => hk.1.2) (.slice Ao25 t194.length co25)) (fun _ hk => hk.2) (.slice Ao25 t194.length co25)) (fun _ hk => trivial)), qI67, qB, qK⟩
  ·rw [if_neg c17] at H
   have c17b0 : (t178 == 1) = false := beq_eq_false_iff_ne.mpr c17
   have c17b1 : (t178 != 1) = true := bne_iff_ne.mpr c17
   by_cases c31 : t178 = 2
   ·rw [if_pos c31] at H
    have c31b0 : (t178 == 2) = true := beq_iff_eq.mpr c31
    have c31b1 : (t178 != 2) = false := bne_eq_false_iff_eq.mpr c31
    clear c31
    replace H := Option.bind_eq_some_iff.mp H
    obtain ⟨⟨t199, t200, t201⟩, A320, H⟩ := H
    (try dsimp only at H)
    have A32 := am A320
    clear A320
    replace H := Option.bind_eq_some_iff.mp H
    obtain ⟨⟨t202, t205⟩, A330, H⟩ := H
    (try dsimp only at H)
    have A33 := am A330
    clear A330
    simp only [Option.some.injEq, Prod.mk.injEq] at H
    obtain ⟨rfl, rfl, rfl⟩ := H
    go_enter Try.func124, Try.ntmps124
    go_wp2_with (first | ((with_reducible refine gate_dst (N := 4) rfl ?_); refine qx (N := 4) (cs := #[.slice none 0 0]) (t := 26) ?_; intro gb177 hg w34 hbox hb; have n0_ := am (IsS67.below qI67 hb); have n1_ := am (KeepBut.trans qK (KeepBut.of_below hb g none) (.inl rfl)); have n2_ := am (below_step qB hb); have BK177 := am (hbox); have GW177 := am ((by rw [hg]; exact (keep_size (w := w) (g := g) (row := none) qK) : w.heap.size ≤ gb177)); have GE177 := am ((Nat.le_trans HW0.out (by rw [hg]; exact (keep_size (w := w) (g := g) (row := none) qK) : w.heap.size ≤ gb177) : w0.heap.size ≤ gb177)); have NB0_177 := am ((by rw [hg]; exact Nat.ne_of_lt (IsS67.lt (show IsS67 w0 _ g s0_0 s0_1 s0_2 from qI67)) : g ≠ gb177)); have NB177_0 := am ((by rw [hg]; exact Nat.ne_of_gt (IsS67.lt (show IsS67 w0 _ g s0_0 s0_1 s0_2 from qI67)) : gb177 ≠ g)); clear HI0 HK HB; have HI0 := n0_; have HK := n1_; have HB := n2_; clear n0_ n1_ n2_; clear hb hbox hg) | ((with_reducible refine gate_callee (f := 68) rfl ?_); refine gL (some 14) Try.func68 #[.pointer (some ⟨g, 0, none⟩), .int .i64 5] ?_; (with_reducible refine (spec_l1Cur_pick.calls g s0_0 s0_1 s0_2 5 t178 t179 t180 w0 _ ?side1 ?side2 A3.out).mono ?_); (case side1 => exact qI67); (case side2 => exact qB); rintro e w35 ⟨rfl, hi, hb, hk⟩; refine ⟨_, rfl, ?_⟩; replace BK177 := am (KeepBut.blk hk (g' := gb177) (o := .cells #[.slice none 0 0] 26 (0, 0)) (qb BK177.out) NB177_0.out (by simp)); have n1_ := am (KeepBut.trans qK hk (.inl rfl)); have n2_ := am (hb); replace HI0 := am (hi); clear HK HB; have HK := n1_; have HB := n2_; clear n1_ n2_; (try clear hb); (try clear hb2); (try clear hk); (try clear hi)) | ((with_reducible refine gate_callee (f := 68) rfl ?_); refine gL (some 42) Try.func68 #[.pointer (some ⟨g, 0, none⟩), .int .i64 a1] ?_; (with_reducible refine (spec_l1Cur_pick.calls g s0_0 t179 t180 a1 t199 t200 t201 w0 _ ?side1 ?side2 A32.out).mono ?_); (case side1 => exact qI67); (case side2 => exact qB); rintro e w36 ⟨rfl, hi, hb, hk⟩; refine ⟨_, rfl, ?_⟩; replace BK177 := am (KeepBut.blk hk (g' := gb177) (o := .cells #[.slice none 0 0] 26 (0, 0)) (qb BK177.out) NB177_0.out (by simp)); have n1_ := am (KeepBut.trans qK hk (.inl rfl)); have n2_ := am (hb); replace HI0 := am (hi); clear HK HB; have HK := n1_; have HB := n2_; clear n1_ n2_; (try clear hb); (try clear hb2); (try clear hk); (try clear hi)) | ((with_reducible refine gate_callee (f := 153) rfl ?_); refine gL (some 44) Try.func153 #[.int .i64 (wrap64 (1 + t199))] ?_; (with_reducible refine (spec_Fence.calls k (wrap64 (1 + t199)) t202 t205 _ A33.out).mono ?_); rintro e w37 ⟨v203, rfl, ho0, hb⟩; refine ⟨_, rfl, ?_⟩; have HO204 := am (Kd.R_lower ho0 (keep_size (w := w) (g := g) (row := none) qK)); have n1_ := am (IsS67.below qI67 hb); replace BK177 := am (blk_below (g := gb177) (o := .cells #[.slice none 0 0] 26 (0, 0)) (qb BK177.out) hb); have n3_ := am (KeepBut.trans qK (KeepBut.of_below hb g none) (.inl rfl)); replace HB := am (below_step qB hb); clear HI0 HK; have HI0 := n1_; have HK := n3_; clear n1_ n3_; (try clear hb); (try clear hb2); (try clear hk); (try clear hi); (try clear ho0)) | ((with_reducible refine gate_dst (N := 7) rfl ?_); refine qx (N := 7) (cs := #[.slice none 0 0]) (t := 26) ?_; intro gb206 hg w38 hbox hb; replace HO204 := am (Kd.R_below (qR HO204.out) hb); have n1_ := am (IsS67.below qI67 hb); have n2_ := am (blk_below (g := gb177) (o := .cells #[.slice none 0 0] 26 (0, 0)) (qb BK177.out) hb); have n3_ := am (KeepBut.trans qK (KeepBut.of_below hb g none) (.inl rfl)); have n4_ := am (below_step qB hb); have BK206 := am (hbox); have GW206 := am ((by rw [hg]; exact (keep_size (w := w) (g := g) (row := none) qK) : w.heap.size ≤ gb206)); have GE206 := am ((Nat.le_trans HW0.out (by rw [hg]; exact (keep_size (w := w) (g := g) (row := none) qK) : w.heap.size ≤ gb206) : w0.heap.size ≤ gb206)); have NB177_206 := am ((by rw [hg]; exact Nat.ne_of_lt (blk_lt (g := gb177) (o := .cells #[.slice none 0 0] 26 (0, 0)) (qb BK177.out)) : gb177 ≠ gb206)); have NB206_177 := am ((by rw [hg]; exact Nat.ne_of_gt (blk_lt (g := gb177) (o := .cells #[.slice none 0 0] 26 (0, 0)) (qb BK177.out)) : gb206 ≠ gb177)); have NB0_206 := am ((by rw [hg]; exact Nat.ne_of_lt (IsS67.lt (show IsS67 w0 _ g s0_0 t200 t201 from qI67)) : g ≠ gb206)); have NB206_0 := am ((by rw [hg]; exact Nat.ne_of_gt (IsS67.lt (show IsS67 w0 _ g s0_0 t200 t201 from qI67)) : gb206 ≠ g)); clear HI0 BK177 HK HB; have HI0 := n1_; have BK177 := n2_; have HK := n3_; have HB := n4_; clear n1_ n2_ n3_ n4_; clear hb hbox hg; obtain ⟨Ao39, co39, eo39⟩ := Kd.R_slice HO204.out; subst eo39; have hnb40 := NB206_177.out; have hnc40 := NB177_206.out; have hnb41 := NB206_0.out; have hnc41 := NB0_206.out; have hcz42_0 := qz w38 BK206.out; have hfz42_0 := blk_frozen BK206.out 0; have hnb43 := NB177_0.out; have hnc43 := NB0_177.out; have hcz44_0 := qz w38 BK177.out; have hfz44_0 := blk_frozen BK177.out 0))
    refine bodyPost_ret (results_cell_row rfl _ _ gb177 26 #[.slice Ao39 t202.length co39] (0, 0) _ rfl (by (with_reducible repeat (first | refine blk_drewN ?_ _ | refine blk_drew ?_ | refine blk_alloc ?_ _)); refine blk_put (cs := #[.slice none 0 0]) ?_ 0 _ rfl; (with_reducible repeat (first | refine blk_drewN ?_ _ | refine blk_drew ?_ | refine blk_alloc ?_ _)); refine blk_far ?_ NB177_206.out _; refine qb ?_; exact BK177.out) Try.underlying26 rfl (by kernel_rfl)) rfl ?_
    exact ⟨_, qr, qR (Kd.R_mono (Kd.R_far (p := ⟨gb177, 0, none⟩) (Kd.R_far (p := ⟨gb206, 0, none⟩) (Kd.R_types (Kd.R_types HO204.out BK206.out (by decide)) BK177.out (by decide)) (fun _ hk => hk.1.2) (.slice Ao39 t202.length co39)) (fun _ hk => hk.2) (.slice Ao39 t202.length co39)) (fun _ hk => trivial)), qI67, qB, qK⟩
   ·rw [if_neg c31] at H
    have c31b0 : (t178 == 2) = false := beq_eq_false_iff_ne.mpr c31
    have c31b1 : (t178 != 2) = true := bne_iff_ne.mpr c31
    replace H := Option.bind_eq_some_iff.mp H
    obtain ⟨⟨t207, t208, t209⟩, A450, H⟩ := H
    (try dsimp only at H)
    have A45 := am A450
    clear A450
    replace H := Option.bind_eq_some_iff.mp H
    obtain ⟨⟨t210, t211, t212⟩, A460, H⟩ := H
    (try dsimp only at H)
    have A46 := am A460
    clear A460
    have H' := am H
    clear H
    go_enter Try.func124, Try.ntmps124
    go_wp2_with (first | ((with_reducible refine gate_dst (N := 4) rfl ?_); refine qx (N := 4) (cs := #[.slice none 0 0]) (t := 26) ?_; intro gb177 hg w47 hbox hb; have n0_ := am (IsS67.below qI67 hb); have n1_ := am (KeepBut.trans qK (KeepBut.of_below hb g none) (.inl rfl)); have n2_ := am (below_step qB hb); have BK177 := am (hbox); have GW177 := am ((by rw [hg]; exact (keep_size (w := w) (g := g) (row := none) qK) : w.heap.size ≤ gb177)); have GE177 := am ((Nat.le_trans HW0.out (by rw [hg]; exact (keep_size (w := w) (g := g) (row := none) qK) : w.heap.size ≤ gb177) : w0.heap.size ≤ gb177)); have NB0_177 := am ((by rw [hg]; exact Nat.ne_of_lt (IsS67.lt (show IsS67 w0 _ g s0_0 s0_1 s0_2 from qI67)) : g ≠ gb177)); have NB177_0 := am ((by rw [hg]; exact Nat.ne_of_gt (IsS67.lt (show IsS67 w0 _ g s0_0 s0_1 s0_2 from qI67)) : gb177 ≠ g)); clear HI0 HK HB; have HI0 := n0_; have HK := n1_; have HB := n2_; clear n0_ n1_ n2_; clear hb hbox hg) | ((with_reducible refine gate_callee (f := 68) rfl ?_); refine gL (some 14) Try.func68 #[.pointer (some ⟨g, 0, none⟩), .int .i64 5] ?_; (with_reducible refine (spec_l1Cur_pick.calls g s0_0 s0_1 s0_2 5 t178 t179 t180 w0 _ ?side1 ?side2 A3.out).mono ?_); (case side1 => exact qI67); (case side2 => exact qB); rintro e w48 ⟨rfl, hi, hb, hk⟩; refine ⟨_, rfl, ?_⟩; replace BK177 := am (KeepBut.blk hk (g' := gb177) (o := .cells #[.slice none 0 0] 26 (0, 0)) (qb BK177.out) NB177_0.out (by simp)); have n1_ := am (KeepBut.trans qK hk (.inl rfl)); have n2_ := am (hb); replace HI0 := am (hi); clear HK HB; have HK := n1_; have HB := n2_; clear n1_ n2_; (try clear hb); (try clear hb2); (try clear hk); (try clear hi)) | ((with_reducible refine gate_callee (f := 68) rfl ?_); refine gL (some 50) Try.func68 #[.pointer (some ⟨g, 0, none⟩), .int .i64 a1] ?_; (with_reducible refine (spec_l1Cur_pick.calls g s0_0 t179 t180 a1 t207 t208 t209 w0 _ ?side1 ?side2 A45.out).mono ?_); (case side1 => exact qI67); (case side2 => exact qB); rintro e w49 ⟨rfl, hi, hb, hk⟩; refine ⟨_, rfl, ?_⟩; replace BK177 := am (KeepBut.blk hk (g' := gb177) (o := .cells #[.slice none 0 0] 26 (0, 0)) (qb BK177.out) NB177_0.out (by simp)); have n1_ := am (KeepBut.trans qK hk (.inl rfl)); have n2_ := am (hb); replace HI0 := am (hi); clear HK HB; have HK := n1_; have HB := n2_; clear n1_ n2_; (try clear hb); (try clear hb2); (try clear hk); (try clear hi)) | ((with_reducible refine gate_callee (f := 68) rfl ?_); refine gL (some 55) Try.func68 #[.pointer (some ⟨g, 0, none⟩), .int .i64 (wrap64 (2 * (wrap64 (1 + t207))))] ?_; (with_reducible refine (spec_l1Cur_pick.calls g s0_0 t208 t209 (wrap64 (2 * (wrap64 (1 + t207)))) t210 t211 t212 w0 _ ?side1 ?side2 A46.out).mono ?_); (case side1 => exact qI67); (case side2 => exact qB); rintro e w50 ⟨rfl, hi, hb, hk⟩; refine ⟨_, rfl, ?_⟩; replace BK177 := am (KeepBut.blk hk (g' := gb177) (o := .cells #[.slice none 0 0] 26 (0, 0)) (qb BK177.out) NB177_0.out (by simp)); have n1_ := am (KeepBut.trans qK hk (.inl rfl)); have n2_ := am (hb); replace HI0 := am (hi); clear HK HB; have HK := n1_; have HB := n2_; clear n1_ n2_; (try clear hb); (try clear hb2); (try clear hk); (try clear hi)))
    go_loopg [10, 11] k (fun kq v10 v11 w' => ∃ (x10_1 : List (List Int)) (x11_1 : Int) (x1001_1 : Int) (x1002_1 : Int), v11 = .int .i64 x11_1 ∧ Aside0 (spec_l1Cur_surePoset.l0 kq (wrap64 (1 + t207)) x10_1 x11_1 s0_0 x1001_1 x1002_1 = some (r1, r2, r3)) ∧ Aside0 (kq ≤ k) ∧ Aside0 (Kd.S (Kd.slice 3 (Kd.int .i64)) 24 w' w.heap.size (fun _ => True) v10 x10_1) ∧ Aside0 (w'.heap[gb177]? = some (.cells #[(.slice none 0 0)] 26 (0, 0))) ∧ Aside0 (IsS67 w0 w' g s0_0 x1001_1 x1002_1) ∧ Aside0 (KeepBut w w' g none) ∧ Aside0 (Below w0.heap.size w0 w'))
    case atStart => exact ⟨(([] : List (List Int))), (t210), (t211), (t212), qe, H', ⟨Nat.le_refl _⟩, ⟨by first | exact Kd.S_nil _ _ _ _ _ | exact Kd.N_nil _ _ _ _ _ | exact Kd.V_nil _ _ _ _ _ | exact Kd.Q_nil _ _ _ _ _ | exact Kd.R_nil _ _ _ _ _⟩, ⟨qb BK177.out⟩, ⟨qI67⟩, ⟨qK⟩, ⟨qB⟩⟩
    case round =>
     clear H'
     try clear c1
     try clear c2
     try clear p2
     try clear c3
     try clear c4
     try clear c4b0
     try clear c4b1
     try clear c6
     try clear p6
     try clear c9
     try clear c12
     try clear c15
     try clear c17
     try clear c17b0
     try clear c17b1
     try clear c26
     try clear c27
     try clear c29
     try clear c31
     try clear c31b0
     try clear c31b1
     try clear c40
     try clear c41
     try clear c43
     try clear hcz16_0
     try clear hcz28_0
     try clear hcz30_0
     try clear hcz42_0
     try clear hcz44_0
     try clear hfz16_0
     try clear hfz28_0
     try clear hfz30_0
     try clear hfz42_0
     try clear hfz44_0
     obtain ⟨x10_1, x11_1, x1001_1, x1002_1, rfl, HA, HK1, HO_10, BK177, HI0, HK, HB⟩ := hrel
     cases gk with
     | zero => exact absurd HA.out (by simp [spec_l1Cur_surePoset.l0])
     | succ k1 =>
      have H := HA.out
      clear HA
      simp only [spec_l1Cur_surePoset.l0] at H
      have HC51 := am H
      clear H
      go_upto_region 13 with (fail)
      go_cut [61] (fun v61 wc => ∃ (kq : Nat) (x61_50 : Bool), v61 = .bool x61_50 ∧ Aside0 (spec_l1Cur_surePoset.j1 kq (wrap64 (1 + t207)) x10_1 x11_1 x61_50 s0_0 x1001_1 x1002_1 = some (r1, r2, r3)) ∧ Aside0 (kq ≤ k1) ∧ Aside0 (Kd.S (Kd.slice 3 (Kd.int .i64)) 24 wc w.heap.size (fun _ => True) u10 x10_1) ∧ Aside0 (wc.heap[gb177]? = some (.cells #[(.slice none 0 0)] 26 (0, 0))) ∧ Aside0 (IsS67 w0 wc g s0_0 x1001_1 x1002_1) ∧ Aside0 (KeepBut w wc g none) ∧ Aside0 (Below w0.heap.size w0 wc))
      case first =>
       have H := HC51.out
       clear HC51
       by_cases c52 : x11_1 > 0
       ·rw [if_pos c52] at H
        have c52b0 : decide (0 < x11_1) = true := decide_eq_true c52
        clear c52
        (first | rw [c52b0] | (simp only [i64_w, i32_w]; rw [c52b0]) | skip)
        have H' := am H
        clear H
        go_wp2
        go_meet
        case rel => exact ⟨_, (decide ((wrap64 (1 + t207)) > 1)), qe, H', ⟨by have := HK1.out; first | omega | exact Nat.le_refl _⟩, ⟨qS HO_10.out⟩, ⟨qb BK177.out⟩, ⟨qI67⟩, ⟨qK⟩, ⟨qB⟩⟩
       ·rw [if_neg c52] at H
        have c52b0 : decide (0 < x11_1) = false := decide_eq_false c52
        clear c52
        (first | rw [c52b0] | (simp only [i64_w, i32_w]; rw [c52b0]) | skip)
        have H' := am H
        clear H
        go_wp2
        go_meet
        case rel => exact ⟨_, (false), qe, H', ⟨by have := HK1.out; first | omega | exact Nat.le_refl _⟩, ⟨qS HO_10.out⟩, ⟨qb BK177.out⟩, ⟨qI67⟩, ⟨qK⟩, ⟨qB⟩⟩
      case rest =>
       clear HC51
       try clear c1
       try clear c2
       try clear p2
       try clear c3
       try clear c4
       try clear c4b0
       try clear c4b1
       try clear c5
       try clear c6
       try clear p6
       try clear c9
       try clear c12
       try clear c15
       try clear c17
       try clear c17b0
       try clear c17b1
       try clear c26
       try clear c27
       try clear c29
       try clear c31
       try clear c31b0
       try clear c31b1
       try clear c40
       try clear c41
       try clear c43
       try clear c52
       try clear c52b0
       try clear hcz16_0
       try clear hcz28_0
       try clear hcz30_0
       try clear hcz42_0
       try clear hcz44_0
       try clear hfz16_0
       try clear hfz28_0
       try clear hfz30_0
       try clear hfz42_0
       try clear hfz44_0
       try clear p2
       try clear p6
       obtain ⟨kq, x61_50, rfl, HA, HJ50, HO_10, BK177, HI0, HK, HB⟩ := hcut
       cases kq with
       | zero => exact absurd HA.out (by simp [spec_l1Cur_surePoset.j1])
       | succ kj50 =>
        have H := HA.out
        clear HA
        simp only [spec_l1Cur_surePoset.j1] at H
        by_cases c53 : x61_50 = true
        ·subst c53
         rw [if_pos rfl] at H
         replace H := Option.bind_eq_some_iff.mp H
         obtain ⟨⟨t213, t214, t215⟩, A540, H⟩ := H
         (try dsimp only at H)
         have A54 := am A540
         clear A540
         replace H := Option.bind_eq_some_iff.mp H
         obtain ⟨⟨t216, t217, t218⟩, A550, H⟩ := H
         (try dsimp only at H)
         have A55 := am A550
         clear A550
         obtain ⟨y219, hy219⟩ : ∃ y_ : List Int, y_ = (([t213, wrap64 ((wrap64 (t213 + 1)) + t216)] : List Int)) := ⟨_, rfl⟩
         first | rw [← hy219] at H | (have H2_ := (Option.bind_some _ _).symm.trans H; clear H; have H := H2_; clear H2_; rw [← hy219] at H)
         have Ny219 := am hy219
         clear hy219
         by_cases c56 : x10_1.length < 5864062014805
         rotate_left
         ·rw [if_neg c56] at H
          exact absurd H (by simp)
         rw [if_pos c56] at H
         have LMc56 := am c56
         clear c56
         obtain ⟨y222, hy222⟩ : ∃ y_ : List (List Int), y_ = (x10_1 ++ [y219]) := ⟨_, rfl⟩
         first | rw [← hy222] at H | (have H2_ := (Option.bind_some _ _).symm.trans H; clear H; have H := H2_; clear H2_; rw [← hy222] at H)
         have Ny222 := am hy222
         clear hy222
         have H' := am H
         clear H
         go_wp2_with (first | ((with_reducible refine gate_callee (f := 68) rfl ?_); refine gL (some 67) Try.func68 #[.pointer (some ⟨g, 0, none⟩), .int .i64 (wrap64 ((wrap64 (1 + t207)) - 1))] ?_; (with_reducible refine (spec_l1Cur_pick.calls g s0_0 x1001_1 x1002_1 (wrap64 ((wrap64 (1 + t207)) - 1)) t213 t214 t215 w0 _ ?side1 ?side2 A54.out).mono ?_); (case side1 => exact qI67); (case side2 => exact qB); rintro e w57 ⟨rfl, hi, hb, hk⟩; refine ⟨_, rfl, ?_⟩; replace HO_10 := am (Kd.S_mono (Kd.S_keep (IsS67.apartS (show IsS67 w0 _ g s0_0 x1001_1 x1002_1 from qI67) (qS HO_10.out) (by decide)) hk (fun _ h => h.2)) (fun _ h => h.1)); replace BK177 := am (KeepBut.blk hk (g' := gb177) (o := .cells #[.slice none 0 0] 26 (0, 0)) (qb BK177.out) NB177_0.out (by simp)); have n2_ := am (KeepBut.trans qK hk (.inl rfl)); have n3_ := am (hb); replace HI0 := am (hi); clear HK HB; have HK := n2_; have HB := n3_; clear n2_ n3_; (try clear hb); (try clear hb2); (try clear hk); (try clear hi)) | ((with_reducible refine gate_callee (f := 68) rfl ?_); refine gL (some 77) Try.func68 #[.pointer (some ⟨g, 0, none⟩), .int .i64 (wrap64 ((wrap64 ((wrap64 (1 + t207)) - 1)) - t213))] ?_; (with_reducible refine (spec_l1Cur_pick.calls g s0_0 t214 t215 (wrap64 ((wrap64 ((wrap64 (1 + t207)) - 1)) - t213)) t216 t217 t218 w0 _ ?side1 ?side2 A55.out).mono ?_); (case side1 => exact qI67); (case side2 => exact qB); rintro e w58 ⟨rfl, hi, hb, hk⟩; refine ⟨_, rfl, ?_⟩; replace HO_10 := am (Kd.S_mono (Kd.S_keep (IsS67.apartS (show IsS67 w0 _ g s0_0 t214 t215 from qI67) (qS HO_10.out) (by decide)) hk (fun _ h => h.2)) (fun _ h => h.1)); replace BK177 := am (KeepBut.blk hk (g' := gb177) (o := .cells #[.slice none 0 0] 26 (0, 0)) (qb BK177.out) NB177_0.out (by simp)); have n2_ := am (KeepBut.trans qK hk (.inl rfl)); have n3_ := am (hb); replace HI0 := am (hi); clear HK HB; have HK := n2_; have HB := n3_; clear n2_ n3_; (try clear hb); (try clear hb2); (try clear hk); (try clear hi)) | ((with_reducible refine gate_dst (N := 79) rfl ?_); refine Kd.R_lit (Kd.int .i64) _ 3 ?hg (N := 79) ?hd (xs := ([t213, wrap64 ((wrap64 (t213 + 1)) + t216)] : List Int)) (inner := [.int .i64 t213, .int .i64 (wrap64 ((wrap64 (t213 + 1)) + t216))]) (ok := fun _ => True) (okp := fun _ => True) ?hr ?hp (fun _ hk => hk) trivial (Below.refl _ _) (Nat.le_refl _) (by simp) ?_; (case hd => rfl); (case hg => rfl); (case hr => first | (go_simp; done) | (go_simp; rfl)); (case hp => exact (Reps.one (show Kd.M (Kd.int .i64) _ _ _ t213 [.int .i64 t213] from rfl) (Reps.one (show Kd.M (Kd.int .i64) _ _ _ (wrap64 ((wrap64 (t213 + 1)) + t216)) [.int .i64 (wrap64 ((wrap64 (t213 + 1)) + t216))] from rfl) (Reps.none _ _)))); intro v220 w59 ho60 hb hg_ hnew_; clear hg_ hnew_; (first | rw [← Ny219.out] at ho60 | (simp only [Int.reduceToNat] at ho60; rw [← Ny219.out] at ho60)); replace HO_10 := am (Kd.S_elder' (qS HO_10.out) (Kd.R_base ho60) hb); have HO221 := am (Kd.R_lower ho60 (keep_size (w := w) (g := g) (row := none) qK)); replace BK177 := am (blk_below (g := gb177) (o := .cells #[.slice none 0 0] 26 (0, 0)) (qb BK177.out) hb); have n3_ := am (IsS67.below qI67 hb); have n4_ := am (KeepBut.trans qK (KeepBut.of_below hb g none) (.inl rfl)); replace HB := am (below_step qB hb); clear HI0 HK; have HI0 := n3_; have HK := n4_; clear n3_ n4_; clear hb ho60; obtain ⟨Ao62, co62, eo62⟩ := Kd.R_slice HO221.out; subst eo62) | ((with_reducible refine gate_builtin (b := .append) (xs := #[.tmp 68, .tmp 80]) rfl ?_); at_builtin; refine Kd.S_append (Kd.slice 3 (Kd.int .i64)) w.heap.size rfl (.tmp 68) (.tmp 80) 58 24 (.slice none 0 0) 24 rfl Try.underlying58 info24 rfl (by decide) (by omega) u10 x10_1 y219 [.slice Ao62 y219.length co62] (fun _ => True) (fun k_ => some k_ = (.slice Ao62 y219.length co62 : Value).ownBlock) rfl rfl ?aP (fun k_ hk_ => ((Kd.R_mono (ok' := fun k_ => ((fun _ => True)) k_ ∧ some k_ ≠ (u10 : Value).ownBlock) (Kd.R_apart' (HO221.out) (Kd.S_typed HO_10.out) (by decide)) (fun k_ hk => ⟨trivial, hk.2⟩))).1 k_ hk_.symm) ?aF ?aO (Below.refl _ _) ?aS ?aL ?_; (case aP => exact Kd.M_row (Kd.R_mono (Kd.R_tight rfl (Kd.R_mono (ok' := fun k_ => ((fun _ => True)) k_ ∧ some k_ ≠ (u10 : Value).ownBlock) (Kd.R_apart' (HO221.out) (Kd.S_typed HO_10.out) (by decide)) (fun k_ hk => ⟨trivial, hk.2⟩))) (fun _ h_ => h_))); (case aF => exact (fun _ _ => trivial)); (case aO => exact (qS (Kd.S_mono HO_10.out (fun k_ hk => ⟨trivial, fun e_ => hk.2 e_⟩)))); (case aS => exact (keep_size (w := w) (g := g) (row := none) qK)); (case aL => have := LMc56.out; omega); intro v223 w61 ho hb hg hat; rw [← Ny222.out] at ho; replace BK177 := am (blk_grown (g := gb177) (o := .cells #[.slice none 0 0] 26 (0, 0)) (qb BK177.out) hg (Kd.S_ne HO_10.out BK177.out (by decide))); have n1_ := am (IsS67.grown qI67 hg (IsS67.own_neS HI0.out HO_10.out (by decide))); have n2_ := am (below_weaken qB HL.out hb); have n3_ := am (KeepBut.trans qK (KeepBut.of_grown hg g) (Kd.S_base2 HO_10.out)); have HO224 := am (ho); clear HI0 HB HK HO_10 HO221; have HI0 := n1_; have HB := n2_; have HK := n3_; clear n1_ n2_ n3_; clear ho hb hg hat))
         go_roundg kj50
         case measure => have := HK1.out; have := HJ50.out; omega
         case rel => exact ⟨(y222), (wrap64 (x11_1 - 1)), (t217), (t218), qe, H', ⟨by have := HK1.out; have := HJ50.out; omega⟩, ⟨qS HO224.out⟩, ⟨qb BK177.out⟩, ⟨qI67⟩, ⟨qK⟩, ⟨qB⟩⟩
        ·replace c53 := Bool.eq_false_iff.mpr c53
         subst c53
         rw [if_neg (show ¬ (false = true) by decide)] at H
         replace H := Option.bind_eq_some_iff.mp H
         obtain ⟨t225, A630, H⟩ := H
         (try dsimp only at H)
         have A63 := am A630
         clear A630
         simp only [Option.some.injEq, Prod.mk.injEq] at H
         obtain ⟨rfl, rfl, rfl⟩ := H
         obtain ⟨Ao64, co64, eo64⟩ := Kd.S_slice HO_10.out
         subst eo64
         go_wp2_with (((with_reducible refine gate_callee (f := 154) rfl ?_); refine gL (some 84) Try.func154 #[.int .i64 (wrap64 (1 + t207)), .slice Ao64 x10_1.length co64] ?_; (with_reducible refine (spec_poFrom.calls kj50 (wrap64 (1 + t207)) _ _ x10_1 t225 _ ?side1 ?side2 A63.out).mono ?_); (case side1 => exact qC (Kd.S_reads' HO_10.out).2.2); (case side2 => exact (Kd.S_reads' HO_10.out).2.1); rintro e w65 ⟨v226, rfl, ho0, hb⟩; refine ⟨_, rfl, ?_⟩; replace HO_10 := am (Kd.S_elder' (qS HO_10.out) (Kd.R_base ho0) hb); have HO227 := am (Kd.R_lower ho0 (keep_size (w := w) (g := g) (row := none) qK)); replace BK177 := am (blk_below (g := gb177) (o := .cells #[.slice none 0 0] 26 (0, 0)) (qb BK177.out) hb); have n3_ := am (IsS67.below qI67 hb); have n4_ := am (KeepBut.trans qK (KeepBut.of_below hb g none) (.inl rfl)); replace HB := am (below_step qB hb); clear HI0 HK; have HI0 := n3_; have HK := n4_; clear n3_ n4_; (try clear hb); (try clear hb2); (try clear hk); (try clear hi); (try clear ho0); obtain ⟨Ao66, co66, eo66⟩ := Kd.R_slice HO227.out; subst eo66; have hnb67 := NB177_0.out; have hnc67 := NB0_177.out; have hcz68_0 := qz w65 BK177.out; have hfz68_0 := blk_frozen BK177.out 0))
         refine bodyPost_ret (results_cell_row rfl _ _ gb177 26 #[.slice Ao66 t225.length co66] (0, 0) _ rfl (by (with_reducible repeat (first | refine blk_drewN ?_ _ | refine blk_drew ?_ | refine blk_alloc ?_ _)); refine blk_put (cs := #[.slice none 0 0]) ?_ 0 _ rfl; refine qb ?_; exact BK177.out) Try.underlying26 rfl (by kernel_rfl)) rfl ?_
         exact ⟨_, qr, qR (Kd.R_mono (Kd.R_far (p := ⟨gb177, 0, none⟩) (Kd.R_types HO227.out BK177.out (by decide)) (fun _ hk => hk.2) (.slice Ao66 t225.length co66)) (fun _ hk => trivial)), qI67, qB, qK⟩
end Go.Proofs.Ytmbojobkiainlaa.F
end
