/- Part 4 of the texts below the row of FnExactLabelsWith: printed functions with their contracts, and plain lemmas. No condition. -/
import Derived.Test.YtemkddgfneohhaaZFnExactLabelsWith3
import Derived.Lib.SliceRun
import Derived.Lib.Hide
import Derived.Deep.RegionHeld3
import Derived.Deep.RegionWith
import Derived.LoopTactic
import Derived.Deep.LoopGhost
import Derived.OneCell
import Derived.Laws.EntriesVeiled
import Derived.Maps.RangeWalk
import Derived.Maps.OwnOps
import Derived.Maps.Ext
section
namespace Go.Proofs.Ytemkddgfneohhaa.Q
open Go.RowKit Go.Proofs.YtemkddgfneohhaaW.PrintWords
set_option linter.unusedVariables false
/-- a, a + 1, .., n of them. -/
def upFrom (a : Nat) (n : Nat) : List Int := (List.range' a n).map Int.ofNat
theorem upFrom_len (a n : Nat) : (upFrom a n).length = n := by simp [upFrom]
theorem upFrom_get {a n i : Nat} (h : i < n) : (upFrom a n).getD i 0 = ((a + i : Nat) : Int) := by
  rw [List.getD_eq_getElem?_getD]
  simp [upFrom, h]
end Go.Proofs.Ytemkddgfneohhaa.Q
end

section
namespace Go.Proofs.Ytemkddgfneohhaa.Q
open Go.RowKit Go.Proofs.YtemkddgfneohhaaW.PrintWords Go.Proofs.Ytemkddgfneohhaa.F
set_option linter.unusedVariables false
theorem heldIntS_ev (a n : Nat) (h : a + n ≤ 4611686018427387904) : Ev (fun k => laws_heldIntS.f k (upFrom a n) (a : Int)) ((a + n : Nat) : Int) := by
  unfold laws_heldIntS.f
  have key : ∀ i, i ≤ n → Ev (fun k => laws_heldIntS.l0 k (upFrom a n) ((a + i : Nat) : Int) (i : Int)) ((a + n : Nat) : Int) := by
    refine downTo _ ?_ ?_
    · refine Ev.step (by intro k; simp only [laws_heldIntS.l0]; rfl) (Ev.no (by rw [upFrom_len]; omega) (Ev.ret rfl))
    · intro i hi ih
      refine Ev.step (by intro k; simp only [laws_heldIntS.l0]; rfl) (Ev.yes (by rw [upFrom_len]; omega) (Ev.yes (by omega) (Ev.yes ?_ ?_)))
      · rw [rdN, upFrom_get hi]
      · rw [wid1 hi (by omega), wid1 (i := a + i) (n := a + n) (by omega) (by omega)]
        exact ih
  exact key 0 (by omega)
theorem heldIntS_ev1 (n : Nat) (h : n ≤ 4611686018427387000) : Ev (fun k => laws_heldIntS.f k (upFrom 1 n) 1) ((1 + n : Nat) : Int) := heldIntS_ev 1 n (by omega)
end Go.Proofs.Ytemkddgfneohhaa.Q
end

section
namespace Go.Proofs.Ytemkddgfneohhaa.Q
open Go.RowKit Go.Proofs.YtemkddgfneohhaaW.PrintWords Go.Proofs.Ytemkddgfneohhaa.F
set_option linter.unusedVariables false
theorem markIntS_ev (l : List Int) (a : Nat) (h : a + l.length ≤ 4611686018427387904) : Ev (fun k => laws_markIntS.f k l (a : Int)) (((a + l.length : Nat) : Int), upFrom a l.length) := by
  unfold laws_markIntS.f
  have key : ∀ i, i ≤ l.length → ∀ acc : List Int, acc.length = l.length → acc.take i = upFrom a i → Ev (fun k => laws_markIntS.l0 k acc ((a + i : Nat) : Int) (i : Int)) (((a + l.length : Nat) : Int), upFrom a l.length) := by
    refine downTo _ ?_ ?_
    · intro acc ha hp
      refine Ev.step (by intro k; simp only [laws_markIntS.l0]; rfl) (Ev.no (by omega) (Ev.ret ?_))
      rw [← ha, List.take_length] at hp
      rw [hp, ha]
    · intro i hi ih acc ha hp
      refine Ev.step (by intro k; simp only [laws_markIntS.l0]; rfl) (Ev.yes (by omega) (Ev.yes (by omega) ?_))
      rw [wid1 hi (by omega), wid1 (i := a + i) (n := a + l.length) (by omega) (by omega), Int.toNat_natCast]
      refine ih _ (by simp [ha]) ?_
      rw [List.take_add_one, List.take_set_of_le (Nat.le_refl _), hp, List.getElem?_set]
      simp [ha, hi, upFrom, List.range'_concat]
  exact key 0 (by omega) l rfl (by simp [upFrom])
theorem markIntS_ev1 (l : List Int) (h : l.length ≤ 4611686018427387000) : Ev (fun k => laws_markIntS.f k l 1) (((1 + l.length : Nat) : Int), upFrom 1 l.length) := markIntS_ev l 1 (by omega)
end Go.Proofs.Ytemkddgfneohhaa.Q
end

section
namespace Go.Proofs.Ytemkddgfneohhaa.Q
open Go.RowKit Go.Proofs.YtemkddgfneohhaaW.PrintWords Go.Proofs.Ytemkddgfneohhaa.F
set_option linter.unusedVariables false
theorem markPoset_ev (l : List Int) (a : Nat) (h : a + l.length ≤ 4611686018427387904) : Ev (fun k => laws_markPoset.f k l (a : Int)) (((a + l.length : Nat) : Int), upFrom a l.length) := by
  unfold laws_markPoset.f
  exact Ev.bind (markIntS_ev l a h) (Ev.ret rfl)
theorem markPoset_ev1 (l : List Int) (h : l.length ≤ 4611686018427387000) : Ev (fun k => laws_markPoset.f k l 1) (((1 + l.length : Nat) : Int), upFrom 1 l.length) := markPoset_ev l 1 (by omega)
end Go.Proofs.Ytemkddgfneohhaa.Q
end

section
namespace Go.Proofs.Ytemkddgfneohhaa.Q
end Go.Proofs.Ytemkddgfneohhaa.Q
end

section
namespace Go.Proofs.Ytemkddgfneohhaa.Q
open Go.RowKit Go.Proofs.YtemkddgfneohhaaW.PrintWords Go.Proofs.Ytemkddgfneohhaa.F
set_option linter.unusedVariables false
theorem poIn_eq {a j : Nat} (hj : j ≤ 64) : spec_poIn.f (a : Int) (j : Int) = some (a.testBit j) := by
  unfold spec_poIn.f
  rw [if_pos (Int.natCast_nonneg _)]
  congr 1
  rw [Bool.eq_iff_iff, beq_iff_eq]
  exact bit_test hj
end Go.Proofs.Ytemkddgfneohhaa.Q
end

section
namespace Go.Proofs.Ytemkddgfneohhaa.Q
open Go.RowKit Go.Proofs.YtemkddgfneohhaaW.PrintWords
set_option linter.unusedVariables false
/-- What is less than element i, as a set. -/
def L (p : List Int) (i : Nat) : Nat := (p.getD i 0).toNat
def rowOk (p : List Int) (i : Nat) : Bool := decide (0 ≤ p.getD i 0) && decide (p.getD i 0 ≤ 2 ^ i - 1) && allFrom (fun j => !(L p i).testBit j || decide (Go.bits .andNot .i64 (p.getD j 0) (p.getD i 0) = 0)) i 0
def isPo (p : List Int) : Bool := decide (1 ≤ p.length) && decide (p.length ≤ 10) && allFrom (rowOk p) p.length 0
structure PO (p : List Int) : Prop where
  pos : 1 ≤ p.length
  small : p.length ≤ 10
  val : ∀ i, i < p.length → p.getD i 0 = (L p i : Int)
  lt : ∀ i, i < p.length → L p i < 2 ^ i
  tr : ∀ i j, i < p.length → (L p i).testBit j = true → ndiff (L p j) (L p i) = 0
theorem L_big {p : List Int} {i : Nat} (h : p.length ≤ i) : L p i = 0 := by
  unfold L; rw [List.getD_eq_getElem?_getD, List.getElem?_eq_none h]; rfl
theorem isPo_iff (p : List Int) : isPo p = true ↔ PO p := by
  unfold isPo
  rw [Bool.and_eq_true, Bool.and_eq_true, decide_eq_true_eq, decide_eq_true_eq, allFrom_iff]
  constructor
  · rintro ⟨⟨h1, h2⟩, h3⟩
    have hv : ∀ i, i < p.length → p.getD i 0 = (L p i : Int) ∧ L p i < 2 ^ i := by
      intro i hi
      have := h3 i (Nat.zero_le _) hi
      simp only [rowOk, Bool.and_eq_true, decide_eq_true_eq] at this
      obtain ⟨⟨a, b⟩, _⟩ := this
      rw [pow_int] at b
      have hp : 0 < 2 ^ i := Nat.two_pow_pos i
      unfold L
      generalize 2 ^ i = z at *
      omega
    refine ⟨h1, h2, fun i hi => (hv i hi).1, fun i hi => (hv i hi).2, fun i j hi hj => ?_⟩
    have hji : j < i := lt_of_bit (hv i hi).2 hj
    have := h3 i (Nat.zero_le _) hi
    simp only [rowOk, Bool.and_eq_true] at this
    have h4 := (allFrom_iff _ _ _).1 this.2 j (Nat.zero_le _) hji
    rw [hj] at h4
    simp only [Bool.not_true, Bool.false_or, decide_eq_true_eq] at h4
    rw [(hv i hi).1, (hv j (by omega)).1, bits_andNotN (lt_pow (hv j (by omega)).2 (by omega)) (lt_pow (hv i hi).2 (by omega))] at h4
    exact_mod_cast h4
  · intro h
    refine ⟨⟨h.pos, h.small⟩, fun i _ hi => ?_⟩
    have hs := h.small
    have hl := h.lt i hi
    simp only [rowOk, Bool.and_eq_true, decide_eq_true_eq]
    refine ⟨⟨by rw [h.val i hi]; omega, by rw [h.val i hi, pow_int]; generalize 2 ^ i = z at *; omega⟩, ?_⟩
    rw [allFrom_iff]
    intro j _ hj
    cases hb : (L p i).testBit j with
    | false => rfl
    | true =>
      simp only [Bool.not_true, Bool.false_or, decide_eq_true_eq]
      rw [h.val i hi, h.val j (by omega), bits_andNotN (lt_pow (h.lt j (by omega)) (by omega)) (lt_pow hl (by omega)), h.tr i j hi hb]
      rfl
theorem isPo_false {p : List Int} (h : ¬ PO p) : isPo p = false := by
  cases e : isPo p with
  | false => rfl
  | true => exact absurd ((isPo_iff p).1 e) h

/-- The elements of a set, in order. -/
def itemsN (m : Nat) : List Nat := (List.range 10).filter m.testBit
def ints (l : List Nat) : List Int := l.map Int.ofNat
theorem ints_len (l : List Nat) : (ints l).length = l.length := by simp [ints]
theorem ints_app (a b : List Nat) : ints (a ++ b) = ints a ++ ints b := by simp [ints]
theorem ints_get (l : List Nat) (i : Nat) : (ints l).getD i 0 = ((l.getD i 0 : Nat) : Int) := by
  simp only [ints, List.getD_eq_getElem?_getD, List.getElem?_map]
  cases l[i]? <;> rfl
theorem rd_ints (l : List Nat) (i : Nat) : rd (ints l) (i : Int) = ((l.getD i 0 : Nat) : Int) := by rw [rdN, ints_get]
theorem mem_itemsN {m j : Nat} : j ∈ itemsN m ↔ j < 10 ∧ m.testBit j = true := by
  unfold itemsN; rw [List.mem_filter, List.mem_range]
theorem itemsN_len (m : Nat) : (itemsN m).length ≤ 10 := by
  unfold itemsN; have := List.length_filter_le m.testBit (List.range 10); simpa using this
theorem rowOk_false {p : List Int} {i : Nat} (h : ¬ (0 ≤ p.getD i 0 ∧ p.getD i 0 ≤ 2 ^ i - 1)) : rowOk p i = false := by
  unfold rowOk; rw [range_false h]; rfl
theorem rowOk_true {p : List Int} {i : Nat} (h : 0 ≤ p.getD i 0 ∧ p.getD i 0 ≤ 2 ^ i - 1) :
    rowOk p i = allFrom (fun j => !(L p i).testBit j || decide (Go.bits .andNot .i64 (p.getD j 0) (p.getD i 0) = 0)) i 0 := by
  unfold rowOk; rw [range_true h]; rfl
theorem all_drop_step {α : Type} (f : α → Bool) (l : List α) (d : α) {i : Nat} (h : i < l.length) : (l.drop i).all f = (f (l.getD i d) && (l.drop (i + 1)).all f) := by
  rw [List.drop_eq_getElem_cons h, List.all_cons, List.getD_eq_getElem?_getD, List.getElem?_eq_getElem h]; rfl
theorem items_lt {m i : Nat} {j : Nat} (hm : m < 2 ^ i) (hj : j < (itemsN m).length) : (itemsN m).getD j 0 < i := by
  rw [List.getD_eq_getElem?_getD, List.getElem?_eq_getElem hj]
  have := List.getElem_mem hj
  exact lt_of_bit hm (mem_itemsN.1 this).2
theorem items_all {m i : Nat} (hm : m < 2 ^ i) (hi : i ≤ 10) (f : Nat → Bool) : (itemsN m).all f = allFrom (fun j => !m.testBit j || f j) i 0 := by
  rw [Bool.eq_iff_iff, List.all_eq_true, allFrom_iff]
  constructor
  · intro h j _ hj
    cases hb : m.testBit j with
    | false => rfl
    | true => rw [h j (mem_itemsN.2 ⟨by omega, hb⟩)]; rfl
  · intro h j hj
    obtain ⟨h1, h2⟩ := mem_itemsN.1 hj
    have := h j (Nat.zero_le _) (lt_of_bit hm h2)
    rw [h2] at this
    simpa using this
end Go.Proofs.Ytemkddgfneohhaa.Q
end

section
namespace Go.Proofs.Ytemkddgfneohhaa.Q
open Go.RowKit Go.Proofs.YtemkddgfneohhaaW.PrintWords Go.Proofs.Ytemkddgfneohhaa.F
set_option linter.unusedVariables false
theorem items_ev (m : Nat) (hm : m < 2 ^ 62) : Ev (fun k => impl_items.f k (m : Int)) (ints (itemsN m)) := by
  show Ev (fun k => impl_items.l0 k (m : Int) [] 0) _
  have key : ∀ i, i ≤ 10 → ∀ acc : List Int, acc.length ≤ i → Ev (fun k => impl_items.l0 k (m : Int) acc (i : Int)) (acc ++ ints ((List.range' i (10 - i)).filter m.testBit)) := by
    refine downTo 10 ?_ ?_
    · intro acc _
      refine Ev.step (by intro k; simp only [impl_items.l0]; rfl) ?_
      refine Ev.no (by omega) (Ev.ret (by simp [ints]))
    · intro i hi ih acc ha
      refine Ev.step (by intro k; simp only [impl_items.l0]; rfl) ?_
      refine Ev.yes (by omega) (Ev.call (has_eq hm (by omega)) ?_)
      have hr : List.range' i (10 - i) = i :: List.range' (i + 1) (10 - (i + 1)) := by
        rw [show 10 - i = (10 - (i + 1)) + 1 by omega, List.range'_succ]
      rw [hr, wid1 hi (by omega)]
      cases hb : m.testBit i with
      | true =>
        refine Ev.yes rfl (Ev.yes (by omega) (evc (ih (acc ++ [(i : Int)]) (by simp; omega)) ?_))
        rw [List.filter_cons_of_pos hb]
        simp [ints]
      | false =>
        refine Ev.no (by simp) (evc (ih acc (by omega)) ?_)
        rw [List.filter_cons_of_neg (by simp [hb])]
  have := key 0 (by omega) [] (by simp)
  exact evc this (by simp [itemsN, List.range_eq_range'])

end Go.Proofs.Ytemkddgfneohhaa.Q
end

section
namespace Go.Proofs.Ytemkddgfneohhaa.Q
open Go.RowKit Go.Proofs.YtemkddgfneohhaaW.PrintWords
set_option linter.unusedVariables false
/-- The set of the e below n with c e. -/
def maskOf : Nat → (Nat → Bool) → Nat
  | 0, _ => 0
  | n + 1, c => if c n then maskOf n c ||| 2 ^ n else maskOf n c
theorem maskOf_bit (n : Nat) (c : Nat → Bool) (i : Nat) : (maskOf n c).testBit i = (decide (i < n) && c i) := by
  induction n with
  | zero => simp [maskOf]
  | succ n ih =>
    unfold maskOf
    by_cases hc : c n = true
    · rw [if_pos hc, Nat.testBit_or, ih, pow_bit]
      by_cases h : n = i
      · subst h; simp [hc]
      · have : decide (i < n + 1) = decide (i < n) := by rw [decide_eq_decide]; omega
        rw [this]; simp [h]
    · rw [if_neg hc, ih]
      by_cases h : n = i
      · subst h; simp at hc; simp [hc]
      · have : decide (i < n + 1) = decide (i < n) := by rw [decide_eq_decide]; omega
        rw [this]
theorem maskOf_lt (n : Nat) (c : Nat → Bool) : maskOf n c < 2 ^ n := by
  apply Nat.lt_pow_two_of_testBit
  intro i hi
  rw [maskOf_bit, decide_eq_false (by omega)]; rfl
def subB (a b : Nat) : Bool := ndiff a b == 0
theorem ndiff_zero {a b : Nat} : ndiff a b = 0 ↔ ∀ i, a.testBit i = true → b.testBit i = true := by
  constructor
  · intro h i hi
    have := ndiff_bit a b i
    rw [h, hi, Nat.zero_testBit] at this
    cases hb : b.testBit i with
    | true => rfl
    | false => rw [hb] at this; simp at this
  · intro h
    apply Nat.eq_of_testBit_eq
    intro i
    rw [ndiff_bit, Nat.zero_testBit]
    cases ha : a.testBit i with
    | false => rfl
    | true => rw [h i ha]; rfl
theorem subB_iff {a b : Nat} : subB a b = true ↔ ∀ i, a.testBit i = true → b.testBit i = true := by unfold subB; rw [beq_iff_eq]; exact ndiff_zero
/-- The set of all elements of a poset. -/
def allN (p : List Int) : Nat := 2 ^ p.length - 1
theorem allN_bit (p : List Int) (i : Nat) : (allN p).testBit i = decide (i < p.length) := by unfold allN; rw [Nat.testBit_two_pow_sub_one]
theorem allN_lt (p : List Int) : allN p < 2 ^ p.length := by unfold allN; have := Nat.two_pow_pos p.length; omega
/-- A number that is a set of elements of p. -/
def setB (p : List Int) (x : Int) : Bool := decide (0 ≤ x) && decide (x ≤ ((allN p : Nat) : Int))
theorem setB_iff {p : List Int} {x : Int} : setB p x = true ↔ ∃ s : Nat, x = (s : Int) ∧ s < 2 ^ p.length := by
  unfold setB
  rw [Bool.and_eq_true, decide_eq_true_eq, decide_eq_true_eq]
  have := Nat.two_pow_pos p.length
  unfold allN
  constructor
  · rintro ⟨h1, h2⟩; exact ⟨x.toNat, by omega, by omega⟩
  · rintro ⟨s, rfl, h⟩; omega
/-- A set that has with each element all that are less. -/
def idealB (p : List Int) (s : Nat) : Bool := allFrom (fun i => !s.testBit i || subB (L p i) s) p.length 0
theorem idealB_iff {p : List Int} {s : Nat} : idealB p s = true ↔ ∀ i, i < p.length → s.testBit i = true → ∀ j, (L p i).testBit j = true → s.testBit j = true := by
  unfold idealB
  rw [allFrom_iff]
  constructor
  · intro h i hi hs
    have := h i (Nat.zero_le _) hi
    rw [hs] at this
    exact subB_iff.1 (by simpa using this)
  · intro h i _ hi
    cases hs : s.testBit i with
    | false => rfl
    | true => rw [subB_iff.2 (h i hi hs)]; rfl
def closeN (p : List Int) (s : Nat) : Nat := (itemsN s).foldl (fun a e => a ||| L p e) s
theorem foldl_or_bit (g : Nat → Nat) (l : List Nat) (a i : Nat) : (l.foldl (fun a e => a ||| g e) a).testBit i = (a.testBit i || l.any fun e => (g e).testBit i) := by
  induction l generalizing a with
  | nil => simp
  | cons x l ih => rw [List.foldl_cons, ih, Nat.testBit_or, List.any_cons, Bool.or_assoc]
theorem closeN_bit {p : List Int} {s i : Nat} : (closeN p s).testBit i = (s.testBit i || (itemsN s).any fun e => (L p e).testBit i) := foldl_or_bit _ _ _ _
theorem closeN_eq {p : List Int} (hp : PO p) {s : Nat} (hs : s < 2 ^ p.length) : (closeN p s == s) = idealB p s := by
  have hn := hp.small
  rw [Bool.eq_iff_iff, beq_iff_eq, idealB_iff]
  constructor
  · intro h i hi hb j hj
    have := closeN_bit (p := p) (s := s) (i := j)
    rw [h] at this
    rw [this]
    have : (itemsN s).any (fun e => (L p e).testBit j) = true := List.any_eq_true.2 ⟨i, mem_itemsN.2 ⟨by omega, hb⟩, hj⟩
    rw [this]; simp
  · intro h
    apply Nat.eq_of_testBit_eq
    intro i
    rw [closeN_bit]
    cases hb : s.testBit i with
    | true => rfl
    | false =>
      rw [Bool.false_or, ← Bool.not_eq_true, List.any_eq_true]
      rintro ⟨e, he, hj⟩
      obtain ⟨_, h2⟩ := mem_itemsN.1 he
      have := h e (lt_of_bit hs h2) h2 i hj
      rw [this] at hb; cases hb
theorem L_lt {p : List Int} (hp : PO p) {i : Nat} (hi : i < p.length) : L p i < 2 ^ p.length := lt_pow (hp.lt i hi) (by omega)
theorem foldl_or_lt (g : Nat → Nat) (l : List Nat) (a n : Nat) (ha : a < 2 ^ n) (hg : ∀ e, e ∈ l → g e < 2 ^ n) : l.foldl (fun a e => a ||| g e) a < 2 ^ n := by
  induction l generalizing a with
  | nil => exact ha
  | cons x l ih => exact ih _ (or_lt ha (hg x List.mem_cons_self)) (fun e he => hg e (List.mem_cons_of_mem _ he))
theorem closeN_lt {p : List Int} (hp : PO p) {s : Nat} (hs : s < 2 ^ p.length) : closeN p s < 2 ^ p.length :=
  foldl_or_lt _ _ _ _ hs (fun e he => L_lt hp (lt_of_bit hs (mem_itemsN.1 he).2))
theorem foldl_drop_step {α β : Type} (f : β → α → β) (l : List α) (d : α) (b : β) {i : Nat} (h : i < l.length) : (l.drop i).foldl f b = (l.drop (i + 1)).foldl f (f b (l.getD i d)) := by
  rw [List.drop_eq_getElem_cons h, List.foldl_cons, List.getD_eq_getElem?_getD, List.getElem?_eq_getElem h]; rfl
end Go.Proofs.Ytemkddgfneohhaa.Q
end

section
namespace Go.Proofs.Ytemkddgfneohhaa.Q
open Go.RowKit Go.Proofs.YtemkddgfneohhaaW.PrintWords
set_option linter.unusedVariables false
def sumL : List Nat → Nat
  | [] => 0
  | x :: l => x + sumL l
theorem sumL_append (a b : List Nat) : sumL (a ++ b) = sumL a + sumL b := by
  induction a with
  | nil => simp [sumL]
  | cons x a ih => simp only [List.cons_append, sumL, ih]; omega
theorem sumL_le (l : List Nat) (b n : Nat) (h : ∀ x ∈ l, x ≤ b) (hn : l.length ≤ n) : sumL l ≤ n * b := by
  induction l generalizing n with
  | nil => exact Nat.zero_le _
  | cons x l ih =>
    cases n with
    | zero => simp at hn
    | succ n =>
      have h1 := h x List.mem_cons_self
      have h2 := ih n (fun y hy => h y (List.mem_cons_of_mem _ hy)) (by simpa using hn)
      rw [Nat.add_mul]; simp only [sumL]; omega
/-- The elements that can come behind those of s. -/
def nextN (p : List Int) (s : Nat) : List Nat := (List.range 10).filter fun e => decide (e < p.length) && !s.testBit e && subB (L p e) s
theorem mem_nextN {p : List Int} {s e : Nat} : e ∈ nextN p s ↔ e < 10 ∧ e < p.length ∧ s.testBit e = false ∧ subB (L p e) s = true := by
  unfold nextN
  rw [List.mem_filter, List.mem_range, Bool.and_eq_true, Bool.and_eq_true, decide_eq_true_eq, Bool.not_eq_true']
  constructor
  · rintro ⟨a, ⟨b, c⟩, d⟩; exact ⟨a, b, c, d⟩
  · rintro ⟨a, b, c, d⟩; exact ⟨a, ⟨b, c⟩, d⟩
theorem nextN_len (p : List Int) (s : Nat) : (nextN p s).length ≤ 10 := by
  unfold nextN; exact Nat.le_trans (List.length_filter_le _ _) (by simp)
def cnt (p : List Int) : Nat → Nat → Nat
  | 0, s => if s = allN p then 1 else 0
  | d + 1, s => if s = allN p then 1 else sumL ((nextN p s).map fun e => cnt p d (s ||| 2 ^ e))
theorem cnt_le (p : List Int) (d s : Nat) : cnt p d s ≤ 10 ^ d := by
  induction d generalizing s with
  | zero => unfold cnt; split <;> simp
  | succ d ih =>
    unfold cnt
    have h1 : 1 ≤ 10 ^ (d + 1) := Nat.one_le_pow _ _ (by decide)
    split
    · exact h1
    · have := sumL_le ((nextN p s).map fun e => cnt p d (s ||| 2 ^ e)) (10 ^ d) 10 (fun x hx => by obtain ⟨e, _, rfl⟩ := List.mem_map.1 hx; exact ih _) (by rw [List.length_map]; exact nextN_len p s)
      rw [Nat.pow_succ]; omega
def miss (p : List Int) (s : Nat) : Nat := (List.range p.length).countP fun e => !s.testBit e
theorem miss_le (p : List Int) (s : Nat) : miss p s ≤ p.length := by unfold miss; have := List.countP_le_length (p := fun e => !s.testBit e) (l := List.range p.length); simpa using this
theorem countP_lt {α : Type} (f g : α → Bool) (l : List α) (h : ∀ x ∈ l, f x = true → g x = true) (x : α) (hx : x ∈ l) (hg : g x = true) (hf : f x = false) : l.countP f < l.countP g := by
  induction l with
  | nil => cases hx
  | cons y l ih =>
    have hle : l.countP f ≤ l.countP g := List.countP_mono_left (fun z hz => h z (List.mem_cons_of_mem _ hz))
    rw [List.countP_cons, List.countP_cons]
    rcases List.mem_cons.1 hx with rfl | hx'
    · rw [hf, hg]; simp; omega
    · have := ih (fun z hz => h z (List.mem_cons_of_mem _ hz)) hx'
      have hy := h y List.mem_cons_self
      cases hfy : f y with
      | true => rw [hy hfy]; simp; omega
      | false => cases g y <;> simp <;> omega
theorem miss_lt {p : List Int} {s e : Nat} (he : e < p.length) (hb : s.testBit e = false) : miss p (s ||| 2 ^ e) < miss p s := by
  unfold miss
  refine countP_lt _ _ _ (fun x _ hx => ?_) e (List.mem_range.2 he) (by rw [hb]; rfl) ?_
  · rw [Nat.testBit_or] at hx
    cases h : s.testBit x with
    | false => rfl
    | true => rw [h] at hx; simp at hx
  · rw [Nat.testBit_or, pow_bit]; simp
theorem miss_zero {p : List Int} {s : Nat} (hs : s < 2 ^ p.length) (h : miss p s = 0) : s = allN p := by
  refine ext_bits hs (allN_lt p) (fun i hi => ?_)
  rw [allN_bit, decide_eq_true hi]
  unfold miss at h
  rw [List.countP_eq_zero] at h
  have := h i (List.mem_range.2 hi)
  simpa using this
theorem add_lt {p : List Int} {s e : Nat} (hs : s < 2 ^ p.length) (he : e < p.length) : s ||| 2 ^ e < 2 ^ p.length := or_lt hs (pow_lt_pow he)
theorem cnt_fuel {p : List Int} : ∀ (d d' s : Nat), s < 2 ^ p.length → miss p s ≤ d → miss p s ≤ d' → cnt p d s = cnt p d' s := by
  intro d
  induction d with
  | zero =>
    intro d' s hs h _
    have := miss_zero hs (by omega)
    subst this
    cases d' <;> simp [cnt]
  | succ d ih =>
    intro d' s hs h h'
    by_cases ha : s = allN p
    · subst ha; cases d' <;> simp [cnt]
    · cases d' with
      | zero => exact absurd (miss_zero hs (by omega)) ha
      | succ d' =>
        simp only [cnt, if_neg ha]
        congr 1
        apply List.map_congr_left
        intro e he
        obtain ⟨_, h1, h2, _⟩ := mem_nextN.1 he
        have := miss_lt h1 h2
        exact ih d' _ (add_lt hs h1) (by omega) (by omega)
/-- In how many orders the elements outside of s can follow. -/
def ways (p : List Int) (s : Nat) : Nat := cnt p p.length s
theorem ways_step {p : List Int} {s : Nat} (hs : s < 2 ^ p.length) (ha : s ≠ allN p) : ways p s = sumL ((nextN p s).map fun e => ways p (s ||| 2 ^ e)) := by
  unfold ways
  rw [cnt_fuel p.length (p.length + 1) s hs (miss_le p s) (by have := miss_le p s; omega)]
  simp only [cnt, if_neg ha]
theorem ways_all (p : List Int) : ways p (allN p) = 1 := by unfold ways; cases p.length <;> simp [cnt]
theorem ways_le {p : List Int} (h : p.length ≤ 10) (s : Nat) : ways p s ≤ 10000000000 := by
  unfold ways
  exact Nat.le_trans (cnt_le p _ s) (Nat.le_trans (Nat.pow_le_pow_right (by decide) h) (by decide))
theorem ways_cnt {p : List Int} {s d : Nat} (hs : s < 2 ^ p.length) (hd : p.length ≤ d) : ways p s = cnt p d s := cnt_fuel _ _ s hs (miss_le p s) (by have := miss_le p s; omega)
theorem idealB_all (p : List Int) (hp : PO p) : idealB p (allN p) = true := by
  rw [idealB_iff]
  intro i hi _ j hj
  rw [allN_bit, decide_eq_true_eq]
  have := lt_of_bit (hp.lt i hi) hj
  omega
theorem idealB_add {p : List Int} (hp : PO p) {s e : Nat} (hs : idealB p s = true) (he : e ∈ nextN p s) : idealB p (s ||| 2 ^ e) = true := by
  obtain ⟨_, h1, _, h3⟩ := mem_nextN.1 he
  rw [idealB_iff] at hs ⊢
  intro i hi hb j hj
  rw [Nat.testBit_or, pow_bit, Bool.or_eq_true, decide_eq_true_eq] at hb
  rw [Nat.testBit_or, Bool.or_eq_true]
  left
  rcases hb with hb | rfl
  · exact hs i hi hb j hj
  · exact subB_iff.1 h3 j hj
end Go.Proofs.Ytemkddgfneohhaa.Q
end

section
namespace Go.Proofs.Ytemkddgfneohhaa.Q
open Go.RowKit Go.Proofs.YtemkddgfneohhaaW.PrintWords Go.Proofs.Ytemkddgfneohhaa.F
set_option linter.unusedVariables false
theorem all_eq {p : List Int} (h : p.length ≤ 61) : impl_Poset_all.f p = some ((allN p : Nat) : Int) := by
  unfold impl_Poset_all.f
  rw [show impl_Poset_n.f p = some (p.length : Int) from rfl]
  simp only [Option.bind_some]
  rw [if_pos (by omega), mask_eq h, pow_int]
  unfold allN
  have := Nat.two_pow_pos p.length
  congr 1
  omega
end Go.Proofs.Ytemkddgfneohhaa.Q
end

section
namespace Go.Proofs.Ytemkddgfneohhaa.Q
open Go.RowKit Go.Proofs.YtemkddgfneohhaaW.PrintWords Go.Proofs.Ytemkddgfneohhaa.F
set_option linter.unusedVariables false
theorem close_ev {p : List Int} (hp : PO p) {s : Nat} (hs : s < 2 ^ p.length) : Ev (fun k => impl_Poset_close.f k p (s : Int)) ((closeN p s : Nat) : Int) := by
  have hn := hp.small
  unfold impl_Poset_close.f closeN
  refine Ev.bind (items_ev s (lt_pow hs (by omega))) ?_
  rw [ints_len]
  have hl := itemsN_len s
  have key : ∀ i, i ≤ (itemsN s).length → ∀ a : Nat, a < 2 ^ p.length → Ev (fun k => impl_Poset_close.l0 k (a : Int) (ints (itemsN s)) ((itemsN s).length : Int) (i : Int) p) (((itemsN s).drop i).foldl (fun a e => a ||| L p e) a : Nat) := by
    refine downTo _ ?_ ?_
    · intro a ha
      refine Ev.step (by intro k; simp only [impl_Poset_close.l0]; rfl) (Ev.no (by omega) (Ev.ret ?_))
      rw [List.drop_length]; rfl
    · intro i hi ih a ha
      have hlt := items_lt hs hi
      refine Ev.step (by intro k; simp only [impl_Poset_close.l0]; rfl) (Ev.yes (by omega) (Ev.yes (by omega) (Ev.yes (by rw [ints_len]; omega) ?_)))
      rw [rd_ints, wid1 hi (by omega), rdN, foldl_drop_step _ _ 0 _ hi]
      refine Ev.yes (by omega) (Ev.yes (by omega) ?_)
      rw [hp.val _ hlt, bits_orN (lt_pow ha (by omega)) (lt_pow (L_lt hp hlt) (by omega))]
      exact ih _ (or_lt ha (L_lt hp hlt))
  exact key 0 (by omega) s hs
end Go.Proofs.Ytemkddgfneohhaa.Q
end

section
namespace Go.Proofs.Ytemkddgfneohhaa.Q
open Go.RowKit Go.Proofs.YtemkddgfneohhaaW.PrintWords Go.Proofs.Ytemkddgfneohhaa.F
set_option linter.unusedVariables false
theorem poIdeal_ev {p : List Int} (hp : PO p) {s : Nat} (hs : s < 2 ^ p.length) : Ev (fun k => spec_poIdeal.f k p (s : Int)) (idealB p s) := by
  have hn := hp.small
  unfold spec_poIdeal.f idealB
  have key : ∀ i, i ≤ p.length → Ev (fun k => spec_poIdeal.l0 k (s : Int) p (p.length : Int) (i : Int)) (allFrom (fun i => !s.testBit i || subB (L p i) s) p.length i) := by
    refine downTo _ ?_ ?_
    · exact Ev.step (by intro k; simp only [spec_poIdeal.l0]; rfl) (Ev.no (by omega) (Ev.ret (allFrom_end _ _).symm))
    · intro i hi ih
      refine Ev.step (by intro k; simp only [spec_poIdeal.l0]; rfl) (Ev.yes (by omega) (Ev.yes (by omega) (Ev.yes (by omega) ?_)))
      rw [wid1 hi (by omega), rdN, hp.val i hi, allFrom_step _ hi]
      refine Ev.call (poIn_eq (by omega)) ?_
      cases s.testBit i with
      | false => exact Ev.no (by simp) (evc ih (by simp))
      | true =>
        refine Ev.yes rfl ?_
        rw [bits_andNotN (lt_pow (L_lt hp hi) (by omega)) (lt_pow hs (by omega))]
        refine Ev.ite (fun h => evc ih ?_) (fun h => Ev.ret ?_)
        · rw [show subB (L p i) s = true by unfold subB; rw [beq_iff_eq]; exact_mod_cast h]; simp
        · rw [show subB (L p i) s = false by unfold subB; rw [beq_eq_false_iff_ne]; intro e; exact h (by rw [e]; rfl)]; simp
  exact key 0 (by omega)
end Go.Proofs.Ytemkddgfneohhaa.Q
end

section
namespace Go.Proofs.Ytemkddgfneohhaa.Q
open Go.RowKit Go.Proofs.YtemkddgfneohhaaW.PrintWords
set_option linter.unusedVariables false
/-- The elements of l are put behind the set s one by one, each behind all that are less. -/
def ordRun (p : List Int) : Nat → List Int → Option Nat
  | s, [] => some s
  | s, e :: l => if (0 ≤ e ∧ e < (p.length : Int)) ∧ s.testBit e.toNat = false ∧ subB (L p e.toNat) s = true then ordRun p (s ||| 2 ^ e.toNat) l else none
def ordB (p w : List Int) : Bool := ordRun p 0 w == some (allN p)
theorem ordB_iff {p w : List Int} : ordB p w = true ↔ ordRun p 0 w = some (allN p) := by unfold ordB; rw [beq_iff_eq]
theorem ordRun_app (p x y : List Int) : ∀ s, ordRun p s (x ++ y) = (ordRun p s x).bind fun t => ordRun p t y := by
  induction x with
  | nil => intro s; rfl
  | cons e x ih =>
    intro s
    simp only [List.cons_append, ordRun]
    split
    · exact ih _
    · rfl
theorem ordRun_range {p l : List Int} : ∀ {s t : Nat}, ordRun p s l = some t → ∀ e ∈ l, 0 ≤ e ∧ e < (p.length : Int) := by
  induction l with
  | nil => intro s t h e he; cases he
  | cons x l ih =>
    intro s t h e he
    simp only [ordRun] at h
    split at h
    · rename_i hc
      rcases List.mem_cons.1 he with rfl | he
      · exact hc.1
      · exact ih h e he
    · cases h
def pcard (n s : Nat) : Nat := (List.range n).countP s.testBit
theorem pcard_succ (n s : Nat) : pcard (n + 1) s = pcard n s + if s.testBit n then 1 else 0 := by
  unfold pcard; rw [List.range_succ, List.countP_append, List.countP_singleton]
theorem pcard_above {n e : Nat} (s : Nat) (h : n ≤ e) : pcard n (s ||| 2 ^ e) = pcard n s := by
  unfold pcard
  apply List.countP_congr
  intro x hx
  rw [List.mem_range] at hx
  rw [Nat.testBit_or, pow_bit, decide_eq_false (by omega), Bool.or_false]
theorem pcard_add {n s e : Nat} (he : e < n) (hb : s.testBit e = false) : pcard n (s ||| 2 ^ e) = pcard n s + 1 := by
  induction n with
  | zero => omega
  | succ n ih =>
    rw [pcard_succ, pcard_succ, Nat.testBit_or, pow_bit]
    rcases Nat.lt_succ_iff_lt_or_eq.1 he with h | h
    · rw [ih h, decide_eq_false (by omega), Bool.or_false]; omega
    · subst h; rw [pcard_above s (Nat.le_refl _), hb]; simp
theorem pcard_zero (n : Nat) : pcard n 0 = 0 := by unfold pcard; rw [List.countP_eq_zero]; intro x _; simp
theorem pcard_le (n s : Nat) : pcard n s ≤ n := by unfold pcard; have := List.countP_le_length (p := s.testBit) (l := List.range n); simpa using this
theorem pcard_all (p : List Int) : pcard p.length (allN p) = p.length := by
  unfold pcard
  have : (List.range p.length).countP (allN p).testBit = (List.range p.length).length := by
    rw [List.countP_eq_length]; intro x hx; rw [List.mem_range] at hx; rw [allN_bit, decide_eq_true hx]
  rw [this, List.length_range]
theorem all_of_pcard {p : List Int} {s : Nat} (hs : s < 2 ^ p.length) (h : pcard p.length s = p.length) : s = allN p := by
  refine ext_bits hs (allN_lt p) (fun i hi => ?_)
  rw [allN_bit, decide_eq_true hi]
  have h2 : (List.range p.length).countP s.testBit = (List.range p.length).length := by rw [List.length_range]; exact h
  rw [List.countP_eq_length] at h2
  exact h2 i (List.mem_range.2 hi)
theorem ordRun_card {p l : List Int} : ∀ {s t : Nat}, s < 2 ^ p.length → ordRun p s l = some t → t < 2 ^ p.length ∧ pcard p.length t = pcard p.length s + l.length := by
  induction l with
  | nil => intro s t hs h; simp only [ordRun, Option.some.injEq] at h; subst h; exact ⟨hs, rfl⟩
  | cons x l ih =>
    intro s t hs h
    simp only [ordRun] at h
    split at h
    · rename_i hc
      obtain ⟨⟨h0, h1⟩, h2, h3⟩ := hc
      have hx : x.toNat < p.length := by omega
      obtain ⟨g1, g2⟩ := ih (or_lt hs (pow_lt_pow hx)) h
      refine ⟨g1, ?_⟩
      rw [g2, pcard_add hx h2, List.length_cons]; omega
    · cases h
theorem ordB_len {p w : List Int} (h : ordB p w = true) : w.length = p.length := by
  have := (ordRun_card (Nat.two_pow_pos _) (ordB_iff.1 h)).2
  rw [pcard_all, pcard_zero] at this; omega
theorem ordB_eq (p w : List Int) : (decide (w.length = p.length) && (ordRun p 0 w).isSome) = ordB p w := by
  rw [Bool.eq_iff_iff, Bool.and_eq_true, decide_eq_true_eq]
  constructor
  · rintro ⟨hl, hs⟩
    obtain ⟨t, ht⟩ := Option.isSome_iff_exists.1 hs
    obtain ⟨g1, g2⟩ := ordRun_card (Nat.two_pow_pos _) ht
    rw [pcard_zero, hl, Nat.zero_add] at g2
    rw [ordB_iff, ht, all_of_pcard g1 g2]
  · intro h
    exact ⟨ordB_len h, by rw [ordB_iff.1 h]; rfl⟩
theorem ordB_range {p w : List Int} (h : ordB p w = true) : ∀ e ∈ w, 0 ≤ e ∧ e < (p.length : Int) := ordRun_range (ordB_iff.1 h)
theorem drop_getD (w : List Int) {i : Nat} (h : i < w.length) : w.drop i = w.getD i 0 :: w.drop (i + 1) := by
  rw [List.drop_eq_getElem_cons h, List.getD_eq_getElem?_getD, List.getElem?_eq_getElem h]; rfl
end Go.Proofs.Ytemkddgfneohhaa.Q
end

section
namespace Go.Proofs.Ytemkddgfneohhaa.Q
open Go.RowKit Go.Proofs.YtemkddgfneohhaaW.PrintWords
set_option linter.unusedVariables false
/-- All ideals. -/
def idealsN (p : List Int) : List Nat := (List.range (2 ^ p.length)).filter (idealB p)
theorem mem_idealsN {p : List Int} {s : Nat} : s ∈ idealsN p ↔ s < 2 ^ p.length ∧ idealB p s = true := by
  unfold idealsN; rw [List.mem_filter, List.mem_range]
theorem idealsN_nodup (p : List Int) : (idealsN p).Nodup := List.Pairwise.filter _ List.nodup_range
theorem idealsN_len (p : List Int) : (idealsN p).length ≤ 2 ^ p.length := by
  have := List.length_filter_le (idealB p) (List.range (2 ^ p.length))
  rwa [List.length_range] at this
theorem idealB_zero' (p : List Int) : idealB p 0 = true := by rw [idealB_iff]; intro i _ h; rw [Nat.zero_testBit] at h; cases h
theorem zero_mem (p : List Int) : 0 ∈ idealsN p := mem_idealsN.2 ⟨Nat.two_pow_pos _, idealB_zero' p⟩
/-- No element of a set is less than another one. -/
def frB (p : List Int) (u : Nat) : Bool := allFrom (fun i => !u.testBit i || decide (L p i &&& u = 0)) p.length 0
/-- What may follow in a row. -/
def stB (p : List Int) (strict : Bool) (s t : Nat) : Bool := subB s t && (!strict || frB p (ndiff t s))
/-- How many rows of so many steps end in a set. -/
def wvN (B : Nat → Nat → Bool) (ids : List Nat) : Nat → Nat → Nat
  | 0, t => if t = 0 then 1 else 0
  | k + 1, t => sumL ((ids.filter fun s => B s t).map (wvN B ids k))
theorem sumL_map_le {α : Type} (f g : α → Nat) : ∀ l : List α, (∀ x ∈ l, f x ≤ g x) → sumL (l.map f) ≤ sumL (l.map g)
  | [], _ => Nat.le_refl _
  | x :: l, h => by
    have h1 := sumL_map_le f g l (fun y hy => h y (List.mem_cons_of_mem _ hy))
    have h2 := h x List.mem_cons_self
    simp only [List.map_cons, sumL]
    omega
theorem sumL_filter_le {α : Type} (f : α → Nat) (P Q : α → Bool) : ∀ l : List α, (∀ x ∈ l, P x = true → Q x = true) → sumL ((l.filter P).map f) ≤ sumL ((l.filter Q).map f)
  | [], _ => Nat.le_refl _
  | x :: l, h => by
    have h1 := sumL_filter_le f P Q l (fun y hy => h y (List.mem_cons_of_mem _ hy))
    rw [List.filter_cons, List.filter_cons]
    cases hp : P x with
    | false =>
      rw [if_neg (by simp)]
      cases hq : Q x with
      | false => rw [if_neg (by simp)]; exact h1
      | true => rw [if_pos rfl, List.map_cons]; simp only [sumL]; omega
    | true =>
      rw [if_pos rfl, if_pos (h x List.mem_cons_self hp)]
      simp only [List.map_cons, sumL]; omega
theorem sumL_take_le {α : Type} (f : α → Nat) (l : List α) (i : Nat) : sumL ((l.take i).map f) ≤ sumL (l.map f) := by
  rw [show l.map f = (l.take i).map f ++ (l.drop i).map f by rw [← List.map_append, List.take_append_drop], sumL_append]
  omega
/-- The sum over all parts of a set of the powers of a number by their sizes. -/
theorem sub_pow (c : Nat) : ∀ (n t : Nat), sumL (((List.range (2 ^ n)).filter fun s => subB s t).map fun s => c ^ pcard n s) = (c + 1) ^ pcard n t
  | 0, t => by
    have e : (List.range (2 ^ 0)).filter (fun s => subB s t) = [0] := by
      rw [show List.range (2 ^ 0) = [0] from rfl, List.filter_cons, if_pos (subB_iff.2 fun i h => by rw [Nat.zero_testBit] at h; cases h)]; rfl
    rw [e]; rfl
  | n + 1, t => by
    have hr : List.range (2 ^ (n + 1)) = List.range (2 ^ n) ++ (List.range (2 ^ n)).map (2 ^ n + ·) := by
      rw [show 2 ^ (n + 1) = 2 ^ n + 2 ^ n by rw [Nat.pow_succ]; omega, List.range_add]
    rw [hr, List.filter_append, List.map_append, sumL_append, List.filter_map, List.map_map]
    have hbit : ∀ s, s < 2 ^ n → 2 ^ n + s = s ||| 2 ^ n := fun s hs => by
      have h := Nat.two_pow_add_eq_or_of_lt hs 1
      rw [Nat.mul_one] at h
      rw [h, Nat.or_comm]
    have h1 : sumL (((List.range (2 ^ n)).filter fun s => subB s t).map fun s => c ^ pcard (n + 1) s) = (c + 1) ^ pcard n t := by
      rw [← sub_pow c n t]
      congr 1
      refine List.map_congr_left fun s hs => ?_
      have hs := List.mem_range.1 (List.mem_filter.1 hs).1
      rw [pcard_succ, Nat.testBit_lt_two_pow hs]; simp
    have hsub : ∀ s, s < 2 ^ n → subB (2 ^ n + s) t = (t.testBit n && subB s t) := fun s hs => by
      rw [hbit s hs, Bool.eq_iff_iff, Bool.and_eq_true, subB_iff, subB_iff]
      constructor
      · intro h
        exact ⟨h n (by rw [Nat.testBit_or, pow_bit]; simp), fun i hi => h i (by rw [Nat.testBit_or, hi]; rfl)⟩
      · rintro ⟨h1, h2⟩ i hi
        rw [Nat.testBit_or, pow_bit, Bool.or_eq_true, decide_eq_true_eq] at hi
        rcases hi with hi | hi
        · exact h2 i hi
        · rw [← hi]; exact h1
    have h2 : sumL (((List.range (2 ^ n)).filter ((fun s => subB s t) ∘ (2 ^ n + ·))).map ((fun s => c ^ pcard (n + 1) s) ∘ (2 ^ n + ·))) = if t.testBit n = true then c * (c + 1) ^ pcard n t else 0 := by
      have e1 : (List.range (2 ^ n)).filter ((fun s => subB s t) ∘ (2 ^ n + ·)) = (List.range (2 ^ n)).filter fun s => t.testBit n && subB s t := by
        refine List.filter_congr fun s hs => ?_
        exact hsub s (List.mem_range.1 hs)
      rw [e1]
      cases hb : t.testBit n with
      | false =>
        rw [if_neg (by simp)]
        have e2 : (List.range (2 ^ n)).filter (fun s => false && subB s t) = [] := by simp
        rw [e2]; rfl
      | true =>
        rw [if_pos rfl]
        simp only [Bool.true_and]
        rw [← sub_pow c n t]
        have hmul : ∀ l : List Nat, sumL (l.map fun s => c * c ^ pcard n s) = c * sumL (l.map fun s => c ^ pcard n s) := by
          intro l
          induction l with
          | nil => rfl
          | cons x l ih => simp only [List.map_cons, sumL]; rw [ih, Nat.mul_add]
        rw [← hmul]
        congr 1
        refine List.map_congr_left fun s hs => ?_
        have hs := List.mem_range.1 (List.mem_filter.1 hs).1
        show c ^ pcard (n + 1) (2 ^ n + s) = _
        rw [hbit s hs, pcard_add (Nat.lt_succ_self n) (Nat.testBit_lt_two_pow hs), pcard_succ, Nat.testBit_lt_two_pow hs]
        simp [Nat.pow_succ, Nat.mul_comm]
    rw [h1, h2, pcard_succ]
    cases t.testBit n with
    | false => simp
    | true => simp only [if_pos]; rw [Nat.pow_succ, Nat.mul_comm ((c + 1) ^ pcard n t), Nat.add_mul, Nat.one_mul]; omega
/-- Rows are few. -/
theorem wvN_le {p : List Int} {B : Nat → Nat → Bool} (hB : ∀ s t, B s t = true → subB s t = true) : ∀ k t, wvN B (idealsN p) k t ≤ (k + 1) ^ pcard p.length t
  | 0, t => by
    unfold wvN
    rw [Nat.one_pow]
    split <;> omega
  | k + 1, t => by
    unfold wvN
    rw [← sub_pow (k + 1) p.length t]
    refine Nat.le_trans (sumL_map_le _ (fun s => (k + 1) ^ pcard p.length s) _ (fun s _ => wvN_le hB k s)) ?_
    unfold idealsN
    rw [List.filter_filter]
    refine sumL_filter_le _ _ _ _ fun s _ h => ?_
    rw [Bool.and_eq_true] at h
    exact hB s t h.1
theorem pow_bound {c m : Nat} (hc : c ≤ 15) (hm : m ≤ 10) : c ^ m ≤ 576650390625 := by
  refine Nat.le_trans (Nat.pow_le_pow_left hc m) ?_
  have h15 : (15 : Nat) ^ m ≤ 15 ^ 10 := Nat.pow_le_pow_right (by decide) hm
  exact Nat.le_trans h15 (by decide)
theorem wvN_small {p : List Int} (hp : p.length ≤ 10) {B : Nat → Nat → Bool} (hB : ∀ s t, B s t = true → subB s t = true) {k t : Nat} (hk : k ≤ 14) : wvN B (idealsN p) k t ≤ 576650390625 :=
  Nat.le_trans (wvN_le hB k t) (pow_bound (by omega) (Nat.le_trans (pcard_le _ _) hp))
theorem stB_sub {p : List Int} {b : Bool} {s t : Nat} (h : stB p b s t = true) : subB s t = true := by
  unfold stB at h
  rw [Bool.and_eq_true] at h
  exact h.1
theorem sub_all {p : List Int} {s : Nat} (hs : s < 2 ^ p.length) : subB s (allN p) = true := subB_iff.2 fun i hi => by
  rw [allN_bit]; exact decide_eq_true (lt_of_bit hs hi)
end Go.Proofs.Ytemkddgfneohhaa.Q
end

section
namespace Go.Proofs.Ytemkddgfneohhaa.Q
open Go.RowKit Go.Proofs.YtemkddgfneohhaaW.PrintWords Go.Proofs.Ytemkddgfneohhaa.F
set_option linter.unusedVariables false
theorem poIdeals_ev {p : List Int} (hp : PO p) : Ev (fun k => spec_poIdeals.f k p) (ints (idealsN p)) := by
  have hn := hp.small
  have h2 : 2 ^ p.length ≤ 1024 := Nat.le_trans (Nat.pow_le_pow_right (by decide) hn) (by decide)
  unfold spec_poIdeals.f
  have key : ∀ i, i ≤ 2 ^ p.length → ∀ acc : List Int, acc.length ≤ i → Ev (fun k => spec_poIdeals.l0 k acc (i : Int) p) (acc ++ ints ((List.range' i (2 ^ p.length - i)).filter (idealB p))) := by
    refine downTo _ ?_ ?_
    · intro acc _
      refine Ev.step (by intro k; simp only [spec_poIdeals.l0]; rfl) ?_
      rw [shlN (by omega), Nat.sub_self]
      exact Ev.no (by omega) (Ev.ret (by simp [ints]))
    · intro i hi ih acc ha
      refine Ev.step (by intro k; simp only [spec_poIdeals.l0]; rfl) ?_
      rw [shlN (by omega)]
      refine Ev.yes (by omega) (Ev.bind (poIdeal_ev hp hi) ?_)
      rw [show 2 ^ p.length - i = (2 ^ p.length - (i + 1)) + 1 by omega, List.range'_succ, List.filter_cons, wid1 hi (by omega)]
      cases hc : idealB p i with
      | true =>
        rw [if_pos rfl]
        refine Ev.yes rfl (Ev.yes (by omega) (evc (ih (acc ++ [(i : Int)]) (by rw [List.length_append, List.length_singleton]; omega)) ?_))
        rw [List.append_assoc]; rfl
      | false =>
        rw [if_neg (by simp)]
        exact Ev.no (by simp) (ih acc (by omega))
  have := key 0 (Nat.zero_le _) [] (Nat.le_refl _)
  rw [Nat.sub_zero, ← List.range_eq_range'] at this
  exact this
end Go.Proofs.Ytemkddgfneohhaa.Q
end

section
namespace Go.Proofs.Ytemkddgfneohhaa.Q
open Go.RowKit Go.Proofs.YtemkddgfneohhaaW.PrintWords
set_option linter.unusedVariables false
theorem sizes_eq (n : Nat) : (decide ((1 : Int) ≤ (n : Int)) && decide ((n : Int) ≤ 10)) = (decide (1 ≤ n) && decide (n ≤ 10)) := by
  rw [Bool.eq_iff_iff]; simp only [Bool.and_eq_true, decide_eq_true_eq]; omega
end Go.Proofs.Ytemkddgfneohhaa.Q
end

section
namespace Go.Proofs.Ytemkddgfneohhaa.Q
open Go.RowKit Go.Proofs.YtemkddgfneohhaaW.PrintWords Go.Proofs.Ytemkddgfneohhaa.F
set_option linter.unusedVariables false
theorem poGood_ev (p : List Int) : Ev (fun k => spec_poGood.f k p) (isPo p) := by
  unfold spec_poGood.f
  refine Ev.call (l1In_eq _ _ _) ?_
  unfold isPo
  rw [sizes_eq]
  cases hs : (decide (1 ≤ p.length) && decide (p.length ≤ 10)) with
  | false => exact Ev.no (by simp) (Ev.ret rfl)
  | true =>
  refine Ev.yes rfl ?_
  rw [Bool.and_eq_true, decide_eq_true_eq, decide_eq_true_eq] at hs
  obtain ⟨h1, h2⟩ := hs
  have key : ∀ i, i ≤ p.length → Ev (fun k => spec_poGood.l0 k p (p.length : Int) (i : Int) p) (allFrom (rowOk p) p.length i) := by
    refine downTo p.length ?_ ?_
    · refine Ev.step (by intro k; simp only [spec_poGood.l0]; rfl) ?_
      exact Ev.no (by omega) (Ev.ret (allFrom_end _ _).symm)
    · intro i hi ih
      refine Ev.step (by intro k; simp only [spec_poGood.l0]; rfl) ?_
      refine Ev.yes (by omega) (Ev.yes (by omega) (Ev.yes (by omega) ?_))
      rw [rdN, mask_eq (by omega)]
      refine Ev.call (l1In_eq _ _ _) ?_
      rw [allFrom_step _ hi]
      by_cases hb : 0 ≤ p.getD i 0 ∧ p.getD i 0 ≤ 2 ^ i - 1
      rotate_left
      · exact Ev.no (by rw [range_false hb]; simp) (Ev.ret (by rw [rowOk_false hb]; rfl))
      refine Ev.yes (range_true hb) ?_
      have hv : p.getD i 0 = (L p i : Int) := by unfold L; omega
      rw [rowOk_true hb]
      generalize hx : p.getD i 0 = x at *
      have inner : ∀ j, j ≤ i → Ev (fun k => spec_poGood.l1 k (i : Int) x (j : Int) p (p.length : Int) (i : Int) p)
          (allFrom (fun j => !(L p i).testBit j || decide (Go.bits .andNot .i64 (p.getD j 0) x = 0)) i j && allFrom (rowOk p) p.length (i + 1)) := by
        refine downTo i ?_ ?_
        · refine Ev.step (by intro k; simp only [spec_poGood.l1]; rfl) ?_
          refine Ev.no (by omega) ?_
          rw [wid1 hi (by omega), allFrom_end, Bool.true_and]
          exact ih
        · intro j hj ihj
          refine Ev.step (by intro k; simp only [spec_poGood.l1]; rfl) ?_
          refine Ev.yes (by omega) (Ev.yes (by omega) ?_)
          rw [allFrom_step _ hj, wid1 hj (by omega), rdN]
          cases hbit : (L p i).testBit j with
          | false => exact Ev.no (by rw [hv, bit_test (by omega), hbit]; simp) (evc ihj (by simp))
          | true =>
            refine Ev.yes (by rw [hv, bit_test (by omega), hbit]) (Ev.yes (by omega) ?_)
            refine Ev.ite (fun h => evc ihj ?_) (fun h => Ev.ret ?_)
            · rw [decide_eq_true h]; simp
            · rw [decide_eq_false h]; simp
      exact inner 0 (by omega)
  exact key 0 (by omega)
end Go.Proofs.Ytemkddgfneohhaa.Q
end

section
namespace Go.Proofs.Ytemkddgfneohhaa.Q
open Go.RowKit Go.Proofs.YtemkddgfneohhaaW.PrintWords
set_option linter.unusedVariables false
def Tl (N : Nat) (f : Nat → Nat) : List Int := (List.range N).map fun t => ((f t : Nat) : Int)
theorem Tl_len (N : Nat) (f : Nat → Nat) : (Tl N f).length = N := by simp [Tl]
theorem Tl_get (N : Nat) (f : Nat → Nat) {t : Nat} (ht : t < N) : rd (Tl N f) (t : Int) = ((f t : Nat) : Int) := by
  rw [rdN]
  unfold Tl
  rw [List.getD_eq_getElem?_getD, List.getElem?_map, List.getElem?_range ht]; rfl
theorem Tl_congr {N : Nat} {f g : Nat → Nat} (h : ∀ t, t < N → f t = g t) : Tl N f = Tl N g := List.map_congr_left fun t ht => by rw [h t (List.mem_range.1 ht)]
theorem Tl_set {N : Nat} {f : Nat → Nat} {t x : Nat} (ht : t < N) : (Tl N f).set t (x : Int) = Tl N fun u => if u = t then x else f u := by
  apply List.ext_getElem?
  intro i
  unfold Tl
  rw [List.getElem?_set, List.getElem?_map, List.getElem?_map, List.length_map, List.length_range]
  by_cases hi : i < N
  · rw [List.getElem?_range hi]
    by_cases e : t = i
    · subst e
      rw [if_pos rfl, if_pos ht]
      simp
    · rw [if_neg e]
      simp only [Option.map_some]
      rw [if_neg (fun h => e h.symm)]
  · rw [List.getElem?_eq_none (l := List.range N) (by simpa using hi)]
    by_cases e : t = i
    · subst e; exact absurd ht hi
    · rw [if_neg e]; rfl
theorem Tl_zero (N : Nat) : List.replicate N (0 : Int) = Tl N fun _ => 0 := by
  unfold Tl
  apply List.ext_getElem
  · simp
  · intro i h1 h2; simp
theorem sumL_snoc (l : List Nat) (x : Nat) : sumL (l ++ [x]) = sumL l + x := by rw [sumL_append]; simp [sumL]
theorem take_snoc {α : Type} (l : List α) (i : Nat) (h : i < l.length) : l.take (i + 1) = l.take i ++ [l[i]] := by
  rw [List.take_add_one, List.getElem?_eq_getElem h]; rfl
end Go.Proofs.Ytemkddgfneohhaa.Q
end

section
namespace Go.Proofs.Ytemkddgfneohhaa.Q
open Go.RowKit Go.Proofs.YtemkddgfneohhaaW.PrintWords Go.Proofs.Ytemkddgfneohhaa.F
set_option linter.unusedVariables false
theorem laFree_ev {p : List Int} (hp : PO p) {u : Nat} (hu : u < 2 ^ p.length) : Ev (fun k => spec_laFree.f k p (u : Int)) (frB p u) := by
  have hn := hp.small
  unfold spec_laFree.f frB
  have key : ∀ i, i ≤ p.length → Ev (fun k => spec_laFree.l0 k (u : Int) p (p.length : Int) (i : Int)) (allFrom (fun i => !u.testBit i || decide (L p i &&& u = 0)) p.length i) := by
    refine downTo _ ?_ ?_
    · exact Ev.step (by intro k; simp only [spec_laFree.l0]; rfl) (Ev.no (by omega) (Ev.ret (allFrom_end _ _).symm))
    · intro i hi ih
      refine Ev.step (by intro k; simp only [spec_laFree.l0]; rfl) (Ev.yes (by omega) (Ev.yes (by omega) (Ev.yes (by omega) ?_)))
      rw [wid1 hi (by omega), rdN, hp.val i hi, allFrom_step _ hi]
      refine Ev.call (poIn_eq (by omega)) ?_
      cases u.testBit i with
      | false => exact Ev.no (by simp) (evc ih (by simp))
      | true =>
        refine Ev.yes rfl ?_
        rw [bits_andN (lt_pow (L_lt hp hi) (by omega)) (lt_pow hu (by omega))]
        refine Ev.ite (fun h => evc ih ?_) (fun h => Ev.ret ?_)
        · rw [decide_eq_true (show L p i &&& u = 0 by exact_mod_cast h)]; simp
        · rw [decide_eq_false (show ¬ L p i &&& u = 0 by intro e; exact h (by rw [e]; rfl))]; simp
  exact key 0 (Nat.zero_le _)
/-- What the sets ahead of i have given to t. -/
def gotN (B : Nat → Nat → Bool) (ids : List Nat) (v : Nat → Nat) (i t : Nat) : Nat := if t ∈ ids then sumL (((ids.take i).filter fun s => B s t).map v) else 0
/-- .. and what the set s has given to those ahead of j. -/
def gotJ (B : Nat → Nat → Bool) (ids : List Nat) (v : Nat → Nat) (i j s t : Nat) : Nat := gotN B ids v i t + if t ∈ ids.take j ∧ B s t = true then v s else 0
theorem gotN_le {B : Nat → Nat → Bool} {ids : List Nat} {v : Nat → Nat} {i t : Nat} : gotN B ids v i t ≤ sumL ((ids.filter fun s => B s t).map v) := by
  unfold gotN
  split
  · refine Nat.le_trans ?_ (Nat.le_refl (sumL ((ids.filter fun s => B s t).map v)))
    have e : ids.filter (fun s => B s t) = (ids.take i).filter (fun s => B s t) ++ (ids.drop i).filter (fun s => B s t) := by rw [← List.filter_append, List.take_append_drop]
    rw [e, List.map_append, sumL_append]
    omega
  · omega
theorem gotN_step {B : Nat → Nat → Bool} {ids : List Nat} {v : Nat → Nat} {i t : Nat} (hi : i < ids.length) : gotN B ids v (i + 1) t = gotN B ids v i t + if t ∈ ids ∧ B ids[i] t = true then v ids[i] else 0 := by
  unfold gotN
  by_cases ht : t ∈ ids
  · rw [if_pos ht, if_pos ht, take_snoc ids i hi, List.filter_append, List.map_append, sumL_append]
    cases hb : B ids[i] t with
    | true => simp [ht, hb, sumL]
    | false => simp [hb, sumL]
  · rw [if_neg ht, if_neg ht, if_neg (fun h => ht h.1)]
theorem gotJ_end {B : Nat → Nat → Bool} {ids : List Nat} {v : Nat → Nat} {i t : Nat} (hi : i < ids.length) : gotJ B ids v i ids.length ids[i] t = gotN B ids v (i + 1) t := by
  unfold gotJ
  rw [List.take_length, gotN_step hi]
theorem not_in_take {ids : List Nat} (hn : ids.Nodup) {j : Nat} (hj : j < ids.length) : ids[j] ∉ ids.take j := by
  intro h
  obtain ⟨i, hi, e⟩ := List.mem_take_iff_getElem.1 h
  rw [List.nodup_iff_pairwise_ne, List.pairwise_iff_getElem] at hn
  exact hn i j (by omega) hj (by omega) e
theorem gotJ_step {B : Nat → Nat → Bool} {ids : List Nat} {v : Nat → Nat} {i j s : Nat} (hn : ids.Nodup) (hj : j < ids.length) (u : Nat) :
    gotJ B ids v i (j + 1) s u = if u = ids[j] ∧ B s u = true then gotJ B ids v i j s u + v s else gotJ B ids v i j s u := by
  unfold gotJ
  rw [take_snoc ids j hj]
  by_cases e : u = ids[j]
  · subst e
    have h0 := not_in_take hn hj
    have h1 : ids[j] ∈ ids.take j ++ [ids[j]] := List.mem_append.2 (.inr (List.mem_singleton.2 rfl))
    cases hb : B s ids[j] with
    | true => rw [if_pos ⟨h1, rfl⟩, if_pos ⟨rfl, rfl⟩, if_neg (fun h => h0 h.1)]; omega
    | false => rw [if_neg (by simp), if_neg (by simp), if_neg (by simp)]
  · have hne : ¬ (u = ids[j] ∧ B s u = true) := fun h => e h.1
    have : (u ∈ ids.take j ++ [ids[j]]) ↔ u ∈ ids.take j := by rw [List.mem_append, List.mem_singleton]; exact ⟨fun h => h.elim id (fun h => absurd h e), .inl⟩
    rw [if_neg hne]
    by_cases h : u ∈ ids.take j ∧ B s u = true
    · rw [if_pos h, if_pos ⟨this.2 h.1, h.2⟩]
    · rw [if_neg h, if_neg (fun h2 => h ⟨this.1 h2.1, h2.2⟩)]
theorem gotJ_le {B : Nat → Nat → Bool} {ids : List Nat} {v : Nat → Nat} {i j t : Nat} (hi : i < ids.length) (hj : j ≤ ids.length) : gotJ B ids v i j ids[i] t ≤ gotN B ids v (i + 1) t := by
  rw [← gotJ_end hi]
  unfold gotJ
  rw [List.take_length]
  by_cases h : t ∈ ids.take j ∧ B ids[i] t = true
  · rw [if_pos h, if_pos ⟨List.mem_of_mem_take h.1, h.2⟩]; omega
  · rw [if_neg h]; omega
theorem chains_row {p : List Int} (hp : PO p) (b : Bool) (v : Nat → Nat) (hv : ∀ t, sumL (((idealsN p).filter fun s => stB p b s t).map v) ≤ 4000000000000000000) {i : Nat} (hi : i < (idealsN p).length) {x1 : Int} {r : Int} :
    ∀ j, j ≤ (idealsN p).length → Ev (fun k => spec_laChains.l1 k x1 b (ints (idealsN p)) (Tl (2 ^ p.length) v) (Tl (2 ^ p.length) (gotN (stB p b) (idealsN p) v (i + 1))) (ints (idealsN p)) ((ints (idealsN p)).length : Int) (wrap64 ((i : Int) + 1)) p) r →
    Ev (fun k => spec_laChains.l2 k x1 b (ints (idealsN p)) (Tl (2 ^ p.length) v) (Tl (2 ^ p.length) (gotJ (stB p b) (idealsN p) v i j (idealsN p)[i])) ((idealsN p)[i] : Int) (ints (idealsN p)) ((ints (idealsN p)).length : Int) (i : Int) (ints (idealsN p)) ((ints (idealsN p)).length : Int) (j : Int) p) r := by
  have hn := hp.small
  have h2 : 2 ^ p.length ≤ 1024 := Nat.le_trans (Nat.pow_le_pow_right (by decide) hn) (by decide)
  have hl := idealsN_len p
  have hnd := idealsN_nodup p
  obtain ⟨hs, hsi⟩ := mem_idealsN.1 (List.getElem_mem hi)
  generalize hS : (idealsN p)[i] = s at hs hsi ⊢
  rw [ints_len]
  refine downTo _ ?_ ?_
  · intro hr
    refine Ev.step (by intro k; simp only [spec_laChains.l2]; rfl) (Ev.no (by omega) ?_)
    have e : Tl (2 ^ p.length) (gotJ (stB p b) (idealsN p) v i (idealsN p).length s) = Tl (2 ^ p.length) (gotN (stB p b) (idealsN p) v (i + 1)) := Tl_congr fun t _ => by rw [← hS]; exact gotJ_end hi
    rw [e]
    exact hr
  · intro j hj ih hr
    have ih := ih hr
    obtain ⟨ht, hti⟩ := mem_idealsN.1 (List.getElem_mem hj)
    have hrd : rd (ints (idealsN p)) (j : Int) = ((idealsN p)[j] : Int) := by rw [rd_ints, List.getD_eq_getElem?_getD, List.getElem?_eq_getElem hj]; rfl
    have hstep := gotJ_step (B := stB p b) (v := v) (i := i) (s := s) hnd hj
    generalize hT : (idealsN p)[j] = t at ht hti hrd hstep
    have hsame : stB p b s t = false ∨ v s = 0 → Tl (2 ^ p.length) (gotJ (stB p b) (idealsN p) v i (j + 1) s) = Tl (2 ^ p.length) (gotJ (stB p b) (idealsN p) v i j s) := fun h => Tl_congr fun u _ => by
      rw [hstep u]
      by_cases hu : u = t ∧ stB p b s u = true
      · rw [if_pos hu]
        rcases h with h | h
        · rw [hu.1, h] at hu; exact absurd hu.2 (by simp)
        · omega
      · rw [if_neg hu]
    refine Ev.step (by intro k; simp only [spec_laChains.l2]; rfl) (Ev.yes (by omega) (Ev.yes (by omega) (Ev.yes (by rw [ints_len]; omega) (Ev.yes (by omega) (Ev.yes (by rw [Tl_len]; omega) ?_)))))
    rw [hrd, Tl_get _ _ hs, Tl_get _ _ ht, wid1 (show j < (idealsN p).length from hj) (by omega), bits_andNotN (lt_pow hs (by omega)) (lt_pow ht (by omega)), bits_andNotN (lt_pow ht (by omega)) (lt_pow hs (by omega))]
    refine Ev.ite (fun hv0 => ?_) (fun hv0 => ?_)
    rotate_left
    · rw [hsame (.inr (by omega))] at ih; exact ih
    have hadd : stB p b s t = true → (Tl (2 ^ p.length) (gotJ (stB p b) (idealsN p) v i j s)).set ((t : Int)).toNat (wrap64 (((gotJ (stB p b) (idealsN p) v i j s t : Nat) : Int) + ((v s : Nat) : Int))) = Tl (2 ^ p.length) (gotJ (stB p b) (idealsN p) v i (j + 1) s) := fun hB => by
      have hle : gotJ (stB p b) (idealsN p) v i (j + 1) s t ≤ 4000000000000000000 := by
        rw [← hS]
        exact Nat.le_trans (gotJ_le hi (by omega)) (Nat.le_trans gotN_le (hv t))
      rw [hstep t, if_pos ⟨rfl, hB⟩] at hle
      rw [wid (by omega) (by omega), Int.toNat_natCast, show ((gotJ (stB p b) (idealsN p) v i j s t : Nat) : Int) + ((v s : Nat) : Int) = ((gotJ (stB p b) (idealsN p) v i j s t + v s : Nat) : Int) by omega, Tl_set ht]
      refine Tl_congr fun u _ => ?_
      rw [hstep u]
      by_cases e : u = t
      · subst e; rw [if_pos rfl, if_pos ⟨rfl, hB⟩]
      · rw [if_neg e, if_neg (fun h => e h.1)]
    refine Ev.ite (fun hsub => ?_) (fun hsub => ?_)
    rotate_left
    · have : stB p b s t = false := by
        unfold stB subB
        rw [show (ndiff s t == 0) = false by rw [beq_eq_false_iff_ne]; intro e; exact hsub (by rw [e]; rfl)]; rfl
      rw [hsame (.inl this)] at ih; exact ih
    have hsub' : subB s t = true := by unfold subB; rw [beq_iff_eq]; exact_mod_cast hsub
    cases b with
    | false =>
      have hB : stB p false s t = true := by unfold stB; rw [hsub']; rfl
      refine Ev.no (by simp) (Ev.yes (by omega) (Ev.yes (by rw [Tl_len]; omega) ?_))
      rw [hadd hB]; exact ih
    | true =>
      refine Ev.yes rfl (Ev.bind (laFree_ev hp (ndiff_lt ht)) ?_)
      cases hf : frB p (ndiff t s) with
      | true =>
        have hB : stB p true s t = true := by unfold stB; rw [hsub', hf]; rfl
        refine Ev.yes rfl (Ev.yes (by omega) (Ev.yes (by rw [Tl_len]; omega) ?_))
        rw [hadd hB]; exact ih
      | false =>
        have hB : stB p true s t = false := by unfold stB; rw [hsub', hf]; rfl
        rw [hsame (.inl hB)] at ih
        exact Ev.no (by simp) ih
theorem chains_rows {p : List Int} (hp : PO p) (b : Bool) (v : Nat → Nat) (hv : ∀ t, sumL (((idealsN p).filter fun s => stB p b s t).map v) ≤ 4000000000000000000) {x1 : Int} {r : Int}
    (hr : Ev (fun k => spec_laChains.l0 k (wrap64 (x1 - 1)) b (ints (idealsN p)) (Tl (2 ^ p.length) (gotN (stB p b) (idealsN p) v (idealsN p).length)) p) r) :
    ∀ i, i ≤ (idealsN p).length → Ev (fun k => spec_laChains.l1 k x1 b (ints (idealsN p)) (Tl (2 ^ p.length) v) (Tl (2 ^ p.length) (gotN (stB p b) (idealsN p) v i)) (ints (idealsN p)) ((ints (idealsN p)).length : Int) (i : Int) p) r := by
  have hn := hp.small
  have h2 : 2 ^ p.length ≤ 1024 := Nat.le_trans (Nat.pow_le_pow_right (by decide) hn) (by decide)
  have hl := idealsN_len p
  refine downTo _ ?_ ?_
  · refine Ev.step (by intro k; simp only [spec_laChains.l1]; rfl) (Ev.no (by rw [ints_len]; omega) hr)
  · intro i hi ih
    refine Ev.step (by intro k; simp only [spec_laChains.l1]; rfl) (Ev.yes (by rw [ints_len]; omega) (Ev.yes (by omega) (Ev.yes (by rw [ints_len]; omega) ?_)))
    have hrd : rd (ints (idealsN p)) (i : Int) = ((idealsN p)[i] : Int) := by rw [rd_ints, List.getD_eq_getElem?_getD, List.getElem?_eq_getElem hi]; rfl
    rw [hrd]
    have h0 : Tl (2 ^ p.length) (gotN (stB p b) (idealsN p) v i) = Tl (2 ^ p.length) (gotJ (stB p b) (idealsN p) v i 0 (idealsN p)[i]) := Tl_congr fun t _ => by unfold gotJ; simp
    rw [h0]
    exact chains_row hp b v hv hi 0 (Nat.zero_le _) (by rw [wid1 hi (by omega)]; exact ih)
/-- The rows that end in an ideal. -/
def wvI (p : List Int) (b : Bool) (k t : Nat) : Nat := if t ∈ idealsN p then wvN (stB p b) (idealsN p) k t else 0
theorem wvI_step (p : List Int) (b : Bool) (k t : Nat) : gotN (stB p b) (idealsN p) (wvI p b k) (idealsN p).length t = wvI p b (k + 1) t := by
  unfold gotN
  rw [List.take_length]
  conv => rhs; unfold wvI
  by_cases h : t ∈ idealsN p
  · rw [if_pos h, if_pos h]
    conv => rhs; unfold wvN
    congr 1
    refine List.map_congr_left fun s hs => ?_
    unfold wvI
    rw [if_pos (List.mem_filter.1 hs).1]
  · rw [if_neg h, if_neg h]
theorem wvI_sum {p : List Int} (hp : PO p) (b : Bool) {k : Nat} (hk : k ≤ 13) (t : Nat) : sumL (((idealsN p).filter fun s => stB p b s t).map (wvI p b k)) ≤ 4000000000000000000 := by
  refine Nat.le_trans ?_ (Nat.le_trans (wvN_small hp.small (B := stB p b) (k := k + 1) (t := t) (fun s t h => stB_sub h) (by omega)) (by decide))
  conv => rhs; unfold wvN
  refine sumL_map_le _ _ _ fun s _ => ?_
  unfold wvI
  split
  · exact Nat.le_refl _
  · exact Nat.zero_le _
theorem laChains_ev {p : List Int} (hp : PO p) (b : Bool) {k : Nat} (hk : k ≤ 14) : Ev (fun n => spec_laChains.f n p (k : Int) b) ((wvN (stB p b) (idealsN p) k (allN p) : Nat) : Int) := by
  have hn := hp.small
  have h2 : 2 ^ p.length ≤ 1024 := Nat.le_trans (Nat.pow_le_pow_right (by decide) hn) (by decide)
  have hpos := Nat.two_pow_pos p.length
  have hall : allN p ∈ idealsN p := mem_idealsN.2 ⟨allN_lt p, idealB_all p hp⟩
  unfold spec_laChains.f
  refine Ev.bind (poIdeals_ev hp) ?_
  rw [shlN (by omega)]
  refine Ev.yes (by omega) (Ev.yes (by rw [Int.toNat_natCast]; omega) ?_)
  rw [Int.toNat_natCast, Tl_zero]
  refine Ev.call rfl (Ev.yes (by rw [Tl_len]; omega) ?_)
  have e0 : (Tl (2 ^ p.length) fun _ => 0).set (0 : Int).toNat 1 = Tl (2 ^ p.length) (wvI p b 0) := by
    refine (Tl_set (f := fun _ => 0) (t := 0) (x := 1) hpos).trans (Tl_congr fun u _ => ?_)
    unfold wvI wvN
    by_cases hu : u = 0
    · subst hu; rw [if_pos rfl, if_pos (zero_mem p)]
    · rw [if_neg hu]
      split
      · rfl
      · rfl
  rw [e0]
  have key : ∀ q, q ≤ k → Ev (fun n => spec_laChains.l0 n (((k - q : Nat) : Nat) : Int) b (ints (idealsN p)) (Tl (2 ^ p.length) (wvI p b q)) p) ((wvN (stB p b) (idealsN p) k (allN p) : Nat) : Int) := by
    refine downTo _ ?_ ?_
    · refine Ev.step (by intro k; simp only [spec_laChains.l0]; rfl) (Ev.no (by omega) ?_)
      have e1 : wrap64 (((Tl (2 ^ p.length) (wvI p b k)).length : Int) - 1) = ((allN p : Nat) : Int) := by
        rw [Tl_len, wid (by omega) (by omega)]; unfold allN; omega
      rw [e1]
      refine Ev.yes (by omega) (Ev.yes (by rw [Tl_len]; have := allN_lt p; omega) (Ev.ret ?_))
      rw [Tl_get _ _ (allN_lt p)]
      unfold wvI
      rw [if_pos hall]
    · intro q hq ih
      refine Ev.step (by intro k; simp only [spec_laChains.l0]; rfl) (Ev.yes (by omega) (Ev.yes (by omega) (Ev.yes (by rw [Tl_len, Int.toNat_natCast]; omega) ?_)))
      rw [Tl_len, Int.toNat_natCast, Tl_zero]
      have e2 : Tl (2 ^ p.length) (fun _ => 0) = Tl (2 ^ p.length) (gotN (stB p b) (idealsN p) (wvI p b q) 0) := Tl_congr fun t _ => by unfold gotN; split <;> simp [sumL]
      rw [e2]
      refine chains_rows hp b _ (wvI_sum hp b (by omega)) ?_ 0 (Nat.zero_le _)
      rw [wid (by omega) (by omega), show (((k - q : Nat) : Nat) : Int) - 1 = ((k - (q + 1) : Nat) : Int) by omega]
      rw [show Tl (2 ^ p.length) (gotN (stB p b) (idealsN p) (wvI p b q) (idealsN p).length) = Tl (2 ^ p.length) (wvI p b (q + 1)) from Tl_congr fun t _ => wvI_step p b q t]
      exact ih
  exact key 0 (Nat.zero_le _)
end Go.Proofs.Ytemkddgfneohhaa.Q
end

section
namespace Go.Proofs.Ytemkddgfneohhaa.Q
open Go.RowKit Go.Proofs.YtemkddgfneohhaaW.PrintWords
set_option linter.unusedVariables false
/-- What may follow in a row of steps. -/
def opB (p : List Int) (s t : Nat) : Bool := subB s t && (!(ndiff t s == 0) && frB p (ndiff t s))
theorem opB_sub {p : List Int} {s t : Nat} (h : opB p s t = true) : subB s t = true := by
  unfold opB at h
  rw [Bool.and_eq_true] at h
  exact h.1
def stepsN (p : List Int) : List Nat := (List.range p.length).map fun j => wvN (opB p) (idealsN p) (j + 1) (allN p)
/-- Choices. -/
def bin : Nat → Nat → Nat
  | _, 0 => 1
  | 0, _ + 1 => 0
  | k + 1, j + 1 => bin k j + bin k (j + 1)
theorem bin_big : ∀ k j, k < j → bin k j = 0
  | _, 0, h => absurd h (Nat.not_lt_zero _)
  | 0, _ + 1, _ => rfl
  | k + 1, j + 1, h => by unfold bin; rw [bin_big k j (by omega), bin_big k (j + 1) (by omega)]
theorem bin_self : ∀ k, bin k k = 1
  | 0 => rfl
  | k + 1 => by unfold bin; rw [bin_self k, bin_big k (k + 1) (by omega)]
theorem bin_zero (k : Nat) : bin k 0 = 1 := by cases k <;> rfl
theorem frB_zero (p : List Int) : frB p 0 = true := by unfold frB; rw [allFrom_iff]; intro j _ _; rw [Nat.zero_testBit]; rfl
theorem ndiff_self (s : Nat) : ndiff s s = 0 := by unfold ndiff; rw [Nat.and_self, Nat.xor_self]
theorem sub_antisymm {s t : Nat} (h1 : subB s t = true) (h2 : ndiff t s = 0) : s = t := by
  apply Nat.eq_of_testBit_eq
  intro i
  rw [Bool.eq_iff_iff]
  exact ⟨fun h => subB_iff.1 h1 i h, fun h => ndiff_zero.1 h2 i h⟩
theorem st_split (p : List Int) (s t : Nat) : stB p true s t = (decide (s = t) || opB p s t) := by
  by_cases e : s = t
  · subst e
    unfold stB
    rw [ndiff_self, frB_zero, show subB s s = true by unfold subB; rw [ndiff_self]; rfl]
    simp
  · rw [decide_eq_false e, Bool.false_or]
    unfold stB opB
    cases h : subB s t with
    | false => rfl
    | true =>
      have : (ndiff t s == 0) = false := by rw [beq_eq_false_iff_ne]; exact fun h2 => e (sub_antisymm h h2)
      rw [this]; rfl
theorem op_irrefl (p : List Int) (s : Nat) : opB p s s = false := by unfold opB; rw [ndiff_self]; simp
theorem sum_split (p : List Int) (f : Nat → Nat) (t : Nat) : ∀ l : List Nat, l.Nodup → t ∈ l → sumL ((l.filter fun s => stB p true s t).map f) = f t + sumL ((l.filter fun s => opB p s t).map f)
  | [], _, h => by cases h
  | s :: l, hn, h => by
    obtain ⟨h1, h2⟩ := List.nodup_cons.1 hn
    rw [List.filter_cons, List.filter_cons, st_split]
    by_cases e : s = t
    · subst e
      rw [decide_eq_true rfl, Bool.true_or, if_pos rfl, op_irrefl, if_neg (by simp), List.map_cons]
      have e2 : l.filter (fun x => stB p true x s) = l.filter fun x => opB p x s := List.filter_congr fun x hx => by
        rw [st_split, decide_eq_false (fun e => h1 (by rw [← e]; exact hx)), Bool.false_or]
      rw [e2]; rfl
    · have ht : t ∈ l := by
        rcases List.mem_cons.1 h with h | h
        · exact absurd h.symm e
        · exact h
      rw [decide_eq_false e, Bool.false_or]
      have ih := sum_split p f t l h2 ht
      cases opB p s t with
      | false => rw [if_neg (by simp), if_neg (by simp)]; exact ih
      | true => rw [if_pos rfl, if_pos rfl, List.map_cons, List.map_cons]; simp only [sumL]; rw [ih]; omega
/-- f 0 + .. + f (n - 1). -/
def upto (f : Nat → Nat) : Nat → Nat
  | 0 => 0
  | n + 1 => upto f n + f n
theorem upto_congr {f g : Nat → Nat} : ∀ n, (∀ i, i < n → f i = g i) → upto f n = upto g n
  | 0, _ => rfl
  | n + 1, h => by unfold upto; rw [upto_congr n (fun i hi => h i (by omega)), h n (by omega)]
theorem upto_add (f g : Nat → Nat) : ∀ n, upto (fun i => f i + g i) n = upto f n + upto g n
  | 0 => rfl
  | n + 1 => by unfold upto; rw [upto_add f g n]; omega
theorem upto_shift (f : Nat → Nat) : ∀ n, upto f (n + 1) = f 0 + upto (fun i => f (i + 1)) n
  | 0 => by simp [upto]
  | n + 1 => by
    have e : upto f (n + 1 + 1) = upto f (n + 1) + f (n + 1) := rfl
    rw [e, upto_shift f n]
    show _ = f 0 + (upto (fun i => f (i + 1)) n + f (n + 1))
    omega
theorem upto_sum {α : Type} (g : Nat → α → Nat) : ∀ (l : List α) (n : Nat), sumL (l.map fun s => upto (fun j => g j s) n) = upto (fun j => sumL (l.map (g j))) n
  | [], n => by
    induction n with
    | zero => rfl
    | succ n ih => unfold upto; rw [← ih]; rfl
  | s :: l, n => by
    simp only [List.map_cons, sumL]
    rw [upto_sum g l n, ← upto_add]
theorem sumL_mul (c : Nat) {α : Type} (f : α → Nat) : ∀ l : List α, sumL (l.map fun s => c * f s) = c * sumL (l.map f)
  | [] => rfl
  | x :: l => by simp only [List.map_cons, sumL]; rw [sumL_mul c f l, Nat.mul_add]
theorem upto_zero (f : Nat → Nat) : ∀ (n m : Nat), n ≤ m → (∀ i, n ≤ i → i < m → f i = 0) → upto f m = upto f n
  | n, 0, h, _ => by rw [show n = 0 by omega]
  | n, m + 1, h, h0 => by
    rcases Nat.lt_or_ge m n with h1 | h1
    · rw [show n = m + 1 by omega]
    · show upto f m + f m = upto f n
      rw [upto_zero f n m h1 (fun i a b => h0 i a (by omega)), h0 m h1 (by omega), Nat.add_zero]
/-- STRICT ROWS ARE CHOICES OF STEPS. -/
theorem strict_steps (p : List Int) : ∀ (k N : Nat), k + 1 ≤ N → ∀ t ∈ idealsN p, wvN (stB p true) (idealsN p) k t = upto (fun j => bin k j * wvN (opB p) (idealsN p) j t) N
  | 0, N, h, t, ht => by
    rw [upto_zero _ 1 N h (fun i h1 _ => by rw [bin_big 0 i (by omega), Nat.zero_mul])]
    show _ = 0 + bin 0 0 * wvN (opB p) (idealsN p) 0 t
    rw [bin_zero, Nat.one_mul, Nat.zero_add]
    unfold wvN; rfl
  | k + 1, N, h, t, ht => by
    conv => lhs; unfold wvN
    rw [sum_split p _ t _ (idealsN_nodup p) ht]
    obtain ⟨M, rfl⟩ : ∃ M, N = M + 1 := ⟨N - 1, by omega⟩
    have e1 : sumL (((idealsN p).filter fun s => opB p s t).map (wvN (stB p true) (idealsN p) k)) = upto (fun j => bin k j * wvN (opB p) (idealsN p) (j + 1) t) M := by
      have e2 : ((idealsN p).filter fun s => opB p s t).map (wvN (stB p true) (idealsN p) k) = ((idealsN p).filter fun s => opB p s t).map fun s => upto (fun j => bin k j * wvN (opB p) (idealsN p) j s) M :=
        List.map_congr_left fun s hs => strict_steps p k M (by omega) s (List.mem_filter.1 hs).1
      rw [e2, upto_sum]
      refine upto_congr M fun j _ => ?_
      rw [sumL_mul]
      conv => rhs; unfold wvN
    rw [e1, strict_steps p k (M + 1) (by omega) t ht, upto_shift, upto_shift]
    have e3 : upto (fun i => bin (k + 1) (i + 1) * wvN (opB p) (idealsN p) (i + 1) t) M = upto (fun i => bin k (i + 1) * wvN (opB p) (idealsN p) (i + 1) t) M + upto (fun i => bin k i * wvN (opB p) (idealsN p) (i + 1) t) M := by
      rw [← upto_add]
      refine upto_congr M fun i _ => ?_
      show (bin k i + bin k (i + 1)) * _ = _
      rw [Nat.add_mul]; omega
    rw [e3, bin_zero, bin_zero]
    omega
theorem pcard_lt {p : List Int} {s t : Nat} (ht : t < 2 ^ p.length) (h : opB p s t = true) : pcard p.length s < pcard p.length t := by
  have hs := opB_sub h
  unfold opB at h
  simp only [Bool.and_eq_true, Bool.not_eq_true', beq_eq_false_iff_ne] at h
  obtain ⟨i, hi⟩ : ∃ i, (ndiff t s).testBit i = true := by
    rcases Classical.em (∃ i, (ndiff t s).testBit i = true) with h1 | h1
    · exact h1
    · refine absurd (Nat.eq_of_testBit_eq fun i => ?_) h.2.1
      rw [Nat.zero_testBit]
      cases hb : (ndiff t s).testBit i with
      | false => rfl
      | true => exact absurd ⟨i, hb⟩ h1
  rw [ndiff_bit, Bool.and_eq_true, Bool.not_eq_true'] at hi
  unfold pcard
  exact countP_lt _ _ _ (fun x _ hx => subB_iff.1 hs x hx) i (List.mem_range.2 (lt_of_bit ht hi.1)) hi.1 hi.2
theorem op_short {p : List Int} : ∀ j t, t < 2 ^ p.length → pcard p.length t < j → wvN (opB p) (idealsN p) j t = 0
  | 0, _, _, h => absurd h (Nat.not_lt_zero _)
  | j + 1, t, ht, h => by
    unfold wvN
    have : ∀ l : List Nat, (∀ s ∈ l, wvN (opB p) (idealsN p) j s = 0) → sumL (l.map (wvN (opB p) (idealsN p) j)) = 0 := by
      intro l
      induction l with
      | nil => intro _; rfl
      | cons x l ih => intro hl; simp only [List.map_cons, sumL]; rw [hl x List.mem_cons_self, ih (fun s hs => hl s (List.mem_cons_of_mem _ hs))]
    refine this _ fun s hs => ?_
    obtain ⟨h1, h2⟩ := List.mem_filter.1 hs
    exact op_short j s (mem_idealsN.1 h1).1 (by have := pcard_lt ht h2; omega)
/-- At the set of all: by the steps alone. -/
theorem strict_all {p : List Int} (hp : PO p) (k : Nat) : wvN (stB p true) (idealsN p) k (allN p) = upto (fun j => bin k (j + 1) * wvN (opB p) (idealsN p) (j + 1) (allN p)) p.length := by
  have hall : allN p ∈ idealsN p := mem_idealsN.2 ⟨allN_lt p, idealB_all p hp⟩
  rw [strict_steps p k (k + p.length + 2) (by omega) _ hall]
  rw [show k + p.length + 2 = (k + p.length + 1) + 1 by omega, upto_shift]
  have h0 : wvN (opB p) (idealsN p) 0 (allN p) = 0 := by
    unfold wvN
    rw [if_neg]
    unfold allN
    have : 2 ^ 1 ≤ 2 ^ p.length := Nat.pow_le_pow_right (by decide) hp.pos
    omega
  rw [h0, Nat.mul_zero, Nat.zero_add]
  exact upto_zero _ p.length _ (by omega) (fun i h1 _ => by rw [op_short (i + 1) _ (allN_lt p) (by rw [pcard_all]; omega), Nat.mul_zero])
end Go.Proofs.Ytemkddgfneohhaa.Q
end

section
namespace Go.Proofs.Ytemkddgfneohhaa.Q
open Go.RowKit Go.Proofs.YtemkddgfneohhaaW.PrintWords
set_option linter.unusedVariables false
def outN (p : List Int) (t : Nat) : Nat := p.length - pcard p.length t
theorem outN_le (p : List Int) (t : Nat) : outN p t ≤ p.length := Nat.sub_le _ _
/-- How many rows of so many steps end in a set and leave out just so many elements together. -/
def wsN (p : List Int) : Nat → Nat → Nat → Nat
  | 0, s, j => if s = 0 ∧ j = 0 then 1 else 0
  | q + 1, t, j => if outN p t ≤ j then sumL (((idealsN p).filter fun s => subB s t).map fun s => wsN p q s (j - outN p t)) else 0
theorem wsN_le (p : List Int) : ∀ q s j, wsN p q s j ≤ wvN (stB p false) (idealsN p) q s
  | 0, s, j => by
    unfold wsN wvN
    by_cases h : s = 0
    · rw [if_pos h]; split <;> omega
    · rw [if_neg (fun h2 => h h2.1), if_neg h]; exact Nat.le_refl _
  | q + 1, t, j => by
    unfold wsN wvN
    split
    · have e : (idealsN p).filter (fun s => stB p false s t) = (idealsN p).filter fun s => subB s t := List.filter_congr fun s _ => by unfold stB; simp
      rw [e]
      exact sumL_map_le _ _ _ fun s _ => wsN_le p q s _
    · exact Nat.zero_le _
theorem sumL_none {α : Type} (f : α → Nat) : ∀ l : List α, (∀ x ∈ l, f x = 0) → sumL (l.map f) = 0
  | [], _ => rfl
  | x :: l, h => by simp only [List.map_cons, sumL]; rw [h x List.mem_cons_self, sumL_none f l (fun y hy => h y (List.mem_cons_of_mem _ hy))]
theorem wsN_zero (p : List Int) : ∀ q s j, p.length * q < j → wsN p q s j = 0
  | 0, s, j, h => by
    unfold wsN
    rw [if_neg (fun h2 => by omega)]
  | q + 1, t, j, h => by
    unfold wsN
    split
    · refine sumL_none _ _ fun s _ => wsN_zero p q s _ ?_
      have := outN_le p t
      rw [Nat.mul_succ] at h
      omega
    · rfl
/-- All rows of so many steps with just so many left out. -/
def wT (p : List Int) (m j : Nat) : Nat := sumL ((idealsN p).map fun s => wsN p m s j)
theorem wT_le (p : List Int) (m j : Nat) : wT p m j ≤ sumL ((idealsN p).map fun s => wvN (stB p false) (idealsN p) m s) := sumL_map_le _ _ _ fun s _ => wsN_le p m s j
theorem wT_total (p : List Int) (m : Nat) : sumL ((idealsN p).map fun s => wvN (stB p false) (idealsN p) m s) = wvN (stB p false) (idealsN p) (m + 1) (allN p) := by
  conv => rhs; unfold wvN
  have e : (idealsN p).filter (fun s => stB p false s (allN p)) = idealsN p := List.filter_eq_self.2 fun s hs => by unfold stB; rw [sub_all (mem_idealsN.1 hs).1]; rfl
  rw [e]
theorem wT_small {p : List Int} (hp : p.length ≤ 10) {m : Nat} (hm : m ≤ 13) (j : Nat) : wT p m j ≤ 576650390625 :=
  Nat.le_trans (wT_le p m j) (by rw [wT_total]; exact wvN_small hp (fun s t h => stB_sub h) (by omega))
end Go.Proofs.Ytemkddgfneohhaa.Q
end

section
namespace Go.Proofs.Ytemkddgfneohhaa.Q
open Go.RowKit Go.Proofs.YtemkddgfneohhaaW.PrintWords
set_option linter.unusedVariables false
/-- Numbers upon the elements, at most m, that grow with them. -/
structure LabN (p : List Int) (m : Nat) (f : List Nat) : Prop where
  len : f.length = p.length
  le : ∀ i, i < p.length → f.getD i 0 ≤ m
  up : ∀ i, i < p.length → ∀ j, (L p i).testBit j = true → f.getD j 0 ≤ f.getD i 0
theorem ext_nat {a b : List Nat} (hl : a.length = b.length) (h : ∀ i, i < a.length → a.getD i 0 = b.getD i 0) : a = b := by
  apply List.ext_getElem hl
  intro i h1 h2
  have := h i h1
  rw [List.getD_eq_getElem?_getD, List.getD_eq_getElem?_getD, List.getElem?_eq_getElem h1, List.getElem?_eq_getElem h2] at this
  exact this
theorem getD_tab (n : Nat) (g : Nat → Nat) {i : Nat} (h : i < n) : ((List.range n).map g).getD i 0 = g i := by
  rw [List.getD_eq_getElem?_getD, List.getElem?_map, List.getElem?_range h]; rfl
theorem getD_snoc (f : List Nat) (x i : Nat) : (f ++ [x]).getD i 0 = if i = f.length then x else f.getD i 0 := by
  rw [List.getD_eq_getElem?_getD, List.getD_eq_getElem?_getD]
  rcases Nat.lt_trichotomy i f.length with h | h | h
  · rw [List.getElem?_append_left h, if_neg (by omega)]
  · subst h; rw [List.getElem?_append_right (Nat.le_refl _), Nat.sub_self, if_pos rfl]; rfl
  · rw [List.getElem?_append_right (by omega), if_neg (by omega), List.getElem?_eq_none (by simp; omega), List.getElem?_eq_none (by omega)]
theorem getD_take (f : List Nat) {k i : Nat} (h : i < k) : (f.take k).getD i 0 = f.getD i 0 := by
  rw [List.getD_eq_getElem?_getD, List.getD_eq_getElem?_getD, List.getElem?_take, if_pos h]
/-- The most of what lies below the next element. -/
def leastN (p : List Int) (f : List Nat) (k : Nat) : Nat := (List.range k).foldl (fun a j => if (L p f.length).testBit j then max a (f.getD j 0) else a) 0
theorem leastN_le (p : List Int) (f : List Nat) (x : Nat) : ∀ k, leastN p f k ≤ x ↔ ∀ j, j < k → (L p f.length).testBit j = true → f.getD j 0 ≤ x
  | 0 => by simp [leastN]
  | k + 1 => by
    have ih := leastN_le p f x k
    have e : leastN p f (k + 1) = if (L p f.length).testBit k then max (leastN p f k) (f.getD k 0) else leastN p f k := by
      unfold leastN; rw [List.range_succ, List.foldl_append]; rfl
    rw [e]
    constructor
    · intro h j hj hb
      rcases Nat.lt_or_ge j k with h1 | h1
      · refine ih.1 ?_ j h1 hb
        split at h <;> omega
      · have hjk : j = k := by omega
        subst hjk
        rw [if_pos hb] at h; omega
    · intro h
      have h1 := ih.2 (fun j hj hb => h j (by omega) hb)
      split
      · rename_i hb
        have := h k (by omega) hb
        omega
      · exact h1
def laN (p : List Int) (m : Nat) : Nat → List Nat → List (List Nat)
  | 0, f => [f]
  | d + 1, f => (List.range' (leastN p f f.length) (m + 1 - leastN p f f.length)).flatMap fun x => laN p m d (f ++ [x])
theorem mem_range'' {a n x : Nat} : x ∈ List.range' a n ↔ a ≤ x ∧ x < a + n := by
  rw [List.mem_range'_1]
theorem mem_laN {p : List Int} (hp : PO p) (m : Nat) : ∀ d f, f.length + d = p.length → ∀ g, g ∈ laN p m d f ↔ g.length = p.length ∧ g.take f.length = f ∧ ∀ i, f.length ≤ i → i < p.length → g.getD i 0 ≤ m ∧ ∀ j, (L p i).testBit j = true → g.getD j 0 ≤ g.getD i 0 := by
  intro d
  induction d with
  | zero =>
    intro f hf g
    unfold laN
    rw [List.mem_singleton]
    constructor
    · rintro rfl
      exact ⟨by omega, List.take_length, fun i h1 h2 => by omega⟩
    · rintro ⟨h1, h2, _⟩
      rw [List.take_of_length_le (by omega)] at h2
      exact h2
  | succ d ih =>
    intro f hf g
    unfold laN
    rw [List.mem_flatMap]
    constructor
    · rintro ⟨x, hx, hg⟩
      rw [mem_range''] at hx
      obtain ⟨h1, h2, h3⟩ := (ih (f ++ [x]) (by rw [List.length_append, List.length_singleton]; omega) g).1 hg
      rw [List.length_append, List.length_singleton] at h2 h3
      have hget : ∀ j, j < f.length + 1 → g.getD j 0 = (f ++ [x]).getD j 0 := fun j hj => by rw [← h2, getD_take _ hj]
      refine ⟨h1, ?_, fun i hi1 hi2 => ?_⟩
      · have : (g.take (f.length + 1)).take f.length = f := by rw [h2, List.take_left' rfl]
        rwa [List.take_take, Nat.min_eq_left (by omega)] at this
      · rcases Nat.lt_or_ge f.length i with h4 | h4
        · exact h3 i (by omega) hi2
        · have hi : i = f.length := by omega
          subst hi
          have hgi : g.getD f.length 0 = x := by rw [hget _ (by omega), getD_snoc, if_pos rfl]
          rw [hgi]
          refine ⟨by omega, fun j hb => ?_⟩
          have hj := lt_of_bit (hp.lt f.length hi2) hb
          rw [hget j (by omega), getD_snoc, if_neg (by omega)]
          exact (leastN_le p f x f.length).1 hx.1 j hj hb
    · rintro ⟨h1, h2, h3⟩
      have hget : ∀ j, j < f.length → g.getD j 0 = f.getD j 0 := fun j hj => by rw [← getD_take g hj, h2]
      obtain ⟨h4, h5⟩ := h3 f.length (Nat.le_refl _) (by omega)
      have h6 : leastN p f f.length ≤ g.getD f.length 0 := (leastN_le p f _ f.length).2 fun j hj hb => by rw [← hget j hj]; exact h5 j hb
      refine ⟨g.getD f.length 0, mem_range''.2 ⟨h6, by omega⟩, ?_⟩
      refine (ih (f ++ [g.getD f.length 0]) (by rw [List.length_append, List.length_singleton]; omega) g).2 ⟨h1, ?_, fun i hi1 hi2 => ?_⟩
      · rw [List.length_append, List.length_singleton, List.take_add_one, h2, List.getD_eq_getElem?_getD, List.getElem?_eq_getElem (by omega)]
        rfl
      · rw [List.length_append, List.length_singleton] at hi1
        exact h3 i (by omega) hi2
theorem nodup_laN {p : List Int} (hp : PO p) (m : Nat) : ∀ d f, f.length + d = p.length → (laN p m d f).Nodup := by
  intro d
  induction d with
  | zero => intro f _; unfold laN; exact List.nodup_cons.2 ⟨by simp, List.nodup_nil⟩
  | succ d ih =>
    intro f hf
    unfold laN
    refine List.pairwise_flatMap.2 ⟨fun x _ => ih _ (by rw [List.length_append, List.length_singleton]; omega), ?_⟩
    refine List.Pairwise.imp ?_ (List.nodup_range' (s := leastN p f f.length) (n := m + 1 - leastN p f f.length))
    intro a b hab x hx y hy hxy
    subst hxy
    have e1 := ((mem_laN hp m d (f ++ [a]) (by rw [List.length_append, List.length_singleton]; omega) x).1 hx).2.1
    have e2 := ((mem_laN hp m d (f ++ [b]) (by rw [List.length_append, List.length_singleton]; omega) x).1 hy).2.1
    rw [List.length_append, List.length_singleton] at e1 e2
    rw [e1] at e2
    have := List.append_cancel_left e2
    exact hab (List.cons.inj this).1
def addOut (p : List Int) (t : Nat) (g : List Nat) : List Nat := (List.range p.length).map fun i => g.getD i 0 + if t.testBit i then 0 else 1
theorem addOut_len (p : List Int) (t : Nat) (g : List Nat) : (addOut p t g).length = p.length := by simp [addOut]
theorem addOut_get (p : List Int) (t : Nat) (g : List Nat) {i : Nat} (h : i < p.length) : (addOut p t g).getD i 0 = g.getD i 0 + if t.testBit i then 0 else 1 := getD_tab _ _ h
theorem addOut_inj {p : List Int} {t : Nat} {g g' : List Nat} (h1 : g.length = p.length) (h2 : g'.length = p.length) (h : addOut p t g = addOut p t g') : g = g' := by
  refine ext_nat (by omega) (fun i hi => ?_)
  have e1 := addOut_get p t g (i := i) (by omega)
  have e2 := addOut_get p t g' (i := i) (by omega)
  rw [h, e2] at e1
  omega
def labL (p : List Int) : Nat → Nat → List (List Nat)
  | 0, t => if t = 0 then [List.replicate p.length 0] else []
  | q + 1, t => ((idealsN p).filter fun s => subB s t).flatMap fun s => (labL p q s).map (addOut p t)
theorem rep_get (n i : Nat) : (List.replicate n 0).getD i 0 = 0 := by
  rw [List.getD_eq_getElem?_getD, List.getElem?_replicate]; split <;> rfl
theorem mem_labL {p : List Int} (hp : PO p) : ∀ q t, t ∈ idealsN p → ∀ f, f ∈ labL p q t ↔ LabN p q f ∧ ∀ i, i < p.length → t.testBit i = decide (f.getD i 0 < q) := by
  intro q
  induction q with
  | zero =>
    intro t ht f
    have htl := (mem_idealsN.1 ht).1
    unfold labL
    constructor
    · intro h
      by_cases h0 : t = 0
      · rw [if_pos h0, List.mem_singleton] at h
        subst h
        refine ⟨⟨by simp, fun i _ => by rw [rep_get]; exact Nat.le_refl _, fun i _ j _ => by rw [rep_get, rep_get]; exact Nat.le_refl _⟩, fun i _ => ?_⟩
        rw [h0, rep_get, Nat.zero_testBit]; rfl
      · rw [if_neg h0] at h; cases h
    · rintro ⟨hf, hb⟩
      have h0 : t = 0 := ext_bits htl (Nat.two_pow_pos _) fun i hi => by rw [hb i hi, Nat.zero_testBit]; simp
      rw [if_pos h0, List.mem_singleton]
      refine ext_nat (by rw [hf.len]; simp) fun i hi => ?_
      have := hf.le i (by have := hf.len; omega)
      rw [rep_get]; omega
  | succ q ih =>
    intro t ht f
    obtain ⟨htl, hti⟩ := mem_idealsN.1 ht
    unfold labL
    rw [List.mem_flatMap]
    constructor
    · rintro ⟨s, hs, hf⟩
      obtain ⟨hs1, hs2⟩ := List.mem_filter.1 hs
      obtain ⟨g, hg, rfl⟩ := List.mem_map.1 hf
      obtain ⟨hg1, hg2⟩ := (ih s hs1 g).1 hg
      have hst := subB_iff.1 hs2
      have hv : ∀ i, i < p.length → t.testBit i = false → g.getD i 0 = q := fun i hi hb => by
        have h1 := hg1.le i hi
        have h2 := hg2 i hi
        cases h3 : s.testBit i with
        | true => rw [hst i h3] at hb; cases hb
        | false => rw [h3] at h2; have := of_decide_eq_false h2.symm; omega
      refine ⟨⟨addOut_len _ _ _, fun i hi => ?_, fun i hi j hb => ?_⟩, fun i hi => ?_⟩
      · rw [addOut_get _ _ _ hi]
        have := hg1.le i hi
        split <;> omega
      · have hj : j < p.length := Nat.lt_trans (lt_of_bit (hp.lt i hi) hb) hi
        rw [addOut_get _ _ _ hi, addOut_get _ _ _ hj]
        have h1 := hg1.up i hi j hb
        cases h2 : t.testBit i with
        | true =>
          rw [idealB_iff.1 hti i hi h2 j hb]
          exact Nat.add_le_add_right h1 _
        | false =>
          have h3 := hv i hi h2
          have h4 := hg1.le j hj
          show g.getD j 0 + (if t.testBit j = true then 0 else 1) ≤ g.getD i 0 + 1
          split <;> omega
      · rw [addOut_get _ _ _ hi]
        cases h2 : t.testBit i with
        | true => have := hg1.le i hi; rw [if_pos rfl]; exact (decide_eq_true (by omega)).symm
        | false => have := hv i hi h2; rw [if_neg (by simp)]; exact (decide_eq_false (by omega)).symm
    · rintro ⟨hf, hb⟩
      obtain ⟨s, hs⟩ : ∃ s, s = maskOf p.length (fun i => decide (f.getD i 0 < q)) := ⟨_, rfl⟩
      have hsl : s < 2 ^ p.length := by rw [hs]; exact maskOf_lt _ _
      have hsb : ∀ i, s.testBit i = (decide (i < p.length) && decide (f.getD i 0 < q)) := fun i => by rw [hs, maskOf_bit]
      have hsi : idealB p s = true := idealB_iff.2 fun i hi h j hj => by
        rw [hsb, Bool.and_eq_true, decide_eq_true_eq, decide_eq_true_eq] at h ⊢
        have := hf.up i hi j hj
        exact ⟨Nat.lt_trans (lt_of_bit (hp.lt i hi) hj) hi, by omega⟩
      have hst : subB s t = true := subB_iff.2 fun i h => by
        rw [hsb, Bool.and_eq_true, decide_eq_true_eq, decide_eq_true_eq] at h
        rw [hb i h.1]; exact decide_eq_true (by omega)
      have hs1 : s ∈ idealsN p := mem_idealsN.2 ⟨hsl, hsi⟩
      obtain ⟨g, hg⟩ : ∃ g, g = (List.range p.length).map (fun i => min (f.getD i 0) q) := ⟨_, rfl⟩
      have hgg : ∀ i, i < p.length → g.getD i 0 = min (f.getD i 0) q := fun i hi => by rw [hg, getD_tab _ _ hi]
      refine ⟨s, List.mem_filter.2 ⟨hs1, hst⟩, List.mem_map.2 ⟨g, (ih s hs1 g).2 ⟨⟨by rw [hg]; simp, fun i hi => by rw [hgg i hi]; omega, fun i hi j hj => ?_⟩, fun i hi => ?_⟩, ?_⟩⟩
      · rw [hgg i hi, hgg j (Nat.lt_trans (lt_of_bit (hp.lt i hi) hj) hi)]
        have := hf.up i hi j hj
        omega
      · rw [hsb, hgg i hi, decide_eq_true hi, Bool.true_and]
        by_cases h : f.getD i 0 < q
        · rw [decide_eq_true h, decide_eq_true (by omega)]
        · rw [decide_eq_false h, decide_eq_false (by omega)]
      · refine ext_nat (by rw [addOut_len, hf.len]) fun i hi => ?_
        rw [addOut_len] at hi
        rw [addOut_get _ _ _ hi, hgg i hi, hb i hi]
        have := hf.le i hi
        by_cases h : f.getD i 0 < q + 1
        · rw [decide_eq_true h, if_pos rfl]; omega
        · rw [decide_eq_false h, if_neg (by simp)]; omega
theorem nodup_of_ids {p : List Int} {P : Nat → Bool} : ((idealsN p).filter P).Nodup := List.Pairwise.filter _ (idealsN_nodup p)
theorem nodup_map_inj {α β : Type} {f : α → β} {l : List α} (hl : l.Nodup) (h : ∀ a ∈ l, ∀ b ∈ l, f a = f b → a = b) : (l.map f).Nodup := by
  refine List.pairwise_map.2 (List.Pairwise.imp_of_mem ?_ hl)
  intro a b ha hb hab e
  exact hab (h a ha b hb e)
theorem bits_eq_of {p : List Int} {s s' : Nat} (h1 : s < 2 ^ p.length) (h2 : s' < 2 ^ p.length) {q : Nat} {g : List Nat} (e1 : ∀ i, i < p.length → s.testBit i = decide (g.getD i 0 < q)) (e2 : ∀ i, i < p.length → s'.testBit i = decide (g.getD i 0 < q)) : s = s' :=
  ext_bits h1 h2 fun i hi => by rw [e1 i hi, e2 i hi]
theorem nodup_labL {p : List Int} (hp : PO p) : ∀ q t, t ∈ idealsN p → (labL p q t).Nodup := by
  intro q
  induction q with
  | zero => intro t _; unfold labL; split; exact List.nodup_cons.2 ⟨by simp, List.nodup_nil⟩; exact List.nodup_nil
  | succ q ih =>
    intro t ht
    unfold labL
    refine List.pairwise_flatMap.2 ⟨fun s hs => ?_, ?_⟩
    · have hs1 := (List.mem_filter.1 hs).1
      exact nodup_map_inj (ih s hs1) fun a ha b hb e => addOut_inj ((mem_labL hp q s hs1 a).1 ha).1.len ((mem_labL hp q s hs1 b).1 hb).1.len e
    · refine List.Pairwise.imp_of_mem ?_ (nodup_of_ids (p := p) (P := fun s => subB s t))
      intro s s' hs hs' hne x hx y hy hxy
      subst hxy
      have hs1 := (List.mem_filter.1 hs).1
      have hs2 := (List.mem_filter.1 hs').1
      obtain ⟨g, hg, e1⟩ := List.mem_map.1 hx
      obtain ⟨g', hg', e2⟩ := List.mem_map.1 hy
      have k1 := (mem_labL hp q s hs1 g).1 hg
      have k2 := (mem_labL hp q s' hs2 g').1 hg'
      have := addOut_inj k1.1.len k2.1.len (e1.trans e2.symm)
      subst this
      exact hne (bits_eq_of (mem_idealsN.1 hs1).1 (mem_idealsN.1 hs2).1 k1.2 k2.2)
/-- All labels by chains. -/
def chL (p : List Int) (m : Nat) : List (List Nat) := (idealsN p).flatMap (labL p m)
theorem mem_chL {p : List Int} (hp : PO p) (m : Nat) (f : List Nat) : f ∈ chL p m ↔ LabN p m f := by
  unfold chL
  rw [List.mem_flatMap]
  constructor
  · rintro ⟨s, hs, hf⟩; exact ((mem_labL hp m s hs f).1 hf).1
  · intro hf
    obtain ⟨s, hs⟩ : ∃ s, s = maskOf p.length (fun i => decide (f.getD i 0 < m)) := ⟨_, rfl⟩
    have hsb : ∀ i, s.testBit i = (decide (i < p.length) && decide (f.getD i 0 < m)) := fun i => by rw [hs, maskOf_bit]
    have hs1 : s ∈ idealsN p := mem_idealsN.2 ⟨by rw [hs]; exact maskOf_lt _ _, idealB_iff.2 fun i hi h j hj => by
      rw [hsb, Bool.and_eq_true, decide_eq_true_eq, decide_eq_true_eq] at h ⊢
      have := hf.up i hi j hj
      exact ⟨Nat.lt_trans (lt_of_bit (hp.lt i hi) hj) hi, by omega⟩⟩
    exact ⟨s, hs1, (mem_labL hp m s hs1 f).2 ⟨hf, fun i hi => by rw [hsb, decide_eq_true hi, Bool.true_and]⟩⟩
theorem nodup_chL {p : List Int} (hp : PO p) (m : Nat) : (chL p m).Nodup := by
  unfold chL
  refine List.pairwise_flatMap.2 ⟨fun s hs => nodup_labL hp m s hs, ?_⟩
  refine List.Pairwise.imp_of_mem ?_ (idealsN_nodup p)
  intro s s' hs hs' hne x hx y hy hxy
  subst hxy
  exact hne (bits_eq_of (mem_idealsN.1 hs).1 (mem_idealsN.1 hs').1 ((mem_labL hp m s hs x).1 hx).2 ((mem_labL hp m s' hs' x).1 hy).2)
def labsN (p : List Int) (m : Nat) : List (List Nat) := laN p m p.length []
theorem mem_labsN {p : List Int} (hp : PO p) (m : Nat) (f : List Nat) : f ∈ labsN p m ↔ LabN p m f := by
  unfold labsN
  rw [mem_laN hp m p.length [] (by simp) f]
  constructor
  · rintro ⟨h1, _, h3⟩; exact ⟨h1, fun i hi => (h3 i (Nat.zero_le _) hi).1, fun i hi => (h3 i (Nat.zero_le _) hi).2⟩
  · intro h; exact ⟨h.len, rfl, fun i _ hi => ⟨h.le i hi, h.up i hi⟩⟩
theorem labs_perm {p : List Int} (hp : PO p) (m : Nat) : List.Perm (labsN p m) (chL p m) :=
  (List.perm_ext_iff_of_nodup (nodup_laN hp m p.length [] (by simp)) (nodup_chL hp m)).2 fun f => (mem_labsN hp m f).trans (mem_chL hp m f).symm
theorem sumL_sum (l : List Nat) : sumL l = l.sum := by
  induction l with
  | nil => rfl
  | cons x l ih => simp only [sumL, List.sum_cons, ih]
theorem labL_len {p : List Int} : ∀ q t, (labL p q t).length = wvN (stB p false) (idealsN p) q t
  | 0, t => by unfold labL wvN; split <;> rfl
  | q + 1, t => by
    unfold labL wvN
    have e : (idealsN p).filter (fun s => stB p false s t) = (idealsN p).filter fun s => subB s t := List.filter_congr fun s _ => by unfold stB; simp
    rw [e, List.length_flatMap, sumL_sum]
    congr 1
    refine List.map_congr_left fun s _ => ?_
    rw [List.length_map, labL_len q s]
theorem labs_count {p : List Int} (hp : PO p) (m : Nat) : (labsN p m).length = wvN (stB p false) (idealsN p) (m + 1) (allN p) := by
  rw [(labs_perm hp m).length_eq, ← wT_total, sumL_sum]
  unfold chL
  rw [List.length_flatMap]
  congr 1
  exact List.map_congr_left fun s _ => labL_len m s
theorem sum_tab (g : Nat → Nat) (t : Nat) : ∀ k, ((List.range k).map fun i => g i + if t.testBit i then 0 else 1).sum + pcard k t = ((List.range k).map g).sum + k
  | 0 => by rw [show pcard 0 t = 0 from rfl]; rfl
  | k + 1 => by
    have := sum_tab g t k
    rw [List.range_succ, List.map_append, List.map_append, List.sum_append, List.sum_append, pcard_succ]
    simp only [List.map_cons, List.map_nil, List.sum_cons, List.sum_nil]
    split <;> omega
theorem tab_self {n : Nat} {g : List Nat} (h : g.length = n) : (List.range n).map (fun i => g.getD i 0) = g :=
  ext_nat (by simp [h]) fun i hi => getD_tab n _ (by simpa using hi)
theorem addOut_sum {p : List Int} {t : Nat} {g : List Nat} (h : g.length = p.length) : (addOut p t g).sum = g.sum + outN p t := by
  have h1 := sum_tab (fun i => g.getD i 0) t p.length
  rw [tab_self h] at h1
  have h2 := pcard_le p.length t
  unfold addOut outN
  omega
theorem labL_sum {p : List Int} (hp : PO p) : ∀ q t j, t ∈ idealsN p → (labL p q t).countP (fun f => decide (f.sum = j)) = wsN p q t j
  | 0, t, j, _ => by
    unfold labL wsN
    by_cases h : t = 0
    · rw [if_pos h]
      by_cases hj : j = 0
      · rw [if_pos ⟨h, hj⟩, hj]; simp
      · rw [if_neg (fun g => hj g.2)]; simp; omega
    · rw [if_neg h, if_neg (fun g => h g.1)]; rfl
  | q + 1, t, j, ht => by
    unfold labL wsN
    rw [List.countP_flatMap]
    have e : ∀ s ∈ (idealsN p).filter (fun s => subB s t), (List.countP (fun f => decide (f.sum = j)) ∘ fun s => (labL p q s).map (addOut p t)) s = if outN p t ≤ j then wsN p q s (j - outN p t) else 0 := fun s hs => by
      have hs1 := (List.mem_filter.1 hs).1
      show List.countP (fun f => decide (f.sum = j)) ((labL p q s).map (addOut p t)) = _
      rw [List.countP_map]
      have hlen : ∀ g ∈ labL p q s, g.length = p.length := fun g hg => ((mem_labL hp q s hs1 g).1 hg).1.len
      by_cases h : outN p t ≤ j
      · rw [if_pos h, ← labL_sum hp q s (j - outN p t) hs1]
        refine List.countP_congr fun g hg => ?_
        show decide ((addOut p t g).sum = j) = true ↔ _
        rw [addOut_sum (hlen g hg), decide_eq_true_eq, decide_eq_true_eq]
        omega
      · rw [if_neg h, List.countP_eq_zero]
        intro g hg
        show ¬ decide ((addOut p t g).sum = j) = true
        rw [addOut_sum (hlen g hg), decide_eq_true_eq]
        omega
    rw [List.map_congr_left e]
    by_cases h : outN p t ≤ j
    · rw [if_pos h, sumL_sum]
      congr 1
      exact List.map_congr_left fun s _ => if_pos h
    · rw [if_neg h, ← sumL_sum]
      exact sumL_none _ _ fun s _ => if_neg h
theorem labs_sum {p : List Int} (hp : PO p) (m j : Nat) : (labsN p m).countP (fun f => decide (f.sum = j)) = wT p m j := by
  rw [List.Perm.countP_eq _ (labs_perm hp m)]
  unfold chL wT
  rw [List.countP_flatMap, sumL_sum]
  congr 1
  exact List.map_congr_left fun s hs => labL_sum hp m s j hs
end Go.Proofs.Ytemkddgfneohhaa.Q
end

section
namespace Go.Proofs.Ytemkddgfneohhaa.Q
open Go.RowKit Go.Proofs.YtemkddgfneohhaaW.PrintWords Go.Proofs.Ytemkddgfneohhaa.F
set_option linter.unusedVariables false
theorem l1MostN (a b : Nat) : spec_l1Most.f (a : Int) (b : Int) = some ((max a b : Nat) : Int) := by
  unfold spec_l1Most.f
  split
  · congr 1; omega
  · congr 1; omega
theorem l1OwnN {l : List Int} (h : l.length ≤ 1000) : spec_l1Own.f l = some l := by
  unfold spec_l1Own.f
  rw [Option.bind_some, if_pos (by simp; omega), List.nil_append]
theorem laN_ne {p : List Int} (hp : PO p) (m : Nat) : ∀ d f, f.length + d = p.length → (∀ i, i < f.length → f.getD i 0 ≤ m) → 0 < (laN p m d f).length
  | 0, f, _, _ => by unfold laN; exact Nat.one_pos
  | d + 1, f, hf, hm => by
    have h1 : leastN p f f.length ≤ m := (leastN_le p f m f.length).2 fun j hj _ => hm j hj
    have h2 := laN_ne hp m d (f ++ [leastN p f f.length]) (by rw [List.length_append, List.length_singleton]; omega) (fun i hi => by
      rw [getD_snoc]
      rw [List.length_append, List.length_singleton] at hi
      split
      · exact h1
      · exact hm i (by omega))
    obtain ⟨g, hg⟩ := List.exists_mem_of_length_pos h2
    have : g ∈ laN p m (d + 1) f := by
      unfold laN
      exact List.mem_flatMap.2 ⟨leastN p f f.length, mem_range''.2 ⟨Nat.le_refl _, by omega⟩, hg⟩
    exact List.length_pos_of_mem this
theorem leastN_step (p : List Int) (f : List Nat) (k : Nat) : leastN p f (k + 1) = if (L p f.length).testBit k then max (leastN p f k) (f.getD k 0) else leastN p f k := by
  unfold leastN; rw [List.range_succ, List.foldl_append]; rfl
theorem range'_succ'' (x e : Nat) : List.range' x (e + 1) = x :: List.range' (x + 1) e := rfl
theorem laAll_ev {p : List Int} (hp : PO p) {m : Nat} (hm : m ≤ 12) : ∀ d f, f.length + d = p.length → (∀ i, i < f.length → f.getD i 0 ≤ m) → ∀ most : Nat, most ≤ 100000 → (laN p m d f).length ≤ most → Ev (fun k => spec_laAll.f k p (ints f) (m : Int) (most : Int)) ((laN p m d f).map ints) := by
  have hn := hp.small
  intro d
  induction d with
  | zero =>
    intro f hf _ most _ _
    refine Ev.step (by intro k; simp only [spec_laAll.f]; rfl) ?_
    rw [ints_len]
    refine Ev.yes (by omega) (Ev.call (l1OwnN (by rw [ints_len]; omega)) (Ev.ret ?_))
    unfold laN; rfl
  | succ d ih =>
    intro f hf hfm most hmost hlen
    refine Ev.step (by intro k; simp only [spec_laAll.f]; rfl) ?_
    rw [ints_len]
    refine Ev.no (by omega) ?_
    have hi : f.length < p.length := by omega
    have hL : L p f.length < 2 ^ 62 := lt_pow (hp.lt _ hi) (by omega)
    -- the numbers to be tried
    have inner : ∀ (e x : Nat) (out : List (List Nat)), x + e = m + 1 → out.length + ((List.range' x e).flatMap fun x => laN p m d (f ++ [x])).length ≤ most →
        Ev (fun k => spec_laAll.l1 k (ints f) (m : Int) (most : Int) (out.map ints) (x : Int) p) (((out ++ (List.range' x e).flatMap fun x => laN p m d (f ++ [x]))).map ints) := by
      intro e
      induction e with
      | zero =>
        intro x out hx _
        refine Ev.step (by intro k; simp only [spec_laAll.l1]; rfl) (Ev.no (by omega) ?_)
        refine Ev.step (by intro k; simp only [spec_laAll.j2]; rfl) (Ev.no (by simp) (Ev.ret ?_))
        rw [show List.range' x 0 = [] from rfl, List.flatMap_nil, List.append_nil]
      | succ e ihe =>
        intro x out hx hl
        rw [range'_succ'', List.flatMap_cons, List.length_append] at hl
        have hxm : ∀ i, i < (f ++ [x]).length → (f ++ [x]).getD i 0 ≤ m := fun i hi2 => by
          rw [List.length_append, List.length_singleton] at hi2
          rw [getD_snoc]
          split
          · omega
          · exact hfm i (by omega)
        have hlx : (f ++ [x]).length + d = p.length := by rw [List.length_append, List.length_singleton]; omega
        have hne := laN_ne hp m d (f ++ [x]) hlx hxm
        refine Ev.step (by intro k; simp only [spec_laAll.l1]; rfl) (Ev.yes (by omega) ?_)
        rw [List.length_map, decide_eq_true (show (out.length : Int) < (most : Int) by omega)]
        refine Ev.step (by intro k; simp only [spec_laAll.j2]; rfl) (Ev.yes (show true = true from rfl) ?_)
        refine Ev.call (l1OwnN (by rw [ints_len]; omega)) (Ev.call rfl (Ev.yes (by rw [ints_len]; simp; omega) ?_))
        rw [List.length_map, show wrap64 ((most : Int) - (out.length : Int)) = ((most - out.length : Nat) : Int) by rw [wid (by omega) (by omega)]; omega]
        have hcall := ih (f ++ [x]) hlx hxm (most - out.length) (by omega) (by omega)
        rw [show ints f ++ [(x : Int)] = ints (f ++ [x]) by rw [ints_app]; rfl]
        refine Ev.bind hcall (Ev.yes (by rw [List.length_map]; omega) ?_)
        have hnext := ihe (x + 1) (out ++ laN p m d (f ++ [x])) (by omega) (by rw [List.length_append]; omega)
        rw [show wrap64 ((x : Int) + 1) = ((x + 1 : Nat) : Int) by rw [wid (by omega) (by omega)]; omega, ← List.map_append]
        rw [range'_succ'', List.flatMap_cons, ← List.append_assoc]
        exact hnext
    have h1 : leastN p f f.length ≤ m := (leastN_le p f m f.length).2 fun j hj _ => hfm j hj
    have hstart := inner (m + 1 - leastN p f f.length) (leastN p f f.length) [] (by omega) (by
      have e : laN p m (d + 1) f = (List.range' (leastN p f f.length) (m + 1 - leastN p f f.length)).flatMap fun x => laN p m d (f ++ [x]) := rfl
      rw [e] at hlen
      simpa using hlen)
    -- the least number
    have least : ∀ j, j ≤ f.length → Ev (fun k => spec_laAll.l0 k (ints f) (m : Int) (most : Int) (f.length : Int) ((leastN p f j : Nat) : Int) (j : Int) p) ((laN p m (d + 1) f).map ints) := by
      refine downTo _ ?_ ?_
      · refine Ev.step (by intro k; simp only [spec_laAll.l0]; rfl) (Ev.no (by omega) ?_)
        exact hstart
      · intro j hj ihj
        rw [leastN_step] at ihj
        refine Ev.step (by intro k; simp only [spec_laAll.l0]; rfl) (Ev.yes (by omega) (Ev.yes (by omega) (Ev.yes (by omega) ?_)))
        rw [rdN, hp.val _ hi, wid1 hj (by omega)]
        refine Ev.call (poIn_eq (by omega)) (Ev.ite (fun hb => Ev.yes (by omega) (Ev.yes (by rw [ints_len]; omega) ?_)) (fun hb => ?_))
        · rw [rd_ints]
          refine Ev.call (l1MostN _ _) ?_
          rw [if_pos hb] at ihj
          exact ihj
        · rw [if_neg hb] at ihj
          exact ihj
    exact least 0 (Nat.zero_le _)
theorem labs_ev {p : List Int} (hp : PO p) {m : Nat} (hm : m ≤ 12) {most : Nat} (h1 : most ≤ 100000) (h2 : (labsN p m).length ≤ most) : Ev (fun k => spec_laAll.f k p [] (m : Int) (most : Int)) ((labsN p m).map ints) :=
  laAll_ev hp hm p.length [] (by simp) (fun i hi => by cases hi) most h1 h2
theorem laSum_ev {f : List Nat} (hl : f.length ≤ 100) (hv : ∀ x ∈ f, x ≤ 1000) : Ev (fun k => spec_laSum.f k (ints f)) ((f.sum : Nat) : Int) := by
  unfold spec_laSum.f
  rw [ints_len]
  have hb : ∀ l : List Nat, (∀ x ∈ l, x ≤ 1000) → l.sum ≤ l.length * 1000 := by
    intro l
    induction l with
    | nil => intro _; simp
    | cons x l ih => intro h; have := ih (fun y hy => h y (List.mem_cons_of_mem _ hy)); have := h x List.mem_cons_self; rw [List.sum_cons, List.length_cons]; omega
  have key : ∀ i, i ≤ f.length → Ev (fun k => spec_laSum.l0 k (((f.take i).sum : Nat) : Int) (ints f) (f.length : Int) (i : Int)) ((f.sum : Nat) : Int) := by
    refine downTo _ ?_ ?_
    · refine Ev.step (by intro k; simp only [spec_laSum.l0]; rfl) (Ev.no (by omega) (Ev.ret ?_))
      rw [List.take_length]
    · intro i hi ih
      refine Ev.step (by intro k; simp only [spec_laSum.l0]; rfl) (Ev.yes (by omega) (Ev.yes (by omega) (Ev.yes (by rw [ints_len]; omega) ?_)))
      rw [rd_ints, wid1 hi (by omega)]
      have e : (f.take (i + 1)).sum = (f.take i).sum + f.getD i 0 := by
        rw [List.take_add_one, List.sum_append, List.getD_eq_getElem?_getD, List.getElem?_eq_getElem hi]; simp
      have h1 := hb (f.take (i + 1)) (fun x hx => hv x (List.mem_of_mem_take hx))
      have h2 : (f.take (i + 1)).length ≤ 100 := by rw [List.length_take]; omega
      have h3 : (f.take (i + 1)).length * 1000 ≤ 100 * 1000 := Nat.mul_le_mul_right _ h2
      rw [wid (by omega) (by omega), show (((f.take i).sum : Nat) : Int) + ((f.getD i 0 : Nat) : Int) = (((f.take (i + 1)).sum : Nat) : Int) by omega]
      exact ih
  exact key 0 (Nat.zero_le _)
end Go.Proofs.Ytemkddgfneohhaa.Q
end

section
namespace Go.Proofs.Ytemkddgfneohhaa.Q
open Go.RowKit Go.Proofs.YtemkddgfneohhaaW.PrintWords Go.Proofs.Ytemkddgfneohhaa.F
set_option linter.unusedVariables false
theorem within_eq (a b c : Int) : impl_within.f a b c = some (decide (b ≤ a) && decide (a ≤ c)) := by
  unfold impl_within.f
  by_cases h : b ≤ a
  · rw [if_pos h]; simp [h]
  · rw [if_neg h]; simp [h]
end Go.Proofs.Ytemkddgfneohhaa.Q
end

section
namespace Go.Proofs.Ytemkddgfneohhaa.Q
open Go.RowKit Go.Proofs.YtemkddgfneohhaaW.PrintWords Go.Proofs.Ytemkddgfneohhaa.F
set_option linter.unusedVariables false
theorem isBound_eq (m : Int) : impl_isBound.f m = some (decide (0 ≤ m) && decide (m ≤ 12)) := by
  unfold impl_isBound.f
  rw [within_eq]; rfl
theorem laBound_eq (m : Int) : spec_laBound.f m = some (decide (0 ≤ m) && decide (m ≤ 12)) := by
  unfold spec_laBound.f
  rw [l1In_eq]; rfl
end Go.Proofs.Ytemkddgfneohhaa.Q
end

section
namespace Go.Proofs.Ytemkddgfneohhaa.Q
open Go.RowKit Go.Proofs.YtemkddgfneohhaaW.PrintWords Go.Proofs.Ytemkddgfneohhaa.F
set_option linter.unusedVariables false
theorem IsPoset_ev (p : List Int) : Ev (fun k => impl_IsPoset.f k p) (isPo p) := by
  unfold impl_IsPoset.f
  refine Ev.call (show impl_Poset_n.f p = some (p.length : Int) from rfl) (Ev.call (within_eq _ _ _) ?_)
  unfold isPo
  rw [sizes_eq]
  cases hs : (decide (1 ≤ p.length) && decide (p.length ≤ 10)) with
  | false => exact Ev.no (by simp) (Ev.ret rfl)
  | true =>
  refine Ev.yes rfl ?_
  rw [Bool.and_eq_true, decide_eq_true_eq, decide_eq_true_eq] at hs
  obtain ⟨h1, h2⟩ := hs
  have key : ∀ i, i ≤ p.length → Ev (fun k => impl_IsPoset.l0 k p (p.length : Int) (i : Int) p) (allFrom (rowOk p) p.length i) := by
    refine downTo p.length ?_ ?_
    · refine Ev.step (by intro k; simp only [impl_IsPoset.l0]; rfl) ?_
      exact Ev.no (by omega) (Ev.ret (allFrom_end _ _).symm)
    · intro i hi ih
      refine Ev.step (by intro k; simp only [impl_IsPoset.l0]; rfl) ?_
      refine Ev.yes (by omega) (Ev.yes (by omega) (Ev.yes (by omega) ?_))
      rw [rdN, mask_eq (by omega)]
      refine Ev.call (within_eq _ _ _) ?_
      rw [allFrom_step _ hi]
      by_cases hb : 0 ≤ p.getD i 0 ∧ p.getD i 0 ≤ 2 ^ i - 1
      rotate_left
      · exact Ev.no (by rw [range_false hb]; simp) (Ev.ret (by rw [rowOk_false hb]; rfl))
      refine Ev.yes (range_true hb) ?_
      have hv : p.getD i 0 = (L p i : Int) := by unfold L; omega
      have hm : L p i < 2 ^ i := by
        have := hb.2
        rw [hv, pow_int] at this
        have hp : 0 < 2 ^ i := Nat.two_pow_pos i
        generalize 2 ^ i = z at *
        omega
      rw [rowOk_true hb, ← items_all hm (by omega) (fun j => decide (Go.bits .andNot .i64 (p.getD j 0) (p.getD i 0) = 0)), hv]
      refine Ev.bind (items_ev _ (lt_pow hm (by omega))) ?_
      have inner : ∀ j, j ≤ (itemsN (L p i)).length → Ev (fun k => impl_IsPoset.l1 k (L p i : Int) p (p.length : Int) (i : Int) (ints (itemsN (L p i))) ((ints (itemsN (L p i))).length : Int) (j : Int) p)
          (((itemsN (L p i)).drop j).all (fun j => decide (Go.bits .andNot .i64 (p.getD j 0) (L p i : Int) = 0)) && allFrom (rowOk p) p.length (i + 1)) := by
        rw [ints_len]
        refine downTo _ ?_ ?_
        · refine Ev.step (by intro k; simp only [impl_IsPoset.l1]; rfl) ?_
          refine Ev.no (by omega) ?_
          rw [wid1 hi (by omega), List.drop_length, List.all_nil, Bool.true_and]
          exact ih
        · intro j hj ihj
          have hlt := items_lt hm hj
          have hl := itemsN_len (L p i)
          refine Ev.step (by intro k; simp only [impl_IsPoset.l1]; rfl) ?_
          refine Ev.yes (by omega) (Ev.yes (by omega) (Ev.yes (by rw [ints_len]; omega) ?_))
          rw [rd_ints, all_drop_step _ _ 0 hj, wid1 hj (by omega), rdN]
          refine Ev.yes (by omega) (Ev.yes (by omega) ?_)
          refine Ev.ite (fun h => evc ihj ?_) (fun h => Ev.ret ?_)
          · rw [decide_eq_true h]; simp
          · rw [decide_eq_false h]; simp
      exact inner 0 (by omega)
  exact key 0 (by omega)
end Go.Proofs.Ytemkddgfneohhaa.Q
end

section
namespace Go.Proofs.Ytemkddgfneohhaa.F
open Go.RowKit Go.Proofs.YtemkddgfneohhaaW.PrintWords Go.Proofs.YtemkddgfneohhaaW.PrintLast Go.Proofs.YtemkddgfneohhaaW.PrintMore
set_option linter.unusedVariables false
set_option linter.unusedSimpArgs false
def slices_Clone_int_int.f (l0 : List Int) : Option (List Int) := if l0.length < 17592186044416 then some l0 else none
theorem slices_Clone_int_int.info : (Try.prog.info? 3).map (fun i => (i.zero, i.size, i.bytes)) = some (some (.int .i64 0), 1, 8) := by kernel_rfl
theorem slices_Clone_int_int.nil_ (w : World) (a : Option Addr) (n c n' c' : Nat) : (binOp .eql 25 (.slice a n c) (.slice none n' c')).run Try.prog w = .ok (.bool a.isNone) w := Lib.run_eql_slice_nil w _ _ a n c n' c' Try.underlying25
set_option maxHeartbeats 8000000 in
set_option maxRecDepth 100000 in
theorem slices_Clone_int_int.calls (A0 : Option Addr) (c0 : Nat) (l0 : List Int) (r : List Int) (w : World) (hr0 : Kd.C (Kd.int .i64) w A0 l0.length l0) (hc0 : l0.length ≤ c0) (h : slices_Clone_int_int.f l0 = some r) :
    Calls Try.prog 79 #[.slice A0 l0.length c0] w fun e w' => ∃ v0_ : Value, e = .returned (v0_) ∧ Kd.R (Kd.int .i64) 3 w' w.heap.size (fun _ => True) v0_ r ∧ Below w.heap.size w w' := by
  unfold slices_Clone_int_int.f at h
  by_cases c2 : l0.length < 17592186044416
  · rw [if_pos c2] at h
    obtain rfl := Option.some.inj h
    clear h
    have LMc2 := Aside0.mk c2
    clear c2
    cases A0 with
    | none =>
      have h0 : l0.length = 0 := by
        rcases Nat.eq_zero_or_pos l0.length with h | h
        · exact h
        · obtain ⟨ad, e, _⟩ := hr0.2.2 h; cases e
      obtain rfl : l0 = [] := List.length_eq_zero_iff.1 h0
      clear h0 hr0 hc0 LMc2
      have q22 := slices_Clone_int_int.nil_
      go_enter Try.func79, Try.ntmps79
      go_wp2
      go_ret
      exact ⟨_, rfl, Kd.R_nil _ _ _ _ _, Below.refl _ _⟩
    | some ad =>
      have HR0 := Aside0.mk hr0
      have HC0 := Aside0.mk hc0
      clear hr0 hc0
      have HB := Aside0.mk (Below.refl w.heap.size w)
      have q22 := slices_Clone_int_int.nil_
      go_enter Try.func79, Try.ntmps79
      go_wp2_with (first | ((with_reducible refine gate_dst (N := 5) rfl ?_); refine Kd.R_lit (Kd.int .i64) _ 3 ?hg (N := 5) ?hd (xs := ([] : List Int)) (inner := []) (ok := fun _ => True) (okp := fun _ => True) ?hr ?hp (fun _ hk => hk) trivial (Below.refl _ _) (Nat.le_refl _) (by simp) ?_; (case hd => rfl); (case hg => rfl); (case hr => first | (go_simp; done) | (go_simp; rfl)); (case hp => exact (Reps.none _ _)); intro v663 w3 ho4 hb hg_ hnew_; clear hg_ hnew_; have n0_ := Aside0.mk (Kd.R_lower ho4 (below_size (by repeat (first | (with_reducible first | exact HB.out | apply below_alloc | apply pw_below_drewN | apply below_drew1) | exact HB.out)))); have n1_ := Aside0.mk (below_step (by repeat (first | (with_reducible first | exact HB.out | apply below_alloc | apply pw_below_drewN | apply below_drew1) | exact HB.out)) hb); clear HB; have HO664 := n0_; have HB := n1_; clear n0_ n1_; clear hb ho4) | ((with_reducible refine gate_builtin (b := .append) (xs := #[.tmp 5, .tmp 6]) rfl ?_); at_builtin; refine Kd.R_append_rows (Kd.int .i64) (w0 := w) w.heap.size rfl (.tmp 5) (.tmp 6) 25 3 (.int .i64 0) 8 rfl Try.underlying25 slices_Clone_int_int.info rfl (by decide) (by omega) v663 [] l0 _ _ _ (fun _ => True) (fun _ => False) rfl rfl ?aO ?aR (fun _ _ h => h) (fun _ h => h.elim) ?aF ?aB ?aS ?aL ?_; (case aR => repeat (first | exact (Kd.C_below HR0.out HB.out) | (with_reducible refine Kd.C_alloc ?_ _) | (with_reducible refine Kd.C_drewN ?_ _) | (with_reducible refine Kd.C_drew ?_))); (case aB => exact (by repeat (first | (with_reducible first | exact HB.out | apply below_alloc | apply pw_below_drewN | apply below_drew1) | exact HB.out))); (case aF => exact (fun _ _ => trivial)); (case aO => exact (by (with_reducible repeat (first | apply Kd.R_alloc | apply Kd.R_drewN | apply Kd.R_drew)); exact HO664.out)); (case aS => exact (below_size (by repeat (first | (with_reducible first | exact HB.out | apply below_alloc | apply pw_below_drewN | apply below_drew1) | exact HB.out)))); (case aL => have := LMc2.out; simp; omega); intro v666 w5 ho hb hg hat; rw [List.nil_append] at ho; have n0_ := Aside0.mk (hb); have n1_ := Aside0.mk (ho); clear HB; clear HO664; have HB := n0_; have HO667 := n1_; clear n0_ n1_; clear ho hb hg hat))
      go_ret
      exact ⟨_, by first | rfl | (simp; done) | (simp [*]; done), by (with_reducible repeat (first | apply Kd.R_alloc | apply Kd.R_drewN | apply Kd.R_drew)); exact HO667.out, by repeat (first | (with_reducible first | exact HB.out | apply below_alloc | apply pw_below_drewN | apply below_drew1) | exact HB.out)⟩
  · rw [if_neg c2] at h; cases h
end Go.Proofs.Ytemkddgfneohhaa.F
end

section
namespace Go.Proofs.Ytemkddgfneohhaa.F
open Go.RowKit Go.Proofs.YtemkddgfneohhaaW.PrintWords Go.Proofs.YtemkddgfneohhaaW.PrintLast Go.Proofs.YtemkddgfneohhaaW.PrintMore
set_option linter.unusedVariables false
set_option linter.unusedSimpArgs false
def impl_Poset_ideals.f (k : Nat) (l0_0 : List Int) : Option (List Int) := sets_ideals.f (fun x => lit_ideals.f k x l0_0) k l0_0
theorem ideals_mono_l {F F' : Int → Option Bool} (hF : ∀ x, LeO (F x) (F' x)) : ∀ k y0 y1 y2, LeO (sets_ideals.l0 F k y0 y1 y2) (sets_ideals.l0 F' k y0 y1 y2)
  | 0, _, _, _ => fun r h => by simp [sets_ideals.l0] at h
  | k + 1, y0, y1, y2 => by
    unfold sets_ideals.l0
    exact LeO.ite (LeO.bind (hF _) (fun _ => LeO.ite (LeO.ite (ideals_mono_l hF k _ _ _) (LeO.none _)) (ideals_mono_l hF k _ _ _))) (LeO.refl _)
theorem impl_Poset_ideals.mono : ∀ a0 k, LeO (impl_Poset_ideals.f k a0) (impl_Poset_ideals.f (k + 1) a0) := fun a0 k r h => by
  unfold impl_Poset_ideals.f at h ⊢
  refine sets_ideals.mono _ _ _ r ?_
  unfold sets_ideals.f at h ⊢
  exact LeO.bind (LeO.refl _) (fun _ => ideals_mono_l (fun x => lit_ideals.mono x a0 k) k _ _ _) r h
set_option maxHeartbeats 8000000 in
set_option maxRecDepth 100000 in
theorem impl_Poset_ideals.calls (k : Nat) (A0_0 : Option Addr) (c0_0 : Nat) (l0_0 : List Int) (r : List Int) (w : World) (hr0_0 : Kd.C (Kd.int .i64) w A0_0 l0_0.length l0_0) (hc0_0 : l0_0.length ≤ c0_0) (h : impl_Poset_ideals.f k l0_0 = some r) :
    Calls Try.prog 67 #[.agg #[.slice A0_0 l0_0.length c0_0]] w fun e w' => ∃ v0_ : Value, e = .returned (v0_) ∧ Kd.R (Kd.int .i64) 3 w' w.heap.size (fun _ => True) v0_ r ∧ Below w.heap.size w w' := by
  unfold impl_Poset_ideals.f at h
  have hmf : ∀ (fn : Fn) (first cap : Array Value) (w : World), (Instr.makeFunc fn first cap).run Try.prog w = .ok (.func fn first cap) w := fun _ _ _ _ => rfl
  have hu39 := Try.underlying30
  obtain ⟨W, hW⟩ : ∃ W, W = (w.alloc (.cells #[.slice A0_0 l0_0.length c0_0] 30 (0, 0))) := ⟨_, rfl⟩
  have hsz : W.heap.size = w.heap.size + 1 := by rw [hW]; simp
  have hcB : W.cell? ⟨w.heap.size, 0, none⟩ = some (.slice A0_0 l0_0.length c0_0) := by rw [hW, World.cell?_alloc_at _ _ _ _ rfl]; rfl
  have hbW : Below w.heap.size w W := by rw [hW]; exact (Below.refl _ _).alloc (Nat.le_refl _) _
  have hrW : Kd.C (Kd.int .i64) W A0_0 l0_0.length l0_0 := Kd.C_below hr0_0 hbW
  have HF : Aside0 (∀ (x0_ : Int) (r_ : Bool) (W' : World), lit_ideals.f k x0_ l0_0 = some r_ → Below W.heap.size W W' → Calls Try.prog 86 #[.int .i64 x0_, .pointer (some ⟨w.heap.size, 0, none⟩)] W' fun e w' => e = .returned (.bool r_) ∧ Below W'.heap.size W' w') :=
    ⟨fun x0_ r_ W' hF hb => lit_ideals.calls w.heap.size k x0_ A0_0 c0_0 l0_0 r_ W' ((hb.cell (p := ⟨w.heap.size, 0, none⟩) (by rw [hsz]; show w.heap.size < w.heap.size + 1; omega)).trans hcB) (Kd.C_below hrW hb) hc0_0 hF⟩
  have hcall := sets_ideals.calls (fun x => lit_ideals.f k x l0_0) w.heap.size k A0_0 c0_0 l0_0 r W HF hrW hc0_0 h
  have hcall' : Aside0 (Calls Try.prog 85 #[.agg #[.slice A0_0 l0_0.length c0_0], .func (.func 86) #[] #[.pointer (some ⟨w.heap.size, 0, none⟩)]] (w.alloc (.cells #[.slice A0_0 l0_0.length c0_0] 30 (0, 0))) fun e w' => ∃ v0_ : Value, e = .returned (v0_) ∧ (Kd.R (Kd.int .i64) 3 w' W.heap.size (fun _ => True) v0_ r ∧ Below W.heap.size W w')) := ⟨by rw [← hW]; exact hcall⟩
  have HW := Lib.hid hW
  clear hcall HF h hW hrW hr0_0 hc0_0
  have HsW := Aside0.mk hsz
  have HbW := Aside0.mk hbW
  clear hcB hsz hbW
  go_enter Try.func67, Try.ntmps67
  go_wp2_with fail
  refine hcall'.out.mono ?_
  rintro e w1 ⟨v, rfl, ho, hb⟩
  have Ho := Aside0.mk ho
  have Hb := Aside0.mk hb
  clear ho hb hmf hcall'
  go_wp2
  go_ret
  refine ⟨_, rfl, Kd.R_lower Ho.out (by have := HsW.out; omega), HbW.out.trans (Hb.out.mono (by have := HsW.out; omega))⟩
end Go.Proofs.Ytemkddgfneohhaa.F
end

section
namespace Go.Proofs.Ytemkddgfneohhaa.Q
open Go.RowKit Go.Proofs.YtemkddgfneohhaaW.PrintWords Go.Proofs.Ytemkddgfneohhaa.F
set_option linter.unusedVariables false
theorem sets_run {F : Int → Option Bool} {c : Nat → Bool} {N : Nat} (hN : N ≤ 1024) (hF : ∀ s : Nat, s < N → F (s : Int) = some (c s)) : ∀ (d i : Nat), i + d = N → ∀ (k : Nat) (acc : List Int), d < k → acc.length ≤ i → sets_ideals.l0 F k acc (N : Int) (i : Int) = some (acc ++ ints ((List.range' i d).filter c))
  | 0, i, h, 0, acc, hk, _ => by omega
  | 0, i, h, k + 1, acc, hk, _ => by
    simp only [sets_ideals.l0]
    rw [if_neg (by omega)]
    simp [ints]
  | d + 1, i, h, 0, acc, hk, _ => by omega
  | d + 1, i, h, k + 1, acc, hk, ha => by
    simp only [sets_ideals.l0]
    rw [if_pos (by omega), hF i (by omega), Option.bind_some, wid1 (show i < N by omega) (by omega), List.range'_succ, List.filter_cons]
    cases hc : c i with
    | true =>
      rw [if_pos rfl, if_pos (by omega), if_pos rfl, sets_run hN hF d (i + 1) (by omega) k (acc ++ [(i : Int)]) (by omega) (by rw [List.length_append, List.length_singleton]; omega)]
      rw [List.append_assoc]; rfl
    | false =>
      rw [if_neg (by simp), if_neg (by simp), sets_run hN hF d (i + 1) (by omega) k acc (by omega) (by omega)]
theorem two_pow_small {n : Nat} (h : n ≤ 10) : 2 ^ n ≤ 1024 := Nat.le_trans (Nat.pow_le_pow_right (by decide) h) (by decide)
theorem ideals_ev {p : List Int} (hp : PO p) : Ev (fun k => impl_Poset_ideals.f k p) (ints (idealsN p)) := by
  have hn := hp.small
  have h2 := two_pow_small hn
  have hpos := Nat.two_pow_pos p.length
  obtain ⟨K, hK⟩ := Ev.all (g := fun s k => lit_ideals.f k (s : Int) p) (r := fun s => idealB p s) (2 ^ p.length) (fun s hs => by
    unfold lit_ideals.f
    refine Ev.bind (close_ev hp hs) (Ev.ret ?_)
    rw [← closeN_eq hp hs, Bool.eq_iff_iff, beq_iff_eq, beq_iff_eq]
    omega)
  refine ⟨K + 2 ^ p.length + 1, fun k hk => ?_⟩
  show sets_ideals.f _ k p = _
  unfold sets_ideals.f
  rw [all_eq (by omega), Option.bind_some]
  have e : wrap64 (((allN p : Nat) : Int) + 1) = ((2 ^ p.length : Nat) : Int) := by
    rw [wid (by unfold allN; omega) (by unfold allN; omega)]
    unfold allN; omega
  rw [e]
  have := sets_run (F := fun x => lit_ideals.f k x p) (c := idealB p) h2 (fun s hs => hK k (by omega) s hs) (2 ^ p.length) 0 (by omega) k [] (by omega) (by simp)
  rw [show ((0 : Nat) : Int) = 0 from rfl] at this
  rw [this, List.nil_append, ← List.range_eq_range']
  rfl
end Go.Proofs.Ytemkddgfneohhaa.Q
end

section
namespace Go.Proofs.Ytemkddgfneohhaa.F
open Go.RowKit Go.Proofs.YtemkddgfneohhaaW.PrintWords Go.Proofs.YtemkddgfneohhaaW.PrintLast Go.Proofs.YtemkddgfneohhaaW.PrintMore
attribute [local go_sem] max2_int min2_int max_two min_two max_three min_three max_four min_four
set_option linter.unusedVariables false
set_option linter.unusedSimpArgs false
/-- The five captured variables: the poset, the list, the labels under way (their row's block g), the bound, the function itself. -/
structure LbA where
  gp : Nat
  go : Nat
  gw : Nat
  gm : Nat
  gf : Nat
  g : Nat
  cap : Nat
  A0 : Option Addr
  c0 : Nat
  p : List Int
  m : Int
  w : World
def LbA.caps (S : LbA) : Array Value := #[.pointer (some ⟨S.gp, 0, none⟩), .pointer (some ⟨S.go, 0, none⟩), .pointer (some ⟨S.gw, 0, none⟩), .pointer (some ⟨S.gm, 0, none⟩), .pointer (some ⟨S.gf, 0, none⟩)]
structure LbA.Ok (S : LbA) : Prop where
  C : Kd.C (Kd.int .i64) S.w S.A0 S.p.length S.p
  le : S.p.length ≤ S.c0
  bo : S.w.heap.size ≤ S.go
  bg : S.w.heap.size ≤ S.g
  po : S.gp ≠ S.go
  ow : S.gw ≠ S.go
  om : S.gm ≠ S.go
  of_ : S.gf ≠ S.go
  og : S.g ≠ S.go
  gp_ : S.gp ≠ S.g
  gw_ : S.gw ≠ S.g
  gm_ : S.gm ≠ S.g
  gf_ : S.gf ≠ S.g
def LbA.ok (S : LbA) (k : Nat) : Prop := k ≠ S.gp ∧ k ≠ S.go ∧ k ≠ S.gw ∧ k ≠ S.gm ∧ k ≠ S.gf ∧ k ≠ S.g
/-- What holds between the calls. -/
structure LbI (S : LbA) (vo : Value) (o : List (List Int)) (wl : List Int) (W : World) : Prop where
  below : Below S.w.heap.size S.w W
  cp : W.heap[S.gp]? = some (.cells #[.slice S.A0 S.p.length S.c0] 30 (0, 0))
  co : W.heap[S.go]? = some (.cells #[vo] 58 (0, 0))
  cw : W.heap[S.gw]? = some (.cells #[.slice (some ⟨S.g, 0, none⟩) S.p.length S.cap] 25 (0, 0))
  cm : W.heap[S.gm]? = some (.cells #[.int .i64 S.m] 3 (0, 0))
  cf : W.heap[S.gf]? = some (.cells #[.func (.func 78) #[] S.caps] 71 (0, 0))
  HO : Kd.S (Kd.slice 3 (Kd.int .i64)) 25 W S.w.heap.size S.ok vo o
  len : wl.length = S.p.length
  HW : Kd.R (Kd.int .i64) 3 W S.w.heap.size (fun _ => True) (.slice (some ⟨S.g, 0, none⟩) wl.length S.cap) wl
theorem LbI.step {S : LbA} {vo : Value} {o : List (List Int)} {wl : List Int} {W W1 : World} (h : LbI S vo o wl W) (hb : Below W.heap.size W W1) : LbI S vo o wl W1 :=
  ⟨below_step h.below hb, blk_below h.cp hb, blk_below h.co hb, blk_below h.cw hb, blk_below h.cm hb, blk_below h.cf hb, Kd.S_below h.HO hb, h.len, Kd.R_below h.HW hb⟩
theorem LbI.glt {S : LbA} {vo : Value} {o : List (List Int)} {wl : List Int} {W : World} (h : LbI S vo o wl W) : S.g < W.heap.size := Kd.R_lt h.HW S.g (by simp [Value.ownBlock])
theorem LbI.far {S : LbA} {vo : Value} {o : List (List Int)} {wl : List Int} {W : World} (h : LbI S vo o wl W) {k : Nat} (hk : W.heap.size ≤ k) : S.ok k :=
  ⟨by have := blk_lt h.cp; omega, by have := blk_lt h.co; omega, by have := blk_lt h.cw; omega, by have := blk_lt h.cm; omega, by have := blk_lt h.cf; omega, by have := h.glt; omega⟩
/-- A new list is stored. -/
theorem LbI.put_out {S : LbA} (hS : S.Ok) {vo v1 : Value} {o o' : List (List Int)} {wl : List Int} {W w1 : World} (h : LbI S vo o wl W)
    (hs : Kd.S (Kd.slice 3 (Kd.int .i64)) 25 w1 S.w.heap.size S.ok v1 o') (hb : Below S.w.heap.size S.w w1) (hg : W.grownBy w1 vo.ownBlock) : LbI S v1 o' wl (w1.setCell ⟨S.go, 0, none⟩ v1) := by
  have hvo : ∀ k, vo.ownBlock = some k → S.ok k := (Kd.S_R h.HO).1
  have hne : ∀ k, ¬ S.ok k → some k ≠ vo.ownBlock := fun k hk e => hk (hvo k e.symm)
  have g1 := blk_grown h.cp hg (hne _ (fun h => h.1 rfl))
  have g2 := blk_grown h.co hg (hne _ (fun h => h.2.1 rfl))
  have g3 := blk_grown h.cw hg (hne _ (fun h => h.2.2.1 rfl))
  have g4 := blk_grown h.cm hg (hne _ (fun h => h.2.2.2.1 rfl))
  have g5 := blk_grown h.cf hg (hne _ (fun h => h.2.2.2.2.1 rfl))
  have hs' := Kd.S_far hs (p := ⟨S.go, 0, none⟩) (fun k hk => hk.2.1) v1
  have hw0 := Kd.R_grown (Kd.R_tight rfl h.HW) hg (fun k hk => by
    have : k = S.g := by simpa [Value.ownBlock] using hk
    rw [this]; exact hne _ (fun h => h.2.2.2.2.2 rfl))
  have hw' := Kd.R_far hw0 (p := ⟨S.go, 0, none⟩) (fun k hk => by
    have : k = S.g := by simpa [Value.ownBlock] using hk
    rw [this]; exact hS.og) v1
  exact ⟨below_set hb hS.bo, (Below.heap_setCell _ _ _ _ hS.po).trans g1, one_setCell g2, (Below.heap_setCell _ _ _ _ hS.ow).trans g3, (Below.heap_setCell _ _ _ _ hS.om).trans g4, (Below.heap_setCell _ _ _ _ hS.of_).trans g5, hs', h.len, Kd.R_mono hw' (fun _ _ => trivial)⟩
theorem LbI.go_kept {S : LbA} {vo : Value} {o : List (List Int)} {wl : List Int} {W w1 : World} (h : LbI S vo o wl W) (hg : W.grownBy w1 vo.ownBlock) : w1.heap[S.go]? = some (.cells #[vo] 58 (0, 0)) :=
  blk_grown h.co hg (fun e => ((Kd.S_R h.HO).1 _ e.symm).2.1 rfl)
theorem lb_new {S : LbA} {vo v2 : Value} {o : List (List Int)} {wl l2 : List Int} {W W2 : World} (h : LbI S vo o wl W) (hr : Kd.R (Kd.int .i64) 3 W2 W.heap.size (fun _ => True) v2 l2) :
    ∀ k, some k = v2.ownBlock → S.ok k ∧ some k ≠ vo.ownBlock := fun k hk => by
  have hb := Kd.R_base hr k hk.symm
  refine ⟨h.far hb, fun e => ?_⟩
  have := Kd.S_lt h.HO k e.symm; omega
theorem lb_old {S : LbA} {vo v2 : Value} {o : List (List Int)} {wl l2 : List Int} {W W2 : World} (h : LbI S vo o wl W) (hb : Below W.heap.size W W2) (hr : Kd.R (Kd.int .i64) 3 W2 W.heap.size (fun _ => True) v2 l2) :
    Kd.S (Kd.slice 3 (Kd.int .i64)) 25 W2 S.w.heap.size (fun k => S.ok k ∧ ¬ some k = v2.ownBlock) vo o := by
  refine Kd.S_below (Kd.S_mono (Kd.S_bound h.HO) (fun k hk => ⟨hk.1, fun e => ?_⟩)) hb
  have h1 := Kd.R_base hr k e.symm
  have h2 := hk.2.2.1
  omega
/-- A label is stored. -/
theorem LbI.put_f {S : LbA} (hS : S.Ok) {vo : Value} {o : List (List Int)} {wl : List Int} {W : World} (h : LbI S vo o wl W) (i : Nat) (x : Int) : LbI S vo o (wl.set i x) (W.setCell ⟨S.g, i, none⟩ (.int .i64 x)) := by
  have hp := (Kd.R_put h.HW (i : Int) x).1
  rw [Int.toNat_natCast] at hp
  exact ⟨below_set h.below hS.bg, (Below.heap_setCell _ _ _ _ hS.gp_).trans h.cp, (Below.heap_setCell _ _ _ _ (Ne.symm hS.og)).trans h.co, (Below.heap_setCell _ _ _ _ hS.gw_).trans h.cw, (Below.heap_setCell _ _ _ _ hS.gm_).trans h.cm, (Below.heap_setCell _ _ _ _ hS.gf_).trans h.cf, Kd.S_far h.HO (p := ⟨S.g, i, none⟩) (fun k hk => hk.2.2.2.2.2) _, by rw [List.length_set]; exact h.len, by rw [List.length_set]; exact hp⟩
/-! What it lists, and what it leaves in the labels under way. -/
def lbRow (g : List Int → Option (List (List Int) × List Int)) (m : Int) (i : Nat) : Nat → Int → List Int → Option (List (List Int) × List Int)
  | 0, _, _ => none
  | e + 1, k, f => if k ≤ m then (g (f.set i k)).bind fun r => (lbRow g m i e (wrap64 (k + 1)) r.2).bind fun r' => some (r.1 ++ r'.1, r'.2) else some ([], f)
def lbLeast (f : List Int) : Int → List Int → Option Int
  | x, [] => some x
  | x, j :: l => if 0 ≤ j ∧ j < (f.length : Int) then lbLeast f (mx x (rd f j)) l else none
def lbPut (F : Nat) (p : List Int) (m : Int) : Nat → Nat → List Int → Option (List (List Int) × List Int)
  | 0, _, _ => none
  | d + 1, i, f => if i = p.length then (if p.length ≤ 1000 then some ([f], f) else none) else if i < p.length ∧ p.length ≤ 1000 then (impl_items.f F (rd p (i : Int))).bind fun l => if l.length ≤ 1000 then (lbLeast f 0 l).bind fun x => lbRow (lbPut F p m d (i + 1)) m i F x f else none else none
set_option maxHeartbeats 8000000 in
set_option maxRecDepth 100000 in
theorem lb_all {S : LbA} (hS : S.Ok) {vo : Value} {o : List (List Int)} {wl : List Int} {W : World} (h : LbI S vo o wl W) (hlen : S.p.length ≤ 1000) (hol : (o.length + 1) * 24 ≤ 140737488355328) :
    Calls Try.prog 78 #[.int .i64 (S.p.length : Int), .pointer (some ⟨S.gp, 0, none⟩), .pointer (some ⟨S.go, 0, none⟩), .pointer (some ⟨S.gw, 0, none⟩), .pointer (some ⟨S.gm, 0, none⟩), .pointer (some ⟨S.gf, 0, none⟩)] W fun e W' => e = .returned (.tuple #[]) ∧ ∃ vo', LbI S vo' (o ++ [wl]) wl W' := by
  have hu28 := Try.underlying30
  have hcp : W.cell? ⟨S.gp, 0, none⟩ = some (.slice S.A0 S.p.length S.c0) := (blk_cell h.cp 0).trans rfl
  have HI := Aside0.mk h
  have HL := Aside0.mk hlen
  have HOL := Aside0.mk hol
  clear h hlen hol
  go_enter Try.func78, Try.ntmps78
  go_wp2_with (go_at_call 70; (with_reducible refine (impl_Poset_n.calls S.A0 S.c0 S.p (S.p.length : Int) _ (Kd.C_below hS.C HI.out.below) hS.le rfl).mono ?_); rintro e W1 ⟨rfl, hb1⟩; have HI1 := Aside0.mk (HI.out.step hb1); clear hb1)
  have HI2 := Aside0.mk (HI1.out.step (below_drew (Below.refl W1.heap.size W1)))
  refine start_ (n := 6) (S := fun w' => w'.cell? ⟨S.go, 0, none⟩ = some vo ∧ w'.cell? ⟨S.gw, 0, none⟩ = some (.slice (some ⟨S.g, 0, none⟩) S.p.length S.cap)) (ds := [5]) #[false, false, false, false, false, false] (by kernel_rfl) rfl rfl ⟨(blk_cell HI2.out.co 0).trans rfl, (blk_cell HI2.out.cw 0).trans rfl⟩ (fun hHeld => ?_)
  generalize W1.drew = W2 at HI2 hHeld ⊢
  refine take_ (i := 0) (N := some 15) (v := ?_) (a' := ?_) #[true, false, false, false, false, false] rfl rfl (by kernel_rfl) (fun _ _ _ h => h) (Or.inl ⟨by rfl, ?_⟩) hHeld ?_ ?_
  rotate_left
  · rintro w' ⟨s0, s1⟩
    go_simp
    with_reducible rfl
  rotate_left
  · simp only [Act.put, List.setIfInBounds_toArray, List.set_cons_zero, List.set_cons_succ, i64_w, i32_w]
    rfl
  refine take_ (i := 1) (N := some 16) (v := ?_) (a' := ?_) #[true, true, false, false, false, false] rfl rfl (by kernel_rfl) (fun _ _ _ h => h) (Or.inl ⟨by rfl, ?_⟩) hHeld ?_ ?_
  rotate_left
  · rintro w' ⟨s0, s1⟩
    go_simp
    with_reducible rfl
  rotate_left
  · simp only [Act.put, List.setIfInBounds_toArray, List.set_cons_zero, List.set_cons_succ, i64_w, i32_w]
    rfl
  refine one_ (i := 2) (N := some 17) #[true, true, true, false, false, false] rfl rfl (by kernel_rfl) (by decide) (fun K hK => ?_)
  refine goes_ Try.func79 (by kernel_rfl) rfl #[.slice (some ⟨S.g, 0, none⟩) S.p.length S.cap] (by rfl) rfl rfl (by (try simp only [List.map_toArray, List.map_cons, List.map_nil]); first | done | rfl | (simp only [List.length_drop, List.length_take]; rfl)) ?_
  have hlw := HI2.out.len
  have hrw := Kd.R_reads' HI2.out.HW
  have hcl := slices_Clone_int_int.calls (some ⟨S.g, 0, none⟩) S.cap wl wl W2 hrw.2.2 hrw.2.1 (by unfold slices_Clone_int_int.f; rw [if_pos (by have := HL.out; omega)])
  rw [hlw] at hcl
  with_reducible refine hcl.mono ?_
  rintro e W3 ⟨v3, rfl, hr3, hb3⟩
  refine ⟨_, rfl, ?_⟩
  obtain ⟨A3, c3, e3⟩ := Kd.R_slice hr3
  rw [hlw] at e3
  subst e3
  have HR3 := Aside0.mk hr3
  have HB3 := Aside0.mk hb3
  have HI3 := Aside0.mk (HI2.out.step hb3)
  clear hr3 hb3 hrw hcl
  refine hK.out _ _ ⟨(blk_cell HI3.out.co 0).trans rfl, (blk_cell HI3.out.cw 0).trans rfl⟩ (fun hHeld => ?_)
  refine norm_ (a' := ?_) ?_ ?_
  rotate_left
  · show Act.put _ (some 17) _ = _
    simp only [Act.put, List.setIfInBounds_toArray, List.set_cons_zero, List.set_cons_succ, i64_w, i32_w]
    rfl
  refine one_ (i := 3) (N := some 18) #[true, true, true, true, false, false] rfl rfl (by kernel_rfl) (by decide) (fun K hK => ?_)
  refine value_ (w1 := ?_) (v := ?_) (by rfl) rfl ?_ ?_
  rotate_left 2
  · go_simp
    constructor
    · rfl
    · rfl
  refine hK.out _ _ ⟨(blk_cell (blk_alloc HI3.out.co _) 0).trans rfl, (blk_cell (blk_alloc HI3.out.cw _) 0).trans rfl⟩ (fun hHeld => ?_)
  refine norm_ (a' := ?_) ?_ ?_
  rotate_left
  · show Act.put _ (some 18) _ = _
    simp only [Act.put, List.setIfInBounds_toArray, List.set_cons_zero, List.set_cons_succ, i64_w, i32_w]
    rfl
  refine one_ (i := 4) (N := some 19) #[true, true, true, true, true, false] rfl rfl (by kernel_rfl) (by decide) (fun K hK => ?_)
  refine Kd.S_append_step (Kd.slice 3 (Kd.int .i64)) (w0 := S.w) (W := W3) S.w.heap.size (by rfl) (.tmp 15) (.tmp 18) 58 25 (.slice none 0 0) 24 rfl Try.underlying58 info25 rfl (by decide) (by omega) vo o wl [.slice A3 S.p.length c3] S.ok (fun k => some k = (Value.slice A3 S.p.length c3).ownBlock) rfl rfl ?aP ?aN ?aF ?aO ?aB ?aS ?aL ?_
  (case aN => exact lb_new HI2.out HR3.out)
  (case aF => exact fun k hk => HI3.out.far hk)
  (case aO => exact lb_old HI2.out HB3.out HR3.out)
  (case aB => exact HI3.out.below)
  (case aS => exact HI3.out.below.size)
  (case aL => exact HOL.out)
  (case aP => exact ⟨_, rfl, Kd.R_tight rfl (Kd.R_lower HR3.out HI2.out.below.size)⟩)
  intro v4 W4 hs4 hb4 hg4 hat4
  obtain ⟨A4, n4, c4, rfl⟩ : ∃ A n c, v4 = .slice A n c := by obtain ⟨A, c, e⟩ := Kd.S_slice hs4; exact ⟨A, _, c, e⟩
  have HP := Aside0.mk (HI3.out.put_out hS hs4 hb4 hg4)
  have hgo4 := HI3.out.go_kept hg4
  have hgw4 : W4.heap[S.gw]? = some (.cells #[.slice (some ⟨S.g, 0, none⟩) S.p.length S.cap] 25 (0, 0)) := blk_grown HI3.out.cw hg4 (fun e => ((Kd.S_R HI3.out.HO).1 _ e.symm).2.2.1 rfl)
  have hco4 : W4.cell? ⟨S.go, 0, none⟩ = some vo := (blk_cell hgo4 0).trans rfl
  have hfo4 := blk_frozen hgo4 0
  refine hK.out _ _ ⟨hco4, (blk_cell hgw4 0).trans rfl⟩ (fun hHeld => ?_)
  clear hs4 hb4 hg4 hat4 hgo4 hgw4
  refine norm_ (a' := ?_) ?_ ?_
  rotate_left
  · show Act.put _ (some 19) _ = _
    simp only [Act.put, List.setIfInBounds_toArray, List.set_cons_zero, List.set_cons_succ, i64_w, i32_w]
    rfl
  refine last_ (i := 5) (N := none) #[true, true, true, true, true, true] rfl rfl (by kernel_rfl) (by decide) (fun K hK => ?_)
  go_simp
  refine hK.out _ _ ?_
  refine done_ (by kernel_rfl) ?_
  go_wp2
  exact bodyPost_ret (v := .tuple #[]) (by simp [results, Try.results78, go_sem]) rfl ⟨rfl, _, HP.out⟩
theorem lb_cell {S : LbA} {vo : Value} {o : List (List Int)} {wl : List Int} {W : World} (h : LbI S vo o wl W) (i : Nat) (hi : i < S.p.length) : W.cell? ⟨S.g, i, none⟩ = some (.int .i64 (rd wl (i : Int))) ∧ W.frozen? ⟨S.g, i, none⟩ = false := by
  have hl := h.len
  have h2 := Kd.R_cell (0 : Int) h.HW (i : Int) (by omega) (by omega)
  rw [Int.toNat_natCast] at h2
  exact ⟨h2.1, h2.2⟩
theorem lb_w64 (n : Nat) (h : n ≤ 1001) : wrap64 (n : Int) = (n : Int) := by unfold wrap64; omega
theorem lb_cons {l : List Int} {q : Nat} (hq : q < l.length) : l.drop q = rd l (q : Int) :: l.drop (q + 1) := by
  rw [List.drop_eq_getElem_cons hq]
  congr 1
  unfold rd
  rw [Int.toNat_natCast, List.getD_eq_getElem?_getD, List.getElem?_eq_getElem hq]; rfl
set_option maxHeartbeats 8000000 in
set_option maxRecDepth 100000 in
theorem lb_step {S : LbA} (hS : S.Ok) (F d i : Nat) (hi : i < S.p.length) (hn : S.p.length ≤ 1000) (l : List Int) (X : Int) (out : List (List Int)) (wl wl' : List Int) (hit : impl_items.f F (rd S.p (i : Int)) = some l) (hl : l.length ≤ 1000) (hX : lbLeast wl 0 l = some X) (hrow : lbRow (lbPut F S.p S.m d (i + 1)) S.m i F X wl = some (out, wl'))
    (ih : ∀ (wl wl' : List Int) (out : List (List Int)), lbPut F S.p S.m d (i + 1) wl = some (out, wl') → ∀ {vo : Value} {o : List (List Int)} {W : World}, LbI S vo o wl W → (o.length + out.length) * 24 ≤ 140737488355328 → Calls Try.prog 78 #[.int .i64 ((i : Int) + 1), .pointer (some ⟨S.gp, 0, none⟩), .pointer (some ⟨S.go, 0, none⟩), .pointer (some ⟨S.gw, 0, none⟩), .pointer (some ⟨S.gm, 0, none⟩), .pointer (some ⟨S.gf, 0, none⟩)] W fun e W' => e = .returned (.tuple #[]) ∧ ∃ vo', LbI S vo' (o ++ out) wl' W')
    {vo : Value} {o : List (List Int)} {W : World} (h : LbI S vo o wl W) (hol : (o.length + out.length) * 24 ≤ 140737488355328) : Calls Try.prog 78 #[.int .i64 (i : Int), .pointer (some ⟨S.gp, 0, none⟩), .pointer (some ⟨S.go, 0, none⟩), .pointer (some ⟨S.gw, 0, none⟩), .pointer (some ⟨S.gm, 0, none⟩), .pointer (some ⟨S.gf, 0, none⟩)] W fun e W' => e = .returned (.tuple #[]) ∧ ∃ vo', LbI S vo' (o ++ out) wl' W' := by
  have hu30 := Try.underlying30
  have hcp : W.cell? ⟨S.gp, 0, none⟩ = some (.slice S.A0 S.p.length S.c0) := (blk_cell h.cp 0).trans rfl
  have HI := Aside0.mk h
  have HOL := Aside0.mk hol
  have HIT := Aside0.mk hit
  have HL := Aside0.mk hl
  have HX := Aside0.mk hX
  have HROW := Aside0.mk hrow
  have HII := Aside0.mk hi
  have HN := Aside0.mk hn
  have IH := Aside0.mk @ih
  have b1 : ((i : Int) == (S.p.length : Int)) = false := beq_eq_false_iff_ne.mpr (by omega)
  have b2 : (i == S.p.length) = false := beq_eq_false_iff_ne.mpr (by omega)
  have b3 : (0 : Int) ≤ (i : Int) := by omega
  have b4 : (i : Int) < (S.p.length : Int) := by omega
  have b5 : decide ((i : Int) < (S.p.length : Int)) = true := decide_eq_true b4
  have b6 : decide (i < S.p.length) = true := decide_eq_true hi
  have b7 : (i < S.p.length) = True := eq_true hi
  obtain ⟨ad, eA, _⟩ := Kd.at_int hS.C (i : Int) b3 b4
  have HSC : Aside0 (Kd.C (Kd.int .i64) S.w (some ad) S.p.length S.p) := ⟨by rw [← eA]; exact hS.C⟩
  clear h hol hit hl hX hrow ih hi
  go_enter Try.func78, Try.ntmps78
  go_wp2_with (first
    | (go_at_call 70; (with_reducible refine (impl_Poset_n.calls (some ad) S.c0 S.p (S.p.length : Int) _ (Kd.C_below HSC.out HI.out.below) hS.le rfl).mono ?_); rintro e W1 ⟨rfl, hb1⟩; have HI1 := Aside0.mk (HI.out.step hb1); have hcp1 : W1.cell? ⟨S.gp, 0, none⟩ = some (.slice (some ad) S.p.length S.c0) := (blk_cell HI1.out.cp 0).trans (by rw [eA]; rfl); have hpi1 : W1.cell? (ad.add i) = some (.int .i64 (rd S.p (i : Int))) := (by obtain ⟨ad', e', hc'⟩ := Kd.at_int (Kd.C_below HSC.out HI1.out.below) (i : Int) b3 b4; cases e'; rw [Int.toNat_natCast] at hc'; exact hc'); clear hb1)
    | (go_at_call 71; (with_reducible refine (impl_items.calls F _ l _ HIT.out).mono ?_); rintro e W2 ⟨vl, rfl, hr2, hb2⟩; obtain ⟨Al, cl, rfl⟩ := Kd.R_slice hr2; have HI2 := Aside0.mk (HI1.out.step hb2); have HR2 := Aside0.mk hr2; clear hb2 hr2))
  clear hcp1 hpi1
  go_loopg [7, 27] (l.length + 1) (fun kq v7 v27 w' => ∃ (q : Nat) (x : Int), v7 = .int .i64 x ∧ v27 = .int .i64 (q : Int) ∧ Aside0 (kq + q = l.length + 1 ∧ q ≤ l.length) ∧ Aside0 (lbLeast wl x (l.drop q) = some X) ∧ Aside0 (w' = W2))
  case atStart => exact ⟨0, 0, rfl, rfl, ⟨rfl, Nat.zero_le _⟩, HX, ⟨rfl⟩⟩
  case round =>
    obtain ⟨q, x, rfl, rfl, HK, HLE, HW2⟩ := hrel
    obtain rfl := HW2.out
    cases gk with
    | zero => exact absurd HK.out (by omega)
    | succ k1 =>
      have hcw : wr.cell? ⟨S.gw, 0, none⟩ = some (.slice (some ⟨S.g, 0, none⟩) S.p.length S.cap) := (blk_cell HI2.out.cw 0).trans rfl
      by_cases hq : q < l.length
      · obtain ⟨gl, capl, ev, _⟩ := Kd.R_form HR2.out (by omega)
        injection ev with e1 e2 e3
        subst e1; subst e3
        clear e2
        have hc0 := Kd.R_cell (0 : Int) HR2.out (q : Int) (by omega) (by omega)
        rw [Int.toNat_natCast] at hc0
        have hcl : wr.cell? ⟨gl, q, none⟩ = some (.int .i64 (rd l (q : Int))) := hc0.1
        have hle := HLE.out
        rw [lb_cons hq] at hle
        unfold lbLeast at hle
        split at hle
        rotate_left
        · cases hle
        rename_i hj
        have hlen := HI2.out.len
        obtain ⟨jn, hjn⟩ : ∃ jn : Nat, rd l (q : Int) = (jn : Int) := ⟨(rd l (q : Int)).toNat, by omega⟩
        rw [hjn] at hle hcl hj
        have hcj := (lb_cell HI2.out jn (by omega)).1
        have HLE2 := Aside0.mk hle
        have c1 : (0 : Int) ≤ (q : Int) := by omega
        have c2 : (q : Int) < (l.length : Int) := by omega
        have c3 : decide ((q : Int) < (l.length : Int)) = true := decide_eq_true c2
        have c5 : decide (q < l.length) = true := decide_eq_true hq
        have c4 := eq_true hq
        have d1 : (0 : Int) ≤ (jn : Int) := by omega
        have d2 : (jn : Int) < (S.p.length : Int) := by omega
        have d3 : decide ((jn : Int) < (S.p.length : Int)) = true := decide_eq_true d2
        have d5 : decide (jn < S.p.length) = true := decide_eq_true (by omega)
        have d4 : (jn < S.p.length) = True := eq_true (by omega)
        have hwq : Aside0 (wrap64 ((q : Int) + 1) = ((q + 1 : Nat) : Int)) := ⟨lb_w64 (q + 1) (by have := HL.out; omega)⟩
        clear hc0 hle hj hjn hq HLE hlen
        go_wp2_with (fail)
        all_goals
          go_roundg k1
          case measure => omega
          case rel =>
            refine ⟨q + 1, _, rfl, by rw [hwq.out], ⟨by have := HK.out; omega⟩, ⟨?_⟩, ⟨rfl⟩⟩
            have h2 := HLE2.out
            unfold mx at h2
            split at h2
            all_goals first
              | exact h2
              | (exfalso; omega)
              | (have he : x = rd wl (jn : Int) := by omega
                 rw [he] at h2
                 exact h2)
      · have hql : q = l.length := by have := HK.out; omega
        have hle := HLE.out
        rw [hql, List.drop_length] at hle
        unfold lbLeast at hle
        obtain rfl := Option.some.inj hle
        have c3 : decide ((q : Int) < (l.length : Int)) = false := decide_eq_false (by omega)
        have c5 : decide (q < l.length) = false := decide_eq_false hq
        have c4 := eq_false hq
        clear hle hql hq HLE HK hcw
        go_wp2_with (fail)
        go_loopg [10] F (fun kr v10 w' => ∃ (kk : Int) (vo' : Value) (o' rest : List (List Int)) (f' : List Int), v10 = .int .i64 kk ∧ Aside0 (lbRow (lbPut F S.p S.m d (i + 1)) S.m i kr kk f' = some (rest, wl')) ∧ Aside0 (o' ++ rest = o ++ out) ∧ Aside0 (LbI S vo' o' f' w'))
        case atStart => exact ⟨x, vo, o, out, wl, rfl, HROW, ⟨rfl⟩, HI2⟩
        case round =>
          clear HI2 HR2
          obtain ⟨kk, vo', o', rest, f', rfl, HRO, HEQ, HI3⟩ := hrel
          cases gk with
          | zero => exact absurd HRO.out (by simp [lbRow])
          | succ k2 =>
            have hcm : wr.cell? ⟨S.gm, 0, none⟩ = some (.int .i64 S.m) := (blk_cell HI3.out.cm 0).trans rfl
            have hro := HRO.out
            unfold lbRow at hro
            by_cases hk : kk ≤ S.m
            · rw [if_pos hk] at hro
              obtain ⟨⟨o1, f1⟩, hA, hro⟩ := Option.bind_eq_some_iff.1 hro
              obtain ⟨⟨o2, f2⟩, hB, hro⟩ := Option.bind_eq_some_iff.1 hro
              obtain ⟨hE1, hE2⟩ : o1 ++ o2 = rest ∧ f2 = wl' := by simpa using hro
              subst hE2
              have HSZ : Aside0 ((o'.length + o1.length) * 24 ≤ 140737488355328) := ⟨by have h1 := congrArg List.length HEQ.out; have h2 := congrArg List.length hE1; have h3 := HOL.out; simp only [List.length_append] at h1 h2; omega⟩
              have HA := Aside0.mk hA
              have HB := Aside0.mk hB
              have HE := Aside0.mk hE1
              have hcw3 : wr.cell? ⟨S.gw, 0, none⟩ = some (.slice (some ⟨S.g, 0, none⟩) S.p.length S.cap) := (blk_cell HI3.out.cw 0).trans rfl
              have hci := (lb_cell HI3.out i HII.out).1
              have hfi := (lb_cell HI3.out i HII.out).2
              have HP := Aside0.mk (HI3.out.put_f hS i kk)
              have hcf4 : (wr.setCell ⟨S.g, i, none⟩ (.int .i64 kk)).cell? ⟨S.gf, 0, none⟩ = some (.func (.func 78) #[] S.caps) := (blk_cell HP.out.cf 0).trans rfl
              unfold LbA.caps at hcf4
              have hk1 : decide (kk ≤ S.m) = true := decide_eq_true hk
              have hwi : wrap64 ((i : Int) + 1) = (i : Int) + 1 := by unfold wrap64; have := HII.out; have := HN.out; omega
              clear hro hA hB hE1 HRO hk
              go_wp2_with (go_at_call 78; (with_reducible refine (IH.out _ _ _ HA.out HP.out HSZ.out).mono ?_); rintro e' W5 ⟨rfl, vo2, hI5⟩; have HI5 := Aside0.mk hI5; clear hI5)
              go_roundg k2
              case measure => omega
              case rel => exact ⟨wrap64 (kk + 1), vo2, o' ++ o1, o2, f1, rfl, HB, ⟨by rw [List.append_assoc, HE.out]; exact HEQ.out⟩, HI5⟩
            · rw [if_neg hk] at hro
              obtain ⟨hE1, hE2⟩ : [] = rest ∧ f' = wl' := by simpa using hro
              subst hE2
              have hk1 : decide (kk ≤ S.m) = false := decide_eq_false hk
              have HE : Aside0 (o' = o ++ out) := ⟨by have := HEQ.out; rwa [← hE1, List.append_nil] at this⟩
              clear hro hE1 HRO hk
              go_wp2_with (fail)
              exact bodyPost_end (v := .tuple #[]) (by simp [results, Try.results78, go_sem]) rfl ⟨rfl, vo', HE.out ▸ HI3.out⟩
theorem lb_put_calls {S : LbA} (hS : S.Ok) (F : Nat) : ∀ (d i : Nat) (wl wl' : List Int) (out : List (List Int)), lbPut F S.p S.m d i wl = some (out, wl') → ∀ {vo : Value} {o : List (List Int)} {W : World}, LbI S vo o wl W → (o.length + out.length) * 24 ≤ 140737488355328 →
    Calls Try.prog 78 #[.int .i64 (i : Int), .pointer (some ⟨S.gp, 0, none⟩), .pointer (some ⟨S.go, 0, none⟩), .pointer (some ⟨S.gw, 0, none⟩), .pointer (some ⟨S.gm, 0, none⟩), .pointer (some ⟨S.gf, 0, none⟩)] W fun e W' => e = .returned (.tuple #[]) ∧ ∃ vo', LbI S vo' (o ++ out) wl' W'
  | 0, _, _, _, _, h => by cases h
  | d + 1, i, wl, wl', out, h => by
    intro hI hol
    unfold lbPut at h
    by_cases hi : i = S.p.length
    · rw [if_pos hi] at h
      split at h
      rotate_left
      · cases h
      rename_i hlen
      obtain ⟨hE1, hE2⟩ : [wl] = out ∧ wl = wl' := by simpa using h
      subst hE1 hE2
      subst hi
      exact lb_all hS hI hlen (by simpa using hol)
    · rw [if_neg hi] at h
      split at h
      rotate_left
      · cases h
      rename_i hin
      obtain ⟨l, hit, h⟩ := Option.bind_eq_some_iff.1 h
      split at h
      rotate_left
      · cases h
      rename_i hl
      obtain ⟨X, hX, hrow⟩ := Option.bind_eq_some_iff.1 h
      refine lb_step hS F d i hin.1 hin.2 l X out wl wl' hit hl hX hrow ?_ hI hol
      intro wl wl' out hput _ _ _ hI hol
      have := lb_put_calls hS F d (i + 1) wl wl' out hput hI hol
      rwa [show ((i + 1 : Nat) : Int) = (i : Int) + 1 by omega] at this
theorem lb_empty {X : World} {base n e sz : Nat} (hn : base ≤ n) (hx : X.heap[n]? = some (.cells #[] e (0, 0))) : X.ownsRow base e sz (.slice (some ⟨n, 0, none⟩) 0 0) 0 [] :=
  ⟨by simp, .inr ⟨n, 0, #[], rfl, hn, hx, by omega, by omega, by simp, by simp⟩⟩
theorem lb_emptyR {α : Type} (d : Kd α) {X : World} {base n e : Nat} {ok : Nat → Prop} (hn : base ≤ n) (hx : X.heap[n]? = some (.cells #[] e (0, 0))) (hok : ok n) : d.R e X base ok (.slice (some ⟨n, 0, none⟩) 0 0) ([] : List α) :=
  ⟨fun k hk => by
    have : n = k := by simpa [Value.ownBlock] using hk
    exact this ▸ hok, [], lb_empty hn hx, Reps.none _ _⟩
theorem lb_made (n : Nat) : (madeCells #[Value.int .i64 0] n).toList = List.replicate n (Value.int .i64 0) := by
  apply List.ext_getElem
  · simp [size_madeCells]
  · intro i h1 h2
    simp [madeCells, Nat.mod_one]
theorem lb_zero {X : World} {base g n : Nat} (hg : base ≤ g) (hx : X.heap[g]? = some (.cells (madeCells #[.int .i64 0] n) 3 (0, 0))) (hn : n ≤ 1000) : Kd.R (Kd.int .i64) 3 X base (fun _ => True) (.slice (some ⟨g, 0, none⟩) (List.replicate n (0 : Int)).length n) (List.replicate n 0) := by
  have h : X.ownsRow base 3 1 (.slice (some ⟨g, 0, none⟩) (List.replicate n (0 : Int)).length n) (List.replicate n (0 : Int)).length (encs (Value.int .i64) (List.replicate n 0)) := by
    refine ⟨by simp [encs], .inr ⟨g, n, _, rfl, hg, hx, by simp, by show n ≤ maxLen; unfold maxLen; omega, by simp [size_madeCells], ?_⟩⟩
    rw [lb_made]
    simp [encs]
  exact Kd.R_of_own h (fun _ _ => trivial)
def impl_Poset_labels.f (k : Nat) (l0_0 : List Int) (a1 : Int) : Option (List (List Int)) :=
  if 1 ≤ l0_0.length ∧ l0_0.length ≤ 1000 then (lbPut k l0_0 a1 k 0 (List.replicate l0_0.length 0)).bind fun r => if r.1.length ≤ 100000 then some r.1 else none else none
theorem lbRow_mono {g g' : List Int → Option (List (List Int) × List Int)} (h : ∀ f, LeO (g f) (g' f)) (m : Int) (i : Nat) : ∀ e k f, LeO (lbRow g m i e k f) (lbRow g' m i (e + 1) k f)
  | 0, _, _ => fun r h => by cases h
  | e + 1, k, f => by
    unfold lbRow
    exact LeO.ite (LeO.bind (h _) (fun r => LeO.bind (lbRow_mono h m i e _ _) (fun _ => LeO.refl _))) (LeO.refl _)
theorem lbPut_mono (p : List Int) (m : Int) (k : Nat) : ∀ d i f, LeO (lbPut k p m d i f) (lbPut (k + 1) p m (d + 1) i f)
  | 0, _, _ => fun r h => by cases h
  | d + 1, i, f => by
    unfold lbPut
    exact LeO.ite (LeO.refl _) (LeO.ite (LeO.bind (impl_items.mono _ _) (fun l => LeO.ite (LeO.bind (LeO.refl _) (fun x => lbRow_mono (fun f => lbPut_mono p m k d _ f) m i k x f)) (LeO.refl _))) (LeO.refl _))
theorem impl_Poset_labels.mono : ∀ a0 a1 k, LeO (impl_Poset_labels.f k a0 a1) (impl_Poset_labels.f (k + 1) a0 a1) := fun a0 a1 k => by
  unfold impl_Poset_labels.f
  exact LeO.ite (LeO.bind (lbPut_mono _ _ _ _ _ _) (fun _ => LeO.refl _)) (LeO.refl _)
set_option maxHeartbeats 8000000 in
set_option maxRecDepth 100000 in
theorem impl_Poset_labels.calls (k : Nat) (A0_0 : Option Addr) (c0_0 : Nat) (l0_0 : List Int) (a1 : Int) (r : List (List Int)) (w : World) (hr0_0 : Kd.C (Kd.int .i64) w A0_0 l0_0.length l0_0) (hc0_0 : l0_0.length ≤ c0_0) (h : impl_Poset_labels.f k l0_0 a1 = some r) :
    Calls Try.prog 57 #[.agg #[.slice A0_0 l0_0.length c0_0], .int .i64 a1] w fun e w' => ∃ v0_ : Value, e = .returned (v0_) ∧ Kd.S (Kd.slice 3 (Kd.int .i64)) 25 w' w.heap.size (fun _ => True) v0_ r ∧ Below w.heap.size w w' := by
  have hu30 := Try.underlying30
  have hmf : ∀ (fn : Fn) (first cap : Array Value) (w : World), (Instr.makeFunc fn first cap).run Try.prog w = .ok (.func fn first cap) w := fun _ _ _ _ => rfl
  unfold impl_Poset_labels.f at h
  split at h
  rotate_left
  · cases h
  rename_i hin
  obtain ⟨⟨o, wl'⟩, hput, h⟩ := Option.bind_eq_some_iff.1 h
  split at h
  rotate_left
  · cases h
  rename_i hol
  obtain rfl := Option.some.inj h
  have HR := Aside0.mk hr0_0
  have HC := Aside0.mk hc0_0
  have HPUT := Aside0.mk hput
  have HOL := Aside0.mk hol
  have HIN := Aside0.mk hin
  have hms : ∀ W : World, (Instr.makeSlice 25 (.int .i64 (l0_0.length : Int)) (.int .i64 (l0_0.length : Int))).run Try.prog W = .ok (.slice (some ⟨W.heap.size, 0, none⟩) l0_0.length l0_0.length) (W.alloc (.cells (madeCells #[.int .i64 0] l0_0.length) 3 (0, 0))) := fun W => by
    obtain ⟨i0, hi, hzz⟩ := Option.map_eq_some_iff.1 info3
    simp only [Prod.mk.injEq] at hzz
    obtain ⟨hz0, hz1, hz2⟩ := hzz
    have hr := run_make (P := Try.prog) W 25 3 i0 (.int .i64 0) Try.underlying25 hi hz0 .i64 .i64 (l0_0.length : Int) (l0_0.length : Int) (by omega) (by omega) (by rw [hz2]; omega) (by omega)
    rw [hz1] at hr
    simp only [Int.toNat_natCast, Nat.mul_one] at hr
    exact hr
  clear h hr0_0 hc0_0 hput hol hin
  go_enter Try.func57, Try.ntmps57
  go_wp2_with (fail)
  obtain ⟨W0, hW0⟩ : ∃ W, W = ((w.alloc (.cells #[.slice A0_0 l0_0.length c0_0] 30 (0, 0))).alloc (.cells #[.int .i64 a1] 3 (0, 0))).drew := ⟨_, rfl⟩
  have HB0 : Aside0 (Below w.heap.size w W0) := ⟨by rw [hW0]; exact below_drew (below_alloc (below_alloc (Below.refl _ _) _) _)⟩
  have HP0 : Aside0 (W0.heap[w.heap.size]? = some (.cells #[.slice A0_0 l0_0.length c0_0] 30 (0, 0))) := ⟨by rw [hW0]; exact blk_drew (blk_alloc (blk_new w _) _)⟩
  have HM0 : Aside0 (W0.heap[w.heap.size + 1]? = some (.cells #[.int .i64 a1] 3 (0, 0))) := ⟨by
    rw [hW0]
    have := blk_new (w.alloc (.cells #[.slice A0_0 l0_0.length c0_0] 30 (0, 0))) (.cells #[.int .i64 a1] 3 (0, 0))
    rw [show (w.alloc (.cells #[.slice A0_0 l0_0.length c0_0] 30 (0, 0))).heap.size = w.heap.size + 1 by simp] at this
    exact blk_drew this⟩
  have hSof : ∀ w', Below W0.heap.size W0 w' → w'.cell? ⟨w.heap.size, 0, none⟩ = some (.slice A0_0 l0_0.length c0_0) := fun w' hB => (blk_cell (blk_below HP0.out hB) 0).trans rfl
  refine start_ (n := 8) (S := fun w' => w'.cell? ⟨w.heap.size, 0, none⟩ = some (.slice A0_0 l0_0.length c0_0)) (ds := []) #[false, false, false, false, false, false, false, false] (by kernel_rfl) rfl rfl (by rw [← hW0]; exact hSof _ (Below.refl _ _)) (fun hHeld => ?_)
  rw [← hW0] at hHeld ⊢
  clear hW0
  refine take_ (i := 1) (N := some 9) (v := ?_) (a' := ?_) #[false, true, false, false, false, false, false, false] rfl rfl (by kernel_rfl) (fun _ _ _ h => h) (Or.inl ⟨by rfl, ?_⟩) hHeld ?_ ?_
  rotate_left
  · intro w' s0
    go_simp
    with_reducible rfl
  rotate_left
  · simp only [Act.put, List.setIfInBounds_toArray, List.set_cons_zero, List.set_cons_succ, i64_w, i32_w]
    rfl
  refine join_ (σ := Nat × Nat × Nat × Nat) 1 #[true, true, true, true, true, true, true, false] (fun s => [(8, .slice (some ⟨s.1, 0, none⟩) 0 0), (10, .int .i64 (l0_0.length : Int)), (11, .slice (some ⟨s.2.1, 0, none⟩) l0_0.length l0_0.length), (5, .pointer (some ⟨s.2.2.1, 0, none⟩)), (6, .pointer (some ⟨s.2.2.2, 0, none⟩))]) (fun s w' => Below W0.heap.size W0 w' ∧ (W0.heap.size ≤ s.1 ∧ w'.heap[s.1]? = some (.cells #[] 25 (0, 0))) ∧ (W0.heap.size ≤ s.2.1 ∧ w'.heap[s.2.1]? = some (.cells (madeCells #[.int .i64 0] l0_0.length) 3 (0, 0))) ∧ (W0.heap.size ≤ s.2.2.1 ∧ w'.heap[s.2.2.1]? = some (.cells #[.slice (some ⟨s.1, 0, none⟩) 0 0] 58 (0, 0))) ∧ (W0.heap.size ≤ s.2.2.2 ∧ w'.heap[s.2.2.2]? = some (.cells #[.slice none 0 0] 25 (0, 0)))) ?_ (fun J21111 => ?_)
  · rintro ⟨b0, g, go, gw⟩ w' ⟨hB, ⟨l0, h0⟩, ⟨lg, hg⟩, ⟨l4, h4⟩, ⟨l5, h5⟩⟩
    refine norm_ (a' := ?_) ?_ ?_
    rotate_left
    · show putAll _ _ = _
      simp only [putAll, Act.put, List.setIfInBounds_toArray, List.set_cons_zero, List.set_cons_succ]
      rfl
    refine wpAnyLast_ready (rs := [7]) (by kernel_rfl) (by simp) ?_
    refine AllReadyL.cons rfl (by decide) (fun K hK => ?_) ?_
    · have hcg : w'.cell? ⟨gw, 0, none⟩ = some (.slice none 0 0) := (blk_cell h5 0).trans rfl
      have hfg := blk_frozen h5 0
      go_simp
      refine hK.out _ _ (hSof _ (hB.setCell l5 _)) (fun _ => ?_)
      refine done_ (by kernel_rfl) ?_
      dsimp only at l0 h0 lg hg l4 h4 l5 h5
      have hn05 : b0 ≠ gw := fun e_ => by rw [e_, h5] at h0; simp at h0
      have n45 := blk_ne h4 h5 (by decide)
      have ng5 := blk_ne hg h5 (by decide)
      have hpw := blk_below HP0.out hB
      have hmw := blk_below HM0.out hB
      have np5 := blk_ne hpw h5 (by decide)
      have nm5 := blk_ne hmw h5 (by decide)
      have np4 := blk_ne hpw h4 (by decide)
      have nm4 := blk_ne hmw h4 (by decide)
      have npg := blk_ne hpw hg (by decide)
      have ng4 := blk_ne hg h4 (by decide)
      have n04 := blk_ne h0 h4 (by decide)
      have n0p := blk_ne h0 hpw (by decide)
      have n0m := blk_ne h0 hmw (by decide)
      have n0g := blk_ne h0 hg (by decide)
      have nmg : w.heap.size + 1 ≠ g := by have := blk_lt HM0.out; omega
      have hsz0 := HB0.out.size
      have K0 := Aside0.mk (blk_far (p := ⟨gw, 0, none⟩) h0 hn05 (.slice (some ⟨g, 0, none⟩) l0_0.length l0_0.length))
      have KG := Aside0.mk (blk_far (p := ⟨gw, 0, none⟩) hg ng5 (.slice (some ⟨g, 0, none⟩) l0_0.length l0_0.length))
      have K4 := Aside0.mk (blk_far (p := ⟨gw, 0, none⟩) h4 n45 (.slice (some ⟨g, 0, none⟩) l0_0.length l0_0.length))
      have K5 : Aside0 ((w'.setCell ⟨gw, 0, none⟩ (.slice (some ⟨g, 0, none⟩) l0_0.length l0_0.length)).heap[gw]? = some (.cells #[.slice (some ⟨g, 0, none⟩) l0_0.length l0_0.length] 25 (0, 0))) := ⟨blk_put h5 0 _ rfl⟩
      have KP := Aside0.mk (blk_far (p := ⟨gw, 0, none⟩) hpw np5 (.slice (some ⟨g, 0, none⟩) l0_0.length l0_0.length))
      have KM := Aside0.mk (blk_far (p := ⟨gw, 0, none⟩) hmw nm5 (.slice (some ⟨g, 0, none⟩) l0_0.length l0_0.length))
      have KB : Aside0 (Below w.heap.size w (w'.setCell ⟨gw, 0, none⟩ (.slice (some ⟨g, 0, none⟩) l0_0.length l0_0.length))) := ⟨(HB0.out.trans (hB.mono HB0.out.size)).setCell (by show w.heap.size ≤ gw; omega) _⟩
      clear hcg hfg
      obtain ⟨W1, hW1⟩ : ∃ x, x = w'.setCell ⟨gw, 0, none⟩ (.slice (some ⟨g, 0, none⟩) l0_0.length l0_0.length) := ⟨_, rfl⟩
      rw [← hW1] at K0 KG K4 K5 KP KM KB ⊢
      clear hW1
      have q0 := blk_lt K0.out
      have qg := blk_lt KG.out
      have q4 := blk_lt K4.out
      have q5 := blk_lt K5.out
      have qp := blk_lt KP.out
      have qm := blk_lt KM.out
      obtain ⟨S, hS0⟩ : ∃ S : LbA, S = ⟨w.heap.size, go, gw, w.heap.size + 1, W1.heap.size, g, l0_0.length, A0_0, c0_0, l0_0, a1, w⟩ := ⟨_, rfl⟩
      have hSo : S.Ok := by
        subst hS0
        exact ⟨HR.out, HC.out, by show w.heap.size ≤ go; omega, by show w.heap.size ≤ g; omega, np4, fun e_ => n45 e_.symm, nm4, by show W1.heap.size ≠ go; omega, ng4, npg, fun e_ => ng5 e_.symm, nmg, by show W1.heap.size ≠ g; omega⟩
      have hI : LbI S (.slice (some ⟨b0, 0, none⟩) 0 0) [] (List.replicate l0_0.length 0) (W1.alloc (.cells #[.func (.func 78) #[] S.caps] 71 (0, 0))) := by
        subst hS0
        refine ⟨below_alloc KB.out _, blk_alloc KP.out _, blk_alloc K4.out _, blk_alloc K5.out _, blk_alloc KM.out _, blk_new W1 _, ⟨fun _ => 0, lb_emptyR _ (by show w.heap.size ≤ b0; omega) (blk_alloc K0.out _) ⟨n0p, n04, hn05, n0m, by show b0 ≠ W1.heap.size; omega, n0g⟩⟩, by simp, lb_zero (by show w.heap.size ≤ g; omega) (blk_alloc KG.out _) HIN.out.2⟩
      have hcaps : S.caps = #[.pointer (some ⟨w.heap.size, 0, none⟩), .pointer (some ⟨go, 0, none⟩), .pointer (some ⟨gw, 0, none⟩), .pointer (some ⟨w.heap.size + 1, 0, none⟩), .pointer (some ⟨W1.heap.size, 0, none⟩)] := by subst hS0; rfl
      have hcall := lb_put_calls hSo k k 0 (List.replicate l0_0.length 0) wl' o (by subst hS0; exact HPUT.out) hI (by have := HOL.out; simp; omega)
      rw [hcaps] at hcall
      have hfin : ∀ vo' W5, LbI S vo' ([] ++ o) wl' W5 → W5.heap[go]? = some (.cells #[vo'] 58 (0, 0)) ∧ Kd.S (Kd.slice 3 (Kd.int .i64)) 25 W5 w.heap.size (fun _ => True) vo' o ∧ Below w.heap.size w W5 := fun vo' W5 h => by
        subst hS0
        exact ⟨h.co, Kd.S_mono h.HO (fun _ _ => trivial), h.below⟩
      have HCALL : Aside0 (Calls Try.prog 78 #[.int .i64 0, .pointer (some ⟨w.heap.size, 0, none⟩), .pointer (some ⟨go, 0, none⟩), .pointer (some ⟨gw, 0, none⟩), .pointer (some ⟨w.heap.size + 1, 0, none⟩), .pointer (some ⟨W1.heap.size, 0, none⟩)] (W1.alloc (.cells #[.func (.func 78) #[] #[.pointer (some ⟨w.heap.size, 0, none⟩), .pointer (some ⟨go, 0, none⟩), .pointer (some ⟨gw, 0, none⟩), .pointer (some ⟨w.heap.size + 1, 0, none⟩), .pointer (some ⟨W1.heap.size, 0, none⟩)]] 71 (0, 0))) fun e W' => e = .returned (.tuple #[]) ∧ ∃ vo', W'.heap[go]? = some (.cells #[vo'] 58 (0, 0)) ∧ Kd.S (Kd.slice 3 (Kd.int .i64)) 25 W' w.heap.size (fun _ => True) vo' o ∧ Below w.heap.size w W') := ⟨by
        subst hS0
        refine Calls.mono hcall ?_
        rintro e W5 ⟨rfl, vo', h⟩
        exact ⟨rfl, vo', hfin vo' W5 h⟩⟩
      clear hcall hI hSo hfin hcaps hS0 h0 hg h4 h5 hB hpw hmw
      go_wp2_with (fail)
      refine HCALL.out.mono ?_
      rintro e W5 ⟨rfl, vo', k5, ks, kb⟩
      obtain ⟨A5, c5, e5⟩ := Kd.R_slice (Kd.S_R ks)
      subst e5
      have hco5 : W5.cell? ⟨go, 0, none⟩ = some (.slice A5 o.length c5) := (blk_cell k5 0).trans rfl
      have KS := Aside0.mk ks
      have KB5 := Aside0.mk kb
      clear ks kb k5 HCALL
      go_wp2_with (fail)
      go_ret
      exact ⟨_, rfl, KS.out, KB5.out⟩
    exact AllReadyL.nil
  refine join_ (σ := Nat × Nat × Nat × Nat) 2 #[true, true, true, false, true, true, true, false] (fun s => [(8, .slice (some ⟨s.1, 0, none⟩) 0 0), (10, .int .i64 (l0_0.length : Int)), (5, .pointer (some ⟨s.2.2.1, 0, none⟩)), (6, .pointer (some ⟨s.2.2.2, 0, none⟩))]) (fun s w' => Below W0.heap.size W0 w' ∧ (W0.heap.size ≤ s.1 ∧ w'.heap[s.1]? = some (.cells #[] 25 (0, 0))) ∧ (W0.heap.size ≤ s.2.2.1 ∧ w'.heap[s.2.2.1]? = some (.cells #[.slice (some ⟨s.1, 0, none⟩) 0 0] 58 (0, 0))) ∧ (W0.heap.size ≤ s.2.2.2 ∧ w'.heap[s.2.2.2]? = some (.cells #[.slice none 0 0] 25 (0, 0)))) ?_ (fun J11111 => ?_)
  · rintro ⟨b0, g, go, gw⟩ w' ⟨hB, ⟨l0, h0⟩, ⟨l4, h4⟩, ⟨l5, h5⟩⟩
    refine norm_ (a' := ?_) ?_ ?_
    rotate_left
    · show putAll _ _ = _
      simp only [putAll, Act.put, List.setIfInBounds_toArray, List.set_cons_zero, List.set_cons_succ]
      rfl
    refine wpAnyLast_ready (rs := [3]) (by kernel_rfl) (by simp) ?_
    refine AllReadyL.cons rfl (by decide) (fun K hK => ?_) ?_
    · refine value_ (w1 := ?_) (v := ?_) (by rfl) rfl ?_ ?_
      rotate_left 2
      · go_simp
        constructor
        · rfl
        · rfl
      refine hK.out _ _ (hSof _ (below_alloc hB _)) (fun _ => ?_)
      exact norm_ (by rfl) (J21111 (b0, w'.heap.size, go, gw) _ ⟨below_alloc hB _, ⟨l0, blk_alloc h0 _⟩, ⟨hB.size, blk_new w' _⟩, ⟨l4, blk_alloc h4 _⟩, ⟨l5, blk_alloc h5 _⟩⟩)
    exact AllReadyL.nil
  refine join_ (σ := Nat × Nat × Nat × Nat) 2 #[true, true, true, true, true, true, false, false] (fun s => [(8, .slice (some ⟨s.1, 0, none⟩) 0 0), (10, .int .i64 (l0_0.length : Int)), (11, .slice (some ⟨s.2.1, 0, none⟩) l0_0.length l0_0.length), (5, .pointer (some ⟨s.2.2.1, 0, none⟩)), (6, .pointer (some ⟨s.2.2.2, 0, none⟩))]) (fun s w' => Below W0.heap.size W0 w' ∧ (W0.heap.size ≤ s.1 ∧ w'.heap[s.1]? = some (.cells #[] 25 (0, 0))) ∧ (W0.heap.size ≤ s.2.1 ∧ w'.heap[s.2.1]? = some (.cells (madeCells #[.int .i64 0] l0_0.length) 3 (0, 0))) ∧ (W0.heap.size ≤ s.2.2.1 ∧ w'.heap[s.2.2.1]? = some (.cells #[.slice none 0 0] 58 (0, 0))) ∧ (W0.heap.size ≤ s.2.2.2 ∧ w'.heap[s.2.2.2]? = some (.cells #[.slice none 0 0] 25 (0, 0)))) ?_ (fun J21110 => ?_)
  · rintro ⟨b0, g, go, gw⟩ w' ⟨hB, ⟨l0, h0⟩, ⟨lg, hg⟩, ⟨l4, h4⟩, ⟨l5, h5⟩⟩
    refine norm_ (a' := ?_) ?_ ?_
    rotate_left
    · show putAll _ _ = _
      simp only [putAll, Act.put, List.setIfInBounds_toArray, List.set_cons_zero, List.set_cons_succ]
      rfl
    refine wpAnyLast_ready (rs := [6]) (by kernel_rfl) (by simp) ?_
    refine AllReadyL.cons rfl (by decide) (fun K hK => ?_) ?_
    · have hcg : w'.cell? ⟨go, 0, none⟩ = some (.slice none 0 0) := (blk_cell h4 0).trans rfl
      have hfg := blk_frozen h4 0
      go_simp
      refine hK.out _ _ (hSof _ (hB.setCell l4 _)) (fun _ => ?_)
      exact norm_ (by rfl) (J21111 (b0, g, go, gw) _ ⟨hB.setCell l4 _, ⟨l0, blk_far h0 (blk_ne h0 h4 (by decide)) _⟩, ⟨lg, blk_far hg (blk_ne hg h4 (by decide)) _⟩, ⟨l4, blk_put h4 0 _ rfl⟩, ⟨l5, blk_far h5 (blk_ne h5 h4 (by decide)) _⟩⟩)
    exact AllReadyL.nil
  refine join_ (σ := Nat × Nat × Nat × Nat) 3 #[true, true, true, false, true, true, false, false] (fun s => [(8, .slice (some ⟨s.1, 0, none⟩) 0 0), (10, .int .i64 (l0_0.length : Int)), (5, .pointer (some ⟨s.2.2.1, 0, none⟩)), (6, .pointer (some ⟨s.2.2.2, 0, none⟩))]) (fun s w' => Below W0.heap.size W0 w' ∧ (W0.heap.size ≤ s.1 ∧ w'.heap[s.1]? = some (.cells #[] 25 (0, 0))) ∧ (W0.heap.size ≤ s.2.2.1 ∧ w'.heap[s.2.2.1]? = some (.cells #[.slice none 0 0] 58 (0, 0))) ∧ (W0.heap.size ≤ s.2.2.2 ∧ w'.heap[s.2.2.2]? = some (.cells #[.slice none 0 0] 25 (0, 0)))) ?_ (fun J11110 => ?_)
  · rintro ⟨b0, g, go, gw⟩ w' ⟨hB, ⟨l0, h0⟩, ⟨l4, h4⟩, ⟨l5, h5⟩⟩
    refine norm_ (a' := ?_) ?_ ?_
    rotate_left
    · show putAll _ _ = _
      simp only [putAll, Act.put, List.setIfInBounds_toArray, List.set_cons_zero, List.set_cons_succ]
      rfl
    refine wpAnyLast_ready (rs := [3, 6]) (by kernel_rfl) (by simp) ?_
    refine AllReadyL.cons rfl (by decide) (fun K hK => ?_) ?_
    · refine value_ (w1 := ?_) (v := ?_) (by rfl) rfl ?_ ?_
      rotate_left 2
      · go_simp
        constructor
        · rfl
        · rfl
      refine hK.out _ _ (hSof _ (below_alloc hB _)) (fun _ => ?_)
      exact norm_ (by rfl) (J21110 (b0, w'.heap.size, go, gw) _ ⟨below_alloc hB _, ⟨l0, blk_alloc h0 _⟩, ⟨hB.size, blk_new w' _⟩, ⟨l4, blk_alloc h4 _⟩, ⟨l5, blk_alloc h5 _⟩⟩)
    refine AllReadyL.cons rfl (by decide) (fun K hK => ?_) ?_
    · have hcg : w'.cell? ⟨go, 0, none⟩ = some (.slice none 0 0) := (blk_cell h4 0).trans rfl
      have hfg := blk_frozen h4 0
      go_simp
      refine hK.out _ _ (hSof _ (hB.setCell l4 _)) (fun _ => ?_)
      exact norm_ (by rfl) (J11111 (b0, g, go, gw) _ ⟨hB.setCell l4 _, ⟨l0, blk_far h0 (blk_ne h0 h4 (by decide)) _⟩, ⟨l4, blk_put h4 0 _ rfl⟩, ⟨l5, blk_far h5 (blk_ne h5 h4 (by decide)) _⟩⟩)
    exact AllReadyL.nil
  refine join_ (σ := Nat × Nat × Nat × Nat) 3 #[false, true, true, true, true, true, false, false] (fun s => [(10, .int .i64 (l0_0.length : Int)), (11, .slice (some ⟨s.2.1, 0, none⟩) l0_0.length l0_0.length), (5, .pointer (some ⟨s.2.2.1, 0, none⟩)), (6, .pointer (some ⟨s.2.2.2, 0, none⟩))]) (fun s w' => Below W0.heap.size W0 w' ∧ (W0.heap.size ≤ s.2.1 ∧ w'.heap[s.2.1]? = some (.cells (madeCells #[.int .i64 0] l0_0.length) 3 (0, 0))) ∧ (W0.heap.size ≤ s.2.2.1 ∧ w'.heap[s.2.2.1]? = some (.cells #[.slice none 0 0] 58 (0, 0))) ∧ (W0.heap.size ≤ s.2.2.2 ∧ w'.heap[s.2.2.2]? = some (.cells #[.slice none 0 0] 25 (0, 0)))) ?_ (fun J20110 => ?_)
  · rintro ⟨b0, g, go, gw⟩ w' ⟨hB, ⟨lg, hg⟩, ⟨l4, h4⟩, ⟨l5, h5⟩⟩
    refine norm_ (a' := ?_) ?_ ?_
    rotate_left
    · show putAll _ _ = _
      simp only [putAll, Act.put, List.setIfInBounds_toArray, List.set_cons_zero, List.set_cons_succ]
      rfl
    refine wpAnyLast_ready (rs := [0]) (by kernel_rfl) (by simp) ?_
    refine AllReadyL.cons rfl (by decide) (fun K hK => ?_) ?_
    · refine value_ (w1 := ?_) (v := ?_) (by rfl) rfl ?_ ?_
      rotate_left 2
      · go_simp
        constructor
        · rfl
        · rfl
      refine hK.out _ _ (hSof _ (below_alloc hB _)) (fun _ => ?_)
      exact norm_ (by rfl) (J21110 (w'.heap.size, g, go, gw) _ ⟨below_alloc hB _, ⟨hB.size, blk_new w' _⟩, ⟨lg, blk_alloc hg _⟩, ⟨l4, blk_alloc h4 _⟩, ⟨l5, blk_alloc h5 _⟩⟩)
    exact AllReadyL.nil
  refine join_ (σ := Nat × Nat × Nat × Nat) 3 #[true, true, true, true, false, true, false, false] (fun s => [(8, .slice (some ⟨s.1, 0, none⟩) 0 0), (10, .int .i64 (l0_0.length : Int)), (11, .slice (some ⟨s.2.1, 0, none⟩) l0_0.length l0_0.length), (6, .pointer (some ⟨s.2.2.2, 0, none⟩))]) (fun s w' => Below W0.heap.size W0 w' ∧ (W0.heap.size ≤ s.1 ∧ w'.heap[s.1]? = some (.cells #[] 25 (0, 0))) ∧ (W0.heap.size ≤ s.2.1 ∧ w'.heap[s.2.1]? = some (.cells (madeCells #[.int .i64 0] l0_0.length) 3 (0, 0))) ∧ (W0.heap.size ≤ s.2.2.2 ∧ w'.heap[s.2.2.2]? = some (.cells #[.slice none 0 0] 25 (0, 0)))) ?_ (fun J21010 => ?_)
  · rintro ⟨b0, g, go, gw⟩ w' ⟨hB, ⟨l0, h0⟩, ⟨lg, hg⟩, ⟨l5, h5⟩⟩
    refine norm_ (a' := ?_) ?_ ?_
    rotate_left
    · show putAll _ _ = _
      simp only [putAll, Act.put, List.setIfInBounds_toArray, List.set_cons_zero, List.set_cons_succ]
      rfl
    refine wpAnyLast_ready (rs := [4]) (by kernel_rfl) (by simp) ?_
    refine AllReadyL.cons rfl (by decide) (fun K hK => ?_) ?_
    · refine value_ (w1 := ?_) (v := ?_) (by rfl) rfl ?_ ?_
      rotate_left 2
      · go_simp
        constructor
        · rfl
        · rfl
      refine hK.out _ _ (hSof _ (below_alloc hB _)) (fun _ => ?_)
      exact norm_ (by rfl) (J21110 (b0, g, w'.heap.size, gw) _ ⟨below_alloc hB _, ⟨l0, blk_alloc h0 _⟩, ⟨lg, blk_alloc hg _⟩, ⟨hB.size, blk_new w' _⟩, ⟨l5, blk_alloc h5 _⟩⟩)
    exact AllReadyL.nil
  refine join_ (σ := Nat × Nat × Nat × Nat) 3 #[true, true, true, true, true, false, false, false] (fun s => [(8, .slice (some ⟨s.1, 0, none⟩) 0 0), (10, .int .i64 (l0_0.length : Int)), (11, .slice (some ⟨s.2.1, 0, none⟩) l0_0.length l0_0.length), (5, .pointer (some ⟨s.2.2.1, 0, none⟩))]) (fun s w' => Below W0.heap.size W0 w' ∧ (W0.heap.size ≤ s.1 ∧ w'.heap[s.1]? = some (.cells #[] 25 (0, 0))) ∧ (W0.heap.size ≤ s.2.1 ∧ w'.heap[s.2.1]? = some (.cells (madeCells #[.int .i64 0] l0_0.length) 3 (0, 0))) ∧ (W0.heap.size ≤ s.2.2.1 ∧ w'.heap[s.2.2.1]? = some (.cells #[.slice none 0 0] 58 (0, 0)))) ?_ (fun J21100 => ?_)
  · rintro ⟨b0, g, go, gw⟩ w' ⟨hB, ⟨l0, h0⟩, ⟨lg, hg⟩, ⟨l4, h4⟩⟩
    refine norm_ (a' := ?_) ?_ ?_
    rotate_left
    · show putAll _ _ = _
      simp only [putAll, Act.put, List.setIfInBounds_toArray, List.set_cons_zero, List.set_cons_succ]
      rfl
    refine wpAnyLast_ready (rs := [5]) (by kernel_rfl) (by simp) ?_
    refine AllReadyL.cons rfl (by decide) (fun K hK => ?_) ?_
    · refine value_ (w1 := ?_) (v := ?_) (by rfl) rfl ?_ ?_
      rotate_left 2
      · go_simp
        constructor
        · rfl
        · rfl
      refine hK.out _ _ (hSof _ (below_alloc hB _)) (fun _ => ?_)
      exact norm_ (by rfl) (J21110 (b0, g, go, w'.heap.size) _ ⟨below_alloc hB _, ⟨l0, blk_alloc h0 _⟩, ⟨lg, blk_alloc hg _⟩, ⟨l4, blk_alloc h4 _⟩, ⟨hB.size, blk_new w' _⟩⟩)
    exact AllReadyL.nil
  refine join_ (σ := Nat × Nat × Nat × Nat) 4 #[true, true, false, false, true, true, false, false] (fun s => [(8, .slice (some ⟨s.1, 0, none⟩) 0 0), (5, .pointer (some ⟨s.2.2.1, 0, none⟩)), (6, .pointer (some ⟨s.2.2.2, 0, none⟩))]) (fun s w' => Below W0.heap.size W0 w' ∧ (W0.heap.size ≤ s.1 ∧ w'.heap[s.1]? = some (.cells #[] 25 (0, 0))) ∧ (W0.heap.size ≤ s.2.2.1 ∧ w'.heap[s.2.2.1]? = some (.cells #[.slice none 0 0] 58 (0, 0))) ∧ (W0.heap.size ≤ s.2.2.2 ∧ w'.heap[s.2.2.2]? = some (.cells #[.slice none 0 0] 25 (0, 0)))) ?_ (fun J01110 => ?_)
  · rintro ⟨b0, g, go, gw⟩ w' ⟨hB, ⟨l0, h0⟩, ⟨l4, h4⟩, ⟨l5, h5⟩⟩
    refine norm_ (a' := ?_) ?_ ?_
    rotate_left
    · show putAll _ _ = _
      simp only [putAll, Act.put, List.setIfInBounds_toArray, List.set_cons_zero, List.set_cons_succ]
      rfl
    refine wpAnyLast_ready (rs := [2]) (by kernel_rfl) (by simp) ?_
    refine AllReadyL.cons rfl (by decide) (fun K hK => ?_) ?_
    · refine goes_ Try.func70 (by kernel_rfl) rfl #[.agg #[.slice A0_0 l0_0.length c0_0]] (by rfl) rfl rfl (by (try simp only [List.map_toArray, List.map_cons, List.map_nil]); first | done | rfl) ?_
      with_reducible refine (impl_Poset_n.calls A0_0 c0_0 l0_0 (l0_0.length : Int) _ (Kd.C_below HR.out (HB0.out.trans (hB.mono HB0.out.size))) HC.out rfl).mono ?_
      rintro e w1 ⟨rfl, hb⟩
      refine ⟨_, rfl, ?_⟩
      refine hK.out _ _ (hSof _ (below_step hB hb)) (fun _ => ?_)
      exact norm_ (by rfl) (J11110 (b0, g, go, gw) _ ⟨below_step hB hb, ⟨l0, blk_below h0 hb⟩, ⟨l4, blk_below h4 hb⟩, ⟨l5, blk_below h5 hb⟩⟩)
    exact AllReadyL.nil
  refine join_ (σ := Nat × Nat × Nat × Nat) 4 #[false, true, true, false, true, true, false, false] (fun s => [(10, .int .i64 (l0_0.length : Int)), (5, .pointer (some ⟨s.2.2.1, 0, none⟩)), (6, .pointer (some ⟨s.2.2.2, 0, none⟩))]) (fun s w' => Below W0.heap.size W0 w' ∧ (W0.heap.size ≤ s.2.2.1 ∧ w'.heap[s.2.2.1]? = some (.cells #[.slice none 0 0] 58 (0, 0))) ∧ (W0.heap.size ≤ s.2.2.2 ∧ w'.heap[s.2.2.2]? = some (.cells #[.slice none 0 0] 25 (0, 0)))) ?_ (fun J10110 => ?_)
  · rintro ⟨b0, g, go, gw⟩ w' ⟨hB, ⟨l4, h4⟩, ⟨l5, h5⟩⟩
    refine norm_ (a' := ?_) ?_ ?_
    rotate_left
    · show putAll _ _ = _
      simp only [putAll, Act.put, List.setIfInBounds_toArray, List.set_cons_zero, List.set_cons_succ]
      rfl
    refine wpAnyLast_ready (rs := [0, 3]) (by kernel_rfl) (by simp) ?_
    refine AllReadyL.cons rfl (by decide) (fun K hK => ?_) ?_
    · refine value_ (w1 := ?_) (v := ?_) (by rfl) rfl ?_ ?_
      rotate_left 2
      · go_simp
        constructor
        · rfl
        · rfl
      refine hK.out _ _ (hSof _ (below_alloc hB _)) (fun _ => ?_)
      exact norm_ (by rfl) (J11110 (w'.heap.size, g, go, gw) _ ⟨below_alloc hB _, ⟨hB.size, blk_new w' _⟩, ⟨l4, blk_alloc h4 _⟩, ⟨l5, blk_alloc h5 _⟩⟩)
    refine AllReadyL.cons rfl (by decide) (fun K hK => ?_) ?_
    · refine value_ (w1 := ?_) (v := ?_) (by rfl) rfl ?_ ?_
      rotate_left 2
      · go_simp
        constructor
        · rfl
        · rfl
      refine hK.out _ _ (hSof _ (below_alloc hB _)) (fun _ => ?_)
      exact norm_ (by rfl) (J20110 (b0, w'.heap.size, go, gw) _ ⟨below_alloc hB _, ⟨hB.size, blk_new w' _⟩, ⟨l4, blk_alloc h4 _⟩, ⟨l5, blk_alloc h5 _⟩⟩)
    exact AllReadyL.nil
  refine join_ (σ := Nat × Nat × Nat × Nat) 4 #[true, true, true, false, false, true, false, false] (fun s => [(8, .slice (some ⟨s.1, 0, none⟩) 0 0), (10, .int .i64 (l0_0.length : Int)), (6, .pointer (some ⟨s.2.2.2, 0, none⟩))]) (fun s w' => Below W0.heap.size W0 w' ∧ (W0.heap.size ≤ s.1 ∧ w'.heap[s.1]? = some (.cells #[] 25 (0, 0))) ∧ (W0.heap.size ≤ s.2.2.2 ∧ w'.heap[s.2.2.2]? = some (.cells #[.slice none 0 0] 25 (0, 0)))) ?_ (fun J11010 => ?_)
  · rintro ⟨b0, g, go, gw⟩ w' ⟨hB, ⟨l0, h0⟩, ⟨l5, h5⟩⟩
    refine norm_ (a' := ?_) ?_ ?_
    rotate_left
    · show putAll _ _ = _
      simp only [putAll, Act.put, List.setIfInBounds_toArray, List.set_cons_zero, List.set_cons_succ]
      rfl
    refine wpAnyLast_ready (rs := [3, 4]) (by kernel_rfl) (by simp) ?_
    refine AllReadyL.cons rfl (by decide) (fun K hK => ?_) ?_
    · refine value_ (w1 := ?_) (v := ?_) (by rfl) rfl ?_ ?_
      rotate_left 2
      · go_simp
        constructor
        · rfl
        · rfl
      refine hK.out _ _ (hSof _ (below_alloc hB _)) (fun _ => ?_)
      exact norm_ (by rfl) (J21010 (b0, w'.heap.size, go, gw) _ ⟨below_alloc hB _, ⟨l0, blk_alloc h0 _⟩, ⟨hB.size, blk_new w' _⟩, ⟨l5, blk_alloc h5 _⟩⟩)
    refine AllReadyL.cons rfl (by decide) (fun K hK => ?_) ?_
    · refine value_ (w1 := ?_) (v := ?_) (by rfl) rfl ?_ ?_
      rotate_left 2
      · go_simp
        constructor
        · rfl
        · rfl
      refine hK.out _ _ (hSof _ (below_alloc hB _)) (fun _ => ?_)
      exact norm_ (by rfl) (J11110 (b0, g, w'.heap.size, gw) _ ⟨below_alloc hB _, ⟨l0, blk_alloc h0 _⟩, ⟨hB.size, blk_new w' _⟩, ⟨l5, blk_alloc h5 _⟩⟩)
    exact AllReadyL.nil
  refine join_ (σ := Nat × Nat × Nat × Nat) 4 #[true, true, true, false, true, false, false, false] (fun s => [(8, .slice (some ⟨s.1, 0, none⟩) 0 0), (10, .int .i64 (l0_0.length : Int)), (5, .pointer (some ⟨s.2.2.1, 0, none⟩))]) (fun s w' => Below W0.heap.size W0 w' ∧ (W0.heap.size ≤ s.1 ∧ w'.heap[s.1]? = some (.cells #[] 25 (0, 0))) ∧ (W0.heap.size ≤ s.2.2.1 ∧ w'.heap[s.2.2.1]? = some (.cells #[.slice none 0 0] 58 (0, 0)))) ?_ (fun J11100 => ?_)
  · rintro ⟨b0, g, go, gw⟩ w' ⟨hB, ⟨l0, h0⟩, ⟨l4, h4⟩⟩
    refine norm_ (a' := ?_) ?_ ?_
    rotate_left
    · show putAll _ _ = _
      simp only [putAll, Act.put, List.setIfInBounds_toArray, List.set_cons_zero, List.set_cons_succ]
      rfl
    refine wpAnyLast_ready (rs := [3, 5]) (by kernel_rfl) (by simp) ?_
    refine AllReadyL.cons rfl (by decide) (fun K hK => ?_) ?_
    · refine value_ (w1 := ?_) (v := ?_) (by rfl) rfl ?_ ?_
      rotate_left 2
      · go_simp
        constructor
        · rfl
        · rfl
      refine hK.out _ _ (hSof _ (below_alloc hB _)) (fun _ => ?_)
      exact norm_ (by rfl) (J21100 (b0, w'.heap.size, go, gw) _ ⟨below_alloc hB _, ⟨l0, blk_alloc h0 _⟩, ⟨hB.size, blk_new w' _⟩, ⟨l4, blk_alloc h4 _⟩⟩)
    refine AllReadyL.cons rfl (by decide) (fun K hK => ?_) ?_
    · refine value_ (w1 := ?_) (v := ?_) (by rfl) rfl ?_ ?_
      rotate_left 2
      · go_simp
        constructor
        · rfl
        · rfl
      refine hK.out _ _ (hSof _ (below_alloc hB _)) (fun _ => ?_)
      exact norm_ (by rfl) (J11110 (b0, g, go, w'.heap.size) _ ⟨below_alloc hB _, ⟨l0, blk_alloc h0 _⟩, ⟨l4, blk_alloc h4 _⟩, ⟨hB.size, blk_new w' _⟩⟩)
    exact AllReadyL.nil
  refine join_ (σ := Nat × Nat × Nat × Nat) 4 #[false, true, true, true, false, true, false, false] (fun s => [(10, .int .i64 (l0_0.length : Int)), (11, .slice (some ⟨s.2.1, 0, none⟩) l0_0.length l0_0.length), (6, .pointer (some ⟨s.2.2.2, 0, none⟩))]) (fun s w' => Below W0.heap.size W0 w' ∧ (W0.heap.size ≤ s.2.1 ∧ w'.heap[s.2.1]? = some (.cells (madeCells #[.int .i64 0] l0_0.length) 3 (0, 0))) ∧ (W0.heap.size ≤ s.2.2.2 ∧ w'.heap[s.2.2.2]? = some (.cells #[.slice none 0 0] 25 (0, 0)))) ?_ (fun J20010 => ?_)
  · rintro ⟨b0, g, go, gw⟩ w' ⟨hB, ⟨lg, hg⟩, ⟨l5, h5⟩⟩
    refine norm_ (a' := ?_) ?_ ?_
    rotate_left
    · show putAll _ _ = _
      simp only [putAll, Act.put, List.setIfInBounds_toArray, List.set_cons_zero, List.set_cons_succ]
      rfl
    refine wpAnyLast_ready (rs := [0, 4]) (by kernel_rfl) (by simp) ?_
    refine AllReadyL.cons rfl (by decide) (fun K hK => ?_) ?_
    · refine value_ (w1 := ?_) (v := ?_) (by rfl) rfl ?_ ?_
      rotate_left 2
      · go_simp
        constructor
        · rfl
        · rfl
      refine hK.out _ _ (hSof _ (below_alloc hB _)) (fun _ => ?_)
      exact norm_ (by rfl) (J21010 (w'.heap.size, g, go, gw) _ ⟨below_alloc hB _, ⟨hB.size, blk_new w' _⟩, ⟨lg, blk_alloc hg _⟩, ⟨l5, blk_alloc h5 _⟩⟩)
    refine AllReadyL.cons rfl (by decide) (fun K hK => ?_) ?_
    · refine value_ (w1 := ?_) (v := ?_) (by rfl) rfl ?_ ?_
      rotate_left 2
      · go_simp
        constructor
        · rfl
        · rfl
      refine hK.out _ _ (hSof _ (below_alloc hB _)) (fun _ => ?_)
      exact norm_ (by rfl) (J20110 (b0, g, w'.heap.size, gw) _ ⟨below_alloc hB _, ⟨lg, blk_alloc hg _⟩, ⟨hB.size, blk_new w' _⟩, ⟨l5, blk_alloc h5 _⟩⟩)
    exact AllReadyL.nil
  refine join_ (σ := Nat × Nat × Nat × Nat) 4 #[false, true, true, true, true, false, false, false] (fun s => [(10, .int .i64 (l0_0.length : Int)), (11, .slice (some ⟨s.2.1, 0, none⟩) l0_0.length l0_0.length), (5, .pointer (some ⟨s.2.2.1, 0, none⟩))]) (fun s w' => Below W0.heap.size W0 w' ∧ (W0.heap.size ≤ s.2.1 ∧ w'.heap[s.2.1]? = some (.cells (madeCells #[.int .i64 0] l0_0.length) 3 (0, 0))) ∧ (W0.heap.size ≤ s.2.2.1 ∧ w'.heap[s.2.2.1]? = some (.cells #[.slice none 0 0] 58 (0, 0)))) ?_ (fun J20100 => ?_)
  · rintro ⟨b0, g, go, gw⟩ w' ⟨hB, ⟨lg, hg⟩, ⟨l4, h4⟩⟩
    refine norm_ (a' := ?_) ?_ ?_
    rotate_left
    · show putAll _ _ = _
      simp only [putAll, Act.put, List.setIfInBounds_toArray, List.set_cons_zero, List.set_cons_succ]
      rfl
    refine wpAnyLast_ready (rs := [0, 5]) (by kernel_rfl) (by simp) ?_
    refine AllReadyL.cons rfl (by decide) (fun K hK => ?_) ?_
    · refine value_ (w1 := ?_) (v := ?_) (by rfl) rfl ?_ ?_
      rotate_left 2
      · go_simp
        constructor
        · rfl
        · rfl
      refine hK.out _ _ (hSof _ (below_alloc hB _)) (fun _ => ?_)
      exact norm_ (by rfl) (J21100 (w'.heap.size, g, go, gw) _ ⟨below_alloc hB _, ⟨hB.size, blk_new w' _⟩, ⟨lg, blk_alloc hg _⟩, ⟨l4, blk_alloc h4 _⟩⟩)
    refine AllReadyL.cons rfl (by decide) (fun K hK => ?_) ?_
    · refine value_ (w1 := ?_) (v := ?_) (by rfl) rfl ?_ ?_
      rotate_left 2
      · go_simp
        constructor
        · rfl
        · rfl
      refine hK.out _ _ (hSof _ (below_alloc hB _)) (fun _ => ?_)
      exact norm_ (by rfl) (J20110 (b0, g, go, w'.heap.size) _ ⟨below_alloc hB _, ⟨lg, blk_alloc hg _⟩, ⟨l4, blk_alloc h4 _⟩, ⟨hB.size, blk_new w' _⟩⟩)
    exact AllReadyL.nil
  refine join_ (σ := Nat × Nat × Nat × Nat) 4 #[true, true, true, true, false, false, false, false] (fun s => [(8, .slice (some ⟨s.1, 0, none⟩) 0 0), (10, .int .i64 (l0_0.length : Int)), (11, .slice (some ⟨s.2.1, 0, none⟩) l0_0.length l0_0.length)]) (fun s w' => Below W0.heap.size W0 w' ∧ (W0.heap.size ≤ s.1 ∧ w'.heap[s.1]? = some (.cells #[] 25 (0, 0))) ∧ (W0.heap.size ≤ s.2.1 ∧ w'.heap[s.2.1]? = some (.cells (madeCells #[.int .i64 0] l0_0.length) 3 (0, 0)))) ?_ (fun J21000 => ?_)
  · rintro ⟨b0, g, go, gw⟩ w' ⟨hB, ⟨l0, h0⟩, ⟨lg, hg⟩⟩
    refine norm_ (a' := ?_) ?_ ?_
    rotate_left
    · show putAll _ _ = _
      simp only [putAll, Act.put, List.setIfInBounds_toArray, List.set_cons_zero, List.set_cons_succ]
      rfl
    refine wpAnyLast_ready (rs := [4, 5]) (by kernel_rfl) (by simp) ?_
    refine AllReadyL.cons rfl (by decide) (fun K hK => ?_) ?_
    · refine value_ (w1 := ?_) (v := ?_) (by rfl) rfl ?_ ?_
      rotate_left 2
      · go_simp
        constructor
        · rfl
        · rfl
      refine hK.out _ _ (hSof _ (below_alloc hB _)) (fun _ => ?_)
      exact norm_ (by rfl) (J21100 (b0, g, w'.heap.size, gw) _ ⟨below_alloc hB _, ⟨l0, blk_alloc h0 _⟩, ⟨lg, blk_alloc hg _⟩, ⟨hB.size, blk_new w' _⟩⟩)
    refine AllReadyL.cons rfl (by decide) (fun K hK => ?_) ?_
    · refine value_ (w1 := ?_) (v := ?_) (by rfl) rfl ?_ ?_
      rotate_left 2
      · go_simp
        constructor
        · rfl
        · rfl
      refine hK.out _ _ (hSof _ (below_alloc hB _)) (fun _ => ?_)
      exact norm_ (by rfl) (J21010 (b0, g, go, w'.heap.size) _ ⟨below_alloc hB _, ⟨l0, blk_alloc h0 _⟩, ⟨lg, blk_alloc hg _⟩, ⟨hB.size, blk_new w' _⟩⟩)
    exact AllReadyL.nil
  refine join_ (σ := Nat × Nat × Nat × Nat) 5 #[false, true, false, false, true, true, false, false] (fun s => [(5, .pointer (some ⟨s.2.2.1, 0, none⟩)), (6, .pointer (some ⟨s.2.2.2, 0, none⟩))]) (fun s w' => Below W0.heap.size W0 w' ∧ (W0.heap.size ≤ s.2.2.1 ∧ w'.heap[s.2.2.1]? = some (.cells #[.slice none 0 0] 58 (0, 0))) ∧ (W0.heap.size ≤ s.2.2.2 ∧ w'.heap[s.2.2.2]? = some (.cells #[.slice none 0 0] 25 (0, 0)))) ?_ (fun J00110 => ?_)
  · rintro ⟨b0, g, go, gw⟩ w' ⟨hB, ⟨l4, h4⟩, ⟨l5, h5⟩⟩
    refine norm_ (a' := ?_) ?_ ?_
    rotate_left
    · show putAll _ _ = _
      simp only [putAll, Act.put, List.setIfInBounds_toArray, List.set_cons_zero, List.set_cons_succ]
      rfl
    refine wpAnyLast_ready (rs := [0, 2]) (by kernel_rfl) (by simp) ?_
    refine AllReadyL.cons rfl (by decide) (fun K hK => ?_) ?_
    · refine value_ (w1 := ?_) (v := ?_) (by rfl) rfl ?_ ?_
      rotate_left 2
      · go_simp
        constructor
        · rfl
        · rfl
      refine hK.out _ _ (hSof _ (below_alloc hB _)) (fun _ => ?_)
      exact norm_ (by rfl) (J01110 (w'.heap.size, g, go, gw) _ ⟨below_alloc hB _, ⟨hB.size, blk_new w' _⟩, ⟨l4, blk_alloc h4 _⟩, ⟨l5, blk_alloc h5 _⟩⟩)
    refine AllReadyL.cons rfl (by decide) (fun K hK => ?_) ?_
    · refine goes_ Try.func70 (by kernel_rfl) rfl #[.agg #[.slice A0_0 l0_0.length c0_0]] (by rfl) rfl rfl (by (try simp only [List.map_toArray, List.map_cons, List.map_nil]); first | done | rfl) ?_
      with_reducible refine (impl_Poset_n.calls A0_0 c0_0 l0_0 (l0_0.length : Int) _ (Kd.C_below HR.out (HB0.out.trans (hB.mono HB0.out.size))) HC.out rfl).mono ?_
      rintro e w1 ⟨rfl, hb⟩
      refine ⟨_, rfl, ?_⟩
      refine hK.out _ _ (hSof _ (below_step hB hb)) (fun _ => ?_)
      exact norm_ (by rfl) (J10110 (b0, g, go, gw) _ ⟨below_step hB hb, ⟨l4, blk_below h4 hb⟩, ⟨l5, blk_below h5 hb⟩⟩)
    exact AllReadyL.nil
  refine join_ (σ := Nat × Nat × Nat × Nat) 5 #[true, true, false, false, false, true, false, false] (fun s => [(8, .slice (some ⟨s.1, 0, none⟩) 0 0), (6, .pointer (some ⟨s.2.2.2, 0, none⟩))]) (fun s w' => Below W0.heap.size W0 w' ∧ (W0.heap.size ≤ s.1 ∧ w'.heap[s.1]? = some (.cells #[] 25 (0, 0))) ∧ (W0.heap.size ≤ s.2.2.2 ∧ w'.heap[s.2.2.2]? = some (.cells #[.slice none 0 0] 25 (0, 0)))) ?_ (fun J01010 => ?_)
  · rintro ⟨b0, g, go, gw⟩ w' ⟨hB, ⟨l0, h0⟩, ⟨l5, h5⟩⟩
    refine norm_ (a' := ?_) ?_ ?_
    rotate_left
    · show putAll _ _ = _
      simp only [putAll, Act.put, List.setIfInBounds_toArray, List.set_cons_zero, List.set_cons_succ]
      rfl
    refine wpAnyLast_ready (rs := [2, 4]) (by kernel_rfl) (by simp) ?_
    refine AllReadyL.cons rfl (by decide) (fun K hK => ?_) ?_
    · refine goes_ Try.func70 (by kernel_rfl) rfl #[.agg #[.slice A0_0 l0_0.length c0_0]] (by rfl) rfl rfl (by (try simp only [List.map_toArray, List.map_cons, List.map_nil]); first | done | rfl) ?_
      with_reducible refine (impl_Poset_n.calls A0_0 c0_0 l0_0 (l0_0.length : Int) _ (Kd.C_below HR.out (HB0.out.trans (hB.mono HB0.out.size))) HC.out rfl).mono ?_
      rintro e w1 ⟨rfl, hb⟩
      refine ⟨_, rfl, ?_⟩
      refine hK.out _ _ (hSof _ (below_step hB hb)) (fun _ => ?_)
      exact norm_ (by rfl) (J11010 (b0, g, go, gw) _ ⟨below_step hB hb, ⟨l0, blk_below h0 hb⟩, ⟨l5, blk_below h5 hb⟩⟩)
    refine AllReadyL.cons rfl (by decide) (fun K hK => ?_) ?_
    · refine value_ (w1 := ?_) (v := ?_) (by rfl) rfl ?_ ?_
      rotate_left 2
      · go_simp
        constructor
        · rfl
        · rfl
      refine hK.out _ _ (hSof _ (below_alloc hB _)) (fun _ => ?_)
      exact norm_ (by rfl) (J01110 (b0, g, w'.heap.size, gw) _ ⟨below_alloc hB _, ⟨l0, blk_alloc h0 _⟩, ⟨hB.size, blk_new w' _⟩, ⟨l5, blk_alloc h5 _⟩⟩)
    exact AllReadyL.nil
  refine join_ (σ := Nat × Nat × Nat × Nat) 5 #[true, true, false, false, true, false, false, false] (fun s => [(8, .slice (some ⟨s.1, 0, none⟩) 0 0), (5, .pointer (some ⟨s.2.2.1, 0, none⟩))]) (fun s w' => Below W0.heap.size W0 w' ∧ (W0.heap.size ≤ s.1 ∧ w'.heap[s.1]? = some (.cells #[] 25 (0, 0))) ∧ (W0.heap.size ≤ s.2.2.1 ∧ w'.heap[s.2.2.1]? = some (.cells #[.slice none 0 0] 58 (0, 0)))) ?_ (fun J01100 => ?_)
  · rintro ⟨b0, g, go, gw⟩ w' ⟨hB, ⟨l0, h0⟩, ⟨l4, h4⟩⟩
    refine norm_ (a' := ?_) ?_ ?_
    rotate_left
    · show putAll _ _ = _
      simp only [putAll, Act.put, List.setIfInBounds_toArray, List.set_cons_zero, List.set_cons_succ]
      rfl
    refine wpAnyLast_ready (rs := [2, 5]) (by kernel_rfl) (by simp) ?_
    refine AllReadyL.cons rfl (by decide) (fun K hK => ?_) ?_
    · refine goes_ Try.func70 (by kernel_rfl) rfl #[.agg #[.slice A0_0 l0_0.length c0_0]] (by rfl) rfl rfl (by (try simp only [List.map_toArray, List.map_cons, List.map_nil]); first | done | rfl) ?_
      with_reducible refine (impl_Poset_n.calls A0_0 c0_0 l0_0 (l0_0.length : Int) _ (Kd.C_below HR.out (HB0.out.trans (hB.mono HB0.out.size))) HC.out rfl).mono ?_
      rintro e w1 ⟨rfl, hb⟩
      refine ⟨_, rfl, ?_⟩
      refine hK.out _ _ (hSof _ (below_step hB hb)) (fun _ => ?_)
      exact norm_ (by rfl) (J11100 (b0, g, go, gw) _ ⟨below_step hB hb, ⟨l0, blk_below h0 hb⟩, ⟨l4, blk_below h4 hb⟩⟩)
    refine AllReadyL.cons rfl (by decide) (fun K hK => ?_) ?_
    · refine value_ (w1 := ?_) (v := ?_) (by rfl) rfl ?_ ?_
      rotate_left 2
      · go_simp
        constructor
        · rfl
        · rfl
      refine hK.out _ _ (hSof _ (below_alloc hB _)) (fun _ => ?_)
      exact norm_ (by rfl) (J01110 (b0, g, go, w'.heap.size) _ ⟨below_alloc hB _, ⟨l0, blk_alloc h0 _⟩, ⟨l4, blk_alloc h4 _⟩, ⟨hB.size, blk_new w' _⟩⟩)
    exact AllReadyL.nil
  refine join_ (σ := Nat × Nat × Nat × Nat) 5 #[false, true, true, false, false, true, false, false] (fun s => [(10, .int .i64 (l0_0.length : Int)), (6, .pointer (some ⟨s.2.2.2, 0, none⟩))]) (fun s w' => Below W0.heap.size W0 w' ∧ (W0.heap.size ≤ s.2.2.2 ∧ w'.heap[s.2.2.2]? = some (.cells #[.slice none 0 0] 25 (0, 0)))) ?_ (fun J10010 => ?_)
  · rintro ⟨b0, g, go, gw⟩ w' ⟨hB, ⟨l5, h5⟩⟩
    refine norm_ (a' := ?_) ?_ ?_
    rotate_left
    · show putAll _ _ = _
      simp only [putAll, Act.put, List.setIfInBounds_toArray, List.set_cons_zero, List.set_cons_succ]
      rfl
    refine wpAnyLast_ready (rs := [0, 3, 4]) (by kernel_rfl) (by simp) ?_
    refine AllReadyL.cons rfl (by decide) (fun K hK => ?_) ?_
    · refine value_ (w1 := ?_) (v := ?_) (by rfl) rfl ?_ ?_
      rotate_left 2
      · go_simp
        constructor
        · rfl
        · rfl
      refine hK.out _ _ (hSof _ (below_alloc hB _)) (fun _ => ?_)
      exact norm_ (by rfl) (J11010 (w'.heap.size, g, go, gw) _ ⟨below_alloc hB _, ⟨hB.size, blk_new w' _⟩, ⟨l5, blk_alloc h5 _⟩⟩)
    refine AllReadyL.cons rfl (by decide) (fun K hK => ?_) ?_
    · refine value_ (w1 := ?_) (v := ?_) (by rfl) rfl ?_ ?_
      rotate_left 2
      · go_simp
        constructor
        · rfl
        · rfl
      refine hK.out _ _ (hSof _ (below_alloc hB _)) (fun _ => ?_)
      exact norm_ (by rfl) (J20010 (b0, w'.heap.size, go, gw) _ ⟨below_alloc hB _, ⟨hB.size, blk_new w' _⟩, ⟨l5, blk_alloc h5 _⟩⟩)
    refine AllReadyL.cons rfl (by decide) (fun K hK => ?_) ?_
    · refine value_ (w1 := ?_) (v := ?_) (by rfl) rfl ?_ ?_
      rotate_left 2
      · go_simp
        constructor
        · rfl
        · rfl
      refine hK.out _ _ (hSof _ (below_alloc hB _)) (fun _ => ?_)
      exact norm_ (by rfl) (J10110 (b0, g, w'.heap.size, gw) _ ⟨below_alloc hB _, ⟨hB.size, blk_new w' _⟩, ⟨l5, blk_alloc h5 _⟩⟩)
    exact AllReadyL.nil
  refine join_ (σ := Nat × Nat × Nat × Nat) 5 #[false, true, true, false, true, false, false, false] (fun s => [(10, .int .i64 (l0_0.length : Int)), (5, .pointer (some ⟨s.2.2.1, 0, none⟩))]) (fun s w' => Below W0.heap.size W0 w' ∧ (W0.heap.size ≤ s.2.2.1 ∧ w'.heap[s.2.2.1]? = some (.cells #[.slice none 0 0] 58 (0, 0)))) ?_ (fun J10100 => ?_)
  · rintro ⟨b0, g, go, gw⟩ w' ⟨hB, ⟨l4, h4⟩⟩
    refine norm_ (a' := ?_) ?_ ?_
    rotate_left
    · show putAll _ _ = _
      simp only [putAll, Act.put, List.setIfInBounds_toArray, List.set_cons_zero, List.set_cons_succ]
      rfl
    refine wpAnyLast_ready (rs := [0, 3, 5]) (by kernel_rfl) (by simp) ?_
    refine AllReadyL.cons rfl (by decide) (fun K hK => ?_) ?_
    · refine value_ (w1 := ?_) (v := ?_) (by rfl) rfl ?_ ?_
      rotate_left 2
      · go_simp
        constructor
        · rfl
        · rfl
      refine hK.out _ _ (hSof _ (below_alloc hB _)) (fun _ => ?_)
      exact norm_ (by rfl) (J11100 (w'.heap.size, g, go, gw) _ ⟨below_alloc hB _, ⟨hB.size, blk_new w' _⟩, ⟨l4, blk_alloc h4 _⟩⟩)
    refine AllReadyL.cons rfl (by decide) (fun K hK => ?_) ?_
    · refine value_ (w1 := ?_) (v := ?_) (by rfl) rfl ?_ ?_
      rotate_left 2
      · go_simp
        constructor
        · rfl
        · rfl
      refine hK.out _ _ (hSof _ (below_alloc hB _)) (fun _ => ?_)
      exact norm_ (by rfl) (J20100 (b0, w'.heap.size, go, gw) _ ⟨below_alloc hB _, ⟨hB.size, blk_new w' _⟩, ⟨l4, blk_alloc h4 _⟩⟩)
    refine AllReadyL.cons rfl (by decide) (fun K hK => ?_) ?_
    · refine value_ (w1 := ?_) (v := ?_) (by rfl) rfl ?_ ?_
      rotate_left 2
      · go_simp
        constructor
        · rfl
        · rfl
      refine hK.out _ _ (hSof _ (below_alloc hB _)) (fun _ => ?_)
      exact norm_ (by rfl) (J10110 (b0, g, go, w'.heap.size) _ ⟨below_alloc hB _, ⟨l4, blk_alloc h4 _⟩, ⟨hB.size, blk_new w' _⟩⟩)
    exact AllReadyL.nil
  refine join_ (σ := Nat × Nat × Nat × Nat) 5 #[true, true, true, false, false, false, false, false] (fun s => [(8, .slice (some ⟨s.1, 0, none⟩) 0 0), (10, .int .i64 (l0_0.length : Int))]) (fun s w' => Below W0.heap.size W0 w' ∧ (W0.heap.size ≤ s.1 ∧ w'.heap[s.1]? = some (.cells #[] 25 (0, 0)))) ?_ (fun J11000 => ?_)
  · rintro ⟨b0, g, go, gw⟩ w' ⟨hB, ⟨l0, h0⟩⟩
    refine norm_ (a' := ?_) ?_ ?_
    rotate_left
    · show putAll _ _ = _
      simp only [putAll, Act.put, List.setIfInBounds_toArray, List.set_cons_zero, List.set_cons_succ]
      rfl
    refine wpAnyLast_ready (rs := [3, 4, 5]) (by kernel_rfl) (by simp) ?_
    refine AllReadyL.cons rfl (by decide) (fun K hK => ?_) ?_
    · refine value_ (w1 := ?_) (v := ?_) (by rfl) rfl ?_ ?_
      rotate_left 2
      · go_simp
        constructor
        · rfl
        · rfl
      refine hK.out _ _ (hSof _ (below_alloc hB _)) (fun _ => ?_)
      exact norm_ (by rfl) (J21000 (b0, w'.heap.size, go, gw) _ ⟨below_alloc hB _, ⟨l0, blk_alloc h0 _⟩, ⟨hB.size, blk_new w' _⟩⟩)
    refine AllReadyL.cons rfl (by decide) (fun K hK => ?_) ?_
    · refine value_ (w1 := ?_) (v := ?_) (by rfl) rfl ?_ ?_
      rotate_left 2
      · go_simp
        constructor
        · rfl
        · rfl
      refine hK.out _ _ (hSof _ (below_alloc hB _)) (fun _ => ?_)
      exact norm_ (by rfl) (J11100 (b0, g, w'.heap.size, gw) _ ⟨below_alloc hB _, ⟨l0, blk_alloc h0 _⟩, ⟨hB.size, blk_new w' _⟩⟩)
    refine AllReadyL.cons rfl (by decide) (fun K hK => ?_) ?_
    · refine value_ (w1 := ?_) (v := ?_) (by rfl) rfl ?_ ?_
      rotate_left 2
      · go_simp
        constructor
        · rfl
        · rfl
      refine hK.out _ _ (hSof _ (below_alloc hB _)) (fun _ => ?_)
      exact norm_ (by rfl) (J11010 (b0, g, go, w'.heap.size) _ ⟨below_alloc hB _, ⟨l0, blk_alloc h0 _⟩, ⟨hB.size, blk_new w' _⟩⟩)
    exact AllReadyL.nil
  refine join_ (σ := Nat × Nat × Nat × Nat) 5 #[false, true, true, true, false, false, false, false] (fun s => [(10, .int .i64 (l0_0.length : Int)), (11, .slice (some ⟨s.2.1, 0, none⟩) l0_0.length l0_0.length)]) (fun s w' => Below W0.heap.size W0 w' ∧ (W0.heap.size ≤ s.2.1 ∧ w'.heap[s.2.1]? = some (.cells (madeCells #[.int .i64 0] l0_0.length) 3 (0, 0)))) ?_ (fun J20000 => ?_)
  · rintro ⟨b0, g, go, gw⟩ w' ⟨hB, ⟨lg, hg⟩⟩
    refine norm_ (a' := ?_) ?_ ?_
    rotate_left
    · show putAll _ _ = _
      simp only [putAll, Act.put, List.setIfInBounds_toArray, List.set_cons_zero, List.set_cons_succ]
      rfl
    refine wpAnyLast_ready (rs := [0, 4, 5]) (by kernel_rfl) (by simp) ?_
    refine AllReadyL.cons rfl (by decide) (fun K hK => ?_) ?_
    · refine value_ (w1 := ?_) (v := ?_) (by rfl) rfl ?_ ?_
      rotate_left 2
      · go_simp
        constructor
        · rfl
        · rfl
      refine hK.out _ _ (hSof _ (below_alloc hB _)) (fun _ => ?_)
      exact norm_ (by rfl) (J21000 (w'.heap.size, g, go, gw) _ ⟨below_alloc hB _, ⟨hB.size, blk_new w' _⟩, ⟨lg, blk_alloc hg _⟩⟩)
    refine AllReadyL.cons rfl (by decide) (fun K hK => ?_) ?_
    · refine value_ (w1 := ?_) (v := ?_) (by rfl) rfl ?_ ?_
      rotate_left 2
      · go_simp
        constructor
        · rfl
        · rfl
      refine hK.out _ _ (hSof _ (below_alloc hB _)) (fun _ => ?_)
      exact norm_ (by rfl) (J20100 (b0, g, w'.heap.size, gw) _ ⟨below_alloc hB _, ⟨lg, blk_alloc hg _⟩, ⟨hB.size, blk_new w' _⟩⟩)
    refine AllReadyL.cons rfl (by decide) (fun K hK => ?_) ?_
    · refine value_ (w1 := ?_) (v := ?_) (by rfl) rfl ?_ ?_
      rotate_left 2
      · go_simp
        constructor
        · rfl
        · rfl
      refine hK.out _ _ (hSof _ (below_alloc hB _)) (fun _ => ?_)
      exact norm_ (by rfl) (J20010 (b0, g, go, w'.heap.size) _ ⟨below_alloc hB _, ⟨lg, blk_alloc hg _⟩, ⟨hB.size, blk_new w' _⟩⟩)
    exact AllReadyL.nil
  refine join_ (σ := Nat × Nat × Nat × Nat) 6 #[false, true, false, false, false, true, false, false] (fun s => [(6, .pointer (some ⟨s.2.2.2, 0, none⟩))]) (fun s w' => Below W0.heap.size W0 w' ∧ (W0.heap.size ≤ s.2.2.2 ∧ w'.heap[s.2.2.2]? = some (.cells #[.slice none 0 0] 25 (0, 0)))) ?_ (fun J00010 => ?_)
  · rintro ⟨b0, g, go, gw⟩ w' ⟨hB, ⟨l5, h5⟩⟩
    refine norm_ (a' := ?_) ?_ ?_
    rotate_left
    · show putAll _ _ = _
      simp only [putAll, Act.put, List.setIfInBounds_toArray, List.set_cons_zero, List.set_cons_succ]
      rfl
    refine wpAnyLast_ready (rs := [0, 2, 4]) (by kernel_rfl) (by simp) ?_
    refine AllReadyL.cons rfl (by decide) (fun K hK => ?_) ?_
    · refine value_ (w1 := ?_) (v := ?_) (by rfl) rfl ?_ ?_
      rotate_left 2
      · go_simp
        constructor
        · rfl
        · rfl
      refine hK.out _ _ (hSof _ (below_alloc hB _)) (fun _ => ?_)
      exact norm_ (by rfl) (J01010 (w'.heap.size, g, go, gw) _ ⟨below_alloc hB _, ⟨hB.size, blk_new w' _⟩, ⟨l5, blk_alloc h5 _⟩⟩)
    refine AllReadyL.cons rfl (by decide) (fun K hK => ?_) ?_
    · refine goes_ Try.func70 (by kernel_rfl) rfl #[.agg #[.slice A0_0 l0_0.length c0_0]] (by rfl) rfl rfl (by (try simp only [List.map_toArray, List.map_cons, List.map_nil]); first | done | rfl) ?_
      with_reducible refine (impl_Poset_n.calls A0_0 c0_0 l0_0 (l0_0.length : Int) _ (Kd.C_below HR.out (HB0.out.trans (hB.mono HB0.out.size))) HC.out rfl).mono ?_
      rintro e w1 ⟨rfl, hb⟩
      refine ⟨_, rfl, ?_⟩
      refine hK.out _ _ (hSof _ (below_step hB hb)) (fun _ => ?_)
      exact norm_ (by rfl) (J10010 (b0, g, go, gw) _ ⟨below_step hB hb, ⟨l5, blk_below h5 hb⟩⟩)
    refine AllReadyL.cons rfl (by decide) (fun K hK => ?_) ?_
    · refine value_ (w1 := ?_) (v := ?_) (by rfl) rfl ?_ ?_
      rotate_left 2
      · go_simp
        constructor
        · rfl
        · rfl
      refine hK.out _ _ (hSof _ (below_alloc hB _)) (fun _ => ?_)
      exact norm_ (by rfl) (J00110 (b0, g, w'.heap.size, gw) _ ⟨below_alloc hB _, ⟨hB.size, blk_new w' _⟩, ⟨l5, blk_alloc h5 _⟩⟩)
    exact AllReadyL.nil
  refine join_ (σ := Nat × Nat × Nat × Nat) 6 #[false, true, false, false, true, false, false, false] (fun s => [(5, .pointer (some ⟨s.2.2.1, 0, none⟩))]) (fun s w' => Below W0.heap.size W0 w' ∧ (W0.heap.size ≤ s.2.2.1 ∧ w'.heap[s.2.2.1]? = some (.cells #[.slice none 0 0] 58 (0, 0)))) ?_ (fun J00100 => ?_)
  · rintro ⟨b0, g, go, gw⟩ w' ⟨hB, ⟨l4, h4⟩⟩
    refine norm_ (a' := ?_) ?_ ?_
    rotate_left
    · show putAll _ _ = _
      simp only [putAll, Act.put, List.setIfInBounds_toArray, List.set_cons_zero, List.set_cons_succ]
      rfl
    refine wpAnyLast_ready (rs := [0, 2, 5]) (by kernel_rfl) (by simp) ?_
    refine AllReadyL.cons rfl (by decide) (fun K hK => ?_) ?_
    · refine value_ (w1 := ?_) (v := ?_) (by rfl) rfl ?_ ?_
      rotate_left 2
      · go_simp
        constructor
        · rfl
        · rfl
      refine hK.out _ _ (hSof _ (below_alloc hB _)) (fun _ => ?_)
      exact norm_ (by rfl) (J01100 (w'.heap.size, g, go, gw) _ ⟨below_alloc hB _, ⟨hB.size, blk_new w' _⟩, ⟨l4, blk_alloc h4 _⟩⟩)
    refine AllReadyL.cons rfl (by decide) (fun K hK => ?_) ?_
    · refine goes_ Try.func70 (by kernel_rfl) rfl #[.agg #[.slice A0_0 l0_0.length c0_0]] (by rfl) rfl rfl (by (try simp only [List.map_toArray, List.map_cons, List.map_nil]); first | done | rfl) ?_
      with_reducible refine (impl_Poset_n.calls A0_0 c0_0 l0_0 (l0_0.length : Int) _ (Kd.C_below HR.out (HB0.out.trans (hB.mono HB0.out.size))) HC.out rfl).mono ?_
      rintro e w1 ⟨rfl, hb⟩
      refine ⟨_, rfl, ?_⟩
      refine hK.out _ _ (hSof _ (below_step hB hb)) (fun _ => ?_)
      exact norm_ (by rfl) (J10100 (b0, g, go, gw) _ ⟨below_step hB hb, ⟨l4, blk_below h4 hb⟩⟩)
    refine AllReadyL.cons rfl (by decide) (fun K hK => ?_) ?_
    · refine value_ (w1 := ?_) (v := ?_) (by rfl) rfl ?_ ?_
      rotate_left 2
      · go_simp
        constructor
        · rfl
        · rfl
      refine hK.out _ _ (hSof _ (below_alloc hB _)) (fun _ => ?_)
      exact norm_ (by rfl) (J00110 (b0, g, go, w'.heap.size) _ ⟨below_alloc hB _, ⟨l4, blk_alloc h4 _⟩, ⟨hB.size, blk_new w' _⟩⟩)
    exact AllReadyL.nil
  refine join_ (σ := Nat × Nat × Nat × Nat) 6 #[true, true, false, false, false, false, false, false] (fun s => [(8, .slice (some ⟨s.1, 0, none⟩) 0 0)]) (fun s w' => Below W0.heap.size W0 w' ∧ (W0.heap.size ≤ s.1 ∧ w'.heap[s.1]? = some (.cells #[] 25 (0, 0)))) ?_ (fun J01000 => ?_)
  · rintro ⟨b0, g, go, gw⟩ w' ⟨hB, ⟨l0, h0⟩⟩
    refine norm_ (a' := ?_) ?_ ?_
    rotate_left
    · show putAll _ _ = _
      simp only [putAll, Act.put, List.setIfInBounds_toArray, List.set_cons_zero, List.set_cons_succ]
      rfl
    refine wpAnyLast_ready (rs := [2, 4, 5]) (by kernel_rfl) (by simp) ?_
    refine AllReadyL.cons rfl (by decide) (fun K hK => ?_) ?_
    · refine goes_ Try.func70 (by kernel_rfl) rfl #[.agg #[.slice A0_0 l0_0.length c0_0]] (by rfl) rfl rfl (by (try simp only [List.map_toArray, List.map_cons, List.map_nil]); first | done | rfl) ?_
      with_reducible refine (impl_Poset_n.calls A0_0 c0_0 l0_0 (l0_0.length : Int) _ (Kd.C_below HR.out (HB0.out.trans (hB.mono HB0.out.size))) HC.out rfl).mono ?_
      rintro e w1 ⟨rfl, hb⟩
      refine ⟨_, rfl, ?_⟩
      refine hK.out _ _ (hSof _ (below_step hB hb)) (fun _ => ?_)
      exact norm_ (by rfl) (J11000 (b0, g, go, gw) _ ⟨below_step hB hb, ⟨l0, blk_below h0 hb⟩⟩)
    refine AllReadyL.cons rfl (by decide) (fun K hK => ?_) ?_
    · refine value_ (w1 := ?_) (v := ?_) (by rfl) rfl ?_ ?_
      rotate_left 2
      · go_simp
        constructor
        · rfl
        · rfl
      refine hK.out _ _ (hSof _ (below_alloc hB _)) (fun _ => ?_)
      exact norm_ (by rfl) (J01100 (b0, g, w'.heap.size, gw) _ ⟨below_alloc hB _, ⟨l0, blk_alloc h0 _⟩, ⟨hB.size, blk_new w' _⟩⟩)
    refine AllReadyL.cons rfl (by decide) (fun K hK => ?_) ?_
    · refine value_ (w1 := ?_) (v := ?_) (by rfl) rfl ?_ ?_
      rotate_left 2
      · go_simp
        constructor
        · rfl
        · rfl
      refine hK.out _ _ (hSof _ (below_alloc hB _)) (fun _ => ?_)
      exact norm_ (by rfl) (J01010 (b0, g, go, w'.heap.size) _ ⟨below_alloc hB _, ⟨l0, blk_alloc h0 _⟩, ⟨hB.size, blk_new w' _⟩⟩)
    exact AllReadyL.nil
  refine join_ (σ := Nat × Nat × Nat × Nat) 6 #[false, true, true, false, false, false, false, false] (fun s => [(10, .int .i64 (l0_0.length : Int))]) (fun s w' => Below W0.heap.size W0 w') ?_ (fun J10000 => ?_)
  · rintro ⟨b0, g, go, gw⟩ w' hB
    refine norm_ (a' := ?_) ?_ ?_
    rotate_left
    · show putAll _ _ = _
      simp only [putAll, Act.put, List.setIfInBounds_toArray, List.set_cons_zero, List.set_cons_succ]
      rfl
    refine wpAnyLast_ready (rs := [0, 3, 4, 5]) (by kernel_rfl) (by simp) ?_
    refine AllReadyL.cons rfl (by decide) (fun K hK => ?_) ?_
    · refine value_ (w1 := ?_) (v := ?_) (by rfl) rfl ?_ ?_
      rotate_left 2
      · go_simp
        constructor
        · rfl
        · rfl
      refine hK.out _ _ (hSof _ (below_alloc hB _)) (fun _ => ?_)
      exact norm_ (by rfl) (J11000 (w'.heap.size, g, go, gw) _ ⟨below_alloc hB _, ⟨hB.size, blk_new w' _⟩⟩)
    refine AllReadyL.cons rfl (by decide) (fun K hK => ?_) ?_
    · refine value_ (w1 := ?_) (v := ?_) (by rfl) rfl ?_ ?_
      rotate_left 2
      · go_simp
        constructor
        · rfl
        · rfl
      refine hK.out _ _ (hSof _ (below_alloc hB _)) (fun _ => ?_)
      exact norm_ (by rfl) (J20000 (b0, w'.heap.size, go, gw) _ ⟨below_alloc hB _, ⟨hB.size, blk_new w' _⟩⟩)
    refine AllReadyL.cons rfl (by decide) (fun K hK => ?_) ?_
    · refine value_ (w1 := ?_) (v := ?_) (by rfl) rfl ?_ ?_
      rotate_left 2
      · go_simp
        constructor
        · rfl
        · rfl
      refine hK.out _ _ (hSof _ (below_alloc hB _)) (fun _ => ?_)
      exact norm_ (by rfl) (J10100 (b0, g, w'.heap.size, gw) _ ⟨below_alloc hB _, ⟨hB.size, blk_new w' _⟩⟩)
    refine AllReadyL.cons rfl (by decide) (fun K hK => ?_) ?_
    · refine value_ (w1 := ?_) (v := ?_) (by rfl) rfl ?_ ?_
      rotate_left 2
      · go_simp
        constructor
        · rfl
        · rfl
      refine hK.out _ _ (hSof _ (below_alloc hB _)) (fun _ => ?_)
      exact norm_ (by rfl) (J10010 (b0, g, go, w'.heap.size) _ ⟨below_alloc hB _, ⟨hB.size, blk_new w' _⟩⟩)
    exact AllReadyL.nil
  have hB : Below W0.heap.size W0 W0 := Below.refl _ _
  obtain ⟨b0, g, go, gw⟩ : Nat × Nat × Nat × Nat := (0, 0, 0, 0)
  refine wpAnyLast_ready (rs := [0, 2, 4, 5]) (by kernel_rfl) (by simp) ?_
  refine AllReadyL.cons rfl (by decide) (fun K hK => ?_) ?_
  · refine value_ (w1 := ?_) (v := ?_) (by rfl) rfl ?_ ?_
    rotate_left 2
    · go_simp
      constructor
      · rfl
      · rfl
    refine hK.out _ _ (hSof _ (below_alloc hB _)) (fun _ => ?_)
    exact norm_ (by rfl) (J01000 (W0.heap.size, g, go, gw) _ ⟨below_alloc hB _, ⟨hB.size, blk_new W0 _⟩⟩)
  refine AllReadyL.cons rfl (by decide) (fun K hK => ?_) ?_
  · refine goes_ Try.func70 (by kernel_rfl) rfl #[.agg #[.slice A0_0 l0_0.length c0_0]] (by rfl) rfl rfl (by (try simp only [List.map_toArray, List.map_cons, List.map_nil]); first | done | rfl) ?_
    with_reducible refine (impl_Poset_n.calls A0_0 c0_0 l0_0 (l0_0.length : Int) _ (Kd.C_below HR.out (HB0.out.trans (hB.mono HB0.out.size))) HC.out rfl).mono ?_
    rintro e w1 ⟨rfl, hb⟩
    refine ⟨_, rfl, ?_⟩
    refine hK.out _ _ (hSof _ (below_step hB hb)) (fun _ => ?_)
    exact norm_ (by rfl) (J10000 (b0, g, go, gw) _ (below_step hB hb))
  refine AllReadyL.cons rfl (by decide) (fun K hK => ?_) ?_
  · refine value_ (w1 := ?_) (v := ?_) (by rfl) rfl ?_ ?_
    rotate_left 2
    · go_simp
      constructor
      · rfl
      · rfl
    refine hK.out _ _ (hSof _ (below_alloc hB _)) (fun _ => ?_)
    exact norm_ (by rfl) (J00100 (b0, g, W0.heap.size, gw) _ ⟨below_alloc hB _, ⟨hB.size, blk_new W0 _⟩⟩)
  refine AllReadyL.cons rfl (by decide) (fun K hK => ?_) ?_
  · refine value_ (w1 := ?_) (v := ?_) (by rfl) rfl ?_ ?_
    rotate_left 2
    · go_simp
      constructor
      · rfl
      · rfl
    refine hK.out _ _ (hSof _ (below_alloc hB _)) (fun _ => ?_)
    exact norm_ (by rfl) (J00010 (b0, g, go, W0.heap.size) _ ⟨below_alloc hB _, ⟨hB.size, blk_new W0 _⟩⟩)
  exact AllReadyL.nil
end Go.Proofs.Ytemkddgfneohhaa.F
end

section
namespace Go.Proofs.Ytemkddgfneohhaa.Q
open Go.RowKit Go.Proofs.YtemkddgfneohhaaW.PrintWords Go.Proofs.Ytemkddgfneohhaa.F
set_option linter.unusedVariables false
theorem mxN (a b : Nat) : mx (a : Int) (b : Int) = ((max a b : Nat) : Int) := by unfold mx; split <;> omega
theorem itemsN_cut {m i : Nat} (h : m < 2 ^ i) (hi : i ≤ 10) : itemsN m = (List.range i).filter m.testBit := by
  unfold itemsN
  obtain ⟨d, hd⟩ : ∃ d, 10 = i + d := ⟨10 - i, by omega⟩
  rw [hd, List.range_add, List.filter_append]
  have : ((List.range d).map (i + ·)).filter m.testBit = [] := by
    rw [List.filter_eq_nil_iff]
    intro x hx
    obtain ⟨y, _, rfl⟩ := List.mem_map.1 hx
    rw [bit_lt h (Nat.le_add_right _ _)]; simp
  rw [this, List.append_nil]
theorem lbLeast_eq {f : List Int} {g : List Nat} (hg : ∀ j, j < g.length → f.getD j 0 = (g.getD j 0 : Int)) (hl : g.length ≤ f.length) : ∀ (l : List Nat), (∀ j ∈ l, j < g.length) → ∀ x : Nat, lbLeast f (x : Int) (ints l) = some ((l.foldl (fun a j => max a (g.getD j 0)) x : Nat) : Int)
  | [], _, x => rfl
  | j :: l, h, x => by
    have hj := h j List.mem_cons_self
    show lbLeast f (x : Int) ((j : Int) :: ints l) = _
    unfold lbLeast
    rw [if_pos ⟨by omega, by omega⟩, rdN, hg j hj, mxN]
    exact lbLeast_eq hg hl l (fun y hy => h y (List.mem_cons_of_mem _ hy)) _
theorem foldl_leastN (p : List Int) (g : List Nat) : ∀ k, ((List.range k).filter (L p g.length).testBit).foldl (fun a j => max a (g.getD j 0)) 0 = leastN p g k
  | 0 => rfl
  | k + 1 => by
    rw [leastN_step, List.range_succ, List.filter_append, List.foldl_append, foldl_leastN p g k, List.filter_cons, List.filter_nil]
    split <;> rfl
theorem lbLeast_ev {p : List Int} (hp : PO p) {f : List Int} {g : List Nat} (hi : g.length < p.length) (hg : f.take g.length = ints g) (hl : f.length = p.length) : lbLeast f 0 (ints (itemsN (L p g.length))) = some ((leastN p g g.length : Nat) : Int) := by
  have hn := hp.small
  have hcut := itemsN_cut (hp.lt _ hi) (by omega)
  have hgd : ∀ j, j < g.length → f.getD j 0 = (g.getD j 0 : Int) := fun j hj => by
    have h1 : (f.take g.length).getD j 0 = f.getD j 0 := by
      rw [List.getD_eq_getElem?_getD, List.getD_eq_getElem?_getD, List.getElem?_take, if_pos hj]
    rw [← h1, hg, ints_get]
  have := lbLeast_eq hgd (by omega) (itemsN (L p g.length)) (fun j hj => by rw [hcut] at hj; exact List.mem_range.1 (List.mem_filter.1 hj).1) 0
  rw [hcut, foldl_leastN] at this
  rw [hcut]
  exact this
theorem set_take {f : List Int} {g : List Nat} {x : Nat} (hg : f.take g.length = ints g) (hl : g.length < f.length) : (f.set g.length (x : Int)).take (g ++ [x]).length = ints (g ++ [x]) := by
  rw [List.length_append, List.length_singleton, List.take_add_one, List.take_set_of_le (Nat.le_refl _), hg, List.getElem?_set_self hl, ints_app]
  rfl
theorem take_less {f : List Int} {g : List Nat} {x : Nat} (h : f.take (g ++ [x]).length = ints (g ++ [x])) : f.take g.length = ints g := by
  have h2 : (f.take (g ++ [x]).length).take g.length = (ints (g ++ [x])).take g.length := by rw [h]
  rw [List.take_take, List.length_append, List.length_singleton, Nat.min_eq_left (by omega), ints_app, List.take_left' (ints_len g)] at h2
  exact h2
theorem lbPut_ev {p : List Int} (hp : PO p) {m : Nat} (hm : m ≤ 12) : ∀ (d : Nat) (g : List Nat) (f : List Int), g.length + d = p.length → f.length = p.length → f.take g.length = ints g → (∀ i, i < g.length → g.getD i 0 ≤ m) →
    ∃ f', f'.length = p.length ∧ f'.take g.length = ints g ∧ ∃ K, ∀ F D, K ≤ F → K ≤ D → lbPut F p (m : Int) D g.length f = some ((laN p m d g).map ints, f') := by
  have hn := hp.small
  intro d
  induction d with
  | zero =>
    intro g f hd hf hg _
    refine ⟨f, hf, hg, 1, fun F D _ hD => ?_⟩
    obtain ⟨D, rfl⟩ : ∃ D', D = D' + 1 := ⟨D - 1, by omega⟩
    unfold lbPut
    rw [if_pos (by omega), if_pos (by omega)]
    rw [List.take_of_length_le (by omega)] at hg
    unfold laN
    rw [List.map_cons, List.map_nil, ← hg]
  | succ d ih =>
    intro g f hd hf hg hgm
    have hi : g.length < p.length := by omega
    have row : ∀ (e x : Nat) (f : List Int), x + e = m + 1 → f.length = p.length → f.take g.length = ints g → ∃ f', f'.length = p.length ∧ f'.take g.length = ints g ∧ ∃ K, ∀ F D E, K ≤ F → K ≤ D → e < E → lbRow (lbPut F p (m : Int) D (g.length + 1)) (m : Int) g.length E (x : Int) f = some (((List.range' x e).flatMap fun x => laN p m d (g ++ [x])).map ints, f') := by
      intro e
      induction e with
      | zero =>
        intro x f hx hf hg
        refine ⟨f, hf, hg, 0, fun F D E _ _ hE => ?_⟩
        obtain ⟨E, rfl⟩ : ∃ E', E = E' + 1 := ⟨E - 1, by omega⟩
        unfold lbRow
        rw [if_neg (by omega)]; rfl
      | succ e ihe =>
        intro x f hx hf hg
        obtain ⟨f1, h1, h2, K1, h3⟩ := ih (g ++ [x]) (f.set g.length (x : Int)) (by rw [List.length_append, List.length_singleton]; omega) (by rw [List.length_set]; exact hf) (set_take hg (by omega)) (fun i hi2 => by
          rw [List.length_append, List.length_singleton] at hi2
          rw [getD_snoc]
          split
          · omega
          · exact hgm i (by omega))
        obtain ⟨f2, h4, h5, K2, h6⟩ := ihe (x + 1) f1 (by omega) h1 (take_less h2)
        refine ⟨f2, h4, h5, K1 + K2, fun F D E hF hD hE => ?_⟩
        obtain ⟨E, rfl⟩ : ∃ E', E = E' + 1 := ⟨E - 1, by omega⟩
        unfold lbRow
        have h7 := h3 F D (by omega) (by omega)
        rw [List.length_append, List.length_singleton] at h7
        have h8 := h6 F D E (by omega) (by omega) (by omega)
        rw [if_pos (by omega), h7, Option.bind_some, show wrap64 ((x : Int) + 1) = ((x + 1 : Nat) : Int) by rw [wid (by omega) (by omega)]; omega, h8, Option.bind_some, range'_succ'', List.flatMap_cons, List.map_append]
    obtain ⟨K1, e1⟩ := items_ev (L p g.length) (lt_pow (hp.lt _ hi) (by omega))
    have hle : leastN p g g.length ≤ m := (leastN_le p g m g.length).2 fun j hj _ => hgm j hj
    obtain ⟨f', h1, h2, K2, h3⟩ := row (m + 1 - leastN p g g.length) (leastN p g g.length) f (by omega) hf hg
    refine ⟨f', h1, h2, K1 + K2 + m + 3, fun F D hF hD => ?_⟩
    obtain ⟨D, rfl⟩ : ∃ D', D = D' + 1 := ⟨D - 1, by omega⟩
    have e2 : impl_items.f F ((L p g.length : Nat) : Int) = some (ints (itemsN (L p g.length))) := e1 F (by omega)
    unfold lbPut
    rw [if_neg (by omega), if_pos ⟨hi, by omega⟩, rdN, hp.val _ hi, e2, Option.bind_some, if_pos (by rw [ints_len]; have := itemsN_len (L p g.length); omega), lbLeast_ev hp hi hg hf, Option.bind_some]
    exact h3 F D F (by omega) (by omega) (by omega)
theorem labels_ev {p : List Int} (hp : PO p) {m : Nat} (hm : m ≤ 12) (hc : (labsN p m).length ≤ 100000) : Ev (fun k => impl_Poset_labels.f k p (m : Int)) ((labsN p m).map ints) := by
  have hn := hp.small
  have h1 := hp.pos
  obtain ⟨f', _, _, K, hK⟩ := lbPut_ev hp hm p.length [] (List.replicate p.length 0) (by simp) (by simp) rfl (fun i hi => by cases hi)
  refine ⟨K, fun k hk => ?_⟩
  show impl_Poset_labels.f k p (m : Int) = _
  unfold impl_Poset_labels.f
  have h := hK k k hk hk
  rw [List.length_nil] at h
  rw [if_pos ⟨h1, by omega⟩, h, Option.bind_some, if_pos (by rw [List.length_map]; exact hc)]
  rfl
end Go.Proofs.Ytemkddgfneohhaa.Q
end

section
namespace Go.Proofs.Ytemkddgfneohhaa.F
open Go.RowKit Go.Maps Go.Proofs.YtemkddgfneohhaaW.PrintWords Go.Proofs.YtemkddgfneohhaaW.PrintLast Go.Proofs.YtemkddgfneohhaaW.PrintMore
set_option linter.unusedVariables false
set_option linter.unusedSimpArgs false
theorem mp_law : Keyed Try.prog 3 := int_keyed Try.underlying3
theorem mp_zero (w : World) : (zeroValue 3).run Try.prog w = .ok (.int .i64 0) w := by kernel_rfl
/-- An entry of a map's literal. -/
theorem wpList_insert_own {H : Type} {P : Program} (w : World) {ops : Array Oper} {rest : List Oper} {o : Oper} {a : Act} {Q : Exit → Act → World → Prop}
    (hg : o.guard = none) (m x v : Operand) (t : TypeId) (hop : o.op = Op.insert t m x v)
    (k e : TypeId) (K : Keyed P k) (ht : P.underlying t = some (.map k e)) (R : Value → Option (DataW H × List MemPlace)) (b n : Nat) (D : DataW H)
    (hm : a.eval m = .map (some b)) (hown : w.ownsMap P k R b n D) (hn : n < maxLen) (key val : Value) (kl : Lit) (hx : a.eval x = key) (hv : a.eval v = val) (hkey : keyOf P k key = some kl)
    (d : DataW H) (ps : List MemPlace) (hval : R val = some (d, ps))
    (hK : ∀ w', w'.ownsMap P k R b (n + 1) (D.put kl d) → w.grownBy w' (some b) → wpList P ops Q rest (a.put o.dst undef) w') :
    wpList P ops Q (o :: rest) a w := by
  refine wpList_plain hg fun K' hK' => ?_
  obtain ⟨w', hrun, r1, r2⟩ := hown.update K ht hn hkey hval
  unfold Oper.wp
  simp [execOp, hop, hm, hx, hv, hrun, Result.andThen]
  exact hK' _ _ (hK w' r1 r2)
theorem mp_nodup_le {α : Type} [DecidableEq α] : ∀ (l m : List α), l.Nodup → (∀ x ∈ l, x ∈ m) → l.length ≤ m.length
  | [], _, _, _ => Nat.zero_le _
  | x :: l, m, hn, h => by
    obtain ⟨h1, h2⟩ := List.nodup_cons.1 hn
    have hx : x ∈ m := h x List.mem_cons_self
    have := mp_nodup_le l (m.erase x) h2 (fun y hy => (List.mem_erase_of_ne (fun e => h1 (by rw [← e]; exact hy))).2 (h y (List.mem_cons_of_mem _ hy)))
    rw [List.length_erase_of_mem hx] at this
    have hp : 0 < m.length := List.length_pos_of_mem hx
    simp only [List.length_cons]
    omega
theorem mp_tight {H : Type} {P : Program} {k : TypeId} {R : Value → Option (DataW H × List MemPlace)} {w : World} {b n m : Nat} {D : DataW H} (h : w.ownsMap P k R b n D) (hm : Maps.size D ≤ m) : w.ownsMap P k R b m D := by
  obtain ⟨es, clock, hb, F, hs, rfl⟩ := h
  exact ⟨es, clock, hb, F, by rw [Maps.size_eq, length_sorted] at hm; simpa using hm, rfl⟩
/-- What a map reads as at the numbers of a list; it has no other keys. -/
structure MpReads {H : Type} (D : DataW H) (ids : List Int) (v : Int → Int) : Prop where
  at_ : ∀ s ∈ ids, D.atKey (.int .i64 s) (.lit (.int .i64 0)) = .lit (.int .i64 (v s))
  has_ : ∀ kl, Maps.has D kl = true → ∃ s ∈ ids, kl = .int .i64 s
theorem mp_norm {H : Type} {P : Program} {k : TypeId} {R : Value → Option (DataW H × List MemPlace)} {w : World} {b n : Nat} {D : DataW H} {ids : List Int} {v : Int → Int} (K : Keyed P k) (h : w.ownsMap P k R b n D) (hr : MpReads D ids v) : w.ownsMap P k R b ids.length D := by
  refine mp_tight h ?_
  obtain ⟨es, rfl, hp, hk⟩ := h.entries K
  rw [Maps.size_eq]
  haveI : DecidableEq Lit := fun a b => Classical.propDecidable (a = b)
  have hn : (es.map Prod.fst).Nodup := by
    rw [List.nodup_iff_pairwise_ne, List.pairwise_map]
    exact hp
  have hsub : ∀ x ∈ es.map Prod.fst, x ∈ ids.map (Lit.int .i64) := fun x hx => by
    obtain ⟨p, hp1, rfl⟩ := List.mem_map.1 hx
    obtain ⟨s, hs, e⟩ := hr.has_ p.1 (List.any_eq_true.2 ⟨p, hp1, WideAt.sameKey_self (hk p hp1)⟩)
    rw [e]
    exact List.mem_map.2 ⟨s, hs, rfl⟩
  have := mp_nodup_le _ _ hn hsub
  rw [List.length_map, List.length_map] at this
  exact this
theorem mp_empty {H : Type} (ids : List Int) : MpReads (.map [] : DataW H) ids (fun _ => 0) := ⟨fun _ _ => rfl, fun kl h => by cases h⟩
theorem mp_congr {H : Type} {D : DataW H} {ids : List Int} {v v' : Int → Int} (h : MpReads D ids v) (e : ∀ s ∈ ids, v s = v' s) : MpReads D ids v' := ⟨fun s hs => by rw [h.at_ s hs, e s hs], h.has_⟩
theorem mp_put {H : Type} {D : DataW H} {ids : List Int} {v : Int → Int} (hD : Maps.IsMap D) (h : MpReads D ids v) {t c : Int} (ht : t ∈ ids) : MpReads (D.put (.int .i64 t) (.lit (.int .i64 c))) ids (fun s => if s = t then c else v s) := by
  refine ⟨fun s hs => ?_, fun kl hk => ?_⟩
  · by_cases e : s = t
    · subst e
      rw [if_pos rfl]
      exact Maps.atKey_put_same hD (show WideAt.IsKeyLit (.int .i64 s) from trivial) _ _
    · rw [if_neg e, Maps.atKey_put_other (fun e2 => e (by injection e2)) _ _]
      exact h.at_ s hs
  · by_cases e : kl = .int .i64 t
    · exact ⟨t, ht, e⟩
    · rw [Maps.has_put_other e] at hk
      exact h.has_ kl hk
theorem mp_val {H : Type} {D : DataW H} {ids : List Int} {v : Int → Int} (h : MpReads D ids v) {x c : Int} (hk : Maps.has D (.int .i64 x) = true) (hat : ∀ zd, D.atKey (.int .i64 x) zd = .lit (.int .i64 c)) : x ∈ ids ∧ v x = c := by
  obtain ⟨s, hs, e⟩ := h.has_ _ hk
  injection e with _ e
  subst e
  have := h.at_ x hs
  rw [hat] at this
  injection this with this
  injection this with _ this
  exact ⟨hs, this.symm⟩
/-- The sum over those of a list for which something holds. -/
def mpTot (ids : List Int) (P : Int → Bool) (v : Int → Int) : Int := (ids.map fun s => if P s = true then v s else 0).sum
theorem mpTot_congr {ids : List Int} {P P' : Int → Bool} {v v' : Int → Int} (h : ∀ s ∈ ids, (if P s = true then v s else 0) = if P' s = true then v' s else 0) : mpTot ids P v = mpTot ids P' v' := by
  unfold mpTot
  rw [List.map_congr_left h]
theorem mpTot_step {P P' : Int → Bool} {v : Int → Int} {x : Int} (hP : P x = false) (ho : ∀ s, s ≠ x → P' s = P s) : ∀ ids : List Int, ids.Nodup → x ∈ ids → mpTot ids P' v = mpTot ids P v + if P' x = true then v x else 0
  | [], _, h => by cases h
  | s :: ids, hn, h => by
    obtain ⟨h1, h2⟩ := List.nodup_cons.1 hn
    unfold mpTot
    rw [List.map_cons, List.map_cons, List.sum_cons, List.sum_cons]
    by_cases e : s = x
    · subst e
      have h3 : (if P s = true then v s else 0) = 0 := by rw [hP]; rfl
      rw [h3]
      have e2 : (ids.map fun s => if P' s = true then v s else 0) = ids.map fun s => if P s = true then v s else 0 := List.map_congr_left fun y hy => by rw [ho y (fun e => h1 (by rw [← e]; exact hy))]
      rw [e2]
      omega
    · have hx : x ∈ ids := by
        rcases List.mem_cons.1 h with h | h
        · exact absurd h.symm e
        · exact h
      have := mpTot_step (v := v) hP ho ids h2 hx
      unfold mpTot at this
      rw [this, ho s e]
      omega
theorem mpTot_none {ids : List Int} {P : Int → Bool} {v : Int → Int} (h : ∀ s ∈ ids, P s = true → v s = 0) : mpTot ids P v = 0 := by
  have e : mpTot ids P v = mpTot ids (fun _ => false) v := mpTot_congr fun s hs => by
    cases hp : P s with
    | false => rfl
    | true => rw [if_pos rfl, h s hs hp]; rfl
  rw [e]
  unfold mpTot
  induction ids with
  | nil => rfl
  | cons s ids ih => rw [List.map_cons, List.sum_cons, ih (fun y hy => h y (List.mem_cons_of_mem _ hy)) (mpTot_congr fun s hs => by
    cases hp : P s with
    | false => rfl
    | true => rw [if_pos rfl, h s (List.mem_cons_of_mem _ hs) hp]; rfl)]; rfl
theorem mp_wrap_add (a b : Int) : wrap64 (wrap64 a + b) = wrap64 (a + b) := by unfold wrap64; omega
theorem mp_wrap_add' (a b : Int) : wrap64 (a + wrap64 b) = wrap64 (a + b) := by unfold wrap64; omega
/-- A key that is to come no more is one that is not of the map, or one that has come. -/
theorem mp_absent {H : Type} {D : DataW H} {ids : List Int} {v : Int → Int} (h : MpReads D ids v) {s : Int} (hs : s ∈ ids) (hk : Maps.has D (.int .i64 s) = false) : v s = 0 := by
  have := h.at_ s hs
  rw [Maps.atKey_of_not_has hk] at this
  injection this with this
  injection this with _ this
  exact this.symm
theorem mp_strike (left : Lit → Bool) (x s : Int) (h : s ≠ x) : ((fun z : Lit => left z && !z.sameKey (.int .i64 x)) (.int .i64 s)) = left (.int .i64 s) := by
  show (left (.int .i64 s) && !(Lit.int .i64 s).sameKey (.int .i64 x)) = _
  rw [Maps.sameKey_ne (fun e => h (by injection e))]
  simp
theorem mp_struck (left : Lit → Bool) (x : Int) : ((fun z : Lit => left z && !z.sameKey (.int .i64 x)) (.int .i64 x)) = false := by
  show (left (.int .i64 x) && !(Lit.int .i64 x).sameKey (.int .i64 x)) = _
  rw [WideAt.sameKey_self (show WideAt.IsKeyLit (.int .i64 x) from trivial)]
  simp
theorem mp_cell {ids : List Int} {W W1 : World} {b g c : Nat} {ok : Nat → Prop} (hr : Kd.R (Kd.int .i64) 3 W b ok (.slice (some ⟨g, 0, none⟩) ids.length c) ids) (hb : Below W.heap.size W W1) (i : Nat) (hi : i < ids.length) :
    W1.cell? ⟨g, i, none⟩ = some (.int .i64 (ids.getD i 0)) := by
  have h2 := (Kd.R_cell (0 : Int) (Kd.R_below hr hb) (i : Int) (by omega) (by omega)).1
  rw [Int.toNat_natCast] at h2
  rw [h2]
  congr 2
theorem mp_wf {n : Int} (h : -9223372036854775808 ≤ n ∧ n ≤ 9223372036854775807) : (Lit.int .i64 n).wf = true := WalkArith.wf_i64 h
theorem mp_grown {w w' : World} (hb : Below w.heap.size w w') : w.grownBy w' none := ⟨hb.os, hb.tape, hb.output, hb.size, fun k hk _ => hb.block k hk⟩
theorem mp_emptyO {X : World} {base n e sz : Nat} (hn : base ≤ n) (hx : X.heap[n]? = some (.cells #[] e (0, 0))) : X.ownsRow base e sz (.slice (some ⟨n, 0, none⟩) 0 0) 0 [] :=
  ⟨by simp, .inr ⟨n, 0, #[], rfl, hn, hx, by omega, by omega, by simp, by simp⟩⟩
theorem mp_emptyR {α : Type} (d : Kd α) {X : World} {base n e : Nat} {ok : Nat → Prop} (hn : base ≤ n) (hx : X.heap[n]? = some (.cells #[] e (0, 0))) (hok : ok n) : d.R e X base ok (.slice (some ⟨n, 0, none⟩) 0 0) ([] : List α) :=
  ⟨fun k hk => by
    have : n = k := by simpa [Value.ownBlock] using hk
    exact this ▸ hok, [], mp_emptyO hn hx, Reps.none _ _⟩
/-- A row's own block is no map. -/
theorem mp_apart {H : Type} {P : Program} {k : TypeId} {R : Value → Option (DataW H × List MemPlace)} {W : World} {b n base e : Nat} {D : DataW H} {ok : Nat → Prop} {v : Value} {xs : List Int} (h : Kd.R (Kd.int .i64) e W base ok v xs) (hm : W.ownsMap P k R b n D) : some b ≠ v.ownBlock := by
  intro hv
  obtain ⟨_, _, _, q, _, cells, hc⟩ := (Kd.R_bound h).1 b hv.symm
  obtain ⟨es, clock, hb, _⟩ := hm
  rw [hb] at hc
  cases hc
theorem mp_row_kept {H : Type} {P : Program} {k : TypeId} {R : Value → Option (DataW H × List MemPlace)} {W W1 : World} {b n base e : Nat} {D : DataW H} {ok : Nat → Prop} {v : Value} {xs : List Int} (h : Kd.R (Kd.int .i64) e W base ok v xs) (hm : W.ownsMap P k R b n D) (hg : W.grownBy W1 (some b)) : Kd.R (Kd.int .i64) e W1 base ok v xs :=
  Kd.R_grown2 h rfl hg (fun k hk => by cases hk; exact mp_apart h hm)
/-- An iterator's block is none of a row. -/
theorem mp_iter_kept {H : Type} {P : Program} {k : TypeId} {R : Value → Option (DataW H × List MemPlace)} {W W1 : World} {b r n base e cnt : Nat} {D : DataW H} {left : Lit → Bool} {ok : Nat → Prop} {v : Value} {xs : List Int} (h : Kd.R (Kd.int .i64) e W base ok v xs) (hm : W.ranges P k R b r n D left cnt) (hg : W.grownBy W1 (some r)) : Kd.R (Kd.int .i64) e W1 base ok v xs :=
  Kd.R_grown2 h rfl hg (fun k hk => by
    cases hk
    intro hv
    obtain ⟨_, _, _, q, _, cells, hc⟩ := (Kd.R_bound h).1 r hv.symm
    obtain ⟨es, clock, since, seen, c0, _, _, _, _, hr, _⟩ := hm
    rw [hr] at hc
    cases hc)
end Go.Proofs.Ytemkddgfneohhaa.F
end

section
namespace Go.Proofs.Ytemkddgfneohhaa.F
open Go.RowKit Go.Maps Go.Proofs.YtemkddgfneohhaaW.PrintWords Go.Proofs.YtemkddgfneohhaaW.PrintLast Go.Proofs.YtemkddgfneohhaaW.PrintMore
set_option linter.unusedVariables false
set_option linter.unusedSimpArgs false
/-- How many rows end in t, out of how many end in each. -/
def cntNew (B : Int → Int → Bool) (ids : List Int) (v : Int → Int) (t : Int) : Int := wrap64 (mpTot ids (fun s => B s t) v)
def cntAt (B : Int → Int → Bool) (ids : List Int) : Nat → Int → Int
  | 0 => fun s => if s = 0 then 1 else 0
  | k + 1 => cntNew B ids (cntAt B ids k)
def cntOk (ids : List Int) : Bool := decide (ids.Nodup) && (decide ((0 : Int) ∈ ids) && (decide (ids.length ≤ 1024) && ids.all fun s => decide (-9223372036854775808 ≤ s ∧ s ≤ 9223372036854775807)))
theorem cntOk_parts {ids : List Int} (h : cntOk ids = true) : ids.Nodup ∧ (0 : Int) ∈ ids ∧ ids.length ≤ 1024 ∧ ∀ s ∈ ids, -9223372036854775808 ≤ s ∧ s ≤ 9223372036854775807 := by
  unfold cntOk at h
  rw [Bool.and_eq_true, Bool.and_eq_true, Bool.and_eq_true, decide_eq_true_eq, decide_eq_true_eq, decide_eq_true_eq] at h
  exact ⟨h.1, h.2.1, h.2.2.1, fun s hs => of_decide_eq_true (List.all_eq_true.1 h.2.2.2 s hs)⟩
/-- The map in which the next rows are counted, while the old one is ranged over: the values at the elements ahead of i are drawn up, that at t as far as the range has come. -/
def cntMid (B : Int → Int → Bool) (ids : List Int) (v : Int → Int) (i : Nat) (s : Int) : Int := if s ∈ ids.take i then cntNew B ids v s else 0
def cntIn (B : Int → Int → Bool) (ids : List Int) (v : Int → Int) (i : Nat) (t : Int) (left : Lit → Bool) (s : Int) : Int := if s = t then wrap64 (mpTot ids (fun s => B s t && !left (.int .i64 s)) v) else cntMid B ids v i s
theorem cnt_notyet {ids : List Int} (hn : ids.Nodup) {i : Nat} (hi : i < ids.length) : ids.getD i 0 ∉ ids.take i := by
  rw [List.getD_eq_getElem?_getD, List.getElem?_eq_getElem hi]
  show ids[i] ∉ ids.take i
  intro h
  obtain ⟨j, hj, e⟩ := List.mem_take_iff_getElem.1 h
  have := (List.nodup_iff_pairwise_ne.1 hn)
  rw [List.pairwise_iff_getElem] at this
  exact this j i (by omega) hi (by omega) e
theorem cnt_start {B : Int → Int → Bool} {D Dr : DataW Unit} {ids : List Int} {v : Int → Int} {i : Nat} {t : Int} (hr : MpReads Dr ids v) (h : MpReads D ids (cntMid B ids v i)) (ht : t ∉ ids.take i) : MpReads D ids (cntIn B ids v i t (Maps.has Dr)) := by
  refine mp_congr h fun s hs => ?_
  unfold cntIn
  by_cases e : s = t
  · subst e
    rw [if_pos rfl, mpTot_none]
    · unfold cntMid; rw [if_neg ht]; unfold wrap64; decide
    · intro y hy hp
      simp only [Bool.and_eq_true, Bool.not_eq_true'] at hp
      exact mp_absent hr hy hp.2
  · rw [if_neg e]
theorem cnt_end {B : Int → Int → Bool} {D : DataW Unit} {ids : List Int} {v : Int → Int} {i : Nat} {left : Lit → Bool} (hn : ids.Nodup) (hi : i < ids.length) (hl : ∀ kl, left kl = false) (h : MpReads D ids (cntIn B ids v i (ids.getD i 0) left)) : MpReads D ids (cntMid B ids v (i + 1)) := by
  refine mp_congr h fun s hs => ?_
  have e0 : ids.take (i + 1) = ids.take i ++ [ids.getD i 0] := by
    rw [List.take_add_one, List.getElem?_eq_getElem hi, List.getD_eq_getElem?_getD, List.getElem?_eq_getElem hi]; rfl
  unfold cntIn cntMid
  rw [e0]
  by_cases e : s = ids.getD i 0
  · rw [if_pos e, if_pos (List.mem_append.2 (.inr (by rw [e]; exact List.mem_singleton.2 rfl))), e]
    unfold cntNew
    congr 1
    exact mpTot_congr fun y hy => by rw [hl]; simp
  · rw [if_neg e]
    by_cases e2 : s ∈ ids.take i
    · rw [if_pos e2, if_pos (List.mem_append.2 (.inl e2))]
    · rw [if_neg e2, if_neg (fun h => by
        rcases List.mem_append.1 h with h | h
        · exact e2 h
        · exact e (List.mem_singleton.1 h))]
/-- An entry has come that is no part of t. -/
theorem cnt_skip {B : Int → Int → Bool} {D : DataW Unit} {ids : List Int} {v : Int → Int} {i : Nat} {t x : Int} {left : Lit → Bool} (hn : ids.Nodup) (hx : x ∈ ids) (hlx : left (.int .i64 x) = true) (hb : B x t = false)
    (h : MpReads D ids (cntIn B ids v i t left)) : MpReads D ids (cntIn B ids v i t (fun z => left z && !z.sameKey (.int .i64 x))) := by
  refine mp_congr h fun s hs => ?_
  unfold cntIn
  by_cases e : s = t
  · rw [if_pos e, if_pos e]
    congr 1
    have := mpTot_step (v := v) (x := x) (P := fun s => B s t && !left (.int .i64 s)) (P' := fun s => B s t && !(fun z : Lit => left z && !z.sameKey (.int .i64 x)) (.int .i64 s)) (by rw [hlx]; simp) (fun y hy => by show (_ && !((fun z : Lit => left z && !z.sameKey (.int .i64 x)) (.int .i64 y))) = _; rw [mp_strike left x y hy]) ids hn hx
    rw [this, if_neg (by show ¬ ((_ && _) = true); rw [hb]; simp)]
    omega
  · rw [if_neg e, if_neg e]
/-- An entry has come that is part of t. -/
theorem cnt_add {B : Int → Int → Bool} {D : DataW Unit} {ids : List Int} {v : Int → Int} {i : Nat} {t x c c0 : Int} {left : Lit → Bool} (hn : ids.Nodup) (ht : t ∈ ids) (hx : x ∈ ids) (hc : v x = c) (hlx : left (.int .i64 x) = true) (hb : B x t = true)
    (hD : Maps.IsMap D) (h : MpReads D ids (cntIn B ids v i t left)) (h0 : D.atKey (.int .i64 t) (.lit (.int .i64 0)) = .lit (.int .i64 c0)) : MpReads (D.put (.int .i64 t) (.lit (.int .i64 (wrap64 (c0 + c))))) ids (cntIn B ids v i t (fun z => left z && !z.sameKey (.int .i64 x))) := by
  refine mp_congr (mp_put hD h ht) fun s hs => ?_
  have e0 : c0 = wrap64 (mpTot ids (fun s => B s t && !left (.int .i64 s)) v) := by
    have := h.at_ t ht
    rw [h0] at this
    injection this with this
    injection this with _ this
    rw [this]
    unfold cntIn
    rw [if_pos rfl]
  unfold cntIn
  by_cases e : s = t
  · rw [if_pos e, if_pos e, e0, mp_wrap_add]
    congr 1
    have := mpTot_step (v := v) (x := x) (P := fun s => B s t && !left (.int .i64 s)) (P' := fun s => B s t && !(fun z : Lit => left z && !z.sameKey (.int .i64 x)) (.int .i64 s)) (by rw [hlx]; simp) (fun y hy => by show (_ && !((fun z : Lit => left z && !z.sameKey (.int .i64 x)) (.int .i64 y))) = _; rw [mp_strike left x y hy]) ids hn hx
    rw [this, if_pos (by show (_ && _) = true; rw [hb, mp_struck]; rfl), hc]
  · rw [if_neg e, if_neg e, if_neg e]
/-- The sum at the end: another entry. -/
theorem cnt_sum {ids : List Int} {v : Int → Int} {x c : Int} {left : Lit → Bool} (hn : ids.Nodup) (hx : x ∈ ids) (hc : v x = c) (hlx : left (.int .i64 x) = true) :
    wrap64 (wrap64 (mpTot ids (fun s => !left (.int .i64 s)) v) + c) = wrap64 (mpTot ids (fun s => !(fun z : Lit => left z && !z.sameKey (.int .i64 x)) (.int .i64 s)) v) := by
  rw [mp_wrap_add]
  congr 1
  have := mpTot_step (v := v) (x := x) (P := fun s => !left (.int .i64 s)) (P' := fun s => !(fun z : Lit => left z && !z.sameKey (.int .i64 x)) (.int .i64 s)) (by rw [hlx]; rfl) (fun y hy => by show (!((fun z : Lit => left z && !z.sameKey (.int .i64 x)) (.int .i64 y))) = _; rw [mp_strike left x y hy]) ids hn hx
  rw [this, if_pos (by show (!_) = true; rw [mp_struck]; rfl), hc]
theorem cnt_first {B : Int → Int → Bool} (ids : List Int) (h : (0 : Int) ∈ ids) : MpReads ((DataW.map [] : DataW Unit).put (.int .i64 0) (.lit (.int .i64 1))) ids (cntAt B ids 0) := mp_congr (mp_put ⟨[], rfl⟩ (mp_empty ids) h) (fun _ _ => rfl)
theorem cnt_mid0 {B : Int → Int → Bool} (ids : List Int) (v : Int → Int) : MpReads (DataW.map [] : DataW Unit) ids (cntMid B ids v 0) := mp_congr (mp_empty ids) (fun s _ => by unfold cntMid; rw [if_neg (by simp)])
theorem cnt_done {B : Int → Int → Bool} {D : DataW Unit} {ids : List Int} {v : Int → Int} (h : MpReads D ids (cntMid B ids v ids.length)) : MpReads D ids (cntNew B ids v) := mp_congr h (fun s hs => by unfold cntMid; rw [List.take_length, if_pos hs])
end Go.Proofs.Ytemkddgfneohhaa.F
end

section
namespace Go.Proofs.Ytemkddgfneohhaa.Q
open Go.RowKit Go.Proofs.YtemkddgfneohhaaW.PrintWords Go.Proofs.Ytemkddgfneohhaa.F
set_option linter.unusedVariables false
theorem mpTot_ints {P' : Int → Bool} {v' : Int → Int} {P : Nat → Bool} {v : Nat → Nat} : ∀ ids : List Nat, (∀ s ∈ ids, P' (s : Int) = P s) → (∀ s ∈ ids, v' (s : Int) = (v s : Int)) → mpTot (ints ids) P' v' = ((sumL ((ids.filter P).map v) : Nat) : Int)
  | [], _, _ => rfl
  | s :: ids, h1, h2 => by
    have ih := mpTot_ints ids (fun s hs => h1 s (List.mem_cons_of_mem _ hs)) (fun s hs => h2 s (List.mem_cons_of_mem _ hs))
    unfold mpTot ints at ih ⊢
    rw [List.map_cons, List.map_cons, List.sum_cons, ih, List.filter_cons]
    have e1 := h1 s List.mem_cons_self
    have e2 := h2 s List.mem_cons_self
    show (if P' (s : Int) = true then v' (s : Int) else 0) + _ = _
    rw [e1, e2]
    cases P s with
    | true => rw [if_pos rfl, if_pos rfl, List.map_cons]; simp only [sumL]; omega
    | false => rw [if_neg (by simp), if_neg (by simp)]; omega
theorem cntAt_eq {p : List Int} (hp : p.length ≤ 10) {B' : Int → Int → Bool} {B : Nat → Nat → Bool} (hB : ∀ s ∈ idealsN p, ∀ t ∈ idealsN p, B' (s : Int) (t : Int) = B s t) (hsub : ∀ s t, B s t = true → subB s t = true) :
    ∀ k, k ≤ 14 → ∀ t ∈ idealsN p, cntAt B' (ints (idealsN p)) k (t : Int) = ((wvN B (idealsN p) k t : Nat) : Int)
  | 0, _, t, _ => by
    unfold cntAt wvN
    by_cases h : t = 0
    · subst h; rfl
    · rw [if_neg h, if_neg (by omega)]; rfl
  | k + 1, hk, t, ht => by
    unfold cntAt cntNew
    rw [mpTot_ints (P := fun s => B s t) (v := wvN B (idealsN p) k) (idealsN p) (fun s hs => hB s hs t ht) (fun s hs => cntAt_eq hp hB hsub k (by omega) s hs)]
    have := wvN_small hp (B := B) (k := k + 1) (t := t) hsub (by omega)
    have e : wvN B (idealsN p) (k + 1) t = sumL (((idealsN p).filter fun s => B s t).map (wvN B (idealsN p) k)) := by conv => lhs; unfold wvN
    rw [e] at this ⊢
    exact wid (by omega) (by omega)
theorem cntOk_ids {p : List Int} (hp : p.length ≤ 10) : cntOk (ints (idealsN p)) = true := by
  have h2 : 2 ^ p.length ≤ 1024 := Nat.le_trans (Nat.pow_le_pow_right (by decide) hp) (by decide)
  unfold cntOk
  rw [Bool.and_eq_true, Bool.and_eq_true, Bool.and_eq_true, decide_eq_true_eq, decide_eq_true_eq, decide_eq_true_eq, List.all_eq_true]
  refine ⟨?_, List.mem_map.2 ⟨0, zero_mem p, rfl⟩, ?_, fun x hx => ?_⟩
  · unfold ints
    rw [List.nodup_iff_pairwise_ne, List.pairwise_map]
    exact (List.nodup_iff_pairwise_ne.1 (idealsN_nodup p)).imp (fun h e => h (Int.ofNat.inj e))
  · rw [ints_len]; have := idealsN_len p; omega
  · obtain ⟨s, hs, rfl⟩ := List.mem_map.1 hx
    have := (mem_idealsN.1 hs).1
    refine decide_eq_true ?_
    show _ ≤ (s : Int) ∧ (s : Int) ≤ _
    omega
end Go.Proofs.Ytemkddgfneohhaa.Q
end

section
namespace Go.Proofs.Ytemkddgfneohhaa.F
open Go.RowKit Go.Maps Go.Proofs.YtemkddgfneohhaaW.PrintWords Go.Proofs.YtemkddgfneohhaaW.PrintLast Go.Proofs.YtemkddgfneohhaaW.PrintMore
set_option linter.unusedVariables false
set_option linter.unusedSimpArgs false
/-- Whether a set is part of another one. -/
def cntB (s t : Int) : Bool := Go.bits .andNot .i64 s t == 0
def impl_Poset_count.f (k : Nat) (l0_0 : List Int) (a1 : Int) : Option Int := (impl_Poset_ideals.f k l0_0).bind fun ids => if cntOk ids = true ∧ (0 ≤ a1 ∧ a1 ≤ 1000) then some (wrap64 (mpTot ids (fun _ => true) (cntAt cntB ids a1.toNat))) else none
theorem impl_Poset_count.mono : ∀ a0 a1 k, LeO (impl_Poset_count.f k a0 a1) (impl_Poset_count.f (k + 1) a0 a1) := fun a0 a1 k => LeO.bind (impl_Poset_ideals.mono _ _) (fun _ => LeO.refl _)
set_option maxHeartbeats 8000000 in
set_option maxRecDepth 100000 in
theorem impl_Poset_count.calls (k : Nat) (A0_0 : Option Addr) (c0_0 : Nat) (l0_0 : List Int) (a1 : Int) (r : Int) (w : World) (hr0_0 : Kd.C (Kd.int .i64) w A0_0 l0_0.length l0_0) (hc0_0 : l0_0.length ≤ c0_0) (h : impl_Poset_count.f k l0_0 a1 = some r) :
    Calls Try.prog 42 #[.agg #[.slice A0_0 l0_0.length c0_0], .int .i64 a1] w fun e w' => e = .returned (.int .i64 r) ∧ Below w.heap.size w w' := by
  have hu30 := Try.underlying30
  have hmm := @run_makeMap Try.prog
  unfold impl_Poset_count.f at h
  obtain ⟨ids, hid, h⟩ := Option.bind_eq_some_iff.1 h
  split at h
  rotate_left
  · cases h
  rename_i hok
  have h := Option.some.inj h
  obtain ⟨⟨hnd, h0, hlen, hwf⟩, ha0, ha1⟩ : (ids.Nodup ∧ (0 : Int) ∈ ids ∧ ids.length ≤ 1024 ∧ ∀ s ∈ ids, -9223372036854775808 ≤ s ∧ s ≤ 9223372036854775807) ∧ 0 ≤ a1 ∧ a1 ≤ 1000 := ⟨cntOk_parts hok.1, hok.2⟩
  obtain ⟨m, rfl⟩ := Int.eq_ofNat_of_zero_le ha0
  rw [Int.toNat_natCast] at h
  have hm : m ≤ 1000 := by omega
  have hpos : 0 < ids.length := List.length_pos_of_mem h0
  have HRES := Aside0.mk h
  have HID := Aside0.mk hid
  have HND := Aside0.mk hnd
  have HZ := Aside0.mk h0
  have HLEN := Aside0.mk hlen
  have HWF := Aside0.mk hwf
  have HM := Aside0.mk hm
  have HP := Aside0.mk hpos
  have HR := Aside0.mk (Kd.C_alloc hr0_0 (.cells #[.slice A0_0 l0_0.length c0_0] 30 (0, 0)))
  have HC := Aside0.mk hc0_0
  clear h hid hnd h0 hlen hwf hm hpos hr0_0 hc0_0 hok ha0 ha1
  go_enter Try.func42, Try.ntmps42
  go_wp2_with (first
    | (go_at_call 67; (with_reducible refine (impl_Poset_ideals.calls k A0_0 c0_0 l0_0 ids _ HR.out HC.out HID.out).mono ?_); rintro e w1 ⟨vi, rfl, hr1, hb1⟩; obtain ⟨g, cap, rfl, hgb, hgl, _⟩ := Kd.R_form hr1 HP.out; have HR1 := Aside0.mk hr1; have HB1 := Aside0.mk ((below_alloc (Below.refl w.heap.size w) _).trans (hb1.mono (by simp))); clear hr1 hb1 hgb)
    | (refine wpList_insert_own _ rfl (.tmp 17) (.const (.int .i64 0)) (.const (.int .i64 1)) 68 rfl 3 3 mp_law Try.underlying68 (plainElem (H := Unit) Try.prog 3) w1.heap.size 0 _ rfl (World.ownsMap_made w1 Try.prog 3 _) (by unfold maxLen; omega) (.int .i64 0) (.int .i64 1) (.int .i64 0) rfl rfl (keyOf_int_mk Try.underlying3 (by decide)) (.lit (.int .i64 1)) [] (plainElem_int Try.underlying3 (by decide)) ?_; intro w2 hown2 hgrow2; have HMAP := Aside0.mk (mp_norm mp_law hown2 (cnt_first (B := cntB) ids HZ.out)); have HB2 := Aside0.mk (((Below.refl w1.heap.size w1).alloc (Nat.le_refl _) (.map #[] 0)).grown hgrow2 (by simp) (fun j hj => by cases hj; exact Nat.le_refl _)); clear hown2 hgrow2)
    | go_in)
  clear hmm
  have hmm := @run_makeMap Try.prog
  go_loopg [6, 20] (m + 1) (fun kq v6 v20 w' => ∃ (q b : Nat) (D : DataW Unit), v6 = .map (some b) ∧ v20 = .int .i64 (q : Int) ∧ Aside0 (kq + q = m + 1 ∧ q ≤ m) ∧ Aside0 (w1.heap.size ≤ b) ∧ Aside0 (w'.ownsMap Try.prog 3 (plainElem Try.prog 3) b ids.length D) ∧ Aside0 (MpReads D ids (cntAt cntB ids q)) ∧ Aside0 (Below w1.heap.size w1 w'))
  case atStart => exact ⟨0, _, _, rfl, rfl, ⟨rfl, Nat.zero_le _⟩, ⟨Nat.le_refl _⟩, HMAP, ⟨cnt_first ids HZ.out⟩, HB2⟩
  case round =>
    obtain ⟨q, b, D, rfl, rfl, HK, HBB, HD, HRD, HBW⟩ := hrel
    obtain ⟨WA, rfl⟩ : ∃ x, x = wr := ⟨wr, rfl⟩
    cases gk with
    | zero => exact absurd HK.out (by omega)
    | succ k1 =>
      clear HMAP HB2
      by_cases hq : q < m
      · have d1 : decide ((q : Int) < (m : Int)) = true := decide_eq_true (by omega)
        have d2 : decide (q < m) = true := decide_eq_true hq
        have d3 := eq_true hq
        have HQ := Aside0.mk hq
        clear hq
        go_wp2_with (fail)
        go_loopg [25] (ids.length + 1) (fun kq v25 w' => ∃ (i : Nat) (D1 : DataW Unit), v25 = .int .i64 (i : Int) ∧ Aside0 (kq + i = ids.length + 1 ∧ i ≤ ids.length) ∧ Aside0 (w'.ownsMap Try.prog 3 (plainElem Try.prog 3) WA.heap.size ids.length D1) ∧ Aside0 (MpReads D1 ids (cntMid cntB ids (cntAt cntB ids q) i)) ∧ Aside0 (w'.ownsMap Try.prog 3 (plainElem Try.prog 3) b ids.length D) ∧ Aside0 (Below w1.heap.size w1 w'))
        case atStart => exact ⟨0, _, rfl, ⟨rfl, Nat.zero_le _⟩, ⟨(World.ownsMap_made WA Try.prog 3 _).mono (Nat.zero_le _)⟩, ⟨cnt_mid0 ids _⟩, ⟨HD.out.alloc _⟩, ⟨HBW.out.alloc HBW.out.size _⟩⟩
        case round =>
          obtain ⟨i, D1, rfl, HK2, HD1, HRD1, HD0, HBW1⟩ := hrel
          obtain ⟨WB, rfl⟩ : ∃ x, x = wr := ⟨wr, rfl⟩
          cases gk with
          | zero => exact absurd HK2.out (by omega)
          | succ k2 =>
            by_cases hi : i < ids.length
            · have hcell := mp_cell HR1.out HBW1.out i hi
              have hmem : ids.getD i 0 ∈ ids := by rw [List.getD_eq_getElem?_getD, List.getElem?_eq_getElem hi]; exact List.getElem_mem hi
              have HT := Aside0.mk (cnt_notyet HND.out hi)
              obtain ⟨t, ht⟩ : ∃ t, t = ids.getD i 0 := ⟨_, rfl⟩
              rw [← ht] at hcell hmem HT
              have HTE := Aside0.mk ht
              have HTM := Aside0.mk hmem
              clear ht hmem
              have e1 : (0 : Int) ≤ (i : Int) := by omega
              have e2 : (i : Int) < (ids.length : Int) := by omega
              have e3 : decide ((i : Int) < (ids.length : Int)) = true := decide_eq_true e2
              have e4 : decide (i < ids.length) = true := decide_eq_true hi
              have e5 := eq_true hi
              have HI := Aside0.mk hi
              clear hi
              go_wp2_with (first
                | (at_range; refine wpList_range_own _ rfl _ 68 rfl 3 3 mp_law Try.underlying68 _ b ids.length D rfl HD0.out ?_; intro w0 hrg0 hg0 hs0; have HRG0 := Aside0.mk hrg0; have HG0 := Aside0.mk hg0; clear hrg0 hg0 hs0)
                | go_in)
              go_frame
              clear hcell e1 e2 e3 e4 e5
              go_loopg [10] (Maps.size D + 1) (fun kq _ w' => ∃ (left : Lit → Bool) (cnt : Nat) (D2 : DataW Unit), Aside0 (kq = cnt + 1) ∧ Aside0 (w'.ranges Try.prog 3 (plainElem Try.prog 3) b WB.heap.size ids.length D left cnt) ∧ Aside0 (w'.ownsMap Try.prog 3 (plainElem Try.prog 3) WA.heap.size ids.length D2) ∧ Aside0 (MpReads D2 ids (cntIn cntB ids (cntAt cntB ids q) i t left)) ∧ Aside0 (Below w1.heap.size w1 w'))
              case atStart => exact ⟨_, _, _, ⟨rfl⟩, HRG0, ⟨HD1.out.kept HG0.out (by simp)⟩, ⟨cnt_start HRD.out HRD1.out HT.out⟩, ⟨HBW1.out.grown HG0.out HBW1.out.size (fun j hj => by cases hj)⟩⟩
              case round =>
                obtain ⟨left, cnt, D2, HK3, HRG, HD2, HRD2, HBW2⟩ := hrel
                obtain ⟨WC, rfl⟩ : ∃ x, x = wr := ⟨wr, rfl⟩
                have HNE : Aside0 (WB.heap.size ≠ b ∧ WB.heap.size ≠ WA.heap.size ∧ w1.heap.size ≤ WA.heap.size ∧ w1.heap.size ≤ WB.heap.size ∧ WA.heap.size ≠ b) := ⟨by have h1 := HD0.out.lt; have h2 := HD1.out.lt; have h3 := HBW.out.size; have h4 := HBW1.out.size; have h5 := HD.out.lt; omega⟩
                go_wp2_with (first
                  | (at_next; refine wpList_next_ranges_ii _ rfl _ rfl 3 3 .i64 .i64 mp_law Try.underlying3 Try.underlying3 b WB.heap.size ids.length D left cnt rfl HRG.out ?_ ?_)
                  | go_in)
                · -- nothing is left
                  intro hc0 hl0
                  have hwi : wrap64 ((i : Int) + 1) = ((i + 1 : Nat) : Int) := by unfold wrap64; have := HI.out; have := HLEN.out; omega
                  have HL0 := Aside0.mk hl0
                  clear hc0 hl0
                  go_wp2_with (fail)
                  go_roundg k2
                  case measure => omega
                  case rel =>
                    refine ⟨i + 1, D2, by rw [hwi], ⟨by have := HK2.out; have := HI.out; omega⟩, HD2, ⟨cnt_end HND.out HI.out HL0.out (by have := HRD2.out; rwa [HTE.out] at this)⟩, ⟨HRG.out.owns⟩, HBW2⟩
                · intro x c w3 cnt1 hwx hwc hlx hat hrg1 hlt hg1 hs1 hen
                  have HXV := Aside0.mk (mp_val HRD.out (Maps.has_true_of_atKey hat) hat)
                  have HLX := Aside0.mk hlx
                  have HRG1 := Aside0.mk hrg1
                  have HLT := Aside0.mk hlt
                  have HD2' := Aside0.mk (HD2.out.kept hg1 (by have := HNE.out; intro e; have := Option.some.inj e; omega))
                  have HBW3 := Aside0.mk (HBW2.out.grown hg1 HBW2.out.size (fun j hj => by cases hj; exact HNE.out.2.2.2.1))
                  clear hwx hwc hlx hat hrg1 hlt hg1 hs1
                  cases hb : (Go.bits .andNot .i64 x t == 0) with
                  | false =>
                    have HB0 : Aside0 (cntB x t = _) := ⟨hb⟩
                    go_wp2_with (fail)
                    go_roundg (cnt1 + 1)
                    case measure => have := HK3.out; have := HLT.out; omega
                    case rel => exact ⟨_, cnt1, D2, ⟨rfl⟩, HRG1, HD2', ⟨cnt_skip HND.out HXV.out.1 HLX.out HB0.out HRD2.out⟩, HBW3⟩
                  | true =>
                    have HB0 : Aside0 (cntB x t = _) := ⟨hb⟩
                    go_wp2_with (first
                      | (at_lookup; refine wpList_lookup_own_int _ rfl _ _ 68 rfl 3 3 .i64 mp_law Try.underlying68 Try.underlying3 (mp_zero _) WA.heap.size ids.length D2 rfl HD2'.out _ _ rfl (keyOf_int_mk Try.underlying3 (mp_wf (HWF.out t HTM.out))) ?_; intro c0 hat0 hwc0; have HAT0 := Aside0.mk hat0; clear hat0 hwc0)
                      | (at_mapUpdate; refine wpList_mapUpdate_own _ rfl _ _ _ 68 rfl 3 3 mp_law Try.underlying68 _ WA.heap.size ids.length D2 rfl HD2'.out (by have := HLEN.out; unfold maxLen; omega) _ _ _ rfl rfl (keyOf_int_mk Try.underlying3 (mp_wf (HWF.out t HTM.out))) _ [] (plainElem_int Try.underlying3 (wrap64_wf _)) ?_; intro w4 hown4 hgrow4; have HD4 := Aside0.mk hown4; have HG4 := Aside0.mk hgrow4; clear hown4 hgrow4)
                      | go_in)
                    have HRD4 := Aside0.mk (cnt_add (i := i) (v := cntAt cntB ids q) HND.out HTM.out HXV.out.1 HXV.out.2 HLX.out HB0.out HD2'.out.isMap HRD2.out HAT0.out)
                    go_roundg (cnt1 + 1)
                    case measure => have := HK3.out; have := HLT.out; omega
                    case rel => exact ⟨_, cnt1, _, ⟨rfl⟩, ⟨HRG1.out.kept HG4.out (by have := HNE.out; intro e; have := Option.some.inj e; omega) (by have := HNE.out; intro e; have := Option.some.inj e; omega)⟩, ⟨mp_norm mp_law HD4.out HRD4.out⟩, HRD4, ⟨HBW3.out.grown HG4.out HBW3.out.size (fun j hj => by cases hj; exact HNE.out.2.2.1)⟩⟩
            · have hi' : i = ids.length := by have := HK2.out; omega
              have e3 : decide ((i : Int) < (ids.length : Int)) = false := decide_eq_false (by omega)
              have e4 : decide (i < ids.length) = false := decide_eq_false hi
              have e5 : (i < ids.length) = False := eq_false hi
              have hwq : wrap64 ((q : Int) + 1) = ((q + 1 : Nat) : Int) := by unfold wrap64; have := HQ.out; have := HM.out; omega
              have HE := Aside0.mk hi'
              clear hi hi'
              go_wp2_with (fail)
              go_roundg k1
              case measure => omega
              case rel => exact ⟨q + 1, _, D1, rfl, by rw [hwq], ⟨by have := HK.out; have := HQ.out; omega⟩, ⟨HBW.out.size⟩, HD1, ⟨cnt_done (by have := HRD1.out; rwa [HE.out] at this)⟩, HBW1⟩
      · have HQE : Aside0 (q = m) := ⟨by have := HK.out; omega⟩
        have d1 : decide ((q : Int) < (m : Int)) = false := decide_eq_false (by omega)
        have d2 : decide (q < m) = false := decide_eq_false hq
        have d3 : (q < m) = False := eq_false hq
        clear hq
        go_wp2_with (first
          | (at_range; refine wpList_range_own _ rfl _ 68 rfl 3 3 mp_law Try.underlying68 _ b ids.length D rfl HD.out ?_; intro w0 hrg0 hg0 hs0; have HRG0 := Aside0.mk hrg0; have HG0 := Aside0.mk hg0; clear hrg0 hg0 hs0)
          | go_in)
        go_frame
        go_loopg [12] (Maps.size D + 1) (fun kq v12 w' => ∃ (left : Lit → Bool) (cnt : Nat) (n : Int), v12 = .int .i64 n ∧ Aside0 (n = wrap64 (mpTot ids (fun s => !left (.int .i64 s)) (cntAt cntB ids q))) ∧ Aside0 (kq = cnt + 1) ∧ Aside0 (w'.ranges Try.prog 3 (plainElem Try.prog 3) b WA.heap.size ids.length D left cnt) ∧ Aside0 (Below w1.heap.size w1 w'))
        case atStart => exact ⟨_, _, 0, rfl, ⟨by rw [mpTot_none (fun s hs hk => mp_absent HRD.out hs (by simpa using hk))]; unfold wrap64; decide⟩, ⟨rfl⟩, HRG0, ⟨HBW.out.grown HG0.out HBW.out.size (fun j hj => by cases hj)⟩⟩
        case round =>
          obtain ⟨left, cnt, n, rfl, HN, HK3, HRG, HBW2⟩ := hrel
          obtain ⟨WC, rfl⟩ : ∃ x, x = wr := ⟨wr, rfl⟩
          go_wp2_with (first
            | (at_next; refine wpList_next_ranges_ii _ rfl _ rfl 3 3 .i64 .i64 mp_law Try.underlying3 Try.underlying3 b WA.heap.size ids.length D left cnt rfl HRG.out ?_ ?_)
            | go_in)
          · intro hc0 hl0
            have HL0 := Aside0.mk hl0
            clear hc0 hl0
            go_wp2_with (fail)
            go_ret
            have hn : n = r := by
              rw [HN.out, ← HRES.out, ← HQE.out]
              congr 1
              exact mpTot_congr fun y hy => by rw [HL0.out]; rfl
            subst hn
            exact ⟨rfl, HB1.out.trans (HBW2.out.mono HB1.out.size)⟩
          · intro x c w3 cnt1 hwx hwc hlx hat hrg1 hlt hg1 hs1 hen
            have HXV := Aside0.mk (mp_val HRD.out (Maps.has_true_of_atKey hat) hat)
            have HSUM := Aside0.mk (cnt_sum (ids := ids) HND.out HXV.out.1 HXV.out.2 hlx)
            have HRG1 := Aside0.mk hrg1
            have HLT := Aside0.mk hlt
            have HBW3 := Aside0.mk (HBW2.out.grown hg1 HBW2.out.size (fun j hj => by cases hj; exact HBW.out.size))
            clear hwx hwc hlx hat hrg1 hlt hg1 hs1
            go_wp2_with (fail)
            go_roundg (cnt1 + 1)
            case measure => have := HK3.out; have := HLT.out; omega
            case rel => exact ⟨_, cnt1, _, rfl, ⟨by rw [HN.out]; exact HSUM.out⟩, ⟨rfl⟩, HRG1, HBW3⟩
end Go.Proofs.Ytemkddgfneohhaa.F
end

section
namespace Go.Proofs.Ytemkddgfneohhaa.F
open Go.RowKit Go.Proofs.YtemkddgfneohhaaW.PrintWords Go.Proofs.YtemkddgfneohhaaW.PrintLast Go.Proofs.YtemkddgfneohhaaW.PrintMore
attribute [local go_sem] max2_int min2_int max_two min_two max_three min_three max_four min_four
set_option linter.unusedVariables false
set_option linter.unusedSimpArgs false

/-! ### impl_LabelsWith: function 32 -/
def impl_LabelsWith.j0 : Nat → Int → Int → Bool → List Int → Option (List Int × Bool)
  | 0, _, _, _, _ => none
  | k + 1, x1, x2, x22, x347000 => if x22 = true then (some (([] : List Int), false)) else ((impl_Poset_labels.f k x347000 x1).bind fun t350 => ((impl_within.f x2 0 (wrap64 ((t350.length : Int) - 1))).bind fun t353 => (if t353 = true then (if 0 ≤ x2 then (if x2 < (t350.length : Int) then (some (rd_L1 t350 x2, true)) else (none)) else (none)) else (some (([] : List Int), false)))))
def impl_LabelsWith.f (k : Nat) (l0_0 : List Int) (a1 : Int) (a2 : Int) : Option (List Int × Bool) := (impl_IsPoset.f k l0_0).bind fun t347 => (if t347 = true then ((impl_isBound.f a1).bind fun t348 => (if t348 = true then ((impl_Poset_count.f k l0_0 a1).bind fun t349 => (impl_LabelsWith.j0 k a1 a2 (decide (t349 > 1000)) l0_0)) else (impl_LabelsWith.j0 k a1 a2 true l0_0))) else (impl_LabelsWith.j0 k a1 a2 true l0_0))
theorem impl_LabelsWith.mono_l : ∀ k, (∀ y0 y1 y2 y3, LeO (impl_LabelsWith.j0 k y0 y1 y2 y3) (impl_LabelsWith.j0 (k + 1) y0 y1 y2 y3))
  | 0 => fun _ _ _ _ r h => by simp [impl_LabelsWith.j0] at h
  | k + 1 => by
    have ih0 := impl_LabelsWith.mono_l k
    · intro y0 y1 y2 y3
      unfold impl_LabelsWith.j0
      repeat' first
      | (with_reducible exact ih0 _ _ _ _)
      | (with_reducible exact impl_IsPoset.mono _ _)
      | (with_reducible exact impl_Poset_count.mono _ _ _)
      | (with_reducible exact impl_Poset_labels.mono _ _ _)
      | (with_reducible exact LeO.refl _)
      | (with_reducible exact LeO.none _)
      | (with_reducible refine LeO.ite ?_ ?_)
      | (with_reducible refine LeO.bind ?_ (fun _ => ?_))
      | exact ih0 _ _ _ _
      | exact impl_IsPoset.mono _ _
      | exact impl_Poset_count.mono _ _ _
      | exact impl_Poset_labels.mono _ _ _
      | exact LeO.none _
      | refine LeO.ite ?_ ?_
      | refine LeO.bind ?_ (fun _ => ?_)
theorem impl_LabelsWith.mono : ∀ a0 a1 a2 k, LeO (impl_LabelsWith.f k a0 a1 a2) (impl_LabelsWith.f (k + 1) a0 a1 a2) := by
  intro a0 a1 a2 k
  have ih0 := impl_LabelsWith.mono_l k
  unfold impl_LabelsWith.f
  repeat' first
      | (with_reducible exact ih0 _ _ _ _)
      | (with_reducible exact impl_IsPoset.mono _ _)
      | (with_reducible exact impl_Poset_count.mono _ _ _)
      | (with_reducible exact impl_Poset_labels.mono _ _ _)
      | (with_reducible exact LeO.refl _)
      | (with_reducible exact LeO.none _)
      | (with_reducible refine LeO.ite ?_ ?_)
      | (with_reducible refine LeO.bind ?_ (fun _ => ?_))
      | exact ih0 _ _ _ _
      | exact impl_IsPoset.mono _ _
      | exact impl_Poset_count.mono _ _ _
      | exact impl_Poset_labels.mono _ _ _
      | exact LeO.none _
      | refine LeO.ite ?_ ?_
      | refine LeO.bind ?_ (fun _ => ?_)
set_option maxHeartbeats 8000000 in
set_option maxRecDepth 100000 in
theorem impl_LabelsWith.calls (k : Nat) (A0_0 : Option Addr) (c0_0 : Nat) (l0_0 : List Int) (a1 : Int) (a2 : Int) (r1 : List Int) (r2 : Bool) (w : World) (hr0_0 : Kd.C (Kd.int .i64) w A0_0 l0_0.length l0_0) (hc0_0 : l0_0.length ≤ c0_0) (h : impl_LabelsWith.f k l0_0 a1 a2 = some (r1, r2)) :
    Calls Try.prog 32 #[.agg #[.slice A0_0 l0_0.length c0_0], .int .i64 a1, .int .i64 a2] w fun e w' => ∃ v0_ : Value, e = .returned (.tuple #[v0_, .bool r2]) ∧ Kd.R (Kd.int .i64) 3 w' w.heap.size (fun _ => True) v0_ r1 ∧ Below w.heap.size w w' := by
  have hu30 := Try.underlying30
  have HR0_0 := Aside0.mk hr0_0
  have HC0_0 := Aside0.mk hc0_0
  clear hr0_0 hc0_0
  have HB := Aside0.mk (Below.refl w.heap.size w)
  have H : ((impl_IsPoset.f k l0_0).bind fun t347 => (if t347 = true then ((impl_isBound.f a1).bind fun t348 => (if t348 = true then ((impl_Poset_count.f k l0_0 a1).bind fun t349 => (impl_LabelsWith.j0 k a1 a2 (decide (t349 > 1000)) l0_0)) else (impl_LabelsWith.j0 k a1 a2 true l0_0))) else (impl_LabelsWith.j0 k a1 a2 true l0_0))) = some (r1, r2) := h
  clear h
  have HC4 := Aside0.mk H
  clear H
  go_enter Try.func32, Try.ntmps32
  go_upto_region 1 with (first | ((with_reducible refine gate_dst (N := 3) rfl ?_); refine box_event ?hg (N := 3) ?hd (cs := #[.slice A0_0 l0_0.length c0_0]) (t := 30) ?hr ?_; (case hd => rfl); (case hg => rfl); (case hr => first | (go_simp; done) | (go_simp; rfl)); intro gb346 hg w5 hbox hb; have n0_ := Aside0.mk (below_step (by repeat (first | (with_reducible first | exact HB.out | apply below_alloc | apply pw_below_drewN | apply below_drew1) | exact HB.out)) hb); have n1_ := Aside0.mk (hbox); have n2_ := Aside0.mk ((by rw [hg]; exact (below_size (by repeat (first | (with_reducible first | exact HB.out | apply below_alloc | apply pw_below_drewN | apply below_drew1) | exact HB.out))) : w.heap.size ≤ gb346)); have n3_ := Aside0.mk ((by rw [hg]; exact (below_size (by repeat (first | (with_reducible first | exact HB.out | apply below_alloc | apply pw_below_drewN | apply below_drew1) | exact HB.out))) : w.heap.size ≤ gb346)); clear HB; have HB := n0_; have BK346 := n1_; have GW346 := n2_; have GE346 := n3_; clear n0_ n1_ n2_ n3_; clear hb hbox hg))
  (try simp only [Act.put, List.setIfInBounds_toArray, List.set_cons_zero, List.set_cons_succ])
  go_cut [22] (fun v22 wc => ∃ (kq : Nat) (x22_3 : Bool), v22 = .bool x22_3 ∧ Aside0 (impl_LabelsWith.j0 kq a1 a2 x22_3 l0_0 = some (r1, r2)) ∧ Aside0 (kq ≤ k) ∧ Aside0 (wc.heap[gb346]? = some (.cells #[(.slice A0_0 l0_0.length c0_0)] 30 (0, 0))) ∧ Aside0 (Below w.heap.size w wc))
  case first =>
    have H := HC4.out
    clear HC4
    replace H := Option.bind_eq_some_iff.mp H
    obtain ⟨t347, A60, H⟩ := H
    replace H : (if t347 = true then ((impl_isBound.f a1).bind fun t348 => (if t348 = true then ((impl_Poset_count.f k l0_0 a1).bind fun t349 => (impl_LabelsWith.j0 k a1 a2 (decide (t349 > 1000)) l0_0)) else (impl_LabelsWith.j0 k a1 a2 true l0_0))) else (impl_LabelsWith.j0 k a1 a2 true l0_0)) = some (r1, r2) := H
    have A6 := Aside0.mk A60
    clear A60
    by_cases c7 : t347 = true
    · subst c7
      have H1 : ((impl_isBound.f a1).bind fun t348 => (if t348 = true then ((impl_Poset_count.f k l0_0 a1).bind fun t349 => (impl_LabelsWith.j0 k a1 a2 (decide (t349 > 1000)) l0_0)) else (impl_LabelsWith.j0 k a1 a2 true l0_0))) = some (r1, r2) := by rw [if_pos rfl] at H; exact H
      clear H
      have H := H1
      clear H1
      replace H := Option.bind_eq_some_iff.mp H
      obtain ⟨t348, A80, H⟩ := H
      replace H : (if t348 = true then ((impl_Poset_count.f k l0_0 a1).bind fun t349 => (impl_LabelsWith.j0 k a1 a2 (decide (t349 > 1000)) l0_0)) else (impl_LabelsWith.j0 k a1 a2 true l0_0)) = some (r1, r2) := H
      have A8 := Aside0.mk A80
      clear A80
      by_cases c9 : t348 = true
      · subst c9
        have H1 : ((impl_Poset_count.f k l0_0 a1).bind fun t349 => (impl_LabelsWith.j0 k a1 a2 (decide (t349 > 1000)) l0_0)) = some (r1, r2) := by rw [if_pos rfl] at H; exact H
        clear H
        have H := H1
        clear H1
        replace H := Option.bind_eq_some_iff.mp H
        obtain ⟨t349, A100, H⟩ := H
        replace H : (impl_LabelsWith.j0 k a1 a2 (decide (t349 > 1000)) l0_0) = some (r1, r2) := H
        have A10 := Aside0.mk A100
        clear A100
        have H' := Aside0.mk H
        clear H
        have hcz11_0 : w5.cell? ⟨gb346, 0, none⟩ = some (.slice A0_0 l0_0.length c0_0) := (blk_cell BK346.out 0).trans rfl
        have hfz11_0 := blk_frozen BK346.out 0
        go_wp2_with (first | ((with_reducible refine gate_callee (f := 47) rfl ?_); refine goesL_ (some 10) rfl rfl Try.func47 (by kernel_rfl) rfl #[.agg #[.slice A0_0 l0_0.length c0_0]] rfl (by (try simp only [List.map_toArray, List.map_cons, List.map_nil]); first | done | rfl | (simp only [List.length_drop, List.length_take]; rfl)) ?_; (with_reducible refine (impl_IsPoset.calls k _ _ l0_0 true _ ?side1 ?side2 A6.out).mono ?_); (case side1 => repeat (first | exact (Kd.C_below HR0_0.out HB.out) | (with_reducible refine Kd.C_alloc ?_ _) | (with_reducible refine Kd.C_drewN ?_ _) | (with_reducible refine Kd.C_drew ?_))); (case side2 => exact HC0_0.out); rintro e w12 ⟨rfl, hb⟩; refine ⟨_, rfl, ?_⟩; have n0_ := Aside0.mk (blk_below (g := gb346) (o := .cells #[.slice A0_0 l0_0.length c0_0] 30 (0, 0)) (by (with_reducible repeat (first | refine blk_drewN ?_ _ | refine blk_drew ?_ | refine blk_alloc ?_ _)); exact BK346.out) hb); have n1_ := Aside0.mk (below_step (by repeat (first | (with_reducible first | exact HB.out | apply below_alloc | apply pw_below_drewN | apply below_drew1 | refine below_set ?_ GE346.out) | exact HB.out)) hb); clear BK346; clear HB; have BK346 := n0_; have HB := n1_; clear n0_ n1_; (try clear hb); (try clear hb2); (try clear hk); (try clear hi)) | (go_at_call 41; (with_reducible refine (impl_isBound.calls a1 true _ A8.out).mono ?_); rintro e w' ⟨rfl, ⟨nd, rfl⟩⟩; have hcz13_0 : w12.cell? ⟨gb346, 0, none⟩ = some (.slice A0_0 l0_0.length c0_0) := (blk_cell BK346.out 0).trans rfl; have hfz13_0 := blk_frozen BK346.out 0) | (go_at_call 42; (with_reducible refine (impl_Poset_count.calls k _ _ l0_0 a1 t349 _ ?side1 ?side2 A10.out).mono ?_); (case side1 => repeat (first | exact (Kd.C_below HR0_0.out (by repeat (first | (with_reducible first | exact HB.out | apply below_alloc | apply pw_below_drewN | apply below_drew1 | refine below_set ?_ GE346.out) | exact HB.out))) | (with_reducible refine Kd.C_alloc ?_ _) | (with_reducible refine Kd.C_drewN ?_ _) | (with_reducible refine Kd.C_drew ?_))); (case side2 => exact HC0_0.out); rintro e w14 ⟨rfl, hb⟩; have n0_ := Aside0.mk (blk_below (g := gb346) (o := .cells #[.slice A0_0 l0_0.length c0_0] 30 (0, 0)) (by (with_reducible repeat (first | refine blk_drewN ?_ _ | refine blk_drew ?_ | refine blk_alloc ?_ _)); exact BK346.out) hb); have n1_ := Aside0.mk (below_step (by repeat (first | (with_reducible first | exact HB.out | apply below_alloc | apply pw_below_drewN | apply below_drew1 | refine below_set ?_ GE346.out) | exact HB.out)) hb); clear BK346; clear HB; have BK346 := n0_; have HB := n1_; clear n0_ n1_; (try clear hb); (try clear hb2); (try clear hk); (try clear hi)))
        go_meet
        case rel => exact ⟨_, (decide (t349 > 1000)), (by first | rfl | (simp; done) | (simp [*]; done)), H', ⟨by first | omega | exact Nat.le_refl _⟩, ⟨by (with_reducible repeat (first | refine blk_drewN ?_ _ | refine blk_drew ?_ | refine blk_alloc ?_ _)); exact BK346.out⟩, ⟨by repeat (first | (with_reducible first | exact HB.out | apply below_alloc | apply pw_below_drewN | apply below_drew1 | refine below_set ?_ GE346.out) | exact HB.out)⟩⟩
      · replace c9 := Bool.eq_false_iff.mpr c9
        subst c9
        have H1 : (impl_LabelsWith.j0 k a1 a2 true l0_0) = some (r1, r2) := by rw [if_neg (show ¬ (false = true) by decide)] at H; exact H
        clear H
        have H := H1
        clear H1
        have H' := Aside0.mk H
        clear H
        have hcz15_0 : w5.cell? ⟨gb346, 0, none⟩ = some (.slice A0_0 l0_0.length c0_0) := (blk_cell BK346.out 0).trans rfl
        have hfz15_0 := blk_frozen BK346.out 0
        go_wp2_with (first | ((with_reducible refine gate_callee (f := 47) rfl ?_); refine goesL_ (some 10) rfl rfl Try.func47 (by kernel_rfl) rfl #[.agg #[.slice A0_0 l0_0.length c0_0]] rfl (by (try simp only [List.map_toArray, List.map_cons, List.map_nil]); first | done | rfl | (simp only [List.length_drop, List.length_take]; rfl)) ?_; (with_reducible refine (impl_IsPoset.calls k _ _ l0_0 true _ ?side1 ?side2 A6.out).mono ?_); (case side1 => repeat (first | exact (Kd.C_below HR0_0.out HB.out) | (with_reducible refine Kd.C_alloc ?_ _) | (with_reducible refine Kd.C_drewN ?_ _) | (with_reducible refine Kd.C_drew ?_))); (case side2 => exact HC0_0.out); rintro e w16 ⟨rfl, hb⟩; refine ⟨_, rfl, ?_⟩; have n0_ := Aside0.mk (blk_below (g := gb346) (o := .cells #[.slice A0_0 l0_0.length c0_0] 30 (0, 0)) (by (with_reducible repeat (first | refine blk_drewN ?_ _ | refine blk_drew ?_ | refine blk_alloc ?_ _)); exact BK346.out) hb); have n1_ := Aside0.mk (below_step (by repeat (first | (with_reducible first | exact HB.out | apply below_alloc | apply pw_below_drewN | apply below_drew1 | refine below_set ?_ GE346.out) | exact HB.out)) hb); clear BK346; clear HB; have BK346 := n0_; have HB := n1_; clear n0_ n1_; (try clear hb); (try clear hb2); (try clear hk); (try clear hi)) | (go_at_call 41; (with_reducible refine (impl_isBound.calls a1 false _ A8.out).mono ?_); rintro e w' ⟨rfl, ⟨nd, rfl⟩⟩))
        go_meet
        case rel => exact ⟨_, (true), (by first | rfl | (simp; done) | (simp [*]; done)), H', ⟨by first | omega | exact Nat.le_refl _⟩, ⟨by (with_reducible repeat (first | refine blk_drewN ?_ _ | refine blk_drew ?_ | refine blk_alloc ?_ _)); exact BK346.out⟩, ⟨by repeat (first | (with_reducible first | exact HB.out | apply below_alloc | apply pw_below_drewN | apply below_drew1 | refine below_set ?_ GE346.out) | exact HB.out)⟩⟩
    · replace c7 := Bool.eq_false_iff.mpr c7
      subst c7
      have H1 : (impl_LabelsWith.j0 k a1 a2 true l0_0) = some (r1, r2) := by rw [if_neg (show ¬ (false = true) by decide)] at H; exact H
      clear H
      have H := H1
      clear H1
      have H' := Aside0.mk H
      clear H
      have hcz17_0 : w5.cell? ⟨gb346, 0, none⟩ = some (.slice A0_0 l0_0.length c0_0) := (blk_cell BK346.out 0).trans rfl
      have hfz17_0 := blk_frozen BK346.out 0
      go_wp2_with (first | ((with_reducible refine gate_callee (f := 47) rfl ?_); refine goesL_ (some 10) rfl rfl Try.func47 (by kernel_rfl) rfl #[.agg #[.slice A0_0 l0_0.length c0_0]] rfl (by (try simp only [List.map_toArray, List.map_cons, List.map_nil]); first | done | rfl | (simp only [List.length_drop, List.length_take]; rfl)) ?_; (with_reducible refine (impl_IsPoset.calls k _ _ l0_0 false _ ?side1 ?side2 A6.out).mono ?_); (case side1 => repeat (first | exact (Kd.C_below HR0_0.out HB.out) | (with_reducible refine Kd.C_alloc ?_ _) | (with_reducible refine Kd.C_drewN ?_ _) | (with_reducible refine Kd.C_drew ?_))); (case side2 => exact HC0_0.out); rintro e w18 ⟨rfl, hb⟩; refine ⟨_, rfl, ?_⟩; have n0_ := Aside0.mk (blk_below (g := gb346) (o := .cells #[.slice A0_0 l0_0.length c0_0] 30 (0, 0)) (by (with_reducible repeat (first | refine blk_drewN ?_ _ | refine blk_drew ?_ | refine blk_alloc ?_ _)); exact BK346.out) hb); have n1_ := Aside0.mk (below_step (by repeat (first | (with_reducible first | exact HB.out | apply below_alloc | apply pw_below_drewN | apply below_drew1 | refine below_set ?_ GE346.out) | exact HB.out)) hb); clear BK346; clear HB; have BK346 := n0_; have HB := n1_; clear n0_ n1_; (try clear hb); (try clear hb2); (try clear hk); (try clear hi)))
      go_meet
      case rel => exact ⟨_, (true), (by first | rfl | (simp; done) | (simp [*]; done)), H', ⟨by first | omega | exact Nat.le_refl _⟩, ⟨by (with_reducible repeat (first | refine blk_drewN ?_ _ | refine blk_drew ?_ | refine blk_alloc ?_ _)); exact BK346.out⟩, ⟨by repeat (first | (with_reducible first | exact HB.out | apply below_alloc | apply pw_below_drewN | apply below_drew1 | refine below_set ?_ GE346.out) | exact HB.out)⟩⟩
  case rest =>
    clear HC4
    try clear p2
    try clear c3
    try clear c4
    try clear c7
    try clear c9
    try clear hcz11_0
    try clear hcz13_0
    try clear hcz15_0
    try clear hcz17_0
    try clear hfz11_0
    try clear hfz13_0
    try clear hfz15_0
    try clear hfz17_0
    obtain ⟨kq, x22_3, rfl, HA, HJ3, BK346, HB⟩ := hcut
    cases kq with
    | zero => exact absurd HA.out (by simp [impl_LabelsWith.j0])
    | succ kj3 =>
      have H := HA.out
      clear HA
      simp only [impl_LabelsWith.j0] at H
      by_cases c19 : x22_3 = true
      · subst c19
        have H1 : (some (([] : List Int), false)) = some (r1, r2) := by rw [if_pos rfl] at H; exact H
        clear H
        have H := H1
        clear H1
        simp only [Option.some.injEq, Prod.mk.injEq] at H
        obtain ⟨rfl, rfl⟩ := H
        go_wp2
        go_ret2
        exact ⟨_, by first | rfl | (simp [errW_none, errW_some] <;> rfl) | (simp [*, errW_none, errW_some] <;> rfl), by first | exact Kd.R_nil _ _ _ _ _ | exact Kd.N_nil _ _ _ _ _ | exact Kd.V_nil _ _ _ _ _ | exact Kd.Q_nil _ _ _ _ _ | exact Kd.S_nil _ _ _ _ _, by repeat (first | (with_reducible first | exact HB.out | apply below_alloc | apply pw_below_drewN | apply below_drew1 | refine below_set ?_ GE346.out) | exact HB.out)⟩
      · replace c19 := Bool.eq_false_iff.mpr c19
        subst c19
        have H1 : ((impl_Poset_labels.f kj3 l0_0 a1).bind fun t350 => ((impl_within.f a2 0 (wrap64 ((t350.length : Int) - 1))).bind fun t353 => (if t353 = true then (if 0 ≤ a2 then (if a2 < (t350.length : Int) then (some (rd_L1 t350 a2, true)) else (none)) else (none)) else (some (([] : List Int), false))))) = some (r1, r2) := by rw [if_neg (show ¬ (false = true) by decide)] at H; exact H
        clear H
        have H := H1
        clear H1
        replace H := Option.bind_eq_some_iff.mp H
        obtain ⟨t350, A200, H⟩ := H
        replace H : ((impl_within.f a2 0 (wrap64 ((t350.length : Int) - 1))).bind fun t353 => (if t353 = true then (if 0 ≤ a2 then (if a2 < (t350.length : Int) then (some (rd_L1 t350 a2, true)) else (none)) else (none)) else (some (([] : List Int), false)))) = some (r1, r2) := H
        have A20 := Aside0.mk A200
        clear A200
        replace H := Option.bind_eq_some_iff.mp H
        obtain ⟨t353, A210, H⟩ := H
        replace H : (if t353 = true then (if 0 ≤ a2 then (if a2 < (t350.length : Int) then (some (rd_L1 t350 a2, true)) else (none)) else (none)) else (some (([] : List Int), false))) = some (r1, r2) := H
        have A21 := Aside0.mk A210
        clear A210
        by_cases c22 : t353 = true
        · subst c22
          have H1 : (if 0 ≤ a2 then (if a2 < (t350.length : Int) then (some (rd_L1 t350 a2, true)) else (none)) else (none)) = some (r1, r2) := by rw [if_pos rfl] at H; exact H
          clear H
          have H := H1
          clear H1
          by_cases c23 : 0 ≤ a2
          · rw [if_pos c23] at H
            have c23b0 : decide (0 ≤ a2) = true := decide_eq_true c23
            clear c23
            by_cases c24 : a2 < (t350.length : Int)
            · rw [if_pos c24] at H
              have c24b0 : decide (a2 < (t350.length : Int)) = true := decide_eq_true c24
              clear c24
              simp only [Option.some.injEq, Prod.mk.injEq] at H
              obtain ⟨rfl, rfl⟩ := H
              have hcz25_0 : wc.cell? ⟨gb346, 0, none⟩ = some (.slice A0_0 l0_0.length c0_0) := (blk_cell BK346.out 0).trans rfl
              have hfz25_0 := blk_frozen BK346.out 0
              go_wp2_with (first | ((with_reducible refine gate_callee (f := 57) rfl ?_); refine goesL_ (some 25) rfl rfl Try.func57 (by kernel_rfl) rfl #[.agg #[.slice A0_0 l0_0.length c0_0], .int .i64 a1] rfl (by (try simp only [List.map_toArray, List.map_cons, List.map_nil]); first | done | rfl | (simp only [List.length_drop, List.length_take]; rfl)) ?_; (with_reducible refine (impl_Poset_labels.calls kj3 _ _ l0_0 a1 t350 _ ?side1 ?side2 A20.out).mono ?_); (case side1 => repeat (first | exact (Kd.C_below HR0_0.out HB.out) | (with_reducible refine Kd.C_alloc ?_ _) | (with_reducible refine Kd.C_drewN ?_ _) | (with_reducible refine Kd.C_drew ?_))); (case side2 => exact HC0_0.out); rintro e w26 ⟨v351, rfl, ho0, hb⟩; refine ⟨_, rfl, ?_⟩; have n0_ := Aside0.mk (Kd.S_lower ho0 (below_size (by repeat (first | (with_reducible first | exact HB.out | apply below_alloc | apply pw_below_drewN | apply below_drew1 | refine below_set ?_ GE346.out) | exact HB.out)))); have n1_ := Aside0.mk (blk_below (g := gb346) (o := .cells #[.slice A0_0 l0_0.length c0_0] 30 (0, 0)) (by (with_reducible repeat (first | refine blk_drewN ?_ _ | refine blk_drew ?_ | refine blk_alloc ?_ _)); exact BK346.out) hb); have n2_ := Aside0.mk (below_step (by repeat (first | (with_reducible first | exact HB.out | apply below_alloc | apply pw_below_drewN | apply below_drew1 | refine below_set ?_ GE346.out) | exact HB.out)) hb); clear BK346; clear HB; have HO352 := n0_; have BK346 := n1_; have HB := n2_; clear n0_ n1_ n2_; (try clear hb); (try clear hb2); (try clear hk); (try clear hi); (try clear ho0); obtain ⟨Ao27, co27, eo27⟩ := Kd.S_slice HO352.out; subst eo27) | ((with_reducible refine gate_callee (f := 53) rfl ?_); refine goesL_ (some 30) rfl rfl Try.func53 (by kernel_rfl) rfl #[.int .i64 a2, .int .i64 0, .int .i64 (wrap64 ((t350.length : Int) - 1))] rfl (by (try simp only [List.map_toArray, List.map_cons, List.map_nil]); first | done | rfl | (simp only [List.length_drop, List.length_take]; rfl)) ?_; (with_reducible refine (impl_within.calls a2 0 (wrap64 ((t350.length : Int) - 1)) true _ A21.out).mono ?_); rintro e w' ⟨rfl, ⟨nd, rfl⟩⟩; refine ⟨_, rfl, ?_⟩; have p354 : 0 ≤ (a2 : Int) := of_decide_eq_true (by first | (with_reducible assumption) | assumption); have q354 : a2 < (t350.length : Int) := of_decide_eq_true (by first | (with_reducible assumption) | assumption); obtain ⟨ad354, A354_0, c354_0, e354, hx354_0, hl354_0, hi354_0⟩ := at_L1 (Kd.S_reads' HO352.out).2.2 a2 p354 q354; cases e354; obtain ⟨ce354, hce354, hMe354, hcc354⟩ := Kd.S_get HO352.out [] a2 p354 (by first | exact q354 | exact of_decide_eq_true (by first | (with_reducible assumption) | assumption) | (have e_ := (Kd.S_reads' HO352.out).1; omega)); obtain ⟨ve354_0, rfl, ge354_0⟩ := hMe354; have hv354_0 := hcc354 0 _ rfl; rw [Nat.add_zero, show ((Kd.slice 3 (Kd.int .i64))).sz = 1 from rfl, Nat.mul_one] at hv354_0; replace hv354_0 := Option.some.inj (hv354_0.symm.trans hx354_0); rw [hv354_0] at ge354_0; have HL354_0 := Aside0.mk (show Kd.R (Kd.int .i64) 3 _ _ _ _ (rd_L1 t350 a2) from ge354_0); clear hv354_0 ge354_0; clear hcc354 hce354; have HR354_0 := Aside0.mk hi354_0; have HC354_0 := Aside0.mk hl354_0; clear hi354_0 hl354_0; replace p354 := eq_true p354; replace q354 := eq_true q354))
              go_ret2
              exact ⟨_, by first | rfl | (simp [errW_none, errW_some] <;> rfl) | (simp [*, errW_none, errW_some] <;> rfl), by (with_reducible repeat (first | apply Kd.R_alloc | apply Kd.R_drewN | apply Kd.R_drew)); exact Kd.R_mono HL354_0.out (fun _ hk => trivial), by repeat (first | (with_reducible first | exact HB.out | apply below_alloc | apply pw_below_drewN | apply below_drew1 | refine below_set ?_ GE346.out) | exact HB.out)⟩
            · rw [if_neg c24] at H
              exact absurd H (by simp)
          · rw [if_neg c23] at H
            exact absurd H (by simp)
        · replace c22 := Bool.eq_false_iff.mpr c22
          subst c22
          have H1 : (some (([] : List Int), false)) = some (r1, r2) := by rw [if_neg (show ¬ (false = true) by decide)] at H; exact H
          clear H
          have H := H1
          clear H1
          simp only [Option.some.injEq, Prod.mk.injEq] at H
          obtain ⟨rfl, rfl⟩ := H
          have hcz28_0 : wc.cell? ⟨gb346, 0, none⟩ = some (.slice A0_0 l0_0.length c0_0) := (blk_cell BK346.out 0).trans rfl
          have hfz28_0 := blk_frozen BK346.out 0
          go_wp2_with (first | ((with_reducible refine gate_callee (f := 57) rfl ?_); refine goesL_ (some 25) rfl rfl Try.func57 (by kernel_rfl) rfl #[.agg #[.slice A0_0 l0_0.length c0_0], .int .i64 a1] rfl (by (try simp only [List.map_toArray, List.map_cons, List.map_nil]); first | done | rfl | (simp only [List.length_drop, List.length_take]; rfl)) ?_; (with_reducible refine (impl_Poset_labels.calls kj3 _ _ l0_0 a1 t350 _ ?side1 ?side2 A20.out).mono ?_); (case side1 => repeat (first | exact (Kd.C_below HR0_0.out HB.out) | (with_reducible refine Kd.C_alloc ?_ _) | (with_reducible refine Kd.C_drewN ?_ _) | (with_reducible refine Kd.C_drew ?_))); (case side2 => exact HC0_0.out); rintro e w29 ⟨v351, rfl, ho0, hb⟩; refine ⟨_, rfl, ?_⟩; have n0_ := Aside0.mk (Kd.S_lower ho0 (below_size (by repeat (first | (with_reducible first | exact HB.out | apply below_alloc | apply pw_below_drewN | apply below_drew1 | refine below_set ?_ GE346.out) | exact HB.out)))); have n1_ := Aside0.mk (blk_below (g := gb346) (o := .cells #[.slice A0_0 l0_0.length c0_0] 30 (0, 0)) (by (with_reducible repeat (first | refine blk_drewN ?_ _ | refine blk_drew ?_ | refine blk_alloc ?_ _)); exact BK346.out) hb); have n2_ := Aside0.mk (below_step (by repeat (first | (with_reducible first | exact HB.out | apply below_alloc | apply pw_below_drewN | apply below_drew1 | refine below_set ?_ GE346.out) | exact HB.out)) hb); clear BK346; clear HB; have HO352 := n0_; have BK346 := n1_; have HB := n2_; clear n0_ n1_ n2_; (try clear hb); (try clear hb2); (try clear hk); (try clear hi); (try clear ho0); obtain ⟨Ao30, co30, eo30⟩ := Kd.S_slice HO352.out; subst eo30) | ((with_reducible refine gate_callee (f := 53) rfl ?_); refine goesL_ (some 30) rfl rfl Try.func53 (by kernel_rfl) rfl #[.int .i64 a2, .int .i64 0, .int .i64 (wrap64 ((t350.length : Int) - 1))] rfl (by (try simp only [List.map_toArray, List.map_cons, List.map_nil]); first | done | rfl | (simp only [List.length_drop, List.length_take]; rfl)) ?_; (with_reducible refine (impl_within.calls a2 0 (wrap64 ((t350.length : Int) - 1)) false _ A21.out).mono ?_); rintro e w' ⟨rfl, ⟨nd, rfl⟩⟩; refine ⟨_, rfl, ?_⟩))
          go_ret2
          exact ⟨_, by first | rfl | (simp [errW_none, errW_some] <;> rfl) | (simp [*, errW_none, errW_some] <;> rfl), by first | exact Kd.R_nil _ _ _ _ _ | exact Kd.N_nil _ _ _ _ _ | exact Kd.V_nil _ _ _ _ _ | exact Kd.Q_nil _ _ _ _ _ | exact Kd.S_nil _ _ _ _ _, by repeat (first | (with_reducible first | exact HB.out | apply below_alloc | apply pw_below_drewN | apply below_drew1 | refine below_set ?_ GE346.out) | exact HB.out)⟩

end Go.Proofs.Ytemkddgfneohhaa.F
end
