/- Part 4 of the texts below the row of FnExactLabelsBySum: printed functions with their contracts, and plain lemmas. No condition. -/
import Derived.Test.YtemkddgfneohhaaZFnExactLabelsBySum3
import Derived.Lib.Hide
import Derived.Maps.RangeWalk
import Derived.Maps.OwnOps
import Derived.Maps.Ext
import Derived.LoopTactic
import Derived.Deep.LoopGhost
section
namespace Go.Proofs.Ytemkddgfneohhaa.Q
open Go.RowKit Go.Proofs.YtemkddgfneohhaaW.PrintWords Go.Proofs.Ytemkddgfneohhaa.F
set_option linter.unusedVariables false
theorem eqIntS_ev (a b : List Int) (h : a.length ≤ 9223372036854775807) : Ev (fun k => laws_eqIntS.f k a b) (decide (a = b)) := by
  unfold laws_eqIntS.f
  refine Ev.ite (fun hl => ?_) (fun hl => Ev.ret ?_)
  · have hl' : a.length = b.length := by omega
    have key : ∀ i, i ≤ a.length → a.take i = b.take i → Ev (fun k => laws_eqIntS.l0 k a b (i : Int)) (decide (a = b)) := by
      refine downTo _ ?_ ?_
      · intro hp
        refine Ev.step (by intro k; simp only [laws_eqIntS.l0]; rfl) (Ev.no (by omega) (Ev.ret ?_))
        rw [List.take_length, hl', List.take_length] at hp
        simp [hp]
      · intro i hi ih hp
        refine Ev.step (by intro k; simp only [laws_eqIntS.l0]; rfl) (Ev.yes (by omega) (Ev.yes (by omega) (Ev.yes (by omega) ?_)))
        rw [wid1 hi (by omega), rdN, rdN]
        have ga : a.getD i 0 = a[i] := by rw [List.getD_eq_getElem?_getD, List.getElem?_eq_getElem hi]; rfl
        have gb : b.getD i 0 = b[i]'(by omega) := by rw [List.getD_eq_getElem?_getD, List.getElem?_eq_getElem (by omega)]; rfl
        rw [ga, gb]
        refine Ev.ite (fun h => ih ?_) (fun h => Ev.ret ?_)
        · rw [List.take_add_one, List.take_add_one, hp, List.getElem?_eq_getElem hi, List.getElem?_eq_getElem (show i < b.length by omega), h]
        · rw [decide_eq_false]
          intro e
          subst e
          exact h rfl
    exact key 0 (by omega) rfl
  · rw [decide_eq_false]
    intro e
    subst e
    exact hl rfl
theorem eqIntS_refl (a : List Int) (h : a.length ≤ 9223372036854775807) : Ev (fun k => laws_eqIntS.f k a a) true := evc (eqIntS_ev a a h) (by simp)
end Go.Proofs.Ytemkddgfneohhaa.Q
end

section
namespace Go.Proofs.Ytemkddgfneohhaa.Q
open Go.RowKit Go.Proofs.YtemkddgfneohhaaW.PrintWords Go.Proofs.Ytemkddgfneohhaa.F
set_option linter.unusedVariables false
theorem eqPoset_refl (a : List Int) (h : a.length ≤ 9223372036854775807) : Ev (fun k => laws_eqPoset.f k a a) true := by
  unfold laws_eqPoset.f
  exact Ev.bind (eqIntS_refl a h) (Ev.yes rfl (Ev.ret rfl))
end Go.Proofs.Ytemkddgfneohhaa.Q
end

section
namespace Go.Proofs.Ytemkddgfneohhaa.Q
open Go.RowKit Go.Proofs.YtemkddgfneohhaaW.PrintWords Go.Proofs.Ytemkddgfneohhaa.F
set_option linter.unusedVariables false
theorem szIntS_eq (l : List Int) (a : Nat) (ha : a ≤ 1048576) (h : l.length ≤ maxLen) : laws_szIntS.f l (a : Int) = some (if l.length ≤ a then ((a - l.length : Nat) : Int) else -1) := by
  unfold laws_szIntS.f
  unfold maxLen at h
  have e : wrap64 ((a : Int) - (l.length : Int)) = (a : Int) - (l.length : Int) := wid (by omega) (by omega)
  rw [e]
  by_cases hc : l.length ≤ a
  · rw [if_neg (by omega), if_pos hc]; congr 1; omega
  · rw [if_pos (by omega), if_neg hc]
end Go.Proofs.Ytemkddgfneohhaa.Q
end

section
namespace Go.Proofs.Ytemkddgfneohhaa.Q
open Go.RowKit Go.Proofs.YtemkddgfneohhaaW.PrintWords Go.Proofs.Ytemkddgfneohhaa.F
set_option linter.unusedVariables false
theorem szPoset_eq (l : List Int) (a : Nat) (ha : a ≤ 1048576) (h : l.length ≤ maxLen) : laws_szPoset.f l (a : Int) = some (if l.length ≤ a then ((a - l.length : Nat) : Int) else -1) := by
  unfold laws_szPoset.f
  rw [szIntS_eq l a ha h]
  by_cases hc : l.length ≤ a
  · simp only [if_pos hc, Option.bind_some]; rw [if_neg (by omega)]
  · simp only [if_neg hc, Option.bind_some]; rw [if_pos (by omega)]
end Go.Proofs.Ytemkddgfneohhaa.Q
end

section
namespace Go.Proofs.Ytemkddgfneohhaa.Q
open Go.RowKit Go.Proofs.YtemkddgfneohhaaW.PrintWords Go.Proofs.Ytemkddgfneohhaa.F
set_option linter.unusedVariables false
theorem toIntS_ev (l : List Int) (h : l.length ≤ 1048576) : Ev (fun k => laws_toIntS.f k l) l := by
  unfold laws_toIntS.f
  refine Ev.yes (by omega) (Ev.yes (by omega) ?_)
  have key : ∀ i, i ≤ l.length → ∀ acc : List Int, acc.length = l.length → acc.take i = l.take i → Ev (fun k => laws_toIntS.l0 k l acc (i : Int)) l := by
    refine downTo _ ?_ ?_
    · intro acc ha hi
      refine Ev.step (by intro k; simp only [laws_toIntS.l0]; rfl) (Ev.no (by omega) (Ev.ret ?_))
      rw [List.take_length, ← ha, List.take_length] at hi
      exact hi
    · intro i hi ih acc ha hp
      refine Ev.step (by intro k; simp only [laws_toIntS.l0]; rfl) (Ev.yes (by omega) (Ev.yes (by omega) (Ev.yes (by omega) ?_)))
      rw [wid1 hi (by omega), rdN, Int.toNat_natCast]
      refine ih _ (by simp [ha]) ?_
      rw [List.take_add_one, List.take_add_one, List.take_set_of_le (Nat.le_refl _), hp, List.getElem?_set, List.getD_eq_getElem?_getD, List.getElem?_eq_getElem hi]
      simp [ha, hi]
  exact key 0 (by omega) _ (by simp) (by simp)
end Go.Proofs.Ytemkddgfneohhaa.Q
end

section
namespace Go.Proofs.Ytemkddgfneohhaa.Q
open Go.RowKit Go.Proofs.YtemkddgfneohhaaW.PrintWords Go.Proofs.Ytemkddgfneohhaa.F
set_option linter.unusedVariables false
theorem toPoset_ev (l : List Int) (h : l.length ≤ 1048576) : Ev (fun k => laws_toPoset.f k l) l := by
  unfold laws_toPoset.f
  exact Ev.bind (toIntS_ev l h) (Ev.ret rfl)
end Go.Proofs.Ytemkddgfneohhaa.Q
end

section
namespace Go.Proofs.Ytemkddgfneohhaa.Q
open Go.RowKit Go.Proofs.YtemkddgfneohhaaW.PrintWords
set_option linter.unusedVariables false
/-- a, a + 1, .., n of them. -/
def upFrom (a : Nat) (n : Nat) : List Int := (List.range' a n).map Int.ofNat
theorem upFrom_len (a n : Nat) : (upFrom a n).length = n := by simp [upFrom]
theorem upFrom_get {a n i : Nat} (h : i < n) : (upFrom a n).getD i 0 = ((a + i : Nat) : Int) := by
  rw [List.getD_eq_getElem?_getD]
  simp [upFrom, h]
end Go.Proofs.Ytemkddgfneohhaa.Q
end

section
namespace Go.Proofs.Ytemkddgfneohhaa.Q
open Go.RowKit Go.Proofs.YtemkddgfneohhaaW.PrintWords Go.Proofs.Ytemkddgfneohhaa.F
set_option linter.unusedVariables false
theorem heldIntS_ev (a n : Nat) (h : a + n ≤ 4611686018427387904) : Ev (fun k => laws_heldIntS.f k (upFrom a n) (a : Int)) ((a + n : Nat) : Int) := by
  unfold laws_heldIntS.f
  have key : ∀ i, i ≤ n → Ev (fun k => laws_heldIntS.l0 k (upFrom a n) ((a + i : Nat) : Int) (i : Int)) ((a + n : Nat) : Int) := by
    refine downTo _ ?_ ?_
    · refine Ev.step (by intro k; simp only [laws_heldIntS.l0]; rfl) (Ev.no (by rw [upFrom_len]; omega) (Ev.ret rfl))
    · intro i hi ih
      refine Ev.step (by intro k; simp only [laws_heldIntS.l0]; rfl) (Ev.yes (by rw [upFrom_len]; omega) (Ev.yes (by omega) (Ev.yes ?_ ?_)))
      · rw [rdN, upFrom_get hi]
      · rw [wid1 hi (by omega), wid1 (i := a + i) (n := a + n) (by omega) (by omega)]
        exact ih
  exact key 0 (by omega)
theorem heldIntS_ev1 (n : Nat) (h : n ≤ 4611686018427387000) : Ev (fun k => laws_heldIntS.f k (upFrom 1 n) 1) ((1 + n : Nat) : Int) := heldIntS_ev 1 n (by omega)
end Go.Proofs.Ytemkddgfneohhaa.Q
end

section
namespace Go.Proofs.Ytemkddgfneohhaa.Q
open Go.RowKit Go.Proofs.YtemkddgfneohhaaW.PrintWords Go.Proofs.Ytemkddgfneohhaa.F
set_option linter.unusedVariables false
theorem markIntS_ev (l : List Int) (a : Nat) (h : a + l.length ≤ 4611686018427387904) : Ev (fun k => laws_markIntS.f k l (a : Int)) (((a + l.length : Nat) : Int), upFrom a l.length) := by
  unfold laws_markIntS.f
  have key : ∀ i, i ≤ l.length → ∀ acc : List Int, acc.length = l.length → acc.take i = upFrom a i → Ev (fun k => laws_markIntS.l0 k acc ((a + i : Nat) : Int) (i : Int)) (((a + l.length : Nat) : Int), upFrom a l.length) := by
    refine downTo _ ?_ ?_
    · intro acc ha hp
      refine Ev.step (by intro k; simp only [laws_markIntS.l0]; rfl) (Ev.no (by omega) (Ev.ret ?_))
      rw [← ha, List.take_length] at hp
      rw [hp, ha]
    · intro i hi ih acc ha hp
      refine Ev.step (by intro k; simp only [laws_markIntS.l0]; rfl) (Ev.yes (by omega) (Ev.yes (by omega) ?_))
      rw [wid1 hi (by omega), wid1 (i := a + i) (n := a + l.length) (by omega) (by omega), Int.toNat_natCast]
      refine ih _ (by simp [ha]) ?_
      rw [List.take_add_one, List.take_set_of_le (Nat.le_refl _), hp, List.getElem?_set]
      simp [ha, hi, upFrom, List.range'_concat]
  exact key 0 (by omega) l rfl (by simp [upFrom])
theorem markIntS_ev1 (l : List Int) (h : l.length ≤ 4611686018427387000) : Ev (fun k => laws_markIntS.f k l 1) (((1 + l.length : Nat) : Int), upFrom 1 l.length) := markIntS_ev l 1 (by omega)
end Go.Proofs.Ytemkddgfneohhaa.Q
end

section
namespace Go.Proofs.Ytemkddgfneohhaa.Q
open Go.RowKit Go.Proofs.YtemkddgfneohhaaW.PrintWords Go.Proofs.Ytemkddgfneohhaa.F
set_option linter.unusedVariables false
theorem markPoset_ev (l : List Int) (a : Nat) (h : a + l.length ≤ 4611686018427387904) : Ev (fun k => laws_markPoset.f k l (a : Int)) (((a + l.length : Nat) : Int), upFrom a l.length) := by
  unfold laws_markPoset.f
  exact Ev.bind (markIntS_ev l a h) (Ev.ret rfl)
theorem markPoset_ev1 (l : List Int) (h : l.length ≤ 4611686018427387000) : Ev (fun k => laws_markPoset.f k l 1) (((1 + l.length : Nat) : Int), upFrom 1 l.length) := markPoset_ev l 1 (by omega)
end Go.Proofs.Ytemkddgfneohhaa.Q
end

section
namespace Go.Proofs.Ytemkddgfneohhaa.Q
end Go.Proofs.Ytemkddgfneohhaa.Q
end

section
namespace Go.Proofs.Ytemkddgfneohhaa.Q
open Go.RowKit Go.Proofs.YtemkddgfneohhaaW.PrintWords Go.Proofs.Ytemkddgfneohhaa.F
set_option linter.unusedVariables false
theorem poIn_eq {a j : Nat} (hj : j ≤ 64) : spec_poIn.f (a : Int) (j : Int) = some (a.testBit j) := by
  unfold spec_poIn.f
  rw [if_pos (Int.natCast_nonneg _)]
  congr 1
  rw [Bool.eq_iff_iff, beq_iff_eq]
  exact bit_test hj
end Go.Proofs.Ytemkddgfneohhaa.Q
end

section
namespace Go.Proofs.Ytemkddgfneohhaa.Q
open Go.RowKit Go.Proofs.YtemkddgfneohhaaW.PrintWords
set_option linter.unusedVariables false
/-- What is less than element i, as a set. -/
def L (p : List Int) (i : Nat) : Nat := (p.getD i 0).toNat
def rowOk (p : List Int) (i : Nat) : Bool := decide (0 ≤ p.getD i 0) && decide (p.getD i 0 ≤ 2 ^ i - 1) && allFrom (fun j => !(L p i).testBit j || decide (Go.bits .andNot .i64 (p.getD j 0) (p.getD i 0) = 0)) i 0
def isPo (p : List Int) : Bool := decide (1 ≤ p.length) && decide (p.length ≤ 10) && allFrom (rowOk p) p.length 0
structure PO (p : List Int) : Prop where
  pos : 1 ≤ p.length
  small : p.length ≤ 10
  val : ∀ i, i < p.length → p.getD i 0 = (L p i : Int)
  lt : ∀ i, i < p.length → L p i < 2 ^ i
  tr : ∀ i j, i < p.length → (L p i).testBit j = true → ndiff (L p j) (L p i) = 0
theorem L_big {p : List Int} {i : Nat} (h : p.length ≤ i) : L p i = 0 := by
  unfold L; rw [List.getD_eq_getElem?_getD, List.getElem?_eq_none h]; rfl
theorem isPo_iff (p : List Int) : isPo p = true ↔ PO p := by
  unfold isPo
  rw [Bool.and_eq_true, Bool.and_eq_true, decide_eq_true_eq, decide_eq_true_eq, allFrom_iff]
  constructor
  · rintro ⟨⟨h1, h2⟩, h3⟩
    have hv : ∀ i, i < p.length → p.getD i 0 = (L p i : Int) ∧ L p i < 2 ^ i := by
      intro i hi
      have := h3 i (Nat.zero_le _) hi
      simp only [rowOk, Bool.and_eq_true, decide_eq_true_eq] at this
      obtain ⟨⟨a, b⟩, _⟩ := this
      rw [pow_int] at b
      have hp : 0 < 2 ^ i := Nat.two_pow_pos i
      unfold L
      generalize 2 ^ i = z at *
      omega
    refine ⟨h1, h2, fun i hi => (hv i hi).1, fun i hi => (hv i hi).2, fun i j hi hj => ?_⟩
    have hji : j < i := lt_of_bit (hv i hi).2 hj
    have := h3 i (Nat.zero_le _) hi
    simp only [rowOk, Bool.and_eq_true] at this
    have h4 := (allFrom_iff _ _ _).1 this.2 j (Nat.zero_le _) hji
    rw [hj] at h4
    simp only [Bool.not_true, Bool.false_or, decide_eq_true_eq] at h4
    rw [(hv i hi).1, (hv j (by omega)).1, bits_andNotN (lt_pow (hv j (by omega)).2 (by omega)) (lt_pow (hv i hi).2 (by omega))] at h4
    exact_mod_cast h4
  · intro h
    refine ⟨⟨h.pos, h.small⟩, fun i _ hi => ?_⟩
    have hs := h.small
    have hl := h.lt i hi
    simp only [rowOk, Bool.and_eq_true, decide_eq_true_eq]
    refine ⟨⟨by rw [h.val i hi]; omega, by rw [h.val i hi, pow_int]; generalize 2 ^ i = z at *; omega⟩, ?_⟩
    rw [allFrom_iff]
    intro j _ hj
    cases hb : (L p i).testBit j with
    | false => rfl
    | true =>
      simp only [Bool.not_true, Bool.false_or, decide_eq_true_eq]
      rw [h.val i hi, h.val j (by omega), bits_andNotN (lt_pow (h.lt j (by omega)) (by omega)) (lt_pow hl (by omega)), h.tr i j hi hb]
      rfl
theorem isPo_false {p : List Int} (h : ¬ PO p) : isPo p = false := by
  cases e : isPo p with
  | false => rfl
  | true => exact absurd ((isPo_iff p).1 e) h

/-- The elements of a set, in order. -/
def itemsN (m : Nat) : List Nat := (List.range 10).filter m.testBit
def ints (l : List Nat) : List Int := l.map Int.ofNat
theorem ints_len (l : List Nat) : (ints l).length = l.length := by simp [ints]
theorem ints_app (a b : List Nat) : ints (a ++ b) = ints a ++ ints b := by simp [ints]
theorem ints_get (l : List Nat) (i : Nat) : (ints l).getD i 0 = ((l.getD i 0 : Nat) : Int) := by
  simp only [ints, List.getD_eq_getElem?_getD, List.getElem?_map]
  cases l[i]? <;> rfl
theorem rd_ints (l : List Nat) (i : Nat) : rd (ints l) (i : Int) = ((l.getD i 0 : Nat) : Int) := by rw [rdN, ints_get]
theorem mem_itemsN {m j : Nat} : j ∈ itemsN m ↔ j < 10 ∧ m.testBit j = true := by
  unfold itemsN; rw [List.mem_filter, List.mem_range]
theorem itemsN_len (m : Nat) : (itemsN m).length ≤ 10 := by
  unfold itemsN; have := List.length_filter_le m.testBit (List.range 10); simpa using this
theorem rowOk_false {p : List Int} {i : Nat} (h : ¬ (0 ≤ p.getD i 0 ∧ p.getD i 0 ≤ 2 ^ i - 1)) : rowOk p i = false := by
  unfold rowOk; rw [range_false h]; rfl
theorem rowOk_true {p : List Int} {i : Nat} (h : 0 ≤ p.getD i 0 ∧ p.getD i 0 ≤ 2 ^ i - 1) :
    rowOk p i = allFrom (fun j => !(L p i).testBit j || decide (Go.bits .andNot .i64 (p.getD j 0) (p.getD i 0) = 0)) i 0 := by
  unfold rowOk; rw [range_true h]; rfl
theorem all_drop_step {α : Type} (f : α → Bool) (l : List α) (d : α) {i : Nat} (h : i < l.length) : (l.drop i).all f = (f (l.getD i d) && (l.drop (i + 1)).all f) := by
  rw [List.drop_eq_getElem_cons h, List.all_cons, List.getD_eq_getElem?_getD, List.getElem?_eq_getElem h]; rfl
theorem items_lt {m i : Nat} {j : Nat} (hm : m < 2 ^ i) (hj : j < (itemsN m).length) : (itemsN m).getD j 0 < i := by
  rw [List.getD_eq_getElem?_getD, List.getElem?_eq_getElem hj]
  have := List.getElem_mem hj
  exact lt_of_bit hm (mem_itemsN.1 this).2
theorem items_all {m i : Nat} (hm : m < 2 ^ i) (hi : i ≤ 10) (f : Nat → Bool) : (itemsN m).all f = allFrom (fun j => !m.testBit j || f j) i 0 := by
  rw [Bool.eq_iff_iff, List.all_eq_true, allFrom_iff]
  constructor
  · intro h j _ hj
    cases hb : m.testBit j with
    | false => rfl
    | true => rw [h j (mem_itemsN.2 ⟨by omega, hb⟩)]; rfl
  · intro h j hj
    obtain ⟨h1, h2⟩ := mem_itemsN.1 hj
    have := h j (Nat.zero_le _) (lt_of_bit hm h2)
    rw [h2] at this
    simpa using this
end Go.Proofs.Ytemkddgfneohhaa.Q
end

section
namespace Go.Proofs.Ytemkddgfneohhaa.Q
open Go.RowKit Go.Proofs.YtemkddgfneohhaaW.PrintWords Go.Proofs.Ytemkddgfneohhaa.F
set_option linter.unusedVariables false
theorem items_ev (m : Nat) (hm : m < 2 ^ 62) : Ev (fun k => impl_items.f k (m : Int)) (ints (itemsN m)) := by
  show Ev (fun k => impl_items.l0 k (m : Int) [] 0) _
  have key : ∀ i, i ≤ 10 → ∀ acc : List Int, acc.length ≤ i → Ev (fun k => impl_items.l0 k (m : Int) acc (i : Int)) (acc ++ ints ((List.range' i (10 - i)).filter m.testBit)) := by
    refine downTo 10 ?_ ?_
    · intro acc _
      refine Ev.step (by intro k; simp only [impl_items.l0]; rfl) ?_
      refine Ev.no (by omega) (Ev.ret (by simp [ints]))
    · intro i hi ih acc ha
      refine Ev.step (by intro k; simp only [impl_items.l0]; rfl) ?_
      refine Ev.yes (by omega) (Ev.call (has_eq hm (by omega)) ?_)
      have hr : List.range' i (10 - i) = i :: List.range' (i + 1) (10 - (i + 1)) := by
        rw [show 10 - i = (10 - (i + 1)) + 1 by omega, List.range'_succ]
      rw [hr, wid1 hi (by omega)]
      cases hb : m.testBit i with
      | true =>
        refine Ev.yes rfl (Ev.yes (by omega) (evc (ih (acc ++ [(i : Int)]) (by simp; omega)) ?_))
        rw [List.filter_cons_of_pos hb]
        simp [ints]
      | false =>
        refine Ev.no (by simp) (evc (ih acc (by omega)) ?_)
        rw [List.filter_cons_of_neg (by simp [hb])]
  have := key 0 (by omega) [] (by simp)
  exact evc this (by simp [itemsN, List.range_eq_range'])

end Go.Proofs.Ytemkddgfneohhaa.Q
end

section
namespace Go.Proofs.Ytemkddgfneohhaa.Q
open Go.RowKit Go.Proofs.YtemkddgfneohhaaW.PrintWords
set_option linter.unusedVariables false
/-- The set of the e below n with c e. -/
def maskOf : Nat → (Nat → Bool) → Nat
  | 0, _ => 0
  | n + 1, c => if c n then maskOf n c ||| 2 ^ n else maskOf n c
theorem maskOf_bit (n : Nat) (c : Nat → Bool) (i : Nat) : (maskOf n c).testBit i = (decide (i < n) && c i) := by
  induction n with
  | zero => simp [maskOf]
  | succ n ih =>
    unfold maskOf
    by_cases hc : c n = true
    · rw [if_pos hc, Nat.testBit_or, ih, pow_bit]
      by_cases h : n = i
      · subst h; simp [hc]
      · have : decide (i < n + 1) = decide (i < n) := by rw [decide_eq_decide]; omega
        rw [this]; simp [h]
    · rw [if_neg hc, ih]
      by_cases h : n = i
      · subst h; simp at hc; simp [hc]
      · have : decide (i < n + 1) = decide (i < n) := by rw [decide_eq_decide]; omega
        rw [this]
theorem maskOf_lt (n : Nat) (c : Nat → Bool) : maskOf n c < 2 ^ n := by
  apply Nat.lt_pow_two_of_testBit
  intro i hi
  rw [maskOf_bit, decide_eq_false (by omega)]; rfl
def subB (a b : Nat) : Bool := ndiff a b == 0
theorem ndiff_zero {a b : Nat} : ndiff a b = 0 ↔ ∀ i, a.testBit i = true → b.testBit i = true := by
  constructor
  · intro h i hi
    have := ndiff_bit a b i
    rw [h, hi, Nat.zero_testBit] at this
    cases hb : b.testBit i with
    | true => rfl
    | false => rw [hb] at this; simp at this
  · intro h
    apply Nat.eq_of_testBit_eq
    intro i
    rw [ndiff_bit, Nat.zero_testBit]
    cases ha : a.testBit i with
    | false => rfl
    | true => rw [h i ha]; rfl
theorem subB_iff {a b : Nat} : subB a b = true ↔ ∀ i, a.testBit i = true → b.testBit i = true := by unfold subB; rw [beq_iff_eq]; exact ndiff_zero
/-- The set of all elements of a poset. -/
def allN (p : List Int) : Nat := 2 ^ p.length - 1
theorem allN_bit (p : List Int) (i : Nat) : (allN p).testBit i = decide (i < p.length) := by unfold allN; rw [Nat.testBit_two_pow_sub_one]
theorem allN_lt (p : List Int) : allN p < 2 ^ p.length := by unfold allN; have := Nat.two_pow_pos p.length; omega
/-- A number that is a set of elements of p. -/
def setB (p : List Int) (x : Int) : Bool := decide (0 ≤ x) && decide (x ≤ ((allN p : Nat) : Int))
theorem setB_iff {p : List Int} {x : Int} : setB p x = true ↔ ∃ s : Nat, x = (s : Int) ∧ s < 2 ^ p.length := by
  unfold setB
  rw [Bool.and_eq_true, decide_eq_true_eq, decide_eq_true_eq]
  have := Nat.two_pow_pos p.length
  unfold allN
  constructor
  · rintro ⟨h1, h2⟩; exact ⟨x.toNat, by omega, by omega⟩
  · rintro ⟨s, rfl, h⟩; omega
/-- A set that has with each element all that are less. -/
def idealB (p : List Int) (s : Nat) : Bool := allFrom (fun i => !s.testBit i || subB (L p i) s) p.length 0
theorem idealB_iff {p : List Int} {s : Nat} : idealB p s = true ↔ ∀ i, i < p.length → s.testBit i = true → ∀ j, (L p i).testBit j = true → s.testBit j = true := by
  unfold idealB
  rw [allFrom_iff]
  constructor
  · intro h i hi hs
    have := h i (Nat.zero_le _) hi
    rw [hs] at this
    exact subB_iff.1 (by simpa using this)
  · intro h i _ hi
    cases hs : s.testBit i with
    | false => rfl
    | true => rw [subB_iff.2 (h i hi hs)]; rfl
def closeN (p : List Int) (s : Nat) : Nat := (itemsN s).foldl (fun a e => a ||| L p e) s
theorem foldl_or_bit (g : Nat → Nat) (l : List Nat) (a i : Nat) : (l.foldl (fun a e => a ||| g e) a).testBit i = (a.testBit i || l.any fun e => (g e).testBit i) := by
  induction l generalizing a with
  | nil => simp
  | cons x l ih => rw [List.foldl_cons, ih, Nat.testBit_or, List.any_cons, Bool.or_assoc]
theorem closeN_bit {p : List Int} {s i : Nat} : (closeN p s).testBit i = (s.testBit i || (itemsN s).any fun e => (L p e).testBit i) := foldl_or_bit _ _ _ _
theorem closeN_eq {p : List Int} (hp : PO p) {s : Nat} (hs : s < 2 ^ p.length) : (closeN p s == s) = idealB p s := by
  have hn := hp.small
  rw [Bool.eq_iff_iff, beq_iff_eq, idealB_iff]
  constructor
  · intro h i hi hb j hj
    have := closeN_bit (p := p) (s := s) (i := j)
    rw [h] at this
    rw [this]
    have : (itemsN s).any (fun e => (L p e).testBit j) = true := List.any_eq_true.2 ⟨i, mem_itemsN.2 ⟨by omega, hb⟩, hj⟩
    rw [this]; simp
  · intro h
    apply Nat.eq_of_testBit_eq
    intro i
    rw [closeN_bit]
    cases hb : s.testBit i with
    | true => rfl
    | false =>
      rw [Bool.false_or, ← Bool.not_eq_true, List.any_eq_true]
      rintro ⟨e, he, hj⟩
      obtain ⟨_, h2⟩ := mem_itemsN.1 he
      have := h e (lt_of_bit hs h2) h2 i hj
      rw [this] at hb; cases hb
theorem L_lt {p : List Int} (hp : PO p) {i : Nat} (hi : i < p.length) : L p i < 2 ^ p.length := lt_pow (hp.lt i hi) (by omega)
theorem foldl_or_lt (g : Nat → Nat) (l : List Nat) (a n : Nat) (ha : a < 2 ^ n) (hg : ∀ e, e ∈ l → g e < 2 ^ n) : l.foldl (fun a e => a ||| g e) a < 2 ^ n := by
  induction l generalizing a with
  | nil => exact ha
  | cons x l ih => exact ih _ (or_lt ha (hg x List.mem_cons_self)) (fun e he => hg e (List.mem_cons_of_mem _ he))
theorem closeN_lt {p : List Int} (hp : PO p) {s : Nat} (hs : s < 2 ^ p.length) : closeN p s < 2 ^ p.length :=
  foldl_or_lt _ _ _ _ hs (fun e he => L_lt hp (lt_of_bit hs (mem_itemsN.1 he).2))
theorem foldl_drop_step {α β : Type} (f : β → α → β) (l : List α) (d : α) (b : β) {i : Nat} (h : i < l.length) : (l.drop i).foldl f b = (l.drop (i + 1)).foldl f (f b (l.getD i d)) := by
  rw [List.drop_eq_getElem_cons h, List.foldl_cons, List.getD_eq_getElem?_getD, List.getElem?_eq_getElem h]; rfl
end Go.Proofs.Ytemkddgfneohhaa.Q
end

section
namespace Go.Proofs.Ytemkddgfneohhaa.Q
open Go.RowKit Go.Proofs.YtemkddgfneohhaaW.PrintWords
set_option linter.unusedVariables false
def sumL : List Nat → Nat
  | [] => 0
  | x :: l => x + sumL l
theorem sumL_append (a b : List Nat) : sumL (a ++ b) = sumL a + sumL b := by
  induction a with
  | nil => simp [sumL]
  | cons x a ih => simp only [List.cons_append, sumL, ih]; omega
theorem sumL_le (l : List Nat) (b n : Nat) (h : ∀ x ∈ l, x ≤ b) (hn : l.length ≤ n) : sumL l ≤ n * b := by
  induction l generalizing n with
  | nil => exact Nat.zero_le _
  | cons x l ih =>
    cases n with
    | zero => simp at hn
    | succ n =>
      have h1 := h x List.mem_cons_self
      have h2 := ih n (fun y hy => h y (List.mem_cons_of_mem _ hy)) (by simpa using hn)
      rw [Nat.add_mul]; simp only [sumL]; omega
/-- The elements that can come behind those of s. -/
def nextN (p : List Int) (s : Nat) : List Nat := (List.range 10).filter fun e => decide (e < p.length) && !s.testBit e && subB (L p e) s
theorem mem_nextN {p : List Int} {s e : Nat} : e ∈ nextN p s ↔ e < 10 ∧ e < p.length ∧ s.testBit e = false ∧ subB (L p e) s = true := by
  unfold nextN
  rw [List.mem_filter, List.mem_range, Bool.and_eq_true, Bool.and_eq_true, decide_eq_true_eq, Bool.not_eq_true']
  constructor
  · rintro ⟨a, ⟨b, c⟩, d⟩; exact ⟨a, b, c, d⟩
  · rintro ⟨a, b, c, d⟩; exact ⟨a, ⟨b, c⟩, d⟩
theorem nextN_len (p : List Int) (s : Nat) : (nextN p s).length ≤ 10 := by
  unfold nextN; exact Nat.le_trans (List.length_filter_le _ _) (by simp)
def cnt (p : List Int) : Nat → Nat → Nat
  | 0, s => if s = allN p then 1 else 0
  | d + 1, s => if s = allN p then 1 else sumL ((nextN p s).map fun e => cnt p d (s ||| 2 ^ e))
theorem cnt_le (p : List Int) (d s : Nat) : cnt p d s ≤ 10 ^ d := by
  induction d generalizing s with
  | zero => unfold cnt; split <;> simp
  | succ d ih =>
    unfold cnt
    have h1 : 1 ≤ 10 ^ (d + 1) := Nat.one_le_pow _ _ (by decide)
    split
    · exact h1
    · have := sumL_le ((nextN p s).map fun e => cnt p d (s ||| 2 ^ e)) (10 ^ d) 10 (fun x hx => by obtain ⟨e, _, rfl⟩ := List.mem_map.1 hx; exact ih _) (by rw [List.length_map]; exact nextN_len p s)
      rw [Nat.pow_succ]; omega
def miss (p : List Int) (s : Nat) : Nat := (List.range p.length).countP fun e => !s.testBit e
theorem miss_le (p : List Int) (s : Nat) : miss p s ≤ p.length := by unfold miss; have := List.countP_le_length (p := fun e => !s.testBit e) (l := List.range p.length); simpa using this
theorem countP_lt {α : Type} (f g : α → Bool) (l : List α) (h : ∀ x ∈ l, f x = true → g x = true) (x : α) (hx : x ∈ l) (hg : g x = true) (hf : f x = false) : l.countP f < l.countP g := by
  induction l with
  | nil => cases hx
  | cons y l ih =>
    have hle : l.countP f ≤ l.countP g := List.countP_mono_left (fun z hz => h z (List.mem_cons_of_mem _ hz))
    rw [List.countP_cons, List.countP_cons]
    rcases List.mem_cons.1 hx with rfl | hx'
    · rw [hf, hg]; simp; omega
    · have := ih (fun z hz => h z (List.mem_cons_of_mem _ hz)) hx'
      have hy := h y List.mem_cons_self
      cases hfy : f y with
      | true => rw [hy hfy]; simp; omega
      | false => cases g y <;> simp <;> omega
theorem miss_lt {p : List Int} {s e : Nat} (he : e < p.length) (hb : s.testBit e = false) : miss p (s ||| 2 ^ e) < miss p s := by
  unfold miss
  refine countP_lt _ _ _ (fun x _ hx => ?_) e (List.mem_range.2 he) (by rw [hb]; rfl) ?_
  · rw [Nat.testBit_or] at hx
    cases h : s.testBit x with
    | false => rfl
    | true => rw [h] at hx; simp at hx
  · rw [Nat.testBit_or, pow_bit]; simp
theorem miss_zero {p : List Int} {s : Nat} (hs : s < 2 ^ p.length) (h : miss p s = 0) : s = allN p := by
  refine ext_bits hs (allN_lt p) (fun i hi => ?_)
  rw [allN_bit, decide_eq_true hi]
  unfold miss at h
  rw [List.countP_eq_zero] at h
  have := h i (List.mem_range.2 hi)
  simpa using this
theorem add_lt {p : List Int} {s e : Nat} (hs : s < 2 ^ p.length) (he : e < p.length) : s ||| 2 ^ e < 2 ^ p.length := or_lt hs (pow_lt_pow he)
theorem cnt_fuel {p : List Int} : ∀ (d d' s : Nat), s < 2 ^ p.length → miss p s ≤ d → miss p s ≤ d' → cnt p d s = cnt p d' s := by
  intro d
  induction d with
  | zero =>
    intro d' s hs h _
    have := miss_zero hs (by omega)
    subst this
    cases d' <;> simp [cnt]
  | succ d ih =>
    intro d' s hs h h'
    by_cases ha : s = allN p
    · subst ha; cases d' <;> simp [cnt]
    · cases d' with
      | zero => exact absurd (miss_zero hs (by omega)) ha
      | succ d' =>
        simp only [cnt, if_neg ha]
        congr 1
        apply List.map_congr_left
        intro e he
        obtain ⟨_, h1, h2, _⟩ := mem_nextN.1 he
        have := miss_lt h1 h2
        exact ih d' _ (add_lt hs h1) (by omega) (by omega)
/-- In how many orders the elements outside of s can follow. -/
def ways (p : List Int) (s : Nat) : Nat := cnt p p.length s
theorem ways_step {p : List Int} {s : Nat} (hs : s < 2 ^ p.length) (ha : s ≠ allN p) : ways p s = sumL ((nextN p s).map fun e => ways p (s ||| 2 ^ e)) := by
  unfold ways
  rw [cnt_fuel p.length (p.length + 1) s hs (miss_le p s) (by have := miss_le p s; omega)]
  simp only [cnt, if_neg ha]
theorem ways_all (p : List Int) : ways p (allN p) = 1 := by unfold ways; cases p.length <;> simp [cnt]
theorem ways_le {p : List Int} (h : p.length ≤ 10) (s : Nat) : ways p s ≤ 10000000000 := by
  unfold ways
  exact Nat.le_trans (cnt_le p _ s) (Nat.le_trans (Nat.pow_le_pow_right (by decide) h) (by decide))
theorem ways_cnt {p : List Int} {s d : Nat} (hs : s < 2 ^ p.length) (hd : p.length ≤ d) : ways p s = cnt p d s := cnt_fuel _ _ s hs (miss_le p s) (by have := miss_le p s; omega)
theorem idealB_all (p : List Int) (hp : PO p) : idealB p (allN p) = true := by
  rw [idealB_iff]
  intro i hi _ j hj
  rw [allN_bit, decide_eq_true_eq]
  have := lt_of_bit (hp.lt i hi) hj
  omega
theorem idealB_add {p : List Int} (hp : PO p) {s e : Nat} (hs : idealB p s = true) (he : e ∈ nextN p s) : idealB p (s ||| 2 ^ e) = true := by
  obtain ⟨_, h1, _, h3⟩ := mem_nextN.1 he
  rw [idealB_iff] at hs ⊢
  intro i hi hb j hj
  rw [Nat.testBit_or, pow_bit, Bool.or_eq_true, decide_eq_true_eq] at hb
  rw [Nat.testBit_or, Bool.or_eq_true]
  left
  rcases hb with hb | rfl
  · exact hs i hi hb j hj
  · exact subB_iff.1 h3 j hj
end Go.Proofs.Ytemkddgfneohhaa.Q
end

section
namespace Go.Proofs.Ytemkddgfneohhaa.Q
open Go.RowKit Go.Proofs.YtemkddgfneohhaaW.PrintWords Go.Proofs.Ytemkddgfneohhaa.F
set_option linter.unusedVariables false
theorem all_eq {p : List Int} (h : p.length ≤ 61) : impl_Poset_all.f p = some ((allN p : Nat) : Int) := by
  unfold impl_Poset_all.f
  rw [show impl_Poset_n.f p = some (p.length : Int) from rfl]
  simp only [Option.bind_some]
  rw [if_pos (by omega), mask_eq h, pow_int]
  unfold allN
  have := Nat.two_pow_pos p.length
  congr 1
  omega
end Go.Proofs.Ytemkddgfneohhaa.Q
end

section
namespace Go.Proofs.Ytemkddgfneohhaa.Q
open Go.RowKit Go.Proofs.YtemkddgfneohhaaW.PrintWords Go.Proofs.Ytemkddgfneohhaa.F
set_option linter.unusedVariables false
theorem close_ev {p : List Int} (hp : PO p) {s : Nat} (hs : s < 2 ^ p.length) : Ev (fun k => impl_Poset_close.f k p (s : Int)) ((closeN p s : Nat) : Int) := by
  have hn := hp.small
  unfold impl_Poset_close.f closeN
  refine Ev.bind (items_ev s (lt_pow hs (by omega))) ?_
  rw [ints_len]
  have hl := itemsN_len s
  have key : ∀ i, i ≤ (itemsN s).length → ∀ a : Nat, a < 2 ^ p.length → Ev (fun k => impl_Poset_close.l0 k (a : Int) (ints (itemsN s)) ((itemsN s).length : Int) (i : Int) p) (((itemsN s).drop i).foldl (fun a e => a ||| L p e) a : Nat) := by
    refine downTo _ ?_ ?_
    · intro a ha
      refine Ev.step (by intro k; simp only [impl_Poset_close.l0]; rfl) (Ev.no (by omega) (Ev.ret ?_))
      rw [List.drop_length]; rfl
    · intro i hi ih a ha
      have hlt := items_lt hs hi
      refine Ev.step (by intro k; simp only [impl_Poset_close.l0]; rfl) (Ev.yes (by omega) (Ev.yes (by omega) (Ev.yes (by rw [ints_len]; omega) ?_)))
      rw [rd_ints, wid1 hi (by omega), rdN, foldl_drop_step _ _ 0 _ hi]
      refine Ev.yes (by omega) (Ev.yes (by omega) ?_)
      rw [hp.val _ hlt, bits_orN (lt_pow ha (by omega)) (lt_pow (L_lt hp hlt) (by omega))]
      exact ih _ (or_lt ha (L_lt hp hlt))
  exact key 0 (by omega) s hs
end Go.Proofs.Ytemkddgfneohhaa.Q
end

section
namespace Go.Proofs.Ytemkddgfneohhaa.Q
open Go.RowKit Go.Proofs.YtemkddgfneohhaaW.PrintWords Go.Proofs.Ytemkddgfneohhaa.F
set_option linter.unusedVariables false
theorem poIdeal_ev {p : List Int} (hp : PO p) {s : Nat} (hs : s < 2 ^ p.length) : Ev (fun k => spec_poIdeal.f k p (s : Int)) (idealB p s) := by
  have hn := hp.small
  unfold spec_poIdeal.f idealB
  have key : ∀ i, i ≤ p.length → Ev (fun k => spec_poIdeal.l0 k (s : Int) p (p.length : Int) (i : Int)) (allFrom (fun i => !s.testBit i || subB (L p i) s) p.length i) := by
    refine downTo _ ?_ ?_
    · exact Ev.step (by intro k; simp only [spec_poIdeal.l0]; rfl) (Ev.no (by omega) (Ev.ret (allFrom_end _ _).symm))
    · intro i hi ih
      refine Ev.step (by intro k; simp only [spec_poIdeal.l0]; rfl) (Ev.yes (by omega) (Ev.yes (by omega) (Ev.yes (by omega) ?_)))
      rw [wid1 hi (by omega), rdN, hp.val i hi, allFrom_step _ hi]
      refine Ev.call (poIn_eq (by omega)) ?_
      cases s.testBit i with
      | false => exact Ev.no (by simp) (evc ih (by simp))
      | true =>
        refine Ev.yes rfl ?_
        rw [bits_andNotN (lt_pow (L_lt hp hi) (by omega)) (lt_pow hs (by omega))]
        refine Ev.ite (fun h => evc ih ?_) (fun h => Ev.ret ?_)
        · rw [show subB (L p i) s = true by unfold subB; rw [beq_iff_eq]; exact_mod_cast h]; simp
        · rw [show subB (L p i) s = false by unfold subB; rw [beq_eq_false_iff_ne]; intro e; exact h (by rw [e]; rfl)]; simp
  exact key 0 (by omega)
end Go.Proofs.Ytemkddgfneohhaa.Q
end

section
namespace Go.Proofs.Ytemkddgfneohhaa.Q
open Go.RowKit Go.Proofs.YtemkddgfneohhaaW.PrintWords
set_option linter.unusedVariables false
/-- The elements of l are put behind the set s one by one, each behind all that are less. -/
def ordRun (p : List Int) : Nat → List Int → Option Nat
  | s, [] => some s
  | s, e :: l => if (0 ≤ e ∧ e < (p.length : Int)) ∧ s.testBit e.toNat = false ∧ subB (L p e.toNat) s = true then ordRun p (s ||| 2 ^ e.toNat) l else none
def ordB (p w : List Int) : Bool := ordRun p 0 w == some (allN p)
theorem ordB_iff {p w : List Int} : ordB p w = true ↔ ordRun p 0 w = some (allN p) := by unfold ordB; rw [beq_iff_eq]
theorem ordRun_app (p x y : List Int) : ∀ s, ordRun p s (x ++ y) = (ordRun p s x).bind fun t => ordRun p t y := by
  induction x with
  | nil => intro s; rfl
  | cons e x ih =>
    intro s
    simp only [List.cons_append, ordRun]
    split
    · exact ih _
    · rfl
theorem ordRun_range {p l : List Int} : ∀ {s t : Nat}, ordRun p s l = some t → ∀ e ∈ l, 0 ≤ e ∧ e < (p.length : Int) := by
  induction l with
  | nil => intro s t h e he; cases he
  | cons x l ih =>
    intro s t h e he
    simp only [ordRun] at h
    split at h
    · rename_i hc
      rcases List.mem_cons.1 he with rfl | he
      · exact hc.1
      · exact ih h e he
    · cases h
def pcard (n s : Nat) : Nat := (List.range n).countP s.testBit
theorem pcard_succ (n s : Nat) : pcard (n + 1) s = pcard n s + if s.testBit n then 1 else 0 := by
  unfold pcard; rw [List.range_succ, List.countP_append, List.countP_singleton]
theorem pcard_above {n e : Nat} (s : Nat) (h : n ≤ e) : pcard n (s ||| 2 ^ e) = pcard n s := by
  unfold pcard
  apply List.countP_congr
  intro x hx
  rw [List.mem_range] at hx
  rw [Nat.testBit_or, pow_bit, decide_eq_false (by omega), Bool.or_false]
theorem pcard_add {n s e : Nat} (he : e < n) (hb : s.testBit e = false) : pcard n (s ||| 2 ^ e) = pcard n s + 1 := by
  induction n with
  | zero => omega
  | succ n ih =>
    rw [pcard_succ, pcard_succ, Nat.testBit_or, pow_bit]
    rcases Nat.lt_succ_iff_lt_or_eq.1 he with h | h
    · rw [ih h, decide_eq_false (by omega), Bool.or_false]; omega
    · subst h; rw [pcard_above s (Nat.le_refl _), hb]; simp
theorem pcard_zero (n : Nat) : pcard n 0 = 0 := by unfold pcard; rw [List.countP_eq_zero]; intro x _; simp
theorem pcard_le (n s : Nat) : pcard n s ≤ n := by unfold pcard; have := List.countP_le_length (p := s.testBit) (l := List.range n); simpa using this
theorem pcard_all (p : List Int) : pcard p.length (allN p) = p.length := by
  unfold pcard
  have : (List.range p.length).countP (allN p).testBit = (List.range p.length).length := by
    rw [List.countP_eq_length]; intro x hx; rw [List.mem_range] at hx; rw [allN_bit, decide_eq_true hx]
  rw [this, List.length_range]
theorem all_of_pcard {p : List Int} {s : Nat} (hs : s < 2 ^ p.length) (h : pcard p.length s = p.length) : s = allN p := by
  refine ext_bits hs (allN_lt p) (fun i hi => ?_)
  rw [allN_bit, decide_eq_true hi]
  have h2 : (List.range p.length).countP s.testBit = (List.range p.length).length := by rw [List.length_range]; exact h
  rw [List.countP_eq_length] at h2
  exact h2 i (List.mem_range.2 hi)
theorem ordRun_card {p l : List Int} : ∀ {s t : Nat}, s < 2 ^ p.length → ordRun p s l = some t → t < 2 ^ p.length ∧ pcard p.length t = pcard p.length s + l.length := by
  induction l with
  | nil => intro s t hs h; simp only [ordRun, Option.some.injEq] at h; subst h; exact ⟨hs, rfl⟩
  | cons x l ih =>
    intro s t hs h
    simp only [ordRun] at h
    split at h
    · rename_i hc
      obtain ⟨⟨h0, h1⟩, h2, h3⟩ := hc
      have hx : x.toNat < p.length := by omega
      obtain ⟨g1, g2⟩ := ih (or_lt hs (pow_lt_pow hx)) h
      refine ⟨g1, ?_⟩
      rw [g2, pcard_add hx h2, List.length_cons]; omega
    · cases h
theorem ordB_len {p w : List Int} (h : ordB p w = true) : w.length = p.length := by
  have := (ordRun_card (Nat.two_pow_pos _) (ordB_iff.1 h)).2
  rw [pcard_all, pcard_zero] at this; omega
theorem ordB_eq (p w : List Int) : (decide (w.length = p.length) && (ordRun p 0 w).isSome) = ordB p w := by
  rw [Bool.eq_iff_iff, Bool.and_eq_true, decide_eq_true_eq]
  constructor
  · rintro ⟨hl, hs⟩
    obtain ⟨t, ht⟩ := Option.isSome_iff_exists.1 hs
    obtain ⟨g1, g2⟩ := ordRun_card (Nat.two_pow_pos _) ht
    rw [pcard_zero, hl, Nat.zero_add] at g2
    rw [ordB_iff, ht, all_of_pcard g1 g2]
  · intro h
    exact ⟨ordB_len h, by rw [ordB_iff.1 h]; rfl⟩
theorem ordB_range {p w : List Int} (h : ordB p w = true) : ∀ e ∈ w, 0 ≤ e ∧ e < (p.length : Int) := ordRun_range (ordB_iff.1 h)
theorem drop_getD (w : List Int) {i : Nat} (h : i < w.length) : w.drop i = w.getD i 0 :: w.drop (i + 1) := by
  rw [List.drop_eq_getElem_cons h, List.getD_eq_getElem?_getD, List.getElem?_eq_getElem h]; rfl
end Go.Proofs.Ytemkddgfneohhaa.Q
end

section
namespace Go.Proofs.Ytemkddgfneohhaa.Q
open Go.RowKit Go.Proofs.YtemkddgfneohhaaW.PrintWords
set_option linter.unusedVariables false
/-- All ideals. -/
def idealsN (p : List Int) : List Nat := (List.range (2 ^ p.length)).filter (idealB p)
theorem mem_idealsN {p : List Int} {s : Nat} : s ∈ idealsN p ↔ s < 2 ^ p.length ∧ idealB p s = true := by
  unfold idealsN; rw [List.mem_filter, List.mem_range]
theorem idealsN_nodup (p : List Int) : (idealsN p).Nodup := List.Pairwise.filter _ List.nodup_range
theorem idealsN_len (p : List Int) : (idealsN p).length ≤ 2 ^ p.length := by
  have := List.length_filter_le (idealB p) (List.range (2 ^ p.length))
  rwa [List.length_range] at this
theorem idealB_zero' (p : List Int) : idealB p 0 = true := by rw [idealB_iff]; intro i _ h; rw [Nat.zero_testBit] at h; cases h
theorem zero_mem (p : List Int) : 0 ∈ idealsN p := mem_idealsN.2 ⟨Nat.two_pow_pos _, idealB_zero' p⟩
/-- No element of a set is less than another one. -/
def frB (p : List Int) (u : Nat) : Bool := allFrom (fun i => !u.testBit i || decide (L p i &&& u = 0)) p.length 0
/-- What may follow in a row. -/
def stB (p : List Int) (strict : Bool) (s t : Nat) : Bool := subB s t && (!strict || frB p (ndiff t s))
/-- How many rows of so many steps end in a set. -/
def wvN (B : Nat → Nat → Bool) (ids : List Nat) : Nat → Nat → Nat
  | 0, t => if t = 0 then 1 else 0
  | k + 1, t => sumL ((ids.filter fun s => B s t).map (wvN B ids k))
theorem sumL_map_le {α : Type} (f g : α → Nat) : ∀ l : List α, (∀ x ∈ l, f x ≤ g x) → sumL (l.map f) ≤ sumL (l.map g)
  | [], _ => Nat.le_refl _
  | x :: l, h => by
    have h1 := sumL_map_le f g l (fun y hy => h y (List.mem_cons_of_mem _ hy))
    have h2 := h x List.mem_cons_self
    simp only [List.map_cons, sumL]
    omega
theorem sumL_filter_le {α : Type} (f : α → Nat) (P Q : α → Bool) : ∀ l : List α, (∀ x ∈ l, P x = true → Q x = true) → sumL ((l.filter P).map f) ≤ sumL ((l.filter Q).map f)
  | [], _ => Nat.le_refl _
  | x :: l, h => by
    have h1 := sumL_filter_le f P Q l (fun y hy => h y (List.mem_cons_of_mem _ hy))
    rw [List.filter_cons, List.filter_cons]
    cases hp : P x with
    | false =>
      rw [if_neg (by simp)]
      cases hq : Q x with
      | false => rw [if_neg (by simp)]; exact h1
      | true => rw [if_pos rfl, List.map_cons]; simp only [sumL]; omega
    | true =>
      rw [if_pos rfl, if_pos (h x List.mem_cons_self hp)]
      simp only [List.map_cons, sumL]; omega
theorem sumL_take_le {α : Type} (f : α → Nat) (l : List α) (i : Nat) : sumL ((l.take i).map f) ≤ sumL (l.map f) := by
  rw [show l.map f = (l.take i).map f ++ (l.drop i).map f by rw [← List.map_append, List.take_append_drop], sumL_append]
  omega
/-- The sum over all parts of a set of the powers of a number by their sizes. -/
theorem sub_pow (c : Nat) : ∀ (n t : Nat), sumL (((List.range (2 ^ n)).filter fun s => subB s t).map fun s => c ^ pcard n s) = (c + 1) ^ pcard n t
  | 0, t => by
    have e : (List.range (2 ^ 0)).filter (fun s => subB s t) = [0] := by
      rw [show List.range (2 ^ 0) = [0] from rfl, List.filter_cons, if_pos (subB_iff.2 fun i h => by rw [Nat.zero_testBit] at h; cases h)]; rfl
    rw [e]; rfl
  | n + 1, t => by
    have hr : List.range (2 ^ (n + 1)) = List.range (2 ^ n) ++ (List.range (2 ^ n)).map (2 ^ n + ·) := by
      rw [show 2 ^ (n + 1) = 2 ^ n + 2 ^ n by rw [Nat.pow_succ]; omega, List.range_add]
    rw [hr, List.filter_append, List.map_append, sumL_append, List.filter_map, List.map_map]
    have hbit : ∀ s, s < 2 ^ n → 2 ^ n + s = s ||| 2 ^ n := fun s hs => by
      have h := Nat.two_pow_add_eq_or_of_lt hs 1
      rw [Nat.mul_one] at h
      rw [h, Nat.or_comm]
    have h1 : sumL (((List.range (2 ^ n)).filter fun s => subB s t).map fun s => c ^ pcard (n + 1) s) = (c + 1) ^ pcard n t := by
      rw [← sub_pow c n t]
      congr 1
      refine List.map_congr_left fun s hs => ?_
      have hs := List.mem_range.1 (List.mem_filter.1 hs).1
      rw [pcard_succ, Nat.testBit_lt_two_pow hs]; simp
    have hsub : ∀ s, s < 2 ^ n → subB (2 ^ n + s) t = (t.testBit n && subB s t) := fun s hs => by
      rw [hbit s hs, Bool.eq_iff_iff, Bool.and_eq_true, subB_iff, subB_iff]
      constructor
      · intro h
        exact ⟨h n (by rw [Nat.testBit_or, pow_bit]; simp), fun i hi => h i (by rw [Nat.testBit_or, hi]; rfl)⟩
      · rintro ⟨h1, h2⟩ i hi
        rw [Nat.testBit_or, pow_bit, Bool.or_eq_true, decide_eq_true_eq] at hi
        rcases hi with hi | hi
        · exact h2 i hi
        · rw [← hi]; exact h1
    have h2 : sumL (((List.range (2 ^ n)).filter ((fun s => subB s t) ∘ (2 ^ n + ·))).map ((fun s => c ^ pcard (n + 1) s) ∘ (2 ^ n + ·))) = if t.testBit n = true then c * (c + 1) ^ pcard n t else 0 := by
      have e1 : (List.range (2 ^ n)).filter ((fun s => subB s t) ∘ (2 ^ n + ·)) = (List.range (2 ^ n)).filter fun s => t.testBit n && subB s t := by
        refine List.filter_congr fun s hs => ?_
        exact hsub s (List.mem_range.1 hs)
      rw [e1]
      cases hb : t.testBit n with
      | false =>
        rw [if_neg (by simp)]
        have e2 : (List.range (2 ^ n)).filter (fun s => false && subB s t) = [] := by simp
        rw [e2]; rfl
      | true =>
        rw [if_pos rfl]
        simp only [Bool.true_and]
        rw [← sub_pow c n t]
        have hmul : ∀ l : List Nat, sumL (l.map fun s => c * c ^ pcard n s) = c * sumL (l.map fun s => c ^ pcard n s) := by
          intro l
          induction l with
          | nil => rfl
          | cons x l ih => simp only [List.map_cons, sumL]; rw [ih, Nat.mul_add]
        rw [← hmul]
        congr 1
        refine List.map_congr_left fun s hs => ?_
        have hs := List.mem_range.1 (List.mem_filter.1 hs).1
        show c ^ pcard (n + 1) (2 ^ n + s) = _
        rw [hbit s hs, pcard_add (Nat.lt_succ_self n) (Nat.testBit_lt_two_pow hs), pcard_succ, Nat.testBit_lt_two_pow hs]
        simp [Nat.pow_succ, Nat.mul_comm]
    rw [h1, h2, pcard_succ]
    cases t.testBit n with
    | false => simp
    | true => simp only [if_pos]; rw [Nat.pow_succ, Nat.mul_comm ((c + 1) ^ pcard n t), Nat.add_mul, Nat.one_mul]; omega
/-- Rows are few. -/
theorem wvN_le {p : List Int} {B : Nat → Nat → Bool} (hB : ∀ s t, B s t = true → subB s t = true) : ∀ k t, wvN B (idealsN p) k t ≤ (k + 1) ^ pcard p.length t
  | 0, t => by
    unfold wvN
    rw [Nat.one_pow]
    split <;> omega
  | k + 1, t => by
    unfold wvN
    rw [← sub_pow (k + 1) p.length t]
    refine Nat.le_trans (sumL_map_le _ (fun s => (k + 1) ^ pcard p.length s) _ (fun s _ => wvN_le hB k s)) ?_
    unfold idealsN
    rw [List.filter_filter]
    refine sumL_filter_le _ _ _ _ fun s _ h => ?_
    rw [Bool.and_eq_true] at h
    exact hB s t h.1
theorem pow_bound {c m : Nat} (hc : c ≤ 15) (hm : m ≤ 10) : c ^ m ≤ 576650390625 := by
  refine Nat.le_trans (Nat.pow_le_pow_left hc m) ?_
  have h15 : (15 : Nat) ^ m ≤ 15 ^ 10 := Nat.pow_le_pow_right (by decide) hm
  exact Nat.le_trans h15 (by decide)
theorem wvN_small {p : List Int} (hp : p.length ≤ 10) {B : Nat → Nat → Bool} (hB : ∀ s t, B s t = true → subB s t = true) {k t : Nat} (hk : k ≤ 14) : wvN B (idealsN p) k t ≤ 576650390625 :=
  Nat.le_trans (wvN_le hB k t) (pow_bound (by omega) (Nat.le_trans (pcard_le _ _) hp))
theorem stB_sub {p : List Int} {b : Bool} {s t : Nat} (h : stB p b s t = true) : subB s t = true := by
  unfold stB at h
  rw [Bool.and_eq_true] at h
  exact h.1
theorem sub_all {p : List Int} {s : Nat} (hs : s < 2 ^ p.length) : subB s (allN p) = true := subB_iff.2 fun i hi => by
  rw [allN_bit]; exact decide_eq_true (lt_of_bit hs hi)
end Go.Proofs.Ytemkddgfneohhaa.Q
end

section
namespace Go.Proofs.Ytemkddgfneohhaa.Q
open Go.RowKit Go.Proofs.YtemkddgfneohhaaW.PrintWords Go.Proofs.Ytemkddgfneohhaa.F
set_option linter.unusedVariables false
theorem poIdeals_ev {p : List Int} (hp : PO p) : Ev (fun k => spec_poIdeals.f k p) (ints (idealsN p)) := by
  have hn := hp.small
  have h2 : 2 ^ p.length ≤ 1024 := Nat.le_trans (Nat.pow_le_pow_right (by decide) hn) (by decide)
  unfold spec_poIdeals.f
  have key : ∀ i, i ≤ 2 ^ p.length → ∀ acc : List Int, acc.length ≤ i → Ev (fun k => spec_poIdeals.l0 k acc (i : Int) p) (acc ++ ints ((List.range' i (2 ^ p.length - i)).filter (idealB p))) := by
    refine downTo _ ?_ ?_
    · intro acc _
      refine Ev.step (by intro k; simp only [spec_poIdeals.l0]; rfl) ?_
      rw [shlN (by omega), Nat.sub_self]
      exact Ev.no (by omega) (Ev.ret (by simp [ints]))
    · intro i hi ih acc ha
      refine Ev.step (by intro k; simp only [spec_poIdeals.l0]; rfl) ?_
      rw [shlN (by omega)]
      refine Ev.yes (by omega) (Ev.bind (poIdeal_ev hp hi) ?_)
      rw [show 2 ^ p.length - i = (2 ^ p.length - (i + 1)) + 1 by omega, List.range'_succ, List.filter_cons, wid1 hi (by omega)]
      cases hc : idealB p i with
      | true =>
        rw [if_pos rfl]
        refine Ev.yes rfl (Ev.yes (by omega) (evc (ih (acc ++ [(i : Int)]) (by rw [List.length_append, List.length_singleton]; omega)) ?_))
        rw [List.append_assoc]; rfl
      | false =>
        rw [if_neg (by simp)]
        exact Ev.no (by simp) (ih acc (by omega))
  have := key 0 (Nat.zero_le _) [] (Nat.le_refl _)
  rw [Nat.sub_zero, ← List.range_eq_range'] at this
  exact this
end Go.Proofs.Ytemkddgfneohhaa.Q
end

section
namespace Go.Proofs.Ytemkddgfneohhaa.Q
open Go.RowKit Go.Proofs.YtemkddgfneohhaaW.PrintWords
set_option linter.unusedVariables false
theorem sizes_eq (n : Nat) : (decide ((1 : Int) ≤ (n : Int)) && decide ((n : Int) ≤ 10)) = (decide (1 ≤ n) && decide (n ≤ 10)) := by
  rw [Bool.eq_iff_iff]; simp only [Bool.and_eq_true, decide_eq_true_eq]; omega
end Go.Proofs.Ytemkddgfneohhaa.Q
end

section
namespace Go.Proofs.Ytemkddgfneohhaa.Q
open Go.RowKit Go.Proofs.YtemkddgfneohhaaW.PrintWords Go.Proofs.Ytemkddgfneohhaa.F
set_option linter.unusedVariables false
theorem poGood_ev (p : List Int) : Ev (fun k => spec_poGood.f k p) (isPo p) := by
  unfold spec_poGood.f
  refine Ev.call (l1In_eq _ _ _) ?_
  unfold isPo
  rw [sizes_eq]
  cases hs : (decide (1 ≤ p.length) && decide (p.length ≤ 10)) with
  | false => exact Ev.no (by simp) (Ev.ret rfl)
  | true =>
  refine Ev.yes rfl ?_
  rw [Bool.and_eq_true, decide_eq_true_eq, decide_eq_true_eq] at hs
  obtain ⟨h1, h2⟩ := hs
  have key : ∀ i, i ≤ p.length → Ev (fun k => spec_poGood.l0 k p (p.length : Int) (i : Int) p) (allFrom (rowOk p) p.length i) := by
    refine downTo p.length ?_ ?_
    · refine Ev.step (by intro k; simp only [spec_poGood.l0]; rfl) ?_
      exact Ev.no (by omega) (Ev.ret (allFrom_end _ _).symm)
    · intro i hi ih
      refine Ev.step (by intro k; simp only [spec_poGood.l0]; rfl) ?_
      refine Ev.yes (by omega) (Ev.yes (by omega) (Ev.yes (by omega) ?_))
      rw [rdN, mask_eq (by omega)]
      refine Ev.call (l1In_eq _ _ _) ?_
      rw [allFrom_step _ hi]
      by_cases hb : 0 ≤ p.getD i 0 ∧ p.getD i 0 ≤ 2 ^ i - 1
      rotate_left
      · exact Ev.no (by rw [range_false hb]; simp) (Ev.ret (by rw [rowOk_false hb]; rfl))
      refine Ev.yes (range_true hb) ?_
      have hv : p.getD i 0 = (L p i : Int) := by unfold L; omega
      rw [rowOk_true hb]
      generalize hx : p.getD i 0 = x at *
      have inner : ∀ j, j ≤ i → Ev (fun k => spec_poGood.l1 k (i : Int) x (j : Int) p (p.length : Int) (i : Int) p)
          (allFrom (fun j => !(L p i).testBit j || decide (Go.bits .andNot .i64 (p.getD j 0) x = 0)) i j && allFrom (rowOk p) p.length (i + 1)) := by
        refine downTo i ?_ ?_
        · refine Ev.step (by intro k; simp only [spec_poGood.l1]; rfl) ?_
          refine Ev.no (by omega) ?_
          rw [wid1 hi (by omega), allFrom_end, Bool.true_and]
          exact ih
        · intro j hj ihj
          refine Ev.step (by intro k; simp only [spec_poGood.l1]; rfl) ?_
          refine Ev.yes (by omega) (Ev.yes (by omega) ?_)
          rw [allFrom_step _ hj, wid1 hj (by omega), rdN]
          cases hbit : (L p i).testBit j with
          | false => exact Ev.no (by rw [hv, bit_test (by omega), hbit]; simp) (evc ihj (by simp))
          | true =>
            refine Ev.yes (by rw [hv, bit_test (by omega), hbit]) (Ev.yes (by omega) ?_)
            refine Ev.ite (fun h => evc ihj ?_) (fun h => Ev.ret ?_)
            · rw [decide_eq_true h]; simp
            · rw [decide_eq_false h]; simp
      exact inner 0 (by omega)
  exact key 0 (by omega)
end Go.Proofs.Ytemkddgfneohhaa.Q
end

section
namespace Go.Proofs.Ytemkddgfneohhaa.Q
open Go.RowKit Go.Proofs.YtemkddgfneohhaaW.PrintWords
set_option linter.unusedVariables false
def Tl (N : Nat) (f : Nat → Nat) : List Int := (List.range N).map fun t => ((f t : Nat) : Int)
theorem Tl_len (N : Nat) (f : Nat → Nat) : (Tl N f).length = N := by simp [Tl]
theorem Tl_get (N : Nat) (f : Nat → Nat) {t : Nat} (ht : t < N) : rd (Tl N f) (t : Int) = ((f t : Nat) : Int) := by
  rw [rdN]
  unfold Tl
  rw [List.getD_eq_getElem?_getD, List.getElem?_map, List.getElem?_range ht]; rfl
theorem Tl_congr {N : Nat} {f g : Nat → Nat} (h : ∀ t, t < N → f t = g t) : Tl N f = Tl N g := List.map_congr_left fun t ht => by rw [h t (List.mem_range.1 ht)]
theorem Tl_set {N : Nat} {f : Nat → Nat} {t x : Nat} (ht : t < N) : (Tl N f).set t (x : Int) = Tl N fun u => if u = t then x else f u := by
  apply List.ext_getElem?
  intro i
  unfold Tl
  rw [List.getElem?_set, List.getElem?_map, List.getElem?_map, List.length_map, List.length_range]
  by_cases hi : i < N
  · rw [List.getElem?_range hi]
    by_cases e : t = i
    · subst e
      rw [if_pos rfl, if_pos ht]
      simp
    · rw [if_neg e]
      simp only [Option.map_some]
      rw [if_neg (fun h => e h.symm)]
  · rw [List.getElem?_eq_none (l := List.range N) (by simpa using hi)]
    by_cases e : t = i
    · subst e; exact absurd ht hi
    · rw [if_neg e]; rfl
theorem Tl_zero (N : Nat) : List.replicate N (0 : Int) = Tl N fun _ => 0 := by
  unfold Tl
  apply List.ext_getElem
  · simp
  · intro i h1 h2; simp
theorem sumL_snoc (l : List Nat) (x : Nat) : sumL (l ++ [x]) = sumL l + x := by rw [sumL_append]; simp [sumL]
theorem take_snoc {α : Type} (l : List α) (i : Nat) (h : i < l.length) : l.take (i + 1) = l.take i ++ [l[i]] := by
  rw [List.take_add_one, List.getElem?_eq_getElem h]; rfl
end Go.Proofs.Ytemkddgfneohhaa.Q
end

section
namespace Go.Proofs.Ytemkddgfneohhaa.Q
open Go.RowKit Go.Proofs.YtemkddgfneohhaaW.PrintWords Go.Proofs.Ytemkddgfneohhaa.F
set_option linter.unusedVariables false
theorem laFree_ev {p : List Int} (hp : PO p) {u : Nat} (hu : u < 2 ^ p.length) : Ev (fun k => spec_laFree.f k p (u : Int)) (frB p u) := by
  have hn := hp.small
  unfold spec_laFree.f frB
  have key : ∀ i, i ≤ p.length → Ev (fun k => spec_laFree.l0 k (u : Int) p (p.length : Int) (i : Int)) (allFrom (fun i => !u.testBit i || decide (L p i &&& u = 0)) p.length i) := by
    refine downTo _ ?_ ?_
    · exact Ev.step (by intro k; simp only [spec_laFree.l0]; rfl) (Ev.no (by omega) (Ev.ret (allFrom_end _ _).symm))
    · intro i hi ih
      refine Ev.step (by intro k; simp only [spec_laFree.l0]; rfl) (Ev.yes (by omega) (Ev.yes (by omega) (Ev.yes (by omega) ?_)))
      rw [wid1 hi (by omega), rdN, hp.val i hi, allFrom_step _ hi]
      refine Ev.call (poIn_eq (by omega)) ?_
      cases u.testBit i with
      | false => exact Ev.no (by simp) (evc ih (by simp))
      | true =>
        refine Ev.yes rfl ?_
        rw [bits_andN (lt_pow (L_lt hp hi) (by omega)) (lt_pow hu (by omega))]
        refine Ev.ite (fun h => evc ih ?_) (fun h => Ev.ret ?_)
        · rw [decide_eq_true (show L p i &&& u = 0 by exact_mod_cast h)]; simp
        · rw [decide_eq_false (show ¬ L p i &&& u = 0 by intro e; exact h (by rw [e]; rfl))]; simp
  exact key 0 (Nat.zero_le _)
/-- What the sets ahead of i have given to t. -/
def gotN (B : Nat → Nat → Bool) (ids : List Nat) (v : Nat → Nat) (i t : Nat) : Nat := if t ∈ ids then sumL (((ids.take i).filter fun s => B s t).map v) else 0
/-- .. and what the set s has given to those ahead of j. -/
def gotJ (B : Nat → Nat → Bool) (ids : List Nat) (v : Nat → Nat) (i j s t : Nat) : Nat := gotN B ids v i t + if t ∈ ids.take j ∧ B s t = true then v s else 0
theorem gotN_le {B : Nat → Nat → Bool} {ids : List Nat} {v : Nat → Nat} {i t : Nat} : gotN B ids v i t ≤ sumL ((ids.filter fun s => B s t).map v) := by
  unfold gotN
  split
  · refine Nat.le_trans ?_ (Nat.le_refl (sumL ((ids.filter fun s => B s t).map v)))
    have e : ids.filter (fun s => B s t) = (ids.take i).filter (fun s => B s t) ++ (ids.drop i).filter (fun s => B s t) := by rw [← List.filter_append, List.take_append_drop]
    rw [e, List.map_append, sumL_append]
    omega
  · omega
theorem gotN_step {B : Nat → Nat → Bool} {ids : List Nat} {v : Nat → Nat} {i t : Nat} (hi : i < ids.length) : gotN B ids v (i + 1) t = gotN B ids v i t + if t ∈ ids ∧ B ids[i] t = true then v ids[i] else 0 := by
  unfold gotN
  by_cases ht : t ∈ ids
  · rw [if_pos ht, if_pos ht, take_snoc ids i hi, List.filter_append, List.map_append, sumL_append]
    cases hb : B ids[i] t with
    | true => simp [ht, hb, sumL]
    | false => simp [hb, sumL]
  · rw [if_neg ht, if_neg ht, if_neg (fun h => ht h.1)]
theorem gotJ_end {B : Nat → Nat → Bool} {ids : List Nat} {v : Nat → Nat} {i t : Nat} (hi : i < ids.length) : gotJ B ids v i ids.length ids[i] t = gotN B ids v (i + 1) t := by
  unfold gotJ
  rw [List.take_length, gotN_step hi]
theorem not_in_take {ids : List Nat} (hn : ids.Nodup) {j : Nat} (hj : j < ids.length) : ids[j] ∉ ids.take j := by
  intro h
  obtain ⟨i, hi, e⟩ := List.mem_take_iff_getElem.1 h
  rw [List.nodup_iff_pairwise_ne, List.pairwise_iff_getElem] at hn
  exact hn i j (by omega) hj (by omega) e
theorem gotJ_step {B : Nat → Nat → Bool} {ids : List Nat} {v : Nat → Nat} {i j s : Nat} (hn : ids.Nodup) (hj : j < ids.length) (u : Nat) :
    gotJ B ids v i (j + 1) s u = if u = ids[j] ∧ B s u = true then gotJ B ids v i j s u + v s else gotJ B ids v i j s u := by
  unfold gotJ
  rw [take_snoc ids j hj]
  by_cases e : u = ids[j]
  · subst e
    have h0 := not_in_take hn hj
    have h1 : ids[j] ∈ ids.take j ++ [ids[j]] := List.mem_append.2 (.inr (List.mem_singleton.2 rfl))
    cases hb : B s ids[j] with
    | true => rw [if_pos ⟨h1, rfl⟩, if_pos ⟨rfl, rfl⟩, if_neg (fun h => h0 h.1)]; omega
    | false => rw [if_neg (by simp), if_neg (by simp), if_neg (by simp)]
  · have hne : ¬ (u = ids[j] ∧ B s u = true) := fun h => e h.1
    have : (u ∈ ids.take j ++ [ids[j]]) ↔ u ∈ ids.take j := by rw [List.mem_append, List.mem_singleton]; exact ⟨fun h => h.elim id (fun h => absurd h e), .inl⟩
    rw [if_neg hne]
    by_cases h : u ∈ ids.take j ∧ B s u = true
    · rw [if_pos h, if_pos ⟨this.2 h.1, h.2⟩]
    · rw [if_neg h, if_neg (fun h2 => h ⟨this.1 h2.1, h2.2⟩)]
theorem gotJ_le {B : Nat → Nat → Bool} {ids : List Nat} {v : Nat → Nat} {i j t : Nat} (hi : i < ids.length) (hj : j ≤ ids.length) : gotJ B ids v i j ids[i] t ≤ gotN B ids v (i + 1) t := by
  rw [← gotJ_end hi]
  unfold gotJ
  rw [List.take_length]
  by_cases h : t ∈ ids.take j ∧ B ids[i] t = true
  · rw [if_pos h, if_pos ⟨List.mem_of_mem_take h.1, h.2⟩]; omega
  · rw [if_neg h]; omega
theorem chains_row {p : List Int} (hp : PO p) (b : Bool) (v : Nat → Nat) (hv : ∀ t, sumL (((idealsN p).filter fun s => stB p b s t).map v) ≤ 4000000000000000000) {i : Nat} (hi : i < (idealsN p).length) {x1 : Int} {r : Int} :
    ∀ j, j ≤ (idealsN p).length → Ev (fun k => spec_laChains.l1 k x1 b (ints (idealsN p)) (Tl (2 ^ p.length) v) (Tl (2 ^ p.length) (gotN (stB p b) (idealsN p) v (i + 1))) (ints (idealsN p)) ((ints (idealsN p)).length : Int) (wrap64 ((i : Int) + 1)) p) r →
    Ev (fun k => spec_laChains.l2 k x1 b (ints (idealsN p)) (Tl (2 ^ p.length) v) (Tl (2 ^ p.length) (gotJ (stB p b) (idealsN p) v i j (idealsN p)[i])) ((idealsN p)[i] : Int) (ints (idealsN p)) ((ints (idealsN p)).length : Int) (i : Int) (ints (idealsN p)) ((ints (idealsN p)).length : Int) (j : Int) p) r := by
  have hn := hp.small
  have h2 : 2 ^ p.length ≤ 1024 := Nat.le_trans (Nat.pow_le_pow_right (by decide) hn) (by decide)
  have hl := idealsN_len p
  have hnd := idealsN_nodup p
  obtain ⟨hs, hsi⟩ := mem_idealsN.1 (List.getElem_mem hi)
  generalize hS : (idealsN p)[i] = s at hs hsi ⊢
  rw [ints_len]
  refine downTo _ ?_ ?_
  · intro hr
    refine Ev.step (by intro k; simp only [spec_laChains.l2]; rfl) (Ev.no (by omega) ?_)
    have e : Tl (2 ^ p.length) (gotJ (stB p b) (idealsN p) v i (idealsN p).length s) = Tl (2 ^ p.length) (gotN (stB p b) (idealsN p) v (i + 1)) := Tl_congr fun t _ => by rw [← hS]; exact gotJ_end hi
    rw [e]
    exact hr
  · intro j hj ih hr
    have ih := ih hr
    obtain ⟨ht, hti⟩ := mem_idealsN.1 (List.getElem_mem hj)
    have hrd : rd (ints (idealsN p)) (j : Int) = ((idealsN p)[j] : Int) := by rw [rd_ints, List.getD_eq_getElem?_getD, List.getElem?_eq_getElem hj]; rfl
    have hstep := gotJ_step (B := stB p b) (v := v) (i := i) (s := s) hnd hj
    generalize hT : (idealsN p)[j] = t at ht hti hrd hstep
    have hsame : stB p b s t = false ∨ v s = 0 → Tl (2 ^ p.length) (gotJ (stB p b) (idealsN p) v i (j + 1) s) = Tl (2 ^ p.length) (gotJ (stB p b) (idealsN p) v i j s) := fun h => Tl_congr fun u _ => by
      rw [hstep u]
      by_cases hu : u = t ∧ stB p b s u = true
      · rw [if_pos hu]
        rcases h with h | h
        · rw [hu.1, h] at hu; exact absurd hu.2 (by simp)
        · omega
      · rw [if_neg hu]
    refine Ev.step (by intro k; simp only [spec_laChains.l2]; rfl) (Ev.yes (by omega) (Ev.yes (by omega) (Ev.yes (by rw [ints_len]; omega) (Ev.yes (by omega) (Ev.yes (by rw [Tl_len]; omega) ?_)))))
    rw [hrd, Tl_get _ _ hs, Tl_get _ _ ht, wid1 (show j < (idealsN p).length from hj) (by omega), bits_andNotN (lt_pow hs (by omega)) (lt_pow ht (by omega)), bits_andNotN (lt_pow ht (by omega)) (lt_pow hs (by omega))]
    refine Ev.ite (fun hv0 => ?_) (fun hv0 => ?_)
    rotate_left
    · rw [hsame (.inr (by omega))] at ih; exact ih
    have hadd : stB p b s t = true → (Tl (2 ^ p.length) (gotJ (stB p b) (idealsN p) v i j s)).set ((t : Int)).toNat (wrap64 (((gotJ (stB p b) (idealsN p) v i j s t : Nat) : Int) + ((v s : Nat) : Int))) = Tl (2 ^ p.length) (gotJ (stB p b) (idealsN p) v i (j + 1) s) := fun hB => by
      have hle : gotJ (stB p b) (idealsN p) v i (j + 1) s t ≤ 4000000000000000000 := by
        rw [← hS]
        exact Nat.le_trans (gotJ_le hi (by omega)) (Nat.le_trans gotN_le (hv t))
      rw [hstep t, if_pos ⟨rfl, hB⟩] at hle
      rw [wid (by omega) (by omega), Int.toNat_natCast, show ((gotJ (stB p b) (idealsN p) v i j s t : Nat) : Int) + ((v s : Nat) : Int) = ((gotJ (stB p b) (idealsN p) v i j s t + v s : Nat) : Int) by omega, Tl_set ht]
      refine Tl_congr fun u _ => ?_
      rw [hstep u]
      by_cases e : u = t
      · subst e; rw [if_pos rfl, if_pos ⟨rfl, hB⟩]
      · rw [if_neg e, if_neg (fun h => e h.1)]
    refine Ev.ite (fun hsub => ?_) (fun hsub => ?_)
    rotate_left
    · have : stB p b s t = false := by
        unfold stB subB
        rw [show (ndiff s t == 0) = false by rw [beq_eq_false_iff_ne]; intro e; exact hsub (by rw [e]; rfl)]; rfl
      rw [hsame (.inl this)] at ih; exact ih
    have hsub' : subB s t = true := by unfold subB; rw [beq_iff_eq]; exact_mod_cast hsub
    cases b with
    | false =>
      have hB : stB p false s t = true := by unfold stB; rw [hsub']; rfl
      refine Ev.no (by simp) (Ev.yes (by omega) (Ev.yes (by rw [Tl_len]; omega) ?_))
      rw [hadd hB]; exact ih
    | true =>
      refine Ev.yes rfl (Ev.bind (laFree_ev hp (ndiff_lt ht)) ?_)
      cases hf : frB p (ndiff t s) with
      | true =>
        have hB : stB p true s t = true := by unfold stB; rw [hsub', hf]; rfl
        refine Ev.yes rfl (Ev.yes (by omega) (Ev.yes (by rw [Tl_len]; omega) ?_))
        rw [hadd hB]; exact ih
      | false =>
        have hB : stB p true s t = false := by unfold stB; rw [hsub', hf]; rfl
        rw [hsame (.inl hB)] at ih
        exact Ev.no (by simp) ih
theorem chains_rows {p : List Int} (hp : PO p) (b : Bool) (v : Nat → Nat) (hv : ∀ t, sumL (((idealsN p).filter fun s => stB p b s t).map v) ≤ 4000000000000000000) {x1 : Int} {r : Int}
    (hr : Ev (fun k => spec_laChains.l0 k (wrap64 (x1 - 1)) b (ints (idealsN p)) (Tl (2 ^ p.length) (gotN (stB p b) (idealsN p) v (idealsN p).length)) p) r) :
    ∀ i, i ≤ (idealsN p).length → Ev (fun k => spec_laChains.l1 k x1 b (ints (idealsN p)) (Tl (2 ^ p.length) v) (Tl (2 ^ p.length) (gotN (stB p b) (idealsN p) v i)) (ints (idealsN p)) ((ints (idealsN p)).length : Int) (i : Int) p) r := by
  have hn := hp.small
  have h2 : 2 ^ p.length ≤ 1024 := Nat.le_trans (Nat.pow_le_pow_right (by decide) hn) (by decide)
  have hl := idealsN_len p
  refine downTo _ ?_ ?_
  · refine Ev.step (by intro k; simp only [spec_laChains.l1]; rfl) (Ev.no (by rw [ints_len]; omega) hr)
  · intro i hi ih
    refine Ev.step (by intro k; simp only [spec_laChains.l1]; rfl) (Ev.yes (by rw [ints_len]; omega) (Ev.yes (by omega) (Ev.yes (by rw [ints_len]; omega) ?_)))
    have hrd : rd (ints (idealsN p)) (i : Int) = ((idealsN p)[i] : Int) := by rw [rd_ints, List.getD_eq_getElem?_getD, List.getElem?_eq_getElem hi]; rfl
    rw [hrd]
    have h0 : Tl (2 ^ p.length) (gotN (stB p b) (idealsN p) v i) = Tl (2 ^ p.length) (gotJ (stB p b) (idealsN p) v i 0 (idealsN p)[i]) := Tl_congr fun t _ => by unfold gotJ; simp
    rw [h0]
    exact chains_row hp b v hv hi 0 (Nat.zero_le _) (by rw [wid1 hi (by omega)]; exact ih)
/-- The rows that end in an ideal. -/
def wvI (p : List Int) (b : Bool) (k t : Nat) : Nat := if t ∈ idealsN p then wvN (stB p b) (idealsN p) k t else 0
theorem wvI_step (p : List Int) (b : Bool) (k t : Nat) : gotN (stB p b) (idealsN p) (wvI p b k) (idealsN p).length t = wvI p b (k + 1) t := by
  unfold gotN
  rw [List.take_length]
  conv => rhs; unfold wvI
  by_cases h : t ∈ idealsN p
  · rw [if_pos h, if_pos h]
    conv => rhs; unfold wvN
    congr 1
    refine List.map_congr_left fun s hs => ?_
    unfold wvI
    rw [if_pos (List.mem_filter.1 hs).1]
  · rw [if_neg h, if_neg h]
theorem wvI_sum {p : List Int} (hp : PO p) (b : Bool) {k : Nat} (hk : k ≤ 13) (t : Nat) : sumL (((idealsN p).filter fun s => stB p b s t).map (wvI p b k)) ≤ 4000000000000000000 := by
  refine Nat.le_trans ?_ (Nat.le_trans (wvN_small hp.small (B := stB p b) (k := k + 1) (t := t) (fun s t h => stB_sub h) (by omega)) (by decide))
  conv => rhs; unfold wvN
  refine sumL_map_le _ _ _ fun s _ => ?_
  unfold wvI
  split
  · exact Nat.le_refl _
  · exact Nat.zero_le _
theorem laChains_ev {p : List Int} (hp : PO p) (b : Bool) {k : Nat} (hk : k ≤ 14) : Ev (fun n => spec_laChains.f n p (k : Int) b) ((wvN (stB p b) (idealsN p) k (allN p) : Nat) : Int) := by
  have hn := hp.small
  have h2 : 2 ^ p.length ≤ 1024 := Nat.le_trans (Nat.pow_le_pow_right (by decide) hn) (by decide)
  have hpos := Nat.two_pow_pos p.length
  have hall : allN p ∈ idealsN p := mem_idealsN.2 ⟨allN_lt p, idealB_all p hp⟩
  unfold spec_laChains.f
  refine Ev.bind (poIdeals_ev hp) ?_
  rw [shlN (by omega)]
  refine Ev.yes (by omega) (Ev.yes (by rw [Int.toNat_natCast]; omega) ?_)
  rw [Int.toNat_natCast, Tl_zero]
  refine Ev.call rfl (Ev.yes (by rw [Tl_len]; omega) ?_)
  have e0 : (Tl (2 ^ p.length) fun _ => 0).set (0 : Int).toNat 1 = Tl (2 ^ p.length) (wvI p b 0) := by
    refine (Tl_set (f := fun _ => 0) (t := 0) (x := 1) hpos).trans (Tl_congr fun u _ => ?_)
    unfold wvI wvN
    by_cases hu : u = 0
    · subst hu; rw [if_pos rfl, if_pos (zero_mem p)]
    · rw [if_neg hu]
      split
      · rfl
      · rfl
  rw [e0]
  have key : ∀ q, q ≤ k → Ev (fun n => spec_laChains.l0 n (((k - q : Nat) : Nat) : Int) b (ints (idealsN p)) (Tl (2 ^ p.length) (wvI p b q)) p) ((wvN (stB p b) (idealsN p) k (allN p) : Nat) : Int) := by
    refine downTo _ ?_ ?_
    · refine Ev.step (by intro k; simp only [spec_laChains.l0]; rfl) (Ev.no (by omega) ?_)
      have e1 : wrap64 (((Tl (2 ^ p.length) (wvI p b k)).length : Int) - 1) = ((allN p : Nat) : Int) := by
        rw [Tl_len, wid (by omega) (by omega)]; unfold allN; omega
      rw [e1]
      refine Ev.yes (by omega) (Ev.yes (by rw [Tl_len]; have := allN_lt p; omega) (Ev.ret ?_))
      rw [Tl_get _ _ (allN_lt p)]
      unfold wvI
      rw [if_pos hall]
    · intro q hq ih
      refine Ev.step (by intro k; simp only [spec_laChains.l0]; rfl) (Ev.yes (by omega) (Ev.yes (by omega) (Ev.yes (by rw [Tl_len, Int.toNat_natCast]; omega) ?_)))
      rw [Tl_len, Int.toNat_natCast, Tl_zero]
      have e2 : Tl (2 ^ p.length) (fun _ => 0) = Tl (2 ^ p.length) (gotN (stB p b) (idealsN p) (wvI p b q) 0) := Tl_congr fun t _ => by unfold gotN; split <;> simp [sumL]
      rw [e2]
      refine chains_rows hp b _ (wvI_sum hp b (by omega)) ?_ 0 (Nat.zero_le _)
      rw [wid (by omega) (by omega), show (((k - q : Nat) : Nat) : Int) - 1 = ((k - (q + 1) : Nat) : Int) by omega]
      rw [show Tl (2 ^ p.length) (gotN (stB p b) (idealsN p) (wvI p b q) (idealsN p).length) = Tl (2 ^ p.length) (wvI p b (q + 1)) from Tl_congr fun t _ => wvI_step p b q t]
      exact ih
  exact key 0 (Nat.zero_le _)
end Go.Proofs.Ytemkddgfneohhaa.Q
end

section
namespace Go.Proofs.Ytemkddgfneohhaa.Q
open Go.RowKit Go.Proofs.YtemkddgfneohhaaW.PrintWords
set_option linter.unusedVariables false
/-- What may follow in a row of steps. -/
def opB (p : List Int) (s t : Nat) : Bool := subB s t && (!(ndiff t s == 0) && frB p (ndiff t s))
theorem opB_sub {p : List Int} {s t : Nat} (h : opB p s t = true) : subB s t = true := by
  unfold opB at h
  rw [Bool.and_eq_true] at h
  exact h.1
def stepsN (p : List Int) : List Nat := (List.range p.length).map fun j => wvN (opB p) (idealsN p) (j + 1) (allN p)
/-- Choices. -/
def bin : Nat → Nat → Nat
  | _, 0 => 1
  | 0, _ + 1 => 0
  | k + 1, j + 1 => bin k j + bin k (j + 1)
theorem bin_big : ∀ k j, k < j → bin k j = 0
  | _, 0, h => absurd h (Nat.not_lt_zero _)
  | 0, _ + 1, _ => rfl
  | k + 1, j + 1, h => by unfold bin; rw [bin_big k j (by omega), bin_big k (j + 1) (by omega)]
theorem bin_self : ∀ k, bin k k = 1
  | 0 => rfl
  | k + 1 => by unfold bin; rw [bin_self k, bin_big k (k + 1) (by omega)]
theorem bin_zero (k : Nat) : bin k 0 = 1 := by cases k <;> rfl
theorem frB_zero (p : List Int) : frB p 0 = true := by unfold frB; rw [allFrom_iff]; intro j _ _; rw [Nat.zero_testBit]; rfl
theorem ndiff_self (s : Nat) : ndiff s s = 0 := by unfold ndiff; rw [Nat.and_self, Nat.xor_self]
theorem sub_antisymm {s t : Nat} (h1 : subB s t = true) (h2 : ndiff t s = 0) : s = t := by
  apply Nat.eq_of_testBit_eq
  intro i
  rw [Bool.eq_iff_iff]
  exact ⟨fun h => subB_iff.1 h1 i h, fun h => ndiff_zero.1 h2 i h⟩
theorem st_split (p : List Int) (s t : Nat) : stB p true s t = (decide (s = t) || opB p s t) := by
  by_cases e : s = t
  · subst e
    unfold stB
    rw [ndiff_self, frB_zero, show subB s s = true by unfold subB; rw [ndiff_self]; rfl]
    simp
  · rw [decide_eq_false e, Bool.false_or]
    unfold stB opB
    cases h : subB s t with
    | false => rfl
    | true =>
      have : (ndiff t s == 0) = false := by rw [beq_eq_false_iff_ne]; exact fun h2 => e (sub_antisymm h h2)
      rw [this]; rfl
theorem op_irrefl (p : List Int) (s : Nat) : opB p s s = false := by unfold opB; rw [ndiff_self]; simp
theorem sum_split (p : List Int) (f : Nat → Nat) (t : Nat) : ∀ l : List Nat, l.Nodup → t ∈ l → sumL ((l.filter fun s => stB p true s t).map f) = f t + sumL ((l.filter fun s => opB p s t).map f)
  | [], _, h => by cases h
  | s :: l, hn, h => by
    obtain ⟨h1, h2⟩ := List.nodup_cons.1 hn
    rw [List.filter_cons, List.filter_cons, st_split]
    by_cases e : s = t
    · subst e
      rw [decide_eq_true rfl, Bool.true_or, if_pos rfl, op_irrefl, if_neg (by simp), List.map_cons]
      have e2 : l.filter (fun x => stB p true x s) = l.filter fun x => opB p x s := List.filter_congr fun x hx => by
        rw [st_split, decide_eq_false (fun e => h1 (by rw [← e]; exact hx)), Bool.false_or]
      rw [e2]; rfl
    · have ht : t ∈ l := by
        rcases List.mem_cons.1 h with h | h
        · exact absurd h.symm e
        · exact h
      rw [decide_eq_false e, Bool.false_or]
      have ih := sum_split p f t l h2 ht
      cases opB p s t with
      | false => rw [if_neg (by simp), if_neg (by simp)]; exact ih
      | true => rw [if_pos rfl, if_pos rfl, List.map_cons, List.map_cons]; simp only [sumL]; rw [ih]; omega
/-- f 0 + .. + f (n - 1). -/
def upto (f : Nat → Nat) : Nat → Nat
  | 0 => 0
  | n + 1 => upto f n + f n
theorem upto_congr {f g : Nat → Nat} : ∀ n, (∀ i, i < n → f i = g i) → upto f n = upto g n
  | 0, _ => rfl
  | n + 1, h => by unfold upto; rw [upto_congr n (fun i hi => h i (by omega)), h n (by omega)]
theorem upto_add (f g : Nat → Nat) : ∀ n, upto (fun i => f i + g i) n = upto f n + upto g n
  | 0 => rfl
  | n + 1 => by unfold upto; rw [upto_add f g n]; omega
theorem upto_shift (f : Nat → Nat) : ∀ n, upto f (n + 1) = f 0 + upto (fun i => f (i + 1)) n
  | 0 => by simp [upto]
  | n + 1 => by
    have e : upto f (n + 1 + 1) = upto f (n + 1) + f (n + 1) := rfl
    rw [e, upto_shift f n]
    show _ = f 0 + (upto (fun i => f (i + 1)) n + f (n + 1))
    omega
theorem upto_sum {α : Type} (g : Nat → α → Nat) : ∀ (l : List α) (n : Nat), sumL (l.map fun s => upto (fun j => g j s) n) = upto (fun j => sumL (l.map (g j))) n
  | [], n => by
    induction n with
    | zero => rfl
    | succ n ih => unfold upto; rw [← ih]; rfl
  | s :: l, n => by
    simp only [List.map_cons, sumL]
    rw [upto_sum g l n, ← upto_add]
theorem sumL_mul (c : Nat) {α : Type} (f : α → Nat) : ∀ l : List α, sumL (l.map fun s => c * f s) = c * sumL (l.map f)
  | [] => rfl
  | x :: l => by simp only [List.map_cons, sumL]; rw [sumL_mul c f l, Nat.mul_add]
theorem upto_zero (f : Nat → Nat) : ∀ (n m : Nat), n ≤ m → (∀ i, n ≤ i → i < m → f i = 0) → upto f m = upto f n
  | n, 0, h, _ => by rw [show n = 0 by omega]
  | n, m + 1, h, h0 => by
    rcases Nat.lt_or_ge m n with h1 | h1
    · rw [show n = m + 1 by omega]
    · show upto f m + f m = upto f n
      rw [upto_zero f n m h1 (fun i a b => h0 i a (by omega)), h0 m h1 (by omega), Nat.add_zero]
/-- STRICT ROWS ARE CHOICES OF STEPS. -/
theorem strict_steps (p : List Int) : ∀ (k N : Nat), k + 1 ≤ N → ∀ t ∈ idealsN p, wvN (stB p true) (idealsN p) k t = upto (fun j => bin k j * wvN (opB p) (idealsN p) j t) N
  | 0, N, h, t, ht => by
    rw [upto_zero _ 1 N h (fun i h1 _ => by rw [bin_big 0 i (by omega), Nat.zero_mul])]
    show _ = 0 + bin 0 0 * wvN (opB p) (idealsN p) 0 t
    rw [bin_zero, Nat.one_mul, Nat.zero_add]
    unfold wvN; rfl
  | k + 1, N, h, t, ht => by
    conv => lhs; unfold wvN
    rw [sum_split p _ t _ (idealsN_nodup p) ht]
    obtain ⟨M, rfl⟩ : ∃ M, N = M + 1 := ⟨N - 1, by omega⟩
    have e1 : sumL (((idealsN p).filter fun s => opB p s t).map (wvN (stB p true) (idealsN p) k)) = upto (fun j => bin k j * wvN (opB p) (idealsN p) (j + 1) t) M := by
      have e2 : ((idealsN p).filter fun s => opB p s t).map (wvN (stB p true) (idealsN p) k) = ((idealsN p).filter fun s => opB p s t).map fun s => upto (fun j => bin k j * wvN (opB p) (idealsN p) j s) M :=
        List.map_congr_left fun s hs => strict_steps p k M (by omega) s (List.mem_filter.1 hs).1
      rw [e2, upto_sum]
      refine upto_congr M fun j _ => ?_
      rw [sumL_mul]
      conv => rhs; unfold wvN
    rw [e1, strict_steps p k (M + 1) (by omega) t ht, upto_shift, upto_shift]
    have e3 : upto (fun i => bin (k + 1) (i + 1) * wvN (opB p) (idealsN p) (i + 1) t) M = upto (fun i => bin k (i + 1) * wvN (opB p) (idealsN p) (i + 1) t) M + upto (fun i => bin k i * wvN (opB p) (idealsN p) (i + 1) t) M := by
      rw [← upto_add]
      refine upto_congr M fun i _ => ?_
      show (bin k i + bin k (i + 1)) * _ = _
      rw [Nat.add_mul]; omega
    rw [e3, bin_zero, bin_zero]
    omega
theorem pcard_lt {p : List Int} {s t : Nat} (ht : t < 2 ^ p.length) (h : opB p s t = true) : pcard p.length s < pcard p.length t := by
  have hs := opB_sub h
  unfold opB at h
  simp only [Bool.and_eq_true, Bool.not_eq_true', beq_eq_false_iff_ne] at h
  obtain ⟨i, hi⟩ : ∃ i, (ndiff t s).testBit i = true := by
    rcases Classical.em (∃ i, (ndiff t s).testBit i = true) with h1 | h1
    · exact h1
    · refine absurd (Nat.eq_of_testBit_eq fun i => ?_) h.2.1
      rw [Nat.zero_testBit]
      cases hb : (ndiff t s).testBit i with
      | false => rfl
      | true => exact absurd ⟨i, hb⟩ h1
  rw [ndiff_bit, Bool.and_eq_true, Bool.not_eq_true'] at hi
  unfold pcard
  exact countP_lt _ _ _ (fun x _ hx => subB_iff.1 hs x hx) i (List.mem_range.2 (lt_of_bit ht hi.1)) hi.1 hi.2
theorem op_short {p : List Int} : ∀ j t, t < 2 ^ p.length → pcard p.length t < j → wvN (opB p) (idealsN p) j t = 0
  | 0, _, _, h => absurd h (Nat.not_lt_zero _)
  | j + 1, t, ht, h => by
    unfold wvN
    have : ∀ l : List Nat, (∀ s ∈ l, wvN (opB p) (idealsN p) j s = 0) → sumL (l.map (wvN (opB p) (idealsN p) j)) = 0 := by
      intro l
      induction l with
      | nil => intro _; rfl
      | cons x l ih => intro hl; simp only [List.map_cons, sumL]; rw [hl x List.mem_cons_self, ih (fun s hs => hl s (List.mem_cons_of_mem _ hs))]
    refine this _ fun s hs => ?_
    obtain ⟨h1, h2⟩ := List.mem_filter.1 hs
    exact op_short j s (mem_idealsN.1 h1).1 (by have := pcard_lt ht h2; omega)
/-- At the set of all: by the steps alone. -/
theorem strict_all {p : List Int} (hp : PO p) (k : Nat) : wvN (stB p true) (idealsN p) k (allN p) = upto (fun j => bin k (j + 1) * wvN (opB p) (idealsN p) (j + 1) (allN p)) p.length := by
  have hall : allN p ∈ idealsN p := mem_idealsN.2 ⟨allN_lt p, idealB_all p hp⟩
  rw [strict_steps p k (k + p.length + 2) (by omega) _ hall]
  rw [show k + p.length + 2 = (k + p.length + 1) + 1 by omega, upto_shift]
  have h0 : wvN (opB p) (idealsN p) 0 (allN p) = 0 := by
    unfold wvN
    rw [if_neg]
    unfold allN
    have : 2 ^ 1 ≤ 2 ^ p.length := Nat.pow_le_pow_right (by decide) hp.pos
    omega
  rw [h0, Nat.mul_zero, Nat.zero_add]
  exact upto_zero _ p.length _ (by omega) (fun i h1 _ => by rw [op_short (i + 1) _ (allN_lt p) (by rw [pcard_all]; omega), Nat.mul_zero])
end Go.Proofs.Ytemkddgfneohhaa.Q
end

section
namespace Go.Proofs.Ytemkddgfneohhaa.Q
open Go.RowKit Go.Proofs.YtemkddgfneohhaaW.PrintWords
set_option linter.unusedVariables false
def outN (p : List Int) (t : Nat) : Nat := p.length - pcard p.length t
theorem outN_le (p : List Int) (t : Nat) : outN p t ≤ p.length := Nat.sub_le _ _
/-- How many rows of so many steps end in a set and leave out just so many elements together. -/
def wsN (p : List Int) : Nat → Nat → Nat → Nat
  | 0, s, j => if s = 0 ∧ j = 0 then 1 else 0
  | q + 1, t, j => if outN p t ≤ j then sumL (((idealsN p).filter fun s => subB s t).map fun s => wsN p q s (j - outN p t)) else 0
theorem wsN_le (p : List Int) : ∀ q s j, wsN p q s j ≤ wvN (stB p false) (idealsN p) q s
  | 0, s, j => by
    unfold wsN wvN
    by_cases h : s = 0
    · rw [if_pos h]; split <;> omega
    · rw [if_neg (fun h2 => h h2.1), if_neg h]; exact Nat.le_refl _
  | q + 1, t, j => by
    unfold wsN wvN
    split
    · have e : (idealsN p).filter (fun s => stB p false s t) = (idealsN p).filter fun s => subB s t := List.filter_congr fun s _ => by unfold stB; simp
      rw [e]
      exact sumL_map_le _ _ _ fun s _ => wsN_le p q s _
    · exact Nat.zero_le _
theorem sumL_none {α : Type} (f : α → Nat) : ∀ l : List α, (∀ x ∈ l, f x = 0) → sumL (l.map f) = 0
  | [], _ => rfl
  | x :: l, h => by simp only [List.map_cons, sumL]; rw [h x List.mem_cons_self, sumL_none f l (fun y hy => h y (List.mem_cons_of_mem _ hy))]
theorem wsN_zero (p : List Int) : ∀ q s j, p.length * q < j → wsN p q s j = 0
  | 0, s, j, h => by
    unfold wsN
    rw [if_neg (fun h2 => by omega)]
  | q + 1, t, j, h => by
    unfold wsN
    split
    · refine sumL_none _ _ fun s _ => wsN_zero p q s _ ?_
      have := outN_le p t
      rw [Nat.mul_succ] at h
      omega
    · rfl
/-- All rows of so many steps with just so many left out. -/
def wT (p : List Int) (m j : Nat) : Nat := sumL ((idealsN p).map fun s => wsN p m s j)
theorem wT_le (p : List Int) (m j : Nat) : wT p m j ≤ sumL ((idealsN p).map fun s => wvN (stB p false) (idealsN p) m s) := sumL_map_le _ _ _ fun s _ => wsN_le p m s j
theorem wT_total (p : List Int) (m : Nat) : sumL ((idealsN p).map fun s => wvN (stB p false) (idealsN p) m s) = wvN (stB p false) (idealsN p) (m + 1) (allN p) := by
  conv => rhs; unfold wvN
  have e : (idealsN p).filter (fun s => stB p false s (allN p)) = idealsN p := List.filter_eq_self.2 fun s hs => by unfold stB; rw [sub_all (mem_idealsN.1 hs).1]; rfl
  rw [e]
theorem wT_small {p : List Int} (hp : p.length ≤ 10) {m : Nat} (hm : m ≤ 13) (j : Nat) : wT p m j ≤ 576650390625 :=
  Nat.le_trans (wT_le p m j) (by rw [wT_total]; exact wvN_small hp (fun s t h => stB_sub h) (by omega))
end Go.Proofs.Ytemkddgfneohhaa.Q
end

section
namespace Go.Proofs.Ytemkddgfneohhaa.Q
open Go.RowKit Go.Proofs.YtemkddgfneohhaaW.PrintWords
set_option linter.unusedVariables false
/-- Numbers upon the elements, at most m, that grow with them. -/
structure LabN (p : List Int) (m : Nat) (f : List Nat) : Prop where
  len : f.length = p.length
  le : ∀ i, i < p.length → f.getD i 0 ≤ m
  up : ∀ i, i < p.length → ∀ j, (L p i).testBit j = true → f.getD j 0 ≤ f.getD i 0
theorem ext_nat {a b : List Nat} (hl : a.length = b.length) (h : ∀ i, i < a.length → a.getD i 0 = b.getD i 0) : a = b := by
  apply List.ext_getElem hl
  intro i h1 h2
  have := h i h1
  rw [List.getD_eq_getElem?_getD, List.getD_eq_getElem?_getD, List.getElem?_eq_getElem h1, List.getElem?_eq_getElem h2] at this
  exact this
theorem getD_tab (n : Nat) (g : Nat → Nat) {i : Nat} (h : i < n) : ((List.range n).map g).getD i 0 = g i := by
  rw [List.getD_eq_getElem?_getD, List.getElem?_map, List.getElem?_range h]; rfl
theorem getD_snoc (f : List Nat) (x i : Nat) : (f ++ [x]).getD i 0 = if i = f.length then x else f.getD i 0 := by
  rw [List.getD_eq_getElem?_getD, List.getD_eq_getElem?_getD]
  rcases Nat.lt_trichotomy i f.length with h | h | h
  · rw [List.getElem?_append_left h, if_neg (by omega)]
  · subst h; rw [List.getElem?_append_right (Nat.le_refl _), Nat.sub_self, if_pos rfl]; rfl
  · rw [List.getElem?_append_right (by omega), if_neg (by omega), List.getElem?_eq_none (by simp; omega), List.getElem?_eq_none (by omega)]
theorem getD_take (f : List Nat) {k i : Nat} (h : i < k) : (f.take k).getD i 0 = f.getD i 0 := by
  rw [List.getD_eq_getElem?_getD, List.getD_eq_getElem?_getD, List.getElem?_take, if_pos h]
/-- The most of what lies below the next element. -/
def leastN (p : List Int) (f : List Nat) (k : Nat) : Nat := (List.range k).foldl (fun a j => if (L p f.length).testBit j then max a (f.getD j 0) else a) 0
theorem leastN_le (p : List Int) (f : List Nat) (x : Nat) : ∀ k, leastN p f k ≤ x ↔ ∀ j, j < k → (L p f.length).testBit j = true → f.getD j 0 ≤ x
  | 0 => by simp [leastN]
  | k + 1 => by
    have ih := leastN_le p f x k
    have e : leastN p f (k + 1) = if (L p f.length).testBit k then max (leastN p f k) (f.getD k 0) else leastN p f k := by
      unfold leastN; rw [List.range_succ, List.foldl_append]; rfl
    rw [e]
    constructor
    · intro h j hj hb
      rcases Nat.lt_or_ge j k with h1 | h1
      · refine ih.1 ?_ j h1 hb
        split at h <;> omega
      · have hjk : j = k := by omega
        subst hjk
        rw [if_pos hb] at h; omega
    · intro h
      have h1 := ih.2 (fun j hj hb => h j (by omega) hb)
      split
      · rename_i hb
        have := h k (by omega) hb
        omega
      · exact h1
def laN (p : List Int) (m : Nat) : Nat → List Nat → List (List Nat)
  | 0, f => [f]
  | d + 1, f => (List.range' (leastN p f f.length) (m + 1 - leastN p f f.length)).flatMap fun x => laN p m d (f ++ [x])
theorem mem_range'' {a n x : Nat} : x ∈ List.range' a n ↔ a ≤ x ∧ x < a + n := by
  rw [List.mem_range'_1]
theorem mem_laN {p : List Int} (hp : PO p) (m : Nat) : ∀ d f, f.length + d = p.length → ∀ g, g ∈ laN p m d f ↔ g.length = p.length ∧ g.take f.length = f ∧ ∀ i, f.length ≤ i → i < p.length → g.getD i 0 ≤ m ∧ ∀ j, (L p i).testBit j = true → g.getD j 0 ≤ g.getD i 0 := by
  intro d
  induction d with
  | zero =>
    intro f hf g
    unfold laN
    rw [List.mem_singleton]
    constructor
    · rintro rfl
      exact ⟨by omega, List.take_length, fun i h1 h2 => by omega⟩
    · rintro ⟨h1, h2, _⟩
      rw [List.take_of_length_le (by omega)] at h2
      exact h2
  | succ d ih =>
    intro f hf g
    unfold laN
    rw [List.mem_flatMap]
    constructor
    · rintro ⟨x, hx, hg⟩
      rw [mem_range''] at hx
      obtain ⟨h1, h2, h3⟩ := (ih (f ++ [x]) (by rw [List.length_append, List.length_singleton]; omega) g).1 hg
      rw [List.length_append, List.length_singleton] at h2 h3
      have hget : ∀ j, j < f.length + 1 → g.getD j 0 = (f ++ [x]).getD j 0 := fun j hj => by rw [← h2, getD_take _ hj]
      refine ⟨h1, ?_, fun i hi1 hi2 => ?_⟩
      · have : (g.take (f.length + 1)).take f.length = f := by rw [h2, List.take_left' rfl]
        rwa [List.take_take, Nat.min_eq_left (by omega)] at this
      · rcases Nat.lt_or_ge f.length i with h4 | h4
        · exact h3 i (by omega) hi2
        · have hi : i = f.length := by omega
          subst hi
          have hgi : g.getD f.length 0 = x := by rw [hget _ (by omega), getD_snoc, if_pos rfl]
          rw [hgi]
          refine ⟨by omega, fun j hb => ?_⟩
          have hj := lt_of_bit (hp.lt f.length hi2) hb
          rw [hget j (by omega), getD_snoc, if_neg (by omega)]
          exact (leastN_le p f x f.length).1 hx.1 j hj hb
    · rintro ⟨h1, h2, h3⟩
      have hget : ∀ j, j < f.length → g.getD j 0 = f.getD j 0 := fun j hj => by rw [← getD_take g hj, h2]
      obtain ⟨h4, h5⟩ := h3 f.length (Nat.le_refl _) (by omega)
      have h6 : leastN p f f.length ≤ g.getD f.length 0 := (leastN_le p f _ f.length).2 fun j hj hb => by rw [← hget j hj]; exact h5 j hb
      refine ⟨g.getD f.length 0, mem_range''.2 ⟨h6, by omega⟩, ?_⟩
      refine (ih (f ++ [g.getD f.length 0]) (by rw [List.length_append, List.length_singleton]; omega) g).2 ⟨h1, ?_, fun i hi1 hi2 => ?_⟩
      · rw [List.length_append, List.length_singleton, List.take_add_one, h2, List.getD_eq_getElem?_getD, List.getElem?_eq_getElem (by omega)]
        rfl
      · rw [List.length_append, List.length_singleton] at hi1
        exact h3 i (by omega) hi2
theorem nodup_laN {p : List Int} (hp : PO p) (m : Nat) : ∀ d f, f.length + d = p.length → (laN p m d f).Nodup := by
  intro d
  induction d with
  | zero => intro f _; unfold laN; exact List.nodup_cons.2 ⟨by simp, List.nodup_nil⟩
  | succ d ih =>
    intro f hf
    unfold laN
    refine List.pairwise_flatMap.2 ⟨fun x _ => ih _ (by rw [List.length_append, List.length_singleton]; omega), ?_⟩
    refine List.Pairwise.imp ?_ (List.nodup_range' (s := leastN p f f.length) (n := m + 1 - leastN p f f.length))
    intro a b hab x hx y hy hxy
    subst hxy
    have e1 := ((mem_laN hp m d (f ++ [a]) (by rw [List.length_append, List.length_singleton]; omega) x).1 hx).2.1
    have e2 := ((mem_laN hp m d (f ++ [b]) (by rw [List.length_append, List.length_singleton]; omega) x).1 hy).2.1
    rw [List.length_append, List.length_singleton] at e1 e2
    rw [e1] at e2
    have := List.append_cancel_left e2
    exact hab (List.cons.inj this).1
def addOut (p : List Int) (t : Nat) (g : List Nat) : List Nat := (List.range p.length).map fun i => g.getD i 0 + if t.testBit i then 0 else 1
theorem addOut_len (p : List Int) (t : Nat) (g : List Nat) : (addOut p t g).length = p.length := by simp [addOut]
theorem addOut_get (p : List Int) (t : Nat) (g : List Nat) {i : Nat} (h : i < p.length) : (addOut p t g).getD i 0 = g.getD i 0 + if t.testBit i then 0 else 1 := getD_tab _ _ h
theorem addOut_inj {p : List Int} {t : Nat} {g g' : List Nat} (h1 : g.length = p.length) (h2 : g'.length = p.length) (h : addOut p t g = addOut p t g') : g = g' := by
  refine ext_nat (by omega) (fun i hi => ?_)
  have e1 := addOut_get p t g (i := i) (by omega)
  have e2 := addOut_get p t g' (i := i) (by omega)
  rw [h, e2] at e1
  omega
def labL (p : List Int) : Nat → Nat → List (List Nat)
  | 0, t => if t = 0 then [List.replicate p.length 0] else []
  | q + 1, t => ((idealsN p).filter fun s => subB s t).flatMap fun s => (labL p q s).map (addOut p t)
theorem rep_get (n i : Nat) : (List.replicate n 0).getD i 0 = 0 := by
  rw [List.getD_eq_getElem?_getD, List.getElem?_replicate]; split <;> rfl
theorem mem_labL {p : List Int} (hp : PO p) : ∀ q t, t ∈ idealsN p → ∀ f, f ∈ labL p q t ↔ LabN p q f ∧ ∀ i, i < p.length → t.testBit i = decide (f.getD i 0 < q) := by
  intro q
  induction q with
  | zero =>
    intro t ht f
    have htl := (mem_idealsN.1 ht).1
    unfold labL
    constructor
    · intro h
      by_cases h0 : t = 0
      · rw [if_pos h0, List.mem_singleton] at h
        subst h
        refine ⟨⟨by simp, fun i _ => by rw [rep_get]; exact Nat.le_refl _, fun i _ j _ => by rw [rep_get, rep_get]; exact Nat.le_refl _⟩, fun i _ => ?_⟩
        rw [h0, rep_get, Nat.zero_testBit]; rfl
      · rw [if_neg h0] at h; cases h
    · rintro ⟨hf, hb⟩
      have h0 : t = 0 := ext_bits htl (Nat.two_pow_pos _) fun i hi => by rw [hb i hi, Nat.zero_testBit]; simp
      rw [if_pos h0, List.mem_singleton]
      refine ext_nat (by rw [hf.len]; simp) fun i hi => ?_
      have := hf.le i (by have := hf.len; omega)
      rw [rep_get]; omega
  | succ q ih =>
    intro t ht f
    obtain ⟨htl, hti⟩ := mem_idealsN.1 ht
    unfold labL
    rw [List.mem_flatMap]
    constructor
    · rintro ⟨s, hs, hf⟩
      obtain ⟨hs1, hs2⟩ := List.mem_filter.1 hs
      obtain ⟨g, hg, rfl⟩ := List.mem_map.1 hf
      obtain ⟨hg1, hg2⟩ := (ih s hs1 g).1 hg
      have hst := subB_iff.1 hs2
      have hv : ∀ i, i < p.length → t.testBit i = false → g.getD i 0 = q := fun i hi hb => by
        have h1 := hg1.le i hi
        have h2 := hg2 i hi
        cases h3 : s.testBit i with
        | true => rw [hst i h3] at hb; cases hb
        | false => rw [h3] at h2; have := of_decide_eq_false h2.symm; omega
      refine ⟨⟨addOut_len _ _ _, fun i hi => ?_, fun i hi j hb => ?_⟩, fun i hi => ?_⟩
      · rw [addOut_get _ _ _ hi]
        have := hg1.le i hi
        split <;> omega
      · have hj : j < p.length := Nat.lt_trans (lt_of_bit (hp.lt i hi) hb) hi
        rw [addOut_get _ _ _ hi, addOut_get _ _ _ hj]
        have h1 := hg1.up i hi j hb
        cases h2 : t.testBit i with
        | true =>
          rw [idealB_iff.1 hti i hi h2 j hb]
          exact Nat.add_le_add_right h1 _
        | false =>
          have h3 := hv i hi h2
          have h4 := hg1.le j hj
          show g.getD j 0 + (if t.testBit j = true then 0 else 1) ≤ g.getD i 0 + 1
          split <;> omega
      · rw [addOut_get _ _ _ hi]
        cases h2 : t.testBit i with
        | true => have := hg1.le i hi; rw [if_pos rfl]; exact (decide_eq_true (by omega)).symm
        | false => have := hv i hi h2; rw [if_neg (by simp)]; exact (decide_eq_false (by omega)).symm
    · rintro ⟨hf, hb⟩
      obtain ⟨s, hs⟩ : ∃ s, s = maskOf p.length (fun i => decide (f.getD i 0 < q)) := ⟨_, rfl⟩
      have hsl : s < 2 ^ p.length := by rw [hs]; exact maskOf_lt _ _
      have hsb : ∀ i, s.testBit i = (decide (i < p.length) && decide (f.getD i 0 < q)) := fun i => by rw [hs, maskOf_bit]
      have hsi : idealB p s = true := idealB_iff.2 fun i hi h j hj => by
        rw [hsb, Bool.and_eq_true, decide_eq_true_eq, decide_eq_true_eq] at h ⊢
        have := hf.up i hi j hj
        exact ⟨Nat.lt_trans (lt_of_bit (hp.lt i hi) hj) hi, by omega⟩
      have hst : subB s t = true := subB_iff.2 fun i h => by
        rw [hsb, Bool.and_eq_true, decide_eq_true_eq, decide_eq_true_eq] at h
        rw [hb i h.1]; exact decide_eq_true (by omega)
      have hs1 : s ∈ idealsN p := mem_idealsN.2 ⟨hsl, hsi⟩
      obtain ⟨g, hg⟩ : ∃ g, g = (List.range p.length).map (fun i => min (f.getD i 0) q) := ⟨_, rfl⟩
      have hgg : ∀ i, i < p.length → g.getD i 0 = min (f.getD i 0) q := fun i hi => by rw [hg, getD_tab _ _ hi]
      refine ⟨s, List.mem_filter.2 ⟨hs1, hst⟩, List.mem_map.2 ⟨g, (ih s hs1 g).2 ⟨⟨by rw [hg]; simp, fun i hi => by rw [hgg i hi]; omega, fun i hi j hj => ?_⟩, fun i hi => ?_⟩, ?_⟩⟩
      · rw [hgg i hi, hgg j (Nat.lt_trans (lt_of_bit (hp.lt i hi) hj) hi)]
        have := hf.up i hi j hj
        omega
      · rw [hsb, hgg i hi, decide_eq_true hi, Bool.true_and]
        by_cases h : f.getD i 0 < q
        · rw [decide_eq_true h, decide_eq_true (by omega)]
        · rw [decide_eq_false h, decide_eq_false (by omega)]
      · refine ext_nat (by rw [addOut_len, hf.len]) fun i hi => ?_
        rw [addOut_len] at hi
        rw [addOut_get _ _ _ hi, hgg i hi, hb i hi]
        have := hf.le i hi
        by_cases h : f.getD i 0 < q + 1
        · rw [decide_eq_true h, if_pos rfl]; omega
        · rw [decide_eq_false h, if_neg (by simp)]; omega
theorem nodup_of_ids {p : List Int} {P : Nat → Bool} : ((idealsN p).filter P).Nodup := List.Pairwise.filter _ (idealsN_nodup p)
theorem nodup_map_inj {α β : Type} {f : α → β} {l : List α} (hl : l.Nodup) (h : ∀ a ∈ l, ∀ b ∈ l, f a = f b → a = b) : (l.map f).Nodup := by
  refine List.pairwise_map.2 (List.Pairwise.imp_of_mem ?_ hl)
  intro a b ha hb hab e
  exact hab (h a ha b hb e)
theorem bits_eq_of {p : List Int} {s s' : Nat} (h1 : s < 2 ^ p.length) (h2 : s' < 2 ^ p.length) {q : Nat} {g : List Nat} (e1 : ∀ i, i < p.length → s.testBit i = decide (g.getD i 0 < q)) (e2 : ∀ i, i < p.length → s'.testBit i = decide (g.getD i 0 < q)) : s = s' :=
  ext_bits h1 h2 fun i hi => by rw [e1 i hi, e2 i hi]
theorem nodup_labL {p : List Int} (hp : PO p) : ∀ q t, t ∈ idealsN p → (labL p q t).Nodup := by
  intro q
  induction q with
  | zero => intro t _; unfold labL; split; exact List.nodup_cons.2 ⟨by simp, List.nodup_nil⟩; exact List.nodup_nil
  | succ q ih =>
    intro t ht
    unfold labL
    refine List.pairwise_flatMap.2 ⟨fun s hs => ?_, ?_⟩
    · have hs1 := (List.mem_filter.1 hs).1
      exact nodup_map_inj (ih s hs1) fun a ha b hb e => addOut_inj ((mem_labL hp q s hs1 a).1 ha).1.len ((mem_labL hp q s hs1 b).1 hb).1.len e
    · refine List.Pairwise.imp_of_mem ?_ (nodup_of_ids (p := p) (P := fun s => subB s t))
      intro s s' hs hs' hne x hx y hy hxy
      subst hxy
      have hs1 := (List.mem_filter.1 hs).1
      have hs2 := (List.mem_filter.1 hs').1
      obtain ⟨g, hg, e1⟩ := List.mem_map.1 hx
      obtain ⟨g', hg', e2⟩ := List.mem_map.1 hy
      have k1 := (mem_labL hp q s hs1 g).1 hg
      have k2 := (mem_labL hp q s' hs2 g').1 hg'
      have := addOut_inj k1.1.len k2.1.len (e1.trans e2.symm)
      subst this
      exact hne (bits_eq_of (mem_idealsN.1 hs1).1 (mem_idealsN.1 hs2).1 k1.2 k2.2)
/-- All labels by chains. -/
def chL (p : List Int) (m : Nat) : List (List Nat) := (idealsN p).flatMap (labL p m)
theorem mem_chL {p : List Int} (hp : PO p) (m : Nat) (f : List Nat) : f ∈ chL p m ↔ LabN p m f := by
  unfold chL
  rw [List.mem_flatMap]
  constructor
  · rintro ⟨s, hs, hf⟩; exact ((mem_labL hp m s hs f).1 hf).1
  · intro hf
    obtain ⟨s, hs⟩ : ∃ s, s = maskOf p.length (fun i => decide (f.getD i 0 < m)) := ⟨_, rfl⟩
    have hsb : ∀ i, s.testBit i = (decide (i < p.length) && decide (f.getD i 0 < m)) := fun i => by rw [hs, maskOf_bit]
    have hs1 : s ∈ idealsN p := mem_idealsN.2 ⟨by rw [hs]; exact maskOf_lt _ _, idealB_iff.2 fun i hi h j hj => by
      rw [hsb, Bool.and_eq_true, decide_eq_true_eq, decide_eq_true_eq] at h ⊢
      have := hf.up i hi j hj
      exact ⟨Nat.lt_trans (lt_of_bit (hp.lt i hi) hj) hi, by omega⟩⟩
    exact ⟨s, hs1, (mem_labL hp m s hs1 f).2 ⟨hf, fun i hi => by rw [hsb, decide_eq_true hi, Bool.true_and]⟩⟩
theorem nodup_chL {p : List Int} (hp : PO p) (m : Nat) : (chL p m).Nodup := by
  unfold chL
  refine List.pairwise_flatMap.2 ⟨fun s hs => nodup_labL hp m s hs, ?_⟩
  refine List.Pairwise.imp_of_mem ?_ (idealsN_nodup p)
  intro s s' hs hs' hne x hx y hy hxy
  subst hxy
  exact hne (bits_eq_of (mem_idealsN.1 hs).1 (mem_idealsN.1 hs').1 ((mem_labL hp m s hs x).1 hx).2 ((mem_labL hp m s' hs' x).1 hy).2)
def labsN (p : List Int) (m : Nat) : List (List Nat) := laN p m p.length []
theorem mem_labsN {p : List Int} (hp : PO p) (m : Nat) (f : List Nat) : f ∈ labsN p m ↔ LabN p m f := by
  unfold labsN
  rw [mem_laN hp m p.length [] (by simp) f]
  constructor
  · rintro ⟨h1, _, h3⟩; exact ⟨h1, fun i hi => (h3 i (Nat.zero_le _) hi).1, fun i hi => (h3 i (Nat.zero_le _) hi).2⟩
  · intro h; exact ⟨h.len, rfl, fun i _ hi => ⟨h.le i hi, h.up i hi⟩⟩
theorem labs_perm {p : List Int} (hp : PO p) (m : Nat) : List.Perm (labsN p m) (chL p m) :=
  (List.perm_ext_iff_of_nodup (nodup_laN hp m p.length [] (by simp)) (nodup_chL hp m)).2 fun f => (mem_labsN hp m f).trans (mem_chL hp m f).symm
theorem sumL_sum (l : List Nat) : sumL l = l.sum := by
  induction l with
  | nil => rfl
  | cons x l ih => simp only [sumL, List.sum_cons, ih]
theorem labL_len {p : List Int} : ∀ q t, (labL p q t).length = wvN (stB p false) (idealsN p) q t
  | 0, t => by unfold labL wvN; split <;> rfl
  | q + 1, t => by
    unfold labL wvN
    have e : (idealsN p).filter (fun s => stB p false s t) = (idealsN p).filter fun s => subB s t := List.filter_congr fun s _ => by unfold stB; simp
    rw [e, List.length_flatMap, sumL_sum]
    congr 1
    refine List.map_congr_left fun s _ => ?_
    rw [List.length_map, labL_len q s]
theorem labs_count {p : List Int} (hp : PO p) (m : Nat) : (labsN p m).length = wvN (stB p false) (idealsN p) (m + 1) (allN p) := by
  rw [(labs_perm hp m).length_eq, ← wT_total, sumL_sum]
  unfold chL
  rw [List.length_flatMap]
  congr 1
  exact List.map_congr_left fun s _ => labL_len m s
theorem sum_tab (g : Nat → Nat) (t : Nat) : ∀ k, ((List.range k).map fun i => g i + if t.testBit i then 0 else 1).sum + pcard k t = ((List.range k).map g).sum + k
  | 0 => by rw [show pcard 0 t = 0 from rfl]; rfl
  | k + 1 => by
    have := sum_tab g t k
    rw [List.range_succ, List.map_append, List.map_append, List.sum_append, List.sum_append, pcard_succ]
    simp only [List.map_cons, List.map_nil, List.sum_cons, List.sum_nil]
    split <;> omega
theorem tab_self {n : Nat} {g : List Nat} (h : g.length = n) : (List.range n).map (fun i => g.getD i 0) = g :=
  ext_nat (by simp [h]) fun i hi => getD_tab n _ (by simpa using hi)
theorem addOut_sum {p : List Int} {t : Nat} {g : List Nat} (h : g.length = p.length) : (addOut p t g).sum = g.sum + outN p t := by
  have h1 := sum_tab (fun i => g.getD i 0) t p.length
  rw [tab_self h] at h1
  have h2 := pcard_le p.length t
  unfold addOut outN
  omega
theorem labL_sum {p : List Int} (hp : PO p) : ∀ q t j, t ∈ idealsN p → (labL p q t).countP (fun f => decide (f.sum = j)) = wsN p q t j
  | 0, t, j, _ => by
    unfold labL wsN
    by_cases h : t = 0
    · rw [if_pos h]
      by_cases hj : j = 0
      · rw [if_pos ⟨h, hj⟩, hj]; simp
      · rw [if_neg (fun g => hj g.2)]; simp; omega
    · rw [if_neg h, if_neg (fun g => h g.1)]; rfl
  | q + 1, t, j, ht => by
    unfold labL wsN
    rw [List.countP_flatMap]
    have e : ∀ s ∈ (idealsN p).filter (fun s => subB s t), (List.countP (fun f => decide (f.sum = j)) ∘ fun s => (labL p q s).map (addOut p t)) s = if outN p t ≤ j then wsN p q s (j - outN p t) else 0 := fun s hs => by
      have hs1 := (List.mem_filter.1 hs).1
      show List.countP (fun f => decide (f.sum = j)) ((labL p q s).map (addOut p t)) = _
      rw [List.countP_map]
      have hlen : ∀ g ∈ labL p q s, g.length = p.length := fun g hg => ((mem_labL hp q s hs1 g).1 hg).1.len
      by_cases h : outN p t ≤ j
      · rw [if_pos h, ← labL_sum hp q s (j - outN p t) hs1]
        refine List.countP_congr fun g hg => ?_
        show decide ((addOut p t g).sum = j) = true ↔ _
        rw [addOut_sum (hlen g hg), decide_eq_true_eq, decide_eq_true_eq]
        omega
      · rw [if_neg h, List.countP_eq_zero]
        intro g hg
        show ¬ decide ((addOut p t g).sum = j) = true
        rw [addOut_sum (hlen g hg), decide_eq_true_eq]
        omega
    rw [List.map_congr_left e]
    by_cases h : outN p t ≤ j
    · rw [if_pos h, sumL_sum]
      congr 1
      exact List.map_congr_left fun s _ => if_pos h
    · rw [if_neg h, ← sumL_sum]
      exact sumL_none _ _ fun s _ => if_neg h
theorem labs_sum {p : List Int} (hp : PO p) (m j : Nat) : (labsN p m).countP (fun f => decide (f.sum = j)) = wT p m j := by
  rw [List.Perm.countP_eq _ (labs_perm hp m)]
  unfold chL wT
  rw [List.countP_flatMap, sumL_sum]
  congr 1
  exact List.map_congr_left fun s hs => labL_sum hp m s j hs
end Go.Proofs.Ytemkddgfneohhaa.Q
end

section
namespace Go.Proofs.Ytemkddgfneohhaa.Q
open Go.RowKit Go.Proofs.YtemkddgfneohhaaW.PrintWords Go.Proofs.Ytemkddgfneohhaa.F
set_option linter.unusedVariables false
theorem l1MostN (a b : Nat) : spec_l1Most.f (a : Int) (b : Int) = some ((max a b : Nat) : Int) := by
  unfold spec_l1Most.f
  split
  · congr 1; omega
  · congr 1; omega
theorem l1OwnN {l : List Int} (h : l.length ≤ 1000) : spec_l1Own.f l = some l := by
  unfold spec_l1Own.f
  rw [Option.bind_some, if_pos (by simp; omega), List.nil_append]
theorem laN_ne {p : List Int} (hp : PO p) (m : Nat) : ∀ d f, f.length + d = p.length → (∀ i, i < f.length → f.getD i 0 ≤ m) → 0 < (laN p m d f).length
  | 0, f, _, _ => by unfold laN; exact Nat.one_pos
  | d + 1, f, hf, hm => by
    have h1 : leastN p f f.length ≤ m := (leastN_le p f m f.length).2 fun j hj _ => hm j hj
    have h2 := laN_ne hp m d (f ++ [leastN p f f.length]) (by rw [List.length_append, List.length_singleton]; omega) (fun i hi => by
      rw [getD_snoc]
      rw [List.length_append, List.length_singleton] at hi
      split
      · exact h1
      · exact hm i (by omega))
    obtain ⟨g, hg⟩ := List.exists_mem_of_length_pos h2
    have : g ∈ laN p m (d + 1) f := by
      unfold laN
      exact List.mem_flatMap.2 ⟨leastN p f f.length, mem_range''.2 ⟨Nat.le_refl _, by omega⟩, hg⟩
    exact List.length_pos_of_mem this
theorem leastN_step (p : List Int) (f : List Nat) (k : Nat) : leastN p f (k + 1) = if (L p f.length).testBit k then max (leastN p f k) (f.getD k 0) else leastN p f k := by
  unfold leastN; rw [List.range_succ, List.foldl_append]; rfl
theorem range'_succ'' (x e : Nat) : List.range' x (e + 1) = x :: List.range' (x + 1) e := rfl
theorem laAll_ev {p : List Int} (hp : PO p) {m : Nat} (hm : m ≤ 12) : ∀ d f, f.length + d = p.length → (∀ i, i < f.length → f.getD i 0 ≤ m) → ∀ most : Nat, most ≤ 100000 → (laN p m d f).length ≤ most → Ev (fun k => spec_laAll.f k p (ints f) (m : Int) (most : Int)) ((laN p m d f).map ints) := by
  have hn := hp.small
  intro d
  induction d with
  | zero =>
    intro f hf _ most _ _
    refine Ev.step (by intro k; simp only [spec_laAll.f]; rfl) ?_
    rw [ints_len]
    refine Ev.yes (by omega) (Ev.call (l1OwnN (by rw [ints_len]; omega)) (Ev.ret ?_))
    unfold laN; rfl
  | succ d ih =>
    intro f hf hfm most hmost hlen
    refine Ev.step (by intro k; simp only [spec_laAll.f]; rfl) ?_
    rw [ints_len]
    refine Ev.no (by omega) ?_
    have hi : f.length < p.length := by omega
    have hL : L p f.length < 2 ^ 62 := lt_pow (hp.lt _ hi) (by omega)
    -- the numbers to be tried
    have inner : ∀ (e x : Nat) (out : List (List Nat)), x + e = m + 1 → out.length + ((List.range' x e).flatMap fun x => laN p m d (f ++ [x])).length ≤ most →
        Ev (fun k => spec_laAll.l1 k (ints f) (m : Int) (most : Int) (out.map ints) (x : Int) p) (((out ++ (List.range' x e).flatMap fun x => laN p m d (f ++ [x]))).map ints) := by
      intro e
      induction e with
      | zero =>
        intro x out hx _
        refine Ev.step (by intro k; simp only [spec_laAll.l1]; rfl) (Ev.no (by omega) ?_)
        refine Ev.step (by intro k; simp only [spec_laAll.j2]; rfl) (Ev.no (by simp) (Ev.ret ?_))
        rw [show List.range' x 0 = [] from rfl, List.flatMap_nil, List.append_nil]
      | succ e ihe =>
        intro x out hx hl
        rw [range'_succ'', List.flatMap_cons, List.length_append] at hl
        have hxm : ∀ i, i < (f ++ [x]).length → (f ++ [x]).getD i 0 ≤ m := fun i hi2 => by
          rw [List.length_append, List.length_singleton] at hi2
          rw [getD_snoc]
          split
          · omega
          · exact hfm i (by omega)
        have hlx : (f ++ [x]).length + d = p.length := by rw [List.length_append, List.length_singleton]; omega
        have hne := laN_ne hp m d (f ++ [x]) hlx hxm
        refine Ev.step (by intro k; simp only [spec_laAll.l1]; rfl) (Ev.yes (by omega) ?_)
        rw [List.length_map, decide_eq_true (show (out.length : Int) < (most : Int) by omega)]
        refine Ev.step (by intro k; simp only [spec_laAll.j2]; rfl) (Ev.yes (show true = true from rfl) ?_)
        refine Ev.call (l1OwnN (by rw [ints_len]; omega)) (Ev.call rfl (Ev.yes (by rw [ints_len]; simp; omega) ?_))
        rw [List.length_map, show wrap64 ((most : Int) - (out.length : Int)) = ((most - out.length : Nat) : Int) by rw [wid (by omega) (by omega)]; omega]
        have hcall := ih (f ++ [x]) hlx hxm (most - out.length) (by omega) (by omega)
        rw [show ints f ++ [(x : Int)] = ints (f ++ [x]) by rw [ints_app]; rfl]
        refine Ev.bind hcall (Ev.yes (by rw [List.length_map]; omega) ?_)
        have hnext := ihe (x + 1) (out ++ laN p m d (f ++ [x])) (by omega) (by rw [List.length_append]; omega)
        rw [show wrap64 ((x : Int) + 1) = ((x + 1 : Nat) : Int) by rw [wid (by omega) (by omega)]; omega, ← List.map_append]
        rw [range'_succ'', List.flatMap_cons, ← List.append_assoc]
        exact hnext
    have h1 : leastN p f f.length ≤ m := (leastN_le p f m f.length).2 fun j hj _ => hfm j hj
    have hstart := inner (m + 1 - leastN p f f.length) (leastN p f f.length) [] (by omega) (by
      have e : laN p m (d + 1) f = (List.range' (leastN p f f.length) (m + 1 - leastN p f f.length)).flatMap fun x => laN p m d (f ++ [x]) := rfl
      rw [e] at hlen
      simpa using hlen)
    -- the least number
    have least : ∀ j, j ≤ f.length → Ev (fun k => spec_laAll.l0 k (ints f) (m : Int) (most : Int) (f.length : Int) ((leastN p f j : Nat) : Int) (j : Int) p) ((laN p m (d + 1) f).map ints) := by
      refine downTo _ ?_ ?_
      · refine Ev.step (by intro k; simp only [spec_laAll.l0]; rfl) (Ev.no (by omega) ?_)
        exact hstart
      · intro j hj ihj
        rw [leastN_step] at ihj
        refine Ev.step (by intro k; simp only [spec_laAll.l0]; rfl) (Ev.yes (by omega) (Ev.yes (by omega) (Ev.yes (by omega) ?_)))
        rw [rdN, hp.val _ hi, wid1 hj (by omega)]
        refine Ev.call (poIn_eq (by omega)) (Ev.ite (fun hb => Ev.yes (by omega) (Ev.yes (by rw [ints_len]; omega) ?_)) (fun hb => ?_))
        · rw [rd_ints]
          refine Ev.call (l1MostN _ _) ?_
          rw [if_pos hb] at ihj
          exact ihj
        · rw [if_neg hb] at ihj
          exact ihj
    exact least 0 (Nat.zero_le _)
theorem labs_ev {p : List Int} (hp : PO p) {m : Nat} (hm : m ≤ 12) {most : Nat} (h1 : most ≤ 100000) (h2 : (labsN p m).length ≤ most) : Ev (fun k => spec_laAll.f k p [] (m : Int) (most : Int)) ((labsN p m).map ints) :=
  laAll_ev hp hm p.length [] (by simp) (fun i hi => by cases hi) most h1 h2
theorem laSum_ev {f : List Nat} (hl : f.length ≤ 100) (hv : ∀ x ∈ f, x ≤ 1000) : Ev (fun k => spec_laSum.f k (ints f)) ((f.sum : Nat) : Int) := by
  unfold spec_laSum.f
  rw [ints_len]
  have hb : ∀ l : List Nat, (∀ x ∈ l, x ≤ 1000) → l.sum ≤ l.length * 1000 := by
    intro l
    induction l with
    | nil => intro _; simp
    | cons x l ih => intro h; have := ih (fun y hy => h y (List.mem_cons_of_mem _ hy)); have := h x List.mem_cons_self; rw [List.sum_cons, List.length_cons]; omega
  have key : ∀ i, i ≤ f.length → Ev (fun k => spec_laSum.l0 k (((f.take i).sum : Nat) : Int) (ints f) (f.length : Int) (i : Int)) ((f.sum : Nat) : Int) := by
    refine downTo _ ?_ ?_
    · refine Ev.step (by intro k; simp only [spec_laSum.l0]; rfl) (Ev.no (by omega) (Ev.ret ?_))
      rw [List.take_length]
    · intro i hi ih
      refine Ev.step (by intro k; simp only [spec_laSum.l0]; rfl) (Ev.yes (by omega) (Ev.yes (by omega) (Ev.yes (by rw [ints_len]; omega) ?_)))
      rw [rd_ints, wid1 hi (by omega)]
      have e : (f.take (i + 1)).sum = (f.take i).sum + f.getD i 0 := by
        rw [List.take_add_one, List.sum_append, List.getD_eq_getElem?_getD, List.getElem?_eq_getElem hi]; simp
      have h1 := hb (f.take (i + 1)) (fun x hx => hv x (List.mem_of_mem_take hx))
      have h2 : (f.take (i + 1)).length ≤ 100 := by rw [List.length_take]; omega
      have h3 : (f.take (i + 1)).length * 1000 ≤ 100 * 1000 := Nat.mul_le_mul_right _ h2
      rw [wid (by omega) (by omega), show (((f.take i).sum : Nat) : Int) + ((f.getD i 0 : Nat) : Int) = (((f.take (i + 1)).sum : Nat) : Int) by omega]
      exact ih
  exact key 0 (Nat.zero_le _)
end Go.Proofs.Ytemkddgfneohhaa.Q
end

section
namespace Go.Proofs.Ytemkddgfneohhaa.Q
open Go.RowKit Go.Proofs.YtemkddgfneohhaaW.PrintWords Go.Proofs.Ytemkddgfneohhaa.F
set_option linter.unusedVariables false
theorem within_eq (a b c : Int) : impl_within.f a b c = some (decide (b ≤ a) && decide (a ≤ c)) := by
  unfold impl_within.f
  by_cases h : b ≤ a
  · rw [if_pos h]; simp [h]
  · rw [if_neg h]; simp [h]
end Go.Proofs.Ytemkddgfneohhaa.Q
end

section
namespace Go.Proofs.Ytemkddgfneohhaa.Q
open Go.RowKit Go.Proofs.YtemkddgfneohhaaW.PrintWords Go.Proofs.Ytemkddgfneohhaa.F
set_option linter.unusedVariables false
theorem isBound_eq (m : Int) : impl_isBound.f m = some (decide (0 ≤ m) && decide (m ≤ 12)) := by
  unfold impl_isBound.f
  rw [within_eq]; rfl
theorem laBound_eq (m : Int) : spec_laBound.f m = some (decide (0 ≤ m) && decide (m ≤ 12)) := by
  unfold spec_laBound.f
  rw [l1In_eq]; rfl
end Go.Proofs.Ytemkddgfneohhaa.Q
end

section
namespace Go.Proofs.Ytemkddgfneohhaa.Q
open Go.RowKit Go.Proofs.YtemkddgfneohhaaW.PrintWords Go.Proofs.Ytemkddgfneohhaa.F
set_option linter.unusedVariables false
theorem IsPoset_ev (p : List Int) : Ev (fun k => impl_IsPoset.f k p) (isPo p) := by
  unfold impl_IsPoset.f
  refine Ev.call (show impl_Poset_n.f p = some (p.length : Int) from rfl) (Ev.call (within_eq _ _ _) ?_)
  unfold isPo
  rw [sizes_eq]
  cases hs : (decide (1 ≤ p.length) && decide (p.length ≤ 10)) with
  | false => exact Ev.no (by simp) (Ev.ret rfl)
  | true =>
  refine Ev.yes rfl ?_
  rw [Bool.and_eq_true, decide_eq_true_eq, decide_eq_true_eq] at hs
  obtain ⟨h1, h2⟩ := hs
  have key : ∀ i, i ≤ p.length → Ev (fun k => impl_IsPoset.l0 k p (p.length : Int) (i : Int) p) (allFrom (rowOk p) p.length i) := by
    refine downTo p.length ?_ ?_
    · refine Ev.step (by intro k; simp only [impl_IsPoset.l0]; rfl) ?_
      exact Ev.no (by omega) (Ev.ret (allFrom_end _ _).symm)
    · intro i hi ih
      refine Ev.step (by intro k; simp only [impl_IsPoset.l0]; rfl) ?_
      refine Ev.yes (by omega) (Ev.yes (by omega) (Ev.yes (by omega) ?_))
      rw [rdN, mask_eq (by omega)]
      refine Ev.call (within_eq _ _ _) ?_
      rw [allFrom_step _ hi]
      by_cases hb : 0 ≤ p.getD i 0 ∧ p.getD i 0 ≤ 2 ^ i - 1
      rotate_left
      · exact Ev.no (by rw [range_false hb]; simp) (Ev.ret (by rw [rowOk_false hb]; rfl))
      refine Ev.yes (range_true hb) ?_
      have hv : p.getD i 0 = (L p i : Int) := by unfold L; omega
      have hm : L p i < 2 ^ i := by
        have := hb.2
        rw [hv, pow_int] at this
        have hp : 0 < 2 ^ i := Nat.two_pow_pos i
        generalize 2 ^ i = z at *
        omega
      rw [rowOk_true hb, ← items_all hm (by omega) (fun j => decide (Go.bits .andNot .i64 (p.getD j 0) (p.getD i 0) = 0)), hv]
      refine Ev.bind (items_ev _ (lt_pow hm (by omega))) ?_
      have inner : ∀ j, j ≤ (itemsN (L p i)).length → Ev (fun k => impl_IsPoset.l1 k (L p i : Int) p (p.length : Int) (i : Int) (ints (itemsN (L p i))) ((ints (itemsN (L p i))).length : Int) (j : Int) p)
          (((itemsN (L p i)).drop j).all (fun j => decide (Go.bits .andNot .i64 (p.getD j 0) (L p i : Int) = 0)) && allFrom (rowOk p) p.length (i + 1)) := by
        rw [ints_len]
        refine downTo _ ?_ ?_
        · refine Ev.step (by intro k; simp only [impl_IsPoset.l1]; rfl) ?_
          refine Ev.no (by omega) ?_
          rw [wid1 hi (by omega), List.drop_length, List.all_nil, Bool.true_and]
          exact ih
        · intro j hj ihj
          have hlt := items_lt hm hj
          have hl := itemsN_len (L p i)
          refine Ev.step (by intro k; simp only [impl_IsPoset.l1]; rfl) ?_
          refine Ev.yes (by omega) (Ev.yes (by omega) (Ev.yes (by rw [ints_len]; omega) ?_))
          rw [rd_ints, all_drop_step _ _ 0 hj, wid1 hj (by omega), rdN]
          refine Ev.yes (by omega) (Ev.yes (by omega) ?_)
          refine Ev.ite (fun h => evc ihj ?_) (fun h => Ev.ret ?_)
          · rw [decide_eq_true h]; simp
          · rw [decide_eq_false h]; simp
      exact inner 0 (by omega)
  exact key 0 (by omega)
end Go.Proofs.Ytemkddgfneohhaa.Q
end

section
namespace Go.Proofs.Ytemkddgfneohhaa.F
open Go.RowKit Go.Proofs.YtemkddgfneohhaaW.PrintWords Go.Proofs.YtemkddgfneohhaaW.PrintLast Go.Proofs.YtemkddgfneohhaaW.PrintMore
set_option linter.unusedVariables false
set_option linter.unusedSimpArgs false
def impl_Poset_ideals.f (k : Nat) (l0_0 : List Int) : Option (List Int) := sets_ideals.f (fun x => lit_ideals.f k x l0_0) k l0_0
theorem ideals_mono_l {F F' : Int → Option Bool} (hF : ∀ x, LeO (F x) (F' x)) : ∀ k y0 y1 y2, LeO (sets_ideals.l0 F k y0 y1 y2) (sets_ideals.l0 F' k y0 y1 y2)
  | 0, _, _, _ => fun r h => by simp [sets_ideals.l0] at h
  | k + 1, y0, y1, y2 => by
    unfold sets_ideals.l0
    exact LeO.ite (LeO.bind (hF _) (fun _ => LeO.ite (LeO.ite (ideals_mono_l hF k _ _ _) (LeO.none _)) (ideals_mono_l hF k _ _ _))) (LeO.refl _)
theorem impl_Poset_ideals.mono : ∀ a0 k, LeO (impl_Poset_ideals.f k a0) (impl_Poset_ideals.f (k + 1) a0) := fun a0 k r h => by
  unfold impl_Poset_ideals.f at h ⊢
  refine sets_ideals.mono _ _ _ r ?_
  unfold sets_ideals.f at h ⊢
  exact LeO.bind (LeO.refl _) (fun _ => ideals_mono_l (fun x => lit_ideals.mono x a0 k) k _ _ _) r h
set_option maxHeartbeats 8000000 in
set_option maxRecDepth 100000 in
theorem impl_Poset_ideals.calls (k : Nat) (A0_0 : Option Addr) (c0_0 : Nat) (l0_0 : List Int) (r : List Int) (w : World) (hr0_0 : Kd.C (Kd.int .i64) w A0_0 l0_0.length l0_0) (hc0_0 : l0_0.length ≤ c0_0) (h : impl_Poset_ideals.f k l0_0 = some r) :
    Calls Try.prog 67 #[.agg #[.slice A0_0 l0_0.length c0_0]] w fun e w' => ∃ v0_ : Value, e = .returned (v0_) ∧ Kd.R (Kd.int .i64) 3 w' w.heap.size (fun _ => True) v0_ r ∧ Below w.heap.size w w' := by
  unfold impl_Poset_ideals.f at h
  have hmf : ∀ (fn : Fn) (first cap : Array Value) (w : World), (Instr.makeFunc fn first cap).run Try.prog w = .ok (.func fn first cap) w := fun _ _ _ _ => rfl
  have hu39 := Try.underlying30
  obtain ⟨W, hW⟩ : ∃ W, W = (w.alloc (.cells #[.slice A0_0 l0_0.length c0_0] 30 (0, 0))) := ⟨_, rfl⟩
  have hsz : W.heap.size = w.heap.size + 1 := by rw [hW]; simp
  have hcB : W.cell? ⟨w.heap.size, 0, none⟩ = some (.slice A0_0 l0_0.length c0_0) := by rw [hW, World.cell?_alloc_at _ _ _ _ rfl]; rfl
  have hbW : Below w.heap.size w W := by rw [hW]; exact (Below.refl _ _).alloc (Nat.le_refl _) _
  have hrW : Kd.C (Kd.int .i64) W A0_0 l0_0.length l0_0 := Kd.C_below hr0_0 hbW
  have HF : Aside0 (∀ (x0_ : Int) (r_ : Bool) (W' : World), lit_ideals.f k x0_ l0_0 = some r_ → Below W.heap.size W W' → Calls Try.prog 86 #[.int .i64 x0_, .pointer (some ⟨w.heap.size, 0, none⟩)] W' fun e w' => e = .returned (.bool r_) ∧ Below W'.heap.size W' w') :=
    ⟨fun x0_ r_ W' hF hb => lit_ideals.calls w.heap.size k x0_ A0_0 c0_0 l0_0 r_ W' ((hb.cell (p := ⟨w.heap.size, 0, none⟩) (by rw [hsz]; show w.heap.size < w.heap.size + 1; omega)).trans hcB) (Kd.C_below hrW hb) hc0_0 hF⟩
  have hcall := sets_ideals.calls (fun x => lit_ideals.f k x l0_0) w.heap.size k A0_0 c0_0 l0_0 r W HF hrW hc0_0 h
  have hcall' : Aside0 (Calls Try.prog 85 #[.agg #[.slice A0_0 l0_0.length c0_0], .func (.func 86) #[] #[.pointer (some ⟨w.heap.size, 0, none⟩)]] (w.alloc (.cells #[.slice A0_0 l0_0.length c0_0] 30 (0, 0))) fun e w' => ∃ v0_ : Value, e = .returned (v0_) ∧ (Kd.R (Kd.int .i64) 3 w' W.heap.size (fun _ => True) v0_ r ∧ Below W.heap.size W w')) := ⟨by rw [← hW]; exact hcall⟩
  have HW := Lib.hid hW
  clear hcall HF h hW hrW hr0_0 hc0_0
  have HsW := Aside0.mk hsz
  have HbW := Aside0.mk hbW
  clear hcB hsz hbW
  go_enter Try.func67, Try.ntmps67
  go_wp2_with fail
  refine hcall'.out.mono ?_
  rintro e w1 ⟨v, rfl, ho, hb⟩
  have Ho := Aside0.mk ho
  have Hb := Aside0.mk hb
  clear ho hb hmf hcall'
  go_wp2
  go_ret
  refine ⟨_, rfl, Kd.R_lower Ho.out (by have := HsW.out; omega), HbW.out.trans (Hb.out.mono (by have := HsW.out; omega))⟩
end Go.Proofs.Ytemkddgfneohhaa.F
end

section
namespace Go.Proofs.Ytemkddgfneohhaa.Q
open Go.RowKit Go.Proofs.YtemkddgfneohhaaW.PrintWords Go.Proofs.Ytemkddgfneohhaa.F
set_option linter.unusedVariables false
theorem sets_run {F : Int → Option Bool} {c : Nat → Bool} {N : Nat} (hN : N ≤ 1024) (hF : ∀ s : Nat, s < N → F (s : Int) = some (c s)) : ∀ (d i : Nat), i + d = N → ∀ (k : Nat) (acc : List Int), d < k → acc.length ≤ i → sets_ideals.l0 F k acc (N : Int) (i : Int) = some (acc ++ ints ((List.range' i d).filter c))
  | 0, i, h, 0, acc, hk, _ => by omega
  | 0, i, h, k + 1, acc, hk, _ => by
    simp only [sets_ideals.l0]
    rw [if_neg (by omega)]
    simp [ints]
  | d + 1, i, h, 0, acc, hk, _ => by omega
  | d + 1, i, h, k + 1, acc, hk, ha => by
    simp only [sets_ideals.l0]
    rw [if_pos (by omega), hF i (by omega), Option.bind_some, wid1 (show i < N by omega) (by omega), List.range'_succ, List.filter_cons]
    cases hc : c i with
    | true =>
      rw [if_pos rfl, if_pos (by omega), if_pos rfl, sets_run hN hF d (i + 1) (by omega) k (acc ++ [(i : Int)]) (by omega) (by rw [List.length_append, List.length_singleton]; omega)]
      rw [List.append_assoc]; rfl
    | false =>
      rw [if_neg (by simp), if_neg (by simp), sets_run hN hF d (i + 1) (by omega) k acc (by omega) (by omega)]
theorem two_pow_small {n : Nat} (h : n ≤ 10) : 2 ^ n ≤ 1024 := Nat.le_trans (Nat.pow_le_pow_right (by decide) h) (by decide)
theorem ideals_ev {p : List Int} (hp : PO p) : Ev (fun k => impl_Poset_ideals.f k p) (ints (idealsN p)) := by
  have hn := hp.small
  have h2 := two_pow_small hn
  have hpos := Nat.two_pow_pos p.length
  obtain ⟨K, hK⟩ := Ev.all (g := fun s k => lit_ideals.f k (s : Int) p) (r := fun s => idealB p s) (2 ^ p.length) (fun s hs => by
    unfold lit_ideals.f
    refine Ev.bind (close_ev hp hs) (Ev.ret ?_)
    rw [← closeN_eq hp hs, Bool.eq_iff_iff, beq_iff_eq, beq_iff_eq]
    omega)
  refine ⟨K + 2 ^ p.length + 1, fun k hk => ?_⟩
  show sets_ideals.f _ k p = _
  unfold sets_ideals.f
  rw [all_eq (by omega), Option.bind_some]
  have e : wrap64 (((allN p : Nat) : Int) + 1) = ((2 ^ p.length : Nat) : Int) := by
    rw [wid (by unfold allN; omega) (by unfold allN; omega)]
    unfold allN; omega
  rw [e]
  have := sets_run (F := fun x => lit_ideals.f k x p) (c := idealB p) h2 (fun s hs => hK k (by omega) s hs) (2 ^ p.length) 0 (by omega) k [] (by omega) (by simp)
  rw [show ((0 : Nat) : Int) = 0 from rfl] at this
  rw [this, List.nil_append, ← List.range_eq_range']
  rfl
end Go.Proofs.Ytemkddgfneohhaa.Q
end

section
namespace Go.Proofs.Ytemkddgfneohhaa.F
open Go.RowKit Go.Maps Go.Proofs.YtemkddgfneohhaaW.PrintWords Go.Proofs.YtemkddgfneohhaaW.PrintLast Go.Proofs.YtemkddgfneohhaaW.PrintMore
set_option linter.unusedVariables false
set_option linter.unusedSimpArgs false
theorem mp_law : Keyed Try.prog 3 := int_keyed Try.underlying3
theorem mp_zero (w : World) : (zeroValue 3).run Try.prog w = .ok (.int .i64 0) w := by kernel_rfl
/-- An entry of a map's literal. -/
theorem wpList_insert_own {H : Type} {P : Program} (w : World) {ops : Array Oper} {rest : List Oper} {o : Oper} {a : Act} {Q : Exit → Act → World → Prop}
    (hg : o.guard = none) (m x v : Operand) (t : TypeId) (hop : o.op = Op.insert t m x v)
    (k e : TypeId) (K : Keyed P k) (ht : P.underlying t = some (.map k e)) (R : Value → Option (DataW H × List MemPlace)) (b n : Nat) (D : DataW H)
    (hm : a.eval m = .map (some b)) (hown : w.ownsMap P k R b n D) (hn : n < maxLen) (key val : Value) (kl : Lit) (hx : a.eval x = key) (hv : a.eval v = val) (hkey : keyOf P k key = some kl)
    (d : DataW H) (ps : List MemPlace) (hval : R val = some (d, ps))
    (hK : ∀ w', w'.ownsMap P k R b (n + 1) (D.put kl d) → w.grownBy w' (some b) → wpList P ops Q rest (a.put o.dst undef) w') :
    wpList P ops Q (o :: rest) a w := by
  refine wpList_plain hg fun K' hK' => ?_
  obtain ⟨w', hrun, r1, r2⟩ := hown.update K ht hn hkey hval
  unfold Oper.wp
  simp [execOp, hop, hm, hx, hv, hrun, Result.andThen]
  exact hK' _ _ (hK w' r1 r2)
theorem mp_nodup_le {α : Type} [DecidableEq α] : ∀ (l m : List α), l.Nodup → (∀ x ∈ l, x ∈ m) → l.length ≤ m.length
  | [], _, _, _ => Nat.zero_le _
  | x :: l, m, hn, h => by
    obtain ⟨h1, h2⟩ := List.nodup_cons.1 hn
    have hx : x ∈ m := h x List.mem_cons_self
    have := mp_nodup_le l (m.erase x) h2 (fun y hy => (List.mem_erase_of_ne (fun e => h1 (by rw [← e]; exact hy))).2 (h y (List.mem_cons_of_mem _ hy)))
    rw [List.length_erase_of_mem hx] at this
    have hp : 0 < m.length := List.length_pos_of_mem hx
    simp only [List.length_cons]
    omega
theorem mp_tight {H : Type} {P : Program} {k : TypeId} {R : Value → Option (DataW H × List MemPlace)} {w : World} {b n m : Nat} {D : DataW H} (h : w.ownsMap P k R b n D) (hm : Maps.size D ≤ m) : w.ownsMap P k R b m D := by
  obtain ⟨es, clock, hb, F, hs, rfl⟩ := h
  exact ⟨es, clock, hb, F, by rw [Maps.size_eq, length_sorted] at hm; simpa using hm, rfl⟩
/-- What a map reads as at the numbers of a list; it has no other keys. -/
structure MpReads {H : Type} (D : DataW H) (ids : List Int) (v : Int → Int) : Prop where
  at_ : ∀ s ∈ ids, D.atKey (.int .i64 s) (.lit (.int .i64 0)) = .lit (.int .i64 (v s))
  has_ : ∀ kl, Maps.has D kl = true → ∃ s ∈ ids, kl = .int .i64 s
theorem mp_norm {H : Type} {P : Program} {k : TypeId} {R : Value → Option (DataW H × List MemPlace)} {w : World} {b n : Nat} {D : DataW H} {ids : List Int} {v : Int → Int} (K : Keyed P k) (h : w.ownsMap P k R b n D) (hr : MpReads D ids v) : w.ownsMap P k R b ids.length D := by
  refine mp_tight h ?_
  obtain ⟨es, rfl, hp, hk⟩ := h.entries K
  rw [Maps.size_eq]
  haveI : DecidableEq Lit := fun a b => Classical.propDecidable (a = b)
  have hn : (es.map Prod.fst).Nodup := by
    rw [List.nodup_iff_pairwise_ne, List.pairwise_map]
    exact hp
  have hsub : ∀ x ∈ es.map Prod.fst, x ∈ ids.map (Lit.int .i64) := fun x hx => by
    obtain ⟨p, hp1, rfl⟩ := List.mem_map.1 hx
    obtain ⟨s, hs, e⟩ := hr.has_ p.1 (List.any_eq_true.2 ⟨p, hp1, WideAt.sameKey_self (hk p hp1)⟩)
    rw [e]
    exact List.mem_map.2 ⟨s, hs, rfl⟩
  have := mp_nodup_le _ _ hn hsub
  rw [List.length_map, List.length_map] at this
  exact this
theorem mp_empty {H : Type} (ids : List Int) : MpReads (.map [] : DataW H) ids (fun _ => 0) := ⟨fun _ _ => rfl, fun kl h => by cases h⟩
theorem mp_congr {H : Type} {D : DataW H} {ids : List Int} {v v' : Int → Int} (h : MpReads D ids v) (e : ∀ s ∈ ids, v s = v' s) : MpReads D ids v' := ⟨fun s hs => by rw [h.at_ s hs, e s hs], h.has_⟩
theorem mp_put {H : Type} {D : DataW H} {ids : List Int} {v : Int → Int} (hD : Maps.IsMap D) (h : MpReads D ids v) {t c : Int} (ht : t ∈ ids) : MpReads (D.put (.int .i64 t) (.lit (.int .i64 c))) ids (fun s => if s = t then c else v s) := by
  refine ⟨fun s hs => ?_, fun kl hk => ?_⟩
  · by_cases e : s = t
    · subst e
      rw [if_pos rfl]
      exact Maps.atKey_put_same hD (show WideAt.IsKeyLit (.int .i64 s) from trivial) _ _
    · rw [if_neg e, Maps.atKey_put_other (fun e2 => e (by injection e2)) _ _]
      exact h.at_ s hs
  · by_cases e : kl = .int .i64 t
    · exact ⟨t, ht, e⟩
    · rw [Maps.has_put_other e] at hk
      exact h.has_ kl hk
theorem mp_val {H : Type} {D : DataW H} {ids : List Int} {v : Int → Int} (h : MpReads D ids v) {x c : Int} (hk : Maps.has D (.int .i64 x) = true) (hat : ∀ zd, D.atKey (.int .i64 x) zd = .lit (.int .i64 c)) : x ∈ ids ∧ v x = c := by
  obtain ⟨s, hs, e⟩ := h.has_ _ hk
  injection e with _ e
  subst e
  have := h.at_ x hs
  rw [hat] at this
  injection this with this
  injection this with _ this
  exact ⟨hs, this.symm⟩
/-- The sum over those of a list for which something holds. -/
def mpTot (ids : List Int) (P : Int → Bool) (v : Int → Int) : Int := (ids.map fun s => if P s = true then v s else 0).sum
theorem mpTot_congr {ids : List Int} {P P' : Int → Bool} {v v' : Int → Int} (h : ∀ s ∈ ids, (if P s = true then v s else 0) = if P' s = true then v' s else 0) : mpTot ids P v = mpTot ids P' v' := by
  unfold mpTot
  rw [List.map_congr_left h]
theorem mpTot_step {P P' : Int → Bool} {v : Int → Int} {x : Int} (hP : P x = false) (ho : ∀ s, s ≠ x → P' s = P s) : ∀ ids : List Int, ids.Nodup → x ∈ ids → mpTot ids P' v = mpTot ids P v + if P' x = true then v x else 0
  | [], _, h => by cases h
  | s :: ids, hn, h => by
    obtain ⟨h1, h2⟩ := List.nodup_cons.1 hn
    unfold mpTot
    rw [List.map_cons, List.map_cons, List.sum_cons, List.sum_cons]
    by_cases e : s = x
    · subst e
      have h3 : (if P s = true then v s else 0) = 0 := by rw [hP]; rfl
      rw [h3]
      have e2 : (ids.map fun s => if P' s = true then v s else 0) = ids.map fun s => if P s = true then v s else 0 := List.map_congr_left fun y hy => by rw [ho y (fun e => h1 (by rw [← e]; exact hy))]
      rw [e2]
      omega
    · have hx : x ∈ ids := by
        rcases List.mem_cons.1 h with h | h
        · exact absurd h.symm e
        · exact h
      have := mpTot_step (v := v) hP ho ids h2 hx
      unfold mpTot at this
      rw [this, ho s e]
      omega
theorem mpTot_none {ids : List Int} {P : Int → Bool} {v : Int → Int} (h : ∀ s ∈ ids, P s = true → v s = 0) : mpTot ids P v = 0 := by
  have e : mpTot ids P v = mpTot ids (fun _ => false) v := mpTot_congr fun s hs => by
    cases hp : P s with
    | false => rfl
    | true => rw [if_pos rfl, h s hs hp]; rfl
  rw [e]
  unfold mpTot
  induction ids with
  | nil => rfl
  | cons s ids ih => rw [List.map_cons, List.sum_cons, ih (fun y hy => h y (List.mem_cons_of_mem _ hy)) (mpTot_congr fun s hs => by
    cases hp : P s with
    | false => rfl
    | true => rw [if_pos rfl, h s (List.mem_cons_of_mem _ hs) hp]; rfl)]; rfl
theorem mp_wrap_add (a b : Int) : wrap64 (wrap64 a + b) = wrap64 (a + b) := by unfold wrap64; omega
theorem mp_wrap_add' (a b : Int) : wrap64 (a + wrap64 b) = wrap64 (a + b) := by unfold wrap64; omega
/-- A key that is to come no more is one that is not of the map, or one that has come. -/
theorem mp_absent {H : Type} {D : DataW H} {ids : List Int} {v : Int → Int} (h : MpReads D ids v) {s : Int} (hs : s ∈ ids) (hk : Maps.has D (.int .i64 s) = false) : v s = 0 := by
  have := h.at_ s hs
  rw [Maps.atKey_of_not_has hk] at this
  injection this with this
  injection this with _ this
  exact this.symm
theorem mp_strike (left : Lit → Bool) (x s : Int) (h : s ≠ x) : ((fun z : Lit => left z && !z.sameKey (.int .i64 x)) (.int .i64 s)) = left (.int .i64 s) := by
  show (left (.int .i64 s) && !(Lit.int .i64 s).sameKey (.int .i64 x)) = _
  rw [Maps.sameKey_ne (fun e => h (by injection e))]
  simp
theorem mp_struck (left : Lit → Bool) (x : Int) : ((fun z : Lit => left z && !z.sameKey (.int .i64 x)) (.int .i64 x)) = false := by
  show (left (.int .i64 x) && !(Lit.int .i64 x).sameKey (.int .i64 x)) = _
  rw [WideAt.sameKey_self (show WideAt.IsKeyLit (.int .i64 x) from trivial)]
  simp
theorem mp_cell {ids : List Int} {W W1 : World} {b g c : Nat} {ok : Nat → Prop} (hr : Kd.R (Kd.int .i64) 3 W b ok (.slice (some ⟨g, 0, none⟩) ids.length c) ids) (hb : Below W.heap.size W W1) (i : Nat) (hi : i < ids.length) :
    W1.cell? ⟨g, i, none⟩ = some (.int .i64 (ids.getD i 0)) := by
  have h2 := (Kd.R_cell (0 : Int) (Kd.R_below hr hb) (i : Int) (by omega) (by omega)).1
  rw [Int.toNat_natCast] at h2
  rw [h2]
  congr 2
theorem mp_wf {n : Int} (h : -9223372036854775808 ≤ n ∧ n ≤ 9223372036854775807) : (Lit.int .i64 n).wf = true := WalkArith.wf_i64 h
theorem mp_grown {w w' : World} (hb : Below w.heap.size w w') : w.grownBy w' none := ⟨hb.os, hb.tape, hb.output, hb.size, fun k hk _ => hb.block k hk⟩
theorem mp_emptyO {X : World} {base n e sz : Nat} (hn : base ≤ n) (hx : X.heap[n]? = some (.cells #[] e (0, 0))) : X.ownsRow base e sz (.slice (some ⟨n, 0, none⟩) 0 0) 0 [] :=
  ⟨by simp, .inr ⟨n, 0, #[], rfl, hn, hx, by omega, by omega, by simp, by simp⟩⟩
theorem mp_emptyR {α : Type} (d : Kd α) {X : World} {base n e : Nat} {ok : Nat → Prop} (hn : base ≤ n) (hx : X.heap[n]? = some (.cells #[] e (0, 0))) (hok : ok n) : d.R e X base ok (.slice (some ⟨n, 0, none⟩) 0 0) ([] : List α) :=
  ⟨fun k hk => by
    have : n = k := by simpa [Value.ownBlock] using hk
    exact this ▸ hok, [], mp_emptyO hn hx, Reps.none _ _⟩
/-- A row's own block is no map. -/
theorem mp_apart {H : Type} {P : Program} {k : TypeId} {R : Value → Option (DataW H × List MemPlace)} {W : World} {b n base e : Nat} {D : DataW H} {ok : Nat → Prop} {v : Value} {xs : List Int} (h : Kd.R (Kd.int .i64) e W base ok v xs) (hm : W.ownsMap P k R b n D) : some b ≠ v.ownBlock := by
  intro hv
  obtain ⟨_, _, _, q, _, cells, hc⟩ := (Kd.R_bound h).1 b hv.symm
  obtain ⟨es, clock, hb, _⟩ := hm
  rw [hb] at hc
  cases hc
theorem mp_row_kept {H : Type} {P : Program} {k : TypeId} {R : Value → Option (DataW H × List MemPlace)} {W W1 : World} {b n base e : Nat} {D : DataW H} {ok : Nat → Prop} {v : Value} {xs : List Int} (h : Kd.R (Kd.int .i64) e W base ok v xs) (hm : W.ownsMap P k R b n D) (hg : W.grownBy W1 (some b)) : Kd.R (Kd.int .i64) e W1 base ok v xs :=
  Kd.R_grown2 h rfl hg (fun k hk => by cases hk; exact mp_apart h hm)
/-- An iterator's block is none of a row. -/
theorem mp_iter_kept {H : Type} {P : Program} {k : TypeId} {R : Value → Option (DataW H × List MemPlace)} {W W1 : World} {b r n base e cnt : Nat} {D : DataW H} {left : Lit → Bool} {ok : Nat → Prop} {v : Value} {xs : List Int} (h : Kd.R (Kd.int .i64) e W base ok v xs) (hm : W.ranges P k R b r n D left cnt) (hg : W.grownBy W1 (some r)) : Kd.R (Kd.int .i64) e W1 base ok v xs :=
  Kd.R_grown2 h rfl hg (fun k hk => by
    cases hk
    intro hv
    obtain ⟨_, _, _, q, _, cells, hc⟩ := (Kd.R_bound h).1 r hv.symm
    obtain ⟨es, clock, since, seen, c0, _, _, _, _, hr, _⟩ := hm
    rw [hr] at hc
    cases hc)
end Go.Proofs.Ytemkddgfneohhaa.F
end

section
namespace Go.Proofs.Ytemkddgfneohhaa.F
open Go.RowKit Go.Maps Go.Proofs.YtemkddgfneohhaaW.PrintWords Go.Proofs.YtemkddgfneohhaaW.PrintLast Go.Proofs.YtemkddgfneohhaaW.PrintMore
set_option linter.unusedVariables false
set_option linter.unusedSimpArgs false
/-- How many rows end in t, out of how many end in each. -/
def cntNew (B : Int → Int → Bool) (ids : List Int) (v : Int → Int) (t : Int) : Int := wrap64 (mpTot ids (fun s => B s t) v)
def cntAt (B : Int → Int → Bool) (ids : List Int) : Nat → Int → Int
  | 0 => fun s => if s = 0 then 1 else 0
  | k + 1 => cntNew B ids (cntAt B ids k)
def cntOk (ids : List Int) : Bool := decide (ids.Nodup) && (decide ((0 : Int) ∈ ids) && (decide (ids.length ≤ 1024) && ids.all fun s => decide (-9223372036854775808 ≤ s ∧ s ≤ 9223372036854775807)))
theorem cntOk_parts {ids : List Int} (h : cntOk ids = true) : ids.Nodup ∧ (0 : Int) ∈ ids ∧ ids.length ≤ 1024 ∧ ∀ s ∈ ids, -9223372036854775808 ≤ s ∧ s ≤ 9223372036854775807 := by
  unfold cntOk at h
  rw [Bool.and_eq_true, Bool.and_eq_true, Bool.and_eq_true, decide_eq_true_eq, decide_eq_true_eq, decide_eq_true_eq] at h
  exact ⟨h.1, h.2.1, h.2.2.1, fun s hs => of_decide_eq_true (List.all_eq_true.1 h.2.2.2 s hs)⟩
/-- The map in which the next rows are counted, while the old one is ranged over: the values at the elements ahead of i are drawn up, that at t as far as the range has come. -/
def cntMid (B : Int → Int → Bool) (ids : List Int) (v : Int → Int) (i : Nat) (s : Int) : Int := if s ∈ ids.take i then cntNew B ids v s else 0
def cntIn (B : Int → Int → Bool) (ids : List Int) (v : Int → Int) (i : Nat) (t : Int) (left : Lit → Bool) (s : Int) : Int := if s = t then wrap64 (mpTot ids (fun s => B s t && !left (.int .i64 s)) v) else cntMid B ids v i s
theorem cnt_notyet {ids : List Int} (hn : ids.Nodup) {i : Nat} (hi : i < ids.length) : ids.getD i 0 ∉ ids.take i := by
  rw [List.getD_eq_getElem?_getD, List.getElem?_eq_getElem hi]
  show ids[i] ∉ ids.take i
  intro h
  obtain ⟨j, hj, e⟩ := List.mem_take_iff_getElem.1 h
  have := (List.nodup_iff_pairwise_ne.1 hn)
  rw [List.pairwise_iff_getElem] at this
  exact this j i (by omega) hi (by omega) e
theorem cnt_start {B : Int → Int → Bool} {D Dr : DataW Unit} {ids : List Int} {v : Int → Int} {i : Nat} {t : Int} (hr : MpReads Dr ids v) (h : MpReads D ids (cntMid B ids v i)) (ht : t ∉ ids.take i) : MpReads D ids (cntIn B ids v i t (Maps.has Dr)) := by
  refine mp_congr h fun s hs => ?_
  unfold cntIn
  by_cases e : s = t
  · subst e
    rw [if_pos rfl, mpTot_none]
    · unfold cntMid; rw [if_neg ht]; unfold wrap64; decide
    · intro y hy hp
      simp only [Bool.and_eq_true, Bool.not_eq_true'] at hp
      exact mp_absent hr hy hp.2
  · rw [if_neg e]
theorem cnt_end {B : Int → Int → Bool} {D : DataW Unit} {ids : List Int} {v : Int → Int} {i : Nat} {left : Lit → Bool} (hn : ids.Nodup) (hi : i < ids.length) (hl : ∀ kl, left kl = false) (h : MpReads D ids (cntIn B ids v i (ids.getD i 0) left)) : MpReads D ids (cntMid B ids v (i + 1)) := by
  refine mp_congr h fun s hs => ?_
  have e0 : ids.take (i + 1) = ids.take i ++ [ids.getD i 0] := by
    rw [List.take_add_one, List.getElem?_eq_getElem hi, List.getD_eq_getElem?_getD, List.getElem?_eq_getElem hi]; rfl
  unfold cntIn cntMid
  rw [e0]
  by_cases e : s = ids.getD i 0
  · rw [if_pos e, if_pos (List.mem_append.2 (.inr (by rw [e]; exact List.mem_singleton.2 rfl))), e]
    unfold cntNew
    congr 1
    exact mpTot_congr fun y hy => by rw [hl]; simp
  · rw [if_neg e]
    by_cases e2 : s ∈ ids.take i
    · rw [if_pos e2, if_pos (List.mem_append.2 (.inl e2))]
    · rw [if_neg e2, if_neg (fun h => by
        rcases List.mem_append.1 h with h | h
        · exact e2 h
        · exact e (List.mem_singleton.1 h))]
/-- An entry has come that is no part of t. -/
theorem cnt_skip {B : Int → Int → Bool} {D : DataW Unit} {ids : List Int} {v : Int → Int} {i : Nat} {t x : Int} {left : Lit → Bool} (hn : ids.Nodup) (hx : x ∈ ids) (hlx : left (.int .i64 x) = true) (hb : B x t = false)
    (h : MpReads D ids (cntIn B ids v i t left)) : MpReads D ids (cntIn B ids v i t (fun z => left z && !z.sameKey (.int .i64 x))) := by
  refine mp_congr h fun s hs => ?_
  unfold cntIn
  by_cases e : s = t
  · rw [if_pos e, if_pos e]
    congr 1
    have := mpTot_step (v := v) (x := x) (P := fun s => B s t && !left (.int .i64 s)) (P' := fun s => B s t && !(fun z : Lit => left z && !z.sameKey (.int .i64 x)) (.int .i64 s)) (by rw [hlx]; simp) (fun y hy => by show (_ && !((fun z : Lit => left z && !z.sameKey (.int .i64 x)) (.int .i64 y))) = _; rw [mp_strike left x y hy]) ids hn hx
    rw [this, if_neg (by show ¬ ((_ && _) = true); rw [hb]; simp)]
    omega
  · rw [if_neg e, if_neg e]
/-- An entry has come that is part of t. -/
theorem cnt_add {B : Int → Int → Bool} {D : DataW Unit} {ids : List Int} {v : Int → Int} {i : Nat} {t x c c0 : Int} {left : Lit → Bool} (hn : ids.Nodup) (ht : t ∈ ids) (hx : x ∈ ids) (hc : v x = c) (hlx : left (.int .i64 x) = true) (hb : B x t = true)
    (hD : Maps.IsMap D) (h : MpReads D ids (cntIn B ids v i t left)) (h0 : D.atKey (.int .i64 t) (.lit (.int .i64 0)) = .lit (.int .i64 c0)) : MpReads (D.put (.int .i64 t) (.lit (.int .i64 (wrap64 (c0 + c))))) ids (cntIn B ids v i t (fun z => left z && !z.sameKey (.int .i64 x))) := by
  refine mp_congr (mp_put hD h ht) fun s hs => ?_
  have e0 : c0 = wrap64 (mpTot ids (fun s => B s t && !left (.int .i64 s)) v) := by
    have := h.at_ t ht
    rw [h0] at this
    injection this with this
    injection this with _ this
    rw [this]
    unfold cntIn
    rw [if_pos rfl]
  unfold cntIn
  by_cases e : s = t
  · rw [if_pos e, if_pos e, e0, mp_wrap_add]
    congr 1
    have := mpTot_step (v := v) (x := x) (P := fun s => B s t && !left (.int .i64 s)) (P' := fun s => B s t && !(fun z : Lit => left z && !z.sameKey (.int .i64 x)) (.int .i64 s)) (by rw [hlx]; simp) (fun y hy => by show (_ && !((fun z : Lit => left z && !z.sameKey (.int .i64 x)) (.int .i64 y))) = _; rw [mp_strike left x y hy]) ids hn hx
    rw [this, if_pos (by show (_ && _) = true; rw [hb, mp_struck]; rfl), hc]
  · rw [if_neg e, if_neg e, if_neg e]
/-- The sum at the end: another entry. -/
theorem cnt_sum {ids : List Int} {v : Int → Int} {x c : Int} {left : Lit → Bool} (hn : ids.Nodup) (hx : x ∈ ids) (hc : v x = c) (hlx : left (.int .i64 x) = true) :
    wrap64 (wrap64 (mpTot ids (fun s => !left (.int .i64 s)) v) + c) = wrap64 (mpTot ids (fun s => !(fun z : Lit => left z && !z.sameKey (.int .i64 x)) (.int .i64 s)) v) := by
  rw [mp_wrap_add]
  congr 1
  have := mpTot_step (v := v) (x := x) (P := fun s => !left (.int .i64 s)) (P' := fun s => !(fun z : Lit => left z && !z.sameKey (.int .i64 x)) (.int .i64 s)) (by rw [hlx]; rfl) (fun y hy => by show (!((fun z : Lit => left z && !z.sameKey (.int .i64 x)) (.int .i64 y))) = _; rw [mp_strike left x y hy]) ids hn hx
  rw [this, if_pos (by show (!_) = true; rw [mp_struck]; rfl), hc]
theorem cnt_first {B : Int → Int → Bool} (ids : List Int) (h : (0 : Int) ∈ ids) : MpReads ((DataW.map [] : DataW Unit).put (.int .i64 0) (.lit (.int .i64 1))) ids (cntAt B ids 0) := mp_congr (mp_put ⟨[], rfl⟩ (mp_empty ids) h) (fun _ _ => rfl)
theorem cnt_mid0 {B : Int → Int → Bool} (ids : List Int) (v : Int → Int) : MpReads (DataW.map [] : DataW Unit) ids (cntMid B ids v 0) := mp_congr (mp_empty ids) (fun s _ => by unfold cntMid; rw [if_neg (by simp)])
theorem cnt_done {B : Int → Int → Bool} {D : DataW Unit} {ids : List Int} {v : Int → Int} (h : MpReads D ids (cntMid B ids v ids.length)) : MpReads D ids (cntNew B ids v) := mp_congr h (fun s hs => by unfold cntMid; rw [List.take_length, if_pos hs])
end Go.Proofs.Ytemkddgfneohhaa.F
end

section
namespace Go.Proofs.Ytemkddgfneohhaa.Q
open Go.RowKit Go.Proofs.YtemkddgfneohhaaW.PrintWords Go.Proofs.Ytemkddgfneohhaa.F
set_option linter.unusedVariables false
theorem mpTot_ints {P' : Int → Bool} {v' : Int → Int} {P : Nat → Bool} {v : Nat → Nat} : ∀ ids : List Nat, (∀ s ∈ ids, P' (s : Int) = P s) → (∀ s ∈ ids, v' (s : Int) = (v s : Int)) → mpTot (ints ids) P' v' = ((sumL ((ids.filter P).map v) : Nat) : Int)
  | [], _, _ => rfl
  | s :: ids, h1, h2 => by
    have ih := mpTot_ints ids (fun s hs => h1 s (List.mem_cons_of_mem _ hs)) (fun s hs => h2 s (List.mem_cons_of_mem _ hs))
    unfold mpTot ints at ih ⊢
    rw [List.map_cons, List.map_cons, List.sum_cons, ih, List.filter_cons]
    have e1 := h1 s List.mem_cons_self
    have e2 := h2 s List.mem_cons_self
    show (if P' (s : Int) = true then v' (s : Int) else 0) + _ = _
    rw [e1, e2]
    cases P s with
    | true => rw [if_pos rfl, if_pos rfl, List.map_cons]; simp only [sumL]; omega
    | false => rw [if_neg (by simp), if_neg (by simp)]; omega
theorem cntAt_eq {p : List Int} (hp : p.length ≤ 10) {B' : Int → Int → Bool} {B : Nat → Nat → Bool} (hB : ∀ s ∈ idealsN p, ∀ t ∈ idealsN p, B' (s : Int) (t : Int) = B s t) (hsub : ∀ s t, B s t = true → subB s t = true) :
    ∀ k, k ≤ 14 → ∀ t ∈ idealsN p, cntAt B' (ints (idealsN p)) k (t : Int) = ((wvN B (idealsN p) k t : Nat) : Int)
  | 0, _, t, _ => by
    unfold cntAt wvN
    by_cases h : t = 0
    · subst h; rfl
    · rw [if_neg h, if_neg (by omega)]; rfl
  | k + 1, hk, t, ht => by
    unfold cntAt cntNew
    rw [mpTot_ints (P := fun s => B s t) (v := wvN B (idealsN p) k) (idealsN p) (fun s hs => hB s hs t ht) (fun s hs => cntAt_eq hp hB hsub k (by omega) s hs)]
    have := wvN_small hp (B := B) (k := k + 1) (t := t) hsub (by omega)
    have e : wvN B (idealsN p) (k + 1) t = sumL (((idealsN p).filter fun s => B s t).map (wvN B (idealsN p) k)) := by conv => lhs; unfold wvN
    rw [e] at this ⊢
    exact wid (by omega) (by omega)
theorem cntOk_ids {p : List Int} (hp : p.length ≤ 10) : cntOk (ints (idealsN p)) = true := by
  have h2 : 2 ^ p.length ≤ 1024 := Nat.le_trans (Nat.pow_le_pow_right (by decide) hp) (by decide)
  unfold cntOk
  rw [Bool.and_eq_true, Bool.and_eq_true, Bool.and_eq_true, decide_eq_true_eq, decide_eq_true_eq, decide_eq_true_eq, List.all_eq_true]
  refine ⟨?_, List.mem_map.2 ⟨0, zero_mem p, rfl⟩, ?_, fun x hx => ?_⟩
  · unfold ints
    rw [List.nodup_iff_pairwise_ne, List.pairwise_map]
    exact (List.nodup_iff_pairwise_ne.1 (idealsN_nodup p)).imp (fun h e => h (Int.ofNat.inj e))
  · rw [ints_len]; have := idealsN_len p; omega
  · obtain ⟨s, hs, rfl⟩ := List.mem_map.1 hx
    have := (mem_idealsN.1 hs).1
    refine decide_eq_true ?_
    show _ ≤ (s : Int) ∧ (s : Int) ≤ _
    omega
end Go.Proofs.Ytemkddgfneohhaa.Q
end

section
namespace Go.Proofs.Ytemkddgfneohhaa.F
open Go.RowKit Go.Maps Go.Proofs.YtemkddgfneohhaaW.PrintWords Go.Proofs.YtemkddgfneohhaaW.PrintLast Go.Proofs.YtemkddgfneohhaaW.PrintMore
set_option linter.unusedVariables false
set_option linter.unusedSimpArgs false
/-- Whether a set is part of another one. -/
def cntB (s t : Int) : Bool := Go.bits .andNot .i64 s t == 0
def impl_Poset_count.f (k : Nat) (l0_0 : List Int) (a1 : Int) : Option Int := (impl_Poset_ideals.f k l0_0).bind fun ids => if cntOk ids = true ∧ (0 ≤ a1 ∧ a1 ≤ 1000) then some (wrap64 (mpTot ids (fun _ => true) (cntAt cntB ids a1.toNat))) else none
theorem impl_Poset_count.mono : ∀ a0 a1 k, LeO (impl_Poset_count.f k a0 a1) (impl_Poset_count.f (k + 1) a0 a1) := fun a0 a1 k => LeO.bind (impl_Poset_ideals.mono _ _) (fun _ => LeO.refl _)
set_option maxHeartbeats 8000000 in
set_option maxRecDepth 100000 in
theorem impl_Poset_count.calls (k : Nat) (A0_0 : Option Addr) (c0_0 : Nat) (l0_0 : List Int) (a1 : Int) (r : Int) (w : World) (hr0_0 : Kd.C (Kd.int .i64) w A0_0 l0_0.length l0_0) (hc0_0 : l0_0.length ≤ c0_0) (h : impl_Poset_count.f k l0_0 a1 = some r) :
    Calls Try.prog 42 #[.agg #[.slice A0_0 l0_0.length c0_0], .int .i64 a1] w fun e w' => e = .returned (.int .i64 r) ∧ Below w.heap.size w w' := by
  have hu30 := Try.underlying30
  have hmm := @run_makeMap Try.prog
  unfold impl_Poset_count.f at h
  obtain ⟨ids, hid, h⟩ := Option.bind_eq_some_iff.1 h
  split at h
  rotate_left
  · cases h
  rename_i hok
  have h := Option.some.inj h
  obtain ⟨⟨hnd, h0, hlen, hwf⟩, ha0, ha1⟩ : (ids.Nodup ∧ (0 : Int) ∈ ids ∧ ids.length ≤ 1024 ∧ ∀ s ∈ ids, -9223372036854775808 ≤ s ∧ s ≤ 9223372036854775807) ∧ 0 ≤ a1 ∧ a1 ≤ 1000 := ⟨cntOk_parts hok.1, hok.2⟩
  obtain ⟨m, rfl⟩ := Int.eq_ofNat_of_zero_le ha0
  rw [Int.toNat_natCast] at h
  have hm : m ≤ 1000 := by omega
  have hpos : 0 < ids.length := List.length_pos_of_mem h0
  have HRES := Aside0.mk h
  have HID := Aside0.mk hid
  have HND := Aside0.mk hnd
  have HZ := Aside0.mk h0
  have HLEN := Aside0.mk hlen
  have HWF := Aside0.mk hwf
  have HM := Aside0.mk hm
  have HP := Aside0.mk hpos
  have HR := Aside0.mk (Kd.C_alloc hr0_0 (.cells #[.slice A0_0 l0_0.length c0_0] 30 (0, 0)))
  have HC := Aside0.mk hc0_0
  clear h hid hnd h0 hlen hwf hm hpos hr0_0 hc0_0 hok ha0 ha1
  go_enter Try.func42, Try.ntmps42
  go_wp2_with (first
    | (go_at_call 67; (with_reducible refine (impl_Poset_ideals.calls k A0_0 c0_0 l0_0 ids _ HR.out HC.out HID.out).mono ?_); rintro e w1 ⟨vi, rfl, hr1, hb1⟩; obtain ⟨g, cap, rfl, hgb, hgl, _⟩ := Kd.R_form hr1 HP.out; have HR1 := Aside0.mk hr1; have HB1 := Aside0.mk ((below_alloc (Below.refl w.heap.size w) _).trans (hb1.mono (by simp))); clear hr1 hb1 hgb)
    | (refine wpList_insert_own _ rfl (.tmp 17) (.const (.int .i64 0)) (.const (.int .i64 1)) 68 rfl 3 3 mp_law Try.underlying68 (plainElem (H := Unit) Try.prog 3) w1.heap.size 0 _ rfl (World.ownsMap_made w1 Try.prog 3 _) (by unfold maxLen; omega) (.int .i64 0) (.int .i64 1) (.int .i64 0) rfl rfl (keyOf_int_mk Try.underlying3 (by decide)) (.lit (.int .i64 1)) [] (plainElem_int Try.underlying3 (by decide)) ?_; intro w2 hown2 hgrow2; have HMAP := Aside0.mk (mp_norm mp_law hown2 (cnt_first (B := cntB) ids HZ.out)); have HB2 := Aside0.mk (((Below.refl w1.heap.size w1).alloc (Nat.le_refl _) (.map #[] 0)).grown hgrow2 (by simp) (fun j hj => by cases hj; exact Nat.le_refl _)); clear hown2 hgrow2)
    | go_in)
  clear hmm
  have hmm := @run_makeMap Try.prog
  go_loopg [6, 20] (m + 1) (fun kq v6 v20 w' => ∃ (q b : Nat) (D : DataW Unit), v6 = .map (some b) ∧ v20 = .int .i64 (q : Int) ∧ Aside0 (kq + q = m + 1 ∧ q ≤ m) ∧ Aside0 (w1.heap.size ≤ b) ∧ Aside0 (w'.ownsMap Try.prog 3 (plainElem Try.prog 3) b ids.length D) ∧ Aside0 (MpReads D ids (cntAt cntB ids q)) ∧ Aside0 (Below w1.heap.size w1 w'))
  case atStart => exact ⟨0, _, _, rfl, rfl, ⟨rfl, Nat.zero_le _⟩, ⟨Nat.le_refl _⟩, HMAP, ⟨cnt_first ids HZ.out⟩, HB2⟩
  case round =>
    obtain ⟨q, b, D, rfl, rfl, HK, HBB, HD, HRD, HBW⟩ := hrel
    obtain ⟨WA, rfl⟩ : ∃ x, x = wr := ⟨wr, rfl⟩
    cases gk with
    | zero => exact absurd HK.out (by omega)
    | succ k1 =>
      clear HMAP HB2
      by_cases hq : q < m
      · have d1 : decide ((q : Int) < (m : Int)) = true := decide_eq_true (by omega)
        have d2 : decide (q < m) = true := decide_eq_true hq
        have d3 := eq_true hq
        have HQ := Aside0.mk hq
        clear hq
        go_wp2_with (fail)
        go_loopg [25] (ids.length + 1) (fun kq v25 w' => ∃ (i : Nat) (D1 : DataW Unit), v25 = .int .i64 (i : Int) ∧ Aside0 (kq + i = ids.length + 1 ∧ i ≤ ids.length) ∧ Aside0 (w'.ownsMap Try.prog 3 (plainElem Try.prog 3) WA.heap.size ids.length D1) ∧ Aside0 (MpReads D1 ids (cntMid cntB ids (cntAt cntB ids q) i)) ∧ Aside0 (w'.ownsMap Try.prog 3 (plainElem Try.prog 3) b ids.length D) ∧ Aside0 (Below w1.heap.size w1 w'))
        case atStart => exact ⟨0, _, rfl, ⟨rfl, Nat.zero_le _⟩, ⟨(World.ownsMap_made WA Try.prog 3 _).mono (Nat.zero_le _)⟩, ⟨cnt_mid0 ids _⟩, ⟨HD.out.alloc _⟩, ⟨HBW.out.alloc HBW.out.size _⟩⟩
        case round =>
          obtain ⟨i, D1, rfl, HK2, HD1, HRD1, HD0, HBW1⟩ := hrel
          obtain ⟨WB, rfl⟩ : ∃ x, x = wr := ⟨wr, rfl⟩
          cases gk with
          | zero => exact absurd HK2.out (by omega)
          | succ k2 =>
            by_cases hi : i < ids.length
            · have hcell := mp_cell HR1.out HBW1.out i hi
              have hmem : ids.getD i 0 ∈ ids := by rw [List.getD_eq_getElem?_getD, List.getElem?_eq_getElem hi]; exact List.getElem_mem hi
              have HT := Aside0.mk (cnt_notyet HND.out hi)
              obtain ⟨t, ht⟩ : ∃ t, t = ids.getD i 0 := ⟨_, rfl⟩
              rw [← ht] at hcell hmem HT
              have HTE := Aside0.mk ht
              have HTM := Aside0.mk hmem
              clear ht hmem
              have e1 : (0 : Int) ≤ (i : Int) := by omega
              have e2 : (i : Int) < (ids.length : Int) := by omega
              have e3 : decide ((i : Int) < (ids.length : Int)) = true := decide_eq_true e2
              have e4 : decide (i < ids.length) = true := decide_eq_true hi
              have e5 := eq_true hi
              have HI := Aside0.mk hi
              clear hi
              go_wp2_with (first
                | (at_range; refine wpList_range_own _ rfl _ 68 rfl 3 3 mp_law Try.underlying68 _ b ids.length D rfl HD0.out ?_; intro w0 hrg0 hg0 hs0; have HRG0 := Aside0.mk hrg0; have HG0 := Aside0.mk hg0; clear hrg0 hg0 hs0)
                | go_in)
              go_frame
              clear hcell e1 e2 e3 e4 e5
              go_loopg [10] (Maps.size D + 1) (fun kq _ w' => ∃ (left : Lit → Bool) (cnt : Nat) (D2 : DataW Unit), Aside0 (kq = cnt + 1) ∧ Aside0 (w'.ranges Try.prog 3 (plainElem Try.prog 3) b WB.heap.size ids.length D left cnt) ∧ Aside0 (w'.ownsMap Try.prog 3 (plainElem Try.prog 3) WA.heap.size ids.length D2) ∧ Aside0 (MpReads D2 ids (cntIn cntB ids (cntAt cntB ids q) i t left)) ∧ Aside0 (Below w1.heap.size w1 w'))
              case atStart => exact ⟨_, _, _, ⟨rfl⟩, HRG0, ⟨HD1.out.kept HG0.out (by simp)⟩, ⟨cnt_start HRD.out HRD1.out HT.out⟩, ⟨HBW1.out.grown HG0.out HBW1.out.size (fun j hj => by cases hj)⟩⟩
              case round =>
                obtain ⟨left, cnt, D2, HK3, HRG, HD2, HRD2, HBW2⟩ := hrel
                obtain ⟨WC, rfl⟩ : ∃ x, x = wr := ⟨wr, rfl⟩
                have HNE : Aside0 (WB.heap.size ≠ b ∧ WB.heap.size ≠ WA.heap.size ∧ w1.heap.size ≤ WA.heap.size ∧ w1.heap.size ≤ WB.heap.size ∧ WA.heap.size ≠ b) := ⟨by have h1 := HD0.out.lt; have h2 := HD1.out.lt; have h3 := HBW.out.size; have h4 := HBW1.out.size; have h5 := HD.out.lt; omega⟩
                go_wp2_with (first
                  | (at_next; refine wpList_next_ranges_ii _ rfl _ rfl 3 3 .i64 .i64 mp_law Try.underlying3 Try.underlying3 b WB.heap.size ids.length D left cnt rfl HRG.out ?_ ?_)
                  | go_in)
                · -- nothing is left
                  intro hc0 hl0
                  have hwi : wrap64 ((i : Int) + 1) = ((i + 1 : Nat) : Int) := by unfold wrap64; have := HI.out; have := HLEN.out; omega
                  have HL0 := Aside0.mk hl0
                  clear hc0 hl0
                  go_wp2_with (fail)
                  go_roundg k2
                  case measure => omega
                  case rel =>
                    refine ⟨i + 1, D2, by rw [hwi], ⟨by have := HK2.out; have := HI.out; omega⟩, HD2, ⟨cnt_end HND.out HI.out HL0.out (by have := HRD2.out; rwa [HTE.out] at this)⟩, ⟨HRG.out.owns⟩, HBW2⟩
                · intro x c w3 cnt1 hwx hwc hlx hat hrg1 hlt hg1 hs1 hen
                  have HXV := Aside0.mk (mp_val HRD.out (Maps.has_true_of_atKey hat) hat)
                  have HLX := Aside0.mk hlx
                  have HRG1 := Aside0.mk hrg1
                  have HLT := Aside0.mk hlt
                  have HD2' := Aside0.mk (HD2.out.kept hg1 (by have := HNE.out; intro e; have := Option.some.inj e; omega))
                  have HBW3 := Aside0.mk (HBW2.out.grown hg1 HBW2.out.size (fun j hj => by cases hj; exact HNE.out.2.2.2.1))
                  clear hwx hwc hlx hat hrg1 hlt hg1 hs1
                  cases hb : (Go.bits .andNot .i64 x t == 0) with
                  | false =>
                    have HB0 : Aside0 (cntB x t = _) := ⟨hb⟩
                    go_wp2_with (fail)
                    go_roundg (cnt1 + 1)
                    case measure => have := HK3.out; have := HLT.out; omega
                    case rel => exact ⟨_, cnt1, D2, ⟨rfl⟩, HRG1, HD2', ⟨cnt_skip HND.out HXV.out.1 HLX.out HB0.out HRD2.out⟩, HBW3⟩
                  | true =>
                    have HB0 : Aside0 (cntB x t = _) := ⟨hb⟩
                    go_wp2_with (first
                      | (at_lookup; refine wpList_lookup_own_int _ rfl _ _ 68 rfl 3 3 .i64 mp_law Try.underlying68 Try.underlying3 (mp_zero _) WA.heap.size ids.length D2 rfl HD2'.out _ _ rfl (keyOf_int_mk Try.underlying3 (mp_wf (HWF.out t HTM.out))) ?_; intro c0 hat0 hwc0; have HAT0 := Aside0.mk hat0; clear hat0 hwc0)
                      | (at_mapUpdate; refine wpList_mapUpdate_own _ rfl _ _ _ 68 rfl 3 3 mp_law Try.underlying68 _ WA.heap.size ids.length D2 rfl HD2'.out (by have := HLEN.out; unfold maxLen; omega) _ _ _ rfl rfl (keyOf_int_mk Try.underlying3 (mp_wf (HWF.out t HTM.out))) _ [] (plainElem_int Try.underlying3 (wrap64_wf _)) ?_; intro w4 hown4 hgrow4; have HD4 := Aside0.mk hown4; have HG4 := Aside0.mk hgrow4; clear hown4 hgrow4)
                      | go_in)
                    have HRD4 := Aside0.mk (cnt_add (i := i) (v := cntAt cntB ids q) HND.out HTM.out HXV.out.1 HXV.out.2 HLX.out HB0.out HD2'.out.isMap HRD2.out HAT0.out)
                    go_roundg (cnt1 + 1)
                    case measure => have := HK3.out; have := HLT.out; omega
                    case rel => exact ⟨_, cnt1, _, ⟨rfl⟩, ⟨HRG1.out.kept HG4.out (by have := HNE.out; intro e; have := Option.some.inj e; omega) (by have := HNE.out; intro e; have := Option.some.inj e; omega)⟩, ⟨mp_norm mp_law HD4.out HRD4.out⟩, HRD4, ⟨HBW3.out.grown HG4.out HBW3.out.size (fun j hj => by cases hj; exact HNE.out.2.2.1)⟩⟩
            · have hi' : i = ids.length := by have := HK2.out; omega
              have e3 : decide ((i : Int) < (ids.length : Int)) = false := decide_eq_false (by omega)
              have e4 : decide (i < ids.length) = false := decide_eq_false hi
              have e5 : (i < ids.length) = False := eq_false hi
              have hwq : wrap64 ((q : Int) + 1) = ((q + 1 : Nat) : Int) := by unfold wrap64; have := HQ.out; have := HM.out; omega
              have HE := Aside0.mk hi'
              clear hi hi'
              go_wp2_with (fail)
              go_roundg k1
              case measure => omega
              case rel => exact ⟨q + 1, _, D1, rfl, by rw [hwq], ⟨by have := HK.out; have := HQ.out; omega⟩, ⟨HBW.out.size⟩, HD1, ⟨cnt_done (by have := HRD1.out; rwa [HE.out] at this)⟩, HBW1⟩
      · have HQE : Aside0 (q = m) := ⟨by have := HK.out; omega⟩
        have d1 : decide ((q : Int) < (m : Int)) = false := decide_eq_false (by omega)
        have d2 : decide (q < m) = false := decide_eq_false hq
        have d3 : (q < m) = False := eq_false hq
        clear hq
        go_wp2_with (first
          | (at_range; refine wpList_range_own _ rfl _ 68 rfl 3 3 mp_law Try.underlying68 _ b ids.length D rfl HD.out ?_; intro w0 hrg0 hg0 hs0; have HRG0 := Aside0.mk hrg0; have HG0 := Aside0.mk hg0; clear hrg0 hg0 hs0)
          | go_in)
        go_frame
        go_loopg [12] (Maps.size D + 1) (fun kq v12 w' => ∃ (left : Lit → Bool) (cnt : Nat) (n : Int), v12 = .int .i64 n ∧ Aside0 (n = wrap64 (mpTot ids (fun s => !left (.int .i64 s)) (cntAt cntB ids q))) ∧ Aside0 (kq = cnt + 1) ∧ Aside0 (w'.ranges Try.prog 3 (plainElem Try.prog 3) b WA.heap.size ids.length D left cnt) ∧ Aside0 (Below w1.heap.size w1 w'))
        case atStart => exact ⟨_, _, 0, rfl, ⟨by rw [mpTot_none (fun s hs hk => mp_absent HRD.out hs (by simpa using hk))]; unfold wrap64; decide⟩, ⟨rfl⟩, HRG0, ⟨HBW.out.grown HG0.out HBW.out.size (fun j hj => by cases hj)⟩⟩
        case round =>
          obtain ⟨left, cnt, n, rfl, HN, HK3, HRG, HBW2⟩ := hrel
          obtain ⟨WC, rfl⟩ : ∃ x, x = wr := ⟨wr, rfl⟩
          go_wp2_with (first
            | (at_next; refine wpList_next_ranges_ii _ rfl _ rfl 3 3 .i64 .i64 mp_law Try.underlying3 Try.underlying3 b WA.heap.size ids.length D left cnt rfl HRG.out ?_ ?_)
            | go_in)
          · intro hc0 hl0
            have HL0 := Aside0.mk hl0
            clear hc0 hl0
            go_wp2_with (fail)
            go_ret
            have hn : n = r := by
              rw [HN.out, ← HRES.out, ← HQE.out]
              congr 1
              exact mpTot_congr fun y hy => by rw [HL0.out]; rfl
            subst hn
            exact ⟨rfl, HB1.out.trans (HBW2.out.mono HB1.out.size)⟩
          · intro x c w3 cnt1 hwx hwc hlx hat hrg1 hlt hg1 hs1 hen
            have HXV := Aside0.mk (mp_val HRD.out (Maps.has_true_of_atKey hat) hat)
            have HSUM := Aside0.mk (cnt_sum (ids := ids) HND.out HXV.out.1 HXV.out.2 hlx)
            have HRG1 := Aside0.mk hrg1
            have HLT := Aside0.mk hlt
            have HBW3 := Aside0.mk (HBW2.out.grown hg1 HBW2.out.size (fun j hj => by cases hj; exact HBW.out.size))
            clear hwx hwc hlx hat hrg1 hlt hg1 hs1
            go_wp2_with (fail)
            go_roundg (cnt1 + 1)
            case measure => have := HK3.out; have := HLT.out; omega
            case rel => exact ⟨_, cnt1, _, rfl, ⟨by rw [HN.out]; exact HSUM.out⟩, ⟨rfl⟩, HRG1, HBW3⟩
end Go.Proofs.Ytemkddgfneohhaa.F
end

section
namespace Go.Proofs.Ytemkddgfneohhaa.Q
open Go.RowKit Go.Proofs.YtemkddgfneohhaaW.PrintWords Go.Proofs.Ytemkddgfneohhaa.F
set_option linter.unusedVariables false
theorem cntB_eq {s t : Nat} (hs : s < 2 ^ 62) (ht : t < 2 ^ 62) : cntB (s : Int) (t : Int) = subB s t := by
  unfold cntB subB
  rw [bits_andNotN hs ht, Bool.eq_iff_iff, beq_iff_eq, beq_iff_eq]
  omega
theorem stB_false (p : List Int) (s t : Nat) : stB p false s t = subB s t := by unfold stB; simp
/-- All rows, whatever ideal they end in, are those that go one step further to the set of all. -/
theorem wv_total (p : List Int) (k : Nat) : wvN (stB p false) (idealsN p) (k + 1) (allN p) = sumL ((idealsN p).map (wvN (stB p false) (idealsN p) k)) := by
  conv => lhs; unfold wvN
  have e : (idealsN p).filter (fun s => stB p false s (allN p)) = idealsN p := List.filter_eq_self.2 fun s hs => by rw [stB_false]; exact sub_all (mem_idealsN.1 hs).1
  rw [e]
theorem count_ev {p : List Int} (hp : PO p) {m : Nat} (hm : m ≤ 13) : Ev (fun k => impl_Poset_count.f k p (m : Int)) ((wvN (stB p false) (idealsN p) (m + 1) (allN p) : Nat) : Int) := by
  have hn := hp.small
  unfold impl_Poset_count.f
  refine Ev.bind (ideals_ev hp) (Ev.yes ⟨cntOk_ids hn, by omega, by omega⟩ (Ev.ret ?_))
  rw [Int.toNat_natCast, mpTot_ints (P := fun _ => true) (v := wvN (stB p false) (idealsN p) m) (idealsN p) (fun _ _ => rfl) (fun s hs => ?_)]
  rotate_left
  · refine cntAt_eq hn (fun a ha b hb => ?_) (fun s t h => stB_sub h) m (by omega) s hs
    rw [stB_false]
    exact cntB_eq (lt_pow (mem_idealsN.1 ha).1 (by omega)) (lt_pow (mem_idealsN.1 hb).1 (by omega))
  have hb := wvN_small hn (B := stB p false) (k := m + 1) (t := allN p) (fun s t h => stB_sub h) (by omega)
  rw [wv_total] at hb ⊢
  rw [List.filter_eq_self.2 (fun _ _ => rfl)]
  exact wid (by omega) (by omega)
end Go.Proofs.Ytemkddgfneohhaa.Q
end

section
namespace Go.Proofs.Ytemkddgfneohhaa.F
open Go.RowKit Go.Maps Go.Proofs.YtemkddgfneohhaaW.PrintWords Go.Proofs.YtemkddgfneohhaaW.PrintLast Go.Proofs.YtemkddgfneohhaaW.PrintMore
set_option linter.unusedVariables false
set_option linter.unusedSimpArgs false
/-- The row of M numbers that a function tells. -/
def rwL (M : Nat) (f : Nat → Int) : List Int := (List.range M).map f
theorem rwL_len (M : Nat) (f : Nat → Int) : (rwL M f).length = M := by simp [rwL]
theorem rwL_get {M : Nat} {f : Nat → Int} {i : Nat} (h : i < M) : rd (rwL M f) (i : Int) = f i := by
  unfold rd rwL
  rw [Int.toNat_natCast, List.getD_eq_getElem?_getD, List.getElem?_map, List.getElem?_range h]; rfl
theorem rwL_congr {M : Nat} {f g : Nat → Int} (h : ∀ i, i < M → f i = g i) : rwL M f = rwL M g := List.map_congr_left fun i hi => h i (List.mem_range.1 hi)
theorem rwL_set {M : Nat} {f : Nat → Int} {i : Nat} {x : Int} (h : i < M) : (rwL M f).set i x = rwL M fun j => if j = i then x else f j := by
  apply List.ext_getElem?
  intro j
  unfold rwL
  rw [List.getElem?_set, List.getElem?_map, List.getElem?_map, List.length_map, List.length_range]
  by_cases hj : j < M
  · rw [List.getElem?_range hj]
    by_cases e : i = j
    · subst e
      rw [if_pos rfl, if_pos h]
      simp
    · rw [if_neg e]
      simp only [Option.map_some]
      rw [if_neg (fun h => e h.symm)]
  · rw [List.getElem?_eq_none (l := List.range M) (by simpa using hj)]
    by_cases e : i = j
    · subst e; exact absurd h hj
    · rw [if_neg e]; rfl
theorem rwL_zero (M : Nat) : List.replicate M (0 : Int) = rwL M fun _ => 0 := by
  unfold rwL
  apply List.ext_getElem
  · simp
  · intro i h1 h2; simp
abbrev RwRow (w : World) (base M : Nat) (g c : Nat) (f : Nat → Int) : Prop := Kd.R (Kd.int .i64) 3 w base (fun _ => True) (.slice (some ⟨g, 0, none⟩) M c) (rwL M f)
theorem rw_cell {W : World} {base M g c : Nat} {f : Nat → Int} (h : RwRow W base M g c f) {i : Nat} (hi : i < M) : W.cell? ⟨g, i, none⟩ = some (.int .i64 (f i)) ∧ W.frozen? ⟨g, i, none⟩ = false := by
  have h2 := Kd.R_celln (0 : Int) h (i : Int) (by omega) (by omega)
  rw [Int.toNat_natCast] at h2
  refine ⟨h2.1.trans ?_, h2.2⟩
  have := rwL_get (f := f) hi
  unfold rd at this
  rw [← this]
  rfl
theorem rw_put {W : World} {base M g c : Nat} {f : Nat → Int} (h : RwRow W base M g c f) {i : Nat} (hi : i < M) (x : Int) : RwRow (W.setCell ⟨g, i, none⟩ (.int .i64 x)) base M g c (fun j => if j = i then x else f j) ∧ W.grownBy (W.setCell ⟨g, i, none⟩ (.int .i64 x)) (some g) := by
  have h0 : Kd.R (Kd.int .i64) 3 W base (fun _ => True) (.slice (some ⟨g, 0, none⟩) (rwL M f).length c) (rwL M f) := by rw [rwL_len]; exact h
  obtain ⟨h1, h2⟩ := Kd.R_put h0 (i : Int) x
  rw [Int.toNat_natCast] at h1 h2
  rw [rwL_set hi, rwL_len] at h1
  exact ⟨h1, h2⟩
theorem rw_block {W : World} {base M g c : Nat} {f : Nat → Int} (h : RwRow W base M g c f) : g < W.heap.size ∧ base ≤ g ∧ ∃ cells, W.heap[g]? = some (.cells cells 3 (0, 0)) := by
  obtain ⟨_, h1, h2, q, hq, cells, hc⟩ := (Kd.R_bound h).1 g rfl
  obtain ⟨cells', hc'⟩ := Kd.R_typed h g rfl
  exact ⟨h2, h1, cells', hc'⟩
theorem rw_move {W W1 : World} {base M g c : Nat} {f : Nat → Int} (h : RwRow W base M g c f) (hm : W1.heap[g]? = W.heap[g]?) : RwRow W1 base M g c f :=
  Kd.R_mono (Kd.R_move (Kd.R_tight rfl h) (fun k hk => by
    have : k = g := by injection hk
    rw [this]; exact hm)) (fun _ _ => trivial)
/-- How a row reads: by its block and its room. -/
def rwD (g c : Nat) : DataW Unit := .agg [.lit (.int .i64 (g : Int)), .lit (.int .i64 (c : Int))]
theorem rwD_inj {g c g' c' : Nat} (h : rwD g c = rwD g' c') : g = g' ∧ c = c' := by
  unfold rwD at h
  injection h with h
  injection h with h1 h2
  injection h1 with h1
  injection h1 with _ h1
  injection h2 with h2 _
  injection h2 with h2
  injection h2 with _ h2
  omega
def rwR (M : Nat) : Value → Option (DataW Unit × List MemPlace)
  | .slice (some ⟨g, 0, none⟩) n c => if n = M then some (rwD g c, []) else none
  | _ => none
theorem rwR_mk (M g c : Nat) : rwR M (.slice (some ⟨g, 0, none⟩) M c) = some (rwD g c, []) := by
  show (if M = M then _ else _) = _
  rw [if_pos rfl]
theorem rwR_inv {M : Nat} {v : Value} {y : DataW Unit × List MemPlace} (h : rwR M v = some y) : ∃ x : Nat × Nat, v = .slice (some ⟨x.1, 0, none⟩) M x.2 ∧ y.1 = rwD x.1 x.2 := by
  unfold rwR at h
  split at h
  · rename_i g n c
    split at h
    · rename_i e
      subst e
      injection h with h
      exact ⟨(g, c), rfl, by rw [← h]⟩
    · cases h
  · cases h
/-- What a map of rows reads as at the numbers of a list. -/
structure RwReads (w : World) (base top M : Nat) (D : DataW Unit) (ids : List Int) (v : Int → Nat → Int) : Prop where
  at_ : ∀ s ∈ ids, (∃ g c, Maps.has D (.int .i64 s) = true ∧ (∀ z, D.atKey (.int .i64 s) z = rwD g c) ∧ g < top ∧ RwRow w base M g c (v s)) ∨ (Maps.has D (.int .i64 s) = false ∧ ∀ j, v s j = 0)
  has_ : ∀ kl, Maps.has D kl = true → ∃ s ∈ ids, kl = .int .i64 s
theorem rw_keep {w w' : World} {base top M : Nat} {D : DataW Unit} {ids : List Int} {v : Int → Nat → Int} (h : RwReads w base top M D ids v) (hk : ∀ k, k < top → (∃ cells, w.heap[k]? = some (.cells cells 3 (0, 0))) → w'.heap[k]? = w.heap[k]?) : RwReads w' base top M D ids v :=
  ⟨fun s hs => by
    rcases h.at_ s hs with ⟨g, c, h1, h2, h3, h4⟩ | h1
    · exact .inl ⟨g, c, h1, h2, h3, rw_move h4 (hk g h3 (rw_block h4).2.2)⟩
    · exact .inr h1, h.has_⟩
theorem rw_up {w : World} {base top top' M : Nat} {D : DataW Unit} {ids : List Int} {v : Int → Nat → Int} (h : RwReads w base top M D ids v) (ht : top ≤ top') : RwReads w base top' M D ids v :=
  ⟨fun s hs => by
    rcases h.at_ s hs with ⟨g, c, h1, h2, h3, h4⟩ | h1
    · exact .inl ⟨g, c, h1, h2, Nat.lt_of_lt_of_le h3 ht, h4⟩
    · exact .inr h1, h.has_⟩
/-- A block that is no row is written, or one from top on. -/
theorem rw_grown {w w' : World} {base top M : Nat} {D : DataW Unit} {ids : List Int} {v : Int → Nat → Int} {row : Option Nat} (h : RwReads w base top M D ids v) (htop : top ≤ w.heap.size) (hg : w.grownBy w' row) (hr : ∀ k, row = some k → top ≤ k ∨ ∀ cells, w.heap[k]? ≠ some (.cells cells 3 (0, 0))) : RwReads w' base top M D ids v :=
  rw_keep h fun k hk hc => hg.block k (by omega) (fun e => by
    rcases hr k e.symm with h1 | h1
    · omega
    · obtain ⟨cells, hc⟩ := hc
      exact h1 cells hc)
theorem rw_below {w w' : World} {base top M : Nat} {D : DataW Unit} {ids : List Int} {v : Int → Nat → Int} (h : RwReads w base top M D ids v) (htop : top ≤ w.heap.size) (hb : Below w.heap.size w w') : RwReads w' base top M D ids v :=
  rw_keep h fun k hk _ => hb.block k (by omega)
theorem rw_nomap {H : Type} {P : Program} {k : TypeId} {R : Value → Option (DataW H × List MemPlace)} {W : World} {b n : Nat} {D : DataW H} (hm : W.ownsMap P k R b n D) : ∀ cells, W.heap[b]? ≠ some (.cells cells 3 (0, 0)) := fun cells hc => by
  obtain ⟨es, clock, hb, _⟩ := hm
  rw [hb] at hc
  cases hc
theorem rw_noiter {H : Type} {P : Program} {k : TypeId} {R : Value → Option (DataW H × List MemPlace)} {W : World} {b r n cnt : Nat} {D : DataW H} {left : Lit → Bool} (hm : W.ranges P k R b r n D left cnt) : ∀ cells, W.heap[r]? ≠ some (.cells cells 3 (0, 0)) := fun cells hc => by
  obtain ⟨es, clock, since, seen, c0, _, _, _, _, hr, _⟩ := hm
  rw [hr] at hc
  cases hc
theorem mp_normH {H : Type} {P : Program} {k : TypeId} {R : Value → Option (DataW H × List MemPlace)} {w : World} {b n : Nat} {D : DataW H} {ids : List Int} (K : Keyed P k) (h : w.ownsMap P k R b n D) (hh : ∀ kl, Maps.has D kl = true → ∃ s ∈ ids, kl = .int .i64 s) : w.ownsMap P k R b ids.length D := by
  refine mp_tight h ?_
  obtain ⟨es, rfl, hp, hk⟩ := h.entries K
  rw [Maps.size_eq]
  haveI : DecidableEq Lit := fun a b => Classical.propDecidable (a = b)
  have hn : (es.map Prod.fst).Nodup := by
    rw [List.nodup_iff_pairwise_ne, List.pairwise_map]
    exact hp
  have hsub : ∀ x ∈ es.map Prod.fst, x ∈ ids.map (Lit.int .i64) := fun x hx => by
    obtain ⟨p, hp1, rfl⟩ := List.mem_map.1 hx
    obtain ⟨s, hs, e⟩ := hh p.1 (List.any_eq_true.2 ⟨p, hp1, WideAt.sameKey_self (hk p hp1)⟩)
    rw [e]
    exact List.mem_map.2 ⟨s, hs, rfl⟩
  have := mp_nodup_le _ _ hn hsub
  rw [List.length_map, List.length_map] at this
  exact this
theorem rw_empty (w : World) (base top M : Nat) (ids : List Int) : RwReads w base top M (.map []) ids (fun _ _ => 0) := ⟨fun s _ => .inr ⟨rfl, fun _ => rfl⟩, fun kl h => by cases h⟩
theorem rw_congr {w : World} {base top M : Nat} {D : DataW Unit} {ids : List Int} {v v' : Int → Nat → Int} (h : RwReads w base top M D ids v) (e : ∀ s ∈ ids, ∀ j, (j < M ∨ Maps.has D (.int .i64 s) = false) → v s j = v' s j) : RwReads w base top M D ids v' :=
  ⟨fun s hs => by
    rcases h.at_ s hs with ⟨g, c, h1, h2, h3, h4⟩ | ⟨h1, h2⟩
    · refine .inl ⟨g, c, h1, h2, h3, ?_⟩
      have e2 : rwL M (v s) = rwL M (v' s) := rwL_congr fun j hj => e s hs j (.inl hj)
      unfold RwRow at h4 ⊢
      rwa [e2] at h4
    · exact .inr ⟨h1, fun j => by rw [← e s hs j (.inr h1)]; exact h2 j⟩, h.has_⟩
/-- A row is laid into the map. -/
theorem rw_store {w : World} {base top M : Nat} {D : DataW Unit} {ids : List Int} {v : Int → Nat → Int} (hD : Maps.IsMap D) (h : RwReads w base top M D ids v) {t : Int} (ht : t ∈ ids) {g c : Nat} (hg : g < top) {f : Nat → Int} (hr : RwRow w base M g c f) : RwReads w base top M (D.put (.int .i64 t) (rwD g c)) ids (fun s => if s = t then f else v s) := by
  refine ⟨fun s hs => ?_, fun kl hk => ?_⟩
  · by_cases e : s = t
    · subst e
      refine .inl ⟨g, c, Maps.has_put_same hD (show WideAt.IsKeyLit (.int .i64 s) from trivial) _, fun z => Maps.atKey_put_same hD (show WideAt.IsKeyLit (.int .i64 s) from trivial) _ _, hg, ?_⟩
      rw [if_pos rfl]
      exact hr
    · have hne : Lit.int .i64 s ≠ .int .i64 t := fun e2 => e (by injection e2)
      rw [if_neg e, Maps.has_put_other hne]
      rcases h.at_ s hs with ⟨g', c', h1, h2, h3, h4⟩ | h1
      · exact .inl ⟨g', c', h1, fun z => by rw [Maps.atKey_put_other hne]; exact h2 z, h3, h4⟩
      · exact .inr h1
  · by_cases e : kl = .int .i64 t
    · exact ⟨t, ht, e⟩
    · rw [Maps.has_put_other e] at hk
      exact h.has_ kl hk
/-- The row of an entry that comes. -/
theorem rw_val {w : World} {base top M : Nat} {D : DataW Unit} {ids : List Int} {v : Int → Nat → Int} (h : RwReads w base top M D ids v) {x : Int} {g c : Nat} (hk : Maps.has D (.int .i64 x) = true) (hat : ∀ z, D.atKey (.int .i64 x) z = rwD g c) : x ∈ ids ∧ g < top ∧ RwRow w base M g c (v x) := by
  obtain ⟨s, hs, e⟩ := h.has_ _ hk
  injection e with _ e
  subst e
  rcases h.at_ x hs with ⟨g', c', h1, h2, h3, h4⟩ | ⟨h1, _⟩
  · obtain ⟨rfl, rfl⟩ := rwD_inj ((hat .nil).symm.trans (h2 .nil))
    exact ⟨hs, h3, h4⟩
  · rw [hk] at h1; cases h1
theorem rw_absent {w : World} {base top M : Nat} {D : DataW Unit} {ids : List Int} {v : Int → Nat → Int} (h : RwReads w base top M D ids v) {s : Int} (hs : s ∈ ids) (hk : Maps.has D (.int .i64 s) = false) : ∀ j, v s j = 0 := by
  rcases h.at_ s hs with ⟨g, c, h1, _⟩ | ⟨_, h2⟩
  · rw [hk] at h1; cases h1
  · exact h2
theorem rw_apart {H : Type} {P : Program} {k : TypeId} {R : Value → Option (DataW H × List MemPlace)} {W : World} {b n base M g c : Nat} {D : DataW H} {f : Nat → Int} (hm : W.ownsMap P k R b n D) (h : RwRow W base M g c f) : some b ≠ some g := fun e => by
  obtain ⟨_, _, cells, hc⟩ := rw_block h
  exact rw_nomap hm cells (by rw [Option.some.inj e]; exact hc)
theorem rw_apart_iter {H : Type} {P : Program} {k : TypeId} {R : Value → Option (DataW H × List MemPlace)} {W : World} {b r n base M g c cnt : Nat} {D : DataW H} {left : Lit → Bool} {f : Nat → Int} (hm : W.ranges P k R b r n D left cnt) (h : RwRow W base M g c f) : some r ≠ some g := fun e => by
  obtain ⟨_, _, cells, hc⟩ := rw_block h
  exact rw_noiter hm cells (by rw [Option.some.inj e]; exact hc)
theorem rw_invK (key : Value) (kl : Lit) (h : keyOf Try.prog 3 key = some kl) : ∃ x, key = Value.int .i64 x := by
  obtain ⟨x, rfl, _⟩ := Maps.keyOf_int_inv Try.underlying3 h
  exact ⟨x, rfl⟩
theorem rw_invV (M : Nat) (v : Value) (y : DataW Unit × List MemPlace) (h : rwR M v = some y) : ∃ x : Nat × Nat, v = .slice (some ⟨x.1, 0, none⟩) M x.2 := by
  obtain ⟨x, e, _⟩ := rwR_inv h
  exact ⟨x, e⟩
theorem rw_fun {w : World} {base M g c : Nat} {f f' : Nat → Int} (h : RwRow w base M g c f) (e : ∀ j, j < M → f j = f' j) : RwRow w base M g c f' := by
  have e2 : rwL M f = rwL M f' := rwL_congr e
  unfold RwRow at h ⊢
  rwa [e2] at h
theorem rw_kept {w w' : World} {base M g c : Nat} {f : Nat → Int} {row : Option Nat} (h : RwRow w base M g c f) (hg : w.grownBy w' row) (hne : some g ≠ row) : RwRow w' base M g c f := rw_move h (hg.block g (rw_block h).1 hne)
theorem rw_bel {w w' : World} {base M g c : Nat} {f : Nat → Int} (h : RwRow w base M g c f) (hb : Below w.heap.size w w') : RwRow w' base M g c f := rw_move h (hb.block g (rw_block h).1)
end Go.Proofs.Ytemkddgfneohhaa.F
end

section
namespace Go.Proofs.Ytemkddgfneohhaa.F
open Go.RowKit Go.Maps Go.Proofs.YtemkddgfneohhaaW.PrintWords Go.Proofs.YtemkddgfneohhaaW.PrintLast Go.Proofs.YtemkddgfneohhaaW.PrintMore
set_option linter.unusedVariables false
set_option linter.unusedSimpArgs false
def chPos (n : Int) : Int := if n > 0 then n else 0
/-- What a row gives to the place j of a row that leaves out so many more. -/
def chTerm (out : Int) (vs : Nat → Int) (j : Nat) : Int := if out ≤ (j : Int) then chPos (vs ((j : Int) - out).toNat) else 0
/-- .. as far as its first i numbers go. -/
def chPart (out : Int) (vs : Nat → Int) (i j : Nat) : Int := if out ≤ (j : Int) ∧ (j : Int) - out < (i : Int) then chPos (vs ((j : Int) - out).toNat) else 0
def chSub (s t : Int) : Bool := Go.bits .andNot .i64 s t == 0
def chOut (p : List Int) (t : Int) : Int := wrap64 ((p.length : Int) - (impl_size.f t).getD 0)
def chNew (p ids : List Int) (v : Int → Nat → Int) (t : Int) (j : Nat) : Int := wrap64 (mpTot ids (fun s => chSub s t) (fun s => chTerm (chOut p t) (v s) j))
def chAt (p ids : List Int) : Nat → Int → Nat → Int
  | 0 => fun s j => if s = 0 then (if j = 0 then 1 else 0) else 0
  | q + 1 => chNew p ids (chAt p ids q)
def chM (p : List Int) (m : Int) : Int := wrap64 (wrap64 ((p.length : Int) * m) + 1)
structure ChOk (p ids : List Int) (m : Int) : Prop where
  ok : cntOk ids = true
  m0 : 0 ≤ m
  m1 : m ≤ 1000
  M1 : 1 ≤ chM p m
  M2 : chM p m ≤ 2000000
  sz : ∀ t ∈ ids, ∃ z, impl_size.f t = some z
  o1 : ∀ t ∈ ids, 0 ≤ chOut p t ∧ chOut p t ≤ 2000000
  rng : ∀ q : Nat, (q : Int) < m → ∀ t ∈ ids, ∀ s ∈ ids, chSub s t = true → ∀ i : Nat, (i : Int) < chM p m → 0 < chAt p ids q s i → (i : Int) + chOut p t < chM p m
def chOkB (p ids : List Int) (m : Int) : Bool := cntOk ids && (decide (0 ≤ m ∧ m ≤ 1000) && (decide (1 ≤ chM p m ∧ chM p m ≤ 2000000) && (ids.all (fun t => (impl_size.f t).isSome && decide (0 ≤ chOut p t ∧ chOut p t ≤ 2000000)) && (List.range m.toNat).all fun q => ids.all fun t => ids.all fun s => !chSub s t || (List.range (chM p m).toNat).all fun i => !decide (0 < chAt p ids q s i) || decide ((i : Int) + chOut p t < chM p m))))
theorem chOkB_iff (p ids : List Int) (m : Int) : chOkB p ids m = true ↔ ChOk p ids m := by
  unfold chOkB
  simp only [Bool.and_eq_true, decide_eq_true_eq, List.all_eq_true, List.mem_range, Bool.or_eq_true, Bool.not_eq_true', decide_eq_false_iff_not]
  constructor
  · rintro ⟨h1, ⟨h2, h3⟩, ⟨h4, h5⟩, h6, h7⟩
    refine ⟨h1, h2, h3, h4, h5, fun t ht => Option.isSome_iff_exists.1 (h6 t ht).1, fun t ht => (h6 t ht).2, fun q hq t ht s hs hst i hi h0 => ?_⟩
    rcases h7 q (by omega) t ht s hs with h | h
    · rw [hst] at h; cases h
    · rcases h i (by omega) with h | h
      · exact absurd h0 h
      · exact h
  · intro h
    refine ⟨h.ok, ⟨h.m0, h.m1⟩, ⟨h.M1, h.M2⟩, fun t ht => ⟨Option.isSome_iff_exists.2 (h.sz t ht), h.o1 t ht⟩, fun q hq t ht s hs => ?_⟩
    cases hst : chSub s t with
    | false => exact .inl rfl
    | true =>
      refine .inr fun i hi => ?_
      by_cases h0 : 0 < chAt p ids q s i
      · exact .inr (h.rng q (by omega) t ht s hs hst i (by omega) h0)
      · exact .inl h0
def chTot (p ids : List Int) (m : Int) (j : Nat) : Int := wrap64 (mpTot ids (fun _ => true) (fun s => chAt p ids m.toNat s j))
def impl_Poset_chains.f (k : Nat) (l0_0 : List Int) (a1 : Int) : Option (List Int) := (impl_Poset_ideals.f k l0_0).bind fun ids => if chOkB l0_0 ids a1 = true then some (rwL (chM l0_0 a1).toNat (chTot l0_0 ids a1)) else none
theorem impl_Poset_chains.mono : ∀ a0 a1 k, LeO (impl_Poset_chains.f k a0 a1) (impl_Poset_chains.f (k + 1) a0 a1) := fun a0 a1 k => LeO.bind (impl_Poset_ideals.mono _ _) (fun _ => LeO.refl _)
/-! The rows while they are drawn up. -/
def chS (p ids : List Int) (v : Int → Nat → Int) (t : Int) (left : Lit → Bool) (j : Nat) : Int := wrap64 (mpTot ids (fun s => chSub s t && !left (.int .i64 s)) (fun s => chTerm (chOut p t) (v s) j))
def chMid (p ids : List Int) (v : Int → Nat → Int) (i : Nat) (s : Int) (j : Nat) : Int := if s ∈ ids.take i then chNew p ids v s j else 0
theorem chPart_zero (out : Int) (vs : Nat → Int) (j : Nat) : chPart out vs 0 j = 0 := by
  unfold chPart
  rw [if_neg]
  omega
theorem chPart_step {out : Int} (ho : 0 ≤ out) (vs : Nat → Int) (i j : Nat) : chPart out vs (i + 1) j = chPart out vs i j + if (j : Int) = (i : Int) + out then chPos (vs i) else 0 := by
  unfold chPart
  by_cases e : (j : Int) = (i : Int) + out
  · rw [if_pos e, if_pos (by omega), if_neg (by omega), show ((j : Int) - out).toNat = i by omega]
    omega
  · rw [if_neg e]
    by_cases h : out ≤ (j : Int) ∧ (j : Int) - out < (i : Int)
    · rw [if_pos h, if_pos (by omega)]; omega
    · rw [if_neg h, if_neg (by omega)]; omega
theorem chPart_all {out : Int} (ho : 0 ≤ out) (vs : Nat → Int) {M j : Nat} (hj : j < M) : chPart out vs M j = chTerm out vs j := by
  unfold chPart chTerm
  by_cases h : out ≤ (j : Int)
  · rw [if_pos h, if_pos (by omega)]
  · rw [if_neg h, if_neg (by omega)]
theorem ch_start {p ids : List Int} {v : Int → Nat → Int} {w : World} {base top M : Nat} {D : DataW Unit} (h : RwReads w base top M D ids v) (t : Int) (j : Nat) : chS p ids v t (Maps.has D) j = 0 := by
  unfold chS
  rw [mpTot_none]
  · unfold wrap64; decide
  · intro s hs hp
    simp only [Bool.and_eq_true, Bool.not_eq_true'] at hp
    unfold chTerm
    rw [rw_absent h hs hp.2]
    split <;> rfl
theorem ch_step {p ids : List Int} {v : Int → Nat → Int} {t x : Int} {left : Lit → Bool} (hn : ids.Nodup) (hx : x ∈ ids) (hlx : left (.int .i64 x) = true) (j : Nat) :
    chS p ids v t (fun z => left z && !z.sameKey (.int .i64 x)) j = if chSub x t = true then wrap64 (chS p ids v t left j + chTerm (chOut p t) (v x) j) else chS p ids v t left j := by
  have := mpTot_step (v := fun s => chTerm (chOut p t) (v s) j) (x := x) (P := fun s => chSub s t && !left (.int .i64 s)) (P' := fun s => chSub s t && !(fun z : Lit => left z && !z.sameKey (.int .i64 x)) (.int .i64 s)) (by rw [hlx]; simp) (fun y hy => by show (_ && !((fun z : Lit => left z && !z.sameKey (.int .i64 x)) (.int .i64 y))) = _; rw [mp_strike left x y hy]) ids hn hx
  unfold chS
  rw [this]
  cases hb : chSub x t with
  | false =>
    rw [if_neg (by simp), if_neg (by simp)]
    congr 1; omega
  | true =>
    rw [if_pos (by rw [mp_struck]; rfl), if_pos rfl, mp_wrap_add]
theorem ch_end {p ids : List Int} {v : Int → Nat → Int} {t : Int} {left : Lit → Bool} (hl : ∀ kl, left kl = false) (j : Nat) : chS p ids v t left j = chNew p ids v t j := by
  unfold chS chNew
  congr 1
  exact mpTot_congr fun s hs => by rw [hl]; simp
theorem ch_mid {p ids : List Int} {v : Int → Nat → Int} {i : Nat} (hi : i < ids.length) (s : Int) (j : Nat) : (fun s' => if s' = ids.getD i 0 then chNew p ids v (ids.getD i 0) else chMid p ids v i s') s j = chMid p ids v (i + 1) s j := by
  have e0 : ids.take (i + 1) = ids.take i ++ [ids.getD i 0] := by
    rw [List.take_add_one, List.getElem?_eq_getElem hi, List.getD_eq_getElem?_getD, List.getElem?_eq_getElem hi]; rfl
  show (if s = ids.getD i 0 then chNew p ids v (ids.getD i 0) else chMid p ids v i s) j = _
  unfold chMid
  rw [e0]
  by_cases e : s = ids.getD i 0
  · rw [if_pos e, if_pos (List.mem_append.2 (.inr (by rw [e]; exact List.mem_singleton.2 rfl))), e]
  · rw [if_neg e]
    by_cases e2 : s ∈ ids.take i
    · have h1 : s ∈ ids.take i ++ [ids.getD i 0] := List.mem_append.2 (.inl e2)
      rw [if_pos h1, if_pos e2]
    · have h1 : ¬ s ∈ ids.take i ++ [ids.getD i 0] := fun h => by
        rcases List.mem_append.1 h with h | h
        · exact e2 h
        · exact e (List.mem_singleton.1 h)
      rw [if_neg h1, if_neg e2]
theorem ch_done {p ids : List Int} {v : Int → Nat → Int} {s : Int} (hs : s ∈ ids) (j : Nat) : chMid p ids v ids.length s j = chNew p ids v s j := by
  unfold chMid
  rw [List.take_length, if_pos hs]
/-- The totals: what the rows that have come give. -/
def chG (ids : List Int) (v : Int → Nat → Int) (left : Lit → Bool) (j : Nat) : Int := wrap64 (mpTot ids (fun s => !left (.int .i64 s)) (fun s => v s j))
theorem chG_step {ids : List Int} {v : Int → Nat → Int} {x : Int} {left : Lit → Bool} (hn : ids.Nodup) (hx : x ∈ ids) (hlx : left (.int .i64 x) = true) (j : Nat) :
    chG ids v (fun z => left z && !z.sameKey (.int .i64 x)) j = wrap64 (chG ids v left j + v x j) := by
  unfold chG
  rw [mp_wrap_add]
  congr 1
  have := mpTot_step (v := fun s => v s j) (x := x) (P := fun s => !left (.int .i64 s)) (P' := fun s => !(fun z : Lit => left z && !z.sameKey (.int .i64 x)) (.int .i64 s)) (by rw [hlx]; rfl) (fun y hy => by show (!((fun z : Lit => left z && !z.sameKey (.int .i64 x)) (.int .i64 y))) = _; rw [mp_strike left x y hy]) ids hn hx
  rw [this, if_pos (by show (!_) = true; rw [mp_struck]; rfl)]
theorem chG_start {ids : List Int} {v : Int → Nat → Int} {w : World} {base top M : Nat} {D : DataW Unit} (h : RwReads w base top M D ids v) (j : Nat) : chG ids v (Maps.has D) j = 0 := by
  unfold chG
  rw [mpTot_none]
  · unfold wrap64; decide
  · intro s hs hp
    exact rw_absent h hs (by simpa using hp) j
theorem chG_end {ids : List Int} {v : Int → Nat → Int} {left : Lit → Bool} (hl : ∀ kl, left kl = false) (j : Nat) : chG ids v left j = wrap64 (mpTot ids (fun _ => true) (fun s => v s j)) := by
  unfold chG
  congr 1
  exact mpTot_congr fun s hs => by rw [hl]; rfl
theorem ch_first (ids : List Int) (h : (0 : Int) ∈ ids) {w : World} {base top M g c : Nat} (hg : g < top) {p : List Int} (hr : RwRow w base M g c (fun j => if j = 0 then 1 else 0)) : RwReads w base top M ((DataW.map []).put (.int .i64 0) (rwD g c)) ids (chAt p ids 0) :=
  rw_congr (rw_store ⟨[], rfl⟩ (rw_empty w base top M ids) h hg hr) (fun s hs j _ => by
    unfold chAt
    by_cases e : s = 0
    · rw [if_pos e, if_pos e]
    · rw [if_neg e, if_neg e])
set_option maxHeartbeats 16000000 in
set_option maxRecDepth 100000 in
theorem impl_Poset_chains.calls (k : Nat) (A0_0 : Option Addr) (c0_0 : Nat) (l0_0 : List Int) (a1 : Int) (r : List Int) (w : World) (hr0_0 : Kd.C (Kd.int .i64) w A0_0 l0_0.length l0_0) (hc0_0 : l0_0.length ≤ c0_0) (h : impl_Poset_chains.f k l0_0 a1 = some r) :
    Calls Try.prog 48 #[.agg #[.slice A0_0 l0_0.length c0_0], .int .i64 a1] w fun e w' => ∃ v0_ : Value, e = .returned (v0_) ∧ Kd.R (Kd.int .i64) 3 w' w.heap.size (fun _ => True) v0_ r ∧ Below w.heap.size w w' := by
  have hu30 := Try.underlying30
  have hmm := @run_makeMap Try.prog
  unfold impl_Poset_chains.f at h
  obtain ⟨ids, hid, h⟩ := Option.bind_eq_some_iff.1 h
  split at h
  rotate_left
  · cases h
  rename_i hokb
  have hok := (chOkB_iff l0_0 ids a1).1 hokb
  clear hokb
  have h := Option.some.inj h
  obtain ⟨hnd, h0, hlen, hwf⟩ := cntOk_parts hok.ok
  obtain ⟨nn, hnn⟩ : ∃ x : Int, x = (l0_0.length : Int) := ⟨_, rfl⟩
  obtain ⟨M, hM⟩ : ∃ x : Nat, x = (chM l0_0 a1).toNat := ⟨_, rfl⟩
  have hM2 : wrap64 (wrap64 (nn * a1) + 1) = (M : Int) := by rw [hM, hnn]; have := hok.M1; unfold chM at this ⊢; omega
  have hpos : 0 < ids.length := List.length_pos_of_mem h0
  have hM0 : (0 : Int) < (M : Int) := by rw [hM]; have := hok.M1; omega
  have hM1 : decide ((0 : Int) < (M : Int)) = true := decide_eq_true hM0
  have hM3 : 0 < M := by omega
  have HMM : Aside0 ((M : Int) = chM l0_0 a1 ∧ 1 ≤ M ∧ M ≤ 2000000) := ⟨by have := hok.M1; have := hok.M2; omega⟩
  rw [← hM] at h
  have HRES := Aside0.mk h
  have HM2 := Aside0.mk hM2
  have HNN : Aside0 (impl_Poset_n.f l0_0 = some nn) := ⟨by rw [hnn]; rfl⟩
  have HNN2 := Aside0.mk hnn
  have HOK := Aside0.mk hok
  have HID := Aside0.mk hid
  have HND := Aside0.mk hnd
  have HZ := Aside0.mk h0
  have HLEN := Aside0.mk hlen
  have HWF := Aside0.mk hwf
  have HP := Aside0.mk hpos
  have HR0 := Aside0.mk hr0_0
  have HC := Aside0.mk hc0_0
  clear h hid hnd h0 hlen hwf hpos hr0_0 hc0_0 hok hnn hM hM2
  obtain ⟨w0, hw0⟩ : ∃ W, W = (w.alloc (.cells #[.slice A0_0 l0_0.length c0_0] 30 (0, 0))) := ⟨_, rfl⟩
  have HP0 : Aside0 (w0.heap[w.heap.size]? = some (.cells #[.slice A0_0 l0_0.length c0_0] 30 (0, 0))) := ⟨by rw [hw0]; exact blk_new w _⟩
  have HB0 : Aside0 (Below w.heap.size w w0) := ⟨by rw [hw0]; exact below_alloc (Below.refl w.heap.size w) _⟩
  have HIDC : Aside0 (Calls Try.prog 67 #[.agg #[.slice A0_0 l0_0.length c0_0]] (w.alloc (.cells #[.slice A0_0 l0_0.length c0_0] 30 (0, 0))) fun e w' => ∃ v0_ : Value, e = .returned v0_ ∧ Kd.R (Kd.int .i64) 3 w' w0.heap.size (fun _ => True) v0_ ids ∧ Below w0.heap.size w0 w') := ⟨by rw [← hw0]; exact impl_Poset_ideals.calls k A0_0 c0_0 l0_0 ids w0 (Kd.C_below HR0.out HB0.out) HC.out HID.out⟩
  clear hw0
  go_enter Try.func48, Try.ntmps48
  go_wp2_with (first
    | (go_at_call 67; (with_reducible refine HIDC.out.mono ?_); rintro e w1 ⟨vi, rfl, hr1, hb1⟩; obtain ⟨g, cap, rfl, hgb, hgl, _⟩ := Kd.R_form hr1 HP.out; have HR1 := Aside0.mk hr1; have HB1 := Aside0.mk (HB0.out.trans (hb1.mono HB0.out.size)); have HPX := Aside0.mk (blk_below HP0.out hb1); have hcp1 : (w1.alloc (.map #[] 0)).cell? ⟨w.heap.size, 0, none⟩ = some (.slice A0_0 l0_0.length c0_0) := (blk_cell (blk_alloc HPX.out _) 0).trans rfl; clear hr1 hb1 hgb)
    | (go_at_call 70; (with_reducible refine (impl_Poset_n.calls A0_0 c0_0 l0_0 nn _ (Kd.C_below HR0.out (below_alloc HB1.out _)) HC.out HNN.out).mono ?_); rintro e w2 ⟨rfl, hb2⟩; have HB2 := Aside0.mk hb2; have HBW2 := Aside0.mk (((Below.refl w1.heap.size w1).alloc (Nat.le_refl _) (.map #[] 0)).trans (hb2.mono (by simp))); clear hb2)
    | ((with_reducible refine gate_dst (N := 30) rfl ?_); refine Kd.R_make (Kd.int .i64) (w0 := w1) w1.heap.size 3 rfl (N := 30) rfl 25 _ _ rfl _ rfl rfl Try.underlying25 (.int .i64 0) 8 info3 rfl (by decide) (by omega) 0 (ok := fun _ => True) (okp := fun _ => True) rfl (fun _ hk => hk) trivial ?h0 ?hl ?hb ?hbs ?_; (case h0 => have := HM2.out; omega); (case hl => have := HM2.out; have := HMM.out; omega); (case hb => exact HBW2.out); (case hbs => exact HBW2.out.size); intro v3 w3 hr3 hb3 hg3 hnew3; rw [HM2.out, Int.toNat_natCast, rwL_zero] at hr3; obtain ⟨g3, c3, ev3, hg3b, hg3l, _⟩ := Kd.R_form hr3 (by rw [rwL_len]; exact HMM.out.2.1); rw [rwL_len] at ev3; subst ev3; have HR3 : Aside0 (RwRow w3 w1.heap.size M g3 c3 fun _ => 0) := ⟨hr3⟩; have HB3 := Aside0.mk hb3; have HG3 := Aside0.mk hg3; have hc3 := (rw_cell HR3.out (i := 0) (by have := HMM.out; omega)).1; have hf3 := (rw_cell HR3.out (i := 0) (by have := HMM.out; omega)).2; clear hr3 hb3 hg3 hnew3 hg3b hg3l)
    | ((with_reducible refine gate_store (t := 3) (p := 32) rfl ?_); refine store_event (t := 3) (p := 32) (v := ?vo) (w1 := (w3.setCell ⟨g3, 0, none⟩ (.int .i64 1))) ?hg ?ho ?hn ?hr ?_; (case ho => rfl); (case hg => rfl); (case hn => rfl); (case hr => first | (go_simp; done) | (go_simp; rfl)); intro w4 hw4; have HPUT := Aside0.mk (rw_put HR3.out (i := 0) (by have := HMM.out; omega) 1); have HR4 : Aside0 (RwRow w4 w1.heap.size M g3 c3 fun j => if j = 0 then 1 else 0) := ⟨by rw [hw4]; exact HPUT.out.1⟩; have HG4 : Aside0 (w3.grownBy w4 (some g3)) := ⟨by rw [hw4]; exact HPUT.out.2⟩; have HMAP3 : Aside0 (w3.ownsMap Try.prog 3 (rwR M) w1.heap.size 0 (.map [])) := ⟨((World.ownsMap_made w1 Try.prog 3 (rwR M)).kept (mp_grown HB2.out) (by simp)).kept HG3.out (by simp)⟩; have HMAP4 : Aside0 (w4.ownsMap Try.prog 3 (rwR M) w1.heap.size 0 (.map [])) := ⟨HMAP3.out.kept HG4.out (rw_apart HMAP3.out HR3.out)⟩; clear hw4 hc3 hf3)
    | (at_mapUpdate; refine wpList_mapUpdate_own _ rfl _ _ _ 70 rfl 3 25 mp_law Try.underlying70 (rwR M) w1.heap.size 0 (.map []) rfl HMAP4.out (by unfold maxLen; omega) _ _ _ rfl rfl (keyOf_int_mk Try.underlying3 (by decide)) _ [] (rwR_mk M g3 c3) ?_; intro w5 hown5 hgrow5; have HOWN5 := Aside0.mk hown5; have HG5 := Aside0.mk hgrow5; clear hown5 hgrow5)
    | go_in)
  have HR5 : Aside0 (RwRow w5 w1.heap.size M g3 c3 fun j => if j = 0 then 1 else 0) := ⟨rw_kept HR4.out HG5.out (fun e => rw_apart HMAP4.out HR4.out e.symm)⟩
  have HRD5 : Aside0 (RwReads w5 w1.heap.size w5.heap.size M ((DataW.map []).put (.int .i64 0) (rwD g3 c3)) ids (chAt l0_0 ids 0)) := ⟨ch_first ids HZ.out (rw_block HR5.out).1 HR5.out⟩
  have HB5 : Aside0 (Below w1.heap.size w1 w5) := ⟨(HB3.out.grown HG4.out (by have := HB3.out.size; omega) (fun j hj => by cases hj; exact (rw_block HR3.out).2.1)).grown HG5.out (by have := HB3.out.size; have := HG4.out.size; omega) (fun j hj => by cases hj; exact Nat.le_refl _)⟩
  have HD5 : Aside0 (w5.ownsMap Try.prog 3 (rwR M) w1.heap.size ids.length ((DataW.map []).put (.int .i64 0) (rwD g3 c3))) := ⟨mp_normH mp_law HOWN5.out HRD5.out.has_⟩
  clear HB2 HBW2 HR3 HB3 HG3 HPUT HR4 HG4 HMAP3 HMAP4 HOWN5 HG5 HR5 hcp1 hmm
  have hmm := @run_makeMap Try.prog
  go_loopg [6, 36] (a1.toNat + 1) (fun kq v6 v36 w' => ∃ (q b : Nat) (D : DataW Unit), v6 = .map (some b) ∧ v36 = .int .i64 (q : Int) ∧ Aside0 (kq + q = a1.toNat + 1 ∧ (q : Int) ≤ a1) ∧ Aside0 (w1.heap.size ≤ b) ∧ Aside0 (w'.ownsMap Try.prog 3 (rwR M) b ids.length D) ∧ Aside0 (RwReads w' w1.heap.size w'.heap.size M D ids (chAt l0_0 ids q)) ∧ Aside0 (Below w1.heap.size w1 w'))
  case atStart => exact ⟨0, _, _, rfl, rfl, ⟨by have := HOK.out.m0; omega⟩, ⟨Nat.le_refl _⟩, HD5, HRD5, HB5⟩
  case round =>
    obtain ⟨q, b, D, rfl, rfl, HK, HBB, HD, HRD, HBW⟩ := hrel
    obtain ⟨WA, rfl⟩ : ∃ x, x = wr := ⟨wr, rfl⟩
    cases gk with
    | zero => exact absurd HK.out (by omega)
    | succ k1 =>
      clear HRD5 HB5 HD5
      by_cases hq : (q : Int) < a1
      · have d1 : decide ((q : Int) < a1) = true := decide_eq_true hq
        have HQ := Aside0.mk hq
        go_wp2_with (fail)
        clear d1 hq
        go_loopg [41] (ids.length + 1) (fun kq v41 w' => ∃ (i : Nat) (D1 : DataW Unit), v41 = .int .i64 (i : Int) ∧ Aside0 (kq + i = ids.length + 1 ∧ i ≤ ids.length) ∧ Aside0 (w'.ownsMap Try.prog 3 (rwR M) WA.heap.size ids.length D1) ∧ Aside0 (RwReads w' w1.heap.size w'.heap.size M D1 ids (chMid l0_0 ids (chAt l0_0 ids q) i)) ∧ Aside0 (w'.ownsMap Try.prog 3 (rwR M) b ids.length D) ∧ Aside0 (RwReads w' w1.heap.size w'.heap.size M D ids (chAt l0_0 ids q)) ∧ Aside0 (Below w1.heap.size w1 w'))
        case atStart =>
          refine ⟨0, _, rfl, ⟨rfl, Nat.zero_le _⟩, ⟨(World.ownsMap_made WA Try.prog 3 _).mono (Nat.zero_le _)⟩, ⟨rw_congr (rw_empty _ _ _ _ _) (fun s _ j _ => by unfold chMid; rw [if_neg (by simp)])⟩, ⟨HD.out.alloc _⟩, ⟨?_⟩, ⟨HBW.out.alloc HBW.out.size _⟩⟩
          exact rw_up (rw_below HRD.out (Nat.le_refl _) (below_alloc (Below.refl _ _) _)) (by simp)
        case round =>
          obtain ⟨i, D1, rfl, HK2, HD1, HRD1, HD0, HRD0, HBW1⟩ := hrel
          obtain ⟨WB, rfl⟩ : ∃ x, x = wr := ⟨wr, rfl⟩
          cases gk with
          | zero => exact absurd HK2.out (by omega)
          | succ k2 =>
            by_cases hi : i < ids.length
            · have hcell := mp_cell HR1.out HBW1.out i hi
              have hmem : ids.getD i 0 ∈ ids := by rw [List.getD_eq_getElem?_getD, List.getElem?_eq_getElem hi]; exact List.getElem_mem hi
              obtain ⟨t, ht⟩ : ∃ t, t = ids.getD i 0 := ⟨_, rfl⟩
              rw [← ht] at hcell hmem
              have HTE := Aside0.mk ht
              have HTM := Aside0.mk hmem
              obtain ⟨sz, hsz⟩ := HOK.out.sz t hmem
              have HSZ := Aside0.mk hsz
              obtain ⟨out, hout⟩ : ∃ x, x = wrap64 (nn - sz) := ⟨_, rfl⟩
              have HOE : Aside0 (out = chOut l0_0 t) := ⟨by unfold chOut; rw [hsz, Option.getD_some, ← HNN2.out]; exact hout⟩
              have HO1 : Aside0 (0 ≤ out ∧ out ≤ 2000000) := ⟨by rw [HOE.out]; exact HOK.out.o1 t hmem⟩
              have hout' : wrap64 (nn - sz) = out := hout.symm
              have hcpB : WB.cell? ⟨w.heap.size, 0, none⟩ = some (.slice A0_0 l0_0.length c0_0) := (blk_cell (blk_below HPX.out HBW1.out) 0).trans rfl
              clear ht hmem hsz hout
              have e1 : (0 : Int) ≤ (i : Int) := by omega
              have e2 : (i : Int) < (ids.length : Int) := by omega
              have e3 : decide ((i : Int) < (ids.length : Int)) = true := decide_eq_true e2
              have e4 : decide (i < ids.length) = true := decide_eq_true hi
              have e5 := eq_true hi
              have HI := Aside0.mk hi
              have HFIRST : Aside0 True := ⟨trivial⟩
              clear hi
              go_wp2_with (first
                | (go_at_call 70; clear HFIRST; (with_reducible refine (impl_Poset_n.calls A0_0 c0_0 l0_0 nn _ (Kd.C_below HR0.out (HB1.out.trans (HBW1.out.mono HB1.out.size))) HC.out HNN.out).mono ?_); rintro e w2 ⟨rfl, hb2⟩; have HB2 := Aside0.mk hb2; have HBW2 := Aside0.mk (HBW1.out.trans (hb2.mono HBW1.out.size)); clear hb2)
                | ((with_reducible refine gate_dst (N := 50) rfl ?_); refine Kd.R_make (Kd.int .i64) (w0 := w1) w1.heap.size 3 rfl (N := 50) rfl 25 _ _ rfl _ rfl rfl Try.underlying25 (.int .i64 0) 8 info3 rfl (by decide) (by omega) 0 (ok := fun _ => True) (okp := fun _ => True) rfl (fun _ hk => hk) trivial ?h0 ?hl ?hb ?hbs ?_; (case h0 => have := HM2.out; omega); (case hl => have := HM2.out; have := HMM.out; omega); (case hb => exact HBW2.out); (case hbs => exact HBW2.out.size); intro v3 w3 hr3 hb3 hg3 hnew3; rw [HM2.out, Int.toNat_natCast, rwL_zero] at hr3; obtain ⟨go, co, ev3, hg3b, hg3l, _⟩ := Kd.R_form hr3 (by rw [rwL_len]; exact HMM.out.2.1); rw [rwL_len] at ev3; subst ev3; have HR3 : Aside0 (RwRow w3 w1.heap.size M go co fun _ => 0) := ⟨hr3⟩; have HB3 := Aside0.mk hb3; have HG3 := Aside0.mk hg3; have HGO : Aside0 (w2.heap.size ≤ go) := ⟨by obtain ⟨x, hx1, hx2⟩ := hnew3; have hx3 : some go = some x := hx1; injection hx3 with hx3; omega⟩; have hcp3 : w3.cell? ⟨w.heap.size, 0, none⟩ = some (.slice A0_0 l0_0.length c0_0) := (blk_cell (blk_below HPX.out HB3.out) 0).trans rfl; clear hr3 hb3 hg3 hnew3 hg3b hg3l)
                | (go_at_call 70; (with_reducible refine (impl_Poset_n.calls A0_0 c0_0 l0_0 nn _ (Kd.C_below HR0.out (HB1.out.trans (HB3.out.mono HB1.out.size))) HC.out HNN.out).mono ?_); rintro e w4 ⟨rfl, hb4⟩; have HB4 := Aside0.mk hb4; clear hb4)
                | (go_at_call 72; (with_reducible refine (impl_size.calls t sz _ HSZ.out).mono ?_); rintro e w5 ⟨rfl, hd5⟩; have HB5 : Aside0 (Below w4.heap.size w4 w5) := ⟨by obtain ⟨nd, rfl⟩ := hd5; exact pw_below_drewN (Below.refl _ _) nd⟩; have HG35 : Aside0 (w2.grownBy w5 none) := ⟨(HG3.out.andThen (mp_grown HB4.out) (by simp)).andThen (mp_grown HB5.out) (by simp)⟩; have HB25 : Aside0 (Below WB.heap.size WB w5) := ⟨HB2.out.trans (Below.mono ⟨HG35.out.os, HG35.out.tape, HG35.out.output, HG35.out.size, fun j hj => HG35.out.block j hj (by simp)⟩ HB2.out.size)⟩; have HD05 := Aside0.mk (HD0.out.kept (mp_grown HB25.out) (by simp)); clear hd5)
                | (at_range; refine wpList_range_own _ rfl _ 70 rfl 3 25 mp_law Try.underlying70 _ b ids.length D rfl HD05.out ?_; intro w6 hrg0 hg0 hs0; have HRG0 := Aside0.mk hrg0; have HG0 := Aside0.mk hg0; clear hrg0 hg0 hs0)
                | go_in)
              go_frame
              clear hcell e1 e2 e3 e4 e5 hcpB hcp3
              obtain ⟨ri, hri⟩ : ∃ x, x = w5.heap.size := ⟨_, rfl⟩
              rw [← hri] at HRG0 ⊢
              have HNUM : Aside0 (WA.heap.size < WB.heap.size ∧ WB.heap.size ≤ ri ∧ b < WA.heap.size ∧ w1.heap.size ≤ WA.heap.size ∧ WB.heap.size ≤ go ∧ WB.heap.size ≤ w6.heap.size) := ⟨by have h1 := HD1.out.lt; have h2 := HD.out.lt; have h3 := HBW.out.size; have h4 := HB25.out.size; have h5 := HGO.out; have h6 := HB2.out.size; have h7 := HG0.out.size; omega⟩
              have HROW6 : Aside0 (RwRow w6 w1.heap.size M go co (chS l0_0 ids (chAt l0_0 ids q) t (Maps.has D))) := ⟨rw_fun (rw_kept (rw_bel (rw_bel HR3.out HB4.out) HB5.out) HG0.out (by simp)) (fun j _ => (ch_start HRD0.out t j).symm)⟩
              have HD16 : Aside0 (w6.ownsMap Try.prog 3 (rwR M) WA.heap.size ids.length D1) := ⟨(HD1.out.kept (mp_grown HB25.out) (by simp)).kept HG0.out (by simp)⟩
              have HRD16 : Aside0 (RwReads w6 w1.heap.size WB.heap.size M D1 ids (chMid l0_0 ids (chAt l0_0 ids q) i)) := ⟨rw_grown (rw_below HRD1.out (Nat.le_refl _) HB25.out) HB25.out.size HG0.out (fun k hk => by cases hk)⟩
              have HRD06 : Aside0 (RwReads w6 w1.heap.size WB.heap.size M D ids (chAt l0_0 ids q)) := ⟨rw_grown (rw_below HRD0.out (Nat.le_refl _) HB25.out) HB25.out.size HG0.out (fun k hk => by cases hk)⟩
              have HBW6 : Aside0 (Below w1.heap.size w1 w6) := ⟨(HBW1.out.trans (HB25.out.mono HBW1.out.size)).grown HG0.out (by have := HBW1.out.size; have := HB25.out.size; omega) (fun j hj => by cases hj)⟩
              rw [hout']
              clear hri HB2 HBW2 HR3 HB3 HG3 HGO HB4 HB5 HG35 HB25 HD05 HG0 HSZ hout'
              go_loopg [13] (Maps.size D + 1) (fun kq _ w' => ∃ (left : Lit → Bool) (cnt : Nat), Aside0 (kq = cnt + 1) ∧ Aside0 (w'.ranges Try.prog 3 (rwR M) b ri ids.length D left cnt) ∧ Aside0 (RwRow w' w1.heap.size M go co (chS l0_0 ids (chAt l0_0 ids q) t left)) ∧ Aside0 (w'.ownsMap Try.prog 3 (rwR M) WA.heap.size ids.length D1) ∧ Aside0 (RwReads w' w1.heap.size WB.heap.size M D1 ids (chMid l0_0 ids (chAt l0_0 ids q) i)) ∧ Aside0 (RwReads w' w1.heap.size WB.heap.size M D ids (chAt l0_0 ids q)) ∧ Aside0 (Below w1.heap.size w1 w' ∧ WB.heap.size ≤ w'.heap.size))
              case atStart => exact ⟨_, _, ⟨rfl⟩, HRG0, HROW6, HD16, HRD16, HRD06, ⟨HBW6.out, HNUM.out.2.2.2.2.2⟩⟩
              case round =>
                obtain ⟨left, cnt, HK3, HRG, HROW, HD1c, HRD1c, HRD0c, HBWc⟩ := hrel
                obtain ⟨WC, rfl⟩ : ∃ x, x = wr := ⟨wr, rfl⟩
                clear HRG0 HROW6 HD16 HRD16 HRD06 HBW6
                go_wp2_with (first
                  | (at_next; refine wpList_next_ranges _ rfl _ rfl 3 mp_law (rwR M) (Value.int .i64) (fun x : Nat × Nat => Value.slice (some ⟨x.1, 0, none⟩) M x.2) rw_invK (rw_invV M) b ri ids.length D left cnt rfl HRG.out ?_ ?_)
                  | go_in)
                · intro hc0 hl0
                  have hwi : wrap64 ((i : Int) + 1) = ((i + 1 : Nat) : Int) := by unfold wrap64; have := HI.out; have := HLEN.out; omega
                  have HL0 := Aside0.mk hl0
                  clear hc0 hl0
                  go_wp2_with (first
                    | (at_mapUpdate; refine wpList_mapUpdate_own _ rfl _ _ _ 70 rfl 3 25 mp_law Try.underlying70 (rwR M) WA.heap.size ids.length D1 rfl HD1c.out (by have := HLEN.out; unfold maxLen; omega) _ _ _ rfl rfl (keyOf_int_mk Try.underlying3 (mp_wf (HWF.out t HTM.out))) _ [] (rwR_mk M go co) ?_; intro wE hownE hgrowE; have HOWNE := Aside0.mk hownE; have HGE := Aside0.mk hgrowE; clear hownE hgrowE)
                    | go_in)
                  have HROWE : Aside0 (RwRow wE w1.heap.size M go co (chNew l0_0 ids (chAt l0_0 ids q) t)) := ⟨rw_fun (rw_kept HROW.out HGE.out (fun e => rw_apart HD1c.out HROW.out e.symm)) (fun j _ => ch_end HL0.out j)⟩
                  have HRDE : Aside0 (RwReads wE w1.heap.size wE.heap.size M (D1.put (.int .i64 t) (rwD go co)) ids (chMid l0_0 ids (chAt l0_0 ids q) (i + 1))) := ⟨rw_congr (rw_store HD1c.out.isMap (rw_up (rw_grown HRD1c.out HBWc.out.2 HGE.out (fun k hk => by cases hk; exact .inr (rw_nomap HD1c.out))) (by have := HBWc.out.2; have := HGE.out.size; omega)) HTM.out (rw_block HROWE.out).1 HROWE.out) (fun s hs j _ => by have := ch_mid (p := l0_0) (v := chAt l0_0 ids q) HI.out s j; rw [← HTE.out] at this; exact this)⟩
                  go_roundg k2
                  case measure => omega
                  case rel =>
                    exact ⟨i + 1, _, by rw [hwi], ⟨by have := HK2.out; have := HI.out; omega⟩, ⟨mp_normH mp_law HOWNE.out HRDE.out.has_⟩, HRDE, ⟨HRG.out.owns.kept HGE.out (by have := HNUM.out; intro e; have := Option.some.inj e; omega)⟩, ⟨rw_up (rw_grown HRD0c.out HBWc.out.2 HGE.out (fun k hk => by cases hk; exact .inr (rw_nomap HD1c.out))) (by have := HBWc.out.2; have := HGE.out.size; omega)⟩, ⟨HBWc.out.1.grown HGE.out HBWc.out.1.size (fun j hj => by cases hj; exact HNUM.out.2.2.2.1)⟩⟩
                · intro x xg xc kl d ps wn cnt1 hkx hlx hRv hat hrg1 hlt hg1 hs1 hen
                  rw [rwR_mk] at hRv
                  obtain ⟨rfl, rfl⟩ : rwD xg xc = d ∧ [] = ps := by simpa using hRv
                  obtain ⟨x', ex, rfl, hwx⟩ := Maps.keyOf_int_inv Try.underlying3 hkx
                  cases ex
                  have HX := Aside0.mk (rw_val HRD0c.out (Maps.has_true_of_atKey hat) hat)
                  have HXR : Aside0 (RwRow wn w1.heap.size M xg xc (chAt l0_0 ids q x)) := ⟨rw_kept HX.out.2.2 hg1 (fun e => by have := HNUM.out; have := HX.out.2.1; have := Option.some.inj e; omega)⟩
                  have HLX := Aside0.mk hlx
                  have HRG1 := Aside0.mk hrg1
                  have HLT := Aside0.mk hlt
                  have HROWn : Aside0 (RwRow wn w1.heap.size M go co (chS l0_0 ids (chAt l0_0 ids q) t left)) := ⟨rw_kept HROW.out hg1 (fun e => rw_apart_iter HRG.out HROW.out e.symm)⟩
                  have HD1n := Aside0.mk (HD1c.out.kept hg1 (by have := HNUM.out; intro e; have := Option.some.inj e; omega))
                  have HRD1n := Aside0.mk (rw_grown HRD1c.out HBWc.out.2 hg1 (fun k hk => by cases hk; exact .inr (rw_noiter HRG.out)))
                  have HRD0n := Aside0.mk (rw_grown HRD0c.out HBWc.out.2 hg1 (fun k hk => by cases hk; exact .inr (rw_noiter HRG.out)))
                  have HBWn : Aside0 (Below w1.heap.size w1 wn ∧ WB.heap.size ≤ wn.heap.size) := ⟨HBWc.out.1.grown hg1 HBWc.out.1.size (fun j hj => by cases hj; have := HNUM.out; omega), by have := HBWc.out.2; have := hg1.size; omega⟩
                  clear hkx hlx hRv hat hrg1 hlt hg1 hs1 hwx
                  cases hb : (Go.bits .andNot .i64 x t == 0) with
                  | false =>
                    have HB0 : Aside0 (chSub x t = false) := ⟨hb⟩
                    have hbn : (Go.bits .andNot .i64 x t != 0) = true := by unfold bne; rw [hb]; rfl
                    go_wp2_with (fail)
                    go_roundg (cnt1 + 1)
                    case measure => have := HK3.out; have := HLT.out; omega
                    case rel => exact ⟨_, cnt1, ⟨rfl⟩, HRG1, ⟨rw_fun HROWn.out (fun j _ => by rw [ch_step HND.out HX.out.1 HLX.out j, if_neg (by rw [HB0.out]; simp)])⟩, HD1n, HRD1n, HRD0n, HBWn⟩
                  | true =>
                    have HB0 : Aside0 (chSub x t = true) := ⟨hb⟩
                    have hbn : (Go.bits .andNot .i64 x t != 0) = false := by unfold bne; rw [hb]; rfl
                    go_wp2_with (fail)
                    clear hb hbn hen
                    go_loopg [69] (M + 1) (fun kq v69 w' => ∃ (j : Nat), v69 = .int .i64 (j : Int) ∧ Aside0 (kq + j = M + 1 ∧ j ≤ M) ∧ Aside0 (RwRow w' w1.heap.size M go co (fun y => wrap64 (chS l0_0 ids (chAt l0_0 ids q) t left y + chPart out (chAt l0_0 ids q x) j y))) ∧ Aside0 (wn.grownBy w' (some go)))
                    case atStart => exact ⟨0, rfl, ⟨rfl, Nat.zero_le _⟩, ⟨rw_fun HROWn.out (fun y _ => by rw [chPart_zero]; unfold chS; rw [mp_wrap_add, Int.add_zero])⟩, ⟨World.grownBy.refl _ _⟩⟩
                    case round =>
                      obtain ⟨j, rfl, HK4, HROWk, HGK⟩ := hrel
                      obtain ⟨WD, rfl⟩ : ∃ x, x = wr := ⟨wr, rfl⟩
                      cases gk with
                      | zero => exact absurd HK4.out (by omega)
                      | succ k4 =>
                        by_cases hj : j < M
                        · have HJ := Aside0.mk hj
                          have HXRk := Aside0.mk (rw_kept HXR.out HGK.out (fun e => by have := HNUM.out; have := HX.out.2.1; have := Option.some.inj e; omega))
                          have hcl := (rw_cell HXRk.out hj).1
                          obtain ⟨n, hn⟩ : ∃ n, n = chAt l0_0 ids q x j := ⟨_, rfl⟩
                          rw [← hn] at hcl
                          have HNE := Aside0.mk hn
                          have e1 : (0 : Int) ≤ (j : Int) := by omega
                          have e2 : (j : Int) < (M : Int) := by omega
                          have e3 : decide ((j : Int) < (M : Int)) = true := decide_eq_true e2
                          have e4 : decide (j < M) = true := decide_eq_true hj
                          have e5 := eq_true hj
                          have HWJ : Aside0 (wrap64 ((j : Int) + 1) = ((j + 1 : Nat) : Int)) := ⟨by unfold wrap64; have := HMM.out; omega⟩
                          clear hn hj
                          by_cases hp : 0 < n
                          · have p1 : decide (0 < n) = true := decide_eq_true hp
                            have p2 : decide (n > 0) = true := decide_eq_true hp
                            obtain ⟨jo, hjo⟩ : ∃ x : Nat, x = ((j : Int) + out).toNat := ⟨_, rfl⟩
                            have HJO : Aside0 ((jo : Int) = (j : Int) + out ∧ jo < M) := ⟨by
                              have h1 := HO1.out
                              have h2 := HOK.out.rng q HQ.out t HTM.out x HX.out.1 HB0.out j (by have := HMM.out; have := HJ.out; omega) (by rw [← HNE.out]; exact hp)
                              rw [← HOE.out] at h2
                              have := HMM.out
                              omega⟩
                            have hidx : wrap64 ((j : Int) + out) = (jo : Int) := by have h1 := HJO.out; have h2 := HMM.out; unfold wrap64; omega
                            have hco := (rw_cell HROWk.out HJO.out.2).1
                            have hfo := (rw_cell HROWk.out HJO.out.2).2
                            obtain ⟨uo, huo⟩ : ∃ n, n = wrap64 (chS l0_0 ids (chAt l0_0 ids q) t left jo + chPart out (chAt l0_0 ids q x) j jo) := ⟨_, rfl⟩
                            rw [← huo] at hco
                            have HUO := Aside0.mk huo
                            have f1 : (0 : Int) ≤ (jo : Int) := by omega
                            have f2 : (jo : Int) < (M : Int) := by have := HJO.out; omega
                            have f3 : decide ((jo : Int) < (M : Int)) = true := decide_eq_true f2
                            have f4 : decide (jo < M) = true := decide_eq_true HJO.out.2
                            have f5 := eq_true HJO.out.2
                            clear hjo huo
                            have HPUT := Aside0.mk (rw_put HROWk.out HJO.out.2 (wrap64 (uo + n)))
                            go_wp2_with (fail)
                            go_roundg k4
                            case measure => omega
                            case rel =>
                              refine ⟨j + 1, by rw [HWJ.out], ⟨by have := HK4.out; have := HJ.out; omega⟩, ⟨rw_fun HPUT.out.1 (fun y hy => ?_)⟩, ⟨HGK.out.trans HPUT.out.2⟩⟩
                              show (if y = jo then wrap64 (uo + n) else _) = wrap64 (_ + chPart out (chAt l0_0 ids q x) (j + 1) y)
                              rw [chPart_step HO1.out.1, ← HNE.out]
                              have hpn : chPos n = n := by unfold chPos; rw [if_pos hp]
                              by_cases ey : y = jo
                              · rw [if_pos ey, if_pos (by rw [ey]; exact HJO.out.1), HUO.out, hpn, mp_wrap_add, ey]
                                congr 1; omega
                              · rw [if_neg ey, if_neg (fun e => ey (by have := HJO.out.1; omega)), Int.add_zero]
                          · have p1 : decide (0 < n) = false := decide_eq_false hp
                            have p2 : decide (n > 0) = false := decide_eq_false hp
                            go_wp2_with (fail)
                            go_roundg k4
                            case measure => omega
                            case rel =>
                              refine ⟨j + 1, by rw [HWJ.out], ⟨by have := HK4.out; have := HJ.out; omega⟩, ⟨rw_fun HROWk.out (fun y hy => ?_)⟩, HGK⟩
                              show _ = wrap64 (_ + chPart out (chAt l0_0 ids q x) (j + 1) y)
                              rw [chPart_step HO1.out.1, ← HNE.out]
                              have hpn : chPos n = 0 := by unfold chPos; rw [if_neg (by omega)]
                              rw [hpn, ite_self, Int.add_zero]
                        · have HJE : Aside0 (j = M) := ⟨by have := HK4.out; omega⟩
                          have e3 : decide ((j : Int) < (M : Int)) = false := decide_eq_false (by omega)
                          have e4 : decide (j < M) = false := decide_eq_false hj
                          have e5 : (j < M) = False := eq_false hj
                          clear hj
                          go_wp2_with (fail)
                          go_roundg (cnt1 + 1)
                          case measure => have := HK3.out; have := HLT.out; omega
                          case rel =>
                            refine ⟨_, cnt1, ⟨rfl⟩, ⟨HRG1.out.kept HGK.out (rw_apart HRG1.out.owns HROWn.out) (rw_apart_iter HRG1.out HROWn.out)⟩, ⟨rw_fun HROWk.out (fun y hy => ?_)⟩, ⟨HD1n.out.kept HGK.out (rw_apart HD1n.out HROWn.out)⟩, ⟨rw_grown HRD1n.out HBWn.out.2 HGK.out (fun k hk => by cases hk; exact .inl HNUM.out.2.2.2.2.1)⟩, ⟨rw_grown HRD0n.out HBWn.out.2 HGK.out (fun k hk => by cases hk; exact .inl HNUM.out.2.2.2.2.1)⟩, ⟨HBWn.out.1.grown HGK.out HBWn.out.1.size (fun z hz => by cases hz; have := HNUM.out; omega), by have := HBWn.out.2; have := HGK.out.size; omega⟩⟩
                            rw [HJE.out, chPart_all HO1.out.1 _ hy, ch_step HND.out HX.out.1 HLX.out y, if_pos HB0.out, HOE.out]
            · have hi' : i = ids.length := by have := HK2.out; omega
              have e3 : decide ((i : Int) < (ids.length : Int)) = false := decide_eq_false (by omega)
              have e4 : decide (i < ids.length) = false := decide_eq_false hi
              have e5 : (i < ids.length) = False := eq_false hi
              have HWQ : Aside0 (wrap64 ((q : Int) + 1) = ((q + 1 : Nat) : Int)) := ⟨by unfold wrap64; have := HQ.out; have := HOK.out.m1; omega⟩
              have HE := Aside0.mk hi'
              clear hi hi'
              go_wp2_with (fail)
              go_roundg k1
              case measure => omega
              case rel => exact ⟨q + 1, _, D1, rfl, by rw [HWQ.out], ⟨by have := HK.out; have := HQ.out; omega⟩, ⟨HBW.out.size⟩, HD1, ⟨rw_congr HRD1.out (fun s hs j _ => by rw [HE.out, ch_done hs j]; rfl)⟩, HBW1⟩
      · have HQE : Aside0 ((q : Int) = a1) := ⟨by have := HK.out; omega⟩
        have d1 : decide ((q : Int) < a1) = false := decide_eq_false hq
        have hcpA : WA.cell? ⟨w.heap.size, 0, none⟩ = some (.slice A0_0 l0_0.length c0_0) := (blk_cell (blk_below HPX.out HBW.out) 0).trans rfl
        clear hq
        go_wp2_with (first
          | (go_at_call 70; (with_reducible refine (impl_Poset_n.calls A0_0 c0_0 l0_0 nn _ (Kd.C_below HR0.out (HB1.out.trans (HBW.out.mono HB1.out.size))) HC.out HNN.out).mono ?_); rintro e w2 ⟨rfl, hb2⟩; have HB2 := Aside0.mk hb2; have HBW2 := Aside0.mk (HBW.out.trans (hb2.mono HBW.out.size)); clear hb2)
          | ((with_reducible refine gate_dst (N := 97) rfl ?_); refine Kd.R_make (Kd.int .i64) (w0 := w1) w1.heap.size 3 rfl (N := 97) rfl 25 _ _ rfl _ rfl rfl Try.underlying25 (.int .i64 0) 8 info3 rfl (by decide) (by omega) 0 (ok := fun _ => True) (okp := fun _ => True) rfl (fun _ hk => hk) trivial ?h0 ?hl ?hb ?hbs ?_; (case h0 => have := HM2.out; omega); (case hl => have := HM2.out; have := HMM.out; omega); (case hb => exact HBW2.out); (case hbs => exact HBW2.out.size); intro v3 w3 hr3 hb3 hg3 hnew3; rw [HM2.out, Int.toNat_natCast, rwL_zero] at hr3; obtain ⟨go, co, ev3, hg3b, hg3l, _⟩ := Kd.R_form hr3 (by rw [rwL_len]; exact HMM.out.2.1); rw [rwL_len] at ev3; subst ev3; have HR3 : Aside0 (RwRow w3 w1.heap.size M go co fun _ => 0) := ⟨hr3⟩; have HB3 := Aside0.mk hb3; have HG3 := Aside0.mk hg3; have HGO : Aside0 (w2.heap.size ≤ go) := ⟨by obtain ⟨x, hx1, hx2⟩ := hnew3; have hx3 : some go = some x := hx1; injection hx3 with hx3; omega⟩; have HD03 := Aside0.mk ((HD.out.kept (mp_grown HB2.out) (by simp)).kept hg3 (by simp)); clear hr3 hb3 hg3 hnew3 hg3b hg3l)
          | (at_range; refine wpList_range_own _ rfl _ 70 rfl 3 25 mp_law Try.underlying70 _ b ids.length D rfl HD03.out ?_; intro w6 hrg0 hg0 hs0; have HRG0 := Aside0.mk hrg0; have HG0 := Aside0.mk hg0; clear hrg0 hg0 hs0)
          | go_in)
        go_frame
        clear d1 hcpA
        obtain ⟨ri, hri⟩ : ∃ x, x = w3.heap.size := ⟨_, rfl⟩
        rw [← hri] at HRG0 ⊢
        have HNUM : Aside0 (WA.heap.size ≤ ri ∧ b < WA.heap.size ∧ w1.heap.size ≤ WA.heap.size ∧ WA.heap.size ≤ go ∧ WA.heap.size ≤ w6.heap.size) := ⟨by have h2 := HD.out.lt; have h3 := HBW.out.size; have h5 := HGO.out; have h6 := HB2.out.size; have h7 := HG0.out.size; have h8 := HG3.out.size; omega⟩
        have HTOT6 : Aside0 (RwRow w6 w1.heap.size M go co (chG ids (chAt l0_0 ids q) (Maps.has D))) := ⟨rw_fun (rw_kept HR3.out HG0.out (by simp)) (fun j _ => (chG_start HRD.out j).symm)⟩
        have HRD6 : Aside0 (RwReads w6 w1.heap.size WA.heap.size M D ids (chAt l0_0 ids q)) := ⟨rw_grown (rw_grown (rw_below HRD.out (Nat.le_refl _) HB2.out) HB2.out.size HG3.out (fun k hk => by cases hk)) (by have := HB2.out.size; have := HG3.out.size; omega) HG0.out (fun k hk => by cases hk)⟩
        have HBW6 : Aside0 (Below w1.heap.size w1 w6) := ⟨HB3.out.grown HG0.out HB3.out.size (fun j hj => by cases hj)⟩
        clear hri HB2 HBW2 HR3 HB3 HG3 HGO HD03 HG0
        go_loopg [19] (Maps.size D + 1) (fun kq _ w' => ∃ (left : Lit → Bool) (cnt : Nat), Aside0 (kq = cnt + 1) ∧ Aside0 (w'.ranges Try.prog 3 (rwR M) b ri ids.length D left cnt) ∧ Aside0 (RwRow w' w1.heap.size M go co (chG ids (chAt l0_0 ids q) left)) ∧ Aside0 (RwReads w' w1.heap.size WA.heap.size M D ids (chAt l0_0 ids q)) ∧ Aside0 (Below w1.heap.size w1 w' ∧ WA.heap.size ≤ w'.heap.size))
        case atStart => exact ⟨_, _, ⟨rfl⟩, HRG0, HTOT6, HRD6, ⟨HBW6.out, HNUM.out.2.2.2.2⟩⟩
        case round =>
          obtain ⟨left, cnt, HK3, HRG, HROW, HRD0c, HBWc⟩ := hrel
          obtain ⟨WC, rfl⟩ : ∃ x, x = wr := ⟨wr, rfl⟩
          clear HRG0 HTOT6 HRD6 HBW6
          go_wp2_with (first
            | (at_next; refine wpList_next_ranges _ rfl _ rfl 3 mp_law (rwR M) (Value.int .i64) (fun x : Nat × Nat => Value.slice (some ⟨x.1, 0, none⟩) M x.2) rw_invK (rw_invV M) b ri ids.length D left cnt rfl HRG.out ?_ ?_)
            | go_in)
          · intro hc0 hl0
            have HL0 := Aside0.mk hl0
            clear hc0 hl0
            go_wp2_with (fail)
            go_ret
            have e : rwL M (chG ids (chAt l0_0 ids q) left) = r := by
              rw [← HRES.out]
              refine rwL_congr fun j _ => ?_
              rw [chG_end HL0.out]
              unfold chTot
              rw [← HQE.out, Int.toNat_natCast]
            have hR := HROW.out
            unfold RwRow at hR
            rw [e] at hR
            exact ⟨_, rfl, Kd.R_lower hR HB1.out.size, HB1.out.trans (HBWc.out.1.mono HB1.out.size)⟩
          · intro x xg xc kl d ps wn cnt1 hkx hlx hRv hat hrg1 hlt hg1 hs1 hen
            rw [rwR_mk] at hRv
            obtain ⟨rfl, rfl⟩ : rwD xg xc = d ∧ [] = ps := by simpa using hRv
            obtain ⟨x', ex, rfl, hwx⟩ := Maps.keyOf_int_inv Try.underlying3 hkx
            cases ex
            have HX := Aside0.mk (rw_val HRD0c.out (Maps.has_true_of_atKey hat) hat)
            have HXR : Aside0 (RwRow wn w1.heap.size M xg xc (chAt l0_0 ids q x)) := ⟨rw_kept HX.out.2.2 hg1 (fun e => by have := HNUM.out; have := HX.out.2.1; have := Option.some.inj e; omega)⟩
            have HLX := Aside0.mk hlx
            have HRG1 := Aside0.mk hrg1
            have HLT := Aside0.mk hlt
            have HROWn : Aside0 (RwRow wn w1.heap.size M go co (chG ids (chAt l0_0 ids q) left)) := ⟨rw_kept HROW.out hg1 (fun e => rw_apart_iter HRG.out HROW.out e.symm)⟩
            have HRD0n := Aside0.mk (rw_grown HRD0c.out HBWc.out.2 hg1 (fun k hk => by cases hk; exact .inr (rw_noiter HRG.out)))
            have HBWn : Aside0 (Below w1.heap.size w1 wn ∧ WA.heap.size ≤ wn.heap.size) := ⟨HBWc.out.1.grown hg1 HBWc.out.1.size (fun j hj => by cases hj; have := HNUM.out; omega), by have := HBWc.out.2; have := hg1.size; omega⟩
            clear hkx hlx hRv hat hrg1 hlt hg1 hs1 hwx
            go_wp2_with (fail)
            clear hen
            go_loopg [106] (M + 1) (fun kq v106 w' => ∃ (j : Nat), v106 = .int .i64 (j : Int) ∧ Aside0 (kq + j = M + 1 ∧ j ≤ M) ∧ Aside0 (RwRow w' w1.heap.size M go co (fun y => if y < j then wrap64 (chG ids (chAt l0_0 ids q) left y + chAt l0_0 ids q x y) else chG ids (chAt l0_0 ids q) left y)) ∧ Aside0 (wn.grownBy w' (some go)))
            case atStart => exact ⟨0, rfl, ⟨rfl, Nat.zero_le _⟩, ⟨rw_fun HROWn.out (fun y _ => by rw [if_neg (Nat.not_lt_zero _)])⟩, ⟨World.grownBy.refl _ _⟩⟩
            case round =>
              obtain ⟨j, rfl, HK4, HROWk, HGK⟩ := hrel
              obtain ⟨WD, rfl⟩ : ∃ x, x = wr := ⟨wr, rfl⟩
              cases gk with
              | zero => exact absurd HK4.out (by omega)
              | succ k4 =>
                by_cases hj : j < M
                · have HJ := Aside0.mk hj
                  have HXRk := Aside0.mk (rw_kept HXR.out HGK.out (fun e => by have := HNUM.out; have := HX.out.2.1; have := Option.some.inj e; omega))
                  have hcl := (rw_cell HXRk.out hj).1
                  have hco := (rw_cell HROWk.out hj).1
                  have hfo := (rw_cell HROWk.out hj).2
                  rw [if_neg (Nat.lt_irrefl j)] at hco
                  obtain ⟨n, hn⟩ : ∃ n, n = chAt l0_0 ids q x j := ⟨_, rfl⟩
                  obtain ⟨uo, huo⟩ : ∃ n, n = chG ids (chAt l0_0 ids q) left j := ⟨_, rfl⟩
                  rw [← hn] at hcl
                  rw [← huo] at hco
                  have HNE := Aside0.mk hn
                  have HUO := Aside0.mk huo
                  have e1 : (0 : Int) ≤ (j : Int) := by omega
                  have e2 : (j : Int) < (M : Int) := by omega
                  have e3 : decide ((j : Int) < (M : Int)) = true := decide_eq_true e2
                  have e4 : decide (j < M) = true := decide_eq_true hj
                  have e5 := eq_true hj
                  have HWJ : Aside0 (wrap64 ((j : Int) + 1) = ((j + 1 : Nat) : Int)) := ⟨by unfold wrap64; have := HMM.out; omega⟩
                  clear hn hj huo
                  have HPUT := Aside0.mk (rw_put HROWk.out HJ.out (wrap64 (uo + n)))
                  go_wp2_with (fail)
                  go_roundg k4
                  case measure => omega
                  case rel =>
                    refine ⟨j + 1, by rw [HWJ.out], ⟨by have := HK4.out; have := HJ.out; omega⟩, ⟨rw_fun HPUT.out.1 (fun y hy => ?_)⟩, ⟨HGK.out.trans HPUT.out.2⟩⟩
                    show (if y = j then _ else _) = if y < j + 1 then _ else _
                    by_cases ey : y = j
                    · rw [if_pos ey, if_pos (by omega), HNE.out, HUO.out, ey]
                    · rw [if_neg ey]
                      by_cases hy2 : y < j
                      · rw [if_pos hy2, if_pos (by omega)]
                      · rw [if_neg hy2, if_neg (by omega)]
                · have HJE : Aside0 (j = M) := ⟨by have := HK4.out; omega⟩
                  have e3 : decide ((j : Int) < (M : Int)) = false := decide_eq_false (by omega)
                  have e4 : decide (j < M) = false := decide_eq_false hj
                  have e5 : (j < M) = False := eq_false hj
                  clear hj
                  go_wp2_with (fail)
                  go_roundg (cnt1 + 1)
                  case measure => have := HK3.out; have := HLT.out; omega
                  case rel =>
                    refine ⟨_, cnt1, ⟨rfl⟩, ⟨HRG1.out.kept HGK.out (rw_apart HRG1.out.owns HROWn.out) (rw_apart_iter HRG1.out HROWn.out)⟩, ⟨rw_fun HROWk.out (fun y hy => ?_)⟩, ⟨rw_grown HRD0n.out HBWn.out.2 HGK.out (fun k hk => by cases hk; exact .inl HNUM.out.2.2.2.1)⟩, ⟨HBWn.out.1.grown HGK.out HBWn.out.1.size (fun z hz => by cases hz; have := HNUM.out; omega), by have := HBWn.out.2; have := HGK.out.size; omega⟩⟩
                    rw [HJE.out, if_pos hy, chG_step HND.out HX.out.1 HLX.out y]
end Go.Proofs.Ytemkddgfneohhaa.F
end

section
namespace Go.Proofs.Ytemkddgfneohhaa.F
open Go.RowKit Go.Proofs.YtemkddgfneohhaaW.PrintWords Go.Proofs.YtemkddgfneohhaaW.PrintLast Go.Proofs.YtemkddgfneohhaaW.PrintMore
attribute [local go_sem] max2_int min2_int max_two min_two max_three min_three max_four min_four
set_option linter.unusedVariables false
set_option linter.unusedSimpArgs false

/-! ### impl_LabelsBySum: function 34 -/
def impl_LabelsBySum.f (k : Nat) (l0_0 : List Int) (a1 : Int) : Option (List Int × Bool) := (impl_IsPoset.f k l0_0).bind fun t380 => (if t380 = true then ((impl_isBound.f a1).bind fun t381 => (if t381 = true then ((impl_Poset_count.f k l0_0 a1).bind fun t382 => (if t382 > 100000 then (some (([] : List Int), false)) else ((impl_Poset_chains.f k l0_0 a1).bind fun t383 => (some (t383, true))))) else (some (([] : List Int), false)))) else (some (([] : List Int), false)))
theorem impl_LabelsBySum.mono : ∀ a0 a1 k, LeO (impl_LabelsBySum.f k a0 a1) (impl_LabelsBySum.f (k + 1) a0 a1) := by
  intro a0 a1 k
  unfold impl_LabelsBySum.f
  repeat' first
      | (with_reducible exact impl_IsPoset.mono _ _)
      | (with_reducible exact impl_Poset_chains.mono _ _ _)
      | (with_reducible exact impl_Poset_count.mono _ _ _)
      | (with_reducible exact LeO.refl _)
      | (with_reducible exact LeO.none _)
      | (with_reducible refine LeO.ite ?_ ?_)
      | (with_reducible refine LeO.bind ?_ (fun _ => ?_))
      | exact impl_IsPoset.mono _ _
      | exact impl_Poset_chains.mono _ _ _
      | exact impl_Poset_count.mono _ _ _
      | exact LeO.none _
      | refine LeO.ite ?_ ?_
      | refine LeO.bind ?_ (fun _ => ?_)
set_option maxHeartbeats 8000000 in
set_option maxRecDepth 100000 in
theorem impl_LabelsBySum.calls (k : Nat) (A0_0 : Option Addr) (c0_0 : Nat) (l0_0 : List Int) (a1 : Int) (r1 : List Int) (r2 : Bool) (w : World) (hr0_0 : Kd.C (Kd.int .i64) w A0_0 l0_0.length l0_0) (hc0_0 : l0_0.length ≤ c0_0) (h : impl_LabelsBySum.f k l0_0 a1 = some (r1, r2)) :
    Calls Try.prog 34 #[.agg #[.slice A0_0 l0_0.length c0_0], .int .i64 a1] w fun e w' => ∃ v0_ : Value, e = .returned (.tuple #[v0_, .bool r2]) ∧ Kd.R (Kd.int .i64) 3 w' w.heap.size (fun _ => True) v0_ r1 ∧ Below w.heap.size w w' := by
  have hu30 := Try.underlying30
  have HR0_0 := Aside0.mk hr0_0
  have HC0_0 := Aside0.mk hc0_0
  clear hr0_0 hc0_0
  have HB := Aside0.mk (Below.refl w.heap.size w)
  have H : ((impl_IsPoset.f k l0_0).bind fun t380 => (if t380 = true then ((impl_isBound.f a1).bind fun t381 => (if t381 = true then ((impl_Poset_count.f k l0_0 a1).bind fun t382 => (if t382 > 100000 then (some (([] : List Int), false)) else ((impl_Poset_chains.f k l0_0 a1).bind fun t383 => (some (t383, true))))) else (some (([] : List Int), false)))) else (some (([] : List Int), false)))) = some (r1, r2) := h
  clear h
  replace H := Option.bind_eq_some_iff.mp H
  obtain ⟨t380, A30, H⟩ := H
  replace H : (if t380 = true then ((impl_isBound.f a1).bind fun t381 => (if t381 = true then ((impl_Poset_count.f k l0_0 a1).bind fun t382 => (if t382 > 100000 then (some (([] : List Int), false)) else ((impl_Poset_chains.f k l0_0 a1).bind fun t383 => (some (t383, true))))) else (some (([] : List Int), false)))) else (some (([] : List Int), false))) = some (r1, r2) := H
  have A3 := Aside0.mk A30
  clear A30
  by_cases c4 : t380 = true
  · subst c4
    have H1 : ((impl_isBound.f a1).bind fun t381 => (if t381 = true then ((impl_Poset_count.f k l0_0 a1).bind fun t382 => (if t382 > 100000 then (some (([] : List Int), false)) else ((impl_Poset_chains.f k l0_0 a1).bind fun t383 => (some (t383, true))))) else (some (([] : List Int), false)))) = some (r1, r2) := by rw [if_pos rfl] at H; exact H
    clear H
    have H := H1
    clear H1
    replace H := Option.bind_eq_some_iff.mp H
    obtain ⟨t381, A50, H⟩ := H
    replace H : (if t381 = true then ((impl_Poset_count.f k l0_0 a1).bind fun t382 => (if t382 > 100000 then (some (([] : List Int), false)) else ((impl_Poset_chains.f k l0_0 a1).bind fun t383 => (some (t383, true))))) else (some (([] : List Int), false))) = some (r1, r2) := H
    have A5 := Aside0.mk A50
    clear A50
    by_cases c6 : t381 = true
    · subst c6
      have H1 : ((impl_Poset_count.f k l0_0 a1).bind fun t382 => (if t382 > 100000 then (some (([] : List Int), false)) else ((impl_Poset_chains.f k l0_0 a1).bind fun t383 => (some (t383, true))))) = some (r1, r2) := by rw [if_pos rfl] at H; exact H
      clear H
      have H := H1
      clear H1
      replace H := Option.bind_eq_some_iff.mp H
      obtain ⟨t382, A70, H⟩ := H
      replace H : (if t382 > 100000 then (some (([] : List Int), false)) else ((impl_Poset_chains.f k l0_0 a1).bind fun t383 => (some (t383, true)))) = some (r1, r2) := H
      have A7 := Aside0.mk A70
      clear A70
      by_cases c8 : t382 > 100000
      · rw [if_pos c8] at H
        have c8b0 : decide (100000 < t382) = true := decide_eq_true c8
        clear c8
        simp only [Option.some.injEq, Prod.mk.injEq] at H
        obtain ⟨rfl, rfl⟩ := H
        go_enter Try.func34, Try.ntmps34
        go_wp2_with (first | ((with_reducible refine gate_dst (N := 2) rfl ?_); refine box_event ?hg (N := 2) ?hd (cs := #[.slice A0_0 l0_0.length c0_0]) (t := 30) ?hr ?_; (case hd => rfl); (case hg => rfl); (case hr => first | (go_simp; done) | (go_simp; rfl)); intro gb379 hg w9 hbox hb; have n0_ := Aside0.mk (below_step (by repeat (first | (with_reducible first | exact HB.out | apply below_alloc | apply pw_below_drewN | apply below_drew1) | exact HB.out)) hb); have n1_ := Aside0.mk (hbox); have n2_ := Aside0.mk ((by rw [hg]; exact (below_size (by repeat (first | (with_reducible first | exact HB.out | apply below_alloc | apply pw_below_drewN | apply below_drew1) | exact HB.out))) : w.heap.size ≤ gb379)); have n3_ := Aside0.mk ((by rw [hg]; exact (below_size (by repeat (first | (with_reducible first | exact HB.out | apply below_alloc | apply pw_below_drewN | apply below_drew1) | exact HB.out))) : w.heap.size ≤ gb379)); clear HB; have HB := n0_; have BK379 := n1_; have GW379 := n2_; have GE379 := n3_; clear n0_ n1_ n2_ n3_; clear hb hbox hg; have hcz10_0 : w9.cell? ⟨gb379, 0, none⟩ = some (.slice A0_0 l0_0.length c0_0) := (blk_cell BK379.out 0).trans rfl; have hfz10_0 := blk_frozen BK379.out 0) | ((with_reducible refine gate_callee (f := 47) rfl ?_); refine goesL_ (some 7) rfl rfl Try.func47 (by kernel_rfl) rfl #[.agg #[.slice A0_0 l0_0.length c0_0]] rfl (by (try simp only [List.map_toArray, List.map_cons, List.map_nil]); first | done | rfl | (simp only [List.length_drop, List.length_take]; rfl)) ?_; (with_reducible refine (impl_IsPoset.calls k _ _ l0_0 true _ ?side1 ?side2 A3.out).mono ?_); (case side1 => repeat (first | exact (Kd.C_below HR0_0.out HB.out) | (with_reducible refine Kd.C_alloc ?_ _) | (with_reducible refine Kd.C_drewN ?_ _) | (with_reducible refine Kd.C_drew ?_))); (case side2 => exact HC0_0.out); rintro e w11 ⟨rfl, hb⟩; refine ⟨_, rfl, ?_⟩; have n0_ := Aside0.mk (blk_below (g := gb379) (o := .cells #[.slice A0_0 l0_0.length c0_0] 30 (0, 0)) (by (with_reducible repeat (first | refine blk_drewN ?_ _ | refine blk_drew ?_ | refine blk_alloc ?_ _)); exact BK379.out) hb); have n1_ := Aside0.mk (below_step (by repeat (first | (with_reducible first | exact HB.out | apply below_alloc | apply pw_below_drewN | apply below_drew1 | refine below_set ?_ GE379.out) | exact HB.out)) hb); clear BK379; clear HB; have BK379 := n0_; have HB := n1_; clear n0_ n1_; (try clear hb); (try clear hb2); (try clear hk); (try clear hi)) | (go_at_call 41; (with_reducible refine (impl_isBound.calls a1 true _ A5.out).mono ?_); rintro e w' ⟨rfl, ⟨nd, rfl⟩⟩; have hcz12_0 : w11.cell? ⟨gb379, 0, none⟩ = some (.slice A0_0 l0_0.length c0_0) := (blk_cell BK379.out 0).trans rfl; have hfz12_0 := blk_frozen BK379.out 0) | (go_at_call 42; (with_reducible refine (impl_Poset_count.calls k _ _ l0_0 a1 t382 _ ?side1 ?side2 A7.out).mono ?_); (case side1 => repeat (first | exact (Kd.C_below HR0_0.out (by repeat (first | (with_reducible first | exact HB.out | apply below_alloc | apply pw_below_drewN | apply below_drew1 | refine below_set ?_ GE379.out) | exact HB.out))) | (with_reducible refine Kd.C_alloc ?_ _) | (with_reducible refine Kd.C_drewN ?_ _) | (with_reducible refine Kd.C_drew ?_))); (case side2 => exact HC0_0.out); rintro e w13 ⟨rfl, hb⟩; have n0_ := Aside0.mk (blk_below (g := gb379) (o := .cells #[.slice A0_0 l0_0.length c0_0] 30 (0, 0)) (by (with_reducible repeat (first | refine blk_drewN ?_ _ | refine blk_drew ?_ | refine blk_alloc ?_ _)); exact BK379.out) hb); have n1_ := Aside0.mk (below_step (by repeat (first | (with_reducible first | exact HB.out | apply below_alloc | apply pw_below_drewN | apply below_drew1 | refine below_set ?_ GE379.out) | exact HB.out)) hb); clear BK379; clear HB; have BK379 := n0_; have HB := n1_; clear n0_ n1_; (try clear hb); (try clear hb2); (try clear hk); (try clear hi)))
        go_ret2
        exact ⟨_, by first | rfl | (simp [errW_none, errW_some] <;> rfl) | (simp [*, errW_none, errW_some] <;> rfl), by first | exact Kd.R_nil _ _ _ _ _ | exact Kd.N_nil _ _ _ _ _ | exact Kd.V_nil _ _ _ _ _ | exact Kd.Q_nil _ _ _ _ _ | exact Kd.S_nil _ _ _ _ _, by repeat (first | (with_reducible first | exact HB.out | apply below_alloc | apply pw_below_drewN | apply below_drew1 | refine below_set ?_ GE379.out) | exact HB.out)⟩
      · rw [if_neg c8] at H
        have c8b0 : decide (100000 < t382) = false := decide_eq_false c8
        clear c8
        replace H := Option.bind_eq_some_iff.mp H
        obtain ⟨t383, A140, H⟩ := H
        replace H : (some (t383, true)) = some (r1, r2) := H
        have A14 := Aside0.mk A140
        clear A140
        simp only [Option.some.injEq, Prod.mk.injEq] at H
        obtain ⟨rfl, rfl⟩ := H
        go_enter Try.func34, Try.ntmps34
        go_wp2_with (first | ((with_reducible refine gate_dst (N := 2) rfl ?_); refine box_event ?hg (N := 2) ?hd (cs := #[.slice A0_0 l0_0.length c0_0]) (t := 30) ?hr ?_; (case hd => rfl); (case hg => rfl); (case hr => first | (go_simp; done) | (go_simp; rfl)); intro gb379 hg w15 hbox hb; have n0_ := Aside0.mk (below_step (by repeat (first | (with_reducible first | exact HB.out | apply below_alloc | apply pw_below_drewN | apply below_drew1) | exact HB.out)) hb); have n1_ := Aside0.mk (hbox); have n2_ := Aside0.mk ((by rw [hg]; exact (below_size (by repeat (first | (with_reducible first | exact HB.out | apply below_alloc | apply pw_below_drewN | apply below_drew1) | exact HB.out))) : w.heap.size ≤ gb379)); have n3_ := Aside0.mk ((by rw [hg]; exact (below_size (by repeat (first | (with_reducible first | exact HB.out | apply below_alloc | apply pw_below_drewN | apply below_drew1) | exact HB.out))) : w.heap.size ≤ gb379)); clear HB; have HB := n0_; have BK379 := n1_; have GW379 := n2_; have GE379 := n3_; clear n0_ n1_ n2_ n3_; clear hb hbox hg; have hcz16_0 : w15.cell? ⟨gb379, 0, none⟩ = some (.slice A0_0 l0_0.length c0_0) := (blk_cell BK379.out 0).trans rfl; have hfz16_0 := blk_frozen BK379.out 0) | ((with_reducible refine gate_callee (f := 47) rfl ?_); refine goesL_ (some 7) rfl rfl Try.func47 (by kernel_rfl) rfl #[.agg #[.slice A0_0 l0_0.length c0_0]] rfl (by (try simp only [List.map_toArray, List.map_cons, List.map_nil]); first | done | rfl | (simp only [List.length_drop, List.length_take]; rfl)) ?_; (with_reducible refine (impl_IsPoset.calls k _ _ l0_0 true _ ?side1 ?side2 A3.out).mono ?_); (case side1 => repeat (first | exact (Kd.C_below HR0_0.out HB.out) | (with_reducible refine Kd.C_alloc ?_ _) | (with_reducible refine Kd.C_drewN ?_ _) | (with_reducible refine Kd.C_drew ?_))); (case side2 => exact HC0_0.out); rintro e w17 ⟨rfl, hb⟩; refine ⟨_, rfl, ?_⟩; have n0_ := Aside0.mk (blk_below (g := gb379) (o := .cells #[.slice A0_0 l0_0.length c0_0] 30 (0, 0)) (by (with_reducible repeat (first | refine blk_drewN ?_ _ | refine blk_drew ?_ | refine blk_alloc ?_ _)); exact BK379.out) hb); have n1_ := Aside0.mk (below_step (by repeat (first | (with_reducible first | exact HB.out | apply below_alloc | apply pw_below_drewN | apply below_drew1 | refine below_set ?_ GE379.out) | exact HB.out)) hb); clear BK379; clear HB; have BK379 := n0_; have HB := n1_; clear n0_ n1_; (try clear hb); (try clear hb2); (try clear hk); (try clear hi)) | (go_at_call 41; (with_reducible refine (impl_isBound.calls a1 true _ A5.out).mono ?_); rintro e w' ⟨rfl, ⟨nd, rfl⟩⟩; have hcz18_0 : w17.cell? ⟨gb379, 0, none⟩ = some (.slice A0_0 l0_0.length c0_0) := (blk_cell BK379.out 0).trans rfl; have hfz18_0 := blk_frozen BK379.out 0) | (go_at_call 42; (with_reducible refine (impl_Poset_count.calls k _ _ l0_0 a1 t382 _ ?side1 ?side2 A7.out).mono ?_); (case side1 => repeat (first | exact (Kd.C_below HR0_0.out (by repeat (first | (with_reducible first | exact HB.out | apply below_alloc | apply pw_below_drewN | apply below_drew1 | refine below_set ?_ GE379.out) | exact HB.out))) | (with_reducible refine Kd.C_alloc ?_ _) | (with_reducible refine Kd.C_drewN ?_ _) | (with_reducible refine Kd.C_drew ?_))); (case side2 => exact HC0_0.out); rintro e w19 ⟨rfl, hb⟩; have n0_ := Aside0.mk (blk_below (g := gb379) (o := .cells #[.slice A0_0 l0_0.length c0_0] 30 (0, 0)) (by (with_reducible repeat (first | refine blk_drewN ?_ _ | refine blk_drew ?_ | refine blk_alloc ?_ _)); exact BK379.out) hb); have n1_ := Aside0.mk (below_step (by repeat (first | (with_reducible first | exact HB.out | apply below_alloc | apply pw_below_drewN | apply below_drew1 | refine below_set ?_ GE379.out) | exact HB.out)) hb); clear BK379; clear HB; have BK379 := n0_; have HB := n1_; clear n0_ n1_; (try clear hb); (try clear hb2); (try clear hk); (try clear hi); have hcz20_0 : w19.cell? ⟨gb379, 0, none⟩ = some (.slice A0_0 l0_0.length c0_0) := (blk_cell BK379.out 0).trans rfl; have hfz20_0 := blk_frozen BK379.out 0) | ((with_reducible refine gate_callee (f := 48) rfl ?_); refine goesL_ (some 22) rfl rfl Try.func48 (by kernel_rfl) rfl #[.agg #[.slice A0_0 l0_0.length c0_0], .int .i64 a1] rfl (by (try simp only [List.map_toArray, List.map_cons, List.map_nil]); first | done | rfl | (simp only [List.length_drop, List.length_take]; rfl)) ?_; (with_reducible refine (impl_Poset_chains.calls k _ _ l0_0 a1 t383 _ ?side1 ?side2 A14.out).mono ?_); (case side1 => repeat (first | exact (Kd.C_below HR0_0.out HB.out) | (with_reducible refine Kd.C_alloc ?_ _) | (with_reducible refine Kd.C_drewN ?_ _) | (with_reducible refine Kd.C_drew ?_))); (case side2 => exact HC0_0.out); rintro e w21 ⟨v384, rfl, ho0, hb⟩; refine ⟨_, rfl, ?_⟩; have n0_ := Aside0.mk (Kd.R_lower ho0 (below_size (by repeat (first | (with_reducible first | exact HB.out | apply below_alloc | apply pw_below_drewN | apply below_drew1 | refine below_set ?_ GE379.out) | exact HB.out)))); have n1_ := Aside0.mk (blk_below (g := gb379) (o := .cells #[.slice A0_0 l0_0.length c0_0] 30 (0, 0)) (by (with_reducible repeat (first | refine blk_drewN ?_ _ | refine blk_drew ?_ | refine blk_alloc ?_ _)); exact BK379.out) hb); have n2_ := Aside0.mk (below_step (by repeat (first | (with_reducible first | exact HB.out | apply below_alloc | apply pw_below_drewN | apply below_drew1 | refine below_set ?_ GE379.out) | exact HB.out)) hb); clear BK379; clear HB; have HO385 := n0_; have BK379 := n1_; have HB := n2_; clear n0_ n1_ n2_; (try clear hb); (try clear hb2); (try clear hk); (try clear hi); (try clear ho0)))
        go_ret2
        exact ⟨_, by first | rfl | (simp [errW_none, errW_some] <;> rfl) | (simp [*, errW_none, errW_some] <;> rfl), by (with_reducible repeat (first | apply Kd.R_alloc | apply Kd.R_drewN | apply Kd.R_drew)); exact HO385.out, by repeat (first | (with_reducible first | exact HB.out | apply below_alloc | apply pw_below_drewN | apply below_drew1 | refine below_set ?_ GE379.out) | exact HB.out)⟩
    · replace c6 := Bool.eq_false_iff.mpr c6
      subst c6
      have H1 : (some (([] : List Int), false)) = some (r1, r2) := by rw [if_neg (show ¬ (false = true) by decide)] at H; exact H
      clear H
      have H := H1
      clear H1
      simp only [Option.some.injEq, Prod.mk.injEq] at H
      obtain ⟨rfl, rfl⟩ := H
      go_enter Try.func34, Try.ntmps34
      go_wp2_with (first | ((with_reducible refine gate_dst (N := 2) rfl ?_); refine box_event ?hg (N := 2) ?hd (cs := #[.slice A0_0 l0_0.length c0_0]) (t := 30) ?hr ?_; (case hd => rfl); (case hg => rfl); (case hr => first | (go_simp; done) | (go_simp; rfl)); intro gb379 hg w22 hbox hb; have n0_ := Aside0.mk (below_step (by repeat (first | (with_reducible first | exact HB.out | apply below_alloc | apply pw_below_drewN | apply below_drew1) | exact HB.out)) hb); have n1_ := Aside0.mk (hbox); have n2_ := Aside0.mk ((by rw [hg]; exact (below_size (by repeat (first | (with_reducible first | exact HB.out | apply below_alloc | apply pw_below_drewN | apply below_drew1) | exact HB.out))) : w.heap.size ≤ gb379)); have n3_ := Aside0.mk ((by rw [hg]; exact (below_size (by repeat (first | (with_reducible first | exact HB.out | apply below_alloc | apply pw_below_drewN | apply below_drew1) | exact HB.out))) : w.heap.size ≤ gb379)); clear HB; have HB := n0_; have BK379 := n1_; have GW379 := n2_; have GE379 := n3_; clear n0_ n1_ n2_ n3_; clear hb hbox hg; have hcz23_0 : w22.cell? ⟨gb379, 0, none⟩ = some (.slice A0_0 l0_0.length c0_0) := (blk_cell BK379.out 0).trans rfl; have hfz23_0 := blk_frozen BK379.out 0) | ((with_reducible refine gate_callee (f := 47) rfl ?_); refine goesL_ (some 7) rfl rfl Try.func47 (by kernel_rfl) rfl #[.agg #[.slice A0_0 l0_0.length c0_0]] rfl (by (try simp only [List.map_toArray, List.map_cons, List.map_nil]); first | done | rfl | (simp only [List.length_drop, List.length_take]; rfl)) ?_; (with_reducible refine (impl_IsPoset.calls k _ _ l0_0 true _ ?side1 ?side2 A3.out).mono ?_); (case side1 => repeat (first | exact (Kd.C_below HR0_0.out HB.out) | (with_reducible refine Kd.C_alloc ?_ _) | (with_reducible refine Kd.C_drewN ?_ _) | (with_reducible refine Kd.C_drew ?_))); (case side2 => exact HC0_0.out); rintro e w24 ⟨rfl, hb⟩; refine ⟨_, rfl, ?_⟩; have n0_ := Aside0.mk (blk_below (g := gb379) (o := .cells #[.slice A0_0 l0_0.length c0_0] 30 (0, 0)) (by (with_reducible repeat (first | refine blk_drewN ?_ _ | refine blk_drew ?_ | refine blk_alloc ?_ _)); exact BK379.out) hb); have n1_ := Aside0.mk (below_step (by repeat (first | (with_reducible first | exact HB.out | apply below_alloc | apply pw_below_drewN | apply below_drew1 | refine below_set ?_ GE379.out) | exact HB.out)) hb); clear BK379; clear HB; have BK379 := n0_; have HB := n1_; clear n0_ n1_; (try clear hb); (try clear hb2); (try clear hk); (try clear hi)) | (go_at_call 41; (with_reducible refine (impl_isBound.calls a1 false _ A5.out).mono ?_); rintro e w' ⟨rfl, ⟨nd, rfl⟩⟩))
      go_ret2
      exact ⟨_, by first | rfl | (simp [errW_none, errW_some] <;> rfl) | (simp [*, errW_none, errW_some] <;> rfl), by first | exact Kd.R_nil _ _ _ _ _ | exact Kd.N_nil _ _ _ _ _ | exact Kd.V_nil _ _ _ _ _ | exact Kd.Q_nil _ _ _ _ _ | exact Kd.S_nil _ _ _ _ _, by repeat (first | (with_reducible first | exact HB.out | apply below_alloc | apply pw_below_drewN | apply below_drew1 | refine below_set ?_ GE379.out) | exact HB.out)⟩
  · replace c4 := Bool.eq_false_iff.mpr c4
    subst c4
    have H1 : (some (([] : List Int), false)) = some (r1, r2) := by rw [if_neg (show ¬ (false = true) by decide)] at H; exact H
    clear H
    have H := H1
    clear H1
    simp only [Option.some.injEq, Prod.mk.injEq] at H
    obtain ⟨rfl, rfl⟩ := H
    go_enter Try.func34, Try.ntmps34
    go_wp2_with (first | ((with_reducible refine gate_dst (N := 2) rfl ?_); refine box_event ?hg (N := 2) ?hd (cs := #[.slice A0_0 l0_0.length c0_0]) (t := 30) ?hr ?_; (case hd => rfl); (case hg => rfl); (case hr => first | (go_simp; done) | (go_simp; rfl)); intro gb379 hg w25 hbox hb; have n0_ := Aside0.mk (below_step (by repeat (first | (with_reducible first | exact HB.out | apply below_alloc | apply pw_below_drewN | apply below_drew1) | exact HB.out)) hb); have n1_ := Aside0.mk (hbox); have n2_ := Aside0.mk ((by rw [hg]; exact (below_size (by repeat (first | (with_reducible first | exact HB.out | apply below_alloc | apply pw_below_drewN | apply below_drew1) | exact HB.out))) : w.heap.size ≤ gb379)); have n3_ := Aside0.mk ((by rw [hg]; exact (below_size (by repeat (first | (with_reducible first | exact HB.out | apply below_alloc | apply pw_below_drewN | apply below_drew1) | exact HB.out))) : w.heap.size ≤ gb379)); clear HB; have HB := n0_; have BK379 := n1_; have GW379 := n2_; have GE379 := n3_; clear n0_ n1_ n2_ n3_; clear hb hbox hg; have hcz26_0 : w25.cell? ⟨gb379, 0, none⟩ = some (.slice A0_0 l0_0.length c0_0) := (blk_cell BK379.out 0).trans rfl; have hfz26_0 := blk_frozen BK379.out 0) | ((with_reducible refine gate_callee (f := 47) rfl ?_); refine goesL_ (some 7) rfl rfl Try.func47 (by kernel_rfl) rfl #[.agg #[.slice A0_0 l0_0.length c0_0]] rfl (by (try simp only [List.map_toArray, List.map_cons, List.map_nil]); first | done | rfl | (simp only [List.length_drop, List.length_take]; rfl)) ?_; (with_reducible refine (impl_IsPoset.calls k _ _ l0_0 false _ ?side1 ?side2 A3.out).mono ?_); (case side1 => repeat (first | exact (Kd.C_below HR0_0.out HB.out) | (with_reducible refine Kd.C_alloc ?_ _) | (with_reducible refine Kd.C_drewN ?_ _) | (with_reducible refine Kd.C_drew ?_))); (case side2 => exact HC0_0.out); rintro e w27 ⟨rfl, hb⟩; refine ⟨_, rfl, ?_⟩; have n0_ := Aside0.mk (blk_below (g := gb379) (o := .cells #[.slice A0_0 l0_0.length c0_0] 30 (0, 0)) (by (with_reducible repeat (first | refine blk_drewN ?_ _ | refine blk_drew ?_ | refine blk_alloc ?_ _)); exact BK379.out) hb); have n1_ := Aside0.mk (below_step (by repeat (first | (with_reducible first | exact HB.out | apply below_alloc | apply pw_below_drewN | apply below_drew1 | refine below_set ?_ GE379.out) | exact HB.out)) hb); clear BK379; clear HB; have BK379 := n0_; have HB := n1_; clear n0_ n1_; (try clear hb); (try clear hb2); (try clear hk); (try clear hi)))
    go_ret2
    exact ⟨_, by first | rfl | (simp [errW_none, errW_some] <;> rfl) | (simp [*, errW_none, errW_some] <;> rfl), by first | exact Kd.R_nil _ _ _ _ _ | exact Kd.N_nil _ _ _ _ _ | exact Kd.V_nil _ _ _ _ _ | exact Kd.Q_nil _ _ _ _ _ | exact Kd.S_nil _ _ _ _ _, by repeat (first | (with_reducible first | exact HB.out | apply below_alloc | apply pw_below_drewN | apply below_drew1 | refine below_set ?_ GE379.out) | exact HB.out)⟩

end Go.Proofs.Ytemkddgfneohhaa.F
end

section
namespace Go.Proofs.Ytemkddgfneohhaa.Q
open Go.RowKit Go.Proofs.YtemkddgfneohhaaW.PrintWords Go.Proofs.Ytemkddgfneohhaa.F
set_option linter.unusedVariables false
theorem size_all : (List.range 1024).all (fun t => decide (impl_size.f (t : Int) = some ((pcard 10 t : Nat) : Int))) = true := by decide +kernel
theorem pcard_ten {n t : Nat} (hn : n ≤ 10) (ht : t < 2 ^ n) : pcard 10 t = pcard n t := by
  obtain ⟨d, hd⟩ : ∃ d, 10 = n + d := ⟨10 - n, by omega⟩
  rw [hd]
  clear hd
  induction d with
  | zero => rfl
  | succ d ih =>
    rw [show n + (d + 1) = (n + d) + 1 by omega, pcard_succ, ih, bit_lt ht (by omega)]; simp
theorem size_ev {p : List Int} (hp : p.length ≤ 10) {t : Nat} (ht : t < 2 ^ p.length) : impl_size.f (t : Int) = some ((pcard p.length t : Nat) : Int) := by
  have h2 := two_pow_small hp
  rw [← pcard_ten hp ht]
  exact of_decide_eq_true (List.all_eq_true.1 size_all t (List.mem_range.2 (by omega)))
theorem chOut_eq {p : List Int} (hp : p.length ≤ 10) {t : Nat} (ht : t < 2 ^ p.length) : chOut p (t : Int) = ((outN p t : Nat) : Int) := by
  unfold chOut outN
  rw [size_ev hp ht, Option.getD_some]
  have := pcard_le p.length t
  rw [wid (by omega) (by omega)]
  omega
theorem chSub_eq {s t : Nat} (hs : s < 2 ^ 62) (ht : t < 2 ^ 62) : chSub (s : Int) (t : Int) = subB s t := by
  unfold chSub subB
  rw [bits_andNotN hs ht, Bool.eq_iff_iff, beq_iff_eq, beq_iff_eq]
  omega
theorem chAt_eq {p : List Int} (hp : p.length ≤ 10) : ∀ q, q ≤ 13 → ∀ s ∈ idealsN p, ∀ j, chAt p (ints (idealsN p)) q (s : Int) j = ((wsN p q s j : Nat) : Int)
  | 0, _, s, _, j => by
    unfold chAt wsN
    by_cases h : s = 0
    · subst h
      by_cases hj : j = 0
      · subst hj; rfl
      · simp [hj]
    · rw [if_neg (by omega), if_neg (fun h2 => h h2.1)]; rfl
  | q + 1, hq, t, ht, j => by
    have ht2 := (mem_idealsN.1 ht).1
    have h62 : ∀ s ∈ idealsN p, s < 2 ^ 62 := fun s hs => lt_pow (mem_idealsN.1 hs).1 (by omega)
    have hs := wvN_small hp (B := stB p false) (k := q + 1) (t := t) (fun s t h => stB_sub h) (by omega)
    have hle := wsN_le p (q + 1) t j
    unfold chAt chNew
    rw [mpTot_ints (P := fun s => subB s t) (v := fun s => if outN p t ≤ j then wsN p q s (j - outN p t) else 0) (idealsN p) (fun s hs => chSub_eq (h62 s hs) (h62 t ht)) (fun s hs => ?_)]
    · have e : sumL (((idealsN p).filter fun s => subB s t).map fun s => if outN p t ≤ j then wsN p q s (j - outN p t) else 0) = wsN p (q + 1) t j := by
        conv => rhs; unfold wsN
        by_cases h : outN p t ≤ j
        · rw [if_pos h]
          simp only [if_pos h]
        · rw [if_neg h]
          exact sumL_none _ _ fun s _ => by rw [if_neg h]
      rw [e]
      exact wid (by omega) (by omega)
    · unfold chTerm
      rw [chOut_eq hp ht2]
      by_cases h : outN p t ≤ j
      · rw [if_pos (by omega), if_pos h, show ((j : Int) - ((outN p t : Nat) : Int)).toNat = j - outN p t by omega, chAt_eq hp q (by omega) s hs]
        unfold chPos
        split
        · rfl
        · omega
      · rw [if_neg (by omega), if_neg h]; rfl
theorem chM_eq {p : List Int} (hp : p.length ≤ 10) {m : Nat} (hm : m ≤ 1000) : chM p (m : Int) = ((p.length * m + 1 : Nat) : Int) := by
  have h1 : p.length * m ≤ 10 * 1000 := Nat.mul_le_mul hp hm
  have e : (p.length : Int) * (m : Int) = ((p.length * m : Nat) : Int) := (Int.natCast_mul _ _).symm
  unfold chM
  rw [e, wid (n := ((p.length * m : Nat) : Int)) (by omega) (by omega), wid (by omega) (by omega)]
  omega
theorem chOk_ids {p : List Int} (hp : PO p) {m : Nat} (hm : m ≤ 12) : ChOk p (ints (idealsN p)) (m : Int) := by
  have hn := hp.small
  have hM := chM_eq hn (m := m) (by omega)
  have h1 : p.length * m ≤ 10 * 12 := Nat.mul_le_mul hn hm
  have mem : ∀ x ∈ ints (idealsN p), ∃ t : Nat, x = (t : Int) ∧ t ∈ idealsN p := fun x hx => by
    obtain ⟨t, ht, rfl⟩ := List.mem_map.1 hx
    exact ⟨t, rfl, ht⟩
  refine ⟨cntOk_ids hn, by omega, by omega, by rw [hM]; omega, by rw [hM]; omega, fun x hx => ?_, fun x hx => ?_, fun q hq x hx y hy hs i hi h0 => ?_⟩
  · obtain ⟨t, rfl, ht⟩ := mem x hx
    exact ⟨_, size_ev hn (mem_idealsN.1 ht).1⟩
  · obtain ⟨t, rfl, ht⟩ := mem x hx
    rw [chOut_eq hn (mem_idealsN.1 ht).1]
    have := outN_le p t
    omega
  · obtain ⟨t, rfl, ht⟩ := mem x hx
    obtain ⟨s, rfl, hs2⟩ := mem y hy
    rw [chAt_eq hn q (by omega) s hs2] at h0
    rw [chOut_eq hn (mem_idealsN.1 ht).1, hM]
    have hle : i ≤ p.length * q := by
      rcases Nat.lt_or_ge (p.length * q) i with h | h
      · rw [wsN_zero p q s i h] at h0; omega
      · exact h
    have h2 : p.length * q + p.length ≤ p.length * m := by
      rw [← Nat.mul_succ]; exact Nat.mul_le_mul_left _ (by omega)
    have := outN_le p t
    omega
/-- The counts by sums. -/
def sumsL (p : List Int) (m : Nat) : List Nat := (List.range (p.length * m + 1)).map (wT p m)
theorem chains_ev {p : List Int} (hp : PO p) {m : Nat} (hm : m ≤ 12) : Ev (fun k => impl_Poset_chains.f k p (m : Int)) (ints (sumsL p m)) := by
  have hn := hp.small
  unfold impl_Poset_chains.f
  refine Ev.bind (ideals_ev hp) ⟨0, fun k _ => ?_⟩
  dsimp only
  rw [if_pos ((chOkB_iff _ _ _).2 (chOk_ids hp hm))]
  congr 1
  rw [chM_eq hn (by omega), Int.toNat_natCast]
  unfold rwL sumsL ints
  rw [List.map_map]
  refine List.map_congr_left fun j hj => ?_
  unfold chTot
  rw [Int.toNat_natCast]
  have hs := wT_small hn (m := m) (by omega) j
  have e := mpTot_ints (P' := fun _ => true) (v' := fun s => chAt p (ints (idealsN p)) m s j) (P := fun _ => true) (v := fun s => wsN p m s j) (idealsN p) (fun _ _ => rfl) (fun s hs => chAt_eq hn m (by omega) s hs j)
  rw [List.filter_eq_self.2 (fun _ _ => rfl)] at e
  unfold ints at e
  rw [e]
  exact wid (by unfold wT at hs; omega) (by unfold wT at hs; omega)
end Go.Proofs.Ytemkddgfneohhaa.Q
end
