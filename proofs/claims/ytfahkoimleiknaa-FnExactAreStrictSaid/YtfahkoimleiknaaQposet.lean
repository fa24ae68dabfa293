/- Which lists are posets: the program's and the reference's test say the same; the elements of a set in order. -/
import Derived.Test.YtfahkoimleiknaaQbase
import Derived.Test.YtfahkoimleiknaaFImplHas
import Derived.Test.YtfahkoimleiknaaFImplIsPoset
import Derived.Test.YtfahkoimleiknaaFImplItems
import Derived.Test.YtfahkoimleiknaaFImplPosetN
import Derived.Test.YtfahkoimleiknaaFImplWithin
import Derived.Test.YtfahkoimleiknaaFSpecL1In
import Derived.Test.YtfahkoimleiknaaFSpecPoGood
import Derived.Test.YtfahkoimleiknaaFSpecPoIn
namespace Go.Proofs.Ytfahkoimleiknaa.Q
open Go.RowKit Go.Proofs.YtfahkoimleiknaaW.PrintWords Go.Proofs.Ytfahkoimleiknaa.F
set_option linter.unusedVariables false
/-- f holds at i, i + 1, .., n - 1. -/
def allFrom (f : Nat → Bool) (n i : Nat) : Bool := (List.range' i (n - i)).all f
theorem allFrom_end (f : Nat → Bool) (n : Nat) : allFrom f n n = true := by simp [allFrom]
theorem allFrom_step (f : Nat → Bool) {n i : Nat} (h : i < n) : allFrom f n i = (f i && allFrom f n (i + 1)) := by
  unfold allFrom
  obtain ⟨d, hd⟩ : ∃ d, n - i = d + 1 := ⟨n - i - 1, by omega⟩
  rw [hd, List.range'_succ, List.all_cons, show n - (i + 1) = d by omega]
theorem allFrom_iff (f : Nat → Bool) (n i : Nat) : allFrom f n i = true ↔ ∀ j, i ≤ j → j < n → f j = true := by
  unfold allFrom
  rw [List.all_eq_true]
  constructor
  · intro h j h1 h2
    exact h j (List.mem_range'_1.2 ⟨h1, by omega⟩)
  · intro h j hj
    obtain ⟨h1, h2⟩ := List.mem_range'_1.1 hj
    exact h j h1 (by omega)
theorem allFrom_congr {f g : Nat → Bool} {n i : Nat} (h : ∀ j, i ≤ j → j < n → f j = g j) : allFrom f n i = allFrom g n i := by
  rw [Bool.eq_iff_iff, allFrom_iff, allFrom_iff]
  exact ⟨fun H j a b => by rw [← h j a b]; exact H j a b, fun H j a b => by rw [h j a b]; exact H j a b⟩
/-- What is less than element i, as a set. -/
def L (p : List Int) (i : Nat) : Nat := (p.getD i 0).toNat
def rowOk (p : List Int) (i : Nat) : Bool := decide (0 ≤ p.getD i 0) && decide (p.getD i 0 ≤ 2 ^ i - 1) && allFrom (fun j => !(L p i).testBit j || decide (Go.bits .andNot .i64 (p.getD j 0) (p.getD i 0) = 0)) i 0
def isPo (p : List Int) : Bool := decide (1 ≤ p.length) && decide (p.length ≤ 10) && allFrom (rowOk p) p.length 0
structure PO (p : List Int) : Prop where
  pos : 1 ≤ p.length
  small : p.length ≤ 10
  val : ∀ i, i < p.length → p.getD i 0 = (L p i : Int)
  lt : ∀ i, i < p.length → L p i < 2 ^ i
  tr : ∀ i j, i < p.length → (L p i).testBit j = true → ndiff (L p j) (L p i) = 0
theorem L_big {p : List Int} {i : Nat} (h : p.length ≤ i) : L p i = 0 := by
  unfold L; rw [List.getD_eq_getElem?_getD, List.getElem?_eq_none h]; rfl
theorem pow_int (i : Nat) : ((2 : Int) ^ i) = ((2 ^ i : Nat) : Int) := (Int.natCast_pow 2 i).symm
theorem isPo_iff (p : List Int) : isPo p = true ↔ PO p := by
  unfold isPo
  rw [Bool.and_eq_true, Bool.and_eq_true, decide_eq_true_eq, decide_eq_true_eq, allFrom_iff]
  constructor
  · rintro ⟨⟨h1, h2⟩, h3⟩
    have hv : ∀ i, i < p.length → p.getD i 0 = (L p i : Int) ∧ L p i < 2 ^ i := by
      intro i hi
      have := h3 i (Nat.zero_le _) hi
      simp only [rowOk, Bool.and_eq_true, decide_eq_true_eq] at this
      obtain ⟨⟨a, b⟩, _⟩ := this
      rw [pow_int] at b
      have hp : 0 < 2 ^ i := Nat.two_pow_pos i
      unfold L
      generalize 2 ^ i = z at *
      omega
    refine ⟨h1, h2, fun i hi => (hv i hi).1, fun i hi => (hv i hi).2, fun i j hi hj => ?_⟩
    have hji : j < i := lt_of_bit (hv i hi).2 hj
    have := h3 i (Nat.zero_le _) hi
    simp only [rowOk, Bool.and_eq_true] at this
    have h4 := (allFrom_iff _ _ _).1 this.2 j (Nat.zero_le _) hji
    rw [hj] at h4
    simp only [Bool.not_true, Bool.false_or, decide_eq_true_eq] at h4
    rw [(hv i hi).1, (hv j (by omega)).1, bits_andNotN (lt_pow (hv j (by omega)).2 (by omega)) (lt_pow (hv i hi).2 (by omega))] at h4
    exact_mod_cast h4
  · intro h
    refine ⟨⟨h.pos, h.small⟩, fun i _ hi => ?_⟩
    have hs := h.small
    have hl := h.lt i hi
    simp only [rowOk, Bool.and_eq_true, decide_eq_true_eq]
    refine ⟨⟨by rw [h.val i hi]; omega, by rw [h.val i hi, pow_int]; generalize 2 ^ i = z at *; omega⟩, ?_⟩
    rw [allFrom_iff]
    intro j _ hj
    cases hb : (L p i).testBit j with
    | false => rfl
    | true =>
      simp only [Bool.not_true, Bool.false_or, decide_eq_true_eq]
      rw [h.val i hi, h.val j (by omega), bits_andNotN (lt_pow (h.lt j (by omega)) (by omega)) (lt_pow hl (by omega)), h.tr i j hi hb]
      rfl
theorem isPo_false {p : List Int} (h : ¬ PO p) : isPo p = false := by
  cases e : isPo p with
  | false => rfl
  | true => exact absurd ((isPo_iff p).1 e) h

theorem l1In_eq (a b c : Int) : spec_l1In.f a b c = some (decide (b ≤ a) && decide (a ≤ c)) := by
  unfold spec_l1In.f
  by_cases h : b ≤ a
  · rw [if_pos h]; simp [h]
  · rw [if_neg h]; simp [h]
theorem within_eq (a b c : Int) : impl_within.f a b c = some (decide (b ≤ a) && decide (a ≤ c)) := l1In_eq a b c
theorem mask_eq {i : Nat} (hi : i ≤ 61) : wrap64 ((shl .i64 1 (i : Int)) - 1) = (2 : Int) ^ i - 1 := by
  rw [shlN hi, pow_int]
  have h2 : (2 : Nat) ^ i ≤ 2 ^ 61 := Nat.pow_le_pow_right (by decide) hi
  have hp : 0 < 2 ^ i := Nat.two_pow_pos i
  apply wid <;> generalize 2 ^ i = z at * <;> omega
theorem bit_test {a : Nat} {j : Nat} (hj : j ≤ 64) : (Int.tmod (shr .i64 (a : Int) (j : Int)) 2 = 1) ↔ a.testBit j = true := by
  rw [shrN a j hj, Int.tmod_eq_emod_of_nonneg (Int.natCast_nonneg _), ← odd_bit, beq_iff_eq]
  omega
theorem poIn_eq {a j : Nat} (hj : j ≤ 64) : spec_poIn.f (a : Int) (j : Int) = some (a.testBit j) := by
  unfold spec_poIn.f
  rw [if_pos (Int.natCast_nonneg _)]
  congr 1
  rw [Bool.eq_iff_iff, beq_iff_eq]
  exact bit_test hj
theorem has_eq {a j : Nat} (ha : a < 2 ^ 62) (hj : j ≤ 64) : impl_has.f (a : Int) (j : Int) = some (a.testBit j) := by
  unfold impl_has.f
  rw [if_pos (Int.natCast_nonneg _), shrN a j hj]
  congr 1
  have h1 : a / 2 ^ j < 2 ^ 62 := Nat.lt_of_le_of_lt (Nat.div_le_self _ _) ha
  have := bits_andN (a := a / 2 ^ j) (b := 1) h1 (by decide)
  rw [show ((1 : Nat) : Int) = 1 from rfl] at this
  rw [this, ← odd_bit, Nat.and_one_is_mod]
  rw [Bool.eq_iff_iff, beq_iff_eq, beq_iff_eq]
  omega

/-- The elements of a set, in order. -/
def itemsN (m : Nat) : List Nat := (List.range 10).filter m.testBit
def ints (l : List Nat) : List Int := l.map Int.ofNat
theorem ints_len (l : List Nat) : (ints l).length = l.length := by simp [ints]
theorem ints_app (a b : List Nat) : ints (a ++ b) = ints a ++ ints b := by simp [ints]
theorem ints_get (l : List Nat) (i : Nat) : (ints l).getD i 0 = ((l.getD i 0 : Nat) : Int) := by
  simp only [ints, List.getD_eq_getElem?_getD, List.getElem?_map]
  cases l[i]? <;> rfl
theorem rd_ints (l : List Nat) (i : Nat) : rd (ints l) (i : Int) = ((l.getD i 0 : Nat) : Int) := by rw [rdN, ints_get]
theorem mem_itemsN {m j : Nat} : j ∈ itemsN m ↔ j < 10 ∧ m.testBit j = true := by
  unfold itemsN; rw [List.mem_filter, List.mem_range]
theorem itemsN_len (m : Nat) : (itemsN m).length ≤ 10 := by
  unfold itemsN; have := List.length_filter_le m.testBit (List.range 10); simpa using this
theorem items_ev (m : Nat) (hm : m < 2 ^ 62) : Ev (fun k => impl_items.f k (m : Int)) (ints (itemsN m)) := by
  show Ev (fun k => impl_items.l0 k (m : Int) [] 0) _
  have key : ∀ i, i ≤ 10 → ∀ acc : List Int, acc.length ≤ i → Ev (fun k => impl_items.l0 k (m : Int) acc (i : Int)) (acc ++ ints ((List.range' i (10 - i)).filter m.testBit)) := by
    refine downTo 10 ?_ ?_
    · intro acc _
      refine Ev.step (by intro k; simp only [impl_items.l0]; rfl) ?_
      refine Ev.no (by omega) (Ev.ret (by simp [ints]))
    · intro i hi ih acc ha
      refine Ev.step (by intro k; simp only [impl_items.l0]; rfl) ?_
      refine Ev.yes (by omega) (Ev.call (has_eq hm (by omega)) ?_)
      have hr : List.range' i (10 - i) = i :: List.range' (i + 1) (10 - (i + 1)) := by
        rw [show 10 - i = (10 - (i + 1)) + 1 by omega, List.range'_succ]
      rw [hr, wid1 hi (by omega)]
      cases hb : m.testBit i with
      | true =>
        refine Ev.yes rfl (Ev.yes (by omega) (evc (ih (acc ++ [(i : Int)]) (by simp; omega)) ?_))
        rw [List.filter_cons_of_pos hb]
        simp [ints]
      | false =>
        refine Ev.no (by simp) (evc (ih acc (by omega)) ?_)
        rw [List.filter_cons_of_neg (by simp [hb])]
  have := key 0 (by omega) [] (by simp)
  exact evc this (by simp [itemsN, List.range_eq_range'])

theorem sizes_eq (n : Nat) : (decide ((1 : Int) ≤ (n : Int)) && decide ((n : Int) ≤ 10)) = (decide (1 ≤ n) && decide (n ≤ 10)) := by
  rw [Bool.eq_iff_iff]; simp only [Bool.and_eq_true, decide_eq_true_eq]; omega
theorem range_false {a b : Int} {x : Int} (h : ¬ (a ≤ x ∧ x ≤ b)) : (decide (a ≤ x) && decide (x ≤ b)) = false := by
  rw [← Bool.not_eq_true, Bool.and_eq_true, decide_eq_true_eq, decide_eq_true_eq]; exact h
theorem range_true {a b : Int} {x : Int} (h : a ≤ x ∧ x ≤ b) : (decide (a ≤ x) && decide (x ≤ b)) = true := by
  rw [Bool.and_eq_true, decide_eq_true_eq, decide_eq_true_eq]; exact h
theorem rowOk_false {p : List Int} {i : Nat} (h : ¬ (0 ≤ p.getD i 0 ∧ p.getD i 0 ≤ 2 ^ i - 1)) : rowOk p i = false := by
  unfold rowOk; rw [range_false h]; rfl
theorem rowOk_true {p : List Int} {i : Nat} (h : 0 ≤ p.getD i 0 ∧ p.getD i 0 ≤ 2 ^ i - 1) :
    rowOk p i = allFrom (fun j => !(L p i).testBit j || decide (Go.bits .andNot .i64 (p.getD j 0) (p.getD i 0) = 0)) i 0 := by
  unfold rowOk; rw [range_true h]; rfl
theorem poGood_ev (p : List Int) : Ev (fun k => spec_poGood.f k p) (isPo p) := by
  unfold spec_poGood.f
  refine Ev.call (l1In_eq _ _ _) ?_
  unfold isPo
  rw [sizes_eq]
  cases hs : (decide (1 ≤ p.length) && decide (p.length ≤ 10)) with
  | false => exact Ev.no (by simp) (Ev.ret rfl)
  | true =>
  refine Ev.yes rfl ?_
  rw [Bool.and_eq_true, decide_eq_true_eq, decide_eq_true_eq] at hs
  obtain ⟨h1, h2⟩ := hs
  have key : ∀ i, i ≤ p.length → Ev (fun k => spec_poGood.l0 k p (p.length : Int) (i : Int) p) (allFrom (rowOk p) p.length i) := by
    refine downTo p.length ?_ ?_
    · refine Ev.step (by intro k; simp only [spec_poGood.l0]; rfl) ?_
      exact Ev.no (by omega) (Ev.ret (allFrom_end _ _).symm)
    · intro i hi ih
      refine Ev.step (by intro k; simp only [spec_poGood.l0]; rfl) ?_
      refine Ev.yes (by omega) (Ev.yes (by omega) (Ev.yes (by omega) ?_))
      rw [rdN, mask_eq (by omega)]
      refine Ev.call (l1In_eq _ _ _) ?_
      rw [allFrom_step _ hi]
      by_cases hb : 0 ≤ p.getD i 0 ∧ p.getD i 0 ≤ 2 ^ i - 1
      rotate_left
      · exact Ev.no (by rw [range_false hb]; simp) (Ev.ret (by rw [rowOk_false hb]; rfl))
      refine Ev.yes (range_true hb) ?_
      have hv : p.getD i 0 = (L p i : Int) := by unfold L; omega
      rw [rowOk_true hb]
      generalize hx : p.getD i 0 = x at *
      have inner : ∀ j, j ≤ i → Ev (fun k => spec_poGood.l1 k (i : Int) x (j : Int) p (p.length : Int) (i : Int) p)
          (allFrom (fun j => !(L p i).testBit j || decide (Go.bits .andNot .i64 (p.getD j 0) x = 0)) i j && allFrom (rowOk p) p.length (i + 1)) := by
        refine downTo i ?_ ?_
        · refine Ev.step (by intro k; simp only [spec_poGood.l1]; rfl) ?_
          refine Ev.no (by omega) ?_
          rw [wid1 hi (by omega), allFrom_end, Bool.true_and]
          exact ih
        · intro j hj ihj
          refine Ev.step (by intro k; simp only [spec_poGood.l1]; rfl) ?_
          refine Ev.yes (by omega) (Ev.yes (by omega) ?_)
          rw [allFrom_step _ hj, wid1 hj (by omega), rdN]
          cases hbit : (L p i).testBit j with
          | false => exact Ev.no (by rw [hv, bit_test (by omega), hbit]; simp) (evc ihj (by simp))
          | true =>
            refine Ev.yes (by rw [hv, bit_test (by omega), hbit]) (Ev.yes (by omega) ?_)
            refine Ev.ite (fun h => evc ihj ?_) (fun h => Ev.ret ?_)
            · rw [decide_eq_true h]; simp
            · rw [decide_eq_false h]; simp
      exact inner 0 (by omega)
  exact key 0 (by omega)
theorem all_drop_step {α : Type} (f : α → Bool) (l : List α) (d : α) {i : Nat} (h : i < l.length) : (l.drop i).all f = (f (l.getD i d) && (l.drop (i + 1)).all f) := by
  rw [List.drop_eq_getElem_cons h, List.all_cons, List.getD_eq_getElem?_getD, List.getElem?_eq_getElem h]; rfl
theorem items_lt {m i : Nat} {j : Nat} (hm : m < 2 ^ i) (hj : j < (itemsN m).length) : (itemsN m).getD j 0 < i := by
  rw [List.getD_eq_getElem?_getD, List.getElem?_eq_getElem hj]
  have := List.getElem_mem hj
  exact lt_of_bit hm (mem_itemsN.1 this).2
theorem items_all {m i : Nat} (hm : m < 2 ^ i) (hi : i ≤ 10) (f : Nat → Bool) : (itemsN m).all f = allFrom (fun j => !m.testBit j || f j) i 0 := by
  rw [Bool.eq_iff_iff, List.all_eq_true, allFrom_iff]
  constructor
  · intro h j _ hj
    cases hb : m.testBit j with
    | false => rfl
    | true => rw [h j (mem_itemsN.2 ⟨by omega, hb⟩)]; rfl
  · intro h j hj
    obtain ⟨h1, h2⟩ := mem_itemsN.1 hj
    have := h j (Nat.zero_le _) (lt_of_bit hm h2)
    rw [h2] at this
    simpa using this
theorem IsPoset_ev (p : List Int) : Ev (fun k => impl_IsPoset.f k p) (isPo p) := by
  unfold impl_IsPoset.f
  refine Ev.call (show impl_Poset_n.f p = some (p.length : Int) from rfl) (Ev.call (within_eq _ _ _) ?_)
  unfold isPo
  rw [sizes_eq]
  cases hs : (decide (1 ≤ p.length) && decide (p.length ≤ 10)) with
  | false => exact Ev.no (by simp) (Ev.ret rfl)
  | true =>
  refine Ev.yes rfl ?_
  rw [Bool.and_eq_true, decide_eq_true_eq, decide_eq_true_eq] at hs
  obtain ⟨h1, h2⟩ := hs
  have key : ∀ i, i ≤ p.length → Ev (fun k => impl_IsPoset.l0 k p (p.length : Int) (i : Int) p) (allFrom (rowOk p) p.length i) := by
    refine downTo p.length ?_ ?_
    · refine Ev.step (by intro k; simp only [impl_IsPoset.l0]; rfl) ?_
      exact Ev.no (by omega) (Ev.ret (allFrom_end _ _).symm)
    · intro i hi ih
      refine Ev.step (by intro k; simp only [impl_IsPoset.l0]; rfl) ?_
      refine Ev.yes (by omega) (Ev.yes (by omega) (Ev.yes (by omega) ?_))
      rw [rdN, mask_eq (by omega)]
      refine Ev.call (within_eq _ _ _) ?_
      rw [allFrom_step _ hi]
      by_cases hb : 0 ≤ p.getD i 0 ∧ p.getD i 0 ≤ 2 ^ i - 1
      rotate_left
      · exact Ev.no (by rw [range_false hb]; simp) (Ev.ret (by rw [rowOk_false hb]; rfl))
      refine Ev.yes (range_true hb) ?_
      have hv : p.getD i 0 = (L p i : Int) := by unfold L; omega
      have hm : L p i < 2 ^ i := by
        have := hb.2
        rw [hv, pow_int] at this
        have hp : 0 < 2 ^ i := Nat.two_pow_pos i
        generalize 2 ^ i = z at *
        omega
      rw [rowOk_true hb, ← items_all hm (by omega) (fun j => decide (Go.bits .andNot .i64 (p.getD j 0) (p.getD i 0) = 0)), hv]
      refine Ev.bind (items_ev _ (lt_pow hm (by omega))) ?_
      have inner : ∀ j, j ≤ (itemsN (L p i)).length → Ev (fun k => impl_IsPoset.l1 k (L p i : Int) p (p.length : Int) (i : Int) (ints (itemsN (L p i))) ((ints (itemsN (L p i))).length : Int) (j : Int) p)
          (((itemsN (L p i)).drop j).all (fun j => decide (Go.bits .andNot .i64 (p.getD j 0) (L p i : Int) = 0)) && allFrom (rowOk p) p.length (i + 1)) := by
        rw [ints_len]
        refine downTo _ ?_ ?_
        · refine Ev.step (by intro k; simp only [impl_IsPoset.l1]; rfl) ?_
          refine Ev.no (by omega) ?_
          rw [wid1 hi (by omega), List.drop_length, List.all_nil, Bool.true_and]
          exact ih
        · intro j hj ihj
          have hlt := items_lt hm hj
          have hl := itemsN_len (L p i)
          refine Ev.step (by intro k; simp only [impl_IsPoset.l1]; rfl) ?_
          refine Ev.yes (by omega) (Ev.yes (by omega) (Ev.yes (by rw [ints_len]; omega) ?_))
          rw [rd_ints, all_drop_step _ _ 0 hj, wid1 hj (by omega), rdN]
          refine Ev.yes (by omega) (Ev.yes (by omega) ?_)
          refine Ev.ite (fun h => evc ihj ?_) (fun h => Ev.ret ?_)
          · rw [decide_eq_true h]; simp
          · rw [decide_eq_false h]; simp
      exact inner 0 (by omega)
  exact key 0 (by omega)
end Go.Proofs.Ytfahkoimleiknaa.Q
