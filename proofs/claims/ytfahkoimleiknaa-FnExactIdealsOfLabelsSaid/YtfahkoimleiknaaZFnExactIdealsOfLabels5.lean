/- Part 5 of the texts below the row of FnExactIdealsOfLabels: printed functions with their contracts, and plain lemmas. No condition. -/
import Derived.Test.YtfahkoimleiknaaZFnExactIdealsOfLabels4
section
namespace Go.Proofs.Ytfahkoimleiknaa.Q
open Go.RowKit Go.Proofs.YtfahkoimleiknaaW.PrintWords Go.Proofs.Ytfahkoimleiknaa.F
set_option linter.unusedVariables false
/-- f holds at i, i + 1, .., n - 1. -/
def allFrom (f : Nat → Bool) (n i : Nat) : Bool := (List.range' i (n - i)).all f
theorem allFrom_end (f : Nat → Bool) (n : Nat) : allFrom f n n = true := by simp [allFrom]
theorem allFrom_step (f : Nat → Bool) {n i : Nat} (h : i < n) : allFrom f n i = (f i && allFrom f n (i + 1)) := by
  unfold allFrom
  obtain ⟨d, hd⟩ : ∃ d, n - i = d + 1 := ⟨n - i - 1, by omega⟩
  rw [hd, List.range'_succ, List.all_cons, show n - (i + 1) = d by omega]
theorem allFrom_iff (f : Nat → Bool) (n i : Nat) : allFrom f n i = true ↔ ∀ j, i ≤ j → j < n → f j = true := by
  unfold allFrom
  rw [List.all_eq_true]
  constructor
  · intro h j h1 h2
    exact h j (List.mem_range'_1.2 ⟨h1, by omega⟩)
  · intro h j hj
    obtain ⟨h1, h2⟩ := List.mem_range'_1.1 hj
    exact h j h1 (by omega)
theorem allFrom_congr {f g : Nat → Bool} {n i : Nat} (h : ∀ j, i ≤ j → j < n → f j = g j) : allFrom f n i = allFrom g n i := by
  rw [Bool.eq_iff_iff, allFrom_iff, allFrom_iff]
  exact ⟨fun H j a b => by rw [← h j a b]; exact H j a b, fun H j a b => by rw [h j a b]; exact H j a b⟩
/-- What is less than element i, as a set. -/
def L (p : List Int) (i : Nat) : Nat := (p.getD i 0).toNat
def rowOk (p : List Int) (i : Nat) : Bool := decide (0 ≤ p.getD i 0) && decide (p.getD i 0 ≤ 2 ^ i - 1) && allFrom (fun j => !(L p i).testBit j || decide (Go.bits .andNot .i64 (p.getD j 0) (p.getD i 0) = 0)) i 0
def isPo (p : List Int) : Bool := decide (1 ≤ p.length) && decide (p.length ≤ 10) && allFrom (rowOk p) p.length 0
structure PO (p : List Int) : Prop where
  pos : 1 ≤ p.length
  small : p.length ≤ 10
  val : ∀ i, i < p.length → p.getD i 0 = (L p i : Int)
  lt : ∀ i, i < p.length → L p i < 2 ^ i
  tr : ∀ i j, i < p.length → (L p i).testBit j = true → ndiff (L p j) (L p i) = 0
theorem L_big {p : List Int} {i : Nat} (h : p.length ≤ i) : L p i = 0 := by
  unfold L; rw [List.getD_eq_getElem?_getD, List.getElem?_eq_none h]; rfl
theorem pow_int (i : Nat) : ((2 : Int) ^ i) = ((2 ^ i : Nat) : Int) := (Int.natCast_pow 2 i).symm
theorem isPo_iff (p : List Int) : isPo p = true ↔ PO p := by
  unfold isPo
  rw [Bool.and_eq_true, Bool.and_eq_true, decide_eq_true_eq, decide_eq_true_eq, allFrom_iff]
  constructor
  · rintro ⟨⟨h1, h2⟩, h3⟩
    have hv : ∀ i, i < p.length → p.getD i 0 = (L p i : Int) ∧ L p i < 2 ^ i := by
      intro i hi
      have := h3 i (Nat.zero_le _) hi
      simp only [rowOk, Bool.and_eq_true, decide_eq_true_eq] at this
      obtain ⟨⟨a, b⟩, _⟩ := this
      rw [pow_int] at b
      have hp : 0 < 2 ^ i := Nat.two_pow_pos i
      unfold L
      generalize 2 ^ i = z at *
      omega
    refine ⟨h1, h2, fun i hi => (hv i hi).1, fun i hi => (hv i hi).2, fun i j hi hj => ?_⟩
    have hji : j < i := lt_of_bit (hv i hi).2 hj
    have := h3 i (Nat.zero_le _) hi
    simp only [rowOk, Bool.and_eq_true] at this
    have h4 := (allFrom_iff _ _ _).1 this.2 j (Nat.zero_le _) hji
    rw [hj] at h4
    simp only [Bool.not_true, Bool.false_or, decide_eq_true_eq] at h4
    rw [(hv i hi).1, (hv j (by omega)).1, bits_andNotN (lt_pow (hv j (by omega)).2 (by omega)) (lt_pow (hv i hi).2 (by omega))] at h4
    exact_mod_cast h4
  · intro h
    refine ⟨⟨h.pos, h.small⟩, fun i _ hi => ?_⟩
    have hs := h.small
    have hl := h.lt i hi
    simp only [rowOk, Bool.and_eq_true, decide_eq_true_eq]
    refine ⟨⟨by rw [h.val i hi]; omega, by rw [h.val i hi, pow_int]; generalize 2 ^ i = z at *; omega⟩, ?_⟩
    rw [allFrom_iff]
    intro j _ hj
    cases hb : (L p i).testBit j with
    | false => rfl
    | true =>
      simp only [Bool.not_true, Bool.false_or, decide_eq_true_eq]
      rw [h.val i hi, h.val j (by omega), bits_andNotN (lt_pow (h.lt j (by omega)) (by omega)) (lt_pow hl (by omega)), h.tr i j hi hb]
      rfl
theorem isPo_false {p : List Int} (h : ¬ PO p) : isPo p = false := by
  cases e : isPo p with
  | false => rfl
  | true => exact absurd ((isPo_iff p).1 e) h

theorem l1In_eq (a b c : Int) : spec_l1In.f a b c = some (decide (b ≤ a) && decide (a ≤ c)) := by
  unfold spec_l1In.f
  by_cases h : b ≤ a
  · rw [if_pos h]; simp [h]
  · rw [if_neg h]; simp [h]
theorem within_eq (a b c : Int) : impl_within.f a b c = some (decide (b ≤ a) && decide (a ≤ c)) := l1In_eq a b c
theorem mask_eq {i : Nat} (hi : i ≤ 61) : wrap64 ((shl .i64 1 (i : Int)) - 1) = (2 : Int) ^ i - 1 := by
  rw [shlN hi, pow_int]
  have h2 : (2 : Nat) ^ i ≤ 2 ^ 61 := Nat.pow_le_pow_right (by decide) hi
  have hp : 0 < 2 ^ i := Nat.two_pow_pos i
  apply wid <;> generalize 2 ^ i = z at * <;> omega
theorem bit_test {a : Nat} {j : Nat} (hj : j ≤ 64) : (Int.tmod (shr .i64 (a : Int) (j : Int)) 2 = 1) ↔ a.testBit j = true := by
  rw [shrN a j hj, Int.tmod_eq_emod_of_nonneg (Int.natCast_nonneg _), ← odd_bit, beq_iff_eq]
  omega
theorem poIn_eq {a j : Nat} (hj : j ≤ 64) : spec_poIn.f (a : Int) (j : Int) = some (a.testBit j) := by
  unfold spec_poIn.f
  rw [if_pos (Int.natCast_nonneg _)]
  congr 1
  rw [Bool.eq_iff_iff, beq_iff_eq]
  exact bit_test hj
theorem has_eq {a j : Nat} (ha : a < 2 ^ 62) (hj : j ≤ 64) : impl_has.f (a : Int) (j : Int) = some (a.testBit j) := by
  unfold impl_has.f
  rw [if_pos (Int.natCast_nonneg _), shrN a j hj]
  congr 1
  have h1 : a / 2 ^ j < 2 ^ 62 := Nat.lt_of_le_of_lt (Nat.div_le_self _ _) ha
  have := bits_andN (a := a / 2 ^ j) (b := 1) h1 (by decide)
  rw [show ((1 : Nat) : Int) = 1 from rfl] at this
  rw [this, ← odd_bit, Nat.and_one_is_mod]
  rw [Bool.eq_iff_iff, beq_iff_eq, beq_iff_eq]
  omega

/-- The elements of a set, in order. -/
def itemsN (m : Nat) : List Nat := (List.range 10).filter m.testBit
def ints (l : List Nat) : List Int := l.map Int.ofNat
theorem ints_len (l : List Nat) : (ints l).length = l.length := by simp [ints]
theorem ints_app (a b : List Nat) : ints (a ++ b) = ints a ++ ints b := by simp [ints]
theorem ints_get (l : List Nat) (i : Nat) : (ints l).getD i 0 = ((l.getD i 0 : Nat) : Int) := by
  simp only [ints, List.getD_eq_getElem?_getD, List.getElem?_map]
  cases l[i]? <;> rfl
theorem rd_ints (l : List Nat) (i : Nat) : rd (ints l) (i : Int) = ((l.getD i 0 : Nat) : Int) := by rw [rdN, ints_get]
theorem mem_itemsN {m j : Nat} : j ∈ itemsN m ↔ j < 10 ∧ m.testBit j = true := by
  unfold itemsN; rw [List.mem_filter, List.mem_range]
theorem itemsN_len (m : Nat) : (itemsN m).length ≤ 10 := by
  unfold itemsN; have := List.length_filter_le m.testBit (List.range 10); simpa using this
theorem items_ev (m : Nat) (hm : m < 2 ^ 62) : Ev (fun k => impl_items.f k (m : Int)) (ints (itemsN m)) := by
  show Ev (fun k => impl_items.l0 k (m : Int) [] 0) _
  have key : ∀ i, i ≤ 10 → ∀ acc : List Int, acc.length ≤ i → Ev (fun k => impl_items.l0 k (m : Int) acc (i : Int)) (acc ++ ints ((List.range' i (10 - i)).filter m.testBit)) := by
    refine downTo 10 ?_ ?_
    · intro acc _
      refine Ev.step (by intro k; simp only [impl_items.l0]; rfl) ?_
      refine Ev.no (by omega) (Ev.ret (by simp [ints]))
    · intro i hi ih acc ha
      refine Ev.step (by intro k; simp only [impl_items.l0]; rfl) ?_
      refine Ev.yes (by omega) (Ev.call (has_eq hm (by omega)) ?_)
      have hr : List.range' i (10 - i) = i :: List.range' (i + 1) (10 - (i + 1)) := by
        rw [show 10 - i = (10 - (i + 1)) + 1 by omega, List.range'_succ]
      rw [hr, wid1 hi (by omega)]
      cases hb : m.testBit i with
      | true =>
        refine Ev.yes rfl (Ev.yes (by omega) (evc (ih (acc ++ [(i : Int)]) (by simp; omega)) ?_))
        rw [List.filter_cons_of_pos hb]
        simp [ints]
      | false =>
        refine Ev.no (by simp) (evc (ih acc (by omega)) ?_)
        rw [List.filter_cons_of_neg (by simp [hb])]
  have := key 0 (by omega) [] (by simp)
  exact evc this (by simp [itemsN, List.range_eq_range'])

theorem sizes_eq (n : Nat) : (decide ((1 : Int) ≤ (n : Int)) && decide ((n : Int) ≤ 10)) = (decide (1 ≤ n) && decide (n ≤ 10)) := by
  rw [Bool.eq_iff_iff]; simp only [Bool.and_eq_true, decide_eq_true_eq]; omega
theorem range_false {a b : Int} {x : Int} (h : ¬ (a ≤ x ∧ x ≤ b)) : (decide (a ≤ x) && decide (x ≤ b)) = false := by
  rw [← Bool.not_eq_true, Bool.and_eq_true, decide_eq_true_eq, decide_eq_true_eq]; exact h
theorem range_true {a b : Int} {x : Int} (h : a ≤ x ∧ x ≤ b) : (decide (a ≤ x) && decide (x ≤ b)) = true := by
  rw [Bool.and_eq_true, decide_eq_true_eq, decide_eq_true_eq]; exact h
theorem rowOk_false {p : List Int} {i : Nat} (h : ¬ (0 ≤ p.getD i 0 ∧ p.getD i 0 ≤ 2 ^ i - 1)) : rowOk p i = false := by
  unfold rowOk; rw [range_false h]; rfl
theorem rowOk_true {p : List Int} {i : Nat} (h : 0 ≤ p.getD i 0 ∧ p.getD i 0 ≤ 2 ^ i - 1) :
    rowOk p i = allFrom (fun j => !(L p i).testBit j || decide (Go.bits .andNot .i64 (p.getD j 0) (p.getD i 0) = 0)) i 0 := by
  unfold rowOk; rw [range_true h]; rfl
theorem poGood_ev (p : List Int) : Ev (fun k => spec_poGood.f k p) (isPo p) := by
  unfold spec_poGood.f
  refine Ev.call (l1In_eq _ _ _) ?_
  unfold isPo
  rw [sizes_eq]
  cases hs : (decide (1 ≤ p.length) && decide (p.length ≤ 10)) with
  | false => exact Ev.no (by simp) (Ev.ret rfl)
  | true =>
  refine Ev.yes rfl ?_
  rw [Bool.and_eq_true, decide_eq_true_eq, decide_eq_true_eq] at hs
  obtain ⟨h1, h2⟩ := hs
  have key : ∀ i, i ≤ p.length → Ev (fun k => spec_poGood.l0 k p (p.length : Int) (i : Int) p) (allFrom (rowOk p) p.length i) := by
    refine downTo p.length ?_ ?_
    · refine Ev.step (by intro k; simp only [spec_poGood.l0]; rfl) ?_
      exact Ev.no (by omega) (Ev.ret (allFrom_end _ _).symm)
    · intro i hi ih
      refine Ev.step (by intro k; simp only [spec_poGood.l0]; rfl) ?_
      refine Ev.yes (by omega) (Ev.yes (by omega) (Ev.yes (by omega) ?_))
      rw [rdN, mask_eq (by omega)]
      refine Ev.call (l1In_eq _ _ _) ?_
      rw [allFrom_step _ hi]
      by_cases hb : 0 ≤ p.getD i 0 ∧ p.getD i 0 ≤ 2 ^ i - 1
      rotate_left
      · exact Ev.no (by rw [range_false hb]; simp) (Ev.ret (by rw [rowOk_false hb]; rfl))
      refine Ev.yes (range_true hb) ?_
      have hv : p.getD i 0 = (L p i : Int) := by unfold L; omega
      rw [rowOk_true hb]
      generalize hx : p.getD i 0 = x at *
      have inner : ∀ j, j ≤ i → Ev (fun k => spec_poGood.l1 k (i : Int) x (j : Int) p (p.length : Int) (i : Int) p)
          (allFrom (fun j => !(L p i).testBit j || decide (Go.bits .andNot .i64 (p.getD j 0) x = 0)) i j && allFrom (rowOk p) p.length (i + 1)) := by
        refine downTo i ?_ ?_
        · refine Ev.step (by intro k; simp only [spec_poGood.l1]; rfl) ?_
          refine Ev.no (by omega) ?_
          rw [wid1 hi (by omega), allFrom_end, Bool.true_and]
          exact ih
        · intro j hj ihj
          refine Ev.step (by intro k; simp only [spec_poGood.l1]; rfl) ?_
          refine Ev.yes (by omega) (Ev.yes (by omega) ?_)
          rw [allFrom_step _ hj, wid1 hj (by omega), rdN]
          cases hbit : (L p i).testBit j with
          | false => exact Ev.no (by rw [hv, bit_test (by omega), hbit]; simp) (evc ihj (by simp))
          | true =>
            refine Ev.yes (by rw [hv, bit_test (by omega), hbit]) (Ev.yes (by omega) ?_)
            refine Ev.ite (fun h => evc ihj ?_) (fun h => Ev.ret ?_)
            · rw [decide_eq_true h]; simp
            · rw [decide_eq_false h]; simp
      exact inner 0 (by omega)
  exact key 0 (by omega)
theorem all_drop_step {α : Type} (f : α → Bool) (l : List α) (d : α) {i : Nat} (h : i < l.length) : (l.drop i).all f = (f (l.getD i d) && (l.drop (i + 1)).all f) := by
  rw [List.drop_eq_getElem_cons h, List.all_cons, List.getD_eq_getElem?_getD, List.getElem?_eq_getElem h]; rfl
theorem items_lt {m i : Nat} {j : Nat} (hm : m < 2 ^ i) (hj : j < (itemsN m).length) : (itemsN m).getD j 0 < i := by
  rw [List.getD_eq_getElem?_getD, List.getElem?_eq_getElem hj]
  have := List.getElem_mem hj
  exact lt_of_bit hm (mem_itemsN.1 this).2
theorem items_all {m i : Nat} (hm : m < 2 ^ i) (hi : i ≤ 10) (f : Nat → Bool) : (itemsN m).all f = allFrom (fun j => !m.testBit j || f j) i 0 := by
  rw [Bool.eq_iff_iff, List.all_eq_true, allFrom_iff]
  constructor
  · intro h j _ hj
    cases hb : m.testBit j with
    | false => rfl
    | true => rw [h j (mem_itemsN.2 ⟨by omega, hb⟩)]; rfl
  · intro h j hj
    obtain ⟨h1, h2⟩ := mem_itemsN.1 hj
    have := h j (Nat.zero_le _) (lt_of_bit hm h2)
    rw [h2] at this
    simpa using this
theorem IsPoset_ev (p : List Int) : Ev (fun k => impl_IsPoset.f k p) (isPo p) := by
  unfold impl_IsPoset.f
  refine Ev.call (show impl_Poset_n.f p = some (p.length : Int) from rfl) (Ev.call (within_eq _ _ _) ?_)
  unfold isPo
  rw [sizes_eq]
  cases hs : (decide (1 ≤ p.length) && decide (p.length ≤ 10)) with
  | false => exact Ev.no (by simp) (Ev.ret rfl)
  | true =>
  refine Ev.yes rfl ?_
  rw [Bool.and_eq_true, decide_eq_true_eq, decide_eq_true_eq] at hs
  obtain ⟨h1, h2⟩ := hs
  have key : ∀ i, i ≤ p.length → Ev (fun k => impl_IsPoset.l0 k p (p.length : Int) (i : Int) p) (allFrom (rowOk p) p.length i) := by
    refine downTo p.length ?_ ?_
    · refine Ev.step (by intro k; simp only [impl_IsPoset.l0]; rfl) ?_
      exact Ev.no (by omega) (Ev.ret (allFrom_end _ _).symm)
    · intro i hi ih
      refine Ev.step (by intro k; simp only [impl_IsPoset.l0]; rfl) ?_
      refine Ev.yes (by omega) (Ev.yes (by omega) (Ev.yes (by omega) ?_))
      rw [rdN, mask_eq (by omega)]
      refine Ev.call (within_eq _ _ _) ?_
      rw [allFrom_step _ hi]
      by_cases hb : 0 ≤ p.getD i 0 ∧ p.getD i 0 ≤ 2 ^ i - 1
      rotate_left
      · exact Ev.no (by rw [range_false hb]; simp) (Ev.ret (by rw [rowOk_false hb]; rfl))
      refine Ev.yes (range_true hb) ?_
      have hv : p.getD i 0 = (L p i : Int) := by unfold L; omega
      have hm : L p i < 2 ^ i := by
        have := hb.2
        rw [hv, pow_int] at this
        have hp : 0 < 2 ^ i := Nat.two_pow_pos i
        generalize 2 ^ i = z at *
        omega
      rw [rowOk_true hb, ← items_all hm (by omega) (fun j => decide (Go.bits .andNot .i64 (p.getD j 0) (p.getD i 0) = 0)), hv]
      refine Ev.bind (items_ev _ (lt_pow hm (by omega))) ?_
      have inner : ∀ j, j ≤ (itemsN (L p i)).length → Ev (fun k => impl_IsPoset.l1 k (L p i : Int) p (p.length : Int) (i : Int) (ints (itemsN (L p i))) ((ints (itemsN (L p i))).length : Int) (j : Int) p)
          (((itemsN (L p i)).drop j).all (fun j => decide (Go.bits .andNot .i64 (p.getD j 0) (L p i : Int) = 0)) && allFrom (rowOk p) p.length (i + 1)) := by
        rw [ints_len]
        refine downTo _ ?_ ?_
        · refine Ev.step (by intro k; simp only [impl_IsPoset.l1]; rfl) ?_
          refine Ev.no (by omega) ?_
          rw [wid1 hi (by omega), List.drop_length, List.all_nil, Bool.true_and]
          exact ih
        · intro j hj ihj
          have hlt := items_lt hm hj
          have hl := itemsN_len (L p i)
          refine Ev.step (by intro k; simp only [impl_IsPoset.l1]; rfl) ?_
          refine Ev.yes (by omega) (Ev.yes (by omega) (Ev.yes (by rw [ints_len]; omega) ?_))
          rw [rd_ints, all_drop_step _ _ 0 hj, wid1 hj (by omega), rdN]
          refine Ev.yes (by omega) (Ev.yes (by omega) ?_)
          refine Ev.ite (fun h => evc ihj ?_) (fun h => Ev.ret ?_)
          · rw [decide_eq_true h]; simp
          · rw [decide_eq_false h]; simp
      exact inner 0 (by omega)
  exact key 0 (by omega)
end Go.Proofs.Ytfahkoimleiknaa.Q
end

section
namespace Go.Proofs.Ytfahkoimleiknaa.Q
open Go.RowKit Go.Proofs.YtfahkoimleiknaaW.PrintWords Go.Proofs.Ytfahkoimleiknaa.F
set_option linter.unusedVariables false
def inR (a b x : Int) : Bool := decide (a ≤ x) && decide (x ≤ b)
theorem inR_iff {a b x : Int} : inR a b x = true ↔ a ≤ x ∧ x ≤ b := by unfold inR; rw [Bool.and_eq_true, decide_eq_true_eq, decide_eq_true_eq]
theorem l1All_ev (l : List Int) (a b : Int) (h : l.length ≤ 9223372036854775807) : Ev (fun k => spec_l1All.f k l a b) (allFrom (fun i => inR a b (l.getD i 0)) l.length 0) := by
  unfold spec_l1All.f
  have key : ∀ i, i ≤ l.length → Ev (fun k => spec_l1All.l0 k a b l (l.length : Int) (i : Int)) (allFrom (fun i => inR a b (l.getD i 0)) l.length i) := by
    refine downTo _ ?_ ?_
    · refine Ev.step (by intro k; simp only [spec_l1All.l0]; rfl) (Ev.no (by omega) (Ev.ret (allFrom_end _ _).symm))
    · intro i hi ih
      refine Ev.step (by intro k; simp only [spec_l1All.l0]; rfl) (Ev.yes (by omega) (Ev.yes (by omega) (Ev.yes (by omega) ?_)))
      rw [wid1 hi (by omega), rdN, allFrom_step _ hi]
      refine Ev.call (l1In_eq _ _ _) ?_
      show Ev (fun k => if inR a b (l.getD i 0) = true then _ else _) (inR a b (l.getD i 0) && _)
      cases inR a b (l.getD i 0) with
      | true => exact Ev.yes rfl (evc ih (by simp))
      | false => exact Ev.no (by simp) (Ev.ret rfl)
  exact key 0 (by omega)
/-- Element i's label is no less than those below it allow. -/
def upOk (p f : List Int) (by_ : Int) (i : Nat) : Bool := allFrom (fun j => !(L p i).testBit j || !decide (f.getD i 0 < wrap64 (f.getD j 0 + by_))) i 0
def labA (p f : List Int) (m by_ : Int) : Bool := decide (f.length = p.length) && (allFrom (fun i => inR 0 m (f.getD i 0)) f.length 0 && allFrom (upOk p f by_) f.length 0)
theorem laAre_ev {p : List Int} (hp : PO p) (f : List Int) (m by_ : Int) : Ev (fun k => spec_laAre.f k p f m by_) (labA p f m by_) := by
  have hs := hp.small
  unfold spec_laAre.f labA
  refine Ev.ite (fun hl => ?_) (fun hl => ?_)
  · have hl' : f.length = p.length := by omega
    refine Ev.bind (l1All_ev f 0 m (by omega)) ?_
    rw [decide_eq_true hl', Bool.true_and]
    refine Ev.step (by intro k; simp only [spec_laAre.j0]; rfl) ?_
    cases allFrom (fun i => inR 0 m (f.getD i 0)) f.length 0 with
    | false => exact Ev.yes rfl (Ev.ret rfl)
    | true =>
    refine Ev.no (by simp) ?_
    rw [Bool.true_and]
    have key : ∀ i, i ≤ f.length → Ev (fun k => spec_laAre.l0 k f by_ (f.length : Int) (i : Int) p) (allFrom (upOk p f by_) f.length i) := by
      refine downTo _ ?_ ?_
      · refine Ev.step (by intro k; simp only [spec_laAre.l0]; rfl) (Ev.no (by omega) (Ev.ret (allFrom_end _ _).symm))
      · intro i hi ih
        refine Ev.step (by intro k; simp only [spec_laAre.l0]; rfl) (Ev.yes (by omega) ?_)
        rw [allFrom_step _ hi]
        unfold upOk
        have inner : ∀ j, j ≤ i → Ev (fun k => spec_laAre.l1 k f by_ (i : Int) (j : Int) (f.length : Int) (i : Int) p)
            (allFrom (fun j => !(L p i).testBit j || !decide (f.getD i 0 < wrap64 (f.getD j 0 + by_))) i j && allFrom (upOk p f by_) f.length (i + 1)) := by
          refine downTo _ ?_ ?_
          · refine Ev.step (by intro k; simp only [spec_laAre.l1]; rfl) (Ev.no (by omega) ?_)
            rw [wid1 hi (by omega), allFrom_end, Bool.true_and]
            exact ih
          · intro j hj ihj
            refine Ev.step (by intro k; simp only [spec_laAre.l1]; rfl) (Ev.yes (by omega) (Ev.yes (by omega) (Ev.yes (by omega) ?_)))
            rw [allFrom_step _ hj, wid1 hj (by omega), rdN, rdN, rdN, hp.val i (by omega)]
            refine Ev.call (poIn_eq (by omega)) ?_
            cases (L p i).testBit j with
            | false => exact Ev.no (by simp) (evc ihj (by simp))
            | true =>
              refine Ev.yes rfl (Ev.yes (by omega) (Ev.yes (by omega) (Ev.yes (by omega) ?_)))
              refine Ev.ite (fun h => Ev.ret ?_) (fun h => evc ihj ?_)
              · rw [decide_eq_true h]; simp
              · rw [decide_eq_false h]; simp
        exact inner 0 (by omega)
    exact key 0 (by omega)
  · rw [decide_eq_false (show ¬ f.length = p.length by omega)]
    refine Ev.step (by intro k; simp only [spec_laAre.j0]; rfl) (Ev.yes (show true = true from rfl) (Ev.ret rfl))
theorem areLabels_ev {p : List Int} (hp : PO p) (f : List Int) (m by_ : Int) : Ev (fun k => impl_Poset_areLabels.f k p f m by_) (labA p f m by_) := by
  have hs := hp.small
  unfold impl_Poset_areLabels.f labA
  refine Ev.call (show impl_Poset_n.f p = some (p.length : Int) from rfl) ?_
  refine Ev.ite (fun hl => ?_) (fun hl => Ev.ret (by rw [decide_eq_false (show ¬ f.length = p.length by omega)]; rfl))
  have hl' : f.length = p.length := by omega
  rw [decide_eq_true hl', Bool.true_and]
  have both : (allFrom (fun i => inR 0 m (f.getD i 0)) f.length 0 && allFrom (upOk p f by_) f.length 0) = allFrom (fun i => inR 0 m (f.getD i 0) && upOk p f by_ i) f.length 0 := by
    rw [Bool.eq_iff_iff, Bool.and_eq_true, allFrom_iff, allFrom_iff, allFrom_iff]
    constructor
    · rintro ⟨a, b⟩ j h1 h2
      rw [a j h1 h2, b j h1 h2]; rfl
    · intro h
      refine ⟨fun j h1 h2 => ?_, fun j h1 h2 => ?_⟩ <;> have := h j h1 h2 <;> rw [Bool.and_eq_true] at this
      · exact this.1
      · exact this.2
  rw [both]
  have key : ∀ i, i ≤ f.length → Ev (fun k => impl_Poset_areLabels.l0 k f m by_ f (f.length : Int) (i : Int) p) (allFrom (fun i => inR 0 m (f.getD i 0) && upOk p f by_ i) f.length i) := by
    refine downTo _ ?_ ?_
    · refine Ev.step (by intro k; simp only [impl_Poset_areLabels.l0]; rfl) (Ev.no (by omega) (Ev.ret (allFrom_end _ _).symm))
    · intro i hi ih
      have hm := hp.lt i (by omega)
      refine Ev.step (by intro k; simp only [impl_Poset_areLabels.l0]; rfl) (Ev.yes (by omega) (Ev.yes (by omega) (Ev.yes (by omega) ?_)))
      rw [allFrom_step _ hi, rdN, rdN, hp.val i (by omega)]
      refine Ev.call (within_eq _ _ _) ?_
      show Ev (fun k => if inR 0 m (f.getD i 0) = true then _ else _) (inR 0 m (f.getD i 0) && _ && _)
      cases inR 0 m (f.getD i 0) with
      | false => exact Ev.no (by simp) (Ev.ret rfl)
      | true =>
      refine Ev.yes rfl (Ev.yes (by omega) (Ev.bind (items_ev _ (lt_pow hm (by omega))) ?_))
      rw [Bool.true_and]
      have hup : upOk p f by_ i = (itemsN (L p i)).all (fun j => !decide (f.getD i 0 < wrap64 (f.getD j 0 + by_))) := (items_all hm (by omega) _).symm
      rw [hup]
      have inner : ∀ j, j ≤ (itemsN (L p i)).length → Ev (fun k => impl_Poset_areLabels.l1 k f m by_ (f.getD i 0) f (f.length : Int) (i : Int) (ints (itemsN (L p i))) ((ints (itemsN (L p i))).length : Int) (j : Int) p)
          (((itemsN (L p i)).drop j).all (fun j => !decide (f.getD i 0 < wrap64 (f.getD j 0 + by_))) && allFrom (fun i => inR 0 m (f.getD i 0) && upOk p f by_ i) f.length (i + 1)) := by
        rw [ints_len]
        refine downTo _ ?_ ?_
        · refine Ev.step (by intro k; simp only [impl_Poset_areLabels.l1]; rfl) (Ev.no (by omega) ?_)
          rw [wid1 hi (by omega), List.drop_length, List.all_nil, Bool.true_and]
          exact ih
        · intro j hj ihj
          have hlt := items_lt hm hj
          have hl := itemsN_len (L p i)
          refine Ev.step (by intro k; simp only [impl_Poset_areLabels.l1]; rfl) (Ev.yes (by omega) (Ev.yes (by omega) (Ev.yes (by rw [ints_len]; omega) ?_)))
          rw [rd_ints, all_drop_step _ _ 0 hj, wid1 hj (by omega), rdN]
          refine Ev.yes (by omega) (Ev.yes (by omega) ?_)
          refine Ev.ite (fun h => Ev.ret ?_) (fun h => evc ihj ?_)
          · rw [decide_eq_true h]; simp
          · rw [decide_eq_false h]; simp
      exact inner 0 (by omega)
  exact key 0 (by omega)
def isB (m : Int) : Bool := inR 0 12 m
theorem laBound_eq (m : Int) : spec_laBound.f m = some (isB m) := by unfold spec_laBound.f; rw [l1In_eq]; rfl
theorem isBound_eq (m : Int) : impl_isBound.f m = some (isB m) := by unfold impl_isBound.f; rw [within_eq]; rfl
end Go.Proofs.Ytfahkoimleiknaa.Q
end

section
namespace Go.Proofs.Ytfahkoimleiknaa.Q
open Go.RowKit Go.Proofs.YtfahkoimleiknaaW.PrintWords Go.Proofs.Ytfahkoimleiknaa.F
set_option linter.unusedVariables false
/-- The set of the e below n with c e. -/
def maskOf : Nat → (Nat → Bool) → Nat
  | 0, _ => 0
  | n + 1, c => if c n then maskOf n c ||| 2 ^ n else maskOf n c
theorem maskOf_bit (n : Nat) (c : Nat → Bool) (i : Nat) : (maskOf n c).testBit i = (decide (i < n) && c i) := by
  induction n with
  | zero => simp [maskOf]
  | succ n ih =>
    unfold maskOf
    by_cases hc : c n = true
    · rw [if_pos hc, Nat.testBit_or, ih, pow_bit]
      by_cases h : n = i
      · subst h; simp [hc]
      · have : decide (i < n + 1) = decide (i < n) := by rw [decide_eq_decide]; omega
        rw [this]; simp [h]
    · rw [if_neg hc, ih]
      by_cases h : n = i
      · subst h; simp at hc; simp [hc]
      · have : decide (i < n + 1) = decide (i < n) := by rw [decide_eq_decide]; omega
        rw [this]
theorem maskOf_lt (n : Nat) (c : Nat → Bool) : maskOf n c < 2 ^ n := by
  apply Nat.lt_pow_two_of_testBit
  intro i hi
  rw [maskOf_bit, decide_eq_false (by omega)]; rfl
def subB (a b : Nat) : Bool := ndiff a b == 0
theorem ndiff_zero {a b : Nat} : ndiff a b = 0 ↔ ∀ i, a.testBit i = true → b.testBit i = true := by
  constructor
  · intro h i hi
    have := ndiff_bit a b i
    rw [h, hi, Nat.zero_testBit] at this
    cases hb : b.testBit i with
    | true => rfl
    | false => rw [hb] at this; simp at this
  · intro h
    apply Nat.eq_of_testBit_eq
    intro i
    rw [ndiff_bit, Nat.zero_testBit]
    cases ha : a.testBit i with
    | false => rfl
    | true => rw [h i ha]; rfl
theorem subB_iff {a b : Nat} : subB a b = true ↔ ∀ i, a.testBit i = true → b.testBit i = true := by unfold subB; rw [beq_iff_eq]; exact ndiff_zero
/-- The set of all elements of a poset. -/
def allN (p : List Int) : Nat := 2 ^ p.length - 1
theorem allN_bit (p : List Int) (i : Nat) : (allN p).testBit i = decide (i < p.length) := by unfold allN; rw [Nat.testBit_two_pow_sub_one]
theorem allN_lt (p : List Int) : allN p < 2 ^ p.length := by unfold allN; have := Nat.two_pow_pos p.length; omega
theorem all_eq {p : List Int} (h : p.length ≤ 61) : impl_Poset_all.f p = some ((allN p : Nat) : Int) := by
  unfold impl_Poset_all.f
  rw [show impl_Poset_n.f p = some (p.length : Int) from rfl]
  simp only [Option.bind_some]
  rw [if_pos (by omega), mask_eq h, pow_int]
  unfold allN
  have := Nat.two_pow_pos p.length
  congr 1
  omega
/-- A number that is a set of elements of p. -/
def setB (p : List Int) (x : Int) : Bool := decide (0 ≤ x) && decide (x ≤ ((allN p : Nat) : Int))
theorem setB_iff {p : List Int} {x : Int} : setB p x = true ↔ ∃ s : Nat, x = (s : Int) ∧ s < 2 ^ p.length := by
  unfold setB
  rw [Bool.and_eq_true, decide_eq_true_eq, decide_eq_true_eq]
  have := Nat.two_pow_pos p.length
  unfold allN
  constructor
  · rintro ⟨h1, h2⟩; exact ⟨x.toNat, by omega, by omega⟩
  · rintro ⟨s, rfl, h⟩; omega
theorem poSet_eq {p : List Int} (h : p.length ≤ 61) (x : Int) : spec_poSet.f p x = some (setB p x) := by
  unfold spec_poSet.f
  rw [l1In_eq, mask_eq h, pow_int]
  simp only [Option.bind_some, setB]
  have := Nat.two_pow_pos p.length
  have e : ((2 ^ p.length : Nat) : Int) - 1 = ((allN p : Nat) : Int) := by unfold allN; omega
  rw [e]
/-- A set that has with each element all that are less. -/
def idealB (p : List Int) (s : Nat) : Bool := allFrom (fun i => !s.testBit i || subB (L p i) s) p.length 0
theorem idealB_iff {p : List Int} {s : Nat} : idealB p s = true ↔ ∀ i, i < p.length → s.testBit i = true → ∀ j, (L p i).testBit j = true → s.testBit j = true := by
  unfold idealB
  rw [allFrom_iff]
  constructor
  · intro h i hi hs
    have := h i (Nat.zero_le _) hi
    rw [hs] at this
    exact subB_iff.1 (by simpa using this)
  · intro h i _ hi
    cases hs : s.testBit i with
    | false => rfl
    | true => rw [subB_iff.2 (h i hi hs)]; rfl
def closeN (p : List Int) (s : Nat) : Nat := (itemsN s).foldl (fun a e => a ||| L p e) s
theorem foldl_or_bit (g : Nat → Nat) (l : List Nat) (a i : Nat) : (l.foldl (fun a e => a ||| g e) a).testBit i = (a.testBit i || l.any fun e => (g e).testBit i) := by
  induction l generalizing a with
  | nil => simp
  | cons x l ih => rw [List.foldl_cons, ih, Nat.testBit_or, List.any_cons, Bool.or_assoc]
theorem closeN_bit {p : List Int} {s i : Nat} : (closeN p s).testBit i = (s.testBit i || (itemsN s).any fun e => (L p e).testBit i) := foldl_or_bit _ _ _ _
theorem closeN_eq {p : List Int} (hp : PO p) {s : Nat} (hs : s < 2 ^ p.length) : (closeN p s == s) = idealB p s := by
  have hn := hp.small
  rw [Bool.eq_iff_iff, beq_iff_eq, idealB_iff]
  constructor
  · intro h i hi hb j hj
    have := closeN_bit (p := p) (s := s) (i := j)
    rw [h] at this
    rw [this]
    have : (itemsN s).any (fun e => (L p e).testBit j) = true := List.any_eq_true.2 ⟨i, mem_itemsN.2 ⟨by omega, hb⟩, hj⟩
    rw [this]; simp
  · intro h
    apply Nat.eq_of_testBit_eq
    intro i
    rw [closeN_bit]
    cases hb : s.testBit i with
    | true => rfl
    | false =>
      rw [Bool.false_or, ← Bool.not_eq_true, List.any_eq_true]
      rintro ⟨e, he, hj⟩
      obtain ⟨_, h2⟩ := mem_itemsN.1 he
      have := h e (lt_of_bit hs h2) h2 i hj
      rw [this] at hb; cases hb
theorem L_lt {p : List Int} (hp : PO p) {i : Nat} (hi : i < p.length) : L p i < 2 ^ p.length := lt_pow (hp.lt i hi) (by omega)
theorem foldl_or_lt (g : Nat → Nat) (l : List Nat) (a n : Nat) (ha : a < 2 ^ n) (hg : ∀ e, e ∈ l → g e < 2 ^ n) : l.foldl (fun a e => a ||| g e) a < 2 ^ n := by
  induction l generalizing a with
  | nil => exact ha
  | cons x l ih => exact ih _ (or_lt ha (hg x List.mem_cons_self)) (fun e he => hg e (List.mem_cons_of_mem _ he))
theorem closeN_lt {p : List Int} (hp : PO p) {s : Nat} (hs : s < 2 ^ p.length) : closeN p s < 2 ^ p.length :=
  foldl_or_lt _ _ _ _ hs (fun e he => L_lt hp (lt_of_bit hs (mem_itemsN.1 he).2))
theorem foldl_drop_step {α β : Type} (f : β → α → β) (l : List α) (d : α) (b : β) {i : Nat} (h : i < l.length) : (l.drop i).foldl f b = (l.drop (i + 1)).foldl f (f b (l.getD i d)) := by
  rw [List.drop_eq_getElem_cons h, List.foldl_cons, List.getD_eq_getElem?_getD, List.getElem?_eq_getElem h]; rfl
theorem close_ev {p : List Int} (hp : PO p) {s : Nat} (hs : s < 2 ^ p.length) : Ev (fun k => impl_Poset_close.f k p (s : Int)) ((closeN p s : Nat) : Int) := by
  have hn := hp.small
  unfold impl_Poset_close.f closeN
  refine Ev.bind (items_ev s (lt_pow hs (by omega))) ?_
  rw [ints_len]
  have hl := itemsN_len s
  have key : ∀ i, i ≤ (itemsN s).length → ∀ a : Nat, a < 2 ^ p.length → Ev (fun k => impl_Poset_close.l0 k (a : Int) (ints (itemsN s)) ((itemsN s).length : Int) (i : Int) p) (((itemsN s).drop i).foldl (fun a e => a ||| L p e) a : Nat) := by
    refine downTo _ ?_ ?_
    · intro a ha
      refine Ev.step (by intro k; simp only [impl_Poset_close.l0]; rfl) (Ev.no (by omega) (Ev.ret ?_))
      rw [List.drop_length]; rfl
    · intro i hi ih a ha
      have hlt := items_lt hs hi
      refine Ev.step (by intro k; simp only [impl_Poset_close.l0]; rfl) (Ev.yes (by omega) (Ev.yes (by omega) (Ev.yes (by rw [ints_len]; omega) ?_)))
      rw [rd_ints, wid1 hi (by omega), rdN, foldl_drop_step _ _ 0 _ hi]
      refine Ev.yes (by omega) (Ev.yes (by omega) ?_)
      rw [hp.val _ hlt, bits_orN (lt_pow ha (by omega)) (lt_pow (L_lt hp hlt) (by omega))]
      exact ih _ (or_lt ha (L_lt hp hlt))
  exact key 0 (by omega) s hs
theorem isSet_ev (p : List Int) (x : Int) : Ev (fun k => impl_isSet.f k p x) (isPo p && setB p x) := by
  unfold impl_isSet.f
  refine Ev.bind (IsPoset_ev p) ?_
  cases hp : isPo p with
  | false => exact Ev.no (by simp) (Ev.ret rfl)
  | true =>
    have := ((isPo_iff p).1 hp).small
    exact Ev.yes rfl (Ev.call (all_eq (by omega)) (Ev.call (within_eq _ _ _) (Ev.ret rfl)))
theorem isIdeal_ev (p : List Int) (x : Int) : Ev (fun k => impl_isIdeal.f k p x) (isPo p && (setB p x && idealB p x.toNat)) := by
  unfold impl_isIdeal.f
  refine Ev.bind (isSet_ev p x) ?_
  cases hp : isPo p with
  | false => exact Ev.no (by simp) (Ev.ret rfl)
  | true =>
  cases hx : setB p x with
  | false => exact Ev.no (by simp) (Ev.ret rfl)
  | true =>
    have hp' := (isPo_iff p).1 hp
    obtain ⟨s, rfl, hs⟩ := setB_iff.1 hx
    refine Ev.yes rfl (Ev.bind (close_ev hp' hs) (Ev.ret ?_))
    rw [Int.toNat_natCast, Bool.true_and, Bool.true_and, ← closeN_eq hp' hs]
    rw [Bool.eq_iff_iff, beq_iff_eq, beq_iff_eq]
    omega
theorem poIdeal_ev {p : List Int} (hp : PO p) {s : Nat} (hs : s < 2 ^ p.length) : Ev (fun k => spec_poIdeal.f k p (s : Int)) (idealB p s) := by
  have hn := hp.small
  unfold spec_poIdeal.f idealB
  have key : ∀ i, i ≤ p.length → Ev (fun k => spec_poIdeal.l0 k (s : Int) p (p.length : Int) (i : Int)) (allFrom (fun i => !s.testBit i || subB (L p i) s) p.length i) := by
    refine downTo _ ?_ ?_
    · exact Ev.step (by intro k; simp only [spec_poIdeal.l0]; rfl) (Ev.no (by omega) (Ev.ret (allFrom_end _ _).symm))
    · intro i hi ih
      refine Ev.step (by intro k; simp only [spec_poIdeal.l0]; rfl) (Ev.yes (by omega) (Ev.yes (by omega) (Ev.yes (by omega) ?_)))
      rw [wid1 hi (by omega), rdN, hp.val i hi, allFrom_step _ hi]
      refine Ev.call (poIn_eq (by omega)) ?_
      cases s.testBit i with
      | false => exact Ev.no (by simp) (evc ih (by simp))
      | true =>
        refine Ev.yes rfl ?_
        rw [bits_andNotN (lt_pow (L_lt hp hi) (by omega)) (lt_pow hs (by omega))]
        refine Ev.ite (fun h => evc ih ?_) (fun h => Ev.ret ?_)
        · rw [show subB (L p i) s = true by unfold subB; rw [beq_iff_eq]; exact_mod_cast h]; simp
        · rw [show subB (L p i) s = false by unfold subB; rw [beq_eq_false_iff_ne]; intro e; exact h (by rw [e]; rfl)]; simp
  exact key 0 (by omega)
end Go.Proofs.Ytfahkoimleiknaa.Q
end

section
namespace Go.Proofs.Ytfahkoimleiknaa.Q
open Go.RowKit Go.Proofs.YtfahkoimleiknaaW.PrintWords Go.Proofs.Ytfahkoimleiknaa.F
set_option linter.unusedVariables false
/-- The elements below n with labels less than k. -/
def belowN (f : List Int) (n : Nat) (k : Int) : Nat := maskOf n fun e => decide (f.getD e 0 < k)
/-- For k = lo, .., lo + d - 1. -/
def belowAll (f : List Int) (lo d : Nat) : List Int := (List.range' lo d).map fun k : Nat => ((belowN f f.length (k : Int) : Nat) : Int)
theorem belowN_step (f : List Int) (n : Nat) (k : Int) (hn : n ≤ 60) : (if f.getD n 0 < k then Go.bits .or .i64 ((belowN f n k : Nat) : Int) (shl .i64 1 (n : Int)) else ((belowN f n k : Nat) : Int)) = ((belowN f (n + 1) k : Nat) : Int) := by
  have e : belowN f (n + 1) k = if f.getD n 0 < k then belowN f n k ||| 2 ^ n else belowN f n k := by
    unfold belowN
    rw [maskOf]
    by_cases h : f.getD n 0 < k
    · rw [if_pos h, if_pos (decide_eq_true h)]
    · rw [if_neg h, if_neg (by rw [decide_eq_false h]; exact Bool.false_ne_true)]
  rw [e]
  by_cases h : f.getD n 0 < k
  · rw [if_pos h, if_pos h, shlN (by omega), bits_orN (lt_pow (show belowN f n k < 2 ^ n from maskOf_lt n _) (by omega)) (Nat.pow_lt_pow_right (by decide) (show n < 62 by omega))]
  · rw [if_neg h, if_neg h]
theorem belowAll_snoc (f : List Int) (lo d : Nat) : belowAll f lo (d + 1) = belowAll f lo d ++ [((belowN f f.length ((lo + d : Nat) : Int) : Nat) : Int)] := by
  unfold belowAll; rw [List.range'_concat]; simp
theorem belowAll_len (f : List Int) (lo d : Nat) : (belowAll f lo d).length = d := by simp [belowAll]
theorem Poset_below_ev (p f : List Int) (hf : f.length ≤ 60) (lo m : Nat) (hm : m ≤ 1000) (hlo : lo ≤ m + 1) : Ev (fun k => impl_Poset_below.f k p f (lo : Int) (m : Int)) (belowAll f lo (m + 1 - lo)) := by
  unfold impl_Poset_below.f
  have key : ∀ d, d ≤ m + 1 - lo → Ev (fun k => impl_Poset_below.l0 k f (m : Int) (belowAll f lo d) ((lo + d : Nat) : Int)) (belowAll f lo (m + 1 - lo)) := by
    refine downTo _ ?_ ?_
    · exact Ev.step (by intro k; simp only [impl_Poset_below.l0]; rfl) (Ev.no (by omega) (Ev.ret rfl))
    · intro d hd ih
      refine Ev.step (by intro k; simp only [impl_Poset_below.l0]; rfl) (Ev.yes (by omega) ?_)
      have inner : ∀ e, e ≤ f.length → Ev (fun k => impl_Poset_below.l1 k f (m : Int) (belowAll f lo d) ((lo + d : Nat) : Int) ((belowN f e ((lo + d : Nat) : Int) : Nat) : Int) f (f.length : Int) (e : Int)) (belowAll f lo (m + 1 - lo)) := by
        refine downTo _ ?_ ?_
        · refine Ev.step (by intro k; simp only [impl_Poset_below.l1]; rfl) (Ev.no (by omega) (Ev.yes (by rw [belowAll_len]; omega) ?_))
          rw [wid1 (i := lo + d) (n := m + 1) (by omega) (by omega), ← belowAll_snoc]
          exact ih
        · intro e he ihe
          refine Ev.step (by intro k; simp only [impl_Poset_below.l1]; rfl) (Ev.yes (by omega) (Ev.yes (by omega) (Ev.yes (by omega) ?_)))
          rw [rdN, wid1 he (by omega)]
          have hst := belowN_step f e ((lo + d : Nat) : Int) (by omega)
          refine Ev.ite (fun h => ?_) (fun h => ?_)
          · rw [if_pos h] at hst; rw [hst]; exact ihe
          · rw [if_neg h] at hst; rw [hst]; exact ihe
      exact inner 0 (by omega)
  exact key 0 (by omega)
theorem spec_IdealsOfLabels_ev (p f : List Int) (m : Int) : Ev (fun k => spec_IdealsOfLabels.f k p f m) (if isPo p && (isB m && labA p f m 0) then (belowAll f 1 m.toNat, true) else ([], false)) := by
  have stop : Ev (fun k => spec_IdealsOfLabels.j0 k f m true) ([], false) := Ev.step (by intro k; simp only [spec_IdealsOfLabels.j0]; rfl) (Ev.yes (show true = true from rfl) (Ev.ret rfl))
  unfold spec_IdealsOfLabels.f
  refine Ev.bind (poGood_ev p) ?_
  cases hp : isPo p with
  | false => exact Ev.no (by simp) (evc stop (by simp))
  | true =>
  have hpo := (isPo_iff p).1 hp
  have hn := hpo.small
  refine Ev.yes rfl (Ev.call (laBound_eq m) ?_)
  cases hb : isB m with
  | false => exact Ev.no (by simp) (evc stop (by simp))
  | true =>
  refine Ev.yes rfl (Ev.bind (laAre_ev hpo f m 0) ?_)
  cases hl : labA p f m 0 with
  | false => exact evc stop (by simp)
  | true =>
  have hfl : f.length = p.length := by unfold labA at hl; rw [Bool.and_eq_true, decide_eq_true_eq] at hl; exact hl.1
  obtain ⟨h0, h12⟩ := inR_iff.1 hb
  obtain ⟨n, rfl⟩ : ∃ n : Nat, m = (n : Int) := ⟨m.toNat, by omega⟩
  rw [Int.toNat_natCast]
  refine Ev.step (by intro k; simp only [spec_IdealsOfLabels.j0]; rfl) (Ev.no (by simp) ?_)
  have key : ∀ d, d ≤ n → Ev (fun k => spec_IdealsOfLabels.l0 k f (n : Int) (belowAll f 1 d) ((1 + d : Nat) : Int)) (belowAll f 1 n, true) := by
    refine downTo _ ?_ ?_
    · exact Ev.step (by intro k; simp only [spec_IdealsOfLabels.l0]; rfl) (Ev.no (by omega) (Ev.ret rfl))
    · intro d hd ih
      refine Ev.step (by intro k; simp only [spec_IdealsOfLabels.l0]; rfl) (Ev.yes (by omega) ?_)
      have inner : ∀ e, e ≤ f.length → Ev (fun k => spec_IdealsOfLabels.l1 k f (n : Int) (belowAll f 1 d) ((1 + d : Nat) : Int) ((belowN f e ((1 + d : Nat) : Int) : Nat) : Int) f (f.length : Int) (e : Int)) (belowAll f 1 n, true) := by
        refine downTo _ ?_ ?_
        · refine Ev.step (by intro k; simp only [spec_IdealsOfLabels.l1]; rfl) (Ev.no (by omega) (Ev.yes (by rw [belowAll_len]; omega) ?_))
          rw [wid1 (i := 1 + d) (n := n + 1) (by omega) (by omega), ← belowAll_snoc]
          exact ih
        · intro e he ihe
          refine Ev.step (by intro k; simp only [spec_IdealsOfLabels.l1]; rfl) (Ev.yes (by omega) (Ev.yes (by omega) (Ev.yes (by omega) ?_)))
          rw [rdN, wid1 he (by omega)]
          have hst := belowN_step f e ((1 + d : Nat) : Int) (by omega)
          refine Ev.ite (fun h => ?_) (fun h => ?_)
          · rw [if_pos h] at hst; rw [hst]; exact ihe
          · rw [if_neg h] at hst; rw [hst]; exact ihe
      exact inner 0 (by omega)
  exact evc (key 0 (by omega)) (by simp)
theorem labelled_ev (p f : List Int) (m : Int) : Ev (fun k => impl_labelled.f k p f m) (isPo p && (isB m && labA p f m 0)) := by
  unfold impl_labelled.f
  refine Ev.bind (IsPoset_ev p) ?_
  cases hp : isPo p with
  | false => exact Ev.no (by simp) (Ev.ret rfl)
  | true =>
  refine Ev.yes rfl (Ev.call (isBound_eq m) ?_)
  cases isB m with
  | false => exact Ev.no (by simp) (Ev.ret rfl)
  | true => exact Ev.yes rfl (Ev.bind (areLabels_ev ((isPo_iff p).1 hp) f m 0) (Ev.ret (by simp)))
theorem labelled_small {p f : List Int} {m : Int} (h : (isPo p && (isB m && labA p f m 0)) = true) : f.length = p.length ∧ p.length ≤ 10 ∧ ∃ n : Nat, m = (n : Int) ∧ n ≤ 12 := by
  rw [Bool.and_eq_true, Bool.and_eq_true] at h
  obtain ⟨h1, h2, h3⟩ := h
  have hpo := (isPo_iff p).1 h1
  obtain ⟨h0, h12⟩ := inR_iff.1 h2
  unfold labA at h3
  rw [Bool.and_eq_true, decide_eq_true_eq] at h3
  exact ⟨h3.1, hpo.small, m.toNat, by omega, by omega⟩
end Go.Proofs.Ytfahkoimleiknaa.Q
end
