/- Part 4 of the texts below the row of FnExactSelfEvacuated: printed functions with their contracts, and plain lemmas. No condition. -/
import Derived.Test.YtjahclncpgllmaaZFnExactSelfEvacuated3
import Derived.Lib.SliceRun
import Derived.Lib.Hide
section
namespace Go.Proofs.Ytjahclncpgllmaa.Q
open Go.RowKit Go.Proofs.YtjahclncpgllmaaW.PrintWords
set_option linter.unusedVariables false
/-- The set of the e below n with c e. -/
def maskOf : Nat → (Nat → Bool) → Nat
  | 0, _ => 0
  | n + 1, c => if c n then maskOf n c ||| 2 ^ n else maskOf n c
theorem maskOf_bit (n : Nat) (c : Nat → Bool) (i : Nat) : (maskOf n c).testBit i = (decide (i < n) && c i) := by
  induction n with
  | zero => simp [maskOf]
  | succ n ih =>
    unfold maskOf
    by_cases hc : c n = true
    · rw [if_pos hc, Nat.testBit_or, ih, pow_bit]
      by_cases h : n = i
      · subst h; simp [hc]
      · have : decide (i < n + 1) = decide (i < n) := by rw [decide_eq_decide]; omega
        rw [this]; simp [h]
    · rw [if_neg hc, ih]
      by_cases h : n = i
      · subst h; simp at hc; simp [hc]
      · have : decide (i < n + 1) = decide (i < n) := by rw [decide_eq_decide]; omega
        rw [this]
theorem maskOf_lt (n : Nat) (c : Nat → Bool) : maskOf n c < 2 ^ n := by
  apply Nat.lt_pow_two_of_testBit
  intro i hi
  rw [maskOf_bit, decide_eq_false (by omega)]; rfl
def subB (a b : Nat) : Bool := ndiff a b == 0
theorem ndiff_zero {a b : Nat} : ndiff a b = 0 ↔ ∀ i, a.testBit i = true → b.testBit i = true := by
  constructor
  · intro h i hi
    have := ndiff_bit a b i
    rw [h, hi, Nat.zero_testBit] at this
    cases hb : b.testBit i with
    | true => rfl
    | false => rw [hb] at this; simp at this
  · intro h
    apply Nat.eq_of_testBit_eq
    intro i
    rw [ndiff_bit, Nat.zero_testBit]
    cases ha : a.testBit i with
    | false => rfl
    | true => rw [h i ha]; rfl
theorem subB_iff {a b : Nat} : subB a b = true ↔ ∀ i, a.testBit i = true → b.testBit i = true := by unfold subB; rw [beq_iff_eq]; exact ndiff_zero
/-- The set of all elements of a poset. -/
def allN (p : List Int) : Nat := 2 ^ p.length - 1
theorem allN_bit (p : List Int) (i : Nat) : (allN p).testBit i = decide (i < p.length) := by unfold allN; rw [Nat.testBit_two_pow_sub_one]
theorem allN_lt (p : List Int) : allN p < 2 ^ p.length := by unfold allN; have := Nat.two_pow_pos p.length; omega
/-- A number that is a set of elements of p. -/
def setB (p : List Int) (x : Int) : Bool := decide (0 ≤ x) && decide (x ≤ ((allN p : Nat) : Int))
theorem setB_iff {p : List Int} {x : Int} : setB p x = true ↔ ∃ s : Nat, x = (s : Int) ∧ s < 2 ^ p.length := by
  unfold setB
  rw [Bool.and_eq_true, decide_eq_true_eq, decide_eq_true_eq]
  have := Nat.two_pow_pos p.length
  unfold allN
  constructor
  · rintro ⟨h1, h2⟩; exact ⟨x.toNat, by omega, by omega⟩
  · rintro ⟨s, rfl, h⟩; omega
/-- A set that has with each element all that are less. -/
def idealB (p : List Int) (s : Nat) : Bool := allFrom (fun i => !s.testBit i || subB (L p i) s) p.length 0
theorem idealB_iff {p : List Int} {s : Nat} : idealB p s = true ↔ ∀ i, i < p.length → s.testBit i = true → ∀ j, (L p i).testBit j = true → s.testBit j = true := by
  unfold idealB
  rw [allFrom_iff]
  constructor
  · intro h i hi hs
    have := h i (Nat.zero_le _) hi
    rw [hs] at this
    exact subB_iff.1 (by simpa using this)
  · intro h i _ hi
    cases hs : s.testBit i with
    | false => rfl
    | true => rw [subB_iff.2 (h i hi hs)]; rfl
def closeN (p : List Int) (s : Nat) : Nat := (itemsN s).foldl (fun a e => a ||| L p e) s
theorem foldl_or_bit (g : Nat → Nat) (l : List Nat) (a i : Nat) : (l.foldl (fun a e => a ||| g e) a).testBit i = (a.testBit i || l.any fun e => (g e).testBit i) := by
  induction l generalizing a with
  | nil => simp
  | cons x l ih => rw [List.foldl_cons, ih, Nat.testBit_or, List.any_cons, Bool.or_assoc]
theorem closeN_bit {p : List Int} {s i : Nat} : (closeN p s).testBit i = (s.testBit i || (itemsN s).any fun e => (L p e).testBit i) := foldl_or_bit _ _ _ _
theorem closeN_eq {p : List Int} (hp : PO p) {s : Nat} (hs : s < 2 ^ p.length) : (closeN p s == s) = idealB p s := by
  have hn := hp.small
  rw [Bool.eq_iff_iff, beq_iff_eq, idealB_iff]
  constructor
  · intro h i hi hb j hj
    have := closeN_bit (p := p) (s := s) (i := j)
    rw [h] at this
    rw [this]
    have : (itemsN s).any (fun e => (L p e).testBit j) = true := List.any_eq_true.2 ⟨i, mem_itemsN.2 ⟨by omega, hb⟩, hj⟩
    rw [this]; simp
  · intro h
    apply Nat.eq_of_testBit_eq
    intro i
    rw [closeN_bit]
    cases hb : s.testBit i with
    | true => rfl
    | false =>
      rw [Bool.false_or, ← Bool.not_eq_true, List.any_eq_true]
      rintro ⟨e, he, hj⟩
      obtain ⟨_, h2⟩ := mem_itemsN.1 he
      have := h e (lt_of_bit hs h2) h2 i hj
      rw [this] at hb; cases hb
theorem L_lt {p : List Int} (hp : PO p) {i : Nat} (hi : i < p.length) : L p i < 2 ^ p.length := lt_pow (hp.lt i hi) (by omega)
theorem foldl_or_lt (g : Nat → Nat) (l : List Nat) (a n : Nat) (ha : a < 2 ^ n) (hg : ∀ e, e ∈ l → g e < 2 ^ n) : l.foldl (fun a e => a ||| g e) a < 2 ^ n := by
  induction l generalizing a with
  | nil => exact ha
  | cons x l ih => exact ih _ (or_lt ha (hg x List.mem_cons_self)) (fun e he => hg e (List.mem_cons_of_mem _ he))
theorem closeN_lt {p : List Int} (hp : PO p) {s : Nat} (hs : s < 2 ^ p.length) : closeN p s < 2 ^ p.length :=
  foldl_or_lt _ _ _ _ hs (fun e he => L_lt hp (lt_of_bit hs (mem_itemsN.1 he).2))
theorem foldl_drop_step {α β : Type} (f : β → α → β) (l : List α) (d : α) (b : β) {i : Nat} (h : i < l.length) : (l.drop i).foldl f b = (l.drop (i + 1)).foldl f (f b (l.getD i d)) := by
  rw [List.drop_eq_getElem_cons h, List.foldl_cons, List.getD_eq_getElem?_getD, List.getElem?_eq_getElem h]; rfl
end Go.Proofs.Ytjahclncpgllmaa.Q
end

section
namespace Go.Proofs.Ytjahclncpgllmaa.Q
open Go.RowKit Go.Proofs.YtjahclncpgllmaaW.PrintWords
set_option linter.unusedVariables false
def sumL : List Nat → Nat
  | [] => 0
  | x :: l => x + sumL l
theorem sumL_append (a b : List Nat) : sumL (a ++ b) = sumL a + sumL b := by
  induction a with
  | nil => simp [sumL]
  | cons x a ih => simp only [List.cons_append, sumL, ih]; omega
theorem sumL_le (l : List Nat) (b n : Nat) (h : ∀ x ∈ l, x ≤ b) (hn : l.length ≤ n) : sumL l ≤ n * b := by
  induction l generalizing n with
  | nil => exact Nat.zero_le _
  | cons x l ih =>
    cases n with
    | zero => simp at hn
    | succ n =>
      have h1 := h x List.mem_cons_self
      have h2 := ih n (fun y hy => h y (List.mem_cons_of_mem _ hy)) (by simpa using hn)
      rw [Nat.add_mul]; simp only [sumL]; omega
/-- The elements that can come behind those of s. -/
def nextN (p : List Int) (s : Nat) : List Nat := (List.range 10).filter fun e => decide (e < p.length) && !s.testBit e && subB (L p e) s
theorem mem_nextN {p : List Int} {s e : Nat} : e ∈ nextN p s ↔ e < 10 ∧ e < p.length ∧ s.testBit e = false ∧ subB (L p e) s = true := by
  unfold nextN
  rw [List.mem_filter, List.mem_range, Bool.and_eq_true, Bool.and_eq_true, decide_eq_true_eq, Bool.not_eq_true']
  constructor
  · rintro ⟨a, ⟨b, c⟩, d⟩; exact ⟨a, b, c, d⟩
  · rintro ⟨a, b, c, d⟩; exact ⟨a, ⟨b, c⟩, d⟩
theorem nextN_len (p : List Int) (s : Nat) : (nextN p s).length ≤ 10 := by
  unfold nextN; exact Nat.le_trans (List.length_filter_le _ _) (by simp)
def cnt (p : List Int) : Nat → Nat → Nat
  | 0, s => if s = allN p then 1 else 0
  | d + 1, s => if s = allN p then 1 else sumL ((nextN p s).map fun e => cnt p d (s ||| 2 ^ e))
theorem cnt_le (p : List Int) (d s : Nat) : cnt p d s ≤ 10 ^ d := by
  induction d generalizing s with
  | zero => unfold cnt; split <;> simp
  | succ d ih =>
    unfold cnt
    have h1 : 1 ≤ 10 ^ (d + 1) := Nat.one_le_pow _ _ (by decide)
    split
    · exact h1
    · have := sumL_le ((nextN p s).map fun e => cnt p d (s ||| 2 ^ e)) (10 ^ d) 10 (fun x hx => by obtain ⟨e, _, rfl⟩ := List.mem_map.1 hx; exact ih _) (by rw [List.length_map]; exact nextN_len p s)
      rw [Nat.pow_succ]; omega
def miss (p : List Int) (s : Nat) : Nat := (List.range p.length).countP fun e => !s.testBit e
theorem miss_le (p : List Int) (s : Nat) : miss p s ≤ p.length := by unfold miss; have := List.countP_le_length (p := fun e => !s.testBit e) (l := List.range p.length); simpa using this
theorem countP_lt {α : Type} (f g : α → Bool) (l : List α) (h : ∀ x ∈ l, f x = true → g x = true) (x : α) (hx : x ∈ l) (hg : g x = true) (hf : f x = false) : l.countP f < l.countP g := by
  induction l with
  | nil => cases hx
  | cons y l ih =>
    have hle : l.countP f ≤ l.countP g := List.countP_mono_left (fun z hz => h z (List.mem_cons_of_mem _ hz))
    rw [List.countP_cons, List.countP_cons]
    rcases List.mem_cons.1 hx with rfl | hx'
    · rw [hf, hg]; simp; omega
    · have := ih (fun z hz => h z (List.mem_cons_of_mem _ hz)) hx'
      have hy := h y List.mem_cons_self
      cases hfy : f y with
      | true => rw [hy hfy]; simp; omega
      | false => cases g y <;> simp <;> omega
theorem miss_lt {p : List Int} {s e : Nat} (he : e < p.length) (hb : s.testBit e = false) : miss p (s ||| 2 ^ e) < miss p s := by
  unfold miss
  refine countP_lt _ _ _ (fun x _ hx => ?_) e (List.mem_range.2 he) (by rw [hb]; rfl) ?_
  · rw [Nat.testBit_or] at hx
    cases h : s.testBit x with
    | false => rfl
    | true => rw [h] at hx; simp at hx
  · rw [Nat.testBit_or, pow_bit]; simp
theorem miss_zero {p : List Int} {s : Nat} (hs : s < 2 ^ p.length) (h : miss p s = 0) : s = allN p := by
  refine ext_bits hs (allN_lt p) (fun i hi => ?_)
  rw [allN_bit, decide_eq_true hi]
  unfold miss at h
  rw [List.countP_eq_zero] at h
  have := h i (List.mem_range.2 hi)
  simpa using this
theorem add_lt {p : List Int} {s e : Nat} (hs : s < 2 ^ p.length) (he : e < p.length) : s ||| 2 ^ e < 2 ^ p.length := or_lt hs (pow_lt_pow he)
theorem cnt_fuel {p : List Int} : ∀ (d d' s : Nat), s < 2 ^ p.length → miss p s ≤ d → miss p s ≤ d' → cnt p d s = cnt p d' s := by
  intro d
  induction d with
  | zero =>
    intro d' s hs h _
    have := miss_zero hs (by omega)
    subst this
    cases d' <;> simp [cnt]
  | succ d ih =>
    intro d' s hs h h'
    by_cases ha : s = allN p
    · subst ha; cases d' <;> simp [cnt]
    · cases d' with
      | zero => exact absurd (miss_zero hs (by omega)) ha
      | succ d' =>
        simp only [cnt, if_neg ha]
        congr 1
        apply List.map_congr_left
        intro e he
        obtain ⟨_, h1, h2, _⟩ := mem_nextN.1 he
        have := miss_lt h1 h2
        exact ih d' _ (add_lt hs h1) (by omega) (by omega)
/-- In how many orders the elements outside of s can follow. -/
def ways (p : List Int) (s : Nat) : Nat := cnt p p.length s
theorem ways_step {p : List Int} {s : Nat} (hs : s < 2 ^ p.length) (ha : s ≠ allN p) : ways p s = sumL ((nextN p s).map fun e => ways p (s ||| 2 ^ e)) := by
  unfold ways
  rw [cnt_fuel p.length (p.length + 1) s hs (miss_le p s) (by have := miss_le p s; omega)]
  simp only [cnt, if_neg ha]
theorem ways_all (p : List Int) : ways p (allN p) = 1 := by unfold ways; cases p.length <;> simp [cnt]
theorem ways_le {p : List Int} (h : p.length ≤ 10) (s : Nat) : ways p s ≤ 10000000000 := by
  unfold ways
  exact Nat.le_trans (cnt_le p _ s) (Nat.le_trans (Nat.pow_le_pow_right (by decide) h) (by decide))
theorem ways_cnt {p : List Int} {s d : Nat} (hs : s < 2 ^ p.length) (hd : p.length ≤ d) : ways p s = cnt p d s := cnt_fuel _ _ s hs (miss_le p s) (by have := miss_le p s; omega)
theorem idealB_all (p : List Int) (hp : PO p) : idealB p (allN p) = true := by
  rw [idealB_iff]
  intro i hi _ j hj
  rw [allN_bit, decide_eq_true_eq]
  have := lt_of_bit (hp.lt i hi) hj
  omega
theorem idealB_add {p : List Int} (hp : PO p) {s e : Nat} (hs : idealB p s = true) (he : e ∈ nextN p s) : idealB p (s ||| 2 ^ e) = true := by
  obtain ⟨_, h1, _, h3⟩ := mem_nextN.1 he
  rw [idealB_iff] at hs ⊢
  intro i hi hb j hj
  rw [Nat.testBit_or, pow_bit, Bool.or_eq_true, decide_eq_true_eq] at hb
  rw [Nat.testBit_or, Bool.or_eq_true]
  left
  rcases hb with hb | rfl
  · exact hs i hi hb j hj
  · exact subB_iff.1 h3 j hj
end Go.Proofs.Ytjahclncpgllmaa.Q
end

section
namespace Go.Proofs.Ytjahclncpgllmaa.Q
open Go.RowKit Go.Proofs.YtjahclncpgllmaaW.PrintWords Go.Proofs.Ytjahclncpgllmaa.F
set_option linter.unusedVariables false
theorem all_eq {p : List Int} (h : p.length ≤ 61) : impl_Poset_all.f p = some ((allN p : Nat) : Int) := by
  unfold impl_Poset_all.f
  rw [show impl_Poset_n.f p = some (p.length : Int) from rfl]
  simp only [Option.bind_some]
  rw [if_pos (by omega), mask_eq h, pow_int]
  unfold allN
  have := Nat.two_pow_pos p.length
  congr 1
  omega
end Go.Proofs.Ytjahclncpgllmaa.Q
end

section
namespace Go.Proofs.Ytjahclncpgllmaa.Q
open Go.RowKit Go.Proofs.YtjahclncpgllmaaW.PrintWords Go.Proofs.Ytjahclncpgllmaa.F
set_option linter.unusedVariables false
theorem close_ev {p : List Int} (hp : PO p) {s : Nat} (hs : s < 2 ^ p.length) : Ev (fun k => impl_Poset_close.f k p (s : Int)) ((closeN p s : Nat) : Int) := by
  have hn := hp.small
  unfold impl_Poset_close.f closeN
  refine Ev.bind (items_ev s (lt_pow hs (by omega))) ?_
  rw [ints_len]
  have hl := itemsN_len s
  have key : ∀ i, i ≤ (itemsN s).length → ∀ a : Nat, a < 2 ^ p.length → Ev (fun k => impl_Poset_close.l0 k (a : Int) (ints (itemsN s)) ((itemsN s).length : Int) (i : Int) p) (((itemsN s).drop i).foldl (fun a e => a ||| L p e) a : Nat) := by
    refine downTo _ ?_ ?_
    · intro a ha
      refine Ev.step (by intro k; simp only [impl_Poset_close.l0]; rfl) (Ev.no (by omega) (Ev.ret ?_))
      rw [List.drop_length]; rfl
    · intro i hi ih a ha
      have hlt := items_lt hs hi
      refine Ev.step (by intro k; simp only [impl_Poset_close.l0]; rfl) (Ev.yes (by omega) (Ev.yes (by omega) (Ev.yes (by rw [ints_len]; omega) ?_)))
      rw [rd_ints, wid1 hi (by omega), rdN, foldl_drop_step _ _ 0 _ hi]
      refine Ev.yes (by omega) (Ev.yes (by omega) ?_)
      rw [hp.val _ hlt, bits_orN (lt_pow ha (by omega)) (lt_pow (L_lt hp hlt) (by omega))]
      exact ih _ (or_lt ha (L_lt hp hlt))
  exact key 0 (by omega) s hs
end Go.Proofs.Ytjahclncpgllmaa.Q
end

section
namespace Go.Proofs.Ytjahclncpgllmaa.Q
open Go.RowKit Go.Proofs.YtjahclncpgllmaaW.PrintWords Go.Proofs.Ytjahclncpgllmaa.F
set_option linter.unusedVariables false
def cntAt (p : List Int) (m t : Nat) : Nat := if m ≤ t then ways p t else 0
/-- The table, drawn up from m on. -/
def Cl (p : List Int) (m : Nat) : List Int := (List.range (2 ^ p.length)).map fun t => ((cntAt p m t : Nat) : Int)
theorem Cl_len (p : List Int) (m : Nat) : (Cl p m).length = 2 ^ p.length := by simp [Cl]
theorem Cl_get (p : List Int) (m : Nat) {t : Nat} (ht : t < 2 ^ p.length) : (Cl p m).getD t 0 = ((cntAt p m t : Nat) : Int) := by
  unfold Cl
  rw [List.getD_eq_getElem?_getD, List.getElem?_map, List.getElem?_range ht]; rfl
theorem Cl_ext {p : List Int} {m : Nat} {l : List Int} (hl : l.length = 2 ^ p.length) (h : ∀ t, t < 2 ^ p.length → l.getD t 0 = ((cntAt p m t : Nat) : Int)) : l = Cl p m := by
  apply List.ext_getElem
  · rw [hl, Cl_len]
  · intro t h1 h2
    have := h t (by omega)
    rw [← Cl_get p m (by omega), List.getD_eq_getElem?_getD, List.getD_eq_getElem?_getD, List.getElem?_eq_getElem h1, List.getElem?_eq_getElem h2] at this
    exact this
theorem getD_setC (l : List Int) (i : Nat) (v : Int) (hi : i < l.length) (t : Nat) : (l.set i v).getD t 0 = if i = t then v else l.getD t 0 := by
  by_cases h : i = t
  · subst h; rw [if_pos rfl, List.getD_eq_getElem?_getD, List.getElem?_set_self hi]; rfl
  · rw [if_neg h, List.getD_eq_getElem?_getD, List.getElem?_set_ne h, List.getD_eq_getElem?_getD]
theorem add_gtC {s e : Nat} (hb : s.testBit e = false) : s < s ||| 2 ^ e := by
  have h1 : s ≤ s ||| 2 ^ e := Nat.left_le_or
  rcases Nat.lt_or_ge s (s ||| 2 ^ e) with h | h
  · exact h
  · have he : s = s ||| 2 ^ e := by omega
    have : (s ||| 2 ^ e).testBit e = true := by rw [Nat.testBit_or, pow_bit]; simp
    rw [← he, hb] at this; cases this
/-- What can come next among the elements from i on. -/
def nextFrom (p : List Int) (s i : Nat) : List Nat := (List.range' i (p.length - i)).filter fun e => !s.testBit e && subB (L p e) s
theorem nextFrom_zero {p : List Int} (h : p.length ≤ 10) (s : Nat) : nextFrom p s 0 = nextN p s := by
  unfold nextFrom nextN
  have e0 : p.length + (10 - p.length) = 10 := by omega
  have e : List.range 10 = List.range p.length ++ (List.range (10 - p.length)).map (p.length + ·) := by rw [← List.range_add, e0]
  rw [e, List.filter_append, Nat.sub_zero, ← List.range_eq_range']
  have e2 : ((List.range (10 - p.length)).map (p.length + ·)).filter (fun e => decide (e < p.length) && !s.testBit e && subB (L p e) s) = [] := by
    rw [List.filter_eq_nil_iff]
    intro x hx
    obtain ⟨y, _, rfl⟩ := List.mem_map.1 hx
    rw [decide_eq_false (by omega)]; simp
  rw [e2, List.append_nil]
  apply List.filter_congr
  intro x hx
  rw [List.mem_range] at hx
  rw [decide_eq_true hx]; rfl
theorem nextFrom_end (p : List Int) (s : Nat) : nextFrom p s p.length = [] := by unfold nextFrom; simp
theorem nextFrom_step {p : List Int} {s i : Nat} (h : i < p.length) : nextFrom p s i = if !s.testBit i && subB (L p i) s then i :: nextFrom p s (i + 1) else nextFrom p s (i + 1) := by
  unfold nextFrom
  rw [show p.length - i = (p.length - (i + 1)) + 1 by omega, List.range'_succ, List.filter_cons]
theorem liCounts_ev {p : List Int} (hp : PO p) : Ev (fun k => spec_liCounts.f k p) (Cl p 0) := by
  have hn := hp.small
  have hn1 := hp.pos
  have h2 : (2 : Nat) ^ p.length ≤ 1024 := Nat.le_trans (Nat.pow_le_pow_right (by decide) hn) (by decide)
  have h3 : 2 ≤ 2 ^ p.length := Nat.le_trans (by decide) (Nat.pow_le_pow_right (by decide) hn1 : 2 ^ 1 ≤ 2 ^ p.length)
  have hal2 : allN p + 1 = 2 ^ p.length := by unfold allN; omega
  have outer : ∀ s : Nat, s ≤ allN p → Ev (fun k => spec_liCounts.l0 k (Cl p s) ((s : Int) - 1) p) (Cl p 0) := by
    intro s
    induction s with
    | zero =>
      intro _
      exact Ev.step (by intro k; simp only [spec_liCounts.l0]; rfl) (Ev.no (by omega) (Ev.now _))
    | succ s ih =>
      intro hs
      have hs2 : s < 2 ^ p.length := by omega
      have e1 : (((s + 1 : Nat) : Int) - 1) = (s : Int) := by omega
      have e2 : wrap64 ((s : Int) - 1) = (s : Int) - 1 := wid (by omega) (by omega)
      rw [e1]
      refine Ev.step (by intro k; simp only [spec_liCounts.l0]; rfl) (Ev.yes (by omega) ?_)
      have hall : s ≠ allN p := by omega
      have hst := ways_step hs2 hall
      rw [← nextFrom_zero hn] at hst
      have inner : ∀ i, i ≤ p.length → ∀ v : Nat, v + sumL ((nextFrom p s i).map fun e => ways p (s ||| 2 ^ e)) = ways p s →
          Ev (fun k => spec_liCounts.l1 k ((Cl p (s + 1)).set s (v : Int)) (s : Int) p (p.length : Int) (i : Int) p) (Cl p 0) := by
        refine downTo _ ?_ ?_
        · intro v hv
          rw [nextFrom_end] at hv
          have hv' : v = ways p s := by simpa [sumL] using hv
          refine Ev.step (by intro k; simp only [spec_liCounts.l1]; rfl) (Ev.no (by omega) ?_)
          rw [e2]
          have he : (Cl p (s + 1)).set s (v : Int) = Cl p s := by
            apply Cl_ext
            · rw [List.length_set, Cl_len]
            · intro t ht
              rw [getD_setC _ _ _ (by rw [Cl_len]; exact hs2)]
              split
              · rename_i h; subst h; unfold cntAt; rw [if_pos (Nat.le_refl _), hv']
              · rename_i h
                rw [Cl_get _ _ ht]; unfold cntAt
                by_cases hst : s ≤ t
                · rw [if_pos hst, if_pos (by omega)]
                · rw [if_neg hst, if_neg (by omega)]
          rw [he]
          exact ih (by omega)
        · intro i hi ihi v hv
          refine Ev.step (by intro k; simp only [spec_liCounts.l1]; rfl) (Ev.yes (by omega) (Ev.yes (by omega) (Ev.yes (by omega) (Ev.call (poIn_eq (by omega)) ?_))))
          rw [wid1 (i := i) (n := p.length) hi (by omega)]
          rw [nextFrom_step hi] at hv
          cases hb : s.testBit i with
          | true =>
            rw [hb] at hv
            exact Ev.yes rfl (ihi v (by simpa using hv))
          | false =>
            rw [hb] at hv
            refine Ev.no (by simp) ?_
            rw [rdN, hp.val i hi, bits_andNotN (lt_pow (L_lt hp hi) (by omega)) (lt_pow hs2 (by omega))]
            cases hc : subB (L p i) s with
            | false =>
              rw [hc] at hv
              refine Ev.no (fun h => ?_) (ihi v (by simpa using hv))
              have h4 : ndiff (L p i) s = 0 := by exact_mod_cast h
              unfold subB at hc; rw [h4] at hc; simp at hc
            | true =>
              rw [hc] at hv
              have h4 : ndiff (L p i) s = 0 := by unfold subB at hc; exact beq_iff_eq.1 hc
              have hsi : s ||| 2 ^ i < 2 ^ p.length := or_lt hs2 (pow_lt_pow hi)
              have hgt := add_gtC hb
              have hw1 := ways_le hn (s ||| 2 ^ i)
              have hw2 := ways_le hn s
              have hv2 : (v + ways p (s ||| 2 ^ i)) + sumL ((nextFrom p s (i + 1)).map fun e => ways p (s ||| 2 ^ e)) = ways p s := by
                simp only [Bool.not_false, Bool.true_and, if_true, List.map_cons, sumL] at hv
                omega
              refine Ev.yes (by rw [h4]; rfl) (Ev.yes (by omega) (Ev.yes (by rw [List.length_set, Cl_len]; omega) ?_))
              rw [shlN (by omega), bits_orN (lt_pow hs2 (by omega)) (Nat.pow_lt_pow_right (by decide) (by omega))]
              refine Ev.yes (by omega) (Ev.yes (by rw [List.length_set, Cl_len]; omega) ?_)
              rw [rdN, rdN, getD_setC _ _ _ (by rw [Cl_len]; exact hs2), if_pos rfl, getD_setC _ _ _ (by rw [Cl_len]; exact hs2), if_neg (by omega), Cl_get _ _ hsi]
              unfold cntAt
              rw [if_pos (by omega), Int.toNat_natCast, List.set_set]
              have ew : wrap64 ((v : Int) + ((ways p (s ||| 2 ^ i) : Nat) : Int)) = ((v + ways p (s ||| 2 ^ i) : Nat) : Int) := by rw [wid (by omega) (by omega)]; omega
              rw [ew]
              exact ihi _ hv2
      have := inner 0 (by omega) 0 (by rw [Nat.zero_add]; exact hst.symm)
      have e0 : (Cl p (s + 1)).set s ((0 : Nat) : Int) = Cl p (s + 1) := by
        apply Cl_ext
        · rw [List.length_set, Cl_len]
        · intro t ht
          rw [getD_setC _ _ _ (by rw [Cl_len]; exact hs2)]
          split
          · rename_i h; subst h; unfold cntAt; rw [if_neg (by omega)]
          · exact Cl_get _ _ ht
      rw [e0] at this
      exact this
  unfold spec_liCounts.f
  rw [shlN (by omega), Int.toNat_natCast]
  refine Ev.yes (by omega) (Ev.yes (by omega) (Ev.call rfl ?_))
  have ew1 : wrap64 (((2 ^ p.length : Nat) : Int) - 1) = ((allN p : Nat) : Int) := by rw [wid (by omega) (by omega)]; omega
  have ew2 : wrap64 (((2 ^ p.length : Nat) : Int) - 2) = ((allN p : Nat) : Int) - 1 := by rw [wid (by omega) (by omega)]; omega
  rw [ew1, ew2]
  refine Ev.yes (by omega) (Ev.yes (by rw [List.length_replicate]; omega) ?_)
  have e : (List.replicate (2 ^ p.length) (0 : Int)).set (((allN p : Nat) : Int)).toNat 1 = Cl p (allN p) := by
    rw [Int.toNat_natCast]
    apply Cl_ext
    · rw [List.length_set, List.length_replicate]
    · intro t ht
      rw [getD_setC _ _ _ (by rw [List.length_replicate]; omega)]
      split
      · rename_i h; subst h; unfold cntAt; rw [if_pos (Nat.le_refl _), ways_all]; rfl
      · rename_i h
        unfold cntAt
        rw [if_neg (by omega), List.getD_eq_getElem?_getD, List.getElem?_replicate, if_pos ht]; rfl
  rw [e]
  exact outer (allN p) (Nat.le_refl _)
end Go.Proofs.Ytjahclncpgllmaa.Q
end

section
namespace Go.Proofs.Ytjahclncpgllmaa.Q
open Go.RowKit Go.Proofs.YtjahclncpgllmaaW.PrintWords Go.Proofs.Ytjahclncpgllmaa.F
set_option linter.unusedVariables false
def wayAt (p : List Int) (m t : Nat) : Nat := if m ≤ t then (if idealB p t then ways p t else 0) else 0
/-- The table, drawn up from m on. -/
def Wl (p : List Int) (m : Nat) : List Int := (List.range (2 ^ p.length)).map fun t => ((wayAt p m t : Nat) : Int)
theorem Wl_len (p : List Int) (m : Nat) : (Wl p m).length = 2 ^ p.length := by simp [Wl]
theorem Wl_get (p : List Int) (m : Nat) {t : Nat} (ht : t < 2 ^ p.length) : (Wl p m).getD t 0 = ((wayAt p m t : Nat) : Int) := by
  unfold Wl
  rw [List.getD_eq_getElem?_getD, List.getElem?_map, List.getElem?_range ht]; rfl
theorem Wl_ext {p : List Int} {m : Nat} {l : List Int} (hl : l.length = 2 ^ p.length) (h : ∀ t, t < 2 ^ p.length → l.getD t 0 = ((wayAt p m t : Nat) : Int)) : l = Wl p m := by
  apply List.ext_getElem
  · rw [hl, Wl_len]
  · intro t h1 h2
    have := h t (by omega)
    rw [← Wl_get p m (by omega), List.getD_eq_getElem?_getD, List.getD_eq_getElem?_getD, List.getElem?_eq_getElem h1, List.getElem?_eq_getElem h2] at this
    exact this
theorem getD_setW (l : List Int) (i : Nat) (v : Int) (hi : i < l.length) (t : Nat) : (l.set i v).getD t 0 = if i = t then v else l.getD t 0 := by
  by_cases h : i = t
  · subst h; rw [if_pos rfl, List.getD_eq_getElem?_getD, List.getElem?_set_self hi]; rfl
  · rw [if_neg h, List.getD_eq_getElem?_getD, List.getElem?_set_ne h, List.getD_eq_getElem?_getD]
theorem add_gt {s e : Nat} (hb : s.testBit e = false) : s < s ||| 2 ^ e := by
  have h1 : s ≤ s ||| 2 ^ e := Nat.left_le_or
  rcases Nat.lt_or_ge s (s ||| 2 ^ e) with h | h
  · exact h
  · have he : s = s ||| 2 ^ e := by omega
    have : (s ||| 2 ^ e).testBit e = true := by rw [Nat.testBit_or, pow_bit]; simp
    rw [← he, hb] at this; cases this
theorem nextN_items (p : List Int) (hp : PO p) (s : Nat) : nextN p s = (itemsN (ndiff (allN p) s)).filter fun e => subB (L p e) s := by
  unfold nextN itemsN
  rw [List.filter_filter]
  apply List.filter_congr
  intro e he
  rw [ndiff_bit, allN_bit]
  cases decide (e < p.length) <;> cases s.testBit e <;> cases subB (L p e) s <;> rfl
theorem ways_table {p : List Int} (hp : PO p) : Ev (fun k => impl_Poset_ways.f k p) (Wl p 0) := by
  have hn := hp.small
  have h2 : (2 : Nat) ^ p.length ≤ 1024 := Nat.le_trans (Nat.pow_le_pow_right (by decide) hn) (by decide)
  have hal := allN_lt p
  have hal2 : allN p + 1 = 2 ^ p.length := by unfold allN; have := Nat.two_pow_pos p.length; omega
  have outer : ∀ s : Nat, s ≤ allN p → Ev (fun k => impl_Poset_ways.l0 k (Wl p s) ((s : Int) - 1) p) (Wl p 0) := by
    intro s
    induction s with
    | zero =>
      intro _
      exact Ev.step (by intro k; simp only [impl_Poset_ways.l0]; rfl) (Ev.no (by omega) (Ev.ret rfl))
    | succ s ih =>
      intro hs
      have hs2 : s < 2 ^ p.length := by omega
      have e1 : (((s + 1 : Nat) : Int) - 1) = (s : Int) := by omega
      have e2 : wrap64 ((s : Int) - 1) = (s : Int) - 1 := wid (by omega) (by omega)
      rw [e1]
      refine Ev.step (by intro k; simp only [impl_Poset_ways.l0]; rfl) (Ev.yes (by omega) ?_)
      refine Ev.bind (close_ev hp hs2) ?_
      have hcl := closeN_eq hp hs2
      have hall : s ≠ allN p := by omega
      by_cases hid : idealB p s = true
      · rw [hid, beq_iff_eq] at hcl
        rw [hcl]
        refine Ev.yes rfl (Ev.call (all_eq (by omega)) ?_)
        rw [bits_andNotN (lt_pow hal (by omega)) (lt_pow hs2 (by omega))]
        have hit : ndiff (allN p) s < 2 ^ p.length := ndiff_lt hal
        refine Ev.bind (items_ev _ (lt_pow hit (by omega))) ?_
        rw [ints_len]
        generalize hI : itemsN (ndiff (allN p) s) = I
        have hIl : I.length ≤ 10 := by rw [← hI]; exact itemsN_len _
        have inner : ∀ i, i ≤ I.length → ∀ v : Nat, v + sumL (((I.drop i).filter fun e => subB (L p e) s).map fun e => ways p (s ||| 2 ^ e)) = ways p s →
            Ev (fun k => impl_Poset_ways.l1 k ((Wl p (s + 1)).set s (v : Int)) (s : Int) (ints I) (I.length : Int) (i : Int) p) (Wl p 0) := by
          refine downTo _ ?_ ?_
          · intro v hv
            rw [List.drop_length] at hv
            have hv' : v = ways p s := by simpa [sumL] using hv
            refine Ev.step (by intro k; simp only [impl_Poset_ways.l1]; rfl) (Ev.no (by omega) ?_)
            rw [e2]
            have he : (Wl p (s + 1)).set s (v : Int) = Wl p s := by
              apply Wl_ext
              · rw [List.length_set, Wl_len]
              · intro t ht
                rw [getD_setW _ _ _ (by rw [Wl_len]; exact hs2)]
                split
                · rename_i h; subst h; unfold wayAt; rw [if_pos (Nat.le_refl _), if_pos hid, hv']
                · rename_i h
                  rw [Wl_get _ _ ht]; unfold wayAt
                  by_cases hst : s ≤ t
                  · rw [if_pos hst, if_pos (by omega)]
                  · rw [if_neg hst, if_neg (by omega)]
            rw [he]
            exact ih (by omega)
          · intro i hi ihi v hv
            obtain ⟨hm, hlt⟩ : I.getD i 0 ∈ I ∧ I.getD i 0 < p.length := by
              have hm : I.getD i 0 ∈ I := by rw [List.getD_eq_getElem?_getD, List.getElem?_eq_getElem hi]; exact List.getElem_mem hi
              refine ⟨hm, ?_⟩
              have := items_lt hit (j := i) (by rw [hI]; exact hi)
              rw [hI] at this; exact this
            have hbit : s.testBit (I.getD i 0) = false := by
              have hm' := hm
              rw [← hI, mem_itemsN, ndiff_bit] at hm'
              have := hm'.2
              rw [hI] at this
              cases h : s.testBit (I.getD i 0) with
              | false => rfl
              | true => rw [h] at this; simp at this
            have hdrop : I.drop i = I.getD i 0 :: I.drop (i + 1) := by
              rw [List.drop_eq_getElem_cons hi, List.getD_eq_getElem?_getD, List.getElem?_eq_getElem hi]; rfl
            generalize hE : I.getD i 0 = E at hm hlt hbit hdrop
            rw [hdrop] at hv
            refine Ev.step (by intro k; simp only [impl_Poset_ways.l1]; rfl) (Ev.yes (by omega) (Ev.yes (by omega) (Ev.yes (by rw [ints_len]; omega) ?_)))
            rw [rd_ints, hE, wid1 hi (by omega), rdN]
            refine Ev.yes (by omega) (Ev.yes (by omega) ?_)
            rw [hp.val _ hlt, bits_andNotN (lt_pow (L_lt hp hlt) (by omega)) (lt_pow hs2 (by omega))]
            have hwl := Wl_len p (s + 1)
            by_cases hsub : subB (L p E) s = true
            · have hz : ndiff (L p E) s = 0 := by unfold subB at hsub; rw [beq_iff_eq] at hsub; exact hsub
              rw [hz]
              rw [List.filter_cons, hsub, if_pos rfl, List.map_cons] at hv
              simp only [sumL] at hv
              have hor : s ||| 2 ^ E < 2 ^ p.length := add_lt hs2 hlt
              rw [shlN (by omega), bits_orN (lt_pow hs2 (by omega)) (lt_pow (pow_lt_pow hlt) (by omega))]
              refine Ev.yes rfl (Ev.yes (by omega) (Ev.yes (by rw [List.length_set, hwl]; omega) (Ev.yes (by omega) (Ev.yes (by rw [List.length_set, hwl]; omega) ?_))))
              rw [rdN, rdN, getD_setW _ _ _ (by rw [hwl]; exact hs2), if_pos rfl, getD_setW _ _ _ (by rw [hwl]; exact hs2), Int.toNat_natCast, List.set_set]
              have hgt := add_gt hbit
              rw [if_neg (by omega), Wl_get _ _ hor]
              have hnx : E ∈ nextN p s := by rw [mem_nextN]; exact ⟨by omega, hlt, hbit, hsub⟩
              have hw : wayAt p (s + 1) (s ||| 2 ^ E) = ways p (s ||| 2 ^ E) := by
                unfold wayAt; rw [if_pos (by omega), if_pos (idealB_add hp hid hnx)]
              have hb := ways_le hn s
              rw [hw, wid (by omega) (by omega)]
              have := ihi (v + ways p (s ||| 2 ^ E)) (by omega)
              rw [Int.natCast_add] at this
              exact this
            · have hz : ndiff (L p E) s ≠ 0 := by intro h; apply hsub; unfold subB; rw [h]; rfl
              rw [List.filter_cons, if_neg hsub] at hv
              refine Ev.no (by omega) ?_
              exact ihi v hv
        have hstart : Wl p (s + 1) = (Wl p (s + 1)).set s ((0 : Nat) : Int) := by
          symm
          apply Wl_ext
          · rw [List.length_set, Wl_len]
          · intro t ht
            rw [getD_setW _ _ _ (by rw [Wl_len]; exact hs2)]
            split
            · rename_i h; subst h; unfold wayAt; rw [if_neg (by omega)]
            · exact Wl_get _ _ ht
        rw [hstart]
        refine inner 0 (by omega) 0 ?_
        rw [ways_step hs2 hall, nextN_items p hp, hI]; simp
      · rw [Bool.not_eq_true] at hid
        rw [hid, beq_eq_false_iff_ne] at hcl
        refine Ev.no (by omega) ?_
        rw [e2]
        have he : Wl p (s + 1) = Wl p s := by
          apply Wl_ext (Wl_len _ _)
          intro t ht
          rw [Wl_get _ _ ht]; unfold wayAt
          by_cases hst : s ≤ t
          · rw [if_pos hst]
            by_cases h : s = t
            · subst h; rw [if_neg (by omega), hid]; rfl
            · rw [if_pos (by omega)]
          · rw [if_neg hst, if_neg (by omega)]
        rw [he]
        exact ih (by omega)
  unfold impl_Poset_ways.f
  refine Ev.call (all_eq (by omega)) ?_
  have e3 : wrap64 (((allN p : Nat) : Int) + 1) = ((2 ^ p.length : Nat) : Int) := by rw [← hal2]; exact wid (by omega) (by omega)
  rw [e3]
  refine Ev.yes (by omega) (Ev.yes (by omega) ?_)
  rw [Int.toNat_natCast]
  refine Ev.call rfl (Ev.call (all_eq (by omega)) (Ev.yes (by omega) (Ev.yes (by rw [List.length_replicate]; omega) (Ev.call (all_eq (by omega)) ?_))))
  have e4 : wrap64 (((allN p : Nat) : Int) - 1) = ((allN p : Nat) : Int) - 1 := wid (by omega) (by omega)
  rw [e4, Int.toNat_natCast]
  have he : (List.replicate (2 ^ p.length) (0 : Int)).set (allN p) 1 = Wl p (allN p) := by
    apply Wl_ext
    · rw [List.length_set, List.length_replicate]
    · intro t ht
      rw [getD_setW _ _ _ (by rw [List.length_replicate]; exact hal)]
      split
      · rename_i h; subst h; unfold wayAt; rw [if_pos (Nat.le_refl _), if_pos (idealB_all p hp), ways_all]; rfl
      · unfold wayAt
        rw [if_neg (by omega), List.getD_eq_getElem?_getD, List.getElem?_replicate]
        split <;> rfl
  rw [he]
  exact outer _ (Nat.le_refl _)
end Go.Proofs.Ytjahclncpgllmaa.Q
end

section
namespace Go.Proofs.Ytjahclncpgllmaa.Q
open Go.RowKit Go.Proofs.YtjahclncpgllmaaW.PrintWords
set_option linter.unusedVariables false
/-- The elements of l are put behind the set s one by one, each behind all that are less. -/
def ordRun (p : List Int) : Nat → List Int → Option Nat
  | s, [] => some s
  | s, e :: l => if (0 ≤ e ∧ e < (p.length : Int)) ∧ s.testBit e.toNat = false ∧ subB (L p e.toNat) s = true then ordRun p (s ||| 2 ^ e.toNat) l else none
def ordB (p w : List Int) : Bool := ordRun p 0 w == some (allN p)
theorem ordB_iff {p w : List Int} : ordB p w = true ↔ ordRun p 0 w = some (allN p) := by unfold ordB; rw [beq_iff_eq]
theorem ordRun_app (p x y : List Int) : ∀ s, ordRun p s (x ++ y) = (ordRun p s x).bind fun t => ordRun p t y := by
  induction x with
  | nil => intro s; rfl
  | cons e x ih =>
    intro s
    simp only [List.cons_append, ordRun]
    split
    · exact ih _
    · rfl
theorem ordRun_range {p l : List Int} : ∀ {s t : Nat}, ordRun p s l = some t → ∀ e ∈ l, 0 ≤ e ∧ e < (p.length : Int) := by
  induction l with
  | nil => intro s t h e he; cases he
  | cons x l ih =>
    intro s t h e he
    simp only [ordRun] at h
    split at h
    · rename_i hc
      rcases List.mem_cons.1 he with rfl | he
      · exact hc.1
      · exact ih h e he
    · cases h
def pcard (n s : Nat) : Nat := (List.range n).countP s.testBit
theorem pcard_succ (n s : Nat) : pcard (n + 1) s = pcard n s + if s.testBit n then 1 else 0 := by
  unfold pcard; rw [List.range_succ, List.countP_append, List.countP_singleton]
theorem pcard_above {n e : Nat} (s : Nat) (h : n ≤ e) : pcard n (s ||| 2 ^ e) = pcard n s := by
  unfold pcard
  apply List.countP_congr
  intro x hx
  rw [List.mem_range] at hx
  rw [Nat.testBit_or, pow_bit, decide_eq_false (by omega), Bool.or_false]
theorem pcard_add {n s e : Nat} (he : e < n) (hb : s.testBit e = false) : pcard n (s ||| 2 ^ e) = pcard n s + 1 := by
  induction n with
  | zero => omega
  | succ n ih =>
    rw [pcard_succ, pcard_succ, Nat.testBit_or, pow_bit]
    rcases Nat.lt_succ_iff_lt_or_eq.1 he with h | h
    · rw [ih h, decide_eq_false (by omega), Bool.or_false]; omega
    · subst h; rw [pcard_above s (Nat.le_refl _), hb]; simp
theorem pcard_zero (n : Nat) : pcard n 0 = 0 := by unfold pcard; rw [List.countP_eq_zero]; intro x _; simp
theorem pcard_le (n s : Nat) : pcard n s ≤ n := by unfold pcard; have := List.countP_le_length (p := s.testBit) (l := List.range n); simpa using this
theorem pcard_all (p : List Int) : pcard p.length (allN p) = p.length := by
  unfold pcard
  have : (List.range p.length).countP (allN p).testBit = (List.range p.length).length := by
    rw [List.countP_eq_length]; intro x hx; rw [List.mem_range] at hx; rw [allN_bit, decide_eq_true hx]
  rw [this, List.length_range]
theorem all_of_pcard {p : List Int} {s : Nat} (hs : s < 2 ^ p.length) (h : pcard p.length s = p.length) : s = allN p := by
  refine ext_bits hs (allN_lt p) (fun i hi => ?_)
  rw [allN_bit, decide_eq_true hi]
  have h2 : (List.range p.length).countP s.testBit = (List.range p.length).length := by rw [List.length_range]; exact h
  rw [List.countP_eq_length] at h2
  exact h2 i (List.mem_range.2 hi)
theorem ordRun_card {p l : List Int} : ∀ {s t : Nat}, s < 2 ^ p.length → ordRun p s l = some t → t < 2 ^ p.length ∧ pcard p.length t = pcard p.length s + l.length := by
  induction l with
  | nil => intro s t hs h; simp only [ordRun, Option.some.injEq] at h; subst h; exact ⟨hs, rfl⟩
  | cons x l ih =>
    intro s t hs h
    simp only [ordRun] at h
    split at h
    · rename_i hc
      obtain ⟨⟨h0, h1⟩, h2, h3⟩ := hc
      have hx : x.toNat < p.length := by omega
      obtain ⟨g1, g2⟩ := ih (or_lt hs (pow_lt_pow hx)) h
      refine ⟨g1, ?_⟩
      rw [g2, pcard_add hx h2, List.length_cons]; omega
    · cases h
theorem ordB_len {p w : List Int} (h : ordB p w = true) : w.length = p.length := by
  have := (ordRun_card (Nat.two_pow_pos _) (ordB_iff.1 h)).2
  rw [pcard_all, pcard_zero] at this; omega
theorem ordB_eq (p w : List Int) : (decide (w.length = p.length) && (ordRun p 0 w).isSome) = ordB p w := by
  rw [Bool.eq_iff_iff, Bool.and_eq_true, decide_eq_true_eq]
  constructor
  · rintro ⟨hl, hs⟩
    obtain ⟨t, ht⟩ := Option.isSome_iff_exists.1 hs
    obtain ⟨g1, g2⟩ := ordRun_card (Nat.two_pow_pos _) ht
    rw [pcard_zero, hl, Nat.zero_add] at g2
    rw [ordB_iff, ht, all_of_pcard g1 g2]
  · intro h
    exact ⟨ordB_len h, by rw [ordB_iff.1 h]; rfl⟩
theorem ordB_range {p w : List Int} (h : ordB p w = true) : ∀ e ∈ w, 0 ≤ e ∧ e < (p.length : Int) := ordRun_range (ordB_iff.1 h)
theorem drop_getD (w : List Int) {i : Nat} (h : i < w.length) : w.drop i = w.getD i 0 :: w.drop (i + 1) := by
  rw [List.drop_eq_getElem_cons h, List.getD_eq_getElem?_getD, List.getElem?_eq_getElem h]; rfl
end Go.Proofs.Ytjahclncpgllmaa.Q
end

section
namespace Go.Proofs.Ytjahclncpgllmaa.Q
open Go.RowKit Go.Proofs.YtjahclncpgllmaaW.PrintWords
set_option linter.unusedVariables false
theorem sizes_eq (n : Nat) : (decide ((1 : Int) ≤ (n : Int)) && decide ((n : Int) ≤ 10)) = (decide (1 ≤ n) && decide (n ≤ 10)) := by
  rw [Bool.eq_iff_iff]; simp only [Bool.and_eq_true, decide_eq_true_eq]; omega
end Go.Proofs.Ytjahclncpgllmaa.Q
end

section
namespace Go.Proofs.Ytjahclncpgllmaa.Q
open Go.RowKit Go.Proofs.YtjahclncpgllmaaW.PrintWords Go.Proofs.Ytjahclncpgllmaa.F
set_option linter.unusedVariables false
theorem poGood_ev (p : List Int) : Ev (fun k => spec_poGood.f k p) (isPo p) := by
  unfold spec_poGood.f
  refine Ev.call (l1In_eq _ _ _) ?_
  unfold isPo
  rw [sizes_eq]
  cases hs : (decide (1 ≤ p.length) && decide (p.length ≤ 10)) with
  | false => exact Ev.no (by simp) (Ev.ret rfl)
  | true =>
  refine Ev.yes rfl ?_
  rw [Bool.and_eq_true, decide_eq_true_eq, decide_eq_true_eq] at hs
  obtain ⟨h1, h2⟩ := hs
  have key : ∀ i, i ≤ p.length → Ev (fun k => spec_poGood.l0 k p (p.length : Int) (i : Int) p) (allFrom (rowOk p) p.length i) := by
    refine downTo p.length ?_ ?_
    · refine Ev.step (by intro k; simp only [spec_poGood.l0]; rfl) ?_
      exact Ev.no (by omega) (Ev.ret (allFrom_end _ _).symm)
    · intro i hi ih
      refine Ev.step (by intro k; simp only [spec_poGood.l0]; rfl) ?_
      refine Ev.yes (by omega) (Ev.yes (by omega) (Ev.yes (by omega) ?_))
      rw [rdN, mask_eq (by omega)]
      refine Ev.call (l1In_eq _ _ _) ?_
      rw [allFrom_step _ hi]
      by_cases hb : 0 ≤ p.getD i 0 ∧ p.getD i 0 ≤ 2 ^ i - 1
      rotate_left
      · exact Ev.no (by rw [range_false hb]; simp) (Ev.ret (by rw [rowOk_false hb]; rfl))
      refine Ev.yes (range_true hb) ?_
      have hv : p.getD i 0 = (L p i : Int) := by unfold L; omega
      rw [rowOk_true hb]
      generalize hx : p.getD i 0 = x at *
      have inner : ∀ j, j ≤ i → Ev (fun k => spec_poGood.l1 k (i : Int) x (j : Int) p (p.length : Int) (i : Int) p)
          (allFrom (fun j => !(L p i).testBit j || decide (Go.bits .andNot .i64 (p.getD j 0) x = 0)) i j && allFrom (rowOk p) p.length (i + 1)) := by
        refine downTo i ?_ ?_
        · refine Ev.step (by intro k; simp only [spec_poGood.l1]; rfl) ?_
          refine Ev.no (by omega) ?_
          rw [wid1 hi (by omega), allFrom_end, Bool.true_and]
          exact ih
        · intro j hj ihj
          refine Ev.step (by intro k; simp only [spec_poGood.l1]; rfl) ?_
          refine Ev.yes (by omega) (Ev.yes (by omega) ?_)
          rw [allFrom_step _ hj, wid1 hj (by omega), rdN]
          cases hbit : (L p i).testBit j with
          | false => exact Ev.no (by rw [hv, bit_test (by omega), hbit]; simp) (evc ihj (by simp))
          | true =>
            refine Ev.yes (by rw [hv, bit_test (by omega), hbit]) (Ev.yes (by omega) ?_)
            refine Ev.ite (fun h => evc ihj ?_) (fun h => Ev.ret ?_)
            · rw [decide_eq_true h]; simp
            · rw [decide_eq_false h]; simp
      exact inner 0 (by omega)
  exact key 0 (by omega)
end Go.Proofs.Ytjahclncpgllmaa.Q
end

section
namespace Go.Proofs.Ytjahclncpgllmaa.Q
open Go.RowKit Go.Proofs.YtjahclncpgllmaaW.PrintWords Go.Proofs.Ytjahclncpgllmaa.F
set_option linter.unusedVariables false
theorem within_eq (a b c : Int) : impl_within.f a b c = some (decide (b ≤ a) && decide (a ≤ c)) := by
  unfold impl_within.f
  by_cases h : b ≤ a
  · rw [if_pos h]; simp [h]
  · rw [if_neg h]; simp [h]
end Go.Proofs.Ytjahclncpgllmaa.Q
end

section
namespace Go.Proofs.Ytjahclncpgllmaa.Q
open Go.RowKit Go.Proofs.YtjahclncpgllmaaW.PrintWords Go.Proofs.Ytjahclncpgllmaa.F
set_option linter.unusedVariables false
theorem IsPoset_ev (p : List Int) : Ev (fun k => impl_IsPoset.f k p) (isPo p) := by
  unfold impl_IsPoset.f
  refine Ev.call (show impl_Poset_n.f p = some (p.length : Int) from rfl) (Ev.call (within_eq _ _ _) ?_)
  unfold isPo
  rw [sizes_eq]
  cases hs : (decide (1 ≤ p.length) && decide (p.length ≤ 10)) with
  | false => exact Ev.no (by simp) (Ev.ret rfl)
  | true =>
  refine Ev.yes rfl ?_
  rw [Bool.and_eq_true, decide_eq_true_eq, decide_eq_true_eq] at hs
  obtain ⟨h1, h2⟩ := hs
  have key : ∀ i, i ≤ p.length → Ev (fun k => impl_IsPoset.l0 k p (p.length : Int) (i : Int) p) (allFrom (rowOk p) p.length i) := by
    refine downTo p.length ?_ ?_
    · refine Ev.step (by intro k; simp only [impl_IsPoset.l0]; rfl) ?_
      exact Ev.no (by omega) (Ev.ret (allFrom_end _ _).symm)
    · intro i hi ih
      refine Ev.step (by intro k; simp only [impl_IsPoset.l0]; rfl) ?_
      refine Ev.yes (by omega) (Ev.yes (by omega) (Ev.yes (by omega) ?_))
      rw [rdN, mask_eq (by omega)]
      refine Ev.call (within_eq _ _ _) ?_
      rw [allFrom_step _ hi]
      by_cases hb : 0 ≤ p.getD i 0 ∧ p.getD i 0 ≤ 2 ^ i - 1
      rotate_left
      · exact Ev.no (by rw [range_false hb]; simp) (Ev.ret (by rw [rowOk_false hb]; rfl))
      refine Ev.yes (range_true hb) ?_
      have hv : p.getD i 0 = (L p i : Int) := by unfold L; omega
      have hm : L p i < 2 ^ i := by
        have := hb.2
        rw [hv, pow_int] at this
        have hp : 0 < 2 ^ i := Nat.two_pow_pos i
        generalize 2 ^ i = z at *
        omega
      rw [rowOk_true hb, ← items_all hm (by omega) (fun j => decide (Go.bits .andNot .i64 (p.getD j 0) (p.getD i 0) = 0)), hv]
      refine Ev.bind (items_ev _ (lt_pow hm (by omega))) ?_
      have inner : ∀ j, j ≤ (itemsN (L p i)).length → Ev (fun k => impl_IsPoset.l1 k (L p i : Int) p (p.length : Int) (i : Int) (ints (itemsN (L p i))) ((ints (itemsN (L p i))).length : Int) (j : Int) p)
          (((itemsN (L p i)).drop j).all (fun j => decide (Go.bits .andNot .i64 (p.getD j 0) (L p i : Int) = 0)) && allFrom (rowOk p) p.length (i + 1)) := by
        rw [ints_len]
        refine downTo _ ?_ ?_
        · refine Ev.step (by intro k; simp only [impl_IsPoset.l1]; rfl) ?_
          refine Ev.no (by omega) ?_
          rw [wid1 hi (by omega), List.drop_length, List.all_nil, Bool.true_and]
          exact ih
        · intro j hj ihj
          have hlt := items_lt hm hj
          have hl := itemsN_len (L p i)
          refine Ev.step (by intro k; simp only [impl_IsPoset.l1]; rfl) ?_
          refine Ev.yes (by omega) (Ev.yes (by omega) (Ev.yes (by rw [ints_len]; omega) ?_))
          rw [rd_ints, all_drop_step _ _ 0 hj, wid1 hj (by omega), rdN]
          refine Ev.yes (by omega) (Ev.yes (by omega) ?_)
          refine Ev.ite (fun h => evc ihj ?_) (fun h => Ev.ret ?_)
          · rw [decide_eq_true h]; simp
          · rw [decide_eq_false h]; simp
      exact inner 0 (by omega)
  exact key 0 (by omega)
end Go.Proofs.Ytjahclncpgllmaa.Q
end

section
namespace Go.Proofs.Ytjahclncpgllmaa.Q
open Go.RowKit Go.Proofs.YtjahclncpgllmaaW.PrintWords
set_option linter.unusedVariables false
def swp (w : List Int) (i : Nat) : List Int := (w.set i (w.getD (i + 1) 0)).set (i + 1) (w.getD i 0)
/-- The toggle at i: neighbours are exchanged unless the first one is less. -/
def togL (p w : List Int) (i : Nat) : List Int := if (L p (w.getD (i + 1) 0).toNat).testBit (w.getD i 0).toNat then w else swp w i
theorem swp_len (w : List Int) (i : Nat) : (swp w i).length = w.length := by unfold swp; rw [List.length_set, List.length_set]
theorem togL_len (p w : List Int) (i : Nat) : (togL p w i).length = w.length := by unfold togL; split; rfl; exact swp_len w i
theorem swp_getD {w : List Int} {i : Nat} (h : i + 1 < w.length) (j : Nat) : (swp w i).getD j 0 = if i + 1 = j then w.getD i 0 else if i = j then w.getD (i + 1) 0 else w.getD j 0 := by
  unfold swp
  rw [getD_set _ _ _ _ _ (by rw [List.length_set]; exact h)]
  split
  · rfl
  · rw [getD_set _ _ _ _ _ (by omega)]
structure OrdAt (p w : List Int) (i a b s : Nat) (x y : List Int) : Prop where
  dec : w = x ++ (a : Int) :: (b : Int) :: y
  len : x.length = i
  ha : a < p.length
  hb : b < p.length
  run : ordRun p 0 x = some s
  slt : s < 2 ^ p.length
  na : s.testBit a = false
  nb : (s ||| 2 ^ a).testBit b = false
  la : subB (L p a) s = true
  lb : subB (L p b) (s ||| 2 ^ a) = true
  rest : ordRun p (s ||| 2 ^ a ||| 2 ^ b) y = some (allN p)
theorem ord_at {p w : List Int} {i : Nat} (h : ordB p w = true) (hi : i + 1 < w.length) : ∃ a b s x y, OrdAt p w i a b s x y := by
  have hr := ordB_iff.1 h
  have e : w = w.take i ++ w.getD i 0 :: w.getD (i + 1) 0 :: w.drop (i + 2) := by
    have h1 := drop_getD w (show i < w.length by omega)
    have h2 := drop_getD w hi
    rw [← h2, ← h1, List.take_append_drop]
  have hmem : ∀ j, j < w.length → 0 ≤ w.getD j 0 ∧ w.getD j 0 < (p.length : Int) := fun j hj => by
    rw [List.getD_eq_getElem?_getD, List.getElem?_eq_getElem hj]
    exact ordB_range h _ (List.getElem_mem hj)
  have ma := hmem i (by omega)
  have mb := hmem (i + 1) hi
  obtain ⟨a, ea⟩ := Int.eq_ofNat_of_zero_le ma.1
  obtain ⟨b, eb⟩ := Int.eq_ofNat_of_zero_le mb.1
  rw [ea] at ma
  rw [eb] at mb
  rw [ea, eb] at e
  rw [e, ordRun_app] at hr
  obtain ⟨s, h1, h2⟩ := Option.bind_eq_some_iff.1 hr
  simp only [ordRun, Int.toNat_natCast] at h2
  split at h2
  rotate_left
  · cases h2
  rename_i c1
  split at h2
  rotate_left
  · cases h2
  rename_i c2
  exact ⟨a, b, s, _, _, ⟨e, by rw [List.length_take]; omega, by omega, by omega, h1, (ordRun_card (Nat.two_pow_pos _) h1).1, c1.2.1, c2.2.1, c1.2.2, c2.2.2, h2⟩⟩
theorem app_get (x : List Int) (a b : Int) (y : List Int) : (x ++ a :: b :: y).getD x.length 0 = a ∧ (x ++ a :: b :: y).getD (x.length + 1) 0 = b := by
  constructor
  · rw [List.getD_eq_getElem?_getD, List.getElem?_append_right (Nat.le_refl _), Nat.sub_self]; rfl
  · rw [List.getD_eq_getElem?_getD, List.getElem?_append_right (by omega), Nat.add_sub_cancel_left]; rfl
theorem app_swp (x : List Int) (a b : Int) (y : List Int) : swp (x ++ a :: b :: y) x.length = x ++ b :: a :: y := by
  unfold swp
  rw [(app_get x a b y).1, (app_get x a b y).2, List.set_append_right _ _ (Nat.le_refl _), Nat.sub_self, List.set_append_right _ _ (by omega), Nat.add_sub_cancel_left]
  rfl
theorem OrdAt.get {p w : List Int} {i a b s : Nat} {x y : List Int} (h : OrdAt p w i a b s x y) : w.getD i 0 = (a : Int) ∧ w.getD (i + 1) 0 = (b : Int) := by
  have := app_get x (a : Int) (b : Int) y
  rw [← h.dec, h.len] at this
  exact this
theorem OrdAt.ba {p w : List Int} {i a b s : Nat} {x y : List Int} (h : OrdAt p w i a b s x y) : (L p a).testBit b = false := by
  cases e : (L p a).testBit b with
  | false => rfl
  | true =>
    have h1 := subB_iff.1 h.la b e
    have h2 := h.nb
    rw [Nat.testBit_or, h1] at h2
    simp at h2
theorem OrdAt.tog {p w : List Int} {i a b s : Nat} {x y : List Int} (h : OrdAt p w i a b s x y) : togL p w i = if (L p b).testBit a then w else swp w i := by
  unfold togL
  rw [h.get.1, h.get.2, Int.toNat_natCast, Int.toNat_natCast]
theorem togL_ord {p w : List Int} {i : Nat} (h : ordB p w = true) (hi : i + 1 < w.length) : ordB p (togL p w i) = true := by
  obtain ⟨a, b, s, x, y, H⟩ := ord_at h hi
  rw [H.tog]
  split
  · exact h
  rename_i hc
  have hc : (L p b).testBit a = false := by simpa using hc
  have e : swp w i = x ++ (b : Int) :: (a : Int) :: y := by rw [H.dec, ← H.len]; exact app_swp x _ _ y
  have hnb : s.testBit b = false ∧ a ≠ b := by
    have h2 := H.nb
    rw [Nat.testBit_or, pow_bit, Bool.or_eq_false_iff, decide_eq_false_iff_not] at h2
    exact h2
  rw [ordB_iff, e, ordRun_app, H.run]
  simp only [Option.bind_some, ordRun, Int.toNat_natCast]
  have ha := H.ha
  have hb := H.hb
  have g1 : subB (L p b) s = true := by
    rw [subB_iff]
    intro j hj
    have h1 := subB_iff.1 H.lb j hj
    rw [Nat.testBit_or, pow_bit, Bool.or_eq_true, decide_eq_true_eq] at h1
    rcases h1 with h1 | h1
    · exact h1
    · subst h1; rw [hc] at hj; cases hj
  have g2 : (s ||| 2 ^ b).testBit a = false := by
    rw [Nat.testBit_or, pow_bit, H.na, decide_eq_false (fun e => hnb.2 e.symm)]; rfl
  have g3 : subB (L p a) (s ||| 2 ^ b) = true := by
    rw [subB_iff]
    intro j hj
    rw [Nat.testBit_or, subB_iff.1 H.la j hj]; rfl
  rw [if_pos ⟨by omega, hnb.1, g1⟩, if_pos ⟨by omega, g2, g3⟩]
  have : s ||| 2 ^ b ||| 2 ^ a = s ||| 2 ^ a ||| 2 ^ b := by rw [Nat.or_assoc, Nat.or_comm (2 ^ b), ← Nat.or_assoc]
  rw [this]; exact H.rest
/-- All toggles below d, from 0 on. -/
def upL (p w : List Int) : Nat → List Int
  | 0 => w
  | d + 1 => togL p (upL p w d) d
theorem upL_ok {p w : List Int} (h : ordB p w = true) : ∀ d, d + 1 ≤ w.length → ordB p (upL p w d) = true ∧ (upL p w d).length = w.length := by
  intro d
  induction d with
  | zero => intro _; exact ⟨h, rfl⟩
  | succ d ih =>
    intro hd
    obtain ⟨h1, h2⟩ := ih (by omega)
    exact ⟨togL_ord h1 (by omega), by unfold upL; rw [togL_len, h2]⟩
/-- All toggles below d, down to lo. -/
def dnL (p : List Int) (lo : Nat) (w : List Int) : Nat → List Int
  | 0 => w
  | d + 1 => dnL p lo (togL p w (lo + d)) d
theorem dnL_ok {p : List Int} (lo : Nat) : ∀ (d : Nat) (w : List Int), ordB p w = true → lo + d + 1 ≤ w.length → ordB p (dnL p lo w d) = true ∧ (dnL p lo w d).length = w.length := by
  intro d
  induction d with
  | zero => intro w h _; exact ⟨h, rfl⟩
  | succ d ih =>
    intro w h hd
    obtain ⟨h1, h2⟩ := ih (togL p w (lo + d)) (togL_ord h (by omega)) (by rw [togL_len]; omega)
    exact ⟨h1, by rw [show dnL p lo w (d + 1) = dnL p lo (togL p w (lo + d)) d from rfl, h2, togL_len]⟩
end Go.Proofs.Ytjahclncpgllmaa.Q
end

section
namespace Go.Proofs.Ytjahclncpgllmaa.F
open Go.RowKit Go.Proofs.YtjahclncpgllmaaW.PrintWords Go.Proofs.YtjahclncpgllmaaW.PrintLast Go.Proofs.YtjahclncpgllmaaW.PrintMore
set_option linter.unusedVariables false
set_option linter.unusedSimpArgs false
def slices_Clone_int_int.f (l0 : List Int) : Option (List Int) := if l0.length < 17592186044416 then some l0 else none
theorem slices_Clone_int_int.info : (Try.prog.info? 3).map (fun i => (i.zero, i.size, i.bytes)) = some (some (.int .i64 0), 1, 8) := by kernel_rfl
theorem slices_Clone_int_int.nil_ (w : World) (a : Option Addr) (n c n' c' : Nat) : (binOp .eql 22 (.slice a n c) (.slice none n' c')).run Try.prog w = .ok (.bool a.isNone) w := Lib.run_eql_slice_nil w _ _ a n c n' c' Try.underlying22
set_option maxHeartbeats 8000000 in
set_option maxRecDepth 100000 in
theorem slices_Clone_int_int.calls (A0 : Option Addr) (c0 : Nat) (l0 : List Int) (r : List Int) (w : World) (hr0 : Kd.C (Kd.int .i64) w A0 l0.length l0) (hc0 : l0.length ≤ c0) (h : slices_Clone_int_int.f l0 = some r) :
    Calls Try.prog 94 #[.slice A0 l0.length c0] w fun e w' => ∃ v0_ : Value, e = .returned (v0_) ∧ Kd.R (Kd.int .i64) 3 w' w.heap.size (fun _ => True) v0_ r ∧ Below w.heap.size w w' := by
  unfold slices_Clone_int_int.f at h
  by_cases c2 : l0.length < 17592186044416
  · rw [if_pos c2] at h
    obtain rfl := Option.some.inj h
    clear h
    have LMc2 := Aside0.mk c2
    clear c2
    cases A0 with
    | none =>
      have h0 : l0.length = 0 := by
        rcases Nat.eq_zero_or_pos l0.length with h | h
        · exact h
        · obtain ⟨ad, e, _⟩ := hr0.2.2 h; cases e
      obtain rfl : l0 = [] := List.length_eq_zero_iff.1 h0
      clear h0 hr0 hc0 LMc2
      have q22 := slices_Clone_int_int.nil_
      go_enter Try.func94, Try.ntmps94
      go_wp2
      go_ret
      exact ⟨_, rfl, Kd.R_nil _ _ _ _ _, Below.refl _ _⟩
    | some ad =>
      have HR0 := Aside0.mk hr0
      have HC0 := Aside0.mk hc0
      clear hr0 hc0
      have HB := Aside0.mk (Below.refl w.heap.size w)
      have q22 := slices_Clone_int_int.nil_
      go_enter Try.func94, Try.ntmps94
      go_wp2_with (first | ((with_reducible refine gate_dst (N := 5) rfl ?_); refine Kd.R_lit (Kd.int .i64) _ 3 ?hg (N := 5) ?hd (xs := ([] : List Int)) (inner := []) (ok := fun _ => True) (okp := fun _ => True) ?hr ?hp (fun _ hk => hk) trivial (Below.refl _ _) (Nat.le_refl _) (by simp) ?_; (case hd => rfl); (case hg => rfl); (case hr => first | (go_simp; done) | (go_simp; rfl)); (case hp => exact (Reps.none _ _)); intro v663 w3 ho4 hb hg_ hnew_; clear hg_ hnew_; have n0_ := Aside0.mk (Kd.R_lower ho4 (below_size (by repeat (first | (with_reducible first | exact HB.out | apply below_alloc | apply pw_below_drewN | apply below_drew1) | exact HB.out)))); have n1_ := Aside0.mk (below_step (by repeat (first | (with_reducible first | exact HB.out | apply below_alloc | apply pw_below_drewN | apply below_drew1) | exact HB.out)) hb); clear HB; have HO664 := n0_; have HB := n1_; clear n0_ n1_; clear hb ho4) | ((with_reducible refine gate_builtin (b := .append) (xs := #[.tmp 5, .tmp 6]) rfl ?_); at_builtin; refine Kd.R_append_rows (Kd.int .i64) (w0 := w) w.heap.size rfl (.tmp 5) (.tmp 6) 22 3 (.int .i64 0) 8 rfl Try.underlying22 slices_Clone_int_int.info rfl (by decide) (by omega) v663 [] l0 _ _ _ (fun _ => True) (fun _ => False) rfl rfl ?aO ?aR (fun _ _ h => h) (fun _ h => h.elim) ?aF ?aB ?aS ?aL ?_; (case aR => repeat (first | exact (Kd.C_below HR0.out HB.out) | (with_reducible refine Kd.C_alloc ?_ _) | (with_reducible refine Kd.C_drewN ?_ _) | (with_reducible refine Kd.C_drew ?_))); (case aB => exact (by repeat (first | (with_reducible first | exact HB.out | apply below_alloc | apply pw_below_drewN | apply below_drew1) | exact HB.out))); (case aF => exact (fun _ _ => trivial)); (case aO => exact (by (with_reducible repeat (first | apply Kd.R_alloc | apply Kd.R_drewN | apply Kd.R_drew)); exact HO664.out)); (case aS => exact (below_size (by repeat (first | (with_reducible first | exact HB.out | apply below_alloc | apply pw_below_drewN | apply below_drew1) | exact HB.out)))); (case aL => have := LMc2.out; simp; omega); intro v666 w5 ho hb hg hat; rw [List.nil_append] at ho; have n0_ := Aside0.mk (hb); have n1_ := Aside0.mk (ho); clear HB; clear HO664; have HB := n0_; have HO667 := n1_; clear n0_ n1_; clear ho hb hg hat))
      go_ret
      exact ⟨_, by first | rfl | (simp; done) | (simp [*]; done), by (with_reducible repeat (first | apply Kd.R_alloc | apply Kd.R_drewN | apply Kd.R_drew)); exact HO667.out, by repeat (first | (with_reducible first | exact HB.out | apply below_alloc | apply pw_below_drewN | apply below_drew1) | exact HB.out)⟩
  · rw [if_neg c2] at h; cases h
end Go.Proofs.Ytjahclncpgllmaa.F
end

section
namespace Go.Proofs.Ytjahclncpgllmaa.F
open Go.RowKit Go.Proofs.YtjahclncpgllmaaW.PrintWords Go.Proofs.YtjahclncpgllmaaW.PrintLast Go.Proofs.YtjahclncpgllmaaW.PrintMore
set_option linter.unusedVariables false
set_option linter.unusedSimpArgs false
theorem exch_keep {W : World} {x : Addr} {v : Value} (h : W.cell? x = some v) (o1 o2 o3 : Obj) : (((W.alloc o1).alloc o2).alloc o3).cell? x = some v := by
  have f1 : ∀ (W : World) (o : Obj), W.cell? x = some v → (W.alloc o).cell? x = some v := fun W o h => ((below_alloc (Below.refl W.heap.size W) o).cell (p := x) (World.block_lt_of_cell? _ _ h)).trans h
  exact f1 _ _ (f1 _ _ (f1 _ _ h))
set_option maxHeartbeats 8000000 in
set_option maxRecDepth 100000 in
theorem exch0_t (A0 : Option Addr) (c0 : Nat) (p : List Int) (a1_0 a1_1 a1_2 a1_3 a1_4 a1_5 a1_6 a1_7 a1_8 a1_9 : Int) (w : World) (hr : Kd.C (Kd.int .i64) w A0 p.length p) (h0 : 0 ≤ a1_0) (h1 : a1_0 < (p.length : Int)) (hA : impl_has.f (rd p a1_0) a1_1 = some true) :
    Calls Try.prog 59 #[.agg #[.slice A0 p.length c0], .agg #[.int .i64 a1_0, .int .i64 a1_1, .int .i64 a1_2, .int .i64 a1_3, .int .i64 a1_4, .int .i64 a1_5, .int .i64 a1_6, .int .i64 a1_7, .int .i64 a1_8, .int .i64 a1_9], .int .i64 0] w fun e w' => e = .returned (.agg #[.int .i64 a1_0, .int .i64 a1_1, .int .i64 a1_2, .int .i64 a1_3, .int .i64 a1_4, .int .i64 a1_5, .int .i64 a1_6, .int .i64 a1_7, .int .i64 a1_8, .int .i64 a1_9]) ∧ Below w.heap.size w w' := by
  have hu28 := Try.underlying28
  have hu58 := Try.underlying58
  have hwI : IntKind.i64.wrap (0 + 1) = 1 := by decide
  have hwJ : IntKind.i64.wrap 1 = 1 := by decide
  obtain ⟨ad, rfl, hc⟩ := Kd.at_int hr a1_0 h0 h1
  have hc3 := exch_keep hc
  have HA := Aside0.mk hA
  clear hA hr hc
  go_enter Try.func59, Try.ntmps59
  go_wp2_with (fail)
  go_quiet (fail)
  go_wp2_with (go_at_call 79; ((with_reducible refine (impl_has.calls (rd p a1_0) a1_1 _ _ HA.out).mono ?_); rintro e w' ⟨rfl, ⟨nd, rfl⟩⟩))
  refine bodyPost_ret (v := .agg #[.int .i64 a1_0, .int .i64 a1_1, .int .i64 a1_2, .int .i64 a1_3, .int .i64 a1_4, .int .i64 a1_5, .int .i64 a1_6, .int .i64 a1_7, .int .i64 a1_8, .int .i64 a1_9]) (by simp [results, Try.results59, go_sem]) rfl ⟨rfl, ?_⟩
  repeat (with_reducible first | exact Below.refl _ _ | refine below_set ?_ (by omega) | apply pw_below_drewN | apply below_drew1 | apply below_alloc)
set_option maxHeartbeats 8000000 in
set_option maxRecDepth 100000 in
theorem exch0_ft (A0 : Option Addr) (c0 : Nat) (p : List Int) (a1_0 a1_1 a1_2 a1_3 a1_4 a1_5 a1_6 a1_7 a1_8 a1_9 : Int) (w : World) (hr : Kd.C (Kd.int .i64) w A0 p.length p) (h0 : 0 ≤ a1_0) (h1 : a1_0 < (p.length : Int)) (hA : impl_has.f (rd p a1_0) a1_1 = some false) (h2 : 0 ≤ a1_1) (h3 : a1_1 < (p.length : Int)) (hB : impl_has.f (rd p a1_1) a1_0 = some true) :
    Calls Try.prog 59 #[.agg #[.slice A0 p.length c0], .agg #[.int .i64 a1_0, .int .i64 a1_1, .int .i64 a1_2, .int .i64 a1_3, .int .i64 a1_4, .int .i64 a1_5, .int .i64 a1_6, .int .i64 a1_7, .int .i64 a1_8, .int .i64 a1_9], .int .i64 0] w fun e w' => e = .returned (.agg #[.int .i64 a1_0, .int .i64 a1_1, .int .i64 a1_2, .int .i64 a1_3, .int .i64 a1_4, .int .i64 a1_5, .int .i64 a1_6, .int .i64 a1_7, .int .i64 a1_8, .int .i64 a1_9]) ∧ Below w.heap.size w w' := by
  have hu28 := Try.underlying28
  have hu58 := Try.underlying58
  have hwI : IntKind.i64.wrap (0 + 1) = 1 := by decide
  have hwJ : IntKind.i64.wrap 1 = 1 := by decide
  obtain ⟨ad, rfl, hc⟩ := Kd.at_int hr a1_0 h0 h1
  have hc3 := exch_keep hc
  have HA := Aside0.mk hA
  obtain ⟨ad', e', hc'⟩ := Kd.at_int hr a1_1 h2 h3
  cases e'
  have hc3' := exch_keep hc'
  have HB := Aside0.mk hB
  clear hA hB hr hc hc'
  go_enter Try.func59, Try.ntmps59
  go_wp2_with (fail)
  go_quiet (fail)
  go_wp2_with (go_at_call 79; first | ((with_reducible refine (impl_has.calls (rd p a1_0) a1_1 _ _ HA.out).mono ?_); rintro e w' ⟨rfl, ⟨nd, rfl⟩⟩) | ((with_reducible refine (impl_has.calls (rd p a1_1) a1_0 _ _ HB.out).mono ?_); rintro e w' ⟨rfl, ⟨nd, rfl⟩⟩))
  refine bodyPost_ret (v := .agg #[.int .i64 a1_0, .int .i64 a1_1, .int .i64 a1_2, .int .i64 a1_3, .int .i64 a1_4, .int .i64 a1_5, .int .i64 a1_6, .int .i64 a1_7, .int .i64 a1_8, .int .i64 a1_9]) (by simp [results, Try.results59, go_sem]) rfl ⟨rfl, ?_⟩
  repeat (with_reducible first | exact Below.refl _ _ | refine below_set ?_ (by omega) | apply pw_below_drewN | apply below_drew1 | apply below_alloc)
set_option maxHeartbeats 8000000 in
set_option maxRecDepth 100000 in
theorem exch0_ff (A0 : Option Addr) (c0 : Nat) (p : List Int) (a1_0 a1_1 a1_2 a1_3 a1_4 a1_5 a1_6 a1_7 a1_8 a1_9 : Int) (w : World) (hr : Kd.C (Kd.int .i64) w A0 p.length p) (h0 : 0 ≤ a1_0) (h1 : a1_0 < (p.length : Int)) (hA : impl_has.f (rd p a1_0) a1_1 = some false) (h2 : 0 ≤ a1_1) (h3 : a1_1 < (p.length : Int)) (hB : impl_has.f (rd p a1_1) a1_0 = some false) :
    Calls Try.prog 59 #[.agg #[.slice A0 p.length c0], .agg #[.int .i64 a1_0, .int .i64 a1_1, .int .i64 a1_2, .int .i64 a1_3, .int .i64 a1_4, .int .i64 a1_5, .int .i64 a1_6, .int .i64 a1_7, .int .i64 a1_8, .int .i64 a1_9], .int .i64 0] w fun e w' => e = .returned (.agg #[.int .i64 a1_1, .int .i64 a1_0, .int .i64 a1_2, .int .i64 a1_3, .int .i64 a1_4, .int .i64 a1_5, .int .i64 a1_6, .int .i64 a1_7, .int .i64 a1_8, .int .i64 a1_9]) ∧ Below w.heap.size w w' := by
  have hu28 := Try.underlying28
  have hu58 := Try.underlying58
  have hwI : IntKind.i64.wrap (0 + 1) = 1 := by decide
  have hwJ : IntKind.i64.wrap 1 = 1 := by decide
  obtain ⟨ad, rfl, hc⟩ := Kd.at_int hr a1_0 h0 h1
  have hc3 := exch_keep hc
  have HA := Aside0.mk hA
  obtain ⟨ad', e', hc'⟩ := Kd.at_int hr a1_1 h2 h3
  cases e'
  have hc3' := exch_keep hc'
  have HB := Aside0.mk hB
  clear hA hB hr hc hc'
  go_enter Try.func59, Try.ntmps59
  go_wp2_with (fail)
  go_quiet (fail)
  go_wp2_with (go_at_call 79; first | ((with_reducible refine (impl_has.calls (rd p a1_0) a1_1 _ _ HA.out).mono ?_); rintro e w' ⟨rfl, ⟨nd, rfl⟩⟩) | ((with_reducible refine (impl_has.calls (rd p a1_1) a1_0 _ _ HB.out).mono ?_); rintro e w' ⟨rfl, ⟨nd, rfl⟩⟩))
  refine bodyPost_ret (v := .agg #[.int .i64 a1_1, .int .i64 a1_0, .int .i64 a1_2, .int .i64 a1_3, .int .i64 a1_4, .int .i64 a1_5, .int .i64 a1_6, .int .i64 a1_7, .int .i64 a1_8, .int .i64 a1_9]) (by simp [results, Try.results59, go_sem]) rfl ⟨rfl, ?_⟩
  repeat (with_reducible first | exact Below.refl _ _ | refine below_set ?_ (by omega) | apply pw_below_drewN | apply below_drew1 | apply below_alloc)
def exchange0.f (l0_0 : List Int) (a1_0 a1_1 a1_2 a1_3 a1_4 a1_5 a1_6 a1_7 a1_8 a1_9 : Int) (a2 : Int) : Option (Int × Int × Int × Int × Int × Int × Int × Int × Int × Int) := if 0 ≤ a1_0 then (if a1_0 < (l0_0.length : Int) then ((impl_has.f (rd l0_0 a1_0) a1_1).bind fun t1 => (if t1 = true then (some (a1_0, a1_1, a1_2, a1_3, a1_4, a1_5, a1_6, a1_7, a1_8, a1_9)) else (if 0 ≤ a1_1 then (if a1_1 < (l0_0.length : Int) then ((impl_has.f (rd l0_0 a1_1) a1_0).bind fun t2 => (if t2 = true then (some (a1_0, a1_1, a1_2, a1_3, a1_4, a1_5, a1_6, a1_7, a1_8, a1_9)) else (some (a1_1, a1_0, a1_2, a1_3, a1_4, a1_5, a1_6, a1_7, a1_8, a1_9)))) else (none)) else (none)))) else (none)) else (none)
theorem exchange0.calls (A0_0 : Option Addr) (c0_0 : Nat) (l0_0 : List Int) (a1_0 a1_1 a1_2 a1_3 a1_4 a1_5 a1_6 a1_7 a1_8 a1_9 : Int) (a2 : Int) (r1 r2 r3 r4 r5 r6 r7 r8 r9 r10 : Int) (w : World) (hr0_0 : Kd.C (Kd.int .i64) w A0_0 l0_0.length l0_0) (h : exchange0.f l0_0 a1_0 a1_1 a1_2 a1_3 a1_4 a1_5 a1_6 a1_7 a1_8 a1_9 a2 = some (r1, r2, r3, r4, r5, r6, r7, r8, r9, r10)) :
    Calls Try.prog 59 #[.agg #[.slice A0_0 l0_0.length c0_0], .agg #[.int .i64 a1_0, .int .i64 a1_1, .int .i64 a1_2, .int .i64 a1_3, .int .i64 a1_4, .int .i64 a1_5, .int .i64 a1_6, .int .i64 a1_7, .int .i64 a1_8, .int .i64 a1_9], .int .i64 0] w fun e w' => e = .returned (.agg #[.int .i64 r1, .int .i64 r2, .int .i64 r3, .int .i64 r4, .int .i64 r5, .int .i64 r6, .int .i64 r7, .int .i64 r8, .int .i64 r9, .int .i64 r10]) ∧ Below w.heap.size w w' := by
  unfold exchange0.f at h
  by_cases h0 : 0 ≤ a1_0
  rotate_left
  · rw [if_neg h0] at h; cases h
  by_cases h1 : a1_0 < (l0_0.length : Int)
  rotate_left
  · rw [if_pos h0, if_neg h1] at h; cases h
  rw [if_pos h0, if_pos h1] at h
  obtain ⟨t1, hA, h⟩ := Option.bind_eq_some_iff.1 h
  cases t1 with
  | true =>
    rw [if_pos rfl] at h
    simp only [Option.some.injEq, Prod.mk.injEq] at h
    obtain ⟨rfl, rfl, rfl, rfl, rfl, rfl, rfl, rfl, rfl, rfl⟩ := h
    exact exch0_t A0_0 c0_0 l0_0 a1_0 a1_1 a1_2 a1_3 a1_4 a1_5 a1_6 a1_7 a1_8 a1_9 w hr0_0 h0 h1 hA
  | false =>
    rw [if_neg (by simp)] at h
    by_cases h2 : 0 ≤ a1_1
    rotate_left
    · rw [if_neg h2] at h; cases h
    by_cases h3 : a1_1 < (l0_0.length : Int)
    rotate_left
    · rw [if_pos h2, if_neg h3] at h; cases h
    rw [if_pos h2, if_pos h3] at h
    obtain ⟨t2, hB, h⟩ := Option.bind_eq_some_iff.1 h
    cases t2 with
    | true =>
      rw [if_pos rfl] at h
      simp only [Option.some.injEq, Prod.mk.injEq] at h
      obtain ⟨rfl, rfl, rfl, rfl, rfl, rfl, rfl, rfl, rfl, rfl⟩ := h
      exact exch0_ft A0_0 c0_0 l0_0 a1_0 a1_1 a1_2 a1_3 a1_4 a1_5 a1_6 a1_7 a1_8 a1_9 w hr0_0 h0 h1 hA h2 h3 hB
    | false =>
      rw [if_neg (by simp)] at h
      simp only [Option.some.injEq, Prod.mk.injEq] at h
      obtain ⟨rfl, rfl, rfl, rfl, rfl, rfl, rfl, rfl, rfl, rfl⟩ := h
      exact exch0_ff A0_0 c0_0 l0_0 a1_0 a1_1 a1_2 a1_3 a1_4 a1_5 a1_6 a1_7 a1_8 a1_9 w hr0_0 h0 h1 hA h2 h3 hB
set_option maxHeartbeats 8000000 in
set_option maxRecDepth 100000 in
theorem exch1_t (A0 : Option Addr) (c0 : Nat) (p : List Int) (a1_0 a1_1 a1_2 a1_3 a1_4 a1_5 a1_6 a1_7 a1_8 a1_9 : Int) (w : World) (hr : Kd.C (Kd.int .i64) w A0 p.length p) (h0 : 0 ≤ a1_1) (h1 : a1_1 < (p.length : Int)) (hA : impl_has.f (rd p a1_1) a1_2 = some true) :
    Calls Try.prog 59 #[.agg #[.slice A0 p.length c0], .agg #[.int .i64 a1_0, .int .i64 a1_1, .int .i64 a1_2, .int .i64 a1_3, .int .i64 a1_4, .int .i64 a1_5, .int .i64 a1_6, .int .i64 a1_7, .int .i64 a1_8, .int .i64 a1_9], .int .i64 1] w fun e w' => e = .returned (.agg #[.int .i64 a1_0, .int .i64 a1_1, .int .i64 a1_2, .int .i64 a1_3, .int .i64 a1_4, .int .i64 a1_5, .int .i64 a1_6, .int .i64 a1_7, .int .i64 a1_8, .int .i64 a1_9]) ∧ Below w.heap.size w w' := by
  have hu28 := Try.underlying28
  have hu58 := Try.underlying58
  have hwI : IntKind.i64.wrap (1 + 1) = 2 := by decide
  have hwJ : IntKind.i64.wrap 2 = 2 := by decide
  obtain ⟨ad, rfl, hc⟩ := Kd.at_int hr a1_1 h0 h1
  have hc3 := exch_keep hc
  have HA := Aside0.mk hA
  clear hA hr hc
  go_enter Try.func59, Try.ntmps59
  go_wp2_with (fail)
  go_quiet (fail)
  go_wp2_with (go_at_call 79; ((with_reducible refine (impl_has.calls (rd p a1_1) a1_2 _ _ HA.out).mono ?_); rintro e w' ⟨rfl, ⟨nd, rfl⟩⟩))
  refine bodyPost_ret (v := .agg #[.int .i64 a1_0, .int .i64 a1_1, .int .i64 a1_2, .int .i64 a1_3, .int .i64 a1_4, .int .i64 a1_5, .int .i64 a1_6, .int .i64 a1_7, .int .i64 a1_8, .int .i64 a1_9]) (by simp [results, Try.results59, go_sem]) rfl ⟨rfl, ?_⟩
  repeat (with_reducible first | exact Below.refl _ _ | refine below_set ?_ (by omega) | apply pw_below_drewN | apply below_drew1 | apply below_alloc)
set_option maxHeartbeats 8000000 in
set_option maxRecDepth 100000 in
theorem exch1_ft (A0 : Option Addr) (c0 : Nat) (p : List Int) (a1_0 a1_1 a1_2 a1_3 a1_4 a1_5 a1_6 a1_7 a1_8 a1_9 : Int) (w : World) (hr : Kd.C (Kd.int .i64) w A0 p.length p) (h0 : 0 ≤ a1_1) (h1 : a1_1 < (p.length : Int)) (hA : impl_has.f (rd p a1_1) a1_2 = some false) (h2 : 0 ≤ a1_2) (h3 : a1_2 < (p.length : Int)) (hB : impl_has.f (rd p a1_2) a1_1 = some true) :
    Calls Try.prog 59 #[.agg #[.slice A0 p.length c0], .agg #[.int .i64 a1_0, .int .i64 a1_1, .int .i64 a1_2, .int .i64 a1_3, .int .i64 a1_4, .int .i64 a1_5, .int .i64 a1_6, .int .i64 a1_7, .int .i64 a1_8, .int .i64 a1_9], .int .i64 1] w fun e w' => e = .returned (.agg #[.int .i64 a1_0, .int .i64 a1_1, .int .i64 a1_2, .int .i64 a1_3, .int .i64 a1_4, .int .i64 a1_5, .int .i64 a1_6, .int .i64 a1_7, .int .i64 a1_8, .int .i64 a1_9]) ∧ Below w.heap.size w w' := by
  have hu28 := Try.underlying28
  have hu58 := Try.underlying58
  have hwI : IntKind.i64.wrap (1 + 1) = 2 := by decide
  have hwJ : IntKind.i64.wrap 2 = 2 := by decide
  obtain ⟨ad, rfl, hc⟩ := Kd.at_int hr a1_1 h0 h1
  have hc3 := exch_keep hc
  have HA := Aside0.mk hA
  obtain ⟨ad', e', hc'⟩ := Kd.at_int hr a1_2 h2 h3
  cases e'
  have hc3' := exch_keep hc'
  have HB := Aside0.mk hB
  clear hA hB hr hc hc'
  go_enter Try.func59, Try.ntmps59
  go_wp2_with (fail)
  go_quiet (fail)
  go_wp2_with (go_at_call 79; first | ((with_reducible refine (impl_has.calls (rd p a1_1) a1_2 _ _ HA.out).mono ?_); rintro e w' ⟨rfl, ⟨nd, rfl⟩⟩) | ((with_reducible refine (impl_has.calls (rd p a1_2) a1_1 _ _ HB.out).mono ?_); rintro e w' ⟨rfl, ⟨nd, rfl⟩⟩))
  refine bodyPost_ret (v := .agg #[.int .i64 a1_0, .int .i64 a1_1, .int .i64 a1_2, .int .i64 a1_3, .int .i64 a1_4, .int .i64 a1_5, .int .i64 a1_6, .int .i64 a1_7, .int .i64 a1_8, .int .i64 a1_9]) (by simp [results, Try.results59, go_sem]) rfl ⟨rfl, ?_⟩
  repeat (with_reducible first | exact Below.refl _ _ | refine below_set ?_ (by omega) | apply pw_below_drewN | apply below_drew1 | apply below_alloc)
set_option maxHeartbeats 8000000 in
set_option maxRecDepth 100000 in
theorem exch1_ff (A0 : Option Addr) (c0 : Nat) (p : List Int) (a1_0 a1_1 a1_2 a1_3 a1_4 a1_5 a1_6 a1_7 a1_8 a1_9 : Int) (w : World) (hr : Kd.C (Kd.int .i64) w A0 p.length p) (h0 : 0 ≤ a1_1) (h1 : a1_1 < (p.length : Int)) (hA : impl_has.f (rd p a1_1) a1_2 = some false) (h2 : 0 ≤ a1_2) (h3 : a1_2 < (p.length : Int)) (hB : impl_has.f (rd p a1_2) a1_1 = some false) :
    Calls Try.prog 59 #[.agg #[.slice A0 p.length c0], .agg #[.int .i64 a1_0, .int .i64 a1_1, .int .i64 a1_2, .int .i64 a1_3, .int .i64 a1_4, .int .i64 a1_5, .int .i64 a1_6, .int .i64 a1_7, .int .i64 a1_8, .int .i64 a1_9], .int .i64 1] w fun e w' => e = .returned (.agg #[.int .i64 a1_0, .int .i64 a1_2, .int .i64 a1_1, .int .i64 a1_3, .int .i64 a1_4, .int .i64 a1_5, .int .i64 a1_6, .int .i64 a1_7, .int .i64 a1_8, .int .i64 a1_9]) ∧ Below w.heap.size w w' := by
  have hu28 := Try.underlying28
  have hu58 := Try.underlying58
  have hwI : IntKind.i64.wrap (1 + 1) = 2 := by decide
  have hwJ : IntKind.i64.wrap 2 = 2 := by decide
  obtain ⟨ad, rfl, hc⟩ := Kd.at_int hr a1_1 h0 h1
  have hc3 := exch_keep hc
  have HA := Aside0.mk hA
  obtain ⟨ad', e', hc'⟩ := Kd.at_int hr a1_2 h2 h3
  cases e'
  have hc3' := exch_keep hc'
  have HB := Aside0.mk hB
  clear hA hB hr hc hc'
  go_enter Try.func59, Try.ntmps59
  go_wp2_with (fail)
  go_quiet (fail)
  go_wp2_with (go_at_call 79; first | ((with_reducible refine (impl_has.calls (rd p a1_1) a1_2 _ _ HA.out).mono ?_); rintro e w' ⟨rfl, ⟨nd, rfl⟩⟩) | ((with_reducible refine (impl_has.calls (rd p a1_2) a1_1 _ _ HB.out).mono ?_); rintro e w' ⟨rfl, ⟨nd, rfl⟩⟩))
  refine bodyPost_ret (v := .agg #[.int .i64 a1_0, .int .i64 a1_2, .int .i64 a1_1, .int .i64 a1_3, .int .i64 a1_4, .int .i64 a1_5, .int .i64 a1_6, .int .i64 a1_7, .int .i64 a1_8, .int .i64 a1_9]) (by simp [results, Try.results59, go_sem]) rfl ⟨rfl, ?_⟩
  repeat (with_reducible first | exact Below.refl _ _ | refine below_set ?_ (by omega) | apply pw_below_drewN | apply below_drew1 | apply below_alloc)
def exchange1.f (l0_0 : List Int) (a1_0 a1_1 a1_2 a1_3 a1_4 a1_5 a1_6 a1_7 a1_8 a1_9 : Int) (a2 : Int) : Option (Int × Int × Int × Int × Int × Int × Int × Int × Int × Int) := if 0 ≤ a1_1 then (if a1_1 < (l0_0.length : Int) then ((impl_has.f (rd l0_0 a1_1) a1_2).bind fun t1 => (if t1 = true then (some (a1_0, a1_1, a1_2, a1_3, a1_4, a1_5, a1_6, a1_7, a1_8, a1_9)) else (if 0 ≤ a1_2 then (if a1_2 < (l0_0.length : Int) then ((impl_has.f (rd l0_0 a1_2) a1_1).bind fun t2 => (if t2 = true then (some (a1_0, a1_1, a1_2, a1_3, a1_4, a1_5, a1_6, a1_7, a1_8, a1_9)) else (some (a1_0, a1_2, a1_1, a1_3, a1_4, a1_5, a1_6, a1_7, a1_8, a1_9)))) else (none)) else (none)))) else (none)) else (none)
theorem exchange1.calls (A0_0 : Option Addr) (c0_0 : Nat) (l0_0 : List Int) (a1_0 a1_1 a1_2 a1_3 a1_4 a1_5 a1_6 a1_7 a1_8 a1_9 : Int) (a2 : Int) (r1 r2 r3 r4 r5 r6 r7 r8 r9 r10 : Int) (w : World) (hr0_0 : Kd.C (Kd.int .i64) w A0_0 l0_0.length l0_0) (h : exchange1.f l0_0 a1_0 a1_1 a1_2 a1_3 a1_4 a1_5 a1_6 a1_7 a1_8 a1_9 a2 = some (r1, r2, r3, r4, r5, r6, r7, r8, r9, r10)) :
    Calls Try.prog 59 #[.agg #[.slice A0_0 l0_0.length c0_0], .agg #[.int .i64 a1_0, .int .i64 a1_1, .int .i64 a1_2, .int .i64 a1_3, .int .i64 a1_4, .int .i64 a1_5, .int .i64 a1_6, .int .i64 a1_7, .int .i64 a1_8, .int .i64 a1_9], .int .i64 1] w fun e w' => e = .returned (.agg #[.int .i64 r1, .int .i64 r2, .int .i64 r3, .int .i64 r4, .int .i64 r5, .int .i64 r6, .int .i64 r7, .int .i64 r8, .int .i64 r9, .int .i64 r10]) ∧ Below w.heap.size w w' := by
  unfold exchange1.f at h
  by_cases h0 : 0 ≤ a1_1
  rotate_left
  · rw [if_neg h0] at h; cases h
  by_cases h1 : a1_1 < (l0_0.length : Int)
  rotate_left
  · rw [if_pos h0, if_neg h1] at h; cases h
  rw [if_pos h0, if_pos h1] at h
  obtain ⟨t1, hA, h⟩ := Option.bind_eq_some_iff.1 h
  cases t1 with
  | true =>
    rw [if_pos rfl] at h
    simp only [Option.some.injEq, Prod.mk.injEq] at h
    obtain ⟨rfl, rfl, rfl, rfl, rfl, rfl, rfl, rfl, rfl, rfl⟩ := h
    exact exch1_t A0_0 c0_0 l0_0 a1_0 a1_1 a1_2 a1_3 a1_4 a1_5 a1_6 a1_7 a1_8 a1_9 w hr0_0 h0 h1 hA
  | false =>
    rw [if_neg (by simp)] at h
    by_cases h2 : 0 ≤ a1_2
    rotate_left
    · rw [if_neg h2] at h; cases h
    by_cases h3 : a1_2 < (l0_0.length : Int)
    rotate_left
    · rw [if_pos h2, if_neg h3] at h; cases h
    rw [if_pos h2, if_pos h3] at h
    obtain ⟨t2, hB, h⟩ := Option.bind_eq_some_iff.1 h
    cases t2 with
    | true =>
      rw [if_pos rfl] at h
      simp only [Option.some.injEq, Prod.mk.injEq] at h
      obtain ⟨rfl, rfl, rfl, rfl, rfl, rfl, rfl, rfl, rfl, rfl⟩ := h
      exact exch1_ft A0_0 c0_0 l0_0 a1_0 a1_1 a1_2 a1_3 a1_4 a1_5 a1_6 a1_7 a1_8 a1_9 w hr0_0 h0 h1 hA h2 h3 hB
    | false =>
      rw [if_neg (by simp)] at h
      simp only [Option.some.injEq, Prod.mk.injEq] at h
      obtain ⟨rfl, rfl, rfl, rfl, rfl, rfl, rfl, rfl, rfl, rfl⟩ := h
      exact exch1_ff A0_0 c0_0 l0_0 a1_0 a1_1 a1_2 a1_3 a1_4 a1_5 a1_6 a1_7 a1_8 a1_9 w hr0_0 h0 h1 hA h2 h3 hB
set_option maxHeartbeats 8000000 in
set_option maxRecDepth 100000 in
theorem exch2_t (A0 : Option Addr) (c0 : Nat) (p : List Int) (a1_0 a1_1 a1_2 a1_3 a1_4 a1_5 a1_6 a1_7 a1_8 a1_9 : Int) (w : World) (hr : Kd.C (Kd.int .i64) w A0 p.length p) (h0 : 0 ≤ a1_2) (h1 : a1_2 < (p.length : Int)) (hA : impl_has.f (rd p a1_2) a1_3 = some true) :
    Calls Try.prog 59 #[.agg #[.slice A0 p.length c0], .agg #[.int .i64 a1_0, .int .i64 a1_1, .int .i64 a1_2, .int .i64 a1_3, .int .i64 a1_4, .int .i64 a1_5, .int .i64 a1_6, .int .i64 a1_7, .int .i64 a1_8, .int .i64 a1_9], .int .i64 2] w fun e w' => e = .returned (.agg #[.int .i64 a1_0, .int .i64 a1_1, .int .i64 a1_2, .int .i64 a1_3, .int .i64 a1_4, .int .i64 a1_5, .int .i64 a1_6, .int .i64 a1_7, .int .i64 a1_8, .int .i64 a1_9]) ∧ Below w.heap.size w w' := by
  have hu28 := Try.underlying28
  have hu58 := Try.underlying58
  have hwI : IntKind.i64.wrap (2 + 1) = 3 := by decide
  have hwJ : IntKind.i64.wrap 3 = 3 := by decide
  obtain ⟨ad, rfl, hc⟩ := Kd.at_int hr a1_2 h0 h1
  have hc3 := exch_keep hc
  have HA := Aside0.mk hA
  clear hA hr hc
  go_enter Try.func59, Try.ntmps59
  go_wp2_with (fail)
  go_quiet (fail)
  go_wp2_with (go_at_call 79; ((with_reducible refine (impl_has.calls (rd p a1_2) a1_3 _ _ HA.out).mono ?_); rintro e w' ⟨rfl, ⟨nd, rfl⟩⟩))
  refine bodyPost_ret (v := .agg #[.int .i64 a1_0, .int .i64 a1_1, .int .i64 a1_2, .int .i64 a1_3, .int .i64 a1_4, .int .i64 a1_5, .int .i64 a1_6, .int .i64 a1_7, .int .i64 a1_8, .int .i64 a1_9]) (by simp [results, Try.results59, go_sem]) rfl ⟨rfl, ?_⟩
  repeat (with_reducible first | exact Below.refl _ _ | refine below_set ?_ (by omega) | apply pw_below_drewN | apply below_drew1 | apply below_alloc)
set_option maxHeartbeats 8000000 in
set_option maxRecDepth 100000 in
theorem exch2_ft (A0 : Option Addr) (c0 : Nat) (p : List Int) (a1_0 a1_1 a1_2 a1_3 a1_4 a1_5 a1_6 a1_7 a1_8 a1_9 : Int) (w : World) (hr : Kd.C (Kd.int .i64) w A0 p.length p) (h0 : 0 ≤ a1_2) (h1 : a1_2 < (p.length : Int)) (hA : impl_has.f (rd p a1_2) a1_3 = some false) (h2 : 0 ≤ a1_3) (h3 : a1_3 < (p.length : Int)) (hB : impl_has.f (rd p a1_3) a1_2 = some true) :
    Calls Try.prog 59 #[.agg #[.slice A0 p.length c0], .agg #[.int .i64 a1_0, .int .i64 a1_1, .int .i64 a1_2, .int .i64 a1_3, .int .i64 a1_4, .int .i64 a1_5, .int .i64 a1_6, .int .i64 a1_7, .int .i64 a1_8, .int .i64 a1_9], .int .i64 2] w fun e w' => e = .returned (.agg #[.int .i64 a1_0, .int .i64 a1_1, .int .i64 a1_2, .int .i64 a1_3, .int .i64 a1_4, .int .i64 a1_5, .int .i64 a1_6, .int .i64 a1_7, .int .i64 a1_8, .int .i64 a1_9]) ∧ Below w.heap.size w w' := by
  have hu28 := Try.underlying28
  have hu58 := Try.underlying58
  have hwI : IntKind.i64.wrap (2 + 1) = 3 := by decide
  have hwJ : IntKind.i64.wrap 3 = 3 := by decide
  obtain ⟨ad, rfl, hc⟩ := Kd.at_int hr a1_2 h0 h1
  have hc3 := exch_keep hc
  have HA := Aside0.mk hA
  obtain ⟨ad', e', hc'⟩ := Kd.at_int hr a1_3 h2 h3
  cases e'
  have hc3' := exch_keep hc'
  have HB := Aside0.mk hB
  clear hA hB hr hc hc'
  go_enter Try.func59, Try.ntmps59
  go_wp2_with (fail)
  go_quiet (fail)
  go_wp2_with (go_at_call 79; first | ((with_reducible refine (impl_has.calls (rd p a1_2) a1_3 _ _ HA.out).mono ?_); rintro e w' ⟨rfl, ⟨nd, rfl⟩⟩) | ((with_reducible refine (impl_has.calls (rd p a1_3) a1_2 _ _ HB.out).mono ?_); rintro e w' ⟨rfl, ⟨nd, rfl⟩⟩))
  refine bodyPost_ret (v := .agg #[.int .i64 a1_0, .int .i64 a1_1, .int .i64 a1_2, .int .i64 a1_3, .int .i64 a1_4, .int .i64 a1_5, .int .i64 a1_6, .int .i64 a1_7, .int .i64 a1_8, .int .i64 a1_9]) (by simp [results, Try.results59, go_sem]) rfl ⟨rfl, ?_⟩
  repeat (with_reducible first | exact Below.refl _ _ | refine below_set ?_ (by omega) | apply pw_below_drewN | apply below_drew1 | apply below_alloc)
set_option maxHeartbeats 8000000 in
set_option maxRecDepth 100000 in
theorem exch2_ff (A0 : Option Addr) (c0 : Nat) (p : List Int) (a1_0 a1_1 a1_2 a1_3 a1_4 a1_5 a1_6 a1_7 a1_8 a1_9 : Int) (w : World) (hr : Kd.C (Kd.int .i64) w A0 p.length p) (h0 : 0 ≤ a1_2) (h1 : a1_2 < (p.length : Int)) (hA : impl_has.f (rd p a1_2) a1_3 = some false) (h2 : 0 ≤ a1_3) (h3 : a1_3 < (p.length : Int)) (hB : impl_has.f (rd p a1_3) a1_2 = some false) :
    Calls Try.prog 59 #[.agg #[.slice A0 p.length c0], .agg #[.int .i64 a1_0, .int .i64 a1_1, .int .i64 a1_2, .int .i64 a1_3, .int .i64 a1_4, .int .i64 a1_5, .int .i64 a1_6, .int .i64 a1_7, .int .i64 a1_8, .int .i64 a1_9], .int .i64 2] w fun e w' => e = .returned (.agg #[.int .i64 a1_0, .int .i64 a1_1, .int .i64 a1_3, .int .i64 a1_2, .int .i64 a1_4, .int .i64 a1_5, .int .i64 a1_6, .int .i64 a1_7, .int .i64 a1_8, .int .i64 a1_9]) ∧ Below w.heap.size w w' := by
  have hu28 := Try.underlying28
  have hu58 := Try.underlying58
  have hwI : IntKind.i64.wrap (2 + 1) = 3 := by decide
  have hwJ : IntKind.i64.wrap 3 = 3 := by decide
  obtain ⟨ad, rfl, hc⟩ := Kd.at_int hr a1_2 h0 h1
  have hc3 := exch_keep hc
  have HA := Aside0.mk hA
  obtain ⟨ad', e', hc'⟩ := Kd.at_int hr a1_3 h2 h3
  cases e'
  have hc3' := exch_keep hc'
  have HB := Aside0.mk hB
  clear hA hB hr hc hc'
  go_enter Try.func59, Try.ntmps59
  go_wp2_with (fail)
  go_quiet (fail)
  go_wp2_with (go_at_call 79; first | ((with_reducible refine (impl_has.calls (rd p a1_2) a1_3 _ _ HA.out).mono ?_); rintro e w' ⟨rfl, ⟨nd, rfl⟩⟩) | ((with_reducible refine (impl_has.calls (rd p a1_3) a1_2 _ _ HB.out).mono ?_); rintro e w' ⟨rfl, ⟨nd, rfl⟩⟩))
  refine bodyPost_ret (v := .agg #[.int .i64 a1_0, .int .i64 a1_1, .int .i64 a1_3, .int .i64 a1_2, .int .i64 a1_4, .int .i64 a1_5, .int .i64 a1_6, .int .i64 a1_7, .int .i64 a1_8, .int .i64 a1_9]) (by simp [results, Try.results59, go_sem]) rfl ⟨rfl, ?_⟩
  repeat (with_reducible first | exact Below.refl _ _ | refine below_set ?_ (by omega) | apply pw_below_drewN | apply below_drew1 | apply below_alloc)
def exchange2.f (l0_0 : List Int) (a1_0 a1_1 a1_2 a1_3 a1_4 a1_5 a1_6 a1_7 a1_8 a1_9 : Int) (a2 : Int) : Option (Int × Int × Int × Int × Int × Int × Int × Int × Int × Int) := if 0 ≤ a1_2 then (if a1_2 < (l0_0.length : Int) then ((impl_has.f (rd l0_0 a1_2) a1_3).bind fun t1 => (if t1 = true then (some (a1_0, a1_1, a1_2, a1_3, a1_4, a1_5, a1_6, a1_7, a1_8, a1_9)) else (if 0 ≤ a1_3 then (if a1_3 < (l0_0.length : Int) then ((impl_has.f (rd l0_0 a1_3) a1_2).bind fun t2 => (if t2 = true then (some (a1_0, a1_1, a1_2, a1_3, a1_4, a1_5, a1_6, a1_7, a1_8, a1_9)) else (some (a1_0, a1_1, a1_3, a1_2, a1_4, a1_5, a1_6, a1_7, a1_8, a1_9)))) else (none)) else (none)))) else (none)) else (none)
theorem exchange2.calls (A0_0 : Option Addr) (c0_0 : Nat) (l0_0 : List Int) (a1_0 a1_1 a1_2 a1_3 a1_4 a1_5 a1_6 a1_7 a1_8 a1_9 : Int) (a2 : Int) (r1 r2 r3 r4 r5 r6 r7 r8 r9 r10 : Int) (w : World) (hr0_0 : Kd.C (Kd.int .i64) w A0_0 l0_0.length l0_0) (h : exchange2.f l0_0 a1_0 a1_1 a1_2 a1_3 a1_4 a1_5 a1_6 a1_7 a1_8 a1_9 a2 = some (r1, r2, r3, r4, r5, r6, r7, r8, r9, r10)) :
    Calls Try.prog 59 #[.agg #[.slice A0_0 l0_0.length c0_0], .agg #[.int .i64 a1_0, .int .i64 a1_1, .int .i64 a1_2, .int .i64 a1_3, .int .i64 a1_4, .int .i64 a1_5, .int .i64 a1_6, .int .i64 a1_7, .int .i64 a1_8, .int .i64 a1_9], .int .i64 2] w fun e w' => e = .returned (.agg #[.int .i64 r1, .int .i64 r2, .int .i64 r3, .int .i64 r4, .int .i64 r5, .int .i64 r6, .int .i64 r7, .int .i64 r8, .int .i64 r9, .int .i64 r10]) ∧ Below w.heap.size w w' := by
  unfold exchange2.f at h
  by_cases h0 : 0 ≤ a1_2
  rotate_left
  · rw [if_neg h0] at h; cases h
  by_cases h1 : a1_2 < (l0_0.length : Int)
  rotate_left
  · rw [if_pos h0, if_neg h1] at h; cases h
  rw [if_pos h0, if_pos h1] at h
  obtain ⟨t1, hA, h⟩ := Option.bind_eq_some_iff.1 h
  cases t1 with
  | true =>
    rw [if_pos rfl] at h
    simp only [Option.some.injEq, Prod.mk.injEq] at h
    obtain ⟨rfl, rfl, rfl, rfl, rfl, rfl, rfl, rfl, rfl, rfl⟩ := h
    exact exch2_t A0_0 c0_0 l0_0 a1_0 a1_1 a1_2 a1_3 a1_4 a1_5 a1_6 a1_7 a1_8 a1_9 w hr0_0 h0 h1 hA
  | false =>
    rw [if_neg (by simp)] at h
    by_cases h2 : 0 ≤ a1_3
    rotate_left
    · rw [if_neg h2] at h; cases h
    by_cases h3 : a1_3 < (l0_0.length : Int)
    rotate_left
    · rw [if_pos h2, if_neg h3] at h; cases h
    rw [if_pos h2, if_pos h3] at h
    obtain ⟨t2, hB, h⟩ := Option.bind_eq_some_iff.1 h
    cases t2 with
    | true =>
      rw [if_pos rfl] at h
      simp only [Option.some.injEq, Prod.mk.injEq] at h
      obtain ⟨rfl, rfl, rfl, rfl, rfl, rfl, rfl, rfl, rfl, rfl⟩ := h
      exact exch2_ft A0_0 c0_0 l0_0 a1_0 a1_1 a1_2 a1_3 a1_4 a1_5 a1_6 a1_7 a1_8 a1_9 w hr0_0 h0 h1 hA h2 h3 hB
    | false =>
      rw [if_neg (by simp)] at h
      simp only [Option.some.injEq, Prod.mk.injEq] at h
      obtain ⟨rfl, rfl, rfl, rfl, rfl, rfl, rfl, rfl, rfl, rfl⟩ := h
      exact exch2_ff A0_0 c0_0 l0_0 a1_0 a1_1 a1_2 a1_3 a1_4 a1_5 a1_6 a1_7 a1_8 a1_9 w hr0_0 h0 h1 hA h2 h3 hB
set_option maxHeartbeats 8000000 in
set_option maxRecDepth 100000 in
theorem exch3_t (A0 : Option Addr) (c0 : Nat) (p : List Int) (a1_0 a1_1 a1_2 a1_3 a1_4 a1_5 a1_6 a1_7 a1_8 a1_9 : Int) (w : World) (hr : Kd.C (Kd.int .i64) w A0 p.length p) (h0 : 0 ≤ a1_3) (h1 : a1_3 < (p.length : Int)) (hA : impl_has.f (rd p a1_3) a1_4 = some true) :
    Calls Try.prog 59 #[.agg #[.slice A0 p.length c0], .agg #[.int .i64 a1_0, .int .i64 a1_1, .int .i64 a1_2, .int .i64 a1_3, .int .i64 a1_4, .int .i64 a1_5, .int .i64 a1_6, .int .i64 a1_7, .int .i64 a1_8, .int .i64 a1_9], .int .i64 3] w fun e w' => e = .returned (.agg #[.int .i64 a1_0, .int .i64 a1_1, .int .i64 a1_2, .int .i64 a1_3, .int .i64 a1_4, .int .i64 a1_5, .int .i64 a1_6, .int .i64 a1_7, .int .i64 a1_8, .int .i64 a1_9]) ∧ Below w.heap.size w w' := by
  have hu28 := Try.underlying28
  have hu58 := Try.underlying58
  have hwI : IntKind.i64.wrap (3 + 1) = 4 := by decide
  have hwJ : IntKind.i64.wrap 4 = 4 := by decide
  obtain ⟨ad, rfl, hc⟩ := Kd.at_int hr a1_3 h0 h1
  have hc3 := exch_keep hc
  have HA := Aside0.mk hA
  clear hA hr hc
  go_enter Try.func59, Try.ntmps59
  go_wp2_with (fail)
  go_quiet (fail)
  go_wp2_with (go_at_call 79; ((with_reducible refine (impl_has.calls (rd p a1_3) a1_4 _ _ HA.out).mono ?_); rintro e w' ⟨rfl, ⟨nd, rfl⟩⟩))
  refine bodyPost_ret (v := .agg #[.int .i64 a1_0, .int .i64 a1_1, .int .i64 a1_2, .int .i64 a1_3, .int .i64 a1_4, .int .i64 a1_5, .int .i64 a1_6, .int .i64 a1_7, .int .i64 a1_8, .int .i64 a1_9]) (by simp [results, Try.results59, go_sem]) rfl ⟨rfl, ?_⟩
  repeat (with_reducible first | exact Below.refl _ _ | refine below_set ?_ (by omega) | apply pw_below_drewN | apply below_drew1 | apply below_alloc)
set_option maxHeartbeats 8000000 in
set_option maxRecDepth 100000 in
theorem exch3_ft (A0 : Option Addr) (c0 : Nat) (p : List Int) (a1_0 a1_1 a1_2 a1_3 a1_4 a1_5 a1_6 a1_7 a1_8 a1_9 : Int) (w : World) (hr : Kd.C (Kd.int .i64) w A0 p.length p) (h0 : 0 ≤ a1_3) (h1 : a1_3 < (p.length : Int)) (hA : impl_has.f (rd p a1_3) a1_4 = some false) (h2 : 0 ≤ a1_4) (h3 : a1_4 < (p.length : Int)) (hB : impl_has.f (rd p a1_4) a1_3 = some true) :
    Calls Try.prog 59 #[.agg #[.slice A0 p.length c0], .agg #[.int .i64 a1_0, .int .i64 a1_1, .int .i64 a1_2, .int .i64 a1_3, .int .i64 a1_4, .int .i64 a1_5, .int .i64 a1_6, .int .i64 a1_7, .int .i64 a1_8, .int .i64 a1_9], .int .i64 3] w fun e w' => e = .returned (.agg #[.int .i64 a1_0, .int .i64 a1_1, .int .i64 a1_2, .int .i64 a1_3, .int .i64 a1_4, .int .i64 a1_5, .int .i64 a1_6, .int .i64 a1_7, .int .i64 a1_8, .int .i64 a1_9]) ∧ Below w.heap.size w w' := by
  have hu28 := Try.underlying28
  have hu58 := Try.underlying58
  have hwI : IntKind.i64.wrap (3 + 1) = 4 := by decide
  have hwJ : IntKind.i64.wrap 4 = 4 := by decide
  obtain ⟨ad, rfl, hc⟩ := Kd.at_int hr a1_3 h0 h1
  have hc3 := exch_keep hc
  have HA := Aside0.mk hA
  obtain ⟨ad', e', hc'⟩ := Kd.at_int hr a1_4 h2 h3
  cases e'
  have hc3' := exch_keep hc'
  have HB := Aside0.mk hB
  clear hA hB hr hc hc'
  go_enter Try.func59, Try.ntmps59
  go_wp2_with (fail)
  go_quiet (fail)
  go_wp2_with (go_at_call 79; first | ((with_reducible refine (impl_has.calls (rd p a1_3) a1_4 _ _ HA.out).mono ?_); rintro e w' ⟨rfl, ⟨nd, rfl⟩⟩) | ((with_reducible refine (impl_has.calls (rd p a1_4) a1_3 _ _ HB.out).mono ?_); rintro e w' ⟨rfl, ⟨nd, rfl⟩⟩))
  refine bodyPost_ret (v := .agg #[.int .i64 a1_0, .int .i64 a1_1, .int .i64 a1_2, .int .i64 a1_3, .int .i64 a1_4, .int .i64 a1_5, .int .i64 a1_6, .int .i64 a1_7, .int .i64 a1_8, .int .i64 a1_9]) (by simp [results, Try.results59, go_sem]) rfl ⟨rfl, ?_⟩
  repeat (with_reducible first | exact Below.refl _ _ | refine below_set ?_ (by omega) | apply pw_below_drewN | apply below_drew1 | apply below_alloc)
set_option maxHeartbeats 8000000 in
set_option maxRecDepth 100000 in
theorem exch3_ff (A0 : Option Addr) (c0 : Nat) (p : List Int) (a1_0 a1_1 a1_2 a1_3 a1_4 a1_5 a1_6 a1_7 a1_8 a1_9 : Int) (w : World) (hr : Kd.C (Kd.int .i64) w A0 p.length p) (h0 : 0 ≤ a1_3) (h1 : a1_3 < (p.length : Int)) (hA : impl_has.f (rd p a1_3) a1_4 = some false) (h2 : 0 ≤ a1_4) (h3 : a1_4 < (p.length : Int)) (hB : impl_has.f (rd p a1_4) a1_3 = some false) :
    Calls Try.prog 59 #[.agg #[.slice A0 p.length c0], .agg #[.int .i64 a1_0, .int .i64 a1_1, .int .i64 a1_2, .int .i64 a1_3, .int .i64 a1_4, .int .i64 a1_5, .int .i64 a1_6, .int .i64 a1_7, .int .i64 a1_8, .int .i64 a1_9], .int .i64 3] w fun e w' => e = .returned (.agg #[.int .i64 a1_0, .int .i64 a1_1, .int .i64 a1_2, .int .i64 a1_4, .int .i64 a1_3, .int .i64 a1_5, .int .i64 a1_6, .int .i64 a1_7, .int .i64 a1_8, .int .i64 a1_9]) ∧ Below w.heap.size w w' := by
  have hu28 := Try.underlying28
  have hu58 := Try.underlying58
  have hwI : IntKind.i64.wrap (3 + 1) = 4 := by decide
  have hwJ : IntKind.i64.wrap 4 = 4 := by decide
  obtain ⟨ad, rfl, hc⟩ := Kd.at_int hr a1_3 h0 h1
  have hc3 := exch_keep hc
  have HA := Aside0.mk hA
  obtain ⟨ad', e', hc'⟩ := Kd.at_int hr a1_4 h2 h3
  cases e'
  have hc3' := exch_keep hc'
  have HB := Aside0.mk hB
  clear hA hB hr hc hc'
  go_enter Try.func59, Try.ntmps59
  go_wp2_with (fail)
  go_quiet (fail)
  go_wp2_with (go_at_call 79; first | ((with_reducible refine (impl_has.calls (rd p a1_3) a1_4 _ _ HA.out).mono ?_); rintro e w' ⟨rfl, ⟨nd, rfl⟩⟩) | ((with_reducible refine (impl_has.calls (rd p a1_4) a1_3 _ _ HB.out).mono ?_); rintro e w' ⟨rfl, ⟨nd, rfl⟩⟩))
  refine bodyPost_ret (v := .agg #[.int .i64 a1_0, .int .i64 a1_1, .int .i64 a1_2, .int .i64 a1_4, .int .i64 a1_3, .int .i64 a1_5, .int .i64 a1_6, .int .i64 a1_7, .int .i64 a1_8, .int .i64 a1_9]) (by simp [results, Try.results59, go_sem]) rfl ⟨rfl, ?_⟩
  repeat (with_reducible first | exact Below.refl _ _ | refine below_set ?_ (by omega) | apply pw_below_drewN | apply below_drew1 | apply below_alloc)
def exchange3.f (l0_0 : List Int) (a1_0 a1_1 a1_2 a1_3 a1_4 a1_5 a1_6 a1_7 a1_8 a1_9 : Int) (a2 : Int) : Option (Int × Int × Int × Int × Int × Int × Int × Int × Int × Int) := if 0 ≤ a1_3 then (if a1_3 < (l0_0.length : Int) then ((impl_has.f (rd l0_0 a1_3) a1_4).bind fun t1 => (if t1 = true then (some (a1_0, a1_1, a1_2, a1_3, a1_4, a1_5, a1_6, a1_7, a1_8, a1_9)) else (if 0 ≤ a1_4 then (if a1_4 < (l0_0.length : Int) then ((impl_has.f (rd l0_0 a1_4) a1_3).bind fun t2 => (if t2 = true then (some (a1_0, a1_1, a1_2, a1_3, a1_4, a1_5, a1_6, a1_7, a1_8, a1_9)) else (some (a1_0, a1_1, a1_2, a1_4, a1_3, a1_5, a1_6, a1_7, a1_8, a1_9)))) else (none)) else (none)))) else (none)) else (none)
theorem exchange3.calls (A0_0 : Option Addr) (c0_0 : Nat) (l0_0 : List Int) (a1_0 a1_1 a1_2 a1_3 a1_4 a1_5 a1_6 a1_7 a1_8 a1_9 : Int) (a2 : Int) (r1 r2 r3 r4 r5 r6 r7 r8 r9 r10 : Int) (w : World) (hr0_0 : Kd.C (Kd.int .i64) w A0_0 l0_0.length l0_0) (h : exchange3.f l0_0 a1_0 a1_1 a1_2 a1_3 a1_4 a1_5 a1_6 a1_7 a1_8 a1_9 a2 = some (r1, r2, r3, r4, r5, r6, r7, r8, r9, r10)) :
    Calls Try.prog 59 #[.agg #[.slice A0_0 l0_0.length c0_0], .agg #[.int .i64 a1_0, .int .i64 a1_1, .int .i64 a1_2, .int .i64 a1_3, .int .i64 a1_4, .int .i64 a1_5, .int .i64 a1_6, .int .i64 a1_7, .int .i64 a1_8, .int .i64 a1_9], .int .i64 3] w fun e w' => e = .returned (.agg #[.int .i64 r1, .int .i64 r2, .int .i64 r3, .int .i64 r4, .int .i64 r5, .int .i64 r6, .int .i64 r7, .int .i64 r8, .int .i64 r9, .int .i64 r10]) ∧ Below w.heap.size w w' := by
  unfold exchange3.f at h
  by_cases h0 : 0 ≤ a1_3
  rotate_left
  · rw [if_neg h0] at h; cases h
  by_cases h1 : a1_3 < (l0_0.length : Int)
  rotate_left
  · rw [if_pos h0, if_neg h1] at h; cases h
  rw [if_pos h0, if_pos h1] at h
  obtain ⟨t1, hA, h⟩ := Option.bind_eq_some_iff.1 h
  cases t1 with
  | true =>
    rw [if_pos rfl] at h
    simp only [Option.some.injEq, Prod.mk.injEq] at h
    obtain ⟨rfl, rfl, rfl, rfl, rfl, rfl, rfl, rfl, rfl, rfl⟩ := h
    exact exch3_t A0_0 c0_0 l0_0 a1_0 a1_1 a1_2 a1_3 a1_4 a1_5 a1_6 a1_7 a1_8 a1_9 w hr0_0 h0 h1 hA
  | false =>
    rw [if_neg (by simp)] at h
    by_cases h2 : 0 ≤ a1_4
    rotate_left
    · rw [if_neg h2] at h; cases h
    by_cases h3 : a1_4 < (l0_0.length : Int)
    rotate_left
    · rw [if_pos h2, if_neg h3] at h; cases h
    rw [if_pos h2, if_pos h3] at h
    obtain ⟨t2, hB, h⟩ := Option.bind_eq_some_iff.1 h
    cases t2 with
    | true =>
      rw [if_pos rfl] at h
      simp only [Option.some.injEq, Prod.mk.injEq] at h
      obtain ⟨rfl, rfl, rfl, rfl, rfl, rfl, rfl, rfl, rfl, rfl⟩ := h
      exact exch3_ft A0_0 c0_0 l0_0 a1_0 a1_1 a1_2 a1_3 a1_4 a1_5 a1_6 a1_7 a1_8 a1_9 w hr0_0 h0 h1 hA h2 h3 hB
    | false =>
      rw [if_neg (by simp)] at h
      simp only [Option.some.injEq, Prod.mk.injEq] at h
      obtain ⟨rfl, rfl, rfl, rfl, rfl, rfl, rfl, rfl, rfl, rfl⟩ := h
      exact exch3_ff A0_0 c0_0 l0_0 a1_0 a1_1 a1_2 a1_3 a1_4 a1_5 a1_6 a1_7 a1_8 a1_9 w hr0_0 h0 h1 hA h2 h3 hB
set_option maxHeartbeats 8000000 in
set_option maxRecDepth 100000 in
theorem exch4_t (A0 : Option Addr) (c0 : Nat) (p : List Int) (a1_0 a1_1 a1_2 a1_3 a1_4 a1_5 a1_6 a1_7 a1_8 a1_9 : Int) (w : World) (hr : Kd.C (Kd.int .i64) w A0 p.length p) (h0 : 0 ≤ a1_4) (h1 : a1_4 < (p.length : Int)) (hA : impl_has.f (rd p a1_4) a1_5 = some true) :
    Calls Try.prog 59 #[.agg #[.slice A0 p.length c0], .agg #[.int .i64 a1_0, .int .i64 a1_1, .int .i64 a1_2, .int .i64 a1_3, .int .i64 a1_4, .int .i64 a1_5, .int .i64 a1_6, .int .i64 a1_7, .int .i64 a1_8, .int .i64 a1_9], .int .i64 4] w fun e w' => e = .returned (.agg #[.int .i64 a1_0, .int .i64 a1_1, .int .i64 a1_2, .int .i64 a1_3, .int .i64 a1_4, .int .i64 a1_5, .int .i64 a1_6, .int .i64 a1_7, .int .i64 a1_8, .int .i64 a1_9]) ∧ Below w.heap.size w w' := by
  have hu28 := Try.underlying28
  have hu58 := Try.underlying58
  have hwI : IntKind.i64.wrap (4 + 1) = 5 := by decide
  have hwJ : IntKind.i64.wrap 5 = 5 := by decide
  obtain ⟨ad, rfl, hc⟩ := Kd.at_int hr a1_4 h0 h1
  have hc3 := exch_keep hc
  have HA := Aside0.mk hA
  clear hA hr hc
  go_enter Try.func59, Try.ntmps59
  go_wp2_with (fail)
  go_quiet (fail)
  go_wp2_with (go_at_call 79; ((with_reducible refine (impl_has.calls (rd p a1_4) a1_5 _ _ HA.out).mono ?_); rintro e w' ⟨rfl, ⟨nd, rfl⟩⟩))
  refine bodyPost_ret (v := .agg #[.int .i64 a1_0, .int .i64 a1_1, .int .i64 a1_2, .int .i64 a1_3, .int .i64 a1_4, .int .i64 a1_5, .int .i64 a1_6, .int .i64 a1_7, .int .i64 a1_8, .int .i64 a1_9]) (by simp [results, Try.results59, go_sem]) rfl ⟨rfl, ?_⟩
  repeat (with_reducible first | exact Below.refl _ _ | refine below_set ?_ (by omega) | apply pw_below_drewN | apply below_drew1 | apply below_alloc)
set_option maxHeartbeats 8000000 in
set_option maxRecDepth 100000 in
theorem exch4_ft (A0 : Option Addr) (c0 : Nat) (p : List Int) (a1_0 a1_1 a1_2 a1_3 a1_4 a1_5 a1_6 a1_7 a1_8 a1_9 : Int) (w : World) (hr : Kd.C (Kd.int .i64) w A0 p.length p) (h0 : 0 ≤ a1_4) (h1 : a1_4 < (p.length : Int)) (hA : impl_has.f (rd p a1_4) a1_5 = some false) (h2 : 0 ≤ a1_5) (h3 : a1_5 < (p.length : Int)) (hB : impl_has.f (rd p a1_5) a1_4 = some true) :
    Calls Try.prog 59 #[.agg #[.slice A0 p.length c0], .agg #[.int .i64 a1_0, .int .i64 a1_1, .int .i64 a1_2, .int .i64 a1_3, .int .i64 a1_4, .int .i64 a1_5, .int .i64 a1_6, .int .i64 a1_7, .int .i64 a1_8, .int .i64 a1_9], .int .i64 4] w fun e w' => e = .returned (.agg #[.int .i64 a1_0, .int .i64 a1_1, .int .i64 a1_2, .int .i64 a1_3, .int .i64 a1_4, .int .i64 a1_5, .int .i64 a1_6, .int .i64 a1_7, .int .i64 a1_8, .int .i64 a1_9]) ∧ Below w.heap.size w w' := by
  have hu28 := Try.underlying28
  have hu58 := Try.underlying58
  have hwI : IntKind.i64.wrap (4 + 1) = 5 := by decide
  have hwJ : IntKind.i64.wrap 5 = 5 := by decide
  obtain ⟨ad, rfl, hc⟩ := Kd.at_int hr a1_4 h0 h1
  have hc3 := exch_keep hc
  have HA := Aside0.mk hA
  obtain ⟨ad', e', hc'⟩ := Kd.at_int hr a1_5 h2 h3
  cases e'
  have hc3' := exch_keep hc'
  have HB := Aside0.mk hB
  clear hA hB hr hc hc'
  go_enter Try.func59, Try.ntmps59
  go_wp2_with (fail)
  go_quiet (fail)
  go_wp2_with (go_at_call 79; first | ((with_reducible refine (impl_has.calls (rd p a1_4) a1_5 _ _ HA.out).mono ?_); rintro e w' ⟨rfl, ⟨nd, rfl⟩⟩) | ((with_reducible refine (impl_has.calls (rd p a1_5) a1_4 _ _ HB.out).mono ?_); rintro e w' ⟨rfl, ⟨nd, rfl⟩⟩))
  refine bodyPost_ret (v := .agg #[.int .i64 a1_0, .int .i64 a1_1, .int .i64 a1_2, .int .i64 a1_3, .int .i64 a1_4, .int .i64 a1_5, .int .i64 a1_6, .int .i64 a1_7, .int .i64 a1_8, .int .i64 a1_9]) (by simp [results, Try.results59, go_sem]) rfl ⟨rfl, ?_⟩
  repeat (with_reducible first | exact Below.refl _ _ | refine below_set ?_ (by omega) | apply pw_below_drewN | apply below_drew1 | apply below_alloc)
set_option maxHeartbeats 8000000 in
set_option maxRecDepth 100000 in
theorem exch4_ff (A0 : Option Addr) (c0 : Nat) (p : List Int) (a1_0 a1_1 a1_2 a1_3 a1_4 a1_5 a1_6 a1_7 a1_8 a1_9 : Int) (w : World) (hr : Kd.C (Kd.int .i64) w A0 p.length p) (h0 : 0 ≤ a1_4) (h1 : a1_4 < (p.length : Int)) (hA : impl_has.f (rd p a1_4) a1_5 = some false) (h2 : 0 ≤ a1_5) (h3 : a1_5 < (p.length : Int)) (hB : impl_has.f (rd p a1_5) a1_4 = some false) :
    Calls Try.prog 59 #[.agg #[.slice A0 p.length c0], .agg #[.int .i64 a1_0, .int .i64 a1_1, .int .i64 a1_2, .int .i64 a1_3, .int .i64 a1_4, .int .i64 a1_5, .int .i64 a1_6, .int .i64 a1_7, .int .i64 a1_8, .int .i64 a1_9], .int .i64 4] w fun e w' => e = .returned (.agg #[.int .i64 a1_0, .int .i64 a1_1, .int .i64 a1_2, .int .i64 a1_3, .int .i64 a1_5, .int .i64 a1_4, .int .i64 a1_6, .int .i64 a1_7, .int .i64 a1_8, .int .i64 a1_9]) ∧ Below w.heap.size w w' := by
  have hu28 := Try.underlying28
  have hu58 := Try.underlying58
  have hwI : IntKind.i64.wrap (4 + 1) = 5 := by decide
  have hwJ : IntKind.i64.wrap 5 = 5 := by decide
  obtain ⟨ad, rfl, hc⟩ := Kd.at_int hr a1_4 h0 h1
  have hc3 := exch_keep hc
  have HA := Aside0.mk hA
  obtain ⟨ad', e', hc'⟩ := Kd.at_int hr a1_5 h2 h3
  cases e'
  have hc3' := exch_keep hc'
  have HB := Aside0.mk hB
  clear hA hB hr hc hc'
  go_enter Try.func59, Try.ntmps59
  go_wp2_with (fail)
  go_quiet (fail)
  go_wp2_with (go_at_call 79; first | ((with_reducible refine (impl_has.calls (rd p a1_4) a1_5 _ _ HA.out).mono ?_); rintro e w' ⟨rfl, ⟨nd, rfl⟩⟩) | ((with_reducible refine (impl_has.calls (rd p a1_5) a1_4 _ _ HB.out).mono ?_); rintro e w' ⟨rfl, ⟨nd, rfl⟩⟩))
  refine bodyPost_ret (v := .agg #[.int .i64 a1_0, .int .i64 a1_1, .int .i64 a1_2, .int .i64 a1_3, .int .i64 a1_5, .int .i64 a1_4, .int .i64 a1_6, .int .i64 a1_7, .int .i64 a1_8, .int .i64 a1_9]) (by simp [results, Try.results59, go_sem]) rfl ⟨rfl, ?_⟩
  repeat (with_reducible first | exact Below.refl _ _ | refine below_set ?_ (by omega) | apply pw_below_drewN | apply below_drew1 | apply below_alloc)
def exchange4.f (l0_0 : List Int) (a1_0 a1_1 a1_2 a1_3 a1_4 a1_5 a1_6 a1_7 a1_8 a1_9 : Int) (a2 : Int) : Option (Int × Int × Int × Int × Int × Int × Int × Int × Int × Int) := if 0 ≤ a1_4 then (if a1_4 < (l0_0.length : Int) then ((impl_has.f (rd l0_0 a1_4) a1_5).bind fun t1 => (if t1 = true then (some (a1_0, a1_1, a1_2, a1_3, a1_4, a1_5, a1_6, a1_7, a1_8, a1_9)) else (if 0 ≤ a1_5 then (if a1_5 < (l0_0.length : Int) then ((impl_has.f (rd l0_0 a1_5) a1_4).bind fun t2 => (if t2 = true then (some (a1_0, a1_1, a1_2, a1_3, a1_4, a1_5, a1_6, a1_7, a1_8, a1_9)) else (some (a1_0, a1_1, a1_2, a1_3, a1_5, a1_4, a1_6, a1_7, a1_8, a1_9)))) else (none)) else (none)))) else (none)) else (none)
theorem exchange4.calls (A0_0 : Option Addr) (c0_0 : Nat) (l0_0 : List Int) (a1_0 a1_1 a1_2 a1_3 a1_4 a1_5 a1_6 a1_7 a1_8 a1_9 : Int) (a2 : Int) (r1 r2 r3 r4 r5 r6 r7 r8 r9 r10 : Int) (w : World) (hr0_0 : Kd.C (Kd.int .i64) w A0_0 l0_0.length l0_0) (h : exchange4.f l0_0 a1_0 a1_1 a1_2 a1_3 a1_4 a1_5 a1_6 a1_7 a1_8 a1_9 a2 = some (r1, r2, r3, r4, r5, r6, r7, r8, r9, r10)) :
    Calls Try.prog 59 #[.agg #[.slice A0_0 l0_0.length c0_0], .agg #[.int .i64 a1_0, .int .i64 a1_1, .int .i64 a1_2, .int .i64 a1_3, .int .i64 a1_4, .int .i64 a1_5, .int .i64 a1_6, .int .i64 a1_7, .int .i64 a1_8, .int .i64 a1_9], .int .i64 4] w fun e w' => e = .returned (.agg #[.int .i64 r1, .int .i64 r2, .int .i64 r3, .int .i64 r4, .int .i64 r5, .int .i64 r6, .int .i64 r7, .int .i64 r8, .int .i64 r9, .int .i64 r10]) ∧ Below w.heap.size w w' := by
  unfold exchange4.f at h
  by_cases h0 : 0 ≤ a1_4
  rotate_left
  · rw [if_neg h0] at h; cases h
  by_cases h1 : a1_4 < (l0_0.length : Int)
  rotate_left
  · rw [if_pos h0, if_neg h1] at h; cases h
  rw [if_pos h0, if_pos h1] at h
  obtain ⟨t1, hA, h⟩ := Option.bind_eq_some_iff.1 h
  cases t1 with
  | true =>
    rw [if_pos rfl] at h
    simp only [Option.some.injEq, Prod.mk.injEq] at h
    obtain ⟨rfl, rfl, rfl, rfl, rfl, rfl, rfl, rfl, rfl, rfl⟩ := h
    exact exch4_t A0_0 c0_0 l0_0 a1_0 a1_1 a1_2 a1_3 a1_4 a1_5 a1_6 a1_7 a1_8 a1_9 w hr0_0 h0 h1 hA
  | false =>
    rw [if_neg (by simp)] at h
    by_cases h2 : 0 ≤ a1_5
    rotate_left
    · rw [if_neg h2] at h; cases h
    by_cases h3 : a1_5 < (l0_0.length : Int)
    rotate_left
    · rw [if_pos h2, if_neg h3] at h; cases h
    rw [if_pos h2, if_pos h3] at h
    obtain ⟨t2, hB, h⟩ := Option.bind_eq_some_iff.1 h
    cases t2 with
    | true =>
      rw [if_pos rfl] at h
      simp only [Option.some.injEq, Prod.mk.injEq] at h
      obtain ⟨rfl, rfl, rfl, rfl, rfl, rfl, rfl, rfl, rfl, rfl⟩ := h
      exact exch4_ft A0_0 c0_0 l0_0 a1_0 a1_1 a1_2 a1_3 a1_4 a1_5 a1_6 a1_7 a1_8 a1_9 w hr0_0 h0 h1 hA h2 h3 hB
    | false =>
      rw [if_neg (by simp)] at h
      simp only [Option.some.injEq, Prod.mk.injEq] at h
      obtain ⟨rfl, rfl, rfl, rfl, rfl, rfl, rfl, rfl, rfl, rfl⟩ := h
      exact exch4_ff A0_0 c0_0 l0_0 a1_0 a1_1 a1_2 a1_3 a1_4 a1_5 a1_6 a1_7 a1_8 a1_9 w hr0_0 h0 h1 hA h2 h3 hB
set_option maxHeartbeats 8000000 in
set_option maxRecDepth 100000 in
theorem exch5_t (A0 : Option Addr) (c0 : Nat) (p : List Int) (a1_0 a1_1 a1_2 a1_3 a1_4 a1_5 a1_6 a1_7 a1_8 a1_9 : Int) (w : World) (hr : Kd.C (Kd.int .i64) w A0 p.length p) (h0 : 0 ≤ a1_5) (h1 : a1_5 < (p.length : Int)) (hA : impl_has.f (rd p a1_5) a1_6 = some true) :
    Calls Try.prog 59 #[.agg #[.slice A0 p.length c0], .agg #[.int .i64 a1_0, .int .i64 a1_1, .int .i64 a1_2, .int .i64 a1_3, .int .i64 a1_4, .int .i64 a1_5, .int .i64 a1_6, .int .i64 a1_7, .int .i64 a1_8, .int .i64 a1_9], .int .i64 5] w fun e w' => e = .returned (.agg #[.int .i64 a1_0, .int .i64 a1_1, .int .i64 a1_2, .int .i64 a1_3, .int .i64 a1_4, .int .i64 a1_5, .int .i64 a1_6, .int .i64 a1_7, .int .i64 a1_8, .int .i64 a1_9]) ∧ Below w.heap.size w w' := by
  have hu28 := Try.underlying28
  have hu58 := Try.underlying58
  have hwI : IntKind.i64.wrap (5 + 1) = 6 := by decide
  have hwJ : IntKind.i64.wrap 6 = 6 := by decide
  obtain ⟨ad, rfl, hc⟩ := Kd.at_int hr a1_5 h0 h1
  have hc3 := exch_keep hc
  have HA := Aside0.mk hA
  clear hA hr hc
  go_enter Try.func59, Try.ntmps59
  go_wp2_with (fail)
  go_quiet (fail)
  go_wp2_with (go_at_call 79; ((with_reducible refine (impl_has.calls (rd p a1_5) a1_6 _ _ HA.out).mono ?_); rintro e w' ⟨rfl, ⟨nd, rfl⟩⟩))
  refine bodyPost_ret (v := .agg #[.int .i64 a1_0, .int .i64 a1_1, .int .i64 a1_2, .int .i64 a1_3, .int .i64 a1_4, .int .i64 a1_5, .int .i64 a1_6, .int .i64 a1_7, .int .i64 a1_8, .int .i64 a1_9]) (by simp [results, Try.results59, go_sem]) rfl ⟨rfl, ?_⟩
  repeat (with_reducible first | exact Below.refl _ _ | refine below_set ?_ (by omega) | apply pw_below_drewN | apply below_drew1 | apply below_alloc)
set_option maxHeartbeats 8000000 in
set_option maxRecDepth 100000 in
theorem exch5_ft (A0 : Option Addr) (c0 : Nat) (p : List Int) (a1_0 a1_1 a1_2 a1_3 a1_4 a1_5 a1_6 a1_7 a1_8 a1_9 : Int) (w : World) (hr : Kd.C (Kd.int .i64) w A0 p.length p) (h0 : 0 ≤ a1_5) (h1 : a1_5 < (p.length : Int)) (hA : impl_has.f (rd p a1_5) a1_6 = some false) (h2 : 0 ≤ a1_6) (h3 : a1_6 < (p.length : Int)) (hB : impl_has.f (rd p a1_6) a1_5 = some true) :
    Calls Try.prog 59 #[.agg #[.slice A0 p.length c0], .agg #[.int .i64 a1_0, .int .i64 a1_1, .int .i64 a1_2, .int .i64 a1_3, .int .i64 a1_4, .int .i64 a1_5, .int .i64 a1_6, .int .i64 a1_7, .int .i64 a1_8, .int .i64 a1_9], .int .i64 5] w fun e w' => e = .returned (.agg #[.int .i64 a1_0, .int .i64 a1_1, .int .i64 a1_2, .int .i64 a1_3, .int .i64 a1_4, .int .i64 a1_5, .int .i64 a1_6, .int .i64 a1_7, .int .i64 a1_8, .int .i64 a1_9]) ∧ Below w.heap.size w w' := by
  have hu28 := Try.underlying28
  have hu58 := Try.underlying58
  have hwI : IntKind.i64.wrap (5 + 1) = 6 := by decide
  have hwJ : IntKind.i64.wrap 6 = 6 := by decide
  obtain ⟨ad, rfl, hc⟩ := Kd.at_int hr a1_5 h0 h1
  have hc3 := exch_keep hc
  have HA := Aside0.mk hA
  obtain ⟨ad', e', hc'⟩ := Kd.at_int hr a1_6 h2 h3
  cases e'
  have hc3' := exch_keep hc'
  have HB := Aside0.mk hB
  clear hA hB hr hc hc'
  go_enter Try.func59, Try.ntmps59
  go_wp2_with (fail)
  go_quiet (fail)
  go_wp2_with (go_at_call 79; first | ((with_reducible refine (impl_has.calls (rd p a1_5) a1_6 _ _ HA.out).mono ?_); rintro e w' ⟨rfl, ⟨nd, rfl⟩⟩) | ((with_reducible refine (impl_has.calls (rd p a1_6) a1_5 _ _ HB.out).mono ?_); rintro e w' ⟨rfl, ⟨nd, rfl⟩⟩))
  refine bodyPost_ret (v := .agg #[.int .i64 a1_0, .int .i64 a1_1, .int .i64 a1_2, .int .i64 a1_3, .int .i64 a1_4, .int .i64 a1_5, .int .i64 a1_6, .int .i64 a1_7, .int .i64 a1_8, .int .i64 a1_9]) (by simp [results, Try.results59, go_sem]) rfl ⟨rfl, ?_⟩
  repeat (with_reducible first | exact Below.refl _ _ | refine below_set ?_ (by omega) | apply pw_below_drewN | apply below_drew1 | apply below_alloc)
set_option maxHeartbeats 8000000 in
set_option maxRecDepth 100000 in
theorem exch5_ff (A0 : Option Addr) (c0 : Nat) (p : List Int) (a1_0 a1_1 a1_2 a1_3 a1_4 a1_5 a1_6 a1_7 a1_8 a1_9 : Int) (w : World) (hr : Kd.C (Kd.int .i64) w A0 p.length p) (h0 : 0 ≤ a1_5) (h1 : a1_5 < (p.length : Int)) (hA : impl_has.f (rd p a1_5) a1_6 = some false) (h2 : 0 ≤ a1_6) (h3 : a1_6 < (p.length : Int)) (hB : impl_has.f (rd p a1_6) a1_5 = some false) :
    Calls Try.prog 59 #[.agg #[.slice A0 p.length c0], .agg #[.int .i64 a1_0, .int .i64 a1_1, .int .i64 a1_2, .int .i64 a1_3, .int .i64 a1_4, .int .i64 a1_5, .int .i64 a1_6, .int .i64 a1_7, .int .i64 a1_8, .int .i64 a1_9], .int .i64 5] w fun e w' => e = .returned (.agg #[.int .i64 a1_0, .int .i64 a1_1, .int .i64 a1_2, .int .i64 a1_3, .int .i64 a1_4, .int .i64 a1_6, .int .i64 a1_5, .int .i64 a1_7, .int .i64 a1_8, .int .i64 a1_9]) ∧ Below w.heap.size w w' := by
  have hu28 := Try.underlying28
  have hu58 := Try.underlying58
  have hwI : IntKind.i64.wrap (5 + 1) = 6 := by decide
  have hwJ : IntKind.i64.wrap 6 = 6 := by decide
  obtain ⟨ad, rfl, hc⟩ := Kd.at_int hr a1_5 h0 h1
  have hc3 := exch_keep hc
  have HA := Aside0.mk hA
  obtain ⟨ad', e', hc'⟩ := Kd.at_int hr a1_6 h2 h3
  cases e'
  have hc3' := exch_keep hc'
  have HB := Aside0.mk hB
  clear hA hB hr hc hc'
  go_enter Try.func59, Try.ntmps59
  go_wp2_with (fail)
  go_quiet (fail)
  go_wp2_with (go_at_call 79; first | ((with_reducible refine (impl_has.calls (rd p a1_5) a1_6 _ _ HA.out).mono ?_); rintro e w' ⟨rfl, ⟨nd, rfl⟩⟩) | ((with_reducible refine (impl_has.calls (rd p a1_6) a1_5 _ _ HB.out).mono ?_); rintro e w' ⟨rfl, ⟨nd, rfl⟩⟩))
  refine bodyPost_ret (v := .agg #[.int .i64 a1_0, .int .i64 a1_1, .int .i64 a1_2, .int .i64 a1_3, .int .i64 a1_4, .int .i64 a1_6, .int .i64 a1_5, .int .i64 a1_7, .int .i64 a1_8, .int .i64 a1_9]) (by simp [results, Try.results59, go_sem]) rfl ⟨rfl, ?_⟩
  repeat (with_reducible first | exact Below.refl _ _ | refine below_set ?_ (by omega) | apply pw_below_drewN | apply below_drew1 | apply below_alloc)
def exchange5.f (l0_0 : List Int) (a1_0 a1_1 a1_2 a1_3 a1_4 a1_5 a1_6 a1_7 a1_8 a1_9 : Int) (a2 : Int) : Option (Int × Int × Int × Int × Int × Int × Int × Int × Int × Int) := if 0 ≤ a1_5 then (if a1_5 < (l0_0.length : Int) then ((impl_has.f (rd l0_0 a1_5) a1_6).bind fun t1 => (if t1 = true then (some (a1_0, a1_1, a1_2, a1_3, a1_4, a1_5, a1_6, a1_7, a1_8, a1_9)) else (if 0 ≤ a1_6 then (if a1_6 < (l0_0.length : Int) then ((impl_has.f (rd l0_0 a1_6) a1_5).bind fun t2 => (if t2 = true then (some (a1_0, a1_1, a1_2, a1_3, a1_4, a1_5, a1_6, a1_7, a1_8, a1_9)) else (some (a1_0, a1_1, a1_2, a1_3, a1_4, a1_6, a1_5, a1_7, a1_8, a1_9)))) else (none)) else (none)))) else (none)) else (none)
theorem exchange5.calls (A0_0 : Option Addr) (c0_0 : Nat) (l0_0 : List Int) (a1_0 a1_1 a1_2 a1_3 a1_4 a1_5 a1_6 a1_7 a1_8 a1_9 : Int) (a2 : Int) (r1 r2 r3 r4 r5 r6 r7 r8 r9 r10 : Int) (w : World) (hr0_0 : Kd.C (Kd.int .i64) w A0_0 l0_0.length l0_0) (h : exchange5.f l0_0 a1_0 a1_1 a1_2 a1_3 a1_4 a1_5 a1_6 a1_7 a1_8 a1_9 a2 = some (r1, r2, r3, r4, r5, r6, r7, r8, r9, r10)) :
    Calls Try.prog 59 #[.agg #[.slice A0_0 l0_0.length c0_0], .agg #[.int .i64 a1_0, .int .i64 a1_1, .int .i64 a1_2, .int .i64 a1_3, .int .i64 a1_4, .int .i64 a1_5, .int .i64 a1_6, .int .i64 a1_7, .int .i64 a1_8, .int .i64 a1_9], .int .i64 5] w fun e w' => e = .returned (.agg #[.int .i64 r1, .int .i64 r2, .int .i64 r3, .int .i64 r4, .int .i64 r5, .int .i64 r6, .int .i64 r7, .int .i64 r8, .int .i64 r9, .int .i64 r10]) ∧ Below w.heap.size w w' := by
  unfold exchange5.f at h
  by_cases h0 : 0 ≤ a1_5
  rotate_left
  · rw [if_neg h0] at h; cases h
  by_cases h1 : a1_5 < (l0_0.length : Int)
  rotate_left
  · rw [if_pos h0, if_neg h1] at h; cases h
  rw [if_pos h0, if_pos h1] at h
  obtain ⟨t1, hA, h⟩ := Option.bind_eq_some_iff.1 h
  cases t1 with
  | true =>
    rw [if_pos rfl] at h
    simp only [Option.some.injEq, Prod.mk.injEq] at h
    obtain ⟨rfl, rfl, rfl, rfl, rfl, rfl, rfl, rfl, rfl, rfl⟩ := h
    exact exch5_t A0_0 c0_0 l0_0 a1_0 a1_1 a1_2 a1_3 a1_4 a1_5 a1_6 a1_7 a1_8 a1_9 w hr0_0 h0 h1 hA
  | false =>
    rw [if_neg (by simp)] at h
    by_cases h2 : 0 ≤ a1_6
    rotate_left
    · rw [if_neg h2] at h; cases h
    by_cases h3 : a1_6 < (l0_0.length : Int)
    rotate_left
    · rw [if_pos h2, if_neg h3] at h; cases h
    rw [if_pos h2, if_pos h3] at h
    obtain ⟨t2, hB, h⟩ := Option.bind_eq_some_iff.1 h
    cases t2 with
    | true =>
      rw [if_pos rfl] at h
      simp only [Option.some.injEq, Prod.mk.injEq] at h
      obtain ⟨rfl, rfl, rfl, rfl, rfl, rfl, rfl, rfl, rfl, rfl⟩ := h
      exact exch5_ft A0_0 c0_0 l0_0 a1_0 a1_1 a1_2 a1_3 a1_4 a1_5 a1_6 a1_7 a1_8 a1_9 w hr0_0 h0 h1 hA h2 h3 hB
    | false =>
      rw [if_neg (by simp)] at h
      simp only [Option.some.injEq, Prod.mk.injEq] at h
      obtain ⟨rfl, rfl, rfl, rfl, rfl, rfl, rfl, rfl, rfl, rfl⟩ := h
      exact exch5_ff A0_0 c0_0 l0_0 a1_0 a1_1 a1_2 a1_3 a1_4 a1_5 a1_6 a1_7 a1_8 a1_9 w hr0_0 h0 h1 hA h2 h3 hB
set_option maxHeartbeats 8000000 in
set_option maxRecDepth 100000 in
theorem exch6_t (A0 : Option Addr) (c0 : Nat) (p : List Int) (a1_0 a1_1 a1_2 a1_3 a1_4 a1_5 a1_6 a1_7 a1_8 a1_9 : Int) (w : World) (hr : Kd.C (Kd.int .i64) w A0 p.length p) (h0 : 0 ≤ a1_6) (h1 : a1_6 < (p.length : Int)) (hA : impl_has.f (rd p a1_6) a1_7 = some true) :
    Calls Try.prog 59 #[.agg #[.slice A0 p.length c0], .agg #[.int .i64 a1_0, .int .i64 a1_1, .int .i64 a1_2, .int .i64 a1_3, .int .i64 a1_4, .int .i64 a1_5, .int .i64 a1_6, .int .i64 a1_7, .int .i64 a1_8, .int .i64 a1_9], .int .i64 6] w fun e w' => e = .returned (.agg #[.int .i64 a1_0, .int .i64 a1_1, .int .i64 a1_2, .int .i64 a1_3, .int .i64 a1_4, .int .i64 a1_5, .int .i64 a1_6, .int .i64 a1_7, .int .i64 a1_8, .int .i64 a1_9]) ∧ Below w.heap.size w w' := by
  have hu28 := Try.underlying28
  have hu58 := Try.underlying58
  have hwI : IntKind.i64.wrap (6 + 1) = 7 := by decide
  have hwJ : IntKind.i64.wrap 7 = 7 := by decide
  obtain ⟨ad, rfl, hc⟩ := Kd.at_int hr a1_6 h0 h1
  have hc3 := exch_keep hc
  have HA := Aside0.mk hA
  clear hA hr hc
  go_enter Try.func59, Try.ntmps59
  go_wp2_with (fail)
  go_quiet (fail)
  go_wp2_with (go_at_call 79; ((with_reducible refine (impl_has.calls (rd p a1_6) a1_7 _ _ HA.out).mono ?_); rintro e w' ⟨rfl, ⟨nd, rfl⟩⟩))
  refine bodyPost_ret (v := .agg #[.int .i64 a1_0, .int .i64 a1_1, .int .i64 a1_2, .int .i64 a1_3, .int .i64 a1_4, .int .i64 a1_5, .int .i64 a1_6, .int .i64 a1_7, .int .i64 a1_8, .int .i64 a1_9]) (by simp [results, Try.results59, go_sem]) rfl ⟨rfl, ?_⟩
  repeat (with_reducible first | exact Below.refl _ _ | refine below_set ?_ (by omega) | apply pw_below_drewN | apply below_drew1 | apply below_alloc)
set_option maxHeartbeats 8000000 in
set_option maxRecDepth 100000 in
theorem exch6_ft (A0 : Option Addr) (c0 : Nat) (p : List Int) (a1_0 a1_1 a1_2 a1_3 a1_4 a1_5 a1_6 a1_7 a1_8 a1_9 : Int) (w : World) (hr : Kd.C (Kd.int .i64) w A0 p.length p) (h0 : 0 ≤ a1_6) (h1 : a1_6 < (p.length : Int)) (hA : impl_has.f (rd p a1_6) a1_7 = some false) (h2 : 0 ≤ a1_7) (h3 : a1_7 < (p.length : Int)) (hB : impl_has.f (rd p a1_7) a1_6 = some true) :
    Calls Try.prog 59 #[.agg #[.slice A0 p.length c0], .agg #[.int .i64 a1_0, .int .i64 a1_1, .int .i64 a1_2, .int .i64 a1_3, .int .i64 a1_4, .int .i64 a1_5, .int .i64 a1_6, .int .i64 a1_7, .int .i64 a1_8, .int .i64 a1_9], .int .i64 6] w fun e w' => e = .returned (.agg #[.int .i64 a1_0, .int .i64 a1_1, .int .i64 a1_2, .int .i64 a1_3, .int .i64 a1_4, .int .i64 a1_5, .int .i64 a1_6, .int .i64 a1_7, .int .i64 a1_8, .int .i64 a1_9]) ∧ Below w.heap.size w w' := by
  have hu28 := Try.underlying28
  have hu58 := Try.underlying58
  have hwI : IntKind.i64.wrap (6 + 1) = 7 := by decide
  have hwJ : IntKind.i64.wrap 7 = 7 := by decide
  obtain ⟨ad, rfl, hc⟩ := Kd.at_int hr a1_6 h0 h1
  have hc3 := exch_keep hc
  have HA := Aside0.mk hA
  obtain ⟨ad', e', hc'⟩ := Kd.at_int hr a1_7 h2 h3
  cases e'
  have hc3' := exch_keep hc'
  have HB := Aside0.mk hB
  clear hA hB hr hc hc'
  go_enter Try.func59, Try.ntmps59
  go_wp2_with (fail)
  go_quiet (fail)
  go_wp2_with (go_at_call 79; first | ((with_reducible refine (impl_has.calls (rd p a1_6) a1_7 _ _ HA.out).mono ?_); rintro e w' ⟨rfl, ⟨nd, rfl⟩⟩) | ((with_reducible refine (impl_has.calls (rd p a1_7) a1_6 _ _ HB.out).mono ?_); rintro e w' ⟨rfl, ⟨nd, rfl⟩⟩))
  refine bodyPost_ret (v := .agg #[.int .i64 a1_0, .int .i64 a1_1, .int .i64 a1_2, .int .i64 a1_3, .int .i64 a1_4, .int .i64 a1_5, .int .i64 a1_6, .int .i64 a1_7, .int .i64 a1_8, .int .i64 a1_9]) (by simp [results, Try.results59, go_sem]) rfl ⟨rfl, ?_⟩
  repeat (with_reducible first | exact Below.refl _ _ | refine below_set ?_ (by omega) | apply pw_below_drewN | apply below_drew1 | apply below_alloc)
set_option maxHeartbeats 8000000 in
set_option maxRecDepth 100000 in
theorem exch6_ff (A0 : Option Addr) (c0 : Nat) (p : List Int) (a1_0 a1_1 a1_2 a1_3 a1_4 a1_5 a1_6 a1_7 a1_8 a1_9 : Int) (w : World) (hr : Kd.C (Kd.int .i64) w A0 p.length p) (h0 : 0 ≤ a1_6) (h1 : a1_6 < (p.length : Int)) (hA : impl_has.f (rd p a1_6) a1_7 = some false) (h2 : 0 ≤ a1_7) (h3 : a1_7 < (p.length : Int)) (hB : impl_has.f (rd p a1_7) a1_6 = some false) :
    Calls Try.prog 59 #[.agg #[.slice A0 p.length c0], .agg #[.int .i64 a1_0, .int .i64 a1_1, .int .i64 a1_2, .int .i64 a1_3, .int .i64 a1_4, .int .i64 a1_5, .int .i64 a1_6, .int .i64 a1_7, .int .i64 a1_8, .int .i64 a1_9], .int .i64 6] w fun e w' => e = .returned (.agg #[.int .i64 a1_0, .int .i64 a1_1, .int .i64 a1_2, .int .i64 a1_3, .int .i64 a1_4, .int .i64 a1_5, .int .i64 a1_7, .int .i64 a1_6, .int .i64 a1_8, .int .i64 a1_9]) ∧ Below w.heap.size w w' := by
  have hu28 := Try.underlying28
  have hu58 := Try.underlying58
  have hwI : IntKind.i64.wrap (6 + 1) = 7 := by decide
  have hwJ : IntKind.i64.wrap 7 = 7 := by decide
  obtain ⟨ad, rfl, hc⟩ := Kd.at_int hr a1_6 h0 h1
  have hc3 := exch_keep hc
  have HA := Aside0.mk hA
  obtain ⟨ad', e', hc'⟩ := Kd.at_int hr a1_7 h2 h3
  cases e'
  have hc3' := exch_keep hc'
  have HB := Aside0.mk hB
  clear hA hB hr hc hc'
  go_enter Try.func59, Try.ntmps59
  go_wp2_with (fail)
  go_quiet (fail)
  go_wp2_with (go_at_call 79; first | ((with_reducible refine (impl_has.calls (rd p a1_6) a1_7 _ _ HA.out).mono ?_); rintro e w' ⟨rfl, ⟨nd, rfl⟩⟩) | ((with_reducible refine (impl_has.calls (rd p a1_7) a1_6 _ _ HB.out).mono ?_); rintro e w' ⟨rfl, ⟨nd, rfl⟩⟩))
  refine bodyPost_ret (v := .agg #[.int .i64 a1_0, .int .i64 a1_1, .int .i64 a1_2, .int .i64 a1_3, .int .i64 a1_4, .int .i64 a1_5, .int .i64 a1_7, .int .i64 a1_6, .int .i64 a1_8, .int .i64 a1_9]) (by simp [results, Try.results59, go_sem]) rfl ⟨rfl, ?_⟩
  repeat (with_reducible first | exact Below.refl _ _ | refine below_set ?_ (by omega) | apply pw_below_drewN | apply below_drew1 | apply below_alloc)
def exchange6.f (l0_0 : List Int) (a1_0 a1_1 a1_2 a1_3 a1_4 a1_5 a1_6 a1_7 a1_8 a1_9 : Int) (a2 : Int) : Option (Int × Int × Int × Int × Int × Int × Int × Int × Int × Int) := if 0 ≤ a1_6 then (if a1_6 < (l0_0.length : Int) then ((impl_has.f (rd l0_0 a1_6) a1_7).bind fun t1 => (if t1 = true then (some (a1_0, a1_1, a1_2, a1_3, a1_4, a1_5, a1_6, a1_7, a1_8, a1_9)) else (if 0 ≤ a1_7 then (if a1_7 < (l0_0.length : Int) then ((impl_has.f (rd l0_0 a1_7) a1_6).bind fun t2 => (if t2 = true then (some (a1_0, a1_1, a1_2, a1_3, a1_4, a1_5, a1_6, a1_7, a1_8, a1_9)) else (some (a1_0, a1_1, a1_2, a1_3, a1_4, a1_5, a1_7, a1_6, a1_8, a1_9)))) else (none)) else (none)))) else (none)) else (none)
theorem exchange6.calls (A0_0 : Option Addr) (c0_0 : Nat) (l0_0 : List Int) (a1_0 a1_1 a1_2 a1_3 a1_4 a1_5 a1_6 a1_7 a1_8 a1_9 : Int) (a2 : Int) (r1 r2 r3 r4 r5 r6 r7 r8 r9 r10 : Int) (w : World) (hr0_0 : Kd.C (Kd.int .i64) w A0_0 l0_0.length l0_0) (h : exchange6.f l0_0 a1_0 a1_1 a1_2 a1_3 a1_4 a1_5 a1_6 a1_7 a1_8 a1_9 a2 = some (r1, r2, r3, r4, r5, r6, r7, r8, r9, r10)) :
    Calls Try.prog 59 #[.agg #[.slice A0_0 l0_0.length c0_0], .agg #[.int .i64 a1_0, .int .i64 a1_1, .int .i64 a1_2, .int .i64 a1_3, .int .i64 a1_4, .int .i64 a1_5, .int .i64 a1_6, .int .i64 a1_7, .int .i64 a1_8, .int .i64 a1_9], .int .i64 6] w fun e w' => e = .returned (.agg #[.int .i64 r1, .int .i64 r2, .int .i64 r3, .int .i64 r4, .int .i64 r5, .int .i64 r6, .int .i64 r7, .int .i64 r8, .int .i64 r9, .int .i64 r10]) ∧ Below w.heap.size w w' := by
  unfold exchange6.f at h
  by_cases h0 : 0 ≤ a1_6
  rotate_left
  · rw [if_neg h0] at h; cases h
  by_cases h1 : a1_6 < (l0_0.length : Int)
  rotate_left
  · rw [if_pos h0, if_neg h1] at h; cases h
  rw [if_pos h0, if_pos h1] at h
  obtain ⟨t1, hA, h⟩ := Option.bind_eq_some_iff.1 h
  cases t1 with
  | true =>
    rw [if_pos rfl] at h
    simp only [Option.some.injEq, Prod.mk.injEq] at h
    obtain ⟨rfl, rfl, rfl, rfl, rfl, rfl, rfl, rfl, rfl, rfl⟩ := h
    exact exch6_t A0_0 c0_0 l0_0 a1_0 a1_1 a1_2 a1_3 a1_4 a1_5 a1_6 a1_7 a1_8 a1_9 w hr0_0 h0 h1 hA
  | false =>
    rw [if_neg (by simp)] at h
    by_cases h2 : 0 ≤ a1_7
    rotate_left
    · rw [if_neg h2] at h; cases h
    by_cases h3 : a1_7 < (l0_0.length : Int)
    rotate_left
    · rw [if_pos h2, if_neg h3] at h; cases h
    rw [if_pos h2, if_pos h3] at h
    obtain ⟨t2, hB, h⟩ := Option.bind_eq_some_iff.1 h
    cases t2 with
    | true =>
      rw [if_pos rfl] at h
      simp only [Option.some.injEq, Prod.mk.injEq] at h
      obtain ⟨rfl, rfl, rfl, rfl, rfl, rfl, rfl, rfl, rfl, rfl⟩ := h
      exact exch6_ft A0_0 c0_0 l0_0 a1_0 a1_1 a1_2 a1_3 a1_4 a1_5 a1_6 a1_7 a1_8 a1_9 w hr0_0 h0 h1 hA h2 h3 hB
    | false =>
      rw [if_neg (by simp)] at h
      simp only [Option.some.injEq, Prod.mk.injEq] at h
      obtain ⟨rfl, rfl, rfl, rfl, rfl, rfl, rfl, rfl, rfl, rfl⟩ := h
      exact exch6_ff A0_0 c0_0 l0_0 a1_0 a1_1 a1_2 a1_3 a1_4 a1_5 a1_6 a1_7 a1_8 a1_9 w hr0_0 h0 h1 hA h2 h3 hB
set_option maxHeartbeats 8000000 in
set_option maxRecDepth 100000 in
theorem exch7_t (A0 : Option Addr) (c0 : Nat) (p : List Int) (a1_0 a1_1 a1_2 a1_3 a1_4 a1_5 a1_6 a1_7 a1_8 a1_9 : Int) (w : World) (hr : Kd.C (Kd.int .i64) w A0 p.length p) (h0 : 0 ≤ a1_7) (h1 : a1_7 < (p.length : Int)) (hA : impl_has.f (rd p a1_7) a1_8 = some true) :
    Calls Try.prog 59 #[.agg #[.slice A0 p.length c0], .agg #[.int .i64 a1_0, .int .i64 a1_1, .int .i64 a1_2, .int .i64 a1_3, .int .i64 a1_4, .int .i64 a1_5, .int .i64 a1_6, .int .i64 a1_7, .int .i64 a1_8, .int .i64 a1_9], .int .i64 7] w fun e w' => e = .returned (.agg #[.int .i64 a1_0, .int .i64 a1_1, .int .i64 a1_2, .int .i64 a1_3, .int .i64 a1_4, .int .i64 a1_5, .int .i64 a1_6, .int .i64 a1_7, .int .i64 a1_8, .int .i64 a1_9]) ∧ Below w.heap.size w w' := by
  have hu28 := Try.underlying28
  have hu58 := Try.underlying58
  have hwI : IntKind.i64.wrap (7 + 1) = 8 := by decide
  have hwJ : IntKind.i64.wrap 8 = 8 := by decide
  obtain ⟨ad, rfl, hc⟩ := Kd.at_int hr a1_7 h0 h1
  have hc3 := exch_keep hc
  have HA := Aside0.mk hA
  clear hA hr hc
  go_enter Try.func59, Try.ntmps59
  go_wp2_with (fail)
  go_quiet (fail)
  go_wp2_with (go_at_call 79; ((with_reducible refine (impl_has.calls (rd p a1_7) a1_8 _ _ HA.out).mono ?_); rintro e w' ⟨rfl, ⟨nd, rfl⟩⟩))
  refine bodyPost_ret (v := .agg #[.int .i64 a1_0, .int .i64 a1_1, .int .i64 a1_2, .int .i64 a1_3, .int .i64 a1_4, .int .i64 a1_5, .int .i64 a1_6, .int .i64 a1_7, .int .i64 a1_8, .int .i64 a1_9]) (by simp [results, Try.results59, go_sem]) rfl ⟨rfl, ?_⟩
  repeat (with_reducible first | exact Below.refl _ _ | refine below_set ?_ (by omega) | apply pw_below_drewN | apply below_drew1 | apply below_alloc)
set_option maxHeartbeats 8000000 in
set_option maxRecDepth 100000 in
theorem exch7_ft (A0 : Option Addr) (c0 : Nat) (p : List Int) (a1_0 a1_1 a1_2 a1_3 a1_4 a1_5 a1_6 a1_7 a1_8 a1_9 : Int) (w : World) (hr : Kd.C (Kd.int .i64) w A0 p.length p) (h0 : 0 ≤ a1_7) (h1 : a1_7 < (p.length : Int)) (hA : impl_has.f (rd p a1_7) a1_8 = some false) (h2 : 0 ≤ a1_8) (h3 : a1_8 < (p.length : Int)) (hB : impl_has.f (rd p a1_8) a1_7 = some true) :
    Calls Try.prog 59 #[.agg #[.slice A0 p.length c0], .agg #[.int .i64 a1_0, .int .i64 a1_1, .int .i64 a1_2, .int .i64 a1_3, .int .i64 a1_4, .int .i64 a1_5, .int .i64 a1_6, .int .i64 a1_7, .int .i64 a1_8, .int .i64 a1_9], .int .i64 7] w fun e w' => e = .returned (.agg #[.int .i64 a1_0, .int .i64 a1_1, .int .i64 a1_2, .int .i64 a1_3, .int .i64 a1_4, .int .i64 a1_5, .int .i64 a1_6, .int .i64 a1_7, .int .i64 a1_8, .int .i64 a1_9]) ∧ Below w.heap.size w w' := by
  have hu28 := Try.underlying28
  have hu58 := Try.underlying58
  have hwI : IntKind.i64.wrap (7 + 1) = 8 := by decide
  have hwJ : IntKind.i64.wrap 8 = 8 := by decide
  obtain ⟨ad, rfl, hc⟩ := Kd.at_int hr a1_7 h0 h1
  have hc3 := exch_keep hc
  have HA := Aside0.mk hA
  obtain ⟨ad', e', hc'⟩ := Kd.at_int hr a1_8 h2 h3
  cases e'
  have hc3' := exch_keep hc'
  have HB := Aside0.mk hB
  clear hA hB hr hc hc'
  go_enter Try.func59, Try.ntmps59
  go_wp2_with (fail)
  go_quiet (fail)
  go_wp2_with (go_at_call 79; first | ((with_reducible refine (impl_has.calls (rd p a1_7) a1_8 _ _ HA.out).mono ?_); rintro e w' ⟨rfl, ⟨nd, rfl⟩⟩) | ((with_reducible refine (impl_has.calls (rd p a1_8) a1_7 _ _ HB.out).mono ?_); rintro e w' ⟨rfl, ⟨nd, rfl⟩⟩))
  refine bodyPost_ret (v := .agg #[.int .i64 a1_0, .int .i64 a1_1, .int .i64 a1_2, .int .i64 a1_3, .int .i64 a1_4, .int .i64 a1_5, .int .i64 a1_6, .int .i64 a1_7, .int .i64 a1_8, .int .i64 a1_9]) (by simp [results, Try.results59, go_sem]) rfl ⟨rfl, ?_⟩
  repeat (with_reducible first | exact Below.refl _ _ | refine below_set ?_ (by omega) | apply pw_below_drewN | apply below_drew1 | apply below_alloc)
set_option maxHeartbeats 8000000 in
set_option maxRecDepth 100000 in
theorem exch7_ff (A0 : Option Addr) (c0 : Nat) (p : List Int) (a1_0 a1_1 a1_2 a1_3 a1_4 a1_5 a1_6 a1_7 a1_8 a1_9 : Int) (w : World) (hr : Kd.C (Kd.int .i64) w A0 p.length p) (h0 : 0 ≤ a1_7) (h1 : a1_7 < (p.length : Int)) (hA : impl_has.f (rd p a1_7) a1_8 = some false) (h2 : 0 ≤ a1_8) (h3 : a1_8 < (p.length : Int)) (hB : impl_has.f (rd p a1_8) a1_7 = some false) :
    Calls Try.prog 59 #[.agg #[.slice A0 p.length c0], .agg #[.int .i64 a1_0, .int .i64 a1_1, .int .i64 a1_2, .int .i64 a1_3, .int .i64 a1_4, .int .i64 a1_5, .int .i64 a1_6, .int .i64 a1_7, .int .i64 a1_8, .int .i64 a1_9], .int .i64 7] w fun e w' => e = .returned (.agg #[.int .i64 a1_0, .int .i64 a1_1, .int .i64 a1_2, .int .i64 a1_3, .int .i64 a1_4, .int .i64 a1_5, .int .i64 a1_6, .int .i64 a1_8, .int .i64 a1_7, .int .i64 a1_9]) ∧ Below w.heap.size w w' := by
  have hu28 := Try.underlying28
  have hu58 := Try.underlying58
  have hwI : IntKind.i64.wrap (7 + 1) = 8 := by decide
  have hwJ : IntKind.i64.wrap 8 = 8 := by decide
  obtain ⟨ad, rfl, hc⟩ := Kd.at_int hr a1_7 h0 h1
  have hc3 := exch_keep hc
  have HA := Aside0.mk hA
  obtain ⟨ad', e', hc'⟩ := Kd.at_int hr a1_8 h2 h3
  cases e'
  have hc3' := exch_keep hc'
  have HB := Aside0.mk hB
  clear hA hB hr hc hc'
  go_enter Try.func59, Try.ntmps59
  go_wp2_with (fail)
  go_quiet (fail)
  go_wp2_with (go_at_call 79; first | ((with_reducible refine (impl_has.calls (rd p a1_7) a1_8 _ _ HA.out).mono ?_); rintro e w' ⟨rfl, ⟨nd, rfl⟩⟩) | ((with_reducible refine (impl_has.calls (rd p a1_8) a1_7 _ _ HB.out).mono ?_); rintro e w' ⟨rfl, ⟨nd, rfl⟩⟩))
  refine bodyPost_ret (v := .agg #[.int .i64 a1_0, .int .i64 a1_1, .int .i64 a1_2, .int .i64 a1_3, .int .i64 a1_4, .int .i64 a1_5, .int .i64 a1_6, .int .i64 a1_8, .int .i64 a1_7, .int .i64 a1_9]) (by simp [results, Try.results59, go_sem]) rfl ⟨rfl, ?_⟩
  repeat (with_reducible first | exact Below.refl _ _ | refine below_set ?_ (by omega) | apply pw_below_drewN | apply below_drew1 | apply below_alloc)
def exchange7.f (l0_0 : List Int) (a1_0 a1_1 a1_2 a1_3 a1_4 a1_5 a1_6 a1_7 a1_8 a1_9 : Int) (a2 : Int) : Option (Int × Int × Int × Int × Int × Int × Int × Int × Int × Int) := if 0 ≤ a1_7 then (if a1_7 < (l0_0.length : Int) then ((impl_has.f (rd l0_0 a1_7) a1_8).bind fun t1 => (if t1 = true then (some (a1_0, a1_1, a1_2, a1_3, a1_4, a1_5, a1_6, a1_7, a1_8, a1_9)) else (if 0 ≤ a1_8 then (if a1_8 < (l0_0.length : Int) then ((impl_has.f (rd l0_0 a1_8) a1_7).bind fun t2 => (if t2 = true then (some (a1_0, a1_1, a1_2, a1_3, a1_4, a1_5, a1_6, a1_7, a1_8, a1_9)) else (some (a1_0, a1_1, a1_2, a1_3, a1_4, a1_5, a1_6, a1_8, a1_7, a1_9)))) else (none)) else (none)))) else (none)) else (none)
theorem exchange7.calls (A0_0 : Option Addr) (c0_0 : Nat) (l0_0 : List Int) (a1_0 a1_1 a1_2 a1_3 a1_4 a1_5 a1_6 a1_7 a1_8 a1_9 : Int) (a2 : Int) (r1 r2 r3 r4 r5 r6 r7 r8 r9 r10 : Int) (w : World) (hr0_0 : Kd.C (Kd.int .i64) w A0_0 l0_0.length l0_0) (h : exchange7.f l0_0 a1_0 a1_1 a1_2 a1_3 a1_4 a1_5 a1_6 a1_7 a1_8 a1_9 a2 = some (r1, r2, r3, r4, r5, r6, r7, r8, r9, r10)) :
    Calls Try.prog 59 #[.agg #[.slice A0_0 l0_0.length c0_0], .agg #[.int .i64 a1_0, .int .i64 a1_1, .int .i64 a1_2, .int .i64 a1_3, .int .i64 a1_4, .int .i64 a1_5, .int .i64 a1_6, .int .i64 a1_7, .int .i64 a1_8, .int .i64 a1_9], .int .i64 7] w fun e w' => e = .returned (.agg #[.int .i64 r1, .int .i64 r2, .int .i64 r3, .int .i64 r4, .int .i64 r5, .int .i64 r6, .int .i64 r7, .int .i64 r8, .int .i64 r9, .int .i64 r10]) ∧ Below w.heap.size w w' := by
  unfold exchange7.f at h
  by_cases h0 : 0 ≤ a1_7
  rotate_left
  · rw [if_neg h0] at h; cases h
  by_cases h1 : a1_7 < (l0_0.length : Int)
  rotate_left
  · rw [if_pos h0, if_neg h1] at h; cases h
  rw [if_pos h0, if_pos h1] at h
  obtain ⟨t1, hA, h⟩ := Option.bind_eq_some_iff.1 h
  cases t1 with
  | true =>
    rw [if_pos rfl] at h
    simp only [Option.some.injEq, Prod.mk.injEq] at h
    obtain ⟨rfl, rfl, rfl, rfl, rfl, rfl, rfl, rfl, rfl, rfl⟩ := h
    exact exch7_t A0_0 c0_0 l0_0 a1_0 a1_1 a1_2 a1_3 a1_4 a1_5 a1_6 a1_7 a1_8 a1_9 w hr0_0 h0 h1 hA
  | false =>
    rw [if_neg (by simp)] at h
    by_cases h2 : 0 ≤ a1_8
    rotate_left
    · rw [if_neg h2] at h; cases h
    by_cases h3 : a1_8 < (l0_0.length : Int)
    rotate_left
    · rw [if_pos h2, if_neg h3] at h; cases h
    rw [if_pos h2, if_pos h3] at h
    obtain ⟨t2, hB, h⟩ := Option.bind_eq_some_iff.1 h
    cases t2 with
    | true =>
      rw [if_pos rfl] at h
      simp only [Option.some.injEq, Prod.mk.injEq] at h
      obtain ⟨rfl, rfl, rfl, rfl, rfl, rfl, rfl, rfl, rfl, rfl⟩ := h
      exact exch7_ft A0_0 c0_0 l0_0 a1_0 a1_1 a1_2 a1_3 a1_4 a1_5 a1_6 a1_7 a1_8 a1_9 w hr0_0 h0 h1 hA h2 h3 hB
    | false =>
      rw [if_neg (by simp)] at h
      simp only [Option.some.injEq, Prod.mk.injEq] at h
      obtain ⟨rfl, rfl, rfl, rfl, rfl, rfl, rfl, rfl, rfl, rfl⟩ := h
      exact exch7_ff A0_0 c0_0 l0_0 a1_0 a1_1 a1_2 a1_3 a1_4 a1_5 a1_6 a1_7 a1_8 a1_9 w hr0_0 h0 h1 hA h2 h3 hB
set_option maxHeartbeats 8000000 in
set_option maxRecDepth 100000 in
theorem exch8_t (A0 : Option Addr) (c0 : Nat) (p : List Int) (a1_0 a1_1 a1_2 a1_3 a1_4 a1_5 a1_6 a1_7 a1_8 a1_9 : Int) (w : World) (hr : Kd.C (Kd.int .i64) w A0 p.length p) (h0 : 0 ≤ a1_8) (h1 : a1_8 < (p.length : Int)) (hA : impl_has.f (rd p a1_8) a1_9 = some true) :
    Calls Try.prog 59 #[.agg #[.slice A0 p.length c0], .agg #[.int .i64 a1_0, .int .i64 a1_1, .int .i64 a1_2, .int .i64 a1_3, .int .i64 a1_4, .int .i64 a1_5, .int .i64 a1_6, .int .i64 a1_7, .int .i64 a1_8, .int .i64 a1_9], .int .i64 8] w fun e w' => e = .returned (.agg #[.int .i64 a1_0, .int .i64 a1_1, .int .i64 a1_2, .int .i64 a1_3, .int .i64 a1_4, .int .i64 a1_5, .int .i64 a1_6, .int .i64 a1_7, .int .i64 a1_8, .int .i64 a1_9]) ∧ Below w.heap.size w w' := by
  have hu28 := Try.underlying28
  have hu58 := Try.underlying58
  have hwI : IntKind.i64.wrap (8 + 1) = 9 := by decide
  have hwJ : IntKind.i64.wrap 9 = 9 := by decide
  obtain ⟨ad, rfl, hc⟩ := Kd.at_int hr a1_8 h0 h1
  have hc3 := exch_keep hc
  have HA := Aside0.mk hA
  clear hA hr hc
  go_enter Try.func59, Try.ntmps59
  go_wp2_with (fail)
  go_quiet (fail)
  go_wp2_with (go_at_call 79; ((with_reducible refine (impl_has.calls (rd p a1_8) a1_9 _ _ HA.out).mono ?_); rintro e w' ⟨rfl, ⟨nd, rfl⟩⟩))
  refine bodyPost_ret (v := .agg #[.int .i64 a1_0, .int .i64 a1_1, .int .i64 a1_2, .int .i64 a1_3, .int .i64 a1_4, .int .i64 a1_5, .int .i64 a1_6, .int .i64 a1_7, .int .i64 a1_8, .int .i64 a1_9]) (by simp [results, Try.results59, go_sem]) rfl ⟨rfl, ?_⟩
  repeat (with_reducible first | exact Below.refl _ _ | refine below_set ?_ (by omega) | apply pw_below_drewN | apply below_drew1 | apply below_alloc)
set_option maxHeartbeats 8000000 in
set_option maxRecDepth 100000 in
theorem exch8_ft (A0 : Option Addr) (c0 : Nat) (p : List Int) (a1_0 a1_1 a1_2 a1_3 a1_4 a1_5 a1_6 a1_7 a1_8 a1_9 : Int) (w : World) (hr : Kd.C (Kd.int .i64) w A0 p.length p) (h0 : 0 ≤ a1_8) (h1 : a1_8 < (p.length : Int)) (hA : impl_has.f (rd p a1_8) a1_9 = some false) (h2 : 0 ≤ a1_9) (h3 : a1_9 < (p.length : Int)) (hB : impl_has.f (rd p a1_9) a1_8 = some true) :
    Calls Try.prog 59 #[.agg #[.slice A0 p.length c0], .agg #[.int .i64 a1_0, .int .i64 a1_1, .int .i64 a1_2, .int .i64 a1_3, .int .i64 a1_4, .int .i64 a1_5, .int .i64 a1_6, .int .i64 a1_7, .int .i64 a1_8, .int .i64 a1_9], .int .i64 8] w fun e w' => e = .returned (.agg #[.int .i64 a1_0, .int .i64 a1_1, .int .i64 a1_2, .int .i64 a1_3, .int .i64 a1_4, .int .i64 a1_5, .int .i64 a1_6, .int .i64 a1_7, .int .i64 a1_8, .int .i64 a1_9]) ∧ Below w.heap.size w w' := by
  have hu28 := Try.underlying28
  have hu58 := Try.underlying58
  have hwI : IntKind.i64.wrap (8 + 1) = 9 := by decide
  have hwJ : IntKind.i64.wrap 9 = 9 := by decide
  obtain ⟨ad, rfl, hc⟩ := Kd.at_int hr a1_8 h0 h1
  have hc3 := exch_keep hc
  have HA := Aside0.mk hA
  obtain ⟨ad', e', hc'⟩ := Kd.at_int hr a1_9 h2 h3
  cases e'
  have hc3' := exch_keep hc'
  have HB := Aside0.mk hB
  clear hA hB hr hc hc'
  go_enter Try.func59, Try.ntmps59
  go_wp2_with (fail)
  go_quiet (fail)
  go_wp2_with (go_at_call 79; first | ((with_reducible refine (impl_has.calls (rd p a1_8) a1_9 _ _ HA.out).mono ?_); rintro e w' ⟨rfl, ⟨nd, rfl⟩⟩) | ((with_reducible refine (impl_has.calls (rd p a1_9) a1_8 _ _ HB.out).mono ?_); rintro e w' ⟨rfl, ⟨nd, rfl⟩⟩))
  refine bodyPost_ret (v := .agg #[.int .i64 a1_0, .int .i64 a1_1, .int .i64 a1_2, .int .i64 a1_3, .int .i64 a1_4, .int .i64 a1_5, .int .i64 a1_6, .int .i64 a1_7, .int .i64 a1_8, .int .i64 a1_9]) (by simp [results, Try.results59, go_sem]) rfl ⟨rfl, ?_⟩
  repeat (with_reducible first | exact Below.refl _ _ | refine below_set ?_ (by omega) | apply pw_below_drewN | apply below_drew1 | apply below_alloc)
set_option maxHeartbeats 8000000 in
set_option maxRecDepth 100000 in
theorem exch8_ff (A0 : Option Addr) (c0 : Nat) (p : List Int) (a1_0 a1_1 a1_2 a1_3 a1_4 a1_5 a1_6 a1_7 a1_8 a1_9 : Int) (w : World) (hr : Kd.C (Kd.int .i64) w A0 p.length p) (h0 : 0 ≤ a1_8) (h1 : a1_8 < (p.length : Int)) (hA : impl_has.f (rd p a1_8) a1_9 = some false) (h2 : 0 ≤ a1_9) (h3 : a1_9 < (p.length : Int)) (hB : impl_has.f (rd p a1_9) a1_8 = some false) :
    Calls Try.prog 59 #[.agg #[.slice A0 p.length c0], .agg #[.int .i64 a1_0, .int .i64 a1_1, .int .i64 a1_2, .int .i64 a1_3, .int .i64 a1_4, .int .i64 a1_5, .int .i64 a1_6, .int .i64 a1_7, .int .i64 a1_8, .int .i64 a1_9], .int .i64 8] w fun e w' => e = .returned (.agg #[.int .i64 a1_0, .int .i64 a1_1, .int .i64 a1_2, .int .i64 a1_3, .int .i64 a1_4, .int .i64 a1_5, .int .i64 a1_6, .int .i64 a1_7, .int .i64 a1_9, .int .i64 a1_8]) ∧ Below w.heap.size w w' := by
  have hu28 := Try.underlying28
  have hu58 := Try.underlying58
  have hwI : IntKind.i64.wrap (8 + 1) = 9 := by decide
  have hwJ : IntKind.i64.wrap 9 = 9 := by decide
  obtain ⟨ad, rfl, hc⟩ := Kd.at_int hr a1_8 h0 h1
  have hc3 := exch_keep hc
  have HA := Aside0.mk hA
  obtain ⟨ad', e', hc'⟩ := Kd.at_int hr a1_9 h2 h3
  cases e'
  have hc3' := exch_keep hc'
  have HB := Aside0.mk hB
  clear hA hB hr hc hc'
  go_enter Try.func59, Try.ntmps59
  go_wp2_with (fail)
  go_quiet (fail)
  go_wp2_with (go_at_call 79; first | ((with_reducible refine (impl_has.calls (rd p a1_8) a1_9 _ _ HA.out).mono ?_); rintro e w' ⟨rfl, ⟨nd, rfl⟩⟩) | ((with_reducible refine (impl_has.calls (rd p a1_9) a1_8 _ _ HB.out).mono ?_); rintro e w' ⟨rfl, ⟨nd, rfl⟩⟩))
  refine bodyPost_ret (v := .agg #[.int .i64 a1_0, .int .i64 a1_1, .int .i64 a1_2, .int .i64 a1_3, .int .i64 a1_4, .int .i64 a1_5, .int .i64 a1_6, .int .i64 a1_7, .int .i64 a1_9, .int .i64 a1_8]) (by simp [results, Try.results59, go_sem]) rfl ⟨rfl, ?_⟩
  repeat (with_reducible first | exact Below.refl _ _ | refine below_set ?_ (by omega) | apply pw_below_drewN | apply below_drew1 | apply below_alloc)
def exchange8.f (l0_0 : List Int) (a1_0 a1_1 a1_2 a1_3 a1_4 a1_5 a1_6 a1_7 a1_8 a1_9 : Int) (a2 : Int) : Option (Int × Int × Int × Int × Int × Int × Int × Int × Int × Int) := if 0 ≤ a1_8 then (if a1_8 < (l0_0.length : Int) then ((impl_has.f (rd l0_0 a1_8) a1_9).bind fun t1 => (if t1 = true then (some (a1_0, a1_1, a1_2, a1_3, a1_4, a1_5, a1_6, a1_7, a1_8, a1_9)) else (if 0 ≤ a1_9 then (if a1_9 < (l0_0.length : Int) then ((impl_has.f (rd l0_0 a1_9) a1_8).bind fun t2 => (if t2 = true then (some (a1_0, a1_1, a1_2, a1_3, a1_4, a1_5, a1_6, a1_7, a1_8, a1_9)) else (some (a1_0, a1_1, a1_2, a1_3, a1_4, a1_5, a1_6, a1_7, a1_9, a1_8)))) else (none)) else (none)))) else (none)) else (none)
theorem exchange8.calls (A0_0 : Option Addr) (c0_0 : Nat) (l0_0 : List Int) (a1_0 a1_1 a1_2 a1_3 a1_4 a1_5 a1_6 a1_7 a1_8 a1_9 : Int) (a2 : Int) (r1 r2 r3 r4 r5 r6 r7 r8 r9 r10 : Int) (w : World) (hr0_0 : Kd.C (Kd.int .i64) w A0_0 l0_0.length l0_0) (h : exchange8.f l0_0 a1_0 a1_1 a1_2 a1_3 a1_4 a1_5 a1_6 a1_7 a1_8 a1_9 a2 = some (r1, r2, r3, r4, r5, r6, r7, r8, r9, r10)) :
    Calls Try.prog 59 #[.agg #[.slice A0_0 l0_0.length c0_0], .agg #[.int .i64 a1_0, .int .i64 a1_1, .int .i64 a1_2, .int .i64 a1_3, .int .i64 a1_4, .int .i64 a1_5, .int .i64 a1_6, .int .i64 a1_7, .int .i64 a1_8, .int .i64 a1_9], .int .i64 8] w fun e w' => e = .returned (.agg #[.int .i64 r1, .int .i64 r2, .int .i64 r3, .int .i64 r4, .int .i64 r5, .int .i64 r6, .int .i64 r7, .int .i64 r8, .int .i64 r9, .int .i64 r10]) ∧ Below w.heap.size w w' := by
  unfold exchange8.f at h
  by_cases h0 : 0 ≤ a1_8
  rotate_left
  · rw [if_neg h0] at h; cases h
  by_cases h1 : a1_8 < (l0_0.length : Int)
  rotate_left
  · rw [if_pos h0, if_neg h1] at h; cases h
  rw [if_pos h0, if_pos h1] at h
  obtain ⟨t1, hA, h⟩ := Option.bind_eq_some_iff.1 h
  cases t1 with
  | true =>
    rw [if_pos rfl] at h
    simp only [Option.some.injEq, Prod.mk.injEq] at h
    obtain ⟨rfl, rfl, rfl, rfl, rfl, rfl, rfl, rfl, rfl, rfl⟩ := h
    exact exch8_t A0_0 c0_0 l0_0 a1_0 a1_1 a1_2 a1_3 a1_4 a1_5 a1_6 a1_7 a1_8 a1_9 w hr0_0 h0 h1 hA
  | false =>
    rw [if_neg (by simp)] at h
    by_cases h2 : 0 ≤ a1_9
    rotate_left
    · rw [if_neg h2] at h; cases h
    by_cases h3 : a1_9 < (l0_0.length : Int)
    rotate_left
    · rw [if_pos h2, if_neg h3] at h; cases h
    rw [if_pos h2, if_pos h3] at h
    obtain ⟨t2, hB, h⟩ := Option.bind_eq_some_iff.1 h
    cases t2 with
    | true =>
      rw [if_pos rfl] at h
      simp only [Option.some.injEq, Prod.mk.injEq] at h
      obtain ⟨rfl, rfl, rfl, rfl, rfl, rfl, rfl, rfl, rfl, rfl⟩ := h
      exact exch8_ft A0_0 c0_0 l0_0 a1_0 a1_1 a1_2 a1_3 a1_4 a1_5 a1_6 a1_7 a1_8 a1_9 w hr0_0 h0 h1 hA h2 h3 hB
    | false =>
      rw [if_neg (by simp)] at h
      simp only [Option.some.injEq, Prod.mk.injEq] at h
      obtain ⟨rfl, rfl, rfl, rfl, rfl, rfl, rfl, rfl, rfl, rfl⟩ := h
      exact exch8_ff A0_0 c0_0 l0_0 a1_0 a1_1 a1_2 a1_3 a1_4 a1_5 a1_6 a1_7 a1_8 a1_9 w hr0_0 h0 h1 hA h2 h3 hB
def impl_Poset_exchange.f (l0_0 : List Int) (a1_0 a1_1 a1_2 a1_3 a1_4 a1_5 a1_6 a1_7 a1_8 a1_9 : Int) (a2 : Int) : Option (Int × Int × Int × Int × Int × Int × Int × Int × Int × Int) := if a2 = 0 then exchange0.f l0_0 a1_0 a1_1 a1_2 a1_3 a1_4 a1_5 a1_6 a1_7 a1_8 a1_9 a2 else if a2 = 1 then exchange1.f l0_0 a1_0 a1_1 a1_2 a1_3 a1_4 a1_5 a1_6 a1_7 a1_8 a1_9 a2 else if a2 = 2 then exchange2.f l0_0 a1_0 a1_1 a1_2 a1_3 a1_4 a1_5 a1_6 a1_7 a1_8 a1_9 a2 else if a2 = 3 then exchange3.f l0_0 a1_0 a1_1 a1_2 a1_3 a1_4 a1_5 a1_6 a1_7 a1_8 a1_9 a2 else if a2 = 4 then exchange4.f l0_0 a1_0 a1_1 a1_2 a1_3 a1_4 a1_5 a1_6 a1_7 a1_8 a1_9 a2 else if a2 = 5 then exchange5.f l0_0 a1_0 a1_1 a1_2 a1_3 a1_4 a1_5 a1_6 a1_7 a1_8 a1_9 a2 else if a2 = 6 then exchange6.f l0_0 a1_0 a1_1 a1_2 a1_3 a1_4 a1_5 a1_6 a1_7 a1_8 a1_9 a2 else if a2 = 7 then exchange7.f l0_0 a1_0 a1_1 a1_2 a1_3 a1_4 a1_5 a1_6 a1_7 a1_8 a1_9 a2 else if a2 = 8 then exchange8.f l0_0 a1_0 a1_1 a1_2 a1_3 a1_4 a1_5 a1_6 a1_7 a1_8 a1_9 a2 else none
theorem impl_Poset_exchange.calls (A0_0 : Option Addr) (c0_0 : Nat) (l0_0 : List Int) (a1_0 a1_1 a1_2 a1_3 a1_4 a1_5 a1_6 a1_7 a1_8 a1_9 : Int) (a2 : Int) (r1 r2 r3 r4 r5 r6 r7 r8 r9 r10 : Int) (w : World) (hr0_0 : Kd.C (Kd.int .i64) w A0_0 l0_0.length l0_0) (hc0_0 : l0_0.length ≤ c0_0) (h : impl_Poset_exchange.f l0_0 a1_0 a1_1 a1_2 a1_3 a1_4 a1_5 a1_6 a1_7 a1_8 a1_9 a2 = some (r1, r2, r3, r4, r5, r6, r7, r8, r9, r10)) :
    Calls Try.prog 59 #[.agg #[.slice A0_0 l0_0.length c0_0], .agg #[.int .i64 a1_0, .int .i64 a1_1, .int .i64 a1_2, .int .i64 a1_3, .int .i64 a1_4, .int .i64 a1_5, .int .i64 a1_6, .int .i64 a1_7, .int .i64 a1_8, .int .i64 a1_9], .int .i64 a2] w fun e w' => e = .returned (.agg #[.int .i64 r1, .int .i64 r2, .int .i64 r3, .int .i64 r4, .int .i64 r5, .int .i64 r6, .int .i64 r7, .int .i64 r8, .int .i64 r9, .int .i64 r10]) ∧ Below w.heap.size w w' := by
  unfold impl_Poset_exchange.f at h
  by_cases h0 : a2 = 0
  · rw [if_pos h0] at h
    subst h0
    exact exchange0.calls A0_0 c0_0 l0_0 a1_0 a1_1 a1_2 a1_3 a1_4 a1_5 a1_6 a1_7 a1_8 a1_9 0 r1 r2 r3 r4 r5 r6 r7 r8 r9 r10 w hr0_0 h
  rw [if_neg h0] at h
  by_cases h1 : a2 = 1
  · rw [if_pos h1] at h
    subst h1
    exact exchange1.calls A0_0 c0_0 l0_0 a1_0 a1_1 a1_2 a1_3 a1_4 a1_5 a1_6 a1_7 a1_8 a1_9 1 r1 r2 r3 r4 r5 r6 r7 r8 r9 r10 w hr0_0 h
  rw [if_neg h1] at h
  by_cases h2 : a2 = 2
  · rw [if_pos h2] at h
    subst h2
    exact exchange2.calls A0_0 c0_0 l0_0 a1_0 a1_1 a1_2 a1_3 a1_4 a1_5 a1_6 a1_7 a1_8 a1_9 2 r1 r2 r3 r4 r5 r6 r7 r8 r9 r10 w hr0_0 h
  rw [if_neg h2] at h
  by_cases h3 : a2 = 3
  · rw [if_pos h3] at h
    subst h3
    exact exchange3.calls A0_0 c0_0 l0_0 a1_0 a1_1 a1_2 a1_3 a1_4 a1_5 a1_6 a1_7 a1_8 a1_9 3 r1 r2 r3 r4 r5 r6 r7 r8 r9 r10 w hr0_0 h
  rw [if_neg h3] at h
  by_cases h4 : a2 = 4
  · rw [if_pos h4] at h
    subst h4
    exact exchange4.calls A0_0 c0_0 l0_0 a1_0 a1_1 a1_2 a1_3 a1_4 a1_5 a1_6 a1_7 a1_8 a1_9 4 r1 r2 r3 r4 r5 r6 r7 r8 r9 r10 w hr0_0 h
  rw [if_neg h4] at h
  by_cases h5 : a2 = 5
  · rw [if_pos h5] at h
    subst h5
    exact exchange5.calls A0_0 c0_0 l0_0 a1_0 a1_1 a1_2 a1_3 a1_4 a1_5 a1_6 a1_7 a1_8 a1_9 5 r1 r2 r3 r4 r5 r6 r7 r8 r9 r10 w hr0_0 h
  rw [if_neg h5] at h
  by_cases h6 : a2 = 6
  · rw [if_pos h6] at h
    subst h6
    exact exchange6.calls A0_0 c0_0 l0_0 a1_0 a1_1 a1_2 a1_3 a1_4 a1_5 a1_6 a1_7 a1_8 a1_9 6 r1 r2 r3 r4 r5 r6 r7 r8 r9 r10 w hr0_0 h
  rw [if_neg h6] at h
  by_cases h7 : a2 = 7
  · rw [if_pos h7] at h
    subst h7
    exact exchange7.calls A0_0 c0_0 l0_0 a1_0 a1_1 a1_2 a1_3 a1_4 a1_5 a1_6 a1_7 a1_8 a1_9 7 r1 r2 r3 r4 r5 r6 r7 r8 r9 r10 w hr0_0 h
  rw [if_neg h7] at h
  by_cases h8 : a2 = 8
  · rw [if_pos h8] at h
    subst h8
    exact exchange8.calls A0_0 c0_0 l0_0 a1_0 a1_1 a1_2 a1_3 a1_4 a1_5 a1_6 a1_7 a1_8 a1_9 8 r1 r2 r3 r4 r5 r6 r7 r8 r9 r10 w hr0_0 h
  rw [if_neg h8] at h
  cases h
end Go.Proofs.Ytjahclncpgllmaa.F
end

section
namespace Go.Proofs.Ytjahclncpgllmaa.F
open Go.RowKit Go.Proofs.YtjahclncpgllmaaW.PrintWords Go.Proofs.YtjahclncpgllmaaW.PrintLast Go.Proofs.YtjahclncpgllmaaW.PrintMore
attribute [local go_sem] max2_int min2_int max_two min_two max_three min_three max_four min_four
set_option linter.unusedVariables false
set_option linter.unusedSimpArgs false

/-! ### impl_Poset_evacuated: function 64 -/
mutual
def impl_Poset_evacuated.l0 : Nat → Int → List Int → Int → Int → Int → Int → Int → Int → Int → Int → Int → Int → Option (Int × Int × Int × Int × Int × Int × Int × Int × Int × Int)
  | 0, _, _, _, _, _, _, _, _, _, _, _, _ => none
  | k + 1, x5, x381000, x382000, x382001, x382002, x382003, x382004, x382005, x382006, x382007, x382008, x382009 => if x5 > 0 then (impl_Poset_evacuated.l1 k x5 x5 0 x381000 x382000 x382001 x382002 x382003 x382004 x382005 x382006 x382007 x382008 x382009) else (some (x382000, x382001, x382002, x382003, x382004, x382005, x382006, x382007, x382008, x382009))
def impl_Poset_evacuated.l1 : Nat → Int → Int → Int → List Int → Int → Int → Int → Int → Int → Int → Int → Int → Int → Int → Option (Int × Int × Int × Int × Int × Int × Int × Int × Int × Int)
  | 0, _, _, _, _, _, _, _, _, _, _, _, _, _, _ => none
  | k + 1, x5, x14, x15, x381000, x382000, x382001, x382002, x382003, x382004, x382005, x382006, x382007, x382008, x382009 => if x15 < x14 then ((impl_Poset_exchange.f x381000 x382000 x382001 x382002 x382003 x382004 x382005 x382006 x382007 x382008 x382009 x15).bind fun bt384 => (impl_Poset_evacuated.l1 k x5 x14 (wrap64 (x15 + 1)) x381000 bt384.1 bt384.2.1 bt384.2.2.1 bt384.2.2.2.1 bt384.2.2.2.2.1 bt384.2.2.2.2.2.1 bt384.2.2.2.2.2.2.1 bt384.2.2.2.2.2.2.2.1 bt384.2.2.2.2.2.2.2.2.1 bt384.2.2.2.2.2.2.2.2.2)) else (impl_Poset_evacuated.l0 k (wrap64 (x5 - 1)) x381000 x382000 x382001 x382002 x382003 x382004 x382005 x382006 x382007 x382008 x382009)
end
def impl_Poset_evacuated.f (k : Nat) (l0_0 : List Int) (a1_0 : Int) (a1_1 : Int) (a1_2 : Int) (a1_3 : Int) (a1_4 : Int) (a1_5 : Int) (a1_6 : Int) (a1_7 : Int) (a1_8 : Int) (a1_9 : Int) : Option (Int × Int × Int × Int × Int × Int × Int × Int × Int × Int) := (impl_Poset_n.f l0_0).bind fun t383 => (impl_Poset_evacuated.l0 k (wrap64 (t383 - 1)) l0_0 a1_0 a1_1 a1_2 a1_3 a1_4 a1_5 a1_6 a1_7 a1_8 a1_9)
theorem impl_Poset_evacuated.mono_l : ∀ k, (∀ y0 y1 y2 y3 y4 y5 y6 y7 y8 y9 y10 y11, LeO (impl_Poset_evacuated.l0 k y0 y1 y2 y3 y4 y5 y6 y7 y8 y9 y10 y11) (impl_Poset_evacuated.l0 (k + 1) y0 y1 y2 y3 y4 y5 y6 y7 y8 y9 y10 y11)) ∧ (∀ y0 y1 y2 y3 y4 y5 y6 y7 y8 y9 y10 y11 y12 y13, LeO (impl_Poset_evacuated.l1 k y0 y1 y2 y3 y4 y5 y6 y7 y8 y9 y10 y11 y12 y13) (impl_Poset_evacuated.l1 (k + 1) y0 y1 y2 y3 y4 y5 y6 y7 y8 y9 y10 y11 y12 y13))
  | 0 => ⟨fun _ _ _ _ _ _ _ _ _ _ _ _ r h => by simp [impl_Poset_evacuated.l0] at h, fun _ _ _ _ _ _ _ _ _ _ _ _ _ _ r h => by simp [impl_Poset_evacuated.l1] at h⟩
  | k + 1 => by
    obtain ⟨ih0, ih1⟩ := impl_Poset_evacuated.mono_l k
    refine ⟨?_, ?_⟩
    · intro y0 y1 y2 y3 y4 y5 y6 y7 y8 y9 y10 y11
      unfold impl_Poset_evacuated.l0
      repeat' first
      | (with_reducible exact ih0 _ _ _ _ _ _ _ _ _ _ _ _)
      | (with_reducible exact ih1 _ _ _ _ _ _ _ _ _ _ _ _ _ _)
      | (with_reducible exact LeO.refl _)
      | (with_reducible exact LeO.none _)
      | (with_reducible refine LeO.ite ?_ ?_)
      | (with_reducible refine LeO.bind ?_ (fun _ => ?_))
      | exact ih0 _ _ _ _ _ _ _ _ _ _ _ _
      | exact ih1 _ _ _ _ _ _ _ _ _ _ _ _ _ _
      | exact LeO.none _
      | refine LeO.ite ?_ ?_
      | refine LeO.bind ?_ (fun _ => ?_)
    · intro y0 y1 y2 y3 y4 y5 y6 y7 y8 y9 y10 y11 y12 y13
      unfold impl_Poset_evacuated.l1
      repeat' first
      | (with_reducible exact ih0 _ _ _ _ _ _ _ _ _ _ _ _)
      | (with_reducible exact ih1 _ _ _ _ _ _ _ _ _ _ _ _ _ _)
      | (with_reducible exact LeO.refl _)
      | (with_reducible exact LeO.none _)
      | (with_reducible refine LeO.ite ?_ ?_)
      | (with_reducible refine LeO.bind ?_ (fun _ => ?_))
      | exact ih0 _ _ _ _ _ _ _ _ _ _ _ _
      | exact ih1 _ _ _ _ _ _ _ _ _ _ _ _ _ _
      | exact LeO.none _
      | refine LeO.ite ?_ ?_
      | refine LeO.bind ?_ (fun _ => ?_)
theorem impl_Poset_evacuated.mono : ∀ a0 a1 a2 a3 a4 a5 a6 a7 a8 a9 a10 k, LeO (impl_Poset_evacuated.f k a0 a1 a2 a3 a4 a5 a6 a7 a8 a9 a10) (impl_Poset_evacuated.f (k + 1) a0 a1 a2 a3 a4 a5 a6 a7 a8 a9 a10) := by
  intro a0 a1 a2 a3 a4 a5 a6 a7 a8 a9 a10 k
  obtain ⟨ih0, ih1⟩ := impl_Poset_evacuated.mono_l k
  unfold impl_Poset_evacuated.f
  repeat' first
      | (with_reducible exact ih0 _ _ _ _ _ _ _ _ _ _ _ _)
      | (with_reducible exact ih1 _ _ _ _ _ _ _ _ _ _ _ _ _ _)
      | (with_reducible exact LeO.refl _)
      | (with_reducible exact LeO.none _)
      | (with_reducible refine LeO.ite ?_ ?_)
      | (with_reducible refine LeO.bind ?_ (fun _ => ?_))
      | exact ih0 _ _ _ _ _ _ _ _ _ _ _ _
      | exact ih1 _ _ _ _ _ _ _ _ _ _ _ _ _ _
      | exact LeO.none _
      | refine LeO.ite ?_ ?_
      | refine LeO.bind ?_ (fun _ => ?_)
set_option maxHeartbeats 8000000 in
set_option maxRecDepth 100000 in
theorem impl_Poset_evacuated.calls (k : Nat) (A0_0 : Option Addr) (c0_0 : Nat) (l0_0 : List Int) (a1_0 : Int) (a1_1 : Int) (a1_2 : Int) (a1_3 : Int) (a1_4 : Int) (a1_5 : Int) (a1_6 : Int) (a1_7 : Int) (a1_8 : Int) (a1_9 : Int) (r1 : Int) (r2 : Int) (r3 : Int) (r4 : Int) (r5 : Int) (r6 : Int) (r7 : Int) (r8 : Int) (r9 : Int) (r10 : Int) (w : World) (hr0_0 : Kd.C (Kd.int .i64) w A0_0 l0_0.length l0_0) (hc0_0 : l0_0.length ≤ c0_0) (h : impl_Poset_evacuated.f k l0_0 a1_0 a1_1 a1_2 a1_3 a1_4 a1_5 a1_6 a1_7 a1_8 a1_9 = some (r1, r2, r3, r4, r5, r6, r7, r8, r9, r10)) :
    Calls Try.prog 64 #[.agg #[.slice A0_0 l0_0.length c0_0], .agg #[.int .i64 a1_0, .int .i64 a1_1, .int .i64 a1_2, .int .i64 a1_3, .int .i64 a1_4, .int .i64 a1_5, .int .i64 a1_6, .int .i64 a1_7, .int .i64 a1_8, .int .i64 a1_9]] w fun e w' => e = .returned (.agg #[.int .i64 r1, .int .i64 r2, .int .i64 r3, .int .i64 r4, .int .i64 r5, .int .i64 r6, .int .i64 r7, .int .i64 r8, .int .i64 r9, .int .i64 r10]) ∧ Below w.heap.size w w' := by
  have hu28 := Try.underlying28
  have hu58 := Try.underlying58
  have HR0_0 := Aside0.mk hr0_0
  have HC0_0 := Aside0.mk hc0_0
  clear hr0_0 hc0_0
  have HB := Aside0.mk (Below.refl w.heap.size w)
  have H : ((impl_Poset_n.f l0_0).bind fun t383 => (impl_Poset_evacuated.l0 k (wrap64 (t383 - 1)) l0_0 a1_0 a1_1 a1_2 a1_3 a1_4 a1_5 a1_6 a1_7 a1_8 a1_9)) = some (r1, r2, r3, r4, r5, r6, r7, r8, r9, r10) := h
  clear h
  replace H := Option.bind_eq_some_iff.mp H
  obtain ⟨t383, A30, H⟩ := H
  replace H : (impl_Poset_evacuated.l0 k (wrap64 (t383 - 1)) l0_0 a1_0 a1_1 a1_2 a1_3 a1_4 a1_5 a1_6 a1_7 a1_8 a1_9) = some (r1, r2, r3, r4, r5, r6, r7, r8, r9, r10) := H
  have A3 := Aside0.mk A30
  clear A30
  have H' := Aside0.mk H
  clear H
  go_enter Try.func64, Try.ntmps64
  go_wp2_with (first | ((with_reducible refine gate_dst (N := 2) rfl ?_); refine box_event ?hg (N := 2) ?hd (cs := #[.slice A0_0 l0_0.length c0_0]) (t := 28) ?hr ?_; (case hd => rfl); (case hg => rfl); (case hr => first | (go_simp; done) | (go_simp; rfl)); intro gb380 hg w4 hbox hb; have n0_ := Aside0.mk (below_step (by repeat (first | (with_reducible first | exact HB.out | apply below_alloc | apply pw_below_drewN | apply below_drew1) | exact HB.out)) hb); have n1_ := Aside0.mk (hbox); have n2_ := Aside0.mk ((by rw [hg]; exact (below_size (by repeat (first | (with_reducible first | exact HB.out | apply below_alloc | apply pw_below_drewN | apply below_drew1) | exact HB.out))) : w.heap.size ≤ gb380)); have n3_ := Aside0.mk ((by rw [hg]; exact (below_size (by repeat (first | (with_reducible first | exact HB.out | apply below_alloc | apply pw_below_drewN | apply below_drew1) | exact HB.out))) : w.heap.size ≤ gb380)); clear HB; have HB := n0_; have BK380 := n1_; have GW380 := n2_; have GE380 := n3_; clear n0_ n1_ n2_ n3_; clear hb hbox hg) | ((with_reducible refine gate_dst (N := 3) rfl ?_); refine box_event ?hg (N := 3) ?hd (cs := #[.int .i64 a1_0, .int .i64 a1_1, .int .i64 a1_2, .int .i64 a1_3, .int .i64 a1_4, .int .i64 a1_5, .int .i64 a1_6, .int .i64 a1_7, .int .i64 a1_8, .int .i64 a1_9]) (t := 58) ?hr ?_; (case hd => rfl); (case hg => rfl); (case hr => first | (go_simp; done) | (go_simp; rfl)); intro gb381 hg w5 hbox hb; have n0_ := Aside0.mk (blk_below (g := gb380) (o := .cells #[.slice A0_0 l0_0.length c0_0] 28 (0, 0)) (by (with_reducible repeat (first | refine blk_drewN ?_ _ | refine blk_drew ?_ | refine blk_alloc ?_ _)); exact BK380.out) hb); have n1_ := Aside0.mk (below_step (by repeat (first | (with_reducible first | exact HB.out | apply below_alloc | apply pw_below_drewN | apply below_drew1 | refine below_set ?_ GE380.out) | exact HB.out)) hb); have n2_ := Aside0.mk (hbox); have n3_ := Aside0.mk ((by rw [hg]; exact (below_size (by repeat (first | (with_reducible first | exact HB.out | apply below_alloc | apply pw_below_drewN | apply below_drew1 | refine below_set ?_ GE380.out) | exact HB.out))) : w.heap.size ≤ gb381)); have n4_ := Aside0.mk ((by rw [hg]; exact (below_size (by repeat (first | (with_reducible first | exact HB.out | apply below_alloc | apply pw_below_drewN | apply below_drew1 | refine below_set ?_ GE380.out) | exact HB.out))) : w.heap.size ≤ gb381)); have n5_ := Aside0.mk ((by rw [hg]; exact Nat.ne_of_lt (blk_lt (g := gb380) (o := .cells #[.slice A0_0 l0_0.length c0_0] 28 (0, 0)) (by (with_reducible repeat (first | refine blk_drewN ?_ _ | refine blk_drew ?_ | refine blk_alloc ?_ _)); exact BK380.out)) : gb380 ≠ gb381)); have n6_ := Aside0.mk ((by rw [hg]; exact Nat.ne_of_gt (blk_lt (g := gb380) (o := .cells #[.slice A0_0 l0_0.length c0_0] 28 (0, 0)) (by (with_reducible repeat (first | refine blk_drewN ?_ _ | refine blk_drew ?_ | refine blk_alloc ?_ _)); exact BK380.out)) : gb381 ≠ gb380)); clear BK380; clear HB; have BK380 := n0_; have HB := n1_; have BK381 := n2_; have GW381 := n3_; have GE381 := n4_; have NB380_381 := n5_; have NB381_380 := n6_; clear n0_ n1_ n2_ n3_ n4_ n5_ n6_; clear hb hbox hg) | ((with_reducible refine gate_dst (N := 4) rfl ?_); refine box_event ?hg (N := 4) ?hd (cs := #[.int .i64 0, .int .i64 0, .int .i64 0, .int .i64 0, .int .i64 0, .int .i64 0, .int .i64 0, .int .i64 0, .int .i64 0, .int .i64 0]) (t := 58) ?hr ?_; (case hd => rfl); (case hg => rfl); (case hr => first | (go_simp; done) | (go_simp; rfl)); intro gb382 hg w6 hbox hb; have n0_ := Aside0.mk (blk_below (g := gb380) (o := .cells #[.slice A0_0 l0_0.length c0_0] 28 (0, 0)) (by (with_reducible repeat (first | refine blk_drewN ?_ _ | refine blk_drew ?_ | refine blk_alloc ?_ _)); exact BK380.out) hb); have n1_ := Aside0.mk (blk_below (g := gb381) (o := .cells #[.int .i64 a1_0, .int .i64 a1_1, .int .i64 a1_2, .int .i64 a1_3, .int .i64 a1_4, .int .i64 a1_5, .int .i64 a1_6, .int .i64 a1_7, .int .i64 a1_8, .int .i64 a1_9] 58 (0, 0)) (by (with_reducible repeat (first | refine blk_drewN ?_ _ | refine blk_drew ?_ | refine blk_alloc ?_ _)); exact BK381.out) hb); have n2_ := Aside0.mk (below_step (by repeat (first | (with_reducible first | exact HB.out | apply below_alloc | apply pw_below_drewN | apply below_drew1 | refine below_set ?_ GE380.out | refine below_set ?_ GE381.out) | exact HB.out)) hb); have n3_ := Aside0.mk (hbox); have n4_ := Aside0.mk ((by rw [hg]; exact (below_size (by repeat (first | (with_reducible first | exact HB.out | apply below_alloc | apply pw_below_drewN | apply below_drew1 | refine below_set ?_ GE380.out | refine below_set ?_ GE381.out) | exact HB.out))) : w.heap.size ≤ gb382)); have n5_ := Aside0.mk ((by rw [hg]; exact (below_size (by repeat (first | (with_reducible first | exact HB.out | apply below_alloc | apply pw_below_drewN | apply below_drew1 | refine below_set ?_ GE380.out | refine below_set ?_ GE381.out) | exact HB.out))) : w.heap.size ≤ gb382)); have n6_ := Aside0.mk ((by rw [hg]; exact Nat.ne_of_lt (blk_lt (g := gb380) (o := .cells #[.slice A0_0 l0_0.length c0_0] 28 (0, 0)) (by (with_reducible repeat (first | refine blk_drewN ?_ _ | refine blk_drew ?_ | refine blk_alloc ?_ _)); exact BK380.out)) : gb380 ≠ gb382)); have n7_ := Aside0.mk ((by rw [hg]; exact Nat.ne_of_gt (blk_lt (g := gb380) (o := .cells #[.slice A0_0 l0_0.length c0_0] 28 (0, 0)) (by (with_reducible repeat (first | refine blk_drewN ?_ _ | refine blk_drew ?_ | refine blk_alloc ?_ _)); exact BK380.out)) : gb382 ≠ gb380)); have n8_ := Aside0.mk ((by rw [hg]; exact Nat.ne_of_lt (blk_lt (g := gb381) (o := .cells #[.int .i64 a1_0, .int .i64 a1_1, .int .i64 a1_2, .int .i64 a1_3, .int .i64 a1_4, .int .i64 a1_5, .int .i64 a1_6, .int .i64 a1_7, .int .i64 a1_8, .int .i64 a1_9] 58 (0, 0)) (by (with_reducible repeat (first | refine blk_drewN ?_ _ | refine blk_drew ?_ | refine blk_alloc ?_ _)); exact BK381.out)) : gb381 ≠ gb382)); have n9_ := Aside0.mk ((by rw [hg]; exact Nat.ne_of_gt (blk_lt (g := gb381) (o := .cells #[.int .i64 a1_0, .int .i64 a1_1, .int .i64 a1_2, .int .i64 a1_3, .int .i64 a1_4, .int .i64 a1_5, .int .i64 a1_6, .int .i64 a1_7, .int .i64 a1_8, .int .i64 a1_9] 58 (0, 0)) (by (with_reducible repeat (first | refine blk_drewN ?_ _ | refine blk_drew ?_ | refine blk_alloc ?_ _)); exact BK381.out)) : gb382 ≠ gb381)); clear BK380; clear BK381; clear HB; have BK380 := n0_; have BK381 := n1_; have HB := n2_; have BK382 := n3_; have GW382 := n4_; have GE382 := n5_; have NB380_382 := n6_; have NB382_380 := n7_; have NB381_382 := n8_; have NB382_381 := n9_; clear n0_ n1_ n2_ n3_ n4_ n5_ n6_ n7_ n8_ n9_; clear hb hbox hg; have hnb7 := NB380_381.out; have hnc7 := NB381_380.out; have hnb8 := NB380_382.out; have hnc8 := NB382_380.out; have hcz9_0 : w6.cell? ⟨gb380, 0, none⟩ = some (.slice A0_0 l0_0.length c0_0) := (blk_cell BK380.out 0).trans rfl; have hfz9_0 := blk_frozen BK380.out 0) | ((with_reducible refine gate_callee (f := 58) rfl ?_); refine goesL_ (some 8) rfl rfl Try.func58 (by kernel_rfl) rfl #[.agg #[.slice A0_0 l0_0.length c0_0]] rfl (by (try simp only [List.map_toArray, List.map_cons, List.map_nil]); first | done | rfl | (simp only [List.length_drop, List.length_take]; rfl)) ?_; (with_reducible refine (impl_Poset_n.calls _ _ l0_0 t383 _ ?side1 ?side2 A3.out).mono ?_); (case side1 => repeat (first | exact (Kd.C_below HR0_0.out HB.out) | (with_reducible refine Kd.C_alloc ?_ _) | (with_reducible refine Kd.C_drewN ?_ _) | (with_reducible refine Kd.C_drew ?_))); (case side2 => exact HC0_0.out); rintro e w10 ⟨rfl, hb⟩; refine ⟨_, rfl, ?_⟩; have n0_ := Aside0.mk (blk_below (g := gb380) (o := .cells #[.slice A0_0 l0_0.length c0_0] 28 (0, 0)) (by (with_reducible repeat (first | refine blk_drewN ?_ _ | refine blk_drew ?_ | refine blk_alloc ?_ _)); exact BK380.out) hb); have n1_ := Aside0.mk (blk_below (g := gb381) (o := .cells #[.int .i64 a1_0, .int .i64 a1_1, .int .i64 a1_2, .int .i64 a1_3, .int .i64 a1_4, .int .i64 a1_5, .int .i64 a1_6, .int .i64 a1_7, .int .i64 a1_8, .int .i64 a1_9] 58 (0, 0)) (by (with_reducible repeat (first | refine blk_drewN ?_ _ | refine blk_drew ?_ | refine blk_alloc ?_ _)); exact BK381.out) hb); have n2_ := Aside0.mk (blk_below (g := gb382) (o := .cells #[.int .i64 0, .int .i64 0, .int .i64 0, .int .i64 0, .int .i64 0, .int .i64 0, .int .i64 0, .int .i64 0, .int .i64 0, .int .i64 0] 58 (0, 0)) (by (with_reducible repeat (first | refine blk_drewN ?_ _ | refine blk_drew ?_ | refine blk_alloc ?_ _)); exact BK382.out) hb); have n3_ := Aside0.mk (below_step (by repeat (first | (with_reducible first | exact HB.out | apply below_alloc | apply pw_below_drewN | apply below_drew1 | refine below_set ?_ GE380.out | refine below_set ?_ GE381.out | refine below_set ?_ GE382.out) | exact HB.out)) hb); clear BK380; clear BK381; clear BK382; clear HB; have BK380 := n0_; have BK381 := n1_; have BK382 := n2_; have HB := n3_; clear n0_ n1_ n2_ n3_; (try clear hb); (try clear hb2); (try clear hk); (try clear hi)))
  go_loopg [5] k (fun kq v5 w' => ∃ (x5_1 : Int) (x382000_1 : Int) (x382001_1 : Int) (x382002_1 : Int) (x382003_1 : Int) (x382004_1 : Int) (x382005_1 : Int) (x382006_1 : Int) (x382007_1 : Int) (x382008_1 : Int) (x382009_1 : Int), v5 = .int .i64 x5_1 ∧ Aside0 (impl_Poset_evacuated.l0 kq x5_1 l0_0 x382000_1 x382001_1 x382002_1 x382003_1 x382004_1 x382005_1 x382006_1 x382007_1 x382008_1 x382009_1 = some (r1, r2, r3, r4, r5, r6, r7, r8, r9, r10)) ∧ Aside0 (kq ≤ k) ∧ Aside0 (w'.heap[gb380]? = some (.cells #[(.slice A0_0 l0_0.length c0_0)] 28 (0, 0))) ∧ Aside0 (w'.heap[gb381]? = some (.cells #[.int .i64 x382000_1, .int .i64 x382001_1, .int .i64 x382002_1, .int .i64 x382003_1, .int .i64 x382004_1, .int .i64 x382005_1, .int .i64 x382006_1, .int .i64 x382007_1, .int .i64 x382008_1, .int .i64 x382009_1] 58 (0, 0))) ∧ Aside0 (w'.heap[gb382]? = some (.cells #[.int .i64 0, .int .i64 0, .int .i64 0, .int .i64 0, .int .i64 0, .int .i64 0, .int .i64 0, .int .i64 0, .int .i64 0, .int .i64 0] 58 (0, 0))) ∧ Aside0 (Below w.heap.size w w'))
  case atStart => exact ⟨(wrap64 (t383 - 1)), (a1_0), (a1_1), (a1_2), (a1_3), (a1_4), (a1_5), (a1_6), (a1_7), (a1_8), (a1_9), (by first | rfl | (simp; done) | (simp [*]; done)), H', ⟨Nat.le_refl _⟩, ⟨by (with_reducible repeat (first | refine blk_drewN ?_ _ | refine blk_drew ?_ | refine blk_alloc ?_ _)); exact BK380.out⟩, ⟨by (with_reducible repeat (first | refine blk_drewN ?_ _ | refine blk_drew ?_ | refine blk_alloc ?_ _)); exact BK381.out⟩, ⟨by (with_reducible repeat (first | refine blk_drewN ?_ _ | refine blk_drew ?_ | refine blk_alloc ?_ _)); exact BK382.out⟩, ⟨by repeat (first | (with_reducible first | exact HB.out | apply below_alloc | apply pw_below_drewN | apply below_drew1 | refine below_set ?_ GE380.out | refine below_set ?_ GE381.out | refine below_set ?_ GE382.out) | exact HB.out)⟩⟩
  case round =>
    clear H'
    try clear p2
    try clear c5
    try clear c6
    try clear p6
    try clear c7
    try clear c8
    try clear hcz9_0
    try clear hfz9_0
    obtain ⟨x5_1, x382000_1, x382001_1, x382002_1, x382003_1, x382004_1, x382005_1, x382006_1, x382007_1, x382008_1, x382009_1, rfl, HA, HK1, BK380, BK381, BK382, HB⟩ := hrel
    cases gk with
    | zero => exact absurd HA.out (by simp [impl_Poset_evacuated.l0])
    | succ k1 =>
      have H := HA.out
      clear HA
      simp only [impl_Poset_evacuated.l0] at H
      by_cases c11 : x5_1 > 0
      · rw [if_pos c11] at H
        have c11b0 : decide (0 < x5_1) = true := decide_eq_true c11
        clear c11
        have H' := Aside0.mk H
        clear H
        go_wp2
        go_loopg [15] k1 (fun kq v15 w' => ∃ (x15_2 : Int) (x382000_2 : Int) (x382001_2 : Int) (x382002_2 : Int) (x382003_2 : Int) (x382004_2 : Int) (x382005_2 : Int) (x382006_2 : Int) (x382007_2 : Int) (x382008_2 : Int) (x382009_2 : Int), v15 = .int .i64 x15_2 ∧ Aside0 (impl_Poset_evacuated.l1 kq x5_1 x5_1 x15_2 l0_0 x382000_2 x382001_2 x382002_2 x382003_2 x382004_2 x382005_2 x382006_2 x382007_2 x382008_2 x382009_2 = some (r1, r2, r3, r4, r5, r6, r7, r8, r9, r10)) ∧ Aside0 (kq ≤ k1) ∧ Aside0 (w'.heap[gb380]? = some (.cells #[(.slice A0_0 l0_0.length c0_0)] 28 (0, 0))) ∧ Aside0 (w'.heap[gb381]? = some (.cells #[.int .i64 x382000_2, .int .i64 x382001_2, .int .i64 x382002_2, .int .i64 x382003_2, .int .i64 x382004_2, .int .i64 x382005_2, .int .i64 x382006_2, .int .i64 x382007_2, .int .i64 x382008_2, .int .i64 x382009_2] 58 (0, 0))) ∧ Aside0 (w'.heap[gb382]? = some (.cells #[.int .i64 0, .int .i64 0, .int .i64 0, .int .i64 0, .int .i64 0, .int .i64 0, .int .i64 0, .int .i64 0, .int .i64 0, .int .i64 0] 58 (0, 0))) ∧ Aside0 (Below w.heap.size w w'))
        case atStart => exact ⟨(0), (x382000_1), (x382001_1), (x382002_1), (x382003_1), (x382004_1), (x382005_1), (x382006_1), (x382007_1), (x382008_1), (x382009_1), (by first | rfl | (simp; done) | (simp [*]; done)), H', ⟨Nat.le_refl _⟩, ⟨by (with_reducible repeat (first | refine blk_drewN ?_ _ | refine blk_drew ?_ | refine blk_alloc ?_ _)); exact BK380.out⟩, ⟨by (with_reducible repeat (first | refine blk_drewN ?_ _ | refine blk_drew ?_ | refine blk_alloc ?_ _)); exact BK381.out⟩, ⟨by (with_reducible repeat (first | refine blk_drewN ?_ _ | refine blk_drew ?_ | refine blk_alloc ?_ _)); exact BK382.out⟩, ⟨by repeat (first | (with_reducible first | exact HB.out | apply below_alloc | apply pw_below_drewN | apply below_drew1 | refine below_set ?_ GE380.out | refine below_set ?_ GE381.out | refine below_set ?_ GE382.out) | exact HB.out)⟩⟩
        case round =>
          clear H'
          try clear c1
          try clear p2
          try clear c5
          try clear c6
          try clear p6
          try clear c7
          try clear c8
          try clear c11
          try clear c11b0
          try clear hcz9_0
          try clear hfz9_0
          try clear p2
          try clear p6
          obtain ⟨x15_2, x382000_2, x382001_2, x382002_2, x382003_2, x382004_2, x382005_2, x382006_2, x382007_2, x382008_2, x382009_2, rfl, HA, HK2, BK380, BK381, BK382, HB⟩ := hrel
          cases gk with
          | zero => exact absurd HA.out (by simp [impl_Poset_evacuated.l1])
          | succ k2 =>
            have H := HA.out
            clear HA
            simp only [impl_Poset_evacuated.l1] at H
            by_cases c12 : x15_2 < x5_1
            · rw [if_pos c12] at H
              have c12b0 : decide (x15_2 < x5_1) = true := decide_eq_true c12
              clear c12
              replace H := Option.bind_eq_some_iff.mp H
              obtain ⟨⟨t384, t385, t386, t387, t388, t389, t390, t391, t392, t393⟩, A130, H⟩ := H
              replace H : (impl_Poset_evacuated.l1 k2 x5_1 x5_1 (wrap64 (x15_2 + 1)) l0_0 t384 t385 t386 t387 t388 t389 t390 t391 t392 t393) = some (r1, r2, r3, r4, r5, r6, r7, r8, r9, r10) := H
              have A13 := Aside0.mk A130
              clear A130
              have H' := Aside0.mk H
              clear H
              have hnb14 := NB380_381.out
              have hnc14 := NB381_380.out
              have hnb15 := NB380_382.out
              have hnc15 := NB382_380.out
              have hcz16_0 : wr.cell? ⟨gb380, 0, none⟩ = some (.slice A0_0 l0_0.length c0_0) := (blk_cell BK380.out 0).trans rfl
              have hfz16_0 := blk_frozen BK380.out 0
              have hnb17 := NB381_382.out
              have hnc17 := NB382_381.out
              have hcz18_0 : wr.cell? ⟨gb381, 0, none⟩ = some (.int .i64 x382000_2) := (blk_cell BK381.out 0).trans rfl
              have hcz18_1 : wr.cell? ⟨gb381, 1, none⟩ = some (.int .i64 x382001_2) := (blk_cell BK381.out 1).trans rfl
              have hcz18_2 : wr.cell? ⟨gb381, 2, none⟩ = some (.int .i64 x382002_2) := (blk_cell BK381.out 2).trans rfl
              have hcz18_3 : wr.cell? ⟨gb381, 3, none⟩ = some (.int .i64 x382003_2) := (blk_cell BK381.out 3).trans rfl
              have hcz18_4 : wr.cell? ⟨gb381, 4, none⟩ = some (.int .i64 x382004_2) := (blk_cell BK381.out 4).trans rfl
              have hcz18_5 : wr.cell? ⟨gb381, 5, none⟩ = some (.int .i64 x382005_2) := (blk_cell BK381.out 5).trans rfl
              have hcz18_6 : wr.cell? ⟨gb381, 6, none⟩ = some (.int .i64 x382006_2) := (blk_cell BK381.out 6).trans rfl
              have hcz18_7 : wr.cell? ⟨gb381, 7, none⟩ = some (.int .i64 x382007_2) := (blk_cell BK381.out 7).trans rfl
              have hcz18_8 : wr.cell? ⟨gb381, 8, none⟩ = some (.int .i64 x382008_2) := (blk_cell BK381.out 8).trans rfl
              have hcz18_9 : wr.cell? ⟨gb381, 9, none⟩ = some (.int .i64 x382009_2) := (blk_cell BK381.out 9).trans rfl
              have hfz18_0 := blk_frozen BK381.out 0
              have hfz18_1 := blk_frozen BK381.out 1
              have hfz18_2 := blk_frozen BK381.out 2
              have hfz18_3 := blk_frozen BK381.out 3
              have hfz18_4 := blk_frozen BK381.out 4
              have hfz18_5 := blk_frozen BK381.out 5
              have hfz18_6 := blk_frozen BK381.out 6
              have hfz18_7 := blk_frozen BK381.out 7
              have hfz18_8 := blk_frozen BK381.out 8
              have hfz18_9 := blk_frozen BK381.out 9
              go_wp2_with (first | ((with_reducible refine gate_callee (f := 59) rfl ?_); refine goesL_ (some 21) rfl rfl Try.func59 (by kernel_rfl) rfl #[.agg #[.slice A0_0 l0_0.length c0_0], .agg #[.int .i64 x382000_2, .int .i64 x382001_2, .int .i64 x382002_2, .int .i64 x382003_2, .int .i64 x382004_2, .int .i64 x382005_2, .int .i64 x382006_2, .int .i64 x382007_2, .int .i64 x382008_2, .int .i64 x382009_2], .int .i64 x15_2] rfl (by (try simp only [List.map_toArray, List.map_cons, List.map_nil]); first | done | rfl | (simp only [List.length_drop, List.length_take]; rfl)) ?_; (with_reducible refine (impl_Poset_exchange.calls _ _ l0_0 x382000_2 x382001_2 x382002_2 x382003_2 x382004_2 x382005_2 x382006_2 x382007_2 x382008_2 x382009_2 x15_2 t384 t385 t386 t387 t388 t389 t390 t391 t392 t393 _ ?side1 ?side2 A13.out).mono ?_); (case side1 => repeat (first | exact (Kd.C_below HR0_0.out HB.out) | (with_reducible refine Kd.C_alloc ?_ _) | (with_reducible refine Kd.C_drewN ?_ _) | (with_reducible refine Kd.C_drew ?_))); (case side2 => exact HC0_0.out); rintro e w19 ⟨rfl, hb⟩; refine ⟨_, rfl, ?_⟩; have n0_ := Aside0.mk (blk_below (g := gb380) (o := .cells #[.slice A0_0 l0_0.length c0_0] 28 (0, 0)) (by (with_reducible repeat (first | refine blk_drewN ?_ _ | refine blk_drew ?_ | refine blk_alloc ?_ _)); exact BK380.out) hb); have n1_ := Aside0.mk (blk_below (g := gb381) (o := .cells #[.int .i64 x382000_2, .int .i64 x382001_2, .int .i64 x382002_2, .int .i64 x382003_2, .int .i64 x382004_2, .int .i64 x382005_2, .int .i64 x382006_2, .int .i64 x382007_2, .int .i64 x382008_2, .int .i64 x382009_2] 58 (0, 0)) (by (with_reducible repeat (first | refine blk_drewN ?_ _ | refine blk_drew ?_ | refine blk_alloc ?_ _)); exact BK381.out) hb); have n2_ := Aside0.mk (blk_below (g := gb382) (o := .cells #[.int .i64 0, .int .i64 0, .int .i64 0, .int .i64 0, .int .i64 0, .int .i64 0, .int .i64 0, .int .i64 0, .int .i64 0, .int .i64 0] 58 (0, 0)) (by (with_reducible repeat (first | refine blk_drewN ?_ _ | refine blk_drew ?_ | refine blk_alloc ?_ _)); exact BK382.out) hb); have n3_ := Aside0.mk (below_step (by repeat (first | (with_reducible first | exact HB.out | apply below_alloc | apply pw_below_drewN | apply below_drew1 | refine below_set ?_ GE380.out | refine below_set ?_ GE381.out | refine below_set ?_ GE382.out) | exact HB.out)) hb); clear BK380; clear BK381; clear BK382; clear HB; have BK380 := n0_; have BK381 := n1_; have BK382 := n2_; have HB := n3_; clear n0_ n1_ n2_ n3_; (try clear hb); (try clear hb2); (try clear hk); (try clear hi); have hcz20_0 : w19.cell? ⟨gb381, 0, none⟩ = some (.int .i64 x382000_2) := (blk_cell BK381.out 0).trans rfl; have hcz20_1 : w19.cell? ⟨gb381, 1, none⟩ = some (.int .i64 x382001_2) := (blk_cell BK381.out 1).trans rfl; have hcz20_2 : w19.cell? ⟨gb381, 2, none⟩ = some (.int .i64 x382002_2) := (blk_cell BK381.out 2).trans rfl; have hcz20_3 : w19.cell? ⟨gb381, 3, none⟩ = some (.int .i64 x382003_2) := (blk_cell BK381.out 3).trans rfl; have hcz20_4 : w19.cell? ⟨gb381, 4, none⟩ = some (.int .i64 x382004_2) := (blk_cell BK381.out 4).trans rfl; have hcz20_5 : w19.cell? ⟨gb381, 5, none⟩ = some (.int .i64 x382005_2) := (blk_cell BK381.out 5).trans rfl; have hcz20_6 : w19.cell? ⟨gb381, 6, none⟩ = some (.int .i64 x382006_2) := (blk_cell BK381.out 6).trans rfl; have hcz20_7 : w19.cell? ⟨gb381, 7, none⟩ = some (.int .i64 x382007_2) := (blk_cell BK381.out 7).trans rfl; have hcz20_8 : w19.cell? ⟨gb381, 8, none⟩ = some (.int .i64 x382008_2) := (blk_cell BK381.out 8).trans rfl; have hcz20_9 : w19.cell? ⟨gb381, 9, none⟩ = some (.int .i64 x382009_2) := (blk_cell BK381.out 9).trans rfl; have hfz20_0 := blk_frozen BK381.out 0; have hfz20_1 := blk_frozen BK381.out 1; have hfz20_2 := blk_frozen BK381.out 2; have hfz20_3 := blk_frozen BK381.out 3; have hfz20_4 := blk_frozen BK381.out 4; have hfz20_5 := blk_frozen BK381.out 5; have hfz20_6 := blk_frozen BK381.out 6; have hfz20_7 := blk_frozen BK381.out 7; have hfz20_8 := blk_frozen BK381.out 8; have hfz20_9 := blk_frozen BK381.out 9))
              go_roundg k2
              case measure => have := HK1.out; have := HK2.out; omega
              case rel => exact ⟨(wrap64 (x15_2 + 1)), (t384), (t385), (t386), (t387), (t388), (t389), (t390), (t391), (t392), (t393), (by first | rfl | (simp; done) | (simp [*]; done)), H', ⟨by have := HK1.out; have := HK2.out; omega⟩, ⟨by (with_reducible repeat (first | refine blk_drewN ?_ _ | refine blk_drew ?_ | refine blk_alloc ?_ _)); refine blk_far ?_ NB380_381.out _; (with_reducible repeat (first | refine blk_drewN ?_ _ | refine blk_drew ?_ | refine blk_alloc ?_ _)); refine blk_far ?_ NB380_381.out _; (with_reducible repeat (first | refine blk_drewN ?_ _ | refine blk_drew ?_ | refine blk_alloc ?_ _)); refine blk_far ?_ NB380_381.out _; (with_reducible repeat (first | refine blk_drewN ?_ _ | refine blk_drew ?_ | refine blk_alloc ?_ _)); refine blk_far ?_ NB380_381.out _; (with_reducible repeat (first | refine blk_drewN ?_ _ | refine blk_drew ?_ | refine blk_alloc ?_ _)); refine blk_far ?_ NB380_381.out _; (with_reducible repeat (first | refine blk_drewN ?_ _ | refine blk_drew ?_ | refine blk_alloc ?_ _)); refine blk_far ?_ NB380_381.out _; (with_reducible repeat (first | refine blk_drewN ?_ _ | refine blk_drew ?_ | refine blk_alloc ?_ _)); refine blk_far ?_ NB380_381.out _; (with_reducible repeat (first | refine blk_drewN ?_ _ | refine blk_drew ?_ | refine blk_alloc ?_ _)); refine blk_far ?_ NB380_381.out _; (with_reducible repeat (first | refine blk_drewN ?_ _ | refine blk_drew ?_ | refine blk_alloc ?_ _)); refine blk_far ?_ NB380_381.out _; (with_reducible repeat (first | refine blk_drewN ?_ _ | refine blk_drew ?_ | refine blk_alloc ?_ _)); refine blk_far ?_ NB380_381.out _; (with_reducible repeat (first | refine blk_drewN ?_ _ | refine blk_drew ?_ | refine blk_alloc ?_ _)); exact BK380.out⟩, ⟨by (with_reducible repeat (first | refine blk_drewN ?_ _ | refine blk_drew ?_ | refine blk_alloc ?_ _)); refine blk_put (cs := #[.int .i64 t384, .int .i64 t385, .int .i64 t386, .int .i64 t387, .int .i64 t388, .int .i64 t389, .int .i64 t390, .int .i64 t391, .int .i64 t392, .int .i64 x382009_2]) ?_ 9 _ rfl; (with_reducible repeat (first | refine blk_drewN ?_ _ | refine blk_drew ?_ | refine blk_alloc ?_ _)); refine blk_put (cs := #[.int .i64 t384, .int .i64 t385, .int .i64 t386, .int .i64 t387, .int .i64 t388, .int .i64 t389, .int .i64 t390, .int .i64 t391, .int .i64 x382008_2, .int .i64 x382009_2]) ?_ 8 _ rfl; (with_reducible repeat (first | refine blk_drewN ?_ _ | refine blk_drew ?_ | refine blk_alloc ?_ _)); refine blk_put (cs := #[.int .i64 t384, .int .i64 t385, .int .i64 t386, .int .i64 t387, .int .i64 t388, .int .i64 t389, .int .i64 t390, .int .i64 x382007_2, .int .i64 x382008_2, .int .i64 x382009_2]) ?_ 7 _ rfl; (with_reducible repeat (first | refine blk_drewN ?_ _ | refine blk_drew ?_ | refine blk_alloc ?_ _)); refine blk_put (cs := #[.int .i64 t384, .int .i64 t385, .int .i64 t386, .int .i64 t387, .int .i64 t388, .int .i64 t389, .int .i64 x382006_2, .int .i64 x382007_2, .int .i64 x382008_2, .int .i64 x382009_2]) ?_ 6 _ rfl; (with_reducible repeat (first | refine blk_drewN ?_ _ | refine blk_drew ?_ | refine blk_alloc ?_ _)); refine blk_put (cs := #[.int .i64 t384, .int .i64 t385, .int .i64 t386, .int .i64 t387, .int .i64 t388, .int .i64 x382005_2, .int .i64 x382006_2, .int .i64 x382007_2, .int .i64 x382008_2, .int .i64 x382009_2]) ?_ 5 _ rfl; (with_reducible repeat (first | refine blk_drewN ?_ _ | refine blk_drew ?_ | refine blk_alloc ?_ _)); refine blk_put (cs := #[.int .i64 t384, .int .i64 t385, .int .i64 t386, .int .i64 t387, .int .i64 x382004_2, .int .i64 x382005_2, .int .i64 x382006_2, .int .i64 x382007_2, .int .i64 x382008_2, .int .i64 x382009_2]) ?_ 4 _ rfl; (with_reducible repeat (first | refine blk_drewN ?_ _ | refine blk_drew ?_ | refine blk_alloc ?_ _)); refine blk_put (cs := #[.int .i64 t384, .int .i64 t385, .int .i64 t386, .int .i64 x382003_2, .int .i64 x382004_2, .int .i64 x382005_2, .int .i64 x382006_2, .int .i64 x382007_2, .int .i64 x382008_2, .int .i64 x382009_2]) ?_ 3 _ rfl; (with_reducible repeat (first | refine blk_drewN ?_ _ | refine blk_drew ?_ | refine blk_alloc ?_ _)); refine blk_put (cs := #[.int .i64 t384, .int .i64 t385, .int .i64 x382002_2, .int .i64 x382003_2, .int .i64 x382004_2, .int .i64 x382005_2, .int .i64 x382006_2, .int .i64 x382007_2, .int .i64 x382008_2, .int .i64 x382009_2]) ?_ 2 _ rfl; (with_reducible repeat (first | refine blk_drewN ?_ _ | refine blk_drew ?_ | refine blk_alloc ?_ _)); refine blk_put (cs := #[.int .i64 t384, .int .i64 x382001_2, .int .i64 x382002_2, .int .i64 x382003_2, .int .i64 x382004_2, .int .i64 x382005_2, .int .i64 x382006_2, .int .i64 x382007_2, .int .i64 x382008_2, .int .i64 x382009_2]) ?_ 1 _ rfl; (with_reducible repeat (first | refine blk_drewN ?_ _ | refine blk_drew ?_ | refine blk_alloc ?_ _)); refine blk_put (cs := #[.int .i64 x382000_2, .int .i64 x382001_2, .int .i64 x382002_2, .int .i64 x382003_2, .int .i64 x382004_2, .int .i64 x382005_2, .int .i64 x382006_2, .int .i64 x382007_2, .int .i64 x382008_2, .int .i64 x382009_2]) ?_ 0 _ rfl; (with_reducible repeat (first | refine blk_drewN ?_ _ | refine blk_drew ?_ | refine blk_alloc ?_ _)); exact BK381.out⟩, ⟨by (with_reducible repeat (first | refine blk_drewN ?_ _ | refine blk_drew ?_ | refine blk_alloc ?_ _)); refine blk_far ?_ NB382_381.out _; (with_reducible repeat (first | refine blk_drewN ?_ _ | refine blk_drew ?_ | refine blk_alloc ?_ _)); refine blk_far ?_ NB382_381.out _; (with_reducible repeat (first | refine blk_drewN ?_ _ | refine blk_drew ?_ | refine blk_alloc ?_ _)); refine blk_far ?_ NB382_381.out _; (with_reducible repeat (first | refine blk_drewN ?_ _ | refine blk_drew ?_ | refine blk_alloc ?_ _)); refine blk_far ?_ NB382_381.out _; (with_reducible repeat (first | refine blk_drewN ?_ _ | refine blk_drew ?_ | refine blk_alloc ?_ _)); refine blk_far ?_ NB382_381.out _; (with_reducible repeat (first | refine blk_drewN ?_ _ | refine blk_drew ?_ | refine blk_alloc ?_ _)); refine blk_far ?_ NB382_381.out _; (with_reducible repeat (first | refine blk_drewN ?_ _ | refine blk_drew ?_ | refine blk_alloc ?_ _)); refine blk_far ?_ NB382_381.out _; (with_reducible repeat (first | refine blk_drewN ?_ _ | refine blk_drew ?_ | refine blk_alloc ?_ _)); refine blk_far ?_ NB382_381.out _; (with_reducible repeat (first | refine blk_drewN ?_ _ | refine blk_drew ?_ | refine blk_alloc ?_ _)); refine blk_far ?_ NB382_381.out _; (with_reducible repeat (first | refine blk_drewN ?_ _ | refine blk_drew ?_ | refine blk_alloc ?_ _)); refine blk_far ?_ NB382_381.out _; (with_reducible repeat (first | refine blk_drewN ?_ _ | refine blk_drew ?_ | refine blk_alloc ?_ _)); exact BK382.out⟩, ⟨by repeat (first | (with_reducible first | exact HB.out | apply below_alloc | apply pw_below_drewN | apply below_drew1 | refine below_set ?_ GE380.out | refine below_set ?_ GE381.out | refine below_set ?_ GE382.out) | exact HB.out)⟩⟩
            · rw [if_neg c12] at H
              have c12b0 : decide (x15_2 < x5_1) = false := decide_eq_false c12
              clear c12
              have H' := Aside0.mk H
              clear H
              go_wp2
              go_roundg k2
              case measure => have := HK1.out; have := HK2.out; omega
              case rel => exact ⟨(wrap64 (x5_1 - 1)), (x382000_2), (x382001_2), (x382002_2), (x382003_2), (x382004_2), (x382005_2), (x382006_2), (x382007_2), (x382008_2), (x382009_2), (by first | rfl | (simp; done) | (simp [*]; done)), H', ⟨by have := HK1.out; have := HK2.out; omega⟩, ⟨by (with_reducible repeat (first | refine blk_drewN ?_ _ | refine blk_drew ?_ | refine blk_alloc ?_ _)); exact BK380.out⟩, ⟨by (with_reducible repeat (first | refine blk_drewN ?_ _ | refine blk_drew ?_ | refine blk_alloc ?_ _)); exact BK381.out⟩, ⟨by (with_reducible repeat (first | refine blk_drewN ?_ _ | refine blk_drew ?_ | refine blk_alloc ?_ _)); exact BK382.out⟩, ⟨by repeat (first | (with_reducible first | exact HB.out | apply below_alloc | apply pw_below_drewN | apply below_drew1 | refine below_set ?_ GE380.out | refine below_set ?_ GE381.out | refine below_set ?_ GE382.out) | exact HB.out)⟩⟩
      · rw [if_neg c11] at H
        have c11b0 : decide (0 < x5_1) = false := decide_eq_false c11
        clear c11
        simp only [Option.some.injEq, Prod.mk.injEq] at H
        obtain ⟨rfl, rfl, rfl, rfl, rfl, rfl, rfl, rfl, rfl, rfl⟩ := H
        have hnb21 := NB381_380.out
        have hnc21 := NB380_381.out
        have hnb22 := NB381_382.out
        have hnc22 := NB382_381.out
        have hcz23_0 : wr.cell? ⟨gb381, 0, none⟩ = some (.int .i64 x382000_1) := (blk_cell BK381.out 0).trans rfl
        have hcz23_1 : wr.cell? ⟨gb381, 1, none⟩ = some (.int .i64 x382001_1) := (blk_cell BK381.out 1).trans rfl
        have hcz23_2 : wr.cell? ⟨gb381, 2, none⟩ = some (.int .i64 x382002_1) := (blk_cell BK381.out 2).trans rfl
        have hcz23_3 : wr.cell? ⟨gb381, 3, none⟩ = some (.int .i64 x382003_1) := (blk_cell BK381.out 3).trans rfl
        have hcz23_4 : wr.cell? ⟨gb381, 4, none⟩ = some (.int .i64 x382004_1) := (blk_cell BK381.out 4).trans rfl
        have hcz23_5 : wr.cell? ⟨gb381, 5, none⟩ = some (.int .i64 x382005_1) := (blk_cell BK381.out 5).trans rfl
        have hcz23_6 : wr.cell? ⟨gb381, 6, none⟩ = some (.int .i64 x382006_1) := (blk_cell BK381.out 6).trans rfl
        have hcz23_7 : wr.cell? ⟨gb381, 7, none⟩ = some (.int .i64 x382007_1) := (blk_cell BK381.out 7).trans rfl
        have hcz23_8 : wr.cell? ⟨gb381, 8, none⟩ = some (.int .i64 x382008_1) := (blk_cell BK381.out 8).trans rfl
        have hcz23_9 : wr.cell? ⟨gb381, 9, none⟩ = some (.int .i64 x382009_1) := (blk_cell BK381.out 9).trans rfl
        have hfz23_0 := blk_frozen BK381.out 0
        have hfz23_1 := blk_frozen BK381.out 1
        have hfz23_2 := blk_frozen BK381.out 2
        have hfz23_3 := blk_frozen BK381.out 3
        have hfz23_4 := blk_frozen BK381.out 4
        have hfz23_5 := blk_frozen BK381.out 5
        have hfz23_6 := blk_frozen BK381.out 6
        have hfz23_7 := blk_frozen BK381.out 7
        have hfz23_8 := blk_frozen BK381.out 8
        have hfz23_9 := blk_frozen BK381.out 9
        have hnb24 := NB382_380.out
        have hnc24 := NB380_382.out
        have hcz25_0 : wr.cell? ⟨gb382, 0, none⟩ = some (.int .i64 0) := (blk_cell BK382.out 0).trans rfl
        have hcz25_1 : wr.cell? ⟨gb382, 1, none⟩ = some (.int .i64 0) := (blk_cell BK382.out 1).trans rfl
        have hcz25_2 : wr.cell? ⟨gb382, 2, none⟩ = some (.int .i64 0) := (blk_cell BK382.out 2).trans rfl
        have hcz25_3 : wr.cell? ⟨gb382, 3, none⟩ = some (.int .i64 0) := (blk_cell BK382.out 3).trans rfl
        have hcz25_4 : wr.cell? ⟨gb382, 4, none⟩ = some (.int .i64 0) := (blk_cell BK382.out 4).trans rfl
        have hcz25_5 : wr.cell? ⟨gb382, 5, none⟩ = some (.int .i64 0) := (blk_cell BK382.out 5).trans rfl
        have hcz25_6 : wr.cell? ⟨gb382, 6, none⟩ = some (.int .i64 0) := (blk_cell BK382.out 6).trans rfl
        have hcz25_7 : wr.cell? ⟨gb382, 7, none⟩ = some (.int .i64 0) := (blk_cell BK382.out 7).trans rfl
        have hcz25_8 : wr.cell? ⟨gb382, 8, none⟩ = some (.int .i64 0) := (blk_cell BK382.out 8).trans rfl
        have hcz25_9 : wr.cell? ⟨gb382, 9, none⟩ = some (.int .i64 0) := (blk_cell BK382.out 9).trans rfl
        have hfz25_0 := blk_frozen BK382.out 0
        have hfz25_1 := blk_frozen BK382.out 1
        have hfz25_2 := blk_frozen BK382.out 2
        have hfz25_3 := blk_frozen BK382.out 3
        have hfz25_4 := blk_frozen BK382.out 4
        have hfz25_5 := blk_frozen BK382.out 5
        have hfz25_6 := blk_frozen BK382.out 6
        have hfz25_7 := blk_frozen BK382.out 7
        have hfz25_8 := blk_frozen BK382.out 8
        have hfz25_9 := blk_frozen BK382.out 9
        go_wp2
        refine bodyPost_ret (results_cell_row rfl _ _ gb382 58 #[.int .i64 x382000_1, .int .i64 x382001_1, .int .i64 x382002_1, .int .i64 x382003_1, .int .i64 x382004_1, .int .i64 x382005_1, .int .i64 x382006_1, .int .i64 x382007_1, .int .i64 x382008_1, .int .i64 x382009_1] (0, 0) _ rfl (by (with_reducible repeat (first | refine blk_drewN ?_ _ | refine blk_drew ?_ | refine blk_alloc ?_ _)); refine blk_put (cs := #[.int .i64 x382000_1, .int .i64 x382001_1, .int .i64 x382002_1, .int .i64 x382003_1, .int .i64 x382004_1, .int .i64 x382005_1, .int .i64 x382006_1, .int .i64 x382007_1, .int .i64 x382008_1, .int .i64 0]) ?_ 9 _ rfl; (with_reducible repeat (first | refine blk_drewN ?_ _ | refine blk_drew ?_ | refine blk_alloc ?_ _)); refine blk_put (cs := #[.int .i64 x382000_1, .int .i64 x382001_1, .int .i64 x382002_1, .int .i64 x382003_1, .int .i64 x382004_1, .int .i64 x382005_1, .int .i64 x382006_1, .int .i64 x382007_1, .int .i64 0, .int .i64 0]) ?_ 8 _ rfl; (with_reducible repeat (first | refine blk_drewN ?_ _ | refine blk_drew ?_ | refine blk_alloc ?_ _)); refine blk_put (cs := #[.int .i64 x382000_1, .int .i64 x382001_1, .int .i64 x382002_1, .int .i64 x382003_1, .int .i64 x382004_1, .int .i64 x382005_1, .int .i64 x382006_1, .int .i64 0, .int .i64 0, .int .i64 0]) ?_ 7 _ rfl; (with_reducible repeat (first | refine blk_drewN ?_ _ | refine blk_drew ?_ | refine blk_alloc ?_ _)); refine blk_put (cs := #[.int .i64 x382000_1, .int .i64 x382001_1, .int .i64 x382002_1, .int .i64 x382003_1, .int .i64 x382004_1, .int .i64 x382005_1, .int .i64 0, .int .i64 0, .int .i64 0, .int .i64 0]) ?_ 6 _ rfl; (with_reducible repeat (first | refine blk_drewN ?_ _ | refine blk_drew ?_ | refine blk_alloc ?_ _)); refine blk_put (cs := #[.int .i64 x382000_1, .int .i64 x382001_1, .int .i64 x382002_1, .int .i64 x382003_1, .int .i64 x382004_1, .int .i64 0, .int .i64 0, .int .i64 0, .int .i64 0, .int .i64 0]) ?_ 5 _ rfl; (with_reducible repeat (first | refine blk_drewN ?_ _ | refine blk_drew ?_ | refine blk_alloc ?_ _)); refine blk_put (cs := #[.int .i64 x382000_1, .int .i64 x382001_1, .int .i64 x382002_1, .int .i64 x382003_1, .int .i64 0, .int .i64 0, .int .i64 0, .int .i64 0, .int .i64 0, .int .i64 0]) ?_ 4 _ rfl; (with_reducible repeat (first | refine blk_drewN ?_ _ | refine blk_drew ?_ | refine blk_alloc ?_ _)); refine blk_put (cs := #[.int .i64 x382000_1, .int .i64 x382001_1, .int .i64 x382002_1, .int .i64 0, .int .i64 0, .int .i64 0, .int .i64 0, .int .i64 0, .int .i64 0, .int .i64 0]) ?_ 3 _ rfl; (with_reducible repeat (first | refine blk_drewN ?_ _ | refine blk_drew ?_ | refine blk_alloc ?_ _)); refine blk_put (cs := #[.int .i64 x382000_1, .int .i64 x382001_1, .int .i64 0, .int .i64 0, .int .i64 0, .int .i64 0, .int .i64 0, .int .i64 0, .int .i64 0, .int .i64 0]) ?_ 2 _ rfl; (with_reducible repeat (first | refine blk_drewN ?_ _ | refine blk_drew ?_ | refine blk_alloc ?_ _)); refine blk_put (cs := #[.int .i64 x382000_1, .int .i64 0, .int .i64 0, .int .i64 0, .int .i64 0, .int .i64 0, .int .i64 0, .int .i64 0, .int .i64 0, .int .i64 0]) ?_ 1 _ rfl; (with_reducible repeat (first | refine blk_drewN ?_ _ | refine blk_drew ?_ | refine blk_alloc ?_ _)); refine blk_put (cs := #[.int .i64 0, .int .i64 0, .int .i64 0, .int .i64 0, .int .i64 0, .int .i64 0, .int .i64 0, .int .i64 0, .int .i64 0, .int .i64 0]) ?_ 0 _ rfl; (with_reducible repeat (first | refine blk_drewN ?_ _ | refine blk_drew ?_ | refine blk_alloc ?_ _)); exact BK382.out) Try.underlying58 rfl (by kernel_rfl)) rfl ?_
        exact ⟨by first | rfl | (simp [errW_none, errW_some] <;> rfl) | (simp [*, errW_none, errW_some] <;> rfl), by repeat (first | (with_reducible first | exact HB.out | apply below_alloc | apply pw_below_drewN | apply below_drew1 | refine below_set ?_ GE380.out | refine below_set ?_ GE381.out | refine below_set ?_ GE382.out) | exact HB.out)⟩

end Go.Proofs.Ytjahclncpgllmaa.F
end

section
namespace Go.Proofs.Ytjahclncpgllmaa.F
open Go.RowKit Go.Proofs.YtjahclncpgllmaaW.PrintWords Go.Proofs.YtjahclncpgllmaaW.PrintLast Go.Proofs.YtjahclncpgllmaaW.PrintMore
attribute [local go_sem] max2_int min2_int max_two min_two max_three min_three max_four min_four
set_option linter.unusedVariables false
set_option linter.unusedSimpArgs false

/-! ### impl_Poset_promoted: function 85 -/
def impl_Poset_promoted.l0 : Nat → Int → Int → List Int → Int → Int → Int → Int → Int → Int → Int → Int → Int → Int → Option (Int × Int × Int × Int × Int × Int × Int × Int × Int × Int)
  | 0, _, _, _, _, _, _, _, _, _, _, _, _, _ => none
  | k + 1, x8, x9, x726000, x727000, x727001, x727002, x727003, x727004, x727005, x727006, x727007, x727008, x727009 => if x9 < x8 then ((impl_Poset_exchange.f x726000 x727000 x727001 x727002 x727003 x727004 x727005 x727006 x727007 x727008 x727009 x9).bind fun bt729 => (impl_Poset_promoted.l0 k x8 (wrap64 (x9 + 1)) x726000 bt729.1 bt729.2.1 bt729.2.2.1 bt729.2.2.2.1 bt729.2.2.2.2.1 bt729.2.2.2.2.2.1 bt729.2.2.2.2.2.2.1 bt729.2.2.2.2.2.2.2.1 bt729.2.2.2.2.2.2.2.2.1 bt729.2.2.2.2.2.2.2.2.2)) else (some (x727000, x727001, x727002, x727003, x727004, x727005, x727006, x727007, x727008, x727009))
def impl_Poset_promoted.f (k : Nat) (l0_0 : List Int) (a1_0 : Int) (a1_1 : Int) (a1_2 : Int) (a1_3 : Int) (a1_4 : Int) (a1_5 : Int) (a1_6 : Int) (a1_7 : Int) (a1_8 : Int) (a1_9 : Int) : Option (Int × Int × Int × Int × Int × Int × Int × Int × Int × Int) := (impl_Poset_n.f l0_0).bind fun t728 => (impl_Poset_promoted.l0 k (wrap64 (t728 - 1)) 0 l0_0 a1_0 a1_1 a1_2 a1_3 a1_4 a1_5 a1_6 a1_7 a1_8 a1_9)
theorem impl_Poset_promoted.mono_l : ∀ k, (∀ y0 y1 y2 y3 y4 y5 y6 y7 y8 y9 y10 y11 y12, LeO (impl_Poset_promoted.l0 k y0 y1 y2 y3 y4 y5 y6 y7 y8 y9 y10 y11 y12) (impl_Poset_promoted.l0 (k + 1) y0 y1 y2 y3 y4 y5 y6 y7 y8 y9 y10 y11 y12))
  | 0 => fun _ _ _ _ _ _ _ _ _ _ _ _ _ r h => by simp [impl_Poset_promoted.l0] at h
  | k + 1 => by
    have ih0 := impl_Poset_promoted.mono_l k
    · intro y0 y1 y2 y3 y4 y5 y6 y7 y8 y9 y10 y11 y12
      unfold impl_Poset_promoted.l0
      repeat' first
      | (with_reducible exact ih0 _ _ _ _ _ _ _ _ _ _ _ _ _)
      | (with_reducible exact LeO.refl _)
      | (with_reducible exact LeO.none _)
      | (with_reducible refine LeO.ite ?_ ?_)
      | (with_reducible refine LeO.bind ?_ (fun _ => ?_))
      | exact ih0 _ _ _ _ _ _ _ _ _ _ _ _ _
      | exact LeO.none _
      | refine LeO.ite ?_ ?_
      | refine LeO.bind ?_ (fun _ => ?_)
theorem impl_Poset_promoted.mono : ∀ a0 a1 a2 a3 a4 a5 a6 a7 a8 a9 a10 k, LeO (impl_Poset_promoted.f k a0 a1 a2 a3 a4 a5 a6 a7 a8 a9 a10) (impl_Poset_promoted.f (k + 1) a0 a1 a2 a3 a4 a5 a6 a7 a8 a9 a10) := by
  intro a0 a1 a2 a3 a4 a5 a6 a7 a8 a9 a10 k
  have ih0 := impl_Poset_promoted.mono_l k
  unfold impl_Poset_promoted.f
  repeat' first
      | (with_reducible exact ih0 _ _ _ _ _ _ _ _ _ _ _ _ _)
      | (with_reducible exact LeO.refl _)
      | (with_reducible exact LeO.none _)
      | (with_reducible refine LeO.ite ?_ ?_)
      | (with_reducible refine LeO.bind ?_ (fun _ => ?_))
      | exact ih0 _ _ _ _ _ _ _ _ _ _ _ _ _
      | exact LeO.none _
      | refine LeO.ite ?_ ?_
      | refine LeO.bind ?_ (fun _ => ?_)
set_option maxHeartbeats 8000000 in
set_option maxRecDepth 100000 in
theorem impl_Poset_promoted.calls (k : Nat) (A0_0 : Option Addr) (c0_0 : Nat) (l0_0 : List Int) (a1_0 : Int) (a1_1 : Int) (a1_2 : Int) (a1_3 : Int) (a1_4 : Int) (a1_5 : Int) (a1_6 : Int) (a1_7 : Int) (a1_8 : Int) (a1_9 : Int) (r1 : Int) (r2 : Int) (r3 : Int) (r4 : Int) (r5 : Int) (r6 : Int) (r7 : Int) (r8 : Int) (r9 : Int) (r10 : Int) (w : World) (hr0_0 : Kd.C (Kd.int .i64) w A0_0 l0_0.length l0_0) (hc0_0 : l0_0.length ≤ c0_0) (h : impl_Poset_promoted.f k l0_0 a1_0 a1_1 a1_2 a1_3 a1_4 a1_5 a1_6 a1_7 a1_8 a1_9 = some (r1, r2, r3, r4, r5, r6, r7, r8, r9, r10)) :
    Calls Try.prog 85 #[.agg #[.slice A0_0 l0_0.length c0_0], .agg #[.int .i64 a1_0, .int .i64 a1_1, .int .i64 a1_2, .int .i64 a1_3, .int .i64 a1_4, .int .i64 a1_5, .int .i64 a1_6, .int .i64 a1_7, .int .i64 a1_8, .int .i64 a1_9]] w fun e w' => e = .returned (.agg #[.int .i64 r1, .int .i64 r2, .int .i64 r3, .int .i64 r4, .int .i64 r5, .int .i64 r6, .int .i64 r7, .int .i64 r8, .int .i64 r9, .int .i64 r10]) ∧ Below w.heap.size w w' := by
  have hu28 := Try.underlying28
  have hu58 := Try.underlying58
  have HR0_0 := Aside0.mk hr0_0
  have HC0_0 := Aside0.mk hc0_0
  clear hr0_0 hc0_0
  have HB := Aside0.mk (Below.refl w.heap.size w)
  have H : ((impl_Poset_n.f l0_0).bind fun t728 => (impl_Poset_promoted.l0 k (wrap64 (t728 - 1)) 0 l0_0 a1_0 a1_1 a1_2 a1_3 a1_4 a1_5 a1_6 a1_7 a1_8 a1_9)) = some (r1, r2, r3, r4, r5, r6, r7, r8, r9, r10) := h
  clear h
  replace H := Option.bind_eq_some_iff.mp H
  obtain ⟨t728, A30, H⟩ := H
  replace H : (impl_Poset_promoted.l0 k (wrap64 (t728 - 1)) 0 l0_0 a1_0 a1_1 a1_2 a1_3 a1_4 a1_5 a1_6 a1_7 a1_8 a1_9) = some (r1, r2, r3, r4, r5, r6, r7, r8, r9, r10) := H
  have A3 := Aside0.mk A30
  clear A30
  have H' := Aside0.mk H
  clear H
  go_enter Try.func85, Try.ntmps85
  go_wp2_with (first | ((with_reducible refine gate_dst (N := 2) rfl ?_); refine box_event ?hg (N := 2) ?hd (cs := #[.slice A0_0 l0_0.length c0_0]) (t := 28) ?hr ?_; (case hd => rfl); (case hg => rfl); (case hr => first | (go_simp; done) | (go_simp; rfl)); intro gb725 hg w4 hbox hb; have n0_ := Aside0.mk (below_step (by repeat (first | (with_reducible first | exact HB.out | apply below_alloc | apply pw_below_drewN | apply below_drew1) | exact HB.out)) hb); have n1_ := Aside0.mk (hbox); have n2_ := Aside0.mk ((by rw [hg]; exact (below_size (by repeat (first | (with_reducible first | exact HB.out | apply below_alloc | apply pw_below_drewN | apply below_drew1) | exact HB.out))) : w.heap.size ≤ gb725)); have n3_ := Aside0.mk ((by rw [hg]; exact (below_size (by repeat (first | (with_reducible first | exact HB.out | apply below_alloc | apply pw_below_drewN | apply below_drew1) | exact HB.out))) : w.heap.size ≤ gb725)); clear HB; have HB := n0_; have BK725 := n1_; have GW725 := n2_; have GE725 := n3_; clear n0_ n1_ n2_ n3_; clear hb hbox hg) | ((with_reducible refine gate_dst (N := 3) rfl ?_); refine box_event ?hg (N := 3) ?hd (cs := #[.int .i64 a1_0, .int .i64 a1_1, .int .i64 a1_2, .int .i64 a1_3, .int .i64 a1_4, .int .i64 a1_5, .int .i64 a1_6, .int .i64 a1_7, .int .i64 a1_8, .int .i64 a1_9]) (t := 58) ?hr ?_; (case hd => rfl); (case hg => rfl); (case hr => first | (go_simp; done) | (go_simp; rfl)); intro gb726 hg w5 hbox hb; have n0_ := Aside0.mk (blk_below (g := gb725) (o := .cells #[.slice A0_0 l0_0.length c0_0] 28 (0, 0)) (by (with_reducible repeat (first | refine blk_drewN ?_ _ | refine blk_drew ?_ | refine blk_alloc ?_ _)); exact BK725.out) hb); have n1_ := Aside0.mk (below_step (by repeat (first | (with_reducible first | exact HB.out | apply below_alloc | apply pw_below_drewN | apply below_drew1 | refine below_set ?_ GE725.out) | exact HB.out)) hb); have n2_ := Aside0.mk (hbox); have n3_ := Aside0.mk ((by rw [hg]; exact (below_size (by repeat (first | (with_reducible first | exact HB.out | apply below_alloc | apply pw_below_drewN | apply below_drew1 | refine below_set ?_ GE725.out) | exact HB.out))) : w.heap.size ≤ gb726)); have n4_ := Aside0.mk ((by rw [hg]; exact (below_size (by repeat (first | (with_reducible first | exact HB.out | apply below_alloc | apply pw_below_drewN | apply below_drew1 | refine below_set ?_ GE725.out) | exact HB.out))) : w.heap.size ≤ gb726)); have n5_ := Aside0.mk ((by rw [hg]; exact Nat.ne_of_lt (blk_lt (g := gb725) (o := .cells #[.slice A0_0 l0_0.length c0_0] 28 (0, 0)) (by (with_reducible repeat (first | refine blk_drewN ?_ _ | refine blk_drew ?_ | refine blk_alloc ?_ _)); exact BK725.out)) : gb725 ≠ gb726)); have n6_ := Aside0.mk ((by rw [hg]; exact Nat.ne_of_gt (blk_lt (g := gb725) (o := .cells #[.slice A0_0 l0_0.length c0_0] 28 (0, 0)) (by (with_reducible repeat (first | refine blk_drewN ?_ _ | refine blk_drew ?_ | refine blk_alloc ?_ _)); exact BK725.out)) : gb726 ≠ gb725)); clear BK725; clear HB; have BK725 := n0_; have HB := n1_; have BK726 := n2_; have GW726 := n3_; have GE726 := n4_; have NB725_726 := n5_; have NB726_725 := n6_; clear n0_ n1_ n2_ n3_ n4_ n5_ n6_; clear hb hbox hg) | ((with_reducible refine gate_dst (N := 4) rfl ?_); refine box_event ?hg (N := 4) ?hd (cs := #[.int .i64 0, .int .i64 0, .int .i64 0, .int .i64 0, .int .i64 0, .int .i64 0, .int .i64 0, .int .i64 0, .int .i64 0, .int .i64 0]) (t := 58) ?hr ?_; (case hd => rfl); (case hg => rfl); (case hr => first | (go_simp; done) | (go_simp; rfl)); intro gb727 hg w6 hbox hb; have n0_ := Aside0.mk (blk_below (g := gb725) (o := .cells #[.slice A0_0 l0_0.length c0_0] 28 (0, 0)) (by (with_reducible repeat (first | refine blk_drewN ?_ _ | refine blk_drew ?_ | refine blk_alloc ?_ _)); exact BK725.out) hb); have n1_ := Aside0.mk (blk_below (g := gb726) (o := .cells #[.int .i64 a1_0, .int .i64 a1_1, .int .i64 a1_2, .int .i64 a1_3, .int .i64 a1_4, .int .i64 a1_5, .int .i64 a1_6, .int .i64 a1_7, .int .i64 a1_8, .int .i64 a1_9] 58 (0, 0)) (by (with_reducible repeat (first | refine blk_drewN ?_ _ | refine blk_drew ?_ | refine blk_alloc ?_ _)); exact BK726.out) hb); have n2_ := Aside0.mk (below_step (by repeat (first | (with_reducible first | exact HB.out | apply below_alloc | apply pw_below_drewN | apply below_drew1 | refine below_set ?_ GE725.out | refine below_set ?_ GE726.out) | exact HB.out)) hb); have n3_ := Aside0.mk (hbox); have n4_ := Aside0.mk ((by rw [hg]; exact (below_size (by repeat (first | (with_reducible first | exact HB.out | apply below_alloc | apply pw_below_drewN | apply below_drew1 | refine below_set ?_ GE725.out | refine below_set ?_ GE726.out) | exact HB.out))) : w.heap.size ≤ gb727)); have n5_ := Aside0.mk ((by rw [hg]; exact (below_size (by repeat (first | (with_reducible first | exact HB.out | apply below_alloc | apply pw_below_drewN | apply below_drew1 | refine below_set ?_ GE725.out | refine below_set ?_ GE726.out) | exact HB.out))) : w.heap.size ≤ gb727)); have n6_ := Aside0.mk ((by rw [hg]; exact Nat.ne_of_lt (blk_lt (g := gb725) (o := .cells #[.slice A0_0 l0_0.length c0_0] 28 (0, 0)) (by (with_reducible repeat (first | refine blk_drewN ?_ _ | refine blk_drew ?_ | refine blk_alloc ?_ _)); exact BK725.out)) : gb725 ≠ gb727)); have n7_ := Aside0.mk ((by rw [hg]; exact Nat.ne_of_gt (blk_lt (g := gb725) (o := .cells #[.slice A0_0 l0_0.length c0_0] 28 (0, 0)) (by (with_reducible repeat (first | refine blk_drewN ?_ _ | refine blk_drew ?_ | refine blk_alloc ?_ _)); exact BK725.out)) : gb727 ≠ gb725)); have n8_ := Aside0.mk ((by rw [hg]; exact Nat.ne_of_lt (blk_lt (g := gb726) (o := .cells #[.int .i64 a1_0, .int .i64 a1_1, .int .i64 a1_2, .int .i64 a1_3, .int .i64 a1_4, .int .i64 a1_5, .int .i64 a1_6, .int .i64 a1_7, .int .i64 a1_8, .int .i64 a1_9] 58 (0, 0)) (by (with_reducible repeat (first | refine blk_drewN ?_ _ | refine blk_drew ?_ | refine blk_alloc ?_ _)); exact BK726.out)) : gb726 ≠ gb727)); have n9_ := Aside0.mk ((by rw [hg]; exact Nat.ne_of_gt (blk_lt (g := gb726) (o := .cells #[.int .i64 a1_0, .int .i64 a1_1, .int .i64 a1_2, .int .i64 a1_3, .int .i64 a1_4, .int .i64 a1_5, .int .i64 a1_6, .int .i64 a1_7, .int .i64 a1_8, .int .i64 a1_9] 58 (0, 0)) (by (with_reducible repeat (first | refine blk_drewN ?_ _ | refine blk_drew ?_ | refine blk_alloc ?_ _)); exact BK726.out)) : gb727 ≠ gb726)); clear BK725; clear BK726; clear HB; have BK725 := n0_; have BK726 := n1_; have HB := n2_; have BK727 := n3_; have GW727 := n4_; have GE727 := n5_; have NB725_727 := n6_; have NB727_725 := n7_; have NB726_727 := n8_; have NB727_726 := n9_; clear n0_ n1_ n2_ n3_ n4_ n5_ n6_ n7_ n8_ n9_; clear hb hbox hg; have hnb7 := NB725_726.out; have hnc7 := NB726_725.out; have hnb8 := NB725_727.out; have hnc8 := NB727_725.out; have hcz9_0 : w6.cell? ⟨gb725, 0, none⟩ = some (.slice A0_0 l0_0.length c0_0) := (blk_cell BK725.out 0).trans rfl; have hfz9_0 := blk_frozen BK725.out 0) | ((with_reducible refine gate_callee (f := 58) rfl ?_); refine goesL_ (some 7) rfl rfl Try.func58 (by kernel_rfl) rfl #[.agg #[.slice A0_0 l0_0.length c0_0]] rfl (by (try simp only [List.map_toArray, List.map_cons, List.map_nil]); first | done | rfl | (simp only [List.length_drop, List.length_take]; rfl)) ?_; (with_reducible refine (impl_Poset_n.calls _ _ l0_0 t728 _ ?side1 ?side2 A3.out).mono ?_); (case side1 => repeat (first | exact (Kd.C_below HR0_0.out HB.out) | (with_reducible refine Kd.C_alloc ?_ _) | (with_reducible refine Kd.C_drewN ?_ _) | (with_reducible refine Kd.C_drew ?_))); (case side2 => exact HC0_0.out); rintro e w10 ⟨rfl, hb⟩; refine ⟨_, rfl, ?_⟩; have n0_ := Aside0.mk (blk_below (g := gb725) (o := .cells #[.slice A0_0 l0_0.length c0_0] 28 (0, 0)) (by (with_reducible repeat (first | refine blk_drewN ?_ _ | refine blk_drew ?_ | refine blk_alloc ?_ _)); exact BK725.out) hb); have n1_ := Aside0.mk (blk_below (g := gb726) (o := .cells #[.int .i64 a1_0, .int .i64 a1_1, .int .i64 a1_2, .int .i64 a1_3, .int .i64 a1_4, .int .i64 a1_5, .int .i64 a1_6, .int .i64 a1_7, .int .i64 a1_8, .int .i64 a1_9] 58 (0, 0)) (by (with_reducible repeat (first | refine blk_drewN ?_ _ | refine blk_drew ?_ | refine blk_alloc ?_ _)); exact BK726.out) hb); have n2_ := Aside0.mk (blk_below (g := gb727) (o := .cells #[.int .i64 0, .int .i64 0, .int .i64 0, .int .i64 0, .int .i64 0, .int .i64 0, .int .i64 0, .int .i64 0, .int .i64 0, .int .i64 0] 58 (0, 0)) (by (with_reducible repeat (first | refine blk_drewN ?_ _ | refine blk_drew ?_ | refine blk_alloc ?_ _)); exact BK727.out) hb); have n3_ := Aside0.mk (below_step (by repeat (first | (with_reducible first | exact HB.out | apply below_alloc | apply pw_below_drewN | apply below_drew1 | refine below_set ?_ GE725.out | refine below_set ?_ GE726.out | refine below_set ?_ GE727.out) | exact HB.out)) hb); clear BK725; clear BK726; clear BK727; clear HB; have BK725 := n0_; have BK726 := n1_; have BK727 := n2_; have HB := n3_; clear n0_ n1_ n2_ n3_; (try clear hb); (try clear hb2); (try clear hk); (try clear hi)))
  go_loopg [9] k (fun kq v9 w' => ∃ (x9_1 : Int) (x727000_1 : Int) (x727001_1 : Int) (x727002_1 : Int) (x727003_1 : Int) (x727004_1 : Int) (x727005_1 : Int) (x727006_1 : Int) (x727007_1 : Int) (x727008_1 : Int) (x727009_1 : Int), v9 = .int .i64 x9_1 ∧ Aside0 (impl_Poset_promoted.l0 kq (wrap64 (t728 - 1)) x9_1 l0_0 x727000_1 x727001_1 x727002_1 x727003_1 x727004_1 x727005_1 x727006_1 x727007_1 x727008_1 x727009_1 = some (r1, r2, r3, r4, r5, r6, r7, r8, r9, r10)) ∧ Aside0 (kq ≤ k) ∧ Aside0 (w'.heap[gb725]? = some (.cells #[(.slice A0_0 l0_0.length c0_0)] 28 (0, 0))) ∧ Aside0 (w'.heap[gb726]? = some (.cells #[.int .i64 x727000_1, .int .i64 x727001_1, .int .i64 x727002_1, .int .i64 x727003_1, .int .i64 x727004_1, .int .i64 x727005_1, .int .i64 x727006_1, .int .i64 x727007_1, .int .i64 x727008_1, .int .i64 x727009_1] 58 (0, 0))) ∧ Aside0 (w'.heap[gb727]? = some (.cells #[.int .i64 0, .int .i64 0, .int .i64 0, .int .i64 0, .int .i64 0, .int .i64 0, .int .i64 0, .int .i64 0, .int .i64 0, .int .i64 0] 58 (0, 0))) ∧ Aside0 (Below w.heap.size w w'))
  case atStart => exact ⟨(0), (a1_0), (a1_1), (a1_2), (a1_3), (a1_4), (a1_5), (a1_6), (a1_7), (a1_8), (a1_9), (by first | rfl | (simp; done) | (simp [*]; done)), H', ⟨Nat.le_refl _⟩, ⟨by (with_reducible repeat (first | refine blk_drewN ?_ _ | refine blk_drew ?_ | refine blk_alloc ?_ _)); exact BK725.out⟩, ⟨by (with_reducible repeat (first | refine blk_drewN ?_ _ | refine blk_drew ?_ | refine blk_alloc ?_ _)); exact BK726.out⟩, ⟨by (with_reducible repeat (first | refine blk_drewN ?_ _ | refine blk_drew ?_ | refine blk_alloc ?_ _)); exact BK727.out⟩, ⟨by repeat (first | (with_reducible first | exact HB.out | apply below_alloc | apply pw_below_drewN | apply below_drew1 | refine below_set ?_ GE725.out | refine below_set ?_ GE726.out | refine below_set ?_ GE727.out) | exact HB.out)⟩⟩
  case round =>
    clear H'
    try clear p2
    try clear c5
    try clear p6
    try clear c7
    try clear c8
    try clear hcz9_0
    try clear hfz9_0
    obtain ⟨x9_1, x727000_1, x727001_1, x727002_1, x727003_1, x727004_1, x727005_1, x727006_1, x727007_1, x727008_1, x727009_1, rfl, HA, HK1, BK725, BK726, BK727, HB⟩ := hrel
    cases gk with
    | zero => exact absurd HA.out (by simp [impl_Poset_promoted.l0])
    | succ k1 =>
      have H := HA.out
      clear HA
      simp only [impl_Poset_promoted.l0] at H
      by_cases c11 : x9_1 < (wrap64 (t728 - 1))
      · rw [if_pos c11] at H
        have c11b0 : decide (x9_1 < (wrap64 (t728 - 1))) = true := decide_eq_true c11
        clear c11
        replace H := Option.bind_eq_some_iff.mp H
        obtain ⟨⟨t729, t730, t731, t732, t733, t734, t735, t736, t737, t738⟩, A120, H⟩ := H
        replace H : (impl_Poset_promoted.l0 k1 (wrap64 (t728 - 1)) (wrap64 (x9_1 + 1)) l0_0 t729 t730 t731 t732 t733 t734 t735 t736 t737 t738) = some (r1, r2, r3, r4, r5, r6, r7, r8, r9, r10) := H
        have A12 := Aside0.mk A120
        clear A120
        have H' := Aside0.mk H
        clear H
        have hnb13 := NB725_726.out
        have hnc13 := NB726_725.out
        have hnb14 := NB725_727.out
        have hnc14 := NB727_725.out
        have hcz15_0 : wr.cell? ⟨gb725, 0, none⟩ = some (.slice A0_0 l0_0.length c0_0) := (blk_cell BK725.out 0).trans rfl
        have hfz15_0 := blk_frozen BK725.out 0
        have hnb16 := NB726_727.out
        have hnc16 := NB727_726.out
        have hcz17_0 : wr.cell? ⟨gb726, 0, none⟩ = some (.int .i64 x727000_1) := (blk_cell BK726.out 0).trans rfl
        have hcz17_1 : wr.cell? ⟨gb726, 1, none⟩ = some (.int .i64 x727001_1) := (blk_cell BK726.out 1).trans rfl
        have hcz17_2 : wr.cell? ⟨gb726, 2, none⟩ = some (.int .i64 x727002_1) := (blk_cell BK726.out 2).trans rfl
        have hcz17_3 : wr.cell? ⟨gb726, 3, none⟩ = some (.int .i64 x727003_1) := (blk_cell BK726.out 3).trans rfl
        have hcz17_4 : wr.cell? ⟨gb726, 4, none⟩ = some (.int .i64 x727004_1) := (blk_cell BK726.out 4).trans rfl
        have hcz17_5 : wr.cell? ⟨gb726, 5, none⟩ = some (.int .i64 x727005_1) := (blk_cell BK726.out 5).trans rfl
        have hcz17_6 : wr.cell? ⟨gb726, 6, none⟩ = some (.int .i64 x727006_1) := (blk_cell BK726.out 6).trans rfl
        have hcz17_7 : wr.cell? ⟨gb726, 7, none⟩ = some (.int .i64 x727007_1) := (blk_cell BK726.out 7).trans rfl
        have hcz17_8 : wr.cell? ⟨gb726, 8, none⟩ = some (.int .i64 x727008_1) := (blk_cell BK726.out 8).trans rfl
        have hcz17_9 : wr.cell? ⟨gb726, 9, none⟩ = some (.int .i64 x727009_1) := (blk_cell BK726.out 9).trans rfl
        have hfz17_0 := blk_frozen BK726.out 0
        have hfz17_1 := blk_frozen BK726.out 1
        have hfz17_2 := blk_frozen BK726.out 2
        have hfz17_3 := blk_frozen BK726.out 3
        have hfz17_4 := blk_frozen BK726.out 4
        have hfz17_5 := blk_frozen BK726.out 5
        have hfz17_6 := blk_frozen BK726.out 6
        have hfz17_7 := blk_frozen BK726.out 7
        have hfz17_8 := blk_frozen BK726.out 8
        have hfz17_9 := blk_frozen BK726.out 9
        go_wp2_with (first | ((with_reducible refine gate_callee (f := 59) rfl ?_); refine goesL_ (some 15) rfl rfl Try.func59 (by kernel_rfl) rfl #[.agg #[.slice A0_0 l0_0.length c0_0], .agg #[.int .i64 x727000_1, .int .i64 x727001_1, .int .i64 x727002_1, .int .i64 x727003_1, .int .i64 x727004_1, .int .i64 x727005_1, .int .i64 x727006_1, .int .i64 x727007_1, .int .i64 x727008_1, .int .i64 x727009_1], .int .i64 x9_1] rfl (by (try simp only [List.map_toArray, List.map_cons, List.map_nil]); first | done | rfl | (simp only [List.length_drop, List.length_take]; rfl)) ?_; (with_reducible refine (impl_Poset_exchange.calls _ _ l0_0 x727000_1 x727001_1 x727002_1 x727003_1 x727004_1 x727005_1 x727006_1 x727007_1 x727008_1 x727009_1 x9_1 t729 t730 t731 t732 t733 t734 t735 t736 t737 t738 _ ?side1 ?side2 A12.out).mono ?_); (case side1 => repeat (first | exact (Kd.C_below HR0_0.out HB.out) | (with_reducible refine Kd.C_alloc ?_ _) | (with_reducible refine Kd.C_drewN ?_ _) | (with_reducible refine Kd.C_drew ?_))); (case side2 => exact HC0_0.out); rintro e w18 ⟨rfl, hb⟩; refine ⟨_, rfl, ?_⟩; have n0_ := Aside0.mk (blk_below (g := gb725) (o := .cells #[.slice A0_0 l0_0.length c0_0] 28 (0, 0)) (by (with_reducible repeat (first | refine blk_drewN ?_ _ | refine blk_drew ?_ | refine blk_alloc ?_ _)); exact BK725.out) hb); have n1_ := Aside0.mk (blk_below (g := gb726) (o := .cells #[.int .i64 x727000_1, .int .i64 x727001_1, .int .i64 x727002_1, .int .i64 x727003_1, .int .i64 x727004_1, .int .i64 x727005_1, .int .i64 x727006_1, .int .i64 x727007_1, .int .i64 x727008_1, .int .i64 x727009_1] 58 (0, 0)) (by (with_reducible repeat (first | refine blk_drewN ?_ _ | refine blk_drew ?_ | refine blk_alloc ?_ _)); exact BK726.out) hb); have n2_ := Aside0.mk (blk_below (g := gb727) (o := .cells #[.int .i64 0, .int .i64 0, .int .i64 0, .int .i64 0, .int .i64 0, .int .i64 0, .int .i64 0, .int .i64 0, .int .i64 0, .int .i64 0] 58 (0, 0)) (by (with_reducible repeat (first | refine blk_drewN ?_ _ | refine blk_drew ?_ | refine blk_alloc ?_ _)); exact BK727.out) hb); have n3_ := Aside0.mk (below_step (by repeat (first | (with_reducible first | exact HB.out | apply below_alloc | apply pw_below_drewN | apply below_drew1 | refine below_set ?_ GE725.out | refine below_set ?_ GE726.out | refine below_set ?_ GE727.out) | exact HB.out)) hb); clear BK725; clear BK726; clear BK727; clear HB; have BK725 := n0_; have BK726 := n1_; have BK727 := n2_; have HB := n3_; clear n0_ n1_ n2_ n3_; (try clear hb); (try clear hb2); (try clear hk); (try clear hi); have hcz19_0 : w18.cell? ⟨gb726, 0, none⟩ = some (.int .i64 x727000_1) := (blk_cell BK726.out 0).trans rfl; have hcz19_1 : w18.cell? ⟨gb726, 1, none⟩ = some (.int .i64 x727001_1) := (blk_cell BK726.out 1).trans rfl; have hcz19_2 : w18.cell? ⟨gb726, 2, none⟩ = some (.int .i64 x727002_1) := (blk_cell BK726.out 2).trans rfl; have hcz19_3 : w18.cell? ⟨gb726, 3, none⟩ = some (.int .i64 x727003_1) := (blk_cell BK726.out 3).trans rfl; have hcz19_4 : w18.cell? ⟨gb726, 4, none⟩ = some (.int .i64 x727004_1) := (blk_cell BK726.out 4).trans rfl; have hcz19_5 : w18.cell? ⟨gb726, 5, none⟩ = some (.int .i64 x727005_1) := (blk_cell BK726.out 5).trans rfl; have hcz19_6 : w18.cell? ⟨gb726, 6, none⟩ = some (.int .i64 x727006_1) := (blk_cell BK726.out 6).trans rfl; have hcz19_7 : w18.cell? ⟨gb726, 7, none⟩ = some (.int .i64 x727007_1) := (blk_cell BK726.out 7).trans rfl; have hcz19_8 : w18.cell? ⟨gb726, 8, none⟩ = some (.int .i64 x727008_1) := (blk_cell BK726.out 8).trans rfl; have hcz19_9 : w18.cell? ⟨gb726, 9, none⟩ = some (.int .i64 x727009_1) := (blk_cell BK726.out 9).trans rfl; have hfz19_0 := blk_frozen BK726.out 0; have hfz19_1 := blk_frozen BK726.out 1; have hfz19_2 := blk_frozen BK726.out 2; have hfz19_3 := blk_frozen BK726.out 3; have hfz19_4 := blk_frozen BK726.out 4; have hfz19_5 := blk_frozen BK726.out 5; have hfz19_6 := blk_frozen BK726.out 6; have hfz19_7 := blk_frozen BK726.out 7; have hfz19_8 := blk_frozen BK726.out 8; have hfz19_9 := blk_frozen BK726.out 9))
        go_roundg k1
        case measure => have := HK1.out; omega
        case rel => exact ⟨(wrap64 (x9_1 + 1)), (t729), (t730), (t731), (t732), (t733), (t734), (t735), (t736), (t737), (t738), (by first | rfl | (simp; done) | (simp [*]; done)), H', ⟨by have := HK1.out; omega⟩, ⟨by (with_reducible repeat (first | refine blk_drewN ?_ _ | refine blk_drew ?_ | refine blk_alloc ?_ _)); refine blk_far ?_ NB725_726.out _; (with_reducible repeat (first | refine blk_drewN ?_ _ | refine blk_drew ?_ | refine blk_alloc ?_ _)); refine blk_far ?_ NB725_726.out _; (with_reducible repeat (first | refine blk_drewN ?_ _ | refine blk_drew ?_ | refine blk_alloc ?_ _)); refine blk_far ?_ NB725_726.out _; (with_reducible repeat (first | refine blk_drewN ?_ _ | refine blk_drew ?_ | refine blk_alloc ?_ _)); refine blk_far ?_ NB725_726.out _; (with_reducible repeat (first | refine blk_drewN ?_ _ | refine blk_drew ?_ | refine blk_alloc ?_ _)); refine blk_far ?_ NB725_726.out _; (with_reducible repeat (first | refine blk_drewN ?_ _ | refine blk_drew ?_ | refine blk_alloc ?_ _)); refine blk_far ?_ NB725_726.out _; (with_reducible repeat (first | refine blk_drewN ?_ _ | refine blk_drew ?_ | refine blk_alloc ?_ _)); refine blk_far ?_ NB725_726.out _; (with_reducible repeat (first | refine blk_drewN ?_ _ | refine blk_drew ?_ | refine blk_alloc ?_ _)); refine blk_far ?_ NB725_726.out _; (with_reducible repeat (first | refine blk_drewN ?_ _ | refine blk_drew ?_ | refine blk_alloc ?_ _)); refine blk_far ?_ NB725_726.out _; (with_reducible repeat (first | refine blk_drewN ?_ _ | refine blk_drew ?_ | refine blk_alloc ?_ _)); refine blk_far ?_ NB725_726.out _; (with_reducible repeat (first | refine blk_drewN ?_ _ | refine blk_drew ?_ | refine blk_alloc ?_ _)); exact BK725.out⟩, ⟨by (with_reducible repeat (first | refine blk_drewN ?_ _ | refine blk_drew ?_ | refine blk_alloc ?_ _)); refine blk_put (cs := #[.int .i64 t729, .int .i64 t730, .int .i64 t731, .int .i64 t732, .int .i64 t733, .int .i64 t734, .int .i64 t735, .int .i64 t736, .int .i64 t737, .int .i64 x727009_1]) ?_ 9 _ rfl; (with_reducible repeat (first | refine blk_drewN ?_ _ | refine blk_drew ?_ | refine blk_alloc ?_ _)); refine blk_put (cs := #[.int .i64 t729, .int .i64 t730, .int .i64 t731, .int .i64 t732, .int .i64 t733, .int .i64 t734, .int .i64 t735, .int .i64 t736, .int .i64 x727008_1, .int .i64 x727009_1]) ?_ 8 _ rfl; (with_reducible repeat (first | refine blk_drewN ?_ _ | refine blk_drew ?_ | refine blk_alloc ?_ _)); refine blk_put (cs := #[.int .i64 t729, .int .i64 t730, .int .i64 t731, .int .i64 t732, .int .i64 t733, .int .i64 t734, .int .i64 t735, .int .i64 x727007_1, .int .i64 x727008_1, .int .i64 x727009_1]) ?_ 7 _ rfl; (with_reducible repeat (first | refine blk_drewN ?_ _ | refine blk_drew ?_ | refine blk_alloc ?_ _)); refine blk_put (cs := #[.int .i64 t729, .int .i64 t730, .int .i64 t731, .int .i64 t732, .int .i64 t733, .int .i64 t734, .int .i64 x727006_1, .int .i64 x727007_1, .int .i64 x727008_1, .int .i64 x727009_1]) ?_ 6 _ rfl; (with_reducible repeat (first | refine blk_drewN ?_ _ | refine blk_drew ?_ | refine blk_alloc ?_ _)); refine blk_put (cs := #[.int .i64 t729, .int .i64 t730, .int .i64 t731, .int .i64 t732, .int .i64 t733, .int .i64 x727005_1, .int .i64 x727006_1, .int .i64 x727007_1, .int .i64 x727008_1, .int .i64 x727009_1]) ?_ 5 _ rfl; (with_reducible repeat (first | refine blk_drewN ?_ _ | refine blk_drew ?_ | refine blk_alloc ?_ _)); refine blk_put (cs := #[.int .i64 t729, .int .i64 t730, .int .i64 t731, .int .i64 t732, .int .i64 x727004_1, .int .i64 x727005_1, .int .i64 x727006_1, .int .i64 x727007_1, .int .i64 x727008_1, .int .i64 x727009_1]) ?_ 4 _ rfl; (with_reducible repeat (first | refine blk_drewN ?_ _ | refine blk_drew ?_ | refine blk_alloc ?_ _)); refine blk_put (cs := #[.int .i64 t729, .int .i64 t730, .int .i64 t731, .int .i64 x727003_1, .int .i64 x727004_1, .int .i64 x727005_1, .int .i64 x727006_1, .int .i64 x727007_1, .int .i64 x727008_1, .int .i64 x727009_1]) ?_ 3 _ rfl; (with_reducible repeat (first | refine blk_drewN ?_ _ | refine blk_drew ?_ | refine blk_alloc ?_ _)); refine blk_put (cs := #[.int .i64 t729, .int .i64 t730, .int .i64 x727002_1, .int .i64 x727003_1, .int .i64 x727004_1, .int .i64 x727005_1, .int .i64 x727006_1, .int .i64 x727007_1, .int .i64 x727008_1, .int .i64 x727009_1]) ?_ 2 _ rfl; (with_reducible repeat (first | refine blk_drewN ?_ _ | refine blk_drew ?_ | refine blk_alloc ?_ _)); refine blk_put (cs := #[.int .i64 t729, .int .i64 x727001_1, .int .i64 x727002_1, .int .i64 x727003_1, .int .i64 x727004_1, .int .i64 x727005_1, .int .i64 x727006_1, .int .i64 x727007_1, .int .i64 x727008_1, .int .i64 x727009_1]) ?_ 1 _ rfl; (with_reducible repeat (first | refine blk_drewN ?_ _ | refine blk_drew ?_ | refine blk_alloc ?_ _)); refine blk_put (cs := #[.int .i64 x727000_1, .int .i64 x727001_1, .int .i64 x727002_1, .int .i64 x727003_1, .int .i64 x727004_1, .int .i64 x727005_1, .int .i64 x727006_1, .int .i64 x727007_1, .int .i64 x727008_1, .int .i64 x727009_1]) ?_ 0 _ rfl; (with_reducible repeat (first | refine blk_drewN ?_ _ | refine blk_drew ?_ | refine blk_alloc ?_ _)); exact BK726.out⟩, ⟨by (with_reducible repeat (first | refine blk_drewN ?_ _ | refine blk_drew ?_ | refine blk_alloc ?_ _)); refine blk_far ?_ NB727_726.out _; (with_reducible repeat (first | refine blk_drewN ?_ _ | refine blk_drew ?_ | refine blk_alloc ?_ _)); refine blk_far ?_ NB727_726.out _; (with_reducible repeat (first | refine blk_drewN ?_ _ | refine blk_drew ?_ | refine blk_alloc ?_ _)); refine blk_far ?_ NB727_726.out _; (with_reducible repeat (first | refine blk_drewN ?_ _ | refine blk_drew ?_ | refine blk_alloc ?_ _)); refine blk_far ?_ NB727_726.out _; (with_reducible repeat (first | refine blk_drewN ?_ _ | refine blk_drew ?_ | refine blk_alloc ?_ _)); refine blk_far ?_ NB727_726.out _; (with_reducible repeat (first | refine blk_drewN ?_ _ | refine blk_drew ?_ | refine blk_alloc ?_ _)); refine blk_far ?_ NB727_726.out _; (with_reducible repeat (first | refine blk_drewN ?_ _ | refine blk_drew ?_ | refine blk_alloc ?_ _)); refine blk_far ?_ NB727_726.out _; (with_reducible repeat (first | refine blk_drewN ?_ _ | refine blk_drew ?_ | refine blk_alloc ?_ _)); refine blk_far ?_ NB727_726.out _; (with_reducible repeat (first | refine blk_drewN ?_ _ | refine blk_drew ?_ | refine blk_alloc ?_ _)); refine blk_far ?_ NB727_726.out _; (with_reducible repeat (first | refine blk_drewN ?_ _ | refine blk_drew ?_ | refine blk_alloc ?_ _)); refine blk_far ?_ NB727_726.out _; (with_reducible repeat (first | refine blk_drewN ?_ _ | refine blk_drew ?_ | refine blk_alloc ?_ _)); exact BK727.out⟩, ⟨by repeat (first | (with_reducible first | exact HB.out | apply below_alloc | apply pw_below_drewN | apply below_drew1 | refine below_set ?_ GE725.out | refine below_set ?_ GE726.out | refine below_set ?_ GE727.out) | exact HB.out)⟩⟩
      · rw [if_neg c11] at H
        have c11b0 : decide (x9_1 < (wrap64 (t728 - 1))) = false := decide_eq_false c11
        clear c11
        simp only [Option.some.injEq, Prod.mk.injEq] at H
        obtain ⟨rfl, rfl, rfl, rfl, rfl, rfl, rfl, rfl, rfl, rfl⟩ := H
        have hnb20 := NB726_725.out
        have hnc20 := NB725_726.out
        have hnb21 := NB726_727.out
        have hnc21 := NB727_726.out
        have hcz22_0 : wr.cell? ⟨gb726, 0, none⟩ = some (.int .i64 x727000_1) := (blk_cell BK726.out 0).trans rfl
        have hcz22_1 : wr.cell? ⟨gb726, 1, none⟩ = some (.int .i64 x727001_1) := (blk_cell BK726.out 1).trans rfl
        have hcz22_2 : wr.cell? ⟨gb726, 2, none⟩ = some (.int .i64 x727002_1) := (blk_cell BK726.out 2).trans rfl
        have hcz22_3 : wr.cell? ⟨gb726, 3, none⟩ = some (.int .i64 x727003_1) := (blk_cell BK726.out 3).trans rfl
        have hcz22_4 : wr.cell? ⟨gb726, 4, none⟩ = some (.int .i64 x727004_1) := (blk_cell BK726.out 4).trans rfl
        have hcz22_5 : wr.cell? ⟨gb726, 5, none⟩ = some (.int .i64 x727005_1) := (blk_cell BK726.out 5).trans rfl
        have hcz22_6 : wr.cell? ⟨gb726, 6, none⟩ = some (.int .i64 x727006_1) := (blk_cell BK726.out 6).trans rfl
        have hcz22_7 : wr.cell? ⟨gb726, 7, none⟩ = some (.int .i64 x727007_1) := (blk_cell BK726.out 7).trans rfl
        have hcz22_8 : wr.cell? ⟨gb726, 8, none⟩ = some (.int .i64 x727008_1) := (blk_cell BK726.out 8).trans rfl
        have hcz22_9 : wr.cell? ⟨gb726, 9, none⟩ = some (.int .i64 x727009_1) := (blk_cell BK726.out 9).trans rfl
        have hfz22_0 := blk_frozen BK726.out 0
        have hfz22_1 := blk_frozen BK726.out 1
        have hfz22_2 := blk_frozen BK726.out 2
        have hfz22_3 := blk_frozen BK726.out 3
        have hfz22_4 := blk_frozen BK726.out 4
        have hfz22_5 := blk_frozen BK726.out 5
        have hfz22_6 := blk_frozen BK726.out 6
        have hfz22_7 := blk_frozen BK726.out 7
        have hfz22_8 := blk_frozen BK726.out 8
        have hfz22_9 := blk_frozen BK726.out 9
        have hnb23 := NB727_725.out
        have hnc23 := NB725_727.out
        have hcz24_0 : wr.cell? ⟨gb727, 0, none⟩ = some (.int .i64 0) := (blk_cell BK727.out 0).trans rfl
        have hcz24_1 : wr.cell? ⟨gb727, 1, none⟩ = some (.int .i64 0) := (blk_cell BK727.out 1).trans rfl
        have hcz24_2 : wr.cell? ⟨gb727, 2, none⟩ = some (.int .i64 0) := (blk_cell BK727.out 2).trans rfl
        have hcz24_3 : wr.cell? ⟨gb727, 3, none⟩ = some (.int .i64 0) := (blk_cell BK727.out 3).trans rfl
        have hcz24_4 : wr.cell? ⟨gb727, 4, none⟩ = some (.int .i64 0) := (blk_cell BK727.out 4).trans rfl
        have hcz24_5 : wr.cell? ⟨gb727, 5, none⟩ = some (.int .i64 0) := (blk_cell BK727.out 5).trans rfl
        have hcz24_6 : wr.cell? ⟨gb727, 6, none⟩ = some (.int .i64 0) := (blk_cell BK727.out 6).trans rfl
        have hcz24_7 : wr.cell? ⟨gb727, 7, none⟩ = some (.int .i64 0) := (blk_cell BK727.out 7).trans rfl
        have hcz24_8 : wr.cell? ⟨gb727, 8, none⟩ = some (.int .i64 0) := (blk_cell BK727.out 8).trans rfl
        have hcz24_9 : wr.cell? ⟨gb727, 9, none⟩ = some (.int .i64 0) := (blk_cell BK727.out 9).trans rfl
        have hfz24_0 := blk_frozen BK727.out 0
        have hfz24_1 := blk_frozen BK727.out 1
        have hfz24_2 := blk_frozen BK727.out 2
        have hfz24_3 := blk_frozen BK727.out 3
        have hfz24_4 := blk_frozen BK727.out 4
        have hfz24_5 := blk_frozen BK727.out 5
        have hfz24_6 := blk_frozen BK727.out 6
        have hfz24_7 := blk_frozen BK727.out 7
        have hfz24_8 := blk_frozen BK727.out 8
        have hfz24_9 := blk_frozen BK727.out 9
        go_wp2
        refine bodyPost_ret (results_cell_row rfl _ _ gb727 58 #[.int .i64 x727000_1, .int .i64 x727001_1, .int .i64 x727002_1, .int .i64 x727003_1, .int .i64 x727004_1, .int .i64 x727005_1, .int .i64 x727006_1, .int .i64 x727007_1, .int .i64 x727008_1, .int .i64 x727009_1] (0, 0) _ rfl (by (with_reducible repeat (first | refine blk_drewN ?_ _ | refine blk_drew ?_ | refine blk_alloc ?_ _)); refine blk_put (cs := #[.int .i64 x727000_1, .int .i64 x727001_1, .int .i64 x727002_1, .int .i64 x727003_1, .int .i64 x727004_1, .int .i64 x727005_1, .int .i64 x727006_1, .int .i64 x727007_1, .int .i64 x727008_1, .int .i64 0]) ?_ 9 _ rfl; (with_reducible repeat (first | refine blk_drewN ?_ _ | refine blk_drew ?_ | refine blk_alloc ?_ _)); refine blk_put (cs := #[.int .i64 x727000_1, .int .i64 x727001_1, .int .i64 x727002_1, .int .i64 x727003_1, .int .i64 x727004_1, .int .i64 x727005_1, .int .i64 x727006_1, .int .i64 x727007_1, .int .i64 0, .int .i64 0]) ?_ 8 _ rfl; (with_reducible repeat (first | refine blk_drewN ?_ _ | refine blk_drew ?_ | refine blk_alloc ?_ _)); refine blk_put (cs := #[.int .i64 x727000_1, .int .i64 x727001_1, .int .i64 x727002_1, .int .i64 x727003_1, .int .i64 x727004_1, .int .i64 x727005_1, .int .i64 x727006_1, .int .i64 0, .int .i64 0, .int .i64 0]) ?_ 7 _ rfl; (with_reducible repeat (first | refine blk_drewN ?_ _ | refine blk_drew ?_ | refine blk_alloc ?_ _)); refine blk_put (cs := #[.int .i64 x727000_1, .int .i64 x727001_1, .int .i64 x727002_1, .int .i64 x727003_1, .int .i64 x727004_1, .int .i64 x727005_1, .int .i64 0, .int .i64 0, .int .i64 0, .int .i64 0]) ?_ 6 _ rfl; (with_reducible repeat (first | refine blk_drewN ?_ _ | refine blk_drew ?_ | refine blk_alloc ?_ _)); refine blk_put (cs := #[.int .i64 x727000_1, .int .i64 x727001_1, .int .i64 x727002_1, .int .i64 x727003_1, .int .i64 x727004_1, .int .i64 0, .int .i64 0, .int .i64 0, .int .i64 0, .int .i64 0]) ?_ 5 _ rfl; (with_reducible repeat (first | refine blk_drewN ?_ _ | refine blk_drew ?_ | refine blk_alloc ?_ _)); refine blk_put (cs := #[.int .i64 x727000_1, .int .i64 x727001_1, .int .i64 x727002_1, .int .i64 x727003_1, .int .i64 0, .int .i64 0, .int .i64 0, .int .i64 0, .int .i64 0, .int .i64 0]) ?_ 4 _ rfl; (with_reducible repeat (first | refine blk_drewN ?_ _ | refine blk_drew ?_ | refine blk_alloc ?_ _)); refine blk_put (cs := #[.int .i64 x727000_1, .int .i64 x727001_1, .int .i64 x727002_1, .int .i64 0, .int .i64 0, .int .i64 0, .int .i64 0, .int .i64 0, .int .i64 0, .int .i64 0]) ?_ 3 _ rfl; (with_reducible repeat (first | refine blk_drewN ?_ _ | refine blk_drew ?_ | refine blk_alloc ?_ _)); refine blk_put (cs := #[.int .i64 x727000_1, .int .i64 x727001_1, .int .i64 0, .int .i64 0, .int .i64 0, .int .i64 0, .int .i64 0, .int .i64 0, .int .i64 0, .int .i64 0]) ?_ 2 _ rfl; (with_reducible repeat (first | refine blk_drewN ?_ _ | refine blk_drew ?_ | refine blk_alloc ?_ _)); refine blk_put (cs := #[.int .i64 x727000_1, .int .i64 0, .int .i64 0, .int .i64 0, .int .i64 0, .int .i64 0, .int .i64 0, .int .i64 0, .int .i64 0, .int .i64 0]) ?_ 1 _ rfl; (with_reducible repeat (first | refine blk_drewN ?_ _ | refine blk_drew ?_ | refine blk_alloc ?_ _)); refine blk_put (cs := #[.int .i64 0, .int .i64 0, .int .i64 0, .int .i64 0, .int .i64 0, .int .i64 0, .int .i64 0, .int .i64 0, .int .i64 0, .int .i64 0]) ?_ 0 _ rfl; (with_reducible repeat (first | refine blk_drewN ?_ _ | refine blk_drew ?_ | refine blk_alloc ?_ _)); exact BK727.out) Try.underlying58 rfl (by kernel_rfl)) rfl ?_
        exact ⟨by first | rfl | (simp [errW_none, errW_some] <;> rfl) | (simp [*, errW_none, errW_some] <;> rfl), by repeat (first | (with_reducible first | exact HB.out | apply below_alloc | apply pw_below_drewN | apply below_drew1 | refine below_set ?_ GE725.out | refine below_set ?_ GE726.out | refine below_set ?_ GE727.out) | exact HB.out)⟩

end Go.Proofs.Ytjahclncpgllmaa.F
end

section
namespace Go.Proofs.Ytjahclncpgllmaa.F
open Go.RowKit Go.Proofs.YtjahclncpgllmaaW.PrintWords Go.Proofs.YtjahclncpgllmaaW.PrintLast Go.Proofs.YtjahclncpgllmaaW.PrintMore
attribute [local go_sem] max2_int min2_int max_two min_two max_three min_three max_four min_four
set_option linter.unusedVariables false
set_option linter.unusedSimpArgs false

/-! ### impl_Poset_unpromoted: function 86 -/
def impl_Poset_unpromoted.l0 : Nat → Int → List Int → Int → Int → Int → Int → Int → Int → Int → Int → Int → Int → Option (Int × Int × Int × Int × Int × Int × Int × Int × Int × Int)
  | 0, _, _, _, _, _, _, _, _, _, _, _, _ => none
  | k + 1, x5, x740000, x741000, x741001, x741002, x741003, x741004, x741005, x741006, x741007, x741008, x741009 => if x5 ≥ 0 then ((impl_Poset_exchange.f x740000 x741000 x741001 x741002 x741003 x741004 x741005 x741006 x741007 x741008 x741009 x5).bind fun bt743 => (impl_Poset_unpromoted.l0 k (wrap64 (x5 - 1)) x740000 bt743.1 bt743.2.1 bt743.2.2.1 bt743.2.2.2.1 bt743.2.2.2.2.1 bt743.2.2.2.2.2.1 bt743.2.2.2.2.2.2.1 bt743.2.2.2.2.2.2.2.1 bt743.2.2.2.2.2.2.2.2.1 bt743.2.2.2.2.2.2.2.2.2)) else (some (x741000, x741001, x741002, x741003, x741004, x741005, x741006, x741007, x741008, x741009))
def impl_Poset_unpromoted.f (k : Nat) (l0_0 : List Int) (a1_0 : Int) (a1_1 : Int) (a1_2 : Int) (a1_3 : Int) (a1_4 : Int) (a1_5 : Int) (a1_6 : Int) (a1_7 : Int) (a1_8 : Int) (a1_9 : Int) : Option (Int × Int × Int × Int × Int × Int × Int × Int × Int × Int) := (impl_Poset_n.f l0_0).bind fun t742 => (impl_Poset_unpromoted.l0 k (wrap64 (t742 - 2)) l0_0 a1_0 a1_1 a1_2 a1_3 a1_4 a1_5 a1_6 a1_7 a1_8 a1_9)
theorem impl_Poset_unpromoted.mono_l : ∀ k, (∀ y0 y1 y2 y3 y4 y5 y6 y7 y8 y9 y10 y11, LeO (impl_Poset_unpromoted.l0 k y0 y1 y2 y3 y4 y5 y6 y7 y8 y9 y10 y11) (impl_Poset_unpromoted.l0 (k + 1) y0 y1 y2 y3 y4 y5 y6 y7 y8 y9 y10 y11))
  | 0 => fun _ _ _ _ _ _ _ _ _ _ _ _ r h => by simp [impl_Poset_unpromoted.l0] at h
  | k + 1 => by
    have ih0 := impl_Poset_unpromoted.mono_l k
    · intro y0 y1 y2 y3 y4 y5 y6 y7 y8 y9 y10 y11
      unfold impl_Poset_unpromoted.l0
      repeat' first
      | (with_reducible exact ih0 _ _ _ _ _ _ _ _ _ _ _ _)
      | (with_reducible exact LeO.refl _)
      | (with_reducible exact LeO.none _)
      | (with_reducible refine LeO.ite ?_ ?_)
      | (with_reducible refine LeO.bind ?_ (fun _ => ?_))
      | exact ih0 _ _ _ _ _ _ _ _ _ _ _ _
      | exact LeO.none _
      | refine LeO.ite ?_ ?_
      | refine LeO.bind ?_ (fun _ => ?_)
theorem impl_Poset_unpromoted.mono : ∀ a0 a1 a2 a3 a4 a5 a6 a7 a8 a9 a10 k, LeO (impl_Poset_unpromoted.f k a0 a1 a2 a3 a4 a5 a6 a7 a8 a9 a10) (impl_Poset_unpromoted.f (k + 1) a0 a1 a2 a3 a4 a5 a6 a7 a8 a9 a10) := by
  intro a0 a1 a2 a3 a4 a5 a6 a7 a8 a9 a10 k
  have ih0 := impl_Poset_unpromoted.mono_l k
  unfold impl_Poset_unpromoted.f
  repeat' first
      | (with_reducible exact ih0 _ _ _ _ _ _ _ _ _ _ _ _)
      | (with_reducible exact LeO.refl _)
      | (with_reducible exact LeO.none _)
      | (with_reducible refine LeO.ite ?_ ?_)
      | (with_reducible refine LeO.bind ?_ (fun _ => ?_))
      | exact ih0 _ _ _ _ _ _ _ _ _ _ _ _
      | exact LeO.none _
      | refine LeO.ite ?_ ?_
      | refine LeO.bind ?_ (fun _ => ?_)
set_option maxHeartbeats 8000000 in
set_option maxRecDepth 100000 in
theorem impl_Poset_unpromoted.calls (k : Nat) (A0_0 : Option Addr) (c0_0 : Nat) (l0_0 : List Int) (a1_0 : Int) (a1_1 : Int) (a1_2 : Int) (a1_3 : Int) (a1_4 : Int) (a1_5 : Int) (a1_6 : Int) (a1_7 : Int) (a1_8 : Int) (a1_9 : Int) (r1 : Int) (r2 : Int) (r3 : Int) (r4 : Int) (r5 : Int) (r6 : Int) (r7 : Int) (r8 : Int) (r9 : Int) (r10 : Int) (w : World) (hr0_0 : Kd.C (Kd.int .i64) w A0_0 l0_0.length l0_0) (hc0_0 : l0_0.length ≤ c0_0) (h : impl_Poset_unpromoted.f k l0_0 a1_0 a1_1 a1_2 a1_3 a1_4 a1_5 a1_6 a1_7 a1_8 a1_9 = some (r1, r2, r3, r4, r5, r6, r7, r8, r9, r10)) :
    Calls Try.prog 86 #[.agg #[.slice A0_0 l0_0.length c0_0], .agg #[.int .i64 a1_0, .int .i64 a1_1, .int .i64 a1_2, .int .i64 a1_3, .int .i64 a1_4, .int .i64 a1_5, .int .i64 a1_6, .int .i64 a1_7, .int .i64 a1_8, .int .i64 a1_9]] w fun e w' => e = .returned (.agg #[.int .i64 r1, .int .i64 r2, .int .i64 r3, .int .i64 r4, .int .i64 r5, .int .i64 r6, .int .i64 r7, .int .i64 r8, .int .i64 r9, .int .i64 r10]) ∧ Below w.heap.size w w' := by
  have hu28 := Try.underlying28
  have hu58 := Try.underlying58
  have HR0_0 := Aside0.mk hr0_0
  have HC0_0 := Aside0.mk hc0_0
  clear hr0_0 hc0_0
  have HB := Aside0.mk (Below.refl w.heap.size w)
  have H : ((impl_Poset_n.f l0_0).bind fun t742 => (impl_Poset_unpromoted.l0 k (wrap64 (t742 - 2)) l0_0 a1_0 a1_1 a1_2 a1_3 a1_4 a1_5 a1_6 a1_7 a1_8 a1_9)) = some (r1, r2, r3, r4, r5, r6, r7, r8, r9, r10) := h
  clear h
  replace H := Option.bind_eq_some_iff.mp H
  obtain ⟨t742, A30, H⟩ := H
  replace H : (impl_Poset_unpromoted.l0 k (wrap64 (t742 - 2)) l0_0 a1_0 a1_1 a1_2 a1_3 a1_4 a1_5 a1_6 a1_7 a1_8 a1_9) = some (r1, r2, r3, r4, r5, r6, r7, r8, r9, r10) := H
  have A3 := Aside0.mk A30
  clear A30
  have H' := Aside0.mk H
  clear H
  go_enter Try.func86, Try.ntmps86
  go_wp2_with (first | ((with_reducible refine gate_dst (N := 2) rfl ?_); refine box_event ?hg (N := 2) ?hd (cs := #[.slice A0_0 l0_0.length c0_0]) (t := 28) ?hr ?_; (case hd => rfl); (case hg => rfl); (case hr => first | (go_simp; done) | (go_simp; rfl)); intro gb739 hg w4 hbox hb; have n0_ := Aside0.mk (below_step (by repeat (first | (with_reducible first | exact HB.out | apply below_alloc | apply pw_below_drewN | apply below_drew1) | exact HB.out)) hb); have n1_ := Aside0.mk (hbox); have n2_ := Aside0.mk ((by rw [hg]; exact (below_size (by repeat (first | (with_reducible first | exact HB.out | apply below_alloc | apply pw_below_drewN | apply below_drew1) | exact HB.out))) : w.heap.size ≤ gb739)); have n3_ := Aside0.mk ((by rw [hg]; exact (below_size (by repeat (first | (with_reducible first | exact HB.out | apply below_alloc | apply pw_below_drewN | apply below_drew1) | exact HB.out))) : w.heap.size ≤ gb739)); clear HB; have HB := n0_; have BK739 := n1_; have GW739 := n2_; have GE739 := n3_; clear n0_ n1_ n2_ n3_; clear hb hbox hg) | ((with_reducible refine gate_dst (N := 3) rfl ?_); refine box_event ?hg (N := 3) ?hd (cs := #[.int .i64 a1_0, .int .i64 a1_1, .int .i64 a1_2, .int .i64 a1_3, .int .i64 a1_4, .int .i64 a1_5, .int .i64 a1_6, .int .i64 a1_7, .int .i64 a1_8, .int .i64 a1_9]) (t := 58) ?hr ?_; (case hd => rfl); (case hg => rfl); (case hr => first | (go_simp; done) | (go_simp; rfl)); intro gb740 hg w5 hbox hb; have n0_ := Aside0.mk (blk_below (g := gb739) (o := .cells #[.slice A0_0 l0_0.length c0_0] 28 (0, 0)) (by (with_reducible repeat (first | refine blk_drewN ?_ _ | refine blk_drew ?_ | refine blk_alloc ?_ _)); exact BK739.out) hb); have n1_ := Aside0.mk (below_step (by repeat (first | (with_reducible first | exact HB.out | apply below_alloc | apply pw_below_drewN | apply below_drew1 | refine below_set ?_ GE739.out) | exact HB.out)) hb); have n2_ := Aside0.mk (hbox); have n3_ := Aside0.mk ((by rw [hg]; exact (below_size (by repeat (first | (with_reducible first | exact HB.out | apply below_alloc | apply pw_below_drewN | apply below_drew1 | refine below_set ?_ GE739.out) | exact HB.out))) : w.heap.size ≤ gb740)); have n4_ := Aside0.mk ((by rw [hg]; exact (below_size (by repeat (first | (with_reducible first | exact HB.out | apply below_alloc | apply pw_below_drewN | apply below_drew1 | refine below_set ?_ GE739.out) | exact HB.out))) : w.heap.size ≤ gb740)); have n5_ := Aside0.mk ((by rw [hg]; exact Nat.ne_of_lt (blk_lt (g := gb739) (o := .cells #[.slice A0_0 l0_0.length c0_0] 28 (0, 0)) (by (with_reducible repeat (first | refine blk_drewN ?_ _ | refine blk_drew ?_ | refine blk_alloc ?_ _)); exact BK739.out)) : gb739 ≠ gb740)); have n6_ := Aside0.mk ((by rw [hg]; exact Nat.ne_of_gt (blk_lt (g := gb739) (o := .cells #[.slice A0_0 l0_0.length c0_0] 28 (0, 0)) (by (with_reducible repeat (first | refine blk_drewN ?_ _ | refine blk_drew ?_ | refine blk_alloc ?_ _)); exact BK739.out)) : gb740 ≠ gb739)); clear BK739; clear HB; have BK739 := n0_; have HB := n1_; have BK740 := n2_; have GW740 := n3_; have GE740 := n4_; have NB739_740 := n5_; have NB740_739 := n6_; clear n0_ n1_ n2_ n3_ n4_ n5_ n6_; clear hb hbox hg) | ((with_reducible refine gate_dst (N := 4) rfl ?_); refine box_event ?hg (N := 4) ?hd (cs := #[.int .i64 0, .int .i64 0, .int .i64 0, .int .i64 0, .int .i64 0, .int .i64 0, .int .i64 0, .int .i64 0, .int .i64 0, .int .i64 0]) (t := 58) ?hr ?_; (case hd => rfl); (case hg => rfl); (case hr => first | (go_simp; done) | (go_simp; rfl)); intro gb741 hg w6 hbox hb; have n0_ := Aside0.mk (blk_below (g := gb739) (o := .cells #[.slice A0_0 l0_0.length c0_0] 28 (0, 0)) (by (with_reducible repeat (first | refine blk_drewN ?_ _ | refine blk_drew ?_ | refine blk_alloc ?_ _)); exact BK739.out) hb); have n1_ := Aside0.mk (blk_below (g := gb740) (o := .cells #[.int .i64 a1_0, .int .i64 a1_1, .int .i64 a1_2, .int .i64 a1_3, .int .i64 a1_4, .int .i64 a1_5, .int .i64 a1_6, .int .i64 a1_7, .int .i64 a1_8, .int .i64 a1_9] 58 (0, 0)) (by (with_reducible repeat (first | refine blk_drewN ?_ _ | refine blk_drew ?_ | refine blk_alloc ?_ _)); exact BK740.out) hb); have n2_ := Aside0.mk (below_step (by repeat (first | (with_reducible first | exact HB.out | apply below_alloc | apply pw_below_drewN | apply below_drew1 | refine below_set ?_ GE739.out | refine below_set ?_ GE740.out) | exact HB.out)) hb); have n3_ := Aside0.mk (hbox); have n4_ := Aside0.mk ((by rw [hg]; exact (below_size (by repeat (first | (with_reducible first | exact HB.out | apply below_alloc | apply pw_below_drewN | apply below_drew1 | refine below_set ?_ GE739.out | refine below_set ?_ GE740.out) | exact HB.out))) : w.heap.size ≤ gb741)); have n5_ := Aside0.mk ((by rw [hg]; exact (below_size (by repeat (first | (with_reducible first | exact HB.out | apply below_alloc | apply pw_below_drewN | apply below_drew1 | refine below_set ?_ GE739.out | refine below_set ?_ GE740.out) | exact HB.out))) : w.heap.size ≤ gb741)); have n6_ := Aside0.mk ((by rw [hg]; exact Nat.ne_of_lt (blk_lt (g := gb739) (o := .cells #[.slice A0_0 l0_0.length c0_0] 28 (0, 0)) (by (with_reducible repeat (first | refine blk_drewN ?_ _ | refine blk_drew ?_ | refine blk_alloc ?_ _)); exact BK739.out)) : gb739 ≠ gb741)); have n7_ := Aside0.mk ((by rw [hg]; exact Nat.ne_of_gt (blk_lt (g := gb739) (o := .cells #[.slice A0_0 l0_0.length c0_0] 28 (0, 0)) (by (with_reducible repeat (first | refine blk_drewN ?_ _ | refine blk_drew ?_ | refine blk_alloc ?_ _)); exact BK739.out)) : gb741 ≠ gb739)); have n8_ := Aside0.mk ((by rw [hg]; exact Nat.ne_of_lt (blk_lt (g := gb740) (o := .cells #[.int .i64 a1_0, .int .i64 a1_1, .int .i64 a1_2, .int .i64 a1_3, .int .i64 a1_4, .int .i64 a1_5, .int .i64 a1_6, .int .i64 a1_7, .int .i64 a1_8, .int .i64 a1_9] 58 (0, 0)) (by (with_reducible repeat (first | refine blk_drewN ?_ _ | refine blk_drew ?_ | refine blk_alloc ?_ _)); exact BK740.out)) : gb740 ≠ gb741)); have n9_ := Aside0.mk ((by rw [hg]; exact Nat.ne_of_gt (blk_lt (g := gb740) (o := .cells #[.int .i64 a1_0, .int .i64 a1_1, .int .i64 a1_2, .int .i64 a1_3, .int .i64 a1_4, .int .i64 a1_5, .int .i64 a1_6, .int .i64 a1_7, .int .i64 a1_8, .int .i64 a1_9] 58 (0, 0)) (by (with_reducible repeat (first | refine blk_drewN ?_ _ | refine blk_drew ?_ | refine blk_alloc ?_ _)); exact BK740.out)) : gb741 ≠ gb740)); clear BK739; clear BK740; clear HB; have BK739 := n0_; have BK740 := n1_; have HB := n2_; have BK741 := n3_; have GW741 := n4_; have GE741 := n5_; have NB739_741 := n6_; have NB741_739 := n7_; have NB740_741 := n8_; have NB741_740 := n9_; clear n0_ n1_ n2_ n3_ n4_ n5_ n6_ n7_ n8_ n9_; clear hb hbox hg; have hnb7 := NB739_740.out; have hnc7 := NB740_739.out; have hnb8 := NB739_741.out; have hnc8 := NB741_739.out; have hcz9_0 : w6.cell? ⟨gb739, 0, none⟩ = some (.slice A0_0 l0_0.length c0_0) := (blk_cell BK739.out 0).trans rfl; have hfz9_0 := blk_frozen BK739.out 0) | ((with_reducible refine gate_callee (f := 58) rfl ?_); refine goesL_ (some 7) rfl rfl Try.func58 (by kernel_rfl) rfl #[.agg #[.slice A0_0 l0_0.length c0_0]] rfl (by (try simp only [List.map_toArray, List.map_cons, List.map_nil]); first | done | rfl | (simp only [List.length_drop, List.length_take]; rfl)) ?_; (with_reducible refine (impl_Poset_n.calls _ _ l0_0 t742 _ ?side1 ?side2 A3.out).mono ?_); (case side1 => repeat (first | exact (Kd.C_below HR0_0.out HB.out) | (with_reducible refine Kd.C_alloc ?_ _) | (with_reducible refine Kd.C_drewN ?_ _) | (with_reducible refine Kd.C_drew ?_))); (case side2 => exact HC0_0.out); rintro e w10 ⟨rfl, hb⟩; refine ⟨_, rfl, ?_⟩; have n0_ := Aside0.mk (blk_below (g := gb739) (o := .cells #[.slice A0_0 l0_0.length c0_0] 28 (0, 0)) (by (with_reducible repeat (first | refine blk_drewN ?_ _ | refine blk_drew ?_ | refine blk_alloc ?_ _)); exact BK739.out) hb); have n1_ := Aside0.mk (blk_below (g := gb740) (o := .cells #[.int .i64 a1_0, .int .i64 a1_1, .int .i64 a1_2, .int .i64 a1_3, .int .i64 a1_4, .int .i64 a1_5, .int .i64 a1_6, .int .i64 a1_7, .int .i64 a1_8, .int .i64 a1_9] 58 (0, 0)) (by (with_reducible repeat (first | refine blk_drewN ?_ _ | refine blk_drew ?_ | refine blk_alloc ?_ _)); exact BK740.out) hb); have n2_ := Aside0.mk (blk_below (g := gb741) (o := .cells #[.int .i64 0, .int .i64 0, .int .i64 0, .int .i64 0, .int .i64 0, .int .i64 0, .int .i64 0, .int .i64 0, .int .i64 0, .int .i64 0] 58 (0, 0)) (by (with_reducible repeat (first | refine blk_drewN ?_ _ | refine blk_drew ?_ | refine blk_alloc ?_ _)); exact BK741.out) hb); have n3_ := Aside0.mk (below_step (by repeat (first | (with_reducible first | exact HB.out | apply below_alloc | apply pw_below_drewN | apply below_drew1 | refine below_set ?_ GE739.out | refine below_set ?_ GE740.out | refine below_set ?_ GE741.out) | exact HB.out)) hb); clear BK739; clear BK740; clear BK741; clear HB; have BK739 := n0_; have BK740 := n1_; have BK741 := n2_; have HB := n3_; clear n0_ n1_ n2_ n3_; (try clear hb); (try clear hb2); (try clear hk); (try clear hi)))
  go_loopg [5] k (fun kq v5 w' => ∃ (x5_1 : Int) (x741000_1 : Int) (x741001_1 : Int) (x741002_1 : Int) (x741003_1 : Int) (x741004_1 : Int) (x741005_1 : Int) (x741006_1 : Int) (x741007_1 : Int) (x741008_1 : Int) (x741009_1 : Int), v5 = .int .i64 x5_1 ∧ Aside0 (impl_Poset_unpromoted.l0 kq x5_1 l0_0 x741000_1 x741001_1 x741002_1 x741003_1 x741004_1 x741005_1 x741006_1 x741007_1 x741008_1 x741009_1 = some (r1, r2, r3, r4, r5, r6, r7, r8, r9, r10)) ∧ Aside0 (kq ≤ k) ∧ Aside0 (w'.heap[gb739]? = some (.cells #[(.slice A0_0 l0_0.length c0_0)] 28 (0, 0))) ∧ Aside0 (w'.heap[gb740]? = some (.cells #[.int .i64 x741000_1, .int .i64 x741001_1, .int .i64 x741002_1, .int .i64 x741003_1, .int .i64 x741004_1, .int .i64 x741005_1, .int .i64 x741006_1, .int .i64 x741007_1, .int .i64 x741008_1, .int .i64 x741009_1] 58 (0, 0))) ∧ Aside0 (w'.heap[gb741]? = some (.cells #[.int .i64 0, .int .i64 0, .int .i64 0, .int .i64 0, .int .i64 0, .int .i64 0, .int .i64 0, .int .i64 0, .int .i64 0, .int .i64 0] 58 (0, 0))) ∧ Aside0 (Below w.heap.size w w'))
  case atStart => exact ⟨(wrap64 (t742 - 2)), (a1_0), (a1_1), (a1_2), (a1_3), (a1_4), (a1_5), (a1_6), (a1_7), (a1_8), (a1_9), (by first | rfl | (simp; done) | (simp [*]; done)), H', ⟨Nat.le_refl _⟩, ⟨by (with_reducible repeat (first | refine blk_drewN ?_ _ | refine blk_drew ?_ | refine blk_alloc ?_ _)); exact BK739.out⟩, ⟨by (with_reducible repeat (first | refine blk_drewN ?_ _ | refine blk_drew ?_ | refine blk_alloc ?_ _)); exact BK740.out⟩, ⟨by (with_reducible repeat (first | refine blk_drewN ?_ _ | refine blk_drew ?_ | refine blk_alloc ?_ _)); exact BK741.out⟩, ⟨by repeat (first | (with_reducible first | exact HB.out | apply below_alloc | apply pw_below_drewN | apply below_drew1 | refine below_set ?_ GE739.out | refine below_set ?_ GE740.out | refine below_set ?_ GE741.out) | exact HB.out)⟩⟩
  case round =>
    clear H'
    try clear p2
    try clear c5
    try clear p6
    try clear c7
    try clear c8
    try clear hcz9_0
    try clear hfz9_0
    obtain ⟨x5_1, x741000_1, x741001_1, x741002_1, x741003_1, x741004_1, x741005_1, x741006_1, x741007_1, x741008_1, x741009_1, rfl, HA, HK1, BK739, BK740, BK741, HB⟩ := hrel
    cases gk with
    | zero => exact absurd HA.out (by simp [impl_Poset_unpromoted.l0])
    | succ k1 =>
      have H := HA.out
      clear HA
      simp only [impl_Poset_unpromoted.l0] at H
      by_cases c11 : x5_1 ≥ 0
      · rw [if_pos c11] at H
        have c11b0 : decide (0 ≤ x5_1) = true := decide_eq_true c11
        clear c11
        replace H := Option.bind_eq_some_iff.mp H
        obtain ⟨⟨t743, t744, t745, t746, t747, t748, t749, t750, t751, t752⟩, A120, H⟩ := H
        replace H : (impl_Poset_unpromoted.l0 k1 (wrap64 (x5_1 - 1)) l0_0 t743 t744 t745 t746 t747 t748 t749 t750 t751 t752) = some (r1, r2, r3, r4, r5, r6, r7, r8, r9, r10) := H
        have A12 := Aside0.mk A120
        clear A120
        have H' := Aside0.mk H
        clear H
        have hnb13 := NB739_740.out
        have hnc13 := NB740_739.out
        have hnb14 := NB739_741.out
        have hnc14 := NB741_739.out
        have hcz15_0 : wr.cell? ⟨gb739, 0, none⟩ = some (.slice A0_0 l0_0.length c0_0) := (blk_cell BK739.out 0).trans rfl
        have hfz15_0 := blk_frozen BK739.out 0
        have hnb16 := NB740_741.out
        have hnc16 := NB741_740.out
        have hcz17_0 : wr.cell? ⟨gb740, 0, none⟩ = some (.int .i64 x741000_1) := (blk_cell BK740.out 0).trans rfl
        have hcz17_1 : wr.cell? ⟨gb740, 1, none⟩ = some (.int .i64 x741001_1) := (blk_cell BK740.out 1).trans rfl
        have hcz17_2 : wr.cell? ⟨gb740, 2, none⟩ = some (.int .i64 x741002_1) := (blk_cell BK740.out 2).trans rfl
        have hcz17_3 : wr.cell? ⟨gb740, 3, none⟩ = some (.int .i64 x741003_1) := (blk_cell BK740.out 3).trans rfl
        have hcz17_4 : wr.cell? ⟨gb740, 4, none⟩ = some (.int .i64 x741004_1) := (blk_cell BK740.out 4).trans rfl
        have hcz17_5 : wr.cell? ⟨gb740, 5, none⟩ = some (.int .i64 x741005_1) := (blk_cell BK740.out 5).trans rfl
        have hcz17_6 : wr.cell? ⟨gb740, 6, none⟩ = some (.int .i64 x741006_1) := (blk_cell BK740.out 6).trans rfl
        have hcz17_7 : wr.cell? ⟨gb740, 7, none⟩ = some (.int .i64 x741007_1) := (blk_cell BK740.out 7).trans rfl
        have hcz17_8 : wr.cell? ⟨gb740, 8, none⟩ = some (.int .i64 x741008_1) := (blk_cell BK740.out 8).trans rfl
        have hcz17_9 : wr.cell? ⟨gb740, 9, none⟩ = some (.int .i64 x741009_1) := (blk_cell BK740.out 9).trans rfl
        have hfz17_0 := blk_frozen BK740.out 0
        have hfz17_1 := blk_frozen BK740.out 1
        have hfz17_2 := blk_frozen BK740.out 2
        have hfz17_3 := blk_frozen BK740.out 3
        have hfz17_4 := blk_frozen BK740.out 4
        have hfz17_5 := blk_frozen BK740.out 5
        have hfz17_6 := blk_frozen BK740.out 6
        have hfz17_7 := blk_frozen BK740.out 7
        have hfz17_8 := blk_frozen BK740.out 8
        have hfz17_9 := blk_frozen BK740.out 9
        go_wp2_with (first | ((with_reducible refine gate_callee (f := 59) rfl ?_); refine goesL_ (some 16) rfl rfl Try.func59 (by kernel_rfl) rfl #[.agg #[.slice A0_0 l0_0.length c0_0], .agg #[.int .i64 x741000_1, .int .i64 x741001_1, .int .i64 x741002_1, .int .i64 x741003_1, .int .i64 x741004_1, .int .i64 x741005_1, .int .i64 x741006_1, .int .i64 x741007_1, .int .i64 x741008_1, .int .i64 x741009_1], .int .i64 x5_1] rfl (by (try simp only [List.map_toArray, List.map_cons, List.map_nil]); first | done | rfl | (simp only [List.length_drop, List.length_take]; rfl)) ?_; (with_reducible refine (impl_Poset_exchange.calls _ _ l0_0 x741000_1 x741001_1 x741002_1 x741003_1 x741004_1 x741005_1 x741006_1 x741007_1 x741008_1 x741009_1 x5_1 t743 t744 t745 t746 t747 t748 t749 t750 t751 t752 _ ?side1 ?side2 A12.out).mono ?_); (case side1 => repeat (first | exact (Kd.C_below HR0_0.out HB.out) | (with_reducible refine Kd.C_alloc ?_ _) | (with_reducible refine Kd.C_drewN ?_ _) | (with_reducible refine Kd.C_drew ?_))); (case side2 => exact HC0_0.out); rintro e w18 ⟨rfl, hb⟩; refine ⟨_, rfl, ?_⟩; have n0_ := Aside0.mk (blk_below (g := gb739) (o := .cells #[.slice A0_0 l0_0.length c0_0] 28 (0, 0)) (by (with_reducible repeat (first | refine blk_drewN ?_ _ | refine blk_drew ?_ | refine blk_alloc ?_ _)); exact BK739.out) hb); have n1_ := Aside0.mk (blk_below (g := gb740) (o := .cells #[.int .i64 x741000_1, .int .i64 x741001_1, .int .i64 x741002_1, .int .i64 x741003_1, .int .i64 x741004_1, .int .i64 x741005_1, .int .i64 x741006_1, .int .i64 x741007_1, .int .i64 x741008_1, .int .i64 x741009_1] 58 (0, 0)) (by (with_reducible repeat (first | refine blk_drewN ?_ _ | refine blk_drew ?_ | refine blk_alloc ?_ _)); exact BK740.out) hb); have n2_ := Aside0.mk (blk_below (g := gb741) (o := .cells #[.int .i64 0, .int .i64 0, .int .i64 0, .int .i64 0, .int .i64 0, .int .i64 0, .int .i64 0, .int .i64 0, .int .i64 0, .int .i64 0] 58 (0, 0)) (by (with_reducible repeat (first | refine blk_drewN ?_ _ | refine blk_drew ?_ | refine blk_alloc ?_ _)); exact BK741.out) hb); have n3_ := Aside0.mk (below_step (by repeat (first | (with_reducible first | exact HB.out | apply below_alloc | apply pw_below_drewN | apply below_drew1 | refine below_set ?_ GE739.out | refine below_set ?_ GE740.out | refine below_set ?_ GE741.out) | exact HB.out)) hb); clear BK739; clear BK740; clear BK741; clear HB; have BK739 := n0_; have BK740 := n1_; have BK741 := n2_; have HB := n3_; clear n0_ n1_ n2_ n3_; (try clear hb); (try clear hb2); (try clear hk); (try clear hi); have hcz19_0 : w18.cell? ⟨gb740, 0, none⟩ = some (.int .i64 x741000_1) := (blk_cell BK740.out 0).trans rfl; have hcz19_1 : w18.cell? ⟨gb740, 1, none⟩ = some (.int .i64 x741001_1) := (blk_cell BK740.out 1).trans rfl; have hcz19_2 : w18.cell? ⟨gb740, 2, none⟩ = some (.int .i64 x741002_1) := (blk_cell BK740.out 2).trans rfl; have hcz19_3 : w18.cell? ⟨gb740, 3, none⟩ = some (.int .i64 x741003_1) := (blk_cell BK740.out 3).trans rfl; have hcz19_4 : w18.cell? ⟨gb740, 4, none⟩ = some (.int .i64 x741004_1) := (blk_cell BK740.out 4).trans rfl; have hcz19_5 : w18.cell? ⟨gb740, 5, none⟩ = some (.int .i64 x741005_1) := (blk_cell BK740.out 5).trans rfl; have hcz19_6 : w18.cell? ⟨gb740, 6, none⟩ = some (.int .i64 x741006_1) := (blk_cell BK740.out 6).trans rfl; have hcz19_7 : w18.cell? ⟨gb740, 7, none⟩ = some (.int .i64 x741007_1) := (blk_cell BK740.out 7).trans rfl; have hcz19_8 : w18.cell? ⟨gb740, 8, none⟩ = some (.int .i64 x741008_1) := (blk_cell BK740.out 8).trans rfl; have hcz19_9 : w18.cell? ⟨gb740, 9, none⟩ = some (.int .i64 x741009_1) := (blk_cell BK740.out 9).trans rfl; have hfz19_0 := blk_frozen BK740.out 0; have hfz19_1 := blk_frozen BK740.out 1; have hfz19_2 := blk_frozen BK740.out 2; have hfz19_3 := blk_frozen BK740.out 3; have hfz19_4 := blk_frozen BK740.out 4; have hfz19_5 := blk_frozen BK740.out 5; have hfz19_6 := blk_frozen BK740.out 6; have hfz19_7 := blk_frozen BK740.out 7; have hfz19_8 := blk_frozen BK740.out 8; have hfz19_9 := blk_frozen BK740.out 9))
        go_roundg k1
        case measure => have := HK1.out; omega
        case rel => exact ⟨(wrap64 (x5_1 - 1)), (t743), (t744), (t745), (t746), (t747), (t748), (t749), (t750), (t751), (t752), (by first | rfl | (simp; done) | (simp [*]; done)), H', ⟨by have := HK1.out; omega⟩, ⟨by (with_reducible repeat (first | refine blk_drewN ?_ _ | refine blk_drew ?_ | refine blk_alloc ?_ _)); refine blk_far ?_ NB739_740.out _; (with_reducible repeat (first | refine blk_drewN ?_ _ | refine blk_drew ?_ | refine blk_alloc ?_ _)); refine blk_far ?_ NB739_740.out _; (with_reducible repeat (first | refine blk_drewN ?_ _ | refine blk_drew ?_ | refine blk_alloc ?_ _)); refine blk_far ?_ NB739_740.out _; (with_reducible repeat (first | refine blk_drewN ?_ _ | refine blk_drew ?_ | refine blk_alloc ?_ _)); refine blk_far ?_ NB739_740.out _; (with_reducible repeat (first | refine blk_drewN ?_ _ | refine blk_drew ?_ | refine blk_alloc ?_ _)); refine blk_far ?_ NB739_740.out _; (with_reducible repeat (first | refine blk_drewN ?_ _ | refine blk_drew ?_ | refine blk_alloc ?_ _)); refine blk_far ?_ NB739_740.out _; (with_reducible repeat (first | refine blk_drewN ?_ _ | refine blk_drew ?_ | refine blk_alloc ?_ _)); refine blk_far ?_ NB739_740.out _; (with_reducible repeat (first | refine blk_drewN ?_ _ | refine blk_drew ?_ | refine blk_alloc ?_ _)); refine blk_far ?_ NB739_740.out _; (with_reducible repeat (first | refine blk_drewN ?_ _ | refine blk_drew ?_ | refine blk_alloc ?_ _)); refine blk_far ?_ NB739_740.out _; (with_reducible repeat (first | refine blk_drewN ?_ _ | refine blk_drew ?_ | refine blk_alloc ?_ _)); refine blk_far ?_ NB739_740.out _; (with_reducible repeat (first | refine blk_drewN ?_ _ | refine blk_drew ?_ | refine blk_alloc ?_ _)); exact BK739.out⟩, ⟨by (with_reducible repeat (first | refine blk_drewN ?_ _ | refine blk_drew ?_ | refine blk_alloc ?_ _)); refine blk_put (cs := #[.int .i64 t743, .int .i64 t744, .int .i64 t745, .int .i64 t746, .int .i64 t747, .int .i64 t748, .int .i64 t749, .int .i64 t750, .int .i64 t751, .int .i64 x741009_1]) ?_ 9 _ rfl; (with_reducible repeat (first | refine blk_drewN ?_ _ | refine blk_drew ?_ | refine blk_alloc ?_ _)); refine blk_put (cs := #[.int .i64 t743, .int .i64 t744, .int .i64 t745, .int .i64 t746, .int .i64 t747, .int .i64 t748, .int .i64 t749, .int .i64 t750, .int .i64 x741008_1, .int .i64 x741009_1]) ?_ 8 _ rfl; (with_reducible repeat (first | refine blk_drewN ?_ _ | refine blk_drew ?_ | refine blk_alloc ?_ _)); refine blk_put (cs := #[.int .i64 t743, .int .i64 t744, .int .i64 t745, .int .i64 t746, .int .i64 t747, .int .i64 t748, .int .i64 t749, .int .i64 x741007_1, .int .i64 x741008_1, .int .i64 x741009_1]) ?_ 7 _ rfl; (with_reducible repeat (first | refine blk_drewN ?_ _ | refine blk_drew ?_ | refine blk_alloc ?_ _)); refine blk_put (cs := #[.int .i64 t743, .int .i64 t744, .int .i64 t745, .int .i64 t746, .int .i64 t747, .int .i64 t748, .int .i64 x741006_1, .int .i64 x741007_1, .int .i64 x741008_1, .int .i64 x741009_1]) ?_ 6 _ rfl; (with_reducible repeat (first | refine blk_drewN ?_ _ | refine blk_drew ?_ | refine blk_alloc ?_ _)); refine blk_put (cs := #[.int .i64 t743, .int .i64 t744, .int .i64 t745, .int .i64 t746, .int .i64 t747, .int .i64 x741005_1, .int .i64 x741006_1, .int .i64 x741007_1, .int .i64 x741008_1, .int .i64 x741009_1]) ?_ 5 _ rfl; (with_reducible repeat (first | refine blk_drewN ?_ _ | refine blk_drew ?_ | refine blk_alloc ?_ _)); refine blk_put (cs := #[.int .i64 t743, .int .i64 t744, .int .i64 t745, .int .i64 t746, .int .i64 x741004_1, .int .i64 x741005_1, .int .i64 x741006_1, .int .i64 x741007_1, .int .i64 x741008_1, .int .i64 x741009_1]) ?_ 4 _ rfl; (with_reducible repeat (first | refine blk_drewN ?_ _ | refine blk_drew ?_ | refine blk_alloc ?_ _)); refine blk_put (cs := #[.int .i64 t743, .int .i64 t744, .int .i64 t745, .int .i64 x741003_1, .int .i64 x741004_1, .int .i64 x741005_1, .int .i64 x741006_1, .int .i64 x741007_1, .int .i64 x741008_1, .int .i64 x741009_1]) ?_ 3 _ rfl; (with_reducible repeat (first | refine blk_drewN ?_ _ | refine blk_drew ?_ | refine blk_alloc ?_ _)); refine blk_put (cs := #[.int .i64 t743, .int .i64 t744, .int .i64 x741002_1, .int .i64 x741003_1, .int .i64 x741004_1, .int .i64 x741005_1, .int .i64 x741006_1, .int .i64 x741007_1, .int .i64 x741008_1, .int .i64 x741009_1]) ?_ 2 _ rfl; (with_reducible repeat (first | refine blk_drewN ?_ _ | refine blk_drew ?_ | refine blk_alloc ?_ _)); refine blk_put (cs := #[.int .i64 t743, .int .i64 x741001_1, .int .i64 x741002_1, .int .i64 x741003_1, .int .i64 x741004_1, .int .i64 x741005_1, .int .i64 x741006_1, .int .i64 x741007_1, .int .i64 x741008_1, .int .i64 x741009_1]) ?_ 1 _ rfl; (with_reducible repeat (first | refine blk_drewN ?_ _ | refine blk_drew ?_ | refine blk_alloc ?_ _)); refine blk_put (cs := #[.int .i64 x741000_1, .int .i64 x741001_1, .int .i64 x741002_1, .int .i64 x741003_1, .int .i64 x741004_1, .int .i64 x741005_1, .int .i64 x741006_1, .int .i64 x741007_1, .int .i64 x741008_1, .int .i64 x741009_1]) ?_ 0 _ rfl; (with_reducible repeat (first | refine blk_drewN ?_ _ | refine blk_drew ?_ | refine blk_alloc ?_ _)); exact BK740.out⟩, ⟨by (with_reducible repeat (first | refine blk_drewN ?_ _ | refine blk_drew ?_ | refine blk_alloc ?_ _)); refine blk_far ?_ NB741_740.out _; (with_reducible repeat (first | refine blk_drewN ?_ _ | refine blk_drew ?_ | refine blk_alloc ?_ _)); refine blk_far ?_ NB741_740.out _; (with_reducible repeat (first | refine blk_drewN ?_ _ | refine blk_drew ?_ | refine blk_alloc ?_ _)); refine blk_far ?_ NB741_740.out _; (with_reducible repeat (first | refine blk_drewN ?_ _ | refine blk_drew ?_ | refine blk_alloc ?_ _)); refine blk_far ?_ NB741_740.out _; (with_reducible repeat (first | refine blk_drewN ?_ _ | refine blk_drew ?_ | refine blk_alloc ?_ _)); refine blk_far ?_ NB741_740.out _; (with_reducible repeat (first | refine blk_drewN ?_ _ | refine blk_drew ?_ | refine blk_alloc ?_ _)); refine blk_far ?_ NB741_740.out _; (with_reducible repeat (first | refine blk_drewN ?_ _ | refine blk_drew ?_ | refine blk_alloc ?_ _)); refine blk_far ?_ NB741_740.out _; (with_reducible repeat (first | refine blk_drewN ?_ _ | refine blk_drew ?_ | refine blk_alloc ?_ _)); refine blk_far ?_ NB741_740.out _; (with_reducible repeat (first | refine blk_drewN ?_ _ | refine blk_drew ?_ | refine blk_alloc ?_ _)); refine blk_far ?_ NB741_740.out _; (with_reducible repeat (first | refine blk_drewN ?_ _ | refine blk_drew ?_ | refine blk_alloc ?_ _)); refine blk_far ?_ NB741_740.out _; (with_reducible repeat (first | refine blk_drewN ?_ _ | refine blk_drew ?_ | refine blk_alloc ?_ _)); exact BK741.out⟩, ⟨by repeat (first | (with_reducible first | exact HB.out | apply below_alloc | apply pw_below_drewN | apply below_drew1 | refine below_set ?_ GE739.out | refine below_set ?_ GE740.out | refine below_set ?_ GE741.out) | exact HB.out)⟩⟩
      · rw [if_neg c11] at H
        have c11b0 : decide (0 ≤ x5_1) = false := decide_eq_false c11
        clear c11
        simp only [Option.some.injEq, Prod.mk.injEq] at H
        obtain ⟨rfl, rfl, rfl, rfl, rfl, rfl, rfl, rfl, rfl, rfl⟩ := H
        have hnb20 := NB740_739.out
        have hnc20 := NB739_740.out
        have hnb21 := NB740_741.out
        have hnc21 := NB741_740.out
        have hcz22_0 : wr.cell? ⟨gb740, 0, none⟩ = some (.int .i64 x741000_1) := (blk_cell BK740.out 0).trans rfl
        have hcz22_1 : wr.cell? ⟨gb740, 1, none⟩ = some (.int .i64 x741001_1) := (blk_cell BK740.out 1).trans rfl
        have hcz22_2 : wr.cell? ⟨gb740, 2, none⟩ = some (.int .i64 x741002_1) := (blk_cell BK740.out 2).trans rfl
        have hcz22_3 : wr.cell? ⟨gb740, 3, none⟩ = some (.int .i64 x741003_1) := (blk_cell BK740.out 3).trans rfl
        have hcz22_4 : wr.cell? ⟨gb740, 4, none⟩ = some (.int .i64 x741004_1) := (blk_cell BK740.out 4).trans rfl
        have hcz22_5 : wr.cell? ⟨gb740, 5, none⟩ = some (.int .i64 x741005_1) := (blk_cell BK740.out 5).trans rfl
        have hcz22_6 : wr.cell? ⟨gb740, 6, none⟩ = some (.int .i64 x741006_1) := (blk_cell BK740.out 6).trans rfl
        have hcz22_7 : wr.cell? ⟨gb740, 7, none⟩ = some (.int .i64 x741007_1) := (blk_cell BK740.out 7).trans rfl
        have hcz22_8 : wr.cell? ⟨gb740, 8, none⟩ = some (.int .i64 x741008_1) := (blk_cell BK740.out 8).trans rfl
        have hcz22_9 : wr.cell? ⟨gb740, 9, none⟩ = some (.int .i64 x741009_1) := (blk_cell BK740.out 9).trans rfl
        have hfz22_0 := blk_frozen BK740.out 0
        have hfz22_1 := blk_frozen BK740.out 1
        have hfz22_2 := blk_frozen BK740.out 2
        have hfz22_3 := blk_frozen BK740.out 3
        have hfz22_4 := blk_frozen BK740.out 4
        have hfz22_5 := blk_frozen BK740.out 5
        have hfz22_6 := blk_frozen BK740.out 6
        have hfz22_7 := blk_frozen BK740.out 7
        have hfz22_8 := blk_frozen BK740.out 8
        have hfz22_9 := blk_frozen BK740.out 9
        have hnb23 := NB741_739.out
        have hnc23 := NB739_741.out
        have hcz24_0 : wr.cell? ⟨gb741, 0, none⟩ = some (.int .i64 0) := (blk_cell BK741.out 0).trans rfl
        have hcz24_1 : wr.cell? ⟨gb741, 1, none⟩ = some (.int .i64 0) := (blk_cell BK741.out 1).trans rfl
        have hcz24_2 : wr.cell? ⟨gb741, 2, none⟩ = some (.int .i64 0) := (blk_cell BK741.out 2).trans rfl
        have hcz24_3 : wr.cell? ⟨gb741, 3, none⟩ = some (.int .i64 0) := (blk_cell BK741.out 3).trans rfl
        have hcz24_4 : wr.cell? ⟨gb741, 4, none⟩ = some (.int .i64 0) := (blk_cell BK741.out 4).trans rfl
        have hcz24_5 : wr.cell? ⟨gb741, 5, none⟩ = some (.int .i64 0) := (blk_cell BK741.out 5).trans rfl
        have hcz24_6 : wr.cell? ⟨gb741, 6, none⟩ = some (.int .i64 0) := (blk_cell BK741.out 6).trans rfl
        have hcz24_7 : wr.cell? ⟨gb741, 7, none⟩ = some (.int .i64 0) := (blk_cell BK741.out 7).trans rfl
        have hcz24_8 : wr.cell? ⟨gb741, 8, none⟩ = some (.int .i64 0) := (blk_cell BK741.out 8).trans rfl
        have hcz24_9 : wr.cell? ⟨gb741, 9, none⟩ = some (.int .i64 0) := (blk_cell BK741.out 9).trans rfl
        have hfz24_0 := blk_frozen BK741.out 0
        have hfz24_1 := blk_frozen BK741.out 1
        have hfz24_2 := blk_frozen BK741.out 2
        have hfz24_3 := blk_frozen BK741.out 3
        have hfz24_4 := blk_frozen BK741.out 4
        have hfz24_5 := blk_frozen BK741.out 5
        have hfz24_6 := blk_frozen BK741.out 6
        have hfz24_7 := blk_frozen BK741.out 7
        have hfz24_8 := blk_frozen BK741.out 8
        have hfz24_9 := blk_frozen BK741.out 9
        go_wp2
        refine bodyPost_ret (results_cell_row rfl _ _ gb741 58 #[.int .i64 x741000_1, .int .i64 x741001_1, .int .i64 x741002_1, .int .i64 x741003_1, .int .i64 x741004_1, .int .i64 x741005_1, .int .i64 x741006_1, .int .i64 x741007_1, .int .i64 x741008_1, .int .i64 x741009_1] (0, 0) _ rfl (by (with_reducible repeat (first | refine blk_drewN ?_ _ | refine blk_drew ?_ | refine blk_alloc ?_ _)); refine blk_put (cs := #[.int .i64 x741000_1, .int .i64 x741001_1, .int .i64 x741002_1, .int .i64 x741003_1, .int .i64 x741004_1, .int .i64 x741005_1, .int .i64 x741006_1, .int .i64 x741007_1, .int .i64 x741008_1, .int .i64 0]) ?_ 9 _ rfl; (with_reducible repeat (first | refine blk_drewN ?_ _ | refine blk_drew ?_ | refine blk_alloc ?_ _)); refine blk_put (cs := #[.int .i64 x741000_1, .int .i64 x741001_1, .int .i64 x741002_1, .int .i64 x741003_1, .int .i64 x741004_1, .int .i64 x741005_1, .int .i64 x741006_1, .int .i64 x741007_1, .int .i64 0, .int .i64 0]) ?_ 8 _ rfl; (with_reducible repeat (first | refine blk_drewN ?_ _ | refine blk_drew ?_ | refine blk_alloc ?_ _)); refine blk_put (cs := #[.int .i64 x741000_1, .int .i64 x741001_1, .int .i64 x741002_1, .int .i64 x741003_1, .int .i64 x741004_1, .int .i64 x741005_1, .int .i64 x741006_1, .int .i64 0, .int .i64 0, .int .i64 0]) ?_ 7 _ rfl; (with_reducible repeat (first | refine blk_drewN ?_ _ | refine blk_drew ?_ | refine blk_alloc ?_ _)); refine blk_put (cs := #[.int .i64 x741000_1, .int .i64 x741001_1, .int .i64 x741002_1, .int .i64 x741003_1, .int .i64 x741004_1, .int .i64 x741005_1, .int .i64 0, .int .i64 0, .int .i64 0, .int .i64 0]) ?_ 6 _ rfl; (with_reducible repeat (first | refine blk_drewN ?_ _ | refine blk_drew ?_ | refine blk_alloc ?_ _)); refine blk_put (cs := #[.int .i64 x741000_1, .int .i64 x741001_1, .int .i64 x741002_1, .int .i64 x741003_1, .int .i64 x741004_1, .int .i64 0, .int .i64 0, .int .i64 0, .int .i64 0, .int .i64 0]) ?_ 5 _ rfl; (with_reducible repeat (first | refine blk_drewN ?_ _ | refine blk_drew ?_ | refine blk_alloc ?_ _)); refine blk_put (cs := #[.int .i64 x741000_1, .int .i64 x741001_1, .int .i64 x741002_1, .int .i64 x741003_1, .int .i64 0, .int .i64 0, .int .i64 0, .int .i64 0, .int .i64 0, .int .i64 0]) ?_ 4 _ rfl; (with_reducible repeat (first | refine blk_drewN ?_ _ | refine blk_drew ?_ | refine blk_alloc ?_ _)); refine blk_put (cs := #[.int .i64 x741000_1, .int .i64 x741001_1, .int .i64 x741002_1, .int .i64 0, .int .i64 0, .int .i64 0, .int .i64 0, .int .i64 0, .int .i64 0, .int .i64 0]) ?_ 3 _ rfl; (with_reducible repeat (first | refine blk_drewN ?_ _ | refine blk_drew ?_ | refine blk_alloc ?_ _)); refine blk_put (cs := #[.int .i64 x741000_1, .int .i64 x741001_1, .int .i64 0, .int .i64 0, .int .i64 0, .int .i64 0, .int .i64 0, .int .i64 0, .int .i64 0, .int .i64 0]) ?_ 2 _ rfl; (with_reducible repeat (first | refine blk_drewN ?_ _ | refine blk_drew ?_ | refine blk_alloc ?_ _)); refine blk_put (cs := #[.int .i64 x741000_1, .int .i64 0, .int .i64 0, .int .i64 0, .int .i64 0, .int .i64 0, .int .i64 0, .int .i64 0, .int .i64 0, .int .i64 0]) ?_ 1 _ rfl; (with_reducible repeat (first | refine blk_drewN ?_ _ | refine blk_drew ?_ | refine blk_alloc ?_ _)); refine blk_put (cs := #[.int .i64 0, .int .i64 0, .int .i64 0, .int .i64 0, .int .i64 0, .int .i64 0, .int .i64 0, .int .i64 0, .int .i64 0, .int .i64 0]) ?_ 0 _ rfl; (with_reducible repeat (first | refine blk_drewN ?_ _ | refine blk_drew ?_ | refine blk_alloc ?_ _)); exact BK741.out) Try.underlying58 rfl (by kernel_rfl)) rfl ?_
        exact ⟨by first | rfl | (simp [errW_none, errW_some] <;> rfl) | (simp [*, errW_none, errW_some] <;> rfl), by repeat (first | (with_reducible first | exact HB.out | apply below_alloc | apply pw_below_drewN | apply below_drew1 | refine below_set ?_ GE739.out | refine below_set ?_ GE740.out | refine below_set ?_ GE741.out) | exact HB.out)⟩

end Go.Proofs.Ytjahclncpgllmaa.F
end

section
namespace Go.Proofs.Ytjahclncpgllmaa.F
open Go.RowKit Go.Proofs.YtjahclncpgllmaaW.PrintWords Go.Proofs.YtjahclncpgllmaaW.PrintLast Go.Proofs.YtjahclncpgllmaaW.PrintMore
set_option linter.unusedVariables false
set_option linter.unusedSimpArgs false
def impl_line_list.f (a0_0 a0_1 a0_2 a0_3 a0_4 a0_5 a0_6 a0_7 a0_8 a0_9 : Int) (a1 : Int) : Option (List Int) := if 0 ≤ a1 ∧ a1 ≤ 10 then some ([a0_0, a0_1, a0_2, a0_3, a0_4, a0_5, a0_6, a0_7, a0_8, a0_9].take a1.toNat) else none
theorem impl_line_list.sz : (Try.prog.info? 3).map (·.size) = some 1 := by kernel_rfl
theorem impl_line_list.reads {w : World} {g : Nat} {t : TypeId} {a0_0 a0_1 a0_2 a0_3 a0_4 a0_5 a0_6 a0_7 a0_8 a0_9 : Int} (h : w.heap[g]? = some (.cells #[.int .i64 a0_0, .int .i64 a0_1, .int .i64 a0_2, .int .i64 a0_3, .int .i64 a0_4, .int .i64 a0_5, .int .i64 a0_6, .int .i64 a0_7, .int .i64 a0_8, .int .i64 a0_9] t (0, 0))) (n : Nat) (hn : n ≤ 10) :
    Kd.C (Kd.int .i64) w (some ⟨g, 0, none⟩) ([a0_0, a0_1, a0_2, a0_3, a0_4, a0_5, a0_6, a0_7, a0_8, a0_9].take n).length ([a0_0, a0_1, a0_2, a0_3, a0_4, a0_5, a0_6, a0_7, a0_8, a0_9].take n) := by
  refine Kd.C_of_reads (d := (0 : Int)) ⟨rfl, by rw [List.length_take]; simp only [List.length_cons, List.length_nil]; omega, fun _ => ⟨_, rfl, fun j hj => ?_⟩⟩
  rw [List.length_take] at hj
  have hj2 : j < 10 := by simp only [List.length_cons, List.length_nil] at hj; omega
  have hj3 : j < n := by omega
  have e : (Addr.mk g 0 none).add j = ⟨g, j, none⟩ := by unfold Addr.add; split <;> simp_all
  rw [e, blk_cell h j]
  have e2 : ([a0_0, a0_1, a0_2, a0_3, a0_4, a0_5, a0_6, a0_7, a0_8, a0_9].take n).getD j 0 = [a0_0, a0_1, a0_2, a0_3, a0_4, a0_5, a0_6, a0_7, a0_8, a0_9].getD j 0 := by rw [List.getD_eq_getElem?_getD, List.getElem?_take, if_pos hj3, List.getD_eq_getElem?_getD]
  rw [e2]
  match j, hj2 with
  | 0, _ => rfl
  | 1, _ => rfl
  | 2, _ => rfl
  | 3, _ => rfl
  | 4, _ => rfl
  | 5, _ => rfl
  | 6, _ => rfl
  | 7, _ => rfl
  | 8, _ => rfl
  | 9, _ => rfl
  | _ + 10, h => exact absurd h (by omega)
set_option maxHeartbeats 8000000 in
set_option maxRecDepth 100000 in
theorem impl_line_list.calls (a0_0 a0_1 a0_2 a0_3 a0_4 a0_5 a0_6 a0_7 a0_8 a0_9 : Int) (a1 : Int) (r : List Int) (w : World) (h : impl_line_list.f a0_0 a0_1 a0_2 a0_3 a0_4 a0_5 a0_6 a0_7 a0_8 a0_9 a1 = some r) :
    Calls Try.prog 61 #[.agg #[.int .i64 a0_0, .int .i64 a0_1, .int .i64 a0_2, .int .i64 a0_3, .int .i64 a0_4, .int .i64 a0_5, .int .i64 a0_6, .int .i64 a0_7, .int .i64 a0_8, .int .i64 a0_9], .int .i64 a1] w fun e w' => ∃ v0_ : Value, e = .returned (v0_) ∧ Kd.R (Kd.int .i64) 3 w' w.heap.size (fun _ => True) v0_ r ∧ Below w.heap.size w w' := by
  have hu58 := Try.underlying58
  have HB := Aside0.mk (Below.refl w.heap.size w)
  unfold impl_line_list.f at h
  by_cases hl : 0 ≤ a1 ∧ a1 ≤ 10
  rotate_left
  · rw [if_neg hl] at h; cases h
  rw [if_pos hl] at h
  obtain ⟨n, rfl⟩ := Int.eq_ofNat_of_zero_le hl.1
  have hn : n ≤ 10 := by omega
  rw [Int.toNat_natCast] at h
  have HR := Aside0.mk (Option.some.inj h)
  have hlen : ([a0_0, a0_1, a0_2, a0_3, a0_4, a0_5, a0_6, a0_7, a0_8, a0_9].take n).length = n := by rw [List.length_take]; simp only [List.length_cons, List.length_nil]; omega
  have HL := Aside0.mk hlen
  clear h hl hlen
  have hal : Try.prog.arrayLen 58 = 10 := by simp [Program.arrayLen, Try.underlying58]
  have hsl : ∀ (g_ : Nat) (W : World), (Instr.sliceAt 58 (.pointer (some ⟨g_, 0, none⟩)) none (some (.int .i64 (n : Int))) none).run Try.prog W = .ok (.slice (some ⟨g_, 0, none⟩) n 10) W := fun g_ W => by
    rw [run_sliceAt_array_h W 58 ⟨g_, 0, none⟩ (by simp [Program.arrayLen, Program.elem, Try.underlying58]) .i64 (n : Int) (by omega) (by rw [hal]; omega)]
    have hel : Try.prog.elem 58 = 3 := by simp [Program.elem, Try.underlying58]
    have hso : (sizeOf 3).run Try.prog W = .ok 1 W := by
      have hz := impl_line_list.sz
      cases hq : Try.prog.info? 3 with
      | none => rw [hq] at hz; cases hz
      | some i =>
        have hi : i.size = 1 := by rw [hq] at hz; exact Option.some.inj hz
        simp [sizeOf, typeInfo, hq, hi]
    rw [hal, hel, hso]
    show Result.ok (slicedAt ⟨g_, 0, none⟩ 0 n 10 1) W = _
    simp [slicedAt, Addr.add]
  clear hal
  go_enter Try.func61, Try.ntmps61
  go_wp2_with (first | ((with_reducible refine gate_dst (N := 2) rfl ?_); refine box_event ?hg (N := 2) ?hd (cs := #[.int .i64 a0_0, .int .i64 a0_1, .int .i64 a0_2, .int .i64 a0_3, .int .i64 a0_4, .int .i64 a0_5, .int .i64 a0_6, .int .i64 a0_7, .int .i64 a0_8, .int .i64 a0_9]) (t := 58) ?hr ?_; (case hd => rfl); (case hg => rfl); (case hr => first | (go_simp; done) | (go_simp; rfl)); intro g2 hg w2 hbox hb; have BK2 := Aside0.mk hbox; have GE2 := Aside0.mk (show w.heap.size ≤ g2 by omega); have HB2 := Aside0.mk (HB.out.trans hb); clear HB hbox hb hg) | (go_at_call 94; (refine calls_of_args (args' := #[.slice (some ⟨g2, 0, none⟩) ([a0_0, a0_1, a0_2, a0_3, a0_4, a0_5, a0_6, a0_7, a0_8, a0_9].take n).length 10]) (by rw [HL.out]) ?_); (with_reducible refine (slices_Clone_int_int.calls (some ⟨g2, 0, none⟩) 10 ([a0_0, a0_1, a0_2, a0_3, a0_4, a0_5, a0_6, a0_7, a0_8, a0_9].take n) r _ ?s1 ?s2 ?s3).mono ?_); (case s1 => exact impl_line_list.reads BK2.out n hn); (case s2 => rw [HL.out]; exact hn); (case s3 => unfold slices_Clone_int_int.f; rw [if_pos (by rw [HL.out]; omega), HR.out]); rintro e w3 ⟨v, rfl, ho, hb⟩; have HO := Aside0.mk ho; have HB3 := Aside0.mk (HB2.out.trans (Below.mono hb HB2.out.size)); have SZ := Aside0.mk HB2.out.size; clear ho hb HB2))
  go_ret
  exact ⟨_, rfl, Kd.R_lower HO.out SZ.out, HB3.out⟩
end Go.Proofs.Ytjahclncpgllmaa.F
end
