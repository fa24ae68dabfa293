/- Part 4 of the texts below the row of FnExactFromLattice: printed functions with their contracts, and plain lemmas. No condition. -/
import Derived.Test.YtfahkoimleiknaaZFnExactFromLattice3
import Derived.Lib.Hide
section
namespace Go.Proofs.Ytfahkoimleiknaa.Q
open Go.RowKit Go.Proofs.YtfahkoimleiknaaW.PrintWords
set_option linter.unusedVariables false
theorem wid {n : Int} (h0 : -9223372036854775808 ≤ n) (h1 : n ≤ 9223372036854775807) : wrap64 n = n := by unfold wrap64; omega
theorem wid1 {i n : Nat} (h : i < n) (hn : n ≤ 9223372036854775807) : wrap64 ((i : Int) + 1) = ((i + 1 : Nat) : Int) := by unfold wrap64; omega
theorem rdN (l : List Int) (i : Nat) : rd l (i : Int) = l.getD i 0 := by unfold rd; simp
theorem rdN' {l : List Int} {i : Nat} (h : i < l.length) : rd l (i : Int) = l[i] := by rw [rdN, List.getD_eq_getElem?_getD, List.getElem?_eq_getElem h]; rfl
theorem downTo {P : Nat → Prop} (n : Nat) (h0 : P n) (hs : ∀ i, i < n → P (i + 1) → P i) : ∀ i, i ≤ n → P i := by
  intro i hi
  obtain ⟨d, hd⟩ : ∃ d, n - i = d := ⟨_, rfl⟩
  induction d generalizing i with
  | zero => have : i = n := by omega
            subst this; exact h0
  | succ d ih => exact hs i (by omega) (ih (i + 1) (by omega) (by omega))
theorem evc {α : Type} {g : Nat → Option α} {r r' : α} (h : Ev g r) (e : r = r') : Ev g r' := e ▸ h
theorem Ev.ret {α : Type} {r r' : α} (e : r = r') : Ev (fun _ => some r) r' := e ▸ Ev.now r
/-- A call that needs no rounds. -/
theorem Ev.call {α β : Type} {o : Option α} {a : α} {f : Nat → α → Option β} {r : β} (h : o = some a) (k : Ev (fun n => f n a) r) : Ev (fun n => o.bind (f n)) r := by
  subst h; exact k
theorem Ev.yes {α : Type} {c : Prop} [Decidable c] {f g : Nat → Option α} {r : α} (h : c) (k : Ev f r) : Ev (fun n => if c then f n else g n) r := by
  obtain ⟨K, k⟩ := k
  exact ⟨K, fun n hn => by show (if c then f n else g n) = _; rw [if_pos h]; exact k n hn⟩
theorem Ev.no {α : Type} {c : Prop} [Decidable c] {f g : Nat → Option α} {r : α} (h : ¬ c) (k : Ev g r) : Ev (fun n => if c then f n else g n) r := by
  obtain ⟨K, k⟩ := k
  exact ⟨K, fun n hn => by show (if c then f n else g n) = _; rw [if_neg h]; exact k n hn⟩
theorem Ev.ite {α : Type} {c : Prop} [Decidable c] {f g : Nat → Option α} {r : α} (h1 : c → Ev f r) (h2 : ¬ c → Ev g r) : Ev (fun n => if c then f n else g n) r := by
  by_cases h : c
  · exact Ev.yes h (h1 h)
  · exact Ev.no h (h2 h)
theorem Ev.uniq {α : Type} {g : Nat → Option α} {r r' : α} (h : Ev g r) (h' : Ev g r') : r = r' := by
  obtain ⟨K, h⟩ := h
  obtain ⟨K', h'⟩ := h'
  have a := h (max K K') (by omega)
  have b := h' (max K K') (by omega)
  rw [a] at b
  exact Option.some.inj b
theorem Ev.const {α : Type} {o : Option α} {r : α} (h : o = some r) : Ev (fun _ => o) r := ⟨0, fun _ _ => h⟩

/-! ### bits -/
/-- The elements of a that are not in b. -/
def ndiff (a b : Nat) : Nat := a ^^^ (a &&& b)
theorem ndiff_bit (a b i : Nat) : (ndiff a b).testBit i = (a.testBit i && !b.testBit i) := by
  unfold ndiff; rw [Nat.testBit_xor, Nat.testBit_and]; cases a.testBit i <;> cases b.testBit i <;> rfl
theorem wrap_i64_id {n : Int} (h0 : -9223372036854775808 ≤ n) (h1 : n ≤ 9223372036854775807) : IntKind.i64.wrap n = n := by rw [IntKind.wrap_i64]; omega
theorem wraps62 (n : Int) (h0 : 0 ≤ n) (h1 : n < 2 ^ 62) : IntKind.i64.wrap n = n := wrap_i64_id (by omega) (by omega)
theorem bits_andN {a b : Nat} (ha : a < 2 ^ 62) (hb : b < 2 ^ 62) : Go.bits .and .i64 (a : Int) (b : Int) = ((a &&& b : Nat) : Int) :=
  (Go.bits_nat .i64 62 (by decide) wraps62 a b ha hb).1
theorem bits_orN {a b : Nat} (ha : a < 2 ^ 62) (hb : b < 2 ^ 62) : Go.bits .or .i64 (a : Int) (b : Int) = ((a ||| b : Nat) : Int) :=
  (Go.bits_nat .i64 62 (by decide) wraps62 a b ha hb).2
theorem lt_pow {a n m : Nat} (h : a < 2 ^ n) (hnm : n ≤ m) : a < 2 ^ m := Nat.lt_of_lt_of_le h (Nat.pow_le_pow_right (by decide) hnm)
theorem ndiff_le (a b : Nat) : ndiff a b ≤ a := by
  have h := Nat.and_le_left (n := a) (m := b)
  have hx : ndiff a b &&& (a &&& b) = 0 := by
    apply Nat.eq_of_testBit_eq
    intro i
    rw [Nat.testBit_and, ndiff_bit, Nat.testBit_and, Nat.zero_testBit]
    cases a.testBit i <;> cases b.testBit i <;> rfl
  apply Nat.le_of_testBit
  intro i hi
  rw [ndiff_bit] at hi
  simp at hi
  exact hi.1
theorem ndiff_lt {a b m : Nat} (h : a < m) : ndiff a b < m := Nat.lt_of_le_of_lt (ndiff_le a b) h
theorem bits_andNotN {a b : Nat} (ha : a < 2 ^ 62) (hb : b < 2 ^ 62) : Go.bits .andNot .i64 (a : Int) (b : Int) = ((ndiff a b : Nat) : Int) := by
  have e : Go.bits .andNot .i64 (a : Int) (b : Int) = IntKind.i64.wrap ((((BitVec.ofInt 64 a) &&& ~~~(BitVec.ofInt 64 b)).toNat : Nat) : Int) := rfl
  have e2 : ((BitVec.ofInt 64 (a : Int)) &&& ~~~(BitVec.ofInt 64 (b : Int))).toNat = ndiff a b := by
    apply Nat.eq_of_testBit_eq
    intro i
    rw [ndiff_bit, BitVec.ofInt_natCast, BitVec.ofInt_natCast]
    rw [BitVec.testBit_toNat, BitVec.getLsbD_and, BitVec.getLsbD_not, BitVec.getLsbD_ofNat, BitVec.getLsbD_ofNat]
    by_cases hi : i < 64
    · simp [hi]
    · have : a.testBit i = false := Nat.testBit_lt_two_pow (lt_pow ha (by omega))
      simp [hi, this]
  rw [e, e2]
  have h2 := ndiff_lt (b := b) ha
  exact wrap_i64_id (by omega) (by omega)
theorem shlN {i : Nat} (hi : i ≤ 61) : shl .i64 1 (i : Int) = ((2 ^ i : Nat) : Int) := by
  unfold shl
  have h1 : min (i : Int).toNat (IntKind.bits .i64) = i := by simp [IntKind.bits]; omega
  rw [h1]
  have h2 : (2 : Nat) ^ i < 2 ^ 62 := Nat.pow_lt_pow_right (by decide) (by omega)
  have e : (1 : Int) * 2 ^ i = ((2 ^ i : Nat) : Int) := by rw [Int.one_mul]; exact (Int.natCast_pow 2 i).symm
  rw [e]
  exact wraps62 _ (Int.natCast_nonneg _) (by
    have : ((2 ^ i : Nat) : Int) < ((4611686018427387904 : Nat) : Int) := by exact_mod_cast h2
    exact this)
theorem shrN (a i : Nat) (hi : i ≤ 64) : shr .i64 (a : Int) (i : Int) = ((a / 2 ^ i : Nat) : Int) := by
  unfold shr
  have h1 : min (i : Int).toNat (IntKind.bits .i64) = i := by simp [IntKind.bits]; omega
  rw [h1, Int.natCast_ediv, Int.natCast_pow]; rfl
theorem odd_bit (a i : Nat) : ((a / 2 ^ i) % 2 == 1) = a.testBit i := by
  rw [Nat.testBit_eq_decide_div_mod_eq]; rfl
theorem or_lt {a b n : Nat} (ha : a < 2 ^ n) (hb : b < 2 ^ n) : a ||| b < 2 ^ n := Nat.or_lt_two_pow ha hb
theorem bit_lt {a n i : Nat} (h : a < 2 ^ n) (hi : n ≤ i) : a.testBit i = false := Nat.testBit_lt_two_pow (lt_pow h hi)
theorem lt_of_bit {a n i : Nat} (h : a < 2 ^ n) (hi : a.testBit i = true) : i < n := by
  rcases Nat.lt_or_ge i n with h1 | h1
  · exact h1
  · rw [bit_lt h h1] at hi; cases hi
theorem pow_bit (i j : Nat) : (2 ^ i).testBit j = decide (i = j) := by
  rw [Nat.testBit_two_pow]
theorem pow_lt_pow {i n : Nat} (h : i < n) : 2 ^ i < 2 ^ n := Nat.pow_lt_pow_right (by decide) h
theorem ext_bits {a b n : Nat} (ha : a < 2 ^ n) (hb : b < 2 ^ n) (h : ∀ i, i < n → a.testBit i = b.testBit i) : a = b := by
  apply Nat.eq_of_testBit_eq
  intro i
  rcases Nat.lt_or_ge i n with h1 | h1
  · exact h i h1
  · rw [bit_lt ha h1, bit_lt hb h1]
end Go.Proofs.Ytfahkoimleiknaa.Q
end

section
namespace Go.Proofs.Ytfahkoimleiknaa.Q
open Go.RowKit Go.Proofs.YtfahkoimleiknaaW.PrintWords
set_option linter.unusedVariables false
/-- f holds at i, i + 1, .., n - 1. -/
def allFrom (f : Nat → Bool) (n i : Nat) : Bool := (List.range' i (n - i)).all f
theorem allFrom_end (f : Nat → Bool) (n : Nat) : allFrom f n n = true := by simp [allFrom]
theorem allFrom_step (f : Nat → Bool) {n i : Nat} (h : i < n) : allFrom f n i = (f i && allFrom f n (i + 1)) := by
  unfold allFrom
  obtain ⟨d, hd⟩ : ∃ d, n - i = d + 1 := ⟨n - i - 1, by omega⟩
  rw [hd, List.range'_succ, List.all_cons, show n - (i + 1) = d by omega]
theorem allFrom_iff (f : Nat → Bool) (n i : Nat) : allFrom f n i = true ↔ ∀ j, i ≤ j → j < n → f j = true := by
  unfold allFrom
  rw [List.all_eq_true]
  constructor
  · intro h j h1 h2
    exact h j (List.mem_range'_1.2 ⟨h1, by omega⟩)
  · intro h j hj
    obtain ⟨h1, h2⟩ := List.mem_range'_1.1 hj
    exact h j h1 (by omega)
theorem allFrom_congr {f g : Nat → Bool} {n i : Nat} (h : ∀ j, i ≤ j → j < n → f j = g j) : allFrom f n i = allFrom g n i := by
  rw [Bool.eq_iff_iff, allFrom_iff, allFrom_iff]
  exact ⟨fun H j a b => by rw [← h j a b]; exact H j a b, fun H j a b => by rw [h j a b]; exact H j a b⟩
theorem pow_int (i : Nat) : ((2 : Int) ^ i) = ((2 ^ i : Nat) : Int) := (Int.natCast_pow 2 i).symm
theorem mask_eq {i : Nat} (hi : i ≤ 61) : wrap64 ((shl .i64 1 (i : Int)) - 1) = (2 : Int) ^ i - 1 := by
  rw [shlN hi, pow_int]
  have h2 : (2 : Nat) ^ i ≤ 2 ^ 61 := Nat.pow_le_pow_right (by decide) hi
  have hp : 0 < 2 ^ i := Nat.two_pow_pos i
  apply wid <;> generalize 2 ^ i = z at * <;> omega
theorem bit_test {a : Nat} {j : Nat} (hj : j ≤ 64) : (Int.tmod (shr .i64 (a : Int) (j : Int)) 2 = 1) ↔ a.testBit j = true := by
  rw [shrN a j hj, Int.tmod_eq_emod_of_nonneg (Int.natCast_nonneg _), ← odd_bit, beq_iff_eq]
  omega
theorem range_false {a b : Int} {x : Int} (h : ¬ (a ≤ x ∧ x ≤ b)) : (decide (a ≤ x) && decide (x ≤ b)) = false := by
  rw [← Bool.not_eq_true, Bool.and_eq_true, decide_eq_true_eq, decide_eq_true_eq]; exact h
theorem range_true {a b : Int} {x : Int} (h : a ≤ x ∧ x ≤ b) : (decide (a ≤ x) && decide (x ≤ b)) = true := by
  rw [Bool.and_eq_true, decide_eq_true_eq, decide_eq_true_eq]; exact h
end Go.Proofs.Ytfahkoimleiknaa.Q
end

section
namespace Go.Proofs.Ytfahkoimleiknaa.Q
open Go.RowKit Go.Proofs.YtfahkoimleiknaaW.PrintWords Go.Proofs.Ytfahkoimleiknaa.F
set_option linter.unusedVariables false
theorem l1In_eq (a b c : Int) : spec_l1In.f a b c = some (decide (b ≤ a) && decide (a ≤ c)) := by
  unfold spec_l1In.f
  by_cases h : b ≤ a
  · rw [if_pos h]; simp [h]
  · rw [if_neg h]; simp [h]
end Go.Proofs.Ytfahkoimleiknaa.Q
end

section
namespace Go.Proofs.Ytfahkoimleiknaa.Q
open Go.RowKit Go.Proofs.YtfahkoimleiknaaW.PrintWords Go.Proofs.Ytfahkoimleiknaa.F
set_option linter.unusedVariables false
theorem has_eq {a j : Nat} (ha : a < 2 ^ 62) (hj : j ≤ 64) : impl_has.f (a : Int) (j : Int) = some (a.testBit j) := by
  unfold impl_has.f
  rw [if_pos (Int.natCast_nonneg _), shrN a j hj]
  congr 1
  have h1 : a / 2 ^ j < 2 ^ 62 := Nat.lt_of_le_of_lt (Nat.div_le_self _ _) ha
  have := bits_andN (a := a / 2 ^ j) (b := 1) h1 (by decide)
  rw [show ((1 : Nat) : Int) = 1 from rfl] at this
  rw [this, ← odd_bit, Nat.and_one_is_mod]
  rw [Bool.eq_iff_iff, beq_iff_eq, beq_iff_eq]
  omega

end Go.Proofs.Ytfahkoimleiknaa.Q
end

section
namespace Go.Proofs.Ytfahkoimleiknaa.Q
open Go.RowKit Go.Proofs.YtfahkoimleiknaaW.PrintWords Go.Proofs.Ytfahkoimleiknaa.F
set_option linter.unusedVariables false
def inR (a b x : Int) : Bool := decide (a ≤ x) && decide (x ≤ b)
theorem inR_iff {a b x : Int} : inR a b x = true ↔ a ≤ x ∧ x ≤ b := by unfold inR; rw [Bool.and_eq_true, decide_eq_true_eq, decide_eq_true_eq]
theorem l1All_ev (l : List Int) (a b : Int) (h : l.length ≤ 9223372036854775807) : Ev (fun k => spec_l1All.f k l a b) (allFrom (fun i => inR a b (l.getD i 0)) l.length 0) := by
  unfold spec_l1All.f
  have key : ∀ i, i ≤ l.length → Ev (fun k => spec_l1All.l0 k a b l (l.length : Int) (i : Int)) (allFrom (fun i => inR a b (l.getD i 0)) l.length i) := by
    refine downTo _ ?_ ?_
    · refine Ev.step (by intro k; simp only [spec_l1All.l0]; rfl) (Ev.no (by omega) (Ev.ret (allFrom_end _ _).symm))
    · intro i hi ih
      refine Ev.step (by intro k; simp only [spec_l1All.l0]; rfl) (Ev.yes (by omega) (Ev.yes (by omega) (Ev.yes (by omega) ?_)))
      rw [wid1 hi (by omega), rdN, allFrom_step _ hi]
      refine Ev.call (l1In_eq _ _ _) ?_
      show Ev (fun k => if inR a b (l.getD i 0) = true then _ else _) (inR a b (l.getD i 0) && _)
      cases inR a b (l.getD i 0) with
      | true => exact Ev.yes rfl (evc ih (by simp))
      | false => exact Ev.no (by simp) (Ev.ret rfl)
  exact key 0 (by omega)
end Go.Proofs.Ytfahkoimleiknaa.Q
end

section
namespace Go.Proofs.Ytfahkoimleiknaa.Q
open Go.RowKit Go.Proofs.YtfahkoimleiknaaW.PrintWords
set_option linter.unusedVariables false
theorem getD_set {α : Type} (l : List α) (i j : Nat) (v d : α) (hi : i < l.length) : (l.set i v).getD j d = if i = j then v else l.getD j d := by
  simp only [List.getD_eq_getElem?_getD, List.getElem?_set]
  by_cases h : i = j
  · subst h; simp [hi]
  · simp [h]
theorem ext_getD {a b : List Int} (hl : a.length = b.length) (h : ∀ i, i < a.length → a.getD i 0 = b.getD i 0) : a = b := by
  apply List.ext_getElem hl
  intro i h1 h2
  have := h i h1
  rw [List.getD_eq_getElem?_getD, List.getD_eq_getElem?_getD, List.getElem?_eq_getElem h1, List.getElem?_eq_getElem h2] at this
  exact this
theorem reverse_getD (l : List Int) (i : Nat) (h : i < l.length) : l.reverse.getD i 0 = l.getD (l.length - 1 - i) 0 := by
  rw [List.getD_eq_getElem?_getD, List.getD_eq_getElem?_getD, List.getElem?_reverse h]
end Go.Proofs.Ytfahkoimleiknaa.Q
end

section
namespace Go.Proofs.Ytfahkoimleiknaa.Q
open Go.RowKit Go.Proofs.YtfahkoimleiknaaW.PrintWords Go.Proofs.Ytfahkoimleiknaa.F
set_option linter.unusedVariables false
theorem eqIntS_ev (a b : List Int) (h : a.length ≤ 9223372036854775807) : Ev (fun k => laws_eqIntS.f k a b) (decide (a = b)) := by
  unfold laws_eqIntS.f
  refine Ev.ite (fun hl => ?_) (fun hl => Ev.ret ?_)
  · have hl' : a.length = b.length := by omega
    have key : ∀ i, i ≤ a.length → a.take i = b.take i → Ev (fun k => laws_eqIntS.l0 k a b (i : Int)) (decide (a = b)) := by
      refine downTo _ ?_ ?_
      · intro hp
        refine Ev.step (by intro k; simp only [laws_eqIntS.l0]; rfl) (Ev.no (by omega) (Ev.ret ?_))
        rw [List.take_length, hl', List.take_length] at hp
        simp [hp]
      · intro i hi ih hp
        refine Ev.step (by intro k; simp only [laws_eqIntS.l0]; rfl) (Ev.yes (by omega) (Ev.yes (by omega) (Ev.yes (by omega) ?_)))
        rw [wid1 hi (by omega), rdN, rdN]
        have ga : a.getD i 0 = a[i] := by rw [List.getD_eq_getElem?_getD, List.getElem?_eq_getElem hi]; rfl
        have gb : b.getD i 0 = b[i]'(by omega) := by rw [List.getD_eq_getElem?_getD, List.getElem?_eq_getElem (by omega)]; rfl
        rw [ga, gb]
        refine Ev.ite (fun h => ih ?_) (fun h => Ev.ret ?_)
        · rw [List.take_add_one, List.take_add_one, hp, List.getElem?_eq_getElem hi, List.getElem?_eq_getElem (show i < b.length by omega), h]
        · rw [decide_eq_false]
          intro e
          subst e
          exact h rfl
    exact key 0 (by omega) rfl
  · rw [decide_eq_false]
    intro e
    subst e
    exact hl rfl
theorem eqIntS_refl (a : List Int) (h : a.length ≤ 9223372036854775807) : Ev (fun k => laws_eqIntS.f k a a) true := evc (eqIntS_ev a a h) (by simp)
end Go.Proofs.Ytfahkoimleiknaa.Q
end

section
namespace Go.Proofs.Ytfahkoimleiknaa.Q
open Go.RowKit Go.Proofs.YtfahkoimleiknaaW.PrintWords Go.Proofs.Ytfahkoimleiknaa.F
set_option linter.unusedVariables false
theorem eqPoset_refl (a : List Int) (h : a.length ≤ 9223372036854775807) : Ev (fun k => laws_eqPoset.f k a a) true := by
  unfold laws_eqPoset.f
  exact Ev.bind (eqIntS_refl a h) (Ev.yes rfl (Ev.ret rfl))
end Go.Proofs.Ytfahkoimleiknaa.Q
end

section
namespace Go.Proofs.Ytfahkoimleiknaa.Q
open Go.RowKit Go.Proofs.YtfahkoimleiknaaW.PrintWords Go.Proofs.Ytfahkoimleiknaa.F
set_option linter.unusedVariables false
theorem szIntS_eq (l : List Int) (a : Nat) (ha : a ≤ 1048576) (h : l.length ≤ maxLen) : laws_szIntS.f l (a : Int) = some (if l.length ≤ a then ((a - l.length : Nat) : Int) else -1) := by
  unfold laws_szIntS.f
  unfold maxLen at h
  have e : wrap64 ((a : Int) - (l.length : Int)) = (a : Int) - (l.length : Int) := wid (by omega) (by omega)
  rw [e]
  by_cases hc : l.length ≤ a
  · rw [if_neg (by omega), if_pos hc]; congr 1; omega
  · rw [if_pos (by omega), if_neg hc]
end Go.Proofs.Ytfahkoimleiknaa.Q
end

section
namespace Go.Proofs.Ytfahkoimleiknaa.Q
open Go.RowKit Go.Proofs.YtfahkoimleiknaaW.PrintWords Go.Proofs.Ytfahkoimleiknaa.F
set_option linter.unusedVariables false
theorem szPoset_eq (l : List Int) (a : Nat) (ha : a ≤ 1048576) (h : l.length ≤ maxLen) : laws_szPoset.f l (a : Int) = some (if l.length ≤ a then ((a - l.length : Nat) : Int) else -1) := by
  unfold laws_szPoset.f
  rw [szIntS_eq l a ha h]
  by_cases hc : l.length ≤ a
  · simp only [if_pos hc, Option.bind_some]; rw [if_neg (by omega)]
  · simp only [if_neg hc, Option.bind_some]; rw [if_pos (by omega)]
end Go.Proofs.Ytfahkoimleiknaa.Q
end

section
namespace Go.Proofs.Ytfahkoimleiknaa.Q
open Go.RowKit Go.Proofs.YtfahkoimleiknaaW.PrintWords Go.Proofs.Ytfahkoimleiknaa.F
set_option linter.unusedVariables false
theorem toIntS_ev (l : List Int) (h : l.length ≤ 1048576) : Ev (fun k => laws_toIntS.f k l) l := by
  unfold laws_toIntS.f
  refine Ev.yes (by omega) (Ev.yes (by omega) ?_)
  have key : ∀ i, i ≤ l.length → ∀ acc : List Int, acc.length = l.length → acc.take i = l.take i → Ev (fun k => laws_toIntS.l0 k l acc (i : Int)) l := by
    refine downTo _ ?_ ?_
    · intro acc ha hi
      refine Ev.step (by intro k; simp only [laws_toIntS.l0]; rfl) (Ev.no (by omega) (Ev.ret ?_))
      rw [List.take_length, ← ha, List.take_length] at hi
      exact hi
    · intro i hi ih acc ha hp
      refine Ev.step (by intro k; simp only [laws_toIntS.l0]; rfl) (Ev.yes (by omega) (Ev.yes (by omega) (Ev.yes (by omega) ?_)))
      rw [wid1 hi (by omega), rdN, Int.toNat_natCast]
      refine ih _ (by simp [ha]) ?_
      rw [List.take_add_one, List.take_add_one, List.take_set_of_le (Nat.le_refl _), hp, List.getElem?_set, List.getD_eq_getElem?_getD, List.getElem?_eq_getElem hi]
      simp [ha, hi]
  exact key 0 (by omega) _ (by simp) (by simp)
end Go.Proofs.Ytfahkoimleiknaa.Q
end

section
namespace Go.Proofs.Ytfahkoimleiknaa.Q
open Go.RowKit Go.Proofs.YtfahkoimleiknaaW.PrintWords Go.Proofs.Ytfahkoimleiknaa.F
set_option linter.unusedVariables false
theorem toPoset_ev (l : List Int) (h : l.length ≤ 1048576) : Ev (fun k => laws_toPoset.f k l) l := by
  unfold laws_toPoset.f
  exact Ev.bind (toIntS_ev l h) (Ev.ret rfl)
end Go.Proofs.Ytfahkoimleiknaa.Q
end

section
namespace Go.Proofs.Ytfahkoimleiknaa.Q
open Go.RowKit Go.Proofs.YtfahkoimleiknaaW.PrintWords
set_option linter.unusedVariables false
/-- a, a + 1, .., n of them. -/
def upFrom (a : Nat) (n : Nat) : List Int := (List.range' a n).map Int.ofNat
theorem upFrom_len (a n : Nat) : (upFrom a n).length = n := by simp [upFrom]
theorem upFrom_get {a n i : Nat} (h : i < n) : (upFrom a n).getD i 0 = ((a + i : Nat) : Int) := by
  rw [List.getD_eq_getElem?_getD]
  simp [upFrom, h]
end Go.Proofs.Ytfahkoimleiknaa.Q
end

section
namespace Go.Proofs.Ytfahkoimleiknaa.Q
open Go.RowKit Go.Proofs.YtfahkoimleiknaaW.PrintWords Go.Proofs.Ytfahkoimleiknaa.F
set_option linter.unusedVariables false
theorem heldIntS_ev (a n : Nat) (h : a + n ≤ 4611686018427387904) : Ev (fun k => laws_heldIntS.f k (upFrom a n) (a : Int)) ((a + n : Nat) : Int) := by
  unfold laws_heldIntS.f
  have key : ∀ i, i ≤ n → Ev (fun k => laws_heldIntS.l0 k (upFrom a n) ((a + i : Nat) : Int) (i : Int)) ((a + n : Nat) : Int) := by
    refine downTo _ ?_ ?_
    · refine Ev.step (by intro k; simp only [laws_heldIntS.l0]; rfl) (Ev.no (by rw [upFrom_len]; omega) (Ev.ret rfl))
    · intro i hi ih
      refine Ev.step (by intro k; simp only [laws_heldIntS.l0]; rfl) (Ev.yes (by rw [upFrom_len]; omega) (Ev.yes (by omega) (Ev.yes ?_ ?_)))
      · rw [rdN, upFrom_get hi]
      · rw [wid1 hi (by omega), wid1 (i := a + i) (n := a + n) (by omega) (by omega)]
        exact ih
  exact key 0 (by omega)
theorem heldIntS_ev1 (n : Nat) (h : n ≤ 4611686018427387000) : Ev (fun k => laws_heldIntS.f k (upFrom 1 n) 1) ((1 + n : Nat) : Int) := heldIntS_ev 1 n (by omega)
end Go.Proofs.Ytfahkoimleiknaa.Q
end

section
namespace Go.Proofs.Ytfahkoimleiknaa.Q
open Go.RowKit Go.Proofs.YtfahkoimleiknaaW.PrintWords Go.Proofs.Ytfahkoimleiknaa.F
set_option linter.unusedVariables false
theorem markIntS_ev (l : List Int) (a : Nat) (h : a + l.length ≤ 4611686018427387904) : Ev (fun k => laws_markIntS.f k l (a : Int)) (((a + l.length : Nat) : Int), upFrom a l.length) := by
  unfold laws_markIntS.f
  have key : ∀ i, i ≤ l.length → ∀ acc : List Int, acc.length = l.length → acc.take i = upFrom a i → Ev (fun k => laws_markIntS.l0 k acc ((a + i : Nat) : Int) (i : Int)) (((a + l.length : Nat) : Int), upFrom a l.length) := by
    refine downTo _ ?_ ?_
    · intro acc ha hp
      refine Ev.step (by intro k; simp only [laws_markIntS.l0]; rfl) (Ev.no (by omega) (Ev.ret ?_))
      rw [← ha, List.take_length] at hp
      rw [hp, ha]
    · intro i hi ih acc ha hp
      refine Ev.step (by intro k; simp only [laws_markIntS.l0]; rfl) (Ev.yes (by omega) (Ev.yes (by omega) ?_))
      rw [wid1 hi (by omega), wid1 (i := a + i) (n := a + l.length) (by omega) (by omega), Int.toNat_natCast]
      refine ih _ (by simp [ha]) ?_
      rw [List.take_add_one, List.take_set_of_le (Nat.le_refl _), hp, List.getElem?_set]
      simp [ha, hi, upFrom, List.range'_concat]
  exact key 0 (by omega) l rfl (by simp [upFrom])
theorem markIntS_ev1 (l : List Int) (h : l.length ≤ 4611686018427387000) : Ev (fun k => laws_markIntS.f k l 1) (((1 + l.length : Nat) : Int), upFrom 1 l.length) := markIntS_ev l 1 (by omega)
end Go.Proofs.Ytfahkoimleiknaa.Q
end

section
namespace Go.Proofs.Ytfahkoimleiknaa.Q
open Go.RowKit Go.Proofs.YtfahkoimleiknaaW.PrintWords Go.Proofs.Ytfahkoimleiknaa.F
set_option linter.unusedVariables false
theorem markPoset_ev (l : List Int) (a : Nat) (h : a + l.length ≤ 4611686018427387904) : Ev (fun k => laws_markPoset.f k l (a : Int)) (((a + l.length : Nat) : Int), upFrom a l.length) := by
  unfold laws_markPoset.f
  exact Ev.bind (markIntS_ev l a h) (Ev.ret rfl)
theorem markPoset_ev1 (l : List Int) (h : l.length ≤ 4611686018427387000) : Ev (fun k => laws_markPoset.f k l 1) (((1 + l.length : Nat) : Int), upFrom 1 l.length) := markPoset_ev l 1 (by omega)
end Go.Proofs.Ytfahkoimleiknaa.Q
end

section
namespace Go.Proofs.Ytfahkoimleiknaa.Q
end Go.Proofs.Ytfahkoimleiknaa.Q
end

section
namespace Go.Proofs.Ytfahkoimleiknaa.Q
open Go.RowKit Go.Proofs.YtfahkoimleiknaaW.PrintWords Go.Proofs.Ytfahkoimleiknaa.F
set_option linter.unusedVariables false
theorem rdL_get {rows : List (List Int)} {i : Nat} (h : i < rows.length) : rd_L1 rows (i : Int) = rows[i] := by
  unfold rd_L1; rw [Int.toNat_natCast, List.getD_eq_getElem?_getD, List.getElem?_eq_getElem h]; rfl
def szGo : List (List Int) → Nat → Int
  | [], a => (a : Int)
  | x :: l, a => if x.length ≤ a then szGo l (a - x.length) else -1
def szR (rows : List (List Int)) (a : Nat) : Int := if rows.length ≤ a then szGo rows (a - rows.length) else -1
theorem szGo_small (rows : List (List Int)) (a : Nat) (h : ¬ szGo rows a < 0) : ∀ q ∈ rows, q.length ≤ a := by
  induction rows generalizing a with
  | nil => intro q hq; cases hq
  | cons x l ih =>
    unfold szGo at h
    by_cases hx : x.length ≤ a
    · rw [if_pos hx] at h
      intro q hq
      rcases List.mem_cons.1 hq with rfl | hq
      · exact hx
      · have := ih _ h q hq; omega
    · rw [if_neg hx] at h; omega
theorem szRows_small {rows : List (List Int)} (h : ¬ szR rows 1048576 < 0) : rows.length ≤ 1048576 ∧ ∀ q ∈ rows, q.length ≤ 1048576 := by
  unfold szR at h
  by_cases hx : rows.length ≤ 1048576
  · rw [if_pos hx] at h
    exact ⟨hx, fun q hq => by have := szGo_small rows _ h q hq; omega⟩
  · rw [if_neg hx] at h; omega
theorem szIntSS_ev (rows : List (List Int)) (a : Nat) (ha : a ≤ 1048576) (h : rows.length ≤ maxLen) (h2 : ∀ q ∈ rows, q.length ≤ maxLen) : Ev (fun k => laws_szIntSS.f k rows (a : Int)) (szR rows a) := by
  unfold laws_szIntSS.f szR
  have hm := h
  unfold maxLen at hm
  have e : wrap64 ((a : Int) - (rows.length : Int)) = (a : Int) - (rows.length : Int) := wid (by omega) (by omega)
  rw [e]
  by_cases hc : rows.length ≤ a
  · rw [if_pos hc]
    refine Ev.no (by omega) ?_
    have key : ∀ i, i ≤ rows.length → ∀ b : Nat, b ≤ a → Ev (fun k => laws_szIntSS.l0 k rows (b : Int) (i : Int)) (szGo (rows.drop i) b) := by
      refine downTo _ ?_ ?_
      · intro b _
        refine Ev.step (by intro k; simp only [laws_szIntSS.l0]; rfl) (Ev.no (by omega) (Ev.ret ?_))
        rw [List.drop_length]; rfl
      · intro i hi ih b hb
        refine Ev.step (by intro k; simp only [laws_szIntSS.l0]; rfl) (Ev.yes (by omega) (Ev.yes (by omega) ?_))
        rw [rdL_get hi, wid1 hi (by omega)]
        refine Ev.call (szIntS_eq rows[i] b (by omega) (h2 _ (List.getElem_mem hi))) ?_
        rw [List.drop_eq_getElem_cons hi, szGo]
        by_cases hx : rows[i].length ≤ b
        · rw [if_pos hx, if_pos hx]
          exact Ev.no (by omega) (ih _ (by omega))
        · rw [if_neg hx, if_neg hx]
          exact Ev.yes (by omega) (Ev.ret rfl)
    have ea : (a : Int) - (rows.length : Int) = ((a - rows.length : Nat) : Int) := by omega
    rw [ea]
    exact key 0 (by omega) _ (by omega)
  · rw [if_neg hc]
    exact Ev.yes (by omega) (Ev.ret rfl)
theorem toIntSS_ev (l : List (List Int)) (h : l.length ≤ 1048576) (h2 : ∀ q ∈ l, q.length ≤ 1048576) : Ev (fun k => laws_toIntSS.f k l) l := by
  unfold laws_toIntSS.f
  refine Ev.yes (by omega) (Ev.yes (by omega) ?_)
  have key : ∀ i, i ≤ l.length → ∀ acc : List (List Int), acc.length = l.length → acc.take i = l.take i → Ev (fun k => laws_toIntSS.l0 k l acc (i : Int)) l := by
    refine downTo _ ?_ ?_
    · intro acc ha hi
      refine Ev.step (by intro k; simp only [laws_toIntSS.l0]; rfl) (Ev.no (by omega) (Ev.ret ?_))
      rw [List.take_length, ← ha, List.take_length] at hi
      exact hi
    · intro i hi ih acc ha hp
      refine Ev.step (by intro k; simp only [laws_toIntSS.l0]; rfl) (Ev.yes (by omega) (Ev.yes (by omega) ?_))
      rw [rdL_get hi, wid1 hi (by omega)]
      refine Ev.bind (toIntS_ev _ (h2 _ (List.getElem_mem hi))) (Ev.yes (by omega) ?_)
      rw [Int.toNat_natCast]
      refine ih _ (by simp [ha]) ?_
      rw [List.take_add_one, List.take_add_one, List.take_set_of_le (Nat.le_refl _), hp, List.getElem?_set, List.getElem?_eq_getElem hi]
      simp [ha, hi]
  exact key 0 (by omega) _ (by simp) (by simp)
theorem eqIntSS_refl (a : List (List Int)) (h : a.length ≤ 9223372036854775807) (h2 : ∀ q ∈ a, q.length ≤ 9223372036854775807) : Ev (fun k => laws_eqIntSS.f k a a) true := by
  unfold laws_eqIntSS.f
  refine Ev.yes rfl ?_
  have key : ∀ i, i ≤ a.length → Ev (fun k => laws_eqIntSS.l0 k a a (i : Int)) true := by
    refine downTo _ ?_ ?_
    · exact Ev.step (by intro k; simp only [laws_eqIntSS.l0]; rfl) (Ev.no (by omega) (Ev.ret rfl))
    · intro i hi ih
      refine Ev.step (by intro k; simp only [laws_eqIntSS.l0]; rfl) (Ev.yes (by omega) (Ev.yes (by omega) (Ev.yes (by omega) ?_)))
      rw [rdL_get hi, wid1 hi (by omega)]
      exact Ev.bind (eqIntS_refl _ (h2 _ (List.getElem_mem hi))) (Ev.yes rfl ih)
  exact key 0 (by omega)
end Go.Proofs.Ytfahkoimleiknaa.Q
end

section
namespace Go.Proofs.Ytfahkoimleiknaa.Q
open Go.RowKit Go.Proofs.YtfahkoimleiknaaW.PrintWords Go.Proofs.Ytfahkoimleiknaa.F
set_option linter.unusedVariables false
theorem poIn_eq {a j : Nat} (hj : j ≤ 64) : spec_poIn.f (a : Int) (j : Int) = some (a.testBit j) := by
  unfold spec_poIn.f
  rw [if_pos (Int.natCast_nonneg _)]
  congr 1
  rw [Bool.eq_iff_iff, beq_iff_eq]
  exact bit_test hj
end Go.Proofs.Ytfahkoimleiknaa.Q
end

section
namespace Go.Proofs.Ytfahkoimleiknaa.Q
open Go.RowKit Go.Proofs.YtfahkoimleiknaaW.PrintWords Go.Proofs.Ytfahkoimleiknaa.F
set_option linter.unusedVariables false
theorem within_eq (a b c : Int) : impl_within.f a b c = some (decide (b ≤ a) && decide (a ≤ c)) := by
  unfold impl_within.f
  by_cases h : b ≤ a
  · rw [if_pos h]; simp [h]
  · rw [if_neg h]; simp [h]
end Go.Proofs.Ytfahkoimleiknaa.Q
end

section
namespace Go.Proofs.Ytfahkoimleiknaa.F
open Go.RowKit Go.Proofs.YtfahkoimleiknaaW.PrintWords Go.Proofs.YtfahkoimleiknaaW.PrintLast Go.Proofs.YtfahkoimleiknaaW.PrintMore
set_option linter.unusedVariables false
set_option linter.unusedSimpArgs false
def laws_markIntSS.l0 : Nat → List (List Int) → Int → Int → Option (Int × List (List Int))
  | 0, _, _, _ => none
  | k + 1, x0, x1, x5 => if x5 < (x0.length : Int) then (if 0 ≤ x5 then ((laws_markIntS.f k (rd_L1 x0 x5) x1).bind fun bt => (laws_markIntSS.l0 k (x0.set x5.toNat bt.2) bt.1 (wrap64 (x5 + 1)))) else none) else some (x1, x0)
def laws_markIntSS.f (k : Nat) (l0 : List (List Int)) (a1 : Int) : Option (Int × List (List Int)) := laws_markIntSS.l0 k l0 a1 0
theorem laws_markIntSS.mono_l : ∀ k, (∀ y0 y1 y2, LeO (laws_markIntSS.l0 k y0 y1 y2) (laws_markIntSS.l0 (k + 1) y0 y1 y2))
  | 0 => fun _ _ _ r h => by simp [laws_markIntSS.l0] at h
  | k + 1 => by
    have ih0 := laws_markIntSS.mono_l k
    intro y0 y1 y2
    unfold laws_markIntSS.l0
    refine LeO.ite (LeO.ite (LeO.bind (laws_markIntS.mono _ _ _) (fun _ => ih0 _ _ _)) (LeO.refl _)) (LeO.refl _)
theorem laws_markIntSS.mono : ∀ a0 a1 k, LeO (laws_markIntSS.f k a0 a1) (laws_markIntSS.f (k + 1) a0 a1) := fun a0 a1 k => laws_markIntSS.mono_l k _ _ _
set_option maxHeartbeats 8000000 in
set_option maxRecDepth 100000 in
theorem laws_markIntSS.calls (k : Nat) (P0_ : Nat → Prop) (u9000_ : Value) (l0 : List (List Int)) (a1 : Int) (r1 : Int) (r2 : List (List Int)) (w0 w : World) (hB : Below w0.heap.size w0 w) (ho0 : Kd.S (Kd.slice 3 (Kd.int .i64)) 22 w w0.heap.size P0_ u9000_ l0) (h : laws_markIntSS.f k l0 a1 = some (r1, r2)) :
    Calls Try.prog 32 #[u9000_, .int .i64 a1] w fun e w' => e = .returned (.int .i64 r1) ∧ Kd.S (Kd.slice 3 (Kd.int .i64)) 22 w' w0.heap.size P0_ u9000_ r2 ∧ Below w0.heap.size w0 w' ∧ Kept w w' (fun k_ => P0_ k_) := by
  have HO0 := Aside0.mk ho0
  have HK := Aside0.mk (Kept.refl w (fun k_ => P0_ k_))
  have HW0 := Aside0.mk hB.size
  have HB := Aside0.mk hB
  clear hB ho0
  have H : (laws_markIntSS.l0 k l0 a1 0) = some (r1, r2) := h
  clear h
  have H' := Aside0.mk H
  clear H
  go_enter Try.func32, Try.ntmps32
  go_wp2
  go_loopg [1, 5] k (fun kq v1 v5 w' => ∃ (x0_1 : List (List Int)) (x1_1 : Int) (x5_1 : Int), v1 = .int .i64 x1_1 ∧ v5 = .int .i64 x5_1 ∧ Aside0 (laws_markIntSS.l0 kq x0_1 x1_1 x5_1 = some (r1, r2)) ∧ Aside0 (kq ≤ k) ∧ Aside0 (Kd.S (Kd.slice 3 (Kd.int .i64)) 22 w' w0.heap.size P0_ u9000_ x0_1) ∧ Aside0 (Kept w w' (fun k_ => P0_ k_)) ∧ Aside0 (Below w0.heap.size w0 w'))
  case atStart => exact ⟨(l0), (a1), (0), (by first | rfl | (simp; done) | (simp [*]; done)), (by first | rfl | (simp; done) | (simp [*]; done)), H', ⟨Nat.le_refl _⟩, ⟨by (with_reducible repeat (first | apply Kd.S_alloc | apply Kd.S_drewN | apply Kd.S_drew)); exact HO0.out⟩, ⟨by repeat (first | (with_reducible first | exact HK.out | apply Kept.alloc | apply Kept.drewN | apply Kept.drew) | exact HK.out)⟩, ⟨by repeat (first | (with_reducible first | exact HB.out | apply below_alloc | apply pw_below_drewN | apply below_drew1) | exact HB.out)⟩⟩
  case round =>
    clear H'
    try clear c2
    try clear p2
    obtain ⟨x0_1, x1_1, x5_1, rfl, rfl, HA, HK1, HO_0, HK, HB⟩ := hrel
    cases gk with
    | zero => exact absurd HA.out (by simp [laws_markIntSS.l0])
    | succ k1 =>
      have H := HA.out
      clear HA
      simp only [laws_markIntSS.l0] at H
      by_cases c3 : x5_1 < (x0_1.length : Int)
      · rw [if_pos c3] at H
        have c3b0 : decide (x5_1 < (x0_1.length : Int)) = true := decide_eq_true c3
        by_cases c4 : 0 ≤ x5_1
        · rw [if_pos c4] at H
          have c4b0 : decide (0 ≤ x5_1) = true := decide_eq_true c4
          replace H := Option.bind_eq_some_iff.mp H
          obtain ⟨⟨t1, t2⟩, A50, H⟩ := H
          replace H : (laws_markIntSS.l0 k1 (x0_1.set x5_1.toNat t2) t1 (wrap64 (x5_1 + 1))) = some (r1, r2) := H
          have A5 := Aside0.mk A50
          clear A50
          have H' := Aside0.mk H
          clear H
          obtain ⟨Ao6, co6, eo6⟩ := Kd.S_slice HO_0.out
          subst eo6
          obtain ⟨go5, co5, eo5, gb5, gl5, cl5, HG5⟩ := Kd.S_form HO_0.out (by omega)
          (first | cases eo5 | (injection eo5 with ea_ en_ ec_; (first | subst ea_ | (injection ea_ with ea_; subst ea_)); subst ec_; clear en_))
          obtain ⟨oki, c, hcl, hM, hcc, hoki, hH⟩ := Kd.S_lend HO_0.out [] x5_1 c4 c3
          obtain ⟨v, rfl, hR0⟩ := hM
          have hR : Kd.R (Kd.int .i64) 3 wr w0.heap.size oki v (rd_L1 x0_1 x5_1) := hR0
          clear hR0
          obtain ⟨Ae, ce, rfl⟩ := Kd.R_slice hR
          have hx5_0 : wr.cell? ⟨go5, x5_1.toNat, none⟩ = some (.slice Ae (rd_L1 x0_1 x5_1).length ce) := by
            have := hcc 0 _ rfl
            rw [show (Kd.slice 3 (Kd.int .i64)).sz = 1 from rfl, Nat.mul_one, Nat.add_zero] at this
            exact this
          have HR := Aside0.mk hR
          have HH := Aside0.mk hH
          have HI := Aside0.mk hoki
          clear hR hH hoki hcc hcl gb5 gl5 HG5
          have p5 : 0 ≤ (x5_1 : Int) := c4
          have q5 : (x5_1 : Int) < ((x0_1.length : Int) : Int) := c3
          clear c3 c4
          replace p5 := eq_true p5
          replace q5 := eq_true q5
          go_wp2_with fail
          refine (laws_markIntS.calls k1 (fun k_ => some k_ = (.slice Ae (rd_L1 x0_1 x5_1).length ce : Value).ownBlock) (.slice Ae (rd_L1 x0_1 x5_1).length ce) (rd_L1 x0_1 x5_1) x1_1 t1 t2 w0 _ ?side1 ?side2 A5.out).mono ?_
          case side1 => repeat (first | (with_reducible first | exact HB.out | apply below_alloc | apply pw_below_drewN | apply below_drew1) | exact HB.out)
          case side2 => (with_reducible repeat (first | apply Kd.R_alloc | apply Kd.R_drewN | apply Kd.R_drew)); exact Kd.R_tight rfl HR.out
          rintro e w7 ⟨rfl, hy0, hb, hkp⟩
          have hown := HR.out.1
          have hm2 : Kd.R (Kd.int .i64) 3 w7 w0.heap.size oki (.slice Ae (rd_L1 x0_1 x5_1).length ce) t2 := Kd.R_reok rfl hy0 (fun k_ e_ => hown k_ e_)
          have hh2 := Kd.H_step (w1 := w7) HH.out (fun k_ _ hn_ hl_ => hkp.2 k_ hl_ (fun e_ => hn_ (hown k_ e_.symm)))
          have n0_ := Aside0.mk (Kd.H_back hh2 ⟨_, rfl, hm2⟩ (fun _ hk_ => hk_))
          have n2_ := Aside0.mk (Kept.then_ (S := (fun k_ => P0_ k_)) HK.out hkp (fun k_ hs_ => .inl (HI.out k_ (hown k_ hs_.symm)).1))
          have n3_ := Aside0.mk hb
          clear HO_0 HR HH HI HK HB hm2 hh2 hown
          have HO_0 := n0_
          have HK := n2_
          have HB := n3_
          clear n0_ n2_ n3_ hb hkp hy0
          go_wp2
          go_roundg k1
          case measure => have := HK1.out; omega
          case rel => exact ⟨(x0_1.set x5_1.toNat t2), t1, (wrap64 (x5_1 + 1)), (by first | rfl | (simp; done) | (simp [*]; done)), (by first | rfl | (simp; done) | (simp [*]; done)), H', ⟨by have := HK1.out; omega⟩, ⟨by (with_reducible repeat (first | apply Kd.S_alloc | apply Kd.S_drewN | apply Kd.S_drew)); exact HO_0.out⟩, ⟨by repeat (first | (with_reducible first | exact HK.out | apply Kept.alloc | apply Kept.drewN | apply Kept.drew) | exact HK.out)⟩, ⟨by repeat (first | (with_reducible first | exact HB.out | apply below_alloc | apply pw_below_drewN | apply below_drew1) | exact HB.out)⟩⟩
        · rw [if_neg c4] at H
          exact absurd H (by simp)
      · rw [if_neg c3] at H
        have c3b0 : decide (x5_1 < (x0_1.length : Int)) = false := decide_eq_false c3
        clear c3
        simp only [Option.some.injEq, Prod.mk.injEq] at H
        obtain ⟨rfl, rfl⟩ := H
        obtain ⟨Ao9, co9, eo9⟩ := Kd.S_slice HO_0.out
        subst eo9
        go_wp2
        go_ret
        exact ⟨by first | rfl | (simp [errW_none, errW_some] <;> rfl) | (simp [*, errW_none, errW_some] <;> rfl), by (with_reducible repeat (first | apply Kd.S_alloc | apply Kd.S_drewN | apply Kd.S_drew)); exact HO_0.out, by repeat (first | (with_reducible first | exact HB.out | apply below_alloc | apply pw_below_drewN | apply below_drew1) | exact HB.out), by repeat (first | (with_reducible first | exact HK.out | apply Kept.alloc | apply Kept.drewN | apply Kept.drew) | exact HK.out)⟩
end Go.Proofs.Ytfahkoimleiknaa.F
end

section
namespace Go.Proofs.Ytfahkoimleiknaa.Q
open Go.RowKit Go.Proofs.YtfahkoimleiknaaW.PrintWords Go.Proofs.Ytfahkoimleiknaa.F
set_option linter.unusedVariables false
/-- Rows of running numbers, of the lengths of these. -/
def upRows : Nat → List (List Int) → List (List Int)
  | _, [] => []
  | a, q :: l => upFrom a q.length :: upRows (a + q.length) l
def totLen : List (List Int) → Nat
  | [] => 0
  | q :: l => q.length + totLen l
theorem upRows_len (a : Nat) (l : List (List Int)) : (upRows a l).length = l.length := by
  induction l generalizing a with
  | nil => rfl
  | cons q l ih => simp [upRows, ih]
theorem rdRows_app (p : List (List Int)) (q : List Int) (l : List (List Int)) : rd_L1 (p ++ q :: l) ((p.length : Nat) : Int) = q := by
  unfold rd_L1; rw [Int.toNat_natCast, List.getD_eq_getElem?_getD, List.getElem?_append_right (Nat.le_refl _), Nat.sub_self]; rfl
theorem set_app (p : List (List Int)) (q x : List Int) (l : List (List Int)) : (p ++ q :: l).set p.length x = (p ++ [x]) ++ l := by
  rw [List.set_append_right _ _ (Nat.le_refl _), Nat.sub_self]; simp
theorem markIntSS_go (l : List (List Int)) : ∀ (p : List (List Int)) (a : Nat), a + totLen l ≤ 4611686018427387904 → p.length + l.length ≤ 9223372036854775807 →
    Ev (fun k => laws_markIntSS.l0 k (p ++ l) (a : Int) ((p.length : Nat) : Int)) (((a + totLen l : Nat) : Int), p ++ upRows a l) := by
  induction l with
  | nil =>
    intro p a h hp
    refine Ev.step (by intro k; simp only [laws_markIntSS.l0]; rfl) (Ev.no (by simp) (Ev.ret ?_))
    simp [totLen, upRows]
  | cons q l ih =>
    intro p a h hp
    simp only [totLen, List.length_cons] at h hp
    refine Ev.step (by intro k; simp only [laws_markIntSS.l0]; rfl) (Ev.yes (by rw [List.length_append, List.length_cons]; omega) (Ev.yes (by omega) ?_))
    rw [rdRows_app]
    refine Ev.bind (markIntS_ev q a (by omega)) ?_
    rw [Int.toNat_natCast, set_app, wid1 (i := p.length) (n := p.length + (l.length + 1)) (by omega) (by omega)]
    have := ih (p ++ [upFrom a q.length]) (a + q.length) (by omega) (by rw [List.length_append, List.length_singleton]; omega)
    rw [List.length_append, List.length_singleton] at this
    refine evc this ?_
    simp only [totLen, upRows, List.append_assoc, List.singleton_append, Nat.add_assoc]
theorem markIntSS_ev1 (l : List (List Int)) (h : totLen l ≤ 4611686018427387000) (hl : l.length ≤ 9223372036854775807) : Ev (fun k => laws_markIntSS.f k l 1) (((1 + totLen l : Nat) : Int), upRows 1 l) := by
  exact markIntSS_go l [] 1 (by omega) (by simpa using hl)
theorem heldIntSS_go (l : List (List Int)) : ∀ (p : List (List Int)) (a : Nat), a + totLen l ≤ 4611686018427387904 → p.length + l.length ≤ 9223372036854775807 →
    Ev (fun k => laws_heldIntSS.l0 k (p ++ upRows a l) (a : Int) ((p.length : Nat) : Int)) ((a + totLen l : Nat) : Int) := by
  induction l with
  | nil =>
    intro p a h hp
    refine Ev.step (by intro k; simp only [laws_heldIntSS.l0]; rfl) (Ev.no (by simp [upRows]) (Ev.ret ?_))
    simp [totLen]
  | cons q l ih =>
    intro p a h hp
    simp only [totLen, List.length_cons] at h hp
    simp only [upRows]
    refine Ev.step (by intro k; simp only [laws_heldIntSS.l0]; rfl) (Ev.yes (by rw [List.length_append, List.length_cons]; omega) (Ev.yes (by omega) ?_))
    rw [rdRows_app]
    refine Ev.bind (heldIntS_ev a q.length (by omega)) (Ev.no (by omega) ?_)
    rw [wid1 (i := p.length) (n := p.length + (l.length + 1)) (by omega) (by omega)]
    have := ih (p ++ [upFrom a q.length]) (a + q.length) (by omega) (by rw [List.length_append, List.length_singleton]; omega)
    rw [List.length_append, List.length_singleton, List.append_assoc, List.singleton_append] at this
    refine evc this ?_
    simp only [totLen, Nat.add_assoc]
theorem heldIntSS_ev1 (l : List (List Int)) (h : totLen l ≤ 4611686018427387000) (hl : l.length ≤ 9223372036854775807) : Ev (fun k => laws_heldIntSS.f k (upRows 1 l) 1) ((1 + totLen l : Nat) : Int) := by
  exact heldIntSS_go l [] 1 (by omega) (by simpa using hl)
theorem totLen_le (m : Nat) (l : List (List Int)) (h : ∀ q ∈ l, q.length ≤ m) : totLen l ≤ l.length * m := by
  induction l with
  | nil => exact Nat.zero_le _
  | cons q l ih =>
    have h1 := h q List.mem_cons_self
    have h2 := ih (fun x hx => h x (List.mem_cons_of_mem _ hx))
    simp only [totLen, List.length_cons, Nat.add_mul]
    omega
theorem totLen_small {l : List (List Int)} (h : l.length ≤ 1048576) (h2 : ∀ q ∈ l, q.length ≤ 1048576) : totLen l ≤ 4611686018427387000 := by
  have h3 := totLen_le 1048576 l h2
  have h4 := Nat.mul_le_mul_right 1048576 h
  omega
theorem totLen_few {l : List (List Int)} (h : l.length ≤ 1000) (h2 : ∀ q ∈ l, q.length ≤ 1000) : totLen l ≤ 1000000 := by
  have h3 := totLen_le 1000 l h2
  have h4 := Nat.mul_le_mul_right 1000 h
  omega
end Go.Proofs.Ytfahkoimleiknaa.Q
end

section
namespace Go.Proofs.Ytfahkoimleiknaa.F
open Go.RowKit Go.Proofs.YtfahkoimleiknaaW.PrintWords Go.Proofs.YtfahkoimleiknaaW.PrintLast Go.Proofs.YtfahkoimleiknaaW.PrintMore
set_option linter.unusedVariables false
set_option linter.unusedSimpArgs false
theorem IndexFunc_sidesOf.tells (P : List Int → Bool) (l : List (List Int)) (h : l.length ≤ 1000) :
    ∃ i : Int, (0 ≤ i ↔ l.any P = true) ∧ Ev (fun k => IndexFunc_sidesOf.f (fun x => some (P x)) k l) i := by
  unfold IndexFunc_sidesOf.f
  have key : ∀ j, j ≤ l.length → ∃ i : Int, (0 ≤ i ↔ (l.drop j).any P = true) ∧ Ev (fun k => IndexFunc_sidesOf.l0 (fun x => some (P x)) k l (l.length : Int) (j : Int)) i := by
    refine Q.downTo _ ?_ ?_
    · refine ⟨-1, by rw [List.drop_length]; simp, Ev.step (by intro k; simp only [IndexFunc_sidesOf.l0]; rfl) (Q.Ev.no (by omega) (Ev.now _))⟩
    · rintro j hj ⟨i, hi, he⟩
      have hd : (l.drop j).any P = (P l[j] || (l.drop (j + 1)).any P) := by rw [List.drop_eq_getElem_cons hj, List.any_cons]
      have hr : rd_L1 l (j : Int) = l[j] := by unfold rd_L1; simp [hj]
      cases hP : P l[j] with
      | true =>
        refine ⟨(j : Int), by rw [hd, hP]; simp, Ev.step (by intro k; simp only [IndexFunc_sidesOf.l0]; rfl) (Q.Ev.yes (by omega) (Q.Ev.yes (by omega) (Q.Ev.yes (by omega) ?_)))⟩
        rw [hr, hP]
        exact Q.Ev.call rfl (Q.Ev.yes rfl (Ev.now _))
      | false =>
        refine ⟨i, by rw [hd, hP, Bool.false_or]; exact hi, Ev.step (by intro k; simp only [IndexFunc_sidesOf.l0]; rfl) (Q.Ev.yes (by omega) (Q.Ev.yes (by omega) (Q.Ev.yes (by omega) ?_)))⟩
        rw [hr, hP, Q.wid1 hj (by omega)]
        exact Q.Ev.call rfl (Q.Ev.no (by simp) he)
  exact key 0 (by omega)
set_option maxHeartbeats 8000000 in
set_option maxRecDepth 100000 in
theorem ContainsFunc_sidesOf.calls (g0_ : Nat) (b : Int) (A0 : Option Addr) (c0 : Nat) (l0 : List (List Int)) (w : World) (hg : w.heap[g0_]? = some (.cells #[.int .i64 b] 3 (0, 0))) (hr0 : Kd.C (Kd.slice 3 (Kd.int .i64)) w A0 l0.length l0) (hc0 : l0.length ≤ c0) (h : l0.length ≤ 1000) :
    Calls Try.prog 101 #[.slice A0 l0.length c0, .func (.func 102) #[] #[.pointer (some ⟨g0_, 0, none⟩)]] w fun e w' => e = .returned (.bool (l0.any fun x => ((x.length : Int) != b))) ∧ Drawn0 w w' := by
  obtain ⟨i, hi, k, he⟩ := IndexFunc_sidesOf.tells (fun x => ((x.length : Int) != b)) l0 h
  have hlt := blk_lt hg
  have hI := IndexFunc_sidesOf.calls (fun x => some ((x.length : Int) != b)) g0_ k A0 c0 l0 i w ⟨fun A c x r W hC hl hF hb => lit_sidesOf.calls g0_ A c x b r W ((hb.cell (p := ⟨g0_, 0, none⟩) hlt).trans ((blk_cell hg 0).trans rfl)) hC hl hF⟩ hr0 hc0 (he k (Nat.le_refl _))
  have HI := Aside0.mk hI
  have hb : decide (0 ≤ i) = (l0.any fun x => ((x.length : Int) != b)) := by rw [Bool.eq_iff_iff, decide_eq_true_eq]; exact hi
  have HB := Aside0.mk hb
  clear hI hi he hg hr0 hc0 h hlt hb
  go_enter Try.func101, Try.ntmps101
  go_wp2_with (go_at_call 107; (with_reducible refine HI.out.mono ?_); rintro e w' ⟨rfl, ⟨nd, rfl⟩⟩)
  go_ret
  exact ⟨by rw [← HB.out]; try simp, ⟨_, rfl⟩⟩
/-- The rows' sides. -/
def impl_sidesOf.b (l : List (List Int)) : Int := ((l.headD []).length : Int)
def impl_sidesOf.f (l : List (List Int)) : Option (Int × Int × Bool) :=
  if l.length = 0 ∨ 10 < l.length then some (0, 0, false) else
  some ((l.length : Int), impl_sidesOf.b l, (impl_areSides.f (l.length : Int) (impl_sidesOf.b l) 10 == some true) && !(l.any fun x => ((x.length : Int) != impl_sidesOf.b l)))
set_option maxHeartbeats 8000000 in
set_option maxRecDepth 100000 in
theorem impl_sidesOf.calls (A0 : Option Addr) (c0 : Nat) (l0 : List (List Int)) (r1 : Int) (r2 : Int) (r3 : Bool) (w : World) (hr0 : Kd.C (Kd.slice 3 (Kd.int .i64)) w A0 l0.length l0) (hc0 : l0.length ≤ c0) (h : impl_sidesOf.f l0 = some (r1, r2, r3)) :
    Calls Try.prog 91 #[.slice A0 l0.length c0] w fun e w' => e = .returned (.tuple #[.int .i64 r1, .int .i64 r2, .bool r3]) ∧ Below w.heap.size w w' := by
  have hmf : ∀ (fn : Fn) (first cap : Array Value) (w : World), (Instr.makeFunc fn first cap).run Try.prog w = .ok (.func fn first cap) w := fun _ _ _ _ => rfl
  unfold impl_sidesOf.f at h
  by_cases c0_ : l0.length = 0
  · rw [if_pos (.inl c0_)] at h
    simp only [Option.some.injEq, Prod.mk.injEq] at h
    obtain ⟨rfl, rfl, rfl⟩ := h
    have c1 : ((l0.length : Int) == 0) = true := beq_iff_eq.mpr (by omega)
    clear c0_ hr0 hc0
    go_enter Try.func91, Try.ntmps91
    go_wp2
    go_ret3
    exact ⟨rfl, Below.refl _ _⟩
  have c1 : ((l0.length : Int) == 0) = false := beq_eq_false_iff_ne.mpr (by omega)
  by_cases c10 : 10 < l0.length
  · rw [if_pos (.inr c10)] at h
    simp only [Option.some.injEq, Prod.mk.injEq] at h
    obtain ⟨rfl, rfl, rfl⟩ := h
    have c2 : decide ((10 : Int) < (l0.length : Int)) = true := decide_eq_true (by omega)
    have c3 : decide (10 < l0.length) = true := decide_eq_true (by omega)
    clear c10 c0_ hr0 hc0
    go_enter Try.func91, Try.ntmps91
    go_wp2
    go_ret3
    exact ⟨rfl, Below.refl _ _⟩
  rw [if_neg (by omega)] at h
  simp only [Option.some.injEq, Prod.mk.injEq] at h
  obtain ⟨rfl, rfl, rfl⟩ := h
  have c2 : decide ((10 : Int) < (l0.length : Int)) = false := decide_eq_false (by omega)
  have c3 : decide (10 < l0.length) = false := decide_eq_false (by omega)
  have p813 : 0 ≤ (0 : Int) := by omega
  have q813 : 0 < (l0.length : Int) := by omega
  obtain ⟨ad813, A813_0, c813_0, e813, hx813_0, hl813_0, hi813_0⟩ := at_L1 hr0 0 p813 q813
  cases e813
  have qi813 : (0 < l0.length) = True := eq_true (by omega)
  rw [show ((0 : Int)).toNat = 0 from rfl, Addr.add_zero'] at hx813_0
  have eb : impl_sidesOf.b l0 = ((rd_L1 l0 0).length : Int) := by
    cases l0 with
    | nil => exact absurd rfl c0_
    | cons x l => rfl
  rw [eb]
  have hC : Aside0 (∀ W : World, Aside0 (W.heap[w.heap.size]? = some (.cells #[.int .i64 ((rd_L1 l0 0).length : Int)] 3 (0, 0))) → Aside0 (Below w.heap.size w W) →
      Calls Try.prog 101 #[.slice (some ad813) l0.length c0, .func (.func 102) #[] #[.pointer (some ⟨w.heap.size, 0, none⟩)]] W fun e w' => e = .returned (.bool (l0.any fun x => ((x.length : Int) != ((rd_L1 l0 0).length : Int)))) ∧ Drawn0 W w') :=
    ⟨fun W h1 h2 => ContainsFunc_sidesOf.calls w.heap.size _ (some ad813) c0 l0 W h1.out (Kd.C_below hr0 h2.out) hc0 (by omega)⟩
  have HL := Aside0.mk hl813_0
  have HI := Aside0.mk hi813_0
  obtain ⟨t, ht⟩ : ∃ t, impl_areSides.f (l0.length : Int) ((rd_L1 l0 0).length : Int) 10 = some t := by
    unfold impl_areSides.f impl_within.f
    split <;> simp only [Option.bind_some] <;> split <;> (try (split <;> simp only [Option.bind_some] <;> split)) <;> exact ⟨_, rfl⟩
  have HT := Aside0.mk ht
  rw [ht]
  generalize hany : (l0.any fun x => ((x.length : Int) != ((rd_L1 l0 0).length : Int))) = an at hC ⊢
  clear hany ht hl813_0 hi813_0 hr0 hc0 c0_ c10 q813 eb p813
  cases t with
  | true =>
    go_enter Try.func91, Try.ntmps91
    go_wp2_with (fail)
    repeat (go_quiet (first | (go_at_call 94; (with_reducible refine (impl_areSides.calls (l0.length : Int) ((rd_L1 l0 0).length : Int) 10 true _ HT.out).mono ?_); rintro e w' ⟨rfl, ⟨nd, rfl⟩⟩; (try first | exact ⟨rfl, _, World.drewN_drewN _ _ _⟩ | exact ⟨rfl, _, Eq.trans (World.drewN_drewN _ _ _) (congrArg (World.drewN _) (Nat.add_assoc _ _ _))⟩)) | (go_at_call 101; (with_reducible refine (hC.out _ ?s1 ?s2).mono ?_); (case s1 => exact ⟨by (with_reducible repeat (first | refine blk_drewN ?_ _ | refine blk_drew ?_)); exact blk_new _ _⟩); (case s2 => exact ⟨by repeat (first | exact Below.refl _ _ | apply below_alloc | apply pw_below_drewN | apply below_drew1)⟩); rintro e w' ⟨rfl, ⟨nd, rfl⟩⟩; (try first | exact ⟨rfl, _, World.drewN_drewN _ _ _⟩ | exact ⟨rfl, _, Eq.trans (World.drewN_drewN _ _ _) (congrArg (World.drewN _) (Nat.add_assoc _ _ _))⟩))); try go_wp2_with (fail))
    go_ret3
    exact ⟨by first | rfl | (simp; done), by repeat (first | exact Below.refl _ _ | apply below_alloc | apply pw_below_drewN | apply below_drew1)⟩
  | false =>
    go_enter Try.func91, Try.ntmps91
    go_wp2_with (fail)
    repeat (go_quiet (first | (go_at_call 94; (with_reducible refine (impl_areSides.calls (l0.length : Int) ((rd_L1 l0 0).length : Int) 10 false _ HT.out).mono ?_); rintro e w' ⟨rfl, ⟨nd, rfl⟩⟩; (try first | exact ⟨rfl, _, World.drewN_drewN _ _ _⟩ | exact ⟨rfl, _, Eq.trans (World.drewN_drewN _ _ _) (congrArg (World.drewN _) (Nat.add_assoc _ _ _))⟩))); try go_wp2_with (fail))
    go_ret3
    exact ⟨by first | rfl | (simp; done), by repeat (first | exact Below.refl _ _ | apply below_alloc | apply pw_below_drewN | apply below_drew1)⟩
end Go.Proofs.Ytfahkoimleiknaa.F
end

section
namespace Go.Proofs.Ytfahkoimleiknaa.F
open Go.RowKit Go.Proofs.YtfahkoimleiknaaW.PrintWords Go.Proofs.YtfahkoimleiknaaW.PrintLast Go.Proofs.YtfahkoimleiknaaW.PrintMore
attribute [local go_sem] max2_int min2_int max_two min_two max_three min_three max_four min_four
set_option linter.unusedVariables false
set_option linter.unusedSimpArgs false

/-! ### impl_IsTableau: function 68 -/
mutual
def impl_IsTableau.l0 : Nat → List (List Int) → Int → Int → Int → Int → Int → Option (Bool)
  | 0, _, _, _, _, _, _ => none
  | k + 1, x0, x3, x4, x6, x18, x19 => if x19 < x18 then (impl_IsTableau.l1 k x0 x3 x4 x6 x19 x18 x19 x4 0) else (some true)
def impl_IsTableau.l1 : Nat → List (List Int) → Int → Int → Int → Int → Int → Int → Int → Int → Option (Bool)
  | 0, _, _, _, _, _, _, _, _, _ => none
  | k + 1, x0, x3, x4, x6, x7, x18, x19, x22, x23 => if x23 < x22 then (if 0 ≤ x7 then (if x7 < (x0.length : Int) then (if 0 ≤ x23 then (if x23 < ((rd_L1 x0 x7).length : Int) then ((impl_within.f (rd (rd_L1 x0 x7) x23) 0 (wrap64 ((wrap64 (x3 * x4)) - 1))).bind fun t377 => (if t377 = true then ((impl_has.f x6 (rd (rd_L1 x0 x7) x23)).bind fun t378 => (if t378 = true then (some false) else (if x7 > 0 then (if 0 ≤ (wrap64 (x7 - 1)) then (if (wrap64 (x7 - 1)) < (x0.length : Int) then (if x23 < ((rd_L1 x0 (wrap64 (x7 - 1))).length : Int) then (if (rd (rd_L1 x0 x7) x23) ≤ (rd (rd_L1 x0 (wrap64 (x7 - 1))) x23) then (some false) else (if x23 > 0 then (if 0 ≤ (wrap64 (x23 - 1)) then (if (wrap64 (x23 - 1)) < ((rd_L1 x0 x7).length : Int) then (if (rd (rd_L1 x0 x7) x23) ≤ (rd (rd_L1 x0 x7) (wrap64 (x23 - 1))) then (some false) else (if 0 ≤ (rd (rd_L1 x0 x7) x23) then (impl_IsTableau.l1 k x0 x3 x4 (Go.bits .or .i64 x6 (shl .i64 1 (rd (rd_L1 x0 x7) x23))) x7 x18 x19 x22 (wrap64 (x23 + 1))) else (none))) else (none)) else (none)) else (if 0 ≤ (rd (rd_L1 x0 x7) x23) then (impl_IsTableau.l1 k x0 x3 x4 (Go.bits .or .i64 x6 (shl .i64 1 (rd (rd_L1 x0 x7) x23))) x7 x18 x19 x22 (wrap64 (x23 + 1))) else (none)))) else (none)) else (none)) else (none)) else (if x23 > 0 then (if 0 ≤ (wrap64 (x23 - 1)) then (if (wrap64 (x23 - 1)) < ((rd_L1 x0 x7).length : Int) then (if (rd (rd_L1 x0 x7) x23) ≤ (rd (rd_L1 x0 x7) (wrap64 (x23 - 1))) then (some false) else (if 0 ≤ (rd (rd_L1 x0 x7) x23) then (impl_IsTableau.l1 k x0 x3 x4 (Go.bits .or .i64 x6 (shl .i64 1 (rd (rd_L1 x0 x7) x23))) x7 x18 x19 x22 (wrap64 (x23 + 1))) else (none))) else (none)) else (none)) else (if 0 ≤ (rd (rd_L1 x0 x7) x23) then (impl_IsTableau.l1 k x0 x3 x4 (Go.bits .or .i64 x6 (shl .i64 1 (rd (rd_L1 x0 x7) x23))) x7 x18 x19 x22 (wrap64 (x23 + 1))) else (none)))))) else (some false))) else (none)) else (none)) else (none)) else (none)) else (impl_IsTableau.l0 k x0 x3 x4 x6 x18 (wrap64 (x19 + 1)))
end
def impl_IsTableau.f (k : Nat) (l0 : List (List Int)) : Option (Bool) := (impl_sidesOf.f l0).bind fun bt372 => (if bt372.2.2 = true then (impl_IsTableau.l0 k l0 bt372.1 bt372.2.1 0 bt372.1 0) else (some false))
theorem impl_IsTableau.mono_l : ∀ k, (∀ y0 y1 y2 y3 y4 y5, LeO (impl_IsTableau.l0 k y0 y1 y2 y3 y4 y5) (impl_IsTableau.l0 (k + 1) y0 y1 y2 y3 y4 y5)) ∧ (∀ y0 y1 y2 y3 y4 y5 y6 y7 y8, LeO (impl_IsTableau.l1 k y0 y1 y2 y3 y4 y5 y6 y7 y8) (impl_IsTableau.l1 (k + 1) y0 y1 y2 y3 y4 y5 y6 y7 y8))
  | 0 => ⟨fun _ _ _ _ _ _ r h => by simp [impl_IsTableau.l0] at h, fun _ _ _ _ _ _ _ _ _ r h => by simp [impl_IsTableau.l1] at h⟩
  | k + 1 => by
    obtain ⟨ih0, ih1⟩ := impl_IsTableau.mono_l k
    refine ⟨?_, ?_⟩
    · intro y0 y1 y2 y3 y4 y5
      unfold impl_IsTableau.l0
      repeat' first
      | (with_reducible exact ih0 _ _ _ _ _ _)
      | (with_reducible exact ih1 _ _ _ _ _ _ _ _ _)
      | (with_reducible exact LeO.refl _)
      | (with_reducible exact LeO.none _)
      | (with_reducible refine LeO.ite ?_ ?_)
      | (with_reducible refine LeO.bind ?_ (fun _ => ?_))
      | exact ih0 _ _ _ _ _ _
      | exact ih1 _ _ _ _ _ _ _ _ _
      | exact LeO.none _
      | refine LeO.ite ?_ ?_
      | refine LeO.bind ?_ (fun _ => ?_)
    · intro y0 y1 y2 y3 y4 y5 y6 y7 y8
      unfold impl_IsTableau.l1
      repeat' first
      | (with_reducible exact ih0 _ _ _ _ _ _)
      | (with_reducible exact ih1 _ _ _ _ _ _ _ _ _)
      | (with_reducible exact LeO.refl _)
      | (with_reducible exact LeO.none _)
      | (with_reducible refine LeO.ite ?_ ?_)
      | (with_reducible refine LeO.bind ?_ (fun _ => ?_))
      | exact ih0 _ _ _ _ _ _
      | exact ih1 _ _ _ _ _ _ _ _ _
      | exact LeO.none _
      | refine LeO.ite ?_ ?_
      | refine LeO.bind ?_ (fun _ => ?_)
theorem impl_IsTableau.mono : ∀ a0 k, LeO (impl_IsTableau.f k a0) (impl_IsTableau.f (k + 1) a0) := by
  intro a0 k
  obtain ⟨ih0, ih1⟩ := impl_IsTableau.mono_l k
  unfold impl_IsTableau.f
  repeat' first
      | (with_reducible exact ih0 _ _ _ _ _ _)
      | (with_reducible exact ih1 _ _ _ _ _ _ _ _ _)
      | (with_reducible exact LeO.refl _)
      | (with_reducible exact LeO.none _)
      | (with_reducible refine LeO.ite ?_ ?_)
      | (with_reducible refine LeO.bind ?_ (fun _ => ?_))
      | exact ih0 _ _ _ _ _ _
      | exact ih1 _ _ _ _ _ _ _ _ _
      | exact LeO.none _
      | refine LeO.ite ?_ ?_
      | refine LeO.bind ?_ (fun _ => ?_)
set_option maxHeartbeats 8000000 in
set_option maxRecDepth 100000 in
theorem impl_IsTableau.calls (k : Nat) (A0 : Option Addr) (c0 : Nat) (l0 : List (List Int)) (r : Bool) (w : World) (hr0 : Kd.C (Kd.slice 3 (Kd.int .i64)) w A0 l0.length l0) (hc0 : l0.length ≤ c0) (h : impl_IsTableau.f k l0 = some r) :
    Calls Try.prog 68 #[.slice A0 l0.length c0] w fun e w' => e = .returned (.bool r) ∧ Below w.heap.size w w' := by
  have HR0 := Aside0.mk hr0
  have HC0 := Aside0.mk hc0
  clear hr0 hc0
  have HB := Aside0.mk (Below.refl w.heap.size w)
  have H : ((impl_sidesOf.f l0).bind fun bt372 => (if bt372.2.2 = true then (impl_IsTableau.l0 k l0 bt372.1 bt372.2.1 0 bt372.1 0) else (some false))) = some r := h
  clear h
  replace H := Option.bind_eq_some_iff.mp H
  obtain ⟨⟨t372, t373, t374⟩, A20, H⟩ := H
  replace H : (if t374 = true then (impl_IsTableau.l0 k l0 t372 t373 0 t372 0) else (some false)) = some r := H
  have A2 := Aside0.mk A20
  clear A20
  by_cases c3 : t374 = true
  · subst c3
    have H1 : (impl_IsTableau.l0 k l0 t372 t373 0 t372 0) = some r := by rw [if_pos rfl] at H; exact H
    clear H
    have H := H1
    clear H1
    have H' := Aside0.mk H
    clear H
    go_enter Try.func68, Try.ntmps68
    go_wp2_with (first | ((with_reducible refine gate_callee (f := 91) rfl ?_); refine goesL_ (some 12) rfl rfl Try.func91 (by kernel_rfl) rfl #[.slice A0 l0.length c0] rfl (by (try simp only [List.map_toArray, List.map_cons, List.map_nil]); first | done | rfl | (simp only [List.length_drop, List.length_take]; rfl)) ?_; (with_reducible refine (impl_sidesOf.calls _ _ l0 t372 t373 true _ ?side1 ?side2 A2.out).mono ?_); (case side1 => repeat (first | exact HR0.out | (with_reducible refine Kd.C_alloc ?_ _) | (with_reducible refine Kd.C_drewN ?_ _) | (with_reducible refine Kd.C_drew ?_))); (case side2 => exact HC0.out); rintro e w4 ⟨rfl, hb⟩; refine ⟨_, rfl, ?_⟩; have n0_ := Aside0.mk (below_step (by repeat (first | (with_reducible first | exact HB.out | apply below_alloc | apply pw_below_drewN | apply below_drew1) | exact HB.out)) hb); clear HB; have HB := n0_; clear n0_; (try clear hb); (try clear hb2); (try clear hk); (try clear hi)))
    go_loopg [6, 19] k (fun kq v6 v19 w' => ∃ (x6_1 : Int) (x19_1 : Int), v6 = .int .i64 x6_1 ∧ v19 = .int .i64 x19_1 ∧ Aside0 (impl_IsTableau.l0 kq l0 t372 t373 x6_1 t372 x19_1 = some r) ∧ Aside0 (kq ≤ k) ∧ Aside0 (Below w.heap.size w w'))
    case atStart => exact ⟨(0), (0), (by first | rfl | (simp; done) | (simp [*]; done)), (by first | rfl | (simp; done) | (simp [*]; done)), H', ⟨Nat.le_refl _⟩, ⟨by repeat (first | (with_reducible first | exact HB.out | apply below_alloc | apply pw_below_drewN | apply below_drew1) | exact HB.out)⟩⟩
    case round =>
      clear H'
      try clear p2
      try clear c3
      obtain ⟨x6_1, x19_1, rfl, rfl, HA, HK1, HB⟩ := hrel
      cases gk with
      | zero => exact absurd HA.out (by simp [impl_IsTableau.l0])
      | succ k1 =>
        have H := HA.out
        clear HA
        simp only [impl_IsTableau.l0] at H
        by_cases c5 : x19_1 < t372
        · rw [if_pos c5] at H
          have c5b0 : decide (x19_1 < t372) = true := decide_eq_true c5
          clear c5
          have H' := Aside0.mk H
          clear H
          go_wp2
          go_loopg [6, 23] k1 (fun kq v6 v23 w' => ∃ (x6_2 : Int) (x23_2 : Int), v6 = .int .i64 x6_2 ∧ v23 = .int .i64 x23_2 ∧ Aside0 (impl_IsTableau.l1 kq l0 t372 t373 x6_2 x19_1 t372 x19_1 t373 x23_2 = some r) ∧ Aside0 (kq ≤ k1) ∧ Aside0 (Below w.heap.size w w'))
          case atStart => exact ⟨(x6_1), (0), (by first | rfl | (simp; done) | (simp [*]; done)), (by first | rfl | (simp; done) | (simp [*]; done)), H', ⟨Nat.le_refl _⟩, ⟨by repeat (first | (with_reducible first | exact HB.out | apply below_alloc | apply pw_below_drewN | apply below_drew1) | exact HB.out)⟩⟩
          case round =>
            clear H'
            try clear p2
            try clear c3
            try clear c5
            try clear c5b0
            try clear p2
            obtain ⟨x6_2, x23_2, rfl, rfl, HA, HK2, HB⟩ := hrel
            cases gk with
            | zero => exact absurd HA.out (by simp [impl_IsTableau.l1])
            | succ k2 =>
              have H := HA.out
              clear HA
              simp only [impl_IsTableau.l1] at H
              by_cases c6 : x23_2 < t373
              · rw [if_pos c6] at H
                have c6b0 : decide (x23_2 < t373) = true := decide_eq_true c6
                clear c6
                by_cases c7 : 0 ≤ x19_1
                · rw [if_pos c7] at H
                  have c7b0 : decide (0 ≤ x19_1) = true := decide_eq_true c7
                  clear c7
                  by_cases c8 : x19_1 < (l0.length : Int)
                  · rw [if_pos c8] at H
                    have c8b0 : decide (x19_1 < (l0.length : Int)) = true := decide_eq_true c8
                    clear c8
                    by_cases c9 : 0 ≤ x23_2
                    · rw [if_pos c9] at H
                      have c9b0 : decide (0 ≤ x23_2) = true := decide_eq_true c9
                      clear c9
                      by_cases c10 : x23_2 < ((rd_L1 l0 x19_1).length : Int)
                      · rw [if_pos c10] at H
                        have c10b0 : decide (x23_2 < ((rd_L1 l0 x19_1).length : Int)) = true := decide_eq_true c10
                        clear c10
                        replace H := Option.bind_eq_some_iff.mp H
                        obtain ⟨t377, A110, H⟩ := H
                        replace H : (if t377 = true then ((impl_has.f x6_2 (rd (rd_L1 l0 x19_1) x23_2)).bind fun t378 => (if t378 = true then (some false) else (if x19_1 > 0 then (if 0 ≤ (wrap64 (x19_1 - 1)) then (if (wrap64 (x19_1 - 1)) < (l0.length : Int) then (if x23_2 < ((rd_L1 l0 (wrap64 (x19_1 - 1))).length : Int) then (if (rd (rd_L1 l0 x19_1) x23_2) ≤ (rd (rd_L1 l0 (wrap64 (x19_1 - 1))) x23_2) then (some false) else (if x23_2 > 0 then (if 0 ≤ (wrap64 (x23_2 - 1)) then (if (wrap64 (x23_2 - 1)) < ((rd_L1 l0 x19_1).length : Int) then (if (rd (rd_L1 l0 x19_1) x23_2) ≤ (rd (rd_L1 l0 x19_1) (wrap64 (x23_2 - 1))) then (some false) else (if 0 ≤ (rd (rd_L1 l0 x19_1) x23_2) then (impl_IsTableau.l1 k2 l0 t372 t373 (Go.bits .or .i64 x6_2 (shl .i64 1 (rd (rd_L1 l0 x19_1) x23_2))) x19_1 t372 x19_1 t373 (wrap64 (x23_2 + 1))) else (none))) else (none)) else (none)) else (if 0 ≤ (rd (rd_L1 l0 x19_1) x23_2) then (impl_IsTableau.l1 k2 l0 t372 t373 (Go.bits .or .i64 x6_2 (shl .i64 1 (rd (rd_L1 l0 x19_1) x23_2))) x19_1 t372 x19_1 t373 (wrap64 (x23_2 + 1))) else (none)))) else (none)) else (none)) else (none)) else (if x23_2 > 0 then (if 0 ≤ (wrap64 (x23_2 - 1)) then (if (wrap64 (x23_2 - 1)) < ((rd_L1 l0 x19_1).length : Int) then (if (rd (rd_L1 l0 x19_1) x23_2) ≤ (rd (rd_L1 l0 x19_1) (wrap64 (x23_2 - 1))) then (some false) else (if 0 ≤ (rd (rd_L1 l0 x19_1) x23_2) then (impl_IsTableau.l1 k2 l0 t372 t373 (Go.bits .or .i64 x6_2 (shl .i64 1 (rd (rd_L1 l0 x19_1) x23_2))) x19_1 t372 x19_1 t373 (wrap64 (x23_2 + 1))) else (none))) else (none)) else (none)) else (if 0 ≤ (rd (rd_L1 l0 x19_1) x23_2) then (impl_IsTableau.l1 k2 l0 t372 t373 (Go.bits .or .i64 x6_2 (shl .i64 1 (rd (rd_L1 l0 x19_1) x23_2))) x19_1 t372 x19_1 t373 (wrap64 (x23_2 + 1))) else (none)))))) else (some false)) = some r := H
                        have A11 := Aside0.mk A110
                        clear A110
                        by_cases c12 : t377 = true
                        · subst c12
                          have H1 : ((impl_has.f x6_2 (rd (rd_L1 l0 x19_1) x23_2)).bind fun t378 => (if t378 = true then (some false) else (if x19_1 > 0 then (if 0 ≤ (wrap64 (x19_1 - 1)) then (if (wrap64 (x19_1 - 1)) < (l0.length : Int) then (if x23_2 < ((rd_L1 l0 (wrap64 (x19_1 - 1))).length : Int) then (if (rd (rd_L1 l0 x19_1) x23_2) ≤ (rd (rd_L1 l0 (wrap64 (x19_1 - 1))) x23_2) then (some false) else (if x23_2 > 0 then (if 0 ≤ (wrap64 (x23_2 - 1)) then (if (wrap64 (x23_2 - 1)) < ((rd_L1 l0 x19_1).length : Int) then (if (rd (rd_L1 l0 x19_1) x23_2) ≤ (rd (rd_L1 l0 x19_1) (wrap64 (x23_2 - 1))) then (some false) else (if 0 ≤ (rd (rd_L1 l0 x19_1) x23_2) then (impl_IsTableau.l1 k2 l0 t372 t373 (Go.bits .or .i64 x6_2 (shl .i64 1 (rd (rd_L1 l0 x19_1) x23_2))) x19_1 t372 x19_1 t373 (wrap64 (x23_2 + 1))) else (none))) else (none)) else (none)) else (if 0 ≤ (rd (rd_L1 l0 x19_1) x23_2) then (impl_IsTableau.l1 k2 l0 t372 t373 (Go.bits .or .i64 x6_2 (shl .i64 1 (rd (rd_L1 l0 x19_1) x23_2))) x19_1 t372 x19_1 t373 (wrap64 (x23_2 + 1))) else (none)))) else (none)) else (none)) else (none)) else (if x23_2 > 0 then (if 0 ≤ (wrap64 (x23_2 - 1)) then (if (wrap64 (x23_2 - 1)) < ((rd_L1 l0 x19_1).length : Int) then (if (rd (rd_L1 l0 x19_1) x23_2) ≤ (rd (rd_L1 l0 x19_1) (wrap64 (x23_2 - 1))) then (some false) else (if 0 ≤ (rd (rd_L1 l0 x19_1) x23_2) then (impl_IsTableau.l1 k2 l0 t372 t373 (Go.bits .or .i64 x6_2 (shl .i64 1 (rd (rd_L1 l0 x19_1) x23_2))) x19_1 t372 x19_1 t373 (wrap64 (x23_2 + 1))) else (none))) else (none)) else (none)) else (if 0 ≤ (rd (rd_L1 l0 x19_1) x23_2) then (impl_IsTableau.l1 k2 l0 t372 t373 (Go.bits .or .i64 x6_2 (shl .i64 1 (rd (rd_L1 l0 x19_1) x23_2))) x19_1 t372 x19_1 t373 (wrap64 (x23_2 + 1))) else (none)))))) = some r := by rw [if_pos rfl] at H; exact H
                          clear H
                          have H := H1
                          clear H1
                          replace H := Option.bind_eq_some_iff.mp H
                          obtain ⟨t378, A130, H⟩ := H
                          replace H : (if t378 = true then (some false) else (if x19_1 > 0 then (if 0 ≤ (wrap64 (x19_1 - 1)) then (if (wrap64 (x19_1 - 1)) < (l0.length : Int) then (if x23_2 < ((rd_L1 l0 (wrap64 (x19_1 - 1))).length : Int) then (if (rd (rd_L1 l0 x19_1) x23_2) ≤ (rd (rd_L1 l0 (wrap64 (x19_1 - 1))) x23_2) then (some false) else (if x23_2 > 0 then (if 0 ≤ (wrap64 (x23_2 - 1)) then (if (wrap64 (x23_2 - 1)) < ((rd_L1 l0 x19_1).length : Int) then (if (rd (rd_L1 l0 x19_1) x23_2) ≤ (rd (rd_L1 l0 x19_1) (wrap64 (x23_2 - 1))) then (some false) else (if 0 ≤ (rd (rd_L1 l0 x19_1) x23_2) then (impl_IsTableau.l1 k2 l0 t372 t373 (Go.bits .or .i64 x6_2 (shl .i64 1 (rd (rd_L1 l0 x19_1) x23_2))) x19_1 t372 x19_1 t373 (wrap64 (x23_2 + 1))) else (none))) else (none)) else (none)) else (if 0 ≤ (rd (rd_L1 l0 x19_1) x23_2) then (impl_IsTableau.l1 k2 l0 t372 t373 (Go.bits .or .i64 x6_2 (shl .i64 1 (rd (rd_L1 l0 x19_1) x23_2))) x19_1 t372 x19_1 t373 (wrap64 (x23_2 + 1))) else (none)))) else (none)) else (none)) else (none)) else (if x23_2 > 0 then (if 0 ≤ (wrap64 (x23_2 - 1)) then (if (wrap64 (x23_2 - 1)) < ((rd_L1 l0 x19_1).length : Int) then (if (rd (rd_L1 l0 x19_1) x23_2) ≤ (rd (rd_L1 l0 x19_1) (wrap64 (x23_2 - 1))) then (some false) else (if 0 ≤ (rd (rd_L1 l0 x19_1) x23_2) then (impl_IsTableau.l1 k2 l0 t372 t373 (Go.bits .or .i64 x6_2 (shl .i64 1 (rd (rd_L1 l0 x19_1) x23_2))) x19_1 t372 x19_1 t373 (wrap64 (x23_2 + 1))) else (none))) else (none)) else (none)) else (if 0 ≤ (rd (rd_L1 l0 x19_1) x23_2) then (impl_IsTableau.l1 k2 l0 t372 t373 (Go.bits .or .i64 x6_2 (shl .i64 1 (rd (rd_L1 l0 x19_1) x23_2))) x19_1 t372 x19_1 t373 (wrap64 (x23_2 + 1))) else (none))))) = some r := H
                          have A13 := Aside0.mk A130
                          clear A130
                          by_cases c14 : t378 = true
                          · subst c14
                            have H1 : (some false) = some r := by rw [if_pos rfl] at H; exact H
                            clear H
                            have H := H1
                            clear H1
                            obtain rfl := Option.some.inj H
                            have p375 : 0 ≤ (x19_1 : Int) := of_decide_eq_true (by first | (with_reducible assumption) | assumption)
                            have q375 : x19_1 < (l0.length : Int) := of_decide_eq_true (by first | (with_reducible assumption) | assumption)
                            obtain ⟨ad375, A375_0, c375_0, e375, hx375_0, hl375_0, hi375_0⟩ := at_L1 HR0.out x19_1 p375 q375
                            cases e375
                            replace hx375_0 := (HB.out.cell (World.block_lt_of_cell? w _ hx375_0)).trans hx375_0
                            have HR375_0 := Aside0.mk hi375_0
                            have HC375_0 := Aside0.mk hl375_0
                            clear hi375_0 hl375_0
                            replace p375 := eq_true p375
                            replace q375 := eq_true q375
                            have p376 : 0 ≤ (x23_2 : Int) := of_decide_eq_true (by first | (with_reducible assumption) | assumption)
                            have q376 : x23_2 < ((rd_L1 l0 x19_1).length : Int) := of_decide_eq_true (by first | (with_reducible assumption) | assumption)
                            obtain ⟨ad376, e376, hx376_0⟩ := Kd.at_int HR375_0.out x23_2 p376 q376
                            cases e376
                            replace hx376_0 := (HB.out.cell (World.block_lt_of_cell? w _ hx376_0)).trans hx376_0
                            replace p376 := eq_true p376
                            replace q376 := eq_true q376
                            go_wp2_with (first | ((with_reducible refine gate_callee (f := 67) rfl ?_); refine goesL_ (some 38) rfl rfl Try.func67 (by kernel_rfl) rfl #[.int .i64 (rd (rd_L1 l0 x19_1) x23_2), .int .i64 0, .int .i64 (wrap64 ((wrap64 (t372 * t373)) - 1))] rfl (by (try simp only [List.map_toArray, List.map_cons, List.map_nil]); first | done | rfl | (simp only [List.length_drop, List.length_take]; rfl)) ?_; (with_reducible refine (impl_within.calls (rd (rd_L1 l0 x19_1) x23_2) 0 (wrap64 ((wrap64 (t372 * t373)) - 1)) true _ A11.out).mono ?_); rintro e w' ⟨rfl, ⟨nd, rfl⟩⟩; refine ⟨_, rfl, ?_⟩) | (go_at_call 92; (with_reducible refine (impl_has.calls x6_2 (rd (rd_L1 l0 x19_1) x23_2) true _ A13.out).mono ?_); rintro e w' ⟨rfl, ⟨nd, rfl⟩⟩))
                            go_ret
                            exact ⟨by first | rfl | (simp [errW_none, errW_some] <;> rfl) | (simp [*, errW_none, errW_some] <;> rfl), by repeat (first | (with_reducible first | exact HB.out | apply below_alloc | apply pw_below_drewN | apply below_drew1) | exact HB.out)⟩
                          · replace c14 := Bool.eq_false_iff.mpr c14
                            subst c14
                            have H1 : (if x19_1 > 0 then (if 0 ≤ (wrap64 (x19_1 - 1)) then (if (wrap64 (x19_1 - 1)) < (l0.length : Int) then (if x23_2 < ((rd_L1 l0 (wrap64 (x19_1 - 1))).length : Int) then (if (rd (rd_L1 l0 x19_1) x23_2) ≤ (rd (rd_L1 l0 (wrap64 (x19_1 - 1))) x23_2) then (some false) else (if x23_2 > 0 then (if 0 ≤ (wrap64 (x23_2 - 1)) then (if (wrap64 (x23_2 - 1)) < ((rd_L1 l0 x19_1).length : Int) then (if (rd (rd_L1 l0 x19_1) x23_2) ≤ (rd (rd_L1 l0 x19_1) (wrap64 (x23_2 - 1))) then (some false) else (if 0 ≤ (rd (rd_L1 l0 x19_1) x23_2) then (impl_IsTableau.l1 k2 l0 t372 t373 (Go.bits .or .i64 x6_2 (shl .i64 1 (rd (rd_L1 l0 x19_1) x23_2))) x19_1 t372 x19_1 t373 (wrap64 (x23_2 + 1))) else (none))) else (none)) else (none)) else (if 0 ≤ (rd (rd_L1 l0 x19_1) x23_2) then (impl_IsTableau.l1 k2 l0 t372 t373 (Go.bits .or .i64 x6_2 (shl .i64 1 (rd (rd_L1 l0 x19_1) x23_2))) x19_1 t372 x19_1 t373 (wrap64 (x23_2 + 1))) else (none)))) else (none)) else (none)) else (none)) else (if x23_2 > 0 then (if 0 ≤ (wrap64 (x23_2 - 1)) then (if (wrap64 (x23_2 - 1)) < ((rd_L1 l0 x19_1).length : Int) then (if (rd (rd_L1 l0 x19_1) x23_2) ≤ (rd (rd_L1 l0 x19_1) (wrap64 (x23_2 - 1))) then (some false) else (if 0 ≤ (rd (rd_L1 l0 x19_1) x23_2) then (impl_IsTableau.l1 k2 l0 t372 t373 (Go.bits .or .i64 x6_2 (shl .i64 1 (rd (rd_L1 l0 x19_1) x23_2))) x19_1 t372 x19_1 t373 (wrap64 (x23_2 + 1))) else (none))) else (none)) else (none)) else (if 0 ≤ (rd (rd_L1 l0 x19_1) x23_2) then (impl_IsTableau.l1 k2 l0 t372 t373 (Go.bits .or .i64 x6_2 (shl .i64 1 (rd (rd_L1 l0 x19_1) x23_2))) x19_1 t372 x19_1 t373 (wrap64 (x23_2 + 1))) else (none)))) = some r := by rw [if_neg (show ¬ (false = true) by decide)] at H; exact H
                            clear H
                            have H := H1
                            clear H1
                            by_cases c15 : x19_1 > 0
                            · rw [if_pos c15] at H
                              have c15b0 : decide (0 < x19_1) = true := decide_eq_true c15
                              clear c15
                              obtain ⟨ji16, hji16⟩ : ∃ j_ : Int, (wrap64 (x19_1 - 1)) = j_ := ⟨_, rfl⟩
                              replace H : (if 0 ≤ (ji16) then (if (ji16) < (l0.length : Int) then (if x23_2 < ((rd_L1 l0 (ji16)).length : Int) then (if (rd (rd_L1 l0 x19_1) x23_2) ≤ (rd (rd_L1 l0 (ji16)) x23_2) then (some false) else (if x23_2 > 0 then (if 0 ≤ (wrap64 (x23_2 - 1)) then (if (wrap64 (x23_2 - 1)) < ((rd_L1 l0 x19_1).length : Int) then (if (rd (rd_L1 l0 x19_1) x23_2) ≤ (rd (rd_L1 l0 x19_1) (wrap64 (x23_2 - 1))) then (some false) else (if 0 ≤ (rd (rd_L1 l0 x19_1) x23_2) then (impl_IsTableau.l1 k2 l0 t372 t373 (Go.bits .or .i64 x6_2 (shl .i64 1 (rd (rd_L1 l0 x19_1) x23_2))) x19_1 t372 x19_1 t373 (wrap64 (x23_2 + 1))) else (none))) else (none)) else (none)) else (if 0 ≤ (rd (rd_L1 l0 x19_1) x23_2) then (impl_IsTableau.l1 k2 l0 t372 t373 (Go.bits .or .i64 x6_2 (shl .i64 1 (rd (rd_L1 l0 x19_1) x23_2))) x19_1 t372 x19_1 t373 (wrap64 (x23_2 + 1))) else (none)))) else (none)) else (none)) else (none)) = some r := by first | (rw [hji16] at H; exact H) | (simp only [hji16] at H ⊢; exact H)
                              (try rw [hji16] at A11)
                              (try rw [hji16] at A13)
                              have hji16w : (IntKind.i64.wrap (x19_1 - 1)) = ji16 := (i64_w _).trans hji16
                              by_cases c17 : 0 ≤ (ji16)
                              · rw [if_pos c17] at H
                                have c17b0 : decide (0 ≤ (ji16)) = true := decide_eq_true c17
                                clear c17
                                by_cases c18 : (ji16) < (l0.length : Int)
                                · rw [if_pos c18] at H
                                  have c18b0 : decide ((ji16) < (l0.length : Int)) = true := decide_eq_true c18
                                  clear c18
                                  by_cases c19 : x23_2 < ((rd_L1 l0 (ji16)).length : Int)
                                  · rw [if_pos c19] at H
                                    have c19b0 : decide (x23_2 < ((rd_L1 l0 (ji16)).length : Int)) = true := decide_eq_true c19
                                    clear c19
                                    by_cases c20 : (rd (rd_L1 l0 x19_1) x23_2) ≤ (rd (rd_L1 l0 (ji16)) x23_2)
                                    · rw [if_pos c20] at H
                                      have c20b0 : decide ((rd (rd_L1 l0 x19_1) x23_2) ≤ (rd (rd_L1 l0 (ji16)) x23_2)) = true := decide_eq_true c20
                                      clear c20
                                      obtain rfl := Option.some.inj H
                                      have p375 : 0 ≤ (x19_1 : Int) := of_decide_eq_true (by first | (with_reducible assumption) | assumption)
                                      have q375 : x19_1 < (l0.length : Int) := of_decide_eq_true (by first | (with_reducible assumption) | assumption)
                                      obtain ⟨ad375, A375_0, c375_0, e375, hx375_0, hl375_0, hi375_0⟩ := at_L1 HR0.out x19_1 p375 q375
                                      cases e375
                                      replace hx375_0 := (HB.out.cell (World.block_lt_of_cell? w _ hx375_0)).trans hx375_0
                                      have HR375_0 := Aside0.mk hi375_0
                                      have HC375_0 := Aside0.mk hl375_0
                                      clear hi375_0 hl375_0
                                      replace p375 := eq_true p375
                                      replace q375 := eq_true q375
                                      have p376 : 0 ≤ (x23_2 : Int) := of_decide_eq_true (by first | (with_reducible assumption) | assumption)
                                      have q376 : x23_2 < ((rd_L1 l0 x19_1).length : Int) := of_decide_eq_true (by first | (with_reducible assumption) | assumption)
                                      obtain ⟨ad376, e376, hx376_0⟩ := Kd.at_int HR375_0.out x23_2 p376 q376
                                      cases e376
                                      replace hx376_0 := (HB.out.cell (World.block_lt_of_cell? w _ hx376_0)).trans hx376_0
                                      replace p376 := eq_true p376
                                      replace q376 := eq_true q376
                                      go_wp2_with (first | ((with_reducible refine gate_callee (f := 67) rfl ?_); refine goesL_ (some 38) rfl rfl Try.func67 (by kernel_rfl) rfl #[.int .i64 (rd (rd_L1 l0 x19_1) x23_2), .int .i64 0, .int .i64 (wrap64 ((wrap64 (t372 * t373)) - 1))] rfl (by (try simp only [List.map_toArray, List.map_cons, List.map_nil]); first | done | rfl | (simp only [List.length_drop, List.length_take]; rfl)) ?_; (with_reducible refine (impl_within.calls (rd (rd_L1 l0 x19_1) x23_2) 0 (wrap64 ((wrap64 (t372 * t373)) - 1)) true _ A11.out).mono ?_); rintro e w' ⟨rfl, ⟨nd, rfl⟩⟩; refine ⟨_, rfl, ?_⟩) | (go_at_call 92; (with_reducible refine (impl_has.calls x6_2 (rd (rd_L1 l0 x19_1) x23_2) false _ A13.out).mono ?_); rintro e w' ⟨rfl, ⟨nd, rfl⟩⟩; have p379 : 0 ≤ ((ji16) : Int) := of_decide_eq_true (by first | (with_reducible assumption) | assumption); have q379 : (ji16) < (l0.length : Int) := of_decide_eq_true (by first | (with_reducible assumption) | assumption); obtain ⟨ad379, A379_0, c379_0, e379, hx379_0, hl379_0, hi379_0⟩ := at_L1 HR0.out (ji16) p379 q379; obtain rfl : ad375 = ad379 := (by injection e379); replace hx379_0 := (HB.out.cell (World.block_lt_of_cell? w _ hx379_0)).trans hx379_0; have HR379_0 := Aside0.mk hi379_0; have HC379_0 := Aside0.mk hl379_0; clear hi379_0 hl379_0; replace p379 := eq_true p379; replace q379 := eq_true q379; have p380 : 0 ≤ (x23_2 : Int) := of_decide_eq_true (by first | (with_reducible assumption) | assumption); have q380 : x23_2 < ((rd_L1 l0 (ji16)).length : Int) := of_decide_eq_true (by first | (with_reducible assumption) | assumption); obtain ⟨ad380, e380, hx380_0⟩ := Kd.at_int HR379_0.out x23_2 p380 q380; cases e380; replace hx380_0 := (HB.out.cell (World.block_lt_of_cell? w _ hx380_0)).trans hx380_0; replace p380 := eq_true p380; replace q380 := eq_true q380))
                                      go_ret
                                      exact ⟨by first | rfl | (simp [errW_none, errW_some] <;> rfl) | (simp only [← hji16]; first | rfl | (simp [errW_none, errW_some] <;> rfl)) | (simp [*, errW_none, errW_some] <;> rfl), by repeat (first | (with_reducible first | exact HB.out | apply below_alloc | apply pw_below_drewN | apply below_drew1) | exact HB.out)⟩
                                    · rw [if_neg c20] at H
                                      have c20b0 : decide ((rd (rd_L1 l0 x19_1) x23_2) ≤ (rd (rd_L1 l0 (ji16)) x23_2)) = false := decide_eq_false c20
                                      clear c20
                                      by_cases c21 : x23_2 > 0
                                      · rw [if_pos c21] at H
                                        have c21b0 : decide (0 < x23_2) = true := decide_eq_true c21
                                        clear c21
                                        obtain ⟨ji22, hji22⟩ : ∃ j_ : Int, (wrap64 (x23_2 - 1)) = j_ := ⟨_, rfl⟩
                                        replace H : (if 0 ≤ (ji22) then (if (ji22) < ((rd_L1 l0 x19_1).length : Int) then (if (rd (rd_L1 l0 x19_1) x23_2) ≤ (rd (rd_L1 l0 x19_1) (ji22)) then (some false) else (if 0 ≤ (rd (rd_L1 l0 x19_1) x23_2) then (impl_IsTableau.l1 k2 l0 t372 t373 (Go.bits .or .i64 x6_2 (shl .i64 1 (rd (rd_L1 l0 x19_1) x23_2))) x19_1 t372 x19_1 t373 (wrap64 (x23_2 + 1))) else (none))) else (none)) else (none)) = some r := by first | (rw [hji22] at H; exact H) | (simp only [hji22] at H ⊢; exact H)
                                        (try rw [hji22] at A11)
                                        (try rw [hji22] at A13)
                                        have hji22w : (IntKind.i64.wrap (x23_2 - 1)) = ji22 := (i64_w _).trans hji22
                                        by_cases c23 : 0 ≤ (ji22)
                                        · rw [if_pos c23] at H
                                          have c23b0 : decide (0 ≤ (ji22)) = true := decide_eq_true c23
                                          clear c23
                                          by_cases c24 : (ji22) < ((rd_L1 l0 x19_1).length : Int)
                                          · rw [if_pos c24] at H
                                            have c24b0 : decide ((ji22) < ((rd_L1 l0 x19_1).length : Int)) = true := decide_eq_true c24
                                            clear c24
                                            by_cases c25 : (rd (rd_L1 l0 x19_1) x23_2) ≤ (rd (rd_L1 l0 x19_1) (ji22))
                                            · rw [if_pos c25] at H
                                              have c25b0 : decide ((rd (rd_L1 l0 x19_1) x23_2) ≤ (rd (rd_L1 l0 x19_1) (ji22))) = true := decide_eq_true c25
                                              clear c25
                                              obtain rfl := Option.some.inj H
                                              have p375 : 0 ≤ (x19_1 : Int) := of_decide_eq_true (by first | (with_reducible assumption) | assumption)
                                              have q375 : x19_1 < (l0.length : Int) := of_decide_eq_true (by first | (with_reducible assumption) | assumption)
                                              obtain ⟨ad375, A375_0, c375_0, e375, hx375_0, hl375_0, hi375_0⟩ := at_L1 HR0.out x19_1 p375 q375
                                              cases e375
                                              replace hx375_0 := (HB.out.cell (World.block_lt_of_cell? w _ hx375_0)).trans hx375_0
                                              have HR375_0 := Aside0.mk hi375_0
                                              have HC375_0 := Aside0.mk hl375_0
                                              clear hi375_0 hl375_0
                                              replace p375 := eq_true p375
                                              replace q375 := eq_true q375
                                              have p376 : 0 ≤ (x23_2 : Int) := of_decide_eq_true (by first | (with_reducible assumption) | assumption)
                                              have q376 : x23_2 < ((rd_L1 l0 x19_1).length : Int) := of_decide_eq_true (by first | (with_reducible assumption) | assumption)
                                              obtain ⟨ad376, e376, hx376_0⟩ := Kd.at_int HR375_0.out x23_2 p376 q376
                                              cases e376
                                              replace hx376_0 := (HB.out.cell (World.block_lt_of_cell? w _ hx376_0)).trans hx376_0
                                              replace p376 := eq_true p376
                                              replace q376 := eq_true q376
                                              go_wp2_with (first | ((with_reducible refine gate_callee (f := 67) rfl ?_); refine goesL_ (some 38) rfl rfl Try.func67 (by kernel_rfl) rfl #[.int .i64 (rd (rd_L1 l0 x19_1) x23_2), .int .i64 0, .int .i64 (wrap64 ((wrap64 (t372 * t373)) - 1))] rfl (by (try simp only [List.map_toArray, List.map_cons, List.map_nil]); first | done | rfl | (simp only [List.length_drop, List.length_take]; rfl)) ?_; (with_reducible refine (impl_within.calls (rd (rd_L1 l0 x19_1) x23_2) 0 (wrap64 ((wrap64 (t372 * t373)) - 1)) true _ A11.out).mono ?_); rintro e w' ⟨rfl, ⟨nd, rfl⟩⟩; refine ⟨_, rfl, ?_⟩) | (go_at_call 92; (with_reducible refine (impl_has.calls x6_2 (rd (rd_L1 l0 x19_1) x23_2) false _ A13.out).mono ?_); rintro e w' ⟨rfl, ⟨nd, rfl⟩⟩; have p379 : 0 ≤ ((ji16) : Int) := of_decide_eq_true (by first | (with_reducible assumption) | assumption); have q379 : (ji16) < (l0.length : Int) := of_decide_eq_true (by first | (with_reducible assumption) | assumption); obtain ⟨ad379, A379_0, c379_0, e379, hx379_0, hl379_0, hi379_0⟩ := at_L1 HR0.out (ji16) p379 q379; obtain rfl : ad375 = ad379 := (by injection e379); replace hx379_0 := (HB.out.cell (World.block_lt_of_cell? w _ hx379_0)).trans hx379_0; have HR379_0 := Aside0.mk hi379_0; have HC379_0 := Aside0.mk hl379_0; clear hi379_0 hl379_0; replace p379 := eq_true p379; replace q379 := eq_true q379; have p380 : 0 ≤ (x23_2 : Int) := of_decide_eq_true (by first | (with_reducible assumption) | assumption); have q380 : x23_2 < ((rd_L1 l0 (ji16)).length : Int) := of_decide_eq_true (by first | (with_reducible assumption) | assumption); obtain ⟨ad380, e380, hx380_0⟩ := Kd.at_int HR379_0.out x23_2 p380 q380; cases e380; replace hx380_0 := (HB.out.cell (World.block_lt_of_cell? w _ hx380_0)).trans hx380_0; replace p380 := eq_true p380; replace q380 := eq_true q380; have p381 : 0 ≤ (x19_1 : Int) := of_decide_eq_true (by first | (with_reducible assumption) | assumption); have q381 : x19_1 < (l0.length : Int) := of_decide_eq_true (by first | (with_reducible assumption) | assumption); obtain ⟨ad381, A381_0, c381_0, e381, hx381_0, hl381_0, hi381_0⟩ := at_L1 HR0.out x19_1 p381 q381; obtain rfl : ad375 = ad381 := (by injection e381); replace hx381_0 := (HB.out.cell (World.block_lt_of_cell? w _ hx381_0)).trans hx381_0; have HR381_0 := Aside0.mk hi381_0; have HC381_0 := Aside0.mk hl381_0; clear hi381_0 hl381_0; replace p381 := eq_true p381; replace q381 := eq_true q381; have ea_ := Option.some.inj (hx375_0.symm.trans hx381_0); injection ea_ with ea_ en_ ec_; subst ea_; subst ec_; clear en_; have p382 : 0 ≤ ((ji22) : Int) := of_decide_eq_true (by first | (with_reducible assumption) | assumption); have q382 : (ji22) < ((rd_L1 l0 x19_1).length : Int) := of_decide_eq_true (by first | (with_reducible assumption) | assumption); obtain ⟨ad382, e382, hx382_0⟩ := Kd.at_int HR381_0.out (ji22) p382 q382; cases e382; replace hx382_0 := (HB.out.cell (World.block_lt_of_cell? w _ hx382_0)).trans hx382_0; replace p382 := eq_true p382; replace q382 := eq_true q382))
                                              go_ret
                                              exact ⟨by first | rfl | (simp [errW_none, errW_some] <;> rfl) | (simp only [← hji16, ← hji22]; first | rfl | (simp [errW_none, errW_some] <;> rfl)) | (simp [*, errW_none, errW_some] <;> rfl), by repeat (first | (with_reducible first | exact HB.out | apply below_alloc | apply pw_below_drewN | apply below_drew1) | exact HB.out)⟩
                                            · rw [if_neg c25] at H
                                              have c25b0 : decide ((rd (rd_L1 l0 x19_1) x23_2) ≤ (rd (rd_L1 l0 x19_1) (ji22))) = false := decide_eq_false c25
                                              clear c25
                                              by_cases c26 : 0 ≤ (rd (rd_L1 l0 x19_1) x23_2)
                                              · rw [if_pos c26] at H
                                                have c26b0 := eq_true c26
                                                have c26b1 : decide (0 ≤ (rd (rd_L1 l0 x19_1) x23_2)) = true := decide_eq_true c26
                                                clear c26
                                                obtain ⟨ji27, hji27⟩ : ∃ j_ : Int, (shl .i64 1 (rd (rd_L1 l0 x19_1) x23_2)) = j_ := ⟨_, rfl⟩
                                                replace H : (impl_IsTableau.l1 k2 l0 t372 t373 (Go.bits .or .i64 x6_2 (ji27)) x19_1 t372 x19_1 t373 (wrap64 (x23_2 + 1))) = some r := by first | (rw [hji27] at H; exact H) | (simp only [hji27] at H ⊢; exact H)
                                                (try rw [hji27] at A11)
                                                (try rw [hji27] at A13)
                                                have hji27_ : (IntKind.i64.wrap (1 * 2 ^ min (rd (rd_L1 l0 x19_1) x23_2).toNat 64)) = ji27 := hji27
                                                have hji27z : (rd (rd_L1 l0 x19_1) x23_2) ≤ 64 → (IntKind.i64.wrap (1 * 2 ^ (rd (rd_L1 l0 x19_1) x23_2).toNat)) = ji27 := shl_small hji27
                                                have hji27u : (IntKind.i64.wrap (2 ^ min (rd (rd_L1 l0 x19_1) x23_2).toNat 64)) = ji27 := by have h_ := hji27_; rw [Int.one_mul] at h_; exact h_
                                                have hji27v : (rd (rd_L1 l0 x19_1) x23_2) ≤ 64 → (IntKind.i64.wrap (2 ^ (rd (rd_L1 l0 x19_1) x23_2).toNat)) = ji27 := fun hle_ => by have h_ := hji27z hle_; rw [Int.one_mul] at h_; exact h_
                                                have hji27y : (wrap64 (1 * 2 ^ min (rd (rd_L1 l0 x19_1) x23_2).toNat 64)) = ji27 := (i64_w _).symm.trans hji27_
                                                have hji27x : (rd (rd_L1 l0 x19_1) x23_2) ≤ 64 → (wrap64 (1 * 2 ^ (rd (rd_L1 l0 x19_1) x23_2).toNat)) = ji27 := fun h_ => (i64_w _).symm.trans (hji27z h_)
                                                have H' := Aside0.mk H
                                                clear H
                                                have p375 : 0 ≤ (x19_1 : Int) := of_decide_eq_true (by first | (with_reducible assumption) | assumption)
                                                have q375 : x19_1 < (l0.length : Int) := of_decide_eq_true (by first | (with_reducible assumption) | assumption)
                                                obtain ⟨ad375, A375_0, c375_0, e375, hx375_0, hl375_0, hi375_0⟩ := at_L1 HR0.out x19_1 p375 q375
                                                cases e375
                                                replace hx375_0 := (HB.out.cell (World.block_lt_of_cell? w _ hx375_0)).trans hx375_0
                                                have HR375_0 := Aside0.mk hi375_0
                                                have HC375_0 := Aside0.mk hl375_0
                                                clear hi375_0 hl375_0
                                                replace p375 := eq_true p375
                                                replace q375 := eq_true q375
                                                have p376 : 0 ≤ (x23_2 : Int) := of_decide_eq_true (by first | (with_reducible assumption) | assumption)
                                                have q376 : x23_2 < ((rd_L1 l0 x19_1).length : Int) := of_decide_eq_true (by first | (with_reducible assumption) | assumption)
                                                obtain ⟨ad376, e376, hx376_0⟩ := Kd.at_int HR375_0.out x23_2 p376 q376
                                                cases e376
                                                replace hx376_0 := (HB.out.cell (World.block_lt_of_cell? w _ hx376_0)).trans hx376_0
                                                replace p376 := eq_true p376
                                                replace q376 := eq_true q376
                                                go_wp2_with (first | ((with_reducible refine gate_callee (f := 67) rfl ?_); refine goesL_ (some 38) rfl rfl Try.func67 (by kernel_rfl) rfl #[.int .i64 (rd (rd_L1 l0 x19_1) x23_2), .int .i64 0, .int .i64 (wrap64 ((wrap64 (t372 * t373)) - 1))] rfl (by (try simp only [List.map_toArray, List.map_cons, List.map_nil]); first | done | rfl | (simp only [List.length_drop, List.length_take]; rfl)) ?_; (with_reducible refine (impl_within.calls (rd (rd_L1 l0 x19_1) x23_2) 0 (wrap64 ((wrap64 (t372 * t373)) - 1)) true _ A11.out).mono ?_); rintro e w' ⟨rfl, ⟨nd, rfl⟩⟩; refine ⟨_, rfl, ?_⟩) | (go_at_call 92; (with_reducible refine (impl_has.calls x6_2 (rd (rd_L1 l0 x19_1) x23_2) false _ A13.out).mono ?_); rintro e w' ⟨rfl, ⟨nd, rfl⟩⟩; have p379 : 0 ≤ ((ji16) : Int) := of_decide_eq_true (by first | (with_reducible assumption) | assumption); have q379 : (ji16) < (l0.length : Int) := of_decide_eq_true (by first | (with_reducible assumption) | assumption); obtain ⟨ad379, A379_0, c379_0, e379, hx379_0, hl379_0, hi379_0⟩ := at_L1 HR0.out (ji16) p379 q379; obtain rfl : ad375 = ad379 := (by injection e379); replace hx379_0 := (HB.out.cell (World.block_lt_of_cell? w _ hx379_0)).trans hx379_0; have HR379_0 := Aside0.mk hi379_0; have HC379_0 := Aside0.mk hl379_0; clear hi379_0 hl379_0; replace p379 := eq_true p379; replace q379 := eq_true q379; have p380 : 0 ≤ (x23_2 : Int) := of_decide_eq_true (by first | (with_reducible assumption) | assumption); have q380 : x23_2 < ((rd_L1 l0 (ji16)).length : Int) := of_decide_eq_true (by first | (with_reducible assumption) | assumption); obtain ⟨ad380, e380, hx380_0⟩ := Kd.at_int HR379_0.out x23_2 p380 q380; cases e380; replace hx380_0 := (HB.out.cell (World.block_lt_of_cell? w _ hx380_0)).trans hx380_0; replace p380 := eq_true p380; replace q380 := eq_true q380; have p381 : 0 ≤ (x19_1 : Int) := of_decide_eq_true (by first | (with_reducible assumption) | assumption); have q381 : x19_1 < (l0.length : Int) := of_decide_eq_true (by first | (with_reducible assumption) | assumption); obtain ⟨ad381, A381_0, c381_0, e381, hx381_0, hl381_0, hi381_0⟩ := at_L1 HR0.out x19_1 p381 q381; obtain rfl : ad375 = ad381 := (by injection e381); replace hx381_0 := (HB.out.cell (World.block_lt_of_cell? w _ hx381_0)).trans hx381_0; have HR381_0 := Aside0.mk hi381_0; have HC381_0 := Aside0.mk hl381_0; clear hi381_0 hl381_0; replace p381 := eq_true p381; replace q381 := eq_true q381; have ea_ := Option.some.inj (hx375_0.symm.trans hx381_0); injection ea_ with ea_ en_ ec_; subst ea_; subst ec_; clear en_; have p382 : 0 ≤ ((ji22) : Int) := of_decide_eq_true (by first | (with_reducible assumption) | assumption); have q382 : (ji22) < ((rd_L1 l0 x19_1).length : Int) := of_decide_eq_true (by first | (with_reducible assumption) | assumption); obtain ⟨ad382, e382, hx382_0⟩ := Kd.at_int HR381_0.out (ji22) p382 q382; cases e382; replace hx382_0 := (HB.out.cell (World.block_lt_of_cell? w _ hx382_0)).trans hx382_0; replace p382 := eq_true p382; replace q382 := eq_true q382))
                                                go_roundg k2
                                                case measure => have := HK1.out; have := HK2.out; omega
                                                case rel => exact ⟨(Go.bits .or .i64 x6_2 (ji27)), (wrap64 (x23_2 + 1)), (by first | rfl | (simp; done) | (simp only [← hji27] <;> (first | rfl | simp)) | (simp [*]; done)), (by first | rfl | (simp; done) | (simp [*]; done)), H', ⟨by have := HK1.out; have := HK2.out; omega⟩, ⟨by repeat (first | (with_reducible first | exact HB.out | apply below_alloc | apply pw_below_drewN | apply below_drew1) | exact HB.out)⟩⟩
                                              · rw [if_neg c26] at H
                                                exact absurd H (by simp)
                                          · rw [if_neg c24] at H
                                            exact absurd H (by simp)
                                        · rw [if_neg c23] at H
                                          exact absurd H (by simp)
                                      · rw [if_neg c21] at H
                                        have c21b0 : decide (0 < x23_2) = false := decide_eq_false c21
                                        clear c21
                                        by_cases c28 : 0 ≤ (rd (rd_L1 l0 x19_1) x23_2)
                                        · rw [if_pos c28] at H
                                          have c28b0 := eq_true c28
                                          have c28b1 : decide (0 ≤ (rd (rd_L1 l0 x19_1) x23_2)) = true := decide_eq_true c28
                                          clear c28
                                          obtain ⟨ji29, hji29⟩ : ∃ j_ : Int, (shl .i64 1 (rd (rd_L1 l0 x19_1) x23_2)) = j_ := ⟨_, rfl⟩
                                          replace H : (impl_IsTableau.l1 k2 l0 t372 t373 (Go.bits .or .i64 x6_2 (ji29)) x19_1 t372 x19_1 t373 (wrap64 (x23_2 + 1))) = some r := by first | (rw [hji29] at H; exact H) | (simp only [hji29] at H ⊢; exact H)
                                          (try rw [hji29] at A11)
                                          (try rw [hji29] at A13)
                                          have hji29_ : (IntKind.i64.wrap (1 * 2 ^ min (rd (rd_L1 l0 x19_1) x23_2).toNat 64)) = ji29 := hji29
                                          have hji29z : (rd (rd_L1 l0 x19_1) x23_2) ≤ 64 → (IntKind.i64.wrap (1 * 2 ^ (rd (rd_L1 l0 x19_1) x23_2).toNat)) = ji29 := shl_small hji29
                                          have hji29u : (IntKind.i64.wrap (2 ^ min (rd (rd_L1 l0 x19_1) x23_2).toNat 64)) = ji29 := by have h_ := hji29_; rw [Int.one_mul] at h_; exact h_
                                          have hji29v : (rd (rd_L1 l0 x19_1) x23_2) ≤ 64 → (IntKind.i64.wrap (2 ^ (rd (rd_L1 l0 x19_1) x23_2).toNat)) = ji29 := fun hle_ => by have h_ := hji29z hle_; rw [Int.one_mul] at h_; exact h_
                                          have hji29y : (wrap64 (1 * 2 ^ min (rd (rd_L1 l0 x19_1) x23_2).toNat 64)) = ji29 := (i64_w _).symm.trans hji29_
                                          have hji29x : (rd (rd_L1 l0 x19_1) x23_2) ≤ 64 → (wrap64 (1 * 2 ^ (rd (rd_L1 l0 x19_1) x23_2).toNat)) = ji29 := fun h_ => (i64_w _).symm.trans (hji29z h_)
                                          have H' := Aside0.mk H
                                          clear H
                                          have p375 : 0 ≤ (x19_1 : Int) := of_decide_eq_true (by first | (with_reducible assumption) | assumption)
                                          have q375 : x19_1 < (l0.length : Int) := of_decide_eq_true (by first | (with_reducible assumption) | assumption)
                                          obtain ⟨ad375, A375_0, c375_0, e375, hx375_0, hl375_0, hi375_0⟩ := at_L1 HR0.out x19_1 p375 q375
                                          cases e375
                                          replace hx375_0 := (HB.out.cell (World.block_lt_of_cell? w _ hx375_0)).trans hx375_0
                                          have HR375_0 := Aside0.mk hi375_0
                                          have HC375_0 := Aside0.mk hl375_0
                                          clear hi375_0 hl375_0
                                          replace p375 := eq_true p375
                                          replace q375 := eq_true q375
                                          have p376 : 0 ≤ (x23_2 : Int) := of_decide_eq_true (by first | (with_reducible assumption) | assumption)
                                          have q376 : x23_2 < ((rd_L1 l0 x19_1).length : Int) := of_decide_eq_true (by first | (with_reducible assumption) | assumption)
                                          obtain ⟨ad376, e376, hx376_0⟩ := Kd.at_int HR375_0.out x23_2 p376 q376
                                          cases e376
                                          replace hx376_0 := (HB.out.cell (World.block_lt_of_cell? w _ hx376_0)).trans hx376_0
                                          replace p376 := eq_true p376
                                          replace q376 := eq_true q376
                                          go_wp2_with (first | ((with_reducible refine gate_callee (f := 67) rfl ?_); refine goesL_ (some 38) rfl rfl Try.func67 (by kernel_rfl) rfl #[.int .i64 (rd (rd_L1 l0 x19_1) x23_2), .int .i64 0, .int .i64 (wrap64 ((wrap64 (t372 * t373)) - 1))] rfl (by (try simp only [List.map_toArray, List.map_cons, List.map_nil]); first | done | rfl | (simp only [List.length_drop, List.length_take]; rfl)) ?_; (with_reducible refine (impl_within.calls (rd (rd_L1 l0 x19_1) x23_2) 0 (wrap64 ((wrap64 (t372 * t373)) - 1)) true _ A11.out).mono ?_); rintro e w' ⟨rfl, ⟨nd, rfl⟩⟩; refine ⟨_, rfl, ?_⟩) | (go_at_call 92; (with_reducible refine (impl_has.calls x6_2 (rd (rd_L1 l0 x19_1) x23_2) false _ A13.out).mono ?_); rintro e w' ⟨rfl, ⟨nd, rfl⟩⟩; have p379 : 0 ≤ ((ji16) : Int) := of_decide_eq_true (by first | (with_reducible assumption) | assumption); have q379 : (ji16) < (l0.length : Int) := of_decide_eq_true (by first | (with_reducible assumption) | assumption); obtain ⟨ad379, A379_0, c379_0, e379, hx379_0, hl379_0, hi379_0⟩ := at_L1 HR0.out (ji16) p379 q379; obtain rfl : ad375 = ad379 := (by injection e379); replace hx379_0 := (HB.out.cell (World.block_lt_of_cell? w _ hx379_0)).trans hx379_0; have HR379_0 := Aside0.mk hi379_0; have HC379_0 := Aside0.mk hl379_0; clear hi379_0 hl379_0; replace p379 := eq_true p379; replace q379 := eq_true q379; have p380 : 0 ≤ (x23_2 : Int) := of_decide_eq_true (by first | (with_reducible assumption) | assumption); have q380 : x23_2 < ((rd_L1 l0 (ji16)).length : Int) := of_decide_eq_true (by first | (with_reducible assumption) | assumption); obtain ⟨ad380, e380, hx380_0⟩ := Kd.at_int HR379_0.out x23_2 p380 q380; cases e380; replace hx380_0 := (HB.out.cell (World.block_lt_of_cell? w _ hx380_0)).trans hx380_0; replace p380 := eq_true p380; replace q380 := eq_true q380))
                                          go_roundg k2
                                          case measure => have := HK1.out; have := HK2.out; omega
                                          case rel => exact ⟨(Go.bits .or .i64 x6_2 (ji29)), (wrap64 (x23_2 + 1)), (by first | rfl | (simp; done) | (simp only [← hji29] <;> (first | rfl | simp)) | (simp [*]; done)), (by first | rfl | (simp; done) | (simp [*]; done)), H', ⟨by have := HK1.out; have := HK2.out; omega⟩, ⟨by repeat (first | (with_reducible first | exact HB.out | apply below_alloc | apply pw_below_drewN | apply below_drew1) | exact HB.out)⟩⟩
                                        · rw [if_neg c28] at H
                                          exact absurd H (by simp)
                                  · rw [if_neg c19] at H
                                    exact absurd H (by simp)
                                · rw [if_neg c18] at H
                                  exact absurd H (by simp)
                              · rw [if_neg c17] at H
                                exact absurd H (by simp)
                            · rw [if_neg c15] at H
                              have c15b0 : decide (0 < x19_1) = false := decide_eq_false c15
                              clear c15
                              by_cases c30 : x23_2 > 0
                              · rw [if_pos c30] at H
                                have c30b0 : decide (0 < x23_2) = true := decide_eq_true c30
                                clear c30
                                obtain ⟨ji31, hji31⟩ : ∃ j_ : Int, (wrap64 (x23_2 - 1)) = j_ := ⟨_, rfl⟩
                                replace H : (if 0 ≤ (ji31) then (if (ji31) < ((rd_L1 l0 x19_1).length : Int) then (if (rd (rd_L1 l0 x19_1) x23_2) ≤ (rd (rd_L1 l0 x19_1) (ji31)) then (some false) else (if 0 ≤ (rd (rd_L1 l0 x19_1) x23_2) then (impl_IsTableau.l1 k2 l0 t372 t373 (Go.bits .or .i64 x6_2 (shl .i64 1 (rd (rd_L1 l0 x19_1) x23_2))) x19_1 t372 x19_1 t373 (wrap64 (x23_2 + 1))) else (none))) else (none)) else (none)) = some r := by first | (rw [hji31] at H; exact H) | (simp only [hji31] at H ⊢; exact H)
                                (try rw [hji31] at A11)
                                (try rw [hji31] at A13)
                                have hji31w : (IntKind.i64.wrap (x23_2 - 1)) = ji31 := (i64_w _).trans hji31
                                by_cases c32 : 0 ≤ (ji31)
                                · rw [if_pos c32] at H
                                  have c32b0 : decide (0 ≤ (ji31)) = true := decide_eq_true c32
                                  clear c32
                                  by_cases c33 : (ji31) < ((rd_L1 l0 x19_1).length : Int)
                                  · rw [if_pos c33] at H
                                    have c33b0 : decide ((ji31) < ((rd_L1 l0 x19_1).length : Int)) = true := decide_eq_true c33
                                    clear c33
                                    by_cases c34 : (rd (rd_L1 l0 x19_1) x23_2) ≤ (rd (rd_L1 l0 x19_1) (ji31))
                                    · rw [if_pos c34] at H
                                      have c34b0 : decide ((rd (rd_L1 l0 x19_1) x23_2) ≤ (rd (rd_L1 l0 x19_1) (ji31))) = true := decide_eq_true c34
                                      clear c34
                                      obtain rfl := Option.some.inj H
                                      have p375 : 0 ≤ (x19_1 : Int) := of_decide_eq_true (by first | (with_reducible assumption) | assumption)
                                      have q375 : x19_1 < (l0.length : Int) := of_decide_eq_true (by first | (with_reducible assumption) | assumption)
                                      obtain ⟨ad375, A375_0, c375_0, e375, hx375_0, hl375_0, hi375_0⟩ := at_L1 HR0.out x19_1 p375 q375
                                      cases e375
                                      replace hx375_0 := (HB.out.cell (World.block_lt_of_cell? w _ hx375_0)).trans hx375_0
                                      have HR375_0 := Aside0.mk hi375_0
                                      have HC375_0 := Aside0.mk hl375_0
                                      clear hi375_0 hl375_0
                                      replace p375 := eq_true p375
                                      replace q375 := eq_true q375
                                      have p376 : 0 ≤ (x23_2 : Int) := of_decide_eq_true (by first | (with_reducible assumption) | assumption)
                                      have q376 : x23_2 < ((rd_L1 l0 x19_1).length : Int) := of_decide_eq_true (by first | (with_reducible assumption) | assumption)
                                      obtain ⟨ad376, e376, hx376_0⟩ := Kd.at_int HR375_0.out x23_2 p376 q376
                                      cases e376
                                      replace hx376_0 := (HB.out.cell (World.block_lt_of_cell? w _ hx376_0)).trans hx376_0
                                      replace p376 := eq_true p376
                                      replace q376 := eq_true q376
                                      go_wp2_with (first | ((with_reducible refine gate_callee (f := 67) rfl ?_); refine goesL_ (some 38) rfl rfl Try.func67 (by kernel_rfl) rfl #[.int .i64 (rd (rd_L1 l0 x19_1) x23_2), .int .i64 0, .int .i64 (wrap64 ((wrap64 (t372 * t373)) - 1))] rfl (by (try simp only [List.map_toArray, List.map_cons, List.map_nil]); first | done | rfl | (simp only [List.length_drop, List.length_take]; rfl)) ?_; (with_reducible refine (impl_within.calls (rd (rd_L1 l0 x19_1) x23_2) 0 (wrap64 ((wrap64 (t372 * t373)) - 1)) true _ A11.out).mono ?_); rintro e w' ⟨rfl, ⟨nd, rfl⟩⟩; refine ⟨_, rfl, ?_⟩) | (go_at_call 92; (with_reducible refine (impl_has.calls x6_2 (rd (rd_L1 l0 x19_1) x23_2) false _ A13.out).mono ?_); rintro e w' ⟨rfl, ⟨nd, rfl⟩⟩; have p383 : 0 ≤ (x19_1 : Int) := of_decide_eq_true (by first | (with_reducible assumption) | assumption); have q383 : x19_1 < (l0.length : Int) := of_decide_eq_true (by first | (with_reducible assumption) | assumption); obtain ⟨ad383, A383_0, c383_0, e383, hx383_0, hl383_0, hi383_0⟩ := at_L1 HR0.out x19_1 p383 q383; obtain rfl : ad375 = ad383 := (by injection e383); replace hx383_0 := (HB.out.cell (World.block_lt_of_cell? w _ hx383_0)).trans hx383_0; have HR383_0 := Aside0.mk hi383_0; have HC383_0 := Aside0.mk hl383_0; clear hi383_0 hl383_0; replace p383 := eq_true p383; replace q383 := eq_true q383; have ea_ := Option.some.inj (hx375_0.symm.trans hx383_0); injection ea_ with ea_ en_ ec_; subst ea_; subst ec_; clear en_; have p384 : 0 ≤ ((ji31) : Int) := of_decide_eq_true (by first | (with_reducible assumption) | assumption); have q384 : (ji31) < ((rd_L1 l0 x19_1).length : Int) := of_decide_eq_true (by first | (with_reducible assumption) | assumption); obtain ⟨ad384, e384, hx384_0⟩ := Kd.at_int HR383_0.out (ji31) p384 q384; cases e384; replace hx384_0 := (HB.out.cell (World.block_lt_of_cell? w _ hx384_0)).trans hx384_0; replace p384 := eq_true p384; replace q384 := eq_true q384))
                                      go_ret
                                      exact ⟨by first | rfl | (simp [errW_none, errW_some] <;> rfl) | (simp only [← hji31]; first | rfl | (simp [errW_none, errW_some] <;> rfl)) | (simp [*, errW_none, errW_some] <;> rfl), by repeat (first | (with_reducible first | exact HB.out | apply below_alloc | apply pw_below_drewN | apply below_drew1) | exact HB.out)⟩
                                    · rw [if_neg c34] at H
                                      have c34b0 : decide ((rd (rd_L1 l0 x19_1) x23_2) ≤ (rd (rd_L1 l0 x19_1) (ji31))) = false := decide_eq_false c34
                                      clear c34
                                      by_cases c35 : 0 ≤ (rd (rd_L1 l0 x19_1) x23_2)
                                      · rw [if_pos c35] at H
                                        have c35b0 := eq_true c35
                                        have c35b1 : decide (0 ≤ (rd (rd_L1 l0 x19_1) x23_2)) = true := decide_eq_true c35
                                        clear c35
                                        obtain ⟨ji36, hji36⟩ : ∃ j_ : Int, (shl .i64 1 (rd (rd_L1 l0 x19_1) x23_2)) = j_ := ⟨_, rfl⟩
                                        replace H : (impl_IsTableau.l1 k2 l0 t372 t373 (Go.bits .or .i64 x6_2 (ji36)) x19_1 t372 x19_1 t373 (wrap64 (x23_2 + 1))) = some r := by first | (rw [hji36] at H; exact H) | (simp only [hji36] at H ⊢; exact H)
                                        (try rw [hji36] at A11)
                                        (try rw [hji36] at A13)
                                        have hji36_ : (IntKind.i64.wrap (1 * 2 ^ min (rd (rd_L1 l0 x19_1) x23_2).toNat 64)) = ji36 := hji36
                                        have hji36z : (rd (rd_L1 l0 x19_1) x23_2) ≤ 64 → (IntKind.i64.wrap (1 * 2 ^ (rd (rd_L1 l0 x19_1) x23_2).toNat)) = ji36 := shl_small hji36
                                        have hji36u : (IntKind.i64.wrap (2 ^ min (rd (rd_L1 l0 x19_1) x23_2).toNat 64)) = ji36 := by have h_ := hji36_; rw [Int.one_mul] at h_; exact h_
                                        have hji36v : (rd (rd_L1 l0 x19_1) x23_2) ≤ 64 → (IntKind.i64.wrap (2 ^ (rd (rd_L1 l0 x19_1) x23_2).toNat)) = ji36 := fun hle_ => by have h_ := hji36z hle_; rw [Int.one_mul] at h_; exact h_
                                        have hji36y : (wrap64 (1 * 2 ^ min (rd (rd_L1 l0 x19_1) x23_2).toNat 64)) = ji36 := (i64_w _).symm.trans hji36_
                                        have hji36x : (rd (rd_L1 l0 x19_1) x23_2) ≤ 64 → (wrap64 (1 * 2 ^ (rd (rd_L1 l0 x19_1) x23_2).toNat)) = ji36 := fun h_ => (i64_w _).symm.trans (hji36z h_)
                                        have H' := Aside0.mk H
                                        clear H
                                        have p375 : 0 ≤ (x19_1 : Int) := of_decide_eq_true (by first | (with_reducible assumption) | assumption)
                                        have q375 : x19_1 < (l0.length : Int) := of_decide_eq_true (by first | (with_reducible assumption) | assumption)
                                        obtain ⟨ad375, A375_0, c375_0, e375, hx375_0, hl375_0, hi375_0⟩ := at_L1 HR0.out x19_1 p375 q375
                                        cases e375
                                        replace hx375_0 := (HB.out.cell (World.block_lt_of_cell? w _ hx375_0)).trans hx375_0
                                        have HR375_0 := Aside0.mk hi375_0
                                        have HC375_0 := Aside0.mk hl375_0
                                        clear hi375_0 hl375_0
                                        replace p375 := eq_true p375
                                        replace q375 := eq_true q375
                                        have p376 : 0 ≤ (x23_2 : Int) := of_decide_eq_true (by first | (with_reducible assumption) | assumption)
                                        have q376 : x23_2 < ((rd_L1 l0 x19_1).length : Int) := of_decide_eq_true (by first | (with_reducible assumption) | assumption)
                                        obtain ⟨ad376, e376, hx376_0⟩ := Kd.at_int HR375_0.out x23_2 p376 q376
                                        cases e376
                                        replace hx376_0 := (HB.out.cell (World.block_lt_of_cell? w _ hx376_0)).trans hx376_0
                                        replace p376 := eq_true p376
                                        replace q376 := eq_true q376
                                        go_wp2_with (first | ((with_reducible refine gate_callee (f := 67) rfl ?_); refine goesL_ (some 38) rfl rfl Try.func67 (by kernel_rfl) rfl #[.int .i64 (rd (rd_L1 l0 x19_1) x23_2), .int .i64 0, .int .i64 (wrap64 ((wrap64 (t372 * t373)) - 1))] rfl (by (try simp only [List.map_toArray, List.map_cons, List.map_nil]); first | done | rfl | (simp only [List.length_drop, List.length_take]; rfl)) ?_; (with_reducible refine (impl_within.calls (rd (rd_L1 l0 x19_1) x23_2) 0 (wrap64 ((wrap64 (t372 * t373)) - 1)) true _ A11.out).mono ?_); rintro e w' ⟨rfl, ⟨nd, rfl⟩⟩; refine ⟨_, rfl, ?_⟩) | (go_at_call 92; (with_reducible refine (impl_has.calls x6_2 (rd (rd_L1 l0 x19_1) x23_2) false _ A13.out).mono ?_); rintro e w' ⟨rfl, ⟨nd, rfl⟩⟩; have p383 : 0 ≤ (x19_1 : Int) := of_decide_eq_true (by first | (with_reducible assumption) | assumption); have q383 : x19_1 < (l0.length : Int) := of_decide_eq_true (by first | (with_reducible assumption) | assumption); obtain ⟨ad383, A383_0, c383_0, e383, hx383_0, hl383_0, hi383_0⟩ := at_L1 HR0.out x19_1 p383 q383; obtain rfl : ad375 = ad383 := (by injection e383); replace hx383_0 := (HB.out.cell (World.block_lt_of_cell? w _ hx383_0)).trans hx383_0; have HR383_0 := Aside0.mk hi383_0; have HC383_0 := Aside0.mk hl383_0; clear hi383_0 hl383_0; replace p383 := eq_true p383; replace q383 := eq_true q383; have ea_ := Option.some.inj (hx375_0.symm.trans hx383_0); injection ea_ with ea_ en_ ec_; subst ea_; subst ec_; clear en_; have p384 : 0 ≤ ((ji31) : Int) := of_decide_eq_true (by first | (with_reducible assumption) | assumption); have q384 : (ji31) < ((rd_L1 l0 x19_1).length : Int) := of_decide_eq_true (by first | (with_reducible assumption) | assumption); obtain ⟨ad384, e384, hx384_0⟩ := Kd.at_int HR383_0.out (ji31) p384 q384; cases e384; replace hx384_0 := (HB.out.cell (World.block_lt_of_cell? w _ hx384_0)).trans hx384_0; replace p384 := eq_true p384; replace q384 := eq_true q384))
                                        go_roundg k2
                                        case measure => have := HK1.out; have := HK2.out; omega
                                        case rel => exact ⟨(Go.bits .or .i64 x6_2 (ji36)), (wrap64 (x23_2 + 1)), (by first | rfl | (simp; done) | (simp only [← hji36] <;> (first | rfl | simp)) | (simp [*]; done)), (by first | rfl | (simp; done) | (simp [*]; done)), H', ⟨by have := HK1.out; have := HK2.out; omega⟩, ⟨by repeat (first | (with_reducible first | exact HB.out | apply below_alloc | apply pw_below_drewN | apply below_drew1) | exact HB.out)⟩⟩
                                      · rw [if_neg c35] at H
                                        exact absurd H (by simp)
                                  · rw [if_neg c33] at H
                                    exact absurd H (by simp)
                                · rw [if_neg c32] at H
                                  exact absurd H (by simp)
                              · rw [if_neg c30] at H
                                have c30b0 : decide (0 < x23_2) = false := decide_eq_false c30
                                clear c30
                                by_cases c37 : 0 ≤ (rd (rd_L1 l0 x19_1) x23_2)
                                · rw [if_pos c37] at H
                                  have c37b0 := eq_true c37
                                  have c37b1 : decide (0 ≤ (rd (rd_L1 l0 x19_1) x23_2)) = true := decide_eq_true c37
                                  clear c37
                                  obtain ⟨ji38, hji38⟩ : ∃ j_ : Int, (shl .i64 1 (rd (rd_L1 l0 x19_1) x23_2)) = j_ := ⟨_, rfl⟩
                                  replace H : (impl_IsTableau.l1 k2 l0 t372 t373 (Go.bits .or .i64 x6_2 (ji38)) x19_1 t372 x19_1 t373 (wrap64 (x23_2 + 1))) = some r := by first | (rw [hji38] at H; exact H) | (simp only [hji38] at H ⊢; exact H)
                                  (try rw [hji38] at A11)
                                  (try rw [hji38] at A13)
                                  have hji38_ : (IntKind.i64.wrap (1 * 2 ^ min (rd (rd_L1 l0 x19_1) x23_2).toNat 64)) = ji38 := hji38
                                  have hji38z : (rd (rd_L1 l0 x19_1) x23_2) ≤ 64 → (IntKind.i64.wrap (1 * 2 ^ (rd (rd_L1 l0 x19_1) x23_2).toNat)) = ji38 := shl_small hji38
                                  have hji38u : (IntKind.i64.wrap (2 ^ min (rd (rd_L1 l0 x19_1) x23_2).toNat 64)) = ji38 := by have h_ := hji38_; rw [Int.one_mul] at h_; exact h_
                                  have hji38v : (rd (rd_L1 l0 x19_1) x23_2) ≤ 64 → (IntKind.i64.wrap (2 ^ (rd (rd_L1 l0 x19_1) x23_2).toNat)) = ji38 := fun hle_ => by have h_ := hji38z hle_; rw [Int.one_mul] at h_; exact h_
                                  have hji38y : (wrap64 (1 * 2 ^ min (rd (rd_L1 l0 x19_1) x23_2).toNat 64)) = ji38 := (i64_w _).symm.trans hji38_
                                  have hji38x : (rd (rd_L1 l0 x19_1) x23_2) ≤ 64 → (wrap64 (1 * 2 ^ (rd (rd_L1 l0 x19_1) x23_2).toNat)) = ji38 := fun h_ => (i64_w _).symm.trans (hji38z h_)
                                  have H' := Aside0.mk H
                                  clear H
                                  have p375 : 0 ≤ (x19_1 : Int) := of_decide_eq_true (by first | (with_reducible assumption) | assumption)
                                  have q375 : x19_1 < (l0.length : Int) := of_decide_eq_true (by first | (with_reducible assumption) | assumption)
                                  obtain ⟨ad375, A375_0, c375_0, e375, hx375_0, hl375_0, hi375_0⟩ := at_L1 HR0.out x19_1 p375 q375
                                  cases e375
                                  replace hx375_0 := (HB.out.cell (World.block_lt_of_cell? w _ hx375_0)).trans hx375_0
                                  have HR375_0 := Aside0.mk hi375_0
                                  have HC375_0 := Aside0.mk hl375_0
                                  clear hi375_0 hl375_0
                                  replace p375 := eq_true p375
                                  replace q375 := eq_true q375
                                  have p376 : 0 ≤ (x23_2 : Int) := of_decide_eq_true (by first | (with_reducible assumption) | assumption)
                                  have q376 : x23_2 < ((rd_L1 l0 x19_1).length : Int) := of_decide_eq_true (by first | (with_reducible assumption) | assumption)
                                  obtain ⟨ad376, e376, hx376_0⟩ := Kd.at_int HR375_0.out x23_2 p376 q376
                                  cases e376
                                  replace hx376_0 := (HB.out.cell (World.block_lt_of_cell? w _ hx376_0)).trans hx376_0
                                  replace p376 := eq_true p376
                                  replace q376 := eq_true q376
                                  go_wp2_with (first | ((with_reducible refine gate_callee (f := 67) rfl ?_); refine goesL_ (some 38) rfl rfl Try.func67 (by kernel_rfl) rfl #[.int .i64 (rd (rd_L1 l0 x19_1) x23_2), .int .i64 0, .int .i64 (wrap64 ((wrap64 (t372 * t373)) - 1))] rfl (by (try simp only [List.map_toArray, List.map_cons, List.map_nil]); first | done | rfl | (simp only [List.length_drop, List.length_take]; rfl)) ?_; (with_reducible refine (impl_within.calls (rd (rd_L1 l0 x19_1) x23_2) 0 (wrap64 ((wrap64 (t372 * t373)) - 1)) true _ A11.out).mono ?_); rintro e w' ⟨rfl, ⟨nd, rfl⟩⟩; refine ⟨_, rfl, ?_⟩) | (go_at_call 92; (with_reducible refine (impl_has.calls x6_2 (rd (rd_L1 l0 x19_1) x23_2) false _ A13.out).mono ?_); rintro e w' ⟨rfl, ⟨nd, rfl⟩⟩))
                                  go_roundg k2
                                  case measure => have := HK1.out; have := HK2.out; omega
                                  case rel => exact ⟨(Go.bits .or .i64 x6_2 (ji38)), (wrap64 (x23_2 + 1)), (by first | rfl | (simp; done) | (simp only [← hji38] <;> (first | rfl | simp)) | (simp [*]; done)), (by first | rfl | (simp; done) | (simp [*]; done)), H', ⟨by have := HK1.out; have := HK2.out; omega⟩, ⟨by repeat (first | (with_reducible first | exact HB.out | apply below_alloc | apply pw_below_drewN | apply below_drew1) | exact HB.out)⟩⟩
                                · rw [if_neg c37] at H
                                  exact absurd H (by simp)
                        · replace c12 := Bool.eq_false_iff.mpr c12
                          subst c12
                          have H1 : (some false) = some r := by rw [if_neg (show ¬ (false = true) by decide)] at H; exact H
                          clear H
                          have H := H1
                          clear H1
                          obtain rfl := Option.some.inj H
                          have p375 : 0 ≤ (x19_1 : Int) := of_decide_eq_true (by first | (with_reducible assumption) | assumption)
                          have q375 : x19_1 < (l0.length : Int) := of_decide_eq_true (by first | (with_reducible assumption) | assumption)
                          obtain ⟨ad375, A375_0, c375_0, e375, hx375_0, hl375_0, hi375_0⟩ := at_L1 HR0.out x19_1 p375 q375
                          cases e375
                          replace hx375_0 := (HB.out.cell (World.block_lt_of_cell? w _ hx375_0)).trans hx375_0
                          have HR375_0 := Aside0.mk hi375_0
                          have HC375_0 := Aside0.mk hl375_0
                          clear hi375_0 hl375_0
                          replace p375 := eq_true p375
                          replace q375 := eq_true q375
                          have p376 : 0 ≤ (x23_2 : Int) := of_decide_eq_true (by first | (with_reducible assumption) | assumption)
                          have q376 : x23_2 < ((rd_L1 l0 x19_1).length : Int) := of_decide_eq_true (by first | (with_reducible assumption) | assumption)
                          obtain ⟨ad376, e376, hx376_0⟩ := Kd.at_int HR375_0.out x23_2 p376 q376
                          cases e376
                          replace hx376_0 := (HB.out.cell (World.block_lt_of_cell? w _ hx376_0)).trans hx376_0
                          replace p376 := eq_true p376
                          replace q376 := eq_true q376
                          go_wp2_with (first | ((with_reducible refine gate_callee (f := 67) rfl ?_); refine goesL_ (some 38) rfl rfl Try.func67 (by kernel_rfl) rfl #[.int .i64 (rd (rd_L1 l0 x19_1) x23_2), .int .i64 0, .int .i64 (wrap64 ((wrap64 (t372 * t373)) - 1))] rfl (by (try simp only [List.map_toArray, List.map_cons, List.map_nil]); first | done | rfl | (simp only [List.length_drop, List.length_take]; rfl)) ?_; (with_reducible refine (impl_within.calls (rd (rd_L1 l0 x19_1) x23_2) 0 (wrap64 ((wrap64 (t372 * t373)) - 1)) false _ A11.out).mono ?_); rintro e w' ⟨rfl, ⟨nd, rfl⟩⟩; refine ⟨_, rfl, ?_⟩))
                          go_ret
                          exact ⟨by first | rfl | (simp [errW_none, errW_some] <;> rfl) | (simp [*, errW_none, errW_some] <;> rfl), by repeat (first | (with_reducible first | exact HB.out | apply below_alloc | apply pw_below_drewN | apply below_drew1) | exact HB.out)⟩
                      · rw [if_neg c10] at H
                        exact absurd H (by simp)
                    · rw [if_neg c9] at H
                      exact absurd H (by simp)
                  · rw [if_neg c8] at H
                    exact absurd H (by simp)
                · rw [if_neg c7] at H
                  exact absurd H (by simp)
              · rw [if_neg c6] at H
                have c6b0 : decide (x23_2 < t373) = false := decide_eq_false c6
                clear c6
                have H' := Aside0.mk H
                clear H
                go_wp2
                go_roundg k2
                case measure => have := HK1.out; have := HK2.out; omega
                case rel => exact ⟨(x6_2), (wrap64 (x19_1 + 1)), (by first | rfl | (simp; done) | (simp [*]; done)), (by first | rfl | (simp; done) | (simp [*]; done)), H', ⟨by have := HK1.out; have := HK2.out; omega⟩, ⟨by repeat (first | (with_reducible first | exact HB.out | apply below_alloc | apply pw_below_drewN | apply below_drew1) | exact HB.out)⟩⟩
        · rw [if_neg c5] at H
          have c5b0 : decide (x19_1 < t372) = false := decide_eq_false c5
          clear c5
          obtain rfl := Option.some.inj H
          go_wp2
          go_ret
          exact ⟨by first | rfl | (simp [errW_none, errW_some] <;> rfl) | (simp [*, errW_none, errW_some] <;> rfl), by repeat (first | (with_reducible first | exact HB.out | apply below_alloc | apply pw_below_drewN | apply below_drew1) | exact HB.out)⟩
  · replace c3 := Bool.eq_false_iff.mpr c3
    subst c3
    have H1 : (some false) = some r := by rw [if_neg (show ¬ (false = true) by decide)] at H; exact H
    clear H
    have H := H1
    clear H1
    obtain rfl := Option.some.inj H
    go_enter Try.func68, Try.ntmps68
    go_wp2_with (first | ((with_reducible refine gate_callee (f := 91) rfl ?_); refine goesL_ (some 12) rfl rfl Try.func91 (by kernel_rfl) rfl #[.slice A0 l0.length c0] rfl (by (try simp only [List.map_toArray, List.map_cons, List.map_nil]); first | done | rfl | (simp only [List.length_drop, List.length_take]; rfl)) ?_; (with_reducible refine (impl_sidesOf.calls _ _ l0 t372 t373 false _ ?side1 ?side2 A2.out).mono ?_); (case side1 => repeat (first | exact HR0.out | (with_reducible refine Kd.C_alloc ?_ _) | (with_reducible refine Kd.C_drewN ?_ _) | (with_reducible refine Kd.C_drew ?_))); (case side2 => exact HC0.out); rintro e w39 ⟨rfl, hb⟩; refine ⟨_, rfl, ?_⟩; have n0_ := Aside0.mk (below_step (by repeat (first | (with_reducible first | exact HB.out | apply below_alloc | apply pw_below_drewN | apply below_drew1) | exact HB.out)) hb); clear HB; have HB := n0_; clear n0_; (try clear hb); (try clear hb2); (try clear hk); (try clear hi)))
    go_ret
    exact ⟨by first | rfl | (simp [errW_none, errW_some] <;> rfl) | (simp [*, errW_none, errW_some] <;> rfl), by repeat (first | (with_reducible first | exact HB.out | apply below_alloc | apply pw_below_drewN | apply below_drew1) | exact HB.out)⟩

end Go.Proofs.Ytfahkoimleiknaa.F
end

section
namespace Go.Proofs.Ytfahkoimleiknaa.F
open Go.RowKit Go.Proofs.YtfahkoimleiknaaW.PrintWords Go.Proofs.YtfahkoimleiknaaW.PrintLast Go.Proofs.YtfahkoimleiknaaW.PrintMore
attribute [local go_sem] max2_int min2_int max_two min_two max_three min_three max_four min_four
set_option linter.unusedVariables false
set_option linter.unusedSimpArgs false

/-! ### impl_FromLattice: function 30 -/
mutual
def impl_FromLattice.l0 : Nat → List (List Int) → List Int → Int → Int → Option ((List (List Int)) × Bool)
  | 0, _, _, _, _ => none
  | k + 1, x4, x12, x13, x14 => if x14 < x13 then (if 0 ≤ x14 then (if x14 < (x12.length : Int) then ((impl_within.f (rd x12 x14) 0 9).bind fun t391 => (if t391 = true then (impl_FromLattice.l1 k x4 x14 (rd x12 x14) x12 x13 x14) else (some (([] : List (List Int)), false)))) else (none)) else (none)) else ((impl_IsTableau.f k x4).bind fun t389 => (if t389 = true then (some (x4, true)) else (some (([] : List (List Int)), false))))
def impl_FromLattice.l1 : Nat → List (List Int) → Int → Int → List Int → Int → Int → Option ((List (List Int)) × Bool)
  | 0, _, _, _, _, _, _ => none
  | k + 1, x4, x5, x6, x12, x13, x14 => if (x4.length : Int) ≤ x6 then (if x4.length < 5864062014805 then (impl_FromLattice.l1 k (x4 ++ [[]]) x5 x6 x12 x13 x14) else (none)) else (if 0 ≤ x6 then (if x6 < (x4.length : Int) then (if (rd_L1 x4 x6).length < 17592186044416 then (impl_FromLattice.l0 k (x4.set (x6 : Int).toNat ((rd_L1 x4 x6) ++ [x5])) x12 x13 (wrap64 (x14 + 1))) else (none)) else (none)) else (none))
end
def impl_FromLattice.f (k : Nat) (l0 : List Int) : Option ((List (List Int)) × Bool) := (impl_within.f (l0.length : Int) 1 10).bind fun t385 => (if t385 = true then (impl_FromLattice.l0 k (([] : List (List Int))) l0 (l0.length : Int) 0) else (some (([] : List (List Int)), false)))
theorem impl_FromLattice.mono_l : ∀ k, (∀ y0 y1 y2 y3, LeO (impl_FromLattice.l0 k y0 y1 y2 y3) (impl_FromLattice.l0 (k + 1) y0 y1 y2 y3)) ∧ (∀ y0 y1 y2 y3 y4 y5, LeO (impl_FromLattice.l1 k y0 y1 y2 y3 y4 y5) (impl_FromLattice.l1 (k + 1) y0 y1 y2 y3 y4 y5))
  | 0 => ⟨fun _ _ _ _ r h => by simp [impl_FromLattice.l0] at h, fun _ _ _ _ _ _ r h => by simp [impl_FromLattice.l1] at h⟩
  | k + 1 => by
    obtain ⟨ih0, ih1⟩ := impl_FromLattice.mono_l k
    refine ⟨?_, ?_⟩
    · intro y0 y1 y2 y3
      unfold impl_FromLattice.l0
      repeat' first
      | (with_reducible exact ih0 _ _ _ _)
      | (with_reducible exact ih1 _ _ _ _ _ _)
      | (with_reducible exact impl_IsTableau.mono _ _)
      | (with_reducible exact LeO.refl _)
      | (with_reducible exact LeO.none _)
      | (with_reducible refine LeO.ite ?_ ?_)
      | (with_reducible refine LeO.bind ?_ (fun _ => ?_))
      | exact ih0 _ _ _ _
      | exact ih1 _ _ _ _ _ _
      | exact impl_IsTableau.mono _ _
      | exact LeO.none _
      | refine LeO.ite ?_ ?_
      | refine LeO.bind ?_ (fun _ => ?_)
    · intro y0 y1 y2 y3 y4 y5
      unfold impl_FromLattice.l1
      repeat' first
      | (with_reducible exact ih0 _ _ _ _)
      | (with_reducible exact ih1 _ _ _ _ _ _)
      | (with_reducible exact impl_IsTableau.mono _ _)
      | (with_reducible exact LeO.refl _)
      | (with_reducible exact LeO.none _)
      | (with_reducible refine LeO.ite ?_ ?_)
      | (with_reducible refine LeO.bind ?_ (fun _ => ?_))
      | exact ih0 _ _ _ _
      | exact ih1 _ _ _ _ _ _
      | exact impl_IsTableau.mono _ _
      | exact LeO.none _
      | refine LeO.ite ?_ ?_
      | refine LeO.bind ?_ (fun _ => ?_)
theorem impl_FromLattice.mono : ∀ a0 k, LeO (impl_FromLattice.f k a0) (impl_FromLattice.f (k + 1) a0) := by
  intro a0 k
  obtain ⟨ih0, ih1⟩ := impl_FromLattice.mono_l k
  unfold impl_FromLattice.f
  repeat' first
      | (with_reducible exact ih0 _ _ _ _)
      | (with_reducible exact ih1 _ _ _ _ _ _)
      | (with_reducible exact impl_IsTableau.mono _ _)
      | (with_reducible exact LeO.refl _)
      | (with_reducible exact LeO.none _)
      | (with_reducible refine LeO.ite ?_ ?_)
      | (with_reducible refine LeO.bind ?_ (fun _ => ?_))
      | exact ih0 _ _ _ _
      | exact ih1 _ _ _ _ _ _
      | exact impl_IsTableau.mono _ _
      | exact LeO.none _
      | refine LeO.ite ?_ ?_
      | refine LeO.bind ?_ (fun _ => ?_)
set_option maxHeartbeats 8000000 in
set_option maxRecDepth 100000 in
theorem impl_FromLattice.calls (k : Nat) (A0 : Option Addr) (c0 : Nat) (l0 : List Int) (r1 : List (List Int)) (r2 : Bool) (w : World) (hr0 : Kd.C (Kd.int .i64) w A0 l0.length l0) (hc0 : l0.length ≤ c0) (h : impl_FromLattice.f k l0 = some (r1, r2)) :
    Calls Try.prog 30 #[.slice A0 l0.length c0] w fun e w' => ∃ v0_ : Value, e = .returned (.tuple #[v0_, .bool r2]) ∧ Kd.S (Kd.slice 3 (Kd.int .i64)) 22 w' w.heap.size (fun _ => True) v0_ r1 ∧ Below w.heap.size w w' := by
  have HR0 := Aside0.mk hr0
  have HC0 := Aside0.mk hc0
  clear hr0 hc0
  have HB := Aside0.mk (Below.refl w.heap.size w)
  have H : ((impl_within.f (l0.length : Int) 1 10).bind fun t385 => (if t385 = true then (impl_FromLattice.l0 k (([] : List (List Int))) l0 (l0.length : Int) 0) else (some (([] : List (List Int)), false)))) = some (r1, r2) := h
  clear h
  replace H := Option.bind_eq_some_iff.mp H
  obtain ⟨t385, A20, H⟩ := H
  replace H : (if t385 = true then (impl_FromLattice.l0 k (([] : List (List Int))) l0 (l0.length : Int) 0) else (some (([] : List (List Int)), false))) = some (r1, r2) := H
  have A2 := Aside0.mk A20
  clear A20
  by_cases c3 : t385 = true
  · subst c3
    have H1 : (impl_FromLattice.l0 k (([] : List (List Int))) l0 (l0.length : Int) 0) = some (r1, r2) := by rw [if_pos rfl] at H; exact H
    clear H
    have H := H1
    clear H1
    obtain ⟨y386, hy386⟩ : ∃ y_ : List (List Int), y_ = (([] : List (List Int))) := ⟨_, rfl⟩
    replace H : (impl_FromLattice.l0 k y386 l0 (l0.length : Int) 0) = some (r1, r2) := by first | (rw [hy386]; with_reducible exact H) | (have H2_ := (Option.bind_some _ _).symm.trans H; rw [hy386]; with_reducible exact H2_) | (have H2_ := (Option.bind_some _ _).symm.trans H; with_reducible exact H2_) | with_reducible exact H | (rw [hy386]; exact H) | exact H
    have Ny386 := Aside0.mk hy386
    clear hy386
    have H' := Aside0.mk H
    clear H
    go_enter Try.func30, Try.ntmps30
    go_wp2_with (first | ((with_reducible refine gate_callee (f := 67) rfl ?_); refine goesL_ (some 9) rfl rfl Try.func67 (by kernel_rfl) rfl #[.int .i64 (l0.length : Int), .int .i64 1, .int .i64 10] rfl (by (try simp only [List.map_toArray, List.map_cons, List.map_nil]); first | done | rfl | (simp only [List.length_drop, List.length_take]; rfl)) ?_; (with_reducible refine (impl_within.calls (l0.length : Int) 1 10 true _ A2.out).mono ?_); rintro e w' ⟨rfl, ⟨nd, rfl⟩⟩; refine ⟨_, rfl, ?_⟩) | ((with_reducible refine gate_dst (N := 11) rfl ?_); refine Kd.S_lit (Kd.slice 3 (Kd.int .i64)) _ 22 ?hg (N := 11) ?hd (xs := ([] : List (List Int))) (inner := []) (ok := fun _ => True) (okp := fun _ => True) ?hr ?hp (fun _ hk => hk) trivial (Below.refl _ _) (Nat.le_refl _) (by simp) ?_; (case hd => rfl); (case hg => rfl); (case hr => first | (go_simp; done) | (go_simp; rfl)); (case hp => exact (Reps.none _ _)); intro v387 w4 ho5 hb hg_ hnew_; clear hg_ hnew_; (first | rw [← Ny386.out] at ho5 | (simp only [Int.reduceToNat] at ho5; rw [← Ny386.out] at ho5)); have n0_ := Aside0.mk (Kd.S_lower ho5 (below_size (by repeat (first | (with_reducible first | exact HB.out | apply below_alloc | apply pw_below_drewN | apply below_drew1) | exact HB.out)))); have n1_ := Aside0.mk (below_step (by repeat (first | (with_reducible first | exact HB.out | apply below_alloc | apply pw_below_drewN | apply below_drew1) | exact HB.out)) hb); clear HB; have HO388 := n0_; have HB := n1_; clear n0_ n1_; clear hb ho5))
    go_loopg [4, 14] k (fun kq v4 v14 w' => ∃ (x4_1 : List (List Int)) (x14_1 : Int), v14 = .int .i64 x14_1 ∧ Aside0 (impl_FromLattice.l0 kq x4_1 l0 (l0.length : Int) x14_1 = some (r1, r2)) ∧ Aside0 (kq ≤ k) ∧ Aside0 (Kd.S (Kd.slice 3 (Kd.int .i64)) 22 w' w.heap.size (fun _ => True) v4 x4_1) ∧ Aside0 (Below w.heap.size w w'))
    case atStart => exact ⟨(y386), (0), (by first | rfl | (simp; done) | (simp [*]; done)), H', ⟨Nat.le_refl _⟩, ⟨by (with_reducible repeat (first | apply Kd.S_alloc | apply Kd.S_drewN | apply Kd.S_drew)); exact HO388.out⟩, ⟨by repeat (first | (with_reducible first | exact HB.out | apply below_alloc | apply pw_below_drewN | apply below_drew1) | exact HB.out)⟩⟩
    case round =>
      clear H'
      try clear p2
      try clear c3
      obtain ⟨x4_1, x14_1, rfl, HA, HK1, HO_4, HB⟩ := hrel
      cases gk with
      | zero => exact absurd HA.out (by simp [impl_FromLattice.l0])
      | succ k1 =>
        have H := HA.out
        clear HA
        simp only [impl_FromLattice.l0] at H
        by_cases c6 : x14_1 < (l0.length : Int)
        · rw [if_pos c6] at H
          have c6b0 : decide (x14_1 < (l0.length : Int)) = true := decide_eq_true c6
          clear c6
          by_cases c7 : 0 ≤ x14_1
          · rw [if_pos c7] at H
            have c7b0 : decide (0 ≤ x14_1) = true := decide_eq_true c7
            clear c7
            by_cases c8 : x14_1 < (l0.length : Int)
            · rw [if_pos c8] at H
              have c8b0 : decide (x14_1 < (l0.length : Int)) = true := decide_eq_true c8
              clear c8
              replace H := Option.bind_eq_some_iff.mp H
              obtain ⟨t391, A90, H⟩ := H
              replace H : (if t391 = true then (impl_FromLattice.l1 k1 x4_1 x14_1 (rd l0 x14_1) l0 (l0.length : Int) x14_1) else (some (([] : List (List Int)), false))) = some (r1, r2) := H
              have A9 := Aside0.mk A90
              clear A90
              by_cases c10 : t391 = true
              · subst c10
                have H1 : (impl_FromLattice.l1 k1 x4_1 x14_1 (rd l0 x14_1) l0 (l0.length : Int) x14_1) = some (r1, r2) := by rw [if_pos rfl] at H; exact H
                clear H
                have H := H1
                clear H1
                have H' := Aside0.mk H
                clear H
                have p390 : 0 ≤ (x14_1 : Int) := of_decide_eq_true (by first | (with_reducible assumption) | assumption)
                have q390 : x14_1 < (l0.length : Int) := of_decide_eq_true (by first | (with_reducible assumption) | assumption)
                obtain ⟨ad390, e390, hx390_0⟩ := Kd.at_int HR0.out x14_1 p390 q390
                cases e390
                replace hx390_0 := (HB.out.cell (World.block_lt_of_cell? w _ hx390_0)).trans hx390_0
                replace p390 := eq_true p390
                replace q390 := eq_true q390
                go_wp2_with (first | ((with_reducible refine gate_callee (f := 67) rfl ?_); refine goesL_ (some 20) rfl rfl Try.func67 (by kernel_rfl) rfl #[.int .i64 (rd l0 x14_1), .int .i64 0, .int .i64 9] rfl (by (try simp only [List.map_toArray, List.map_cons, List.map_nil]); first | done | rfl | (simp only [List.length_drop, List.length_take]; rfl)) ?_; (with_reducible refine (impl_within.calls (rd l0 x14_1) 0 9 true _ A9.out).mono ?_); rintro e w' ⟨rfl, ⟨nd, rfl⟩⟩; refine ⟨_, rfl, ?_⟩))
                go_loopg [4] k1 (fun kq v4 w' => ∃ (x4_2 : List (List Int)), Aside0 (impl_FromLattice.l1 kq x4_2 x14_1 (rd l0 x14_1) l0 (l0.length : Int) x14_1 = some (r1, r2)) ∧ Aside0 (kq ≤ k1) ∧ Aside0 (Kd.S (Kd.slice 3 (Kd.int .i64)) 22 w' w.heap.size (fun _ => True) v4 x4_2) ∧ Aside0 (Below w.heap.size w w'))
                case atStart => exact ⟨(x4_1), H', ⟨Nat.le_refl _⟩, ⟨by (with_reducible repeat (first | apply Kd.S_alloc | apply Kd.S_drewN | apply Kd.S_drew)); exact HO_4.out⟩, ⟨by repeat (first | (with_reducible first | exact HB.out | apply below_alloc | apply pw_below_drewN | apply below_drew1) | exact HB.out)⟩⟩
                case round =>
                  clear H'
                  try clear c1
                  try clear p2
                  try clear c3
                  try clear p3
                  try clear q3
                  try clear hx3
                  try clear c6
                  try clear c6b0
                  try clear c7
                  try clear c7b0
                  try clear c8
                  try clear c8b0
                  try clear c10
                  try clear hx390_0
                  try clear p2
                  try clear p390
                  try clear q390
                  obtain ⟨x4_2, HA, HK2, HO_4, HB⟩ := hrel
                  cases gk with
                  | zero => exact absurd HA.out (by simp [impl_FromLattice.l1])
                  | succ k2 =>
                    have H := HA.out
                    clear HA
                    simp only [impl_FromLattice.l1] at H
                    by_cases c11 : (x4_2.length : Int) ≤ (rd l0 x14_1)
                    · rw [if_pos c11] at H
                      have c11b0 : decide ((x4_2.length : Int) ≤ (rd l0 x14_1)) = true := decide_eq_true c11
                      clear c11
                      by_cases c12 : x4_2.length < 5864062014805
                      · rw [if_pos c12] at H
                        have LMc12 := Aside0.mk c12
                        clear c12
                        obtain ⟨y392, hy392⟩ : ∃ y_ : List (List Int), y_ = (x4_2 ++ [[]]) := ⟨_, rfl⟩
                        replace H : (impl_FromLattice.l1 k2 y392 x14_1 (rd l0 x14_1) l0 (l0.length : Int) x14_1) = some (r1, r2) := by first | (rw [hy392]; with_reducible exact H) | (have H2_ := (Option.bind_some _ _).symm.trans H; rw [hy392]; with_reducible exact H2_) | (have H2_ := (Option.bind_some _ _).symm.trans H; with_reducible exact H2_) | with_reducible exact H | (rw [hy392]; exact H) | exact H
                        have Ny392 := Aside0.mk hy392
                        clear hy392
                        have H' := Aside0.mk H
                        clear H
                        obtain ⟨Ao13, co13, eo13⟩ := Kd.S_slice HO_4.out
                        subst eo13
                        go_wp2_with (first | ((with_reducible refine gate_builtin (b := .append) (xs := #[.tmp 26, .tmp 27]) rfl ?_); at_builtin; refine Kd.S_append (Kd.slice 3 (Kd.int .i64)) (w0 := w) w.heap.size rfl (.tmp 26) (.tmp 27) 39 22 (.slice none 0 0) 24 rfl Try.underlying39 info22 rfl (by decide) (by omega) (.slice Ao13 x4_2.length co13) x4_2 [] [.slice none 0 0] (fun _ => True) (fun _ => False) rfl rfl ?aP (fun _ hk => hk.elim) ?aF ?aO ?aB ?aS ?aL ?_; (case aP => exact ⟨_, rfl, Kd.R_nil _ _ _ _ _⟩); (case aB => exact (by repeat (first | (with_reducible first | exact HB.out | apply below_alloc | apply pw_below_drewN | apply below_drew1) | exact HB.out))); (case aF => exact (fun _ _ => trivial)); (case aO => exact (by (with_reducible repeat (first | apply Kd.S_alloc | apply Kd.S_drewN | apply Kd.S_drew)); exact Kd.S_mono HO_4.out (fun k_ hk => ⟨trivial, fun e_ => e_⟩))); (case aS => exact (below_size (by repeat (first | (with_reducible first | exact HB.out | apply below_alloc | apply pw_below_drewN | apply below_drew1) | exact HB.out)))); (case aL => have := LMc12.out; omega); intro v393 w14 ho hb hg hat; rw [← Ny392.out] at ho; have n0_ := Aside0.mk (hb); have n1_ := Aside0.mk (ho); clear HB; clear HO_4; have HB := n0_; have HO394 := n1_; clear n0_ n1_; clear ho hb hg hat))
                        go_roundg k2
                        case measure => have := HK1.out; have := HK2.out; omega
                        case rel => exact ⟨(y392), H', ⟨by have := HK1.out; have := HK2.out; omega⟩, ⟨by (with_reducible repeat (first | apply Kd.S_alloc | apply Kd.S_drewN | apply Kd.S_drew)); exact HO394.out⟩, ⟨by repeat (first | (with_reducible first | exact HB.out | apply below_alloc | apply pw_below_drewN | apply below_drew1) | exact HB.out)⟩⟩
                      · rw [if_neg c12] at H
                        exact absurd H (by simp)
                    · rw [if_neg c11] at H
                      have c11b0 : decide ((x4_2.length : Int) ≤ (rd l0 x14_1)) = false := decide_eq_false c11
                      clear c11
                      by_cases c15 : 0 ≤ (rd l0 x14_1)
                      · rw [if_pos c15] at H
                        have c15b0 : decide (0 ≤ (rd l0 x14_1)) = true := decide_eq_true c15
                        clear c15
                        by_cases c16 : (rd l0 x14_1) < (x4_2.length : Int)
                        · rw [if_pos c16] at H
                          have c16b0 : decide ((rd l0 x14_1) < (x4_2.length : Int)) = true := decide_eq_true c16
                          clear c16
                          by_cases c17 : (rd_L1 x4_2 (rd l0 x14_1)).length < 17592186044416
                          · rw [if_pos c17] at H
                            have LMc17 := Aside0.mk c17
                            clear c17
                            obtain ⟨y396, hy396⟩ : ∃ y_ : List Int, y_ = ((rd_L1 x4_2 (rd l0 x14_1)) ++ [x14_1]) := ⟨_, rfl⟩
                            replace H : (impl_FromLattice.l0 k2 (x4_2.set ((rd l0 x14_1) : Int).toNat y396) l0 (l0.length : Int) (wrap64 (x14_1 + 1))) = some (r1, r2) := by first | (rw [hy396]; with_reducible exact H) | (have H2_ := (Option.bind_some _ _).symm.trans H; rw [hy396]; with_reducible exact H2_) | (have H2_ := (Option.bind_some _ _).symm.trans H; with_reducible exact H2_) | with_reducible exact H | (rw [hy396]; exact H) | exact H
                            have Ny396 := Aside0.mk hy396
                            clear hy396
                            obtain ⟨y399, hy399⟩ : ∃ y_ : List (List Int), y_ = (x4_2.set ((rd l0 x14_1) : Int).toNat y396) := ⟨_, rfl⟩
                            replace H : (impl_FromLattice.l0 k2 y399 l0 (l0.length : Int) (wrap64 (x14_1 + 1))) = some (r1, r2) := by first | (rw [hy399]; with_reducible exact H) | (have H2_ := (Option.bind_some _ _).symm.trans H; rw [hy399]; with_reducible exact H2_) | (have H2_ := (Option.bind_some _ _).symm.trans H; with_reducible exact H2_) | with_reducible exact H | (rw [hy399]; exact H) | exact H
                            have Ny399 := Aside0.mk hy399
                            clear hy399
                            have H' := Aside0.mk H
                            clear H
                            obtain ⟨Ao19, co19, eo19⟩ := Kd.S_slice HO_4.out
                            subst eo19
                            have p395 : 0 ≤ ((rd l0 x14_1) : Int) := of_decide_eq_true (by first | (with_reducible assumption) | assumption)
                            have q395 : (rd l0 x14_1) < (x4_2.length : Int) := of_decide_eq_true (by first | (with_reducible assumption) | assumption)
                            obtain ⟨ad395, A395_0, c395_0, e395, hx395_0, hl395_0, hi395_0⟩ := at_L1 (Kd.S_reads' HO_4.out).2.2 (rd l0 x14_1) p395 q395
                            cases e395
                            obtain ⟨ce395, hce395, hMe395, hcc395⟩ := Kd.S_get HO_4.out [] (rd l0 x14_1) p395 (by first | exact q395 | exact of_decide_eq_true (by first | (with_reducible assumption) | assumption) | (have e_ := (Kd.S_reads' HO_4.out).1; omega))
                            obtain ⟨ve395_0, rfl, ge395_0⟩ := hMe395
                            have hv395_0 := hcc395 0 _ rfl
                            rw [Nat.add_zero, show ((Kd.slice 3 (Kd.int .i64))).sz = 1 from rfl, Nat.mul_one] at hv395_0
                            replace hv395_0 := Option.some.inj (hv395_0.symm.trans hx395_0)
                            rw [hv395_0] at ge395_0
                            have HL395_0 := Aside0.mk (show Kd.R (Kd.int .i64) 3 _ _ _ _ (rd_L1 x4_2 (rd l0 x14_1)) from ge395_0)
                            clear hv395_0 ge395_0
                            have HX395_0 := Aside0.mk hx395_0
                            clear hcc395 hce395
                            have HR395_0 := Aside0.mk hi395_0
                            have HC395_0 := Aside0.mk hl395_0
                            clear hi395_0 hl395_0
                            replace p395 := eq_true p395
                            replace q395 := eq_true q395
                            obtain ⟨go20, co20, eo20, gb20, gl20, cl20, HG20⟩ := Kd.S_form HO_4.out (by have h_ : ((rd l0 x14_1) : Int) < ((x4_2.length : Int) : Int) := of_decide_eq_true (by first | (with_reducible assumption) | assumption); have h2_ : 0 ≤ ((rd l0 x14_1) : Int) := (of_decide_eq_true (by first | (with_reducible assumption) | assumption)); omega)
                            (first | cases eo20 | (injection eo20 with ea_ en_ ec_; (first | subst ea_ | (injection ea_ with ea_; subst ea_)); subst ec_; clear en_))
                            have GB20 := Aside0.mk gb20
                            have GG20 := Aside0.mk HG20
                            clear gb20 gl20 HG20
                            (first | simp only [add_plain] at hx395_0 | skip)
                            obtain ⟨oki20, ce20, hcl20, hM20, hcc20, _, _, hH20⟩ := Kd.S_elem HO_4.out [] ((rd l0 x14_1) : Int) (of_decide_eq_true (by first | (with_reducible assumption) | assumption)) (by have h_ : ((rd l0 x14_1) : Int) < ((x4_2.length : Int) : Int) := of_decide_eq_true (by first | (with_reducible assumption) | assumption); first | exact h_ | (have e_ := (Kd.S_reads' HO_4.out).1; omega) | simpa using h_)
                            obtain ⟨ve20_0, rfl, ge20_0⟩ := id hM20
                            have hv20 := hcc20 0 _ rfl
                            have hX20 := HX395_0.out
                            (try simp only [add_plain] at hX20)
                            (try simp only [Nat.add_zero] at hv20)
                            (try rw [show ((Kd.slice 3 (Kd.int .i64))).sz = 1 from rfl, Nat.mul_one] at hv20)
                            replace hv20 := Option.some.inj (hv20.symm.trans hX20)
                            subst hv20
                            clear hX20 hcc20 hcl20
                            have UU20 := Aside0.mk (show Kd.R (Kd.int .i64) 3 _ w.heap.size oki20 (.slice A395_0 (rd_L1 x4_2 (rd l0 x14_1)).length c395_0) (rd_L1 x4_2 (rd l0 x14_1)) from ge20_0)
                            have HH20 := Aside0.mk hH20
                            have HN20 := Aside0.mk (Kd.S_reads' HO_4.out).1
                            clear hH20 ge20_0
                            go_wp2_with (first | ((with_reducible refine gate_builtin (b := .append) (xs := #[.tmp 34, .tmp 36]) rfl ?_); at_builtin; refine Kd.R_append (Kd.int .i64) (w0 := w) w.heap.size rfl (.tmp 34) (.tmp 36) 22 3 (.int .i64 0) 8 rfl Try.underlying22 info3 rfl (by decide) (by omega) (.slice A395_0 (rd_L1 x4_2 (rd l0 x14_1)).length c395_0) (rd_L1 x4_2 (rd l0 x14_1)) x14_1 [.int .i64 x14_1] (fun k_ => oki20 k_ ∨ ((fun _ => True)) k_ ∧ wr.heap.size ≤ k_) (fun _ => False) rfl rfl ?aP (fun _ hk => hk.elim) ?aF ?aO ?aB ?aS ?aL ?_; (case aP => exact rfl); (case aB => exact (by repeat (first | (with_reducible first | exact HB.out | apply below_alloc | apply pw_below_drewN | apply below_drew1) | exact HB.out))); (case aF => exact (fun k_ hk => .inr ⟨trivial, hk⟩)); (case aO => exact (by (with_reducible repeat (first | apply Kd.R_alloc | apply Kd.R_drewN | apply Kd.R_drew)); exact Kd.R_mono UU20.out (fun _ hk => .inl hk))); (case aS => exact (below_size (by repeat (first | (with_reducible first | exact HB.out | apply below_alloc | apply pw_below_drewN | apply below_drew1) | exact HB.out)))); (case aL => have := LMc17.out; omega); intro v397 w21 ho hb hg hat; rw [← Ny396.out] at ho; have n0_ := Aside0.mk (hb); have n1_ := Aside0.mk (Kd.H_grown (Kd.H_widen (by repeat (first | exact HH20.out | refine Kd.H_alloc ?_ _ | refine Kd.H_drewN ?_ _ | refine Kd.H_drew ?_))) hg (fun k_ e_ => .inl (UU20.out.1 k_ e_))); have n2_ := Aside0.mk (ho); clear HB; clear HH20; clear HO_4; clear UU20; clear HL395_0; have HB := n0_; have HH20 := n1_; have HO398 := n2_; clear n0_ n1_ n2_; clear ho hb hg hat; have p18 : 0 ≤ ((rd l0 x14_1) : Int) := of_decide_eq_true (by first | (with_reducible assumption) | assumption); have q18 : ((rd l0 x14_1) : Int) < ((x4_2.length : Int) : Int) := of_decide_eq_true (by first | (with_reducible assumption) | assumption); replace p18 := eq_true p18; replace q18 := eq_true q18; obtain ⟨Ao24, co24, eo24⟩ := Kd.R_slice HO398.out; subst eo24; obtain ⟨_, _, hraw22, _, _, hcc22, _⟩ := Kd.H_raw HH20.out (of_decide_eq_true (by first | (with_reducible assumption) | assumption)) (by have h_ : ((rd l0 x14_1) : Int) < ((x4_2.length : Int) : Int) := of_decide_eq_true (by first | (with_reducible assumption) | assumption); first | exact h_ | (have e_ := (HN20.out); omega) | simpa using h_); obtain ⟨_, hfr22⟩ := Kd.H_at HH20.out (of_decide_eq_true (by first | (with_reducible assumption) | assumption)) (by have h_ : ((rd l0 x14_1) : Int) < ((x4_2.length : Int) : Int) := of_decide_eq_true (by first | (with_reducible assumption) | assumption); first | exact h_ | (have e_ := (HN20.out); omega) | simpa using h_); have hx22_0 := hcc22 0 _ rfl; have hf22_0 := hfr22 0; (try simp only [Nat.add_zero] at hx22_0 hf22_0); (try rw [show ((Kd.slice 3 (Kd.int .i64))).sz = 1 from rfl, Nat.mul_one] at hx22_0); (try rw [show ((Kd.slice 3 (Kd.int .i64))).sz = 1 from rfl, Nat.mul_one] at hf22_0); have HP22 := Kd.S_seg0 HH20.out (of_decide_eq_true (by first | (with_reducible assumption) | assumption)) (by have h_ : ((rd l0 x14_1) : Int) < ((x4_2.length : Int) : Int) := of_decide_eq_true (by first | (with_reducible assumption) | assumption); first | exact h_ | (have e_ := (HN20.out); omega) | simpa using h_) (seg := [.slice Ao24 y396.length co24]) (j := 0) (show 1 ≤ 1 from by decide) (x' := y396) (Kd.M_row HO398.out) (fun _ hk => hk); (try simp only [show ((Kd.slice 3 (Kd.int .i64))).sz = 1 from rfl, Nat.mul_one, Nat.add_zero] at HP22); clear hcc22 hfr22) | ((with_reducible refine gate_store (t := 22) (p := 38) rfl ?_); refine store_event (t := 22) (p := 38) (v := ?vo_w23) (w1 := (w21.setCell ⟨go20, ((rd l0 x14_1) : Int).toNat, none⟩ (.slice Ao24 y396.length co24))) ?hg ?ho ?hn ?hr ?_; (case ho => rfl); (case hg => rfl); (case hn => rfl); (case hr => first | (go_simp; done) | (go_simp; rfl) | (obtain ⟨Av_, cv_, ev_⟩ := Kd.R_slice HO388.out; subst ev_; go_simp; done) | (obtain ⟨Av_, cv_, ev_⟩ := Kd.R_slice HO388.out; subst ev_; go_simp; rfl) | (obtain ⟨Av_, cv_, ev_⟩ := Kd.R_slice HO394.out; subst ev_; go_simp; done) | (obtain ⟨Av_, cv_, ev_⟩ := Kd.R_slice HO394.out; subst ev_; go_simp; rfl) | (obtain ⟨Av_, cv_, ev_⟩ := Kd.R_slice HO398.out; subst ev_; go_simp; done) | (obtain ⟨Av_, cv_, ev_⟩ := Kd.R_slice HO398.out; subst ev_; go_simp; rfl)); intro w23 hw; have hg : w21.grownBy w23 (some go20) := (by rw [hw]; exact HP22.2); have hp_ : Kd.S (Kd.slice 3 (Kd.int .i64)) 22 w23 w.heap.size (fun _ => True) (.slice (some ⟨go20, 0, none⟩) x4_2.length co19) y399 := (by rw [hw, Ny399.out]; exact HP22.1); clear HP22; have n0_ := Aside0.mk ((by rw [hw]; exact below_set HB.out GB20.out : Below w.heap.size w w23)); have n1_ := Aside0.mk (hp_); clear HB; clear HO398; clear HH20; have HB := n0_; have HO_4 := n1_; clear n0_ n1_; clear hg hw hp_ hraw22))
                            go_roundg k2
                            case measure => have := HK1.out; have := HK2.out; omega
                            case rel => exact ⟨(y399), (wrap64 (x14_1 + 1)), (by first | rfl | (simp; done) | (simp [*]; done)), H', ⟨by have := HK1.out; have := HK2.out; omega⟩, ⟨by (with_reducible repeat (first | apply Kd.S_alloc | apply Kd.S_drewN | apply Kd.S_drew)); exact HO_4.out⟩, ⟨by repeat (first | (with_reducible first | exact HB.out | apply below_alloc | apply pw_below_drewN | apply below_drew1) | exact HB.out)⟩⟩
                          · rw [if_neg c17] at H
                            exact absurd H (by simp)
                        · rw [if_neg c16] at H
                          exact absurd H (by simp)
                      · rw [if_neg c15] at H
                        exact absurd H (by simp)
              · replace c10 := Bool.eq_false_iff.mpr c10
                subst c10
                have H1 : (some (([] : List (List Int)), false)) = some (r1, r2) := by rw [if_neg (show ¬ (false = true) by decide)] at H; exact H
                clear H
                have H := H1
                clear H1
                simp only [Option.some.injEq, Prod.mk.injEq] at H
                obtain ⟨rfl, rfl⟩ := H
                have p390 : 0 ≤ (x14_1 : Int) := of_decide_eq_true (by first | (with_reducible assumption) | assumption)
                have q390 : x14_1 < (l0.length : Int) := of_decide_eq_true (by first | (with_reducible assumption) | assumption)
                obtain ⟨ad390, e390, hx390_0⟩ := Kd.at_int HR0.out x14_1 p390 q390
                cases e390
                replace hx390_0 := (HB.out.cell (World.block_lt_of_cell? w _ hx390_0)).trans hx390_0
                replace p390 := eq_true p390
                replace q390 := eq_true q390
                go_wp2_with (first | ((with_reducible refine gate_callee (f := 67) rfl ?_); refine goesL_ (some 20) rfl rfl Try.func67 (by kernel_rfl) rfl #[.int .i64 (rd l0 x14_1), .int .i64 0, .int .i64 9] rfl (by (try simp only [List.map_toArray, List.map_cons, List.map_nil]); first | done | rfl | (simp only [List.length_drop, List.length_take]; rfl)) ?_; (with_reducible refine (impl_within.calls (rd l0 x14_1) 0 9 false _ A9.out).mono ?_); rintro e w' ⟨rfl, ⟨nd, rfl⟩⟩; refine ⟨_, rfl, ?_⟩))
                go_ret2
                exact ⟨_, by first | rfl | (simp [errW_none, errW_some] <;> rfl) | (simp [*, errW_none, errW_some] <;> rfl), by first | exact Kd.S_nil _ _ _ _ _ | exact Kd.N_nil _ _ _ _ _ | exact Kd.V_nil _ _ _ _ _ | exact Kd.Q_nil _ _ _ _ _ | exact Kd.R_nil _ _ _ _ _, by repeat (first | (with_reducible first | exact HB.out | apply below_alloc | apply pw_below_drewN | apply below_drew1) | exact HB.out)⟩
            · rw [if_neg c8] at H
              exact absurd H (by simp)
          · rw [if_neg c7] at H
            exact absurd H (by simp)
        · rw [if_neg c6] at H
          have c6b0 : decide (x14_1 < (l0.length : Int)) = false := decide_eq_false c6
          clear c6
          replace H := Option.bind_eq_some_iff.mp H
          obtain ⟨t389, A250, H⟩ := H
          replace H : (if t389 = true then (some (x4_1, true)) else (some (([] : List (List Int)), false))) = some (r1, r2) := H
          have A25 := Aside0.mk A250
          clear A250
          by_cases c26 : t389 = true
          · subst c26
            have H1 : (some (x4_1, true)) = some (r1, r2) := by rw [if_pos rfl] at H; exact H
            clear H
            have H := H1
            clear H1
            simp only [Option.some.injEq, Prod.mk.injEq] at H
            obtain ⟨rfl, rfl⟩ := H
            obtain ⟨Ao27, co27, eo27⟩ := Kd.S_slice HO_4.out
            subst eo27
            go_wp2_with (first | ((with_reducible refine gate_callee (f := 68) rfl ?_); refine goesL_ (some 41) rfl rfl Try.func68 (by kernel_rfl) rfl #[.slice Ao27 x4_1.length co27] rfl (by (try simp only [List.map_toArray, List.map_cons, List.map_nil]); first | done | rfl | (simp only [List.length_drop, List.length_take]; rfl)) ?_; (with_reducible refine (impl_IsTableau.calls k1 _ _ x4_1 true _ ?side1 ?side2 A25.out).mono ?_); (case side1 => repeat (first | exact (Kd.S_reads' HO_4.out).2.2 | (with_reducible refine Kd.C_alloc ?_ _) | (with_reducible refine Kd.C_drewN ?_ _) | (with_reducible refine Kd.C_drew ?_))); (case side2 => exact (Kd.S_reads' HO_4.out).2.1); rintro e w28 ⟨rfl, hb⟩; refine ⟨_, rfl, ?_⟩; have n0_ := Aside0.mk (Kd.S_below (by (with_reducible repeat (first | apply Kd.S_alloc | apply Kd.S_drewN | apply Kd.S_drew)); exact HO_4.out) hb); have n1_ := Aside0.mk (below_step (by repeat (first | (with_reducible first | exact HB.out | apply below_alloc | apply pw_below_drewN | apply below_drew1) | exact HB.out)) hb); clear HO_4; clear HB; have HO_4 := n0_; have HB := n1_; clear n0_ n1_; (try clear hb); (try clear hb2); (try clear hk); (try clear hi)))
            go_ret2
            exact ⟨_, by first | rfl | (simp [errW_none, errW_some] <;> rfl) | (simp [*, errW_none, errW_some] <;> rfl), by (with_reducible repeat (first | apply Kd.S_alloc | apply Kd.S_drewN | apply Kd.S_drew)); exact HO_4.out, by repeat (first | (with_reducible first | exact HB.out | apply below_alloc | apply pw_below_drewN | apply below_drew1) | exact HB.out)⟩
          · replace c26 := Bool.eq_false_iff.mpr c26
            subst c26
            have H1 : (some (([] : List (List Int)), false)) = some (r1, r2) := by rw [if_neg (show ¬ (false = true) by decide)] at H; exact H
            clear H
            have H := H1
            clear H1
            simp only [Option.some.injEq, Prod.mk.injEq] at H
            obtain ⟨rfl, rfl⟩ := H
            obtain ⟨Ao29, co29, eo29⟩ := Kd.S_slice HO_4.out
            subst eo29
            go_wp2_with (first | ((with_reducible refine gate_callee (f := 68) rfl ?_); refine goesL_ (some 41) rfl rfl Try.func68 (by kernel_rfl) rfl #[.slice Ao29 x4_1.length co29] rfl (by (try simp only [List.map_toArray, List.map_cons, List.map_nil]); first | done | rfl | (simp only [List.length_drop, List.length_take]; rfl)) ?_; (with_reducible refine (impl_IsTableau.calls k1 _ _ x4_1 false _ ?side1 ?side2 A25.out).mono ?_); (case side1 => repeat (first | exact (Kd.S_reads' HO_4.out).2.2 | (with_reducible refine Kd.C_alloc ?_ _) | (with_reducible refine Kd.C_drewN ?_ _) | (with_reducible refine Kd.C_drew ?_))); (case side2 => exact (Kd.S_reads' HO_4.out).2.1); rintro e w30 ⟨rfl, hb⟩; refine ⟨_, rfl, ?_⟩; have n0_ := Aside0.mk (Kd.S_below (by (with_reducible repeat (first | apply Kd.S_alloc | apply Kd.S_drewN | apply Kd.S_drew)); exact HO_4.out) hb); have n1_ := Aside0.mk (below_step (by repeat (first | (with_reducible first | exact HB.out | apply below_alloc | apply pw_below_drewN | apply below_drew1) | exact HB.out)) hb); clear HO_4; clear HB; have HO_4 := n0_; have HB := n1_; clear n0_ n1_; (try clear hb); (try clear hb2); (try clear hk); (try clear hi)))
            go_ret2
            exact ⟨_, by first | rfl | (simp [errW_none, errW_some] <;> rfl) | (simp [*, errW_none, errW_some] <;> rfl), by first | exact Kd.S_nil _ _ _ _ _ | exact Kd.N_nil _ _ _ _ _ | exact Kd.V_nil _ _ _ _ _ | exact Kd.Q_nil _ _ _ _ _ | exact Kd.R_nil _ _ _ _ _, by repeat (first | (with_reducible first | exact HB.out | apply below_alloc | apply pw_below_drewN | apply below_drew1) | exact HB.out)⟩
  · replace c3 := Bool.eq_false_iff.mpr c3
    subst c3
    have H1 : (some (([] : List (List Int)), false)) = some (r1, r2) := by rw [if_neg (show ¬ (false = true) by decide)] at H; exact H
    clear H
    have H := H1
    clear H1
    simp only [Option.some.injEq, Prod.mk.injEq] at H
    obtain ⟨rfl, rfl⟩ := H
    go_enter Try.func30, Try.ntmps30
    go_wp2_with (first | ((with_reducible refine gate_callee (f := 67) rfl ?_); refine goesL_ (some 9) rfl rfl Try.func67 (by kernel_rfl) rfl #[.int .i64 (l0.length : Int), .int .i64 1, .int .i64 10] rfl (by (try simp only [List.map_toArray, List.map_cons, List.map_nil]); first | done | rfl | (simp only [List.length_drop, List.length_take]; rfl)) ?_; (with_reducible refine (impl_within.calls (l0.length : Int) 1 10 false _ A2.out).mono ?_); rintro e w' ⟨rfl, ⟨nd, rfl⟩⟩; refine ⟨_, rfl, ?_⟩))
    go_ret2
    exact ⟨_, by first | rfl | (simp [errW_none, errW_some] <;> rfl) | (simp [*, errW_none, errW_some] <;> rfl), by first | exact Kd.S_nil _ _ _ _ _ | exact Kd.N_nil _ _ _ _ _ | exact Kd.V_nil _ _ _ _ _ | exact Kd.Q_nil _ _ _ _ _ | exact Kd.R_nil _ _ _ _ _, by repeat (first | (with_reducible first | exact HB.out | apply below_alloc | apply pw_below_drewN | apply below_drew1) | exact HB.out)⟩

end Go.Proofs.Ytfahkoimleiknaa.F
end

section
namespace Go.Proofs.Ytfahkoimleiknaa.Q
open Go.RowKit Go.Proofs.YtfahkoimleiknaaW.PrintWords Go.Proofs.Ytfahkoimleiknaa.F
set_option linter.unusedVariables false
def row (rows : List (List Int)) (r : Nat) : List Int := rows.getD r []
theorem rdRow (rows : List (List Int)) (r : Nat) : rd_L1 rows (r : Int) = row rows r := by unfold rd_L1 row; rw [Int.toNat_natCast]
/-- The cells in the order of reading. -/
def Y (rows : List (List Int)) (b t : Nat) : Int := (row rows (t / b)).getD (t % b) 0
def CellOK (rows : List (List Int)) (b n s : Nat) : Prop :=
  (0 ≤ Y rows b s ∧ Y rows b s < (n : Int)) ∧ (0 < s % b → Y rows b (s - 1) < Y rows b s) ∧ (b ≤ s → Y rows b (s - b) < Y rows b s) ∧ ∀ u, u < s → Y rows b u ≠ Y rows b s
instance (rows : List (List Int)) (b n s : Nat) : Decidable (CellOK rows b n s) := by unfold CellOK; exact inferInstance
def cellB (rows : List (List Int)) (b n s : Nat) : Bool := decide (CellOK rows b n s)
/-- The numbers of the cells before t, as a set. -/
def seen (rows : List (List Int)) (b : Nat) : Nat → Nat
  | 0 => 0
  | t + 1 => seen rows b t ||| 2 ^ (Y rows b t).toNat
theorem seen_bit (rows : List (List Int)) (b t k : Nat) : (seen rows b t).testBit k = true ↔ ∃ s, s < t ∧ (Y rows b s).toNat = k := by
  induction t with
  | zero => simp [seen]
  | succ t ih =>
    unfold seen
    rw [Nat.testBit_or, Bool.or_eq_true, ih, pow_bit, decide_eq_true_eq]
    constructor
    · rintro (⟨s, hs, e⟩ | e)
      · exact ⟨s, by omega, e⟩
      · exact ⟨t, by omega, e⟩
    · rintro ⟨s, hs, e⟩
      rcases Nat.lt_succ_iff_lt_or_eq.1 hs with h | h
      · exact .inl ⟨s, h, e⟩
      · subst h; exact .inr e
theorem seen_lt {rows : List (List Int)} {b n t : Nat} (h : ∀ s, s < t → CellOK rows b n s) (hn : n ≤ 10) : seen rows b t < 2 ^ 10 := by
  apply Nat.lt_pow_two_of_testBit
  intro i hi
  rw [← Bool.not_eq_true, seen_bit]
  rintro ⟨s, hs, e⟩
  have := (h s hs).1
  omega
theorem seen_new {rows : List (List Int)} {b n t : Nat} (h : ∀ s, s < t → CellOK rows b n s) {x : Int} (hx : 0 ≤ x) : (seen rows b t).testBit x.toNat = true ↔ ∃ u, u < t ∧ Y rows b u = x := by
  rw [seen_bit]
  constructor
  · rintro ⟨s, hs, e⟩; exact ⟨s, hs, by have := (h s hs).1; omega⟩
  · rintro ⟨s, hs, e⟩; exact ⟨s, hs, by rw [e]⟩
theorem seen_step {rows : List (List Int)} {b n t : Nat} (h : ∀ s, s < t → CellOK rows b n s) (hn : n ≤ 10) (hv : 0 ≤ Y rows b t ∧ Y rows b t < (n : Int)) :
    Go.bits .or .i64 ((seen rows b t : Nat) : Int) (shl .i64 1 (Y rows b t)) = ((seen rows b (t + 1) : Nat) : Int) := by
  obtain ⟨x, hx⟩ := Int.eq_ofNat_of_zero_le hv.1
  rw [hx, shlN (by omega), bits_orN (lt_pow (seen_lt h hn) (by omega)) (Nat.pow_lt_pow_right (by decide) (by omega))]
  simp only [seen, hx, Int.toNat_natCast]
def cols (rows : List (List Int)) : Nat := (rows.headD []).length
def shapeOk (rows : List (List Int)) : Bool := decide (1 ≤ rows.length ∧ rows.length ≤ 10 ∧ 1 ≤ cols rows ∧ cols rows ≤ 10 ∧ rows.length * cols rows ≤ 10)
def lensOk (rows : List (List Int)) : Bool := allFrom (fun r => decide ((row rows r).length = cols rows)) rows.length 0
def isTab (rows : List (List Int)) : Bool := shapeOk rows && (lensOk rows && allFrom (cellB rows (cols rows) (rows.length * cols rows)) (rows.length * cols rows) 0)
theorem Y_at (rows : List (List Int)) {b r c : Nat} (hc : c < b) : Y rows b (r * b + c) = (row rows r).getD c 0 := by
  have hb : 0 < b := by omega
  have e1 : (r * b + c) / b = r := by rw [Nat.add_comm, Nat.add_mul_div_right _ _ hb, Nat.div_eq_of_lt hc, Nat.zero_add]
  have e2 : (r * b + c) % b = c := by rw [Nat.add_comm, Nat.add_mul_mod_self_right, Nat.mod_eq_of_lt hc]
  unfold Y; rw [e1, e2]
theorem mod_at {b r c : Nat} (hc : c < b) : (r * b + c) % b = c := by rw [Nat.add_comm, Nat.add_mul_mod_self_right, Nat.mod_eq_of_lt hc]
theorem cell_iff (rows : List (List Int)) {b n r c : Nat} (hc : c < b) : CellOK rows b n (r * b + c) ↔
    ((0 ≤ (row rows r).getD c 0 ∧ (row rows r).getD c 0 < (n : Int)) ∧ (0 < c → (row rows r).getD (c - 1) 0 < (row rows r).getD c 0) ∧ (0 < r → (row rows (r - 1)).getD c 0 < (row rows r).getD c 0) ∧ ∀ u, u < r * b + c → Y rows b u ≠ (row rows r).getD c 0) := by
  unfold CellOK
  rw [mod_at hc, Y_at rows hc]
  have h1 : 0 < c → Y rows b (r * b + c - 1) = (row rows r).getD (c - 1) 0 := fun h => by
    rw [show r * b + c - 1 = r * b + (c - 1) by omega, Y_at rows (by omega)]
  have h2 : 0 < r → Y rows b (r * b + c - b) = (row rows (r - 1)).getD c 0 := fun h => by
    obtain ⟨q, rfl⟩ : ∃ q, r = q + 1 := ⟨r - 1, by omega⟩
    rw [show (q + 1) * b + c - b = q * b + c by rw [Nat.add_mul]; omega, Y_at rows hc]; rfl
  have h3 : b ≤ r * b + c ↔ 0 < r := by
    constructor
    · intro h
      rcases Nat.eq_zero_or_pos r with h0 | h0
      · subst h0; omega
      · exact h0
    · intro h
      have := Nat.mul_le_mul_right b (show 1 ≤ r from h)
      omega
  constructor
  · rintro ⟨a, b', c', d⟩
    exact ⟨a, fun h => by rw [← h1 h]; exact b' h, fun h => by rw [← h2 h]; exact c' (h3.2 h), d⟩
  · rintro ⟨a, b', c', d⟩
    exact ⟨a, fun h => by rw [h1 h]; exact b' h, fun h => by rw [h2 (h3.1 h)]; exact c' (h3.1 h), d⟩
theorem prod_wrap {a b : Nat} (h : a * b ≤ 10) : wrap64 ((a : Int) * (b : Int)) = ((a * b : Nat) : Int) := by
  have : (a : Int) * (b : Int) = ((a * b : Nat) : Int) := by push_cast; rfl
  rw [this]; exact wid (by omega) (by omega)
theorem idx_lt {a b r c : Nat} (hr : r < a) (hc : c < b) : r * b + c < a * b := by
  have := Nat.mul_le_mul_right b (show r + 1 ≤ a from hr)
  rw [Nat.add_mul] at this; omega
theorem IsTableau_ev (rows : List (List Int)) : Ev (fun k => impl_IsTableau.f k rows) (isTab rows) := by
  unfold impl_IsTableau.f
  have hb0 : impl_sidesOf.b rows = ((cols rows : Nat) : Int) := rfl
  by_cases h0 : rows.length = 0 ∨ 10 < rows.length
  · refine Ev.call (show impl_sidesOf.f rows = some (0, 0, false) by unfold impl_sidesOf.f; rw [if_pos h0]) (Ev.no (by simp) (Ev.ret ?_))
    unfold isTab
    rw [show shapeOk rows = false by unfold shapeOk; exact decide_eq_false (by omega)]; rfl
  have hs : (impl_areSides.f (rows.length : Int) (impl_sidesOf.b rows) 10 == some true) = shapeOk rows := by
    rw [hb0]
    unfold impl_areSides.f
    simp only [within_eq, Option.bind_some]
    rw [range_true (show (1 : Int) ≤ (rows.length : Int) ∧ (rows.length : Int) ≤ 10 by omega), if_pos rfl]
    by_cases hc : 1 ≤ cols rows ∧ cols rows ≤ 10
    · rw [range_true (show (1 : Int) ≤ ((cols rows : Nat) : Int) ∧ ((cols rows : Nat) : Int) ≤ 10 by omega), if_pos rfl]
      have hm : rows.length * cols rows ≤ 100 := Nat.mul_le_mul (show rows.length ≤ 10 by omega) hc.2
      have ew : wrap64 ((rows.length : Int) * ((cols rows : Nat) : Int)) = ((rows.length * cols rows : Nat) : Int) := by
        have : (rows.length : Int) * ((cols rows : Nat) : Int) = ((rows.length * cols rows : Nat) : Int) := by push_cast; rfl
        rw [this]; exact wid (by omega) (by omega)
      rw [ew]
      unfold shapeOk
      by_cases h : rows.length * cols rows ≤ 10
      · rw [decide_eq_true (show ((rows.length * cols rows : Nat) : Int) ≤ 10 by omega), decide_eq_true (by omega)]; rfl
      · rw [decide_eq_false (show ¬ ((rows.length * cols rows : Nat) : Int) ≤ 10 by omega), decide_eq_false (by omega)]; rfl
    · rw [range_false (show ¬ ((1 : Int) ≤ ((cols rows : Nat) : Int) ∧ ((cols rows : Nat) : Int) ≤ 10) by omega), if_neg (by simp)]
      unfold shapeOk
      rw [decide_eq_false (by omega)]; rfl
  have hl : (!(rows.any fun x => ((x.length : Int) != impl_sidesOf.b rows))) = lensOk rows := by
    rw [hb0, Bool.eq_iff_iff, Bool.not_eq_true', ← Bool.not_eq_true, List.any_eq_true]
    unfold lensOk
    rw [allFrom_iff]
    constructor
    · intro h r _ hr
      rw [decide_eq_true_eq]
      rcases Nat.decEq (row rows r).length (cols rows) with hne | he
      · refine absurd ⟨rows[r], List.getElem_mem hr, ?_⟩ h
        have : row rows r = rows[r] := by unfold row; rw [List.getD_eq_getElem?_getD, List.getElem?_eq_getElem hr]; rfl
        rw [this] at hne
        rw [bne_iff_ne]; omega
      · exact he
    · rintro h ⟨x, hx, hne⟩
      obtain ⟨r, hr, rfl⟩ := List.getElem_of_mem hx
      have := h r (Nat.zero_le _) hr
      rw [decide_eq_true_eq] at this
      have e : row rows r = rows[r] := by unfold row; rw [List.getD_eq_getElem?_getD, List.getElem?_eq_getElem hr]; rfl
      rw [e] at this
      rw [bne_iff_ne] at hne
      omega
  refine Ev.call (show impl_sidesOf.f rows = some ((rows.length : Int), ((cols rows : Nat) : Int), shapeOk rows && lensOk rows) by unfold impl_sidesOf.f; rw [if_neg h0, hs, hl]; rfl) ?_
  unfold isTab
  rw [← Bool.and_assoc]
  cases hsl : (shapeOk rows && lensOk rows) with
  | false => exact Ev.no (by simp) (Ev.ret rfl)
  | true =>
  rw [Bool.and_eq_true] at hsl
  obtain ⟨hsh, hle⟩ := hsl
  have hsh' := of_decide_eq_true hsh
  obtain ⟨ha1, ha2, hb1, hb2, hab⟩ := hsh'
  have hlen : ∀ r, r < rows.length → (row rows r).length = cols rows := fun r hr => of_decide_eq_true ((allFrom_iff _ _ _).1 hle r (Nat.zero_le _) hr)
  refine Ev.yes rfl ?_
  rw [Bool.true_and]
  generalize hbb : cols rows = b at *
  generalize haa : rows.length = a at *
  have key : ∀ r, r ≤ a → (∀ s, s < r * b → CellOK rows b (a * b) s) → Ev (fun k => impl_IsTableau.l0 k rows (a : Int) (b : Int) ((seen rows b (r * b) : Nat) : Int) (a : Int) (r : Int)) (allFrom (cellB rows b (a * b)) (a * b) (r * b)) := by
    refine downTo a ?_ ?_
    · intro _
      exact Ev.step (by intro k; simp only [impl_IsTableau.l0]; rfl) (Ev.no (by omega) (Ev.ret (allFrom_end _ _).symm))
    · intro r hr ih hok0
      refine Ev.step (by intro k; simp only [impl_IsTableau.l0]; rfl) (Ev.yes (by omega) ?_)
      have hlr := hlen r hr
      have inner : ∀ c, c ≤ b → (∀ s, s < r * b + c → CellOK rows b (a * b) s) → Ev (fun k => impl_IsTableau.l1 k rows (a : Int) (b : Int) ((seen rows b (r * b + c) : Nat) : Int) (r : Int) (a : Int) (r : Int) (b : Int) (c : Int)) (allFrom (cellB rows b (a * b)) (a * b) (r * b + c)) := by
        refine downTo b ?_ ?_
        · intro hok
          refine Ev.step (by intro k; simp only [impl_IsTableau.l1]; rfl) (Ev.no (by omega) ?_)
          rw [wid1 hr (by omega)]
          have e : r * b + b = (r + 1) * b := by rw [Nat.add_mul]; omega
          rw [e] at hok ⊢
          exact ih hok
        · intro c hc ihc hok
          have hidx := idx_lt hr hc
          refine Ev.step (by intro k; simp only [impl_IsTableau.l1]; rfl) (Ev.yes (by omega) (Ev.yes (by omega) (Ev.yes (by omega) (Ev.yes (by omega) ?_))))
          rw [rdRow, rdN, allFrom_step _ hidx]
          refine Ev.yes (by omega) ?_
          rw [prod_wrap hab, show wrap64 (((a * b : Nat) : Int) - 1) = ((a * b : Nat) : Int) - 1 from wid (by omega) (by omega)]
          refine Ev.call (within_eq _ _ _) ?_
          have hci := cell_iff rows (n := a * b) (r := r) hc
          generalize hx : (row rows r).getD c 0 = x at *
          have fail : ¬ CellOK rows b (a * b) (r * b + c) → false = (cellB rows b (a * b) (r * b + c) && allFrom (cellB rows b (a * b)) (a * b) (r * b + c + 1)) := fun h => by
            unfold cellB; rw [decide_eq_false h]; rfl
          by_cases hv : 0 ≤ x ∧ x ≤ ((a * b : Nat) : Int) - 1
          rotate_left
          · exact Ev.no (by rw [range_false hv]; simp) (Ev.ret (fail (fun h => by have := (hci.1 h).1; omega)))
          refine Ev.yes (range_true hv) ?_
          obtain ⟨y, hy⟩ := Int.eq_ofNat_of_zero_le hv.1
          have hsl := seen_lt hok hab
          have hnew := seen_new hok (x := x) hv.1
          have hhas : impl_has.f ((seen rows b (r * b + c) : Nat) : Int) x = some ((seen rows b (r * b + c)).testBit x.toNat) := by
            rw [hy, Int.toNat_natCast]; exact has_eq (lt_pow hsl (by omega)) (by omega)
          refine Ev.call hhas ?_
          by_cases hmet : (seen rows b (r * b + c)).testBit x.toNat = true
          · exact Ev.yes hmet (Ev.ret (fail (fun h => by obtain ⟨u, hu, e⟩ := hnew.1 hmet; exact (hci.1 h).2.2.2 u hu e)))
          refine Ev.no hmet ?_
          have hne : ∀ u, u < r * b + c → Y rows b u ≠ x := fun u hu e => hmet (hnew.2 ⟨u, hu, e⟩)
          have hYx : Y rows b (r * b + c) = x := by rw [Y_at rows hc, hx]
          -- the left neighbour, and on
          have left : (0 < r → (row rows (r - 1)).getD c 0 < x) → Ev (fun k => if (c : Int) > 0 then (if 0 ≤ (wrap64 ((c : Int) - 1)) then (if (wrap64 ((c : Int) - 1)) < ((row rows r).length : Int) then (if x ≤ (rd (row rows r) (wrap64 ((c : Int) - 1))) then (some false) else (if 0 ≤ x then (impl_IsTableau.l1 k rows (a : Int) (b : Int) (Go.bits .or .i64 ((seen rows b (r * b + c) : Nat) : Int) (shl .i64 1 x)) (r : Int) (a : Int) (r : Int) (b : Int) (wrap64 ((c : Int) + 1))) else (none))) else (none)) else (none)) else (if 0 ≤ x then (impl_IsTableau.l1 k rows (a : Int) (b : Int) (Go.bits .or .i64 ((seen rows b (r * b + c) : Nat) : Int) (shl .i64 1 x)) (r : Int) (a : Int) (r : Int) (b : Int) (wrap64 ((c : Int) + 1))) else (none)))
              (cellB rows b (a * b) (r * b + c) && allFrom (cellB rows b (a * b)) (a * b) (r * b + c + 1)) := by
            intro hup
            have goOn : (0 < c → (row rows r).getD (c - 1) 0 < x) → Ev (fun k => if 0 ≤ x then (impl_IsTableau.l1 k rows (a : Int) (b : Int) (Go.bits .or .i64 ((seen rows b (r * b + c) : Nat) : Int) (shl .i64 1 x)) (r : Int) (a : Int) (r : Int) (b : Int) (wrap64 ((c : Int) + 1))) else (none)) (cellB rows b (a * b) (r * b + c) && allFrom (cellB rows b (a * b)) (a * b) (r * b + c + 1)) := by
              intro hleft
              have hcell : CellOK rows b (a * b) (r * b + c) := hci.2 ⟨⟨hv.1, by omega⟩, hleft, hup, hne⟩
              refine Ev.yes hv.1 ?_
              have hst := seen_step hok hab (by rw [hYx]; omega : 0 ≤ Y rows b (r * b + c) ∧ Y rows b (r * b + c) < ((a * b : Nat) : Int))
              rw [hYx] at hst
              rw [hst, wid1 hc (by omega)]
              refine evc (ihc ?_) ?_
              · intro s hs
                rcases Nat.lt_succ_iff_lt_or_eq.1 (show s < r * b + c + 1 by omega) with h | h
                · exact hok s h
                · rw [h]; exact hcell
              · unfold cellB; rw [decide_eq_true hcell, Bool.true_and]; rfl
            by_cases h0c : c = 0
            · exact Ev.no (by omega) (goOn (fun h => by omega))
            · have ew : wrap64 ((c : Int) - 1) = ((c - 1 : Nat) : Int) := by rw [wid (by omega) (by omega)]; omega
              rw [ew]
              refine Ev.yes (by omega) (Ev.yes (by omega) (Ev.yes (by omega) ?_))
              rw [rdN]
              refine Ev.ite (fun h => Ev.ret (fail (fun hc' => ?_))) (fun h => goOn (fun _ => by omega))
              have := (hci.1 hc').2.1 (by omega)
              omega
          by_cases h0r : r = 0
          · exact Ev.no (by omega) (left (fun h => by omega))
          · have ew : wrap64 ((r : Int) - 1) = ((r - 1 : Nat) : Int) := by rw [wid (by omega) (by omega)]; omega
            rw [ew, rdRow]
            have hlu := hlen (r - 1) (by omega)
            refine Ev.yes (by omega) (Ev.yes (by omega) (Ev.yes (by omega) (Ev.yes (by omega) ?_)))
            rw [rdN]
            refine Ev.ite (fun h => Ev.ret (fail (fun hc' => ?_))) (fun h => left (fun _ => by omega))
            have := (hci.1 hc').2.2.1 (by omega)
            omega
      exact inner 0 (by omega) hok0
  have fin := key 0 (Nat.zero_le _) (fun s hs => by rw [Nat.zero_mul] at hs; omega)
  rw [Nat.zero_mul] at fin
  exact fin
theorem shSides_eq (a b : Int) : spec_shSides.f a b = impl_areSides.f a b 10 := rfl
theorem areSides_nat (a b : Nat) (ha : a ≤ 10) : impl_areSides.f (a : Int) (b : Int) 10 = some (decide (1 ≤ a ∧ 1 ≤ b ∧ b ≤ 10 ∧ a * b ≤ 10)) := by
  unfold impl_areSides.f
  simp only [within_eq, Option.bind_some]
  by_cases h1 : 1 ≤ a
  · rw [range_true (show (1 : Int) ≤ (a : Int) ∧ (a : Int) ≤ 10 by omega), if_pos rfl]
    by_cases hc : 1 ≤ b ∧ b ≤ 10
    · rw [range_true (show (1 : Int) ≤ (b : Int) ∧ (b : Int) ≤ 10 by omega), if_pos rfl]
      have hm : a * b ≤ 100 := Nat.mul_le_mul ha hc.2
      have ew : wrap64 ((a : Int) * (b : Int)) = ((a * b : Nat) : Int) := by
        have : (a : Int) * (b : Int) = ((a * b : Nat) : Int) := by push_cast; rfl
        rw [this]; exact wid (by omega) (by omega)
      rw [ew]
      by_cases h : a * b ≤ 10
      · rw [decide_eq_true (show ((a * b : Nat) : Int) ≤ 10 by omega), decide_eq_true (by omega)]
      · rw [decide_eq_false (show ¬ ((a * b : Nat) : Int) ≤ 10 by omega), decide_eq_false (by omega)]
    · rw [range_false (show ¬ ((1 : Int) ≤ (b : Int) ∧ (b : Int) ≤ 10) by omega), if_neg (by simp), decide_eq_false (by omega)]
  · rw [range_false (show ¬ ((1 : Int) ≤ (a : Int) ∧ (a : Int) ≤ 10) by omega), if_neg (by simp), decide_eq_false (by omega)]
theorem shGood_ev (rows : List (List Int)) : Ev (fun k => spec_shGood.f k rows) (isTab rows) := by
  have stop : ∀ b : Bool, b = true → Ev (fun k => spec_shGood.j0 k rows b) false := fun b hb => Ev.step (by intro k; simp only [spec_shGood.j0]; rfl) (Ev.yes hb (Ev.ret rfl))
  have shf : shapeOk rows = false → false = isTab rows := fun h => by unfold isTab; rw [h]; rfl
  unfold spec_shGood.f
  by_cases h0 : rows.length = 0
  · exact Ev.yes (by omega) (evc (stop true rfl) (shf (by unfold shapeOk; exact decide_eq_false (by omega))))
  refine Ev.no (by omega) ?_
  by_cases h10 : 10 < rows.length
  · exact Ev.yes (by omega) (evc (stop true rfl) (shf (by unfold shapeOk; exact decide_eq_false (by omega))))
  refine Ev.no (by omega) (Ev.yes (by omega) ?_)
  have hrow0 : rd_L1 rows 0 = row rows 0 := rdRow rows 0
  have hcols : (row rows 0).length = cols rows := by
    unfold row cols
    cases rows with
    | nil => rfl
    | cons x l => rfl
  rw [hrow0, hcols, shSides_eq]
  refine Ev.call (areSides_nat rows.length (cols rows) (by omega)) ?_
  cases hsh : shapeOk rows with
  | false =>
    have : decide (1 ≤ rows.length ∧ 1 ≤ cols rows ∧ cols rows ≤ 10 ∧ rows.length * cols rows ≤ 10) = false := decide_eq_false (fun h => by
      unfold shapeOk at hsh; rw [decide_eq_true (by omega)] at hsh; cases hsh)
    rw [this]
    exact evc (stop true rfl) (shf hsh)
  | true =>
  have hsh' := of_decide_eq_true hsh
  obtain ⟨ha1, ha2, hb1, hb2, hab⟩ := hsh'
  rw [decide_eq_true (show (1 ≤ rows.length ∧ 1 ≤ cols rows ∧ cols rows ≤ 10 ∧ rows.length * cols rows ≤ 10) by omega)]
  refine Ev.step (by intro k; simp only [spec_shGood.j0]; rfl) (Ev.no (by simp) ?_)
  have hit : isTab rows = (lensOk rows && allFrom (cellB rows (cols rows) (rows.length * cols rows)) (rows.length * cols rows) 0) := by unfold isTab; rw [hsh]; rfl
  have hbase : (row rows 0).length = cols rows := hcols
  rw [hit]
  unfold lensOk
  generalize hbb : cols rows = b at *
  generalize haa : rows.length = a at *
  have key : ∀ r, r ≤ a → (∀ s, s < r * b → CellOK rows b (a * b) s) → (∀ q, q < r → (row rows q).length = b) → Ev (fun k => spec_shGood.l0 k rows ((seen rows b (r * b) : Nat) : Int) rows (a : Int) (r : Int))
      (allFrom (fun r => decide ((row rows r).length = b)) a r && allFrom (cellB rows b (a * b)) (a * b) (r * b)) := by
    refine downTo a ?_ ?_
    · intro _ _
      exact Ev.step (by intro k; simp only [spec_shGood.l0]; rfl) (Ev.no (by omega) (Ev.ret (by rw [allFrom_end, allFrom_end]; rfl)))
    · intro r hr ih hok0 hlens
      refine Ev.step (by intro k; simp only [spec_shGood.l0]; rfl) (Ev.yes (by omega) (Ev.yes (by omega) (Ev.yes (by omega) (Ev.yes (by omega) ?_))))
      rw [rdRow, hrow0, hbase, haa]
      have stop2 : ∀ bo : Bool, bo = true → (allFrom (fun r => decide ((row rows r).length = b)) a r && allFrom (cellB rows b (a * b)) (a * b) (r * b)) = false →
          Ev (fun k => spec_shGood.j2 k rows ((seen rows b (r * b) : Nat) : Int) (r : Int) (row rows r) rows (a : Int) (r : Int) bo) (allFrom (fun r => decide ((row rows r).length = b)) a r && allFrom (cellB rows b (a * b)) (a * b) (r * b)) :=
        fun bo hb hf => Ev.step (by intro k; simp only [spec_shGood.j2]; rfl) (Ev.yes hb (Ev.ret hf.symm))
      by_cases hlr : (row rows r).length = b
      rotate_left
      · refine Ev.no (by omega) (stop2 true rfl ?_)
        rw [allFrom_step _ hr, decide_eq_false hlr]; rfl
      refine Ev.yes (by omega) ?_
      rw [hlr, prod_wrap hab, show wrap64 (((a * b : Nat) : Int) - 1) = ((a * b : Nat) : Int) - 1 from wid (by omega) (by omega)]
      refine Ev.bind (l1All_ev (row rows r) 0 _ (by omega)) ?_
      rw [hlr]
      cases hin : allFrom (fun i => inR 0 (((a * b : Nat) : Int) - 1) ((row rows r).getD i 0)) b 0 with
      | false =>
        refine stop2 true rfl ?_
        rw [Bool.and_eq_false_iff]
        right
        rw [← Bool.not_eq_true, allFrom_iff]
        intro h
        rw [← Bool.not_eq_true, allFrom_iff] at hin
        refine hin (fun c _ hc => ?_)
        have := of_decide_eq_true (h (r * b + c) (by omega) (idx_lt hr hc))
        have := ((cell_iff rows hc).1 this).1
        rw [inR_iff]; omega
      | true =>
      have hin' : ∀ c, c < b → 0 ≤ (row rows r).getD c 0 ∧ (row rows r).getD c 0 ≤ ((a * b : Nat) : Int) - 1 := fun c hc => inR_iff.1 ((allFrom_iff _ _ _).1 hin c (Nat.zero_le _) hc)
      refine Ev.step (by intro k; simp only [spec_shGood.j2]; rfl) (Ev.no (by simp) ?_)
      rw [allFrom_step (fun r => decide ((row rows r).length = b)) hr, decide_eq_true hlr, Bool.true_and, hlr]
      have inner : ∀ c, c ≤ b → (∀ s, s < r * b + c → CellOK rows b (a * b) s) → Ev (fun k => spec_shGood.l1 k rows ((seen rows b (r * b + c) : Nat) : Int) (r : Int) (row rows r) rows (a : Int) (r : Int) (row rows r) (b : Int) (c : Int))
          (allFrom (fun r => decide ((row rows r).length = b)) a (r + 1) && allFrom (cellB rows b (a * b)) (a * b) (r * b + c)) := by
        refine downTo b ?_ ?_
        · intro hok
          refine Ev.step (by intro k; simp only [spec_shGood.l1]; rfl) (Ev.no (by omega) ?_)
          rw [wid1 hr (by omega)]
          have e : r * b + b = (r + 1) * b := by rw [Nat.add_mul]; omega
          rw [e] at hok ⊢
          exact ih hok (fun q hq => by
            rcases Nat.lt_succ_iff_lt_or_eq.1 hq with h | h
            · exact hlens q h
            · rw [h]; exact hlr)
        · intro c hc ihc hok
          have hidx := idx_lt hr hc
          refine Ev.step (by intro k; simp only [spec_shGood.l1]; rfl) (Ev.yes (by omega) (Ev.yes (by omega) (Ev.yes (by omega) ?_)))
          rw [rdN, allFrom_step _ hidx]
          have hci := cell_iff rows (n := a * b) (r := r) hc
          have hv := hin' c hc
          have hleftv := fun h : 0 < c => hin' (c - 1) (by omega)
          generalize hx : (row rows r).getD c 0 = x at *
          have fail : ¬ CellOK rows b (a * b) (r * b + c) → false = (allFrom (fun r => decide ((row rows r).length = b)) a (r + 1) && (cellB rows b (a * b) (r * b + c) && allFrom (cellB rows b (a * b)) (a * b) (r * b + c + 1))) := fun h => by
            unfold cellB; rw [decide_eq_false h]; simp
          obtain ⟨y, hy⟩ := Int.eq_ofNat_of_zero_le hv.1
          have hsl := seen_lt hok hab
          have hnew := seen_new hok (x := x) hv.1
          have hhas : spec_poIn.f ((seen rows b (r * b + c) : Nat) : Int) x = some ((seen rows b (r * b + c)).testBit x.toNat) := by
            rw [hy, Int.toNat_natCast]; exact poIn_eq (by omega)
          refine Ev.call hhas ?_
          by_cases hmet : (seen rows b (r * b + c)).testBit x.toNat = true
          · exact Ev.yes hmet (Ev.ret (fail (fun h => by obtain ⟨u, hu, e⟩ := hnew.1 hmet; exact (hci.1 h).2.2.2 u hu e)))
          refine Ev.no hmet ?_
          have hne : ∀ u, u < r * b + c → Y rows b u ≠ x := fun u hu e => hmet (hnew.2 ⟨u, hu, e⟩)
          have hYx : Y rows b (r * b + c) = x := by rw [Y_at rows hc, hx]
          have hnl : 0 < c → (row rows r).getD (c - 1) 0 ≠ x := fun h e => hne (r * b + (c - 1)) (by omega) (by rw [Y_at rows (by omega)]; exact e)
          have hnu : 0 < r → (row rows (r - 1)).getD c 0 ≠ x := fun h e => hne ((r - 1) * b + c) (by
            have : (r - 1) * b + b = r * b := by rw [← Nat.succ_mul]; congr 1; omega
            omega) (by rw [Y_at rows hc]; exact e)
          have up : (0 < c → (row rows r).getD (c - 1) 0 < x) → Ev (fun k => if (r : Int) > 0 then (if 0 ≤ (wrap64 ((r : Int) - 1)) then (if (wrap64 ((r : Int) - 1)) < (rows.length : Int) then (if (c : Int) < ((rd_L1 rows (wrap64 ((r : Int) - 1))).length : Int) then (if (rd (rd_L1 rows (wrap64 ((r : Int) - 1))) (c : Int)) > x then (some false) else (if 0 ≤ x then (spec_shGood.l1 k rows (Go.bits .or .i64 ((seen rows b (r * b + c) : Nat) : Int) (shl .i64 1 x)) (r : Int) (row rows r) rows (a : Int) (r : Int) (row rows r) (b : Int) (wrap64 ((c : Int) + 1))) else (none))) else (none)) else (none)) else (none)) else (if 0 ≤ x then (spec_shGood.l1 k rows (Go.bits .or .i64 ((seen rows b (r * b + c) : Nat) : Int) (shl .i64 1 x)) (r : Int) (row rows r) rows (a : Int) (r : Int) (row rows r) (b : Int) (wrap64 ((c : Int) + 1))) else (none)))
              (allFrom (fun r => decide ((row rows r).length = b)) a (r + 1) && (cellB rows b (a * b) (r * b + c) && allFrom (cellB rows b (a * b)) (a * b) (r * b + c + 1))) := by
            intro hleft
            have goOn : (0 < r → (row rows (r - 1)).getD c 0 < x) → Ev (fun k => if 0 ≤ x then (spec_shGood.l1 k rows (Go.bits .or .i64 ((seen rows b (r * b + c) : Nat) : Int) (shl .i64 1 x)) (r : Int) (row rows r) rows (a : Int) (r : Int) (row rows r) (b : Int) (wrap64 ((c : Int) + 1))) else (none))
                (allFrom (fun r => decide ((row rows r).length = b)) a (r + 1) && (cellB rows b (a * b) (r * b + c) && allFrom (cellB rows b (a * b)) (a * b) (r * b + c + 1))) := by
              intro hup
              have hcell : CellOK rows b (a * b) (r * b + c) := hci.2 ⟨⟨hv.1, by omega⟩, hleft, hup, hne⟩
              refine Ev.yes hv.1 ?_
              have hst := seen_step hok hab (by rw [hYx]; omega : 0 ≤ Y rows b (r * b + c) ∧ Y rows b (r * b + c) < ((a * b : Nat) : Int))
              rw [hYx] at hst
              rw [hst, wid1 hc (by omega)]
              refine evc (ihc ?_) ?_
              · intro s hs
                rcases Nat.lt_succ_iff_lt_or_eq.1 (show s < r * b + c + 1 by omega) with h | h
                · exact hok s h
                · rw [h]; exact hcell
              · rw [show cellB rows b (a * b) (r * b + c) = true from decide_eq_true hcell, Bool.true_and]; rfl
            by_cases h0r : r = 0
            · exact Ev.no (by omega) (goOn (fun h => by omega))
            · have ew : wrap64 ((r : Int) - 1) = ((r - 1 : Nat) : Int) := by rw [wid (by omega) (by omega)]; omega
              rw [ew, rdRow]
              have hlu := hlens (r - 1) (by omega)
              have hnu' := hnu (by omega)
              refine Ev.yes (by omega) (Ev.yes (by omega) (Ev.yes (by omega) (Ev.yes (by omega) ?_)))
              rw [rdN]
              refine Ev.ite (fun h => Ev.ret (fail (fun hc' => ?_))) (fun h => goOn (fun _ => by omega))
              have := (hci.1 hc').2.2.1 (by omega)
              omega
          by_cases h0c : c = 0
          · exact Ev.no (by omega) (up (fun h => by omega))
          · have ew : wrap64 ((c : Int) - 1) = ((c - 1 : Nat) : Int) := by rw [wid (by omega) (by omega)]; omega
            rw [ew]
            have hnl' := hnl (by omega)
            refine Ev.yes (by omega) (Ev.yes (by omega) (Ev.yes (by omega) ?_))
            rw [rdN]
            refine Ev.ite (fun h => Ev.ret (fail (fun hc' => ?_))) (fun h => up (fun _ => by omega))
            have := (hci.1 hc').2.1 (by omega)
            omega
      exact inner 0 (by omega) hok0
  have fin := key 0 (Nat.zero_le _) (fun s hs => by rw [Nat.zero_mul] at hs; omega) (fun q hq => by omega)
  rw [Nat.zero_mul] at fin
  exact fin
end Go.Proofs.Ytfahkoimleiknaa.Q
end

section
namespace Go.Proofs.Ytfahkoimleiknaa.Q
open Go.RowKit Go.Proofs.YtfahkoimleiknaaW.PrintWords Go.Proofs.Ytfahkoimleiknaa.F
set_option linter.unusedVariables false
theorem allFrom_get0 {f : Nat → Bool} {n : Nat} (h : allFrom f n 0 = true) : ∀ i, i < n → f i = true := by
  have := h
  rw [allFrom_iff] at this
  intro i hi
  exact this i (by omega) hi
structure Tab (rows : List (List Int)) (a b : Nat) : Prop where
  len : rows.length = a
  a1 : 1 ≤ a
  b1 : 1 ≤ b
  a10 : a ≤ 10
  b10 : b ≤ 10
  ab : a * b ≤ 10
  col : (rd_L1 rows 0).length = b
  rlen : ∀ r, r < a → (row rows r).length = b
  cell : ∀ r c, r < a → c < b → 0 ≤ (row rows r).getD c 0 ∧ (row rows r).getD c 0 < ((a * b : Nat) : Int)
theorem isTab_facts {rows : List (List Int)} (h : isTab rows = true) : ∃ a b : Nat, Tab rows a b := by
  unfold isTab at h
  rw [Bool.and_eq_true, Bool.and_eq_true] at h
  obtain ⟨h1, h2, h3⟩ := h
  unfold shapeOk at h1
  rw [decide_eq_true_eq] at h1
  obtain ⟨ha1, ha2, hb1, hb2, hab⟩ := h1
  generalize hB : cols rows = b at hb1 hb2 hab h2 h3
  have hcol : (rd_L1 rows 0).length = b := by
    rw [← hB]; unfold rd_L1 cols
    cases rows with
    | nil => simp at ha1
    | cons x l => rfl
  have hlen : ∀ r, r < rows.length → (row rows r).length = b := fun r hr => by
    have := allFrom_get0 h2 r hr
    rw [decide_eq_true_eq, hB] at this; exact this
  refine ⟨rows.length, b, rfl, ha1, hb1, ha2, hb2, hab, hcol, hlen, fun r c hr hc => ?_⟩
  have hlt : r * b + c < rows.length * b := by
    have : (r + 1) * b ≤ rows.length * b := Nat.mul_le_mul_right _ hr
    rw [Nat.add_mul] at this; omega
  have := allFrom_get0 h3 (r * b + c) hlt
  unfold cellB at this
  rw [decide_eq_true_eq] at this
  have := this.1
  rw [Y_at rows hc] at this; exact this
end Go.Proofs.Ytfahkoimleiknaa.Q
end

section
namespace Go.Proofs.Ytfahkoimleiknaa.F
open Go.RowKit Go.Proofs.YtfahkoimleiknaaW.PrintWords Go.Proofs.YtfahkoimleiknaaW.PrintLast Go.Proofs.YtfahkoimleiknaaW.PrintMore
set_option linter.unusedVariables false
set_option linter.unusedSimpArgs false
theorem laws_FnExactFromLattice.belowD {w w' : World} (h : Drawn0 w w') : Below w.heap.size w w' := by
  obtain ⟨m, rfl⟩ := h
  exact pw_below_drewN (Below.refl _ _) m
set_option maxHeartbeats 8000000 in
set_option maxRecDepth 100000 in
theorem laws_FnExactFromLattice.calls0 (k k1 : Nat) (A0 : Option Addr) (c0 : Nat) (l0 : List Int)  (w : World) (hr0 : Kd.C (Kd.int .i64) w A0 l0.length l0) (hc0 : l0.length ≤ c0) (hx : decide ((l0.length : Int) > 1048576) = true) :
    Calls Try.prog 6 #[.slice A0 l0.length c0] w fun e w' => e = .returned (.bool true) ∧ Below w.heap.size w w' := by
  have HR0 := Aside0.mk hr0
  have HC0 := Aside0.mk hc0
  clear hr0 hc0
  have HT0 := Aside0.mk (Below.refl w.heap.size w)
  go_enter Try.func6, Try.ntmps6
  go_wp2
  go_ret
  exact ⟨by first | rfl | (simp; done) | (simp [*]; done), by repeat (first | (with_reducible first | exact HT0.out | apply below_alloc | apply pw_below_drewN | apply below_drew1) | exact HT0.out)⟩
set_option maxHeartbeats 8000000 in
set_option maxRecDepth 100000 in
theorem laws_FnExactFromLattice.calls1 (k k1 : Nat) (A0 : Option Addr) (c0 : Nat) (l0 : List Int) (v1 : List (List Int)) (v2 : Bool) (m3 : Int) (u4 : List Int) (m5 : Int) (u6 : List (List Int)) (w : World) (hr0 : Kd.C (Kd.int .i64) w A0 l0.length l0) (hc0 : l0.length ≤ c0) (hy0 : decide ((l0.length : Int) > 1048576) = false) (hy1_ : laws_toIntS.f k1 l0 = some l0) (hy2_ : spec_FromLattice.f k l0 = some (v1, v2)) (hy3_ : impl_FromLattice.f k l0 = some (v1, v2)) (hy4_ : laws_eqIntSS.f k1 v1 v1 = some true) (hy5_ : laws_eqIntS.f k1 l0 l0 = some true) (hy6_ : laws_markIntS.f k1 l0 1 = some (m3, u4)) (hy7 : decide (m3 < 0) = false) (hy8_ : laws_markIntSS.f k1 v1 1 = some (m5, u6)) (hy9_ : laws_heldIntSS.f k1 u6 1 = some m5) (hy10 : decide (m5 < 0) = false) :
    Calls Try.prog 6 #[.slice A0 l0.length c0] w fun e w' => e = .returned (.bool true) ∧ Below w.heap.size w w' := by
  have HR0 := Aside0.mk hr0
  have HC0 := Aside0.mk hc0
  clear hr0 hc0
  have hy1 := Aside0.mk hy1_
  clear hy1_
  have hy2 := Aside0.mk hy2_
  clear hy2_
  have hy3 := Aside0.mk hy3_
  clear hy3_
  have hy4 := Aside0.mk hy4_
  clear hy4_
  have hy5 := Aside0.mk hy5_
  clear hy5_
  have hy6 := Aside0.mk hy6_
  clear hy6_
  have hy8 := Aside0.mk hy8_
  clear hy8_
  have hy9 := Aside0.mk hy9_
  clear hy9_
  have HT0 := Aside0.mk (Below.refl w.heap.size w)
  go_enter Try.func6, Try.ntmps6
  go_wp2_with fail
  have hcall_ := laws_toIntS.calls k1 _ _ l0 l0 _ (Kd.C_below HR0.out HT0.out) HC0.out hy1.out
  refine hcall_.mono ?_
  clear hcall_ 
  rintro e w1 ⟨v1x, rfl, hx1_, hb_⟩
  have HB1 := Aside0.mk hb_
  have HZ1 : Aside0 (w.heap.size ≤ w1.heap.size) := ⟨hb_.size⟩
  have HT1 := Aside0.mk (HT0.out.trans (Below.mono hb_ HT0.out.size))
  clear hb_
  have HX1 := Aside0.mk (Kd.R_lower (Kd.R_mono (ok' := fun k_ => w.heap.size ≤ k_ ∧ k_ < w1.heap.size) (Kd.R_bound hx1_) (fun k_ h_ => ⟨h_.2.1, h_.2.2.1⟩)) HT0.out.size)
  clear hx1_
  go_wp2_with fail
  obtain ⟨A1_, c1_, e1_, hl1_, hC1_⟩ := Kd.R_reads HX1.out
  have hcall_ := spec_FromLattice.calls k _ _ l0 v1 v2 _ hC1_ hl1_ hy2.out
  rw [← e1_] at hcall_
  refine hcall_.mono ?_
  clear hcall_ hC1_ hl1_ e1_ c1_ A1_
  rintro e w2 ⟨v2x, rfl, hx2_, hb_⟩
  have HB2 := Aside0.mk hb_
  have HZ2 : Aside0 (w1.heap.size ≤ w2.heap.size) := ⟨hb_.size⟩
  have HT2 := Aside0.mk (HT1.out.trans (Below.mono hb_ HT1.out.size))
  clear hb_
  have n_ := Aside0.mk (Kd.R_below HX1.out HB2.out)
  clear HX1
  have HX1 := n_
  clear n_
  have HX2 := Aside0.mk (Kd.S_lower (Kd.S_mono (ok' := fun k_ => w1.heap.size ≤ k_ ∧ k_ < w2.heap.size) (Kd.S_bound hx2_) (fun k_ h_ => ⟨h_.2.1, h_.2.2.1⟩)) HT1.out.size)
  clear hx2_
  go_wp2_with fail
  have hcall_ := laws_toIntS.calls k1 _ _ l0 l0 _ (Kd.C_below HR0.out HT2.out) HC0.out hy1.out
  refine hcall_.mono ?_
  clear hcall_ 
  rintro e w3 ⟨v3x, rfl, hx3_, hb_⟩
  have HB3 := Aside0.mk hb_
  have HZ3 : Aside0 (w2.heap.size ≤ w3.heap.size) := ⟨hb_.size⟩
  have HT3 := Aside0.mk (HT2.out.trans (Below.mono hb_ HT2.out.size))
  clear hb_
  have n_ := Aside0.mk (Kd.R_below HX1.out HB3.out)
  clear HX1
  have HX1 := n_
  clear n_
  have n_ := Aside0.mk (Kd.S_below HX2.out HB3.out)
  clear HX2
  have HX2 := n_
  clear n_
  have HX3 := Aside0.mk (Kd.R_lower (Kd.R_mono (ok' := fun k_ => w2.heap.size ≤ k_ ∧ k_ < w3.heap.size) (Kd.R_bound hx3_) (fun k_ h_ => ⟨h_.2.1, h_.2.2.1⟩)) HT2.out.size)
  clear hx3_
  go_wp2_with fail
  obtain ⟨A3_, c3_, e3_, hl3_, hC3_⟩ := Kd.R_reads HX3.out
  have hcall_ := impl_FromLattice.calls k _ _ l0 v1 v2 _ hC3_ hl3_ hy3.out
  rw [← e3_] at hcall_
  refine hcall_.mono ?_
  clear hcall_ hC3_ hl3_ e3_ c3_ A3_
  rintro e w4 ⟨v4x, rfl, hx4_, hb_⟩
  have HB4 := Aside0.mk hb_
  have HZ4 : Aside0 (w3.heap.size ≤ w4.heap.size) := ⟨hb_.size⟩
  have HT4 := Aside0.mk (HT3.out.trans (Below.mono hb_ HT3.out.size))
  clear hb_
  have n_ := Aside0.mk (Kd.R_below HX1.out HB4.out)
  clear HX1
  have HX1 := n_
  clear n_
  have n_ := Aside0.mk (Kd.S_below HX2.out HB4.out)
  clear HX2
  have HX2 := n_
  clear n_
  have n_ := Aside0.mk (Kd.R_below HX3.out HB4.out)
  clear HX3
  have HX3 := n_
  clear n_
  have HX4 := Aside0.mk (Kd.S_lower (Kd.S_mono (ok' := fun k_ => w3.heap.size ≤ k_ ∧ k_ < w4.heap.size) (Kd.S_bound hx4_) (fun k_ h_ => ⟨h_.2.1, h_.2.2.1⟩)) HT3.out.size)
  clear hx4_
  go_wp2_with fail
  obtain ⟨A4_, c4_, e4_, hl4_, hC4_⟩ := Kd.S_reads HX4.out
  obtain ⟨A2_, c2_, e2_, hl2_, hC2_⟩ := Kd.S_reads HX2.out
  have hcall_ := laws_eqIntSS.calls k1 _ _ v1 _ _ v1 true _ hC4_ hl4_ hC2_ hl2_ hy4.out
  rw [← e4_] at hcall_
  rw [← e2_] at hcall_
  refine hcall_.mono ?_
  clear hcall_ hC4_ hl4_ e4_ c4_ A4_ hC2_ hl2_ e2_ c2_ A2_
  rintro e w5 ⟨rfl, hb0_⟩
  have hb_ := laws_FnExactFromLattice.belowD hb0_
  clear hb0_
  have HB5 := Aside0.mk hb_
  have HZ5 : Aside0 (w4.heap.size ≤ w5.heap.size) := ⟨hb_.size⟩
  have HT5 := Aside0.mk (HT4.out.trans (Below.mono hb_ HT4.out.size))
  clear hb_
  have n_ := Aside0.mk (Kd.R_below HX1.out HB5.out)
  clear HX1
  have HX1 := n_
  clear n_
  have n_ := Aside0.mk (Kd.S_below HX2.out HB5.out)
  clear HX2
  have HX2 := n_
  clear n_
  have n_ := Aside0.mk (Kd.R_below HX3.out HB5.out)
  clear HX3
  have HX3 := n_
  clear n_
  have n_ := Aside0.mk (Kd.S_below HX4.out HB5.out)
  clear HX4
  have HX4 := n_
  clear n_
  go_wp2_with fail
  have hcall_ := laws_toIntS.calls k1 _ _ l0 l0 _ (Kd.C_below HR0.out HT5.out) HC0.out hy1.out
  refine hcall_.mono ?_
  clear hcall_ 
  rintro e w6 ⟨v5x, rfl, hx5_, hb_⟩
  have HB6 := Aside0.mk hb_
  have HZ6 : Aside0 (w5.heap.size ≤ w6.heap.size) := ⟨hb_.size⟩
  have HT6 := Aside0.mk (HT5.out.trans (Below.mono hb_ HT5.out.size))
  clear hb_
  have n_ := Aside0.mk (Kd.R_below HX1.out HB6.out)
  clear HX1
  have HX1 := n_
  clear n_
  have n_ := Aside0.mk (Kd.S_below HX2.out HB6.out)
  clear HX2
  have HX2 := n_
  clear n_
  have n_ := Aside0.mk (Kd.R_below HX3.out HB6.out)
  clear HX3
  have HX3 := n_
  clear n_
  have n_ := Aside0.mk (Kd.S_below HX4.out HB6.out)
  clear HX4
  have HX4 := n_
  clear n_
  have HX5 := Aside0.mk (Kd.R_lower (Kd.R_mono (ok' := fun k_ => w5.heap.size ≤ k_ ∧ k_ < w6.heap.size) (Kd.R_bound hx5_) (fun k_ h_ => ⟨h_.2.1, h_.2.2.1⟩)) HT5.out.size)
  clear hx5_
  go_wp2_with fail
  obtain ⟨A3_, c3_, e3_, hl3_, hC3_⟩ := Kd.R_reads HX3.out
  obtain ⟨A5_, c5_, e5_, hl5_, hC5_⟩ := Kd.R_reads HX5.out
  have hcall_ := laws_eqIntS.calls k1 _ _ l0 _ _ l0 true _ hC3_ hl3_ hC5_ hl5_ hy5.out
  rw [← e3_] at hcall_
  rw [← e5_] at hcall_
  refine hcall_.mono ?_
  clear hcall_ hC3_ hl3_ e3_ c3_ A3_ hC5_ hl5_ e5_ c5_ A5_
  rintro e w7 ⟨rfl, hb0_⟩
  have hb_ := laws_FnExactFromLattice.belowD hb0_
  clear hb0_
  have HB7 := Aside0.mk hb_
  have HZ7 : Aside0 (w6.heap.size ≤ w7.heap.size) := ⟨hb_.size⟩
  have HT7 := Aside0.mk (HT6.out.trans (Below.mono hb_ HT6.out.size))
  clear hb_
  have n_ := Aside0.mk (Kd.R_below HX1.out HB7.out)
  clear HX1
  have HX1 := n_
  clear n_
  have n_ := Aside0.mk (Kd.S_below HX2.out HB7.out)
  clear HX2
  have HX2 := n_
  clear n_
  have n_ := Aside0.mk (Kd.R_below HX3.out HB7.out)
  clear HX3
  have HX3 := n_
  clear n_
  have n_ := Aside0.mk (Kd.S_below HX4.out HB7.out)
  clear HX4
  have HX4 := n_
  clear n_
  have n_ := Aside0.mk (Kd.R_below HX5.out HB7.out)
  clear HX5
  have HX5 := n_
  clear n_
  go_wp2_with fail
  refine (laws_markIntS.calls k1 (fun k_ => some k_ = (v3x : Value).ownBlock) v3x l0 1 m3 u4 w _ HT7.out (Kd.R_tight rfl HX3.out) hy6.out).mono ?_
  rintro e w8 ⟨rfl, hy_, hb_, hk_⟩
  have HT8 := Aside0.mk hb_
  have HK8 := Aside0.mk hk_
  have HZ8 : Aside0 (w7.heap.size ≤ w8.heap.size) := ⟨hk_.1⟩
  have HO := HX3
  have HY := Aside0.mk (Kd.R_reok rfl hy_ (fun k_ e_ => HO.out.1 k_ e_))
  clear hy_ hb_ hk_
  have n_ := Aside0.mk (Kd.R_kept HX1.out HK8.out (fun k_ h_ h2_ => by have z1 := HZ1.out; have z2 := HZ2.out; have z3 := HZ3.out; have z4 := HZ4.out; have z5 := HZ5.out; have z6 := HZ6.out; have z7 := HZ7.out; have z8 := HZ8.out; have h3_ := HO.out.1 k_ h2_.symm; omega))
  clear HX1
  have HX1 := n_
  clear n_
  have n_ := Aside0.mk (Kd.S_kept HX2.out HK8.out (fun k_ h_ h2_ => by have z1 := HZ1.out; have z2 := HZ2.out; have z3 := HZ3.out; have z4 := HZ4.out; have z5 := HZ5.out; have z6 := HZ6.out; have z7 := HZ7.out; have z8 := HZ8.out; have h3_ := HO.out.1 k_ h2_.symm; omega))
  clear HX2
  have HX2 := n_
  clear n_
  have n_ := Aside0.mk (Kd.S_kept HX4.out HK8.out (fun k_ h_ h2_ => by have z1 := HZ1.out; have z2 := HZ2.out; have z3 := HZ3.out; have z4 := HZ4.out; have z5 := HZ5.out; have z6 := HZ6.out; have z7 := HZ7.out; have z8 := HZ8.out; have h3_ := HO.out.1 k_ h2_.symm; omega))
  clear HX4
  have HX4 := n_
  clear n_
  have n_ := Aside0.mk (Kd.R_kept HX5.out HK8.out (fun k_ h_ h2_ => by have z1 := HZ1.out; have z2 := HZ2.out; have z3 := HZ3.out; have z4 := HZ4.out; have z5 := HZ5.out; have z6 := HZ6.out; have z7 := HZ7.out; have z8 := HZ8.out; have h3_ := HO.out.1 k_ h2_.symm; omega))
  clear HX5
  have HX5 := n_
  clear n_
  clear HX3 HO
  have HX3 := HY
  clear HY
  go_wp2_with fail
  obtain ⟨A4_, c4_, e4_, hl4_, hC4_⟩ := Kd.S_reads HX4.out
  obtain ⟨A2_, c2_, e2_, hl2_, hC2_⟩ := Kd.S_reads HX2.out
  have hcall_ := laws_eqIntSS.calls k1 _ _ v1 _ _ v1 true _ hC4_ hl4_ hC2_ hl2_ hy4.out
  rw [← e4_] at hcall_
  rw [← e2_] at hcall_
  refine hcall_.mono ?_
  clear hcall_ hC4_ hl4_ e4_ c4_ A4_ hC2_ hl2_ e2_ c2_ A2_
  rintro e w9 ⟨rfl, hb0_⟩
  have hb_ := laws_FnExactFromLattice.belowD hb0_
  clear hb0_
  have HB9 := Aside0.mk hb_
  have HZ9 : Aside0 (w8.heap.size ≤ w9.heap.size) := ⟨hb_.size⟩
  have HT9 := Aside0.mk (HT8.out.trans (Below.mono hb_ HT8.out.size))
  clear hb_
  have n_ := Aside0.mk (Kd.R_below HX1.out HB9.out)
  clear HX1
  have HX1 := n_
  clear n_
  have n_ := Aside0.mk (Kd.S_below HX2.out HB9.out)
  clear HX2
  have HX2 := n_
  clear n_
  have n_ := Aside0.mk (Kd.R_below HX3.out HB9.out)
  clear HX3
  have HX3 := n_
  clear n_
  have n_ := Aside0.mk (Kd.S_below HX4.out HB9.out)
  clear HX4
  have HX4 := n_
  clear n_
  have n_ := Aside0.mk (Kd.R_below HX5.out HB9.out)
  clear HX5
  have HX5 := n_
  clear n_
  go_wp2_with fail
  refine (laws_markIntSS.calls k1 (fun k_ => w3.heap.size ≤ k_ ∧ k_ < w4.heap.size) v4x v1 1 m5 u6 w _ HT9.out HX4.out hy8.out).mono ?_
  rintro e w10 ⟨rfl, hy_, hb_, hk_⟩
  have HT10 := Aside0.mk hb_
  have HK10 := Aside0.mk hk_
  have HZ10 : Aside0 (w9.heap.size ≤ w10.heap.size) := ⟨hk_.1⟩
  have HO := HX4
  have HY := Aside0.mk hy_
  clear hy_ hb_ hk_
  have n_ := Aside0.mk (Kd.R_kept HX1.out HK10.out (fun k_ h_ h2_ => by have z1 := HZ1.out; have z2 := HZ2.out; have z3 := HZ3.out; have z4 := HZ4.out; have z5 := HZ5.out; have z6 := HZ6.out; have z7 := HZ7.out; have z8 := HZ8.out; have z9 := HZ9.out; have z10 := HZ10.out; omega))
  clear HX1
  have HX1 := n_
  clear n_
  have n_ := Aside0.mk (Kd.S_kept HX2.out HK10.out (fun k_ h_ h2_ => by have z1 := HZ1.out; have z2 := HZ2.out; have z3 := HZ3.out; have z4 := HZ4.out; have z5 := HZ5.out; have z6 := HZ6.out; have z7 := HZ7.out; have z8 := HZ8.out; have z9 := HZ9.out; have z10 := HZ10.out; omega))
  clear HX2
  have HX2 := n_
  clear n_
  have n_ := Aside0.mk (Kd.R_kept HX3.out HK10.out (fun k_ h_ h2_ => by have z1 := HZ1.out; have z2 := HZ2.out; have z3 := HZ3.out; have z4 := HZ4.out; have z5 := HZ5.out; have z6 := HZ6.out; have z7 := HZ7.out; have z8 := HZ8.out; have z9 := HZ9.out; have z10 := HZ10.out; omega))
  clear HX3
  have HX3 := n_
  clear n_
  have n_ := Aside0.mk (Kd.R_kept HX5.out HK10.out (fun k_ h_ h2_ => by have z1 := HZ1.out; have z2 := HZ2.out; have z3 := HZ3.out; have z4 := HZ4.out; have z5 := HZ5.out; have z6 := HZ6.out; have z7 := HZ7.out; have z8 := HZ8.out; have z9 := HZ9.out; have z10 := HZ10.out; omega))
  clear HX5
  have HX5 := n_
  clear n_
  clear HX4 HO
  have HX4 := HY
  clear HY
  go_wp2_with fail
  obtain ⟨A4_, c4_, e4_, hl4_, hC4_⟩ := Kd.S_reads HX4.out
  have hcall_ := laws_heldIntSS.calls k1 _ _ u6 1 m5 _ hC4_ hl4_ hy9.out
  rw [← e4_] at hcall_
  refine hcall_.mono ?_
  clear hcall_ hC4_ hl4_ e4_ c4_ A4_
  rintro e w11 ⟨rfl, hb0_⟩
  have hb_ := laws_FnExactFromLattice.belowD hb0_
  clear hb0_
  have HB11 := Aside0.mk hb_
  have HZ11 : Aside0 (w10.heap.size ≤ w11.heap.size) := ⟨hb_.size⟩
  have HT11 := Aside0.mk (HT10.out.trans (Below.mono hb_ HT10.out.size))
  clear hb_
  have n_ := Aside0.mk (Kd.R_below HX1.out HB11.out)
  clear HX1
  have HX1 := n_
  clear n_
  have n_ := Aside0.mk (Kd.S_below HX2.out HB11.out)
  clear HX2
  have HX2 := n_
  clear n_
  have n_ := Aside0.mk (Kd.R_below HX3.out HB11.out)
  clear HX3
  have HX3 := n_
  clear n_
  have n_ := Aside0.mk (Kd.S_below HX4.out HB11.out)
  clear HX4
  have HX4 := n_
  clear n_
  have n_ := Aside0.mk (Kd.R_below HX5.out HB11.out)
  clear HX5
  have HX5 := n_
  clear n_
  go_wp2_with fail
  have hcall_ := laws_toIntS.calls k1 _ _ l0 l0 _ (Kd.C_below HR0.out HT11.out) HC0.out hy1.out
  refine hcall_.mono ?_
  clear hcall_ 
  rintro e w12 ⟨v6x, rfl, hx6_, hb_⟩
  have HB12 := Aside0.mk hb_
  have HZ12 : Aside0 (w11.heap.size ≤ w12.heap.size) := ⟨hb_.size⟩
  have HT12 := Aside0.mk (HT11.out.trans (Below.mono hb_ HT11.out.size))
  clear hb_
  have n_ := Aside0.mk (Kd.R_below HX1.out HB12.out)
  clear HX1
  have HX1 := n_
  clear n_
  have n_ := Aside0.mk (Kd.S_below HX2.out HB12.out)
  clear HX2
  have HX2 := n_
  clear n_
  have n_ := Aside0.mk (Kd.R_below HX3.out HB12.out)
  clear HX3
  have HX3 := n_
  clear n_
  have n_ := Aside0.mk (Kd.S_below HX4.out HB12.out)
  clear HX4
  have HX4 := n_
  clear n_
  have n_ := Aside0.mk (Kd.R_below HX5.out HB12.out)
  clear HX5
  have HX5 := n_
  clear n_
  have HX6 := Aside0.mk (Kd.R_lower (Kd.R_mono (ok' := fun k_ => w11.heap.size ≤ k_ ∧ k_ < w12.heap.size) (Kd.R_bound hx6_) (fun k_ h_ => ⟨h_.2.1, h_.2.2.1⟩)) HT11.out.size)
  clear hx6_
  go_wp2_with fail
  obtain ⟨A6_, c6_, e6_, hl6_, hC6_⟩ := Kd.R_reads HX6.out
  have hcall_ := impl_FromLattice.calls k _ _ l0 v1 v2 _ hC6_ hl6_ hy3.out
  rw [← e6_] at hcall_
  refine hcall_.mono ?_
  clear hcall_ hC6_ hl6_ e6_ c6_ A6_
  rintro e w13 ⟨v7x, rfl, hx7_, hb_⟩
  have HB13 := Aside0.mk hb_
  have HZ13 : Aside0 (w12.heap.size ≤ w13.heap.size) := ⟨hb_.size⟩
  have HT13 := Aside0.mk (HT12.out.trans (Below.mono hb_ HT12.out.size))
  clear hb_
  have n_ := Aside0.mk (Kd.R_below HX1.out HB13.out)
  clear HX1
  have HX1 := n_
  clear n_
  have n_ := Aside0.mk (Kd.S_below HX2.out HB13.out)
  clear HX2
  have HX2 := n_
  clear n_
  have n_ := Aside0.mk (Kd.R_below HX3.out HB13.out)
  clear HX3
  have HX3 := n_
  clear n_
  have n_ := Aside0.mk (Kd.S_below HX4.out HB13.out)
  clear HX4
  have HX4 := n_
  clear n_
  have n_ := Aside0.mk (Kd.R_below HX5.out HB13.out)
  clear HX5
  have HX5 := n_
  clear n_
  have n_ := Aside0.mk (Kd.R_below HX6.out HB13.out)
  clear HX6
  have HX6 := n_
  clear n_
  have HX7 := Aside0.mk (Kd.S_lower (Kd.S_mono (ok' := fun k_ => w12.heap.size ≤ k_ ∧ k_ < w13.heap.size) (Kd.S_bound hx7_) (fun k_ h_ => ⟨h_.2.1, h_.2.2.1⟩)) HT12.out.size)
  clear hx7_
  go_wp2_with fail
  obtain ⟨A7_, c7_, e7_, hl7_, hC7_⟩ := Kd.S_reads HX7.out
  obtain ⟨A2_, c2_, e2_, hl2_, hC2_⟩ := Kd.S_reads HX2.out
  have hcall_ := laws_eqIntSS.calls k1 _ _ v1 _ _ v1 true _ hC7_ hl7_ hC2_ hl2_ hy4.out
  rw [← e7_] at hcall_
  rw [← e2_] at hcall_
  refine hcall_.mono ?_
  clear hcall_ hC7_ hl7_ e7_ c7_ A7_ hC2_ hl2_ e2_ c2_ A2_
  rintro e w14 ⟨rfl, hb0_⟩
  have hb_ := laws_FnExactFromLattice.belowD hb0_
  clear hb0_
  have HB14 := Aside0.mk hb_
  have HZ14 : Aside0 (w13.heap.size ≤ w14.heap.size) := ⟨hb_.size⟩
  have HT14 := Aside0.mk (HT13.out.trans (Below.mono hb_ HT13.out.size))
  clear hb_
  have n_ := Aside0.mk (Kd.R_below HX1.out HB14.out)
  clear HX1
  have HX1 := n_
  clear n_
  have n_ := Aside0.mk (Kd.S_below HX2.out HB14.out)
  clear HX2
  have HX2 := n_
  clear n_
  have n_ := Aside0.mk (Kd.R_below HX3.out HB14.out)
  clear HX3
  have HX3 := n_
  clear n_
  have n_ := Aside0.mk (Kd.S_below HX4.out HB14.out)
  clear HX4
  have HX4 := n_
  clear n_
  have n_ := Aside0.mk (Kd.R_below HX5.out HB14.out)
  clear HX5
  have HX5 := n_
  clear n_
  have n_ := Aside0.mk (Kd.R_below HX6.out HB14.out)
  clear HX6
  have HX6 := n_
  clear n_
  have n_ := Aside0.mk (Kd.S_below HX7.out HB14.out)
  clear HX7
  have HX7 := n_
  clear n_
  go_wp2_with fail
  obtain ⟨A4_, c4_, e4_, hl4_, hC4_⟩ := Kd.S_reads HX4.out
  have hcall_ := laws_heldIntSS.calls k1 _ _ u6 1 m5 _ hC4_ hl4_ hy9.out
  rw [← e4_] at hcall_
  refine hcall_.mono ?_
  clear hcall_ hC4_ hl4_ e4_ c4_ A4_
  rintro e w15 ⟨rfl, hb0_⟩
  have hb_ := laws_FnExactFromLattice.belowD hb0_
  clear hb0_
  have HB15 := Aside0.mk hb_
  have HZ15 : Aside0 (w14.heap.size ≤ w15.heap.size) := ⟨hb_.size⟩
  have HT15 := Aside0.mk (HT14.out.trans (Below.mono hb_ HT14.out.size))
  clear hb_
  have n_ := Aside0.mk (Kd.R_below HX1.out HB15.out)
  clear HX1
  have HX1 := n_
  clear n_
  have n_ := Aside0.mk (Kd.S_below HX2.out HB15.out)
  clear HX2
  have HX2 := n_
  clear n_
  have n_ := Aside0.mk (Kd.R_below HX3.out HB15.out)
  clear HX3
  have HX3 := n_
  clear n_
  have n_ := Aside0.mk (Kd.S_below HX4.out HB15.out)
  clear HX4
  have HX4 := n_
  clear n_
  have n_ := Aside0.mk (Kd.R_below HX5.out HB15.out)
  clear HX5
  have HX5 := n_
  clear n_
  have n_ := Aside0.mk (Kd.R_below HX6.out HB15.out)
  clear HX6
  have HX6 := n_
  clear n_
  have n_ := Aside0.mk (Kd.S_below HX7.out HB15.out)
  clear HX7
  have HX7 := n_
  clear n_
  go_wp2
  go_ret
  exact ⟨by first | rfl | (simp; done) | (simp [*]; done), by repeat (first | (with_reducible first | exact HT15.out | apply below_alloc | apply pw_below_drewN | apply below_drew1) | exact HT15.out)⟩
open Classical in
noncomputable def laws_FnExactFromLattice.f (k : Nat) (l0 : List Int) : Option Bool := if ∃ k1 : Nat, (∃ (_ : Unit), (decide ((l0.length : Int) > 1048576) = true)) ∨ (∃ (v1 : List (List Int)) (v2 : Bool) (m3 : Int) (u4 : List Int) (m5 : Int) (u6 : List (List Int)), (decide ((l0.length : Int) > 1048576) = false) ∧ (laws_toIntS.f k1 l0 = some l0) ∧ (spec_FromLattice.f k l0 = some (v1, v2)) ∧ (impl_FromLattice.f k l0 = some (v1, v2)) ∧ (laws_eqIntSS.f k1 v1 v1 = some true) ∧ (laws_eqIntS.f k1 l0 l0 = some true) ∧ (laws_markIntS.f k1 l0 1 = some (m3, u4)) ∧ (decide (m3 < 0) = false) ∧ (laws_markIntSS.f k1 v1 1 = some (m5, u6)) ∧ (laws_heldIntSS.f k1 u6 1 = some m5) ∧ (decide (m5 < 0) = false)) then some true else none
theorem laws_FnExactFromLattice.calls (k : Nat) (A0 : Option Addr) (c0 : Nat) (l0 : List Int) (r : Bool) (w : World) (hr0 : Kd.C (Kd.int .i64) w A0 l0.length l0) (hc0 : l0.length ≤ c0) (h : laws_FnExactFromLattice.f k l0 = some r) :
    Calls Try.prog 6 #[.slice A0 l0.length c0] w fun e w' => e = .returned (.bool r) ∧ Below w.heap.size w w' := by
  unfold laws_FnExactFromLattice.f at h
  split at h
  · rename_i hh
    obtain rfl := Option.some.inj h
    obtain ⟨k1, hh⟩ := hh
    rcases hh with ⟨_, hx⟩ | ⟨v1, v2, m3, u4, m5, u6, hy0, hy1, hy2, hy3, hy4, hy5, hy6, hy7, hy8, hy9, hy10⟩
    · exact laws_FnExactFromLattice.calls0 k k1 _ _ l0  w hr0 hc0 hx
    · exact laws_FnExactFromLattice.calls1 k k1 _ _ l0 v1 v2 m3 u4 m5 u6 w hr0 hc0 hy0 hy1 hy2 hy3 hy4 hy5 hy6 hy7 hy8 hy9 hy10
  · cases h
end Go.Proofs.Ytfahkoimleiknaa.F
end
