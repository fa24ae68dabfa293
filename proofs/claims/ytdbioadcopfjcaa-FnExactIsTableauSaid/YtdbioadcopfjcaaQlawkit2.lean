/- The laws' own small functions over rows of rows. -/
import Derived.Test.YtdbioadcopfjcaaQlawkit
import Derived.Test.YtdbioadcopfjcaaFLawsEqIntSS
import Derived.Test.YtdbioadcopfjcaaFLawsSzIntSS
import Derived.Test.YtdbioadcopfjcaaFLawsToIntSS
namespace Go.Proofs.Ytdbioadcopfjcaa.Q
open Go.RowKit Go.Proofs.YtdbioadcopfjcaaW.PrintWords Go.Proofs.Ytdbioadcopfjcaa.F
set_option linter.unusedVariables false
theorem rdL_get {rows : List (List Int)} {i : Nat} (h : i < rows.length) : rd_L1 rows (i : Int) = rows[i] := by
  unfold rd_L1; rw [Int.toNat_natCast, List.getD_eq_getElem?_getD, List.getElem?_eq_getElem h]; rfl
def szGo : List (List Int) → Nat → Int
  | [], a => (a : Int)
  | x :: l, a => if x.length ≤ a then szGo l (a - x.length) else -1
def szR (rows : List (List Int)) (a : Nat) : Int := if rows.length ≤ a then szGo rows (a - rows.length) else -1
theorem szGo_small (rows : List (List Int)) (a : Nat) (h : ¬ szGo rows a < 0) : ∀ q ∈ rows, q.length ≤ a := by
  induction rows generalizing a with
  | nil => intro q hq; cases hq
  | cons x l ih =>
    unfold szGo at h
    by_cases hx : x.length ≤ a
    · rw [if_pos hx] at h
      intro q hq
      rcases List.mem_cons.1 hq with rfl | hq
      · exact hx
      · have := ih _ h q hq; omega
    · rw [if_neg hx] at h; omega
theorem szRows_small {rows : List (List Int)} (h : ¬ szR rows 1048576 < 0) : rows.length ≤ 1048576 ∧ ∀ q ∈ rows, q.length ≤ 1048576 := by
  unfold szR at h
  by_cases hx : rows.length ≤ 1048576
  · rw [if_pos hx] at h
    exact ⟨hx, fun q hq => by have := szGo_small rows _ h q hq; omega⟩
  · rw [if_neg hx] at h; omega
theorem szIntSS_ev (rows : List (List Int)) (a : Nat) (ha : a ≤ 1048576) (h : rows.length ≤ maxLen) (h2 : ∀ q ∈ rows, q.length ≤ maxLen) : Ev (fun k => laws_szIntSS.f k rows (a : Int)) (szR rows a) := by
  unfold laws_szIntSS.f szR
  have hm := h
  unfold maxLen at hm
  have e : wrap64 ((a : Int) - (rows.length : Int)) = (a : Int) - (rows.length : Int) := wid (by omega) (by omega)
  rw [e]
  by_cases hc : rows.length ≤ a
  · rw [if_pos hc]
    refine Ev.no (by omega) ?_
    have key : ∀ i, i ≤ rows.length → ∀ b : Nat, b ≤ a → Ev (fun k => laws_szIntSS.l0 k rows (b : Int) (i : Int)) (szGo (rows.drop i) b) := by
      refine downTo _ ?_ ?_
      · intro b _
        refine Ev.step (by intro k; simp only [laws_szIntSS.l0]; rfl) (Ev.no (by omega) (Ev.ret ?_))
        rw [List.drop_length]; rfl
      · intro i hi ih b hb
        refine Ev.step (by intro k; simp only [laws_szIntSS.l0]; rfl) (Ev.yes (by omega) (Ev.yes (by omega) ?_))
        rw [rdL_get hi, wid1 hi (by omega)]
        refine Ev.call (szIntS_eq rows[i] b (by omega) (h2 _ (List.getElem_mem hi))) ?_
        rw [List.drop_eq_getElem_cons hi, szGo]
        by_cases hx : rows[i].length ≤ b
        · rw [if_pos hx, if_pos hx]
          exact Ev.no (by omega) (ih _ (by omega))
        · rw [if_neg hx, if_neg hx]
          exact Ev.yes (by omega) (Ev.ret rfl)
    have ea : (a : Int) - (rows.length : Int) = ((a - rows.length : Nat) : Int) := by omega
    rw [ea]
    exact key 0 (by omega) _ (by omega)
  · rw [if_neg hc]
    exact Ev.yes (by omega) (Ev.ret rfl)
theorem toIntSS_ev (l : List (List Int)) (h : l.length ≤ 1048576) (h2 : ∀ q ∈ l, q.length ≤ 1048576) : Ev (fun k => laws_toIntSS.f k l) l := by
  unfold laws_toIntSS.f
  refine Ev.yes (by omega) (Ev.yes (by omega) ?_)
  have key : ∀ i, i ≤ l.length → ∀ acc : List (List Int), acc.length = l.length → acc.take i = l.take i → Ev (fun k => laws_toIntSS.l0 k l acc (i : Int)) l := by
    refine downTo _ ?_ ?_
    · intro acc ha hi
      refine Ev.step (by intro k; simp only [laws_toIntSS.l0]; rfl) (Ev.no (by omega) (Ev.ret ?_))
      rw [List.take_length, ← ha, List.take_length] at hi
      exact hi
    · intro i hi ih acc ha hp
      refine Ev.step (by intro k; simp only [laws_toIntSS.l0]; rfl) (Ev.yes (by omega) (Ev.yes (by omega) ?_))
      rw [rdL_get hi, wid1 hi (by omega)]
      refine Ev.bind (toIntS_ev _ (h2 _ (List.getElem_mem hi))) (Ev.yes (by omega) ?_)
      rw [Int.toNat_natCast]
      refine ih _ (by simp [ha]) ?_
      rw [List.take_add_one, List.take_add_one, List.take_set_of_le (Nat.le_refl _), hp, List.getElem?_set, List.getElem?_eq_getElem hi]
      simp [ha, hi]
  exact key 0 (by omega) _ (by simp) (by simp)
theorem eqIntSS_refl (a : List (List Int)) (h : a.length ≤ 9223372036854775807) (h2 : ∀ q ∈ a, q.length ≤ 9223372036854775807) : Ev (fun k => laws_eqIntSS.f k a a) true := by
  unfold laws_eqIntSS.f
  refine Ev.yes rfl ?_
  have key : ∀ i, i ≤ a.length → Ev (fun k => laws_eqIntSS.l0 k a a (i : Int)) true := by
    refine downTo _ ?_ ?_
    · exact Ev.step (by intro k; simp only [laws_eqIntSS.l0]; rfl) (Ev.no (by omega) (Ev.ret rfl))
    · intro i hi ih
      refine Ev.step (by intro k; simp only [laws_eqIntSS.l0]; rfl) (Ev.yes (by omega) (Ev.yes (by omega) (Ev.yes (by omega) ?_)))
      rw [rdL_get hi, wid1 hi (by omega)]
      exact Ev.bind (eqIntS_refl _ (h2 _ (List.getElem_mem hi))) (Ev.yes rfl ih)
  exact key 0 (by omega)
end Go.Proofs.Ytdbioadcopfjcaa.Q
