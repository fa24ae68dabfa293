/- CountTableaux: the program and the reference answer alike. -/
import Derived.Test.YtdbioadcopfjcaaQtests
import Derived.Test.YtdbioadcopfjcaaQgoways
import Derived.Test.YtdbioadcopfjcaaQallfrom
import Derived.Test.YtdbioadcopfjcaaPFnExactCountTableaux
import Derived.Test.YtdbioadcopfjcaaFImplAreSides
import Derived.Test.YtdbioadcopfjcaaFImplCountTableaux
import Derived.Test.YtdbioadcopfjcaaFImplRectangle
import Derived.Test.YtdbioadcopfjcaaFLawsFnExactCountTableaux
import Derived.Test.YtdbioadcopfjcaaFSpecCountTableaux
import Derived.Test.YtdbioadcopfjcaaFSpecShSides
import Derived.Test.YtdbioadcopfjcaaXRectangle
namespace Go.Proofs.Ytdbioadcopfjcaa.Q
open Go.RowKit Go.Proofs.YtdbioadcopfjcaaW.PrintWords Go.Proofs.Ytdbioadcopfjcaa.F
set_option linter.unusedVariables false
def okR (p : List Int) (r : Int × Bool) : Bool := isPo p && (idealB p 0 && (decide (r.1 = ((cnt p 10 0 : Nat) : Int)) && r.2))
def okO : Option (List Int) → Option (Int × Bool) → Bool
  | some p, some r => okR p r
  | _, _ => false
def okCT (a b : Nat) : Bool := okO (impl_rectangle.f 200 (a : Int) (b : Int)) (spec_CountTableaux.f 200 (a : Int) (b : Int))
theorem okR_parts {p : List Int} {r : Int × Bool} (h : okR p r = true) : PO p ∧ idealB p 0 = true ∧ r.1 = ((cnt p 10 0 : Nat) : Int) ∧ r.2 = true := by
  unfold okR at h
  generalize cnt p 10 0 = c at h ⊢
  rw [Bool.and_eq_true, Bool.and_eq_true, Bool.and_eq_true, decide_eq_true_eq, isPo_iff] at h
  exact h
theorem allCT : (List.range 11).all (fun a => (List.range 11).all fun b => a == 0 || b == 0 || decide (10 < a * b) || okCT a b) = true := by decide +kernel
theorem sides_eq {a b : Int} : impl_areSides.f a b 10 = some (decide ((1 ≤ a ∧ a ≤ 10) ∧ (1 ≤ b ∧ b ≤ 10) ∧ a * b ≤ 10)) := by
  unfold impl_areSides.f
  simp only [within_eq, Option.bind_some]
  by_cases ha : 1 ≤ a ∧ a ≤ 10
  · by_cases hb : 1 ≤ b ∧ b ≤ 10
    · have h1 : 0 ≤ a * b := Int.mul_nonneg (by omega) (by omega)
      have h2 : a * b ≤ 10 * 10 := Int.mul_le_mul ha.2 hb.2 (by omega) (by omega)
      rw [wid (by omega) (by omega), range_true ha, range_true hb]
      simp [ha, hb]
    · rw [range_true ha, range_false hb]
      rw [if_pos rfl, if_neg (by simp), decide_eq_false (by intro h; exact hb h.2.1)]
  · rw [range_false ha, if_neg (by simp), decide_eq_false (by intro h; exact ha h.1)]
theorem shSides_eq {a b : Int} : spec_shSides.f a b = some (decide ((1 ≤ a ∧ a ≤ 10) ∧ (1 ≤ b ∧ b ≤ 10) ∧ a * b ≤ 10)) := by
  rw [← sides_eq]
  unfold spec_shSides.f impl_areSides.f
  simp only [within_eq, l1In_eq]
theorem okO_parts {o1 : Option (List Int)} {o2 : Option (Int × Bool)} (h : okO o1 o2 = true) : ∃ p c, o1 = some p ∧ o2 = some (c, true) ∧ PO p ∧ idealB p 0 = true ∧ c = ((cnt p 10 0 : Nat) : Int) := by
  cases o1 with
  | none => simp [okO] at h
  | some p =>
    cases o2 with
    | none => simp [okO] at h
    | some r =>
      simp only [okO] at h
      obtain ⟨h1, h2, h3, h4⟩ := okR_parts h
      obtain ⟨c, d⟩ := r
      have h5 : d = true := h4
      have h6 : c = ((cnt p 10 0 : Nat) : Int) := h3
      subst h5
      exact ⟨p, c, rfl, rfl, h1, h2, h6⟩
theorem CountTableaux_parts (a b : Nat) (h1 : okCT a b = true) : ∃ p c, impl_rectangle.f 200 (a : Int) (b : Int) = some p ∧ spec_CountTableaux.f 200 (a : Int) (b : Int) = some (c, true) ∧ PO p ∧ idealB p 0 = true ∧ c = ((cnt p 10 0 : Nat) : Int) := by
  unfold okCT at h1
  exact okO_parts h1
theorem CountTableaux_some (a b : Nat) (h : (1 ≤ (a : Int) ∧ (a : Int) ≤ 10) ∧ (1 ≤ (b : Int) ∧ (b : Int) ≤ 10) ∧ (a : Int) * (b : Int) ≤ 10) : okCT a b = true := by
  have hab : a * b ≤ 10 := by have := h.2.2; exact Int.ofNat_le.1 (by rw [Int.natCast_mul]; exact this)
  have hk := List.all_eq_true.1 (List.all_eq_true.1 allCT a (List.mem_range.2 (by omega))) b (List.mem_range.2 (by omega))
  rw [Bool.or_eq_true, Bool.or_eq_true, Bool.or_eq_true, beq_iff_eq, beq_iff_eq, decide_eq_true_eq] at hk
  rcases hk with ((hk | hk) | hk) | hk
  · omega
  · omega
  · omega
  · exact hk
theorem Rectangle_ev (a b : Int) (p : List Int) (h : (1 ≤ a ∧ a ≤ 10) ∧ (1 ≤ b ∧ b ≤ 10) ∧ a * b ≤ 10) (hp : Ev (fun k => impl_rectangle.f k a b) p) : Ev (fun k => impl_Rectangle.f k a b) (p, true) := by
  unfold impl_Rectangle.f
  rw [sides_eq, decide_eq_true h]
  refine Ev.call rfl ?_
  refine Ev.yes rfl ?_
  exact Ev.bind hp (Ev.ret rfl)
theorem Rectangle_none (a b : Int) (h : ¬ ((1 ≤ a ∧ a ≤ 10) ∧ (1 ≤ b ∧ b ≤ 10) ∧ a * b ≤ 10)) : Ev (fun k => impl_Rectangle.f k a b) ([], false) := by
  unfold impl_Rectangle.f
  rw [sides_eq, decide_eq_false h]
  refine Ev.call rfl ?_
  refine Ev.no (by simp) ?_
  exact Ev.ret rfl
theorem ways_zero {p : List Int} (hP : PO p) (hid : idealB p 0 = true) : rd (Wl p 0) 0 = ((cnt p 10 0 : Nat) : Int) := by
  have h2 : 0 < 2 ^ p.length := Nat.two_pow_pos _
  have h3 := Wl_get p 0 h2
  have h4 := rdN (Wl p 0) 0
  rw [h3] at h4
  refine h4.trans ?_
  unfold wayAt
  rw [if_pos (Nat.le_refl _), if_pos hid, ways_cnt h2 hP.small]
theorem CountTableaux_both (a b : Int) (h : (1 ≤ a ∧ a ≤ 10) ∧ (1 ≤ b ∧ b ≤ 10) ∧ a * b ≤ 10) : ∃ r, Ev (fun k => spec_CountTableaux.f k a b) r ∧ Ev (fun k => impl_CountTableaux.f k a b) r := by
  obtain ⟨a, rfl⟩ := Int.eq_ofNat_of_zero_le (show 0 ≤ a by omega)
  obtain ⟨b, rfl⟩ := Int.eq_ofNat_of_zero_le (show 0 ≤ b by omega)
  obtain ⟨p, c, hp, hr, hP, hid, hc⟩ := CountTableaux_parts a b (CountTableaux_some a b h)
  refine ⟨(c, true), Ev.of (spec_CountTableaux.mono _ _) hr, ?_⟩
  unfold impl_CountTableaux.f
  have h2 : 0 < 2 ^ p.length := Nat.two_pow_pos _
  refine Ev.bind (Rectangle_ev _ _ p h (Ev.of (impl_rectangle.mono _ _) hp)) ?_
  refine Ev.yes rfl ?_
  refine Ev.bind (ways_table hP) ?_
  refine Ev.yes (by rw [Wl_len]; exact Int.ofNat_lt.2 h2) ?_
  refine Ev.ret ?_
  rw [ways_zero hP hid, hc]
theorem CountTableaux_same (a b : Int) : ∃ r, Ev (fun k => spec_CountTableaux.f k a b) r ∧ Ev (fun k => impl_CountTableaux.f k a b) r := by
  by_cases h : (1 ≤ a ∧ a ≤ 10) ∧ (1 ≤ b ∧ b ≤ 10) ∧ a * b ≤ 10
  · exact CountTableaux_both a b h
  · refine ⟨(0, false), ?_, ?_⟩
    · unfold spec_CountTableaux.f
      rw [shSides_eq, decide_eq_false h]
      refine Ev.call rfl ?_
      refine Ev.no (by simp) ?_
      exact Ev.ret rfl
    · unfold impl_CountTableaux.f
      refine Ev.bind (Rectangle_none a b h) ?_
      refine Ev.no (by simp) ?_
      exact Ev.ret rfl
theorem FnExactCountTableaux : laws_FnExactCountTableaux.Pure := by
  intro a b _ _
  refine Ev.rounds (g := fun k => laws_FnExactCountTableaux.f k a b) ?_
  unfold laws_FnExactCountTableaux.f
  obtain ⟨r, h1, h2⟩ := CountTableaux_same a b
  refine Ev.bind h1 (Ev.bind h2 ?_)
  refine Ev.yes rfl (Ev.no (by simp) (Ev.ret rfl))
end Go.Proofs.Ytdbioadcopfjcaa.Q
