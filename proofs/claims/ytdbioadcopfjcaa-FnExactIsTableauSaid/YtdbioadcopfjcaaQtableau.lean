/- Which rows are a tableau: the program's test and the reference's say the same. -/
import Derived.Test.YtdbioadcopfjcaaQl1all
import Derived.Test.YtdbioadcopfjcaaQtests
import Derived.Test.YtdbioadcopfjcaaQpoin
import Derived.Test.YtdbioadcopfjcaaQhas
import Derived.Test.YtdbioadcopfjcaaQlists
import Derived.Test.YtdbioadcopfjcaaFImplAreSides
import Derived.Test.YtdbioadcopfjcaaFImplHas
import Derived.Test.YtdbioadcopfjcaaFImplIsTableau
import Derived.Test.YtdbioadcopfjcaaFSpecPoIn
import Derived.Test.YtdbioadcopfjcaaFSpecShGood
import Derived.Test.YtdbioadcopfjcaaFSpecShSides
import Derived.Test.YtdbioadcopfjcaaXSidesof
namespace Go.Proofs.Ytdbioadcopfjcaa.Q
open Go.RowKit Go.Proofs.YtdbioadcopfjcaaW.PrintWords Go.Proofs.Ytdbioadcopfjcaa.F
set_option linter.unusedVariables false
def row (rows : List (List Int)) (r : Nat) : List Int := rows.getD r []
theorem rdRow (rows : List (List Int)) (r : Nat) : rd_L1 rows (r : Int) = row rows r := by unfold rd_L1 row; rw [Int.toNat_natCast]
/-- The cells in the order of reading. -/
def Y (rows : List (List Int)) (b t : Nat) : Int := (row rows (t / b)).getD (t % b) 0
def CellOK (rows : List (List Int)) (b n s : Nat) : Prop :=
  (0 ≤ Y rows b s ∧ Y rows b s < (n : Int)) ∧ (0 < s % b → Y rows b (s - 1) < Y rows b s) ∧ (b ≤ s → Y rows b (s - b) < Y rows b s) ∧ ∀ u, u < s → Y rows b u ≠ Y rows b s
instance (rows : List (List Int)) (b n s : Nat) : Decidable (CellOK rows b n s) := by unfold CellOK; exact inferInstance
def cellB (rows : List (List Int)) (b n s : Nat) : Bool := decide (CellOK rows b n s)
/-- The numbers of the cells before t, as a set. -/
def seen (rows : List (List Int)) (b : Nat) : Nat → Nat
  | 0 => 0
  | t + 1 => seen rows b t ||| 2 ^ (Y rows b t).toNat
theorem seen_bit (rows : List (List Int)) (b t k : Nat) : (seen rows b t).testBit k = true ↔ ∃ s, s < t ∧ (Y rows b s).toNat = k := by
  induction t with
  | zero => simp [seen]
  | succ t ih =>
    unfold seen
    rw [Nat.testBit_or, Bool.or_eq_true, ih, pow_bit, decide_eq_true_eq]
    constructor
    · rintro (⟨s, hs, e⟩ | e)
      · exact ⟨s, by omega, e⟩
      · exact ⟨t, by omega, e⟩
    · rintro ⟨s, hs, e⟩
      rcases Nat.lt_succ_iff_lt_or_eq.1 hs with h | h
      · exact .inl ⟨s, h, e⟩
      · subst h; exact .inr e
theorem seen_lt {rows : List (List Int)} {b n t : Nat} (h : ∀ s, s < t → CellOK rows b n s) (hn : n ≤ 10) : seen rows b t < 2 ^ 10 := by
  apply Nat.lt_pow_two_of_testBit
  intro i hi
  rw [← Bool.not_eq_true, seen_bit]
  rintro ⟨s, hs, e⟩
  have := (h s hs).1
  omega
theorem seen_new {rows : List (List Int)} {b n t : Nat} (h : ∀ s, s < t → CellOK rows b n s) {x : Int} (hx : 0 ≤ x) : (seen rows b t).testBit x.toNat = true ↔ ∃ u, u < t ∧ Y rows b u = x := by
  rw [seen_bit]
  constructor
  · rintro ⟨s, hs, e⟩; exact ⟨s, hs, by have := (h s hs).1; omega⟩
  · rintro ⟨s, hs, e⟩; exact ⟨s, hs, by rw [e]⟩
theorem seen_step {rows : List (List Int)} {b n t : Nat} (h : ∀ s, s < t → CellOK rows b n s) (hn : n ≤ 10) (hv : 0 ≤ Y rows b t ∧ Y rows b t < (n : Int)) :
    Go.bits .or .i64 ((seen rows b t : Nat) : Int) (shl .i64 1 (Y rows b t)) = ((seen rows b (t + 1) : Nat) : Int) := by
  obtain ⟨x, hx⟩ := Int.eq_ofNat_of_zero_le hv.1
  rw [hx, shlN (by omega), bits_orN (lt_pow (seen_lt h hn) (by omega)) (Nat.pow_lt_pow_right (by decide) (by omega))]
  simp only [seen, hx, Int.toNat_natCast]
def cols (rows : List (List Int)) : Nat := (rows.headD []).length
def shapeOk (rows : List (List Int)) : Bool := decide (1 ≤ rows.length ∧ rows.length ≤ 10 ∧ 1 ≤ cols rows ∧ cols rows ≤ 10 ∧ rows.length * cols rows ≤ 10)
def lensOk (rows : List (List Int)) : Bool := allFrom (fun r => decide ((row rows r).length = cols rows)) rows.length 0
def isTab (rows : List (List Int)) : Bool := shapeOk rows && (lensOk rows && allFrom (cellB rows (cols rows) (rows.length * cols rows)) (rows.length * cols rows) 0)
theorem Y_at (rows : List (List Int)) {b r c : Nat} (hc : c < b) : Y rows b (r * b + c) = (row rows r).getD c 0 := by
  have hb : 0 < b := by omega
  have e1 : (r * b + c) / b = r := by rw [Nat.add_comm, Nat.add_mul_div_right _ _ hb, Nat.div_eq_of_lt hc, Nat.zero_add]
  have e2 : (r * b + c) % b = c := by rw [Nat.add_comm, Nat.add_mul_mod_self_right, Nat.mod_eq_of_lt hc]
  unfold Y; rw [e1, e2]
theorem mod_at {b r c : Nat} (hc : c < b) : (r * b + c) % b = c := by rw [Nat.add_comm, Nat.add_mul_mod_self_right, Nat.mod_eq_of_lt hc]
theorem cell_iff (rows : List (List Int)) {b n r c : Nat} (hc : c < b) : CellOK rows b n (r * b + c) ↔
    ((0 ≤ (row rows r).getD c 0 ∧ (row rows r).getD c 0 < (n : Int)) ∧ (0 < c → (row rows r).getD (c - 1) 0 < (row rows r).getD c 0) ∧ (0 < r → (row rows (r - 1)).getD c 0 < (row rows r).getD c 0) ∧ ∀ u, u < r * b + c → Y rows b u ≠ (row rows r).getD c 0) := by
  unfold CellOK
  rw [mod_at hc, Y_at rows hc]
  have h1 : 0 < c → Y rows b (r * b + c - 1) = (row rows r).getD (c - 1) 0 := fun h => by
    rw [show r * b + c - 1 = r * b + (c - 1) by omega, Y_at rows (by omega)]
  have h2 : 0 < r → Y rows b (r * b + c - b) = (row rows (r - 1)).getD c 0 := fun h => by
    obtain ⟨q, rfl⟩ : ∃ q, r = q + 1 := ⟨r - 1, by omega⟩
    rw [show (q + 1) * b + c - b = q * b + c by rw [Nat.add_mul]; omega, Y_at rows hc]; rfl
  have h3 : b ≤ r * b + c ↔ 0 < r := by
    constructor
    · intro h
      rcases Nat.eq_zero_or_pos r with h0 | h0
      · subst h0; omega
      · exact h0
    · intro h
      have := Nat.mul_le_mul_right b (show 1 ≤ r from h)
      omega
  constructor
  · rintro ⟨a, b', c', d⟩
    exact ⟨a, fun h => by rw [← h1 h]; exact b' h, fun h => by rw [← h2 h]; exact c' (h3.2 h), d⟩
  · rintro ⟨a, b', c', d⟩
    exact ⟨a, fun h => by rw [h1 h]; exact b' h, fun h => by rw [h2 (h3.1 h)]; exact c' (h3.1 h), d⟩
theorem prod_wrap {a b : Nat} (h : a * b ≤ 10) : wrap64 ((a : Int) * (b : Int)) = ((a * b : Nat) : Int) := by
  have : (a : Int) * (b : Int) = ((a * b : Nat) : Int) := by push_cast; rfl
  rw [this]; exact wid (by omega) (by omega)
theorem idx_lt {a b r c : Nat} (hr : r < a) (hc : c < b) : r * b + c < a * b := by
  have := Nat.mul_le_mul_right b (show r + 1 ≤ a from hr)
  rw [Nat.add_mul] at this; omega
theorem IsTableau_ev (rows : List (List Int)) : Ev (fun k => impl_IsTableau.f k rows) (isTab rows) := by
  unfold impl_IsTableau.f
  have hb0 : impl_sidesOf.b rows = ((cols rows : Nat) : Int) := rfl
  by_cases h0 : rows.length = 0 ∨ 10 < rows.length
  · refine Ev.call (show impl_sidesOf.f rows = some (0, 0, false) by unfold impl_sidesOf.f; rw [if_pos h0]) (Ev.no (by simp) (Ev.ret ?_))
    unfold isTab
    rw [show shapeOk rows = false by unfold shapeOk; exact decide_eq_false (by omega)]; rfl
  have hs : (impl_areSides.f (rows.length : Int) (impl_sidesOf.b rows) 10 == some true) = shapeOk rows := by
    rw [hb0]
    unfold impl_areSides.f
    simp only [within_eq, Option.bind_some]
    rw [range_true (show (1 : Int) ≤ (rows.length : Int) ∧ (rows.length : Int) ≤ 10 by omega), if_pos rfl]
    by_cases hc : 1 ≤ cols rows ∧ cols rows ≤ 10
    · rw [range_true (show (1 : Int) ≤ ((cols rows : Nat) : Int) ∧ ((cols rows : Nat) : Int) ≤ 10 by omega), if_pos rfl]
      have hm : rows.length * cols rows ≤ 100 := Nat.mul_le_mul (show rows.length ≤ 10 by omega) hc.2
      have ew : wrap64 ((rows.length : Int) * ((cols rows : Nat) : Int)) = ((rows.length * cols rows : Nat) : Int) := by
        have : (rows.length : Int) * ((cols rows : Nat) : Int) = ((rows.length * cols rows : Nat) : Int) := by push_cast; rfl
        rw [this]; exact wid (by omega) (by omega)
      rw [ew]
      unfold shapeOk
      by_cases h : rows.length * cols rows ≤ 10
      · rw [decide_eq_true (show ((rows.length * cols rows : Nat) : Int) ≤ 10 by omega), decide_eq_true (by omega)]; rfl
      · rw [decide_eq_false (show ¬ ((rows.length * cols rows : Nat) : Int) ≤ 10 by omega), decide_eq_false (by omega)]; rfl
    · rw [range_false (show ¬ ((1 : Int) ≤ ((cols rows : Nat) : Int) ∧ ((cols rows : Nat) : Int) ≤ 10) by omega), if_neg (by simp)]
      unfold shapeOk
      rw [decide_eq_false (by omega)]; rfl
  have hl : (!(rows.any fun x => ((x.length : Int) != impl_sidesOf.b rows))) = lensOk rows := by
    rw [hb0, Bool.eq_iff_iff, Bool.not_eq_true', ← Bool.not_eq_true, List.any_eq_true]
    unfold lensOk
    rw [allFrom_iff]
    constructor
    · intro h r _ hr
      rw [decide_eq_true_eq]
      rcases Nat.decEq (row rows r).length (cols rows) with hne | he
      · refine absurd ⟨rows[r], List.getElem_mem hr, ?_⟩ h
        have : row rows r = rows[r] := by unfold row; rw [List.getD_eq_getElem?_getD, List.getElem?_eq_getElem hr]; rfl
        rw [this] at hne
        rw [bne_iff_ne]; omega
      · exact he
    · rintro h ⟨x, hx, hne⟩
      obtain ⟨r, hr, rfl⟩ := List.getElem_of_mem hx
      have := h r (Nat.zero_le _) hr
      rw [decide_eq_true_eq] at this
      have e : row rows r = rows[r] := by unfold row; rw [List.getD_eq_getElem?_getD, List.getElem?_eq_getElem hr]; rfl
      rw [e] at this
      rw [bne_iff_ne] at hne
      omega
  refine Ev.call (show impl_sidesOf.f rows = some ((rows.length : Int), ((cols rows : Nat) : Int), shapeOk rows && lensOk rows) by unfold impl_sidesOf.f; rw [if_neg h0, hs, hl]; rfl) ?_
  unfold isTab
  rw [← Bool.and_assoc]
  cases hsl : (shapeOk rows && lensOk rows) with
  | false => exact Ev.no (by simp) (Ev.ret rfl)
  | true =>
  rw [Bool.and_eq_true] at hsl
  obtain ⟨hsh, hle⟩ := hsl
  have hsh' := of_decide_eq_true hsh
  obtain ⟨ha1, ha2, hb1, hb2, hab⟩ := hsh'
  have hlen : ∀ r, r < rows.length → (row rows r).length = cols rows := fun r hr => of_decide_eq_true ((allFrom_iff _ _ _).1 hle r (Nat.zero_le _) hr)
  refine Ev.yes rfl ?_
  rw [Bool.true_and]
  generalize hbb : cols rows = b at *
  generalize haa : rows.length = a at *
  have key : ∀ r, r ≤ a → (∀ s, s < r * b → CellOK rows b (a * b) s) → Ev (fun k => impl_IsTableau.l0 k rows (a : Int) (b : Int) ((seen rows b (r * b) : Nat) : Int) (a : Int) (r : Int)) (allFrom (cellB rows b (a * b)) (a * b) (r * b)) := by
    refine downTo a ?_ ?_
    · intro _
      exact Ev.step (by intro k; simp only [impl_IsTableau.l0]; rfl) (Ev.no (by omega) (Ev.ret (allFrom_end _ _).symm))
    · intro r hr ih hok0
      refine Ev.step (by intro k; simp only [impl_IsTableau.l0]; rfl) (Ev.yes (by omega) ?_)
      have hlr := hlen r hr
      have inner : ∀ c, c ≤ b → (∀ s, s < r * b + c → CellOK rows b (a * b) s) → Ev (fun k => impl_IsTableau.l1 k rows (a : Int) (b : Int) ((seen rows b (r * b + c) : Nat) : Int) (r : Int) (a : Int) (r : Int) (b : Int) (c : Int)) (allFrom (cellB rows b (a * b)) (a * b) (r * b + c)) := by
        refine downTo b ?_ ?_
        · intro hok
          refine Ev.step (by intro k; simp only [impl_IsTableau.l1]; rfl) (Ev.no (by omega) ?_)
          rw [wid1 hr (by omega)]
          have e : r * b + b = (r + 1) * b := by rw [Nat.add_mul]; omega
          rw [e] at hok ⊢
          exact ih hok
        · intro c hc ihc hok
          have hidx := idx_lt hr hc
          refine Ev.step (by intro k; simp only [impl_IsTableau.l1]; rfl) (Ev.yes (by omega) (Ev.yes (by omega) (Ev.yes (by omega) (Ev.yes (by omega) ?_))))
          rw [rdRow, rdN, allFrom_step _ hidx]
          refine Ev.yes (by omega) ?_
          rw [prod_wrap hab, show wrap64 (((a * b : Nat) : Int) - 1) = ((a * b : Nat) : Int) - 1 from wid (by omega) (by omega)]
          refine Ev.call (within_eq _ _ _) ?_
          have hci := cell_iff rows (n := a * b) (r := r) hc
          generalize hx : (row rows r).getD c 0 = x at *
          have fail : ¬ CellOK rows b (a * b) (r * b + c) → false = (cellB rows b (a * b) (r * b + c) && allFrom (cellB rows b (a * b)) (a * b) (r * b + c + 1)) := fun h => by
            unfold cellB; rw [decide_eq_false h]; rfl
          by_cases hv : 0 ≤ x ∧ x ≤ ((a * b : Nat) : Int) - 1
          rotate_left
          · exact Ev.no (by rw [range_false hv]; simp) (Ev.ret (fail (fun h => by have := (hci.1 h).1; omega)))
          refine Ev.yes (range_true hv) ?_
          obtain ⟨y, hy⟩ := Int.eq_ofNat_of_zero_le hv.1
          have hsl := seen_lt hok hab
          have hnew := seen_new hok (x := x) hv.1
          have hhas : impl_has.f ((seen rows b (r * b + c) : Nat) : Int) x = some ((seen rows b (r * b + c)).testBit x.toNat) := by
            rw [hy, Int.toNat_natCast]; exact has_eq (lt_pow hsl (by omega)) (by omega)
          refine Ev.call hhas ?_
          by_cases hmet : (seen rows b (r * b + c)).testBit x.toNat = true
          · exact Ev.yes hmet (Ev.ret (fail (fun h => by obtain ⟨u, hu, e⟩ := hnew.1 hmet; exact (hci.1 h).2.2.2 u hu e)))
          refine Ev.no hmet ?_
          have hne : ∀ u, u < r * b + c → Y rows b u ≠ x := fun u hu e => hmet (hnew.2 ⟨u, hu, e⟩)
          have hYx : Y rows b (r * b + c) = x := by rw [Y_at rows hc, hx]
          -- the left neighbour, and on
          have left : (0 < r → (row rows (r - 1)).getD c 0 < x) → Ev (fun k => if (c : Int) > 0 then (if 0 ≤ (wrap64 ((c : Int) - 1)) then (if (wrap64 ((c : Int) - 1)) < ((row rows r).length : Int) then (if x ≤ (rd (row rows r) (wrap64 ((c : Int) - 1))) then (some false) else (if 0 ≤ x then (impl_IsTableau.l1 k rows (a : Int) (b : Int) (Go.bits .or .i64 ((seen rows b (r * b + c) : Nat) : Int) (shl .i64 1 x)) (r : Int) (a : Int) (r : Int) (b : Int) (wrap64 ((c : Int) + 1))) else (none))) else (none)) else (none)) else (if 0 ≤ x then (impl_IsTableau.l1 k rows (a : Int) (b : Int) (Go.bits .or .i64 ((seen rows b (r * b + c) : Nat) : Int) (shl .i64 1 x)) (r : Int) (a : Int) (r : Int) (b : Int) (wrap64 ((c : Int) + 1))) else (none)))
              (cellB rows b (a * b) (r * b + c) && allFrom (cellB rows b (a * b)) (a * b) (r * b + c + 1)) := by
            intro hup
            have goOn : (0 < c → (row rows r).getD (c - 1) 0 < x) → Ev (fun k => if 0 ≤ x then (impl_IsTableau.l1 k rows (a : Int) (b : Int) (Go.bits .or .i64 ((seen rows b (r * b + c) : Nat) : Int) (shl .i64 1 x)) (r : Int) (a : Int) (r : Int) (b : Int) (wrap64 ((c : Int) + 1))) else (none)) (cellB rows b (a * b) (r * b + c) && allFrom (cellB rows b (a * b)) (a * b) (r * b + c + 1)) := by
              intro hleft
              have hcell : CellOK rows b (a * b) (r * b + c) := hci.2 ⟨⟨hv.1, by omega⟩, hleft, hup, hne⟩
              refine Ev.yes hv.1 ?_
              have hst := seen_step hok hab (by rw [hYx]; omega : 0 ≤ Y rows b (r * b + c) ∧ Y rows b (r * b + c) < ((a * b : Nat) : Int))
              rw [hYx] at hst
              rw [hst, wid1 hc (by omega)]
              refine evc (ihc ?_) ?_
              · intro s hs
                rcases Nat.lt_succ_iff_lt_or_eq.1 (show s < r * b + c + 1 by omega) with h | h
                · exact hok s h
                · rw [h]; exact hcell
              · unfold cellB; rw [decide_eq_true hcell, Bool.true_and]; rfl
            by_cases h0c : c = 0
            · exact Ev.no (by omega) (goOn (fun h => by omega))
            · have ew : wrap64 ((c : Int) - 1) = ((c - 1 : Nat) : Int) := by rw [wid (by omega) (by omega)]; omega
              rw [ew]
              refine Ev.yes (by omega) (Ev.yes (by omega) (Ev.yes (by omega) ?_))
              rw [rdN]
              refine Ev.ite (fun h => Ev.ret (fail (fun hc' => ?_))) (fun h => goOn (fun _ => by omega))
              have := (hci.1 hc').2.1 (by omega)
              omega
          by_cases h0r : r = 0
          · exact Ev.no (by omega) (left (fun h => by omega))
          · have ew : wrap64 ((r : Int) - 1) = ((r - 1 : Nat) : Int) := by rw [wid (by omega) (by omega)]; omega
            rw [ew, rdRow]
            have hlu := hlen (r - 1) (by omega)
            refine Ev.yes (by omega) (Ev.yes (by omega) (Ev.yes (by omega) (Ev.yes (by omega) ?_)))
            rw [rdN]
            refine Ev.ite (fun h => Ev.ret (fail (fun hc' => ?_))) (fun h => left (fun _ => by omega))
            have := (hci.1 hc').2.2.1 (by omega)
            omega
      exact inner 0 (by omega) hok0
  have fin := key 0 (Nat.zero_le _) (fun s hs => by rw [Nat.zero_mul] at hs; omega)
  rw [Nat.zero_mul] at fin
  exact fin
theorem shSides_eq (a b : Int) : spec_shSides.f a b = impl_areSides.f a b 10 := rfl
theorem areSides_nat (a b : Nat) (ha : a ≤ 10) : impl_areSides.f (a : Int) (b : Int) 10 = some (decide (1 ≤ a ∧ 1 ≤ b ∧ b ≤ 10 ∧ a * b ≤ 10)) := by
  unfold impl_areSides.f
  simp only [within_eq, Option.bind_some]
  by_cases h1 : 1 ≤ a
  · rw [range_true (show (1 : Int) ≤ (a : Int) ∧ (a : Int) ≤ 10 by omega), if_pos rfl]
    by_cases hc : 1 ≤ b ∧ b ≤ 10
    · rw [range_true (show (1 : Int) ≤ (b : Int) ∧ (b : Int) ≤ 10 by omega), if_pos rfl]
      have hm : a * b ≤ 100 := Nat.mul_le_mul ha hc.2
      have ew : wrap64 ((a : Int) * (b : Int)) = ((a * b : Nat) : Int) := by
        have : (a : Int) * (b : Int) = ((a * b : Nat) : Int) := by push_cast; rfl
        rw [this]; exact wid (by omega) (by omega)
      rw [ew]
      by_cases h : a * b ≤ 10
      · rw [decide_eq_true (show ((a * b : Nat) : Int) ≤ 10 by omega), decide_eq_true (by omega)]
      · rw [decide_eq_false (show ¬ ((a * b : Nat) : Int) ≤ 10 by omega), decide_eq_false (by omega)]
    · rw [range_false (show ¬ ((1 : Int) ≤ (b : Int) ∧ (b : Int) ≤ 10) by omega), if_neg (by simp), decide_eq_false (by omega)]
  · rw [range_false (show ¬ ((1 : Int) ≤ (a : Int) ∧ (a : Int) ≤ 10) by omega), if_neg (by simp), decide_eq_false (by omega)]
theorem shGood_ev (rows : List (List Int)) : Ev (fun k => spec_shGood.f k rows) (isTab rows) := by
  have stop : ∀ b : Bool, b = true → Ev (fun k => spec_shGood.j0 k rows b) false := fun b hb => Ev.step (by intro k; simp only [spec_shGood.j0]; rfl) (Ev.yes hb (Ev.ret rfl))
  have shf : shapeOk rows = false → false = isTab rows := fun h => by unfold isTab; rw [h]; rfl
  unfold spec_shGood.f
  by_cases h0 : rows.length = 0
  · exact Ev.yes (by omega) (evc (stop true rfl) (shf (by unfold shapeOk; exact decide_eq_false (by omega))))
  refine Ev.no (by omega) ?_
  by_cases h10 : 10 < rows.length
  · exact Ev.yes (by omega) (evc (stop true rfl) (shf (by unfold shapeOk; exact decide_eq_false (by omega))))
  refine Ev.no (by omega) (Ev.yes (by omega) ?_)
  have hrow0 : rd_L1 rows 0 = row rows 0 := rdRow rows 0
  have hcols : (row rows 0).length = cols rows := by
    unfold row cols
    cases rows with
    | nil => rfl
    | cons x l => rfl
  rw [hrow0, hcols, shSides_eq]
  refine Ev.call (areSides_nat rows.length (cols rows) (by omega)) ?_
  cases hsh : shapeOk rows with
  | false =>
    have : decide (1 ≤ rows.length ∧ 1 ≤ cols rows ∧ cols rows ≤ 10 ∧ rows.length * cols rows ≤ 10) = false := decide_eq_false (fun h => by
      unfold shapeOk at hsh; rw [decide_eq_true (by omega)] at hsh; cases hsh)
    rw [this]
    exact evc (stop true rfl) (shf hsh)
  | true =>
  have hsh' := of_decide_eq_true hsh
  obtain ⟨ha1, ha2, hb1, hb2, hab⟩ := hsh'
  rw [decide_eq_true (show (1 ≤ rows.length ∧ 1 ≤ cols rows ∧ cols rows ≤ 10 ∧ rows.length * cols rows ≤ 10) by omega)]
  refine Ev.step (by intro k; simp only [spec_shGood.j0]; rfl) (Ev.no (by simp) ?_)
  have hit : isTab rows = (lensOk rows && allFrom (cellB rows (cols rows) (rows.length * cols rows)) (rows.length * cols rows) 0) := by unfold isTab; rw [hsh]; rfl
  have hbase : (row rows 0).length = cols rows := hcols
  rw [hit]
  unfold lensOk
  generalize hbb : cols rows = b at *
  generalize haa : rows.length = a at *
  have key : ∀ r, r ≤ a → (∀ s, s < r * b → CellOK rows b (a * b) s) → (∀ q, q < r → (row rows q).length = b) → Ev (fun k => spec_shGood.l0 k rows ((seen rows b (r * b) : Nat) : Int) rows (a : Int) (r : Int))
      (allFrom (fun r => decide ((row rows r).length = b)) a r && allFrom (cellB rows b (a * b)) (a * b) (r * b)) := by
    refine downTo a ?_ ?_
    · intro _ _
      exact Ev.step (by intro k; simp only [spec_shGood.l0]; rfl) (Ev.no (by omega) (Ev.ret (by rw [allFrom_end, allFrom_end]; rfl)))
    · intro r hr ih hok0 hlens
      refine Ev.step (by intro k; simp only [spec_shGood.l0]; rfl) (Ev.yes (by omega) (Ev.yes (by omega) (Ev.yes (by omega) (Ev.yes (by omega) ?_))))
      rw [rdRow, hrow0, hbase, haa]
      have stop2 : ∀ bo : Bool, bo = true → (allFrom (fun r => decide ((row rows r).length = b)) a r && allFrom (cellB rows b (a * b)) (a * b) (r * b)) = false →
          Ev (fun k => spec_shGood.j2 k rows ((seen rows b (r * b) : Nat) : Int) (r : Int) (row rows r) rows (a : Int) (r : Int) bo) (allFrom (fun r => decide ((row rows r).length = b)) a r && allFrom (cellB rows b (a * b)) (a * b) (r * b)) :=
        fun bo hb hf => Ev.step (by intro k; simp only [spec_shGood.j2]; rfl) (Ev.yes hb (Ev.ret hf.symm))
      by_cases hlr : (row rows r).length = b
      rotate_left
      · refine Ev.no (by omega) (stop2 true rfl ?_)
        rw [allFrom_step _ hr, decide_eq_false hlr]; rfl
      refine Ev.yes (by omega) ?_
      rw [hlr, prod_wrap hab, show wrap64 (((a * b : Nat) : Int) - 1) = ((a * b : Nat) : Int) - 1 from wid (by omega) (by omega)]
      refine Ev.bind (l1All_ev (row rows r) 0 _ (by omega)) ?_
      rw [hlr]
      cases hin : allFrom (fun i => inR 0 (((a * b : Nat) : Int) - 1) ((row rows r).getD i 0)) b 0 with
      | false =>
        refine stop2 true rfl ?_
        rw [Bool.and_eq_false_iff]
        right
        rw [← Bool.not_eq_true, allFrom_iff]
        intro h
        rw [← Bool.not_eq_true, allFrom_iff] at hin
        refine hin (fun c _ hc => ?_)
        have := of_decide_eq_true (h (r * b + c) (by omega) (idx_lt hr hc))
        have := ((cell_iff rows hc).1 this).1
        rw [inR_iff]; omega
      | true =>
      have hin' : ∀ c, c < b → 0 ≤ (row rows r).getD c 0 ∧ (row rows r).getD c 0 ≤ ((a * b : Nat) : Int) - 1 := fun c hc => inR_iff.1 ((allFrom_iff _ _ _).1 hin c (Nat.zero_le _) hc)
      refine Ev.step (by intro k; simp only [spec_shGood.j2]; rfl) (Ev.no (by simp) ?_)
      rw [allFrom_step (fun r => decide ((row rows r).length = b)) hr, decide_eq_true hlr, Bool.true_and, hlr]
      have inner : ∀ c, c ≤ b → (∀ s, s < r * b + c → CellOK rows b (a * b) s) → Ev (fun k => spec_shGood.l1 k rows ((seen rows b (r * b + c) : Nat) : Int) (r : Int) (row rows r) rows (a : Int) (r : Int) (row rows r) (b : Int) (c : Int))
          (allFrom (fun r => decide ((row rows r).length = b)) a (r + 1) && allFrom (cellB rows b (a * b)) (a * b) (r * b + c)) := by
        refine downTo b ?_ ?_
        · intro hok
          refine Ev.step (by intro k; simp only [spec_shGood.l1]; rfl) (Ev.no (by omega) ?_)
          rw [wid1 hr (by omega)]
          have e : r * b + b = (r + 1) * b := by rw [Nat.add_mul]; omega
          rw [e] at hok ⊢
          exact ih hok (fun q hq => by
            rcases Nat.lt_succ_iff_lt_or_eq.1 hq with h | h
            · exact hlens q h
            · rw [h]; exact hlr)
        · intro c hc ihc hok
          have hidx := idx_lt hr hc
          refine Ev.step (by intro k; simp only [spec_shGood.l1]; rfl) (Ev.yes (by omega) (Ev.yes (by omega) (Ev.yes (by omega) ?_)))
          rw [rdN, allFrom_step _ hidx]
          have hci := cell_iff rows (n := a * b) (r := r) hc
          have hv := hin' c hc
          have hleftv := fun h : 0 < c => hin' (c - 1) (by omega)
          generalize hx : (row rows r).getD c 0 = x at *
          have fail : ¬ CellOK rows b (a * b) (r * b + c) → false = (allFrom (fun r => decide ((row rows r).length = b)) a (r + 1) && (cellB rows b (a * b) (r * b + c) && allFrom (cellB rows b (a * b)) (a * b) (r * b + c + 1))) := fun h => by
            unfold cellB; rw [decide_eq_false h]; simp
          obtain ⟨y, hy⟩ := Int.eq_ofNat_of_zero_le hv.1
          have hsl := seen_lt hok hab
          have hnew := seen_new hok (x := x) hv.1
          have hhas : spec_poIn.f ((seen rows b (r * b + c) : Nat) : Int) x = some ((seen rows b (r * b + c)).testBit x.toNat) := by
            rw [hy, Int.toNat_natCast]; exact poIn_eq (by omega)
          refine Ev.call hhas ?_
          by_cases hmet : (seen rows b (r * b + c)).testBit x.toNat = true
          · exact Ev.yes hmet (Ev.ret (fail (fun h => by obtain ⟨u, hu, e⟩ := hnew.1 hmet; exact (hci.1 h).2.2.2 u hu e)))
          refine Ev.no hmet ?_
          have hne : ∀ u, u < r * b + c → Y rows b u ≠ x := fun u hu e => hmet (hnew.2 ⟨u, hu, e⟩)
          have hYx : Y rows b (r * b + c) = x := by rw [Y_at rows hc, hx]
          have hnl : 0 < c → (row rows r).getD (c - 1) 0 ≠ x := fun h e => hne (r * b + (c - 1)) (by omega) (by rw [Y_at rows (by omega)]; exact e)
          have hnu : 0 < r → (row rows (r - 1)).getD c 0 ≠ x := fun h e => hne ((r - 1) * b + c) (by
            have : (r - 1) * b + b = r * b := by rw [← Nat.succ_mul]; congr 1; omega
            omega) (by rw [Y_at rows hc]; exact e)
          have up : (0 < c → (row rows r).getD (c - 1) 0 < x) → Ev (fun k => if (r : Int) > 0 then (if 0 ≤ (wrap64 ((r : Int) - 1)) then (if (wrap64 ((r : Int) - 1)) < (rows.length : Int) then (if (c : Int) < ((rd_L1 rows (wrap64 ((r : Int) - 1))).length : Int) then (if (rd (rd_L1 rows (wrap64 ((r : Int) - 1))) (c : Int)) > x then (some false) else (if 0 ≤ x then (spec_shGood.l1 k rows (Go.bits .or .i64 ((seen rows b (r * b + c) : Nat) : Int) (shl .i64 1 x)) (r : Int) (row rows r) rows (a : Int) (r : Int) (row rows r) (b : Int) (wrap64 ((c : Int) + 1))) else (none))) else (none)) else (none)) else (none)) else (if 0 ≤ x then (spec_shGood.l1 k rows (Go.bits .or .i64 ((seen rows b (r * b + c) : Nat) : Int) (shl .i64 1 x)) (r : Int) (row rows r) rows (a : Int) (r : Int) (row rows r) (b : Int) (wrap64 ((c : Int) + 1))) else (none)))
              (allFrom (fun r => decide ((row rows r).length = b)) a (r + 1) && (cellB rows b (a * b) (r * b + c) && allFrom (cellB rows b (a * b)) (a * b) (r * b + c + 1))) := by
            intro hleft
            have goOn : (0 < r → (row rows (r - 1)).getD c 0 < x) → Ev (fun k => if 0 ≤ x then (spec_shGood.l1 k rows (Go.bits .or .i64 ((seen rows b (r * b + c) : Nat) : Int) (shl .i64 1 x)) (r : Int) (row rows r) rows (a : Int) (r : Int) (row rows r) (b : Int) (wrap64 ((c : Int) + 1))) else (none))
                (allFrom (fun r => decide ((row rows r).length = b)) a (r + 1) && (cellB rows b (a * b) (r * b + c) && allFrom (cellB rows b (a * b)) (a * b) (r * b + c + 1))) := by
              intro hup
              have hcell : CellOK rows b (a * b) (r * b + c) := hci.2 ⟨⟨hv.1, by omega⟩, hleft, hup, hne⟩
              refine Ev.yes hv.1 ?_
              have hst := seen_step hok hab (by rw [hYx]; omega : 0 ≤ Y rows b (r * b + c) ∧ Y rows b (r * b + c) < ((a * b : Nat) : Int))
              rw [hYx] at hst
              rw [hst, wid1 hc (by omega)]
              refine evc (ihc ?_) ?_
              · intro s hs
                rcases Nat.lt_succ_iff_lt_or_eq.1 (show s < r * b + c + 1 by omega) with h | h
                · exact hok s h
                · rw [h]; exact hcell
              · rw [show cellB rows b (a * b) (r * b + c) = true from decide_eq_true hcell, Bool.true_and]; rfl
            by_cases h0r : r = 0
            · exact Ev.no (by omega) (goOn (fun h => by omega))
            · have ew : wrap64 ((r : Int) - 1) = ((r - 1 : Nat) : Int) := by rw [wid (by omega) (by omega)]; omega
              rw [ew, rdRow]
              have hlu := hlens (r - 1) (by omega)
              have hnu' := hnu (by omega)
              refine Ev.yes (by omega) (Ev.yes (by omega) (Ev.yes (by omega) (Ev.yes (by omega) ?_)))
              rw [rdN]
              refine Ev.ite (fun h => Ev.ret (fail (fun hc' => ?_))) (fun h => goOn (fun _ => by omega))
              have := (hci.1 hc').2.2.1 (by omega)
              omega
          by_cases h0c : c = 0
          · exact Ev.no (by omega) (up (fun h => by omega))
          · have ew : wrap64 ((c : Int) - 1) = ((c - 1 : Nat) : Int) := by rw [wid (by omega) (by omega)]; omega
            rw [ew]
            have hnl' := hnl (by omega)
            refine Ev.yes (by omega) (Ev.yes (by omega) (Ev.yes (by omega) ?_))
            rw [rdN]
            refine Ev.ite (fun h => Ev.ret (fail (fun hc' => ?_))) (fun h => up (fun _ => by omega))
            have := (hci.1 hc').2.1 (by omega)
            omega
      exact inner 0 (by omega) hok0
  have fin := key 0 (Nat.zero_le _) (fun s hs => by rw [Nat.zero_mul] at hs; omega) (fun q hq => by omega)
  rw [Nat.zero_mul] at fin
  exact fin
end Go.Proofs.Ytdbioadcopfjcaa.Q
