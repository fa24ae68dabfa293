/- Part 5 of the texts below the row of FnExactMajorOf: printed functions with their contracts, and plain lemmas. No condition. -/
import Derived.Test.YtfahkoimleiknaaZFnExactMajorOf4
section
namespace Go.Proofs.Ytfahkoimleiknaa.Q
open Go.RowKit Go.Proofs.YtfahkoimleiknaaW.PrintWords Go.Proofs.Ytfahkoimleiknaa.F
set_option linter.unusedVariables false
def row (rows : List (List Int)) (r : Nat) : List Int := rows.getD r []
theorem rdRow (rows : List (List Int)) (r : Nat) : rd_L1 rows (r : Int) = row rows r := by unfold rd_L1 row; rw [Int.toNat_natCast]
/-- The cells in the order of reading. -/
def Y (rows : List (List Int)) (b t : Nat) : Int := (row rows (t / b)).getD (t % b) 0
def CellOK (rows : List (List Int)) (b n s : Nat) : Prop :=
  (0 ≤ Y rows b s ∧ Y rows b s < (n : Int)) ∧ (0 < s % b → Y rows b (s - 1) < Y rows b s) ∧ (b ≤ s → Y rows b (s - b) < Y rows b s) ∧ ∀ u, u < s → Y rows b u ≠ Y rows b s
instance (rows : List (List Int)) (b n s : Nat) : Decidable (CellOK rows b n s) := by unfold CellOK; exact inferInstance
def cellB (rows : List (List Int)) (b n s : Nat) : Bool := decide (CellOK rows b n s)
/-- The numbers of the cells before t, as a set. -/
def seen (rows : List (List Int)) (b : Nat) : Nat → Nat
  | 0 => 0
  | t + 1 => seen rows b t ||| 2 ^ (Y rows b t).toNat
theorem seen_bit (rows : List (List Int)) (b t k : Nat) : (seen rows b t).testBit k = true ↔ ∃ s, s < t ∧ (Y rows b s).toNat = k := by
  induction t with
  | zero => simp [seen]
  | succ t ih =>
    unfold seen
    rw [Nat.testBit_or, Bool.or_eq_true, ih, pow_bit, decide_eq_true_eq]
    constructor
    · rintro (⟨s, hs, e⟩ | e)
      · exact ⟨s, by omega, e⟩
      · exact ⟨t, by omega, e⟩
    · rintro ⟨s, hs, e⟩
      rcases Nat.lt_succ_iff_lt_or_eq.1 hs with h | h
      · exact .inl ⟨s, h, e⟩
      · subst h; exact .inr e
theorem seen_lt {rows : List (List Int)} {b n t : Nat} (h : ∀ s, s < t → CellOK rows b n s) (hn : n ≤ 10) : seen rows b t < 2 ^ 10 := by
  apply Nat.lt_pow_two_of_testBit
  intro i hi
  rw [← Bool.not_eq_true, seen_bit]
  rintro ⟨s, hs, e⟩
  have := (h s hs).1
  omega
theorem seen_new {rows : List (List Int)} {b n t : Nat} (h : ∀ s, s < t → CellOK rows b n s) {x : Int} (hx : 0 ≤ x) : (seen rows b t).testBit x.toNat = true ↔ ∃ u, u < t ∧ Y rows b u = x := by
  rw [seen_bit]
  constructor
  · rintro ⟨s, hs, e⟩; exact ⟨s, hs, by have := (h s hs).1; omega⟩
  · rintro ⟨s, hs, e⟩; exact ⟨s, hs, by rw [e]⟩
theorem seen_step {rows : List (List Int)} {b n t : Nat} (h : ∀ s, s < t → CellOK rows b n s) (hn : n ≤ 10) (hv : 0 ≤ Y rows b t ∧ Y rows b t < (n : Int)) :
    Go.bits .or .i64 ((seen rows b t : Nat) : Int) (shl .i64 1 (Y rows b t)) = ((seen rows b (t + 1) : Nat) : Int) := by
  obtain ⟨x, hx⟩ := Int.eq_ofNat_of_zero_le hv.1
  rw [hx, shlN (by omega), bits_orN (lt_pow (seen_lt h hn) (by omega)) (Nat.pow_lt_pow_right (by decide) (by omega))]
  simp only [seen, hx, Int.toNat_natCast]
def cols (rows : List (List Int)) : Nat := (rows.headD []).length
def shapeOk (rows : List (List Int)) : Bool := decide (1 ≤ rows.length ∧ rows.length ≤ 10 ∧ 1 ≤ cols rows ∧ cols rows ≤ 10 ∧ rows.length * cols rows ≤ 10)
def lensOk (rows : List (List Int)) : Bool := allFrom (fun r => decide ((row rows r).length = cols rows)) rows.length 0
def isTab (rows : List (List Int)) : Bool := shapeOk rows && (lensOk rows && allFrom (cellB rows (cols rows) (rows.length * cols rows)) (rows.length * cols rows) 0)
theorem Y_at (rows : List (List Int)) {b r c : Nat} (hc : c < b) : Y rows b (r * b + c) = (row rows r).getD c 0 := by
  have hb : 0 < b := by omega
  have e1 : (r * b + c) / b = r := by rw [Nat.add_comm, Nat.add_mul_div_right _ _ hb, Nat.div_eq_of_lt hc, Nat.zero_add]
  have e2 : (r * b + c) % b = c := by rw [Nat.add_comm, Nat.add_mul_mod_self_right, Nat.mod_eq_of_lt hc]
  unfold Y; rw [e1, e2]
theorem mod_at {b r c : Nat} (hc : c < b) : (r * b + c) % b = c := by rw [Nat.add_comm, Nat.add_mul_mod_self_right, Nat.mod_eq_of_lt hc]
theorem cell_iff (rows : List (List Int)) {b n r c : Nat} (hc : c < b) : CellOK rows b n (r * b + c) ↔
    ((0 ≤ (row rows r).getD c 0 ∧ (row rows r).getD c 0 < (n : Int)) ∧ (0 < c → (row rows r).getD (c - 1) 0 < (row rows r).getD c 0) ∧ (0 < r → (row rows (r - 1)).getD c 0 < (row rows r).getD c 0) ∧ ∀ u, u < r * b + c → Y rows b u ≠ (row rows r).getD c 0) := by
  unfold CellOK
  rw [mod_at hc, Y_at rows hc]
  have h1 : 0 < c → Y rows b (r * b + c - 1) = (row rows r).getD (c - 1) 0 := fun h => by
    rw [show r * b + c - 1 = r * b + (c - 1) by omega, Y_at rows (by omega)]
  have h2 : 0 < r → Y rows b (r * b + c - b) = (row rows (r - 1)).getD c 0 := fun h => by
    obtain ⟨q, rfl⟩ : ∃ q, r = q + 1 := ⟨r - 1, by omega⟩
    rw [show (q + 1) * b + c - b = q * b + c by rw [Nat.add_mul]; omega, Y_at rows hc]; rfl
  have h3 : b ≤ r * b + c ↔ 0 < r := by
    constructor
    · intro h
      rcases Nat.eq_zero_or_pos r with h0 | h0
      · subst h0; omega
      · exact h0
    · intro h
      have := Nat.mul_le_mul_right b (show 1 ≤ r from h)
      omega
  constructor
  · rintro ⟨a, b', c', d⟩
    exact ⟨a, fun h => by rw [← h1 h]; exact b' h, fun h => by rw [← h2 h]; exact c' (h3.2 h), d⟩
  · rintro ⟨a, b', c', d⟩
    exact ⟨a, fun h => by rw [h1 h]; exact b' h, fun h => by rw [h2 (h3.1 h)]; exact c' (h3.1 h), d⟩
theorem prod_wrap {a b : Nat} (h : a * b ≤ 10) : wrap64 ((a : Int) * (b : Int)) = ((a * b : Nat) : Int) := by
  have : (a : Int) * (b : Int) = ((a * b : Nat) : Int) := by push_cast; rfl
  rw [this]; exact wid (by omega) (by omega)
theorem idx_lt {a b r c : Nat} (hr : r < a) (hc : c < b) : r * b + c < a * b := by
  have := Nat.mul_le_mul_right b (show r + 1 ≤ a from hr)
  rw [Nat.add_mul] at this; omega
theorem IsTableau_ev (rows : List (List Int)) : Ev (fun k => impl_IsTableau.f k rows) (isTab rows) := by
  unfold impl_IsTableau.f
  have hb0 : impl_sidesOf.b rows = ((cols rows : Nat) : Int) := rfl
  by_cases h0 : rows.length = 0 ∨ 10 < rows.length
  · refine Ev.call (show impl_sidesOf.f rows = some (0, 0, false) by unfold impl_sidesOf.f; rw [if_pos h0]) (Ev.no (by simp) (Ev.ret ?_))
    unfold isTab
    rw [show shapeOk rows = false by unfold shapeOk; exact decide_eq_false (by omega)]; rfl
  have hs : (impl_areSides.f (rows.length : Int) (impl_sidesOf.b rows) 10 == some true) = shapeOk rows := by
    rw [hb0]
    unfold impl_areSides.f
    simp only [within_eq, Option.bind_some]
    rw [range_true (show (1 : Int) ≤ (rows.length : Int) ∧ (rows.length : Int) ≤ 10 by omega), if_pos rfl]
    by_cases hc : 1 ≤ cols rows ∧ cols rows ≤ 10
    · rw [range_true (show (1 : Int) ≤ ((cols rows : Nat) : Int) ∧ ((cols rows : Nat) : Int) ≤ 10 by omega), if_pos rfl]
      have hm : rows.length * cols rows ≤ 100 := Nat.mul_le_mul (show rows.length ≤ 10 by omega) hc.2
      have ew : wrap64 ((rows.length : Int) * ((cols rows : Nat) : Int)) = ((rows.length * cols rows : Nat) : Int) := by
        have : (rows.length : Int) * ((cols rows : Nat) : Int) = ((rows.length * cols rows : Nat) : Int) := by push_cast; rfl
        rw [this]; exact wid (by omega) (by omega)
      rw [ew]
      unfold shapeOk
      by_cases h : rows.length * cols rows ≤ 10
      · rw [decide_eq_true (show ((rows.length * cols rows : Nat) : Int) ≤ 10 by omega), decide_eq_true (by omega)]; rfl
      · rw [decide_eq_false (show ¬ ((rows.length * cols rows : Nat) : Int) ≤ 10 by omega), decide_eq_false (by omega)]; rfl
    · rw [range_false (show ¬ ((1 : Int) ≤ ((cols rows : Nat) : Int) ∧ ((cols rows : Nat) : Int) ≤ 10) by omega), if_neg (by simp)]
      unfold shapeOk
      rw [decide_eq_false (by omega)]; rfl
  have hl : (!(rows.any fun x => ((x.length : Int) != impl_sidesOf.b rows))) = lensOk rows := by
    rw [hb0, Bool.eq_iff_iff, Bool.not_eq_true', ← Bool.not_eq_true, List.any_eq_true]
    unfold lensOk
    rw [allFrom_iff]
    constructor
    · intro h r _ hr
      rw [decide_eq_true_eq]
      rcases Nat.decEq (row rows r).length (cols rows) with hne | he
      · refine absurd ⟨rows[r], List.getElem_mem hr, ?_⟩ h
        have : row rows r = rows[r] := by unfold row; rw [List.getD_eq_getElem?_getD, List.getElem?_eq_getElem hr]; rfl
        rw [this] at hne
        rw [bne_iff_ne]; omega
      · exact he
    · rintro h ⟨x, hx, hne⟩
      obtain ⟨r, hr, rfl⟩ := List.getElem_of_mem hx
      have := h r (Nat.zero_le _) hr
      rw [decide_eq_true_eq] at this
      have e : row rows r = rows[r] := by unfold row; rw [List.getD_eq_getElem?_getD, List.getElem?_eq_getElem hr]; rfl
      rw [e] at this
      rw [bne_iff_ne] at hne
      omega
  refine Ev.call (show impl_sidesOf.f rows = some ((rows.length : Int), ((cols rows : Nat) : Int), shapeOk rows && lensOk rows) by unfold impl_sidesOf.f; rw [if_neg h0, hs, hl]; rfl) ?_
  unfold isTab
  rw [← Bool.and_assoc]
  cases hsl : (shapeOk rows && lensOk rows) with
  | false => exact Ev.no (by simp) (Ev.ret rfl)
  | true =>
  rw [Bool.and_eq_true] at hsl
  obtain ⟨hsh, hle⟩ := hsl
  have hsh' := of_decide_eq_true hsh
  obtain ⟨ha1, ha2, hb1, hb2, hab⟩ := hsh'
  have hlen : ∀ r, r < rows.length → (row rows r).length = cols rows := fun r hr => of_decide_eq_true ((allFrom_iff _ _ _).1 hle r (Nat.zero_le _) hr)
  refine Ev.yes rfl ?_
  rw [Bool.true_and]
  generalize hbb : cols rows = b at *
  generalize haa : rows.length = a at *
  have key : ∀ r, r ≤ a → (∀ s, s < r * b → CellOK rows b (a * b) s) → Ev (fun k => impl_IsTableau.l0 k rows (a : Int) (b : Int) ((seen rows b (r * b) : Nat) : Int) (a : Int) (r : Int)) (allFrom (cellB rows b (a * b)) (a * b) (r * b)) := by
    refine downTo a ?_ ?_
    · intro _
      exact Ev.step (by intro k; simp only [impl_IsTableau.l0]; rfl) (Ev.no (by omega) (Ev.ret (allFrom_end _ _).symm))
    · intro r hr ih hok0
      refine Ev.step (by intro k; simp only [impl_IsTableau.l0]; rfl) (Ev.yes (by omega) ?_)
      have hlr := hlen r hr
      have inner : ∀ c, c ≤ b → (∀ s, s < r * b + c → CellOK rows b (a * b) s) → Ev (fun k => impl_IsTableau.l1 k rows (a : Int) (b : Int) ((seen rows b (r * b + c) : Nat) : Int) (r : Int) (a : Int) (r : Int) (b : Int) (c : Int)) (allFrom (cellB rows b (a * b)) (a * b) (r * b + c)) := by
        refine downTo b ?_ ?_
        · intro hok
          refine Ev.step (by intro k; simp only [impl_IsTableau.l1]; rfl) (Ev.no (by omega) ?_)
          rw [wid1 hr (by omega)]
          have e : r * b + b = (r + 1) * b := by rw [Nat.add_mul]; omega
          rw [e] at hok ⊢
          exact ih hok
        · intro c hc ihc hok
          have hidx := idx_lt hr hc
          refine Ev.step (by intro k; simp only [impl_IsTableau.l1]; rfl) (Ev.yes (by omega) (Ev.yes (by omega) (Ev.yes (by omega) (Ev.yes (by omega) ?_))))
          rw [rdRow, rdN, allFrom_step _ hidx]
          refine Ev.yes (by omega) ?_
          rw [prod_wrap hab, show wrap64 (((a * b : Nat) : Int) - 1) = ((a * b : Nat) : Int) - 1 from wid (by omega) (by omega)]
          refine Ev.call (within_eq _ _ _) ?_
          have hci := cell_iff rows (n := a * b) (r := r) hc
          generalize hx : (row rows r).getD c 0 = x at *
          have fail : ¬ CellOK rows b (a * b) (r * b + c) → false = (cellB rows b (a * b) (r * b + c) && allFrom (cellB rows b (a * b)) (a * b) (r * b + c + 1)) := fun h => by
            unfold cellB; rw [decide_eq_false h]; rfl
          by_cases hv : 0 ≤ x ∧ x ≤ ((a * b : Nat) : Int) - 1
          rotate_left
          · exact Ev.no (by rw [range_false hv]; simp) (Ev.ret (fail (fun h => by have := (hci.1 h).1; omega)))
          refine Ev.yes (range_true hv) ?_
          obtain ⟨y, hy⟩ := Int.eq_ofNat_of_zero_le hv.1
          have hsl := seen_lt hok hab
          have hnew := seen_new hok (x := x) hv.1
          have hhas : impl_has.f ((seen rows b (r * b + c) : Nat) : Int) x = some ((seen rows b (r * b + c)).testBit x.toNat) := by
            rw [hy, Int.toNat_natCast]; exact has_eq (lt_pow hsl (by omega)) (by omega)
          refine Ev.call hhas ?_
          by_cases hmet : (seen rows b (r * b + c)).testBit x.toNat = true
          · exact Ev.yes hmet (Ev.ret (fail (fun h => by obtain ⟨u, hu, e⟩ := hnew.1 hmet; exact (hci.1 h).2.2.2 u hu e)))
          refine Ev.no hmet ?_
          have hne : ∀ u, u < r * b + c → Y rows b u ≠ x := fun u hu e => hmet (hnew.2 ⟨u, hu, e⟩)
          have hYx : Y rows b (r * b + c) = x := by rw [Y_at rows hc, hx]
          -- the left neighbour, and on
          have left : (0 < r → (row rows (r - 1)).getD c 0 < x) → Ev (fun k => if (c : Int) > 0 then (if 0 ≤ (wrap64 ((c : Int) - 1)) then (if (wrap64 ((c : Int) - 1)) < ((row rows r).length : Int) then (if x ≤ (rd (row rows r) (wrap64 ((c : Int) - 1))) then (some false) else (if 0 ≤ x then (impl_IsTableau.l1 k rows (a : Int) (b : Int) (Go.bits .or .i64 ((seen rows b (r * b + c) : Nat) : Int) (shl .i64 1 x)) (r : Int) (a : Int) (r : Int) (b : Int) (wrap64 ((c : Int) + 1))) else (none))) else (none)) else (none)) else (if 0 ≤ x then (impl_IsTableau.l1 k rows (a : Int) (b : Int) (Go.bits .or .i64 ((seen rows b (r * b + c) : Nat) : Int) (shl .i64 1 x)) (r : Int) (a : Int) (r : Int) (b : Int) (wrap64 ((c : Int) + 1))) else (none)))
              (cellB rows b (a * b) (r * b + c) && allFrom (cellB rows b (a * b)) (a * b) (r * b + c + 1)) := by
            intro hup
            have goOn : (0 < c → (row rows r).getD (c - 1) 0 < x) → Ev (fun k => if 0 ≤ x then (impl_IsTableau.l1 k rows (a : Int) (b : Int) (Go.bits .or .i64 ((seen rows b (r * b + c) : Nat) : Int) (shl .i64 1 x)) (r : Int) (a : Int) (r : Int) (b : Int) (wrap64 ((c : Int) + 1))) else (none)) (cellB rows b (a * b) (r * b + c) && allFrom (cellB rows b (a * b)) (a * b) (r * b + c + 1)) := by
              intro hleft
              have hcell : CellOK rows b (a * b) (r * b + c) := hci.2 ⟨⟨hv.1, by omega⟩, hleft, hup, hne⟩
              refine Ev.yes hv.1 ?_
              have hst := seen_step hok hab (by rw [hYx]; omega : 0 ≤ Y rows b (r * b + c) ∧ Y rows b (r * b + c) < ((a * b : Nat) : Int))
              rw [hYx] at hst
              rw [hst, wid1 hc (by omega)]
              refine evc (ihc ?_) ?_
              · intro s hs
                rcases Nat.lt_succ_iff_lt_or_eq.1 (show s < r * b + c + 1 by omega) with h | h
                · exact hok s h
                · rw [h]; exact hcell
              · unfold cellB; rw [decide_eq_true hcell, Bool.true_and]; rfl
            by_cases h0c : c = 0
            · exact Ev.no (by omega) (goOn (fun h => by omega))
            · have ew : wrap64 ((c : Int) - 1) = ((c - 1 : Nat) : Int) := by rw [wid (by omega) (by omega)]; omega
              rw [ew]
              refine Ev.yes (by omega) (Ev.yes (by omega) (Ev.yes (by omega) ?_))
              rw [rdN]
              refine Ev.ite (fun h => Ev.ret (fail (fun hc' => ?_))) (fun h => goOn (fun _ => by omega))
              have := (hci.1 hc').2.1 (by omega)
              omega
          by_cases h0r : r = 0
          · exact Ev.no (by omega) (left (fun h => by omega))
          · have ew : wrap64 ((r : Int) - 1) = ((r - 1 : Nat) : Int) := by rw [wid (by omega) (by omega)]; omega
            rw [ew, rdRow]
            have hlu := hlen (r - 1) (by omega)
            refine Ev.yes (by omega) (Ev.yes (by omega) (Ev.yes (by omega) (Ev.yes (by omega) ?_)))
            rw [rdN]
            refine Ev.ite (fun h => Ev.ret (fail (fun hc' => ?_))) (fun h => left (fun _ => by omega))
            have := (hci.1 hc').2.2.1 (by omega)
            omega
      exact inner 0 (by omega) hok0
  have fin := key 0 (Nat.zero_le _) (fun s hs => by rw [Nat.zero_mul] at hs; omega)
  rw [Nat.zero_mul] at fin
  exact fin
theorem shSides_eq (a b : Int) : spec_shSides.f a b = impl_areSides.f a b 10 := rfl
theorem areSides_nat (a b : Nat) (ha : a ≤ 10) : impl_areSides.f (a : Int) (b : Int) 10 = some (decide (1 ≤ a ∧ 1 ≤ b ∧ b ≤ 10 ∧ a * b ≤ 10)) := by
  unfold impl_areSides.f
  simp only [within_eq, Option.bind_some]
  by_cases h1 : 1 ≤ a
  · rw [range_true (show (1 : Int) ≤ (a : Int) ∧ (a : Int) ≤ 10 by omega), if_pos rfl]
    by_cases hc : 1 ≤ b ∧ b ≤ 10
    · rw [range_true (show (1 : Int) ≤ (b : Int) ∧ (b : Int) ≤ 10 by omega), if_pos rfl]
      have hm : a * b ≤ 100 := Nat.mul_le_mul ha hc.2
      have ew : wrap64 ((a : Int) * (b : Int)) = ((a * b : Nat) : Int) := by
        have : (a : Int) * (b : Int) = ((a * b : Nat) : Int) := by push_cast; rfl
        rw [this]; exact wid (by omega) (by omega)
      rw [ew]
      by_cases h : a * b ≤ 10
      · rw [decide_eq_true (show ((a * b : Nat) : Int) ≤ 10 by omega), decide_eq_true (by omega)]
      · rw [decide_eq_false (show ¬ ((a * b : Nat) : Int) ≤ 10 by omega), decide_eq_false (by omega)]
    · rw [range_false (show ¬ ((1 : Int) ≤ (b : Int) ∧ (b : Int) ≤ 10) by omega), if_neg (by simp), decide_eq_false (by omega)]
  · rw [range_false (show ¬ ((1 : Int) ≤ (a : Int) ∧ (a : Int) ≤ 10) by omega), if_neg (by simp), decide_eq_false (by omega)]
theorem shGood_ev (rows : List (List Int)) : Ev (fun k => spec_shGood.f k rows) (isTab rows) := by
  have stop : ∀ b : Bool, b = true → Ev (fun k => spec_shGood.j0 k rows b) false := fun b hb => Ev.step (by intro k; simp only [spec_shGood.j0]; rfl) (Ev.yes hb (Ev.ret rfl))
  have shf : shapeOk rows = false → false = isTab rows := fun h => by unfold isTab; rw [h]; rfl
  unfold spec_shGood.f
  by_cases h0 : rows.length = 0
  · exact Ev.yes (by omega) (evc (stop true rfl) (shf (by unfold shapeOk; exact decide_eq_false (by omega))))
  refine Ev.no (by omega) ?_
  by_cases h10 : 10 < rows.length
  · exact Ev.yes (by omega) (evc (stop true rfl) (shf (by unfold shapeOk; exact decide_eq_false (by omega))))
  refine Ev.no (by omega) (Ev.yes (by omega) ?_)
  have hrow0 : rd_L1 rows 0 = row rows 0 := rdRow rows 0
  have hcols : (row rows 0).length = cols rows := by
    unfold row cols
    cases rows with
    | nil => rfl
    | cons x l => rfl
  rw [hrow0, hcols, shSides_eq]
  refine Ev.call (areSides_nat rows.length (cols rows) (by omega)) ?_
  cases hsh : shapeOk rows with
  | false =>
    have : decide (1 ≤ rows.length ∧ 1 ≤ cols rows ∧ cols rows ≤ 10 ∧ rows.length * cols rows ≤ 10) = false := decide_eq_false (fun h => by
      unfold shapeOk at hsh; rw [decide_eq_true (by omega)] at hsh; cases hsh)
    rw [this]
    exact evc (stop true rfl) (shf hsh)
  | true =>
  have hsh' := of_decide_eq_true hsh
  obtain ⟨ha1, ha2, hb1, hb2, hab⟩ := hsh'
  rw [decide_eq_true (show (1 ≤ rows.length ∧ 1 ≤ cols rows ∧ cols rows ≤ 10 ∧ rows.length * cols rows ≤ 10) by omega)]
  refine Ev.step (by intro k; simp only [spec_shGood.j0]; rfl) (Ev.no (by simp) ?_)
  have hit : isTab rows = (lensOk rows && allFrom (cellB rows (cols rows) (rows.length * cols rows)) (rows.length * cols rows) 0) := by unfold isTab; rw [hsh]; rfl
  have hbase : (row rows 0).length = cols rows := hcols
  rw [hit]
  unfold lensOk
  generalize hbb : cols rows = b at *
  generalize haa : rows.length = a at *
  have key : ∀ r, r ≤ a → (∀ s, s < r * b → CellOK rows b (a * b) s) → (∀ q, q < r → (row rows q).length = b) → Ev (fun k => spec_shGood.l0 k rows ((seen rows b (r * b) : Nat) : Int) rows (a : Int) (r : Int))
      (allFrom (fun r => decide ((row rows r).length = b)) a r && allFrom (cellB rows b (a * b)) (a * b) (r * b)) := by
    refine downTo a ?_ ?_
    · intro _ _
      exact Ev.step (by intro k; simp only [spec_shGood.l0]; rfl) (Ev.no (by omega) (Ev.ret (by rw [allFrom_end, allFrom_end]; rfl)))
    · intro r hr ih hok0 hlens
      refine Ev.step (by intro k; simp only [spec_shGood.l0]; rfl) (Ev.yes (by omega) (Ev.yes (by omega) (Ev.yes (by omega) (Ev.yes (by omega) ?_))))
      rw [rdRow, hrow0, hbase, haa]
      have stop2 : ∀ bo : Bool, bo = true → (allFrom (fun r => decide ((row rows r).length = b)) a r && allFrom (cellB rows b (a * b)) (a * b) (r * b)) = false →
          Ev (fun k => spec_shGood.j2 k rows ((seen rows b (r * b) : Nat) : Int) (r : Int) (row rows r) rows (a : Int) (r : Int) bo) (allFrom (fun r => decide ((row rows r).length = b)) a r && allFrom (cellB rows b (a * b)) (a * b) (r * b)) :=
        fun bo hb hf => Ev.step (by intro k; simp only [spec_shGood.j2]; rfl) (Ev.yes hb (Ev.ret hf.symm))
      by_cases hlr : (row rows r).length = b
      rotate_left
      · refine Ev.no (by omega) (stop2 true rfl ?_)
        rw [allFrom_step _ hr, decide_eq_false hlr]; rfl
      refine Ev.yes (by omega) ?_
      rw [hlr, prod_wrap hab, show wrap64 (((a * b : Nat) : Int) - 1) = ((a * b : Nat) : Int) - 1 from wid (by omega) (by omega)]
      refine Ev.bind (l1All_ev (row rows r) 0 _ (by omega)) ?_
      rw [hlr]
      cases hin : allFrom (fun i => inR 0 (((a * b : Nat) : Int) - 1) ((row rows r).getD i 0)) b 0 with
      | false =>
        refine stop2 true rfl ?_
        rw [Bool.and_eq_false_iff]
        right
        rw [← Bool.not_eq_true, allFrom_iff]
        intro h
        rw [← Bool.not_eq_true, allFrom_iff] at hin
        refine hin (fun c _ hc => ?_)
        have := of_decide_eq_true (h (r * b + c) (by omega) (idx_lt hr hc))
        have := ((cell_iff rows hc).1 this).1
        rw [inR_iff]; omega
      | true =>
      have hin' : ∀ c, c < b → 0 ≤ (row rows r).getD c 0 ∧ (row rows r).getD c 0 ≤ ((a * b : Nat) : Int) - 1 := fun c hc => inR_iff.1 ((allFrom_iff _ _ _).1 hin c (Nat.zero_le _) hc)
      refine Ev.step (by intro k; simp only [spec_shGood.j2]; rfl) (Ev.no (by simp) ?_)
      rw [allFrom_step (fun r => decide ((row rows r).length = b)) hr, decide_eq_true hlr, Bool.true_and, hlr]
      have inner : ∀ c, c ≤ b → (∀ s, s < r * b + c → CellOK rows b (a * b) s) → Ev (fun k => spec_shGood.l1 k rows ((seen rows b (r * b + c) : Nat) : Int) (r : Int) (row rows r) rows (a : Int) (r : Int) (row rows r) (b : Int) (c : Int))
          (allFrom (fun r => decide ((row rows r).length = b)) a (r + 1) && allFrom (cellB rows b (a * b)) (a * b) (r * b + c)) := by
        refine downTo b ?_ ?_
        · intro hok
          refine Ev.step (by intro k; simp only [spec_shGood.l1]; rfl) (Ev.no (by omega) ?_)
          rw [wid1 hr (by omega)]
          have e : r * b + b = (r + 1) * b := by rw [Nat.add_mul]; omega
          rw [e] at hok ⊢
          exact ih hok (fun q hq => by
            rcases Nat.lt_succ_iff_lt_or_eq.1 hq with h | h
            · exact hlens q h
            · rw [h]; exact hlr)
        · intro c hc ihc hok
          have hidx := idx_lt hr hc
          refine Ev.step (by intro k; simp only [spec_shGood.l1]; rfl) (Ev.yes (by omega) (Ev.yes (by omega) (Ev.yes (by omega) ?_)))
          rw [rdN, allFrom_step _ hidx]
          have hci := cell_iff rows (n := a * b) (r := r) hc
          have hv := hin' c hc
          have hleftv := fun h : 0 < c => hin' (c - 1) (by omega)
          generalize hx : (row rows r).getD c 0 = x at *
          have fail : ¬ CellOK rows b (a * b) (r * b + c) → false = (allFrom (fun r => decide ((row rows r).length = b)) a (r + 1) && (cellB rows b (a * b) (r * b + c) && allFrom (cellB rows b (a * b)) (a * b) (r * b + c + 1))) := fun h => by
            unfold cellB; rw [decide_eq_false h]; simp
          obtain ⟨y, hy⟩ := Int.eq_ofNat_of_zero_le hv.1
          have hsl := seen_lt hok hab
          have hnew := seen_new hok (x := x) hv.1
          have hhas : spec_poIn.f ((seen rows b (r * b + c) : Nat) : Int) x = some ((seen rows b (r * b + c)).testBit x.toNat) := by
            rw [hy, Int.toNat_natCast]; exact poIn_eq (by omega)
          refine Ev.call hhas ?_
          by_cases hmet : (seen rows b (r * b + c)).testBit x.toNat = true
          · exact Ev.yes hmet (Ev.ret (fail (fun h => by obtain ⟨u, hu, e⟩ := hnew.1 hmet; exact (hci.1 h).2.2.2 u hu e)))
          refine Ev.no hmet ?_
          have hne : ∀ u, u < r * b + c → Y rows b u ≠ x := fun u hu e => hmet (hnew.2 ⟨u, hu, e⟩)
          have hYx : Y rows b (r * b + c) = x := by rw [Y_at rows hc, hx]
          have hnl : 0 < c → (row rows r).getD (c - 1) 0 ≠ x := fun h e => hne (r * b + (c - 1)) (by omega) (by rw [Y_at rows (by omega)]; exact e)
          have hnu : 0 < r → (row rows (r - 1)).getD c 0 ≠ x := fun h e => hne ((r - 1) * b + c) (by
            have : (r - 1) * b + b = r * b := by rw [← Nat.succ_mul]; congr 1; omega
            omega) (by rw [Y_at rows hc]; exact e)
          have up : (0 < c → (row rows r).getD (c - 1) 0 < x) → Ev (fun k => if (r : Int) > 0 then (if 0 ≤ (wrap64 ((r : Int) - 1)) then (if (wrap64 ((r : Int) - 1)) < (rows.length : Int) then (if (c : Int) < ((rd_L1 rows (wrap64 ((r : Int) - 1))).length : Int) then (if (rd (rd_L1 rows (wrap64 ((r : Int) - 1))) (c : Int)) > x then (some false) else (if 0 ≤ x then (spec_shGood.l1 k rows (Go.bits .or .i64 ((seen rows b (r * b + c) : Nat) : Int) (shl .i64 1 x)) (r : Int) (row rows r) rows (a : Int) (r : Int) (row rows r) (b : Int) (wrap64 ((c : Int) + 1))) else (none))) else (none)) else (none)) else (none)) else (if 0 ≤ x then (spec_shGood.l1 k rows (Go.bits .or .i64 ((seen rows b (r * b + c) : Nat) : Int) (shl .i64 1 x)) (r : Int) (row rows r) rows (a : Int) (r : Int) (row rows r) (b : Int) (wrap64 ((c : Int) + 1))) else (none)))
              (allFrom (fun r => decide ((row rows r).length = b)) a (r + 1) && (cellB rows b (a * b) (r * b + c) && allFrom (cellB rows b (a * b)) (a * b) (r * b + c + 1))) := by
            intro hleft
            have goOn : (0 < r → (row rows (r - 1)).getD c 0 < x) → Ev (fun k => if 0 ≤ x then (spec_shGood.l1 k rows (Go.bits .or .i64 ((seen rows b (r * b + c) : Nat) : Int) (shl .i64 1 x)) (r : Int) (row rows r) rows (a : Int) (r : Int) (row rows r) (b : Int) (wrap64 ((c : Int) + 1))) else (none))
                (allFrom (fun r => decide ((row rows r).length = b)) a (r + 1) && (cellB rows b (a * b) (r * b + c) && allFrom (cellB rows b (a * b)) (a * b) (r * b + c + 1))) := by
              intro hup
              have hcell : CellOK rows b (a * b) (r * b + c) := hci.2 ⟨⟨hv.1, by omega⟩, hleft, hup, hne⟩
              refine Ev.yes hv.1 ?_
              have hst := seen_step hok hab (by rw [hYx]; omega : 0 ≤ Y rows b (r * b + c) ∧ Y rows b (r * b + c) < ((a * b : Nat) : Int))
              rw [hYx] at hst
              rw [hst, wid1 hc (by omega)]
              refine evc (ihc ?_) ?_
              · intro s hs
                rcases Nat.lt_succ_iff_lt_or_eq.1 (show s < r * b + c + 1 by omega) with h | h
                · exact hok s h
                · rw [h]; exact hcell
              · rw [show cellB rows b (a * b) (r * b + c) = true from decide_eq_true hcell, Bool.true_and]; rfl
            by_cases h0r : r = 0
            · exact Ev.no (by omega) (goOn (fun h => by omega))
            · have ew : wrap64 ((r : Int) - 1) = ((r - 1 : Nat) : Int) := by rw [wid (by omega) (by omega)]; omega
              rw [ew, rdRow]
              have hlu := hlens (r - 1) (by omega)
              have hnu' := hnu (by omega)
              refine Ev.yes (by omega) (Ev.yes (by omega) (Ev.yes (by omega) (Ev.yes (by omega) ?_)))
              rw [rdN]
              refine Ev.ite (fun h => Ev.ret (fail (fun hc' => ?_))) (fun h => goOn (fun _ => by omega))
              have := (hci.1 hc').2.2.1 (by omega)
              omega
          by_cases h0c : c = 0
          · exact Ev.no (by omega) (up (fun h => by omega))
          · have ew : wrap64 ((c : Int) - 1) = ((c - 1 : Nat) : Int) := by rw [wid (by omega) (by omega)]; omega
            rw [ew]
            have hnl' := hnl (by omega)
            refine Ev.yes (by omega) (Ev.yes (by omega) (Ev.yes (by omega) ?_))
            rw [rdN]
            refine Ev.ite (fun h => Ev.ret (fail (fun hc' => ?_))) (fun h => up (fun _ => by omega))
            have := (hci.1 hc').2.1 (by omega)
            omega
      exact inner 0 (by omega) hok0
  have fin := key 0 (Nat.zero_le _) (fun s hs => by rw [Nat.zero_mul] at hs; omega) (fun q hq => by omega)
  rw [Nat.zero_mul] at fin
  exact fin
end Go.Proofs.Ytfahkoimleiknaa.Q
end

section
namespace Go.Proofs.Ytfahkoimleiknaa.Q
open Go.RowKit Go.Proofs.YtfahkoimleiknaaW.PrintWords Go.Proofs.Ytfahkoimleiknaa.F
set_option linter.unusedVariables false
theorem allFrom_get0 {f : Nat → Bool} {n : Nat} (h : allFrom f n 0 = true) : ∀ i, i < n → f i = true := by
  have := h
  rw [allFrom_iff] at this
  intro i hi
  exact this i (by omega) hi
structure Tab (rows : List (List Int)) (a b : Nat) : Prop where
  len : rows.length = a
  a1 : 1 ≤ a
  b1 : 1 ≤ b
  a10 : a ≤ 10
  b10 : b ≤ 10
  ab : a * b ≤ 10
  col : (rd_L1 rows 0).length = b
  rlen : ∀ r, r < a → (row rows r).length = b
  cell : ∀ r c, r < a → c < b → 0 ≤ (row rows r).getD c 0 ∧ (row rows r).getD c 0 < ((a * b : Nat) : Int)
theorem isTab_facts {rows : List (List Int)} (h : isTab rows = true) : ∃ a b : Nat, Tab rows a b := by
  unfold isTab at h
  rw [Bool.and_eq_true, Bool.and_eq_true] at h
  obtain ⟨h1, h2, h3⟩ := h
  unfold shapeOk at h1
  rw [decide_eq_true_eq] at h1
  obtain ⟨ha1, ha2, hb1, hb2, hab⟩ := h1
  generalize hB : cols rows = b at hb1 hb2 hab h2 h3
  have hcol : (rd_L1 rows 0).length = b := by
    rw [← hB]; unfold rd_L1 cols
    cases rows with
    | nil => simp at ha1
    | cons x l => rfl
  have hlen : ∀ r, r < rows.length → (row rows r).length = b := fun r hr => by
    have := allFrom_get0 h2 r hr
    rw [decide_eq_true_eq, hB] at this; exact this
  refine ⟨rows.length, b, rfl, ha1, hb1, ha2, hb2, hab, hcol, hlen, fun r c hr hc => ?_⟩
  have hlt : r * b + c < rows.length * b := by
    have : (r + 1) * b ≤ rows.length * b := Nat.mul_le_mul_right _ hr
    rw [Nat.add_mul] at this; omega
  have := allFrom_get0 h3 (r * b + c) hlt
  unfold cellB at this
  rw [decide_eq_true_eq] at this
  have := this.1
  rw [Y_at rows hc] at this; exact this
end Go.Proofs.Ytfahkoimleiknaa.Q
end

section
namespace Go.Proofs.Ytfahkoimleiknaa.Q
open Go.RowKit Go.Proofs.YtfahkoimleiknaaW.PrintWords Go.Proofs.Ytfahkoimleiknaa.F
set_option linter.unusedVariables false
def rowG (b : Nat) (e : Int) : Int := wrap64 (Int.tdiv e (b : Int))
theorem rowG_zero (b : Nat) : rowG b 0 = 0 := by unfold rowG; rw [Int.zero_tdiv]; exact wid (by decide) (by decide)
theorem rowG_at {a b r c : Nat} (hr : r < a) (hc : c < b) (hab : a * b ≤ 10) : wrap64 ((wrap64 ((b : Int) * (r : Int))) + (c : Int)) = ((r * b + c : Nat) : Int) ∧ rowG b ((r * b + c : Nat) : Int) = (r : Int) := by
  have hlt : r * b + c < a * b := idx_lt hr hc
  have e1 : (b : Int) * (r : Int) = ((r * b : Nat) : Int) := by rw [Nat.mul_comm]; push_cast; rfl
  have e2 : (r * b + c) / b = r := by rw [Nat.add_comm, Nat.add_mul_div_right _ _ (by omega), Nat.div_eq_of_lt hc, Nat.zero_add]
  have hr2 : r ≤ r * b := Nat.le_mul_of_pos_right _ (by omega)
  constructor
  · rw [e1, wid (n := ((r * b : Nat) : Int)) (by omega) (by omega), wid (by omega) (by omega)]; push_cast; rfl
  · unfold rowG
    rw [Int.tdiv_eq_ediv_of_nonneg (by omega), ← Int.natCast_ediv, e2, wid (by omega) (by omega)]
/-- The cells' numbers in reading order are put where they belong: linear extension and word at once. -/
theorem linword {rows : List (List Int)} {a b : Nat} (h : Tab rows a b) : ∃ res : List Int, Ev (fun k => impl_linear.f k rows) res ∧ Ev (fun k => spec_shWord.f k rows) (res.map (rowG b)) ∧ res.length = a * b ∧ ∀ e ∈ res, 0 ≤ e ∧ e < ((a * b : Nat) : Int) := by
  obtain ⟨hA, ha1, hb1, ha10, hb10, hab, hcol, hlen, hcell⟩ := h
  have key : ∀ r, r ≤ a → ∀ acc : List Int, acc.length = a * b → (∀ e ∈ acc, 0 ≤ e ∧ e < ((a * b : Nat) : Int)) → ∃ res, Ev (fun k => impl_linear.l0 k (b : Int) acc rows (a : Int) (r : Int)) res ∧ Ev (fun k => spec_shWord.l0 k (acc.map (rowG b)) rows (a : Int) (r : Int)) (res.map (rowG b)) ∧ res.length = a * b ∧ ∀ e ∈ res, 0 ≤ e ∧ e < ((a * b : Nat) : Int) := by
    refine downTo _ ?_ ?_
    · intro acc hacc hin
      refine ⟨acc, ?_, ?_, hacc, hin⟩
      · exact Ev.step (by intro k; simp only [impl_linear.l0]; rfl) (Ev.no (by omega) (Ev.ret rfl))
      · exact Ev.step (by intro k; simp only [spec_shWord.l0]; rfl) (Ev.no (by omega) (Ev.ret rfl))
    · intro r hr ih acc hacc hin
      have inner : ∀ c, c ≤ b → ∀ acc : List Int, acc.length = a * b → (∀ e ∈ acc, 0 ≤ e ∧ e < ((a * b : Nat) : Int)) → ∃ res, Ev (fun k => impl_linear.l1 k (b : Int) acc (r : Int) rows (a : Int) (r : Int) (row rows r) (b : Int) (c : Int)) res ∧ Ev (fun k => spec_shWord.l1 k (acc.map (rowG b)) (r : Int) rows (a : Int) (r : Int) (row rows r) (b : Int) (c : Int)) (res.map (rowG b)) ∧ res.length = a * b ∧ ∀ e ∈ res, 0 ≤ e ∧ e < ((a * b : Nat) : Int) := by
        refine downTo _ ?_ ?_
        · intro acc hacc hin
          obtain ⟨res, h1, h2, h3, h4⟩ := ih acc hacc hin
          refine ⟨res, ?_, ?_, h3, h4⟩
          · refine Ev.step (by intro k; simp only [impl_linear.l1]; rfl) (Ev.no (by omega) ?_)
            rw [wid1 hr (by omega)]; exact h1
          · refine Ev.step (by intro k; simp only [spec_shWord.l1]; rfl) (Ev.no (by omega) ?_)
            rw [wid1 hr (by omega)]; exact h2
        · intro c hc ihc acc hacc hin
          obtain ⟨hc0, hc1⟩ := hcell r c hr hc
          have hidx := idx_lt hr hc
          obtain ⟨res, h1, h2, h3, h4⟩ := ihc (acc.set ((row rows r).getD c 0).toNat ((r * b + c : Nat) : Int)) (by rw [List.length_set]; exact hacc) (by
            intro e he
            rcases List.mem_or_eq_of_mem_set he with h | h
            · exact hin e h
            · subst h; exact ⟨by omega, by omega⟩)
          refine ⟨res, ?_, ?_, h3, h4⟩
          · refine Ev.step (by intro k; simp only [impl_linear.l1]; rfl) (Ev.yes (by omega) (Ev.yes (by omega) (Ev.yes (by rw [hlen r hr]; omega) ?_)))
            rw [rdN]
            refine Ev.yes hc0 (Ev.yes (by rw [hacc]; exact hc1) ?_)
            rw [wid1 hc (by omega), (rowG_at hr hc hab).1]
            exact h1
          · refine Ev.step (by intro k; simp only [spec_shWord.l1]; rfl) (Ev.yes (by omega) (Ev.yes (by omega) (Ev.yes (by rw [hlen r hr]; omega) ?_)))
            rw [rdN]
            refine Ev.yes hc0 (Ev.yes (by rw [List.length_map, hacc]; exact hc1) ?_)
            rw [wid1 hc (by omega)]
            rw [List.map_set, (rowG_at hr hc hab).2] at h2
            exact h2
      obtain ⟨res, h1, h2, h3, h4⟩ := inner 0 (by omega) acc hacc hin
      refine ⟨res, ?_, ?_, h3, h4⟩
      · refine Ev.step (by intro k; simp only [impl_linear.l0]; rfl) (Ev.yes (by omega) (Ev.yes (by omega) (Ev.yes (by rw [hA]; omega) ?_)))
        rw [rdRow, hlen r hr]; exact h1
      · refine Ev.step (by intro k; simp only [spec_shWord.l0]; rfl) (Ev.yes (by omega) (Ev.yes (by omega) (Ev.yes (by rw [hA]; omega) ?_)))
        rw [rdRow, hlen r hr]; exact h2
  have hpos : 0 < a * b := Nat.mul_pos ha1 hb1
  obtain ⟨res, h1, h2, h3, h4⟩ := key 0 (by omega) (List.replicate (a * b) 0) (by rw [List.length_replicate]) (by
    intro e he
    rw [List.mem_replicate] at he
    rw [he.2]; exact ⟨by omega, by omega⟩)
  have e : wrap64 ((a : Int) * (b : Int)) = ((a * b : Nat) : Int) := by rw [← Int.natCast_mul]; exact wid (by omega) (by omega)
  refine ⟨res, ?_, ?_, h3, h4⟩
  · unfold impl_linear.f
    rw [hA, hcol, e, Int.toNat_natCast]
    exact Ev.yes (by omega) (Ev.yes (by omega) (Ev.yes (by omega) h1))
  · unfold spec_shWord.f
    rw [hA, hcol, e, Int.toNat_natCast]
    rw [List.map_replicate, rowG_zero] at h2
    exact Ev.yes (by omega) (Ev.yes (by omega) (Ev.yes (by omega) h2))
theorem take_map_snoc (l : List Int) (g : Int → Int) (i : Nat) (h : i < l.length) : (l.map g).take i ++ [g (l.getD i 0)] = (l.map g).take (i + 1) := by
  rw [List.take_add_one, List.getElem?_map, List.getD_eq_getElem?_getD, List.getElem?_eq_getElem h]; rfl
theorem rowsOf_ev {rows : List (List Int)} {a b : Nat} (h : Tab rows a b) {res : List Int} (hr : Ev (fun k => impl_linear.f k rows) res) (hl : res.length ≤ 10) : Ev (fun k => impl_rowsOf.f k rows) (res.map (rowG b)) := by
  unfold impl_rowsOf.f
  refine Ev.bind hr ?_
  have ha := h.a1
  have hb := h.b1
  have hlen := h.len
  have hcol := h.col
  have key : ∀ i, i ≤ res.length → Ev (fun k => impl_rowsOf.l0 k rows ((res.map (rowG b)).take i) res (res.length : Int) (i : Int)) (res.map (rowG b)) := by
    refine downTo _ ?_ ?_
    · refine Ev.step (by intro k; simp only [impl_rowsOf.l0]; rfl) (Ev.no (by omega) (Ev.ret ?_))
      rw [List.take_of_length_le (by simp)]
    · intro i hi ih
      refine Ev.step (by intro k; simp only [impl_rowsOf.l0]; rfl) (Ev.yes (by omega) (Ev.yes (by omega) (Ev.yes (by omega) (Ev.yes (by omega) (Ev.no (by omega) (Ev.yes (by simp; omega) ?_))))))
      rw [hcol, rdN, wid1 hi (by omega)]
      have := take_map_snoc res (rowG b) i hi
      unfold rowG at this ⊢
      rw [this]
      exact ih
  exact key 0 (by omega)
end Go.Proofs.Ytfahkoimleiknaa.Q
end

section
namespace Go.Proofs.Ytfahkoimleiknaa.Q
open Go.RowKit Go.Proofs.YtfahkoimleiknaaW.PrintWords Go.Proofs.Ytfahkoimleiknaa.F
set_option linter.unusedVariables false
theorem desc_l (k : Nat) : ∀ y0 y1 y2, spec_shDescents.l0 k y0 y1 y2 = impl_descents.l0 k y0 y1 y2 := by
  induction k with
  | zero => exact fun _ _ _ => by simp only [spec_shDescents.l0, impl_descents.l0]
  | succ k ih => exact fun _ _ _ => by simp only [spec_shDescents.l0, impl_descents.l0, ih]
theorem desc_ends (W : List Int) (hW : W.length ≤ 10) : ∃ D : List Int, Ev (fun k => impl_descents.l0 k [] W 1) D ∧ D.length ≤ 10 ∧ ∀ d ∈ D, 0 ≤ d ∧ d ≤ 10 := by
  have key : ∀ i, i ≤ W.length + 1 → 1 ≤ i → ∀ acc : List Int, acc.length ≤ i - 1 → (∀ d ∈ acc, 0 ≤ d ∧ d ≤ 10) → ∃ D, Ev (fun k => impl_descents.l0 k acc W (i : Int)) D ∧ D.length ≤ W.length ∧ ∀ d ∈ D, 0 ≤ d ∧ d ≤ 10 := by
    refine downTo _ ?_ ?_
    · intro _ acc hacc hin
      exact ⟨acc, Ev.step (by intro k; simp only [impl_descents.l0]; rfl) (Ev.no (by omega) (Ev.ret rfl)), by omega, hin⟩
    · intro i hi ih h1 acc hacc hin
      by_cases hlt : i < W.length
      · have ew : wrap64 ((i : Int) - 1) = ((i - 1 : Nat) : Int) := by rw [wid (by omega) (by omega)]; omega
        by_cases hgt : rd W (i : Int) > rd W ((i - 1 : Nat) : Int)
        · obtain ⟨D, hD, hl, hd⟩ := ih (by omega) (acc ++ [(i : Int)]) (by rw [List.length_append, List.length_singleton]; omega) (by
            intro d hd
            rcases List.mem_append.1 hd with h | h
            · exact hin d h
            · rw [List.mem_singleton] at h; subst h; exact ⟨by omega, by omega⟩)
          refine ⟨D, Ev.step (by intro k; simp only [impl_descents.l0]; rfl) (Ev.yes (by omega) (Ev.yes (by omega) ?_)), hl, hd⟩
          rw [ew]
          refine Ev.yes (by omega) (Ev.yes (by omega) (Ev.yes hgt (Ev.yes (by omega) ?_)))
          rw [wid1 (i := i) (n := W.length + 1) (by omega) (by omega)]; exact hD
        · obtain ⟨D, hD, hl, hd⟩ := ih (by omega) acc (by omega) hin
          refine ⟨D, Ev.step (by intro k; simp only [impl_descents.l0]; rfl) (Ev.yes (by omega) (Ev.yes (by omega) ?_)), hl, hd⟩
          rw [ew]
          refine Ev.yes (by omega) (Ev.yes (by omega) (Ev.no hgt ?_))
          rw [wid1 (i := i) (n := W.length + 1) (by omega) (by omega)]; exact hD
      · exact ⟨acc, Ev.step (by intro k; simp only [impl_descents.l0]; rfl) (Ev.no (by omega) (Ev.ret rfl)), by omega, hin⟩
  by_cases h0 : W.length = 0
  · exact ⟨[], Ev.step (by intro k; simp only [impl_descents.l0]; rfl) (Ev.no (by omega) (Ev.ret rfl)), by simp, by simp⟩
  · obtain ⟨D, hD, hl, hd⟩ := key 1 (by omega) (by omega) [] (by simp) (by simp)
    exact ⟨D, hD, by omega, hd⟩
theorem descents_both {rows : List (List Int)} (h : isTab rows = true) : ∃ D : List Int, Ev (fun k => spec_shDescents.f k rows) D ∧ Ev (fun k => impl_descents.f k rows) D ∧ D.length ≤ 10 ∧ ∀ d ∈ D, 0 ≤ d ∧ d ≤ 10 := by
  obtain ⟨a, b, ht⟩ := isTab_facts h
  obtain ⟨res, h1, h2, h3, h4⟩ := linword ht
  have hab := ht.ab
  obtain ⟨D, hD, hl, hd⟩ := desc_ends (res.map (rowG b)) (by rw [List.length_map]; omega)
  refine ⟨D, ?_, ?_, hl, hd⟩
  · unfold spec_shDescents.f
    refine Ev.bind h2 ?_
    obtain ⟨K, hK⟩ := hD
    exact ⟨K, fun k hk => (desc_l k _ _ _).trans (hK k hk)⟩
  · unfold impl_descents.f
    exact Ev.bind (rowsOf_ev ht h1 (by omega)) hD
end Go.Proofs.Ytfahkoimleiknaa.Q
end

section
namespace Go.Proofs.Ytfahkoimleiknaa.F
open Go.RowKit Go.Proofs.YtfahkoimleiknaaW.PrintWords Go.Proofs.YtfahkoimleiknaaW.PrintLast Go.Proofs.YtfahkoimleiknaaW.PrintMore
set_option linter.unusedVariables false
set_option linter.unusedSimpArgs false
theorem laws_FnExactMajorOf.belowD {w w' : World} (h : Drawn0 w w') : Below w.heap.size w w' := by
  obtain ⟨m, rfl⟩ := h
  exact pw_below_drewN (Below.refl _ _) m
set_option maxHeartbeats 8000000 in
set_option maxRecDepth 100000 in
theorem laws_FnExactMajorOf.calls0 (k k1 : Nat) (A0 : Option Addr) (c0 : Nat) (l0 : List (List Int)) (z1 : Int) (w : World) (hr0 : Kd.C (Kd.slice 3 (Kd.int .i64)) w A0 l0.length l0) (hc0 : l0.length ≤ c0) (hy0_ : laws_szIntSS.f k1 l0 1048576 = some z1) (hx : decide (z1 < 0) = true) :
    Calls Try.prog 13 #[.slice A0 l0.length c0] w fun e w' => e = .returned (.bool true) ∧ Below w.heap.size w w' := by
  have HR0 := Aside0.mk hr0
  have HC0 := Aside0.mk hc0
  clear hr0 hc0
  have hy0 := Aside0.mk hy0_
  clear hy0_
  have HT0 := Aside0.mk (Below.refl w.heap.size w)
  go_enter Try.func13, Try.ntmps13
  go_wp2_with fail
  have hcall_ := laws_szIntSS.calls k1 _ _ l0 1048576 z1 _ (Kd.C_below HR0.out HT0.out) HC0.out hy0.out
  refine hcall_.mono ?_
  clear hcall_ 
  rintro e w1 ⟨rfl, hb0_⟩
  have hb_ := laws_FnExactMajorOf.belowD hb0_
  clear hb0_
  have HB1 := Aside0.mk hb_
  have HZ1 : Aside0 (w.heap.size ≤ w1.heap.size) := ⟨hb_.size⟩
  have HT1 := Aside0.mk (HT0.out.trans (Below.mono hb_ HT0.out.size))
  clear hb_
  go_wp2
  go_ret
  exact ⟨by first | rfl | (simp; done) | (simp [*]; done), by repeat (first | (with_reducible first | exact HT1.out | apply below_alloc | apply pw_below_drewN | apply below_drew1) | exact HT1.out)⟩
set_option maxHeartbeats 8000000 in
set_option maxRecDepth 100000 in
theorem laws_FnExactMajorOf.calls1 (k k1 : Nat) (A0 : Option Addr) (c0 : Nat) (l0 : List (List Int)) (z1 : Int) (v2 : Int) (v3 : Bool) (w : World) (hr0 : Kd.C (Kd.slice 3 (Kd.int .i64)) w A0 l0.length l0) (hc0 : l0.length ≤ c0) (hy0_ : laws_szIntSS.f k1 l0 1048576 = some z1) (hy1 : decide (z1 < 0) = false) (hy2_ : laws_toIntSS.f k1 l0 = some l0) (hy3_ : spec_MajorOf.f k l0 = some (v2, v3)) (hy4_ : impl_MajorOf.f k l0 = some (v2, v3)) (hy5_ : laws_eqIntSS.f k1 l0 l0 = some true) :
    Calls Try.prog 13 #[.slice A0 l0.length c0] w fun e w' => e = .returned (.bool true) ∧ Below w.heap.size w w' := by
  have HR0 := Aside0.mk hr0
  have HC0 := Aside0.mk hc0
  clear hr0 hc0
  have hy0 := Aside0.mk hy0_
  clear hy0_
  have hy2 := Aside0.mk hy2_
  clear hy2_
  have hy3 := Aside0.mk hy3_
  clear hy3_
  have hy4 := Aside0.mk hy4_
  clear hy4_
  have hy5 := Aside0.mk hy5_
  clear hy5_
  have HT0 := Aside0.mk (Below.refl w.heap.size w)
  go_enter Try.func13, Try.ntmps13
  go_wp2_with fail
  have hcall_ := laws_szIntSS.calls k1 _ _ l0 1048576 z1 _ (Kd.C_below HR0.out HT0.out) HC0.out hy0.out
  refine hcall_.mono ?_
  clear hcall_ 
  rintro e w1 ⟨rfl, hb0_⟩
  have hb_ := laws_FnExactMajorOf.belowD hb0_
  clear hb0_
  have HB1 := Aside0.mk hb_
  have HZ1 : Aside0 (w.heap.size ≤ w1.heap.size) := ⟨hb_.size⟩
  have HT1 := Aside0.mk (HT0.out.trans (Below.mono hb_ HT0.out.size))
  clear hb_
  go_wp2_with fail
  have hcall_ := laws_toIntSS.calls k1 _ _ l0 l0 _ (Kd.C_below HR0.out HT1.out) HC0.out hy2.out
  refine hcall_.mono ?_
  clear hcall_ 
  rintro e w2 ⟨v1x, rfl, hx1_, hb_⟩
  have HB2 := Aside0.mk hb_
  have HZ2 : Aside0 (w1.heap.size ≤ w2.heap.size) := ⟨hb_.size⟩
  have HT2 := Aside0.mk (HT1.out.trans (Below.mono hb_ HT1.out.size))
  clear hb_
  have HX1 := Aside0.mk (Kd.S_lower (Kd.S_mono (ok' := fun k_ => w1.heap.size ≤ k_ ∧ k_ < w2.heap.size) (Kd.S_bound hx1_) (fun k_ h_ => ⟨h_.2.1, h_.2.2.1⟩)) HT1.out.size)
  clear hx1_
  go_wp2_with fail
  obtain ⟨A1_, c1_, e1_, hl1_, hC1_⟩ := Kd.S_reads HX1.out
  have hcall_ := spec_MajorOf.calls k _ _ l0 v2 v3 _ hC1_ hl1_ hy3.out
  rw [← e1_] at hcall_
  refine hcall_.mono ?_
  clear hcall_ hC1_ hl1_ e1_ c1_ A1_
  rintro e w3 ⟨rfl, hb_⟩
  have HB3 := Aside0.mk hb_
  have HZ3 : Aside0 (w2.heap.size ≤ w3.heap.size) := ⟨hb_.size⟩
  have HT3 := Aside0.mk (HT2.out.trans (Below.mono hb_ HT2.out.size))
  clear hb_
  have n_ := Aside0.mk (Kd.S_below HX1.out HB3.out)
  clear HX1
  have HX1 := n_
  clear n_
  go_wp2_with fail
  have hcall_ := laws_toIntSS.calls k1 _ _ l0 l0 _ (Kd.C_below HR0.out HT3.out) HC0.out hy2.out
  refine hcall_.mono ?_
  clear hcall_ 
  rintro e w4 ⟨v2x, rfl, hx2_, hb_⟩
  have HB4 := Aside0.mk hb_
  have HZ4 : Aside0 (w3.heap.size ≤ w4.heap.size) := ⟨hb_.size⟩
  have HT4 := Aside0.mk (HT3.out.trans (Below.mono hb_ HT3.out.size))
  clear hb_
  have n_ := Aside0.mk (Kd.S_below HX1.out HB4.out)
  clear HX1
  have HX1 := n_
  clear n_
  have HX2 := Aside0.mk (Kd.S_lower (Kd.S_mono (ok' := fun k_ => w3.heap.size ≤ k_ ∧ k_ < w4.heap.size) (Kd.S_bound hx2_) (fun k_ h_ => ⟨h_.2.1, h_.2.2.1⟩)) HT3.out.size)
  clear hx2_
  go_wp2_with fail
  obtain ⟨A2_, c2_, e2_, hl2_, hC2_⟩ := Kd.S_reads HX2.out
  have hcall_ := impl_MajorOf.calls k _ _ l0 v2 v3 _ hC2_ hl2_ hy4.out
  rw [← e2_] at hcall_
  refine hcall_.mono ?_
  clear hcall_ hC2_ hl2_ e2_ c2_ A2_
  rintro e w5 ⟨rfl, hb_⟩
  have HB5 := Aside0.mk hb_
  have HZ5 : Aside0 (w4.heap.size ≤ w5.heap.size) := ⟨hb_.size⟩
  have HT5 := Aside0.mk (HT4.out.trans (Below.mono hb_ HT4.out.size))
  clear hb_
  have n_ := Aside0.mk (Kd.S_below HX1.out HB5.out)
  clear HX1
  have HX1 := n_
  clear n_
  have n_ := Aside0.mk (Kd.S_below HX2.out HB5.out)
  clear HX2
  have HX2 := n_
  clear n_
  go_wp2_with fail
  have hcall_ := laws_toIntSS.calls k1 _ _ l0 l0 _ (Kd.C_below HR0.out HT5.out) HC0.out hy2.out
  refine hcall_.mono ?_
  clear hcall_ 
  rintro e w6 ⟨v3x, rfl, hx3_, hb_⟩
  have HB6 := Aside0.mk hb_
  have HZ6 : Aside0 (w5.heap.size ≤ w6.heap.size) := ⟨hb_.size⟩
  have HT6 := Aside0.mk (HT5.out.trans (Below.mono hb_ HT5.out.size))
  clear hb_
  have n_ := Aside0.mk (Kd.S_below HX1.out HB6.out)
  clear HX1
  have HX1 := n_
  clear n_
  have n_ := Aside0.mk (Kd.S_below HX2.out HB6.out)
  clear HX2
  have HX2 := n_
  clear n_
  have HX3 := Aside0.mk (Kd.S_lower (Kd.S_mono (ok' := fun k_ => w5.heap.size ≤ k_ ∧ k_ < w6.heap.size) (Kd.S_bound hx3_) (fun k_ h_ => ⟨h_.2.1, h_.2.2.1⟩)) HT5.out.size)
  clear hx3_
  go_wp2_with fail
  obtain ⟨A2_, c2_, e2_, hl2_, hC2_⟩ := Kd.S_reads HX2.out
  obtain ⟨A3_, c3_, e3_, hl3_, hC3_⟩ := Kd.S_reads HX3.out
  have hcall_ := laws_eqIntSS.calls k1 _ _ l0 _ _ l0 true _ hC2_ hl2_ hC3_ hl3_ hy5.out
  rw [← e2_] at hcall_
  rw [← e3_] at hcall_
  refine hcall_.mono ?_
  clear hcall_ hC2_ hl2_ e2_ c2_ A2_ hC3_ hl3_ e3_ c3_ A3_
  rintro e w7 ⟨rfl, hb0_⟩
  have hb_ := laws_FnExactMajorOf.belowD hb0_
  clear hb0_
  have HB7 := Aside0.mk hb_
  have HZ7 : Aside0 (w6.heap.size ≤ w7.heap.size) := ⟨hb_.size⟩
  have HT7 := Aside0.mk (HT6.out.trans (Below.mono hb_ HT6.out.size))
  clear hb_
  have n_ := Aside0.mk (Kd.S_below HX1.out HB7.out)
  clear HX1
  have HX1 := n_
  clear n_
  have n_ := Aside0.mk (Kd.S_below HX2.out HB7.out)
  clear HX2
  have HX2 := n_
  clear n_
  have n_ := Aside0.mk (Kd.S_below HX3.out HB7.out)
  clear HX3
  have HX3 := n_
  clear n_
  go_wp2
  go_ret
  exact ⟨by first | rfl | (simp; done) | (simp [*]; done), by repeat (first | (with_reducible first | exact HT7.out | apply below_alloc | apply pw_below_drewN | apply below_drew1) | exact HT7.out)⟩
open Classical in
noncomputable def laws_FnExactMajorOf.f (k : Nat) (l0 : List (List Int)) : Option Bool := if ∃ k1 : Nat, (∃ (z1 : Int), (laws_szIntSS.f k1 l0 1048576 = some z1) ∧ (decide (z1 < 0) = true)) ∨ (∃ (z1 : Int) (v2 : Int) (v3 : Bool), (laws_szIntSS.f k1 l0 1048576 = some z1) ∧ (decide (z1 < 0) = false) ∧ (laws_toIntSS.f k1 l0 = some l0) ∧ (spec_MajorOf.f k l0 = some (v2, v3)) ∧ (impl_MajorOf.f k l0 = some (v2, v3)) ∧ (laws_eqIntSS.f k1 l0 l0 = some true)) then some true else none
theorem laws_FnExactMajorOf.calls (k : Nat) (A0 : Option Addr) (c0 : Nat) (l0 : List (List Int)) (r : Bool) (w : World) (hr0 : Kd.C (Kd.slice 3 (Kd.int .i64)) w A0 l0.length l0) (hc0 : l0.length ≤ c0) (h : laws_FnExactMajorOf.f k l0 = some r) :
    Calls Try.prog 13 #[.slice A0 l0.length c0] w fun e w' => e = .returned (.bool r) ∧ Below w.heap.size w w' := by
  unfold laws_FnExactMajorOf.f at h
  split at h
  · rename_i hh
    obtain rfl := Option.some.inj h
    obtain ⟨k1, hh⟩ := hh
    rcases hh with ⟨z1, hy0, hx⟩ | ⟨z1, v2, v3, hy0, hy1, hy2, hy3, hy4, hy5⟩
    · exact laws_FnExactMajorOf.calls0 k k1 _ _ l0 z1 w hr0 hc0 hy0 hx
    · exact laws_FnExactMajorOf.calls1 k k1 _ _ l0 z1 v2 v3 w hr0 hc0 hy0 hy1 hy2 hy3 hy4 hy5
  · cases h
end Go.Proofs.Ytfahkoimleiknaa.F
end
