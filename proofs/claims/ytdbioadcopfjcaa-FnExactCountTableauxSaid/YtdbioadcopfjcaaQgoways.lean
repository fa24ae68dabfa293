/- The table of ways that the program draws up. -/
import Derived.Test.YtdbioadcopfjcaaQcount
import Derived.Test.YtdbioadcopfjcaaQgoclose
import Derived.Test.YtdbioadcopfjcaaQgoall
import Derived.Test.YtdbioadcopfjcaaFImplPosetWays
namespace Go.Proofs.Ytdbioadcopfjcaa.Q
open Go.RowKit Go.Proofs.YtdbioadcopfjcaaW.PrintWords Go.Proofs.Ytdbioadcopfjcaa.F
set_option linter.unusedVariables false
def wayAt (p : List Int) (m t : Nat) : Nat := if m ≤ t then (if idealB p t then ways p t else 0) else 0
/-- The table, drawn up from m on. -/
def Wl (p : List Int) (m : Nat) : List Int := (List.range (2 ^ p.length)).map fun t => ((wayAt p m t : Nat) : Int)
theorem Wl_len (p : List Int) (m : Nat) : (Wl p m).length = 2 ^ p.length := by simp [Wl]
theorem Wl_get (p : List Int) (m : Nat) {t : Nat} (ht : t < 2 ^ p.length) : (Wl p m).getD t 0 = ((wayAt p m t : Nat) : Int) := by
  unfold Wl
  rw [List.getD_eq_getElem?_getD, List.getElem?_map, List.getElem?_range ht]; rfl
theorem Wl_ext {p : List Int} {m : Nat} {l : List Int} (hl : l.length = 2 ^ p.length) (h : ∀ t, t < 2 ^ p.length → l.getD t 0 = ((wayAt p m t : Nat) : Int)) : l = Wl p m := by
  apply List.ext_getElem
  · rw [hl, Wl_len]
  · intro t h1 h2
    have := h t (by omega)
    rw [← Wl_get p m (by omega), List.getD_eq_getElem?_getD, List.getD_eq_getElem?_getD, List.getElem?_eq_getElem h1, List.getElem?_eq_getElem h2] at this
    exact this
theorem getD_setW (l : List Int) (i : Nat) (v : Int) (hi : i < l.length) (t : Nat) : (l.set i v).getD t 0 = if i = t then v else l.getD t 0 := by
  by_cases h : i = t
  · subst h; rw [if_pos rfl, List.getD_eq_getElem?_getD, List.getElem?_set_self hi]; rfl
  · rw [if_neg h, List.getD_eq_getElem?_getD, List.getElem?_set_ne h, List.getD_eq_getElem?_getD]
theorem add_gt {s e : Nat} (hb : s.testBit e = false) : s < s ||| 2 ^ e := by
  have h1 : s ≤ s ||| 2 ^ e := Nat.left_le_or
  rcases Nat.lt_or_ge s (s ||| 2 ^ e) with h | h
  · exact h
  · have he : s = s ||| 2 ^ e := by omega
    have : (s ||| 2 ^ e).testBit e = true := by rw [Nat.testBit_or, pow_bit]; simp
    rw [← he, hb] at this; cases this
theorem nextN_items (p : List Int) (hp : PO p) (s : Nat) : nextN p s = (itemsN (ndiff (allN p) s)).filter fun e => subB (L p e) s := by
  unfold nextN itemsN
  rw [List.filter_filter]
  apply List.filter_congr
  intro e he
  rw [ndiff_bit, allN_bit]
  cases decide (e < p.length) <;> cases s.testBit e <;> cases subB (L p e) s <;> rfl
theorem ways_table {p : List Int} (hp : PO p) : Ev (fun k => impl_Poset_ways.f k p) (Wl p 0) := by
  have hn := hp.small
  have h2 : (2 : Nat) ^ p.length ≤ 1024 := Nat.le_trans (Nat.pow_le_pow_right (by decide) hn) (by decide)
  have hal := allN_lt p
  have hal2 : allN p + 1 = 2 ^ p.length := by unfold allN; have := Nat.two_pow_pos p.length; omega
  have outer : ∀ s : Nat, s ≤ allN p → Ev (fun k => impl_Poset_ways.l0 k (Wl p s) ((s : Int) - 1) p) (Wl p 0) := by
    intro s
    induction s with
    | zero =>
      intro _
      exact Ev.step (by intro k; simp only [impl_Poset_ways.l0]; rfl) (Ev.no (by omega) (Ev.ret rfl))
    | succ s ih =>
      intro hs
      have hs2 : s < 2 ^ p.length := by omega
      have e1 : (((s + 1 : Nat) : Int) - 1) = (s : Int) := by omega
      have e2 : wrap64 ((s : Int) - 1) = (s : Int) - 1 := wid (by omega) (by omega)
      rw [e1]
      refine Ev.step (by intro k; simp only [impl_Poset_ways.l0]; rfl) (Ev.yes (by omega) ?_)
      refine Ev.bind (close_ev hp hs2) ?_
      have hcl := closeN_eq hp hs2
      have hall : s ≠ allN p := by omega
      by_cases hid : idealB p s = true
      · rw [hid, beq_iff_eq] at hcl
        rw [hcl]
        refine Ev.yes rfl (Ev.call (all_eq (by omega)) ?_)
        rw [bits_andNotN (lt_pow hal (by omega)) (lt_pow hs2 (by omega))]
        have hit : ndiff (allN p) s < 2 ^ p.length := ndiff_lt hal
        refine Ev.bind (items_ev _ (lt_pow hit (by omega))) ?_
        rw [ints_len]
        generalize hI : itemsN (ndiff (allN p) s) = I
        have hIl : I.length ≤ 10 := by rw [← hI]; exact itemsN_len _
        have inner : ∀ i, i ≤ I.length → ∀ v : Nat, v + sumL (((I.drop i).filter fun e => subB (L p e) s).map fun e => ways p (s ||| 2 ^ e)) = ways p s →
            Ev (fun k => impl_Poset_ways.l1 k ((Wl p (s + 1)).set s (v : Int)) (s : Int) (ints I) (I.length : Int) (i : Int) p) (Wl p 0) := by
          refine downTo _ ?_ ?_
          · intro v hv
            rw [List.drop_length] at hv
            have hv' : v = ways p s := by simpa [sumL] using hv
            refine Ev.step (by intro k; simp only [impl_Poset_ways.l1]; rfl) (Ev.no (by omega) ?_)
            rw [e2]
            have he : (Wl p (s + 1)).set s (v : Int) = Wl p s := by
              apply Wl_ext
              · rw [List.length_set, Wl_len]
              · intro t ht
                rw [getD_setW _ _ _ (by rw [Wl_len]; exact hs2)]
                split
                · rename_i h; subst h; unfold wayAt; rw [if_pos (Nat.le_refl _), if_pos hid, hv']
                · rename_i h
                  rw [Wl_get _ _ ht]; unfold wayAt
                  by_cases hst : s ≤ t
                  · rw [if_pos hst, if_pos (by omega)]
                  · rw [if_neg hst, if_neg (by omega)]
            rw [he]
            exact ih (by omega)
          · intro i hi ihi v hv
            obtain ⟨hm, hlt⟩ : I.getD i 0 ∈ I ∧ I.getD i 0 < p.length := by
              have hm : I.getD i 0 ∈ I := by rw [List.getD_eq_getElem?_getD, List.getElem?_eq_getElem hi]; exact List.getElem_mem hi
              refine ⟨hm, ?_⟩
              have := items_lt hit (j := i) (by rw [hI]; exact hi)
              rw [hI] at this; exact this
            have hbit : s.testBit (I.getD i 0) = false := by
              have hm' := hm
              rw [← hI, mem_itemsN, ndiff_bit] at hm'
              have := hm'.2
              rw [hI] at this
              cases h : s.testBit (I.getD i 0) with
              | false => rfl
              | true => rw [h] at this; simp at this
            have hdrop : I.drop i = I.getD i 0 :: I.drop (i + 1) := by
              rw [List.drop_eq_getElem_cons hi, List.getD_eq_getElem?_getD, List.getElem?_eq_getElem hi]; rfl
            generalize hE : I.getD i 0 = E at hm hlt hbit hdrop
            rw [hdrop] at hv
            refine Ev.step (by intro k; simp only [impl_Poset_ways.l1]; rfl) (Ev.yes (by omega) (Ev.yes (by omega) (Ev.yes (by rw [ints_len]; omega) ?_)))
            rw [rd_ints, hE, wid1 hi (by omega), rdN]
            refine Ev.yes (by omega) (Ev.yes (by omega) ?_)
            rw [hp.val _ hlt, bits_andNotN (lt_pow (L_lt hp hlt) (by omega)) (lt_pow hs2 (by omega))]
            have hwl := Wl_len p (s + 1)
            by_cases hsub : subB (L p E) s = true
            · have hz : ndiff (L p E) s = 0 := by unfold subB at hsub; rw [beq_iff_eq] at hsub; exact hsub
              rw [hz]
              rw [List.filter_cons, hsub, if_pos rfl, List.map_cons] at hv
              simp only [sumL] at hv
              have hor : s ||| 2 ^ E < 2 ^ p.length := add_lt hs2 hlt
              rw [shlN (by omega), bits_orN (lt_pow hs2 (by omega)) (lt_pow (pow_lt_pow hlt) (by omega))]
              refine Ev.yes rfl (Ev.yes (by omega) (Ev.yes (by rw [List.length_set, hwl]; omega) (Ev.yes (by omega) (Ev.yes (by rw [List.length_set, hwl]; omega) ?_))))
              rw [rdN, rdN, getD_setW _ _ _ (by rw [hwl]; exact hs2), if_pos rfl, getD_setW _ _ _ (by rw [hwl]; exact hs2), Int.toNat_natCast, List.set_set]
              have hgt := add_gt hbit
              rw [if_neg (by omega), Wl_get _ _ hor]
              have hnx : E ∈ nextN p s := by rw [mem_nextN]; exact ⟨by omega, hlt, hbit, hsub⟩
              have hw : wayAt p (s + 1) (s ||| 2 ^ E) = ways p (s ||| 2 ^ E) := by
                unfold wayAt; rw [if_pos (by omega), if_pos (idealB_add hp hid hnx)]
              have hb := ways_le hn s
              rw [hw, wid (by omega) (by omega)]
              have := ihi (v + ways p (s ||| 2 ^ E)) (by omega)
              rw [Int.natCast_add] at this
              exact this
            · have hz : ndiff (L p E) s ≠ 0 := by intro h; apply hsub; unfold subB; rw [h]; rfl
              rw [List.filter_cons, if_neg hsub] at hv
              refine Ev.no (by omega) ?_
              exact ihi v hv
        have hstart : Wl p (s + 1) = (Wl p (s + 1)).set s ((0 : Nat) : Int) := by
          symm
          apply Wl_ext
          · rw [List.length_set, Wl_len]
          · intro t ht
            rw [getD_setW _ _ _ (by rw [Wl_len]; exact hs2)]
            split
            · rename_i h; subst h; unfold wayAt; rw [if_neg (by omega)]
            · exact Wl_get _ _ ht
        rw [hstart]
        refine inner 0 (by omega) 0 ?_
        rw [ways_step hs2 hall, nextN_items p hp, hI]; simp
      · rw [Bool.not_eq_true] at hid
        rw [hid, beq_eq_false_iff_ne] at hcl
        refine Ev.no (by omega) ?_
        rw [e2]
        have he : Wl p (s + 1) = Wl p s := by
          apply Wl_ext (Wl_len _ _)
          intro t ht
          rw [Wl_get _ _ ht]; unfold wayAt
          by_cases hst : s ≤ t
          · rw [if_pos hst]
            by_cases h : s = t
            · subst h; rw [if_neg (by omega), hid]; rfl
            · rw [if_pos (by omega)]
          · rw [if_neg hst, if_neg (by omega)]
        rw [he]
        exact ih (by omega)
  unfold impl_Poset_ways.f
  refine Ev.call (all_eq (by omega)) ?_
  have e3 : wrap64 (((allN p : Nat) : Int) + 1) = ((2 ^ p.length : Nat) : Int) := by rw [← hal2]; exact wid (by omega) (by omega)
  rw [e3]
  refine Ev.yes (by omega) (Ev.yes (by omega) ?_)
  rw [Int.toNat_natCast]
  refine Ev.call rfl (Ev.call (all_eq (by omega)) (Ev.yes (by omega) (Ev.yes (by rw [List.length_replicate]; omega) (Ev.call (all_eq (by omega)) ?_))))
  have e4 : wrap64 (((allN p : Nat) : Int) - 1) = ((allN p : Nat) : Int) - 1 := wid (by omega) (by omega)
  rw [e4, Int.toNat_natCast]
  have he : (List.replicate (2 ^ p.length) (0 : Int)).set (allN p) 1 = Wl p (allN p) := by
    apply Wl_ext
    · rw [List.length_set, List.length_replicate]
    · intro t ht
      rw [getD_setW _ _ _ (by rw [List.length_replicate]; exact hal)]
      split
      · rename_i h; subst h; unfold wayAt; rw [if_pos (Nat.le_refl _), if_pos (idealB_all p hp), ways_all]; rfl
      · unfold wayAt
        rw [if_neg (by omega), List.getD_eq_getElem?_getD, List.getElem?_replicate]
        split <;> rfl
  rw [he]
  exact outer _ (Nat.le_refl _)
end Go.Proofs.Ytdbioadcopfjcaa.Q
