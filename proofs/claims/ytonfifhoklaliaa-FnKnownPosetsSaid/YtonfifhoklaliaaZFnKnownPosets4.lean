/- Part 4 of the texts below the row of FnKnownPosets: printed functions with their contracts, and plain lemmas. No condition. -/
import Derived.Test.YtonfifhoklaliaaZFnKnownPosets3
import Derived.Lib.Hide
section
namespace Go.Proofs.Ytonfifhoklaliaa.Q
open Go.RowKit Go.Proofs.YtonfifhoklaliaaW.PrintWords Go.Proofs.Ytonfifhoklaliaa.F
set_option linter.unusedVariables false
def hmx (o : List Nat) (m j : Nat) : Nat := max m (o.getD j 0 + 1)
def hrow (p : List Int) (o : List Nat) (i : Nat) : Nat := (itemsN (L p i)).foldl (hmx o) 0
def hgo (p : List Int) : Nat → List Nat
 | 0 => []
 | i + 1 => hgo p i ++ [hrow p (hgo p i) i]
theorem hgo_len (p : List Int) : ∀ i, (hgo p i).length = i
 | 0 => rfl
 | i + 1 => by unfold hgo; rw [List.length_append, hgo_len p i]; rfl
theorem hmx_le {o : List Nat} {b : Nat} (ho : ∀ j, o.getD j 0 ≤ b) : ∀ (l : List Nat) (m : Nat), m ≤ b + 1 → l.foldl (hmx o) m ≤ b + 1
 | [], m, h => h
 | j :: l, m, h => by
  rw [List.foldl_cons]
  refine hmx_le ho l _ ?_
  have := ho j
  unfold hmx; omega
theorem hgo_le (p : List Int) : ∀ i j, (hgo p i).getD j 0 ≤ i
 | 0, j => by simp [hgo]
 | i + 1, j => by
  unfold hgo
  rw [List.getD_eq_getElem?_getD, List.getElem?_append]
  split
  ·have := hgo_le p i j
   rw [List.getD_eq_getElem?_getD] at this
   omega
  ·cases hj : j - (hgo p i).length with
   | zero => exact hmx_le (hgo_le p i) _ 0 (by omega)
   | succ k => simp
def hst (o : List Nat) (m r : Nat) : List Int := ints (o ++ m :: List.replicate r 0)
theorem hst_len (o : List Nat) (m r : Nat) : (hst o m r).length = o.length + (r + 1) := by unfold hst; rw [ints_len, List.length_append, List.length_cons, List.length_replicate]
theorem hst_at (o : List Nat) (m r : Nat) : rd (hst o m r) ((o.length : Nat) : Int) = (m : Int) := by
 unfold hst
 rw [rd_ints, List.getD_eq_getElem?_getD, List.getElem?_append_right (Nat.le_refl _), Nat.sub_self]; rfl
theorem hst_lo (o : List Nat) (m r : Nat) {j : Nat} (hj : j < o.length) : rd (hst o m r) (j : Int) = ((o.getD j 0 : Nat) : Int) := by
 unfold hst
 rw [rd_ints, List.getD_eq_getElem?_getD, List.getD_eq_getElem?_getD, List.getElem?_append_left hj]
theorem hst_set (o : List Nat) (m r x : Nat) : (hst o m r).set ((o.length : Nat) : Int).toNat (x : Int) = hst o x r := by
 unfold hst ints
 rw [Int.toNat_natCast, List.map_append, List.map_append, List.set_append_right _ _ (by rw [List.length_map]; exact Nat.le_refl _), List.length_map, Nat.sub_self]; rfl
theorem hst_next (o : List Nat) (m r : Nat) : hst o m (r + 1) = hst (o ++ [m]) 0 r := by
 unfold hst
 rw [List.append_assoc]; rfl
theorem hst_zero (n : Nat) : List.replicate (n + 1) (0 : Int) = hst [] 0 n := by
 unfold hst ints
 rw [List.nil_append, List.map_cons, List.map_replicate]; rfl
theorem mxN' (a b : Nat) : mx (a : Int) (b : Int) = ((max a b : Nat) : Int) := by unfold mx; split <;> omega
theorem heights_ev {p : List Int} (hp : PO p) : Ev (fun k => impl_Poset_heights.f k p) (ints (hgo p p.length)) := by
 have hn := hp.small
 have h1 := hp.pos
 unfold impl_Poset_heights.f
 refine Ev.call (show impl_Poset_n.f p = some (p.length : Int) from rfl) (Ev.yes (by omega) (Ev.yes (by omega) ?_))
 rw [Int.toNat_natCast]
 obtain ⟨n, hnn⟩ : ∃ n, p.length = n + 1 := ⟨p.length - 1, by omega⟩
 have fin : ∀ x, x = ints (hgo p p.length) → Ev (fun k => impl_Poset_heights.l0 k x p (p.length : Int) ((p.length : Nat) : Int)) (ints (hgo p p.length)) := by
  rintro x rfl
  exact Ev.step (by intro k; simp only [impl_Poset_heights.l0]; rfl) (Ev.no (by omega) (Ev.now _))
 have key : ∀ d i, i + (d + 1) = p.length → Ev (fun k => impl_Poset_heights.l0 k (hst (hgo p i) 0 d) p (p.length : Int) (i : Int)) (ints (hgo p p.length)) := by
  intro d
  induction d with
  | zero =>
   intro i hi
   have hL := hp.lt i (by omega)
   refine Ev.step (by intro k; simp only [impl_Poset_heights.l0]; rfl) (Ev.yes (by omega) (Ev.yes (by omega) (Ev.yes (by omega) ?_)))
   rw [rdN, hp.val i (by omega)]
   refine Ev.bind (items_ev _ (lt_pow hL (by omega))) ?_
   rw [ints_len]
   have hil := itemsN_len (L p i)
   have inner : ∀ t, t ≤ (itemsN (L p i)).length → ∀ m : Nat, m ≤ i + 1 → ((itemsN (L p i)).drop t).foldl (hmx (hgo p i)) m = hrow p (hgo p i) i → Ev (fun k => impl_Poset_heights.l1 k (hst (hgo p i) m 0) (i : Int) p (p.length : Int) (i : Int) (ints (itemsN (L p i))) ((itemsN (L p i)).length : Int) (t : Int)) (ints (hgo p p.length)) := by
    refine downTo _ ?_ ?_
    ·intro m _ hm
     rw [List.drop_length] at hm
     refine Ev.step (by intro k; simp only [impl_Poset_heights.l1]; rfl) (Ev.no (by omega) ?_)
     rw [wid1 (show i < p.length by omega) (by omega), show i + 1 = p.length by omega]
     refine fin _ ?_
     rw [show p.length = i + 1 by omega]
     show hst (hgo p i) m 0 = ints (hgo p i ++ [hrow p (hgo p i) i])
     rw [← hm]; rfl
    ·intro t ht ih m hm hf
     have hlt := items_lt hL ht
     have hgl := hgo_len p i
     have hle := hgo_le p i ((itemsN (L p i)).getD t 0)
     rw [foldl_drop_step _ _ 0 _ ht] at hf
     refine Ev.step (by intro k; simp only [impl_Poset_heights.l1]; rfl) (Ev.yes (by omega) (Ev.yes (by omega) (Ev.yes (by rw [ints_len]; omega) (Ev.yes (by omega) (Ev.yes (by rw [hst_len]; omega) ?_)))))
     rw [rd_ints, wid1 ht (by omega)]
     refine Ev.yes (by omega) (Ev.yes (by rw [hst_len]; omega) ?_)
     have e1 : rd (hst (hgo p i) m 0) (i : Int) = (m : Int) := by have := hst_at (hgo p i) m 0; rw [hgl] at this; exact this
     have e2 : (hst (hgo p i) m 0).set (i : Int).toNat ((hmx (hgo p i) m ((itemsN (L p i)).getD t 0) : Nat) : Int) = hst (hgo p i) (hmx (hgo p i) m ((itemsN (L p i)).getD t 0)) 0 := by have := hst_set (hgo p i) m 0 (hmx (hgo p i) m ((itemsN (L p i)).getD t 0)); rw [hgl] at this; exact this
     rw [e1, hst_lo _ _ _ (by omega), wid (by omega) (by omega), show ((((hgo p i).getD ((itemsN (L p i)).getD t 0) 0 : Nat) : Int) + 1) = (((hgo p i).getD ((itemsN (L p i)).getD t 0) 0 + 1 : Nat) : Int) by omega, mxN']
     show Ev (fun k => impl_Poset_heights.l1 k ((hst (hgo p i) m 0).set (i : Int).toNat ((hmx (hgo p i) m ((itemsN (L p i)).getD t 0) : Nat) : Int)) _ _ _ _ _ _ _) _
     rw [e2]
     refine ih _ ?_ hf
     unfold hmx; omega
   exact inner 0 (Nat.zero_le _) 0 (by omega) rfl
  | succ d ihd =>
   intro i hi
   have hL := hp.lt i (by omega)
   refine Ev.step (by intro k; simp only [impl_Poset_heights.l0]; rfl) (Ev.yes (by omega) (Ev.yes (by omega) (Ev.yes (by omega) ?_)))
   rw [rdN, hp.val i (by omega)]
   refine Ev.bind (items_ev _ (lt_pow hL (by omega))) ?_
   rw [ints_len]
   have hil := itemsN_len (L p i)
   have inner : ∀ t, t ≤ (itemsN (L p i)).length → ∀ m : Nat, m ≤ i + 1 → ((itemsN (L p i)).drop t).foldl (hmx (hgo p i)) m = hrow p (hgo p i) i → Ev (fun k => impl_Poset_heights.l1 k (hst (hgo p i) m (d + 1)) (i : Int) p (p.length : Int) (i : Int) (ints (itemsN (L p i))) ((itemsN (L p i)).length : Int) (t : Int)) (ints (hgo p p.length)) := by
    refine downTo _ ?_ ?_
    ·intro m _ hm
     rw [List.drop_length] at hm
     refine Ev.step (by intro k; simp only [impl_Poset_heights.l1]; rfl) (Ev.no (by omega) ?_)
     rw [wid1 (show i < p.length by omega) (by omega), hst_next]
     have e : hgo p i ++ [m] = hgo p (i + 1) := by
      show _ = hgo p i ++ [hrow p (hgo p i) i]
      rw [← hm]; rfl
     rw [e]
     exact ihd (i + 1) (by omega)
    ·intro t ht ih m hm hf
     have hlt := items_lt hL ht
     have hgl := hgo_len p i
     have hle := hgo_le p i ((itemsN (L p i)).getD t 0)
     rw [foldl_drop_step _ _ 0 _ ht] at hf
     refine Ev.step (by intro k; simp only [impl_Poset_heights.l1]; rfl) (Ev.yes (by omega) (Ev.yes (by omega) (Ev.yes (by rw [ints_len]; omega) (Ev.yes (by omega) (Ev.yes (by rw [hst_len]; omega) ?_)))))
     rw [rd_ints, wid1 ht (by omega)]
     refine Ev.yes (by omega) (Ev.yes (by rw [hst_len]; omega) ?_)
     have e1 : rd (hst (hgo p i) m (d + 1)) (i : Int) = (m : Int) := by have := hst_at (hgo p i) m (d + 1); rw [hgl] at this; exact this
     have e2 : (hst (hgo p i) m (d + 1)).set (i : Int).toNat ((hmx (hgo p i) m ((itemsN (L p i)).getD t 0) : Nat) : Int) = hst (hgo p i) (hmx (hgo p i) m ((itemsN (L p i)).getD t 0)) (d + 1) := by have := hst_set (hgo p i) m (d + 1) (hmx (hgo p i) m ((itemsN (L p i)).getD t 0)); rw [hgl] at this; exact this
     rw [e1, hst_lo _ _ _ (by omega), wid (by omega) (by omega), show ((((hgo p i).getD ((itemsN (L p i)).getD t 0) 0 : Nat) : Int) + 1) = (((hgo p i).getD ((itemsN (L p i)).getD t 0) 0 + 1 : Nat) : Int) by omega, mxN']
     show Ev (fun k => impl_Poset_heights.l1 k ((hst (hgo p i) m (d + 1)).set (i : Int).toNat ((hmx (hgo p i) m ((itemsN (L p i)).getD t 0) : Nat) : Int)) _ _ _ _ _ _ _) _
     rw [e2]
     refine ih _ ?_ hf
     unfold hmx; omega
   exact inner 0 (Nat.zero_le _) 0 (by omega) rfl
 have := key n 0 (by omega)
 rw [hnn, hst_zero]
 rw [hnn] at this
 exact this
theorem items_low {m i : Nat} (h : m < 2 ^ i) (hi : i ≤ 10) : itemsN m = (List.range i).filter m.testBit := by
 unfold itemsN
 obtain ⟨d, hd⟩ : ∃ d, 10 = i + d := ⟨10 - i, by omega⟩
 rw [hd, List.range_add, List.filter_append]
 have : ((List.range d).map (i + ·)).filter m.testBit = [] := by
  rw [List.filter_eq_nil_iff]
  intro x hx
  obtain ⟨y, _, rfl⟩ := List.mem_map.1 hx
  rw [bit_lt h (Nat.le_add_right _ _)]; simp
 rw [this, List.append_nil]
theorem hrow_eq {p : List Int} (hp : PO p) {i : Nat} (hi : i < p.length) (o : List Nat) : (List.range' 0 (i - 0)).foldl (fun m j => if (L p i).testBit j = true then hmx o m j else m) 0 = hrow p o i := by
 have hn := hp.small
 unfold hrow
 rw [items_low (hp.lt i hi) (by omega), Nat.sub_zero, ← List.range_eq_range', List.foldl_filter]
theorem most_eq (a b : Nat) : spec_l1Most.f (a : Int) (b : Int) = some ((max a b : Nat) : Int) := by
 unfold spec_l1Most.f
 by_cases h : (a : Int) > (b : Int)
 ·rw [if_pos h]; congr 1; omega
 ·rw [if_neg h]; congr 1; omega
theorem poHeights_ev {p : List Int} (hp : PO p) : Ev (fun k => spec_poHeights.f k p) (ints (hgo p p.length)) := by
 have hn := hp.small
 have h1 := hp.pos
 unfold spec_poHeights.f
 refine Ev.yes (by omega) (Ev.yes (by omega) ?_)
 rw [Int.toNat_natCast]
 obtain ⟨n, hnn⟩ : ∃ n, p.length = n + 1 := ⟨p.length - 1, by omega⟩
 have fin : ∀ x, x = ints (hgo p p.length) → Ev (fun k => spec_poHeights.l0 k x p (p.length : Int) ((p.length : Nat) : Int)) (ints (hgo p p.length)) := by
  rintro x rfl
  exact Ev.step (by intro k; simp only [spec_poHeights.l0]; rfl) (Ev.no (by omega) (Ev.now _))
 have inner : ∀ (i d : Nat), i + (d + 1) = p.length → (∀ m, m = hrow p (hgo p i) i → Ev (fun k => spec_poHeights.l0 k (hst (hgo p i) m d) p (p.length : Int) ((i + 1 : Nat) : Int)) (ints (hgo p p.length))) →
  ∀ t, t ≤ i → ∀ m : Nat, m ≤ i + 1 → (List.range' t (i - t)).foldl (fun m j => if (L p i).testBit j = true then hmx (hgo p i) m j else m) m = hrow p (hgo p i) i → Ev (fun k => spec_poHeights.l1 k (hst (hgo p i) m d) (i : Int) (p.getD i 0) (t : Int) p (p.length : Int) (i : Int)) (ints (hgo p p.length)) := by
  intro i d hi hnext
  have hgl := hgo_len p i
  refine downTo _ ?_ ?_
  ·intro m _ hm
   rw [Nat.sub_self] at hm
   refine Ev.step (by intro k; simp only [spec_poHeights.l1]; rfl) (Ev.no (by omega) ?_)
   rw [wid1 (show i < p.length by omega) (by omega)]
   exact hnext m hm
  ·intro t ht ih m hm hf
   have hle := hgo_le p i t
   rw [show i - t = (i - (t + 1)) + 1 by omega, List.range'_succ, List.foldl_cons] at hf
   refine Ev.step (by intro k; simp only [spec_poHeights.l1]; rfl) (Ev.yes (by omega) ?_)
   rw [wid1 ht (by omega), hp.val i (by omega)]
   refine Ev.call (poIn_eq (by omega)) ?_
   cases hb : (L p i).testBit t with
   | false =>
    rw [hb, if_neg (by simp)] at hf
    refine Ev.no (by simp) ?_
    have := ih m hm hf
    rw [hp.val i (by omega)] at this
    exact this
   | true =>
    rw [hb, if_pos rfl] at hf
    refine Ev.yes rfl (Ev.yes (by omega) (Ev.yes (by rw [hst_len]; omega) (Ev.yes (by omega) (Ev.yes (by rw [hst_len]; omega) ?_))))
    have e1 : rd (hst (hgo p i) m d) (i : Int) = (m : Int) := by have := hst_at (hgo p i) m d; rw [hgl] at this; exact this
    have e2 : (hst (hgo p i) m d).set (i : Int).toNat ((hmx (hgo p i) m t : Nat) : Int) = hst (hgo p i) (hmx (hgo p i) m t) d := by have := hst_set (hgo p i) m d (hmx (hgo p i) m t); rw [hgl] at this; exact this
    rw [e1, hst_lo _ _ _ (by omega), wid (by omega) (by omega), show ((((hgo p i).getD t 0 : Nat) : Int) + 1) = (((hgo p i).getD t 0 + 1 : Nat) : Int) by omega]
    refine Ev.call (most_eq _ _) ?_
    show Ev (fun k => spec_poHeights.l1 k ((hst (hgo p i) m d).set (i : Int).toNat ((hmx (hgo p i) m t : Nat) : Int)) _ _ _ _ _ _) _
    rw [e2]
    have := ih (hmx (hgo p i) m t) (by unfold hmx; omega) hf
    rw [hp.val i (by omega)] at this
    exact this
 have key : ∀ d i, i + (d + 1) = p.length → Ev (fun k => spec_poHeights.l0 k (hst (hgo p i) 0 d) p (p.length : Int) (i : Int)) (ints (hgo p p.length)) := by
  intro d
  induction d with
  | zero =>
   intro i hi
   refine Ev.step (by intro k; simp only [spec_poHeights.l0]; rfl) (Ev.yes (by omega) (Ev.yes (by omega) (Ev.yes (by omega) ?_)))
   rw [rdN]
   refine inner i 0 hi (fun m hm => ?_) 0 (Nat.zero_le _) 0 (by omega) (hrow_eq hp (by omega) _)
   rw [show i + 1 = p.length by omega]
   refine fin _ ?_
   rw [show p.length = i + 1 by omega]
   show hst (hgo p i) m 0 = ints (hgo p i ++ [hrow p (hgo p i) i])
   rw [hm]; rfl
  | succ d ihd =>
   intro i hi
   refine Ev.step (by intro k; simp only [spec_poHeights.l0]; rfl) (Ev.yes (by omega) (Ev.yes (by omega) (Ev.yes (by omega) ?_)))
   rw [rdN]
   refine inner i (d + 1) hi (fun m hm => ?_) 0 (Nat.zero_le _) 0 (by omega) (hrow_eq hp (by omega) _)
   rw [hst_next]
   have e : hgo p i ++ [m] = hgo p (i + 1) := by
    show _ = hgo p i ++ [hrow p (hgo p i) i]
    rw [hm]
   rw [e]
   exact ihd (i + 1) (by omega)
 have := key n 0 (by omega)
 rw [hnn, hst_zero]
 rw [hnn] at this
 exact this
end Go.Proofs.Ytonfifhoklaliaa.Q
end

section
namespace Go.Proofs.Ytonfifhoklaliaa.Q
open Go.RowKit Go.Proofs.YtonfifhoklaliaaW.PrintWords
set_option linter.unusedVariables false
def ordRun (p : List Int) : Nat → List Int → Option Nat
 | s, [] => some s
 | s, e :: l => if (0 ≤ e ∧ e < (p.length : Int)) ∧ s.testBit e.toNat = false ∧ subB (L p e.toNat) s = true then ordRun p (s ||| 2 ^ e.toNat) l else none
def ordB (p w : List Int) : Bool := ordRun p 0 w == some (allN p)
theorem ordB_iff {p w : List Int} : ordB p w = true ↔ ordRun p 0 w = some (allN p) := by unfold ordB; rw [beq_iff_eq]
theorem ordRun_app (p x y : List Int) : ∀ s, ordRun p s (x ++ y) = (ordRun p s x).bind fun t => ordRun p t y := by
 induction x with
 | nil => intro s; rfl
 | cons e x ih =>
  intro s
  simp only [List.cons_append, ordRun]
  split
  ·exact ih _
  ·rfl
theorem ordRun_range {p l : List Int} : ∀ {s t : Nat}, ordRun p s l = some t → ∀ e ∈ l, 0 ≤ e ∧ e < (p.length : Int) := by
 induction l with
 | nil => intro s t h e he; cases he
 | cons x l ih =>
  intro s t h e he
  simp only [ordRun] at h
  split at h
  ·rename_i hc
   rcases List.mem_cons.1 he with rfl | he
   ·exact hc.1
   ·exact ih h e he
  ·cases h
def pcard (n s : Nat) : Nat := (List.range n).countP s.testBit
theorem pcard_succ (n s : Nat) : pcard (n + 1) s = pcard n s + if s.testBit n then 1 else 0 := by
 unfold pcard; rw [List.range_succ, List.countP_append, List.countP_singleton]
theorem pcard_above {n e : Nat} (s : Nat) (h : n ≤ e) : pcard n (s ||| 2 ^ e) = pcard n s := by
 unfold pcard
 apply List.countP_congr
 intro x hx
 rw [List.mem_range] at hx
 rw [Nat.testBit_or, pow_bit, decide_eq_false (by omega), Bool.or_false]
theorem pcard_add {n s e : Nat} (he : e < n) (hb : s.testBit e = false) : pcard n (s ||| 2 ^ e) = pcard n s + 1 := by
 induction n with
 | zero => omega
 | succ n ih =>
  rw [pcard_succ, pcard_succ, Nat.testBit_or, pow_bit]
  rcases Nat.lt_succ_iff_lt_or_eq.1 he with h | h
  ·rw [ih h, decide_eq_false (by omega), Bool.or_false]; omega
  ·subst h; rw [pcard_above s (Nat.le_refl _), hb]; simp
theorem pcard_zero (n : Nat) : pcard n 0 = 0 := by unfold pcard; rw [List.countP_eq_zero]; intro x _; simp
theorem pcard_le (n s : Nat) : pcard n s ≤ n := by unfold pcard; have := List.countP_le_length (p := s.testBit) (l := List.range n); simpa using this
theorem pcard_all (p : List Int) : pcard p.length (allN p) = p.length := by
 unfold pcard
 have : (List.range p.length).countP (allN p).testBit = (List.range p.length).length := by
  rw [List.countP_eq_length]; intro x hx; rw [List.mem_range] at hx; rw [allN_bit, decide_eq_true hx]
 rw [this, List.length_range]
theorem all_of_pcard {p : List Int} {s : Nat} (hs : s < 2 ^ p.length) (h : pcard p.length s = p.length) : s = allN p := by
 refine ext_bits hs (allN_lt p) (fun i hi => ?_)
 rw [allN_bit, decide_eq_true hi]
 have h2 : (List.range p.length).countP s.testBit = (List.range p.length).length := by rw [List.length_range]; exact h
 rw [List.countP_eq_length] at h2
 exact h2 i (List.mem_range.2 hi)
theorem ordRun_card {p l : List Int} : ∀ {s t : Nat}, s < 2 ^ p.length → ordRun p s l = some t → t < 2 ^ p.length ∧ pcard p.length t = pcard p.length s + l.length := by
 induction l with
 | nil => intro s t hs h; simp only [ordRun, Option.some.injEq] at h; subst h; exact ⟨hs, rfl⟩
 | cons x l ih =>
  intro s t hs h
  simp only [ordRun] at h
  split at h
  ·rename_i hc
   obtain ⟨⟨h0, h1⟩, h2, h3⟩ := hc
   have hx : x.toNat < p.length := by omega
   obtain ⟨g1, g2⟩ := ih (or_lt hs (pow_lt_pow hx)) h
   refine ⟨g1, ?_⟩
   rw [g2, pcard_add hx h2, List.length_cons]; omega
  ·cases h
theorem ordB_len {p w : List Int} (h : ordB p w = true) : w.length = p.length := by
 have := (ordRun_card (Nat.two_pow_pos _) (ordB_iff.1 h)).2
 rw [pcard_all, pcard_zero] at this; omega
theorem ordB_eq (p w : List Int) : (decide (w.length = p.length) && (ordRun p 0 w).isSome) = ordB p w := by
 rw [Bool.eq_iff_iff, Bool.and_eq_true, decide_eq_true_eq]
 constructor
 ·rintro ⟨hl, hs⟩
  obtain ⟨t, ht⟩ := Option.isSome_iff_exists.1 hs
  obtain ⟨g1, g2⟩ := ordRun_card (Nat.two_pow_pos _) ht
  rw [pcard_zero, hl, Nat.zero_add] at g2
  rw [ordB_iff, ht, all_of_pcard g1 g2]
 ·intro h
  exact ⟨ordB_len h, by rw [ordB_iff.1 h]; rfl⟩
theorem ordB_range {p w : List Int} (h : ordB p w = true) : ∀ e ∈ w, 0 ≤ e ∧ e < (p.length : Int) := ordRun_range (ordB_iff.1 h)
theorem drop_getD (w : List Int) {i : Nat} (h : i < w.length) : w.drop i = w.getD i 0 :: w.drop (i + 1) := by
 rw [List.drop_eq_getElem_cons h, List.getD_eq_getElem?_getD, List.getElem?_eq_getElem h]; rfl
def idealsN (p : List Int) : List Nat := (List.range (2 ^ p.length)).filter (idealB p)
theorem mem_idealsN {p : List Int} {s : Nat} : s ∈ idealsN p ↔ s < 2 ^ p.length ∧ idealB p s = true := by
 unfold idealsN; rw [List.mem_filter, List.mem_range]
theorem idealsN_nodup (p : List Int) : (idealsN p).Nodup := List.Pairwise.filter _ List.nodup_range
theorem idealsN_len (p : List Int) : (idealsN p).length ≤ 2 ^ p.length := by
 have := List.length_filter_le (idealB p) (List.range (2 ^ p.length))
 rwa [List.length_range] at this
theorem idealB_zero' (p : List Int) : idealB p 0 = true := by rw [idealB_iff]; intro i _ h; rw [Nat.zero_testBit] at h; cases h
theorem zero_mem (p : List Int) : 0 ∈ idealsN p := mem_idealsN.2 ⟨Nat.two_pow_pos _, idealB_zero' p⟩
def frB (p : List Int) (u : Nat) : Bool := allFrom (fun i => !u.testBit i || decide (L p i &&& u = 0)) p.length 0
def stB (p : List Int) (strict : Bool) (s t : Nat) : Bool := subB s t && (!strict || frB p (ndiff t s))
def wvN (B : Nat → Nat → Bool) (ids : List Nat) : Nat → Nat → Nat
 | 0, t => if t = 0 then 1 else 0
 | k + 1, t => sumL ((ids.filter fun s => B s t).map (wvN B ids k))
theorem sumL_map_le {α : Type} (f g : α → Nat) : ∀ l : List α, (∀ x ∈ l, f x ≤ g x) → sumL (l.map f) ≤ sumL (l.map g)
 | [], _ => Nat.le_refl _
 | x :: l, h => by
  have h1 := sumL_map_le f g l (fun y hy => h y (List.mem_cons_of_mem _ hy))
  have h2 := h x List.mem_cons_self
  simp only [List.map_cons, sumL]
  omega
theorem sumL_filter_le {α : Type} (f : α → Nat) (P Q : α → Bool) : ∀ l : List α, (∀ x ∈ l, P x = true → Q x = true) → sumL ((l.filter P).map f) ≤ sumL ((l.filter Q).map f)
 | [], _ => Nat.le_refl _
 | x :: l, h => by
  have h1 := sumL_filter_le f P Q l (fun y hy => h y (List.mem_cons_of_mem _ hy))
  rw [List.filter_cons, List.filter_cons]
  cases hp : P x with
  | false =>
   rw [if_neg (by simp)]
   cases hq : Q x with
   | false => rw [if_neg (by simp)]; exact h1
   | true => rw [if_pos rfl, List.map_cons]; simp only [sumL]; omega
  | true =>
   rw [if_pos rfl, if_pos (h x List.mem_cons_self hp)]
   simp only [List.map_cons, sumL]; omega
theorem sumL_take_le {α : Type} (f : α → Nat) (l : List α) (i : Nat) : sumL ((l.take i).map f) ≤ sumL (l.map f) := by
 rw [show l.map f = (l.take i).map f ++ (l.drop i).map f by rw [← List.map_append, List.take_append_drop], sumL_append]
 omega
theorem sub_pow (c : Nat) : ∀ (n t : Nat), sumL (((List.range (2 ^ n)).filter fun s => subB s t).map fun s => c ^ pcard n s) = (c + 1) ^ pcard n t
 | 0, t => by
  have e : (List.range (2 ^ 0)).filter (fun s => subB s t) = [0] := by
   rw [show List.range (2 ^ 0) = [0] from rfl, List.filter_cons, if_pos (subB_iff.2 fun i h => by rw [Nat.zero_testBit] at h; cases h)]; rfl
  rw [e]; rfl
 | n + 1, t => by
  have hr : List.range (2 ^ (n + 1)) = List.range (2 ^ n) ++ (List.range (2 ^ n)).map (2 ^ n + ·) := by
   rw [show 2 ^ (n + 1) = 2 ^ n + 2 ^ n by rw [Nat.pow_succ]; omega, List.range_add]
  rw [hr, List.filter_append, List.map_append, sumL_append, List.filter_map, List.map_map]
  have hbit : ∀ s, s < 2 ^ n → 2 ^ n + s = s ||| 2 ^ n := fun s hs => by
   have h := Nat.two_pow_add_eq_or_of_lt hs 1
   rw [Nat.mul_one] at h
   rw [h, Nat.or_comm]
  have h1 : sumL (((List.range (2 ^ n)).filter fun s => subB s t).map fun s => c ^ pcard (n + 1) s) = (c + 1) ^ pcard n t := by
   rw [← sub_pow c n t]
   congr 1
   refine List.map_congr_left fun s hs => ?_
   have hs := List.mem_range.1 (List.mem_filter.1 hs).1
   rw [pcard_succ, Nat.testBit_lt_two_pow hs]; simp
  have hsub : ∀ s, s < 2 ^ n → subB (2 ^ n + s) t = (t.testBit n && subB s t) := fun s hs => by
   rw [hbit s hs, Bool.eq_iff_iff, Bool.and_eq_true, subB_iff, subB_iff]
   constructor
   ·intro h
    exact ⟨h n (by rw [Nat.testBit_or, pow_bit]; simp), fun i hi => h i (by rw [Nat.testBit_or, hi]; rfl)⟩
   ·rintro ⟨h1, h2⟩ i hi
    rw [Nat.testBit_or, pow_bit, Bool.or_eq_true, decide_eq_true_eq] at hi
    rcases hi with hi | hi
    ·exact h2 i hi
    ·rw [← hi]; exact h1
  have h2 : sumL (((List.range (2 ^ n)).filter ((fun s => subB s t) ∘ (2 ^ n + ·))).map ((fun s => c ^ pcard (n + 1) s) ∘ (2 ^ n + ·))) = if t.testBit n = true then c * (c + 1) ^ pcard n t else 0 := by
   have e1 : (List.range (2 ^ n)).filter ((fun s => subB s t) ∘ (2 ^ n + ·)) = (List.range (2 ^ n)).filter fun s => t.testBit n && subB s t := by
    refine List.filter_congr fun s hs => ?_
    exact hsub s (List.mem_range.1 hs)
   rw [e1]
   cases hb : t.testBit n with
   | false =>
    rw [if_neg (by simp)]
    have e2 : (List.range (2 ^ n)).filter (fun s => false && subB s t) = [] := by simp
    rw [e2]; rfl
   | true =>
    rw [if_pos rfl]
    simp only [Bool.true_and]
    rw [← sub_pow c n t]
    have hmul : ∀ l : List Nat, sumL (l.map fun s => c * c ^ pcard n s) = c * sumL (l.map fun s => c ^ pcard n s) := by
     intro l
     induction l with
     | nil => rfl
     | cons x l ih => simp only [List.map_cons, sumL]; rw [ih, Nat.mul_add]
    rw [← hmul]
    congr 1
    refine List.map_congr_left fun s hs => ?_
    have hs := List.mem_range.1 (List.mem_filter.1 hs).1
    show c ^ pcard (n + 1) (2 ^ n + s) = _
    rw [hbit s hs, pcard_add (Nat.lt_succ_self n) (Nat.testBit_lt_two_pow hs), pcard_succ, Nat.testBit_lt_two_pow hs]
    simp [Nat.pow_succ, Nat.mul_comm]
  rw [h1, h2, pcard_succ]
  cases t.testBit n with
  | false => simp
  | true => simp only [if_pos]; rw [Nat.pow_succ, Nat.mul_comm ((c + 1) ^ pcard n t), Nat.add_mul, Nat.one_mul]; omega
theorem wvN_le {p : List Int} {B : Nat → Nat → Bool} (hB : ∀ s t, B s t = true → subB s t = true) : ∀ k t, wvN B (idealsN p) k t ≤ (k + 1) ^ pcard p.length t
 | 0, t => by
  unfold wvN
  rw [Nat.one_pow]
  split <;> omega
 | k + 1, t => by
  unfold wvN
  rw [← sub_pow (k + 1) p.length t]
  refine Nat.le_trans (sumL_map_le _ (fun s => (k + 1) ^ pcard p.length s) _ (fun s _ => wvN_le hB k s)) ?_
  unfold idealsN
  rw [List.filter_filter]
  refine sumL_filter_le _ _ _ _ fun s _ h => ?_
  rw [Bool.and_eq_true] at h
  exact hB s t h.1
theorem pow_bound {c m : Nat} (hc : c ≤ 15) (hm : m ≤ 10) : c ^ m ≤ 576650390625 := by
 refine Nat.le_trans (Nat.pow_le_pow_left hc m) ?_
 have h15 : (15 : Nat) ^ m ≤ 15 ^ 10 := Nat.pow_le_pow_right (by decide) hm
 exact Nat.le_trans h15 (by decide)
theorem wvN_small {p : List Int} (hp : p.length ≤ 10) {B : Nat → Nat → Bool} (hB : ∀ s t, B s t = true → subB s t = true) {k t : Nat} (hk : k ≤ 14) : wvN B (idealsN p) k t ≤ 576650390625 :=
 Nat.le_trans (wvN_le hB k t) (pow_bound (by omega) (Nat.le_trans (pcard_le _ _) hp))
theorem stB_sub {p : List Int} {b : Bool} {s t : Nat} (h : stB p b s t = true) : subB s t = true := by
 unfold stB at h
 rw [Bool.and_eq_true] at h
 exact h.1
theorem sub_all {p : List Int} {s : Nat} (hs : s < 2 ^ p.length) : subB s (allN p) = true := subB_iff.2 fun i hi => by
 rw [allN_bit]; exact decide_eq_true (lt_of_bit hs hi)
theorem sizes_eq (n : Nat) : (decide ((1 : Int) ≤ (n : Int)) && decide ((n : Int) ≤ 10)) = (decide (1 ≤ n) && decide (n ≤ 10)) := by
 rw [Bool.eq_iff_iff]; simp only [Bool.and_eq_true, decide_eq_true_eq]; omega
end Go.Proofs.Ytonfifhoklaliaa.Q
end

section
namespace Go.Proofs.Ytonfifhoklaliaa.Q
open Go.RowKit Go.Proofs.YtonfifhoklaliaaW.PrintWords Go.Proofs.Ytonfifhoklaliaa.F
set_option linter.unusedVariables false
theorem poGood_ev (p : List Int) : Ev (fun k => spec_poGood.f k p) (isPo p) := by
 unfold spec_poGood.f
 refine Ev.call (l1In_eq _ _ _) ?_
 unfold isPo
 rw [sizes_eq]
 cases hs : (decide (1 ≤ p.length) && decide (p.length ≤ 10)) with
 | false => exact Ev.no (by simp) (Ev.ret rfl)
 | true =>
 refine Ev.yes rfl ?_
 rw [Bool.and_eq_true, decide_eq_true_eq, decide_eq_true_eq] at hs
 obtain ⟨h1, h2⟩ := hs
 have key : ∀ i, i ≤ p.length → Ev (fun k => spec_poGood.l0 k p (p.length : Int) (i : Int) p) (allFrom (rowOk p) p.length i) := by
  refine downTo p.length ?_ ?_
  ·refine Ev.step (by intro k; simp only [spec_poGood.l0]; rfl) ?_
   exact Ev.no (by omega) (Ev.ret (allFrom_end _ _).symm)
  ·intro i hi ih
   refine Ev.step (by intro k; simp only [spec_poGood.l0]; rfl) ?_
   refine Ev.yes (by omega) (Ev.yes (by omega) (Ev.yes (by omega) ?_))
   rw [rdN, mask_eq (by omega)]
   refine Ev.call (l1In_eq _ _ _) ?_
   rw [allFrom_step _ hi]
   by_cases hb : 0 ≤ p.getD i 0 ∧ p.getD i 0 ≤ 2 ^ i - 1
   rotate_left
   ·exact Ev.no (by rw [range_false hb]; simp) (Ev.ret (by rw [rowOk_false hb]; rfl))
   refine Ev.yes (range_true hb) ?_
   have hv : p.getD i 0 = (L p i : Int) := by unfold L; omega
   rw [rowOk_true hb]
   generalize hx : p.getD i 0 = x at *
   have inner : ∀ j, j ≤ i → Ev (fun k => spec_poGood.l1 k (i : Int) x (j : Int) p (p.length : Int) (i : Int) p)
    (allFrom (fun j => !(L p i).testBit j || decide (Go.bits .andNot .i64 (p.getD j 0) x = 0)) i j && allFrom (rowOk p) p.length (i + 1)) := by
    refine downTo i ?_ ?_
    ·refine Ev.step (by intro k; simp only [spec_poGood.l1]; rfl) ?_
     refine Ev.no (by omega) ?_
     rw [wid1 hi (by omega), allFrom_end, Bool.true_and]
     exact ih
    ·intro j hj ihj
     refine Ev.step (by intro k; simp only [spec_poGood.l1]; rfl) ?_
     refine Ev.yes (by omega) (Ev.yes (by omega) ?_)
     rw [allFrom_step _ hj, wid1 hj (by omega), rdN]
     cases hbit : (L p i).testBit j with
     | false => exact Ev.no (by rw [hv, bit_test (by omega), hbit]; simp) (evc ihj (by simp))
     | true =>
      refine Ev.yes (by rw [hv, bit_test (by omega), hbit]) (Ev.yes (by omega) ?_)
      refine Ev.ite (fun h => evc ihj ?_) (fun h => Ev.ret ?_)
      ·rw [decide_eq_true h]; simp
      ·rw [decide_eq_false h]; simp
   exact inner 0 (by omega)
 exact key 0 (by omega)
theorem within_eq (a b c : Int) : impl_within.f a b c = some (decide (b ≤ a) && decide (a ≤ c)) := by
 unfold impl_within.f
 by_cases h : b ≤ a
 ·rw [if_pos h]; simp [h]
 ·rw [if_neg h]; simp [h]
theorem IsPoset_ev (p : List Int) : Ev (fun k => impl_IsPoset.f k p) (isPo p) := by
 unfold impl_IsPoset.f
 refine Ev.call (show impl_Poset_n.f p = some (p.length : Int) from rfl) (Ev.call (within_eq _ _ _) ?_)
 unfold isPo
 rw [sizes_eq]
 cases hs : (decide (1 ≤ p.length) && decide (p.length ≤ 10)) with
 | false => exact Ev.no (by simp) (Ev.ret rfl)
 | true =>
 refine Ev.yes rfl ?_
 rw [Bool.and_eq_true, decide_eq_true_eq, decide_eq_true_eq] at hs
 obtain ⟨h1, h2⟩ := hs
 have key : ∀ i, i ≤ p.length → Ev (fun k => impl_IsPoset.l0 k p (p.length : Int) (i : Int) p) (allFrom (rowOk p) p.length i) := by
  refine downTo p.length ?_ ?_
  ·refine Ev.step (by intro k; simp only [impl_IsPoset.l0]; rfl) ?_
   exact Ev.no (by omega) (Ev.ret (allFrom_end _ _).symm)
  ·intro i hi ih
   refine Ev.step (by intro k; simp only [impl_IsPoset.l0]; rfl) ?_
   refine Ev.yes (by omega) (Ev.yes (by omega) (Ev.yes (by omega) ?_))
   rw [rdN, mask_eq (by omega)]
   refine Ev.call (within_eq _ _ _) ?_
   rw [allFrom_step _ hi]
   by_cases hb : 0 ≤ p.getD i 0 ∧ p.getD i 0 ≤ 2 ^ i - 1
   rotate_left
   ·exact Ev.no (by rw [range_false hb]; simp) (Ev.ret (by rw [rowOk_false hb]; rfl))
   refine Ev.yes (range_true hb) ?_
   have hv : p.getD i 0 = (L p i : Int) := by unfold L; omega
   have hm : L p i < 2 ^ i := by
    have := hb.2
    rw [hv, pow_int] at this
    have hp : 0 < 2 ^ i := Nat.two_pow_pos i
    generalize 2 ^ i = z at *
    omega
   rw [rowOk_true hb, ← items_all hm (by omega) (fun j => decide (Go.bits .andNot .i64 (p.getD j 0) (p.getD i 0) = 0)), hv]
   refine Ev.bind (items_ev _ (lt_pow hm (by omega))) ?_
   have inner : ∀ j, j ≤ (itemsN (L p i)).length → Ev (fun k => impl_IsPoset.l1 k (L p i : Int) p (p.length : Int) (i : Int) (ints (itemsN (L p i))) ((ints (itemsN (L p i))).length : Int) (j : Int) p)
    (((itemsN (L p i)).drop j).all (fun j => decide (Go.bits .andNot .i64 (p.getD j 0) (L p i : Int) = 0)) && allFrom (rowOk p) p.length (i + 1)) := by
    rw [ints_len]
    refine downTo _ ?_ ?_
    ·refine Ev.step (by intro k; simp only [impl_IsPoset.l1]; rfl) ?_
     refine Ev.no (by omega) ?_
     rw [wid1 hi (by omega), List.drop_length, List.all_nil, Bool.true_and]
     exact ih
    ·intro j hj ihj
     have hlt := items_lt hm hj
     have hl := itemsN_len (L p i)
     refine Ev.step (by intro k; simp only [impl_IsPoset.l1]; rfl) ?_
     refine Ev.yes (by omega) (Ev.yes (by omega) (Ev.yes (by rw [ints_len]; omega) ?_))
     rw [rd_ints, all_drop_step _ _ 0 hj, wid1 hj (by omega), rdN]
     refine Ev.yes (by omega) (Ev.yes (by omega) ?_)
     refine Ev.ite (fun h => evc ihj ?_) (fun h => Ev.ret ?_)
     ·rw [decide_eq_true h]; simp
     ·rw [decide_eq_false h]; simp
   exact inner 0 (by omega)
 exact key 0 (by omega)
end Go.Proofs.Ytonfifhoklaliaa.Q
end

section
namespace Go.Proofs.Ytonfifhoklaliaa.Q

end Go.Proofs.Ytonfifhoklaliaa.Q
end

section
namespace Go.Proofs.Ytonfifhoklaliaa.F
open Go.RowKit Go.Proofs.YtonfifhoklaliaaW.PrintWords Go.Proofs.YtonfifhoklaliaaW.PrintLast Go.Proofs.YtonfifhoklaliaaW.PrintMore
attribute [local go_sem] max2_int min2_int max_two min_two max_three min_three max_four min_four
set_option linter.unusedVariables false
set_option linter.unusedSimpArgs false
def spec_DrawFenceR.f (s0_0 : List Int) (s0_1 : Int) (s0_2 : Int) : Option (Int × Int × Int) := (spec_l1Cur_among.f s0_0 s0_1 s0_2 (([1, 2, 3, 4, 5, 8, 10, 11, 0] : List Int))).bind fun bt1636 => (some (bt1636.1, bt1636.2.1, bt1636.2.2))
def spec_DrawFence.f (k : Nat) (l0 : List Int) : Option ((Int)) := (spec_DrawFenceR.f l0 0 0).bind fun bt => some bt.1
theorem spec_DrawFence.mono : ∀ a0 k, LeO (spec_DrawFence.f k a0) (spec_DrawFence.f (k + 1) a0) := fun a0 k => LeO.refl _
set_option maxHeartbeats 8000000 in
set_option maxRecDepth 100000 in
theorem spec_DrawFence.calls (k : Nat) (A0 : Option Addr) (c0 : Nat) (l0 : List Int) (r : Int) (w : World) (hr0 : Kd.C (Kd.int .u8) w A0 l0.length l0) (hc0 : l0.length ≤ c0) (hf : spec_DrawFence.f k l0 = some r) :
 Calls Try.prog 18 #[.slice A0 l0.length c0] w fun e w' => e = .returned (.int .i64 r) ∧ Below w.heap.size w w' := by
 unfold spec_DrawFence.f at hf
 obtain ⟨⟨r_, r2, r3⟩, h, hf⟩ := Option.bind_eq_some_iff.1 hf
 have hf := Option.some.inj hf
 have hf1 : r = r_ := hf.symm
 clear hf
 subst hf1
 have HR0 := am hr0
 have HC0 := am hc0
 clear hr0 hc0
 have HL := am (Nat.le_refl w.heap.size)
 have HW0 := am (Nat.le_refl w.heap.size)
 have H : ((spec_l1Cur_among.f l0 0 0 (([1, 2, 3, 4, 5, 8, 10, 11, 0] : List Int))).bind fun bt1636 => (some (bt1636.1, bt1636.2.1, bt1636.2.2))) = some (r, r2, r3) := h
 clear h
 obtain ⟨y1633, hy1633⟩ : ∃ y_ : List Int, y_ = (([1, 2, 3, 4, 5, 8, 10, 11, 0] : List Int)) := ⟨_, rfl⟩
 replace H : ((spec_l1Cur_among.f l0 0 0 y1633).bind fun bt1636 => (some (bt1636.1, bt1636.2.1, bt1636.2.2))) = some (r, r2, r3) := by first | (rw [hy1633]; with_reducible exact H) | (have H2_ := (Option.bind_some _ _).symm.trans H; rw [hy1633]; with_reducible exact H2_) | (have H2_ := (Option.bind_some _ _).symm.trans H; with_reducible exact H2_) | with_reducible exact H | (rw [hy1633]; exact H) | exact H
 have Ny1633 := am hy1633
 clear hy1633
 replace H := Option.bind_eq_some_iff.mp H
 obtain ⟨⟨t1636, t1637, t1638⟩, A20, H⟩ := H
 replace H : (some (t1636, t1637, t1638)) = some (r, r2, r3) := H
 have A2 := am A20
 clear A20
 simp only [Option.some.injEq, Prod.mk.injEq] at H
 obtain ⟨rfl, rfl, rfl⟩ := H
 go_enter Try.func18, Try.ntmps18
 go_wp2_with (first | ((with_reducible refine gate_dst (N := 6) rfl ?_); refine qx (N := 6) (cs := #[.slice A0 l0.length c0, .int .i64 0, .int .u64 0]) (t := 74) ?_; intro g hg w1_ hbox hb; have hge : w.heap.size ≤ g := (by rw [hg]; exact Nat.le_refl _); have HI0 : Aside0 (IsS74 w w1_ g l0 0 0) := ⟨A0, c0, hbox, hge, HR0.out⟩; have HK := am (KeepBut.of_below hb g none); have HB := am hb; clear hbox hb hge hg) | ((with_reducible refine gate_dst (N := 8) rfl ?_); refine Kd.R_lit (Kd.int .i64) _ 3 ?hg (N := 8) ?hd (xs := ([1, 2, 3, 4, 5, 8, 10, 11, 0] : List Int)) (inner := [.int .i64 1, .int .i64 2, .int .i64 3, .int .i64 4, .int .i64 5, .int .i64 8, .int .i64 10, .int .i64 11, .int .i64 0]) (ok := fun _ => True) (okp := fun _ => True) ?hr ?hp (fun _ hk => hk) trivial (Below.refl _ _) (Nat.le_refl _) (by simp) ?_; (case hd => rfl); (case hg => rfl); (case hr => first | (go_simp; done) | (go_simp; rfl)); (case hp => exact (Reps.one (show Kd.M (Kd.int .i64) _ _ _ 1 [.int .i64 1] from rfl) (Reps.one (show Kd.M (Kd.int .i64) _ _ _ 2 [.int .i64 2] from rfl) (Reps.one (show Kd.M (Kd.int .i64) _ _ _ 3 [.int .i64 3] from rfl) (Reps.one (show Kd.M (Kd.int .i64) _ _ _ 4 [.int .i64 4] from rfl) (Reps.one (show Kd.M (Kd.int .i64) _ _ _ 5 [.int .i64 5] from rfl) (Reps.one (show Kd.M (Kd.int .i64) _ _ _ 8 [.int .i64 8] from rfl) (Reps.one (show Kd.M (Kd.int .i64) _ _ _ 10 [.int .i64 10] from rfl) (Reps.one (show Kd.M (Kd.int .i64) _ _ _ 11 [.int .i64 11] from rfl) (Reps.one (show Kd.M (Kd.int .i64) _ _ _ 0 [.int .i64 0] from rfl) (Reps.none _ _))))))))))); intro v1634 w3 ho4 hb hg_ hnew_; clear hg_ hnew_; (first | rw [← Ny1633.out] at ho4 | (simp only [Int.reduceToNat] at ho4; rw [← Ny1633.out] at ho4)); have HO1635 := am (Kd.R_lower ho4 (keep_size (w := w) (g := g) (row := none) qK)); have n1_ := am (IsS74.below qI74 hb); have n2_ := am (KeepBut.trans qK (KeepBut.of_below hb g none) (.inl rfl)); replace HB := am (below_step qB hb); clear HI0 HK; have HI0 := n1_; have HK := n2_; clear n1_ n2_; clear hb ho4; obtain ⟨Ao5, co5, eo5⟩ := Kd.R_slice HO1635.out; subst eo5) | ((with_reducible refine gate_callee (f := 78) rfl ?_); refine gL (some 9) Try.func78 #[.pointer (some ⟨g, 0, none⟩), .slice Ao5 y1633.length co5] ?_; (with_reducible refine (spec_l1Cur_among.calls g l0 0 0 _ _ y1633 t1636 t1637 t1638 w _ ?side1 ?side2 ?side3 ?side4 ?side5 A2.out).mono ?_); (case side1 => exact qI74); (case side2 => exact qB); (case side3 => exact qC (Kd.R_reads' HO1635.out).2.2); (case side4 => exact (Kd.R_reads' HO1635.out).2.1); (case side5 => exact far_slice (IsS74.own_ne HI0.out HO1635.out (by decide))); rintro e w6 ⟨rfl, hi, hb, hk⟩; refine ⟨_, rfl, ?_⟩; replace HO1635 := am (Kd.R_mono (Kd.R_keep (IsS74.apart (show IsS74 w _ g l0 0 0 from qI74) (qR HO1635.out) (by decide)) hk (fun _ h => h.2)) (fun _ h => h.1)); have n1_ := am (KeepBut.trans qK hk (.inl rfl)); have n2_ := am (hb); replace HI0 := am (hi); clear HK HB; have HK := n1_; have HB := n2_; clear n1_ n2_; (try clear hb); (try clear hb2); (try clear hk); (try clear hi)))
 go_ret
 exact ⟨qr, qB⟩
def spec_DrawRectangleR.f (s0_0 : List Int) (s0_1 : Int) (s0_2 : Int) : Option (Int × Int × Int × Int) := (spec_l1Cur_among.f s0_0 s0_1 s0_2 (([1, 2, 3, 4, 5, 10, 11, 0, 4611686018427387904] : List Int))).bind fun bt1598 => ((spec_l1Cur_among.f s0_0 bt1598.2.1 bt1598.2.2 (([1, 2, 3, 5, 10, 0, (-1), 4611686018427387904] : List Int))).bind fun bt1604 => (some (bt1598.1, bt1604.1, bt1604.2.1, bt1604.2.2)))
def spec_DrawRectangle.f (k : Nat) (l0 : List Int) : Option ((Int) × (Int)) := (spec_DrawRectangleR.f l0 0 0).bind fun bt => some (bt.1, bt.2.1)
theorem spec_DrawRectangle.mono : ∀ a0 k, LeO (spec_DrawRectangle.f k a0) (spec_DrawRectangle.f (k + 1) a0) := fun a0 k => LeO.refl _
set_option maxHeartbeats 8000000 in
set_option maxRecDepth 100000 in
theorem spec_DrawRectangle.calls (k : Nat) (A0 : Option Addr) (c0 : Nat) (l0 : List Int) (r1 : Int) (r2 : Int) (w : World) (hr0 : Kd.C (Kd.int .u8) w A0 l0.length l0) (hc0 : l0.length ≤ c0) (hf : spec_DrawRectangle.f k l0 = some (r1, r2)) :
 Calls Try.prog 8 #[.slice A0 l0.length c0] w fun e w' => e = .returned (.tuple #[.int .i64 r1, .int .i64 r2]) ∧ Below w.heap.size w w' := by
 unfold spec_DrawRectangle.f at hf
 obtain ⟨⟨r1_, r2_, r3, r4⟩, h, hf⟩ := Option.bind_eq_some_iff.1 hf
 have hf := Option.some.inj hf
 simp only [Prod.mk.injEq] at hf
 obtain ⟨hf0, hf1⟩ := hf
 replace hf0 := hf0.symm
 subst hf0
 replace hf1 := hf1.symm
 subst hf1
 have HR0 := am hr0
 have HC0 := am hc0
 clear hr0 hc0
 have HL := am (Nat.le_refl w.heap.size)
 have HW0 := am (Nat.le_refl w.heap.size)
 have H : ((spec_l1Cur_among.f l0 0 0 (([1, 2, 3, 4, 5, 10, 11, 0, 4611686018427387904] : List Int))).bind fun bt1598 => ((spec_l1Cur_among.f l0 bt1598.2.1 bt1598.2.2 (([1, 2, 3, 5, 10, 0, (-1), 4611686018427387904] : List Int))).bind fun bt1604 => (some (bt1598.1, bt1604.1, bt1604.2.1, bt1604.2.2)))) = some (r1, r2, r3, r4) := h
 clear h
 obtain ⟨y1595, hy1595⟩ : ∃ y_ : List Int, y_ = (([1, 2, 3, 4, 5, 10, 11, 0, 4611686018427387904] : List Int)) := ⟨_, rfl⟩
 replace H : ((spec_l1Cur_among.f l0 0 0 y1595).bind fun bt1598 => ((spec_l1Cur_among.f l0 bt1598.2.1 bt1598.2.2 (([1, 2, 3, 5, 10, 0, (-1), 4611686018427387904] : List Int))).bind fun bt1604 => (some (bt1598.1, bt1604.1, bt1604.2.1, bt1604.2.2)))) = some (r1, r2, r3, r4) := by first | (rw [hy1595]; with_reducible exact H) | (have H2_ := (Option.bind_some _ _).symm.trans H; rw [hy1595]; with_reducible exact H2_) | (have H2_ := (Option.bind_some _ _).symm.trans H; with_reducible exact H2_) | with_reducible exact H | (rw [hy1595]; exact H) | exact H
 have Ny1595 := am hy1595
 clear hy1595
 replace H := Option.bind_eq_some_iff.mp H
 obtain ⟨⟨t1598, t1599, t1600⟩, A20, H⟩ := H
 replace H : ((spec_l1Cur_among.f l0 t1599 t1600 (([1, 2, 3, 5, 10, 0, (-1), 4611686018427387904] : List Int))).bind fun bt1604 => (some (t1598, bt1604.1, bt1604.2.1, bt1604.2.2))) = some (r1, r2, r3, r4) := H
 have A2 := am A20
 clear A20
 obtain ⟨y1601, hy1601⟩ : ∃ y_ : List Int, y_ = (([1, 2, 3, 5, 10, 0, (-1), 4611686018427387904] : List Int)) := ⟨_, rfl⟩
 replace H : ((spec_l1Cur_among.f l0 t1599 t1600 y1601).bind fun bt1604 => (some (t1598, bt1604.1, bt1604.2.1, bt1604.2.2))) = some (r1, r2, r3, r4) := by first | (rw [hy1601]; with_reducible exact H) | (have H2_ := (Option.bind_some _ _).symm.trans H; rw [hy1601]; with_reducible exact H2_) | (have H2_ := (Option.bind_some _ _).symm.trans H; with_reducible exact H2_) | with_reducible exact H | (rw [hy1601]; exact H) | exact H
 have Ny1601 := am hy1601
 clear hy1601
 replace H := Option.bind_eq_some_iff.mp H
 obtain ⟨⟨t1604, t1605, t1606⟩, A30, H⟩ := H
 replace H : (some (t1598, t1604, t1605, t1606)) = some (r1, r2, r3, r4) := H
 have A3 := am A30
 clear A30
 simp only [Option.some.injEq, Prod.mk.injEq] at H
 obtain ⟨rfl, rfl, rfl, rfl⟩ := H
 go_enter Try.func8, Try.ntmps8
 go_wp2_with (first | ((with_reducible refine gate_dst (N := 7) rfl ?_); refine qx (N := 7) (cs := #[.slice A0 l0.length c0, .int .i64 0, .int .u64 0]) (t := 74) ?_; intro g hg w1_ hbox hb; have hge : w.heap.size ≤ g := (by rw [hg]; exact Nat.le_refl _); have HI0 : Aside0 (IsS74 w w1_ g l0 0 0) := ⟨A0, c0, hbox, hge, HR0.out⟩; have HK := am (KeepBut.of_below hb g none); have HB := am hb; clear hbox hb hge hg) | ((with_reducible refine gate_dst (N := 9) rfl ?_); refine Kd.R_lit (Kd.int .i64) _ 3 ?hg (N := 9) ?hd (xs := ([1, 2, 3, 4, 5, 10, 11, 0, 4611686018427387904] : List Int)) (inner := [.int .i64 1, .int .i64 2, .int .i64 3, .int .i64 4, .int .i64 5, .int .i64 10, .int .i64 11, .int .i64 0, .int .i64 4611686018427387904]) (ok := fun _ => True) (okp := fun _ => True) ?hr ?hp (fun _ hk => hk) trivial (Below.refl _ _) (Nat.le_refl _) (by simp) ?_; (case hd => rfl); (case hg => rfl); (case hr => first | (go_simp; done) | (go_simp; rfl)); (case hp => exact (Reps.one (show Kd.M (Kd.int .i64) _ _ _ 1 [.int .i64 1] from rfl) (Reps.one (show Kd.M (Kd.int .i64) _ _ _ 2 [.int .i64 2] from rfl) (Reps.one (show Kd.M (Kd.int .i64) _ _ _ 3 [.int .i64 3] from rfl) (Reps.one (show Kd.M (Kd.int .i64) _ _ _ 4 [.int .i64 4] from rfl) (Reps.one (show Kd.M (Kd.int .i64) _ _ _ 5 [.int .i64 5] from rfl) (Reps.one (show Kd.M (Kd.int .i64) _ _ _ 10 [.int .i64 10] from rfl) (Reps.one (show Kd.M (Kd.int .i64) _ _ _ 11 [.int .i64 11] from rfl) (Reps.one (show Kd.M (Kd.int .i64) _ _ _ 0 [.int .i64 0] from rfl) (Reps.one (show Kd.M (Kd.int .i64) _ _ _ 4611686018427387904 [.int .i64 4611686018427387904] from rfl) (Reps.none _ _))))))))))); intro v1596 w4 ho5 hb hg_ hnew_; clear hg_ hnew_; (first | rw [← Ny1595.out] at ho5 | (simp only [Int.reduceToNat] at ho5; rw [← Ny1595.out] at ho5)); have HO1597 := am (Kd.R_lower ho5 (keep_size (w := w) (g := g) (row := none) qK)); have n1_ := am (IsS74.below qI74 hb); have n2_ := am (KeepBut.trans qK (KeepBut.of_below hb g none) (.inl rfl)); replace HB := am (below_step qB hb); clear HI0 HK; have HI0 := n1_; have HK := n2_; clear n1_ n2_; clear hb ho5; obtain ⟨Ao6, co6, eo6⟩ := Kd.R_slice HO1597.out; subst eo6) | ((with_reducible refine gate_callee (f := 78) rfl ?_); refine gL (some 10) Try.func78 #[.pointer (some ⟨g, 0, none⟩), .slice Ao6 y1595.length co6] ?_; (with_reducible refine (spec_l1Cur_among.calls g l0 0 0 _ _ y1595 t1598 t1599 t1600 w _ ?side1 ?side2 ?side3 ?side4 ?side5 A2.out).mono ?_); (case side1 => exact qI74); (case side2 => exact qB); (case side3 => exact qC (Kd.R_reads' HO1597.out).2.2); (case side4 => exact (Kd.R_reads' HO1597.out).2.1); (case side5 => exact far_slice (IsS74.own_ne HI0.out HO1597.out (by decide))); rintro e w7 ⟨rfl, hi, hb, hk⟩; refine ⟨_, rfl, ?_⟩; replace HO1597 := am (Kd.R_mono (Kd.R_keep (IsS74.apart (show IsS74 w _ g l0 0 0 from qI74) (qR HO1597.out) (by decide)) hk (fun _ h => h.2)) (fun _ h => h.1)); have n1_ := am (KeepBut.trans qK hk (.inl rfl)); have n2_ := am (hb); replace HI0 := am (hi); clear HK HB; have HK := n1_; have HB := n2_; clear n1_ n2_; (try clear hb); (try clear hb2); (try clear hk); (try clear hi)) | ((with_reducible refine gate_dst (N := 12) rfl ?_); refine Kd.R_lit (Kd.int .i64) _ 3 ?hg (N := 12) ?hd (xs := ([1, 2, 3, 5, 10, 0, (-1), 4611686018427387904] : List Int)) (inner := [.int .i64 1, .int .i64 2, .int .i64 3, .int .i64 5, .int .i64 10, .int .i64 0, .int .i64 (-1), .int .i64 4611686018427387904]) (ok := fun _ => True) (okp := fun _ => True) ?hr ?hp (fun _ hk => hk) trivial (Below.refl _ _) (Nat.le_refl _) (by simp) ?_; (case hd => rfl); (case hg => rfl); (case hr => first | (go_simp; done) | (go_simp; rfl)); (case hp => exact (Reps.one (show Kd.M (Kd.int .i64) _ _ _ 1 [.int .i64 1] from rfl) (Reps.one (show Kd.M (Kd.int .i64) _ _ _ 2 [.int .i64 2] from rfl) (Reps.one (show Kd.M (Kd.int .i64) _ _ _ 3 [.int .i64 3] from rfl) (Reps.one (show Kd.M (Kd.int .i64) _ _ _ 5 [.int .i64 5] from rfl) (Reps.one (show Kd.M (Kd.int .i64) _ _ _ 10 [.int .i64 10] from rfl) (Reps.one (show Kd.M (Kd.int .i64) _ _ _ 0 [.int .i64 0] from rfl) (Reps.one (show Kd.M (Kd.int .i64) _ _ _ (-1) [.int .i64 (-1)] from rfl) (Reps.one (show Kd.M (Kd.int .i64) _ _ _ 4611686018427387904 [.int .i64 4611686018427387904] from rfl) (Reps.none _ _)))))))))); intro v1602 w8 ho9 hb hg_ hnew_; clear hg_ hnew_; (first | rw [← Ny1601.out] at ho9 | (simp only [Int.reduceToNat] at ho9; rw [← Ny1601.out] at ho9)); have n0_ := am (Kd.R_elder' (qR HO1597.out) (Kd.R_base ho9) hb); have HO1603 := am (Kd.R_lower (Kd.R_new' ho9 (Kd.R_lt (qR HO1597.out))) (keep_size (w := w) (g := g) (row := none) qK)); have n2_ := am (IsS74.below qI74 hb); have n3_ := am (KeepBut.trans qK (KeepBut.of_below hb g none) (.inl rfl)); replace HB := am (below_step qB hb); clear HO1597 HI0 HK; have HO1597 := n0_; have HI0 := n2_; have HK := n3_; clear n0_ n2_ n3_; clear hb ho9; obtain ⟨Ao10, co10, eo10⟩ := Kd.R_slice HO1603.out; subst eo10) | ((with_reducible refine gate_callee (f := 78) rfl ?_); refine gL (some 13) Try.func78 #[.pointer (some ⟨g, 0, none⟩), .slice Ao10 y1601.length co10] ?_; (with_reducible refine (spec_l1Cur_among.calls g l0 t1599 t1600 _ _ y1601 t1604 t1605 t1606 w _ ?side1 ?side2 ?side3 ?side4 ?side5 A3.out).mono ?_); (case side1 => exact qI74); (case side2 => exact qB); (case side3 => exact qC (Kd.R_reads' HO1603.out).2.2); (case side4 => exact (Kd.R_reads' HO1603.out).2.1); (case side5 => exact far_slice (IsS74.own_ne HI0.out HO1603.out (by decide))); rintro e w11 ⟨rfl, hi, hb, hk⟩; refine ⟨_, rfl, ?_⟩; replace HO1597 := am (Kd.R_mono (Kd.R_keep (IsS74.apart (show IsS74 w _ g l0 t1599 t1600 from qI74) (qR HO1597.out) (by decide)) hk (fun _ h => h.2)) (fun _ h => h.1)); replace HO1603 := am (Kd.R_mono (Kd.R_keep (IsS74.apart (show IsS74 w _ g l0 t1599 t1600 from qI74) (qR HO1603.out) (by decide)) hk (fun _ h => h.2)) (fun _ h => h.1)); have n2_ := am (KeepBut.trans qK hk (.inl rfl)); have n3_ := am (hb); replace HI0 := am (hi); clear HK HB; have HK := n2_; have HB := n3_; clear n2_ n3_; (try clear hb); (try clear hb2); (try clear hk); (try clear hi)))
 go_ret2
 exact ⟨qr, qB⟩
def spec_DrawStaircaseR.f (s0_0 : List Int) (s0_1 : Int) (s0_2 : Int) : Option (Int × Int × Int) := (spec_l1Cur_among.f s0_0 s0_1 s0_2 (([1, 2, 3, 4, 5, 0, (-1)] : List Int))).bind fun bt1642 => (some (bt1642.1, bt1642.2.1, bt1642.2.2))
def spec_DrawStaircase.f (k : Nat) (l0 : List Int) : Option ((Int)) := (spec_DrawStaircaseR.f l0 0 0).bind fun bt => some bt.1
theorem spec_DrawStaircase.mono : ∀ a0 k, LeO (spec_DrawStaircase.f k a0) (spec_DrawStaircase.f (k + 1) a0) := fun a0 k => LeO.refl _
set_option maxHeartbeats 8000000 in
set_option maxRecDepth 100000 in
theorem spec_DrawStaircase.calls (k : Nat) (A0 : Option Addr) (c0 : Nat) (l0 : List Int) (r : Int) (w : World) (hr0 : Kd.C (Kd.int .u8) w A0 l0.length l0) (hc0 : l0.length ≤ c0) (hf : spec_DrawStaircase.f k l0 = some r) :
 Calls Try.prog 15 #[.slice A0 l0.length c0] w fun e w' => e = .returned (.int .i64 r) ∧ Below w.heap.size w w' := by
 unfold spec_DrawStaircase.f at hf
 obtain ⟨⟨r_, r2, r3⟩, h, hf⟩ := Option.bind_eq_some_iff.1 hf
 have hf := Option.some.inj hf
 have hf1 : r = r_ := hf.symm
 clear hf
 subst hf1
 have HR0 := am hr0
 have HC0 := am hc0
 clear hr0 hc0
 have HL := am (Nat.le_refl w.heap.size)
 have HW0 := am (Nat.le_refl w.heap.size)
 have H : ((spec_l1Cur_among.f l0 0 0 (([1, 2, 3, 4, 5, 0, (-1)] : List Int))).bind fun bt1642 => (some (bt1642.1, bt1642.2.1, bt1642.2.2))) = some (r, r2, r3) := h
 clear h
 obtain ⟨y1639, hy1639⟩ : ∃ y_ : List Int, y_ = (([1, 2, 3, 4, 5, 0, (-1)] : List Int)) := ⟨_, rfl⟩
 replace H : ((spec_l1Cur_among.f l0 0 0 y1639).bind fun bt1642 => (some (bt1642.1, bt1642.2.1, bt1642.2.2))) = some (r, r2, r3) := by first | (rw [hy1639]; with_reducible exact H) | (have H2_ := (Option.bind_some _ _).symm.trans H; rw [hy1639]; with_reducible exact H2_) | (have H2_ := (Option.bind_some _ _).symm.trans H; with_reducible exact H2_) | with_reducible exact H | (rw [hy1639]; exact H) | exact H
 have Ny1639 := am hy1639
 clear hy1639
 replace H := Option.bind_eq_some_iff.mp H
 obtain ⟨⟨t1642, t1643, t1644⟩, A20, H⟩ := H
 replace H : (some (t1642, t1643, t1644)) = some (r, r2, r3) := H
 have A2 := am A20
 clear A20
 simp only [Option.some.injEq, Prod.mk.injEq] at H
 obtain ⟨rfl, rfl, rfl⟩ := H
 go_enter Try.func15, Try.ntmps15
 go_wp2_with (first | ((with_reducible refine gate_dst (N := 6) rfl ?_); refine qx (N := 6) (cs := #[.slice A0 l0.length c0, .int .i64 0, .int .u64 0]) (t := 74) ?_; intro g hg w1_ hbox hb; have hge : w.heap.size ≤ g := (by rw [hg]; exact Nat.le_refl _); have HI0 : Aside0 (IsS74 w w1_ g l0 0 0) := ⟨A0, c0, hbox, hge, HR0.out⟩; have HK := am (KeepBut.of_below hb g none); have HB := am hb; clear hbox hb hge hg) | ((with_reducible refine gate_dst (N := 8) rfl ?_); refine Kd.R_lit (Kd.int .i64) _ 3 ?hg (N := 8) ?hd (xs := ([1, 2, 3, 4, 5, 0, (-1)] : List Int)) (inner := [.int .i64 1, .int .i64 2, .int .i64 3, .int .i64 4, .int .i64 5, .int .i64 0, .int .i64 (-1)]) (ok := fun _ => True) (okp := fun _ => True) ?hr ?hp (fun _ hk => hk) trivial (Below.refl _ _) (Nat.le_refl _) (by simp) ?_; (case hd => rfl); (case hg => rfl); (case hr => first | (go_simp; done) | (go_simp; rfl)); (case hp => exact (Reps.one (show Kd.M (Kd.int .i64) _ _ _ 1 [.int .i64 1] from rfl) (Reps.one (show Kd.M (Kd.int .i64) _ _ _ 2 [.int .i64 2] from rfl) (Reps.one (show Kd.M (Kd.int .i64) _ _ _ 3 [.int .i64 3] from rfl) (Reps.one (show Kd.M (Kd.int .i64) _ _ _ 4 [.int .i64 4] from rfl) (Reps.one (show Kd.M (Kd.int .i64) _ _ _ 5 [.int .i64 5] from rfl) (Reps.one (show Kd.M (Kd.int .i64) _ _ _ 0 [.int .i64 0] from rfl) (Reps.one (show Kd.M (Kd.int .i64) _ _ _ (-1) [.int .i64 (-1)] from rfl) (Reps.none _ _))))))))); intro v1640 w3 ho4 hb hg_ hnew_; clear hg_ hnew_; (first | rw [← Ny1639.out] at ho4 | (simp only [Int.reduceToNat] at ho4; rw [← Ny1639.out] at ho4)); have HO1641 := am (Kd.R_lower ho4 (keep_size (w := w) (g := g) (row := none) qK)); have n1_ := am (IsS74.below qI74 hb); have n2_ := am (KeepBut.trans qK (KeepBut.of_below hb g none) (.inl rfl)); replace HB := am (below_step qB hb); clear HI0 HK; have HI0 := n1_; have HK := n2_; clear n1_ n2_; clear hb ho4; obtain ⟨Ao5, co5, eo5⟩ := Kd.R_slice HO1641.out; subst eo5) | ((with_reducible refine gate_callee (f := 78) rfl ?_); refine gL (some 9) Try.func78 #[.pointer (some ⟨g, 0, none⟩), .slice Ao5 y1639.length co5] ?_; (with_reducible refine (spec_l1Cur_among.calls g l0 0 0 _ _ y1639 t1642 t1643 t1644 w _ ?side1 ?side2 ?side3 ?side4 ?side5 A2.out).mono ?_); (case side1 => exact qI74); (case side2 => exact qB); (case side3 => exact qC (Kd.R_reads' HO1641.out).2.2); (case side4 => exact (Kd.R_reads' HO1641.out).2.1); (case side5 => exact far_slice (IsS74.own_ne HI0.out HO1641.out (by decide))); rintro e w6 ⟨rfl, hi, hb, hk⟩; refine ⟨_, rfl, ?_⟩; replace HO1641 := am (Kd.R_mono (Kd.R_keep (IsS74.apart (show IsS74 w _ g l0 0 0 from qI74) (qR HO1641.out) (by decide)) hk (fun _ h => h.2)) (fun _ h => h.1)); have n1_ := am (KeepBut.trans qK hk (.inl rfl)); have n2_ := am (hb); replace HI0 := am (hi); clear HK HB; have HK := n1_; have HB := n2_; clear n1_ n2_; (try clear hb); (try clear hb2); (try clear hk); (try clear hi)))
 go_ret
 exact ⟨qr, qB⟩
end Go.Proofs.Ytonfifhoklaliaa.F
end

section
namespace Go.Proofs.Ytonfifhoklaliaa.F
open Go.RowKit Go.Proofs.YtonfifhoklaliaaW.PrintWords Go.Proofs.YtonfifhoklaliaaW.PrintLast Go.Proofs.YtonfifhoklaliaaW.PrintMore
set_option linter.unusedVariables false
set_option linter.unusedSimpArgs false
def fenceLow (a0 : Int) : Int := wrap64 (Int.tdiv (wrap64 (a0 + 1)) 2)
def impl_Fence.f (k : Nat) (a0 : Int) : Option (List Int × Bool) :=
 (impl_within.f a0 1 10).bind fun b => if b = true then (made_fence.f (fun j i => lit_fence.f j i (fenceLow a0)) k a0).bind fun r => some (r, true) else some ([], false)
theorem impl_Fence.mono : ∀ a0 k, LeO (impl_Fence.f k a0) (impl_Fence.f (k + 1) a0) := fun a0 k => by
 unfold impl_Fence.f
 exact LeO.bind (LeO.refl _) (fun b => LeO.ite (LeO.bind (made_fence.mono _ _ _) (fun _ => LeO.refl _)) (LeO.refl _))
set_option maxHeartbeats 8000000 in
set_option maxRecDepth 100000 in
theorem impl_Fence.calls (k : Nat) (a0 : Int) (r0 : List Int) (r1 : Bool) (w : World) (h : impl_Fence.f k a0 = some (r0, r1)) :
 Calls Try.prog 19 #[.int .i64 a0] w fun e w' => ∃ v0_ : Value, e = .returned (.tuple #[.agg #[v0_], .bool r1]) ∧ Kd.R (Kd.int .i64) 3 w' w.heap.size (fun _ => True) v0_ r0 ∧ Below w.heap.size w w' := by
 have hu34 := Try.underlying28
 have hmf : ∀ (fn : Fn) (first cap : Array Value) (w : World), (Instr.makeFunc fn first cap).run Try.prog w = .ok (.func fn first cap) w := fun _ _ _ _ => rfl
 unfold impl_Fence.f at h
 obtain ⟨b, hb, h⟩ := Option.bind_eq_some_iff.1 h
 have HI := am hb
 have HP0 : Aside0 ((w.alloc (.cells #[.slice none 0 0] 28 (0, 0))).heap[w.heap.size]? = some (.cells #[.slice none 0 0] 28 (0, 0))) := ⟨blk_new w _⟩
 have HB0 : Aside0 (Below w.heap.size w (w.alloc (.cells #[.slice none 0 0] 28 (0, 0)))) := ⟨below_alloc (Below.refl w.heap.size w) _⟩
 cases b with
 | false =>
  obtain ⟨rfl, rfl⟩ : [] = r0 ∧ false = r1 := by simpa using h
  clear h hb
  go_enter Try.func19, Try.ntmps19
  go_wp2_with (go_at_call 87; (with_reducible refine (impl_within.calls a0 1 10 false _ HI.out).mono ?_); rintro e w1 ⟨rfl, nd, rfl⟩)
  have HP1 := am (blk_drewN HP0.out nd)
  refine bodyPost_ret (results_ct rfl _ _ w.heap.size 28 #[.slice none 0 0] (0, 0) _ rfl (blk_put (cs := #[.slice none 0 0]) HP1.out 0 _ rfl) hu34 rfl (by kernel_rfl)) rfl ⟨_, rfl, Kd.R_nil _ _ _ _ _, (pw_below_drewN HB0.out nd).setCell (Nat.le_refl _) _⟩
 | true =>
  have h := (if_pos rfl).symm.trans h
  obtain ⟨o, hmade, h⟩ := Option.bind_eq_some_iff.1 h
  obtain ⟨rfl, rfl⟩ : o = r0 ∧ true = r1 := by simpa using h
  have HM := am hmade
  clear h hb hmade
  go_enter Try.func19, Try.ntmps19
  go_wp2_with (go_at_call 87; (with_reducible refine (impl_within.calls a0 1 10 true _ HI.out).mono ?_); rintro e w1 ⟨rfl, nd, rfl⟩)
  obtain ⟨WB, hWB⟩ : ∃ x, x = (w.alloc (.cells #[.slice none 0 0] 28 (0, 0))).drewN nd := ⟨_, rfl⟩
  rw [← hWB]
  have hsz : WB.heap.size = w.heap.size + 1 := by rw [hWB]; simp [World.drewN]
  have HP1 : Aside0 (WB.heap[w.heap.size]? = some (.cells #[.slice none 0 0] 28 (0, 0))) := ⟨by rw [hWB]; exact blk_drewN HP0.out nd⟩
  have HB1 : Aside0 (Below w.heap.size w WB) := ⟨by rw [hWB]; exact pw_below_drewN HB0.out nd⟩
  obtain ⟨W2, hW2⟩ : ∃ x, x = WB.alloc (.cells #[.int .i64 (fenceLow a0)] 3 (0, 0)) := ⟨_, rfl⟩
  have hsz2 : W2.heap.size = w.heap.size + 2 := by rw [hW2]; simp [hsz]
  have hcB : W2.cell? ⟨w.heap.size + 1, 0, none⟩ = some (.int .i64 (fenceLow a0)) := by rw [hW2, World.cell?_alloc_at _ _ _ _ (by rw [hsz])]; rfl
  have HP2 : Aside0 (W2.heap[w.heap.size]? = some (.cells #[.slice none 0 0] 28 (0, 0))) := ⟨by rw [hW2]; exact blk_alloc HP1.out _⟩
  have HB2 : Aside0 (Below w.heap.size w W2) := ⟨by rw [hW2]; exact below_alloc HB1.out _⟩
  have HF : Aside0 (∀ (x0_ : Int) (x1_ : Int) (r_ : Bool) (W' : World), lit_fence.f x0_ x1_ (fenceLow a0) = some r_ → Below W2.heap.size W2 W' → Calls Try.prog 91 #[.int .i64 x0_, .int .i64 x1_, .pointer (some ⟨w.heap.size + 1, 0, none⟩)] W' fun e w' => e = .returned (.bool r_) ∧ Drawn0 W' w') :=
   ⟨fun x0_ x1_ r_ W' hF hb => lit_fence.calls (w.heap.size + 1) x0_ x1_ (fenceLow a0) r_ W' ((hb.cell (p := ⟨w.heap.size + 1, 0, none⟩) (by rw [hsz2]; show w.heap.size + 1 < w.heap.size + 2; omega)).trans hcB) hF⟩
  have hcall := made_fence.calls (fun j i => lit_fence.f j i (fenceLow a0)) (w.heap.size + 1) k a0 o W2 HF HM.out
  have hcall' : Aside0 (Calls Try.prog 88 #[.int .i64 a0, .func (.func 91) #[] #[.pointer (some ⟨w.heap.size + 1, 0, none⟩)]] (WB.alloc (.cells #[.int .i64 (wrap64 (Int.tdiv (wrap64 (a0 + 1)) 2))] 3 (0, 0))) fun e w' => ∃ v0_ : Value, e = .returned (.agg #[v0_]) ∧ (Kd.R (Kd.int .i64) 3 w' W2.heap.size (fun _ => True) v0_ o ∧ Below W2.heap.size W2 w')) := ⟨by have e_ : WB.alloc (.cells #[.int .i64 (wrap64 (Int.tdiv (wrap64 (a0 + 1)) 2))] 3 (0, 0)) = W2 := hW2.symm; rw [e_]; exact hcall⟩
  have HW := Lib.hid hW2
  have HsW := am hsz2
  clear hcall HF hW2 hcB hsz2 hsz HM hWB HP0 HB0 HP1 HB1
  with_reducible refine hcall'.out.mono ?_
  rintro e w1 ⟨v, rfl, ho, hb⟩
  have hlt : w.heap.size < W2.heap.size := by have := HsW.out; omega
  have hP1 := am ((hb.block w.heap.size hlt).trans HP2.out)
  have hc1 : w1.cell? ⟨w.heap.size, 0, none⟩ = some (.slice none 0 0) := (blk_cell hP1.out 0).trans rfl
  have hf1 := blk_frozen hP1.out 0
  obtain ⟨Ao, co, eo⟩ := Kd.R_slice ho
  subst eo
  have Ho := am ho
  have Hb := am hb
  have Hlt := am hlt
  clear ho hb hlt hmf hcall'
  go_wp2
  refine bodyPost_ret (results_ct rfl _ _ w.heap.size 28 #[.slice Ao o.length co] (0, 0) _ rfl (blk_put (cs := #[.slice none 0 0]) hP1.out 0 _ rfl) hu34 rfl (by kernel_rfl)) rfl ⟨_, rfl, ?_, ?_⟩
  ·refine Kd.R_lower (base := W2.heap.size) ?_ (by have := HsW.out; omega)
   exact Kd.R_mono (Kd.R_far (p := ⟨w.heap.size, 0, none⟩) (Kd.R_bound Ho.out) (fun k hk => by have := hk.2.1; have := Hlt.out; show k ≠ w.heap.size; omega) _) (fun _ _ => trivial)
  ·exact (HB2.out.trans (Hb.out.mono (by have := HsW.out; omega))).setCell (Nat.le_refl _) _
def impl_Poset_ideals.f (k : Nat) (l0_0 : List Int) : Option (List Int) := sets_ideals.f (fun x => lit_ideals.f k x l0_0) k l0_0
theorem ideals_mono_l {F F' : Int → Option Bool} (hF : ∀ x, LeO (F x) (F' x)) : ∀ k y0 y1 y2, LeO (sets_ideals.l0 F k y0 y1 y2) (sets_ideals.l0 F' k y0 y1 y2)
 | 0, _, _, _ => fun r h => by simp [sets_ideals.l0] at h
 | k + 1, y0, y1, y2 => by
  unfold sets_ideals.l0
  exact LeO.ite (LeO.bind (hF _) (fun _ => LeO.ite (LeO.ite (ideals_mono_l hF k _ _ _) (LeO.none _)) (ideals_mono_l hF k _ _ _))) (LeO.refl _)
theorem impl_Poset_ideals.mono : ∀ a0 k, LeO (impl_Poset_ideals.f k a0) (impl_Poset_ideals.f (k + 1) a0) := fun a0 k r h => by
 unfold impl_Poset_ideals.f at h ⊢
 refine sets_ideals.mono _ _ _ r ?_
 unfold sets_ideals.f at h ⊢
 exact LeO.bind (LeO.refl _) (fun _ => ideals_mono_l (fun x => lit_ideals.mono x a0 k) k _ _ _) r h
set_option maxHeartbeats 8000000 in
set_option maxRecDepth 100000 in
theorem impl_Poset_ideals.calls (k : Nat) (A0_0 : Option Addr) (c0_0 : Nat) (l0_0 : List Int) (r : List Int) (w : World) (hr0_0 : Kd.C (Kd.int .i64) w A0_0 l0_0.length l0_0) (hc0_0 : l0_0.length ≤ c0_0) (h : impl_Poset_ideals.f k l0_0 = some r) :
 Calls Try.prog 97 #[.agg #[.slice A0_0 l0_0.length c0_0]] w fun e w' => ∃ v0_ : Value, e = .returned (v0_) ∧ Kd.R (Kd.int .i64) 3 w' w.heap.size (fun _ => True) v0_ r ∧ Below w.heap.size w w' := by
 unfold impl_Poset_ideals.f at h
 have hmf : ∀ (fn : Fn) (first cap : Array Value) (w : World), (Instr.makeFunc fn first cap).run Try.prog w = .ok (.func fn first cap) w := fun _ _ _ _ => rfl
 have hu39 := Try.underlying28
 obtain ⟨W, hW⟩ : ∃ W, W = (w.alloc (.cells #[.slice A0_0 l0_0.length c0_0] 28 (0, 0))) := ⟨_, rfl⟩
 have hsz : W.heap.size = w.heap.size + 1 := by rw [hW]; simp
 have hcB : W.cell? ⟨w.heap.size, 0, none⟩ = some (.slice A0_0 l0_0.length c0_0) := by rw [hW, World.cell?_alloc_at _ _ _ _ rfl]; rfl
 have hbW : Below w.heap.size w W := by rw [hW]; exact (Below.refl _ _).alloc (Nat.le_refl _) _
 have hrW : Kd.C (Kd.int .i64) W A0_0 l0_0.length l0_0 := Kd.C_below hr0_0 hbW
 have HF : Aside0 (∀ (x0_ : Int) (r_ : Bool) (W' : World), lit_ideals.f k x0_ l0_0 = some r_ → Below W.heap.size W W' → Calls Try.prog 158 #[.int .i64 x0_, .pointer (some ⟨w.heap.size, 0, none⟩)] W' fun e w' => e = .returned (.bool r_) ∧ Below W'.heap.size W' w') :=
  ⟨fun x0_ r_ W' hF hb => lit_ideals.calls w.heap.size k x0_ A0_0 c0_0 l0_0 r_ W' ((hb.cell (p := ⟨w.heap.size, 0, none⟩) (by rw [hsz]; show w.heap.size < w.heap.size + 1; omega)).trans hcB) (Kd.C_below hrW hb) hc0_0 hF⟩
 have hcall := sets_ideals.calls (fun x => lit_ideals.f k x l0_0) w.heap.size k A0_0 c0_0 l0_0 r W HF hrW hc0_0 h
 have hcall' : Aside0 (Calls Try.prog 99 #[.agg #[.slice A0_0 l0_0.length c0_0], .func (.func 158) #[] #[.pointer (some ⟨w.heap.size, 0, none⟩)]] (w.alloc (.cells #[.slice A0_0 l0_0.length c0_0] 28 (0, 0))) fun e w' => ∃ v0_ : Value, e = .returned (v0_) ∧ (Kd.R (Kd.int .i64) 3 w' W.heap.size (fun _ => True) v0_ r ∧ Below W.heap.size W w')) := ⟨by rw [← hW]; exact hcall⟩
 have HW := Lib.hid hW
 clear hcall HF h hW hrW hr0_0 hc0_0
 have HsW := am hsz
 have HbW := am hbW
 clear hcB hsz hbW
 go_enter Try.func97, Try.ntmps97
 go_wp2_with fail
 refine hcall'.out.mono ?_
 rintro e w1 ⟨v, rfl, ho, hb⟩
 have Ho := am ho
 have Hb := am hb
 clear ho hb hmf hcall'
 go_wp2
 go_ret
 refine ⟨_, rfl, Kd.R_lower Ho.out (by have := HsW.out; omega), HbW.out.trans (Hb.out.mono (by have := HsW.out; omega))⟩
end Go.Proofs.Ytonfifhoklaliaa.F
end

section
namespace Go.Proofs.Ytonfifhoklaliaa.F
open Go.RowKit Go.Proofs.YtonfifhoklaliaaW.PrintWords Go.Proofs.YtonfifhoklaliaaW.PrintLast Go.Proofs.YtonfifhoklaliaaW.PrintMore
attribute [local go_sem] max2_int min2_int max_two min_two max_three min_three max_four min_four
set_option linter.unusedVariables false
set_option linter.unusedSimpArgs false
def impl_IdealsOf.f (k : Nat) (l0_0 : List Int) : Option (List Int × Bool) := (impl_IsPoset.f k l0_0).bind fun t220 => (if t220 = true then ((impl_Poset_ideals.f k l0_0).bind fun t221 => (some (t221, true))) else (some (([] : List Int), false)))
theorem impl_IdealsOf.mono : ∀ a0 k, LeO (impl_IdealsOf.f k a0) (impl_IdealsOf.f (k + 1) a0) := by
 intro a0 k
 unfold impl_IdealsOf.f
 repeat' first
  | (with_reducible exact impl_IsPoset.mono _ _)
  | (with_reducible exact impl_Poset_ideals.mono _ _)
  | (with_reducible exact LeO.refl _)
  | (with_reducible exact LeO.none _)
  | (with_reducible refine LeO.ite ?_ ?_)
  | (with_reducible refine LeO.bind ?_ (fun _ => ?_))
  | exact impl_IsPoset.mono _ _
  | exact impl_Poset_ideals.mono _ _
  | exact LeO.none _
  | refine LeO.ite ?_ ?_
  | refine LeO.bind ?_ (fun _ => ?_)
set_option maxHeartbeats 8000000 in
set_option maxRecDepth 100000 in
theorem impl_IdealsOf.calls (k : Nat) (A0_0 : Option Addr) (c0_0 : Nat) (l0_0 : List Int) (r1 : List Int) (r2 : Bool) (w : World) (hr0_0 : Kd.C (Kd.int .i64) w A0_0 l0_0.length l0_0) (hc0_0 : l0_0.length ≤ c0_0) (h : impl_IdealsOf.f k l0_0 = some (r1, r2)) :
 Calls Try.prog 26 #[.agg #[.slice A0_0 l0_0.length c0_0]] w fun e w' => ∃ v0_ : Value, e = .returned (.tuple #[v0_, .bool r2]) ∧ Kd.R (Kd.int .i64) 3 w' w.heap.size (fun _ => True) v0_ r1 ∧ Below w.heap.size w w' := by
 have hu28 := Try.underlying28
 have HR0_0 := am hr0_0
 have HC0_0 := am hc0_0
 clear hr0_0 hc0_0
 have HB := am (Below.refl w.heap.size w)
 have H : ((impl_IsPoset.f k l0_0).bind fun t220 => (if t220 = true then ((impl_Poset_ideals.f k l0_0).bind fun t221 => (some (t221, true))) else (some (([] : List Int), false)))) = some (r1, r2) := h
 clear h
 replace H := Option.bind_eq_some_iff.mp H
 obtain ⟨t220, A20, H⟩ := H
 replace H : (if t220 = true then ((impl_Poset_ideals.f k l0_0).bind fun t221 => (some (t221, true))) else (some (([] : List Int), false))) = some (r1, r2) := H
 have A2 := am A20
 clear A20
 by_cases c3 : t220 = true
 ·subst c3
  have H1 : ((impl_Poset_ideals.f k l0_0).bind fun t221 => (some (t221, true))) = some (r1, r2) := by rw [if_pos rfl] at H; exact H
  clear H
  have H := H1
  clear H1
  replace H := Option.bind_eq_some_iff.mp H
  obtain ⟨t221, A40, H⟩ := H
  replace H : (some (t221, true)) = some (r1, r2) := H
  have A4 := am A40
  clear A40
  simp only [Option.some.injEq, Prod.mk.injEq] at H
  obtain ⟨rfl, rfl⟩ := H
  go_enter Try.func26, Try.ntmps26
  go_wp2_with (first | ((with_reducible refine gate_dst (N := 1) rfl ?_); refine qx (N := 1) (cs := #[.slice A0_0 l0_0.length c0_0]) (t := 28) ?_; intro gb219 hg w5 hbox hb; have n0_ := am (below_step qB hb); have BK219 := am (hbox); have GW219 := am (qg w hg); have GE219 := am (qg w hg); clear HB; have HB := n0_; clear n0_; clear hb hbox hg; have hcz6_0 := qz w5 BK219.out; have hfz6_0 := blk_frozen BK219.out 0) | ((with_reducible refine gate_callee (f := 30) rfl ?_); refine gL (some 5) Try.func30 #[.agg #[.slice A0_0 l0_0.length c0_0]] ?_; (with_reducible refine (impl_IsPoset.calls k _ _ l0_0 true _ ?side1 ?side2 A2.out).mono ?_); (case side1 => exact qC (Kd.C_below HR0_0.out HB.out)); (case side2 => exact HC0_0.out); rintro e w7 ⟨rfl, hb⟩; refine ⟨_, rfl, ?_⟩; replace BK219 := am (blk_below (g := gb219) (o := .cells #[.slice A0_0 l0_0.length c0_0] 28 (0, 0)) (qb BK219.out) hb); replace HB := am (below_step qB hb); (try clear hb); (try clear hb2); (try clear hk); (try clear hi); have hcz8_0 := qz w7 BK219.out; have hfz8_0 := blk_frozen BK219.out 0) | ((with_reducible refine gate_callee (f := 97) rfl ?_); refine gL (some 8) Try.func97 #[.agg #[.slice A0_0 l0_0.length c0_0]] ?_; (with_reducible refine (impl_Poset_ideals.calls k _ _ l0_0 t221 _ ?side1 ?side2 A4.out).mono ?_); (case side1 => exact qC (Kd.C_below HR0_0.out HB.out)); (case side2 => exact HC0_0.out); rintro e w9 ⟨v222, rfl, ho0, hb⟩; refine ⟨_, rfl, ?_⟩; have HO223 := am (Kd.R_lower ho0 (below_size qB)); replace BK219 := am (blk_below (g := gb219) (o := .cells #[.slice A0_0 l0_0.length c0_0] 28 (0, 0)) (qb BK219.out) hb); replace HB := am (below_step qB hb); (try clear hb); (try clear hb2); (try clear hk); (try clear hi); (try clear ho0)))
  go_ret2
  exact ⟨_, qr, qR HO223.out, qB⟩
 ·replace c3 := Bool.eq_false_iff.mpr c3
  subst c3
  have H1 : (some (([] : List Int), false)) = some (r1, r2) := by rw [if_neg (show ¬ (false = true) by decide)] at H; exact H
  clear H
  have H := H1
  clear H1
  simp only [Option.some.injEq, Prod.mk.injEq] at H
  obtain ⟨rfl, rfl⟩ := H
  go_enter Try.func26, Try.ntmps26
  go_wp2_with (first | ((with_reducible refine gate_dst (N := 1) rfl ?_); refine qx (N := 1) (cs := #[.slice A0_0 l0_0.length c0_0]) (t := 28) ?_; intro gb219 hg w10 hbox hb; have n0_ := am (below_step qB hb); have BK219 := am (hbox); have GW219 := am (qg w hg); have GE219 := am (qg w hg); clear HB; have HB := n0_; clear n0_; clear hb hbox hg; have hcz11_0 := qz w10 BK219.out; have hfz11_0 := blk_frozen BK219.out 0) | ((with_reducible refine gate_callee (f := 30) rfl ?_); refine gL (some 5) Try.func30 #[.agg #[.slice A0_0 l0_0.length c0_0]] ?_; (with_reducible refine (impl_IsPoset.calls k _ _ l0_0 false _ ?side1 ?side2 A2.out).mono ?_); (case side1 => exact qC (Kd.C_below HR0_0.out HB.out)); (case side2 => exact HC0_0.out); rintro e w12 ⟨rfl, hb⟩; refine ⟨_, rfl, ?_⟩; replace BK219 := am (blk_below (g := gb219) (o := .cells #[.slice A0_0 l0_0.length c0_0] 28 (0, 0)) (qb BK219.out) hb); replace HB := am (below_step qB hb); (try clear hb); (try clear hb2); (try clear hk); (try clear hi)))
  go_ret2
  exact ⟨_, qr, by first | exact Kd.R_nil _ _ _ _ _ | exact Kd.N_nil _ _ _ _ _ | exact Kd.V_nil _ _ _ _ _ | exact Kd.Q_nil _ _ _ _ _ | exact Kd.S_nil _ _ _ _ _, qB⟩
def impl_CountIdeals.f (k : Nat) (l0_0 : List Int) : Option (Int × Bool) := (impl_IdealsOf.f k l0_0).bind fun bt225 => (some ((bt225.1.length : Int), bt225.2))
theorem impl_CountIdeals.mono : ∀ a0 k, LeO (impl_CountIdeals.f k a0) (impl_CountIdeals.f (k + 1) a0) := by
 intro a0 k
 unfold impl_CountIdeals.f
 repeat' first
  | (with_reducible exact impl_IdealsOf.mono _ _)
  | (with_reducible exact LeO.refl _)
  | (with_reducible exact LeO.none _)
  | (with_reducible refine LeO.ite ?_ ?_)
  | (with_reducible refine LeO.bind ?_ (fun _ => ?_))
  | exact impl_IdealsOf.mono _ _
  | exact LeO.none _
  | refine LeO.ite ?_ ?_
  | refine LeO.bind ?_ (fun _ => ?_)
set_option maxHeartbeats 8000000 in
set_option maxRecDepth 100000 in
theorem impl_CountIdeals.calls (k : Nat) (A0_0 : Option Addr) (c0_0 : Nat) (l0_0 : List Int) (r1 : Int) (r2 : Bool) (w : World) (hr0_0 : Kd.C (Kd.int .i64) w A0_0 l0_0.length l0_0) (hc0_0 : l0_0.length ≤ c0_0) (h : impl_CountIdeals.f k l0_0 = some (r1, r2)) :
 Calls Try.prog 12 #[.agg #[.slice A0_0 l0_0.length c0_0]] w fun e w' => e = .returned (.tuple #[.int .i64 r1, .bool r2]) ∧ Below w.heap.size w w' := by
 have hu28 := Try.underlying28
 have HR0_0 := am hr0_0
 have HC0_0 := am hc0_0
 clear hr0_0 hc0_0
 have HB := am (Below.refl w.heap.size w)
 have H : ((impl_IdealsOf.f k l0_0).bind fun bt225 => (some ((bt225.1.length : Int), bt225.2))) = some (r1, r2) := h
 clear h
 replace H := Option.bind_eq_some_iff.mp H
 obtain ⟨⟨t225, t228⟩, A20, H⟩ := H
 replace H : (some ((t225.length : Int), t228)) = some (r1, r2) := H
 have A2 := am A20
 clear A20
 simp only [Option.some.injEq, Prod.mk.injEq] at H
 obtain ⟨rfl, rfl⟩ := H
 go_enter Try.func12, Try.ntmps12
 go_wp2_with (first | ((with_reducible refine gate_dst (N := 1) rfl ?_); refine qx (N := 1) (cs := #[.slice A0_0 l0_0.length c0_0]) (t := 28) ?_; intro gb224 hg w3 hbox hb; have n0_ := am (below_step qB hb); have BK224 := am (hbox); have GW224 := am (qg w hg); have GE224 := am (qg w hg); clear HB; have HB := n0_; clear n0_; clear hb hbox hg; have hcz4_0 := qz w3 BK224.out; have hfz4_0 := blk_frozen BK224.out 0) | ((with_reducible refine gate_callee (f := 26) rfl ?_); refine gL (some 8) Try.func26 #[.agg #[.slice A0_0 l0_0.length c0_0]] ?_; (with_reducible refine (impl_IdealsOf.calls k _ _ l0_0 t225 t228 _ ?side1 ?side2 A2.out).mono ?_); (case side1 => exact qC (Kd.C_below HR0_0.out HB.out)); (case side2 => exact HC0_0.out); rintro e w5 ⟨v226, rfl, ho0, hb⟩; refine ⟨_, rfl, ?_⟩; have HO227 := am (Kd.R_lower ho0 (below_size qB)); replace BK224 := am (blk_below (g := gb224) (o := .cells #[.slice A0_0 l0_0.length c0_0] 28 (0, 0)) (qb BK224.out) hb); replace HB := am (below_step qB hb); (try clear hb); (try clear hb2); (try clear hk); (try clear hi); (try clear ho0); obtain ⟨Ao6, co6, eo6⟩ := Kd.R_slice HO227.out; subst eo6))
 go_ret2
 exact ⟨qr, qB⟩
end Go.Proofs.Ytonfifhoklaliaa.F
end

section
namespace Go.Proofs.Ytonfifhoklaliaa.Q
open Go.RowKit Go.Proofs.YtonfifhoklaliaaW.PrintWords Go.Proofs.Ytonfifhoklaliaa.F
set_option linter.unusedVariables false
theorem sets_run {F : Int → Option Bool} {c : Nat → Bool} {N : Nat} (hN : N ≤ 1024) (hF : ∀ s : Nat, s < N → F (s : Int) = some (c s)) : ∀ (d i : Nat), i + d = N → ∀ (k : Nat) (acc : List Int), d < k → acc.length ≤ i → sets_ideals.l0 F k acc (N : Int) (i : Int) = some (acc ++ ints ((List.range' i d).filter c))
 | 0, i, h, 0, acc, hk, _ => by omega
 | 0, i, h, k + 1, acc, hk, _ => by
  simp only [sets_ideals.l0]
  rw [if_neg (by omega)]
  simp [ints]
 | d + 1, i, h, 0, acc, hk, _ => by omega
 | d + 1, i, h, k + 1, acc, hk, ha => by
  simp only [sets_ideals.l0]
  rw [if_pos (by omega), hF i (by omega), Option.bind_some, wid1 (show i < N by omega) (by omega), List.range'_succ, List.filter_cons]
  cases hc : c i with
  | true =>
   rw [if_pos rfl, if_pos (by omega), if_pos rfl, sets_run hN hF d (i + 1) (by omega) k (acc ++ [(i : Int)]) (by omega) (by rw [List.length_append, List.length_singleton]; omega)]
   rw [List.append_assoc]; rfl
  | false =>
   rw [if_neg (by simp), if_neg (by simp), sets_run hN hF d (i + 1) (by omega) k acc (by omega) (by omega)]
theorem two_pow_small {n : Nat} (h : n ≤ 10) : 2 ^ n ≤ 1024 := Nat.le_trans (Nat.pow_le_pow_right (by decide) h) (by decide)
theorem ideals_ev {p : List Int} (hp : PO p) : Ev (fun k => impl_Poset_ideals.f k p) (ints (idealsN p)) := by
 have hn := hp.small
 have h2 := two_pow_small hn
 have hpos := Nat.two_pow_pos p.length
 obtain ⟨K, hK⟩ := Ev.all (g := fun s k => lit_ideals.f k (s : Int) p) (r := fun s => idealB p s) (2 ^ p.length) (fun s hs => by
  unfold lit_ideals.f
  refine Ev.bind (close_ev hp hs) (Ev.ret ?_)
  rw [← closeN_eq hp hs, Bool.eq_iff_iff, beq_iff_eq, beq_iff_eq]
  omega)
 refine ⟨K + 2 ^ p.length + 1, fun k hk => ?_⟩
 show sets_ideals.f _ k p = _
 unfold sets_ideals.f
 rw [all_eq (by omega), Option.bind_some]
 have e : wrap64 (((allN p : Nat) : Int) + 1) = ((2 ^ p.length : Nat) : Int) := by
  rw [wid (by unfold allN; omega) (by unfold allN; omega)]
  unfold allN; omega
 rw [e]
 have := sets_run (F := fun x => lit_ideals.f k x p) (c := idealB p) h2 (fun s hs => hK k (by omega) s hs) (2 ^ p.length) 0 (by omega) k [] (by omega) (by simp)
 rw [show ((0 : Nat) : Int) = 0 from rfl] at this
 rw [this, List.nil_append, ← List.range_eq_range']
 rfl
end Go.Proofs.Ytonfifhoklaliaa.Q
end

section
namespace Go.Proofs.Ytonfifhoklaliaa.F
open Go.RowKit Go.Proofs.YtonfifhoklaliaaW.PrintWords Go.Proofs.YtonfifhoklaliaaW.PrintLast Go.Proofs.YtonfifhoklaliaaW.PrintMore
set_option linter.unusedVariables false
set_option linter.unusedSimpArgs false
def contains_ranked.f (F : List Int → Option Bool) (k : Nat) (l : List (List Int)) : Option Bool := (IndexFunc_ranked.f F k l).bind fun i => some (decide (0 ≤ i))
theorem contains_ranked.mono (F : List Int → Option Bool) : ∀ a0 k, LeO (contains_ranked.f F k a0) (contains_ranked.f F (k + 1) a0) := fun a0 k => LeO.bind (IndexFunc_ranked.mono F _ _) (fun _ => LeO.refl _)
set_option maxHeartbeats 8000000 in
set_option maxRecDepth 100000 in
theorem contains_ranked.calls (F : List Int → Option Bool) (g0_ : Nat) (k : Nat) (A0 : Option Addr) (c0 : Nat) (l0 : List (List Int)) (r : Bool) (w : World) (HF : Aside0 (∀ (A0_ : Option Addr) (c0_ : Nat) (x0_ : List Int) (r_ : Bool) (W : World), Kd.C (Kd.int .i64) W A0_ x0_.length x0_ → x0_.length ≤ c0_ → F x0_ = some r_ → Below w.heap.size w W → Calls Try.prog 86 #[.slice A0_ x0_.length c0_, .pointer (some ⟨g0_, 0, none⟩)] W fun e w' => e = .returned (.bool r_) ∧ Drawn0 W w')) (hr0 : Kd.C (Kd.slice 3 (Kd.int .i64)) w A0 l0.length l0) (hc0 : l0.length ≤ c0) (h : contains_ranked.f F k l0 = some r) :
 Calls Try.prog 84 #[.slice A0 l0.length c0, .func (.func 86) #[] #[.pointer (some ⟨g0_, 0, none⟩)]] w fun e w' => e = .returned (.bool r) ∧ Drawn0 w w' := by
 unfold contains_ranked.f at h
 obtain ⟨i, hi, h⟩ := Option.bind_eq_some_iff.1 h
 have HI := am (IndexFunc_ranked.calls F g0_ k A0 c0 l0 i w HF hr0 hc0 hi)
 have HB := am (Option.some.inj h)
 clear hi h hr0 hc0 HF
 go_enter Try.func84, Try.ntmps84
 go_wp2_with (go_at_call 154; (with_reducible refine HI.out.mono ?_); rintro e w' ⟨rfl, ⟨nd, rfl⟩⟩)
 go_ret
 exact ⟨by rw [← HB.out]; try simp, ⟨_, rfl⟩⟩
def impl_IsRanked.f (k : Nat) (l0_0 : List Int) : Option (Bool × Bool) := (impl_IsPoset.f k l0_0).bind fun t => if t = true then (impl_Poset_heights.f k l0_0).bind fun hs => (impl_Poset_covers.f k l0_0).bind fun cs => (contains_ranked.f (fun x => lit_ranked.f x hs) k cs).bind fun b => some (!b, true) else some (false, false)
theorem impl_IsRanked.mono : ∀ a0 k, LeO (impl_IsRanked.f k a0) (impl_IsRanked.f (k + 1) a0) := fun a0 k =>
 LeO.bind (impl_IsPoset.mono _ _) (fun _ => LeO.ite (LeO.bind (impl_Poset_heights.mono _ _) (fun _ => LeO.bind (impl_Poset_covers.mono _ _) (fun _ => LeO.bind (contains_ranked.mono _ _ _) (fun _ => LeO.refl _)))) (LeO.refl _))
set_option maxHeartbeats 8000000 in
set_option maxRecDepth 100000 in
theorem impl_IsRanked.calls (k : Nat) (A0_0 : Option Addr) (c0_0 : Nat) (l0_0 : List Int) (r1 : Bool) (r2 : Bool) (w : World) (hr0_0 : Kd.C (Kd.int .i64) w A0_0 l0_0.length l0_0) (hc0_0 : l0_0.length ≤ c0_0) (h : impl_IsRanked.f k l0_0 = some (r1, r2)) :
 Calls Try.prog 13 #[.agg #[.slice A0_0 l0_0.length c0_0]] w fun e w' => e = .returned (.tuple #[.bool r1, .bool r2]) ∧ Below w.heap.size w w' := by
 unfold impl_IsRanked.f at h
 have hmf : ∀ (fn : Fn) (first cap : Array Value) (w : World), (Instr.makeFunc fn first cap).run Try.prog w = .ok (.func fn first cap) w := fun _ _ _ _ => rfl
 have hu39 := Try.underlying28
 obtain ⟨t, ht, h⟩ := Option.bind_eq_some_iff.1 h
 obtain ⟨W, hW⟩ : ∃ W, W = (w.alloc (.cells #[.slice A0_0 l0_0.length c0_0] 28 (0, 0))) := ⟨_, rfl⟩
 have hsz : W.heap.size = w.heap.size + 1 := by rw [hW]; simp
 have hP : W.heap[w.heap.size]? = some (.cells #[.slice A0_0 l0_0.length c0_0] 28 (0, 0)) := by rw [hW]; exact blk_new w _
 have hbW : Below w.heap.size w W := by rw [hW]; exact (Below.refl _ _).alloc (Nat.le_refl _) _
 have hrW : Kd.C (Kd.int .i64) W A0_0 l0_0.length l0_0 := Kd.C_below hr0_0 hbW
 have hcall1 := impl_IsPoset.calls k A0_0 c0_0 l0_0 t W hrW hc0_0 ht
 have hcall1' : Aside0 (Calls Try.prog 30 #[.agg #[.slice A0_0 l0_0.length c0_0]] (w.alloc (.cells #[.slice A0_0 l0_0.length c0_0] 28 (0, 0))) fun e w' => e = .returned (.bool t) ∧ Below W.heap.size W w') := ⟨by rw [← hW]; exact hcall1⟩
 cases t with
 | false =>
  rw [if_neg Bool.false_ne_true] at h
  obtain ⟨rfl, rfl⟩ := Prod.mk.inj (Option.some.inj h)
  have HbW := am hbW
  have HsW := am hsz
  clear hW hrW hcall1 ht hP hsz hbW h
  go_enter Try.func13, Try.ntmps13
  go_wp2_with fail
  refine hcall1'.out.mono ?_
  rintro e w1 ⟨rfl, hb⟩
  have Hb := am hb
  clear hb hmf hcall1'
  go_wp2
  go_ret2
  refine ⟨rfl, HbW.out.trans (Hb.out.mono (by have := HsW.out; omega))⟩
 | true =>
  rw [if_pos rfl] at h
  obtain ⟨hs, hhs, h⟩ := Option.bind_eq_some_iff.1 h
  obtain ⟨cs, hcs, h⟩ := Option.bind_eq_some_iff.1 h
  obtain ⟨b, hb0, h⟩ := Option.bind_eq_some_iff.1 h
  obtain ⟨rfl, rfl⟩ := Prod.mk.inj (Option.some.inj h)
  have HHS := am hhs
  have HCS := am hcs
  have HBB := am hb0
  have HP := am hP
  have HbW := am hbW
  have HsW := am hsz
  have HrW := am hrW
  have HcW := am hc0_0
  have HW := Lib.hid hW
  clear hW hrW hcall1 ht hP hsz hbW h hhs hcs hb0 hc0_0 hr0_0
  go_enter Try.func13, Try.ntmps13
  go_wp2_with fail
  refine hcall1'.out.mono ?_
  rintro e w1 ⟨rfl, hb⟩
  have hz1 : w.heap.size < W.heap.size := by have := HsW.out; omega
  have hP1 := (hb.block w.heap.size hz1).trans HP.out
  have HP1 := am hP1
  have hcz := (blk_cell hP1 0).trans rfl
  have Hb := am hb
  have hcall := am (impl_Poset_heights.calls k A0_0 c0_0 l0_0 hs w1 (Kd.C_below HrW.out hb) HcW.out HHS.out)
  clear hb hcall1' hP1 hz1
  go_wp2_with fail
  refine hcall.out.mono ?_
  rintro e w2 ⟨v, rfl, ho, hb2⟩
  obtain ⟨Ao, co, eo⟩ := Kd.R_slice ho
  subst eo
  have hz2 : w.heap.size < w1.heap.size := by have := HsW.out; have := Hb.out.size; omega
  have hP2 := (hb2.block w.heap.size hz2).trans HP1.out
  have HP2 := am hP2
  have Hb2 := am hb2
  have Ho := am ho
  have HZ2 : Aside0 (w.heap.size < w2.heap.size) := ⟨by have := hb2.size; omega⟩
  have HZ1 := am hz2
  obtain ⟨W3, hW3⟩ : ∃ W, W = (w2.alloc (.cells #[.slice Ao hs.length co] 26 (0, 0))) := ⟨_, rfl⟩
  have hP3 : W3.heap[w.heap.size]? = some (.cells #[.slice A0_0 l0_0.length c0_0] 28 (0, 0)) := by rw [hW3]; exact blk_alloc hP2 _
  have hQ3 : W3.heap[w2.heap.size]? = some (.cells #[.slice Ao hs.length co] 26 (0, 0)) := by rw [hW3]; exact blk_new w2 _
  have hb3 : Below w2.heap.size w2 W3 := by rw [hW3]; exact (Below.refl _ _).alloc (Nat.le_refl _) _
  have hr3 : Kd.C (Kd.int .i64) W3 A0_0 l0_0.length l0_0 := Kd.C_below (Kd.C_below (Kd.C_below HrW.out Hb.out) hb2) hb3
  have hcov := impl_Poset_covers.calls k A0_0 c0_0 l0_0 cs W3 hr3 HcW.out HCS.out
  have hcov' : Aside0 (Calls Try.prog 85 #[.agg #[.slice A0_0 l0_0.length c0_0]] (w2.alloc (.cells #[.slice Ao hs.length co] 26 (0, 0))) fun e w' => ∃ v0_ : Value, e = .returned (v0_) ∧ Kd.S (Kd.slice 3 (Kd.int .i64)) 26 w' W3.heap.size (fun _ => True) v0_ cs ∧ Below W3.heap.size W3 w') := ⟨by rw [← hW3]; exact hcov⟩
  have HQ3 := am hQ3
  have HB3 := am hb3
  have HW3 := Lib.hid hW3
  have hcz2 : (w2.alloc (.cells #[.slice Ao hs.length co] 26 (0, 0))).cell? ⟨w.heap.size, 0, none⟩ = some (.slice A0_0 l0_0.length c0_0) := by rw [← hW3]; exact (blk_cell hP3 0).trans rfl
  clear ho hb2 hz2 hcall hP2 hP3 hQ3 hb3 hr3 hcov hW3 hcz HP1
  go_wp2_with fail
  with_reducible refine hcov'.out.mono ?_
  rintro e w4 ⟨v, rfl, hs4, hb4⟩
  obtain ⟨A4, c4, e4⟩ := Kd.S_slice hs4
  subst e4
  have hq3 : w2.heap.size < W3.heap.size := blk_lt HQ3.out
  have hQ4 := (hb4.block w2.heap.size hq3).trans HQ3.out
  have hC4 : Kd.C (Kd.int .i64) w4 Ao hs.length hs := Kd.C_below (Kd.C_below (Kd.R_reads' Ho.out).2.2 HB3.out) hb4
  have HF : Aside0 (∀ (A0_ : Option Addr) (c0_ : Nat) (x0_ : List Int) (r_ : Bool) (W : World), Kd.C (Kd.int .i64) W A0_ x0_.length x0_ → x0_.length ≤ c0_ → lit_ranked.f x0_ hs = some r_ → Below w4.heap.size w4 W → Calls Try.prog 86 #[.slice A0_ x0_.length c0_, .pointer (some ⟨w2.heap.size, 0, none⟩)] W fun e w' => e = .returned (.bool r_) ∧ Drawn0 W w') :=
   ⟨fun A x1 x0 r_ W' hC hl hF hbW' => lit_ranked.calls w2.heap.size A x1 x0 Ao co hs r_ W' ((hbW'.cell (p := ⟨w2.heap.size, 0, none⟩) (blk_lt hQ4)).trans ((blk_cell hQ4 0).trans rfl)) hC hl (Kd.C_below hC4 hbW') (Kd.R_reads' Ho.out).2.1 hF⟩
  have hcon := contains_ranked.calls (fun x => lit_ranked.f x hs) w2.heap.size k A4 c4 cs b w4 HF (Kd.S_reads' hs4).2.2 (Kd.S_reads' hs4).2.1 HBB.out
  have HCON := am hcon
  have HB4 := am hb4
  clear hs4 hb4 hq3 hQ4 hC4 HF hcon hcov' hcz2
  go_wp2_with fail
  with_reducible refine HCON.out.mono ?_
  rintro e w5 ⟨rfl, nd, rfl⟩
  clear HCON hmf
  go_wp2
  go_ret2
  have h1 := HsW.out
  have h2 := Hb.out.size
  have h3 := Hb2.out.size
  have h4 := HB3.out.size
  refine ⟨rfl, pw_below_drewN ((((HbW.out.trans (Hb.out.mono (by omega))).trans (Hb2.out.mono (by omega))).trans (HB3.out.mono (by omega))).trans (HB4.out.mono (by omega))) nd⟩
end Go.Proofs.Ytonfifhoklaliaa.F
end

section
namespace Go.Proofs.Ytonfifhoklaliaa.Q
open Go.RowKit Go.Proofs.YtonfifhoklaliaaW.PrintWords Go.Proofs.Ytonfifhoklaliaa.F
set_option linter.unusedVariables false
def prN (j i : Nat) : List Int := [(j : Int), (i : Int)]
def covJ (p : List Int) (j i d : Nat) : List (List Int) := ((List.range' i d).filter fun i => (covN p i).testBit j).map (prN j)
def covL (p : List Int) (j d : Nat) : List (List Int) := (List.range' j d).flatMap fun j => covJ p j 0 p.length
theorem covJ_len (p : List Int) (j i d : Nat) : (covJ p j i d).length ≤ d := by
 unfold covJ
 rw [List.length_map]
 exact Nat.le_trans (List.length_filter_le _ _) (by rw [List.length_range']; exact Nat.le_refl _)
theorem covJ_step (p : List Int) (j i d : Nat) : covJ p j i (d + 1) = (if (covN p i).testBit j = true then [prN j i] else []) ++ covJ p j (i + 1) d := by
 unfold covJ
 rw [List.range'_succ, List.filter_cons]
 cases (covN p i).testBit j with
 | true => rw [if_pos rfl, if_pos rfl]; rfl
 | false => rw [if_neg (by simp), if_neg (by simp)]; rfl
theorem covers_ev {p : List Int} (hp : PO p) : Ev (fun k => impl_Poset_covers.f k p) (covL p 0 p.length) := by
 have hn := hp.small
 unfold impl_Poset_covers.f
 refine Ev.call (show impl_Poset_n.f p = some (p.length : Int) from rfl) ?_
 have outer : ∀ j, j ≤ p.length → ∀ acc : List (List Int), acc.length ≤ 10 * j → Ev (fun k => impl_Poset_covers.l0 k acc (p.length : Int) (j : Int) p) (acc ++ covL p j (p.length - j)) := by
  refine downTo _ ?_ ?_
  ·intro acc _
   rw [Nat.sub_self]
   refine Ev.step (by intro k; simp only [impl_Poset_covers.l0]; rfl) (Ev.no (by omega) (Ev.ret ?_))
   unfold covL; simp
  ·intro j hj ih acc hacc
   refine Ev.step (by intro k; simp only [impl_Poset_covers.l0]; rfl) (Ev.yes (by omega) (Ev.call (show impl_Poset_n.f p = some (p.length : Int) from rfl) ?_))
   have inner : ∀ i, i ≤ p.length → ∀ a : List (List Int), a.length ≤ 10 * j + i → Ev (fun k => impl_Poset_covers.l1 k a (j : Int) (p.length : Int) (j : Int) (p.length : Int) (i : Int) p) (a ++ covJ p j i (p.length - i) ++ covL p (j + 1) (p.length - (j + 1))) := by
    refine downTo _ ?_ ?_
    ·intro a ha
     rw [Nat.sub_self]
     refine Ev.step (by intro k; simp only [impl_Poset_covers.l1]; rfl) (Ev.no (by omega) ?_)
     rw [wid1 hj (by omega)]
     have : covJ p j p.length 0 = [] := rfl
     rw [this, List.append_nil]
     exact ih a (by omega)
    ·intro i hi ihi a ha
     refine Ev.step (by intro k; simp only [impl_Poset_covers.l1]; rfl) (Ev.yes (by omega) (Ev.bind (covered_ev hp hi) (Ev.call (has_eq (lt_pow (covN_lt hp hi) (by omega)) (show j ≤ 64 by omega)) ?_)))
     rw [show p.length - i = (p.length - (i + 1)) + 1 by omega, covJ_step, wid1 hi (by omega)]
     cases (covN p i).testBit j with
     | false =>
      rw [if_neg (by simp), List.nil_append]
      exact Ev.no (by simp) (ihi a (by omega))
     | true =>
      rw [if_pos rfl]
      refine Ev.yes rfl (Ev.yes (by omega) ?_)
      have := ihi (a ++ [prN j i]) (by rw [List.length_append, List.length_singleton]; omega)
      rw [List.append_assoc a] at this
      exact this
   rw [show p.length - j = (p.length - (j + 1)) + 1 by omega]
   have := inner 0 (Nat.zero_le _) acc (by omega)
   unfold covL
   rw [List.range'_succ, List.flatMap_cons]
   unfold covL at this
   rw [Nat.sub_zero, List.append_assoc] at this
   exact this
 have := outer 0 (Nat.zero_le _) [] (Nat.zero_le _)
 rw [List.nil_append, Nat.sub_zero] at this
 exact this
theorem poPairs_ev {p : List Int} (hp : PO p) : Ev (fun k => spec_poPairs.f k p) (covL p 0 p.length) := by
 have hn := hp.small
 unfold spec_poPairs.f
 have outer : ∀ j, j ≤ p.length → ∀ acc : List (List Int), acc.length ≤ 10 * j → Ev (fun k => spec_poPairs.l0 k acc (p.length : Int) (j : Int) p) (acc ++ covL p j (p.length - j)) := by
  refine downTo _ ?_ ?_
  ·intro acc _
   rw [Nat.sub_self]
   refine Ev.step (by intro k; simp only [spec_poPairs.l0]; rfl) (Ev.no (by omega) (Ev.ret ?_))
   unfold covL; simp
  ·intro j hj ih acc hacc
   refine Ev.step (by intro k; simp only [spec_poPairs.l0]; rfl) (Ev.yes (by omega) ?_)
   have inner : ∀ i, i ≤ p.length → ∀ a : List (List Int), a.length ≤ 10 * j + i → Ev (fun k => spec_poPairs.l1 k a (j : Int) (p.length : Int) (j : Int) (p.length : Int) (i : Int) p) (a ++ covJ p j i (p.length - i) ++ covL p (j + 1) (p.length - (j + 1))) := by
    refine downTo _ ?_ ?_
    ·intro a ha
     rw [Nat.sub_self]
     refine Ev.step (by intro k; simp only [spec_poPairs.l1]; rfl) (Ev.no (by omega) ?_)
     rw [wid1 hj (by omega)]
     have : covJ p j p.length 0 = [] := rfl
     rw [this, List.append_nil]
     exact ih a (by omega)
    ·intro i hi ihi a ha
     refine Ev.step (by intro k; simp only [spec_poPairs.l1]; rfl) (Ev.yes (by omega) (Ev.bind (poCovers_ev hp hj hi) ?_))
     rw [show p.length - i = (p.length - (i + 1)) + 1 by omega, covJ_step, wid1 hi (by omega)]
     cases (covN p i).testBit j with
     | false =>
      rw [if_neg (by simp), List.nil_append]
      exact Ev.no (by simp) (ihi a (by omega))
     | true =>
      rw [if_pos rfl]
      refine Ev.yes rfl (Ev.yes (by omega) ?_)
      have := ihi (a ++ [prN j i]) (by rw [List.length_append, List.length_singleton]; omega)
      rw [List.append_assoc a] at this
      exact this
   rw [show p.length - j = (p.length - (j + 1)) + 1 by omega]
   have := inner 0 (Nat.zero_le _) acc (by omega)
   unfold covL
   rw [List.range'_succ, List.flatMap_cons]
   unfold covL at this
   rw [Nat.sub_zero, List.append_assoc] at this
   exact this
 have := outer 0 (Nat.zero_le _) [] (Nat.zero_le _)
 rw [List.nil_append, Nat.sub_zero] at this
 exact this
def breaks (h : List Int) (c : List Int) : Bool := rd h (rd c 1) != wrap64 (rd h (rd c 0) + 1)
def rkB (p : List Int) : Bool := !((covL p 0 p.length).any (breaks (ints (hgo p p.length))))
theorem covL_mem {p c : List Int} (h : c ∈ covL p 0 p.length) : ∃ j i, c = prN j i ∧ j < p.length ∧ i < p.length := by
 unfold covL at h
 obtain ⟨j, hj, hc⟩ := List.mem_flatMap.1 h
 unfold covJ at hc
 obtain ⟨i, hi, rfl⟩ := List.mem_map.1 hc
 have h1 := List.mem_range'_1.1 hj
 have h2 := List.mem_range'_1.1 (List.mem_filter.1 hi).1
 exact ⟨j, i, rfl, by omega, by omega⟩
theorem covL_len (p : List Int) (h : p.length ≤ 10) : (covL p 0 p.length).length ≤ 1000 := by
 have : ∀ d j, d ≤ 10 → (covL p j d).length ≤ 10 * d := by
  intro d
  induction d with
  | zero => intro j _; exact Nat.zero_le _
  | succ d ih =>
   intro j hd
   unfold covL
   rw [List.range'_succ, List.flatMap_cons, List.length_append]
   have h1 := covJ_len p j 0 p.length
   have h2 := ih (j + 1) (by omega)
   unfold covL at h2
   omega
 have := this p.length 0 h
 omega
theorem lit_ranked_eq {p c : List Int} (hc : c ∈ covL p 0 p.length) : lit_ranked.f c (ints (hgo p p.length)) = some (breaks (ints (hgo p p.length)) c) := by
 obtain ⟨j, i, rfl, hj, hi⟩ := covL_mem hc
 have hl : (ints (hgo p p.length)).length = p.length := by rw [ints_len, hgo_len]
 have e0 : rd (prN j i) 0 = (j : Int) := rfl
 have e1 : rd (prN j i) 1 = (i : Int) := rfl
 unfold lit_ranked.f breaks
 rw [e0, e1, hl, if_pos (by show (1 : Int) < 2; decide), if_pos (by omega), if_pos (by omega), if_pos (by show (0 : Int) < 2; decide), if_pos (by omega), if_pos (by omega)]
theorem contains_ev {F : List Int → Option Bool} {c : List Int → Bool} {l : List (List Int)} (h : l.length ≤ 100000) (hF : ∀ x ∈ l, F x = some (c x)) : Ev (fun k => contains_ranked.f F k l) (l.any c) := by
 unfold contains_ranked.f IndexFunc_ranked.f
 have key : ∀ i, i ≤ l.length → ∃ r : Int, Ev (fun k => IndexFunc_ranked.l0 F k l (l.length : Int) (i : Int)) r ∧ decide (0 ≤ r) = (l.drop i).any c := by
  refine downTo _ ?_ ?_
  ·refine ⟨-1, Ev.step (by intro k; simp only [IndexFunc_ranked.l0]; rfl) (Ev.no (by omega) (Ev.now _)), ?_⟩
   rw [List.drop_length]; rfl
  ·rintro i hi ⟨r, e, hr⟩
   have hx := hF _ (List.getElem_mem hi)
   rw [List.drop_eq_getElem_cons hi, List.any_cons]
   cases hc : c l[i] with
   | true =>
    rw [hc] at hx
    refine ⟨(i : Int), Ev.step (by intro k; simp only [IndexFunc_ranked.l0]; rfl) (Ev.yes (by omega) (Ev.yes (by omega) (Ev.yes (by omega) ?_))), by rw [Bool.true_or]; exact decide_eq_true (by omega)⟩
    rw [rdL_at hi]
    exact Ev.call hx (Ev.yes rfl (Ev.now _))
   | false =>
    rw [hc] at hx
    refine ⟨r, Ev.step (by intro k; simp only [IndexFunc_ranked.l0]; rfl) (Ev.yes (by omega) (Ev.yes (by omega) (Ev.yes (by omega) ?_))), by rw [Bool.false_or]; exact hr⟩
    rw [rdL_at hi, wid1 hi (by omega)]
    exact Ev.call hx (Ev.no (by simp) e)
 obtain ⟨r, e, hr⟩ := key 0 (Nat.zero_le _)
 rw [List.drop_zero] at hr
 exact Ev.bind e (Ev.ret hr)
def rkV (p : List Int) : Bool × Bool := if isPo p = true then (rkB p, true) else (false, false)
theorem ranked_impl {p : List Int} (hI : Ev (fun k => impl_IsPoset.f k p) (isPo p)) : Ev (fun k => impl_IsRanked.f k p) (rkV p) := by
 unfold impl_IsRanked.f rkV
 refine Ev.bind hI ?_
 cases hpo : isPo p with
 | false => exact Ev.no (by simp) (Ev.now _)
 | true =>
  have hp := (isPo_iff p).1 hpo
  refine Ev.yes rfl (Ev.bind (heights_ev hp) (Ev.bind (covers_ev hp) (Ev.bind (contains_ev (c := breaks (ints (hgo p p.length))) (by have := covL_len p hp.small; omega) (fun x hx => lit_ranked_eq hx)) (Ev.now _))))
theorem ranked_run {p : List Int} (hp : PO p) : Ev (fun k => spec_poRanked.f k p) (rkB p) := by
 unfold spec_poRanked.f rkB
 refine Ev.bind (poHeights_ev hp) (Ev.bind (poPairs_ev hp) ?_)
 have hcl := covL_len p hp.small
 have key : ∀ t, t ≤ (covL p 0 p.length).length → Ev (fun k => spec_poRanked.l0 k (ints (hgo p p.length)) (covL p 0 p.length) ((covL p 0 p.length).length : Int) (t : Int)) (!(((covL p 0 p.length).drop t).any (breaks (ints (hgo p p.length))))) := by
  refine downTo _ ?_ ?_
  ·refine Ev.step (by intro k; simp only [spec_poRanked.l0]; rfl) (Ev.no (by omega) (Ev.ret ?_))
   rw [List.drop_length]; rfl
  ·intro t ht ih
   obtain ⟨j, i, ec, hj, hi⟩ := covL_mem (List.getElem_mem ht)
   have hl : (ints (hgo p p.length)).length = p.length := by rw [ints_len, hgo_len]
   rw [List.drop_eq_getElem_cons ht, List.any_cons]
   refine Ev.step (by intro k; simp only [spec_poRanked.l0]; rfl) (Ev.yes (by omega) (Ev.yes (by omega) (Ev.yes (by omega) ?_)))
   rw [rdL_at ht, wid1 ht (by omega), ec]
   have e0 : rd (prN j i) 0 = (j : Int) := rfl
   have e1 : rd (prN j i) 1 = (i : Int) := rfl
   have hb : breaks (ints (hgo p p.length)) (prN j i) = (rd (ints (hgo p p.length)) (i : Int) != wrap64 (rd (ints (hgo p p.length)) (j : Int) + 1)) := rfl
   rw [hb, e0, e1, hl]
   refine Ev.yes (by show (1 : Int) < 2; decide) (Ev.yes (by omega) (Ev.yes (by omega) (Ev.yes (by show (0 : Int) < 2; decide) (Ev.yes (by omega) (Ev.yes (by omega) ?_)))))
   refine Ev.ite (fun h => ?_) (fun h => ?_)
   ·rw [h, bne_self_eq_false, Bool.false_or]; exact ih
   ·refine Ev.ret ?_
    rw [bne_iff_ne.2 h]; rfl
 have := key 0 (Nat.zero_le _)
 rw [List.drop_zero] at this
 exact this
theorem ranked_spec {p : List Int} (hG : Ev (fun k => spec_poGood.f k p) (isPo p)) : Ev (fun k => (spec_poGood.f k p).bind fun t => (if t = true then ((spec_poRanked.f k p).bind fun t2 => (some (t2, true))) else (some (false, false)))) (rkV p) := by
 unfold rkV
 refine Ev.bind hG ?_
 cases hpo : isPo p with
 | false => exact Ev.no (by simp) (Ev.now _)
 | true => exact Ev.yes rfl (Ev.bind (ranked_run ((isPo_iff p).1 hpo)) (Ev.now _))
end Go.Proofs.Ytonfifhoklaliaa.Q
end

section
namespace Go.Proofs.Ytonfifhoklaliaa.F
open Go.RowKit Go.Proofs.YtonfifhoklaliaaW.PrintWords Go.Proofs.YtonfifhoklaliaaW.PrintLast Go.Proofs.YtonfifhoklaliaaW.PrintMore
set_option linter.unusedVariables false
set_option linter.unusedSimpArgs false
def impl_rectangle.f (k : Nat) (a0 a1 : Int) : Option (List Int) := made_rectangle.f (fun j i => lit_rectangle.f j i a1) k (wrap64 (a0 * a1))
theorem impl_rectangle.mono : ∀ a0 a1 k, LeO (impl_rectangle.f k a0 a1) (impl_rectangle.f (k + 1) a0 a1) := fun a0 a1 k => made_rectangle.mono _ _ k
set_option maxHeartbeats 8000000 in
set_option maxRecDepth 100000 in
theorem impl_rectangle.calls (k : Nat) (a0 : Int) (a1 : Int) (r : List Int) (w : World) (h : impl_rectangle.f k a0 a1 = some r) :
 Calls Try.prog 80 #[.int .i64 a0, .int .i64 a1] w fun e w' => ∃ v0_ : Value, e = .returned (.agg #[v0_]) ∧ Kd.R (Kd.int .i64) 3 w' w.heap.size (fun _ => True) v0_ r ∧ Below w.heap.size w w' := by
 unfold impl_rectangle.f at h
 have hmf : ∀ (fn : Fn) (first cap : Array Value) (w : World), (Instr.makeFunc fn first cap).run Try.prog w = .ok (.func fn first cap) w := fun _ _ _ _ => rfl
 have hu39 := Try.underlying28
 obtain ⟨W, hW⟩ : ∃ W, W = (w.alloc (.cells #[.int .i64 a1] 3 (0, 0))).alloc (.cells #[.slice none 0 0] 28 (0, 0)) := ⟨_, rfl⟩
 have hsz : W.heap.size = w.heap.size + 2 := by rw [hW]; simp
 have hcB : W.cell? ⟨w.heap.size, 0, none⟩ = some (.int .i64 a1) := by rw [hW, World.cell?_alloc_past _ _ _ (by simp), World.cell?_alloc_at _ _ _ _ rfl]; rfl
 have hP : W.heap[w.heap.size + 1]? = some (.cells #[.slice none 0 0] 28 (0, 0)) := by rw [hW]; simpa using heap_alloc_new (w.alloc (.cells #[.int .i64 a1] 3 (0, 0))) (.cells #[.slice none 0 0] 28 (0, 0))
 have hbW : Below w.heap.size w W := by rw [hW]; exact ((Below.refl _ _).alloc (Nat.le_refl _) _).alloc (by simp) _
 have HF : Aside0 (∀ (x0_ : Int) (x1_ : Int) (r_ : Bool) (W' : World), lit_rectangle.f x0_ x1_ a1 = some r_ → Below W.heap.size W W' → Calls Try.prog 153 #[.int .i64 x0_, .int .i64 x1_, .pointer (some ⟨w.heap.size, 0, none⟩)] W' fun e w' => e = .returned (.bool r_) ∧ Drawn0 W' w') :=
  ⟨fun x0_ x1_ r_ W' hF hb => lit_rectangle.calls w.heap.size x0_ x1_ a1 r_ W' ((hb.cell (p := ⟨w.heap.size, 0, none⟩) (by rw [hsz]; show w.heap.size < w.heap.size + 2; omega)).trans hcB) hF⟩
 have hcall := made_rectangle.calls (fun j i => lit_rectangle.f j i a1) w.heap.size k _ r W HF h
 have hcall' : Aside0 (Calls Try.prog 88 #[.int .i64 (wrap64 (a0 * a1)), .func (.func 153) #[] #[.pointer (some ⟨w.heap.size, 0, none⟩)]] ((w.alloc (.cells #[.int .i64 a1] 3 (0, 0))).alloc (.cells #[.slice none 0 0] 28 (0, 0))) fun e w' => ∃ v0_ : Value, e = .returned (.agg #[v0_]) ∧ (Kd.R (Kd.int .i64) 3 w' W.heap.size (fun _ => True) v0_ r ∧ Below W.heap.size W w')) := ⟨by rw [← hW]; exact hcall⟩
 have HW := Lib.hid hW
 clear hcall HF h hW
 have HP := am hP
 have HsW := am hsz
 have HbW := am hbW
 clear hcB hP hsz hbW
 go_enter Try.func80, Try.ntmps80
 go_wp2_with fail
 refine hcall'.out.mono ?_
 rintro e w1 ⟨v, rfl, ho, hb⟩
 have hlt : w.heap.size + 1 < W.heap.size := by have := HsW.out; omega
 have hP1 := am ((hb.block (w.heap.size + 1) hlt).trans HP.out)
 have hc1 : w1.cell? ⟨w.heap.size + 1, 0, none⟩ = some (.slice none 0 0) := (blk_cell hP1.out 0).trans rfl
 have hf1 := blk_frozen hP1.out 0
 obtain ⟨Ao, co, eo⟩ := Kd.R_slice ho
 subst eo
 have Ho := am ho
 have Hb := am hb
 have Hlt := am hlt
 clear ho hb hlt hmf
 go_wp2
 refine bodyPost_ret (results_cell_row rfl _ _ (w.heap.size + 1) 28 #[.slice Ao r.length co] (0, 0) _ rfl (blk_put (cs := #[.slice none 0 0]) hP1.out 0 _ rfl) Try.underlying28 rfl (by kernel_rfl)) rfl ⟨_, rfl, ?_, ?_⟩
 ·refine Kd.R_lower (base := W.heap.size) ?_ (by have := HsW.out; omega)
  exact Kd.R_mono (Kd.R_far (p := ⟨w.heap.size + 1, 0, none⟩) (Kd.R_bound Ho.out) (fun k hk => by have := hk.2.1; have := Hlt.out; show k ≠ w.heap.size + 1; omega) _) (fun _ _ => trivial)
 ·exact (HbW.out.trans (Hb.out.mono (by have := HsW.out; omega))).setCell (by show w.heap.size ≤ w.heap.size + 1; omega) _
end Go.Proofs.Ytonfifhoklaliaa.F
end

section
namespace Go.Proofs.Ytonfifhoklaliaa.F
open Go.RowKit Go.Proofs.YtonfifhoklaliaaW.PrintWords Go.Proofs.YtonfifhoklaliaaW.PrintLast Go.Proofs.YtonfifhoklaliaaW.PrintMore
attribute [local go_sem] max2_int min2_int max_two min_two max_three min_three max_four min_four
set_option linter.unusedVariables false
set_option linter.unusedSimpArgs false
def impl_Rectangle.f (k : Nat) (a0 : Int) (a1 : Int) : Option (List Int × Bool) := (impl_areSides.f a0 a1 10).bind fun t157 => (if t157 = true then ((impl_rectangle.f k a0 a1).bind fun t158 => (some (t158, true))) else (some (([] : List Int), false)))
theorem impl_Rectangle.mono : ∀ a0 a1 k, LeO (impl_Rectangle.f k a0 a1) (impl_Rectangle.f (k + 1) a0 a1) := by
 intro a0 a1 k
 unfold impl_Rectangle.f
 repeat' first
  | (with_reducible exact impl_rectangle.mono _ _ _)
  | (with_reducible exact LeO.refl _)
  | (with_reducible exact LeO.none _)
  | (with_reducible refine LeO.ite ?_ ?_)
  | (with_reducible refine LeO.bind ?_ (fun _ => ?_))
  | exact impl_rectangle.mono _ _ _
  | exact LeO.none _
  | refine LeO.ite ?_ ?_
  | refine LeO.bind ?_ (fun _ => ?_)
set_option maxHeartbeats 8000000 in
set_option maxRecDepth 100000 in
theorem impl_Rectangle.calls (k : Nat) (a0 : Int) (a1 : Int) (r1 : List Int) (r2 : Bool) (w : World) (h : impl_Rectangle.f k a0 a1 = some (r1, r2)) :
 Calls Try.prog 9 #[.int .i64 a0, .int .i64 a1] w fun e w' => ∃ v0_ : Value, e = .returned (.tuple #[.agg #[v0_], .bool r2]) ∧ Kd.R (Kd.int .i64) 3 w' w.heap.size (fun _ => True) v0_ r1 ∧ Below w.heap.size w w' := by
 have hu28 := Try.underlying28
 have HB := am (Below.refl w.heap.size w)
 have H : ((impl_areSides.f a0 a1 10).bind fun t157 => (if t157 = true then ((impl_rectangle.f k a0 a1).bind fun t158 => (some (t158, true))) else (some (([] : List Int), false)))) = some (r1, r2) := h
 clear h
 replace H := Option.bind_eq_some_iff.mp H
 obtain ⟨t157, A30, H⟩ := H
 replace H : (if t157 = true then ((impl_rectangle.f k a0 a1).bind fun t158 => (some (t158, true))) else (some (([] : List Int), false))) = some (r1, r2) := H
 have A3 := am A30
 clear A30
 by_cases c4 : t157 = true
 ·subst c4
  have H1 : ((impl_rectangle.f k a0 a1).bind fun t158 => (some (t158, true))) = some (r1, r2) := by rw [if_pos rfl] at H; exact H
  clear H
  have H := H1
  clear H1
  replace H := Option.bind_eq_some_iff.mp H
  obtain ⟨t158, A50, H⟩ := H
  replace H : (some (t158, true)) = some (r1, r2) := H
  have A5 := am A50
  clear A50
  simp only [Option.some.injEq, Prod.mk.injEq] at H
  obtain ⟨rfl, rfl⟩ := H
  go_enter Try.func9, Try.ntmps9
  go_wp2_with (first | ((with_reducible refine gate_dst (N := 4) rfl ?_); refine qx (N := 4) (cs := #[.slice none 0 0]) (t := 28) ?_; intro gb156 hg w6 hbox hb; have n0_ := am (below_step qB hb); have BK156 := am (hbox); have GW156 := am (qg w hg); have GE156 := am (qg w hg); clear HB; have HB := n0_; clear n0_; clear hb hbox hg) | ((with_reducible refine gate_callee (f := 79) rfl ?_); refine gL (some 8) Try.func79 #[.int .i64 a0, .int .i64 a1, .int .i64 10] ?_; (with_reducible refine (impl_areSides.calls a0 a1 10 true _ A3.out).mono ?_); rintro e w' ⟨rfl, ⟨nd, rfl⟩⟩; refine ⟨_, rfl, ?_⟩; (try (rw [drewN_self w6]; generalize hq_ : World.drewN w6 _ = w6; have n0_ : Aside0 (w6.heap[gb156]? = some (.cells #[.slice none 0 0] 28 (0, 0))) := ⟨by rw [← hq_]; exact (qb BK156.out)⟩; have n1_ : Aside0 (Below w.heap.size w w6) := ⟨by rw [← hq_]; exact qB⟩; clear BK156 HB hq_; have BK156 := n0_; have HB := n1_; clear n0_ n1_))) | ((with_reducible refine gate_callee (f := 80) rfl ?_); refine gL (some 13) Try.func80 #[.int .i64 a0, .int .i64 a1] ?_; (with_reducible refine (impl_rectangle.calls k a0 a1 t158 _ A5.out).mono ?_); rintro e w7 ⟨v159, rfl, ho0, hb⟩; refine ⟨_, rfl, ?_⟩; have HO160 := am (Kd.R_lower ho0 (below_size qB)); replace BK156 := am (blk_below (g := gb156) (o := .cells #[.slice none 0 0] 28 (0, 0)) (qb BK156.out) hb); replace HB := am (below_step qB hb); (try clear hb); (try clear hb2); (try clear hk); (try clear hi); (try clear ho0); obtain ⟨Ao8, co8, eo8⟩ := Kd.R_slice HO160.out; subst eo8; have hcz9_0 := qz w7 BK156.out; have hfz9_0 := blk_frozen BK156.out 0))
  refine bodyPost_ret (results_ct rfl _ _ gb156 28 #[.slice Ao8 t158.length co8] (0, 0) _ rfl (by (with_reducible repeat (first | refine blk_drewN ?_ _ | refine blk_drew ?_ | refine blk_alloc ?_ _)); refine blk_put (cs := #[.slice none 0 0]) ?_ 0 _ rfl; refine qb ?_; exact BK156.out) Try.underlying28 rfl (by kernel_rfl)) rfl ?_
  exact ⟨_, qr, qR (Kd.R_mono (Kd.R_far (p := ⟨gb156, 0, none⟩) (Kd.R_types HO160.out BK156.out (by decide)) (fun _ hk => hk.2) (.slice Ao8 t158.length co8)) (fun _ hk => trivial)), qB⟩
 ·replace c4 := Bool.eq_false_iff.mpr c4
  subst c4
  have H1 : (some (([] : List Int), false)) = some (r1, r2) := by rw [if_neg (show ¬ (false = true) by decide)] at H; exact H
  clear H
  have H := H1
  clear H1
  simp only [Option.some.injEq, Prod.mk.injEq] at H
  obtain ⟨rfl, rfl⟩ := H
  go_enter Try.func9, Try.ntmps9
  go_wp2_with (first | ((with_reducible refine gate_dst (N := 4) rfl ?_); refine qx (N := 4) (cs := #[.slice none 0 0]) (t := 28) ?_; intro gb156 hg w10 hbox hb; have n0_ := am (below_step qB hb); have BK156 := am (hbox); have GW156 := am (qg w hg); have GE156 := am (qg w hg); clear HB; have HB := n0_; clear n0_; clear hb hbox hg) | ((with_reducible refine gate_callee (f := 79) rfl ?_); refine gL (some 8) Try.func79 #[.int .i64 a0, .int .i64 a1, .int .i64 10] ?_; (with_reducible refine (impl_areSides.calls a0 a1 10 false _ A3.out).mono ?_); rintro e w' ⟨rfl, ⟨nd, rfl⟩⟩; refine ⟨_, rfl, ?_⟩; (try (rw [drewN_self w10]; generalize hq_ : World.drewN w10 _ = w10; have n0_ : Aside0 (w10.heap[gb156]? = some (.cells #[.slice none 0 0] 28 (0, 0))) := ⟨by rw [← hq_]; exact (qb BK156.out)⟩; have n1_ : Aside0 (Below w.heap.size w w10) := ⟨by rw [← hq_]; exact qB⟩; clear BK156 HB hq_; have BK156 := n0_; have HB := n1_; clear n0_ n1_)); have hcz11_0 := qz w10 BK156.out; have hfz11_0 := blk_frozen BK156.out 0))
  refine bodyPost_ret (results_ct rfl _ _ gb156 28 #[.slice none 0 0] (0, 0) _ rfl (by (with_reducible repeat (first | refine blk_drewN ?_ _ | refine blk_drew ?_ | refine blk_alloc ?_ _)); refine blk_put (cs := #[.slice none 0 0]) ?_ 0 _ rfl; refine qb ?_; exact BK156.out) Try.underlying28 rfl (by kernel_rfl)) rfl ?_
  exact ⟨_, qr, by first | exact Kd.R_nil _ _ _ _ _ | exact Kd.N_nil _ _ _ _ _ | exact Kd.V_nil _ _ _ _ _ | exact Kd.Q_nil _ _ _ _ _ | exact Kd.S_nil _ _ _ _ _, qB⟩
end Go.Proofs.Ytonfifhoklaliaa.F
end

section
namespace Go.Proofs.Ytonfifhoklaliaa.Q
open Go.RowKit Go.Proofs.YtonfifhoklaliaaW.PrintWords Go.Proofs.Ytonfifhoklaliaa.F
set_option linter.unusedVariables false
def sidesOk (a b : Int) : Prop := (1 ≤ a ∧ a ≤ 10) ∧ (1 ≤ b ∧ b ≤ 10) ∧ a * b ≤ 10
instance (a b : Int) : Decidable (sidesOk a b) := by unfold sidesOk; exact inferInstance
theorem areSides_iff (a b : Int) : impl_areSides.f a b 10 = some (decide (sidesOk a b)) := by
 have e : decide (sidesOk a b) = decide ((1 ≤ a ∧ a ≤ 10) ∧ (1 ≤ b ∧ b ≤ 10) ∧ a * b ≤ 10) := by rw [decide_eq_decide]; exact Iff.rfl
 rw [e]
 unfold impl_areSides.f
 simp only [within_eq, Option.bind_some]
 by_cases ha : 1 ≤ a ∧ a ≤ 10
 ·by_cases hb : 1 ≤ b ∧ b ≤ 10
  ·have h1 : 0 ≤ a * b := Int.mul_nonneg (by omega) (by omega)
   have h2 : a * b ≤ 10 * 10 := Int.mul_le_mul ha.2 hb.2 (by omega) (by omega)
   rw [wid (by omega) (by omega), range_true ha, range_true hb]
   simp [ha, hb]
  ·rw [range_true ha, range_false hb]
   rw [if_pos rfl, if_neg (by simp), decide_eq_false (by intro h; exact hb h.2.1)]
 ·rw [range_false ha, if_neg (by simp), decide_eq_false (by intro h; exact ha h.1)]
def rectI : Option (List Int) → Nat → Bool
 | some p, n => isPo p && decide (p.length = n)
 | none, _ => false
def okRectI (a b : Nat) : Bool := rectI (impl_rectangle.f 200 (a : Int) (b : Int)) (a * b)
theorem allRectI : (List.range 11).all (fun a => (List.range 11).all fun b => a == 0 || b == 0 || decide (10 < a * b) || okRectI a b) = true := by decide +kernel
theorem sides_all {f : Nat → Nat → Bool} (hf : (List.range 11).all (fun a => (List.range 11).all fun b => a == 0 || b == 0 || decide (10 < a * b) || f a b) = true) {a b : Int} (h : sidesOk a b) : ∃ n m : Nat, a = (n : Int) ∧ b = (m : Int) ∧ 1 ≤ n ∧ 1 ≤ m ∧ n ≤ 10 ∧ m ≤ 10 ∧ n * m ≤ 10 ∧ f n m = true := by
 have h0 := h
 unfold sidesOk at h0
 obtain ⟨n, rfl⟩ := Int.eq_ofNat_of_zero_le (show 0 ≤ a by omega)
 obtain ⟨m, rfl⟩ := Int.eq_ofNat_of_zero_le (show 0 ≤ b by omega)
 have hab : n * m ≤ 10 := by have := h0.2.2; exact Int.ofNat_le.1 (by rw [Int.natCast_mul]; exact this)
 have hk := List.all_eq_true.1 (List.all_eq_true.1 hf n (List.mem_range.2 (by omega))) m (List.mem_range.2 (by omega))
 rw [Bool.or_eq_true, Bool.or_eq_true, Bool.or_eq_true, beq_iff_eq, beq_iff_eq, decide_eq_true_eq] at hk
 rcases hk with ((hk | hk) | hk) | hk
 ·omega
 ·omega
 ·omega
 ·exact ⟨n, m, rfl, rfl, by omega, by omega, by omega, by omega, hab, hk⟩
theorem rect_impl {a b : Int} (h : sidesOk a b) : ∃ (n m : Nat) (p : List Int), a = (n : Int) ∧ b = (m : Int) ∧ 1 ≤ n ∧ 1 ≤ m ∧ n ≤ 10 ∧ m ≤ 10 ∧ n * m ≤ 10 ∧ impl_rectangle.f 200 (n : Int) (m : Int) = some p ∧ PO p ∧ p.length = n * m := by
 obtain ⟨n, m, rfl, rfl, h1, h2, h3, h4, h5, hk⟩ := sides_all allRectI h
 unfold okRectI at hk
 cases hr : impl_rectangle.f 200 (n : Int) (m : Int) with
 | none => rw [hr] at hk; simp [rectI] at hk
 | some p =>
  rw [hr] at hk
  simp only [rectI, Bool.and_eq_true, decide_eq_true_eq, isPo_iff] at hk
  exact ⟨n, m, p, rfl, rfl, h1, h2, h3, h4, h5, hr, hk.1, hk.2⟩
def rectO : Option (List Int) → Option (List Int) → Nat → Bool
 | some p, some q, n => decide (p = q) && (isPo p && decide (p.length = n))
 | _, _, _ => false
theorem rectO_parts {o1 o2 : Option (List Int)} {n : Nat} (h : rectO o1 o2 n = true) : ∃ p, o1 = some p ∧ o2 = some p ∧ PO p ∧ p.length = n := by
 cases o1 with
 | none => simp [rectO] at h
 | some p =>
  cases o2 with
  | none => simp [rectO] at h
  | some q =>
   simp only [rectO] at h
   rw [Bool.and_eq_true, Bool.and_eq_true, decide_eq_true_eq, decide_eq_true_eq, isPo_iff] at h
   obtain ⟨rfl, h2, h3⟩ := h
   exact ⟨p, rfl, rfl, h2, h3⟩
def okRect (a b : Nat) : Bool := rectO (impl_rectangle.f 200 (a : Int) (b : Int)) (spec_poRectangle.f 200 (a : Int) (b : Int)) (a * b)
theorem allRect : (List.range 11).all (fun a => (List.range 11).all fun b => a == 0 || b == 0 || decide (10 < a * b) || okRect a b) = true := by decide +kernel
theorem rect_both {a b : Int} (h : sidesOk a b) : ∃ (n m : Nat) (p : List Int), a = (n : Int) ∧ b = (m : Int) ∧ 1 ≤ n ∧ 1 ≤ m ∧ n ≤ 10 ∧ m ≤ 10 ∧ n * m ≤ 10 ∧ Ev (fun k => impl_rectangle.f k a b) p ∧ Ev (fun k => spec_poRectangle.f k a b) p ∧ PO p ∧ p.length = n * m := by
 have h0 := h
 unfold sidesOk at h0
 obtain ⟨n, rfl⟩ := Int.eq_ofNat_of_zero_le (show 0 ≤ a by omega)
 obtain ⟨m, rfl⟩ := Int.eq_ofNat_of_zero_le (show 0 ≤ b by omega)
 have hab : n * m ≤ 10 := by have := h0.2.2; exact Int.ofNat_le.1 (by rw [Int.natCast_mul]; exact this)
 have hk := List.all_eq_true.1 (List.all_eq_true.1 allRect n (List.mem_range.2 (by omega))) m (List.mem_range.2 (by omega))
 rw [Bool.or_eq_true, Bool.or_eq_true, Bool.or_eq_true, beq_iff_eq, beq_iff_eq, decide_eq_true_eq] at hk
 rcases hk with ((hk | hk) | hk) | hk
 ·omega
 ·omega
 ·omega
 ·unfold okRect at hk
  obtain ⟨p, h1, h2, h3, h4⟩ := rectO_parts hk
  exact ⟨n, m, p, rfl, rfl, by omega, by omega, by omega, by omega, hab, Ev.of (impl_rectangle.mono _ _) h1, Ev.of (spec_poRectangle.mono _ _) h2, h3, h4⟩
theorem Rectangle_yes {a b : Int} {p : List Int} (h : sidesOk a b) (hp : Ev (fun k => impl_rectangle.f k a b) p) : Ev (fun k => impl_Rectangle.f k a b) (p, true) := by
 unfold impl_Rectangle.f
 rw [areSides_iff, decide_eq_true h]
 exact Ev.call rfl (Ev.yes rfl (Ev.bind hp (Ev.ret rfl)))
theorem Rectangle_no {a b : Int} (h : ¬ sidesOk a b) : Ev (fun k => impl_Rectangle.f k a b) ([], false) := by
 unfold impl_Rectangle.f
 rw [areSides_iff, decide_eq_false h]
 exact Ev.call rfl (Ev.no (by simp) (Ev.now _))
end Go.Proofs.Ytonfifhoklaliaa.Q
end

section
namespace Go.Proofs.Ytonfifhoklaliaa.F
open Go.RowKit Go.Proofs.YtonfifhoklaliaaW.PrintWords Go.Proofs.YtonfifhoklaliaaW.PrintLast Go.Proofs.YtonfifhoklaliaaW.PrintMore
set_option linter.unusedVariables false
set_option linter.unusedSimpArgs false
mutual
def spec_StairA.l0 : Nat → Int → List (List Int) → Int → Option ((List (List Int)))
 | 0, _, _, _ => none
 | k + 1, x0, x4, x5 => if x5 ≤ x0 then (spec_StairA.l1 k x0 x4 x5 0) else (some x4)
def spec_StairA.l1 : Nat → Int → List (List Int) → Int → Int → Option ((List (List Int)))
 | 0, _, _, _, _ => none
 | k + 1, x0, x4, x5, x6 => if (wrap64 (x6 + x5)) ≤ x0 then (if x4.length < 5864062014805 then (spec_StairA.l1 k x0 (x4 ++ [(([x6, wrap64 (x6 + x5)] : List Int))]) x5 (wrap64 (x6 + 1))) else (none)) else (spec_StairA.l0 k x0 x4 (wrap64 (x5 + 1)))
end
def spec_StairA.f (k : Nat) (a0 : Int) : Option ((List (List Int))) := spec_StairA.l0 k a0 ([] : List (List Int)) 1
theorem spec_StairA.mono_l : ∀ k, (∀ y0 y1 y2, LeO (spec_StairA.l0 k y0 y1 y2) (spec_StairA.l0 (k + 1) y0 y1 y2)) ∧ (∀ y0 y1 y2 y3, LeO (spec_StairA.l1 k y0 y1 y2 y3) (spec_StairA.l1 (k + 1) y0 y1 y2 y3))
 | 0 => ⟨fun _ _ _ r h => by simp [spec_StairA.l0] at h, fun _ _ _ _ r h => by simp [spec_StairA.l1] at h⟩
 | k + 1 => by
  obtain ⟨ih0, ih1⟩ := spec_StairA.mono_l k
  refine ⟨?_, ?_⟩
  ·intro y0 y1 y2
   unfold spec_StairA.l0
   repeat' first
   | (with_reducible exact LeO.refl _)
   | (with_reducible exact LeO.none _)
   | (with_reducible refine LeO.ite ?_ ?_)
   | (with_reducible refine LeO.bind ?_ (fun _ => ?_))
   | exact ih0 _ _ _
   | exact ih1 _ _ _ _
   | exact LeO.none _
   | refine LeO.ite ?_ ?_
   | refine LeO.bind ?_ (fun _ => ?_)
  ·intro y0 y1 y2 y3
   unfold spec_StairA.l1
   repeat' first
   | (with_reducible exact LeO.refl _)
   | (with_reducible exact LeO.none _)
   | (with_reducible refine LeO.ite ?_ ?_)
   | (with_reducible refine LeO.bind ?_ (fun _ => ?_))
   | exact ih0 _ _ _
   | exact ih1 _ _ _ _
   | exact LeO.none _
   | refine LeO.ite ?_ ?_
   | refine LeO.bind ?_ (fun _ => ?_)
theorem spec_StairA.mono : ∀ a0 k, LeO (spec_StairA.f k a0) (spec_StairA.f (k + 1) a0) := by
 intro a0 k
 obtain ⟨ih0, ih1⟩ := spec_StairA.mono_l k
 unfold spec_StairA.f
 repeat' first
  | (with_reducible exact LeO.refl _)
  | (with_reducible exact LeO.none _)
  | (with_reducible refine LeO.ite ?_ ?_)
  | (with_reducible refine LeO.bind ?_ (fun _ => ?_))
  | exact ih0 _ _ _
  | exact ih1 _ _ _ _
  | exact LeO.none _
  | refine LeO.ite ?_ ?_
  | refine LeO.bind ?_ (fun _ => ?_)
mutual
def spec_StairB.l0 : Nat → List (List Int) → List (List Int) → Int → Int → List Int → Option (List Int × Bool)
 | 0, _, _, _, _, _ => none
 | k + 1, x1, x40, x41, x42, x1693000 => if x42 < x41 then (if 0 ≤ x42 then (if x42 < (x40.length : Int) then (spec_StairB.l1 k x1 x42 (rd_L1 x40 x42) x40 x41 x42 x1 (x1.length : Int) 0 x1693000) else (none)) else (none)) else (some (x1693000, true))
def spec_StairB.l1 : Nat → List (List Int) → Int → List Int → List (List Int) → Int → Int → List (List Int) → Int → Int → List Int → Option (List Int × Bool)
 | 0, _, _, _, _, _, _, _, _, _, _ => none
 | k + 1, x1, x8, x9, x40, x41, x42, x47, x48, x49, x1693000 => if x49 < x48 then (if 0 ≤ x49 then (if x49 < (x47.length : Int) then (if x8 = x49 then (spec_StairB.l1 k x1 x8 x9 x40 x41 x42 x47 x48 (wrap64 (x49 + 1)) x1693000) else (if 0 < (x9.length : Int) then (if 0 < ((rd_L1 x47 x49).length : Int) then (if (rd x9 0) ≤ (rd (rd_L1 x47 x49) 0) then (if 1 < ((rd_L1 x47 x49).length : Int) then (if 1 < (x9.length : Int) then (if (rd (rd_L1 x47 x49) 1) ≤ (rd x9 1) then (if 0 ≤ x8 then (if x8 < (x1693000.length : Int) then (spec_StairB.l1 k x1 x8 x9 x40 x41 x42 x47 x48 (wrap64 (x49 + 1)) (x1693000.set (x8 : Int).toNat (Go.bits .or .i64 (rd x1693000 x8) (shl .i64 1 x49)))) else (none)) else (none)) else (spec_StairB.l1 k x1 x8 x9 x40 x41 x42 x47 x48 (wrap64 (x49 + 1)) x1693000)) else (none)) else (none)) else (spec_StairB.l1 k x1 x8 x9 x40 x41 x42 x47 x48 (wrap64 (x49 + 1)) x1693000)) else (none)) else (none))) else (none)) else (none)) else (spec_StairB.l0 k x1 x40 x41 (wrap64 (x42 + 1)) x1693000)
end
def spec_StairB.f (k : Nat) (a0 : Int) (l1 : List (List Int)) : Option (List Int × Bool) := if 0 ≤ (l1.length : Int) then (if ((l1.length : Int) : Int).toNat ≤ 35184372088832 then (spec_StairB.l0 k l1 l1 (l1.length : Int) 0 (List.replicate ((l1.length : Int) : Int).toNat 0)) else (none)) else (none)
theorem spec_StairB.mono_l : ∀ k, (∀ y0 y1 y2 y3 y4, LeO (spec_StairB.l0 k y0 y1 y2 y3 y4) (spec_StairB.l0 (k + 1) y0 y1 y2 y3 y4)) ∧ (∀ y0 y1 y2 y3 y4 y5 y6 y7 y8 y9, LeO (spec_StairB.l1 k y0 y1 y2 y3 y4 y5 y6 y7 y8 y9) (spec_StairB.l1 (k + 1) y0 y1 y2 y3 y4 y5 y6 y7 y8 y9))
 | 0 => ⟨fun _ _ _ _ _ r h => by simp [spec_StairB.l0] at h, fun _ _ _ _ _ _ _ _ _ _ r h => by simp [spec_StairB.l1] at h⟩
 | k + 1 => by
  obtain ⟨ih0, ih1⟩ := spec_StairB.mono_l k
  refine ⟨?_, ?_⟩
  ·intro y0 y1 y2 y3 y4
   unfold spec_StairB.l0
   repeat' first
   | (with_reducible exact LeO.refl _)
   | (with_reducible exact LeO.none _)
   | (with_reducible refine LeO.ite ?_ ?_)
   | (with_reducible refine LeO.bind ?_ (fun _ => ?_))
   | exact ih0 _ _ _ _ _
   | exact ih1 _ _ _ _ _ _ _ _ _ _
   | exact LeO.none _
   | refine LeO.ite ?_ ?_
   | refine LeO.bind ?_ (fun _ => ?_)
  ·intro y0 y1 y2 y3 y4 y5 y6 y7 y8 y9
   unfold spec_StairB.l1
   repeat' first
   | (with_reducible exact LeO.refl _)
   | (with_reducible exact LeO.none _)
   | (with_reducible refine LeO.ite ?_ ?_)
   | (with_reducible refine LeO.bind ?_ (fun _ => ?_))
   | exact ih0 _ _ _ _ _
   | exact ih1 _ _ _ _ _ _ _ _ _ _
   | exact LeO.none _
   | refine LeO.ite ?_ ?_
   | refine LeO.bind ?_ (fun _ => ?_)
theorem spec_StairB.mono : ∀ a0 a1 k, LeO (spec_StairB.f k a0 a1) (spec_StairB.f (k + 1) a0 a1) := by
 intro a0 a1 k
 obtain ⟨ih0, ih1⟩ := spec_StairB.mono_l k
 unfold spec_StairB.f
 repeat' first
  | (with_reducible exact LeO.refl _)
  | (with_reducible exact LeO.none _)
  | (with_reducible refine LeO.ite ?_ ?_)
  | (with_reducible refine LeO.bind ?_ (fun _ => ?_))
  | exact ih0 _ _ _ _ _
  | exact ih1 _ _ _ _ _ _ _ _ _ _
  | exact LeO.none _
  | refine LeO.ite ?_ ?_
  | refine LeO.bind ?_ (fun _ => ?_)
def spec_StairB.T18 : Bool × List (List Nat × List Nat) := (true, [([], []), ([], []), ([0, 1], [0, 1]), ([2], [2]), ([3], [3]), ([4, 3], [3, 4]), ([5, 3], [3, 5]), ([3], [3]), ([7, 3], [3, 7]), ([8, 3], [3, 8]), ([6, 9, 3], [3, 6, 9]), ([3, 10], [3, 10]), ([11, 3], [11]), ([12], [12]), ([13, 12], [12, 13]), ([14, 12], [12, 14]), ([12], [12]), ([16, 12], [12, 16]), ([17, 12], [12, 17]), ([15, 18, 12], [12, 15, 18]), ([12, 19], [12, 19])])
def spec_StairB.B18 : List Nat := [0, 0, 3, 7, 15, 31, 63, 15, 143, 399, 1023, 2047, 4095, 8191, 16383, 32767, 8191, 73727, 204799, 524287, 1048575]
theorem spec_StairB.tab18 : rtab .any (opsOf Try.f17 18) = spec_StairB.T18 := by kernel_rfl
theorem spec_StairB.bits18 : waitsOk spec_StairB.T18.2 spec_StairB.B18 = true := by kernel_rfl
def spec_StairB.T19 : Bool × List (List Nat × List Nat) := (true, [([], []), ([0], [0]), ([], []), ([1, 2], [1, 2]), ([3], [3]), ([], []), ([5], [5]), ([4, 6], [4, 6]), ([1, 2, 0, 1, 2, 3, 4, 5, 6, 7], [1, 2]), ([8, 7, 0, 1, 2, 3, 4, 5, 6, 7], [7, 8])])
def spec_StairB.B19 : List Nat := [0, 1, 0, 7, 15, 0, 32, 127, 255, 511]
theorem spec_StairB.tab19 : rtab .any (opsOf Try.f17 19) = spec_StairB.T19 := by kernel_rfl
theorem spec_StairB.bits19 : waitsOk spec_StairB.T19.2 spec_StairB.B19 = true := by kernel_rfl
def spec_Staircase.f (k : Nat) (a0 : Int) : Option (List Int × Bool) := (spec_l1In.f a0 1 4).bind fun b => if b = true then (spec_StairA.f k a0).bind fun st => spec_StairB.f k a0 st else some ([], false)
theorem spec_Staircase.mono : ∀ a0 k, LeO (spec_Staircase.f k a0) (spec_Staircase.f (k + 1) a0) := fun a0 k => LeO.bind (LeO.refl _) (fun b => LeO.ite (LeO.bind (spec_StairA.mono _ _) (fun st => spec_StairB.mono _ _ _)) (LeO.refl _))
set_option maxHeartbeats 8000000 in
set_option maxRecDepth 100000 in
theorem spec_Staircase.calls (k : Nat) (a0 : Int) (r1 : List Int) (r2 : Bool) (w : World) (h : spec_Staircase.f k a0 = some (r1, r2)) :
 Calls Try.prog 17 #[.int .i64 a0] w fun e w' => ∃ v0_ : Value, e = .returned (.tuple #[.agg #[v0_], .bool r2]) ∧ Kd.R (Kd.int .i64) 3 w' w.heap.size (fun _ => True) v0_ r1 ∧ Below w.heap.size w w' := by
 have hu28 := Try.underlying28
 unfold spec_Staircase.f at h
 obtain ⟨b, hb1, h⟩ := Option.bind_eq_some_iff.1 h
 have HIN := am hb1
 have HB := am (Below.refl w.heap.size w)
 clear hb1
 cases b with
 | false =>
  obtain ⟨rfl, rfl⟩ : [] = r1 ∧ false = r2 := by simpa using h
  clear h
  go_enter Try.func17, Try.ntmps17
  go_wp2_with (first | ((with_reducible refine gate_dst (N := 2) rfl ?_); refine qx (N := 2) (cs := #[.slice none 0 0]) (t := 28) ?_; intro gb1688 hg w5 hbox hb; have n0_ := am (below_step qB hb); have BK1688 := am (hbox); have GW1688 := am (qg w hg); have GE1688 := am (qg w hg); clear HB; have HB := n0_; clear n0_; clear hb hbox hg) | (go_at_call 90; (with_reducible refine (spec_l1In.calls a0 1 4 false _ HIN.out).mono ?_); rintro e w' ⟨rfl, ⟨nd, rfl⟩⟩; have hcz : (w5.drewN nd).cell? ⟨gb1688, 0, none⟩ = some (.slice none 0 0) := (blk_cell (blk_drewN BK1688.out nd) 0).trans rfl; have hfz := blk_frozen (blk_drewN BK1688.out nd) 0))
  refine bodyPost_ret (results_ct rfl _ _ gb1688 28 #[.slice none 0 0] (0, 0) _ rfl (by refine blk_put (cs := #[.slice none 0 0]) ?_ 0 _ rfl; refine qb ?_; exact BK1688.out) Try.underlying28 rfl (by kernel_rfl)) rfl ?_
  exact ⟨_, rfl, Kd.R_nil _ _ _ _ _, below_set qB GE1688.out⟩
 | true =>
  have h := (if_pos rfl).symm.trans h
  obtain ⟨st0, hst, h⟩ := Option.bind_eq_some_iff.1 h
  have H' := am (show spec_StairA.l0 k a0 ([] : List (List Int)) 1 = some st0 from hst)
  have HBRUN := am h
  clear hst h
  go_enter Try.func17, Try.ntmps17
  go_wp2_with (first | ((with_reducible refine gate_dst (N := 2) rfl ?_); refine qx (N := 2) (cs := #[.slice none 0 0]) (t := 28) ?_; intro gb1688 hg w5 hbox hb; have n0_ := am (below_step qB hb); have BK1688 := am (hbox); have GW1688 := am (qg w hg); have GE1688 := am (qg w hg); clear HB; have HB := n0_; clear n0_; clear hb hbox hg) | (go_at_call 90; (with_reducible refine (spec_l1In.calls a0 1 4 true _ HIN.out).mono ?_); rintro e w' ⟨rfl, ⟨nd, rfl⟩⟩; have BKA := am (blk_drewN BK1688.out nd); have HBA := am (pw_below_drewN HB.out nd); clear BK1688 HB; generalize w5.drewN nd = W1 at BKA HBA ⊢; have HB := am (Below.refl W1.heap.size W1)))
  go_loopg [4, 5] k (fun kq v4 v5 w' => ∃ (x4_1 : List (List Int)) (x5_1 : Int), v5 = .int .i64 x5_1 ∧ Aside0 (spec_StairA.l0 kq a0 x4_1 x5_1 = some st0) ∧ Aside0 (kq ≤ k) ∧ Aside0 (Kd.S (Kd.slice 3 (Kd.int .i64)) 26 w' W1.heap.size (fun _ => True) v4 x4_1) ∧ Aside0 (Below W1.heap.size W1 w'))
  case atStart => exact ⟨(([] : List (List Int))), (1), qe, H', ⟨Nat.le_refl _⟩, ⟨by first | exact Kd.S_nil _ _ _ _ _ | exact Kd.N_nil _ _ _ _ _ | exact Kd.V_nil _ _ _ _ _ | exact Kd.Q_nil _ _ _ _ _ | exact Kd.R_nil _ _ _ _ _⟩, ⟨qB⟩⟩
  case round =>
   clear H'
   try clear c1
   obtain ⟨x4_1, x5_1, rfl, HA, HK1, HO_4, HB⟩ := hrel
   cases gk with
   | zero => exact absurd HA.out (by simp [spec_StairA.l0])
   | succ k1 =>
    have H := HA.out
    clear HA
    simp only [spec_StairA.l0] at H
    by_cases c2 : x5_1 ≤ a0
    ·rw [if_pos c2] at H
     have c2b0 := decide_eq_true c2
     clear c2
     have H' := am H
     clear H
     go_wp2
     go_loopg [4, 6] k1 (fun kq v4 v6 w' => ∃ (x4_2 : List (List Int)) (x6_2 : Int), v6 = .int .i64 x6_2 ∧ Aside0 (spec_StairA.l1 kq a0 x4_2 x5_1 x6_2 = some st0) ∧ Aside0 (kq ≤ k1) ∧ Aside0 (Kd.S (Kd.slice 3 (Kd.int .i64)) 26 w' W1.heap.size (fun _ => True) v4 x4_2) ∧ Aside0 (Below W1.heap.size W1 w'))
     case atStart => exact ⟨(x4_1), (0), qe, H', ⟨Nat.le_refl _⟩, ⟨qS HO_4.out⟩, ⟨qB⟩⟩
     case round =>
      clear H'
      try clear c1
      try clear c2
      try clear c2b0
      try clear p2
      obtain ⟨x4_2, x6_2, rfl, HA, HK2, HO_4, HB⟩ := hrel
      cases gk with
      | zero => exact absurd HA.out (by simp [spec_StairA.l1])
      | succ k2 =>
       have H := HA.out
       clear HA
       simp only [spec_StairA.l1] at H
       by_cases c3 : (wrap64 (x6_2 + x5_1)) ≤ a0
       ·rw [if_pos c3] at H
        have c3b0 : decide ((wrap64 (x6_2 + x5_1)) ≤ a0) = true := decide_eq_true c3
        clear c3
        obtain ⟨y1682, hy1682⟩ : ∃ y_ : List Int, y_ = (([x6_2, wrap64 (x6_2 + x5_1)] : List Int)) := ⟨_, rfl⟩
        replace H : (if x4_2.length < 5864062014805 then (spec_StairA.l1 k2 a0 (x4_2 ++ [y1682]) x5_1 (wrap64 (x6_2 + 1))) else (none)) = some st0 := by first | (rw [hy1682]; with_reducible exact H) | (have H2_ := (Option.bind_some _ _).symm.trans H; rw [hy1682]; with_reducible exact H2_) | (have H2_ := (Option.bind_some _ _).symm.trans H; with_reducible exact H2_) | with_reducible exact H | (rw [hy1682]; exact H) | exact H
        have Ny1682 := am hy1682
        clear hy1682
        by_cases c4 : x4_2.length < 5864062014805
        rotate_left
        ·rw [if_neg c4] at H
         exact absurd H (by simp)
        rw [if_pos c4] at H
        have LMc4 := am c4
        clear c4
        obtain ⟨y1685, hy1685⟩ : ∃ y_ : List (List Int), y_ = (x4_2 ++ [y1682]) := ⟨_, rfl⟩
        replace H : (spec_StairA.l1 k2 a0 y1685 x5_1 (wrap64 (x6_2 + 1))) = some st0 := by first | (rw [hy1685]; with_reducible exact H) | (have H2_ := (Option.bind_some _ _).symm.trans H; rw [hy1685]; with_reducible exact H2_) | (have H2_ := (Option.bind_some _ _).symm.trans H; with_reducible exact H2_) | with_reducible exact H | (rw [hy1685]; exact H) | exact H
        have Ny1685 := am hy1685
        clear hy1685
        have H' := am H
        clear H
        go_wp2_with (first | ((with_reducible refine gate_dst (N := 33) rfl ?_); refine Kd.R_lit (Kd.int .i64) _ 3 ?hg (N := 33) ?hd (xs := ([x6_2, wrap64 (x6_2 + x5_1)] : List Int)) (inner := [.int .i64 x6_2, .int .i64 (wrap64 (x6_2 + x5_1))]) (ok := fun _ => True) (okp := fun _ => True) ?hr ?hp (fun _ hk => hk) trivial (Below.refl _ _) (Nat.le_refl _) (by simp) ?_; (case hd => rfl); (case hg => rfl); (case hr => first | (go_simp; done) | (go_simp; rfl)); (case hp => exact (Reps.one (show Kd.M (Kd.int .i64) _ _ _ x6_2 [.int .i64 x6_2] from rfl) (Reps.one (show Kd.M (Kd.int .i64) _ _ _ (wrap64 (x6_2 + x5_1)) [.int .i64 (wrap64 (x6_2 + x5_1))] from rfl) (Reps.none _ _)))); intro v1683 w5 ho6 hb hg_ hnew_; clear hg_ hnew_; (first | rw [← Ny1682.out] at ho6 | (simp only [Int.reduceToNat] at ho6; rw [← Ny1682.out] at ho6)); replace HO_4 := am (Kd.S_elder' (qS HO_4.out) (Kd.R_base ho6) hb); have HO1684 := am (Kd.R_lower ho6 (below_size qB)); replace HB := am (below_step qB hb); clear hb ho6; obtain ⟨Ao8, co8, eo8⟩ := Kd.R_slice HO1684.out; subst eo8) | ((with_reducible refine gate_builtin (b := .append) (xs := #[.tmp 28, .tmp 34]) rfl ?_); at_builtin; refine Kd.S_append (Kd.slice 3 (Kd.int .i64)) (w0 := W1) W1.heap.size rfl (.tmp 28) (.tmp 34) 56 26 (.slice none 0 0) 24 rfl Try.underlying56 info26 rfl (by decide) (by omega) u4 x4_2 y1682 [.slice Ao8 y1682.length co8] (fun _ => True) (fun k_ => some k_ = (.slice Ao8 y1682.length co8 : Value).ownBlock) rfl rfl ?aP (fun k_ hk_ => ((Kd.R_mono (ok' := fun k_ => ((fun _ => True)) k_ ∧ some k_ ≠ (u4 : Value).ownBlock) (Kd.R_apart' (HO1684.out) (Kd.S_typed HO_4.out) (by decide)) (fun k_ hk => ⟨trivial, hk.2⟩))).1 k_ hk_.symm) ?aF ?aO ?aB ?aS ?aL ?_; (case aP => exact Kd.M_row (Kd.R_mono (Kd.R_tight rfl (Kd.R_mono (ok' := fun k_ => ((fun _ => True)) k_ ∧ some k_ ≠ (u4 : Value).ownBlock) (Kd.R_apart' (HO1684.out) (Kd.S_typed HO_4.out) (by decide)) (fun k_ hk => ⟨trivial, hk.2⟩))) (fun _ h_ => h_))); (case aB => exact qB); (case aF => exact (fun _ _ => trivial)); (case aO => exact (qS (Kd.S_mono HO_4.out (fun k_ hk => ⟨trivial, fun e_ => hk.2 e_⟩)))); (case aS => exact (below_size qB)); (case aL => have := LMc4.out; omega); intro v1686 w7 ho hb hg hat; rw [← Ny1685.out] at ho; have n0_ := am (hb); have HO1687 := am (ho); clear HB HO_4 HO1684; have HB := n0_; clear n0_; clear ho hb hg hat))
        go_roundg k2
        case measure => have := HK1.out; have := HK2.out; omega
        case rel => exact ⟨(y1685), (wrap64 (x6_2 + 1)), qe, H', ⟨by have := HK1.out; have := HK2.out; omega⟩, ⟨qS HO1687.out⟩, ⟨qB⟩⟩
       ·rw [if_neg c3] at H
        have c3b0 : decide ((wrap64 (x6_2 + x5_1)) ≤ a0) = false := decide_eq_false c3
        clear c3
        have H' := am H
        clear H
        go_wp2
        go_roundg k2
        case measure => have := HK1.out; have := HK2.out; omega
        case rel => exact ⟨(x4_2), (wrap64 (x5_1 + 1)), qe, H', ⟨by have := HK1.out; have := HK2.out; omega⟩, ⟨qS HO_4.out⟩, ⟨qB⟩⟩
    ·rw [if_neg c2] at H
     have c2b0 := decide_eq_false c2
     clear c2
     obtain rfl := Option.some.inj H
     obtain ⟨As1, cs1, es1⟩ := Kd.S_slice HO_4.out
     subst es1
     have HR1 := am (Kd.S_reads' HO_4.out).2.2
     have HC1 := am (Kd.S_reads' HO_4.out).2.1
     have BK1688 := am (blk_below BKA.out HB.out)
     have HBW := am (HBA.out.trans (HB.out.mono HBA.out.size))
     obtain ⟨W2, rfl⟩ : ∃ x, x = wr := ⟨wr, rfl⟩
     clear HB HO_4 BKA HBA
     have HB := am (Below.refl W2.heap.size W2)
     have H : (if 0 ≤ (x4_1.length : Int) then (if ((x4_1.length : Int) : Int).toNat ≤ 35184372088832 then (spec_StairB.l0 k x4_1 x4_1 (x4_1.length : Int) 0 (List.replicate ((x4_1.length : Int) : Int).toNat 0)) else (none)) else (none)) = some (r1, r2) := HBRUN.out
     clear HBRUN
     by_cases c3 : 0 ≤ (x4_1.length : Int)
     ·rw [if_pos c3] at H
      have c3b0 := eq_true c3
      have c3b1 : decide (0 ≤ (x4_1.length : Int)) = true := decide_eq_true c3
      clear c3
      by_cases c4 : ((x4_1.length : Int) : Int).toNat ≤ 35184372088832
      rotate_left
      ·rw [if_neg c4] at H
       exact absurd H (by simp)
      rw [if_pos c4] at H
      have c4b0 := eq_true c4
      have c4b1 : decide (((x4_1.length : Int) : Int).toNat ≤ 35184372088832) = true := decide_eq_true c4
      clear c4
      obtain ⟨y1689, hy1689⟩ : ∃ y_ : List Int, y_ = (List.replicate ((x4_1.length : Int) : Int).toNat 0) := ⟨_, rfl⟩
      replace H : (spec_StairB.l0 k x4_1 x4_1 (x4_1.length : Int) 0 y1689) = some (r1, r2) := by first | (rw [hy1689]; with_reducible exact H) | (have H2_ := (Option.bind_some _ _).symm.trans H; rw [hy1689]; with_reducible exact H2_) | (have H2_ := (Option.bind_some _ _).symm.trans H; with_reducible exact H2_) | with_reducible exact H | (rw [hy1689]; exact H) | exact H
      have Ny1689 := am hy1689
      clear hy1689
      have H' := am H
      clear H
      go_wp2_with (first | ((with_reducible refine gate_dst (N := 38) rfl ?_); refine Kd.R_make (Kd.int .i64) _ 3 rfl (N := 38) rfl 26 _ _ rfl (x4_1.length : Int) rfl rfl Try.underlying26 (.int .i64 0) 8 info3 rfl (by decide) (by omega) 0 (ok := fun _ => True) (okp := fun _ => True) rfl (fun _ hk => hk) trivial (qd) (Nat.le_trans (Nat.mul_le_mul_right _ (qd : (x4_1.length : Int).toNat ≤ 35184372088832)) (by omega)) (Below.refl _ _) (Nat.le_refl _) ?_; intro v1690 w6 ho7 hb hg_ hnew_; clear hg_ hnew_; (first | rw [← Ny1689.out] at ho7 | (simp only [Int.reduceToNat] at ho7; rw [← Ny1689.out] at ho7)); have HO1691 := am (Kd.R_lower ho7 (below_size qB)); replace BK1688 := am (blk_below (g := gb1688) (o := .cells #[.slice none 0 0] 28 (0, 0)) (qb BK1688.out) hb); replace HB := am (below_step qB hb); clear hb ho7; obtain ⟨Ao8, co8, eo8⟩ := Kd.R_slice HO1691.out; subst eo8) | ((with_reducible refine gate_dst (N := 7) rfl ?_); refine qx (N := 7) (cs := #[.slice none 0 0]) (t := 28) ?_; intro gb1692 hg w9 hbox hb; replace HO1691 := am (Kd.R_below (qR HO1691.out) hb); have n1_ := am (blk_below (g := gb1688) (o := .cells #[.slice none 0 0] 28 (0, 0)) (qb BK1688.out) hb); have n2_ := am (below_step qB hb); have BK1692 := am (hbox); have GW1692 := am (qg W2 hg); have GE1692 := am (qg W2 hg); have NB1688_1692 := am ((by rw [hg]; exact Nat.ne_of_lt (blk_lt (g := gb1688) (o := .cells #[.slice none 0 0] 28 (0, 0)) (qb BK1688.out)) : gb1688 ≠ gb1692)); have NB1692_1688 := am ((by rw [hg]; exact Nat.ne_of_gt (blk_lt (g := gb1688) (o := .cells #[.slice none 0 0] 28 (0, 0)) (qb BK1688.out)) : gb1692 ≠ gb1688)); clear BK1688 HB; have BK1688 := n1_; have HB := n2_; clear n1_ n2_; clear hb hbox hg; have hnb10 := NB1692_1688.out; have hnc10 := NB1688_1692.out; have hcz11_0 := qz w9 BK1692.out; have hfz11_0 := blk_frozen BK1692.out 0))
      go_loopg [42] k (fun kq v42 w' => ∃ (x42_1 : Int) (x1693000_1 : List Int) (u1693000 : Value), v42 = .int .i64 x42_1 ∧ Aside0 (spec_StairB.l0 kq x4_1 x4_1 (x4_1.length : Int) x42_1 x1693000_1 = some (r1, r2)) ∧ Aside0 (kq ≤ k) ∧ Aside0 (Kd.R (Kd.int .i64) 3 w' W2.heap.size (fun _ => True) u1693000 x1693000_1) ∧ Aside0 (w'.heap[gb1688]? = some (.cells #[(.slice none 0 0)] 28 (0, 0))) ∧ Aside0 (w'.heap[gb1692]? = some (.cells #[u1693000] 28 (0, 0))) ∧ Aside0 (Below W2.heap.size W2 w'))
      case atStart => exact ⟨(0), (y1689), (.slice Ao8 y1689.length co8), qe, H', ⟨Nat.le_refl _⟩, ⟨qR (Kd.R_mono (Kd.R_far (p := ⟨gb1692, 0, none⟩) (Kd.R_types HO1691.out BK1692.out (by decide)) (fun _ hk => hk.2) (.slice Ao8 y1689.length co8)) (fun _ hk => trivial))⟩, ⟨by (with_reducible repeat (first | refine blk_drewN ?_ _ | refine blk_drew ?_ | refine blk_alloc ?_ _)); refine blk_far ?_ NB1688_1692.out _; refine qb ?_; exact BK1688.out⟩, ⟨by (with_reducible repeat (first | refine blk_drewN ?_ _ | refine blk_drew ?_ | refine blk_alloc ?_ _)); refine blk_put (cs := #[.slice none 0 0]) ?_ 0 _ rfl; refine qb ?_; exact BK1692.out⟩, ⟨qB⟩⟩
      case round =>
       clear H'
       try clear c1
       try clear p2
       try clear c3
       try clear c3b0
       try clear c3b1
       try clear c4
       try clear c4b0
       try clear c4b1
       try clear c10
       try clear hcz11_0
       try clear hfz11_0
       obtain ⟨x42_1, x1693000_1, u1693000, rfl, HA, HK1, HO_1693000, BK1688, BK1692, HB⟩ := hrel
       cases gk with
       | zero => exact absurd HA.out (by simp [spec_StairB.l0])
       | succ k1 =>
        have H := HA.out
        clear HA
        simp only [spec_StairB.l0] at H
        by_cases c12 : x42_1 < (x4_1.length : Int)
        ·rw [if_pos c12] at H
         have c12b0 := decide_eq_true c12
         clear c12
         by_cases c13 : 0 ≤ x42_1
         rotate_left
         ·rw [if_neg c13] at H
          exact absurd H (by simp)
         rw [if_pos c13] at H
         have c13b0 := decide_eq_true c13
         clear c13
         by_cases c14 : x42_1 < (x4_1.length : Int)
         rotate_left
         ·rw [if_neg c14] at H
          exact absurd H (by simp)
         rw [if_pos c14] at H
         have c14b0 := decide_eq_true c14
         clear c14
         have H' := am H
         clear H
         have p1693 : 0 ≤ (x42_1 : Int) := qd
         have q1693 : x42_1 < (x4_1.length : Int) := qd
         obtain ⟨ad1693, A1693_0, c1693_0, e1693, hx1693_0, hl1693_0, hi1693_0⟩ := at_L1 HR1.out x42_1 p1693 q1693
         cases e1693
         replace hx1693_0 := (HB.out.cell (World.block_lt_of_cell? W2 _ hx1693_0)).trans hx1693_0
         have HR1693_0 := am hi1693_0
         have HC1693_0 := am hl1693_0
         clear hi1693_0 hl1693_0
         replace p1693 := eq_true p1693
         replace q1693 := eq_true q1693
         go_wp2
         go_loopg [49] k1 (fun kq v49 w' => ∃ (x49_2 : Int) (x1693000_2 : List Int) (u1693000 : Value), v49 = .int .i64 x49_2 ∧ Aside0 (spec_StairB.l1 kq x4_1 x42_1 (rd_L1 x4_1 x42_1) x4_1 (x4_1.length : Int) x42_1 x4_1 (x4_1.length : Int) x49_2 x1693000_2 = some (r1, r2)) ∧ Aside0 (kq ≤ k1) ∧ Aside0 (Kd.R (Kd.int .i64) 3 w' W2.heap.size (fun _ => True) u1693000 x1693000_2) ∧ Aside0 (w'.heap[gb1688]? = some (.cells #[(.slice none 0 0)] 28 (0, 0))) ∧ Aside0 (w'.heap[gb1692]? = some (.cells #[u1693000] 28 (0, 0))) ∧ Aside0 (Below W2.heap.size W2 w'))
         case atStart => exact ⟨(0), (x1693000_1), (u1693000), qe, H', ⟨Nat.le_refl _⟩, ⟨qR HO_1693000.out⟩, ⟨qb BK1688.out⟩, ⟨qb BK1692.out⟩, ⟨qB⟩⟩
         case round =>
          clear H'
          try clear c1
          try clear p1
          try clear q1
          try clear hx1
          try clear p2
          try clear c3
          try clear c3b0
          try clear c3b1
          try clear c4
          try clear c4b0
          try clear c4b1
          try clear c10
          try clear c12
          try clear c12b0
          try clear c13
          try clear c13b0
          try clear c14
          try clear c14b0
          try clear hcz11_0
          try clear hfz11_0
          try clear hx1693_0
          try clear p1693
          try clear p2
          try clear q1693
          obtain ⟨x49_2, x1693000_2, u1693000, rfl, HA, HK2, HO_1693000, BK1688, BK1692, HB⟩ := hrel
          cases gk with
          | zero => exact absurd HA.out (by simp [spec_StairB.l1])
          | succ k2 =>
           have H := HA.out
           clear HA
           simp only [spec_StairB.l1] at H
           by_cases c15 : x49_2 < (x4_1.length : Int)
           ·rw [if_pos c15] at H
            have c15b0 := decide_eq_true c15
            clear c15
            by_cases c16 : 0 ≤ x49_2
            rotate_left
            ·rw [if_neg c16] at H
             exact absurd H (by simp)
            rw [if_pos c16] at H
            have c16b0 := decide_eq_true c16
            clear c16
            by_cases c17 : x49_2 < (x4_1.length : Int)
            rotate_left
            ·rw [if_neg c17] at H
             exact absurd H (by simp)
            rw [if_pos c17] at H
            have c17b0 := decide_eq_true c17
            clear c17
            by_cases c18 : x42_1 = x49_2
            ·rw [if_pos c18] at H
             have c18b0 : (x42_1 == x49_2) = true := beq_iff_eq.mpr c18
             have c18b1 : (x42_1 != x49_2) = false := bne_eq_false_iff_eq.mpr c18
             clear c18
             have H' := am H
             clear H
             have p1694 : 0 ≤ (x49_2 : Int) := qd
             have q1694 : x49_2 < (x4_1.length : Int) := qd
             obtain ⟨ad1694, A1694_0, c1694_0, e1694, hx1694_0, hl1694_0, hi1694_0⟩ := at_L1 HR1.out x49_2 p1694 q1694
             obtain rfl : ad1693 = ad1694 := (by injection e1694)
             replace hx1694_0 := (HB.out.cell (World.block_lt_of_cell? W2 _ hx1694_0)).trans hx1694_0
             have HR1694_0 := am hi1694_0
             have HC1694_0 := am hl1694_0
             clear hi1694_0 hl1694_0
             replace p1694 := eq_true p1694
             replace q1694 := eq_true q1694
             try go_wp2
             have n0_ := am (Kd.R_drew HO_1693000.out)
             have n1_ := am (blk_drew BK1688.out)
             have n2_ := am (blk_drew BK1692.out)
             have n3_ := am (below_drew1 HB.out)
             clear HO_1693000
             clear BK1688
             clear BK1692
             clear HB
             have HO_1693000 := n0_
             have BK1688 := n1_
             have BK1692 := n2_
             have HB := n3_
             clear n0_ n1_ n2_ n3_
             refine start_ (n := 21) (S := fun w' => True) (ds := []) #[false, false, false, false, false, false, false, false, false, false, false, false, false, false, false, false, false, false, false, false, false] (by kernel_rfl) rfl rfl trivial (fun hHeld => ?_); refine with_tabW spec_StairB.tab18 spec_StairB.bits18 (fun HT_ HW_ => ?_)
             generalize wr.drew = w19 at HO_1693000 BK1688 BK1692 HB hHeld ⊢
             refine pure_ (i := 0) (N := some 54) (v := ?_) (a' := ?_) #[true, false, false, false, false, false, false, false, false, false, false, false, false, false, false, false, false, false, false, false, false] rfl rfl (any_of HT_.out (by kernel_rfl)) (fun _ _ _ h => h) (Or.inl ⟨by rfl, ?_⟩) ?_ ?_
             rotate_left
             ·intro w'
              go_simp
              with_reducible rfl
             rotate_left
             ·exact qP
             refine pure_ (i := 1) (N := some 55) (v := ?_) (a' := ?_) #[true, true, false, false, false, false, false, false, false, false, false, false, false, false, false, false, false, false, false, false, false] rfl rfl (any_of HT_.out (by kernel_rfl)) (fun _ _ _ h => h) (Or.inl ⟨by rfl, ?_⟩) ?_ ?_
             rotate_left
             ·intro w'
              go_simp
              with_reducible rfl
             rotate_left
             ·exact qP
             refine pure_ (i := 2) (N := some 56) (v := ?_) (a' := ?_) #[true, true, true, false, false, false, false, false, false, false, false, false, false, false, false, false, false, false, false, false, false] rfl rfl (any_of HT_.out (by kernel_rfl)) (fun _ _ _ h => h) (Or.inl ⟨by rfl, ?_⟩) ?_ ?_
             rotate_left
             ·intro w'
              go_simp
              with_reducible rfl
             rotate_left
             ·exact qP
             refine pure_ (i := 3) (N := some 57) (v := ?_) (a' := ?_) #[true, true, true, true, false, false, false, false, false, false, false, false, false, false, false, false, false, false, false, false, false] rfl rfl (any_of HT_.out (by kernel_rfl)) (fun _ _ _ h => h) (Or.inl ⟨by rfl, ?_⟩) ?_ ?_
             rotate_left
             ·intro w'
              go_simp
              with_reducible rfl
             rotate_left
             ·exact qP
             refine pure_ (i := 4) (N := some 58) (v := undef) (a' := ?_) #[true, true, true, true, true, false, false, false, false, false, false, false, false, false, false, false, false, false, false, false, false] rfl rfl (any_of HT_.out (by kernel_rfl)) (fun _ _ _ h => h) (Or.inr ⟨by rfl, rfl⟩) ?_ ?_
             rotate_left
             ·exact qP
             refine pure_ (i := 5) (N := some 59) (v := undef) (a' := ?_) #[true, true, true, true, true, true, false, false, false, false, false, false, false, false, false, false, false, false, false, false, false] rfl rfl (any_of HT_.out (by kernel_rfl)) (fun _ _ _ h => h) (Or.inr ⟨by rfl, rfl⟩) ?_ ?_
             rotate_left
             ·exact qP
             refine pure_ (i := 6) (N := some 60) (v := undef) (a' := ?_) #[true, true, true, true, true, true, true, false, false, false, false, false, false, false, false, false, false, false, false, false, false] rfl rfl (any_of HT_.out (by kernel_rfl)) (fun _ _ _ h => h) (Or.inr ⟨by rfl, rfl⟩) ?_ ?_
             rotate_left
             ·exact qP
             refine pure_ (i := 7) (N := some 61) (v := undef) (a' := ?_) #[true, true, true, true, true, true, true, true, false, false, false, false, false, false, false, false, false, false, false, false, false] rfl rfl (any_of HT_.out (by kernel_rfl)) (fun _ _ _ h => h) (Or.inr ⟨by rfl, rfl⟩) ?_ ?_
             rotate_left
             ·exact qP
             refine pure_ (i := 8) (N := some 62) (v := undef) (a' := ?_) #[true, true, true, true, true, true, true, true, true, false, false, false, false, false, false, false, false, false, false, false, false] rfl rfl (any_of HT_.out (by kernel_rfl)) (fun _ _ _ h => h) (Or.inr ⟨by rfl, rfl⟩) ?_ ?_
             rotate_left
             ·exact qP
             refine pure_ (i := 9) (N := some 63) (v := undef) (a' := ?_) #[true, true, true, true, true, true, true, true, true, true, false, false, false, false, false, false, false, false, false, false, false] rfl rfl (any_of HT_.out (by kernel_rfl)) (fun _ _ _ h => h) (Or.inr ⟨by rfl, rfl⟩) ?_ ?_
             rotate_left
             ·exact qP
             refine pure_ (i := 10) (N := some 64) (v := undef) (a' := ?_) #[true, true, true, true, true, true, true, true, true, true, true, false, false, false, false, false, false, false, false, false, false] rfl rfl (any_of HT_.out (by kernel_rfl)) (fun _ _ _ h => h) (Or.inr ⟨by rfl, rfl⟩) ?_ ?_
             rotate_left
             ·exact qP
             refine pure_ (i := 11) (N := some 65) (v := ?_) (a' := ?_) #[true, true, true, true, true, true, true, true, true, true, true, true, false, false, false, false, false, false, false, false, false] rfl rfl (any_of HT_.out (by kernel_rfl)) (fun _ _ _ h => h) (Or.inl ⟨by rfl, ?_⟩) ?_ ?_
             rotate_left
             ·intro w'
              go_simp
              with_reducible rfl
             rotate_left
             ·exact qP
             refine pure_ (i := 12) (N := some 66) (v := ?_) (a' := ?_) #[true, true, true, true, true, true, true, true, true, true, true, true, true, false, false, false, false, false, false, false, false] rfl rfl (any_of HT_.out (by kernel_rfl)) (fun _ _ _ h => h) (Or.inl ⟨by rfl, ?_⟩) ?_ ?_
             rotate_left
             ·intro w'
              go_simp
              with_reducible rfl
             rotate_left
             ·exact qP
             refine pure_ (i := 13) (N := some 67) (v := undef) (a' := ?_) #[true, true, true, true, true, true, true, true, true, true, true, true, true, true, false, false, false, false, false, false, false] rfl rfl (any_of HT_.out (by kernel_rfl)) (fun _ _ _ h => h) (Or.inr ⟨by rfl, rfl⟩) ?_ ?_
             rotate_left
             ·exact qP
             refine pure_ (i := 14) (N := some 68) (v := undef) (a' := ?_) #[true, true, true, true, true, true, true, true, true, true, true, true, true, true, true, false, false, false, false, false, false] rfl rfl (any_of HT_.out (by kernel_rfl)) (fun _ _ _ h => h) (Or.inr ⟨by rfl, rfl⟩) ?_ ?_
             rotate_left
             ·exact qP
             refine pure_ (i := 15) (N := some 69) (v := undef) (a' := ?_) #[true, true, true, true, true, true, true, true, true, true, true, true, true, true, true, true, false, false, false, false, false] rfl rfl (any_of HT_.out (by kernel_rfl)) (fun _ _ _ h => h) (Or.inr ⟨by rfl, rfl⟩) ?_ ?_
             rotate_left
             ·exact qP
             refine pure_ (i := 16) (N := some 70) (v := undef) (a' := ?_) #[true, true, true, true, true, true, true, true, true, true, true, true, true, true, true, true, true, false, false, false, false] rfl rfl (any_of HT_.out (by kernel_rfl)) (fun _ _ _ h => h) (Or.inr ⟨by rfl, rfl⟩) ?_ ?_
             rotate_left
             ·exact qP
             refine pure_ (i := 17) (N := some 71) (v := undef) (a' := ?_) #[true, true, true, true, true, true, true, true, true, true, true, true, true, true, true, true, true, true, false, false, false] rfl rfl (any_of HT_.out (by kernel_rfl)) (fun _ _ _ h => h) (Or.inr ⟨by rfl, rfl⟩) ?_ ?_
             rotate_left
             ·exact qP
             refine pure_ (i := 18) (N := some 72) (v := undef) (a' := ?_) #[true, true, true, true, true, true, true, true, true, true, true, true, true, true, true, true, true, true, true, false, false] rfl rfl (any_of HT_.out (by kernel_rfl)) (fun _ _ _ h => h) (Or.inr ⟨by rfl, rfl⟩) ?_ ?_
             rotate_left
             ·exact qP
             refine pure_ (i := 19) (N := some 73) (v := undef) (a' := ?_) #[true, true, true, true, true, true, true, true, true, true, true, true, true, true, true, true, true, true, true, true, false] rfl rfl (any_of HT_.out (by kernel_rfl)) (fun _ _ _ h => h) (Or.inr ⟨by rfl, rfl⟩) ?_ ?_
             rotate_left
             ·exact qP
             refine pure_ (i := 20) (N := some 74) (v := ?_) (a' := ?_) #[true, true, true, true, true, true, true, true, true, true, true, true, true, true, true, true, true, true, true, true, true] rfl rfl (any_of HT_.out (by kernel_rfl)) (fun _ _ _ h => h) (Or.inl ⟨by rfl, ?_⟩) ?_ ?_
             rotate_left
             ·intro w'
              go_simp
              with_reducible rfl
             rotate_left
             ·exact qP
             refine done_ (done_of HT_.out (by kernel_rfl)) ?_
             try go_wp2
             go_roundg k2
             case measure => have := HK1.out; have := HK2.out; omega
             case rel => exact ⟨(wrap64 (x49_2 + 1)), (x1693000_2), (u1693000), qe, H', ⟨by have := HK1.out; have := HK2.out; omega⟩, ⟨qR HO_1693000.out⟩, ⟨qb BK1688.out⟩, ⟨qb BK1692.out⟩, ⟨qB⟩⟩
            ·rw [if_neg c18] at H
             have c18b0 : (x42_1 == x49_2) = false := beq_eq_false_iff_ne.mpr c18
             have c18b1 : (x42_1 != x49_2) = true := bne_iff_ne.mpr c18
             by_cases c20 : 0 < ((rd_L1 x4_1 x42_1).length : Int)
             rotate_left
             ·rw [if_neg c20] at H
              exact absurd H (by simp)
             rw [if_pos c20] at H
             have c20b0 := decide_eq_true c20
             have c20b1 : decide (0 < (rd_L1 x4_1 x42_1).length) = true := decide_eq_true (by omega)
             clear c20
             by_cases c21 : 0 < ((rd_L1 x4_1 x49_2).length : Int)
             rotate_left
             ·rw [if_neg c21] at H
              exact absurd H (by simp)
             rw [if_pos c21] at H
             have c21b0 := decide_eq_true c21
             have c21b1 : decide (0 < (rd_L1 x4_1 x49_2).length) = true := decide_eq_true (by omega)
             clear c21
             by_cases c22 : (rd (rd_L1 x4_1 x42_1) 0) ≤ (rd (rd_L1 x4_1 x49_2) 0)
             ·rw [if_pos c22] at H
              have c22b0 := decide_eq_true c22
              clear c22
              by_cases c23 : 1 < ((rd_L1 x4_1 x49_2).length : Int)
              rotate_left
              ·rw [if_neg c23] at H
               exact absurd H (by simp)
              rw [if_pos c23] at H
              have c23b0 := decide_eq_true c23
              have c23b1 : decide (1 < (rd_L1 x4_1 x49_2).length) = true := decide_eq_true (by omega)
              clear c23
              by_cases c24 : 1 < ((rd_L1 x4_1 x42_1).length : Int)
              rotate_left
              ·rw [if_neg c24] at H
               exact absurd H (by simp)
              rw [if_pos c24] at H
              have c24b0 := decide_eq_true c24
              have c24b1 : decide (1 < (rd_L1 x4_1 x42_1).length) = true := decide_eq_true (by omega)
              clear c24
              by_cases c25 : (rd (rd_L1 x4_1 x49_2) 1) ≤ (rd (rd_L1 x4_1 x42_1) 1)
              ·rw [if_pos c25] at H
               have c25b0 := decide_eq_true c25
               clear c25
               by_cases c26 : 0 ≤ x42_1
               rotate_left
               ·rw [if_neg c26] at H
                exact absurd H (by simp)
               rw [if_pos c26] at H
               have c26b0 := decide_eq_true c26
               clear c26
               by_cases c27 : x42_1 < (x1693000_2.length : Int)
               rotate_left
               ·rw [if_neg c27] at H
                exact absurd H (by simp)
               rw [if_pos c27] at H
               have c27b0 := decide_eq_true c27
               clear c27
               have c28b0 := eq_true (qd : 0 ≤ x49_2)
               obtain ⟨ji29, hji29⟩ : ∃ j_ : Int, (shl .i64 1 x49_2) = j_ := ⟨_, rfl⟩
               replace H : (spec_StairB.l1 k2 x4_1 x42_1 (rd_L1 x4_1 x42_1) x4_1 (x4_1.length : Int) x42_1 x4_1 (x4_1.length : Int) (wrap64 (x49_2 + 1)) (x1693000_2.set (x42_1 : Int).toNat (Go.bits .or .i64 (rd x1693000_2 x42_1) (ji29)))) = some (r1, r2) := by first | (rw [hji29] at H; exact H) | (simp only [hji29] at H ⊢; exact H)
               have hji29_ : (IntKind.i64.wrap (1 * 2 ^ min x49_2.toNat 64)) = ji29 := hji29
               have hji29z : x49_2 ≤ 64 → (IntKind.i64.wrap (1 * 2 ^ x49_2.toNat)) = ji29 := shl_small hji29
               have hji29u : (IntKind.i64.wrap (2 ^ min x49_2.toNat 64)) = ji29 := by have h_ := hji29_; rw [Int.one_mul] at h_; exact h_
               have hji29v : x49_2 ≤ 64 → (IntKind.i64.wrap (2 ^ x49_2.toNat)) = ji29 := fun hle_ => by have h_ := hji29z hle_; rw [Int.one_mul] at h_; exact h_
               have hji29y : (wrap64 (1 * 2 ^ min x49_2.toNat 64)) = ji29 := (i64_w _).symm.trans hji29_
               have hji29x : x49_2 ≤ 64 → (wrap64 (1 * 2 ^ x49_2.toNat)) = ji29 := fun h_ => (i64_w _).symm.trans (hji29z h_)
               obtain ⟨y1700, hy1700⟩ : ∃ y_ : List Int, y_ = (x1693000_2.set (x42_1 : Int).toNat (Go.bits .or .i64 (rd x1693000_2 x42_1) (ji29))) := ⟨_, rfl⟩
               replace H : (spec_StairB.l1 k2 x4_1 x42_1 (rd_L1 x4_1 x42_1) x4_1 (x4_1.length : Int) x42_1 x4_1 (x4_1.length : Int) (wrap64 (x49_2 + 1)) y1700) = some (r1, r2) := by first | (rw [hy1700]; with_reducible exact H) | (have H2_ := (Option.bind_some _ _).symm.trans H; rw [hy1700]; with_reducible exact H2_) | (have H2_ := (Option.bind_some _ _).symm.trans H; with_reducible exact H2_) | with_reducible exact H | (rw [hy1700]; exact H) | exact H
               have Ny1700 := am hy1700
               clear hy1700
               have H' := am H
               clear H
               have p1694 : 0 ≤ (x49_2 : Int) := qd
               have q1694 : x49_2 < (x4_1.length : Int) := qd
               obtain ⟨ad1694, A1694_0, c1694_0, e1694, hx1694_0, hl1694_0, hi1694_0⟩ := at_L1 HR1.out x49_2 p1694 q1694
               obtain rfl : ad1693 = ad1694 := (by injection e1694)
               replace hx1694_0 := (HB.out.cell (World.block_lt_of_cell? W2 _ hx1694_0)).trans hx1694_0
               have HR1694_0 := am hi1694_0
               have HC1694_0 := am hl1694_0
               clear hi1694_0 hl1694_0
               replace p1694 := eq_true p1694
               replace q1694 := eq_true q1694
               try go_wp2
               have n0_ := am (Kd.R_drew HO_1693000.out)
               have n1_ := am (blk_drew BK1688.out)
               have n2_ := am (blk_drew BK1692.out)
               have n3_ := am (below_drew1 HB.out)
               clear HO_1693000
               clear BK1688
               clear BK1692
               clear HB
               have HO_1693000 := n0_
               have BK1688 := n1_
               have BK1692 := n2_
               have HB := n3_
               clear n0_ n1_ n2_ n3_
               have p1695 : 0 ≤ (0 : Int) := (by omega)
               have q1695 : 0 < ((rd_L1 x4_1 x42_1).length : Int) := qd
               obtain ⟨ad1695, e1695, hx1695_0⟩ := Kd.at_int HR1693_0.out 0 p1695 q1695
               have hw1695_0 := hx1695_0
               (try rw [show ((0 : Int)).toNat = 0 from rfl] at hw1695_0)
               (try rw [show 0 * 1 = 0 from rfl] at hw1695_0)
               (try rw [Addr.add_zero'] at hw1695_0)
               cases e1695
               have qi1695 : (0 < (rd_L1 x4_1 x42_1).length) = True := eq_true (by omega)
               (try rw [show ((0 : Int)).toNat = 0 from rfl] at hx1695_0)
               (try rw [Addr.add_zero'] at hx1695_0)
               replace hx1695_0 := (HB.out.cell (World.block_lt_of_cell? W2 _ hx1695_0)).trans hx1695_0
               replace p1695 := eq_true p1695
               replace q1695 := eq_true q1695
               have p1696 : 0 ≤ (0 : Int) := (by omega)
               have q1696 : 0 < ((rd_L1 x4_1 x49_2).length : Int) := qd
               obtain ⟨ad1696, e1696, hx1696_0⟩ := Kd.at_int HR1694_0.out 0 p1696 q1696
               have hw1696_0 := hx1696_0
               (try rw [show ((0 : Int)).toNat = 0 from rfl] at hw1696_0)
               (try rw [show 0 * 1 = 0 from rfl] at hw1696_0)
               (try rw [Addr.add_zero'] at hw1696_0)
               cases e1696
               have qi1696 : (0 < (rd_L1 x4_1 x49_2).length) = True := eq_true (by omega)
               (try rw [show ((0 : Int)).toNat = 0 from rfl] at hx1696_0)
               (try rw [Addr.add_zero'] at hx1696_0)
               replace hx1696_0 := (HB.out.cell (World.block_lt_of_cell? W2 _ hx1696_0)).trans hx1696_0
               replace p1696 := eq_true p1696
               replace q1696 := eq_true q1696
               have p1697 : 0 ≤ (1 : Int) := (by omega)
               have q1697 : 1 < ((rd_L1 x4_1 x49_2).length : Int) := qd
               obtain ⟨ad1697, e1697, hx1697_0⟩ := Kd.at_int HR1694_0.out 1 p1697 q1697
               have hw1697_0 := hx1697_0
               (try rw [show ((1 : Int)).toNat = 1 from rfl] at hw1697_0)
               (try rw [show 1 * 1 = 1 from rfl] at hw1697_0)
               (try simp only [Nat.reduceMul, Nat.reduceEqDiff, Go.Addr.add, ↓reduceIte] at hw1697_0)
               obtain rfl : ad1696 = ad1697 := (by injection e1697)
               (try simp only [show (1 : Int).toNat = 1 from rfl, Nat.reduceMul, Nat.reduceEqDiff, Go.Addr.add, ↓reduceIte] at hx1697_0)
               have qi1697 : (1 < (rd_L1 x4_1 x49_2).length) = True := eq_true (by omega)
               (try rw [show ((1 : Int)).toNat = 1 from rfl] at hx1697_0)
               replace hx1697_0 := (HB.out.cell (World.block_lt_of_cell? W2 _ hx1697_0)).trans hx1697_0
               replace p1697 := eq_true p1697
               replace q1697 := eq_true q1697
               have p1698 : 0 ≤ (1 : Int) := (by omega)
               have q1698 : 1 < ((rd_L1 x4_1 x42_1).length : Int) := qd
               obtain ⟨ad1698, e1698, hx1698_0⟩ := Kd.at_int HR1693_0.out 1 p1698 q1698
               have hw1698_0 := hx1698_0
               (try rw [show ((1 : Int)).toNat = 1 from rfl] at hw1698_0)
               (try rw [show 1 * 1 = 1 from rfl] at hw1698_0)
               (try simp only [Nat.reduceMul, Nat.reduceEqDiff, Go.Addr.add, ↓reduceIte] at hw1698_0)
               obtain rfl : ad1695 = ad1698 := (by injection e1698)
               (try simp only [show (1 : Int).toNat = 1 from rfl, Nat.reduceMul, Nat.reduceEqDiff, Go.Addr.add, ↓reduceIte] at hx1698_0)
               have qi1698 : (1 < (rd_L1 x4_1 x42_1).length) = True := eq_true (by omega)
               (try rw [show ((1 : Int)).toNat = 1 from rfl] at hx1698_0)
               replace hx1698_0 := (HB.out.cell (World.block_lt_of_cell? W2 _ hx1698_0)).trans hx1698_0
               replace p1698 := eq_true p1698
               replace q1698 := eq_true q1698
               refine start_ (n := 21) (S := fun w' => w'.cell? ad1695 = some (.int .i64 (rd (rd_L1 x4_1 x42_1) 0)) ∧ w'.cell? ad1696 = some (.int .i64 (rd (rd_L1 x4_1 x49_2) 0)) ∧ w'.cell? ⟨ad1696.block, ad1696.off + 1, none⟩ = some (.int .i64 (rd (rd_L1 x4_1 x49_2) 1)) ∧ w'.cell? ⟨ad1695.block, ad1695.off + 1, none⟩ = some (.int .i64 (rd (rd_L1 x4_1 x42_1) 1))) (ds := []) #[false, false, false, false, false, false, false, false, false, false, false, false, false, false, false, false, false, false, false, false, false] (by kernel_rfl) rfl rfl ⟨((HB.out.cell (World.block_lt_of_cell? W2 _ hw1695_0)).trans hw1695_0), ((HB.out.cell (World.block_lt_of_cell? W2 _ hw1696_0)).trans hw1696_0), ((HB.out.cell (World.block_lt_of_cell? W2 _ hw1697_0)).trans hw1697_0), ((HB.out.cell (World.block_lt_of_cell? W2 _ hw1698_0)).trans hw1698_0)⟩ (fun hHeld => ?_); refine with_tabW spec_StairB.tab18 spec_StairB.bits18 (fun HT_ HW_ => ?_)
               generalize wr.drew = w31 at HO_1693000 BK1688 BK1692 HB hx1695_0 hx1696_0 hx1697_0 hx1698_0 hHeld ⊢
               refine pure_ (i := 0) (N := some 54) (v := ?_) (a' := ?_) #[true, false, false, false, false, false, false, false, false, false, false, false, false, false, false, false, false, false, false, false, false] rfl rfl (any_of HT_.out (by kernel_rfl)) (fun _ _ _ h => h) (Or.inl ⟨by rfl, ?_⟩) ?_ ?_
               rotate_left
               ·intro w'
                go_simp
                with_reducible rfl
               rotate_left
               ·exact qP
               refine pure_ (i := 1) (N := some 55) (v := ?_) (a' := ?_) #[true, true, false, false, false, false, false, false, false, false, false, false, false, false, false, false, false, false, false, false, false] rfl rfl (any_of HT_.out (by kernel_rfl)) (fun _ _ _ h => h) (Or.inl ⟨by rfl, ?_⟩) ?_ ?_
               rotate_left
               ·intro w'
                go_simp
                with_reducible rfl
               rotate_left
               ·exact qP
               refine pure_ (i := 2) (N := some 56) (v := ?_) (a' := ?_) #[true, true, true, false, false, false, false, false, false, false, false, false, false, false, false, false, false, false, false, false, false] rfl rfl (any_of HT_.out (by kernel_rfl)) (fun _ _ _ h => h) (Or.inl ⟨by rfl, ?_⟩) ?_ ?_
               rotate_left
               ·intro w'
                go_simp
                with_reducible rfl
               rotate_left
               ·exact qP
               refine pure_ (i := 3) (N := some 57) (v := ?_) (a' := ?_) #[true, true, true, true, false, false, false, false, false, false, false, false, false, false, false, false, false, false, false, false, false] rfl rfl (any_of HT_.out (by kernel_rfl)) (fun _ _ _ h => h) (Or.inl ⟨by rfl, ?_⟩) ?_ ?_
               rotate_left
               ·intro w'
                go_simp
                with_reducible rfl
               rotate_left
               ·exact qP
               refine pure_ (i := 4) (N := some 58) (v := ?_) (a' := ?_) #[true, true, true, true, true, false, false, false, false, false, false, false, false, false, false, false, false, false, false, false, false] rfl rfl (any_of HT_.out (by kernel_rfl)) (fun _ _ _ h => h) (Or.inl ⟨by rfl, ?_⟩) ?_ ?_
               rotate_left
               ·intro w'
                go_simp
                with_reducible rfl
               rotate_left
               ·exact qP
               refine pure_ (i := 5) (N := some 59) (v := ?_) (a' := ?_) #[true, true, true, true, true, true, false, false, false, false, false, false, false, false, false, false, false, false, false, false, false] rfl rfl (any_of HT_.out (by kernel_rfl)) (fun _ _ _ h => h) (Or.inl ⟨by rfl, ?_⟩) ?_ ?_
               rotate_left
               ·intro w'
                go_simp
                with_reducible rfl
               rotate_left
               ·exact qP
               refine pure_ (i := 7) (N := some 61) (v := ?_) (a' := ?_) #[true, true, true, true, true, true, false, true, false, false, false, false, false, false, false, false, false, false, false, false, false] rfl rfl (any_of HT_.out (by kernel_rfl)) (fun _ _ _ h => h) (Or.inl ⟨by rfl, ?_⟩) ?_ ?_
               rotate_left
               ·intro w'
                go_simp
                with_reducible rfl
               rotate_left
               ·exact qP
               refine pure_ (i := 8) (N := some 62) (v := ?_) (a' := ?_) #[true, true, true, true, true, true, false, true, true, false, false, false, false, false, false, false, false, false, false, false, false] rfl rfl (any_of HT_.out (by kernel_rfl)) (fun _ _ _ h => h) (Or.inl ⟨by rfl, ?_⟩) ?_ ?_
               rotate_left
               ·intro w'
                go_simp
                with_reducible rfl
               rotate_left
               ·exact qP
               refine take_ (i := 6) (N := some 60) (v := ?_) (a' := ?_) #[true, true, true, true, true, true, true, true, true, false, false, false, false, false, false, false, false, false, false, false, false] rfl rfl (take_ofW HT_.out HW_.out (by kernel_rfl)) (fun _ _ _ h => h) (Or.inl ⟨by rfl, ?_⟩) hHeld ?_ ?_
               rotate_left
               ·rintro w' ⟨s0, s1, s2, s3⟩
                go_simp
                with_reducible rfl
               rotate_left
               ·exact qP
               refine take_ (i := 9) (N := some 63) (v := ?_) (a' := ?_) #[true, true, true, true, true, true, true, true, true, true, false, false, false, false, false, false, false, false, false, false, false] rfl rfl (take_ofW HT_.out HW_.out (by kernel_rfl)) (fun _ _ _ h => h) (Or.inl ⟨by rfl, ?_⟩) hHeld ?_ ?_
               rotate_left
               ·rintro w' ⟨s0, s1, s2, s3⟩
                go_simp
                with_reducible rfl
               rotate_left
               ·exact qP
               refine pure_ (i := 10) (N := some 64) (v := ?_) (a' := ?_) #[true, true, true, true, true, true, true, true, true, true, true, false, false, false, false, false, false, false, false, false, false] rfl rfl (any_of HT_.out (by kernel_rfl)) (fun _ _ _ h => h) (Or.inl ⟨by rfl, ?_⟩) ?_ ?_
               rotate_left
               ·intro w'
                go_simp
                with_reducible rfl
               rotate_left
               ·exact qP
               refine pure_ (i := 11) (N := some 65) (v := ?_) (a' := ?_) #[true, true, true, true, true, true, true, true, true, true, true, true, false, false, false, false, false, false, false, false, false] rfl rfl (any_of HT_.out (by kernel_rfl)) (fun _ _ _ h => h) (Or.inl ⟨by rfl, ?_⟩) ?_ ?_
               rotate_left
               ·intro w'
                go_simp
                with_reducible rfl
               rotate_left
               ·exact qP
               refine pure_ (i := 12) (N := some 66) (v := ?_) (a' := ?_) #[true, true, true, true, true, true, true, true, true, true, true, true, true, false, false, false, false, false, false, false, false] rfl rfl (any_of HT_.out (by kernel_rfl)) (fun _ _ _ h => h) (Or.inl ⟨by rfl, ?_⟩) ?_ ?_
               rotate_left
               ·intro w'
                go_simp
                with_reducible rfl
               rotate_left
               ·exact qP
               refine pure_ (i := 13) (N := some 67) (v := ?_) (a' := ?_) #[true, true, true, true, true, true, true, true, true, true, true, true, true, true, false, false, false, false, false, false, false] rfl rfl (any_of HT_.out (by kernel_rfl)) (fun _ _ _ h => h) (Or.inl ⟨by rfl, ?_⟩) ?_ ?_
               rotate_left
               ·intro w'
                go_simp
                with_reducible rfl
               rotate_left
               ·exact qP
               refine pure_ (i := 14) (N := some 68) (v := ?_) (a' := ?_) #[true, true, true, true, true, true, true, true, true, true, true, true, true, true, true, false, false, false, false, false, false] rfl rfl (any_of HT_.out (by kernel_rfl)) (fun _ _ _ h => h) (Or.inl ⟨by rfl, ?_⟩) ?_ ?_
               rotate_left
               ·intro w'
                go_simp
                with_reducible rfl
               rotate_left
               ·exact qP
               refine pure_ (i := 16) (N := some 70) (v := ?_) (a' := ?_) #[true, true, true, true, true, true, true, true, true, true, true, true, true, true, true, false, true, false, false, false, false] rfl rfl (any_of HT_.out (by kernel_rfl)) (fun _ _ _ h => h) (Or.inl ⟨by rfl, ?_⟩) ?_ ?_
               rotate_left
               ·intro w'
                go_simp
                with_reducible rfl
               rotate_left
               ·exact qP
               refine pure_ (i := 17) (N := some 71) (v := ?_) (a' := ?_) #[true, true, true, true, true, true, true, true, true, true, true, true, true, true, true, false, true, true, false, false, false] rfl rfl (any_of HT_.out (by kernel_rfl)) (fun _ _ _ h => h) (Or.inl ⟨by rfl, ?_⟩) ?_ ?_
               rotate_left
               ·intro w'
                go_simp
                with_reducible rfl
               rotate_left
               ·exact qP
               refine take_ (i := 15) (N := some 69) (v := ?_) (a' := ?_) #[true, true, true, true, true, true, true, true, true, true, true, true, true, true, true, true, true, true, false, false, false] rfl rfl (take_ofW HT_.out HW_.out (by kernel_rfl)) (fun _ _ _ h => h) (Or.inl ⟨by rfl, ?_⟩) hHeld ?_ ?_
               rotate_left
               ·rintro w' ⟨s0, s1, s2, s3⟩
                go_simp
                with_reducible rfl
               rotate_left
               ·exact qP
               refine take_ (i := 18) (N := some 72) (v := ?_) (a' := ?_) #[true, true, true, true, true, true, true, true, true, true, true, true, true, true, true, true, true, true, true, false, false] rfl rfl (take_ofW HT_.out HW_.out (by kernel_rfl)) (fun _ _ _ h => h) (Or.inl ⟨by rfl, ?_⟩) hHeld ?_ ?_
               rotate_left
               ·rintro w' ⟨s0, s1, s2, s3⟩
                go_simp
                with_reducible rfl
               rotate_left
               ·exact qP
               refine pure_ (i := 19) (N := some 73) (v := ?_) (a' := ?_) #[true, true, true, true, true, true, true, true, true, true, true, true, true, true, true, true, true, true, true, true, false] rfl rfl (any_of HT_.out (by kernel_rfl)) (fun _ _ _ h => h) (Or.inl ⟨by rfl, ?_⟩) ?_ ?_
               rotate_left
               ·intro w'
                go_simp
                with_reducible rfl
               rotate_left
               ·exact qP
               refine pure_ (i := 20) (N := some 74) (v := ?_) (a' := ?_) #[true, true, true, true, true, true, true, true, true, true, true, true, true, true, true, true, true, true, true, true, true] rfl rfl (any_of HT_.out (by kernel_rfl)) (fun _ _ _ h => h) (Or.inl ⟨by rfl, ?_⟩) ?_ ?_
               rotate_left
               ·intro w'
                go_simp
                with_reducible rfl
               rotate_left
               ·exact qP
               refine done_ (done_of HT_.out (by kernel_rfl)) ?_
               try go_wp2
               have n0_ := am (Kd.R_drew HO_1693000.out)
               have n1_ := am (blk_drew BK1688.out)
               have n2_ := am (blk_drew BK1692.out)
               have n3_ := am (below_drew1 HB.out)
               clear HO_1693000
               clear BK1688
               clear BK1692
               clear HB
               have HO_1693000 := n0_
               have BK1688 := n1_
               have BK1692 := n2_
               have HB := n3_
               clear n0_ n1_ n2_ n3_
               obtain ⟨Ao33, co33, eo33⟩ := Kd.R_slice HO_1693000.out
               (first | subst eo33 | (injection eo33 with f1_ f2_ f3_; have f4_ := f1_.symm; have f5_ := f3_.symm; clear f1_ f2_ f3_; subst f4_; subst f5_))
               have p1699 : 0 ≤ (x42_1 : Int) := qd
               have q1699 : x42_1 < (x1693000_2.length : Int) := qd
               obtain ⟨ad1699, e1699, hx1699_0⟩ := Kd.at_int (Kd.R_reads' HO_1693000.out).2.2 x42_1 p1699 q1699
               cases e1699
               replace p1699 := eq_true p1699
               replace q1699 := eq_true q1699
               have p30 : 0 ≤ (x42_1 : Int) := qd
               have q30 : (x42_1 : Int) < ((x1693000_2.length : Int) : Int) := qd
               obtain ⟨go30, co30, eo30, gb30, gl30, cl30, HG30⟩ := Kd.R_form HO_1693000.out (by omega)
               (first | cases eo30 | (injection eo30 with ea_ en_ ec_; (first | subst ea_ | (injection ea_ with ea_; subst ea_)); subst ec_; clear en_))
               have GB30 := am gb30
               have GG30 := am HG30
               clear gb30 gl30 HG30
               (first | simp only [add_plain] at hx1699_0 | skip)
               obtain ⟨hx30_0, hf30_0⟩ := Kd.R_celln 0 HO_1693000.out (x42_1 : Int) p30 q30
               replace p30 := eq_true p30
               replace q30 := eq_true q30
               have HP34 := Kd.R_putn HO_1693000.out (x42_1 : Int) (Go.bits .or .i64 (rd x1693000_2 x42_1) (ji29))
               rw [← Ny1700.out] at HP34
               have HQ34 := am HP34
               clear HP34
               refine start_ (n := 10) (S := fun w' => w'.cell? ⟨gb1692, 0, none⟩ = some (.slice (some ⟨go30, 0, none⟩) x1693000_2.length co33) ∧ w'.cell? ⟨go30, (x42_1).toNat, none⟩ = some (.int .i64 (rd x1693000_2 x42_1))) (ds := [9]) #[false, false, false, false, false, false, false, false, false, false] (by kernel_rfl) rfl rfl ⟨(blk_cell BK1692.out 0).trans rfl, hx1699_0⟩ (fun hHeld => ?_); refine with_tabW spec_StairB.tab19 spec_StairB.bits19 (fun HT_ HW_ => ?_)
               generalize w31.drew = w32 at HO_1693000 BK1688 BK1692 HB GG30 HQ34 hf30_0 hx1699_0 hx30_0 hHeld ⊢
               refine pure_ (i := 0) (N := some 75) (v := ?_) (a' := ?_) #[true, false, false, false, false, false, false, false, false, false] rfl rfl (any_of HT_.out (by kernel_rfl)) (fun _ _ _ h => h) (Or.inl ⟨by rfl, ?_⟩) ?_ ?_
               rotate_left
               ·intro w'
                go_simp
                with_reducible rfl
               rotate_left
               ·exact qP
               refine pure_ (i := 2) (N := some 77) (v := ?_) (a' := ?_) #[true, false, true, false, false, false, false, false, false, false] rfl rfl (any_of HT_.out (by kernel_rfl)) (fun _ _ _ h => h) (Or.inl ⟨by rfl, ?_⟩) ?_ ?_
               rotate_left
               ·intro w'
                go_simp
                with_reducible rfl
               rotate_left
               ·exact qP
               refine pure_ (i := 5) (N := some 80) (v := ?_) (a' := ?_) #[true, false, true, false, false, true, false, false, false, false] rfl rfl (any_of HT_.out (by kernel_rfl)) (fun _ _ _ h => h) (Or.inl ⟨by rfl, ?_⟩) ?_ ?_
               rotate_left
               ·intro w'
                go_simp
                with_reducible rfl
               rotate_left
               ·exact qP
               refine pure_ (i := 6) (N := some 81) (v := ?_) (a' := ?_) #[true, false, true, false, false, true, true, false, false, false] rfl rfl (any_of HT_.out (by kernel_rfl)) (fun _ _ _ h => h) (Or.inl ⟨by rfl, ?_⟩) ?_ ?_
               rotate_left
               ·intro w'
                go_simp
                with_reducible rfl
               rotate_left
               ·exact qP
               refine take_ (i := 1) (N := some 76) (v := ?_) (a' := ?_) #[true, true, true, false, false, true, true, false, false, false] rfl rfl (take_ofW HT_.out HW_.out (by kernel_rfl)) (fun _ _ _ h => h) (Or.inl ⟨by rfl, ?_⟩) hHeld ?_ ?_
               rotate_left
               ·rintro w' ⟨s0, s1⟩
                go_simp
                with_reducible rfl
               rotate_left
               ·exact qP
               refine pure_ (i := 3) (N := some 78) (v := ?_) (a' := ?_) #[true, true, true, true, false, true, true, false, false, false] rfl rfl (any_of HT_.out (by kernel_rfl)) (fun _ _ _ h => h) (Or.inl ⟨by rfl, ?_⟩) ?_ ?_
               rotate_left
               ·intro w'
                go_simp
                with_reducible rfl
               rotate_left
               ·exact qP
               refine take_ (i := 4) (N := some 79) (v := ?_) (a' := ?_) #[true, true, true, true, true, true, true, false, false, false] rfl rfl (take_ofW HT_.out HW_.out (by kernel_rfl)) (fun _ _ _ h => h) (Or.inl ⟨by rfl, ?_⟩) hHeld ?_ ?_
               rotate_left
               ·rintro w' ⟨s0, s1⟩
                go_simp
                with_reducible rfl
               rotate_left
               ·exact qP
               refine pure_ (i := 7) (N := some 82) (v := ?_) (a' := ?_) #[true, true, true, true, true, true, true, true, false, false] rfl rfl (any_of HT_.out (by kernel_rfl)) (fun _ _ _ h => h) (Or.inl ⟨by rfl, ?_⟩) ?_ ?_
               rotate_left
               ·intro w'
                go_simp
                with_reducible rfl
               rotate_left
               ·exact qP
               refine pure_ (i := 8) (N := some 83) (v := ?_) (a' := ?_) #[true, true, true, true, true, true, true, true, true, false] rfl rfl (any_of HT_.out (by kernel_rfl)) (fun _ _ _ h => h) (Or.inl ⟨by rfl, ?_⟩) ?_ ?_
               rotate_left
               ·intro w'
                go_simp
                with_reducible rfl
               rotate_left
               ·exact qP
               refine last_ (i := 9) (N := none) #[true, true, true, true, true, true, true, true, true, true] rfl rfl (one_of HT_.out (by kernel_rfl)) (by decide) (fun K hK => ?_)
               refine skip_ (w1 := ?_) (by rfl) rfl ?_ ?_
               rotate_left
               ·go_simp
                rfl
               refine hK.out _ _ ?_
               clear hK K
               refine done_ (done_of HT_.out (by kernel_rfl)) ?_
               try go_wp2
               go_roundg k2
               case measure => have := HK1.out; have := HK2.out; omega
               case rel => exact ⟨(wrap64 (x49_2 + 1)), (y1700), (.slice (some ⟨go30, 0, none⟩) x1693000_2.length co33), qe, H', ⟨by have := HK1.out; have := HK2.out; omega⟩, ⟨qR HQ34.out⟩, ⟨by (with_reducible repeat (first | refine blk_drewN ?_ _ | refine blk_drew ?_ | refine blk_alloc ?_ _)); refine blk_far ?_ (by have h_ := Kd.R_ne HO_1693000.out BK1688.out (by decide); intro e_; exact h_ (by rw [e_]; rfl)) _; refine qb ?_; exact BK1688.out⟩, ⟨by (with_reducible repeat (first | refine blk_drewN ?_ _ | refine blk_drew ?_ | refine blk_alloc ?_ _)); refine blk_far ?_ (by have h_ := Kd.R_ne HO_1693000.out BK1692.out (by decide); intro e_; exact h_ (by rw [e_]; rfl)) _; refine qb ?_; exact BK1692.out⟩, ⟨qB⟩⟩
              ·rw [if_neg c25] at H
               have c25b0 := decide_eq_false c25
               clear c25
               have H' := am H
               clear H
               have p1694 : 0 ≤ (x49_2 : Int) := qd
               have q1694 : x49_2 < (x4_1.length : Int) := qd
               obtain ⟨ad1694, A1694_0, c1694_0, e1694, hx1694_0, hl1694_0, hi1694_0⟩ := at_L1 HR1.out x49_2 p1694 q1694
               obtain rfl : ad1693 = ad1694 := (by injection e1694)
               replace hx1694_0 := (HB.out.cell (World.block_lt_of_cell? W2 _ hx1694_0)).trans hx1694_0
               have HR1694_0 := am hi1694_0
               have HC1694_0 := am hl1694_0
               clear hi1694_0 hl1694_0
               replace p1694 := eq_true p1694
               replace q1694 := eq_true q1694
               try go_wp2
               have n0_ := am (Kd.R_drew HO_1693000.out)
               have n1_ := am (blk_drew BK1688.out)
               have n2_ := am (blk_drew BK1692.out)
               have n3_ := am (below_drew1 HB.out)
               clear HO_1693000
               clear BK1688
               clear BK1692
               clear HB
               have HO_1693000 := n0_
               have BK1688 := n1_
               have BK1692 := n2_
               have HB := n3_
               clear n0_ n1_ n2_ n3_
               have p1695 : 0 ≤ (0 : Int) := (by omega)
               have q1695 : 0 < ((rd_L1 x4_1 x42_1).length : Int) := qd
               obtain ⟨ad1695, e1695, hx1695_0⟩ := Kd.at_int HR1693_0.out 0 p1695 q1695
               have hw1695_0 := hx1695_0
               (try rw [show ((0 : Int)).toNat = 0 from rfl] at hw1695_0)
               (try rw [show 0 * 1 = 0 from rfl] at hw1695_0)
               (try rw [Addr.add_zero'] at hw1695_0)
               cases e1695
               have qi1695 : (0 < (rd_L1 x4_1 x42_1).length) = True := eq_true (by omega)
               (try rw [show ((0 : Int)).toNat = 0 from rfl] at hx1695_0)
               (try rw [Addr.add_zero'] at hx1695_0)
               replace hx1695_0 := (HB.out.cell (World.block_lt_of_cell? W2 _ hx1695_0)).trans hx1695_0
               replace p1695 := eq_true p1695
               replace q1695 := eq_true q1695
               have p1696 : 0 ≤ (0 : Int) := (by omega)
               have q1696 : 0 < ((rd_L1 x4_1 x49_2).length : Int) := qd
               obtain ⟨ad1696, e1696, hx1696_0⟩ := Kd.at_int HR1694_0.out 0 p1696 q1696
               have hw1696_0 := hx1696_0
               (try rw [show ((0 : Int)).toNat = 0 from rfl] at hw1696_0)
               (try rw [show 0 * 1 = 0 from rfl] at hw1696_0)
               (try rw [Addr.add_zero'] at hw1696_0)
               cases e1696
               have qi1696 : (0 < (rd_L1 x4_1 x49_2).length) = True := eq_true (by omega)
               (try rw [show ((0 : Int)).toNat = 0 from rfl] at hx1696_0)
               (try rw [Addr.add_zero'] at hx1696_0)
               replace hx1696_0 := (HB.out.cell (World.block_lt_of_cell? W2 _ hx1696_0)).trans hx1696_0
               replace p1696 := eq_true p1696
               replace q1696 := eq_true q1696
               have p1697 : 0 ≤ (1 : Int) := (by omega)
               have q1697 : 1 < ((rd_L1 x4_1 x49_2).length : Int) := qd
               obtain ⟨ad1697, e1697, hx1697_0⟩ := Kd.at_int HR1694_0.out 1 p1697 q1697
               have hw1697_0 := hx1697_0
               (try rw [show ((1 : Int)).toNat = 1 from rfl] at hw1697_0)
               (try rw [show 1 * 1 = 1 from rfl] at hw1697_0)
               (try simp only [Nat.reduceMul, Nat.reduceEqDiff, Go.Addr.add, ↓reduceIte] at hw1697_0)
               obtain rfl : ad1696 = ad1697 := (by injection e1697)
               (try simp only [show (1 : Int).toNat = 1 from rfl, Nat.reduceMul, Nat.reduceEqDiff, Go.Addr.add, ↓reduceIte] at hx1697_0)
               have qi1697 : (1 < (rd_L1 x4_1 x49_2).length) = True := eq_true (by omega)
               (try rw [show ((1 : Int)).toNat = 1 from rfl] at hx1697_0)
               replace hx1697_0 := (HB.out.cell (World.block_lt_of_cell? W2 _ hx1697_0)).trans hx1697_0
               replace p1697 := eq_true p1697
               replace q1697 := eq_true q1697
               have p1698 : 0 ≤ (1 : Int) := (by omega)
               have q1698 : 1 < ((rd_L1 x4_1 x42_1).length : Int) := qd
               obtain ⟨ad1698, e1698, hx1698_0⟩ := Kd.at_int HR1693_0.out 1 p1698 q1698
               have hw1698_0 := hx1698_0
               (try rw [show ((1 : Int)).toNat = 1 from rfl] at hw1698_0)
               (try rw [show 1 * 1 = 1 from rfl] at hw1698_0)
               (try simp only [Nat.reduceMul, Nat.reduceEqDiff, Go.Addr.add, ↓reduceIte] at hw1698_0)
               obtain rfl : ad1695 = ad1698 := (by injection e1698)
               (try simp only [show (1 : Int).toNat = 1 from rfl, Nat.reduceMul, Nat.reduceEqDiff, Go.Addr.add, ↓reduceIte] at hx1698_0)
               have qi1698 : (1 < (rd_L1 x4_1 x42_1).length) = True := eq_true (by omega)
               (try rw [show ((1 : Int)).toNat = 1 from rfl] at hx1698_0)
               replace hx1698_0 := (HB.out.cell (World.block_lt_of_cell? W2 _ hx1698_0)).trans hx1698_0
               replace p1698 := eq_true p1698
               replace q1698 := eq_true q1698
               refine start_ (n := 21) (S := fun w' => w'.cell? ad1695 = some (.int .i64 (rd (rd_L1 x4_1 x42_1) 0)) ∧ w'.cell? ad1696 = some (.int .i64 (rd (rd_L1 x4_1 x49_2) 0)) ∧ w'.cell? ⟨ad1696.block, ad1696.off + 1, none⟩ = some (.int .i64 (rd (rd_L1 x4_1 x49_2) 1)) ∧ w'.cell? ⟨ad1695.block, ad1695.off + 1, none⟩ = some (.int .i64 (rd (rd_L1 x4_1 x42_1) 1))) (ds := []) #[false, false, false, false, false, false, false, false, false, false, false, false, false, false, false, false, false, false, false, false, false] (by kernel_rfl) rfl rfl ⟨((HB.out.cell (World.block_lt_of_cell? W2 _ hw1695_0)).trans hw1695_0), ((HB.out.cell (World.block_lt_of_cell? W2 _ hw1696_0)).trans hw1696_0), ((HB.out.cell (World.block_lt_of_cell? W2 _ hw1697_0)).trans hw1697_0), ((HB.out.cell (World.block_lt_of_cell? W2 _ hw1698_0)).trans hw1698_0)⟩ (fun hHeld => ?_); refine with_tabW spec_StairB.tab18 spec_StairB.bits18 (fun HT_ HW_ => ?_)
               generalize wr.drew = w35 at HO_1693000 BK1688 BK1692 HB hx1695_0 hx1696_0 hx1697_0 hx1698_0 hHeld ⊢
               refine pure_ (i := 0) (N := some 54) (v := ?_) (a' := ?_) #[true, false, false, false, false, false, false, false, false, false, false, false, false, false, false, false, false, false, false, false, false] rfl rfl (any_of HT_.out (by kernel_rfl)) (fun _ _ _ h => h) (Or.inl ⟨by rfl, ?_⟩) ?_ ?_
               rotate_left
               ·intro w'
                go_simp
                with_reducible rfl
               rotate_left
               ·exact qP
               refine pure_ (i := 1) (N := some 55) (v := ?_) (a' := ?_) #[true, true, false, false, false, false, false, false, false, false, false, false, false, false, false, false, false, false, false, false, false] rfl rfl (any_of HT_.out (by kernel_rfl)) (fun _ _ _ h => h) (Or.inl ⟨by rfl, ?_⟩) ?_ ?_
               rotate_left
               ·intro w'
                go_simp
                with_reducible rfl
               rotate_left
               ·exact qP
               refine pure_ (i := 2) (N := some 56) (v := ?_) (a' := ?_) #[true, true, true, false, false, false, false, false, false, false, false, false, false, false, false, false, false, false, false, false, false] rfl rfl (any_of HT_.out (by kernel_rfl)) (fun _ _ _ h => h) (Or.inl ⟨by rfl, ?_⟩) ?_ ?_
               rotate_left
               ·intro w'
                go_simp
                with_reducible rfl
               rotate_left
               ·exact qP
               refine pure_ (i := 3) (N := some 57) (v := ?_) (a' := ?_) #[true, true, true, true, false, false, false, false, false, false, false, false, false, false, false, false, false, false, false, false, false] rfl rfl (any_of HT_.out (by kernel_rfl)) (fun _ _ _ h => h) (Or.inl ⟨by rfl, ?_⟩) ?_ ?_
               rotate_left
               ·intro w'
                go_simp
                with_reducible rfl
               rotate_left
               ·exact qP
               refine pure_ (i := 4) (N := some 58) (v := ?_) (a' := ?_) #[true, true, true, true, true, false, false, false, false, false, false, false, false, false, false, false, false, false, false, false, false] rfl rfl (any_of HT_.out (by kernel_rfl)) (fun _ _ _ h => h) (Or.inl ⟨by rfl, ?_⟩) ?_ ?_
               rotate_left
               ·intro w'
                go_simp
                with_reducible rfl
               rotate_left
               ·exact qP
               refine pure_ (i := 5) (N := some 59) (v := ?_) (a' := ?_) #[true, true, true, true, true, true, false, false, false, false, false, false, false, false, false, false, false, false, false, false, false] rfl rfl (any_of HT_.out (by kernel_rfl)) (fun _ _ _ h => h) (Or.inl ⟨by rfl, ?_⟩) ?_ ?_
               rotate_left
               ·intro w'
                go_simp
                with_reducible rfl
               rotate_left
               ·exact qP
               refine pure_ (i := 7) (N := some 61) (v := ?_) (a' := ?_) #[true, true, true, true, true, true, false, true, false, false, false, false, false, false, false, false, false, false, false, false, false] rfl rfl (any_of HT_.out (by kernel_rfl)) (fun _ _ _ h => h) (Or.inl ⟨by rfl, ?_⟩) ?_ ?_
               rotate_left
               ·intro w'
                go_simp
                with_reducible rfl
               rotate_left
               ·exact qP
               refine pure_ (i := 8) (N := some 62) (v := ?_) (a' := ?_) #[true, true, true, true, true, true, false, true, true, false, false, false, false, false, false, false, false, false, false, false, false] rfl rfl (any_of HT_.out (by kernel_rfl)) (fun _ _ _ h => h) (Or.inl ⟨by rfl, ?_⟩) ?_ ?_
               rotate_left
               ·intro w'
                go_simp
                with_reducible rfl
               rotate_left
               ·exact qP
               refine take_ (i := 6) (N := some 60) (v := ?_) (a' := ?_) #[true, true, true, true, true, true, true, true, true, false, false, false, false, false, false, false, false, false, false, false, false] rfl rfl (take_ofW HT_.out HW_.out (by kernel_rfl)) (fun _ _ _ h => h) (Or.inl ⟨by rfl, ?_⟩) hHeld ?_ ?_
               rotate_left
               ·rintro w' ⟨s0, s1, s2, s3⟩
                go_simp
                with_reducible rfl
               rotate_left
               ·exact qP
               refine take_ (i := 9) (N := some 63) (v := ?_) (a' := ?_) #[true, true, true, true, true, true, true, true, true, true, false, false, false, false, false, false, false, false, false, false, false] rfl rfl (take_ofW HT_.out HW_.out (by kernel_rfl)) (fun _ _ _ h => h) (Or.inl ⟨by rfl, ?_⟩) hHeld ?_ ?_
               rotate_left
               ·rintro w' ⟨s0, s1, s2, s3⟩
                go_simp
                with_reducible rfl
               rotate_left
               ·exact qP
               refine pure_ (i := 10) (N := some 64) (v := ?_) (a' := ?_) #[true, true, true, true, true, true, true, true, true, true, true, false, false, false, false, false, false, false, false, false, false] rfl rfl (any_of HT_.out (by kernel_rfl)) (fun _ _ _ h => h) (Or.inl ⟨by rfl, ?_⟩) ?_ ?_
               rotate_left
               ·intro w'
                go_simp
                with_reducible rfl
               rotate_left
               ·exact qP
               refine pure_ (i := 11) (N := some 65) (v := ?_) (a' := ?_) #[true, true, true, true, true, true, true, true, true, true, true, true, false, false, false, false, false, false, false, false, false] rfl rfl (any_of HT_.out (by kernel_rfl)) (fun _ _ _ h => h) (Or.inl ⟨by rfl, ?_⟩) ?_ ?_
               rotate_left
               ·intro w'
                go_simp
                with_reducible rfl
               rotate_left
               ·exact qP
               refine pure_ (i := 12) (N := some 66) (v := ?_) (a' := ?_) #[true, true, true, true, true, true, true, true, true, true, true, true, true, false, false, false, false, false, false, false, false] rfl rfl (any_of HT_.out (by kernel_rfl)) (fun _ _ _ h => h) (Or.inl ⟨by rfl, ?_⟩) ?_ ?_
               rotate_left
               ·intro w'
                go_simp
                with_reducible rfl
               rotate_left
               ·exact qP
               refine pure_ (i := 13) (N := some 67) (v := ?_) (a' := ?_) #[true, true, true, true, true, true, true, true, true, true, true, true, true, true, false, false, false, false, false, false, false] rfl rfl (any_of HT_.out (by kernel_rfl)) (fun _ _ _ h => h) (Or.inl ⟨by rfl, ?_⟩) ?_ ?_
               rotate_left
               ·intro w'
                go_simp
                with_reducible rfl
               rotate_left
               ·exact qP
               refine pure_ (i := 14) (N := some 68) (v := ?_) (a' := ?_) #[true, true, true, true, true, true, true, true, true, true, true, true, true, true, true, false, false, false, false, false, false] rfl rfl (any_of HT_.out (by kernel_rfl)) (fun _ _ _ h => h) (Or.inl ⟨by rfl, ?_⟩) ?_ ?_
               rotate_left
               ·intro w'
                go_simp
                with_reducible rfl
               rotate_left
               ·exact qP
               refine pure_ (i := 16) (N := some 70) (v := ?_) (a' := ?_) #[true, true, true, true, true, true, true, true, true, true, true, true, true, true, true, false, true, false, false, false, false] rfl rfl (any_of HT_.out (by kernel_rfl)) (fun _ _ _ h => h) (Or.inl ⟨by rfl, ?_⟩) ?_ ?_
               rotate_left
               ·intro w'
                go_simp
                with_reducible rfl
               rotate_left
               ·exact qP
               refine pure_ (i := 17) (N := some 71) (v := ?_) (a' := ?_) #[true, true, true, true, true, true, true, true, true, true, true, true, true, true, true, false, true, true, false, false, false] rfl rfl (any_of HT_.out (by kernel_rfl)) (fun _ _ _ h => h) (Or.inl ⟨by rfl, ?_⟩) ?_ ?_
               rotate_left
               ·intro w'
                go_simp
                with_reducible rfl
               rotate_left
               ·exact qP
               refine take_ (i := 15) (N := some 69) (v := ?_) (a' := ?_) #[true, true, true, true, true, true, true, true, true, true, true, true, true, true, true, true, true, true, false, false, false] rfl rfl (take_ofW HT_.out HW_.out (by kernel_rfl)) (fun _ _ _ h => h) (Or.inl ⟨by rfl, ?_⟩) hHeld ?_ ?_
               rotate_left
               ·rintro w' ⟨s0, s1, s2, s3⟩
                go_simp
                with_reducible rfl
               rotate_left
               ·exact qP
               refine take_ (i := 18) (N := some 72) (v := ?_) (a' := ?_) #[true, true, true, true, true, true, true, true, true, true, true, true, true, true, true, true, true, true, true, false, false] rfl rfl (take_ofW HT_.out HW_.out (by kernel_rfl)) (fun _ _ _ h => h) (Or.inl ⟨by rfl, ?_⟩) hHeld ?_ ?_
               rotate_left
               ·rintro w' ⟨s0, s1, s2, s3⟩
                go_simp
                with_reducible rfl
               rotate_left
               ·exact qP
               refine pure_ (i := 19) (N := some 73) (v := ?_) (a' := ?_) #[true, true, true, true, true, true, true, true, true, true, true, true, true, true, true, true, true, true, true, true, false] rfl rfl (any_of HT_.out (by kernel_rfl)) (fun _ _ _ h => h) (Or.inl ⟨by rfl, ?_⟩) ?_ ?_
               rotate_left
               ·intro w'
                go_simp
                with_reducible rfl
               rotate_left
               ·exact qP
               refine pure_ (i := 20) (N := some 74) (v := ?_) (a' := ?_) #[true, true, true, true, true, true, true, true, true, true, true, true, true, true, true, true, true, true, true, true, true] rfl rfl (any_of HT_.out (by kernel_rfl)) (fun _ _ _ h => h) (Or.inl ⟨by rfl, ?_⟩) ?_ ?_
               rotate_left
               ·intro w'
                go_simp
                with_reducible rfl
               rotate_left
               ·exact qP
               refine done_ (done_of HT_.out (by kernel_rfl)) ?_
               try go_wp2
               go_roundg k2
               case measure => have := HK1.out; have := HK2.out; omega
               case rel => exact ⟨(wrap64 (x49_2 + 1)), (x1693000_2), (u1693000), qe, H', ⟨by have := HK1.out; have := HK2.out; omega⟩, ⟨qR HO_1693000.out⟩, ⟨qb BK1688.out⟩, ⟨qb BK1692.out⟩, ⟨qB⟩⟩
             ·rw [if_neg c22] at H
              have c22b0 := decide_eq_false c22
              clear c22
              have H' := am H
              clear H
              have p1694 : 0 ≤ (x49_2 : Int) := qd
              have q1694 : x49_2 < (x4_1.length : Int) := qd
              obtain ⟨ad1694, A1694_0, c1694_0, e1694, hx1694_0, hl1694_0, hi1694_0⟩ := at_L1 HR1.out x49_2 p1694 q1694
              obtain rfl : ad1693 = ad1694 := (by injection e1694)
              replace hx1694_0 := (HB.out.cell (World.block_lt_of_cell? W2 _ hx1694_0)).trans hx1694_0
              have HR1694_0 := am hi1694_0
              have HC1694_0 := am hl1694_0
              clear hi1694_0 hl1694_0
              replace p1694 := eq_true p1694
              replace q1694 := eq_true q1694
              try go_wp2
              have n0_ := am (Kd.R_drew HO_1693000.out)
              have n1_ := am (blk_drew BK1688.out)
              have n2_ := am (blk_drew BK1692.out)
              have n3_ := am (below_drew1 HB.out)
              clear HO_1693000
              clear BK1688
              clear BK1692
              clear HB
              have HO_1693000 := n0_
              have BK1688 := n1_
              have BK1692 := n2_
              have HB := n3_
              clear n0_ n1_ n2_ n3_
              have p1695 : 0 ≤ (0 : Int) := (by omega)
              have q1695 : 0 < ((rd_L1 x4_1 x42_1).length : Int) := qd
              obtain ⟨ad1695, e1695, hx1695_0⟩ := Kd.at_int HR1693_0.out 0 p1695 q1695
              have hw1695_0 := hx1695_0
              (try rw [show ((0 : Int)).toNat = 0 from rfl] at hw1695_0)
              (try rw [show 0 * 1 = 0 from rfl] at hw1695_0)
              (try rw [Addr.add_zero'] at hw1695_0)
              cases e1695
              have qi1695 : (0 < (rd_L1 x4_1 x42_1).length) = True := eq_true (by omega)
              (try rw [show ((0 : Int)).toNat = 0 from rfl] at hx1695_0)
              (try rw [Addr.add_zero'] at hx1695_0)
              replace hx1695_0 := (HB.out.cell (World.block_lt_of_cell? W2 _ hx1695_0)).trans hx1695_0
              replace p1695 := eq_true p1695
              replace q1695 := eq_true q1695
              have p1696 : 0 ≤ (0 : Int) := (by omega)
              have q1696 : 0 < ((rd_L1 x4_1 x49_2).length : Int) := qd
              obtain ⟨ad1696, e1696, hx1696_0⟩ := Kd.at_int HR1694_0.out 0 p1696 q1696
              have hw1696_0 := hx1696_0
              (try rw [show ((0 : Int)).toNat = 0 from rfl] at hw1696_0)
              (try rw [show 0 * 1 = 0 from rfl] at hw1696_0)
              (try rw [Addr.add_zero'] at hw1696_0)
              cases e1696
              have qi1696 : (0 < (rd_L1 x4_1 x49_2).length) = True := eq_true (by omega)
              (try rw [show ((0 : Int)).toNat = 0 from rfl] at hx1696_0)
              (try rw [Addr.add_zero'] at hx1696_0)
              replace hx1696_0 := (HB.out.cell (World.block_lt_of_cell? W2 _ hx1696_0)).trans hx1696_0
              replace p1696 := eq_true p1696
              replace q1696 := eq_true q1696
              refine start_ (n := 21) (S := fun w' => w'.cell? ad1695 = some (.int .i64 (rd (rd_L1 x4_1 x42_1) 0)) ∧ w'.cell? ad1696 = some (.int .i64 (rd (rd_L1 x4_1 x49_2) 0))) (ds := []) #[false, false, false, false, false, false, false, false, false, false, false, false, false, false, false, false, false, false, false, false, false] (by kernel_rfl) rfl rfl ⟨((HB.out.cell (World.block_lt_of_cell? W2 _ hw1695_0)).trans hw1695_0), ((HB.out.cell (World.block_lt_of_cell? W2 _ hw1696_0)).trans hw1696_0)⟩ (fun hHeld => ?_); refine with_tabW spec_StairB.tab18 spec_StairB.bits18 (fun HT_ HW_ => ?_)
              generalize wr.drew = w36 at HO_1693000 BK1688 BK1692 HB hx1695_0 hx1696_0 hHeld ⊢
              refine pure_ (i := 0) (N := some 54) (v := ?_) (a' := ?_) #[true, false, false, false, false, false, false, false, false, false, false, false, false, false, false, false, false, false, false, false, false] rfl rfl (any_of HT_.out (by kernel_rfl)) (fun _ _ _ h => h) (Or.inl ⟨by rfl, ?_⟩) ?_ ?_
              rotate_left
              ·intro w'
               go_simp
               with_reducible rfl
              rotate_left
              ·exact qP
              refine pure_ (i := 1) (N := some 55) (v := ?_) (a' := ?_) #[true, true, false, false, false, false, false, false, false, false, false, false, false, false, false, false, false, false, false, false, false] rfl rfl (any_of HT_.out (by kernel_rfl)) (fun _ _ _ h => h) (Or.inl ⟨by rfl, ?_⟩) ?_ ?_
              rotate_left
              ·intro w'
               go_simp
               with_reducible rfl
              rotate_left
              ·exact qP
              refine pure_ (i := 2) (N := some 56) (v := ?_) (a' := ?_) #[true, true, true, false, false, false, false, false, false, false, false, false, false, false, false, false, false, false, false, false, false] rfl rfl (any_of HT_.out (by kernel_rfl)) (fun _ _ _ h => h) (Or.inl ⟨by rfl, ?_⟩) ?_ ?_
              rotate_left
              ·intro w'
               go_simp
               with_reducible rfl
              rotate_left
              ·exact qP
              refine pure_ (i := 3) (N := some 57) (v := ?_) (a' := ?_) #[true, true, true, true, false, false, false, false, false, false, false, false, false, false, false, false, false, false, false, false, false] rfl rfl (any_of HT_.out (by kernel_rfl)) (fun _ _ _ h => h) (Or.inl ⟨by rfl, ?_⟩) ?_ ?_
              rotate_left
              ·intro w'
               go_simp
               with_reducible rfl
              rotate_left
              ·exact qP
              refine pure_ (i := 4) (N := some 58) (v := ?_) (a' := ?_) #[true, true, true, true, true, false, false, false, false, false, false, false, false, false, false, false, false, false, false, false, false] rfl rfl (any_of HT_.out (by kernel_rfl)) (fun _ _ _ h => h) (Or.inl ⟨by rfl, ?_⟩) ?_ ?_
              rotate_left
              ·intro w'
               go_simp
               with_reducible rfl
              rotate_left
              ·exact qP
              refine pure_ (i := 5) (N := some 59) (v := ?_) (a' := ?_) #[true, true, true, true, true, true, false, false, false, false, false, false, false, false, false, false, false, false, false, false, false] rfl rfl (any_of HT_.out (by kernel_rfl)) (fun _ _ _ h => h) (Or.inl ⟨by rfl, ?_⟩) ?_ ?_
              rotate_left
              ·intro w'
               go_simp
               with_reducible rfl
              rotate_left
              ·exact qP
              refine pure_ (i := 7) (N := some 61) (v := ?_) (a' := ?_) #[true, true, true, true, true, true, false, true, false, false, false, false, false, false, false, false, false, false, false, false, false] rfl rfl (any_of HT_.out (by kernel_rfl)) (fun _ _ _ h => h) (Or.inl ⟨by rfl, ?_⟩) ?_ ?_
              rotate_left
              ·intro w'
               go_simp
               with_reducible rfl
              rotate_left
              ·exact qP
              refine pure_ (i := 8) (N := some 62) (v := ?_) (a' := ?_) #[true, true, true, true, true, true, false, true, true, false, false, false, false, false, false, false, false, false, false, false, false] rfl rfl (any_of HT_.out (by kernel_rfl)) (fun _ _ _ h => h) (Or.inl ⟨by rfl, ?_⟩) ?_ ?_
              rotate_left
              ·intro w'
               go_simp
               with_reducible rfl
              rotate_left
              ·exact qP
              refine take_ (i := 6) (N := some 60) (v := ?_) (a' := ?_) #[true, true, true, true, true, true, true, true, true, false, false, false, false, false, false, false, false, false, false, false, false] rfl rfl (take_ofW HT_.out HW_.out (by kernel_rfl)) (fun _ _ _ h => h) (Or.inl ⟨by rfl, ?_⟩) hHeld ?_ ?_
              rotate_left
              ·rintro w' ⟨s0, s1⟩
               go_simp
               with_reducible rfl
              rotate_left
              ·exact qP
              refine take_ (i := 9) (N := some 63) (v := ?_) (a' := ?_) #[true, true, true, true, true, true, true, true, true, true, false, false, false, false, false, false, false, false, false, false, false] rfl rfl (take_ofW HT_.out HW_.out (by kernel_rfl)) (fun _ _ _ h => h) (Or.inl ⟨by rfl, ?_⟩) hHeld ?_ ?_
              rotate_left
              ·rintro w' ⟨s0, s1⟩
               go_simp
               with_reducible rfl
              rotate_left
              ·exact qP
              refine pure_ (i := 10) (N := some 64) (v := ?_) (a' := ?_) #[true, true, true, true, true, true, true, true, true, true, true, false, false, false, false, false, false, false, false, false, false] rfl rfl (any_of HT_.out (by kernel_rfl)) (fun _ _ _ h => h) (Or.inl ⟨by rfl, ?_⟩) ?_ ?_
              rotate_left
              ·intro w'
               go_simp
               with_reducible rfl
              rotate_left
              ·exact qP
              refine pure_ (i := 11) (N := some 65) (v := ?_) (a' := ?_) #[true, true, true, true, true, true, true, true, true, true, true, true, false, false, false, false, false, false, false, false, false] rfl rfl (any_of HT_.out (by kernel_rfl)) (fun _ _ _ h => h) (Or.inl ⟨by rfl, ?_⟩) ?_ ?_
              rotate_left
              ·intro w'
               go_simp
               with_reducible rfl
              rotate_left
              ·exact qP
              refine pure_ (i := 12) (N := some 66) (v := ?_) (a' := ?_) #[true, true, true, true, true, true, true, true, true, true, true, true, true, false, false, false, false, false, false, false, false] rfl rfl (any_of HT_.out (by kernel_rfl)) (fun _ _ _ h => h) (Or.inl ⟨by rfl, ?_⟩) ?_ ?_
              rotate_left
              ·intro w'
               go_simp
               with_reducible rfl
              rotate_left
              ·exact qP
              refine pure_ (i := 13) (N := some 67) (v := undef) (a' := ?_) #[true, true, true, true, true, true, true, true, true, true, true, true, true, true, false, false, false, false, false, false, false] rfl rfl (any_of HT_.out (by kernel_rfl)) (fun _ _ _ h => h) (Or.inr ⟨by rfl, rfl⟩) ?_ ?_
              rotate_left
              ·exact qP
              refine pure_ (i := 14) (N := some 68) (v := undef) (a' := ?_) #[true, true, true, true, true, true, true, true, true, true, true, true, true, true, true, false, false, false, false, false, false] rfl rfl (any_of HT_.out (by kernel_rfl)) (fun _ _ _ h => h) (Or.inr ⟨by rfl, rfl⟩) ?_ ?_
              rotate_left
              ·exact qP
              refine pure_ (i := 15) (N := some 69) (v := undef) (a' := ?_) #[true, true, true, true, true, true, true, true, true, true, true, true, true, true, true, true, false, false, false, false, false] rfl rfl (any_of HT_.out (by kernel_rfl)) (fun _ _ _ h => h) (Or.inr ⟨by rfl, rfl⟩) ?_ ?_
              rotate_left
              ·exact qP
              refine pure_ (i := 16) (N := some 70) (v := undef) (a' := ?_) #[true, true, true, true, true, true, true, true, true, true, true, true, true, true, true, true, true, false, false, false, false] rfl rfl (any_of HT_.out (by kernel_rfl)) (fun _ _ _ h => h) (Or.inr ⟨by rfl, rfl⟩) ?_ ?_
              rotate_left
              ·exact qP
              refine pure_ (i := 17) (N := some 71) (v := undef) (a' := ?_) #[true, true, true, true, true, true, true, true, true, true, true, true, true, true, true, true, true, true, false, false, false] rfl rfl (any_of HT_.out (by kernel_rfl)) (fun _ _ _ h => h) (Or.inr ⟨by rfl, rfl⟩) ?_ ?_
              rotate_left
              ·exact qP
              refine pure_ (i := 18) (N := some 72) (v := undef) (a' := ?_) #[true, true, true, true, true, true, true, true, true, true, true, true, true, true, true, true, true, true, true, false, false] rfl rfl (any_of HT_.out (by kernel_rfl)) (fun _ _ _ h => h) (Or.inr ⟨by rfl, rfl⟩) ?_ ?_
              rotate_left
              ·exact qP
              refine pure_ (i := 19) (N := some 73) (v := undef) (a' := ?_) #[true, true, true, true, true, true, true, true, true, true, true, true, true, true, true, true, true, true, true, true, false] rfl rfl (any_of HT_.out (by kernel_rfl)) (fun _ _ _ h => h) (Or.inr ⟨by rfl, rfl⟩) ?_ ?_
              rotate_left
              ·exact qP
              refine pure_ (i := 20) (N := some 74) (v := ?_) (a' := ?_) #[true, true, true, true, true, true, true, true, true, true, true, true, true, true, true, true, true, true, true, true, true] rfl rfl (any_of HT_.out (by kernel_rfl)) (fun _ _ _ h => h) (Or.inl ⟨by rfl, ?_⟩) ?_ ?_
              rotate_left
              ·intro w'
               go_simp
               with_reducible rfl
              rotate_left
              ·exact qP
              refine done_ (done_of HT_.out (by kernel_rfl)) ?_
              try go_wp2
              go_roundg k2
              case measure => have := HK1.out; have := HK2.out; omega
              case rel => exact ⟨(wrap64 (x49_2 + 1)), (x1693000_2), (u1693000), qe, H', ⟨by have := HK1.out; have := HK2.out; omega⟩, ⟨qR HO_1693000.out⟩, ⟨qb BK1688.out⟩, ⟨qb BK1692.out⟩, ⟨qB⟩⟩
           ·rw [if_neg c15] at H
            have c15b0 := decide_eq_false c15
            clear c15
            have H' := am H
            clear H
            go_wp2
            go_roundg k2
            case measure => have := HK1.out; have := HK2.out; omega
            case rel => exact ⟨(wrap64 (x42_1 + 1)), (x1693000_2), (u1693000), qe, H', ⟨by have := HK1.out; have := HK2.out; omega⟩, ⟨qR HO_1693000.out⟩, ⟨qb BK1688.out⟩, ⟨qb BK1692.out⟩, ⟨qB⟩⟩
        ·rw [if_neg c12] at H
         have c12b0 := decide_eq_false c12
         clear c12
         simp only [Option.some.injEq, Prod.mk.injEq] at H
         obtain ⟨rfl, rfl⟩ := H
         have hnb37 := NB1692_1688.out
         have hnc37 := NB1688_1692.out
         have hcz38_0 := qz wr BK1692.out
         have hfz38_0 := blk_frozen BK1692.out 0
         obtain ⟨Ao39, co39, eo39⟩ := Kd.R_slice HO_1693000.out
         subst eo39
         have hcz40_0 := qz wr BK1688.out
         have hfz40_0 := blk_frozen BK1688.out 0
         go_wp2
         refine bodyPost_ret (results_ct rfl _ _ gb1688 28 #[.slice Ao39 x1693000_1.length co39] (0, 0) _ rfl (by (with_reducible repeat (first | refine blk_drewN ?_ _ | refine blk_drew ?_ | refine blk_alloc ?_ _)); refine blk_put (cs := #[.slice none 0 0]) ?_ 0 _ rfl; refine qb ?_; exact BK1688.out) Try.underlying28 rfl (by kernel_rfl)) rfl ?_
         exact ⟨_, rfl, Kd.R_lower (qR (Kd.R_mono (Kd.R_far (p := ⟨gb1688, 0, none⟩) (Kd.R_types HO_1693000.out BK1688.out (by decide)) (fun _ hk => hk.2) (.slice Ao39 x1693000_1.length co39)) (fun _ hk => trivial))) HBW.out.size, below_set (by repeat (first | (with_reducible first | exact (HBW.out.trans (HB.out.mono HBW.out.size)) | apply below_alloc | apply pw_below_drewN | apply below_drew1) | exact (HBW.out.trans (HB.out.mono HBW.out.size)))) GE1688.out⟩
     ·rw [if_neg c3] at H
      exact absurd H (by simp)
end Go.Proofs.Ytonfifhoklaliaa.F
end

section
namespace Go.Proofs.Ytonfifhoklaliaa.F
open Go.RowKit Go.Proofs.YtonfifhoklaliaaW.PrintWords Go.Proofs.YtonfifhoklaliaaW.PrintLast Go.Proofs.YtonfifhoklaliaaW.PrintMore
attribute [local go_sem] max2_int min2_int max_two min_two max_three min_three max_four min_four
set_option linter.unusedVariables false
set_option linter.unusedSimpArgs false
mutual
def spec_l1Cur_surePoset.l0 : Nat → Int → List (List Int) → Int → List Int → Int → Int → Option (List Int × Int × Int)
 | 0, _, _, _, _, _, _ => none
 | k + 1, x9, x10, x11, x1000, x1001, x1002 => if x11 > 0 then (spec_l1Cur_surePoset.j1 k x9 x10 x11 (decide (x9 > 1)) x1000 x1001 x1002) else (spec_l1Cur_surePoset.j1 k x9 x10 x11 false x1000 x1001 x1002)
def spec_l1Cur_surePoset.j1 : Nat → Int → List (List Int) → Int → Bool → List Int → Int → Int → Option (List Int × Int × Int)
 | 0, _, _, _, _, _, _, _ => none
 | k + 1, x9, x10, x11, x61, x1000, x1001, x1002 => if x61 = true then ((spec_l1Cur_pick.f x1000 x1001 x1002 (wrap64 (x9 - 1))).bind fun bt320 => ((spec_l1Cur_pick.f x1000 bt320.2.1 bt320.2.2 (wrap64 ((wrap64 (x9 - 1)) - bt320.1))).bind fun bt323 => (if x10.length < 5864062014805 then (spec_l1Cur_surePoset.l0 k x9 (x10 ++ [(([bt320.1, wrap64 ((wrap64 (bt320.1 + 1)) + bt323.1)] : List Int))]) (wrap64 (x11 - 1)) x1000 bt323.2.1 bt323.2.2) else (none)))) else ((spec_poFrom.f k x9 x10).bind fun t332 => (some (t332, x1001, x1002)))
end
def spec_l1Cur_surePoset.f (k : Nat) (s0_0 : List Int) (s0_1 : Int) (s0_2 : Int) (a1 : Int) : Option (List Int × Int × Int) := (spec_l1Cur_pick.f s0_0 s0_1 s0_2 5).bind fun bt285 => (if bt285.1 = 0 then ((spec_l1Cur_pick.f s0_0 bt285.2.1 bt285.2.2 2).bind fun bt288 => ((spec_l1Most.f 1 (wrap64 (Int.tdiv a1 2))).bind fun t291 => ((spec_l1Cur_pick.f s0_0 bt288.2.1 bt288.2.2 t291).bind fun bt292 => ((spec_poRectangle.f k (wrap64 (1 + bt288.1)) (wrap64 (1 + bt292.1))).bind fun t295 => (some (t295, bt292.2.1, bt292.2.2)))))) else (if bt285.1 = 1 then ((spec_l1Cur_pick.f s0_0 bt285.2.1 bt285.2.2 2).bind fun bt298 => ((spec_Staircase.f k (wrap64 (1 + bt298.1))).bind fun bt301 => (some (bt301.1, bt298.2.1, bt298.2.2)))) else (if bt285.1 = 2 then ((spec_l1Cur_pick.f s0_0 bt285.2.1 bt285.2.2 a1).bind fun bt306 => ((spec_Fence.f k (wrap64 (1 + bt306.1))).bind fun bt309 => (some (bt309.1, bt306.2.1, bt306.2.2)))) else ((spec_l1Cur_pick.f s0_0 bt285.2.1 bt285.2.2 a1).bind fun bt314 => ((spec_l1Cur_pick.f s0_0 bt314.2.1 bt314.2.2 (wrap64 (2 * (wrap64 (1 + bt314.1))))).bind fun bt317 => (spec_l1Cur_surePoset.l0 k (wrap64 (1 + bt314.1)) ([] : List (List Int)) bt317.1 s0_0 bt317.2.1 bt317.2.2))))))
theorem spec_l1Cur_surePoset.mono_l : ∀ k, (∀ y0 y1 y2 y3 y4 y5, LeO (spec_l1Cur_surePoset.l0 k y0 y1 y2 y3 y4 y5) (spec_l1Cur_surePoset.l0 (k + 1) y0 y1 y2 y3 y4 y5)) ∧ (∀ y0 y1 y2 y3 y4 y5 y6, LeO (spec_l1Cur_surePoset.j1 k y0 y1 y2 y3 y4 y5 y6) (spec_l1Cur_surePoset.j1 (k + 1) y0 y1 y2 y3 y4 y5 y6))
 | 0 => ⟨fun _ _ _ _ _ _ r h => by simp [spec_l1Cur_surePoset.l0] at h, fun _ _ _ _ _ _ _ r h => by simp [spec_l1Cur_surePoset.j1] at h⟩
 | k + 1 => by
  obtain ⟨ih0, ih1⟩ := spec_l1Cur_surePoset.mono_l k
  refine ⟨?_, ?_⟩
  ·intro y0 y1 y2 y3 y4 y5
   unfold spec_l1Cur_surePoset.l0
   repeat' first
   | (with_reducible exact spec_Fence.mono _ _)
   | (with_reducible exact spec_Staircase.mono _ _)
   | (with_reducible exact spec_poFrom.mono _ _ _)
   | (with_reducible exact spec_poRectangle.mono _ _ _)
   | (with_reducible exact LeO.refl _)
   | (with_reducible exact LeO.none _)
   | (with_reducible refine LeO.ite ?_ ?_)
   | (with_reducible refine LeO.bind ?_ (fun _ => ?_))
   | exact ih0 _ _ _ _ _ _
   | exact ih1 _ _ _ _ _ _ _
   | exact spec_Fence.mono _ _
   | exact spec_Staircase.mono _ _
   | exact spec_poFrom.mono _ _ _
   | exact spec_poRectangle.mono _ _ _
   | exact LeO.none _
   | refine LeO.ite ?_ ?_
   | refine LeO.bind ?_ (fun _ => ?_)
  ·intro y0 y1 y2 y3 y4 y5 y6
   unfold spec_l1Cur_surePoset.j1
   repeat' first
   | (with_reducible exact spec_Fence.mono _ _)
   | (with_reducible exact spec_Staircase.mono _ _)
   | (with_reducible exact spec_poFrom.mono _ _ _)
   | (with_reducible exact spec_poRectangle.mono _ _ _)
   | (with_reducible exact LeO.refl _)
   | (with_reducible exact LeO.none _)
   | (with_reducible refine LeO.ite ?_ ?_)
   | (with_reducible refine LeO.bind ?_ (fun _ => ?_))
   | exact ih0 _ _ _ _ _ _
   | exact ih1 _ _ _ _ _ _ _
   | exact spec_Fence.mono _ _
   | exact spec_Staircase.mono _ _
   | exact spec_poFrom.mono _ _ _
   | exact spec_poRectangle.mono _ _ _
   | exact LeO.none _
   | refine LeO.ite ?_ ?_
   | refine LeO.bind ?_ (fun _ => ?_)
theorem spec_l1Cur_surePoset.mono : ∀ a0 a1 a2 a3 k, LeO (spec_l1Cur_surePoset.f k a0 a1 a2 a3) (spec_l1Cur_surePoset.f (k + 1) a0 a1 a2 a3) := by
 intro a0 a1 a2 a3 k
 obtain ⟨ih0, ih1⟩ := spec_l1Cur_surePoset.mono_l k
 unfold spec_l1Cur_surePoset.f
 repeat' first
  | (with_reducible exact spec_Fence.mono _ _)
  | (with_reducible exact spec_Staircase.mono _ _)
  | (with_reducible exact spec_poFrom.mono _ _ _)
  | (with_reducible exact spec_poRectangle.mono _ _ _)
  | (with_reducible exact LeO.refl _)
  | (with_reducible exact LeO.none _)
  | (with_reducible refine LeO.ite ?_ ?_)
  | (with_reducible refine LeO.bind ?_ (fun _ => ?_))
  | exact ih0 _ _ _ _ _ _
  | exact ih1 _ _ _ _ _ _ _
  | exact spec_Fence.mono _ _
  | exact spec_Staircase.mono _ _
  | exact spec_poFrom.mono _ _ _
  | exact spec_poRectangle.mono _ _ _
  | exact LeO.none _
  | refine LeO.ite ?_ ?_
  | refine LeO.bind ?_ (fun _ => ?_)
set_option maxHeartbeats 8000000 in
set_option maxRecDepth 100000 in
theorem spec_l1Cur_surePoset.calls (k : Nat) (g : Nat) (s0_0 : List Int) (s0_1 : Int) (s0_2 : Int) (a1 : Int) (r1 : List Int) (r2 : Int) (r3 : Int) (w0 w : World) (hI : IsS74 w0 w g s0_0 s0_1 s0_2) (hB : Below w0.heap.size w0 w) (h : spec_l1Cur_surePoset.f k s0_0 s0_1 s0_2 a1 = some (r1, r2, r3)) :
 Calls Try.prog 170 #[.pointer (some ⟨g, 0, none⟩), .int .i64 a1] w fun e w' => ∃ v0_ : Value, e = .returned (.agg #[v0_]) ∧ Kd.R (Kd.int .i64) 3 w' w.heap.size (fun _ => True) v0_ r1 ∧ IsS74 w0 w' g s0_0 r2 r3 ∧ Below w0.heap.size w0 w' ∧ KeepBut w w' g none := by
 have hu28 := Try.underlying28
 have HI0 := am hI
 have HK := am (KeepBut.refl w g none)
 have HL := am hB.size
 clear hI
 have HW0 := am hB.size
 have HB := am hB
 clear hB
 have H : ((spec_l1Cur_pick.f s0_0 s0_1 s0_2 5).bind fun bt285 => (if bt285.1 = 0 then ((spec_l1Cur_pick.f s0_0 bt285.2.1 bt285.2.2 2).bind fun bt288 => ((spec_l1Most.f 1 (wrap64 (Int.tdiv a1 2))).bind fun t291 => ((spec_l1Cur_pick.f s0_0 bt288.2.1 bt288.2.2 t291).bind fun bt292 => ((spec_poRectangle.f k (wrap64 (1 + bt288.1)) (wrap64 (1 + bt292.1))).bind fun t295 => (some (t295, bt292.2.1, bt292.2.2)))))) else (if bt285.1 = 1 then ((spec_l1Cur_pick.f s0_0 bt285.2.1 bt285.2.2 2).bind fun bt298 => ((spec_Staircase.f k (wrap64 (1 + bt298.1))).bind fun bt301 => (some (bt301.1, bt298.2.1, bt298.2.2)))) else (if bt285.1 = 2 then ((spec_l1Cur_pick.f s0_0 bt285.2.1 bt285.2.2 a1).bind fun bt306 => ((spec_Fence.f k (wrap64 (1 + bt306.1))).bind fun bt309 => (some (bt309.1, bt306.2.1, bt306.2.2)))) else ((spec_l1Cur_pick.f s0_0 bt285.2.1 bt285.2.2 a1).bind fun bt314 => ((spec_l1Cur_pick.f s0_0 bt314.2.1 bt314.2.2 (wrap64 (2 * (wrap64 (1 + bt314.1))))).bind fun bt317 => (spec_l1Cur_surePoset.l0 k (wrap64 (1 + bt314.1)) ([] : List (List Int)) bt317.1 s0_0 bt317.2.1 bt317.2.2))))))) = some (r1, r2, r3) := h
 clear h
 replace H := Option.bind_eq_some_iff.mp H
 obtain ⟨⟨t285, t286, t287⟩, A30, H⟩ := H
 replace H : (if t285 = 0 then ((spec_l1Cur_pick.f s0_0 t286 t287 2).bind fun bt288 => ((spec_l1Most.f 1 (wrap64 (Int.tdiv a1 2))).bind fun t291 => ((spec_l1Cur_pick.f s0_0 bt288.2.1 bt288.2.2 t291).bind fun bt292 => ((spec_poRectangle.f k (wrap64 (1 + bt288.1)) (wrap64 (1 + bt292.1))).bind fun t295 => (some (t295, bt292.2.1, bt292.2.2)))))) else (if t285 = 1 then ((spec_l1Cur_pick.f s0_0 t286 t287 2).bind fun bt298 => ((spec_Staircase.f k (wrap64 (1 + bt298.1))).bind fun bt301 => (some (bt301.1, bt298.2.1, bt298.2.2)))) else (if t285 = 2 then ((spec_l1Cur_pick.f s0_0 t286 t287 a1).bind fun bt306 => ((spec_Fence.f k (wrap64 (1 + bt306.1))).bind fun bt309 => (some (bt309.1, bt306.2.1, bt306.2.2)))) else ((spec_l1Cur_pick.f s0_0 t286 t287 a1).bind fun bt314 => ((spec_l1Cur_pick.f s0_0 bt314.2.1 bt314.2.2 (wrap64 (2 * (wrap64 (1 + bt314.1))))).bind fun bt317 => (spec_l1Cur_surePoset.l0 k (wrap64 (1 + bt314.1)) ([] : List (List Int)) bt317.1 s0_0 bt317.2.1 bt317.2.2)))))) = some (r1, r2, r3) := H
 have A3 := am A30
 clear A30
 by_cases c4 : t285 = 0
 ·rw [if_pos c4] at H
  have c4b0 : (t285 == 0) = true := beq_iff_eq.mpr c4
  have c4b1 : (t285 != 0) = false := bne_eq_false_iff_eq.mpr c4
  clear c4
  replace H := Option.bind_eq_some_iff.mp H
  obtain ⟨⟨t288, t289, t290⟩, A50, H⟩ := H
  replace H : ((spec_l1Most.f 1 (wrap64 (Int.tdiv a1 2))).bind fun t291 => ((spec_l1Cur_pick.f s0_0 t289 t290 t291).bind fun bt292 => ((spec_poRectangle.f k (wrap64 (1 + t288)) (wrap64 (1 + bt292.1))).bind fun t295 => (some (t295, bt292.2.1, bt292.2.2))))) = some (r1, r2, r3) := H
  have A5 := am A50
  clear A50
  replace H := Option.bind_eq_some_iff.mp H
  obtain ⟨t291, A60, H⟩ := H
  replace H : ((spec_l1Cur_pick.f s0_0 t289 t290 t291).bind fun bt292 => ((spec_poRectangle.f k (wrap64 (1 + t288)) (wrap64 (1 + bt292.1))).bind fun t295 => (some (t295, bt292.2.1, bt292.2.2)))) = some (r1, r2, r3) := H
  have A6 := am A60
  clear A60
  replace H := Option.bind_eq_some_iff.mp H
  obtain ⟨⟨t292, t293, t294⟩, A70, H⟩ := H
  replace H : ((spec_poRectangle.f k (wrap64 (1 + t288)) (wrap64 (1 + t292))).bind fun t295 => (some (t295, t293, t294))) = some (r1, r2, r3) := H
  have A7 := am A70
  clear A70
  replace H := Option.bind_eq_some_iff.mp H
  obtain ⟨t295, A80, H⟩ := H
  replace H : (some (t295, t293, t294)) = some (r1, r2, r3) := H
  have A8 := am A80
  clear A80
  simp only [Option.some.injEq, Prod.mk.injEq] at H
  obtain ⟨rfl, rfl, rfl⟩ := H
  go_enter Try.func170, Try.ntmps170
  go_wp2_with (first | ((with_reducible refine gate_dst (N := 4) rfl ?_); refine qx (N := 4) (cs := #[.slice none 0 0]) (t := 28) ?_; intro gb284 hg w9 hbox hb; have n0_ := am (IsS74.below qI74 hb); have n1_ := am (KeepBut.trans qK (KeepBut.of_below hb g none) (.inl rfl)); have n2_ := am (below_step qB hb); have BK284 := am (hbox); have GW284 := am ((by rw [hg]; exact (keep_size (w := w) (g := g) (row := none) qK) : w.heap.size ≤ gb284)); have GE284 := am ((Nat.le_trans HW0.out (by rw [hg]; exact (keep_size (w := w) (g := g) (row := none) qK) : w.heap.size ≤ gb284) : w0.heap.size ≤ gb284)); have NB0_284 := am ((by rw [hg]; exact Nat.ne_of_lt (IsS74.lt (show IsS74 w0 _ g s0_0 s0_1 s0_2 from qI74)) : g ≠ gb284)); have NB284_0 := am ((by rw [hg]; exact Nat.ne_of_gt (IsS74.lt (show IsS74 w0 _ g s0_0 s0_1 s0_2 from qI74)) : gb284 ≠ g)); clear HI0 HK HB; have HI0 := n0_; have HK := n1_; have HB := n2_; clear n0_ n1_ n2_; clear hb hbox hg) | ((with_reducible refine gate_callee (f := 115) rfl ?_); refine gL (some 14) Try.func115 #[.pointer (some ⟨g, 0, none⟩), .int .i64 5] ?_; (with_reducible refine (spec_l1Cur_pick.calls g s0_0 s0_1 s0_2 5 t285 t286 t287 w0 _ ?side1 ?side2 A3.out).mono ?_); (case side1 => exact qI74); (case side2 => exact qB); rintro e w10 ⟨rfl, hi, hb, hk⟩; refine ⟨_, rfl, ?_⟩; replace BK284 := am (KeepBut.blk hk (g' := gb284) (o := .cells #[.slice none 0 0] 28 (0, 0)) (qb BK284.out) NB284_0.out (by simp)); have n1_ := am (KeepBut.trans qK hk (.inl rfl)); have n2_ := am (hb); replace HI0 := am (hi); clear HK HB; have HK := n1_; have HB := n2_; clear n1_ n2_; (try clear hb); (try clear hb2); (try clear hk); (try clear hi)) | ((with_reducible refine gate_callee (f := 115) rfl ?_); refine gL (some 18) Try.func115 #[.pointer (some ⟨g, 0, none⟩), .int .i64 2] ?_; (with_reducible refine (spec_l1Cur_pick.calls g s0_0 t286 t287 2 t288 t289 t290 w0 _ ?side1 ?side2 A5.out).mono ?_); (case side1 => exact qI74); (case side2 => exact qB); rintro e w11 ⟨rfl, hi, hb, hk⟩; refine ⟨_, rfl, ?_⟩; replace BK284 := am (KeepBut.blk hk (g' := gb284) (o := .cells #[.slice none 0 0] 28 (0, 0)) (qb BK284.out) NB284_0.out (by simp)); have n1_ := am (KeepBut.trans qK hk (.inl rfl)); have n2_ := am (hb); replace HI0 := am (hi); clear HK HB; have HK := n1_; have HB := n2_; clear n1_ n2_; (try clear hb); (try clear hb2); (try clear hk); (try clear hi)) | ((with_reducible refine gate_callee (f := 152) rfl ?_); refine gL (some 23) Try.func152 #[.int .i64 1, .int .i64 (wrap64 (Int.tdiv a1 2))] ?_; (with_reducible refine (spec_l1Most.calls 1 (wrap64 (Int.tdiv a1 2)) t291 _ A6.out).mono ?_); rintro e w' ⟨rfl, ⟨nd, rfl⟩⟩; refine ⟨_, rfl, ?_⟩; (try (rw [drewN_self w11]; generalize hq_ : World.drewN w11 _ = w11; have n0_ : Aside0 (w11.heap[gb284]? = some (.cells #[.slice none 0 0] 28 (0, 0))) := ⟨by rw [← hq_]; exact (qb BK284.out)⟩; have n1_ : Aside0 (IsS74 w0 w11 g s0_0 t289 t290) := ⟨by rw [← hq_]; exact qI74⟩; have n2_ : Aside0 (KeepBut w w11 g none) := ⟨by rw [← hq_]; exact qK⟩; have n3_ : Aside0 (Below w0.heap.size w0 w11) := ⟨by rw [← hq_]; exact qB⟩; clear BK284 HI0 HK HB hq_; have BK284 := n0_; have HI0 := n1_; have HK := n2_; have HB := n3_; clear n0_ n1_ n2_ n3_))) | ((with_reducible refine gate_callee (f := 115) rfl ?_); refine gL (some 24) Try.func115 #[.pointer (some ⟨g, 0, none⟩), .int .i64 t291] ?_; (with_reducible refine (spec_l1Cur_pick.calls g s0_0 t289 t290 t291 t292 t293 t294 w0 _ ?side1 ?side2 A7.out).mono ?_); (case side1 => exact qI74); (case side2 => exact qB); rintro e w12 ⟨rfl, hi, hb, hk⟩; refine ⟨_, rfl, ?_⟩; replace BK284 := am (KeepBut.blk hk (g' := gb284) (o := .cells #[.slice none 0 0] 28 (0, 0)) (qb BK284.out) NB284_0.out (by simp)); have n1_ := am (KeepBut.trans qK hk (.inl rfl)); have n2_ := am (hb); replace HI0 := am (hi); clear HK HB; have HK := n1_; have HB := n2_; clear n1_ n2_; (try clear hb); (try clear hb2); (try clear hk); (try clear hi)) | ((with_reducible refine gate_callee (f := 82) rfl ?_); refine gL (some 26) Try.func82 #[.int .i64 (wrap64 (1 + t288)), .int .i64 (wrap64 (1 + t292))] ?_; (with_reducible refine (spec_poRectangle.calls k (wrap64 (1 + t288)) (wrap64 (1 + t292)) t295 _ A8.out).mono ?_); rintro e w13 ⟨v296, rfl, ho0, hb⟩; refine ⟨_, rfl, ?_⟩; have HO297 := am (Kd.R_lower ho0 (keep_size (w := w) (g := g) (row := none) qK)); have n1_ := am (IsS74.below qI74 hb); replace BK284 := am (blk_below (g := gb284) (o := .cells #[.slice none 0 0] 28 (0, 0)) (qb BK284.out) hb); have n3_ := am (KeepBut.trans qK (KeepBut.of_below hb g none) (.inl rfl)); replace HB := am (below_step qB hb); clear HI0 HK; have HI0 := n1_; have HK := n3_; clear n1_ n3_; (try clear hb); (try clear hb2); (try clear hk); (try clear hi); (try clear ho0); obtain ⟨Ao14, co14, eo14⟩ := Kd.R_slice HO297.out; subst eo14; have hnb15 := NB284_0.out; have hnc15 := NB0_284.out; have hcz16_0 := qz w13 BK284.out; have hfz16_0 := blk_frozen BK284.out 0))
  refine bodyPost_ret (results_cell_row rfl _ _ gb284 28 #[.slice Ao14 t295.length co14] (0, 0) _ rfl (by (with_reducible repeat (first | refine blk_drewN ?_ _ | refine blk_drew ?_ | refine blk_alloc ?_ _)); refine blk_put (cs := #[.slice none 0 0]) ?_ 0 _ rfl; refine qb ?_; exact BK284.out) Try.underlying28 rfl (by kernel_rfl)) rfl ?_
  exact ⟨_, qr, qR (Kd.R_mono (Kd.R_far (p := ⟨gb284, 0, none⟩) (Kd.R_types HO297.out BK284.out (by decide)) (fun _ hk => hk.2) (.slice Ao14 t295.length co14)) (fun _ hk => trivial)), qI74, qB, qK⟩
 ·rw [if_neg c4] at H
  have c4b0 : (t285 == 0) = false := beq_eq_false_iff_ne.mpr c4
  have c4b1 : (t285 != 0) = true := bne_iff_ne.mpr c4
  by_cases c17 : t285 = 1
  ·rw [if_pos c17] at H
   have c17b0 : (t285 == 1) = true := beq_iff_eq.mpr c17
   have c17b1 : (t285 != 1) = false := bne_eq_false_iff_eq.mpr c17
   clear c17
   replace H := Option.bind_eq_some_iff.mp H
   obtain ⟨⟨t298, t299, t300⟩, A180, H⟩ := H
   replace H : ((spec_Staircase.f k (wrap64 (1 + t298))).bind fun bt301 => (some (bt301.1, t299, t300))) = some (r1, r2, r3) := H
   have A18 := am A180
   clear A180
   replace H := Option.bind_eq_some_iff.mp H
   obtain ⟨⟨t301, t304⟩, A190, H⟩ := H
   replace H : (some (t301, t299, t300)) = some (r1, r2, r3) := H
   have A19 := am A190
   clear A190
   simp only [Option.some.injEq, Prod.mk.injEq] at H
   obtain ⟨rfl, rfl, rfl⟩ := H
   go_enter Try.func170, Try.ntmps170
   go_wp2_with (first | ((with_reducible refine gate_dst (N := 4) rfl ?_); refine qx (N := 4) (cs := #[.slice none 0 0]) (t := 28) ?_; intro gb284 hg w20 hbox hb; have n0_ := am (IsS74.below qI74 hb); have n1_ := am (KeepBut.trans qK (KeepBut.of_below hb g none) (.inl rfl)); have n2_ := am (below_step qB hb); have BK284 := am (hbox); have GW284 := am ((by rw [hg]; exact (keep_size (w := w) (g := g) (row := none) qK) : w.heap.size ≤ gb284)); have GE284 := am ((Nat.le_trans HW0.out (by rw [hg]; exact (keep_size (w := w) (g := g) (row := none) qK) : w.heap.size ≤ gb284) : w0.heap.size ≤ gb284)); have NB0_284 := am ((by rw [hg]; exact Nat.ne_of_lt (IsS74.lt (show IsS74 w0 _ g s0_0 s0_1 s0_2 from qI74)) : g ≠ gb284)); have NB284_0 := am ((by rw [hg]; exact Nat.ne_of_gt (IsS74.lt (show IsS74 w0 _ g s0_0 s0_1 s0_2 from qI74)) : gb284 ≠ g)); clear HI0 HK HB; have HI0 := n0_; have HK := n1_; have HB := n2_; clear n0_ n1_ n2_; clear hb hbox hg) | ((with_reducible refine gate_callee (f := 115) rfl ?_); refine gL (some 14) Try.func115 #[.pointer (some ⟨g, 0, none⟩), .int .i64 5] ?_; (with_reducible refine (spec_l1Cur_pick.calls g s0_0 s0_1 s0_2 5 t285 t286 t287 w0 _ ?side1 ?side2 A3.out).mono ?_); (case side1 => exact qI74); (case side2 => exact qB); rintro e w21 ⟨rfl, hi, hb, hk⟩; refine ⟨_, rfl, ?_⟩; replace BK284 := am (KeepBut.blk hk (g' := gb284) (o := .cells #[.slice none 0 0] 28 (0, 0)) (qb BK284.out) NB284_0.out (by simp)); have n1_ := am (KeepBut.trans qK hk (.inl rfl)); have n2_ := am (hb); replace HI0 := am (hi); clear HK HB; have HK := n1_; have HB := n2_; clear n1_ n2_; (try clear hb); (try clear hb2); (try clear hk); (try clear hi)) | ((with_reducible refine gate_callee (f := 115) rfl ?_); refine gL (some 31) Try.func115 #[.pointer (some ⟨g, 0, none⟩), .int .i64 2] ?_; (with_reducible refine (spec_l1Cur_pick.calls g s0_0 t286 t287 2 t298 t299 t300 w0 _ ?side1 ?side2 A18.out).mono ?_); (case side1 => exact qI74); (case side2 => exact qB); rintro e w22 ⟨rfl, hi, hb, hk⟩; refine ⟨_, rfl, ?_⟩; replace BK284 := am (KeepBut.blk hk (g' := gb284) (o := .cells #[.slice none 0 0] 28 (0, 0)) (qb BK284.out) NB284_0.out (by simp)); have n1_ := am (KeepBut.trans qK hk (.inl rfl)); have n2_ := am (hb); replace HI0 := am (hi); clear HK HB; have HK := n1_; have HB := n2_; clear n1_ n2_; (try clear hb); (try clear hb2); (try clear hk); (try clear hi)) | ((with_reducible refine gate_callee (f := 17) rfl ?_); refine gL (some 33) Try.func17 #[.int .i64 (wrap64 (1 + t298))] ?_; (with_reducible refine (spec_Staircase.calls k (wrap64 (1 + t298)) t301 t304 _ A19.out).mono ?_); rintro e w23 ⟨v302, rfl, ho0, hb⟩; refine ⟨_, rfl, ?_⟩; have HO303 := am (Kd.R_lower ho0 (keep_size (w := w) (g := g) (row := none) qK)); have n1_ := am (IsS74.below qI74 hb); replace BK284 := am (blk_below (g := gb284) (o := .cells #[.slice none 0 0] 28 (0, 0)) (qb BK284.out) hb); have n3_ := am (KeepBut.trans qK (KeepBut.of_below hb g none) (.inl rfl)); replace HB := am (below_step qB hb); clear HI0 HK; have HI0 := n1_; have HK := n3_; clear n1_ n3_; (try clear hb); (try clear hb2); (try clear hk); (try clear hi); (try clear ho0)) | ((with_reducible refine gate_dst (N := 5) rfl ?_); refine qx (N := 5) (cs := #[.slice none 0 0]) (t := 28) ?_; intro gb305 hg w24 hbox hb; replace HO303 := am (Kd.R_below (qR HO303.out) hb); have n1_ := am (IsS74.below qI74 hb); have n2_ := am (blk_below (g := gb284) (o := .cells #[.slice none 0 0] 28 (0, 0)) (qb BK284.out) hb); have n3_ := am (KeepBut.trans qK (KeepBut.of_below hb g none) (.inl rfl)); have n4_ := am (below_step qB hb); have BK305 := am (hbox); have GW305 := am ((by rw [hg]; exact (keep_size (w := w) (g := g) (row := none) qK) : w.heap.size ≤ gb305)); have GE305 := am ((Nat.le_trans HW0.out (by rw [hg]; exact (keep_size (w := w) (g := g) (row := none) qK) : w.heap.size ≤ gb305) : w0.heap.size ≤ gb305)); have NB284_305 := am ((by rw [hg]; exact Nat.ne_of_lt (blk_lt (g := gb284) (o := .cells #[.slice none 0 0] 28 (0, 0)) (qb BK284.out)) : gb284 ≠ gb305)); have NB305_284 := am ((by rw [hg]; exact Nat.ne_of_gt (blk_lt (g := gb284) (o := .cells #[.slice none 0 0] 28 (0, 0)) (qb BK284.out)) : gb305 ≠ gb284)); have NB0_305 := am ((by rw [hg]; exact Nat.ne_of_lt (IsS74.lt (show IsS74 w0 _ g s0_0 t299 t300 from qI74)) : g ≠ gb305)); have NB305_0 := am ((by rw [hg]; exact Nat.ne_of_gt (IsS74.lt (show IsS74 w0 _ g s0_0 t299 t300 from qI74)) : gb305 ≠ g)); clear HI0 BK284 HK HB; have HI0 := n1_; have BK284 := n2_; have HK := n3_; have HB := n4_; clear n1_ n2_ n3_ n4_; clear hb hbox hg; obtain ⟨Ao25, co25, eo25⟩ := Kd.R_slice HO303.out; subst eo25; have hnb26 := NB305_284.out; have hnc26 := NB284_305.out; have hnb27 := NB305_0.out; have hnc27 := NB0_305.out; have hcz28_0 := qz w24 BK305.out; have hfz28_0 := blk_frozen BK305.out 0; have hnb29 := NB284_0.out; have hnc29 := NB0_284.out; have hcz30_0 := qz w24 BK284.out; have hfz30_0 := blk_frozen BK284.out 0))
   refine bodyPost_ret (results_cell_row rfl _ _ gb284 28 #[.slice Ao25 t301.length co25] (0, 0) _ rfl (by (with_reducible repeat (first | refine blk_drewN ?_ _ | refine blk_drew ?_ | refine blk_alloc ?_ _)); refine blk_put (cs := #[.slice none 0 0]) ?_ 0 _ rfl; (with_reducible repeat (first | refine blk_drewN ?_ _ | refine blk_drew ?_ | refine blk_alloc ?_ _)); refine blk_far ?_ NB284_305.out _; refine qb ?_; exact BK284.out) Try.underlying28 rfl (by kernel_rfl)) rfl ?_
   exact ⟨_, qr, qR (Kd.R_mono (Kd.R_far (p := ⟨gb284, 0, none⟩) (Kd.R_far (p := ⟨gb305, 0, none⟩) (Kd.R_types (Kd.R_types HO303.out BK305.out (by decide)) BK284.out (by decide)) (fun _ hk => hk.1.2) (.slice Ao25 t301.length co25)) (fun _ hk => hk.2) (.slice Ao25 t301.length co25)) (fun _ hk => trivial)), qI74, qB, qK⟩
  ·rw [if_neg c17] at H
   have c17b0 : (t285 == 1) = false := beq_eq_false_iff_ne.mpr c17
   have c17b1 : (t285 != 1) = true := bne_iff_ne.mpr c17
   by_cases c31 : t285 = 2
   ·rw [if_pos c31] at H
    have c31b0 : (t285 == 2) = true := beq_iff_eq.mpr c31
    have c31b1 : (t285 != 2) = false := bne_eq_false_iff_eq.mpr c31
    clear c31
    replace H := Option.bind_eq_some_iff.mp H
    obtain ⟨⟨t306, t307, t308⟩, A320, H⟩ := H
    replace H : ((spec_Fence.f k (wrap64 (1 + t306))).bind fun bt309 => (some (bt309.1, t307, t308))) = some (r1, r2, r3) := H
    have A32 := am A320
    clear A320
    replace H := Option.bind_eq_some_iff.mp H
    obtain ⟨⟨t309, t312⟩, A330, H⟩ := H
    replace H : (some (t309, t307, t308)) = some (r1, r2, r3) := H
    have A33 := am A330
    clear A330
    simp only [Option.some.injEq, Prod.mk.injEq] at H
    obtain ⟨rfl, rfl, rfl⟩ := H
    go_enter Try.func170, Try.ntmps170
    go_wp2_with (first | ((with_reducible refine gate_dst (N := 4) rfl ?_); refine qx (N := 4) (cs := #[.slice none 0 0]) (t := 28) ?_; intro gb284 hg w34 hbox hb; have n0_ := am (IsS74.below qI74 hb); have n1_ := am (KeepBut.trans qK (KeepBut.of_below hb g none) (.inl rfl)); have n2_ := am (below_step qB hb); have BK284 := am (hbox); have GW284 := am ((by rw [hg]; exact (keep_size (w := w) (g := g) (row := none) qK) : w.heap.size ≤ gb284)); have GE284 := am ((Nat.le_trans HW0.out (by rw [hg]; exact (keep_size (w := w) (g := g) (row := none) qK) : w.heap.size ≤ gb284) : w0.heap.size ≤ gb284)); have NB0_284 := am ((by rw [hg]; exact Nat.ne_of_lt (IsS74.lt (show IsS74 w0 _ g s0_0 s0_1 s0_2 from qI74)) : g ≠ gb284)); have NB284_0 := am ((by rw [hg]; exact Nat.ne_of_gt (IsS74.lt (show IsS74 w0 _ g s0_0 s0_1 s0_2 from qI74)) : gb284 ≠ g)); clear HI0 HK HB; have HI0 := n0_; have HK := n1_; have HB := n2_; clear n0_ n1_ n2_; clear hb hbox hg) | ((with_reducible refine gate_callee (f := 115) rfl ?_); refine gL (some 14) Try.func115 #[.pointer (some ⟨g, 0, none⟩), .int .i64 5] ?_; (with_reducible refine (spec_l1Cur_pick.calls g s0_0 s0_1 s0_2 5 t285 t286 t287 w0 _ ?side1 ?side2 A3.out).mono ?_); (case side1 => exact qI74); (case side2 => exact qB); rintro e w35 ⟨rfl, hi, hb, hk⟩; refine ⟨_, rfl, ?_⟩; replace BK284 := am (KeepBut.blk hk (g' := gb284) (o := .cells #[.slice none 0 0] 28 (0, 0)) (qb BK284.out) NB284_0.out (by simp)); have n1_ := am (KeepBut.trans qK hk (.inl rfl)); have n2_ := am (hb); replace HI0 := am (hi); clear HK HB; have HK := n1_; have HB := n2_; clear n1_ n2_; (try clear hb); (try clear hb2); (try clear hk); (try clear hi)) | ((with_reducible refine gate_callee (f := 115) rfl ?_); refine gL (some 42) Try.func115 #[.pointer (some ⟨g, 0, none⟩), .int .i64 a1] ?_; (with_reducible refine (spec_l1Cur_pick.calls g s0_0 t286 t287 a1 t306 t307 t308 w0 _ ?side1 ?side2 A32.out).mono ?_); (case side1 => exact qI74); (case side2 => exact qB); rintro e w36 ⟨rfl, hi, hb, hk⟩; refine ⟨_, rfl, ?_⟩; replace BK284 := am (KeepBut.blk hk (g' := gb284) (o := .cells #[.slice none 0 0] 28 (0, 0)) (qb BK284.out) NB284_0.out (by simp)); have n1_ := am (KeepBut.trans qK hk (.inl rfl)); have n2_ := am (hb); replace HI0 := am (hi); clear HK HB; have HK := n1_; have HB := n2_; clear n1_ n2_; (try clear hb); (try clear hb2); (try clear hk); (try clear hi)) | ((with_reducible refine gate_callee (f := 20) rfl ?_); refine gL (some 44) Try.func20 #[.int .i64 (wrap64 (1 + t306))] ?_; (with_reducible refine (spec_Fence.calls k (wrap64 (1 + t306)) t309 t312 _ A33.out).mono ?_); rintro e w37 ⟨v310, rfl, ho0, hb⟩; refine ⟨_, rfl, ?_⟩; have HO311 := am (Kd.R_lower ho0 (keep_size (w := w) (g := g) (row := none) qK)); have n1_ := am (IsS74.below qI74 hb); replace BK284 := am (blk_below (g := gb284) (o := .cells #[.slice none 0 0] 28 (0, 0)) (qb BK284.out) hb); have n3_ := am (KeepBut.trans qK (KeepBut.of_below hb g none) (.inl rfl)); replace HB := am (below_step qB hb); clear HI0 HK; have HI0 := n1_; have HK := n3_; clear n1_ n3_; (try clear hb); (try clear hb2); (try clear hk); (try clear hi); (try clear ho0)) | ((with_reducible refine gate_dst (N := 7) rfl ?_); refine qx (N := 7) (cs := #[.slice none 0 0]) (t := 28) ?_; intro gb313 hg w38 hbox hb; replace HO311 := am (Kd.R_below (qR HO311.out) hb); have n1_ := am (IsS74.below qI74 hb); have n2_ := am (blk_below (g := gb284) (o := .cells #[.slice none 0 0] 28 (0, 0)) (qb BK284.out) hb); have n3_ := am (KeepBut.trans qK (KeepBut.of_below hb g none) (.inl rfl)); have n4_ := am (below_step qB hb); have BK313 := am (hbox); have GW313 := am ((by rw [hg]; exact (keep_size (w := w) (g := g) (row := none) qK) : w.heap.size ≤ gb313)); have GE313 := am ((Nat.le_trans HW0.out (by rw [hg]; exact (keep_size (w := w) (g := g) (row := none) qK) : w.heap.size ≤ gb313) : w0.heap.size ≤ gb313)); have NB284_313 := am ((by rw [hg]; exact Nat.ne_of_lt (blk_lt (g := gb284) (o := .cells #[.slice none 0 0] 28 (0, 0)) (qb BK284.out)) : gb284 ≠ gb313)); have NB313_284 := am ((by rw [hg]; exact Nat.ne_of_gt (blk_lt (g := gb284) (o := .cells #[.slice none 0 0] 28 (0, 0)) (qb BK284.out)) : gb313 ≠ gb284)); have NB0_313 := am ((by rw [hg]; exact Nat.ne_of_lt (IsS74.lt (show IsS74 w0 _ g s0_0 t307 t308 from qI74)) : g ≠ gb313)); have NB313_0 := am ((by rw [hg]; exact Nat.ne_of_gt (IsS74.lt (show IsS74 w0 _ g s0_0 t307 t308 from qI74)) : gb313 ≠ g)); clear HI0 BK284 HK HB; have HI0 := n1_; have BK284 := n2_; have HK := n3_; have HB := n4_; clear n1_ n2_ n3_ n4_; clear hb hbox hg; obtain ⟨Ao39, co39, eo39⟩ := Kd.R_slice HO311.out; subst eo39; have hnb40 := NB313_284.out; have hnc40 := NB284_313.out; have hnb41 := NB313_0.out; have hnc41 := NB0_313.out; have hcz42_0 := qz w38 BK313.out; have hfz42_0 := blk_frozen BK313.out 0; have hnb43 := NB284_0.out; have hnc43 := NB0_284.out; have hcz44_0 := qz w38 BK284.out; have hfz44_0 := blk_frozen BK284.out 0))
    refine bodyPost_ret (results_cell_row rfl _ _ gb284 28 #[.slice Ao39 t309.length co39] (0, 0) _ rfl (by (with_reducible repeat (first | refine blk_drewN ?_ _ | refine blk_drew ?_ | refine blk_alloc ?_ _)); refine blk_put (cs := #[.slice none 0 0]) ?_ 0 _ rfl; (with_reducible repeat (first | refine blk_drewN ?_ _ | refine blk_drew ?_ | refine blk_alloc ?_ _)); refine blk_far ?_ NB284_313.out _; refine qb ?_; exact BK284.out) Try.underlying28 rfl (by kernel_rfl)) rfl ?_
    exact ⟨_, qr, qR (Kd.R_mono (Kd.R_far (p := ⟨gb284, 0, none⟩) (Kd.R_far (p := ⟨gb313, 0, none⟩) (Kd.R_types (Kd.R_types HO311.out BK313.out (by decide)) BK284.out (by decide)) (fun _ hk => hk.1.2) (.slice Ao39 t309.length co39)) (fun _ hk => hk.2) (.slice Ao39 t309.length co39)) (fun _ hk => trivial)), qI74, qB, qK⟩
   ·rw [if_neg c31] at H
    have c31b0 : (t285 == 2) = false := beq_eq_false_iff_ne.mpr c31
    have c31b1 : (t285 != 2) = true := bne_iff_ne.mpr c31
    replace H := Option.bind_eq_some_iff.mp H
    obtain ⟨⟨t314, t315, t316⟩, A450, H⟩ := H
    replace H : ((spec_l1Cur_pick.f s0_0 t315 t316 (wrap64 (2 * (wrap64 (1 + t314))))).bind fun bt317 => (spec_l1Cur_surePoset.l0 k (wrap64 (1 + t314)) ([] : List (List Int)) bt317.1 s0_0 bt317.2.1 bt317.2.2)) = some (r1, r2, r3) := H
    have A45 := am A450
    clear A450
    replace H := Option.bind_eq_some_iff.mp H
    obtain ⟨⟨t317, t318, t319⟩, A460, H⟩ := H
    replace H : (spec_l1Cur_surePoset.l0 k (wrap64 (1 + t314)) ([] : List (List Int)) t317 s0_0 t318 t319) = some (r1, r2, r3) := H
    have A46 := am A460
    clear A460
    have H' := am H
    clear H
    go_enter Try.func170, Try.ntmps170
    go_wp2_with (first | ((with_reducible refine gate_dst (N := 4) rfl ?_); refine qx (N := 4) (cs := #[.slice none 0 0]) (t := 28) ?_; intro gb284 hg w47 hbox hb; have n0_ := am (IsS74.below qI74 hb); have n1_ := am (KeepBut.trans qK (KeepBut.of_below hb g none) (.inl rfl)); have n2_ := am (below_step qB hb); have BK284 := am (hbox); have GW284 := am ((by rw [hg]; exact (keep_size (w := w) (g := g) (row := none) qK) : w.heap.size ≤ gb284)); have GE284 := am ((Nat.le_trans HW0.out (by rw [hg]; exact (keep_size (w := w) (g := g) (row := none) qK) : w.heap.size ≤ gb284) : w0.heap.size ≤ gb284)); have NB0_284 := am ((by rw [hg]; exact Nat.ne_of_lt (IsS74.lt (show IsS74 w0 _ g s0_0 s0_1 s0_2 from qI74)) : g ≠ gb284)); have NB284_0 := am ((by rw [hg]; exact Nat.ne_of_gt (IsS74.lt (show IsS74 w0 _ g s0_0 s0_1 s0_2 from qI74)) : gb284 ≠ g)); clear HI0 HK HB; have HI0 := n0_; have HK := n1_; have HB := n2_; clear n0_ n1_ n2_; clear hb hbox hg) | ((with_reducible refine gate_callee (f := 115) rfl ?_); refine gL (some 14) Try.func115 #[.pointer (some ⟨g, 0, none⟩), .int .i64 5] ?_; (with_reducible refine (spec_l1Cur_pick.calls g s0_0 s0_1 s0_2 5 t285 t286 t287 w0 _ ?side1 ?side2 A3.out).mono ?_); (case side1 => exact qI74); (case side2 => exact qB); rintro e w48 ⟨rfl, hi, hb, hk⟩; refine ⟨_, rfl, ?_⟩; replace BK284 := am (KeepBut.blk hk (g' := gb284) (o := .cells #[.slice none 0 0] 28 (0, 0)) (qb BK284.out) NB284_0.out (by simp)); have n1_ := am (KeepBut.trans qK hk (.inl rfl)); have n2_ := am (hb); replace HI0 := am (hi); clear HK HB; have HK := n1_; have HB := n2_; clear n1_ n2_; (try clear hb); (try clear hb2); (try clear hk); (try clear hi)) | ((with_reducible refine gate_callee (f := 115) rfl ?_); refine gL (some 50) Try.func115 #[.pointer (some ⟨g, 0, none⟩), .int .i64 a1] ?_; (with_reducible refine (spec_l1Cur_pick.calls g s0_0 t286 t287 a1 t314 t315 t316 w0 _ ?side1 ?side2 A45.out).mono ?_); (case side1 => exact qI74); (case side2 => exact qB); rintro e w49 ⟨rfl, hi, hb, hk⟩; refine ⟨_, rfl, ?_⟩; replace BK284 := am (KeepBut.blk hk (g' := gb284) (o := .cells #[.slice none 0 0] 28 (0, 0)) (qb BK284.out) NB284_0.out (by simp)); have n1_ := am (KeepBut.trans qK hk (.inl rfl)); have n2_ := am (hb); replace HI0 := am (hi); clear HK HB; have HK := n1_; have HB := n2_; clear n1_ n2_; (try clear hb); (try clear hb2); (try clear hk); (try clear hi)) | ((with_reducible refine gate_callee (f := 115) rfl ?_); refine gL (some 55) Try.func115 #[.pointer (some ⟨g, 0, none⟩), .int .i64 (wrap64 (2 * (wrap64 (1 + t314))))] ?_; (with_reducible refine (spec_l1Cur_pick.calls g s0_0 t315 t316 (wrap64 (2 * (wrap64 (1 + t314)))) t317 t318 t319 w0 _ ?side1 ?side2 A46.out).mono ?_); (case side1 => exact qI74); (case side2 => exact qB); rintro e w50 ⟨rfl, hi, hb, hk⟩; refine ⟨_, rfl, ?_⟩; replace BK284 := am (KeepBut.blk hk (g' := gb284) (o := .cells #[.slice none 0 0] 28 (0, 0)) (qb BK284.out) NB284_0.out (by simp)); have n1_ := am (KeepBut.trans qK hk (.inl rfl)); have n2_ := am (hb); replace HI0 := am (hi); clear HK HB; have HK := n1_; have HB := n2_; clear n1_ n2_; (try clear hb); (try clear hb2); (try clear hk); (try clear hi)))
    go_loopg [10, 11] k (fun kq v10 v11 w' => ∃ (x10_1 : List (List Int)) (x11_1 : Int) (x1001_1 : Int) (x1002_1 : Int), v11 = .int .i64 x11_1 ∧ Aside0 (spec_l1Cur_surePoset.l0 kq (wrap64 (1 + t314)) x10_1 x11_1 s0_0 x1001_1 x1002_1 = some (r1, r2, r3)) ∧ Aside0 (kq ≤ k) ∧ Aside0 (Kd.S (Kd.slice 3 (Kd.int .i64)) 26 w' w.heap.size (fun _ => True) v10 x10_1) ∧ Aside0 (w'.heap[gb284]? = some (.cells #[(.slice none 0 0)] 28 (0, 0))) ∧ Aside0 (IsS74 w0 w' g s0_0 x1001_1 x1002_1) ∧ Aside0 (KeepBut w w' g none) ∧ Aside0 (Below w0.heap.size w0 w'))
    case atStart => exact ⟨(([] : List (List Int))), (t317), (t318), (t319), qe, H', ⟨Nat.le_refl _⟩, ⟨by first | exact Kd.S_nil _ _ _ _ _ | exact Kd.N_nil _ _ _ _ _ | exact Kd.V_nil _ _ _ _ _ | exact Kd.Q_nil _ _ _ _ _ | exact Kd.R_nil _ _ _ _ _⟩, ⟨qb BK284.out⟩, ⟨qI74⟩, ⟨qK⟩, ⟨qB⟩⟩
    case round =>
     clear H'
     try clear c1
     try clear c2
     try clear p2
     try clear c3
     try clear c4
     try clear c4b0
     try clear c4b1
     try clear p6
     try clear c8
     try clear c11
     try clear c15
     try clear c17
     try clear c17b0
     try clear c17b1
     try clear c20
     try clear c26
     try clear c27
     try clear c29
     try clear c31
     try clear c31b0
     try clear c31b1
     try clear c40
     try clear c41
     try clear c43
     try clear hcz16_0
     try clear hcz28_0
     try clear hcz30_0
     try clear hcz42_0
     try clear hcz44_0
     try clear hfz16_0
     try clear hfz28_0
     try clear hfz30_0
     try clear hfz42_0
     try clear hfz44_0
     obtain ⟨x10_1, x11_1, x1001_1, x1002_1, rfl, HA, HK1, HO_10, BK284, HI0, HK, HB⟩ := hrel
     cases gk with
     | zero => exact absurd HA.out (by simp [spec_l1Cur_surePoset.l0])
     | succ k1 =>
      have H := HA.out
      clear HA
      simp only [spec_l1Cur_surePoset.l0] at H
      have HC51 := am H
      clear H
      go_upto_region 13 with (fail)
      go_cut [61] (fun v61 wc => ∃ (kq : Nat) (x61_50 : Bool), v61 = .bool x61_50 ∧ Aside0 (spec_l1Cur_surePoset.j1 kq (wrap64 (1 + t314)) x10_1 x11_1 x61_50 s0_0 x1001_1 x1002_1 = some (r1, r2, r3)) ∧ Aside0 (kq ≤ k1) ∧ Aside0 (Kd.S (Kd.slice 3 (Kd.int .i64)) 26 wc w.heap.size (fun _ => True) u10 x10_1) ∧ Aside0 (wc.heap[gb284]? = some (.cells #[(.slice none 0 0)] 28 (0, 0))) ∧ Aside0 (IsS74 w0 wc g s0_0 x1001_1 x1002_1) ∧ Aside0 (KeepBut w wc g none) ∧ Aside0 (Below w0.heap.size w0 wc))
      case first =>
       have H := HC51.out
       clear HC51
       by_cases c52 : x11_1 > 0
       ·rw [if_pos c52] at H
        have c52b0 : decide (0 < x11_1) = true := decide_eq_true c52
        clear c52
        (first | rw [c52b0] | (simp only [i64_w, i32_w]; rw [c52b0]) | skip)
        have H' := am H
        clear H
        go_wp2
        go_meet
        case rel => exact ⟨_, (decide ((wrap64 (1 + t314)) > 1)), qe, H', ⟨by have := HK1.out; first | omega | exact Nat.le_refl _⟩, ⟨qS HO_10.out⟩, ⟨qb BK284.out⟩, ⟨qI74⟩, ⟨qK⟩, ⟨qB⟩⟩
       ·rw [if_neg c52] at H
        have c52b0 : decide (0 < x11_1) = false := decide_eq_false c52
        clear c52
        (first | rw [c52b0] | (simp only [i64_w, i32_w]; rw [c52b0]) | skip)
        have H' := am H
        clear H
        go_wp2
        go_meet
        case rel => exact ⟨_, (false), qe, H', ⟨by have := HK1.out; first | omega | exact Nat.le_refl _⟩, ⟨qS HO_10.out⟩, ⟨qb BK284.out⟩, ⟨qI74⟩, ⟨qK⟩, ⟨qB⟩⟩
      case rest =>
       clear HC51
       try clear c1
       try clear c2
       try clear p2
       try clear c3
       try clear c4
       try clear c4b0
       try clear c4b1
       try clear c5
       try clear p6
       try clear c8
       try clear c11
       try clear c15
       try clear c17
       try clear c17b0
       try clear c17b1
       try clear c20
       try clear c26
       try clear c27
       try clear c29
       try clear c31
       try clear c31b0
       try clear c31b1
       try clear c40
       try clear c41
       try clear c43
       try clear c52
       try clear c52b0
       try clear hcz16_0
       try clear hcz28_0
       try clear hcz30_0
       try clear hcz42_0
       try clear hcz44_0
       try clear hfz16_0
       try clear hfz28_0
       try clear hfz30_0
       try clear hfz42_0
       try clear hfz44_0
       try clear p2
       try clear p6
       obtain ⟨kq, x61_50, rfl, HA, HJ50, HO_10, BK284, HI0, HK, HB⟩ := hcut
       cases kq with
       | zero => exact absurd HA.out (by simp [spec_l1Cur_surePoset.j1])
       | succ kj50 =>
        have H := HA.out
        clear HA
        simp only [spec_l1Cur_surePoset.j1] at H
        by_cases c53 : x61_50 = true
        ·subst c53
         have H1 : ((spec_l1Cur_pick.f s0_0 x1001_1 x1002_1 (wrap64 ((wrap64 (1 + t314)) - 1))).bind fun bt320 => ((spec_l1Cur_pick.f s0_0 bt320.2.1 bt320.2.2 (wrap64 ((wrap64 ((wrap64 (1 + t314)) - 1)) - bt320.1))).bind fun bt323 => (if x10_1.length < 5864062014805 then (spec_l1Cur_surePoset.l0 kj50 (wrap64 (1 + t314)) (x10_1 ++ [(([bt320.1, wrap64 ((wrap64 (bt320.1 + 1)) + bt323.1)] : List Int))]) (wrap64 (x11_1 - 1)) s0_0 bt323.2.1 bt323.2.2) else (none)))) = some (r1, r2, r3) := by rw [if_pos rfl] at H; exact H
         clear H
         have H := H1
         clear H1
         replace H := Option.bind_eq_some_iff.mp H
         obtain ⟨⟨t320, t321, t322⟩, A540, H⟩ := H
         replace H : ((spec_l1Cur_pick.f s0_0 t321 t322 (wrap64 ((wrap64 ((wrap64 (1 + t314)) - 1)) - t320))).bind fun bt323 => (if x10_1.length < 5864062014805 then (spec_l1Cur_surePoset.l0 kj50 (wrap64 (1 + t314)) (x10_1 ++ [(([t320, wrap64 ((wrap64 (t320 + 1)) + bt323.1)] : List Int))]) (wrap64 (x11_1 - 1)) s0_0 bt323.2.1 bt323.2.2) else (none))) = some (r1, r2, r3) := H
         have A54 := am A540
         clear A540
         replace H := Option.bind_eq_some_iff.mp H
         obtain ⟨⟨t323, t324, t325⟩, A550, H⟩ := H
         replace H : (if x10_1.length < 5864062014805 then (spec_l1Cur_surePoset.l0 kj50 (wrap64 (1 + t314)) (x10_1 ++ [(([t320, wrap64 ((wrap64 (t320 + 1)) + t323)] : List Int))]) (wrap64 (x11_1 - 1)) s0_0 t324 t325) else (none)) = some (r1, r2, r3) := H
         have A55 := am A550
         clear A550
         obtain ⟨y326, hy326⟩ : ∃ y_ : List Int, y_ = (([t320, wrap64 ((wrap64 (t320 + 1)) + t323)] : List Int)) := ⟨_, rfl⟩
         replace H : (if x10_1.length < 5864062014805 then (spec_l1Cur_surePoset.l0 kj50 (wrap64 (1 + t314)) (x10_1 ++ [y326]) (wrap64 (x11_1 - 1)) s0_0 t324 t325) else (none)) = some (r1, r2, r3) := by first | (rw [hy326]; with_reducible exact H) | (have H2_ := (Option.bind_some _ _).symm.trans H; rw [hy326]; with_reducible exact H2_) | (have H2_ := (Option.bind_some _ _).symm.trans H; with_reducible exact H2_) | with_reducible exact H | (rw [hy326]; exact H) | exact H
         have Ny326 := am hy326
         clear hy326
         by_cases c56 : x10_1.length < 5864062014805
         rotate_left
         ·rw [if_neg c56] at H
          exact absurd H (by simp)
         rw [if_pos c56] at H
         have LMc56 := am c56
         clear c56
         obtain ⟨y329, hy329⟩ : ∃ y_ : List (List Int), y_ = (x10_1 ++ [y326]) := ⟨_, rfl⟩
         replace H : (spec_l1Cur_surePoset.l0 kj50 (wrap64 (1 + t314)) y329 (wrap64 (x11_1 - 1)) s0_0 t324 t325) = some (r1, r2, r3) := by first | (rw [hy329]; with_reducible exact H) | (have H2_ := (Option.bind_some _ _).symm.trans H; rw [hy329]; with_reducible exact H2_) | (have H2_ := (Option.bind_some _ _).symm.trans H; with_reducible exact H2_) | with_reducible exact H | (rw [hy329]; exact H) | exact H
         have Ny329 := am hy329
         clear hy329
         have H' := am H
         clear H
         go_wp2_with (first | ((with_reducible refine gate_callee (f := 115) rfl ?_); refine gL (some 67) Try.func115 #[.pointer (some ⟨g, 0, none⟩), .int .i64 (wrap64 ((wrap64 (1 + t314)) - 1))] ?_; (with_reducible refine (spec_l1Cur_pick.calls g s0_0 x1001_1 x1002_1 (wrap64 ((wrap64 (1 + t314)) - 1)) t320 t321 t322 w0 _ ?side1 ?side2 A54.out).mono ?_); (case side1 => exact qI74); (case side2 => exact qB); rintro e w57 ⟨rfl, hi, hb, hk⟩; refine ⟨_, rfl, ?_⟩; replace HO_10 := am (Kd.S_mono (Kd.S_keep (IsS74.apartS (show IsS74 w0 _ g s0_0 x1001_1 x1002_1 from qI74) (qS HO_10.out) (by decide)) hk (fun _ h => h.2)) (fun _ h => h.1)); replace BK284 := am (KeepBut.blk hk (g' := gb284) (o := .cells #[.slice none 0 0] 28 (0, 0)) (qb BK284.out) NB284_0.out (by simp)); have n2_ := am (KeepBut.trans qK hk (.inl rfl)); have n3_ := am (hb); replace HI0 := am (hi); clear HK HB; have HK := n2_; have HB := n3_; clear n2_ n3_; (try clear hb); (try clear hb2); (try clear hk); (try clear hi)) | ((with_reducible refine gate_callee (f := 115) rfl ?_); refine gL (some 77) Try.func115 #[.pointer (some ⟨g, 0, none⟩), .int .i64 (wrap64 ((wrap64 ((wrap64 (1 + t314)) - 1)) - t320))] ?_; (with_reducible refine (spec_l1Cur_pick.calls g s0_0 t321 t322 (wrap64 ((wrap64 ((wrap64 (1 + t314)) - 1)) - t320)) t323 t324 t325 w0 _ ?side1 ?side2 A55.out).mono ?_); (case side1 => exact qI74); (case side2 => exact qB); rintro e w58 ⟨rfl, hi, hb, hk⟩; refine ⟨_, rfl, ?_⟩; replace HO_10 := am (Kd.S_mono (Kd.S_keep (IsS74.apartS (show IsS74 w0 _ g s0_0 t321 t322 from qI74) (qS HO_10.out) (by decide)) hk (fun _ h => h.2)) (fun _ h => h.1)); replace BK284 := am (KeepBut.blk hk (g' := gb284) (o := .cells #[.slice none 0 0] 28 (0, 0)) (qb BK284.out) NB284_0.out (by simp)); have n2_ := am (KeepBut.trans qK hk (.inl rfl)); have n3_ := am (hb); replace HI0 := am (hi); clear HK HB; have HK := n2_; have HB := n3_; clear n2_ n3_; (try clear hb); (try clear hb2); (try clear hk); (try clear hi)) | ((with_reducible refine gate_dst (N := 79) rfl ?_); refine Kd.R_lit (Kd.int .i64) _ 3 ?hg (N := 79) ?hd (xs := ([t320, wrap64 ((wrap64 (t320 + 1)) + t323)] : List Int)) (inner := [.int .i64 t320, .int .i64 (wrap64 ((wrap64 (t320 + 1)) + t323))]) (ok := fun _ => True) (okp := fun _ => True) ?hr ?hp (fun _ hk => hk) trivial (Below.refl _ _) (Nat.le_refl _) (by simp) ?_; (case hd => rfl); (case hg => rfl); (case hr => first | (go_simp; done) | (go_simp; rfl)); (case hp => exact (Reps.one (show Kd.M (Kd.int .i64) _ _ _ t320 [.int .i64 t320] from rfl) (Reps.one (show Kd.M (Kd.int .i64) _ _ _ (wrap64 ((wrap64 (t320 + 1)) + t323)) [.int .i64 (wrap64 ((wrap64 (t320 + 1)) + t323))] from rfl) (Reps.none _ _)))); intro v327 w59 ho60 hb hg_ hnew_; clear hg_ hnew_; (first | rw [← Ny326.out] at ho60 | (simp only [Int.reduceToNat] at ho60; rw [← Ny326.out] at ho60)); replace HO_10 := am (Kd.S_elder' (qS HO_10.out) (Kd.R_base ho60) hb); have HO328 := am (Kd.R_lower ho60 (keep_size (w := w) (g := g) (row := none) qK)); replace BK284 := am (blk_below (g := gb284) (o := .cells #[.slice none 0 0] 28 (0, 0)) (qb BK284.out) hb); have n3_ := am (IsS74.below qI74 hb); have n4_ := am (KeepBut.trans qK (KeepBut.of_below hb g none) (.inl rfl)); replace HB := am (below_step qB hb); clear HI0 HK; have HI0 := n3_; have HK := n4_; clear n3_ n4_; clear hb ho60; obtain ⟨Ao62, co62, eo62⟩ := Kd.R_slice HO328.out; subst eo62) | ((with_reducible refine gate_builtin (b := .append) (xs := #[.tmp 68, .tmp 80]) rfl ?_); at_builtin; refine Kd.S_append (Kd.slice 3 (Kd.int .i64)) w.heap.size rfl (.tmp 68) (.tmp 80) 56 26 (.slice none 0 0) 24 rfl Try.underlying56 info26 rfl (by decide) (by omega) u10 x10_1 y326 [.slice Ao62 y326.length co62] (fun _ => True) (fun k_ => some k_ = (.slice Ao62 y326.length co62 : Value).ownBlock) rfl rfl ?aP (fun k_ hk_ => ((Kd.R_mono (ok' := fun k_ => ((fun _ => True)) k_ ∧ some k_ ≠ (u10 : Value).ownBlock) (Kd.R_apart' (HO328.out) (Kd.S_typed HO_10.out) (by decide)) (fun k_ hk => ⟨trivial, hk.2⟩))).1 k_ hk_.symm) ?aF ?aO (Below.refl _ _) ?aS ?aL ?_; (case aP => exact Kd.M_row (Kd.R_mono (Kd.R_tight rfl (Kd.R_mono (ok' := fun k_ => ((fun _ => True)) k_ ∧ some k_ ≠ (u10 : Value).ownBlock) (Kd.R_apart' (HO328.out) (Kd.S_typed HO_10.out) (by decide)) (fun k_ hk => ⟨trivial, hk.2⟩))) (fun _ h_ => h_))); (case aF => exact (fun _ _ => trivial)); (case aO => exact (qS (Kd.S_mono HO_10.out (fun k_ hk => ⟨trivial, fun e_ => hk.2 e_⟩)))); (case aS => exact (keep_size (w := w) (g := g) (row := none) qK)); (case aL => have := LMc56.out; omega); intro v330 w61 ho hb hg hat; rw [← Ny329.out] at ho; replace BK284 := am (blk_grown (g := gb284) (o := .cells #[.slice none 0 0] 28 (0, 0)) (qb BK284.out) hg (Kd.S_ne HO_10.out BK284.out (by decide))); have n1_ := am (IsS74.grown qI74 hg (IsS74.own_neS HI0.out HO_10.out (by decide))); have n2_ := am (below_weaken qB HL.out hb); have n3_ := am (KeepBut.trans qK (KeepBut.of_grown hg g) (Kd.S_base2 HO_10.out)); have HO331 := am (ho); clear HI0 HB HK HO_10 HO328; have HI0 := n1_; have HB := n2_; have HK := n3_; clear n1_ n2_ n3_; clear ho hb hg hat))
         go_roundg kj50
         case measure => have := HK1.out; have := HJ50.out; omega
         case rel => exact ⟨(y329), (wrap64 (x11_1 - 1)), (t324), (t325), qe, H', ⟨by have := HK1.out; have := HJ50.out; omega⟩, ⟨qS HO331.out⟩, ⟨qb BK284.out⟩, ⟨qI74⟩, ⟨qK⟩, ⟨qB⟩⟩
        ·replace c53 := Bool.eq_false_iff.mpr c53
         subst c53
         have H1 : ((spec_poFrom.f kj50 (wrap64 (1 + t314)) x10_1).bind fun t332 => (some (t332, x1001_1, x1002_1))) = some (r1, r2, r3) := by rw [if_neg (show ¬ (false = true) by decide)] at H; exact H
         clear H
         have H := H1
         clear H1
         replace H := Option.bind_eq_some_iff.mp H
         obtain ⟨t332, A630, H⟩ := H
         replace H : (some (t332, x1001_1, x1002_1)) = some (r1, r2, r3) := H
         have A63 := am A630
         clear A630
         simp only [Option.some.injEq, Prod.mk.injEq] at H
         obtain ⟨rfl, rfl, rfl⟩ := H
         obtain ⟨Ao64, co64, eo64⟩ := Kd.S_slice HO_10.out
         subst eo64
         go_wp2_with (first | ((with_reducible refine gate_callee (f := 92) rfl ?_); refine gL (some 84) Try.func92 #[.int .i64 (wrap64 (1 + t314)), .slice Ao64 x10_1.length co64] ?_; (with_reducible refine (spec_poFrom.calls kj50 (wrap64 (1 + t314)) _ _ x10_1 t332 _ ?side1 ?side2 A63.out).mono ?_); (case side1 => exact qC (Kd.S_reads' HO_10.out).2.2); (case side2 => exact (Kd.S_reads' HO_10.out).2.1); rintro e w65 ⟨v333, rfl, ho0, hb⟩; refine ⟨_, rfl, ?_⟩; replace HO_10 := am (Kd.S_elder' (qS HO_10.out) (Kd.R_base ho0) hb); have HO334 := am (Kd.R_lower ho0 (keep_size (w := w) (g := g) (row := none) qK)); replace BK284 := am (blk_below (g := gb284) (o := .cells #[.slice none 0 0] 28 (0, 0)) (qb BK284.out) hb); have n3_ := am (IsS74.below qI74 hb); have n4_ := am (KeepBut.trans qK (KeepBut.of_below hb g none) (.inl rfl)); replace HB := am (below_step qB hb); clear HI0 HK; have HI0 := n3_; have HK := n4_; clear n3_ n4_; (try clear hb); (try clear hb2); (try clear hk); (try clear hi); (try clear ho0); obtain ⟨Ao66, co66, eo66⟩ := Kd.R_slice HO334.out; subst eo66; have hnb67 := NB284_0.out; have hnc67 := NB0_284.out; have hcz68_0 := qz w65 BK284.out; have hfz68_0 := blk_frozen BK284.out 0))
         refine bodyPost_ret (results_cell_row rfl _ _ gb284 28 #[.slice Ao66 t332.length co66] (0, 0) _ rfl (by (with_reducible repeat (first | refine blk_drewN ?_ _ | refine blk_drew ?_ | refine blk_alloc ?_ _)); refine blk_put (cs := #[.slice none 0 0]) ?_ 0 _ rfl; refine qb ?_; exact BK284.out) Try.underlying28 rfl (by kernel_rfl)) rfl ?_
         exact ⟨_, qr, qR (Kd.R_mono (Kd.R_far (p := ⟨gb284, 0, none⟩) (Kd.R_types HO334.out BK284.out (by decide)) (fun _ hk => hk.2) (.slice Ao66 t332.length co66)) (fun _ hk => trivial)), qI74, qB, qK⟩
end Go.Proofs.Ytonfifhoklaliaa.F
end
