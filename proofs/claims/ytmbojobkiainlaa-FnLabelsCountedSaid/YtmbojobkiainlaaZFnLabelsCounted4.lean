/- Part 4 of the texts below the row of FnLabelsCounted: printed functions with their contracts, and plain lemmas. No condition. -/
import Derived.Test.YtmbojobkiainlaaZFnLabelsCounted3
import Derived.Lib.Hide
import Derived.Maps.RangeWalk
import Derived.Maps.OwnOps
import Derived.Maps.Ext
import Derived.LoopTactic
import Derived.Deep.LoopGhost
section
namespace Go.Proofs.Ytmbojobkiainlaa.Q
open Go.RowKit Go.Proofs.YtmbojobkiainlaaW.PrintWords
set_option linter.unusedVariables false
def sumI : List Int → Int
 | [] => 0
 | x :: l => x + sumI l
theorem sumI_app (a b : List Int) : sumI (a ++ b) = sumI a + sumI b := by
 induction a with
 | nil => simp [sumI]
 | cons x a ih => simp only [List.cons_append, sumI, ih]; omega
theorem sumI_zero {α : Type} (f : α → Int) : ∀ l : List α, (∀ x ∈ l, f x = 0) → sumI (l.map f) = 0
 | [], _ => rfl
 | x :: l, h => by simp only [List.map_cons, sumI]; rw [h x List.mem_cons_self, sumI_zero f l (fun y hy => h y (List.mem_cons_of_mem _ hy))]; rfl
theorem sumI_add {α : Type} (f g : α → Int) : ∀ l : List α, sumI (l.map fun x => f x + g x) = sumI (l.map f) + sumI (l.map g)
 | [] => rfl
 | x :: l => by simp only [List.map_cons, sumI]; rw [sumI_add f g l]; omega
theorem sumI_mul {α : Type} (c : Int) (f : α → Int) : ∀ l : List α, sumI (l.map fun x => c * f x) = c * sumI (l.map f)
 | [] => by simp [sumI]
 | x :: l => by simp only [List.map_cons, sumI]; rw [sumI_mul c f l, Int.mul_add]
theorem sumI_congr {α : Type} {f g : α → Int} {l : List α} (h : ∀ x ∈ l, f x = g x) : sumI (l.map f) = sumI (l.map g) := by rw [List.map_congr_left h]
theorem sumI_swap {α β : Type} (g : α → β → Int) (m : List β) : ∀ l : List α, sumI (l.map fun s => sumI (m.map fun u => g s u)) = sumI (m.map fun u => sumI (l.map fun s => g s u))
 | [] => (sumI_zero _ m (fun _ _ => rfl)).symm
 | s :: l => by simp only [List.map_cons, sumI]; rw [sumI_swap g m l, ← sumI_add]
theorem sumI_filter {α : Type} (P : α → Bool) (f : α → Int) : ∀ l : List α, sumI ((l.filter P).map f) = sumI (l.map fun s => if P s = true then f s else 0)
 | [] => rfl
 | s :: l => by
  rw [List.filter_cons, List.map_cons]
  cases h : P s with
  | true => rw [if_pos rfl, List.map_cons]; simp only [sumI]; rw [sumI_filter P f l]; simp
  | false => rw [if_neg (by simp)]; simp only [sumI]; rw [sumI_filter P f l]; simp
theorem sumI_split {α : Type} (P : α → Bool) (f : α → Int) : ∀ l : List α, sumI (l.map f) = sumI ((l.filter P).map f) + sumI ((l.filter fun s => !P s).map f)
 | [] => rfl
 | s :: l => by
  rw [List.filter_cons, List.filter_cons, List.map_cons]
  cases h : P s with
  | true => rw [if_pos rfl, if_neg (by simp)]; simp only [List.map_cons, sumI]; rw [sumI_split P f l]; omega
  | false => rw [if_neg Bool.false_ne_true, if_pos (show (!false) = true from rfl)]; simp only [List.map_cons, sumI]; rw [sumI_split P f l]; omega
theorem sumI_perm {a b : List Int} (h : a.Perm b) : sumI a = sumI b := by
 induction h with
 | nil => rfl
 | cons x _ ih => simp only [sumI]; rw [ih]
 | swap x y l => simp only [sumI]; omega
 | trans _ _ h1 h2 => exact h1.trans h2
theorem sumI_one {f : Nat → Int} {t : Nat} : ∀ {l : List Nat}, l.Nodup → t ∈ l → (∀ s ∈ l, s ≠ t → f s = 0) → sumI (l.map f) = f t
 | [], _, h, _ => by cases h
 | x :: l, hn, h, h0 => by
  obtain ⟨h1, h2⟩ := List.nodup_cons.1 hn
  simp only [List.map_cons, sumI]
  by_cases e : x = t
  ·subst e
   rw [sumI_zero f l (fun s hs => h0 s (List.mem_cons_of_mem _ hs) (fun e => h1 (e ▸ hs)))]; omega
  ·have ht : t ∈ l := by
    rcases List.mem_cons.1 h with h | h
    ·exact absurd h.symm e
    ·exact h
   rw [h0 x List.mem_cons_self e, sumI_one h2 ht (fun s hs => h0 s (List.mem_cons_of_mem _ hs))]; omega
theorem sumL_int {α : Type} (f : α → Nat) : ∀ l : List α, ((sumL (l.map f) : Nat) : Int) = sumI (l.map fun s => ((f s : Nat) : Int))
 | [] => rfl
 | x :: l => by simp only [List.map_cons, sumL, sumI]; rw [← sumL_int f l]; omega
def sg (n s : Nat) : Int := if pcard n s % 2 = 0 then 1 else -1
theorem sg_add {n s x : Nat} (hx : x < n) (hb : s.testBit x = false) : sg n (s ||| 2 ^ x) = - sg n s := by
 unfold sg
 rw [pcard_add hx hb]
 by_cases h : pcard n s % 2 = 0
 ·rw [if_neg (by omega), if_pos h]
 ·rw [if_pos (by omega), if_neg h]; rfl
theorem sg_sq (n s : Nat) : sg n s * sg n s = 1 := by unfold sg; split <;> rfl
theorem top_bit : ∀ (n d : Nat), d < 2 ^ n → d ≠ 0 → ∃ x, d.testBit x = true ∧ ∀ y, x < y → d.testBit y = false
 | 0, d, h, h0 => absurd h (by rw [Nat.pow_zero]; omega)
 | n + 1, d, h, h0 => by
  cases hb : d.testBit n with
  | true => exact ⟨n, hb, fun y hy => bit_lt h hy⟩
  | false =>
   refine top_bit n d (Nat.lt_pow_two_of_testBit d fun i hi => ?_) h0
   rcases Nat.eq_or_lt_of_le hi with e | e
   ·rw [← e]; exact hb
   ·exact bit_lt h e
structure Btw (p : List Int) (u t s : Nat) : Prop where
 lt : s < 2 ^ p.length
 id : ∀ i, i < p.length → s.testBit i = true → ∀ j, (L p i).testBit j = true → s.testBit j = true
 le : ∀ i, s.testBit i = true → t.testBit i = true
 fr : ∀ i, i < p.length → t.testBit i = true → s.testBit i = false → ∀ j, (L p i).testBit j = true → t.testBit j = true → s.testBit j = true
 ge : ∀ i, u.testBit i = true → s.testBit i = true
def btwB (p : List Int) (u t s : Nat) : Bool := stB p true s t && subB u s
theorem frB_iff {p : List Int} {v : Nat} : frB p v = true ↔ ∀ i, i < p.length → v.testBit i = true → ∀ j, (L p i).testBit j = true → v.testBit j = false := by
 unfold frB
 rw [allFrom_iff]
 constructor
 ·intro h i hi hv j hj
  have := h i (Nat.zero_le _) hi
  rw [hv, Bool.not_true, Bool.false_or, decide_eq_true_eq] at this
  have h2 : (L p i &&& v).testBit j = false := by rw [this, Nat.zero_testBit]
  rw [Nat.testBit_and, hj, Bool.true_and] at h2
  exact h2
 ·intro h i _ hi
  cases hv : v.testBit i with
  | false => rfl
  | true =>
   rw [Bool.not_true, Bool.false_or, decide_eq_true_eq]
   apply Nat.eq_of_testBit_eq
   intro j
   rw [Nat.testBit_and, Nat.zero_testBit]
   cases hj : (L p i).testBit j with
   | false => rfl
   | true => rw [h i hi hv j hj]; rfl
theorem btw_iff {p : List Int} {u t s : Nat} : (s ∈ idealsN p ∧ btwB p u t s = true) ↔ Btw p u t s := by
 unfold btwB stB
 rw [mem_idealsN, Bool.and_eq_true, Bool.and_eq_true, Bool.not_true, Bool.false_or, subB_iff, subB_iff, frB_iff, idealB_iff]
 have bit : ∀ i, (ndiff t s).testBit i = (t.testBit i && !s.testBit i) := ndiff_bit t s
 constructor
 ·rintro ⟨⟨h1, h2⟩, ⟨h3, h4⟩, h5⟩
  refine ⟨h1, h2, h3, fun i hi ht hs j hj htj => ?_, h5⟩
  have := h4 i hi (by rw [bit, ht, hs]; rfl) j hj
  rw [bit, htj, Bool.true_and, Bool.not_eq_false'] at this
  exact this
 ·rintro ⟨h1, h2, h3, h4, h5⟩
  refine ⟨⟨h1, h2⟩, ⟨h3, fun i hi hv j hj => ?_⟩, h5⟩
  rw [bit, Bool.and_eq_true, Bool.not_eq_true'] at hv
  rw [bit]
  cases ht : t.testBit j with
  | false => rfl
  | true => rw [h4 i hi hv.1 hv.2 j hj ht]; rfl
theorem btw_toggle {p : List Int} (hp : PO p) {u t : Nat} (ht : t ∈ idealsN p) (hu : u ∈ idealsN p) {x : Nat} (hx : t.testBit x = true) (hxu : u.testBit x = false) (hmax : ∀ y, x < y → t.testBit y = true → u.testBit y = true)
 {s : Nat} (hs : s < 2 ^ p.length) (hb : s.testBit x = false) : Btw p u t s ↔ Btw p u t (s ||| 2 ^ x) := by
 have htm := mem_idealsN.1 ht
 have hti := idealB_iff.1 htm.2
 have hui := idealB_iff.1 (mem_idealsN.1 hu).2
 have hxn : x < p.length := lt_of_bit htm.1 hx
 have top : ∀ y, y < p.length → t.testBit y = true → (L p y).testBit x = true → False := fun y hy h1 h2 => by
  have hlt : x < y := lt_of_bit (hp.lt y hy) h2
  have := hui y hy (hmax y hlt h1) x h2
  rw [hxu] at this; cases this
 have bit : ∀ i, (s ||| 2 ^ x).testBit i = (s.testBit i || decide (x = i)) := fun i => by rw [Nat.testBit_or, pow_bit]
 have up : ∀ i, s.testBit i = true → (s ||| 2 ^ x).testBit i = true := fun i h => by rw [bit, h]; rfl
 have down : ∀ i, (s ||| 2 ^ x).testBit i = true → s.testBit i = true ∨ x = i := fun i h => by
  rw [bit, Bool.or_eq_true, decide_eq_true_eq] at h; exact h
 constructor
 ·rintro ⟨h1, h2, h3, h4, h5⟩
  refine ⟨or_lt hs (pow_lt_pow hxn), fun i hi h j hj => ?_, fun i h => ?_, fun i hi h hn j hj htj => ?_, fun i h => up i (h5 i h)⟩
  ·rcases down i h with h | rfl
   ·exact up j (h2 i hi h j hj)
   ·exact up j (h4 x hi hx hb j hj (hti x hi hx j hj))
  ·rcases down i h with h | rfl
   ·exact h3 i h
   ·exact hx
  ·refine up j (h4 i hi h ?_ j hj htj)
   rw [bit, Bool.or_eq_false_iff] at hn
   exact hn.1
 ·rintro ⟨h1, h2, h3, h4, h5⟩
  refine ⟨hs, fun i hi h j hj => ?_, fun i h => h3 i (up i h), fun i hi h hn j hj htj => ?_, fun i h => ?_⟩
  ·rcases down j (h2 i hi (up i h) j hj) with g | rfl
   ·exact g
   ·exact (top i hi (h3 i (up i h)) hj).elim
  ·by_cases e : x = i
   ·subst e
    rcases down j (h2 x hi (by rw [bit]; simp) j hj) with g | rfl
    ·exact g
    ·exact (top x hi hx hj).elim
   ·rcases down j (h4 i hi h (by rw [bit, hn, decide_eq_false e]; rfl) j hj htj) with g | rfl
    ·exact g
    ·exact (top i hi h hj).elim
  ·rcases down i (h5 i h) with g | rfl
   ·exact g
   ·rw [hxu] at h; cases h
theorem or_diff {s x : Nat} (h : s.testBit x = true) : ndiff s (2 ^ x) ||| 2 ^ x = s := by
 apply Nat.eq_of_testBit_eq
 intro i
 rw [Nat.testBit_or, ndiff_bit, pow_bit]
 by_cases e : x = i
 ·subst e; rw [h]; simp
 ·rw [decide_eq_false e]; simp
theorem diff_bit (s x : Nat) : (ndiff s (2 ^ x)).testBit x = false := by rw [ndiff_bit, pow_bit]; simp
theorem or_inj {a b x : Nat} (ha : a.testBit x = false) (hb : b.testBit x = false) (h : a ||| 2 ^ x = b ||| 2 ^ x) : a = b := by
 apply Nat.eq_of_testBit_eq
 intro i
 have e : (a ||| 2 ^ x).testBit i = (b ||| 2 ^ x).testBit i := by rw [h]
 rw [Nat.testBit_or, Nat.testBit_or, pow_bit] at e
 by_cases hx : x = i
 ·subst hx; rw [ha, hb]
 ·rw [decide_eq_false hx, Bool.or_false, Bool.or_false] at e; exact e
theorem nodup_map {α β : Type} {f : α → β} {l : List α} (h : l.Nodup) (hf : ∀ a ∈ l, ∀ b ∈ l, f a = f b → a = b) : (l.map f).Nodup := by
 induction l with
 | nil => exact List.nodup_nil
 | cons x l ih =>
  obtain ⟨h1, h2⟩ := List.nodup_cons.1 h
  rw [List.map_cons, List.nodup_cons]
  refine ⟨fun hm => ?_, ih h2 fun a ha b hb => hf a (List.mem_cons_of_mem _ ha) b (List.mem_cons_of_mem _ hb)⟩
  obtain ⟨y, hy, e⟩ := List.mem_map.1 hm
  rw [hf y (List.mem_cons_of_mem _ hy) x List.mem_cons_self e] at hy
  exact h1 hy
theorem signs {p : List Int} (hp : PO p) {u t : Nat} (ht : t ∈ idealsN p) (hu : u ∈ idealsN p) :
 sumI ((idealsN p).map fun s => if btwB p u t s = true then sg p.length s else 0) = if u = t then sg p.length t else 0 := by
 by_cases e : u = t
 ·subst e
  rw [if_pos rfl, sumI_one (t := u) (idealsN_nodup p) hu]
  ·have h := btw_iff.2 (show Btw p u u u from ⟨(mem_idealsN.1 hu).1, idealB_iff.1 (mem_idealsN.1 hu).2, fun _ h => h, fun i _ h1 h2 => absurd (h1.symm.trans h2) (by simp), fun _ h => h⟩)
   rw [if_pos h.2]
  ·intro s hs hne
   rw [if_neg]
   intro h
   have b := btw_iff.1 ⟨hs, h⟩
   refine hne (Nat.eq_of_testBit_eq fun i => ?_)
   rw [Bool.eq_iff_iff]
   exact ⟨b.le i, b.ge i⟩
 rw [if_neg e]
 by_cases hsub : subB u t = true
 rotate_left
 ·refine sumI_zero _ _ fun s hs => if_neg fun h => hsub ?_
  have b := btw_iff.1 ⟨hs, h⟩
  exact subB_iff.2 fun i h => b.le i (b.ge i h)
 have hd : ndiff t u ≠ 0 := fun h => e (sub_antisymm hsub h)
 obtain ⟨x, hx, hxm⟩ := top_bit p.length (ndiff t u) (ndiff_lt (mem_idealsN.1 ht).1) hd
 rw [ndiff_bit, Bool.and_eq_true, Bool.not_eq_true'] at hx
 have hmax : ∀ y, x < y → t.testBit y = true → u.testBit y = true := fun y hy h => by
  have := hxm y hy
  rw [ndiff_bit, h, Bool.true_and, Bool.not_eq_false'] at this
  exact this
 have hxn : x < p.length := lt_of_bit (mem_idealsN.1 ht).1 hx.1
 rw [← sumI_filter, sumI_split fun s => s.testBit x]
 have hperm : (((idealsN p).filter (btwB p u t)).filter fun s => s.testBit x).Perm ((((idealsN p).filter (btwB p u t)).filter fun s => !s.testBit x).map fun s => s ||| 2 ^ x) := by
  have hnd : ((idealsN p).filter (btwB p u t)).Nodup := List.Pairwise.filter _ (idealsN_nodup p)
  refine (List.perm_ext_iff_of_nodup (List.Pairwise.filter _ hnd) (nodup_map (List.Pairwise.filter _ hnd) ?_)).2 fun s => ?_
  ·intro a ha b hb
   have h1 := (List.mem_filter.1 ha).2
   have h2 := (List.mem_filter.1 hb).2
   rw [Bool.not_eq_true'] at h1 h2
   exact or_inj h1 h2
  ·rw [List.mem_filter, List.mem_filter, btw_iff, List.mem_map]
   constructor
   ·rintro ⟨h1, h2⟩
    refine ⟨ndiff s (2 ^ x), ?_, or_diff h2⟩
    rw [List.mem_filter, List.mem_filter, btw_iff, diff_bit]
    exact ⟨(btw_toggle hp ht hu hx.1 hx.2 hmax (ndiff_lt h1.lt) (diff_bit s x)).2 (by rw [or_diff h2]; exact h1), rfl⟩
   ·rintro ⟨v, hv, rfl⟩
    rw [List.mem_filter, List.mem_filter, btw_iff, Bool.not_eq_true'] at hv
    exact ⟨(btw_toggle hp ht hu hx.1 hx.2 hmax hv.1.lt hv.2).1 hv.1, by rw [Nat.testBit_or, pow_bit]; simp⟩
 rw [sumI_perm (hperm.map (sg p.length)), List.map_map, ← sumI_add]
 refine sumI_zero _ _ fun s hs => ?_
 have hb := (List.mem_filter.1 hs).2
 rw [Bool.not_eq_true'] at hb
 show sg p.length (s ||| 2 ^ x) + sg p.length s = 0
 rw [sg_add hxn hb]; omega
def wI (p : List Int) (k t : Nat) : Int := ((wvN (stB p false) (idealsN p) k t : Nat) : Int)
def oI (p : List Int) (j t : Nat) : Int := ((wvN (opB p) (idealsN p) j t : Nat) : Int)
theorem wI_succ (p : List Int) (k t : Nat) : wI p (k + 1) t = sumI ((idealsN p).map fun s => if subB s t = true then wI p k s else 0) := by
 unfold wI
 conv => lhs; unfold wvN
 rw [sumL_int, sumI_filter]
 refine sumI_congr fun s _ => ?_
 have : stB p false s t = subB s t := by unfold stB; simp
 rw [this]
theorem oI_succ (p : List Int) (k t : Nat) : oI p (k + 1) t = sumI ((idealsN p).map fun s => if opB p s t = true then oI p k s else 0) := by
 unfold oI
 conv => lhs; unfold wvN
 rw [sumL_int, sumI_filter]
theorem weak_undo {p : List Int} (hp : PO p) (k : Nat) {t : Nat} (ht : t ∈ idealsN p) :
 sumI ((idealsN p).map fun s => if stB p true s t = true then sg p.length s * wI p (k + 1) s else 0) = sg p.length t * wI p k t := by
 have e1 : sumI ((idealsN p).map fun s => if stB p true s t = true then sg p.length s * wI p (k + 1) s else 0) = sumI ((idealsN p).map fun s => sumI ((idealsN p).map fun u => wI p k u * if btwB p u t s = true then sg p.length s else 0)) := by
  refine sumI_congr fun s _ => ?_
  unfold btwB
  cases h : stB p true s t with
  | false => rw [if_neg (by simp)]; exact (sumI_zero _ _ fun u _ => by simp).symm
  | true =>
   rw [if_pos rfl, wI_succ, ← sumI_mul]
   refine sumI_congr fun u _ => ?_
   cases subB u s with
   | false => simp
   | true => simp [Int.mul_comm]
 rw [e1, sumI_swap]
 have e2 : sumI ((idealsN p).map fun u => sumI ((idealsN p).map fun s => wI p k u * if btwB p u t s = true then sg p.length s else 0)) = sumI ((idealsN p).map fun u => wI p k u * if u = t then sg p.length t else 0) :=
  sumI_congr fun u hu => by rw [sumI_mul, signs hp ht hu]
 rw [e2, sumI_one (t := t) (idealsN_nodup p) ht (fun s _ h => by rw [if_neg h, Int.mul_zero]), if_pos rfl, Int.mul_comm]
def nrow (f : Nat → Int) : Nat → Int
 | 0 => 1
 | j + 1 => f (j + 1) - nrow f j
def nbs : Nat → Nat → Int
 | 0, j => if j = 0 then 1 else 0
 | k + 1, j => nrow (nbs k) j
theorem nbs_zero (k : Nat) : nbs k 0 = 1 := by cases k <;> rfl
theorem nbs_succ (k j : Nat) : nbs (k + 1) (j + 1) + nbs (k + 1) j = nbs k (j + 1) := by
 show nbs k (j + 1) - nrow (nbs k) j + nrow (nbs k) j = _
 omega
theorem nbs_all : (List.range 14).all (fun m => (List.range 11).all fun j => decide (ch (-(m : Int)) j = nbs m j)) = true := by decide +kernel
theorem nbs_small : (List.range 14).all (fun m => (List.range 11).all fun j => decide (-650000 ≤ nbs m j ∧ nbs m j ≤ 650000)) = true := by decide +kernel
theorem ch_neg {m j : Nat} (hm : m ≤ 13) (hj : j ≤ 10) : ch (-(m : Int)) j = nbs m j :=
 of_decide_eq_true (List.all_eq_true.1 (List.all_eq_true.1 nbs_all m (List.mem_range.2 (by omega))) j (List.mem_range.2 (by omega)))
theorem nbs_le {m j : Nat} (hm : m ≤ 13) (hj : j ≤ 10) : -650000 ≤ nbs m j ∧ nbs m j ≤ 650000 :=
 of_decide_eq_true (List.all_eq_true.1 (List.all_eq_true.1 nbs_small m (List.mem_range.2 (by omega))) j (List.mem_range.2 (by omega)))
def pv (p : List Int) (k t : Nat) : Int := sumI ((List.range (p.length + 1)).map fun j => nbs k j * oI p j t)
theorem sumI_range_succ (f : Nat → Int) (n : Nat) : sumI ((List.range (n + 1)).map f) = f 0 + sumI ((List.range n).map fun j => f (j + 1)) := by
 rw [List.range_succ_eq_map, List.map_cons, List.map_map]; rfl
theorem sumI_range_last (f : Nat → Int) (n : Nat) : sumI ((List.range (n + 1)).map f) = sumI ((List.range n).map f) + f n := by
 rw [List.range_succ, List.map_append, sumI_app]; simp [sumI]
theorem st_sum {p : List Int} (f : Nat → Int) {t : Nat} (ht : t ∈ idealsN p) : sumI ((idealsN p).map fun s => if stB p true s t = true then f s else 0) = f t + sumI ((idealsN p).map fun s => if opB p s t = true then f s else 0) := by
 have e : sumI ((idealsN p).map fun s => if stB p true s t = true then f s else 0) = sumI ((idealsN p).map fun s => (if s = t then f s else 0) + if opB p s t = true then f s else 0) := by
  refine sumI_congr fun s _ => ?_
  rw [st_split]
  by_cases e : s = t
  ·subst e; rw [op_irrefl]; simp
  ·rw [decide_eq_false e, Bool.false_or, if_neg e]; omega
 rw [e, sumI_add, sumI_one (t := t) (idealsN_nodup p) ht (fun s _ h => if_neg h), if_pos rfl]
theorem pv_undo {p : List Int} (hp : PO p) (k : Nat) {t : Nat} (ht : t ∈ idealsN p) : sumI ((idealsN p).map fun s => if stB p true s t = true then pv p (k + 1) s else 0) = pv p k t := by
 rw [st_sum _ ht]
 have e1 : sumI ((idealsN p).map fun s => if opB p s t = true then pv p (k + 1) s else 0) = sumI ((List.range (p.length + 1)).map fun j => nbs (k + 1) j * oI p (j + 1) t) := by
  have e2 : sumI ((idealsN p).map fun s => if opB p s t = true then pv p (k + 1) s else 0) = sumI ((idealsN p).map fun s => sumI ((List.range (p.length + 1)).map fun j => nbs (k + 1) j * if opB p s t = true then oI p j s else 0)) := by
   refine sumI_congr fun s _ => ?_
   cases opB p s t with
   | false => exact (sumI_zero _ _ fun u _ => by simp).symm
   | true => rfl
  rw [e2, sumI_swap]
  refine sumI_congr fun j _ => ?_
  rw [sumI_mul, oI_succ]
 rw [e1]
 have h0 : oI p (p.length + 1) t = 0 := by
  unfold oI
  rw [op_short (p.length + 1) t (mem_idealsN.1 ht).1 (by have := pcard_le p.length t; omega)]; rfl
 rw [sumI_range_last, h0, Int.mul_zero]
 unfold pv
 rw [sumI_range_succ, sumI_range_succ (fun j => nbs k j * oI p j t), nbs_zero, nbs_zero]
 have e3 : sumI ((List.range p.length).map fun j => nbs k (j + 1) * oI p (j + 1) t) = sumI ((List.range p.length).map fun j => nbs (k + 1) (j + 1) * oI p (j + 1) t) + sumI ((List.range p.length).map fun j => nbs (k + 1) j * oI p (j + 1) t) := by
  rw [← sumI_add]
  refine sumI_congr fun j _ => ?_
  rw [← nbs_succ k j, Int.add_mul]
 rw [e3]; omega
theorem pv_zero {p : List Int} (t : Nat) : pv p 0 t = sg p.length t * wI p 0 t := by
 unfold pv
 rw [sumI_range_succ, sumI_zero _ _ (fun j _ => by show nbs 0 (j + 1) * _ = 0; unfold nbs; simp), nbs_zero]
 unfold oI wI wvN
 by_cases h : t = 0
 ·subst h; unfold sg; rw [pcard_zero]; rfl
 ·rw [if_neg h]; simp
theorem pv_eq {p : List Int} (hp : PO p) : ∀ (k : Nat), ∀ t ∈ idealsN p, pv p k t = sg p.length t * wI p k t
 | 0, t, _ => pv_zero t
 | k + 1, t, ht => by
  suffices h : ∀ (c : Nat) (t : Nat), t ∈ idealsN p → pcard p.length t < c → pv p (k + 1) t = sg p.length t * wI p (k + 1) t from h (pcard p.length t + 1) t ht (Nat.lt_succ_self _)
  intro c
  induction c with
  | zero => intro t _ h; exact absurd h (Nat.not_lt_zero _)
  | succ c ih =>
   intro t ht hc
   have h1 := pv_undo hp k ht
   have h2 := weak_undo hp k ht
   rw [← pv_eq hp k t ht, ← h1, st_sum _ ht, st_sum _ ht] at h2
   have e : sumI ((idealsN p).map fun s => if opB p s t = true then sg p.length s * wI p (k + 1) s else 0) = sumI ((idealsN p).map fun s => if opB p s t = true then pv p (k + 1) s else 0) := by
    refine sumI_congr fun s hs => ?_
    cases h : opB p s t with
    | false => rfl
    | true =>
     have := pcard_lt (mem_idealsN.1 ht).1 h
     rw [if_pos rfl, if_pos rfl, ih s hs (by omega)]
   rw [e] at h2
   omega
theorem oI_all0 {p : List Int} (hp : PO p) : oI p 0 (allN p) = 0 := by
 unfold oI wvN
 rw [if_neg]
 ·rfl
 ·unfold allN
  have : 2 ^ 1 ≤ 2 ^ p.length := Nat.pow_le_pow_right (by decide) hp.pos
  omega
def dotI (m : Nat) : List Nat → Nat → Int
 | [], _ => 0
 | n :: l, j => (n : Int) * nbs m (j + 1) + dotI m l (j + 1)
theorem dotI_map (m : Nat) (f : Nat → Nat) : ∀ (n j : Nat), dotI m ((List.range n).map fun i => f (j + i)) j = sumI ((List.range n).map fun i => nbs m (j + i + 1) * ((f (j + i) : Nat) : Int))
 | 0, _ => rfl
 | n + 1, j => by
  rw [List.range_succ_eq_map, List.map_cons, List.map_cons, List.map_map, List.map_map]
  show ((f (j + 0) : Nat) : Int) * nbs m (j + 1) + dotI m ((List.range n).map fun i => f (j + (i + 1))) (j + 1) = nbs m (j + 0 + 1) * ((f (j + 0) : Nat) : Int) + sumI ((List.range n).map fun i => nbs m (j + (i + 1) + 1) * ((f (j + (i + 1)) : Nat) : Int))
  have e : (fun i => f (j + (i + 1))) = fun i => f (j + 1 + i) := funext fun i => by rw [Nat.add_assoc, Nat.add_comm 1 i]
  have e2 : (fun i => nbs m (j + (i + 1) + 1) * ((f (j + (i + 1)) : Nat) : Int)) = fun i => nbs m (j + 1 + i + 1) * ((f (j + 1 + i) : Nat) : Int) := funext fun i => by rw [show j + (i + 1) = j + 1 + i by omega]
  rw [e, e2, dotI_map m f n (j + 1), Int.mul_comm]
theorem mul_small {n : Nat} {c : Int} (hn : n ≤ 576650390625) (h0 : -650000 ≤ c) (h1 : c ≤ 650000) : -374822753906250000 ≤ (n : Int) * c ∧ (n : Int) * c ≤ 374822753906250000 := by
 have a : (n : Int) * c ≤ (n : Int) * 650000 := Int.mul_le_mul_of_nonneg_left h1 (Int.natCast_nonneg _)
 have b : (n : Int) * (-650000) ≤ (n : Int) * c := Int.mul_le_mul_of_nonneg_left h0 (Int.natCast_nonneg _)
 omega
theorem polyL_neg {m : Nat} (hm : m ≤ 13) : ∀ (l : List Nat) (j : Nat) (acc : Int), j + l.length ≤ 10 → (∀ n ∈ l, n ≤ 576650390625) → -(374822753906250000 * (j : Int)) ≤ acc → acc ≤ 374822753906250000 * (j : Int) → polyL (-(m : Int)) (ints l) j acc = acc + dotI m l j
 | [], j, acc, _, _, _, _ => by show acc = acc + 0; omega
 | n :: l, j, acc, h, hb, h0, h1 => by
  rw [List.length_cons] at h
  have hc := nbs_le hm (show j + 1 ≤ 10 by omega)
  have hs := mul_small (hb n List.mem_cons_self) hc.1 hc.2
  show polyL (-(m : Int)) (ints l) (j + 1) (wrap64 (acc + wrap64 ((n : Int) * ch (-(m : Int)) (j + 1)))) = acc + ((n : Int) * nbs m (j + 1) + dotI m l (j + 1))
  rw [ch_neg hm (by omega)]
  generalize (n : Int) * nbs m (j + 1) = y at hs ⊢
  rw [wid (n := y) (by omega) (by omega), wid (by omega) (by omega), polyL_neg hm l (j + 1) _ (by omega) (fun x hx => hb x (List.mem_cons_of_mem _ hx)) (by omega) (by omega)]
  omega
theorem steps_small {p : List Int} (hp : PO p) : ∀ n ∈ stepsN p, n ≤ 576650390625 := fun n hn => by
 obtain ⟨j, hj, rfl⟩ := List.mem_map.1 hn
 have := List.mem_range.1 hj
 have := hp.small
 exact wvN_small hp.small (fun s t h => opB_sub h) (by omega)
theorem dot_weak {p : List Int} (hp : PO p) (m : Nat) : dotI m (stepsN p) 0 = sg p.length (allN p) * wI p m (allN p) := by
 rw [← pv_eq hp m (allN p) (mem_idealsN.2 ⟨allN_lt p, idealB_all p hp⟩)]
 unfold pv stepsN
 rw [sumI_range_succ, oI_all0 hp, Int.mul_zero, Int.zero_add]
 have := dotI_map m (fun j => wvN (opB p) (idealsN p) (j + 1) (allN p)) p.length 0
 simp only [Nat.zero_add] at this
 exact this
theorem poly_weak {p : List Int} (hp : PO p) {m : Nat} (hm : m ≤ 13) : polyL (-(m : Int)) (ints (stepsN p)) 0 0 = sg p.length (allN p) * wI p m (allN p) := by
 have hn := hp.small
 rw [polyL_neg hm (stepsN p) 0 0 (by rw [stepsN_len]; omega) (steps_small hp) (by omega) (by omega), dot_weak hp m]; omega
theorem sg_all (p : List Int) : sg p.length (allN p) = if p.length % 2 = 0 then 1 else -1 := by unfold sg; rw [pcard_all]
theorem wI_one {p : List Int} (hp : PO p) : wI p 1 (allN p) = 1 := by
 rw [wI_succ, sumI_one (t := 0) (idealsN_nodup p) (zero_mem p)]
 ·rw [if_pos (sub_all (Nat.two_pow_pos _))]; rfl
 ·intro s _ h
  split
  ·unfold wI wvN; rw [if_neg h]; rfl
  ·rfl
theorem strict_le (p : List Int) : ∀ k t, wvN (stB p true) (idealsN p) k t ≤ wvN (stB p false) (idealsN p) k t
 | 0, t => Nat.le_refl _
 | k + 1, t => by
  unfold wvN
  refine Nat.le_trans (sumL_map_le _ _ _ fun s _ => strict_le p k s) (sumL_filter_le _ _ _ _ fun s _ h => ?_)
  unfold stB at h ⊢
  rw [Bool.and_eq_true] at h
  rw [h.1]; rfl
theorem sumL_perm {a b : List Nat} (h : a.Perm b) : sumL a = sumL b := by
 induction h with
 | nil => rfl
 | cons x _ ih => simp only [sumL]; rw [ih]
 | swap x y l => simp only [sumL]; omega
 | trans _ _ h1 h2 => exact h1.trans h2
def gvN (p : List Int) : Nat → Nat → Nat
 | 0, s => if s = allN p then 1 else 0
 | d + 1, s => sumL (((idealsN p).filter fun t => opB p s t).map (gvN p d))
def gI (p : List Int) (d s : Nat) : Int := ((gvN p d s : Nat) : Int)
theorem gI_succ (p : List Int) (d s : Nat) : gI p (d + 1) s = sumI ((idealsN p).map fun t => if opB p s t = true then gI p d t else 0) := by
 unfold gI
 conv => lhs; unfold gvN
 rw [sumL_int, sumI_filter]
theorem move (p : List Int) (i d : Nat) : sumI ((idealsN p).map fun t => gI p d t * oI p (i + 1) t) = sumI ((idealsN p).map fun s => oI p i s * gI p (d + 1) s) := by
 have e1 : sumI ((idealsN p).map fun t => gI p d t * oI p (i + 1) t) = sumI ((idealsN p).map fun t => sumI ((idealsN p).map fun s => if opB p s t = true then oI p i s * gI p d t else 0)) := by
  refine sumI_congr fun t _ => ?_
  rw [oI_succ, ← sumI_mul]
  refine sumI_congr fun s _ => ?_
  cases opB p s t with
  | false => simp
  | true => simp [Int.mul_comm]
 have e2 : sumI ((idealsN p).map fun s => oI p i s * gI p (d + 1) s) = sumI ((idealsN p).map fun s => sumI ((idealsN p).map fun t => if opB p s t = true then oI p i s * gI p d t else 0)) := by
  refine sumI_congr fun s _ => ?_
  rw [gI_succ, ← sumI_mul]
  refine sumI_congr fun t _ => ?_
  cases opB p s t with
  | false => simp
  | true => simp
 rw [e1, e2, sumI_swap]
theorem move_all (p : List Int) : ∀ i d, sumI ((idealsN p).map fun t => oI p i t * gI p d t) = sumI ((idealsN p).map fun s => oI p 0 s * gI p (d + i) s)
 | 0, d => rfl
 | i + 1, d => by
  have e : sumI ((idealsN p).map fun t => oI p (i + 1) t * gI p d t) = sumI ((idealsN p).map fun t => gI p d t * oI p (i + 1) t) := sumI_congr fun t _ => Int.mul_comm _ _
  rw [e, move, move_all p i (d + 1), show d + 1 + i = d + (i + 1) by omega]
theorem oI_gI {p : List Int} (hp : PO p) (i : Nat) : oI p i (allN p) = gI p i 0 := by
 have h := move_all p i 0
 have hall : allN p ∈ idealsN p := mem_idealsN.2 ⟨allN_lt p, idealB_all p hp⟩
 rw [sumI_one (t := allN p) (idealsN_nodup p) hall, sumI_one (t := 0) (idealsN_nodup p) (zero_mem p), Nat.zero_add] at h
 ·have e1 : gI p 0 (allN p) = 1 := by unfold gI gvN; rw [if_pos rfl]; rfl
  have e2 : oI p 0 0 = 1 := by unfold oI wvN; rfl
  rw [e1, e2, Int.mul_one, Int.one_mul] at h
  exact h
 ·intro s _ hs
  have : oI p 0 s = 0 := by unfold oI wvN; rw [if_neg hs]; rfl
  rw [this, Int.zero_mul]
 ·intro s _ hs
  have : gI p 0 s = 0 := by unfold gI gvN; rw [if_neg hs]; rfl
  rw [this, Int.mul_zero]
theorem gvN_long {p : List Int} : ∀ d s, p.length < pcard p.length s + d → gvN p d s = 0
 | 0, s, h => absurd (pcard_le p.length s) (by omega)
 | d + 1, s, h => by
  unfold gvN
  have : ∀ l : List Nat, (∀ t ∈ l, gvN p d t = 0) → sumL (l.map (gvN p d)) = 0 := by
   intro l
   induction l with
   | nil => intro _; rfl
   | cons x l ih => intro hl; simp only [List.map_cons, sumL]; rw [hl x List.mem_cons_self, ih (fun s hs => hl s (List.mem_cons_of_mem _ hs))]
  refine this _ fun t ht => ?_
  obtain ⟨h1, h2⟩ := List.mem_filter.1 ht
  exact gvN_long d t (by have := pcard_lt (mem_idealsN.1 h1).1 h2; omega)
theorem sumL_drop {α : Type} (f : α → Nat) (P Q : α → Bool) : ∀ l : List α, (∀ x ∈ l, P x = true → Q x = false → f x = 0) → sumL ((l.filter P).map f) = sumL ((l.filter fun x => P x && Q x).map f)
 | [], _ => rfl
 | x :: l, h => by
  have ih := sumL_drop f P Q l (fun y hy => h y (List.mem_cons_of_mem _ hy))
  rw [List.filter_cons, List.filter_cons]
  cases hp : P x with
  | false => rw [if_neg Bool.false_ne_true, Bool.false_and, if_neg Bool.false_ne_true]; exact ih
  | true =>
   cases hq : Q x with
   | false => rw [if_pos rfl, Bool.and_false, if_neg Bool.false_ne_true, List.map_cons]; simp only [sumL]; rw [h x List.mem_cons_self hp hq, ih, Nat.zero_add]
   | true => rw [if_pos rfl, Bool.and_true, if_pos rfl, List.map_cons, List.map_cons]; simp only [sumL]; rw [ih]
theorem same_card {p : List Int} {a b : Nat} (hb : b < 2 ^ p.length) (h : ∀ i, a.testBit i = true → b.testBit i = true) (hc : pcard p.length b ≤ pcard p.length a) : a = b := by
 apply Nat.eq_of_testBit_eq
 intro i
 cases hi : b.testBit i with
 | false =>
  cases ha : a.testBit i with
  | false => rfl
  | true => rw [h i ha] at hi; cases hi
 | true =>
  cases ha : a.testBit i with
  | true => rfl
  | false =>
   exfalso
   have : pcard p.length a < pcard p.length b := countP_lt _ _ _ (fun x _ hx => h x hx) i (List.mem_range.2 (lt_of_bit hb hi)) hi ha
   omega
theorem next_step {p : List Int} (hp : PO p) {s : Nat} (hs : s ∈ idealsN p) :
 ((idealsN p).filter fun t => opB p s t && decide (pcard p.length t = pcard p.length s + 1)).Perm ((nextN p s).map fun e => s ||| 2 ^ e) := by
 have hsm := mem_idealsN.1 hs
 have hn := hp.small
 refine (List.perm_ext_iff_of_nodup (List.Pairwise.filter _ (idealsN_nodup p)) (nodup_map ?_ ?_)).2 fun t => ?_
 ·unfold nextN; exact List.Pairwise.filter _ List.nodup_range
 ·intro a ha b hb e
  obtain ⟨_, _, a2, _⟩ := mem_nextN.1 ha
  obtain ⟨_, _, b2, _⟩ := mem_nextN.1 hb
  have h : (s ||| 2 ^ b).testBit a = true := by
   have : (s ||| 2 ^ a).testBit a = true := by rw [Nat.testBit_or, pow_bit]; simp
   rw [← e]; exact this
  rw [Nat.testBit_or, a2, Bool.false_or, pow_bit, decide_eq_true_eq] at h
  exact h.symm
 ·rw [List.mem_filter, Bool.and_eq_true, decide_eq_true_eq, List.mem_map]
  constructor
  ·rintro ⟨ht, ho, hc⟩
   have htm := mem_idealsN.1 ht
   have hsub := subB_iff.1 (opB_sub ho)
   obtain ⟨e, he1, he2⟩ : ∃ e, t.testBit e = true ∧ s.testBit e = false := by
    rcases Classical.em (∃ e, t.testBit e = true ∧ s.testBit e = false) with h | h
    ·exact h
    ·exfalso
     have : t = s := by
      apply Nat.eq_of_testBit_eq
      intro i
      cases hi : t.testBit i with
      | true =>
       cases hsi : s.testBit i with
       | true => rfl
       | false => exact absurd ⟨i, hi, hsi⟩ h
      | false =>
       cases hsi : s.testBit i with
       | false => rfl
       | true => rw [hsub i hsi] at hi; cases hi
     rw [this] at hc; omega
   have hen : e < p.length := lt_of_bit htm.1 he1
   have heq : s ||| 2 ^ e = t := by
    refine same_card htm.1 (fun i hi => ?_) (by rw [pcard_add hen he2]; omega)
    rw [Nat.testBit_or, pow_bit, Bool.or_eq_true, decide_eq_true_eq] at hi
    rcases hi with hi | rfl
    ·exact hsub i hi
    ·exact he1
   refine ⟨e, mem_nextN.2 ⟨by omega, hen, he2, subB_iff.2 fun j hj => ?_⟩, heq⟩
   have hjt := idealB_iff.1 htm.2 e hen he1 j hj
   rw [← heq, Nat.testBit_or, pow_bit, Bool.or_eq_true, decide_eq_true_eq] at hjt
   rcases hjt with h | rfl
   ·exact h
   ·have := lt_of_bit (hp.lt e hen) hj
    omega
  ·rintro ⟨e, he, rfl⟩
   obtain ⟨_, h1, h2, h3⟩ := mem_nextN.1 he
   refine ⟨mem_idealsN.2 ⟨or_lt hsm.1 (pow_lt_pow h1), idealB_add hp hsm.2 he⟩, ?_, pcard_add h1 h2⟩
   have hbit : ∀ i, (ndiff (s ||| 2 ^ e) s).testBit i = decide (e = i) := fun i => by
    rw [ndiff_bit, Nat.testBit_or, pow_bit]
    by_cases h : e = i
    ·subst h; rw [h2]; simp
    ·rw [decide_eq_false h]; cases s.testBit i <;> rfl
   unfold opB
   rw [Bool.and_eq_true, Bool.and_eq_true, subB_iff, Bool.not_eq_true', beq_eq_false_iff_ne, frB_iff]
   refine ⟨fun i hi => by rw [Nat.testBit_or, hi]; rfl, fun h0 => ?_, fun i hi hb j hj => ?_⟩
   ·have := hbit e
    rw [h0, Nat.zero_testBit] at this
    simp at this
   ·rw [hbit, decide_eq_true_eq] at hb
    subst hb
    have := lt_of_bit (hp.lt e h1) hj
    rw [hbit]
    exact decide_eq_false (by omega)
theorem gvN_ways {p : List Int} (hp : PO p) : ∀ d s, s ∈ idealsN p → pcard p.length s + d = p.length → gvN p d s = ways p s
 | 0, s, hs, h => by
  have : s = allN p := all_of_pcard (mem_idealsN.1 hs).1 (by omega)
  subst this
  unfold gvN
  rw [if_pos rfl, ways_all]
 | d + 1, s, hs, h => by
  have hsm := mem_idealsN.1 hs
  have hne : s ≠ allN p := fun e => by rw [e, pcard_all] at h; omega
  rw [ways_step hsm.1 hne]
  conv => lhs; unfold gvN
  rw [sumL_drop _ _ (fun t => decide (pcard p.length t = pcard p.length s + 1)), sumL_perm ((next_step hp hs).map _), List.map_map]
  ·congr 1
   refine List.map_congr_left fun e he => ?_
   obtain ⟨_, h1, h2, _⟩ := mem_nextN.1 he
   exact gvN_ways hp d (s ||| 2 ^ e) (mem_idealsN.2 ⟨or_lt hsm.1 (pow_lt_pow h1), idealB_add hp hsm.2 he⟩) (by rw [pcard_add h1 h2]; omega)
  ·intro t ht ho hc
   rw [decide_eq_false_iff_not] at hc
   have := pcard_lt (mem_idealsN.1 ht).1 ho
   exact gvN_long d t (by omega)
theorem last_step {p : List Int} (hp : PO p) : wvN (opB p) (idealsN p) p.length (allN p) = ways p 0 := by
 have h := oI_gI hp p.length
 unfold oI gI at h
 rw [gvN_ways hp p.length 0 (zero_mem p) (by rw [pcard_zero]; omega)] at h
 omega
end Go.Proofs.Ytmbojobkiainlaa.Q
end

section
namespace Go.Proofs.Ytmbojobkiainlaa.Q
open Go.RowKit Go.Proofs.YtmbojobkiainlaaW.PrintWords Go.Proofs.Ytmbojobkiainlaa.F
set_option linter.unusedVariables false
theorem within_eq (a b c : Int) : impl_within.f a b c = some (decide (b ≤ a) && decide (a ≤ c)) := by
 unfold impl_within.f
 by_cases h : b ≤ a
 ·rw [if_pos h]; simp [h]
 ·rw [if_neg h]; simp [h]
theorem isBound_eq (m : Int) : impl_isBound.f m = some (decide (0 ≤ m) && decide (m ≤ 12)) := by
 unfold impl_isBound.f
 rw [within_eq]; rfl
theorem laBound_eq (m : Int) : spec_laBound.f m = some (decide (0 ≤ m) && decide (m ≤ 12)) := by
 unfold spec_laBound.f
 rw [l1In_eq]; rfl
theorem isOrder_ev {p : List Int} (hp : PO p) (w : List Int) (hw : w.length ≤ 9223372036854775807) : Ev (fun k => impl_isOrder.f k p w) (ordB p w) := by
 have hn := hp.small
 have hn1 := hp.pos
 unfold impl_isOrder.f ordB
 have key : ∀ i, i ≤ w.length → ∀ s : Nat, s < 2 ^ p.length → Ev (fun k => impl_isOrder.l0 k (s : Int) w (w.length : Int) (i : Int) p) (ordRun p s (w.drop i) == some (allN p)) := by
  refine downTo _ ?_ ?_
  ·intro s hs
   refine Ev.step (by intro k; simp only [impl_isOrder.l0]; rfl) (Ev.no (by omega) (Ev.call (all_eq (by omega)) (Ev.ret ?_)))
   rw [List.drop_length]
   simp only [ordRun]
   rw [Bool.eq_iff_iff, beq_iff_eq, beq_iff_eq, Option.some.injEq]
   omega
  ·intro i hi ih s hs
   refine Ev.step (by intro k; simp only [impl_isOrder.l0]; rfl) (Ev.yes (by omega) (Ev.yes (by omega) (Ev.yes (by omega) ?_)))
   rw [rdN, drop_getD w hi, wid1 hi (by omega)]
   generalize w.getD i 0 = e
   refine Ev.call (show impl_Poset_n.f p = some (p.length : Int) from rfl) (Ev.call (within_eq _ _ _) ?_)
   rw [show wrap64 ((p.length : Int) - 1) = (p.length : Int) - 1 from wid (by omega) (by omega)]
   simp only [ordRun]
   by_cases h1 : 0 ≤ e ∧ e < (p.length : Int)
   rotate_left
   ·exact Ev.no (by rw [range_false (by omega)]; simp) (Ev.ret (by rw [if_neg (fun h => h1 h.1)]; rfl))
   refine Ev.yes (range_true (by omega)) ?_
   obtain ⟨x, rfl⟩ := Int.eq_ofNat_of_zero_le h1.1
   have hx : x < p.length := by omega
   refine Ev.call (has_eq (lt_pow hs (by omega)) (by omega)) ?_
   rw [Int.toNat_natCast]
   by_cases h2 : s.testBit x = true
   ·exact Ev.yes h2 (Ev.ret (by rw [if_neg (fun h => by rw [h.2.1] at h2; cases h2)]; rfl))
   refine Ev.no h2 (Ev.yes (by omega) (Ev.yes (by omega) ?_))
   rw [rdN, hp.val x hx, bits_andNotN (lt_pow (L_lt hp hx) (by omega)) (lt_pow hs (by omega))]
   by_cases h3 : subB (L p x) s = true
   ·have h4 : ndiff (L p x) s = 0 := by unfold subB at h3; exact beq_iff_eq.1 h3
    refine Ev.yes (by rw [h4]; rfl) ?_
    rw [shlN (by omega), bits_orN (lt_pow hs (by omega)) (Nat.pow_lt_pow_right (by decide) (by omega)), if_pos ⟨h1, by simpa using h2, h3⟩]
    exact ih _ (or_lt hs (pow_lt_pow hx))
   ·have h4 : ¬ (((ndiff (L p x) s : Nat) : Int) = 0) := fun h => h3 (by unfold subB; rw [beq_iff_eq]; exact_mod_cast h)
    exact Ev.no h4 (Ev.ret (by rw [if_neg (fun h => h3 h.2.2)]; rfl))
 have := key 0 (by omega) 0 (Nat.two_pow_pos _)
 rw [List.drop_zero] at this
 exact this
theorem IsPoset_ev (p : List Int) : Ev (fun k => impl_IsPoset.f k p) (isPo p) := by
 unfold impl_IsPoset.f
 refine Ev.call (show impl_Poset_n.f p = some (p.length : Int) from rfl) (Ev.call (within_eq _ _ _) ?_)
 unfold isPo
 rw [sizes_eq]
 cases hs : (decide (1 ≤ p.length) && decide (p.length ≤ 10)) with
 | false => exact Ev.no (by simp) (Ev.ret rfl)
 | true =>
 refine Ev.yes rfl ?_
 rw [Bool.and_eq_true, decide_eq_true_eq, decide_eq_true_eq] at hs
 obtain ⟨h1, h2⟩ := hs
 have key : ∀ i, i ≤ p.length → Ev (fun k => impl_IsPoset.l0 k p (p.length : Int) (i : Int) p) (allFrom (rowOk p) p.length i) := by
  refine downTo p.length ?_ ?_
  ·refine Ev.step (by intro k; simp only [impl_IsPoset.l0]; rfl) ?_
   exact Ev.no (by omega) (Ev.ret (allFrom_end _ _).symm)
  ·intro i hi ih
   refine Ev.step (by intro k; simp only [impl_IsPoset.l0]; rfl) ?_
   refine Ev.yes (by omega) (Ev.yes (by omega) (Ev.yes (by omega) ?_))
   rw [rdN, mask_eq (by omega)]
   refine Ev.call (within_eq _ _ _) ?_
   rw [allFrom_step _ hi]
   by_cases hb : 0 ≤ p.getD i 0 ∧ p.getD i 0 ≤ 2 ^ i - 1
   rotate_left
   ·exact Ev.no (by rw [range_false hb]; simp) (Ev.ret (by rw [rowOk_false hb]; rfl))
   refine Ev.yes (range_true hb) ?_
   have hv : p.getD i 0 = (L p i : Int) := by unfold L; omega
   have hm : L p i < 2 ^ i := by
    have := hb.2
    rw [hv, pow_int] at this
    have hp : 0 < 2 ^ i := Nat.two_pow_pos i
    generalize 2 ^ i = z at *
    omega
   rw [rowOk_true hb, ← items_all hm (by omega) (fun j => decide (Go.bits .andNot .i64 (p.getD j 0) (p.getD i 0) = 0)), hv]
   refine Ev.bind (items_ev _ (lt_pow hm (by omega))) ?_
   have inner : ∀ j, j ≤ (itemsN (L p i)).length → Ev (fun k => impl_IsPoset.l1 k (L p i : Int) p (p.length : Int) (i : Int) (ints (itemsN (L p i))) ((ints (itemsN (L p i))).length : Int) (j : Int) p)
    (((itemsN (L p i)).drop j).all (fun j => decide (Go.bits .andNot .i64 (p.getD j 0) (L p i : Int) = 0)) && allFrom (rowOk p) p.length (i + 1)) := by
    rw [ints_len]
    refine downTo _ ?_ ?_
    ·refine Ev.step (by intro k; simp only [impl_IsPoset.l1]; rfl) ?_
     refine Ev.no (by omega) ?_
     rw [wid1 hi (by omega), List.drop_length, List.all_nil, Bool.true_and]
     exact ih
    ·intro j hj ihj
     have hlt := items_lt hm hj
     have hl := itemsN_len (L p i)
     refine Ev.step (by intro k; simp only [impl_IsPoset.l1]; rfl) ?_
     refine Ev.yes (by omega) (Ev.yes (by omega) (Ev.yes (by rw [ints_len]; omega) ?_))
     rw [rd_ints, all_drop_step _ _ 0 hj, wid1 hj (by omega), rdN]
     refine Ev.yes (by omega) (Ev.yes (by omega) ?_)
     refine Ev.ite (fun h => evc ihj ?_) (fun h => Ev.ret ?_)
     ·rw [decide_eq_true h]; simp
     ·rw [decide_eq_false h]; simp
   exact inner 0 (by omega)
 exact key 0 (by omega)
end Go.Proofs.Ytmbojobkiainlaa.Q
end

section
namespace Go.Proofs.Ytmbojobkiainlaa.Q

end Go.Proofs.Ytmbojobkiainlaa.Q
end

section
namespace Go.Proofs.Ytmbojobkiainlaa.Q
open Go.RowKit Go.Proofs.YtmbojobkiainlaaW.PrintWords Go.Proofs.Ytmbojobkiainlaa.F
set_option linter.unusedVariables false
def linB (p w : List Int) : Bool := isPo p && ordB p w
theorem isLinear_ev (p w : List Int) (hw : w.length ≤ 9223372036854775807) : Ev (fun k => impl_isLinear.f k p w) (linB p w) := by
 unfold impl_isLinear.f linB
 refine Ev.bind (IsPoset_ev p) ?_
 cases hp : isPo p with
 | false => exact Ev.no (by simp) (Ev.ret rfl)
 | true => exact Ev.yes rfl (Ev.bind (isOrder_ev ((isPo_iff p).1 hp) w hw) (Ev.ret rfl))
structure Lin (p w : List Int) : Prop where
 po : PO p
 ord : ordB p w = true
 len : w.length = p.length
 pos : 1 ≤ p.length
 small : p.length ≤ 10
theorem linB_lin {p w : List Int} (h : linB p w = true) : Lin p w := by
 unfold linB at h
 rw [Bool.and_eq_true] at h
 have hp := (isPo_iff p).1 h.1
 exact ⟨hp, h.2, ordB_len h.2, hp.pos, hp.small⟩
end Go.Proofs.Ytmbojobkiainlaa.Q
end

section
namespace Go.Proofs.Ytmbojobkiainlaa.F
open Go.RowKit Go.Proofs.YtmbojobkiainlaaW.PrintWords Go.Proofs.YtmbojobkiainlaaW.PrintLast Go.Proofs.YtmbojobkiainlaaW.PrintMore
set_option linter.unusedVariables false
set_option linter.unusedSimpArgs false
def impl_Poset_ideals.f (k : Nat) (l0_0 : List Int) : Option (List Int) := sets_ideals.f (fun x => lit_ideals.f k x l0_0) k l0_0
theorem ideals_mono_l {F F' : Int → Option Bool} (hF : ∀ x, LeO (F x) (F' x)) : ∀ k y0 y1 y2, LeO (sets_ideals.l0 F k y0 y1 y2) (sets_ideals.l0 F' k y0 y1 y2)
 | 0, _, _, _ => fun r h => by simp [sets_ideals.l0] at h
 | k + 1, y0, y1, y2 => by
  unfold sets_ideals.l0
  exact LeO.ite (LeO.bind (hF _) (fun _ => LeO.ite (LeO.ite (ideals_mono_l hF k _ _ _) (LeO.none _)) (ideals_mono_l hF k _ _ _))) (LeO.refl _)
theorem impl_Poset_ideals.mono : ∀ a0 k, LeO (impl_Poset_ideals.f k a0) (impl_Poset_ideals.f (k + 1) a0) := fun a0 k r h => by
 unfold impl_Poset_ideals.f at h ⊢
 refine sets_ideals.mono _ _ _ r ?_
 unfold sets_ideals.f at h ⊢
 exact LeO.bind (LeO.refl _) (fun _ => ideals_mono_l (fun x => lit_ideals.mono x a0 k) k _ _ _) r h
set_option maxHeartbeats 8000000 in
set_option maxRecDepth 100000 in
theorem impl_Poset_ideals.calls (k : Nat) (A0_0 : Option Addr) (c0_0 : Nat) (l0_0 : List Int) (r : List Int) (w : World) (hr0_0 : Kd.C (Kd.int .i64) w A0_0 l0_0.length l0_0) (hc0_0 : l0_0.length ≤ c0_0) (h : impl_Poset_ideals.f k l0_0 = some r) :
 Calls Try.prog 127 #[.agg #[.slice A0_0 l0_0.length c0_0]] w fun e w' => ∃ v0_ : Value, e = .returned (v0_) ∧ Kd.R (Kd.int .i64) 3 w' w.heap.size (fun _ => True) v0_ r ∧ Below w.heap.size w w' := by
 unfold impl_Poset_ideals.f at h
 have hmf : ∀ (fn : Fn) (first cap : Array Value) (w : World), (Instr.makeFunc fn first cap).run Try.prog w = .ok (.func fn first cap) w := fun _ _ _ _ => rfl
 have hu39 := Try.underlying26
 obtain ⟨W, hW⟩ : ∃ W, W = (w.alloc (.cells #[.slice A0_0 l0_0.length c0_0] 26 (0, 0))) := ⟨_, rfl⟩
 have hsz : W.heap.size = w.heap.size + 1 := by rw [hW]; simp
 have hcB : W.cell? ⟨w.heap.size, 0, none⟩ = some (.slice A0_0 l0_0.length c0_0) := by rw [hW, World.cell?_alloc_at _ _ _ _ rfl]; rfl
 have hbW : Below w.heap.size w W := by rw [hW]; exact (Below.refl _ _).alloc (Nat.le_refl _) _
 have hrW : Kd.C (Kd.int .i64) W A0_0 l0_0.length l0_0 := Kd.C_below hr0_0 hbW
 have HF : Aside0 (∀ (x0_ : Int) (r_ : Bool) (W' : World), lit_ideals.f k x0_ l0_0 = some r_ → Below W.heap.size W W' → Calls Try.prog 156 #[.int .i64 x0_, .pointer (some ⟨w.heap.size, 0, none⟩)] W' fun e w' => e = .returned (.bool r_) ∧ Below W'.heap.size W' w') :=
  ⟨fun x0_ r_ W' hF hb => lit_ideals.calls w.heap.size k x0_ A0_0 c0_0 l0_0 r_ W' ((hb.cell (p := ⟨w.heap.size, 0, none⟩) (by rw [hsz]; show w.heap.size < w.heap.size + 1; omega)).trans hcB) (Kd.C_below hrW hb) hc0_0 hF⟩
 have hcall := sets_ideals.calls (fun x => lit_ideals.f k x l0_0) w.heap.size k A0_0 c0_0 l0_0 r W HF hrW hc0_0 h
 have hcall' : Aside0 (Calls Try.prog 155 #[.agg #[.slice A0_0 l0_0.length c0_0], .func (.func 156) #[] #[.pointer (some ⟨w.heap.size, 0, none⟩)]] (w.alloc (.cells #[.slice A0_0 l0_0.length c0_0] 26 (0, 0))) fun e w' => ∃ v0_ : Value, e = .returned (v0_) ∧ (Kd.R (Kd.int .i64) 3 w' W.heap.size (fun _ => True) v0_ r ∧ Below W.heap.size W w')) := ⟨by rw [← hW]; exact hcall⟩
 have HW := Lib.hid hW
 clear hcall HF h hW hrW hr0_0 hc0_0
 have HsW := am hsz
 have HbW := am hbW
 clear hcB hsz hbW
 go_enter Try.func127, Try.ntmps127
 go_wp2_with fail
 refine hcall'.out.mono ?_
 rintro e w1 ⟨v, rfl, ho, hb⟩
 have Ho := am ho
 have Hb := am hb
 clear ho hb hmf hcall'
 go_wp2
 go_ret
 refine ⟨_, rfl, Kd.R_lower Ho.out (by have := HsW.out; omega), HbW.out.trans (Hb.out.mono (by have := HsW.out; omega))⟩
end Go.Proofs.Ytmbojobkiainlaa.F
end

section
namespace Go.Proofs.Ytmbojobkiainlaa.Q
open Go.RowKit Go.Proofs.YtmbojobkiainlaaW.PrintWords Go.Proofs.Ytmbojobkiainlaa.F
set_option linter.unusedVariables false
theorem sets_run {F : Int → Option Bool} {c : Nat → Bool} {N : Nat} (hN : N ≤ 1024) (hF : ∀ s : Nat, s < N → F (s : Int) = some (c s)) : ∀ (d i : Nat), i + d = N → ∀ (k : Nat) (acc : List Int), d < k → acc.length ≤ i → sets_ideals.l0 F k acc (N : Int) (i : Int) = some (acc ++ ints ((List.range' i d).filter c))
 | 0, i, h, 0, acc, hk, _ => by omega
 | 0, i, h, k + 1, acc, hk, _ => by
  simp only [sets_ideals.l0]
  rw [if_neg (by omega)]
  simp [ints]
 | d + 1, i, h, 0, acc, hk, _ => by omega
 | d + 1, i, h, k + 1, acc, hk, ha => by
  simp only [sets_ideals.l0]
  rw [if_pos (by omega), hF i (by omega), Option.bind_some, wid1 (show i < N by omega) (by omega), List.range'_succ, List.filter_cons]
  cases hc : c i with
  | true =>
   rw [if_pos rfl, if_pos (by omega), if_pos rfl, sets_run hN hF d (i + 1) (by omega) k (acc ++ [(i : Int)]) (by omega) (by rw [List.length_append, List.length_singleton]; omega)]
   rw [List.append_assoc]; rfl
  | false =>
   rw [if_neg (by simp), if_neg (by simp), sets_run hN hF d (i + 1) (by omega) k acc (by omega) (by omega)]
theorem two_pow_small {n : Nat} (h : n ≤ 10) : 2 ^ n ≤ 1024 := Nat.le_trans (Nat.pow_le_pow_right (by decide) h) (by decide)
theorem ideals_ev {p : List Int} (hp : PO p) : Ev (fun k => impl_Poset_ideals.f k p) (ints (idealsN p)) := by
 have hn := hp.small
 have h2 := two_pow_small hn
 have hpos := Nat.two_pow_pos p.length
 obtain ⟨K, hK⟩ := Ev.all (g := fun s k => lit_ideals.f k (s : Int) p) (r := fun s => idealB p s) (2 ^ p.length) (fun s hs => by
  unfold lit_ideals.f
  refine Ev.bind (close_ev hp hs) (Ev.ret ?_)
  rw [← closeN_eq hp hs, Bool.eq_iff_iff, beq_iff_eq, beq_iff_eq]
  omega)
 refine ⟨K + 2 ^ p.length + 1, fun k hk => ?_⟩
 show sets_ideals.f _ k p = _
 unfold sets_ideals.f
 rw [all_eq (by omega), Option.bind_some]
 have e : wrap64 (((allN p : Nat) : Int) + 1) = ((2 ^ p.length : Nat) : Int) := by
  rw [wid (by unfold allN; omega) (by unfold allN; omega)]
  unfold allN; omega
 rw [e]
 have := sets_run (F := fun x => lit_ideals.f k x p) (c := idealB p) h2 (fun s hs => hK k (by omega) s hs) (2 ^ p.length) 0 (by omega) k [] (by omega) (by simp)
 rw [show ((0 : Nat) : Int) = 0 from rfl] at this
 rw [this, List.nil_append, ← List.range_eq_range']
 rfl
end Go.Proofs.Ytmbojobkiainlaa.Q
end

section
namespace Go.Proofs.Ytmbojobkiainlaa.F
open Go.RowKit Go.Maps Go.Proofs.YtmbojobkiainlaaW.PrintWords Go.Proofs.YtmbojobkiainlaaW.PrintLast Go.Proofs.YtmbojobkiainlaaW.PrintMore
set_option linter.unusedVariables false
set_option linter.unusedSimpArgs false
theorem mp_law : Keyed Try.prog 3 := int_keyed Try.underlying3
theorem mp_zero (w : World) : (zeroValue 3).run Try.prog w = .ok (.int .i64 0) w := by kernel_rfl
/-- An entry of a map's literal. -/
theorem wpList_insert_own {H : Type} {P : Program} (w : World) {ops : Array Oper} {rest : List Oper} {o : Oper} {a : Act} {Q : Exit → Act → World → Prop}
 (hg : o.guard = none) (m x v : Operand) (t : TypeId) (hop : o.op = Op.insert t m x v)
 (k e : TypeId) (K : Keyed P k) (ht : P.underlying t = some (.map k e)) (R : Value → Option (DataW H × List MemPlace)) (b n : Nat) (D : DataW H)
 (hm : a.eval m = .map (some b)) (hown : w.ownsMap P k R b n D) (hn : n < maxLen) (key val : Value) (kl : Lit) (hx : a.eval x = key) (hv : a.eval v = val) (hkey : keyOf P k key = some kl)
 (d : DataW H) (ps : List MemPlace) (hval : R val = some (d, ps))
 (hK : ∀ w', w'.ownsMap P k R b (n + 1) (D.put kl d) → w.grownBy w' (some b) → wpList P ops Q rest (a.put o.dst undef) w') :
 wpList P ops Q (o :: rest) a w := by
 refine wpList_plain hg fun K' hK' => ?_
 obtain ⟨w', hrun, r1, r2⟩ := hown.update K ht hn hkey hval
 unfold Oper.wp
 simp [execOp, hop, hm, hx, hv, hrun, Result.andThen]
 exact hK' _ _ (hK w' r1 r2)
theorem mp_nodup_le {α : Type} [DecidableEq α] : ∀ (l m : List α), l.Nodup → (∀ x ∈ l, x ∈ m) → l.length ≤ m.length
 | [], _, _, _ => Nat.zero_le _
 | x :: l, m, hn, h => by
  obtain ⟨h1, h2⟩ := List.nodup_cons.1 hn
  have hx : x ∈ m := h x List.mem_cons_self
  have := mp_nodup_le l (m.erase x) h2 (fun y hy => (List.mem_erase_of_ne (fun e => h1 (by rw [← e]; exact hy))).2 (h y (List.mem_cons_of_mem _ hy)))
  rw [List.length_erase_of_mem hx] at this
  have hp : 0 < m.length := List.length_pos_of_mem hx
  simp only [List.length_cons]
  omega
theorem mp_tight {H : Type} {P : Program} {k : TypeId} {R : Value → Option (DataW H × List MemPlace)} {w : World} {b n m : Nat} {D : DataW H} (h : w.ownsMap P k R b n D) (hm : Maps.size D ≤ m) : w.ownsMap P k R b m D := by
 obtain ⟨es, clock, hb, F, hs, rfl⟩ := h
 exact ⟨es, clock, hb, F, by rw [Maps.size_eq, length_sorted] at hm; simpa using hm, rfl⟩
/-- What a map reads as at the numbers of a list; it has no other keys. -/
structure MpReads {H : Type} (D : DataW H) (ids : List Int) (v : Int → Int) : Prop where
 at_ : ∀ s ∈ ids, D.atKey (.int .i64 s) (.lit (.int .i64 0)) = .lit (.int .i64 (v s))
 has_ : ∀ kl, Maps.has D kl = true → ∃ s ∈ ids, kl = .int .i64 s
theorem mp_norm {H : Type} {P : Program} {k : TypeId} {R : Value → Option (DataW H × List MemPlace)} {w : World} {b n : Nat} {D : DataW H} {ids : List Int} {v : Int → Int} (K : Keyed P k) (h : w.ownsMap P k R b n D) (hr : MpReads D ids v) : w.ownsMap P k R b ids.length D := by
 refine mp_tight h ?_
 obtain ⟨es, rfl, hp, hk⟩ := h.entries K
 rw [Maps.size_eq]
 haveI : DecidableEq Lit := fun a b => Classical.propDecidable (a = b)
 have hn : (es.map Prod.fst).Nodup := by
  rw [List.nodup_iff_pairwise_ne, List.pairwise_map]
  exact hp
 have hsub : ∀ x ∈ es.map Prod.fst, x ∈ ids.map (Lit.int .i64) := fun x hx => by
  obtain ⟨p, hp1, rfl⟩ := List.mem_map.1 hx
  obtain ⟨s, hs, e⟩ := hr.has_ p.1 (List.any_eq_true.2 ⟨p, hp1, WideAt.sameKey_self (hk p hp1)⟩)
  rw [e]
  exact List.mem_map.2 ⟨s, hs, rfl⟩
 have := mp_nodup_le _ _ hn hsub
 rw [List.length_map, List.length_map] at this
 exact this
theorem mp_empty {H : Type} (ids : List Int) : MpReads (.map [] : DataW H) ids (fun _ => 0) := ⟨fun _ _ => rfl, fun kl h => by cases h⟩
theorem mp_congr {H : Type} {D : DataW H} {ids : List Int} {v v' : Int → Int} (h : MpReads D ids v) (e : ∀ s ∈ ids, v s = v' s) : MpReads D ids v' := ⟨fun s hs => by rw [h.at_ s hs, e s hs], h.has_⟩
theorem mp_put {H : Type} {D : DataW H} {ids : List Int} {v : Int → Int} (hD : Maps.IsMap D) (h : MpReads D ids v) {t c : Int} (ht : t ∈ ids) : MpReads (D.put (.int .i64 t) (.lit (.int .i64 c))) ids (fun s => if s = t then c else v s) := by
 refine ⟨fun s hs => ?_, fun kl hk => ?_⟩
 ·by_cases e : s = t
  ·subst e
   rw [if_pos rfl]
   exact Maps.atKey_put_same hD (show WideAt.IsKeyLit (.int .i64 s) from trivial) _ _
  ·rw [if_neg e, Maps.atKey_put_other (fun e2 => e (by injection e2)) _ _]
   exact h.at_ s hs
 ·by_cases e : kl = .int .i64 t
  ·exact ⟨t, ht, e⟩
  ·rw [Maps.has_put_other e] at hk
   exact h.has_ kl hk
theorem mp_val {H : Type} {D : DataW H} {ids : List Int} {v : Int → Int} (h : MpReads D ids v) {x c : Int} (hk : Maps.has D (.int .i64 x) = true) (hat : ∀ zd, D.atKey (.int .i64 x) zd = .lit (.int .i64 c)) : x ∈ ids ∧ v x = c := by
 obtain ⟨s, hs, e⟩ := h.has_ _ hk
 injection e with _ e
 subst e
 have := h.at_ x hs
 rw [hat] at this
 injection this with this
 injection this with _ this
 exact ⟨hs, this.symm⟩
/-- The sum over those of a list for which something holds. -/
def mpTot (ids : List Int) (P : Int → Bool) (v : Int → Int) : Int := (ids.map fun s => if P s = true then v s else 0).sum
theorem mpTot_congr {ids : List Int} {P P' : Int → Bool} {v v' : Int → Int} (h : ∀ s ∈ ids, (if P s = true then v s else 0) = if P' s = true then v' s else 0) : mpTot ids P v = mpTot ids P' v' := by
 unfold mpTot
 rw [List.map_congr_left h]
theorem mpTot_step {P P' : Int → Bool} {v : Int → Int} {x : Int} (hP : P x = false) (ho : ∀ s, s ≠ x → P' s = P s) : ∀ ids : List Int, ids.Nodup → x ∈ ids → mpTot ids P' v = mpTot ids P v + if P' x = true then v x else 0
 | [], _, h => by cases h
 | s :: ids, hn, h => by
  obtain ⟨h1, h2⟩ := List.nodup_cons.1 hn
  unfold mpTot
  rw [List.map_cons, List.map_cons, List.sum_cons, List.sum_cons]
  by_cases e : s = x
  ·subst e
   have h3 : (if P s = true then v s else 0) = 0 := by rw [hP]; rfl
   rw [h3]
   have e2 : (ids.map fun s => if P' s = true then v s else 0) = ids.map fun s => if P s = true then v s else 0 := List.map_congr_left fun y hy => by rw [ho y (fun e => h1 (by rw [← e]; exact hy))]
   rw [e2]
   omega
  ·have hx : x ∈ ids := by
    rcases List.mem_cons.1 h with h | h
    ·exact absurd h.symm e
    ·exact h
   have := mpTot_step (v := v) hP ho ids h2 hx
   unfold mpTot at this
   rw [this, ho s e]
   omega
theorem mpTot_none {ids : List Int} {P : Int → Bool} {v : Int → Int} (h : ∀ s ∈ ids, P s = true → v s = 0) : mpTot ids P v = 0 := by
 have e : mpTot ids P v = mpTot ids (fun _ => false) v := mpTot_congr fun s hs => by
  cases hp : P s with
  | false => rfl
  | true => rw [if_pos rfl, h s hs hp]; rfl
 rw [e]
 unfold mpTot
 induction ids with
 | nil => rfl
 | cons s ids ih => rw [List.map_cons, List.sum_cons, ih (fun y hy => h y (List.mem_cons_of_mem _ hy)) (mpTot_congr fun s hs => by
  cases hp : P s with
  | false => rfl
  | true => rw [if_pos rfl, h s (List.mem_cons_of_mem _ hs) hp]; rfl)]; rfl
theorem mp_wrap_add (a b : Int) : wrap64 (wrap64 a + b) = wrap64 (a + b) := by unfold wrap64; omega
theorem mp_wrap_add' (a b : Int) : wrap64 (a + wrap64 b) = wrap64 (a + b) := by unfold wrap64; omega
/-- A key that is to come no more is one that is not of the map, or one that has come. -/
theorem mp_absent {H : Type} {D : DataW H} {ids : List Int} {v : Int → Int} (h : MpReads D ids v) {s : Int} (hs : s ∈ ids) (hk : Maps.has D (.int .i64 s) = false) : v s = 0 := by
 have := h.at_ s hs
 rw [Maps.atKey_of_not_has hk] at this
 injection this with this
 injection this with _ this
 exact this.symm
theorem mp_strike (left : Lit → Bool) (x s : Int) (h : s ≠ x) : ((fun z : Lit => left z && !z.sameKey (.int .i64 x)) (.int .i64 s)) = left (.int .i64 s) := by
 show (left (.int .i64 s) && !(Lit.int .i64 s).sameKey (.int .i64 x)) = _
 rw [Maps.sameKey_ne (fun e => h (by injection e))]
 simp
theorem mp_struck (left : Lit → Bool) (x : Int) : ((fun z : Lit => left z && !z.sameKey (.int .i64 x)) (.int .i64 x)) = false := by
 show (left (.int .i64 x) && !(Lit.int .i64 x).sameKey (.int .i64 x)) = _
 rw [WideAt.sameKey_self (show WideAt.IsKeyLit (.int .i64 x) from trivial)]
 simp
theorem mp_cell {ids : List Int} {W W1 : World} {b g c : Nat} {ok : Nat → Prop} (hr : Kd.R (Kd.int .i64) 3 W b ok (.slice (some ⟨g, 0, none⟩) ids.length c) ids) (hb : Below W.heap.size W W1) (i : Nat) (hi : i < ids.length) :
 W1.cell? ⟨g, i, none⟩ = some (.int .i64 (ids.getD i 0)) := by
 have h2 := (Kd.R_cell (0 : Int) (Kd.R_below hr hb) (i : Int) (by omega) (by omega)).1
 rw [Int.toNat_natCast] at h2
 rw [h2]
 congr 2
theorem mp_wf {n : Int} (h : -9223372036854775808 ≤ n ∧ n ≤ 9223372036854775807) : (Lit.int .i64 n).wf = true := WalkArith.wf_i64 h
theorem mp_grown {w w' : World} (hb : Below w.heap.size w w') : w.grownBy w' none := ⟨hb.os, hb.tape, hb.output, hb.size, fun k hk _ => hb.block k hk⟩
theorem mp_emptyO {X : World} {base n e sz : Nat} (hn : base ≤ n) (hx : X.heap[n]? = some (.cells #[] e (0, 0))) : X.ownsRow base e sz (.slice (some ⟨n, 0, none⟩) 0 0) 0 [] :=
 ⟨by simp, .inr ⟨n, 0, #[], rfl, hn, hx, by omega, by omega, by simp, by simp⟩⟩
theorem mp_emptyR {α : Type} (d : Kd α) {X : World} {base n e : Nat} {ok : Nat → Prop} (hn : base ≤ n) (hx : X.heap[n]? = some (.cells #[] e (0, 0))) (hok : ok n) : d.R e X base ok (.slice (some ⟨n, 0, none⟩) 0 0) ([] : List α) :=
 ⟨fun k hk => by
  have : n = k := by simpa [Value.ownBlock] using hk
  exact this ▸ hok, [], mp_emptyO hn hx, Reps.none _ _⟩
/-- A row's own block is no map. -/
theorem mp_apart {H : Type} {P : Program} {k : TypeId} {R : Value → Option (DataW H × List MemPlace)} {W : World} {b n base e : Nat} {D : DataW H} {ok : Nat → Prop} {v : Value} {xs : List Int} (h : Kd.R (Kd.int .i64) e W base ok v xs) (hm : W.ownsMap P k R b n D) : some b ≠ v.ownBlock := by
 intro hv
 obtain ⟨_, _, _, q, _, cells, hc⟩ := (Kd.R_bound h).1 b hv.symm
 obtain ⟨es, clock, hb, _⟩ := hm
 rw [hb] at hc
 cases hc
theorem mp_row_kept {H : Type} {P : Program} {k : TypeId} {R : Value → Option (DataW H × List MemPlace)} {W W1 : World} {b n base e : Nat} {D : DataW H} {ok : Nat → Prop} {v : Value} {xs : List Int} (h : Kd.R (Kd.int .i64) e W base ok v xs) (hm : W.ownsMap P k R b n D) (hg : W.grownBy W1 (some b)) : Kd.R (Kd.int .i64) e W1 base ok v xs :=
 Kd.R_grown2 h rfl hg (fun k hk => by cases hk; exact mp_apart h hm)
/-- An iterator's block is none of a row. -/
theorem mp_iter_kept {H : Type} {P : Program} {k : TypeId} {R : Value → Option (DataW H × List MemPlace)} {W W1 : World} {b r n base e cnt : Nat} {D : DataW H} {left : Lit → Bool} {ok : Nat → Prop} {v : Value} {xs : List Int} (h : Kd.R (Kd.int .i64) e W base ok v xs) (hm : W.ranges P k R b r n D left cnt) (hg : W.grownBy W1 (some r)) : Kd.R (Kd.int .i64) e W1 base ok v xs :=
 Kd.R_grown2 h rfl hg (fun k hk => by
  cases hk
  intro hv
  obtain ⟨_, _, _, q, _, cells, hc⟩ := (Kd.R_bound h).1 r hv.symm
  obtain ⟨es, clock, since, seen, c0, _, _, _, _, hr, _⟩ := hm
  rw [hr] at hc
  cases hc)
end Go.Proofs.Ytmbojobkiainlaa.F
end

section
namespace Go.Proofs.Ytmbojobkiainlaa.F
open Go.RowKit Go.Proofs.YtmbojobkiainlaaW.PrintWords Go.Proofs.YtmbojobkiainlaaW.PrintLast Go.Proofs.YtmbojobkiainlaaW.PrintMore
set_option linter.unusedVariables false
set_option linter.unusedSimpArgs false
def lsIn (k : Nat) (q : Int) : List Int → Nat → Int → Option Int
 | [], _, own => some own
 | n :: l, j, own => (spec_laChoose.f k q (wrap64 ((j : Int) + 1))).bind fun c => lsIn k q l (j + 1) (wrap64 (own - wrap64 (n * c)))
def lsOut (k : Nat) (p : List Int) : Nat → Nat → List Int → Option (List Int)
 | 0, _, outs => some outs
 | d + 1, q, outs => (spec_laChains.f k p (q : Int) true).bind fun own => (lsIn k (q : Int) outs 0 own).bind fun o => lsOut k p d (q + 1) (outs ++ [o])
def spec_laSteps.f (k : Nat) (l0_0 : List Int) : Option (List Int) := if l0_0.length ≤ 1000 then lsOut k l0_0 l0_0.length 1 [] else none
theorem lsIn_mono (k : Nat) (q : Int) : ∀ l j own, LeO (lsIn k q l j own) (lsIn (k + 1) q l j own)
 | [], _, _ => LeO.refl _
 | n :: l, j, own => LeO.bind (spec_laChoose.mono _ _ _) (fun _ => lsIn_mono k q l _ _)
theorem lsOut_mono (k : Nat) (p : List Int) : ∀ d q outs, LeO (lsOut k p d q outs) (lsOut (k + 1) p d q outs)
 | 0, _, _ => LeO.refl _
 | d + 1, q, outs => LeO.bind (spec_laChains.mono _ _ _ _) (fun _ => LeO.bind (lsIn_mono _ _ _ _ _) (fun _ => lsOut_mono k p d _ _))
theorem spec_laSteps.mono : ∀ a0 k, LeO (spec_laSteps.f k a0) (spec_laSteps.f (k + 1) a0) := fun a0 k => LeO.ite (lsOut_mono _ _ _ _ _) (LeO.refl _)
set_option maxHeartbeats 8000000 in
set_option maxRecDepth 100000 in
theorem spec_laSteps.calls (k : Nat) (A0_0 : Option Addr) (c0_0 : Nat) (l0_0 : List Int) (r : List Int) (w : World) (hr0_0 : Kd.C (Kd.int .i64) w A0_0 l0_0.length l0_0) (hc0_0 : l0_0.length ≤ c0_0) (h : spec_laSteps.f k l0_0 = some r) :
 Calls Try.prog 98 #[.agg #[.slice A0_0 l0_0.length c0_0]] w fun e w' => ∃ v0_ : Value, e = .returned (v0_) ∧ Kd.R (Kd.int .i64) 3 w' w.heap.size (fun _ => True) v0_ r ∧ Below w.heap.size w w' := by
 have hu30 := Try.underlying26
 unfold spec_laSteps.f at h
 split at h
 rotate_left
 ·cases h
 rename_i hn
 have HN := am hn
 have HR0 := am hr0_0
 have HC := am hc0_0
 have HOUT := am h
 obtain ⟨w0, hw0⟩ : ∃ W, W = (w.alloc (.cells #[.slice A0_0 l0_0.length c0_0] 26 (0, 0))) := ⟨_, rfl⟩
 have HP0 : Aside0 (w0.heap[w.heap.size]? = some (.cells #[.slice A0_0 l0_0.length c0_0] 26 (0, 0))) := ⟨by rw [hw0]; exact blk_new w _⟩
 have HB0 : Aside0 (Below w.heap.size w w0) := ⟨by rw [hw0]; exact below_alloc (Below.refl w.heap.size w) _⟩
 clear h hn hr0_0 hc0_0
 go_enter Try.func98, Try.ntmps98
 go_wp2_with (fail)
 rw [← hw0]
 clear hw0
 go_loopg [3, 4] (l0_0.length + 1) (fun kq vo v4 w' => ∃ (q : Nat) (outs : List Int), v4 = .int .i64 (q : Int) ∧ Aside0 (kq + q = l0_0.length + 2 ∧ q ≤ l0_0.length + 1 ∧ outs.length + 1 = q) ∧ Aside0 (lsOut k l0_0 (l0_0.length + 1 - q) q outs = some r) ∧ Aside0 (Kd.R (Kd.int .i64) 3 w' w0.heap.size (fun _ => True) vo outs) ∧ Aside0 (Below w0.heap.size w0 w'))
 case atStart => exact ⟨1, [], rfl, ⟨by simp⟩, HOUT, ⟨Kd.R_nil _ _ _ _ _⟩, ⟨Below.refl _ _⟩⟩
 case round =>
  obtain ⟨q, outs, rfl, HK, HO, HVO, HBW⟩ := hrel
  obtain ⟨WA, rfl⟩ : ∃ x, x = wr := ⟨wr, rfl⟩
  obtain ⟨Ao, co, rfl⟩ := Kd.R_slice HVO.out
  have hcpA : WA.cell? ⟨w.heap.size, 0, none⟩ = some (.slice A0_0 l0_0.length c0_0) := (blk_cell (blk_below HP0.out HBW.out) 0).trans rfl
  cases gk with
  | zero => exact absurd HK.out (by omega)
  | succ k1 =>
   by_cases hq : q ≤ l0_0.length
   ·have HO' := HO.out
    rw [show l0_0.length + 1 - q = (l0_0.length + 1 - (q + 1)) + 1 by omega] at HO'
    unfold lsOut at HO'
    obtain ⟨own0, hown, HO'⟩ := Option.bind_eq_some_iff.1 HO'
    obtain ⟨ow, hin, HO'⟩ := Option.bind_eq_some_iff.1 HO'
    have HOWN := am hown
    have HIN := am hin
    have HO2 := am HO'
    clear hown hin HO' HO
    have d1 : decide ((q : Int) ≤ (l0_0.length : Int)) = true := decide_eq_true (by omega)
    have d2 : decide (q ≤ l0_0.length) = true := decide_eq_true hq
    have d3 := eq_true hq
    have HQ := am hq
    clear hq
    go_wp2_with (go_at_call 96; (with_reducible refine (spec_laChains.calls k A0_0 c0_0 l0_0 _ true own0 _ (Kd.C_below HR0.out (HB0.out.trans (HBW.out.mono HB0.out.size))) HC.out HOWN.out).mono ?_); rintro e w1 ⟨rfl, hb1⟩; have HB1 := am hb1; clear hb1)
    clear d1 d2 d3 hcpA
    have HVO1 := am (Kd.R_below HVO.out HB1.out)
    have HBW1 := am (HBW.out.trans (HB1.out.mono HBW.out.size))
    go_loopg [5, 20] (outs.length + 1) (fun kq v5 v20 w' => ∃ (j : Nat) (own : Int), v5 = .int .i64 own ∧ v20 = .int .i64 (j : Int) ∧ Aside0 (kq + j = outs.length + 1 ∧ j ≤ outs.length) ∧ Aside0 (lsIn k (q : Int) (outs.drop j) j own = some ow) ∧ Aside0 (Below w1.heap.size w1 w'))
    case atStart => exact ⟨0, own0, rfl, rfl, ⟨rfl, Nat.zero_le _⟩, HIN, ⟨Below.refl _ _⟩⟩
    case round =>
     obtain ⟨j, own, rfl, rfl, HK2, HI2, HBW2⟩ := hrel
     obtain ⟨WB, rfl⟩ : ∃ x, x = wr := ⟨wr, rfl⟩
     cases gk with
     | zero => exact absurd HK2.out (by omega)
     | succ k2 =>
      have HLE : Aside0 (outs.length ≤ 1000) := ⟨by have := HK.out; have := HN.out; omega⟩
      by_cases hj : j < outs.length
      ·obtain ⟨g, cap, ev, hgb, hgl, _⟩ := Kd.R_form HVO1.out (by omega)
       injection ev with e1 e2 e3
       subst e1; subst e3
       clear e2
       have hcell := mp_cell HVO1.out HBW2.out j hj
       have hd : outs.drop j = outs.getD j 0 :: outs.drop (j + 1) := by rw [List.drop_eq_getElem_cons hj, List.getD_eq_getElem?_getD, List.getElem?_eq_getElem hj]; rfl
       obtain ⟨nj, hnj⟩ : ∃ x, x = outs.getD j 0 := ⟨_, rfl⟩
       rw [← hnj] at hcell hd
       have HI3 := HI2.out
       rw [hd] at HI3
       unfold lsIn at HI3
       obtain ⟨c, hc, HI3⟩ := Option.bind_eq_some_iff.1 HI3
       have HWJ : Aside0 (wrap64 ((j : Int) + 1) = ((j + 1 : Nat) : Int)) := ⟨by unfold wrap64; have := HLE.out; omega⟩
       have HCH : Aside0 (spec_laChoose.f k (q : Int) (wrap64 ((j : Int) + 1)) = some c) := ⟨hc⟩
       have HI4 := am HI3
       have e1 : (0 : Int) ≤ (j : Int) := by omega
       have e2 : (j : Int) < (outs.length : Int) := by omega
       have e3 : decide ((j : Int) < (outs.length : Int)) = true := decide_eq_true e2
       have e4 : decide (j < outs.length) = true := decide_eq_true hj
       have e5 := eq_true hj
       clear hd hnj HI3 hc hj HI2
       go_wp2_with (go_at_call 99; (with_reducible refine (spec_laChoose.calls k _ _ c _ HCH.out).mono ?_); rintro e w2 ⟨rfl, ⟨nd, rfl⟩⟩)
       go_roundg k2
       case measure => omega
       case rel => exact ⟨j + 1, _, rfl, by rw [HWJ.out], ⟨by have := HK2.out; omega⟩, HI4, ⟨by (repeat (first | exact HBW2.out | apply pw_below_drewN | apply below_drew1))⟩⟩
      ·have HJ : Aside0 (j = outs.length) := ⟨by have := HK2.out; omega⟩
       have HOW : Aside0 (own = ow) := ⟨by
        have := HI2.out
        rw [HJ.out, List.drop_length] at this
        exact Option.some.inj this⟩
       have e3 : decide ((j : Int) < (outs.length : Int)) = false := decide_eq_false (by omega)
       have e4 : decide (j < outs.length) = false := decide_eq_false hj
       have e5 : (j < outs.length) = False := eq_false hj
       have HWQ : Aside0 (wrap64 ((q : Int) + 1) = ((q + 1 : Nat) : Int)) := ⟨by unfold wrap64; have := HK.out; have := HN.out; omega⟩
       have HVO2 := am (Kd.R_below HVO1.out HBW2.out)
       have HBW3 := am (HBW1.out.trans (HBW2.out.mono HBW1.out.size))
       clear hj
       go_wp2_with ((with_reducible refine gate_builtin (b := .append) (xs := #[.tmp 34, .tmp 36]) rfl ?_); at_builtin; refine Kd.R_append (Kd.int .i64) (w0 := w0) w0.heap.size rfl (.tmp 34) (.tmp 36) 24 3 (.int .i64 0) 8 rfl Try.underlying24 info3 rfl (by decide) (by omega) (.slice Ao outs.length co) outs own [.int .i64 own] (fun _ => True) (fun _ => False) rfl rfl ?aP (fun _ hk => hk.elim) (fun _ _ => trivial) ?aO ?aB ?aS ?aL ?_; (case aP => exact rfl); (case aO => exact HVO2.out); (case aB => exact HBW3.out); (case aS => exact HBW3.out.size); (case aL => have := HLE.out; omega); intro v7 w7 hr7 hb7 hg7 hat7; have HVO7 := am hr7; have HB7 := am hb7; clear hr7 hb7 hg7 hat7)
       go_roundg k1
       case measure => omega
       case rel => exact ⟨q + 1, outs ++ [own], by rw [HWQ.out], ⟨by have := HK.out; have := HQ.out; rw [List.length_append, List.length_singleton]; omega⟩, ⟨by rw [HOW.out]; exact HO2.out⟩, HVO7, HB7⟩
   ·have HQE : Aside0 (q = l0_0.length + 1) := ⟨by have := HK.out; omega⟩
    have HRES : Aside0 (outs = r) := ⟨by
     have := HO.out
     rw [HQE.out, Nat.sub_self] at this
     exact Option.some.inj this⟩
    have d1 : decide ((q : Int) ≤ (l0_0.length : Int)) = false := decide_eq_false (by omega)
    have d2 : decide (q ≤ l0_0.length) = false := decide_eq_false hq
    have d3 := eq_false hq
    clear hq
    go_wp2_with (fail)
    go_ret
    obtain rfl : outs = r := HRES.out
    exact ⟨_, rfl, Kd.R_lower HVO.out HB0.out.size, HB0.out.trans (HBW.out.mono HB0.out.size)⟩
end Go.Proofs.Ytmbojobkiainlaa.F
end

section
namespace Go.Proofs.Ytmbojobkiainlaa.F
open Go.RowKit Go.Proofs.YtmbojobkiainlaaW.PrintWords Go.Proofs.YtmbojobkiainlaaW.PrintLast Go.Proofs.YtmbojobkiainlaaW.PrintMore
attribute [local go_sem] max2_int min2_int max_two min_two max_three min_three max_four min_four
set_option linter.unusedVariables false
set_option linter.unusedSimpArgs false
mutual
def spec_LabelPolynomialAt.j0 : Nat → Int → Bool → List Int → Option (Int × Bool)
 | 0, _, _, _ => none
 | k + 1, x1, x16, x700000 => if x16 = true then (some (0, false)) else ((spec_laSteps.f k x700000).bind fun t702 => (spec_LabelPolynomialAt.l0 k x1 0 t702 (t702.length : Int) 0))
def spec_LabelPolynomialAt.l0 : Nat → Int → Int → List Int → Int → Int → Option (Int × Bool)
 | 0, _, _, _, _, _ => none
 | k + 1, x1, x6, x18, x19, x20 => if x20 < x19 then (if 0 ≤ x20 then (if x20 < (x18.length : Int) then ((spec_laChoose.f k x1 (wrap64 (x20 + 1))).bind fun t706 => (spec_LabelPolynomialAt.l0 k x1 (wrap64 (x6 + (wrap64 ((rd x18 x20) * t706)))) x18 x19 (wrap64 (x20 + 1)))) else (none)) else (none)) else (some (x6, true))
end
def spec_LabelPolynomialAt.f (k : Nat) (l0_0 : List Int) (a1 : Int) : Option (Int × Bool) := (spec_poGood.f k l0_0).bind fun t700 => (if t700 = true then ((spec_l1In.f a1 (-13) 13).bind fun t701 => (spec_LabelPolynomialAt.j0 k a1 (!t701) l0_0)) else (spec_LabelPolynomialAt.j0 k a1 true l0_0))
theorem spec_LabelPolynomialAt.mono_l : ∀ k, (∀ y0 y1 y2, LeO (spec_LabelPolynomialAt.j0 k y0 y1 y2) (spec_LabelPolynomialAt.j0 (k + 1) y0 y1 y2)) ∧ (∀ y0 y1 y2 y3 y4, LeO (spec_LabelPolynomialAt.l0 k y0 y1 y2 y3 y4) (spec_LabelPolynomialAt.l0 (k + 1) y0 y1 y2 y3 y4))
 | 0 => ⟨fun _ _ _ r h => by simp [spec_LabelPolynomialAt.j0] at h, fun _ _ _ _ _ r h => by simp [spec_LabelPolynomialAt.l0] at h⟩
 | k + 1 => by
  obtain ⟨ih0, ih1⟩ := spec_LabelPolynomialAt.mono_l k
  refine ⟨?_, ?_⟩
  ·intro y0 y1 y2
   unfold spec_LabelPolynomialAt.j0
   repeat' first
   | (with_reducible exact spec_laChoose.mono _ _ _)
   | (with_reducible exact spec_laSteps.mono _ _)
   | (with_reducible exact spec_poGood.mono _ _)
   | (with_reducible exact LeO.refl _)
   | (with_reducible exact LeO.none _)
   | (with_reducible refine LeO.ite ?_ ?_)
   | (with_reducible refine LeO.bind ?_ (fun _ => ?_))
   | exact ih0 _ _ _
   | exact ih1 _ _ _ _ _
   | exact spec_laChoose.mono _ _ _
   | exact spec_laSteps.mono _ _
   | exact spec_poGood.mono _ _
   | exact LeO.none _
   | refine LeO.ite ?_ ?_
   | refine LeO.bind ?_ (fun _ => ?_)
  ·intro y0 y1 y2 y3 y4
   unfold spec_LabelPolynomialAt.l0
   repeat' first
   | (with_reducible exact spec_laChoose.mono _ _ _)
   | (with_reducible exact spec_laSteps.mono _ _)
   | (with_reducible exact spec_poGood.mono _ _)
   | (with_reducible exact LeO.refl _)
   | (with_reducible exact LeO.none _)
   | (with_reducible refine LeO.ite ?_ ?_)
   | (with_reducible refine LeO.bind ?_ (fun _ => ?_))
   | exact ih0 _ _ _
   | exact ih1 _ _ _ _ _
   | exact spec_laChoose.mono _ _ _
   | exact spec_laSteps.mono _ _
   | exact spec_poGood.mono _ _
   | exact LeO.none _
   | refine LeO.ite ?_ ?_
   | refine LeO.bind ?_ (fun _ => ?_)
theorem spec_LabelPolynomialAt.mono : ∀ a0 a1 k, LeO (spec_LabelPolynomialAt.f k a0 a1) (spec_LabelPolynomialAt.f (k + 1) a0 a1) := by
 intro a0 a1 k
 obtain ⟨ih0, ih1⟩ := spec_LabelPolynomialAt.mono_l k
 unfold spec_LabelPolynomialAt.f
 repeat' first
  | (with_reducible exact spec_laChoose.mono _ _ _)
  | (with_reducible exact spec_laSteps.mono _ _)
  | (with_reducible exact spec_poGood.mono _ _)
  | (with_reducible exact LeO.refl _)
  | (with_reducible exact LeO.none _)
  | (with_reducible refine LeO.ite ?_ ?_)
  | (with_reducible refine LeO.bind ?_ (fun _ => ?_))
  | exact ih0 _ _ _
  | exact ih1 _ _ _ _ _
  | exact spec_laChoose.mono _ _ _
  | exact spec_laSteps.mono _ _
  | exact spec_poGood.mono _ _
  | exact LeO.none _
  | refine LeO.ite ?_ ?_
  | refine LeO.bind ?_ (fun _ => ?_)
set_option maxHeartbeats 8000000 in
set_option maxRecDepth 100000 in
theorem spec_LabelPolynomialAt.calls (k : Nat) (A0_0 : Option Addr) (c0_0 : Nat) (l0_0 : List Int) (a1 : Int) (r1 : Int) (r2 : Bool) (w : World) (hr0_0 : Kd.C (Kd.int .i64) w A0_0 l0_0.length l0_0) (hc0_0 : l0_0.length ≤ c0_0) (h : spec_LabelPolynomialAt.f k l0_0 a1 = some (r1, r2)) :
 Calls Try.prog 36 #[.agg #[.slice A0_0 l0_0.length c0_0], .int .i64 a1] w fun e w' => e = .returned (.tuple #[.int .i64 r1, .bool r2]) ∧ Below w.heap.size w w' := by
 have hu26 := Try.underlying26
 have HR0_0 := am hr0_0
 have HC0_0 := am hc0_0
 clear hr0_0 hc0_0
 have HB := am (Below.refl w.heap.size w)
 have H : ((spec_poGood.f k l0_0).bind fun t700 => (if t700 = true then ((spec_l1In.f a1 (-13) 13).bind fun t701 => (spec_LabelPolynomialAt.j0 k a1 (!t701) l0_0)) else (spec_LabelPolynomialAt.j0 k a1 true l0_0))) = some (r1, r2) := h
 clear h
 have HC3 := am H
 clear H
 go_enter Try.func36, Try.ntmps36
 go_upto_region 1 with (first | ((with_reducible refine gate_dst (N := 2) rfl ?_); refine qx (N := 2) (cs := #[.slice A0_0 l0_0.length c0_0]) (t := 26) ?_; intro gb699 hg w4 hbox hb; have n0_ := am (below_step qB hb); have BK699 := am (hbox); have GW699 := am (qg w hg); have GE699 := am (qg w hg); clear HB; have HB := n0_; clear n0_; clear hb hbox hg))
 (try simp only [Act.put, List.setIfInBounds_toArray, List.set_cons_zero, List.set_cons_succ])
 go_cut [16] (fun v16 wc => ∃ (kq : Nat) (x16_2 : Bool), v16 = .bool x16_2 ∧ Aside0 (spec_LabelPolynomialAt.j0 kq a1 x16_2 l0_0 = some (r1, r2)) ∧ Aside0 (kq ≤ k) ∧ Aside0 (wc.heap[gb699]? = some (.cells #[(.slice A0_0 l0_0.length c0_0)] 26 (0, 0))) ∧ Aside0 (Below w.heap.size w wc))
 case first =>
  have H := HC3.out
  clear HC3
  replace H := Option.bind_eq_some_iff.mp H
  obtain ⟨t700, A50, H⟩ := H
  replace H : (if t700 = true then ((spec_l1In.f a1 (-13) 13).bind fun t701 => (spec_LabelPolynomialAt.j0 k a1 (!t701) l0_0)) else (spec_LabelPolynomialAt.j0 k a1 true l0_0)) = some (r1, r2) := H
  have A5 := am A50
  clear A50
  by_cases c6 : t700 = true
  ·subst c6
   have H1 : ((spec_l1In.f a1 (-13) 13).bind fun t701 => (spec_LabelPolynomialAt.j0 k a1 (!t701) l0_0)) = some (r1, r2) := by rw [if_pos rfl] at H; exact H
   clear H
   have H := H1
   clear H1
   replace H := Option.bind_eq_some_iff.mp H
   obtain ⟨t701, A70, H⟩ := H
   replace H : (spec_LabelPolynomialAt.j0 k a1 (!t701) l0_0) = some (r1, r2) := H
   have A7 := am A70
   clear A70
   have H' := am H
   clear H
   have hcz8_0 := qz w4 BK699.out
   have hfz8_0 := blk_frozen BK699.out 0
   go_wp2_with (first | ((with_reducible refine gate_callee (f := 82) rfl ?_); refine gL (some 10) Try.func82 #[.agg #[.slice A0_0 l0_0.length c0_0]] ?_; (with_reducible refine (spec_poGood.calls k _ _ l0_0 true _ ?side1 ?side2 A5.out).mono ?_); (case side1 => exact qC (Kd.C_below HR0_0.out HB.out)); (case side2 => exact HC0_0.out); rintro e w9 ⟨rfl, hb⟩; refine ⟨_, rfl, ?_⟩; replace BK699 := am (blk_below (g := gb699) (o := .cells #[.slice A0_0 l0_0.length c0_0] 26 (0, 0)) (qb BK699.out) hb); replace HB := am (below_step qB hb); (try clear hb); (try clear hb2); (try clear hk); (try clear hi)) | (go_at_call 75; (with_reducible refine (spec_l1In.calls a1 (-13) 13 t701 _ A7.out).mono ?_); rintro e w' ⟨rfl, ⟨nd, rfl⟩⟩))
   go_meet
   case rel => exact ⟨_, (!t701), qe, H', ⟨by first | omega | exact Nat.le_refl _⟩, ⟨qb BK699.out⟩, ⟨qB⟩⟩
  ·replace c6 := Bool.eq_false_iff.mpr c6
   subst c6
   have H1 : (spec_LabelPolynomialAt.j0 k a1 true l0_0) = some (r1, r2) := by rw [if_neg (show ¬ (false = true) by decide)] at H; exact H
   clear H
   have H := H1
   clear H1
   have H' := am H
   clear H
   have hcz10_0 := qz w4 BK699.out
   have hfz10_0 := blk_frozen BK699.out 0
   go_wp2_with (first | ((with_reducible refine gate_callee (f := 82) rfl ?_); refine gL (some 10) Try.func82 #[.agg #[.slice A0_0 l0_0.length c0_0]] ?_; (with_reducible refine (spec_poGood.calls k _ _ l0_0 false _ ?side1 ?side2 A5.out).mono ?_); (case side1 => exact qC (Kd.C_below HR0_0.out HB.out)); (case side2 => exact HC0_0.out); rintro e w11 ⟨rfl, hb⟩; refine ⟨_, rfl, ?_⟩; replace BK699 := am (blk_below (g := gb699) (o := .cells #[.slice A0_0 l0_0.length c0_0] 26 (0, 0)) (qb BK699.out) hb); replace HB := am (below_step qB hb); (try clear hb); (try clear hb2); (try clear hk); (try clear hi)))
   go_meet
   case rel => exact ⟨_, (true), qe, H', ⟨by first | omega | exact Nat.le_refl _⟩, ⟨qb BK699.out⟩, ⟨qB⟩⟩
 case rest =>
  clear HC3
  try clear p2
  try clear c3
  try clear c6
  try clear c8
  try clear hcz10_0
  try clear hcz8_0
  try clear hfz10_0
  try clear hfz8_0
  obtain ⟨kq, x16_2, rfl, HA, HJ2, BK699, HB⟩ := hcut
  cases kq with
  | zero => exact absurd HA.out (by simp [spec_LabelPolynomialAt.j0])
  | succ kj2 =>
   have H := HA.out
   clear HA
   simp only [spec_LabelPolynomialAt.j0] at H
   by_cases c12 : x16_2 = true
   ·subst c12
    have H1 : (some (0, false)) = some (r1, r2) := by rw [if_pos rfl] at H; exact H
    clear H
    have H := H1
    clear H1
    simp only [Option.some.injEq, Prod.mk.injEq] at H
    obtain ⟨rfl, rfl⟩ := H
    go_wp2
    go_ret2
    exact ⟨qr, qB⟩
   ·replace c12 := Bool.eq_false_iff.mpr c12
    subst c12
    have H1 : ((spec_laSteps.f kj2 l0_0).bind fun t702 => (spec_LabelPolynomialAt.l0 kj2 a1 0 t702 (t702.length : Int) 0)) = some (r1, r2) := by rw [if_neg (show ¬ (false = true) by decide)] at H; exact H
    clear H
    have H := H1
    clear H1
    replace H := Option.bind_eq_some_iff.mp H
    obtain ⟨t702, A130, H⟩ := H
    replace H : (spec_LabelPolynomialAt.l0 kj2 a1 0 t702 (t702.length : Int) 0) = some (r1, r2) := H
    have A13 := am A130
    clear A130
    have H' := am H
    clear H
    have hcz14_0 := qz wc BK699.out
    have hfz14_0 := blk_frozen BK699.out 0
    go_wp2_with (first | ((with_reducible refine gate_callee (f := 98) rfl ?_); refine gL (some 18) Try.func98 #[.agg #[.slice A0_0 l0_0.length c0_0]] ?_; (with_reducible refine (spec_laSteps.calls kj2 _ _ l0_0 t702 _ ?side1 ?side2 A13.out).mono ?_); (case side1 => exact qC (Kd.C_below HR0_0.out HB.out)); (case side2 => exact HC0_0.out); rintro e w15 ⟨v703, rfl, ho0, hb⟩; refine ⟨_, rfl, ?_⟩; have HO704 := am (Kd.R_lower ho0 (below_size qB)); replace BK699 := am (blk_below (g := gb699) (o := .cells #[.slice A0_0 l0_0.length c0_0] 26 (0, 0)) (qb BK699.out) hb); replace HB := am (below_step qB hb); (try clear hb); (try clear hb2); (try clear hk); (try clear hi); (try clear ho0); obtain ⟨Ao16, co16, eo16⟩ := Kd.R_slice HO704.out; subst eo16))
    go_loopg [6, 20] kj2 (fun kq v6 v20 w' => ∃ (x6_2 : Int) (x20_2 : Int), v6 = .int .i64 x6_2 ∧ v20 = .int .i64 x20_2 ∧ Aside0 (spec_LabelPolynomialAt.l0 kq a1 x6_2 t702 (t702.length : Int) x20_2 = some (r1, r2)) ∧ Aside0 (kq ≤ kj2) ∧ Aside0 (Kd.R (Kd.int .i64) 3 w' w.heap.size (fun _ => True) (.slice Ao16 t702.length co16) t702) ∧ Aside0 (w'.heap[gb699]? = some (.cells #[(.slice A0_0 l0_0.length c0_0)] 26 (0, 0))) ∧ Aside0 (Below w.heap.size w w'))
    case atStart => exact ⟨(0), (0), qe, qe, H', ⟨Nat.le_refl _⟩, ⟨qR HO704.out⟩, ⟨qb BK699.out⟩, ⟨qB⟩⟩
    case round =>
     clear H'
     try clear c1
     try clear p2
     try clear c3
     try clear c6
     try clear c8
     try clear c9
     try clear c12
     try clear hcz10_0
     try clear hcz14_0
     try clear hcz8_0
     try clear hfz10_0
     try clear hfz14_0
     try clear hfz8_0
     try clear p2
     obtain ⟨x6_2, x20_2, rfl, rfl, HA, HK2, HO_18, BK699, HB⟩ := hrel
     cases gk with
     | zero => exact absurd HA.out (by simp [spec_LabelPolynomialAt.l0])
     | succ k2 =>
      have H := HA.out
      clear HA
      simp only [spec_LabelPolynomialAt.l0] at H
      by_cases c17 : x20_2 < (t702.length : Int)
      ·rw [if_pos c17] at H
       have c17b0 := decide_eq_true c17
       clear c17
       by_cases c18 : 0 ≤ x20_2
       rotate_left
       ·rw [if_neg c18] at H
        exact absurd H (by simp)
       rw [if_pos c18] at H
       have c18b0 := decide_eq_true c18
       clear c18
       by_cases c19 : x20_2 < (t702.length : Int)
       rotate_left
       ·rw [if_neg c19] at H
        exact absurd H (by simp)
       rw [if_pos c19] at H
       have c19b0 := decide_eq_true c19
       clear c19
       replace H := Option.bind_eq_some_iff.mp H
       obtain ⟨t706, A200, H⟩ := H
       replace H : (spec_LabelPolynomialAt.l0 k2 a1 (wrap64 (x6_2 + (wrap64 ((rd t702 x20_2) * t706)))) t702 (t702.length : Int) (wrap64 (x20_2 + 1))) = some (r1, r2) := H
       have A20 := am A200
       clear A200
       have H' := am H
       clear H
       have p705 : 0 ≤ (x20_2 : Int) := qd
       have q705 : x20_2 < (t702.length : Int) := qd
       obtain ⟨ad705, e705, hx705_0⟩ := Kd.at_int (Kd.R_reads' HO_18.out).2.2 x20_2 p705 q705
       cases e705
       replace p705 := eq_true p705
       replace q705 := eq_true q705
       go_wp2_with (first | ((with_reducible refine gate_callee (f := 99) rfl ?_); refine gL (some 30) Try.func99 #[.int .i64 a1, .int .i64 (wrap64 (x20_2 + 1))] ?_; (with_reducible refine (spec_laChoose.calls k2 a1 (wrap64 (x20_2 + 1)) t706 _ A20.out).mono ?_); rintro e w' ⟨rfl, ⟨nd, rfl⟩⟩; refine ⟨_, rfl, ?_⟩))
       go_roundg k2
       case measure => have := HJ2.out; have := HK2.out; omega
       case rel => exact ⟨(wrap64 (x6_2 + (wrap64 ((rd t702 x20_2) * t706)))), (wrap64 (x20_2 + 1)), qe, qe, H', ⟨by have := HJ2.out; have := HK2.out; omega⟩, ⟨qR HO_18.out⟩, ⟨qb BK699.out⟩, ⟨qB⟩⟩
      ·rw [if_neg c17] at H
       have c17b0 := decide_eq_false c17
       clear c17
       simp only [Option.some.injEq, Prod.mk.injEq] at H
       obtain ⟨rfl, rfl⟩ := H
       go_wp2
       go_ret2
       exact ⟨qr, qB⟩
def spec_StepCounts.f (k : Nat) (l0_0 : List Int) : Option (List Int × Bool) := (spec_poGood.f k l0_0).bind fun t713 => (if t713 = true then ((spec_laSteps.f k l0_0).bind fun t714 => (some (t714, true))) else (some (([] : List Int), false)))
theorem spec_StepCounts.mono : ∀ a0 k, LeO (spec_StepCounts.f k a0) (spec_StepCounts.f (k + 1) a0) := by
 intro a0 k
 unfold spec_StepCounts.f
 repeat' first
  | (with_reducible exact spec_laSteps.mono _ _)
  | (with_reducible exact spec_poGood.mono _ _)
  | (with_reducible exact LeO.refl _)
  | (with_reducible exact LeO.none _)
  | (with_reducible refine LeO.ite ?_ ?_)
  | (with_reducible refine LeO.bind ?_ (fun _ => ?_))
  | exact spec_laSteps.mono _ _
  | exact spec_poGood.mono _ _
  | exact LeO.none _
  | refine LeO.ite ?_ ?_
  | refine LeO.bind ?_ (fun _ => ?_)
set_option maxHeartbeats 8000000 in
set_option maxRecDepth 100000 in
theorem spec_StepCounts.calls (k : Nat) (A0_0 : Option Addr) (c0_0 : Nat) (l0_0 : List Int) (r1 : List Int) (r2 : Bool) (w : World) (hr0_0 : Kd.C (Kd.int .i64) w A0_0 l0_0.length l0_0) (hc0_0 : l0_0.length ≤ c0_0) (h : spec_StepCounts.f k l0_0 = some (r1, r2)) :
 Calls Try.prog 39 #[.agg #[.slice A0_0 l0_0.length c0_0]] w fun e w' => ∃ v0_ : Value, e = .returned (.tuple #[v0_, .bool r2]) ∧ Kd.R (Kd.int .i64) 3 w' w.heap.size (fun _ => True) v0_ r1 ∧ Below w.heap.size w w' := by
 have hu26 := Try.underlying26
 have HR0_0 := am hr0_0
 have HC0_0 := am hc0_0
 clear hr0_0 hc0_0
 have HB := am (Below.refl w.heap.size w)
 have H : ((spec_poGood.f k l0_0).bind fun t713 => (if t713 = true then ((spec_laSteps.f k l0_0).bind fun t714 => (some (t714, true))) else (some (([] : List Int), false)))) = some (r1, r2) := h
 clear h
 replace H := Option.bind_eq_some_iff.mp H
 obtain ⟨t713, A20, H⟩ := H
 replace H : (if t713 = true then ((spec_laSteps.f k l0_0).bind fun t714 => (some (t714, true))) else (some (([] : List Int), false))) = some (r1, r2) := H
 have A2 := am A20
 clear A20
 by_cases c3 : t713 = true
 ·subst c3
  have H1 : ((spec_laSteps.f k l0_0).bind fun t714 => (some (t714, true))) = some (r1, r2) := by rw [if_pos rfl] at H; exact H
  clear H
  have H := H1
  clear H1
  replace H := Option.bind_eq_some_iff.mp H
  obtain ⟨t714, A40, H⟩ := H
  replace H : (some (t714, true)) = some (r1, r2) := H
  have A4 := am A40
  clear A40
  simp only [Option.some.injEq, Prod.mk.injEq] at H
  obtain ⟨rfl, rfl⟩ := H
  go_enter Try.func39, Try.ntmps39
  go_wp2_with (first | ((with_reducible refine gate_dst (N := 1) rfl ?_); refine qx (N := 1) (cs := #[.slice A0_0 l0_0.length c0_0]) (t := 26) ?_; intro gb712 hg w5 hbox hb; have n0_ := am (below_step qB hb); have BK712 := am (hbox); have GW712 := am (qg w hg); have GE712 := am (qg w hg); clear HB; have HB := n0_; clear n0_; clear hb hbox hg; have hcz6_0 := qz w5 BK712.out; have hfz6_0 := blk_frozen BK712.out 0) | ((with_reducible refine gate_callee (f := 82) rfl ?_); refine gL (some 5) Try.func82 #[.agg #[.slice A0_0 l0_0.length c0_0]] ?_; (with_reducible refine (spec_poGood.calls k _ _ l0_0 true _ ?side1 ?side2 A2.out).mono ?_); (case side1 => exact qC (Kd.C_below HR0_0.out HB.out)); (case side2 => exact HC0_0.out); rintro e w7 ⟨rfl, hb⟩; refine ⟨_, rfl, ?_⟩; replace BK712 := am (blk_below (g := gb712) (o := .cells #[.slice A0_0 l0_0.length c0_0] 26 (0, 0)) (qb BK712.out) hb); replace HB := am (below_step qB hb); (try clear hb); (try clear hb2); (try clear hk); (try clear hi); have hcz8_0 := qz w7 BK712.out; have hfz8_0 := blk_frozen BK712.out 0) | ((with_reducible refine gate_callee (f := 98) rfl ?_); refine gL (some 8) Try.func98 #[.agg #[.slice A0_0 l0_0.length c0_0]] ?_; (with_reducible refine (spec_laSteps.calls k _ _ l0_0 t714 _ ?side1 ?side2 A4.out).mono ?_); (case side1 => exact qC (Kd.C_below HR0_0.out HB.out)); (case side2 => exact HC0_0.out); rintro e w9 ⟨v715, rfl, ho0, hb⟩; refine ⟨_, rfl, ?_⟩; have HO716 := am (Kd.R_lower ho0 (below_size qB)); replace BK712 := am (blk_below (g := gb712) (o := .cells #[.slice A0_0 l0_0.length c0_0] 26 (0, 0)) (qb BK712.out) hb); replace HB := am (below_step qB hb); (try clear hb); (try clear hb2); (try clear hk); (try clear hi); (try clear ho0)))
  go_ret2
  exact ⟨_, qr, qR HO716.out, qB⟩
 ·replace c3 := Bool.eq_false_iff.mpr c3
  subst c3
  have H1 : (some (([] : List Int), false)) = some (r1, r2) := by rw [if_neg (show ¬ (false = true) by decide)] at H; exact H
  clear H
  have H := H1
  clear H1
  simp only [Option.some.injEq, Prod.mk.injEq] at H
  obtain ⟨rfl, rfl⟩ := H
  go_enter Try.func39, Try.ntmps39
  go_wp2_with (first | ((with_reducible refine gate_dst (N := 1) rfl ?_); refine qx (N := 1) (cs := #[.slice A0_0 l0_0.length c0_0]) (t := 26) ?_; intro gb712 hg w10 hbox hb; have n0_ := am (below_step qB hb); have BK712 := am (hbox); have GW712 := am (qg w hg); have GE712 := am (qg w hg); clear HB; have HB := n0_; clear n0_; clear hb hbox hg; have hcz11_0 := qz w10 BK712.out; have hfz11_0 := blk_frozen BK712.out 0) | ((with_reducible refine gate_callee (f := 82) rfl ?_); refine gL (some 5) Try.func82 #[.agg #[.slice A0_0 l0_0.length c0_0]] ?_; (with_reducible refine (spec_poGood.calls k _ _ l0_0 false _ ?side1 ?side2 A2.out).mono ?_); (case side1 => exact qC (Kd.C_below HR0_0.out HB.out)); (case side2 => exact HC0_0.out); rintro e w12 ⟨rfl, hb⟩; refine ⟨_, rfl, ?_⟩; replace BK712 := am (blk_below (g := gb712) (o := .cells #[.slice A0_0 l0_0.length c0_0] 26 (0, 0)) (qb BK712.out) hb); replace HB := am (below_step qB hb); (try clear hb); (try clear hb2); (try clear hk); (try clear hi)))
  go_ret2
  exact ⟨_, qr, by first | exact Kd.R_nil _ _ _ _ _ | exact Kd.N_nil _ _ _ _ _ | exact Kd.V_nil _ _ _ _ _ | exact Kd.Q_nil _ _ _ _ _ | exact Kd.S_nil _ _ _ _ _, qB⟩
end Go.Proofs.Ytmbojobkiainlaa.F
end

section
namespace Go.Proofs.Ytmbojobkiainlaa.Q
open Go.RowKit Go.Proofs.YtmbojobkiainlaaW.PrintWords Go.Proofs.Ytmbojobkiainlaa.F
set_option linter.unusedVariables false
theorem chSpec_all : (List.range 27).all (fun x => (List.range 11).all fun j => decide (spec_laChoose.f 60 ((x : Int) - 13) (j : Int) = some (ch ((x : Int) - 13) j))) = true := by decide +kernel
theorem laChoose_ev {x : Int} (h0 : -13 ≤ x) (h1 : x ≤ 13) {j : Nat} (hj : j ≤ 10) : Ev (fun k => spec_laChoose.f k x (j : Int)) (ch x j) := by
 obtain ⟨a, ha⟩ := Int.eq_ofNat_of_zero_le (show 0 ≤ x + 13 by omega)
 have e : x = (a : Int) - 13 := by omega
 rw [e]
 exact Ev.of (spec_laChoose.mono _ _) (of_decide_eq_true (List.all_eq_true.1 (List.all_eq_true.1 chSpec_all a (List.mem_range.2 (by omega))) j (List.mem_range.2 (by omega))))
theorem lsIn_ev {q : Nat} (hq : q ≤ 10) : ∀ (l : List Nat) (j own : Nat), j + l.length ≤ 10 → own + dotL q l j ≤ 4000000000000000000 → Ev (fun k => lsIn k (q : Int) (ints l) j ((own + dotL q l j : Nat) : Int)) (own : Int)
 | [], j, own, _, _ => Ev.now _
 | n :: l, j, own, h, hb => by
  rw [List.length_cons] at h
  unfold dotL at hb ⊢
  show Ev (fun k => (spec_laChoose.f k (q : Int) (wrap64 ((j : Int) + 1))).bind fun c => lsIn k (q : Int) (ints l) (j + 1) (wrap64 (((own + (n * bin q (j + 1) + dotL q l (j + 1)) : Nat) : Int) - wrap64 ((n : Int) * c)))) _
  rw [wid1 (show j < 10 by omega) (by omega)]
  refine Ev.bind (laChoose_ev (by omega) (by omega) (by omega)) ?_
  rw [ch_bin (by omega) (by omega), show (n : Int) * ((bin q (j + 1) : Nat) : Int) = ((n * bin q (j + 1) : Nat) : Int) by rw [Int.natCast_mul], wid (n := ((n * bin q (j + 1) : Nat) : Int)) (by omega) (by omega),
   show ((own + (n * bin q (j + 1) + dotL q l (j + 1)) : Nat) : Int) - ((n * bin q (j + 1) : Nat) : Int) = ((own + dotL q l (j + 1) : Nat) : Int) by omega, wid (by omega) (by omega)]
  exact lsIn_ev hq l (j + 1) own (by omega) (by omega)
theorem stepsN_take (p : List Int) {m : Nat} (h : m ≤ p.length) : (stepsN p).take m = (List.range m).map fun j => wvN (opB p) (idealsN p) (j + 1) (allN p) := by
 unfold stepsN
 rw [← List.map_take, List.take_range, Nat.min_eq_left h]
theorem laSteps_ev {p : List Int} (hp : PO p) : Ev (fun k => spec_laSteps.f k p) (ints (stepsN p)) := by
 have hn := hp.small
 unfold spec_laSteps.f
 refine Ev.yes (by omega) ?_
 have key : ∀ i, i ≤ p.length → Ev (fun k => lsOut k p (p.length - i) (i + 1) (ints ((stepsN p).take i))) (ints (stepsN p)) := by
  refine downTo _ ?_ ?_
  ·rw [Nat.sub_self]
   refine Ev.ret ?_
   rw [List.take_of_length_le (by rw [stepsN_len]; omega)]
  ·intro i hi ih
   rw [show p.length - i = (p.length - (i + 1)) + 1 by omega]
   show Ev (fun k => (spec_laChains.f k p ((i + 1 : Nat) : Int) true).bind fun own => (lsIn k ((i + 1 : Nat) : Int) (ints ((stepsN p).take i)) 0 own).bind fun o => lsOut k p (p.length - (i + 1)) (i + 1 + 1) (ints ((stepsN p).take i) ++ [o])) _
   refine Ev.bind (laChains_ev hp true (by omega)) ?_
   have hb := wvN_small hn (B := stB p true) (k := i + 1) (t := allN p) (fun s t h => stB_sub h) (by omega)
   have e : wvN (stB p true) (idealsN p) (i + 1) (allN p) = wvN (opB p) (idealsN p) (i + 1) (allN p) + dotL (i + 1) ((stepsN p).take i) 0 := by
    rw [strict_all hp (i + 1), stepsN_take p (by omega), dotL_upto, upto_zero _ (i + 1) p.length (by omega) (fun j h1 _ => by rw [bin_big (i + 1) (j + 1) (by omega), Nat.zero_mul])]
    show upto _ i + bin (i + 1) (i + 1) * wvN (opB p) (idealsN p) (i + 1) (allN p) = _
    rw [bin_self, Nat.one_mul, Nat.add_comm]
   rw [e] at hb ⊢
   refine Ev.bind (lsIn_ev (q := i + 1) (by omega) ((stepsN p).take i) 0 _ (by rw [List.length_take, stepsN_len]; omega) (by omega)) ?_
   have e2 : ints ((stepsN p).take i) ++ [((wvN (opB p) (idealsN p) (i + 1) (allN p) : Nat) : Int)] = ints ((stepsN p).take (i + 1)) := by
    rw [stepsN_take p (by omega), stepsN_take p (by omega), List.range_succ, List.map_append, ints_app]; rfl
   rw [e2]
   exact ih
 exact key 0 (Nat.zero_le _)
end Go.Proofs.Ytmbojobkiainlaa.Q
end

section
namespace Go.Proofs.Ytmbojobkiainlaa.F
open Go.RowKit Go.Maps Go.Proofs.YtmbojobkiainlaaW.PrintWords Go.Proofs.YtmbojobkiainlaaW.PrintLast Go.Proofs.YtmbojobkiainlaaW.PrintMore
set_option linter.unusedVariables false
set_option linter.unusedSimpArgs false
/-- How many rows end in t, out of how many end in each. -/
def cntNew (B : Int → Int → Bool) (ids : List Int) (v : Int → Int) (t : Int) : Int := wrap64 (mpTot ids (fun s => B s t) v)
def cntAt (B : Int → Int → Bool) (ids : List Int) : Nat → Int → Int
 | 0 => fun s => if s = 0 then 1 else 0
 | k + 1 => cntNew B ids (cntAt B ids k)
def cntOk (ids : List Int) : Bool := decide (ids.Nodup) && (decide ((0 : Int) ∈ ids) && (decide (ids.length ≤ 1024) && ids.all fun s => decide (-9223372036854775808 ≤ s ∧ s ≤ 9223372036854775807)))
theorem cntOk_parts {ids : List Int} (h : cntOk ids = true) : ids.Nodup ∧ (0 : Int) ∈ ids ∧ ids.length ≤ 1024 ∧ ∀ s ∈ ids, -9223372036854775808 ≤ s ∧ s ≤ 9223372036854775807 := by
 unfold cntOk at h
 rw [Bool.and_eq_true, Bool.and_eq_true, Bool.and_eq_true, decide_eq_true_eq, decide_eq_true_eq, decide_eq_true_eq] at h
 exact ⟨h.1, h.2.1, h.2.2.1, fun s hs => of_decide_eq_true (List.all_eq_true.1 h.2.2.2 s hs)⟩
/-- The map in which the next rows are counted, while the old one is ranged over: the values at the elements ahead of i are drawn up, that at t as far as the range has come. -/
def cntMid (B : Int → Int → Bool) (ids : List Int) (v : Int → Int) (i : Nat) (s : Int) : Int := if s ∈ ids.take i then cntNew B ids v s else 0
def cntIn (B : Int → Int → Bool) (ids : List Int) (v : Int → Int) (i : Nat) (t : Int) (left : Lit → Bool) (s : Int) : Int := if s = t then wrap64 (mpTot ids (fun s => B s t && !left (.int .i64 s)) v) else cntMid B ids v i s
theorem cnt_notyet {ids : List Int} (hn : ids.Nodup) {i : Nat} (hi : i < ids.length) : ids.getD i 0 ∉ ids.take i := by
 rw [List.getD_eq_getElem?_getD, List.getElem?_eq_getElem hi]
 show ids[i] ∉ ids.take i
 intro h
 obtain ⟨j, hj, e⟩ := List.mem_take_iff_getElem.1 h
 have := (List.nodup_iff_pairwise_ne.1 hn)
 rw [List.pairwise_iff_getElem] at this
 exact this j i (by omega) hi (by omega) e
theorem cnt_start {B : Int → Int → Bool} {D Dr : DataW Unit} {ids : List Int} {v : Int → Int} {i : Nat} {t : Int} (hr : MpReads Dr ids v) (h : MpReads D ids (cntMid B ids v i)) (ht : t ∉ ids.take i) : MpReads D ids (cntIn B ids v i t (Maps.has Dr)) := by
 refine mp_congr h fun s hs => ?_
 unfold cntIn
 by_cases e : s = t
 ·subst e
  rw [if_pos rfl, mpTot_none]
  ·unfold cntMid; rw [if_neg ht]; unfold wrap64; decide
  ·intro y hy hp
   simp only [Bool.and_eq_true, Bool.not_eq_true'] at hp
   exact mp_absent hr hy hp.2
 ·rw [if_neg e]
theorem cnt_end {B : Int → Int → Bool} {D : DataW Unit} {ids : List Int} {v : Int → Int} {i : Nat} {left : Lit → Bool} (hn : ids.Nodup) (hi : i < ids.length) (hl : ∀ kl, left kl = false) (h : MpReads D ids (cntIn B ids v i (ids.getD i 0) left)) : MpReads D ids (cntMid B ids v (i + 1)) := by
 refine mp_congr h fun s hs => ?_
 have e0 : ids.take (i + 1) = ids.take i ++ [ids.getD i 0] := by
  rw [List.take_add_one, List.getElem?_eq_getElem hi, List.getD_eq_getElem?_getD, List.getElem?_eq_getElem hi]; rfl
 unfold cntIn cntMid
 rw [e0]
 by_cases e : s = ids.getD i 0
 ·rw [if_pos e, if_pos (List.mem_append.2 (.inr (by rw [e]; exact List.mem_singleton.2 rfl))), e]
  unfold cntNew
  congr 1
  exact mpTot_congr fun y hy => by rw [hl]; simp
 ·rw [if_neg e]
  by_cases e2 : s ∈ ids.take i
  ·rw [if_pos e2, if_pos (List.mem_append.2 (.inl e2))]
  ·rw [if_neg e2, if_neg (fun h => by
    rcases List.mem_append.1 h with h | h
    ·exact e2 h
    ·exact e (List.mem_singleton.1 h))]
/-- An entry has come that is no part of t. -/
theorem cnt_skip {B : Int → Int → Bool} {D : DataW Unit} {ids : List Int} {v : Int → Int} {i : Nat} {t x : Int} {left : Lit → Bool} (hn : ids.Nodup) (hx : x ∈ ids) (hlx : left (.int .i64 x) = true) (hb : B x t = false)
 (h : MpReads D ids (cntIn B ids v i t left)) : MpReads D ids (cntIn B ids v i t (fun z => left z && !z.sameKey (.int .i64 x))) := by
 refine mp_congr h fun s hs => ?_
 unfold cntIn
 by_cases e : s = t
 ·rw [if_pos e, if_pos e]
  congr 1
  have := mpTot_step (v := v) (x := x) (P := fun s => B s t && !left (.int .i64 s)) (P' := fun s => B s t && !(fun z : Lit => left z && !z.sameKey (.int .i64 x)) (.int .i64 s)) (by rw [hlx]; simp) (fun y hy => by show (_ && !((fun z : Lit => left z && !z.sameKey (.int .i64 x)) (.int .i64 y))) = _; rw [mp_strike left x y hy]) ids hn hx
  rw [this, if_neg (by show ¬ ((_ && _) = true); rw [hb]; simp)]
  omega
 ·rw [if_neg e, if_neg e]
/-- An entry has come that is part of t. -/
theorem cnt_add {B : Int → Int → Bool} {D : DataW Unit} {ids : List Int} {v : Int → Int} {i : Nat} {t x c c0 : Int} {left : Lit → Bool} (hn : ids.Nodup) (ht : t ∈ ids) (hx : x ∈ ids) (hc : v x = c) (hlx : left (.int .i64 x) = true) (hb : B x t = true)
 (hD : Maps.IsMap D) (h : MpReads D ids (cntIn B ids v i t left)) (h0 : D.atKey (.int .i64 t) (.lit (.int .i64 0)) = .lit (.int .i64 c0)) : MpReads (D.put (.int .i64 t) (.lit (.int .i64 (wrap64 (c0 + c))))) ids (cntIn B ids v i t (fun z => left z && !z.sameKey (.int .i64 x))) := by
 refine mp_congr (mp_put hD h ht) fun s hs => ?_
 have e0 : c0 = wrap64 (mpTot ids (fun s => B s t && !left (.int .i64 s)) v) := by
  have := h.at_ t ht
  rw [h0] at this
  injection this with this
  injection this with _ this
  rw [this]
  unfold cntIn
  rw [if_pos rfl]
 unfold cntIn
 by_cases e : s = t
 ·rw [if_pos e, if_pos e, e0, mp_wrap_add]
  congr 1
  have := mpTot_step (v := v) (x := x) (P := fun s => B s t && !left (.int .i64 s)) (P' := fun s => B s t && !(fun z : Lit => left z && !z.sameKey (.int .i64 x)) (.int .i64 s)) (by rw [hlx]; simp) (fun y hy => by show (_ && !((fun z : Lit => left z && !z.sameKey (.int .i64 x)) (.int .i64 y))) = _; rw [mp_strike left x y hy]) ids hn hx
  rw [this, if_pos (by show (_ && _) = true; rw [hb, mp_struck]; rfl), hc]
 ·rw [if_neg e, if_neg e, if_neg e]
/-- The sum at the end: another entry. -/
theorem cnt_sum {ids : List Int} {v : Int → Int} {x c : Int} {left : Lit → Bool} (hn : ids.Nodup) (hx : x ∈ ids) (hc : v x = c) (hlx : left (.int .i64 x) = true) :
 wrap64 (wrap64 (mpTot ids (fun s => !left (.int .i64 s)) v) + c) = wrap64 (mpTot ids (fun s => !(fun z : Lit => left z && !z.sameKey (.int .i64 x)) (.int .i64 s)) v) := by
 rw [mp_wrap_add]
 congr 1
 have := mpTot_step (v := v) (x := x) (P := fun s => !left (.int .i64 s)) (P' := fun s => !(fun z : Lit => left z && !z.sameKey (.int .i64 x)) (.int .i64 s)) (by rw [hlx]; rfl) (fun y hy => by show (!((fun z : Lit => left z && !z.sameKey (.int .i64 x)) (.int .i64 y))) = _; rw [mp_strike left x y hy]) ids hn hx
 rw [this, if_pos (by show (!_) = true; rw [mp_struck]; rfl), hc]
theorem cnt_first {B : Int → Int → Bool} (ids : List Int) (h : (0 : Int) ∈ ids) : MpReads ((DataW.map [] : DataW Unit).put (.int .i64 0) (.lit (.int .i64 1))) ids (cntAt B ids 0) := mp_congr (mp_put ⟨[], rfl⟩ (mp_empty ids) h) (fun _ _ => rfl)
theorem cnt_mid0 {B : Int → Int → Bool} (ids : List Int) (v : Int → Int) : MpReads (DataW.map [] : DataW Unit) ids (cntMid B ids v 0) := mp_congr (mp_empty ids) (fun s _ => by unfold cntMid; rw [if_neg (by simp)])
theorem cnt_done {B : Int → Int → Bool} {D : DataW Unit} {ids : List Int} {v : Int → Int} (h : MpReads D ids (cntMid B ids v ids.length)) : MpReads D ids (cntNew B ids v) := mp_congr h (fun s hs => by unfold cntMid; rw [List.take_length, if_pos hs])
end Go.Proofs.Ytmbojobkiainlaa.F
end

section
namespace Go.Proofs.Ytmbojobkiainlaa.Q
open Go.RowKit Go.Proofs.YtmbojobkiainlaaW.PrintWords Go.Proofs.Ytmbojobkiainlaa.F
set_option linter.unusedVariables false
theorem mpTot_ints {P' : Int → Bool} {v' : Int → Int} {P : Nat → Bool} {v : Nat → Nat} : ∀ ids : List Nat, (∀ s ∈ ids, P' (s : Int) = P s) → (∀ s ∈ ids, v' (s : Int) = (v s : Int)) → mpTot (ints ids) P' v' = ((sumL ((ids.filter P).map v) : Nat) : Int)
 | [], _, _ => rfl
 | s :: ids, h1, h2 => by
  have ih := mpTot_ints ids (fun s hs => h1 s (List.mem_cons_of_mem _ hs)) (fun s hs => h2 s (List.mem_cons_of_mem _ hs))
  unfold mpTot ints at ih ⊢
  rw [List.map_cons, List.map_cons, List.sum_cons, ih, List.filter_cons]
  have e1 := h1 s List.mem_cons_self
  have e2 := h2 s List.mem_cons_self
  show (if P' (s : Int) = true then v' (s : Int) else 0) + _ = _
  rw [e1, e2]
  cases P s with
  | true => rw [if_pos rfl, if_pos rfl, List.map_cons]; simp only [sumL]; omega
  | false => rw [if_neg (by simp), if_neg (by simp)]; omega
theorem cntAt_eq {p : List Int} (hp : p.length ≤ 10) {B' : Int → Int → Bool} {B : Nat → Nat → Bool} (hB : ∀ s ∈ idealsN p, ∀ t ∈ idealsN p, B' (s : Int) (t : Int) = B s t) (hsub : ∀ s t, B s t = true → subB s t = true) :
 ∀ k, k ≤ 14 → ∀ t ∈ idealsN p, cntAt B' (ints (idealsN p)) k (t : Int) = ((wvN B (idealsN p) k t : Nat) : Int)
 | 0, _, t, _ => by
  unfold cntAt wvN
  by_cases h : t = 0
  ·subst h; rfl
  ·rw [if_neg h, if_neg (by omega)]; rfl
 | k + 1, hk, t, ht => by
  unfold cntAt cntNew
  rw [mpTot_ints (P := fun s => B s t) (v := wvN B (idealsN p) k) (idealsN p) (fun s hs => hB s hs t ht) (fun s hs => cntAt_eq hp hB hsub k (by omega) s hs)]
  have := wvN_small hp (B := B) (k := k + 1) (t := t) hsub (by omega)
  have e : wvN B (idealsN p) (k + 1) t = sumL (((idealsN p).filter fun s => B s t).map (wvN B (idealsN p) k)) := by conv => lhs; unfold wvN
  rw [e] at this ⊢
  exact wid (by omega) (by omega)
theorem cntOk_ids {p : List Int} (hp : p.length ≤ 10) : cntOk (ints (idealsN p)) = true := by
 have h2 : 2 ^ p.length ≤ 1024 := Nat.le_trans (Nat.pow_le_pow_right (by decide) hp) (by decide)
 unfold cntOk
 rw [Bool.and_eq_true, Bool.and_eq_true, Bool.and_eq_true, decide_eq_true_eq, decide_eq_true_eq, decide_eq_true_eq, List.all_eq_true]
 refine ⟨?_, List.mem_map.2 ⟨0, zero_mem p, rfl⟩, ?_, fun x hx => ?_⟩
 ·unfold ints
  rw [List.nodup_iff_pairwise_ne, List.pairwise_map]
  exact (List.nodup_iff_pairwise_ne.1 (idealsN_nodup p)).imp (fun h e => h (Int.ofNat.inj e))
 ·rw [ints_len]; have := idealsN_len p; omega
 ·obtain ⟨s, hs, rfl⟩ := List.mem_map.1 hx
  have := (mem_idealsN.1 hs).1
  refine decide_eq_true ?_
  show _ ≤ (s : Int) ∧ (s : Int) ≤ _
  omega
end Go.Proofs.Ytmbojobkiainlaa.Q
end

section
namespace Go.Proofs.Ytmbojobkiainlaa.F
open Go.RowKit Go.Maps Go.Proofs.YtmbojobkiainlaaW.PrintWords Go.Proofs.YtmbojobkiainlaaW.PrintLast Go.Proofs.YtmbojobkiainlaaW.PrintMore
set_option linter.unusedVariables false
set_option linter.unusedSimpArgs false
/-- Whether a set is part of another one. -/
def cntB (s t : Int) : Bool := Go.bits .andNot .i64 s t == 0
def impl_Poset_count.f (k : Nat) (l0_0 : List Int) (a1 : Int) : Option Int := (impl_Poset_ideals.f k l0_0).bind fun ids => if cntOk ids = true ∧ (0 ≤ a1 ∧ a1 ≤ 1000) then some (wrap64 (mpTot ids (fun _ => true) (cntAt cntB ids a1.toNat))) else none
theorem impl_Poset_count.mono : ∀ a0 a1 k, LeO (impl_Poset_count.f k a0 a1) (impl_Poset_count.f (k + 1) a0 a1) := fun a0 a1 k => LeO.bind (impl_Poset_ideals.mono _ _) (fun _ => LeO.refl _)
set_option maxHeartbeats 8000000 in
set_option maxRecDepth 100000 in
theorem impl_Poset_count.calls (k : Nat) (A0_0 : Option Addr) (c0_0 : Nat) (l0_0 : List Int) (a1 : Int) (r : Int) (w : World) (hr0_0 : Kd.C (Kd.int .i64) w A0_0 l0_0.length l0_0) (hc0_0 : l0_0.length ≤ c0_0) (h : impl_Poset_count.f k l0_0 a1 = some r) :
 Calls Try.prog 70 #[.agg #[.slice A0_0 l0_0.length c0_0], .int .i64 a1] w fun e w' => e = .returned (.int .i64 r) ∧ Below w.heap.size w w' := by
 have hu30 := Try.underlying26
 have hmm := @run_makeMap Try.prog
 unfold impl_Poset_count.f at h
 obtain ⟨ids, hid, h⟩ := Option.bind_eq_some_iff.1 h
 split at h
 rotate_left
 ·cases h
 rename_i hok
 have h := Option.some.inj h
 obtain ⟨⟨hnd, h0, hlen, hwf⟩, ha0, ha1⟩ : (ids.Nodup ∧ (0 : Int) ∈ ids ∧ ids.length ≤ 1024 ∧ ∀ s ∈ ids, -9223372036854775808 ≤ s ∧ s ≤ 9223372036854775807) ∧ 0 ≤ a1 ∧ a1 ≤ 1000 := ⟨cntOk_parts hok.1, hok.2⟩
 obtain ⟨m, rfl⟩ := Int.eq_ofNat_of_zero_le ha0
 rw [Int.toNat_natCast] at h
 have hm : m ≤ 1000 := by omega
 have hpos : 0 < ids.length := List.length_pos_of_mem h0
 have HRES := am h
 have HID := am hid
 have HND := am hnd
 have HZ := am h0
 have HLEN := am hlen
 have HWF := am hwf
 have HM := am hm
 have HP := am hpos
 have HR := am (Kd.C_alloc hr0_0 (.cells #[.slice A0_0 l0_0.length c0_0] 26 (0, 0)))
 have HC := am hc0_0
 clear h hid hnd h0 hlen hwf hm hpos hr0_0 hc0_0 hok ha0 ha1
 go_enter Try.func70, Try.ntmps70
 go_wp2_with (first
  | (go_at_call 127; (with_reducible refine (impl_Poset_ideals.calls k A0_0 c0_0 l0_0 ids _ HR.out HC.out HID.out).mono ?_); rintro e w1 ⟨vi, rfl, hr1, hb1⟩; obtain ⟨g, cap, rfl, hgb, hgl, _⟩ := Kd.R_form hr1 HP.out; have HR1 := am hr1; have HB1 := am ((below_alloc (Below.refl w.heap.size w) _).trans (hb1.mono (by simp))); clear hr1 hb1 hgb)
  | (refine wpList_insert_own _ rfl (.tmp 17) (.const (.int .i64 0)) (.const (.int .i64 1)) 96 rfl 3 3 mp_law Try.underlying96 (plainElem (H := Unit) Try.prog 3) w1.heap.size 0 _ rfl (World.ownsMap_made w1 Try.prog 3 _) (by unfold maxLen; omega) (.int .i64 0) (.int .i64 1) (.int .i64 0) rfl rfl (keyOf_int_mk Try.underlying3 (by decide)) (.lit (.int .i64 1)) [] (plainElem_int Try.underlying3 (by decide)) ?_; intro w2 hown2 hgrow2; have HMAP := am (mp_norm mp_law hown2 (cnt_first (B := cntB) ids HZ.out)); have HB2 := am (((Below.refl w1.heap.size w1).alloc (Nat.le_refl _) (.map #[] 0)).grown hgrow2 (by simp) (fun j hj => by cases hj; exact Nat.le_refl _)); clear hown2 hgrow2)
  | go_in)
 clear hmm
 have hmm := @run_makeMap Try.prog
 go_loopg [6, 20] (m + 1) (fun kq v6 v20 w' => ∃ (q b : Nat) (D : DataW Unit), v6 = .map (some b) ∧ v20 = .int .i64 (q : Int) ∧ Aside0 (kq + q = m + 1 ∧ q ≤ m) ∧ Aside0 (w1.heap.size ≤ b) ∧ Aside0 (w'.ownsMap Try.prog 3 (plainElem Try.prog 3) b ids.length D) ∧ Aside0 (MpReads D ids (cntAt cntB ids q)) ∧ Aside0 (Below w1.heap.size w1 w'))
 case atStart => exact ⟨0, _, _, rfl, rfl, ⟨rfl, Nat.zero_le _⟩, ⟨Nat.le_refl _⟩, HMAP, ⟨cnt_first ids HZ.out⟩, HB2⟩
 case round =>
  obtain ⟨q, b, D, rfl, rfl, HK, HBB, HD, HRD, HBW⟩ := hrel
  obtain ⟨WA, rfl⟩ : ∃ x, x = wr := ⟨wr, rfl⟩
  cases gk with
  | zero => exact absurd HK.out (by omega)
  | succ k1 =>
   clear HMAP HB2
   by_cases hq : q < m
   ·have d1 : decide ((q : Int) < (m : Int)) = true := decide_eq_true (by omega)
    have d2 : decide (q < m) = true := decide_eq_true hq
    have d3 := eq_true hq
    have HQ := am hq
    clear hq
    go_wp2_with (fail)
    go_loopg [25] (ids.length + 1) (fun kq v25 w' => ∃ (i : Nat) (D1 : DataW Unit), v25 = .int .i64 (i : Int) ∧ Aside0 (kq + i = ids.length + 1 ∧ i ≤ ids.length) ∧ Aside0 (w'.ownsMap Try.prog 3 (plainElem Try.prog 3) WA.heap.size ids.length D1) ∧ Aside0 (MpReads D1 ids (cntMid cntB ids (cntAt cntB ids q) i)) ∧ Aside0 (w'.ownsMap Try.prog 3 (plainElem Try.prog 3) b ids.length D) ∧ Aside0 (Below w1.heap.size w1 w'))
    case atStart => exact ⟨0, _, rfl, ⟨rfl, Nat.zero_le _⟩, ⟨(World.ownsMap_made WA Try.prog 3 _).mono (Nat.zero_le _)⟩, ⟨cnt_mid0 ids _⟩, ⟨HD.out.alloc _⟩, ⟨HBW.out.alloc HBW.out.size _⟩⟩
    case round =>
     obtain ⟨i, D1, rfl, HK2, HD1, HRD1, HD0, HBW1⟩ := hrel
     obtain ⟨WB, rfl⟩ : ∃ x, x = wr := ⟨wr, rfl⟩
     cases gk with
     | zero => exact absurd HK2.out (by omega)
     | succ k2 =>
      by_cases hi : i < ids.length
      ·have hcell := mp_cell HR1.out HBW1.out i hi
       have hmem : ids.getD i 0 ∈ ids := by rw [List.getD_eq_getElem?_getD, List.getElem?_eq_getElem hi]; exact List.getElem_mem hi
       have HT := am (cnt_notyet HND.out hi)
       obtain ⟨t, ht⟩ : ∃ t, t = ids.getD i 0 := ⟨_, rfl⟩
       rw [← ht] at hcell hmem HT
       have HTE := am ht
       have HTM := am hmem
       clear ht hmem
       have e1 : (0 : Int) ≤ (i : Int) := by omega
       have e2 : (i : Int) < (ids.length : Int) := by omega
       have e3 : decide ((i : Int) < (ids.length : Int)) = true := decide_eq_true e2
       have e4 : decide (i < ids.length) = true := decide_eq_true hi
       have e5 := eq_true hi
       have HI := am hi
       clear hi
       go_wp2_with (first
        | (at_range; refine wpList_range_own _ rfl _ 96 rfl 3 3 mp_law Try.underlying96 _ b ids.length D rfl HD0.out ?_; intro w0 hrg0 hg0 hs0; have HRG0 := am hrg0; have HG0 := am hg0; clear hrg0 hg0 hs0)
        | go_in)
       go_frame
       clear hcell e1 e2 e3 e4 e5
       go_loopg [10] (Maps.size D + 1) (fun kq _ w' => ∃ (left : Lit → Bool) (cnt : Nat) (D2 : DataW Unit), Aside0 (kq = cnt + 1) ∧ Aside0 (w'.ranges Try.prog 3 (plainElem Try.prog 3) b WB.heap.size ids.length D left cnt) ∧ Aside0 (w'.ownsMap Try.prog 3 (plainElem Try.prog 3) WA.heap.size ids.length D2) ∧ Aside0 (MpReads D2 ids (cntIn cntB ids (cntAt cntB ids q) i t left)) ∧ Aside0 (Below w1.heap.size w1 w'))
       case atStart => exact ⟨_, _, _, ⟨rfl⟩, HRG0, ⟨HD1.out.kept HG0.out (by simp)⟩, ⟨cnt_start HRD.out HRD1.out HT.out⟩, ⟨HBW1.out.grown HG0.out HBW1.out.size (fun j hj => by cases hj)⟩⟩
       case round =>
        obtain ⟨left, cnt, D2, HK3, HRG, HD2, HRD2, HBW2⟩ := hrel
        obtain ⟨WC, rfl⟩ : ∃ x, x = wr := ⟨wr, rfl⟩
        have HNE : Aside0 (WB.heap.size ≠ b ∧ WB.heap.size ≠ WA.heap.size ∧ w1.heap.size ≤ WA.heap.size ∧ w1.heap.size ≤ WB.heap.size ∧ WA.heap.size ≠ b) := ⟨by have h1 := HD0.out.lt; have h2 := HD1.out.lt; have h3 := HBW.out.size; have h4 := HBW1.out.size; have h5 := HD.out.lt; omega⟩
        go_wp2_with (first
         | (at_next; refine wpList_next_ranges_ii _ rfl _ rfl 3 3 .i64 .i64 mp_law Try.underlying3 Try.underlying3 b WB.heap.size ids.length D left cnt rfl HRG.out ?_ ?_)
         | go_in)
        ·-- nothing is left
         intro hc0 hl0
         have hwi : wrap64 ((i : Int) + 1) = ((i + 1 : Nat) : Int) := by unfold wrap64; have := HI.out; have := HLEN.out; omega
         have HL0 := am hl0
         clear hc0 hl0
         go_wp2_with (fail)
         go_roundg k2
         case measure => omega
         case rel =>
          refine ⟨i + 1, D2, by rw [hwi], ⟨by have := HK2.out; have := HI.out; omega⟩, HD2, ⟨cnt_end HND.out HI.out HL0.out (by have := HRD2.out; rwa [HTE.out] at this)⟩, ⟨HRG.out.owns⟩, HBW2⟩
        ·intro x c w3 cnt1 hwx hwc hlx hat hrg1 hlt hg1 hs1 hen
         have HXV := am (mp_val HRD.out (Maps.has_true_of_atKey hat) hat)
         have HLX := am hlx
         have HRG1 := am hrg1
         have HLT := am hlt
         have HD2' := am (HD2.out.kept hg1 (by have := HNE.out; intro e; have := Option.some.inj e; omega))
         have HBW3 := am (HBW2.out.grown hg1 HBW2.out.size (fun j hj => by cases hj; exact HNE.out.2.2.2.1))
         clear hwx hwc hlx hat hrg1 hlt hg1 hs1
         cases hb : (Go.bits .andNot .i64 x t == 0) with
         | false =>
          have HB0 : Aside0 (cntB x t = _) := ⟨hb⟩
          go_wp2_with (fail)
          go_roundg (cnt1 + 1)
          case measure => have := HK3.out; have := HLT.out; omega
          case rel => exact ⟨_, cnt1, D2, ⟨rfl⟩, HRG1, HD2', ⟨cnt_skip HND.out HXV.out.1 HLX.out HB0.out HRD2.out⟩, HBW3⟩
         | true =>
          have HB0 : Aside0 (cntB x t = _) := ⟨hb⟩
          go_wp2_with (first
           | (at_lookup; refine wpList_lookup_own_int _ rfl _ _ 96 rfl 3 3 .i64 mp_law Try.underlying96 Try.underlying3 (mp_zero _) WA.heap.size ids.length D2 rfl HD2'.out _ _ rfl (keyOf_int_mk Try.underlying3 (mp_wf (HWF.out t HTM.out))) ?_; intro c0 hat0 hwc0; have HAT0 := am hat0; clear hat0 hwc0)
           | (at_mapUpdate; refine wpList_mapUpdate_own _ rfl _ _ _ 96 rfl 3 3 mp_law Try.underlying96 _ WA.heap.size ids.length D2 rfl HD2'.out (by have := HLEN.out; unfold maxLen; omega) _ _ _ rfl rfl (keyOf_int_mk Try.underlying3 (mp_wf (HWF.out t HTM.out))) _ [] (plainElem_int Try.underlying3 (wrap64_wf _)) ?_; intro w4 hown4 hgrow4; have HD4 := am hown4; have HG4 := am hgrow4; clear hown4 hgrow4)
           | go_in)
          have HRD4 := am (cnt_add (i := i) (v := cntAt cntB ids q) HND.out HTM.out HXV.out.1 HXV.out.2 HLX.out HB0.out HD2'.out.isMap HRD2.out HAT0.out)
          go_roundg (cnt1 + 1)
          case measure => have := HK3.out; have := HLT.out; omega
          case rel => exact ⟨_, cnt1, _, ⟨rfl⟩, ⟨HRG1.out.kept HG4.out (by have := HNE.out; intro e; have := Option.some.inj e; omega) (by have := HNE.out; intro e; have := Option.some.inj e; omega)⟩, ⟨mp_norm mp_law HD4.out HRD4.out⟩, HRD4, ⟨HBW3.out.grown HG4.out HBW3.out.size (fun j hj => by cases hj; exact HNE.out.2.2.1)⟩⟩
      ·have hi' : i = ids.length := by have := HK2.out; omega
       have e3 : decide ((i : Int) < (ids.length : Int)) = false := decide_eq_false (by omega)
       have e4 : decide (i < ids.length) = false := decide_eq_false hi
       have e5 : (i < ids.length) = False := eq_false hi
       have hwq : wrap64 ((q : Int) + 1) = ((q + 1 : Nat) : Int) := by unfold wrap64; have := HQ.out; have := HM.out; omega
       have HE := am hi'
       clear hi hi'
       go_wp2_with (fail)
       go_roundg k1
       case measure => omega
       case rel => exact ⟨q + 1, _, D1, rfl, by rw [hwq], ⟨by have := HK.out; have := HQ.out; omega⟩, ⟨HBW.out.size⟩, HD1, ⟨cnt_done (by have := HRD1.out; rwa [HE.out] at this)⟩, HBW1⟩
   ·have HQE : Aside0 (q = m) := ⟨by have := HK.out; omega⟩
    have d1 : decide ((q : Int) < (m : Int)) = false := decide_eq_false (by omega)
    have d2 : decide (q < m) = false := decide_eq_false hq
    have d3 : (q < m) = False := eq_false hq
    clear hq
    go_wp2_with (first
     | (at_range; refine wpList_range_own _ rfl _ 96 rfl 3 3 mp_law Try.underlying96 _ b ids.length D rfl HD.out ?_; intro w0 hrg0 hg0 hs0; have HRG0 := am hrg0; have HG0 := am hg0; clear hrg0 hg0 hs0)
     | go_in)
    go_frame
    go_loopg [12] (Maps.size D + 1) (fun kq v12 w' => ∃ (left : Lit → Bool) (cnt : Nat) (n : Int), v12 = .int .i64 n ∧ Aside0 (n = wrap64 (mpTot ids (fun s => !left (.int .i64 s)) (cntAt cntB ids q))) ∧ Aside0 (kq = cnt + 1) ∧ Aside0 (w'.ranges Try.prog 3 (plainElem Try.prog 3) b WA.heap.size ids.length D left cnt) ∧ Aside0 (Below w1.heap.size w1 w'))
    case atStart => exact ⟨_, _, 0, rfl, ⟨by rw [mpTot_none (fun s hs hk => mp_absent HRD.out hs (by simpa using hk))]; unfold wrap64; decide⟩, ⟨rfl⟩, HRG0, ⟨HBW.out.grown HG0.out HBW.out.size (fun j hj => by cases hj)⟩⟩
    case round =>
     obtain ⟨left, cnt, n, rfl, HN, HK3, HRG, HBW2⟩ := hrel
     obtain ⟨WC, rfl⟩ : ∃ x, x = wr := ⟨wr, rfl⟩
     go_wp2_with (first
      | (at_next; refine wpList_next_ranges_ii _ rfl _ rfl 3 3 .i64 .i64 mp_law Try.underlying3 Try.underlying3 b WA.heap.size ids.length D left cnt rfl HRG.out ?_ ?_)
      | go_in)
     ·intro hc0 hl0
      have HL0 := am hl0
      clear hc0 hl0
      go_wp2_with (fail)
      go_ret
      have hn : n = r := by
       rw [HN.out, ← HRES.out, ← HQE.out]
       congr 1
       exact mpTot_congr fun y hy => by rw [HL0.out]; rfl
      subst hn
      exact ⟨rfl, HB1.out.trans (HBW2.out.mono HB1.out.size)⟩
     ·intro x c w3 cnt1 hwx hwc hlx hat hrg1 hlt hg1 hs1 hen
      have HXV := am (mp_val HRD.out (Maps.has_true_of_atKey hat) hat)
      have HSUM := am (cnt_sum (ids := ids) HND.out HXV.out.1 HXV.out.2 hlx)
      have HRG1 := am hrg1
      have HLT := am hlt
      have HBW3 := am (HBW2.out.grown hg1 HBW2.out.size (fun j hj => by cases hj; exact HBW.out.size))
      clear hwx hwc hlx hat hrg1 hlt hg1 hs1
      go_wp2_with (fail)
      go_roundg (cnt1 + 1)
      case measure => have := HK3.out; have := HLT.out; omega
      case rel => exact ⟨_, cnt1, _, rfl, ⟨by rw [HN.out]; exact HSUM.out⟩, ⟨rfl⟩, HRG1, HBW3⟩
end Go.Proofs.Ytmbojobkiainlaa.F
end

section
namespace Go.Proofs.Ytmbojobkiainlaa.F
open Go.RowKit Go.Proofs.YtmbojobkiainlaaW.PrintWords Go.Proofs.YtmbojobkiainlaaW.PrintLast Go.Proofs.YtmbojobkiainlaaW.PrintMore
attribute [local go_sem] max2_int min2_int max_two min_two max_three min_three max_four min_four
set_option linter.unusedVariables false
set_option linter.unusedSimpArgs false
def impl_CountLabels.f (k : Nat) (l0_0 : List Int) (a1 : Int) : Option (Int × Bool) := (impl_IsPoset.f k l0_0).bind fun t669 => (if t669 = true then ((impl_isBound.f a1).bind fun t670 => (if t670 = true then ((impl_Poset_count.f k l0_0 a1).bind fun t671 => (some (t671, true))) else (some (0, false)))) else (some (0, false)))
theorem impl_CountLabels.mono : ∀ a0 a1 k, LeO (impl_CountLabels.f k a0 a1) (impl_CountLabels.f (k + 1) a0 a1) := by
 intro a0 a1 k
 unfold impl_CountLabels.f
 repeat' first
  | (with_reducible exact impl_IsPoset.mono _ _)
  | (with_reducible exact impl_Poset_count.mono _ _ _)
  | (with_reducible exact LeO.refl _)
  | (with_reducible exact LeO.none _)
  | (with_reducible refine LeO.ite ?_ ?_)
  | (with_reducible refine LeO.bind ?_ (fun _ => ?_))
  | exact impl_IsPoset.mono _ _
  | exact impl_Poset_count.mono _ _ _
  | exact LeO.none _
  | refine LeO.ite ?_ ?_
  | refine LeO.bind ?_ (fun _ => ?_)
set_option maxHeartbeats 8000000 in
set_option maxRecDepth 100000 in
theorem impl_CountLabels.calls (k : Nat) (A0_0 : Option Addr) (c0_0 : Nat) (l0_0 : List Int) (a1 : Int) (r1 : Int) (r2 : Bool) (w : World) (hr0_0 : Kd.C (Kd.int .i64) w A0_0 l0_0.length l0_0) (hc0_0 : l0_0.length ≤ c0_0) (h : impl_CountLabels.f k l0_0 a1 = some (r1, r2)) :
 Calls Try.prog 30 #[.agg #[.slice A0_0 l0_0.length c0_0], .int .i64 a1] w fun e w' => e = .returned (.tuple #[.int .i64 r1, .bool r2]) ∧ Below w.heap.size w w' := by
 have hu26 := Try.underlying26
 have HR0_0 := am hr0_0
 have HC0_0 := am hc0_0
 clear hr0_0 hc0_0
 have HB := am (Below.refl w.heap.size w)
 have H : ((impl_IsPoset.f k l0_0).bind fun t669 => (if t669 = true then ((impl_isBound.f a1).bind fun t670 => (if t670 = true then ((impl_Poset_count.f k l0_0 a1).bind fun t671 => (some (t671, true))) else (some (0, false)))) else (some (0, false)))) = some (r1, r2) := h
 clear h
 replace H := Option.bind_eq_some_iff.mp H
 obtain ⟨t669, A30, H⟩ := H
 replace H : (if t669 = true then ((impl_isBound.f a1).bind fun t670 => (if t670 = true then ((impl_Poset_count.f k l0_0 a1).bind fun t671 => (some (t671, true))) else (some (0, false)))) else (some (0, false))) = some (r1, r2) := H
 have A3 := am A30
 clear A30
 by_cases c4 : t669 = true
 ·subst c4
  have H1 : ((impl_isBound.f a1).bind fun t670 => (if t670 = true then ((impl_Poset_count.f k l0_0 a1).bind fun t671 => (some (t671, true))) else (some (0, false)))) = some (r1, r2) := by rw [if_pos rfl] at H; exact H
  clear H
  have H := H1
  clear H1
  replace H := Option.bind_eq_some_iff.mp H
  obtain ⟨t670, A50, H⟩ := H
  replace H : (if t670 = true then ((impl_Poset_count.f k l0_0 a1).bind fun t671 => (some (t671, true))) else (some (0, false))) = some (r1, r2) := H
  have A5 := am A50
  clear A50
  by_cases c6 : t670 = true
  ·subst c6
   have H1 : ((impl_Poset_count.f k l0_0 a1).bind fun t671 => (some (t671, true))) = some (r1, r2) := by rw [if_pos rfl] at H; exact H
   clear H
   have H := H1
   clear H1
   replace H := Option.bind_eq_some_iff.mp H
   obtain ⟨t671, A70, H⟩ := H
   replace H : (some (t671, true)) = some (r1, r2) := H
   have A7 := am A70
   clear A70
   simp only [Option.some.injEq, Prod.mk.injEq] at H
   obtain ⟨rfl, rfl⟩ := H
   go_enter Try.func30, Try.ntmps30
   go_wp2_with (first | ((with_reducible refine gate_dst (N := 2) rfl ?_); refine qx (N := 2) (cs := #[.slice A0_0 l0_0.length c0_0]) (t := 26) ?_; intro gb668 hg w8 hbox hb; have n0_ := am (below_step qB hb); have BK668 := am (hbox); have GW668 := am (qg w hg); have GE668 := am (qg w hg); clear HB; have HB := n0_; clear n0_; clear hb hbox hg; have hcz9_0 := qz w8 BK668.out; have hfz9_0 := blk_frozen BK668.out 0) | ((with_reducible refine gate_callee (f := 40) rfl ?_); refine gL (some 7) Try.func40 #[.agg #[.slice A0_0 l0_0.length c0_0]] ?_; (with_reducible refine (impl_IsPoset.calls k _ _ l0_0 true _ ?side1 ?side2 A3.out).mono ?_); (case side1 => exact qC (Kd.C_below HR0_0.out HB.out)); (case side2 => exact HC0_0.out); rintro e w10 ⟨rfl, hb⟩; refine ⟨_, rfl, ?_⟩; replace BK668 := am (blk_below (g := gb668) (o := .cells #[.slice A0_0 l0_0.length c0_0] 26 (0, 0)) (qb BK668.out) hb); replace HB := am (below_step qB hb); (try clear hb); (try clear hb2); (try clear hk); (try clear hi)) | (go_at_call 69; (with_reducible refine (impl_isBound.calls a1 true _ A5.out).mono ?_); rintro e w' ⟨rfl, ⟨nd, rfl⟩⟩; have hcz11_0 := qz w10 BK668.out; have hfz11_0 := blk_frozen BK668.out 0) | ((with_reducible refine gate_callee (f := 70) rfl ?_); refine gL (some 16) Try.func70 #[.agg #[.slice A0_0 l0_0.length c0_0], .int .i64 a1] ?_; (with_reducible refine (impl_Poset_count.calls k _ _ l0_0 a1 t671 _ ?side1 ?side2 A7.out).mono ?_); (case side1 => exact qC (Kd.C_below HR0_0.out qB)); (case side2 => exact HC0_0.out); rintro e w12 ⟨rfl, hb⟩; refine ⟨_, rfl, ?_⟩; replace BK668 := am (blk_below (g := gb668) (o := .cells #[.slice A0_0 l0_0.length c0_0] 26 (0, 0)) (qb BK668.out) hb); replace HB := am (below_step qB hb); (try clear hb); (try clear hb2); (try clear hk); (try clear hi)))
   go_ret2
   exact ⟨qr, qB⟩
  ·replace c6 := Bool.eq_false_iff.mpr c6
   subst c6
   have H1 : (some (0, false)) = some (r1, r2) := by rw [if_neg (show ¬ (false = true) by decide)] at H; exact H
   clear H
   have H := H1
   clear H1
   simp only [Option.some.injEq, Prod.mk.injEq] at H
   obtain ⟨rfl, rfl⟩ := H
   go_enter Try.func30, Try.ntmps30
   go_wp2_with (first | ((with_reducible refine gate_dst (N := 2) rfl ?_); refine qx (N := 2) (cs := #[.slice A0_0 l0_0.length c0_0]) (t := 26) ?_; intro gb668 hg w13 hbox hb; have n0_ := am (below_step qB hb); have BK668 := am (hbox); have GW668 := am (qg w hg); have GE668 := am (qg w hg); clear HB; have HB := n0_; clear n0_; clear hb hbox hg; have hcz14_0 := qz w13 BK668.out; have hfz14_0 := blk_frozen BK668.out 0) | ((with_reducible refine gate_callee (f := 40) rfl ?_); refine gL (some 7) Try.func40 #[.agg #[.slice A0_0 l0_0.length c0_0]] ?_; (with_reducible refine (impl_IsPoset.calls k _ _ l0_0 true _ ?side1 ?side2 A3.out).mono ?_); (case side1 => exact qC (Kd.C_below HR0_0.out HB.out)); (case side2 => exact HC0_0.out); rintro e w15 ⟨rfl, hb⟩; refine ⟨_, rfl, ?_⟩; replace BK668 := am (blk_below (g := gb668) (o := .cells #[.slice A0_0 l0_0.length c0_0] 26 (0, 0)) (qb BK668.out) hb); replace HB := am (below_step qB hb); (try clear hb); (try clear hb2); (try clear hk); (try clear hi)) | (go_at_call 69; (with_reducible refine (impl_isBound.calls a1 false _ A5.out).mono ?_); rintro e w' ⟨rfl, ⟨nd, rfl⟩⟩))
   go_ret2
   exact ⟨qr, qB⟩
 ·replace c4 := Bool.eq_false_iff.mpr c4
  subst c4
  have H1 : (some (0, false)) = some (r1, r2) := by rw [if_neg (show ¬ (false = true) by decide)] at H; exact H
  clear H
  have H := H1
  clear H1
  simp only [Option.some.injEq, Prod.mk.injEq] at H
  obtain ⟨rfl, rfl⟩ := H
  go_enter Try.func30, Try.ntmps30
  go_wp2_with (first | ((with_reducible refine gate_dst (N := 2) rfl ?_); refine qx (N := 2) (cs := #[.slice A0_0 l0_0.length c0_0]) (t := 26) ?_; intro gb668 hg w16 hbox hb; have n0_ := am (below_step qB hb); have BK668 := am (hbox); have GW668 := am (qg w hg); have GE668 := am (qg w hg); clear HB; have HB := n0_; clear n0_; clear hb hbox hg; have hcz17_0 := qz w16 BK668.out; have hfz17_0 := blk_frozen BK668.out 0) | ((with_reducible refine gate_callee (f := 40) rfl ?_); refine gL (some 7) Try.func40 #[.agg #[.slice A0_0 l0_0.length c0_0]] ?_; (with_reducible refine (impl_IsPoset.calls k _ _ l0_0 false _ ?side1 ?side2 A3.out).mono ?_); (case side1 => exact qC (Kd.C_below HR0_0.out HB.out)); (case side2 => exact HC0_0.out); rintro e w18 ⟨rfl, hb⟩; refine ⟨_, rfl, ?_⟩; replace BK668 := am (blk_below (g := gb668) (o := .cells #[.slice A0_0 l0_0.length c0_0] 26 (0, 0)) (qb BK668.out) hb); replace HB := am (below_step qB hb); (try clear hb); (try clear hb2); (try clear hk); (try clear hi)))
  go_ret2
  exact ⟨qr, qB⟩
end Go.Proofs.Ytmbojobkiainlaa.F
end

section
namespace Go.Proofs.Ytmbojobkiainlaa.Q
open Go.RowKit Go.Proofs.YtmbojobkiainlaaW.PrintWords Go.Proofs.Ytmbojobkiainlaa.F
set_option linter.unusedVariables false
theorem cntB_eq {s t : Nat} (hs : s < 2 ^ 62) (ht : t < 2 ^ 62) : cntB (s : Int) (t : Int) = subB s t := by
 unfold cntB subB
 rw [bits_andNotN hs ht, Bool.eq_iff_iff, beq_iff_eq, beq_iff_eq]
 omega
theorem stB_false (p : List Int) (s t : Nat) : stB p false s t = subB s t := by unfold stB; simp
theorem wv_total (p : List Int) (k : Nat) : wvN (stB p false) (idealsN p) (k + 1) (allN p) = sumL ((idealsN p).map (wvN (stB p false) (idealsN p) k)) := by
 conv => lhs; unfold wvN
 have e : (idealsN p).filter (fun s => stB p false s (allN p)) = idealsN p := List.filter_eq_self.2 fun s hs => by rw [stB_false]; exact sub_all (mem_idealsN.1 hs).1
 rw [e]
theorem count_ev {p : List Int} (hp : PO p) {m : Nat} (hm : m ≤ 13) : Ev (fun k => impl_Poset_count.f k p (m : Int)) ((wvN (stB p false) (idealsN p) (m + 1) (allN p) : Nat) : Int) := by
 have hn := hp.small
 unfold impl_Poset_count.f
 refine Ev.bind (ideals_ev hp) (Ev.yes ⟨cntOk_ids hn, by omega, by omega⟩ (Ev.ret ?_))
 rw [Int.toNat_natCast, mpTot_ints (P := fun _ => true) (v := wvN (stB p false) (idealsN p) m) (idealsN p) (fun _ _ => rfl) (fun s hs => ?_)]
 rotate_left
 ·refine cntAt_eq hn (fun a ha b hb => ?_) (fun s t h => stB_sub h) m (by omega) s hs
  rw [stB_false]
  exact cntB_eq (lt_pow (mem_idealsN.1 ha).1 (by omega)) (lt_pow (mem_idealsN.1 hb).1 (by omega))
 have hb := wvN_small hn (B := stB p false) (k := m + 1) (t := allN p) (fun s t h => stB_sub h) (by omega)
 rw [wv_total] at hb ⊢
 rw [List.filter_eq_self.2 (fun _ _ => rfl)]
 exact wid (by omega) (by omega)
theorem CountLabels_same (p : List Int) (hp : p.length ≤ 1048576) (_ : ∀ n ∈ p, (Lit.int .i64 n).wf = true) (m : Int) (_ : (Lit.int .i64 m).wf = true) :
 ∃ r, Ev (fun k => spec_CountLabels.f k p m) r ∧ Ev (fun k => impl_CountLabels.f k p m) r ∧ True := by
 unfold spec_CountLabels.f impl_CountLabels.f
 cases hpo : isPo p with
 | false =>
  refine ⟨(0, false), Ev.bind (poGood_ev p) ?_, Ev.bind (IsPoset_ev p) ?_, trivial⟩
  ·rw [hpo]; exact Ev.no (by simp) (Ev.now _)
  ·rw [hpo]; exact Ev.no (by simp) (Ev.now _)
 | true =>
  have hP := (isPo_iff p).1 hpo
  by_cases hm : 0 ≤ m ∧ m ≤ 12
  rotate_left
  ·refine ⟨(0, false), Ev.bind (poGood_ev p) ?_, Ev.bind (IsPoset_ev p) ?_, trivial⟩
   ·rw [hpo, laBound_eq, range_false hm]; exact Ev.yes rfl (Ev.call rfl (Ev.no (by simp) (Ev.now _)))
   ·rw [hpo, isBound_eq, range_false hm]; exact Ev.yes rfl (Ev.call rfl (Ev.no (by simp) (Ev.now _)))
  obtain ⟨q, rfl⟩ := Int.eq_ofNat_of_zero_le hm.1
  refine ⟨(((wvN (stB p false) (idealsN p) (q + 1) (allN p) : Nat) : Int), true), Ev.bind (poGood_ev p) ?_, Ev.bind (IsPoset_ev p) ?_, trivial⟩
  ·rw [hpo, laBound_eq, range_true hm]
   refine Ev.yes rfl (Ev.call rfl (Ev.yes rfl (Ev.bind ?_ (Ev.now _))))
   rw [show wrap64 ((q : Int) + 1) = ((q + 1 : Nat) : Int) from wid1 (show q < q + 1 by omega) (by omega)]
   exact laChains_ev hP false (by omega)
  ·rw [hpo, isBound_eq, range_true hm]
   exact Ev.yes rfl (Ev.call rfl (Ev.yes rfl (Ev.bind (count_ev hP (by omega)) (Ev.now _))))
end Go.Proofs.Ytmbojobkiainlaa.Q
end

section
namespace Go.Proofs.Ytmbojobkiainlaa.F
open Go.RowKit Go.Proofs.YtmbojobkiainlaaW.PrintWords Go.Proofs.YtmbojobkiainlaaW.PrintLast Go.Proofs.YtmbojobkiainlaaW.PrintMore
set_option linter.unusedVariables false
set_option linter.unusedSimpArgs false
mutual
def spec_StairA.l0 : Nat → Int → List (List Int) → Int → Option ((List (List Int)))
 | 0, _, _, _ => none
 | k + 1, x0, x4, x5 => if x5 ≤ x0 then (spec_StairA.l1 k x0 x4 x5 0) else (some x4)
def spec_StairA.l1 : Nat → Int → List (List Int) → Int → Int → Option ((List (List Int)))
 | 0, _, _, _, _ => none
 | k + 1, x0, x4, x5, x6 => if (wrap64 (x6 + x5)) ≤ x0 then (if x4.length < 5864062014805 then (spec_StairA.l1 k x0 (x4 ++ [(([x6, wrap64 (x6 + x5)] : List Int))]) x5 (wrap64 (x6 + 1))) else (none)) else (spec_StairA.l0 k x0 x4 (wrap64 (x5 + 1)))
end
def spec_StairA.f (k : Nat) (a0 : Int) : Option ((List (List Int))) := spec_StairA.l0 k a0 ([] : List (List Int)) 1
theorem spec_StairA.mono_l : ∀ k, (∀ y0 y1 y2, LeO (spec_StairA.l0 k y0 y1 y2) (spec_StairA.l0 (k + 1) y0 y1 y2)) ∧ (∀ y0 y1 y2 y3, LeO (spec_StairA.l1 k y0 y1 y2 y3) (spec_StairA.l1 (k + 1) y0 y1 y2 y3))
 | 0 => ⟨fun _ _ _ r h => by simp [spec_StairA.l0] at h, fun _ _ _ _ r h => by simp [spec_StairA.l1] at h⟩
 | k + 1 => by
  obtain ⟨ih0, ih1⟩ := spec_StairA.mono_l k
  refine ⟨?_, ?_⟩
  ·intro y0 y1 y2
   unfold spec_StairA.l0
   repeat' first
   | (with_reducible exact LeO.refl _)
   | (with_reducible exact LeO.none _)
   | (with_reducible refine LeO.ite ?_ ?_)
   | (with_reducible refine LeO.bind ?_ (fun _ => ?_))
   | exact ih0 _ _ _
   | exact ih1 _ _ _ _
   | exact LeO.none _
   | refine LeO.ite ?_ ?_
   | refine LeO.bind ?_ (fun _ => ?_)
  ·intro y0 y1 y2 y3
   unfold spec_StairA.l1
   repeat' first
   | (with_reducible exact LeO.refl _)
   | (with_reducible exact LeO.none _)
   | (with_reducible refine LeO.ite ?_ ?_)
   | (with_reducible refine LeO.bind ?_ (fun _ => ?_))
   | exact ih0 _ _ _
   | exact ih1 _ _ _ _
   | exact LeO.none _
   | refine LeO.ite ?_ ?_
   | refine LeO.bind ?_ (fun _ => ?_)
theorem spec_StairA.mono : ∀ a0 k, LeO (spec_StairA.f k a0) (spec_StairA.f (k + 1) a0) := by
 intro a0 k
 obtain ⟨ih0, ih1⟩ := spec_StairA.mono_l k
 unfold spec_StairA.f
 repeat' first
  | (with_reducible exact LeO.refl _)
  | (with_reducible exact LeO.none _)
  | (with_reducible refine LeO.ite ?_ ?_)
  | (with_reducible refine LeO.bind ?_ (fun _ => ?_))
  | exact ih0 _ _ _
  | exact ih1 _ _ _ _
  | exact LeO.none _
  | refine LeO.ite ?_ ?_
  | refine LeO.bind ?_ (fun _ => ?_)
mutual
def spec_StairB.l0 : Nat → List (List Int) → List (List Int) → Int → Int → List Int → Option (List Int × Bool)
 | 0, _, _, _, _, _ => none
 | k + 1, x1, x40, x41, x42, x1294000 => if x42 < x41 then (if 0 ≤ x42 then (if x42 < (x40.length : Int) then (spec_StairB.l1 k x1 x42 (rd_L1 x40 x42) x40 x41 x42 x1 (x1.length : Int) 0 x1294000) else (none)) else (none)) else (some (x1294000, true))
def spec_StairB.l1 : Nat → List (List Int) → Int → List Int → List (List Int) → Int → Int → List (List Int) → Int → Int → List Int → Option (List Int × Bool)
 | 0, _, _, _, _, _, _, _, _, _, _ => none
 | k + 1, x1, x8, x9, x40, x41, x42, x47, x48, x49, x1294000 => if x49 < x48 then (if 0 ≤ x49 then (if x49 < (x47.length : Int) then (if x8 = x49 then (spec_StairB.l1 k x1 x8 x9 x40 x41 x42 x47 x48 (wrap64 (x49 + 1)) x1294000) else (if 0 < (x9.length : Int) then (if 0 < ((rd_L1 x47 x49).length : Int) then (if (rd x9 0) ≤ (rd (rd_L1 x47 x49) 0) then (if 1 < ((rd_L1 x47 x49).length : Int) then (if 1 < (x9.length : Int) then (if (rd (rd_L1 x47 x49) 1) ≤ (rd x9 1) then (if 0 ≤ x8 then (if x8 < (x1294000.length : Int) then (spec_StairB.l1 k x1 x8 x9 x40 x41 x42 x47 x48 (wrap64 (x49 + 1)) (x1294000.set (x8 : Int).toNat (Go.bits .or .i64 (rd x1294000 x8) (shl .i64 1 x49)))) else (none)) else (none)) else (spec_StairB.l1 k x1 x8 x9 x40 x41 x42 x47 x48 (wrap64 (x49 + 1)) x1294000)) else (none)) else (none)) else (spec_StairB.l1 k x1 x8 x9 x40 x41 x42 x47 x48 (wrap64 (x49 + 1)) x1294000)) else (none)) else (none))) else (none)) else (none)) else (spec_StairB.l0 k x1 x40 x41 (wrap64 (x42 + 1)) x1294000)
end
def spec_StairB.f (k : Nat) (a0 : Int) (l1 : List (List Int)) : Option (List Int × Bool) := if 0 ≤ (l1.length : Int) then (if ((l1.length : Int) : Int).toNat ≤ 35184372088832 then (spec_StairB.l0 k l1 l1 (l1.length : Int) 0 (List.replicate ((l1.length : Int) : Int).toNat 0)) else (none)) else (none)
theorem spec_StairB.mono_l : ∀ k, (∀ y0 y1 y2 y3 y4, LeO (spec_StairB.l0 k y0 y1 y2 y3 y4) (spec_StairB.l0 (k + 1) y0 y1 y2 y3 y4)) ∧ (∀ y0 y1 y2 y3 y4 y5 y6 y7 y8 y9, LeO (spec_StairB.l1 k y0 y1 y2 y3 y4 y5 y6 y7 y8 y9) (spec_StairB.l1 (k + 1) y0 y1 y2 y3 y4 y5 y6 y7 y8 y9))
 | 0 => ⟨fun _ _ _ _ _ r h => by simp [spec_StairB.l0] at h, fun _ _ _ _ _ _ _ _ _ _ r h => by simp [spec_StairB.l1] at h⟩
 | k + 1 => by
  obtain ⟨ih0, ih1⟩ := spec_StairB.mono_l k
  refine ⟨?_, ?_⟩
  ·intro y0 y1 y2 y3 y4
   unfold spec_StairB.l0
   repeat' first
   | (with_reducible exact LeO.refl _)
   | (with_reducible exact LeO.none _)
   | (with_reducible refine LeO.ite ?_ ?_)
   | (with_reducible refine LeO.bind ?_ (fun _ => ?_))
   | exact ih0 _ _ _ _ _
   | exact ih1 _ _ _ _ _ _ _ _ _ _
   | exact LeO.none _
   | refine LeO.ite ?_ ?_
   | refine LeO.bind ?_ (fun _ => ?_)
  ·intro y0 y1 y2 y3 y4 y5 y6 y7 y8 y9
   unfold spec_StairB.l1
   repeat' first
   | (with_reducible exact LeO.refl _)
   | (with_reducible exact LeO.none _)
   | (with_reducible refine LeO.ite ?_ ?_)
   | (with_reducible refine LeO.bind ?_ (fun _ => ?_))
   | exact ih0 _ _ _ _ _
   | exact ih1 _ _ _ _ _ _ _ _ _ _
   | exact LeO.none _
   | refine LeO.ite ?_ ?_
   | refine LeO.bind ?_ (fun _ => ?_)
theorem spec_StairB.mono : ∀ a0 a1 k, LeO (spec_StairB.f k a0 a1) (spec_StairB.f (k + 1) a0 a1) := by
 intro a0 a1 k
 obtain ⟨ih0, ih1⟩ := spec_StairB.mono_l k
 unfold spec_StairB.f
 repeat' first
  | (with_reducible exact LeO.refl _)
  | (with_reducible exact LeO.none _)
  | (with_reducible refine LeO.ite ?_ ?_)
  | (with_reducible refine LeO.bind ?_ (fun _ => ?_))
  | exact ih0 _ _ _ _ _
  | exact ih1 _ _ _ _ _ _ _ _ _ _
  | exact LeO.none _
  | refine LeO.ite ?_ ?_
  | refine LeO.bind ?_ (fun _ => ?_)
def spec_StairB.T18 : Bool × List (List Nat × List Nat) := (true, [([], []), ([], []), ([0, 1], [0, 1]), ([2], [2]), ([3], [3]), ([4, 3], [3, 4]), ([5, 3], [3, 5]), ([3], [3]), ([7, 3], [3, 7]), ([8, 3], [3, 8]), ([6, 9, 3], [3, 6, 9]), ([3, 10], [3, 10]), ([11, 3], [11]), ([12], [12]), ([13, 12], [12, 13]), ([14, 12], [12, 14]), ([12], [12]), ([16, 12], [12, 16]), ([17, 12], [12, 17]), ([15, 18, 12], [12, 15, 18]), ([12, 19], [12, 19])])
def spec_StairB.B18 : List Nat := [0, 0, 3, 7, 15, 31, 63, 15, 143, 399, 1023, 2047, 4095, 8191, 16383, 32767, 8191, 73727, 204799, 524287, 1048575]
theorem spec_StairB.tab18 : rtab .any (opsOf Try.f152 18) = spec_StairB.T18 := by kernel_rfl
theorem spec_StairB.bits18 : waitsOk spec_StairB.T18.2 spec_StairB.B18 = true := by kernel_rfl
def spec_StairB.T19 : Bool × List (List Nat × List Nat) := (true, [([], []), ([0], [0]), ([], []), ([1, 2], [1, 2]), ([3], [3]), ([], []), ([5], [5]), ([4, 6], [4, 6]), ([1, 2, 0, 1, 2, 3, 4, 5, 6, 7], [1, 2]), ([8, 7, 0, 1, 2, 3, 4, 5, 6, 7], [7, 8])])
def spec_StairB.B19 : List Nat := [0, 1, 0, 7, 15, 0, 32, 127, 255, 511]
theorem spec_StairB.tab19 : rtab .any (opsOf Try.f152 19) = spec_StairB.T19 := by kernel_rfl
theorem spec_StairB.bits19 : waitsOk spec_StairB.T19.2 spec_StairB.B19 = true := by kernel_rfl
def spec_Staircase.f (k : Nat) (a0 : Int) : Option (List Int × Bool) := (spec_l1In.f a0 1 4).bind fun b => if b = true then (spec_StairA.f k a0).bind fun st => spec_StairB.f k a0 st else some ([], false)
theorem spec_Staircase.mono : ∀ a0 k, LeO (spec_Staircase.f k a0) (spec_Staircase.f (k + 1) a0) := fun a0 k => LeO.bind (LeO.refl _) (fun b => LeO.ite (LeO.bind (spec_StairA.mono _ _) (fun st => spec_StairB.mono _ _ _)) (LeO.refl _))
set_option maxHeartbeats 8000000 in
set_option maxRecDepth 100000 in
theorem spec_Staircase.calls (k : Nat) (a0 : Int) (r1 : List Int) (r2 : Bool) (w : World) (h : spec_Staircase.f k a0 = some (r1, r2)) :
 Calls Try.prog 152 #[.int .i64 a0] w fun e w' => ∃ v0_ : Value, e = .returned (.tuple #[.agg #[v0_], .bool r2]) ∧ Kd.R (Kd.int .i64) 3 w' w.heap.size (fun _ => True) v0_ r1 ∧ Below w.heap.size w w' := by
 have hu26 := Try.underlying26
 unfold spec_Staircase.f at h
 obtain ⟨b, hb1, h⟩ := Option.bind_eq_some_iff.1 h
 have HIN := am hb1
 have HB := am (Below.refl w.heap.size w)
 clear hb1
 cases b with
 | false =>
  obtain ⟨rfl, rfl⟩ : [] = r1 ∧ false = r2 := by simpa using h
  clear h
  go_enter Try.func152, Try.ntmps152
  go_wp2_with (first | ((with_reducible refine gate_dst (N := 2) rfl ?_); refine qx (N := 2) (cs := #[.slice none 0 0]) (t := 26) ?_; intro gb1289 hg w5 hbox hb; have n0_ := am (below_step qB hb); have BK1289 := am (hbox); have GW1289 := am (qg w hg); have GE1289 := am (qg w hg); clear HB; have HB := n0_; clear n0_; clear hb hbox hg) | (go_at_call 75; (with_reducible refine (spec_l1In.calls a0 1 4 false _ HIN.out).mono ?_); rintro e w' ⟨rfl, ⟨nd, rfl⟩⟩; have hcz : (w5.drewN nd).cell? ⟨gb1289, 0, none⟩ = some (.slice none 0 0) := (blk_cell (blk_drewN BK1289.out nd) 0).trans rfl; have hfz := blk_frozen (blk_drewN BK1289.out nd) 0))
  refine bodyPost_ret (results_ct rfl _ _ gb1289 26 #[.slice none 0 0] (0, 0) _ rfl (by refine blk_put (cs := #[.slice none 0 0]) ?_ 0 _ rfl; refine qb ?_; exact BK1289.out) Try.underlying26 rfl (by kernel_rfl)) rfl ?_
  exact ⟨_, rfl, Kd.R_nil _ _ _ _ _, below_set qB GE1289.out⟩
 | true =>
  have h := (if_pos rfl).symm.trans h
  obtain ⟨st0, hst, h⟩ := Option.bind_eq_some_iff.1 h
  have H' := am (show spec_StairA.l0 k a0 ([] : List (List Int)) 1 = some st0 from hst)
  have HBRUN := am h
  clear hst h
  go_enter Try.func152, Try.ntmps152
  go_wp2_with (first | ((with_reducible refine gate_dst (N := 2) rfl ?_); refine qx (N := 2) (cs := #[.slice none 0 0]) (t := 26) ?_; intro gb1289 hg w5 hbox hb; have n0_ := am (below_step qB hb); have BK1289 := am (hbox); have GW1289 := am (qg w hg); have GE1289 := am (qg w hg); clear HB; have HB := n0_; clear n0_; clear hb hbox hg) | (go_at_call 75; (with_reducible refine (spec_l1In.calls a0 1 4 true _ HIN.out).mono ?_); rintro e w' ⟨rfl, ⟨nd, rfl⟩⟩; have BKA := am (blk_drewN BK1289.out nd); have HBA := am (pw_below_drewN HB.out nd); clear BK1289 HB; generalize w5.drewN nd = W1 at BKA HBA ⊢; have HB := am (Below.refl W1.heap.size W1)))
  go_loopg [4, 5] k (fun kq v4 v5 w' => ∃ (x4_1 : List (List Int)) (x5_1 : Int), v5 = .int .i64 x5_1 ∧ Aside0 (spec_StairA.l0 kq a0 x4_1 x5_1 = some st0) ∧ Aside0 (kq ≤ k) ∧ Aside0 (Kd.S (Kd.slice 3 (Kd.int .i64)) 24 w' W1.heap.size (fun _ => True) v4 x4_1) ∧ Aside0 (Below W1.heap.size W1 w'))
  case atStart => exact ⟨(([] : List (List Int))), (1), qe, H', ⟨Nat.le_refl _⟩, ⟨by first | exact Kd.S_nil _ _ _ _ _ | exact Kd.N_nil _ _ _ _ _ | exact Kd.V_nil _ _ _ _ _ | exact Kd.Q_nil _ _ _ _ _ | exact Kd.R_nil _ _ _ _ _⟩, ⟨qB⟩⟩
  case round =>
   clear H'
   try clear c1
   obtain ⟨x4_1, x5_1, rfl, HA, HK1, HO_4, HB⟩ := hrel
   cases gk with
   | zero => exact absurd HA.out (by simp [spec_StairA.l0])
   | succ k1 =>
    have H := HA.out
    clear HA
    simp only [spec_StairA.l0] at H
    by_cases c2 : x5_1 ≤ a0
    ·rw [if_pos c2] at H
     have c2b0 := decide_eq_true c2
     clear c2
     have H' := am H
     clear H
     go_wp2
     go_loopg [4, 6] k1 (fun kq v4 v6 w' => ∃ (x4_2 : List (List Int)) (x6_2 : Int), v6 = .int .i64 x6_2 ∧ Aside0 (spec_StairA.l1 kq a0 x4_2 x5_1 x6_2 = some st0) ∧ Aside0 (kq ≤ k1) ∧ Aside0 (Kd.S (Kd.slice 3 (Kd.int .i64)) 24 w' W1.heap.size (fun _ => True) v4 x4_2) ∧ Aside0 (Below W1.heap.size W1 w'))
     case atStart => exact ⟨(x4_1), (0), qe, H', ⟨Nat.le_refl _⟩, ⟨qS HO_4.out⟩, ⟨qB⟩⟩
     case round =>
      clear H'
      try clear c1
      try clear c2
      try clear c2b0
      try clear p2
      obtain ⟨x4_2, x6_2, rfl, HA, HK2, HO_4, HB⟩ := hrel
      cases gk with
      | zero => exact absurd HA.out (by simp [spec_StairA.l1])
      | succ k2 =>
       have H := HA.out
       clear HA
       simp only [spec_StairA.l1] at H
       by_cases c3 : (wrap64 (x6_2 + x5_1)) ≤ a0
       ·rw [if_pos c3] at H
        have c3b0 : decide ((wrap64 (x6_2 + x5_1)) ≤ a0) = true := decide_eq_true c3
        clear c3
        obtain ⟨y1283, hy1283⟩ : ∃ y_ : List Int, y_ = (([x6_2, wrap64 (x6_2 + x5_1)] : List Int)) := ⟨_, rfl⟩
        replace H : (if x4_2.length < 5864062014805 then (spec_StairA.l1 k2 a0 (x4_2 ++ [y1283]) x5_1 (wrap64 (x6_2 + 1))) else (none)) = some st0 := by first | (rw [hy1283]; with_reducible exact H) | (have H2_ := (Option.bind_some _ _).symm.trans H; rw [hy1283]; with_reducible exact H2_) | (have H2_ := (Option.bind_some _ _).symm.trans H; with_reducible exact H2_) | with_reducible exact H | (rw [hy1283]; exact H) | exact H
        have Ny1283 := am hy1283
        clear hy1283
        by_cases c4 : x4_2.length < 5864062014805
        rotate_left
        ·rw [if_neg c4] at H
         exact absurd H (by simp)
        rw [if_pos c4] at H
        have LMc4 := am c4
        clear c4
        obtain ⟨y1286, hy1286⟩ : ∃ y_ : List (List Int), y_ = (x4_2 ++ [y1283]) := ⟨_, rfl⟩
        replace H : (spec_StairA.l1 k2 a0 y1286 x5_1 (wrap64 (x6_2 + 1))) = some st0 := by first | (rw [hy1286]; with_reducible exact H) | (have H2_ := (Option.bind_some _ _).symm.trans H; rw [hy1286]; with_reducible exact H2_) | (have H2_ := (Option.bind_some _ _).symm.trans H; with_reducible exact H2_) | with_reducible exact H | (rw [hy1286]; exact H) | exact H
        have Ny1286 := am hy1286
        clear hy1286
        have H' := am H
        clear H
        go_wp2_with (first | ((with_reducible refine gate_dst (N := 33) rfl ?_); refine Kd.R_lit (Kd.int .i64) _ 3 ?hg (N := 33) ?hd (xs := ([x6_2, wrap64 (x6_2 + x5_1)] : List Int)) (inner := [.int .i64 x6_2, .int .i64 (wrap64 (x6_2 + x5_1))]) (ok := fun _ => True) (okp := fun _ => True) ?hr ?hp (fun _ hk => hk) trivial (Below.refl _ _) (Nat.le_refl _) (by simp) ?_; (case hd => rfl); (case hg => rfl); (case hr => first | (go_simp; done) | (go_simp; rfl)); (case hp => exact (Reps.one (show Kd.M (Kd.int .i64) _ _ _ x6_2 [.int .i64 x6_2] from rfl) (Reps.one (show Kd.M (Kd.int .i64) _ _ _ (wrap64 (x6_2 + x5_1)) [.int .i64 (wrap64 (x6_2 + x5_1))] from rfl) (Reps.none _ _)))); intro v1284 w5 ho6 hb hg_ hnew_; clear hg_ hnew_; (first | rw [← Ny1283.out] at ho6 | (simp only [Int.reduceToNat] at ho6; rw [← Ny1283.out] at ho6)); replace HO_4 := am (Kd.S_elder' (qS HO_4.out) (Kd.R_base ho6) hb); have HO1285 := am (Kd.R_lower ho6 (below_size qB)); replace HB := am (below_step qB hb); clear hb ho6; obtain ⟨Ao8, co8, eo8⟩ := Kd.R_slice HO1285.out; subst eo8) | ((with_reducible refine gate_builtin (b := .append) (xs := #[.tmp 28, .tmp 34]) rfl ?_); at_builtin; refine Kd.S_append (Kd.slice 3 (Kd.int .i64)) (w0 := W1) W1.heap.size rfl (.tmp 28) (.tmp 34) 58 24 (.slice none 0 0) 24 rfl Try.underlying58 info24 rfl (by decide) (by omega) u4 x4_2 y1283 [.slice Ao8 y1283.length co8] (fun _ => True) (fun k_ => some k_ = (.slice Ao8 y1283.length co8 : Value).ownBlock) rfl rfl ?aP (fun k_ hk_ => ((Kd.R_mono (ok' := fun k_ => ((fun _ => True)) k_ ∧ some k_ ≠ (u4 : Value).ownBlock) (Kd.R_apart' (HO1285.out) (Kd.S_typed HO_4.out) (by decide)) (fun k_ hk => ⟨trivial, hk.2⟩))).1 k_ hk_.symm) ?aF ?aO ?aB ?aS ?aL ?_; (case aP => exact Kd.M_row (Kd.R_mono (Kd.R_tight rfl (Kd.R_mono (ok' := fun k_ => ((fun _ => True)) k_ ∧ some k_ ≠ (u4 : Value).ownBlock) (Kd.R_apart' (HO1285.out) (Kd.S_typed HO_4.out) (by decide)) (fun k_ hk => ⟨trivial, hk.2⟩))) (fun _ h_ => h_))); (case aB => exact qB); (case aF => exact (fun _ _ => trivial)); (case aO => exact (qS (Kd.S_mono HO_4.out (fun k_ hk => ⟨trivial, fun e_ => hk.2 e_⟩)))); (case aS => exact (below_size qB)); (case aL => have := LMc4.out; omega); intro v1287 w7 ho hb hg hat; rw [← Ny1286.out] at ho; have n0_ := am (hb); have HO1288 := am (ho); clear HB HO_4 HO1285; have HB := n0_; clear n0_; clear ho hb hg hat))
        go_roundg k2
        case measure => have := HK1.out; have := HK2.out; omega
        case rel => exact ⟨(y1286), (wrap64 (x6_2 + 1)), qe, H', ⟨by have := HK1.out; have := HK2.out; omega⟩, ⟨qS HO1288.out⟩, ⟨qB⟩⟩
       ·rw [if_neg c3] at H
        have c3b0 : decide ((wrap64 (x6_2 + x5_1)) ≤ a0) = false := decide_eq_false c3
        clear c3
        have H' := am H
        clear H
        go_wp2
        go_roundg k2
        case measure => have := HK1.out; have := HK2.out; omega
        case rel => exact ⟨(x4_2), (wrap64 (x5_1 + 1)), qe, H', ⟨by have := HK1.out; have := HK2.out; omega⟩, ⟨qS HO_4.out⟩, ⟨qB⟩⟩
    ·rw [if_neg c2] at H
     have c2b0 := decide_eq_false c2
     clear c2
     obtain rfl := Option.some.inj H
     obtain ⟨As1, cs1, es1⟩ := Kd.S_slice HO_4.out
     subst es1
     have HR1 := am (Kd.S_reads' HO_4.out).2.2
     have HC1 := am (Kd.S_reads' HO_4.out).2.1
     have BK1289 := am (blk_below BKA.out HB.out)
     have HBW := am (HBA.out.trans (HB.out.mono HBA.out.size))
     obtain ⟨W2, rfl⟩ : ∃ x, x = wr := ⟨wr, rfl⟩
     clear HB HO_4 BKA HBA
     have HB := am (Below.refl W2.heap.size W2)
     have H : (if 0 ≤ (x4_1.length : Int) then (if ((x4_1.length : Int) : Int).toNat ≤ 35184372088832 then (spec_StairB.l0 k x4_1 x4_1 (x4_1.length : Int) 0 (List.replicate ((x4_1.length : Int) : Int).toNat 0)) else (none)) else (none)) = some (r1, r2) := HBRUN.out
     clear HBRUN
     by_cases c3 : 0 ≤ (x4_1.length : Int)
     ·rw [if_pos c3] at H
      have c3b0 := eq_true c3
      have c3b1 : decide (0 ≤ (x4_1.length : Int)) = true := decide_eq_true c3
      clear c3
      by_cases c4 : ((x4_1.length : Int) : Int).toNat ≤ 35184372088832
      rotate_left
      ·rw [if_neg c4] at H
       exact absurd H (by simp)
      rw [if_pos c4] at H
      have c4b0 := eq_true c4
      have c4b1 : decide (((x4_1.length : Int) : Int).toNat ≤ 35184372088832) = true := decide_eq_true c4
      clear c4
      obtain ⟨y1290, hy1290⟩ : ∃ y_ : List Int, y_ = (List.replicate ((x4_1.length : Int) : Int).toNat 0) := ⟨_, rfl⟩
      replace H : (spec_StairB.l0 k x4_1 x4_1 (x4_1.length : Int) 0 y1290) = some (r1, r2) := by first | (rw [hy1290]; with_reducible exact H) | (have H2_ := (Option.bind_some _ _).symm.trans H; rw [hy1290]; with_reducible exact H2_) | (have H2_ := (Option.bind_some _ _).symm.trans H; with_reducible exact H2_) | with_reducible exact H | (rw [hy1290]; exact H) | exact H
      have Ny1290 := am hy1290
      clear hy1290
      have H' := am H
      clear H
      go_wp2_with (first | ((with_reducible refine gate_dst (N := 38) rfl ?_); refine Kd.R_make (Kd.int .i64) _ 3 rfl (N := 38) rfl 24 _ _ rfl (x4_1.length : Int) rfl rfl Try.underlying24 (.int .i64 0) 8 info3 rfl (by decide) (by omega) 0 (ok := fun _ => True) (okp := fun _ => True) rfl (fun _ hk => hk) trivial (qd) (Nat.le_trans (Nat.mul_le_mul_right _ (qd : (x4_1.length : Int).toNat ≤ 35184372088832)) (by omega)) (Below.refl _ _) (Nat.le_refl _) ?_; intro v1291 w6 ho7 hb hg_ hnew_; clear hg_ hnew_; (first | rw [← Ny1290.out] at ho7 | (simp only [Int.reduceToNat] at ho7; rw [← Ny1290.out] at ho7)); have HO1292 := am (Kd.R_lower ho7 (below_size qB)); replace BK1289 := am (blk_below (g := gb1289) (o := .cells #[.slice none 0 0] 26 (0, 0)) (qb BK1289.out) hb); replace HB := am (below_step qB hb); clear hb ho7; obtain ⟨Ao8, co8, eo8⟩ := Kd.R_slice HO1292.out; subst eo8) | ((with_reducible refine gate_dst (N := 7) rfl ?_); refine qx (N := 7) (cs := #[.slice none 0 0]) (t := 26) ?_; intro gb1293 hg w9 hbox hb; replace HO1292 := am (Kd.R_below (qR HO1292.out) hb); have n1_ := am (blk_below (g := gb1289) (o := .cells #[.slice none 0 0] 26 (0, 0)) (qb BK1289.out) hb); have n2_ := am (below_step qB hb); have BK1293 := am (hbox); have GW1293 := am (qg W2 hg); have GE1293 := am (qg W2 hg); have NB1289_1293 := am ((by rw [hg]; exact Nat.ne_of_lt (blk_lt (g := gb1289) (o := .cells #[.slice none 0 0] 26 (0, 0)) (qb BK1289.out)) : gb1289 ≠ gb1293)); have NB1293_1289 := am ((by rw [hg]; exact Nat.ne_of_gt (blk_lt (g := gb1289) (o := .cells #[.slice none 0 0] 26 (0, 0)) (qb BK1289.out)) : gb1293 ≠ gb1289)); clear BK1289 HB; have BK1289 := n1_; have HB := n2_; clear n1_ n2_; clear hb hbox hg; have hnb10 := NB1293_1289.out; have hnc10 := NB1289_1293.out; have hcz11_0 := qz w9 BK1293.out; have hfz11_0 := blk_frozen BK1293.out 0))
      go_loopg [42] k (fun kq v42 w' => ∃ (x42_1 : Int) (x1294000_1 : List Int) (u1294000 : Value), v42 = .int .i64 x42_1 ∧ Aside0 (spec_StairB.l0 kq x4_1 x4_1 (x4_1.length : Int) x42_1 x1294000_1 = some (r1, r2)) ∧ Aside0 (kq ≤ k) ∧ Aside0 (Kd.R (Kd.int .i64) 3 w' W2.heap.size (fun _ => True) u1294000 x1294000_1) ∧ Aside0 (w'.heap[gb1289]? = some (.cells #[(.slice none 0 0)] 26 (0, 0))) ∧ Aside0 (w'.heap[gb1293]? = some (.cells #[u1294000] 26 (0, 0))) ∧ Aside0 (Below W2.heap.size W2 w'))
      case atStart => exact ⟨(0), (y1290), (.slice Ao8 y1290.length co8), qe, H', ⟨Nat.le_refl _⟩, ⟨qR (Kd.R_mono (Kd.R_far (p := ⟨gb1293, 0, none⟩) (Kd.R_types HO1292.out BK1293.out (by decide)) (fun _ hk => hk.2) (.slice Ao8 y1290.length co8)) (fun _ hk => trivial))⟩, ⟨by (with_reducible repeat (first | refine blk_drewN ?_ _ | refine blk_drew ?_ | refine blk_alloc ?_ _)); refine blk_far ?_ NB1289_1293.out _; refine qb ?_; exact BK1289.out⟩, ⟨by (with_reducible repeat (first | refine blk_drewN ?_ _ | refine blk_drew ?_ | refine blk_alloc ?_ _)); refine blk_put (cs := #[.slice none 0 0]) ?_ 0 _ rfl; refine qb ?_; exact BK1293.out⟩, ⟨qB⟩⟩
      case round =>
       clear H'
       try clear c1
       try clear p2
       try clear c3
       try clear c3b0
       try clear c3b1
       try clear c4
       try clear c4b0
       try clear c4b1
       try clear c10
       try clear hcz11_0
       try clear hfz11_0
       obtain ⟨x42_1, x1294000_1, u1294000, rfl, HA, HK1, HO_1294000, BK1289, BK1293, HB⟩ := hrel
       cases gk with
       | zero => exact absurd HA.out (by simp [spec_StairB.l0])
       | succ k1 =>
        have H := HA.out
        clear HA
        simp only [spec_StairB.l0] at H
        by_cases c12 : x42_1 < (x4_1.length : Int)
        ·rw [if_pos c12] at H
         have c12b0 := decide_eq_true c12
         clear c12
         by_cases c13 : 0 ≤ x42_1
         rotate_left
         ·rw [if_neg c13] at H
          exact absurd H (by simp)
         rw [if_pos c13] at H
         have c13b0 := decide_eq_true c13
         clear c13
         by_cases c14 : x42_1 < (x4_1.length : Int)
         rotate_left
         ·rw [if_neg c14] at H
          exact absurd H (by simp)
         rw [if_pos c14] at H
         have c14b0 := decide_eq_true c14
         clear c14
         have H' := am H
         clear H
         have p1294 : 0 ≤ (x42_1 : Int) := qd
         have q1294 : x42_1 < (x4_1.length : Int) := qd
         obtain ⟨ad1294, A1294_0, c1294_0, e1294, hx1294_0, hl1294_0, hi1294_0⟩ := at_L1 HR1.out x42_1 p1294 q1294
         cases e1294
         replace hx1294_0 := (HB.out.cell (World.block_lt_of_cell? W2 _ hx1294_0)).trans hx1294_0
         have HR1294_0 := am hi1294_0
         have HC1294_0 := am hl1294_0
         clear hi1294_0 hl1294_0
         replace p1294 := eq_true p1294
         replace q1294 := eq_true q1294
         go_wp2
         go_loopg [49] k1 (fun kq v49 w' => ∃ (x49_2 : Int) (x1294000_2 : List Int) (u1294000 : Value), v49 = .int .i64 x49_2 ∧ Aside0 (spec_StairB.l1 kq x4_1 x42_1 (rd_L1 x4_1 x42_1) x4_1 (x4_1.length : Int) x42_1 x4_1 (x4_1.length : Int) x49_2 x1294000_2 = some (r1, r2)) ∧ Aside0 (kq ≤ k1) ∧ Aside0 (Kd.R (Kd.int .i64) 3 w' W2.heap.size (fun _ => True) u1294000 x1294000_2) ∧ Aside0 (w'.heap[gb1289]? = some (.cells #[(.slice none 0 0)] 26 (0, 0))) ∧ Aside0 (w'.heap[gb1293]? = some (.cells #[u1294000] 26 (0, 0))) ∧ Aside0 (Below W2.heap.size W2 w'))
         case atStart => exact ⟨(0), (x1294000_1), (u1294000), qe, H', ⟨Nat.le_refl _⟩, ⟨qR HO_1294000.out⟩, ⟨qb BK1289.out⟩, ⟨qb BK1293.out⟩, ⟨qB⟩⟩
         case round =>
          clear H'
          try clear c1
          try clear p1
          try clear q1
          try clear hx1
          try clear p2
          try clear c3
          try clear c3b0
          try clear c3b1
          try clear c4
          try clear c4b0
          try clear c4b1
          try clear c10
          try clear c12
          try clear c12b0
          try clear p12
          try clear q12
          try clear hx12
          try clear c13
          try clear c13b0
          try clear c14
          try clear c14b0
          try clear hcz11_0
          try clear hfz11_0
          try clear hx1294_0
          try clear p1294
          try clear p2
          try clear q1294
          obtain ⟨x49_2, x1294000_2, u1294000, rfl, HA, HK2, HO_1294000, BK1289, BK1293, HB⟩ := hrel
          cases gk with
          | zero => exact absurd HA.out (by simp [spec_StairB.l1])
          | succ k2 =>
           have H := HA.out
           clear HA
           simp only [spec_StairB.l1] at H
           by_cases c15 : x49_2 < (x4_1.length : Int)
           ·rw [if_pos c15] at H
            have c15b0 := decide_eq_true c15
            clear c15
            by_cases c16 : 0 ≤ x49_2
            rotate_left
            ·rw [if_neg c16] at H
             exact absurd H (by simp)
            rw [if_pos c16] at H
            have c16b0 := decide_eq_true c16
            clear c16
            by_cases c17 : x49_2 < (x4_1.length : Int)
            rotate_left
            ·rw [if_neg c17] at H
             exact absurd H (by simp)
            rw [if_pos c17] at H
            have c17b0 := decide_eq_true c17
            clear c17
            by_cases c18 : x42_1 = x49_2
            ·rw [if_pos c18] at H
             have c18b0 : (x42_1 == x49_2) = true := beq_iff_eq.mpr c18
             have c18b1 : (x42_1 != x49_2) = false := bne_eq_false_iff_eq.mpr c18
             clear c18
             have H' := am H
             clear H
             have p1295 : 0 ≤ (x49_2 : Int) := qd
             have q1295 : x49_2 < (x4_1.length : Int) := qd
             obtain ⟨ad1295, A1295_0, c1295_0, e1295, hx1295_0, hl1295_0, hi1295_0⟩ := at_L1 HR1.out x49_2 p1295 q1295
             obtain rfl : ad1294 = ad1295 := (by injection e1295)
             replace hx1295_0 := (HB.out.cell (World.block_lt_of_cell? W2 _ hx1295_0)).trans hx1295_0
             have HR1295_0 := am hi1295_0
             have HC1295_0 := am hl1295_0
             clear hi1295_0 hl1295_0
             replace p1295 := eq_true p1295
             replace q1295 := eq_true q1295
             try go_wp2
             have n0_ := am (Kd.R_drew HO_1294000.out)
             have n1_ := am (blk_drew BK1289.out)
             have n2_ := am (blk_drew BK1293.out)
             have n3_ := am (below_drew1 HB.out)
             clear HO_1294000
             clear BK1289
             clear BK1293
             clear HB
             have HO_1294000 := n0_
             have BK1289 := n1_
             have BK1293 := n2_
             have HB := n3_
             clear n0_ n1_ n2_ n3_
             refine start_ (n := 21) (S := fun w' => True) (ds := []) #[false, false, false, false, false, false, false, false, false, false, false, false, false, false, false, false, false, false, false, false, false] (by kernel_rfl) rfl rfl trivial (fun hHeld => ?_); refine with_tabW spec_StairB.tab18 spec_StairB.bits18 (fun HT_ HW_ => ?_)
             generalize wr.drew = w19 at HO_1294000 BK1289 BK1293 HB hHeld ⊢
             refine pure_ (i := 0) (N := some 54) (v := ?_) (a' := ?_) #[true, false, false, false, false, false, false, false, false, false, false, false, false, false, false, false, false, false, false, false, false] rfl rfl (any_of HT_.out (by kernel_rfl)) (fun _ _ _ h => h) (Or.inl ⟨by rfl, ?_⟩) ?_ ?_
             rotate_left
             ·intro w'
              go_simp
              with_reducible rfl
             rotate_left
             ·exact qP
             refine pure_ (i := 1) (N := some 55) (v := ?_) (a' := ?_) #[true, true, false, false, false, false, false, false, false, false, false, false, false, false, false, false, false, false, false, false, false] rfl rfl (any_of HT_.out (by kernel_rfl)) (fun _ _ _ h => h) (Or.inl ⟨by rfl, ?_⟩) ?_ ?_
             rotate_left
             ·intro w'
              go_simp
              with_reducible rfl
             rotate_left
             ·exact qP
             refine pure_ (i := 2) (N := some 56) (v := ?_) (a' := ?_) #[true, true, true, false, false, false, false, false, false, false, false, false, false, false, false, false, false, false, false, false, false] rfl rfl (any_of HT_.out (by kernel_rfl)) (fun _ _ _ h => h) (Or.inl ⟨by rfl, ?_⟩) ?_ ?_
             rotate_left
             ·intro w'
              go_simp
              with_reducible rfl
             rotate_left
             ·exact qP
             refine pure_ (i := 3) (N := some 57) (v := ?_) (a' := ?_) #[true, true, true, true, false, false, false, false, false, false, false, false, false, false, false, false, false, false, false, false, false] rfl rfl (any_of HT_.out (by kernel_rfl)) (fun _ _ _ h => h) (Or.inl ⟨by rfl, ?_⟩) ?_ ?_
             rotate_left
             ·intro w'
              go_simp
              with_reducible rfl
             rotate_left
             ·exact qP
             refine pure_ (i := 4) (N := some 58) (v := undef) (a' := ?_) #[true, true, true, true, true, false, false, false, false, false, false, false, false, false, false, false, false, false, false, false, false] rfl rfl (any_of HT_.out (by kernel_rfl)) (fun _ _ _ h => h) (Or.inr ⟨by rfl, rfl⟩) ?_ ?_
             rotate_left
             ·exact qP
             refine pure_ (i := 5) (N := some 59) (v := undef) (a' := ?_) #[true, true, true, true, true, true, false, false, false, false, false, false, false, false, false, false, false, false, false, false, false] rfl rfl (any_of HT_.out (by kernel_rfl)) (fun _ _ _ h => h) (Or.inr ⟨by rfl, rfl⟩) ?_ ?_
             rotate_left
             ·exact qP
             refine pure_ (i := 6) (N := some 60) (v := undef) (a' := ?_) #[true, true, true, true, true, true, true, false, false, false, false, false, false, false, false, false, false, false, false, false, false] rfl rfl (any_of HT_.out (by kernel_rfl)) (fun _ _ _ h => h) (Or.inr ⟨by rfl, rfl⟩) ?_ ?_
             rotate_left
             ·exact qP
             refine pure_ (i := 7) (N := some 61) (v := undef) (a' := ?_) #[true, true, true, true, true, true, true, true, false, false, false, false, false, false, false, false, false, false, false, false, false] rfl rfl (any_of HT_.out (by kernel_rfl)) (fun _ _ _ h => h) (Or.inr ⟨by rfl, rfl⟩) ?_ ?_
             rotate_left
             ·exact qP
             refine pure_ (i := 8) (N := some 62) (v := undef) (a' := ?_) #[true, true, true, true, true, true, true, true, true, false, false, false, false, false, false, false, false, false, false, false, false] rfl rfl (any_of HT_.out (by kernel_rfl)) (fun _ _ _ h => h) (Or.inr ⟨by rfl, rfl⟩) ?_ ?_
             rotate_left
             ·exact qP
             refine pure_ (i := 9) (N := some 63) (v := undef) (a' := ?_) #[true, true, true, true, true, true, true, true, true, true, false, false, false, false, false, false, false, false, false, false, false] rfl rfl (any_of HT_.out (by kernel_rfl)) (fun _ _ _ h => h) (Or.inr ⟨by rfl, rfl⟩) ?_ ?_
             rotate_left
             ·exact qP
             refine pure_ (i := 10) (N := some 64) (v := undef) (a' := ?_) #[true, true, true, true, true, true, true, true, true, true, true, false, false, false, false, false, false, false, false, false, false] rfl rfl (any_of HT_.out (by kernel_rfl)) (fun _ _ _ h => h) (Or.inr ⟨by rfl, rfl⟩) ?_ ?_
             rotate_left
             ·exact qP
             refine pure_ (i := 11) (N := some 65) (v := ?_) (a' := ?_) #[true, true, true, true, true, true, true, true, true, true, true, true, false, false, false, false, false, false, false, false, false] rfl rfl (any_of HT_.out (by kernel_rfl)) (fun _ _ _ h => h) (Or.inl ⟨by rfl, ?_⟩) ?_ ?_
             rotate_left
             ·intro w'
              go_simp
              with_reducible rfl
             rotate_left
             ·exact qP
             refine pure_ (i := 12) (N := some 66) (v := ?_) (a' := ?_) #[true, true, true, true, true, true, true, true, true, true, true, true, true, false, false, false, false, false, false, false, false] rfl rfl (any_of HT_.out (by kernel_rfl)) (fun _ _ _ h => h) (Or.inl ⟨by rfl, ?_⟩) ?_ ?_
             rotate_left
             ·intro w'
              go_simp
              with_reducible rfl
             rotate_left
             ·exact qP
             refine pure_ (i := 13) (N := some 67) (v := undef) (a' := ?_) #[true, true, true, true, true, true, true, true, true, true, true, true, true, true, false, false, false, false, false, false, false] rfl rfl (any_of HT_.out (by kernel_rfl)) (fun _ _ _ h => h) (Or.inr ⟨by rfl, rfl⟩) ?_ ?_
             rotate_left
             ·exact qP
             refine pure_ (i := 14) (N := some 68) (v := undef) (a' := ?_) #[true, true, true, true, true, true, true, true, true, true, true, true, true, true, true, false, false, false, false, false, false] rfl rfl (any_of HT_.out (by kernel_rfl)) (fun _ _ _ h => h) (Or.inr ⟨by rfl, rfl⟩) ?_ ?_
             rotate_left
             ·exact qP
             refine pure_ (i := 15) (N := some 69) (v := undef) (a' := ?_) #[true, true, true, true, true, true, true, true, true, true, true, true, true, true, true, true, false, false, false, false, false] rfl rfl (any_of HT_.out (by kernel_rfl)) (fun _ _ _ h => h) (Or.inr ⟨by rfl, rfl⟩) ?_ ?_
             rotate_left
             ·exact qP
             refine pure_ (i := 16) (N := some 70) (v := undef) (a' := ?_) #[true, true, true, true, true, true, true, true, true, true, true, true, true, true, true, true, true, false, false, false, false] rfl rfl (any_of HT_.out (by kernel_rfl)) (fun _ _ _ h => h) (Or.inr ⟨by rfl, rfl⟩) ?_ ?_
             rotate_left
             ·exact qP
             refine pure_ (i := 17) (N := some 71) (v := undef) (a' := ?_) #[true, true, true, true, true, true, true, true, true, true, true, true, true, true, true, true, true, true, false, false, false] rfl rfl (any_of HT_.out (by kernel_rfl)) (fun _ _ _ h => h) (Or.inr ⟨by rfl, rfl⟩) ?_ ?_
             rotate_left
             ·exact qP
             refine pure_ (i := 18) (N := some 72) (v := undef) (a' := ?_) #[true, true, true, true, true, true, true, true, true, true, true, true, true, true, true, true, true, true, true, false, false] rfl rfl (any_of HT_.out (by kernel_rfl)) (fun _ _ _ h => h) (Or.inr ⟨by rfl, rfl⟩) ?_ ?_
             rotate_left
             ·exact qP
             refine pure_ (i := 19) (N := some 73) (v := undef) (a' := ?_) #[true, true, true, true, true, true, true, true, true, true, true, true, true, true, true, true, true, true, true, true, false] rfl rfl (any_of HT_.out (by kernel_rfl)) (fun _ _ _ h => h) (Or.inr ⟨by rfl, rfl⟩) ?_ ?_
             rotate_left
             ·exact qP
             refine pure_ (i := 20) (N := some 74) (v := ?_) (a' := ?_) #[true, true, true, true, true, true, true, true, true, true, true, true, true, true, true, true, true, true, true, true, true] rfl rfl (any_of HT_.out (by kernel_rfl)) (fun _ _ _ h => h) (Or.inl ⟨by rfl, ?_⟩) ?_ ?_
             rotate_left
             ·intro w'
              go_simp
              with_reducible rfl
             rotate_left
             ·exact qP
             refine done_ (done_of HT_.out (by kernel_rfl)) ?_
             try go_wp2
             go_roundg k2
             case measure => have := HK1.out; have := HK2.out; omega
             case rel => exact ⟨(wrap64 (x49_2 + 1)), (x1294000_2), (u1294000), qe, H', ⟨by have := HK1.out; have := HK2.out; omega⟩, ⟨qR HO_1294000.out⟩, ⟨qb BK1289.out⟩, ⟨qb BK1293.out⟩, ⟨qB⟩⟩
            ·rw [if_neg c18] at H
             have c18b0 : (x42_1 == x49_2) = false := beq_eq_false_iff_ne.mpr c18
             have c18b1 : (x42_1 != x49_2) = true := bne_iff_ne.mpr c18
             by_cases c20 : 0 < ((rd_L1 x4_1 x42_1).length : Int)
             rotate_left
             ·rw [if_neg c20] at H
              exact absurd H (by simp)
             rw [if_pos c20] at H
             have c20b0 := decide_eq_true c20
             have c20b1 : decide (0 < (rd_L1 x4_1 x42_1).length) = true := decide_eq_true (by omega)
             clear c20
             by_cases c21 : 0 < ((rd_L1 x4_1 x49_2).length : Int)
             rotate_left
             ·rw [if_neg c21] at H
              exact absurd H (by simp)
             rw [if_pos c21] at H
             have c21b0 := decide_eq_true c21
             have c21b1 : decide (0 < (rd_L1 x4_1 x49_2).length) = true := decide_eq_true (by omega)
             clear c21
             by_cases c22 : (rd (rd_L1 x4_1 x42_1) 0) ≤ (rd (rd_L1 x4_1 x49_2) 0)
             ·rw [if_pos c22] at H
              have c22b0 := decide_eq_true c22
              clear c22
              by_cases c23 : 1 < ((rd_L1 x4_1 x49_2).length : Int)
              rotate_left
              ·rw [if_neg c23] at H
               exact absurd H (by simp)
              rw [if_pos c23] at H
              have c23b0 := decide_eq_true c23
              have c23b1 : decide (1 < (rd_L1 x4_1 x49_2).length) = true := decide_eq_true (by omega)
              clear c23
              by_cases c24 : 1 < ((rd_L1 x4_1 x42_1).length : Int)
              rotate_left
              ·rw [if_neg c24] at H
               exact absurd H (by simp)
              rw [if_pos c24] at H
              have c24b0 := decide_eq_true c24
              have c24b1 : decide (1 < (rd_L1 x4_1 x42_1).length) = true := decide_eq_true (by omega)
              clear c24
              by_cases c25 : (rd (rd_L1 x4_1 x49_2) 1) ≤ (rd (rd_L1 x4_1 x42_1) 1)
              ·rw [if_pos c25] at H
               have c25b0 := decide_eq_true c25
               clear c25
               by_cases c26 : 0 ≤ x42_1
               rotate_left
               ·rw [if_neg c26] at H
                exact absurd H (by simp)
               rw [if_pos c26] at H
               have c26b0 := decide_eq_true c26
               clear c26
               by_cases c27 : x42_1 < (x1294000_2.length : Int)
               rotate_left
               ·rw [if_neg c27] at H
                exact absurd H (by simp)
               rw [if_pos c27] at H
               have c27b0 := decide_eq_true c27
               clear c27
               have c28b0 := eq_true (qd : 0 ≤ x49_2)
               obtain ⟨ji29, hji29⟩ : ∃ j_ : Int, (shl .i64 1 x49_2) = j_ := ⟨_, rfl⟩
               replace H : (spec_StairB.l1 k2 x4_1 x42_1 (rd_L1 x4_1 x42_1) x4_1 (x4_1.length : Int) x42_1 x4_1 (x4_1.length : Int) (wrap64 (x49_2 + 1)) (x1294000_2.set (x42_1 : Int).toNat (Go.bits .or .i64 (rd x1294000_2 x42_1) (ji29)))) = some (r1, r2) := by first | (rw [hji29] at H; exact H) | (simp only [hji29] at H ⊢; exact H)
               have hji29_ : (IntKind.i64.wrap (1 * 2 ^ min x49_2.toNat 64)) = ji29 := hji29
               have hji29z : x49_2 ≤ 64 → (IntKind.i64.wrap (1 * 2 ^ x49_2.toNat)) = ji29 := shl_small hji29
               have hji29u : (IntKind.i64.wrap (2 ^ min x49_2.toNat 64)) = ji29 := by have h_ := hji29_; rw [Int.one_mul] at h_; exact h_
               have hji29v : x49_2 ≤ 64 → (IntKind.i64.wrap (2 ^ x49_2.toNat)) = ji29 := fun hle_ => by have h_ := hji29z hle_; rw [Int.one_mul] at h_; exact h_
               have hji29y : (wrap64 (1 * 2 ^ min x49_2.toNat 64)) = ji29 := (i64_w _).symm.trans hji29_
               have hji29x : x49_2 ≤ 64 → (wrap64 (1 * 2 ^ x49_2.toNat)) = ji29 := fun h_ => (i64_w _).symm.trans (hji29z h_)
               obtain ⟨y1301, hy1301⟩ : ∃ y_ : List Int, y_ = (x1294000_2.set (x42_1 : Int).toNat (Go.bits .or .i64 (rd x1294000_2 x42_1) (ji29))) := ⟨_, rfl⟩
               replace H : (spec_StairB.l1 k2 x4_1 x42_1 (rd_L1 x4_1 x42_1) x4_1 (x4_1.length : Int) x42_1 x4_1 (x4_1.length : Int) (wrap64 (x49_2 + 1)) y1301) = some (r1, r2) := by first | (rw [hy1301]; with_reducible exact H) | (have H2_ := (Option.bind_some _ _).symm.trans H; rw [hy1301]; with_reducible exact H2_) | (have H2_ := (Option.bind_some _ _).symm.trans H; with_reducible exact H2_) | with_reducible exact H | (rw [hy1301]; exact H) | exact H
               have Ny1301 := am hy1301
               clear hy1301
               have H' := am H
               clear H
               have p1295 : 0 ≤ (x49_2 : Int) := qd
               have q1295 : x49_2 < (x4_1.length : Int) := qd
               obtain ⟨ad1295, A1295_0, c1295_0, e1295, hx1295_0, hl1295_0, hi1295_0⟩ := at_L1 HR1.out x49_2 p1295 q1295
               obtain rfl : ad1294 = ad1295 := (by injection e1295)
               replace hx1295_0 := (HB.out.cell (World.block_lt_of_cell? W2 _ hx1295_0)).trans hx1295_0
               have HR1295_0 := am hi1295_0
               have HC1295_0 := am hl1295_0
               clear hi1295_0 hl1295_0
               replace p1295 := eq_true p1295
               replace q1295 := eq_true q1295
               try go_wp2
               have n0_ := am (Kd.R_drew HO_1294000.out)
               have n1_ := am (blk_drew BK1289.out)
               have n2_ := am (blk_drew BK1293.out)
               have n3_ := am (below_drew1 HB.out)
               clear HO_1294000
               clear BK1289
               clear BK1293
               clear HB
               have HO_1294000 := n0_
               have BK1289 := n1_
               have BK1293 := n2_
               have HB := n3_
               clear n0_ n1_ n2_ n3_
               have p1296 : 0 ≤ (0 : Int) := (by omega)
               have q1296 : 0 < ((rd_L1 x4_1 x42_1).length : Int) := qd
               obtain ⟨ad1296, e1296, hx1296_0⟩ := Kd.at_int HR1294_0.out 0 p1296 q1296
               have hw1296_0 := hx1296_0
               (try rw [show ((0 : Int)).toNat = 0 from rfl] at hw1296_0)
               (try rw [show 0 * 1 = 0 from rfl] at hw1296_0)
               (try rw [Addr.add_zero'] at hw1296_0)
               cases e1296
               have qi1296 : (0 < (rd_L1 x4_1 x42_1).length) = True := eq_true (by omega)
               (try rw [show ((0 : Int)).toNat = 0 from rfl] at hx1296_0)
               (try rw [Addr.add_zero'] at hx1296_0)
               replace hx1296_0 := (HB.out.cell (World.block_lt_of_cell? W2 _ hx1296_0)).trans hx1296_0
               replace p1296 := eq_true p1296
               replace q1296 := eq_true q1296
               have p1297 : 0 ≤ (0 : Int) := (by omega)
               have q1297 : 0 < ((rd_L1 x4_1 x49_2).length : Int) := qd
               obtain ⟨ad1297, e1297, hx1297_0⟩ := Kd.at_int HR1295_0.out 0 p1297 q1297
               have hw1297_0 := hx1297_0
               (try rw [show ((0 : Int)).toNat = 0 from rfl] at hw1297_0)
               (try rw [show 0 * 1 = 0 from rfl] at hw1297_0)
               (try rw [Addr.add_zero'] at hw1297_0)
               cases e1297
               have qi1297 : (0 < (rd_L1 x4_1 x49_2).length) = True := eq_true (by omega)
               (try rw [show ((0 : Int)).toNat = 0 from rfl] at hx1297_0)
               (try rw [Addr.add_zero'] at hx1297_0)
               replace hx1297_0 := (HB.out.cell (World.block_lt_of_cell? W2 _ hx1297_0)).trans hx1297_0
               replace p1297 := eq_true p1297
               replace q1297 := eq_true q1297
               have p1298 : 0 ≤ (1 : Int) := (by omega)
               have q1298 : 1 < ((rd_L1 x4_1 x49_2).length : Int) := qd
               obtain ⟨ad1298, e1298, hx1298_0⟩ := Kd.at_int HR1295_0.out 1 p1298 q1298
               have hw1298_0 := hx1298_0
               (try rw [show ((1 : Int)).toNat = 1 from rfl] at hw1298_0)
               (try rw [show 1 * 1 = 1 from rfl] at hw1298_0)
               (try simp only [Nat.reduceMul, Nat.reduceEqDiff, Go.Addr.add, ↓reduceIte] at hw1298_0)
               obtain rfl : ad1297 = ad1298 := (by injection e1298)
               (try simp only [show (1 : Int).toNat = 1 from rfl, Nat.reduceMul, Nat.reduceEqDiff, Go.Addr.add, ↓reduceIte] at hx1298_0)
               have qi1298 : (1 < (rd_L1 x4_1 x49_2).length) = True := eq_true (by omega)
               (try rw [show ((1 : Int)).toNat = 1 from rfl] at hx1298_0)
               replace hx1298_0 := (HB.out.cell (World.block_lt_of_cell? W2 _ hx1298_0)).trans hx1298_0
               replace p1298 := eq_true p1298
               replace q1298 := eq_true q1298
               have p1299 : 0 ≤ (1 : Int) := (by omega)
               have q1299 : 1 < ((rd_L1 x4_1 x42_1).length : Int) := qd
               obtain ⟨ad1299, e1299, hx1299_0⟩ := Kd.at_int HR1294_0.out 1 p1299 q1299
               have hw1299_0 := hx1299_0
               (try rw [show ((1 : Int)).toNat = 1 from rfl] at hw1299_0)
               (try rw [show 1 * 1 = 1 from rfl] at hw1299_0)
               (try simp only [Nat.reduceMul, Nat.reduceEqDiff, Go.Addr.add, ↓reduceIte] at hw1299_0)
               obtain rfl : ad1296 = ad1299 := (by injection e1299)
               (try simp only [show (1 : Int).toNat = 1 from rfl, Nat.reduceMul, Nat.reduceEqDiff, Go.Addr.add, ↓reduceIte] at hx1299_0)
               have qi1299 : (1 < (rd_L1 x4_1 x42_1).length) = True := eq_true (by omega)
               (try rw [show ((1 : Int)).toNat = 1 from rfl] at hx1299_0)
               replace hx1299_0 := (HB.out.cell (World.block_lt_of_cell? W2 _ hx1299_0)).trans hx1299_0
               replace p1299 := eq_true p1299
               replace q1299 := eq_true q1299
               refine start_ (n := 21) (S := fun w' => w'.cell? ad1296 = some (.int .i64 (rd (rd_L1 x4_1 x42_1) 0)) ∧ w'.cell? ad1297 = some (.int .i64 (rd (rd_L1 x4_1 x49_2) 0)) ∧ w'.cell? ⟨ad1297.block, ad1297.off + 1, none⟩ = some (.int .i64 (rd (rd_L1 x4_1 x49_2) 1)) ∧ w'.cell? ⟨ad1296.block, ad1296.off + 1, none⟩ = some (.int .i64 (rd (rd_L1 x4_1 x42_1) 1))) (ds := []) #[false, false, false, false, false, false, false, false, false, false, false, false, false, false, false, false, false, false, false, false, false] (by kernel_rfl) rfl rfl ⟨((HB.out.cell (World.block_lt_of_cell? W2 _ hw1296_0)).trans hw1296_0), ((HB.out.cell (World.block_lt_of_cell? W2 _ hw1297_0)).trans hw1297_0), ((HB.out.cell (World.block_lt_of_cell? W2 _ hw1298_0)).trans hw1298_0), ((HB.out.cell (World.block_lt_of_cell? W2 _ hw1299_0)).trans hw1299_0)⟩ (fun hHeld => ?_); refine with_tabW spec_StairB.tab18 spec_StairB.bits18 (fun HT_ HW_ => ?_)
               generalize wr.drew = w31 at HO_1294000 BK1289 BK1293 HB hx1296_0 hx1297_0 hx1298_0 hx1299_0 hHeld ⊢
               refine pure_ (i := 0) (N := some 54) (v := ?_) (a' := ?_) #[true, false, false, false, false, false, false, false, false, false, false, false, false, false, false, false, false, false, false, false, false] rfl rfl (any_of HT_.out (by kernel_rfl)) (fun _ _ _ h => h) (Or.inl ⟨by rfl, ?_⟩) ?_ ?_
               rotate_left
               ·intro w'
                go_simp
                with_reducible rfl
               rotate_left
               ·exact qP
               refine pure_ (i := 1) (N := some 55) (v := ?_) (a' := ?_) #[true, true, false, false, false, false, false, false, false, false, false, false, false, false, false, false, false, false, false, false, false] rfl rfl (any_of HT_.out (by kernel_rfl)) (fun _ _ _ h => h) (Or.inl ⟨by rfl, ?_⟩) ?_ ?_
               rotate_left
               ·intro w'
                go_simp
                with_reducible rfl
               rotate_left
               ·exact qP
               refine pure_ (i := 2) (N := some 56) (v := ?_) (a' := ?_) #[true, true, true, false, false, false, false, false, false, false, false, false, false, false, false, false, false, false, false, false, false] rfl rfl (any_of HT_.out (by kernel_rfl)) (fun _ _ _ h => h) (Or.inl ⟨by rfl, ?_⟩) ?_ ?_
               rotate_left
               ·intro w'
                go_simp
                with_reducible rfl
               rotate_left
               ·exact qP
               refine pure_ (i := 3) (N := some 57) (v := ?_) (a' := ?_) #[true, true, true, true, false, false, false, false, false, false, false, false, false, false, false, false, false, false, false, false, false] rfl rfl (any_of HT_.out (by kernel_rfl)) (fun _ _ _ h => h) (Or.inl ⟨by rfl, ?_⟩) ?_ ?_
               rotate_left
               ·intro w'
                go_simp
                with_reducible rfl
               rotate_left
               ·exact qP
               refine pure_ (i := 4) (N := some 58) (v := ?_) (a' := ?_) #[true, true, true, true, true, false, false, false, false, false, false, false, false, false, false, false, false, false, false, false, false] rfl rfl (any_of HT_.out (by kernel_rfl)) (fun _ _ _ h => h) (Or.inl ⟨by rfl, ?_⟩) ?_ ?_
               rotate_left
               ·intro w'
                go_simp
                with_reducible rfl
               rotate_left
               ·exact qP
               refine pure_ (i := 5) (N := some 59) (v := ?_) (a' := ?_) #[true, true, true, true, true, true, false, false, false, false, false, false, false, false, false, false, false, false, false, false, false] rfl rfl (any_of HT_.out (by kernel_rfl)) (fun _ _ _ h => h) (Or.inl ⟨by rfl, ?_⟩) ?_ ?_
               rotate_left
               ·intro w'
                go_simp
                with_reducible rfl
               rotate_left
               ·exact qP
               refine pure_ (i := 7) (N := some 61) (v := ?_) (a' := ?_) #[true, true, true, true, true, true, false, true, false, false, false, false, false, false, false, false, false, false, false, false, false] rfl rfl (any_of HT_.out (by kernel_rfl)) (fun _ _ _ h => h) (Or.inl ⟨by rfl, ?_⟩) ?_ ?_
               rotate_left
               ·intro w'
                go_simp
                with_reducible rfl
               rotate_left
               ·exact qP
               refine pure_ (i := 8) (N := some 62) (v := ?_) (a' := ?_) #[true, true, true, true, true, true, false, true, true, false, false, false, false, false, false, false, false, false, false, false, false] rfl rfl (any_of HT_.out (by kernel_rfl)) (fun _ _ _ h => h) (Or.inl ⟨by rfl, ?_⟩) ?_ ?_
               rotate_left
               ·intro w'
                go_simp
                with_reducible rfl
               rotate_left
               ·exact qP
               refine take_ (i := 6) (N := some 60) (v := ?_) (a' := ?_) #[true, true, true, true, true, true, true, true, true, false, false, false, false, false, false, false, false, false, false, false, false] rfl rfl (take_ofW HT_.out HW_.out (by kernel_rfl)) (fun _ _ _ h => h) (Or.inl ⟨by rfl, ?_⟩) hHeld ?_ ?_
               rotate_left
               ·rintro w' ⟨s0, s1, s2, s3⟩
                go_simp
                with_reducible rfl
               rotate_left
               ·exact qP
               refine take_ (i := 9) (N := some 63) (v := ?_) (a' := ?_) #[true, true, true, true, true, true, true, true, true, true, false, false, false, false, false, false, false, false, false, false, false] rfl rfl (take_ofW HT_.out HW_.out (by kernel_rfl)) (fun _ _ _ h => h) (Or.inl ⟨by rfl, ?_⟩) hHeld ?_ ?_
               rotate_left
               ·rintro w' ⟨s0, s1, s2, s3⟩
                go_simp
                with_reducible rfl
               rotate_left
               ·exact qP
               refine pure_ (i := 10) (N := some 64) (v := ?_) (a' := ?_) #[true, true, true, true, true, true, true, true, true, true, true, false, false, false, false, false, false, false, false, false, false] rfl rfl (any_of HT_.out (by kernel_rfl)) (fun _ _ _ h => h) (Or.inl ⟨by rfl, ?_⟩) ?_ ?_
               rotate_left
               ·intro w'
                go_simp
                with_reducible rfl
               rotate_left
               ·exact qP
               refine pure_ (i := 11) (N := some 65) (v := ?_) (a' := ?_) #[true, true, true, true, true, true, true, true, true, true, true, true, false, false, false, false, false, false, false, false, false] rfl rfl (any_of HT_.out (by kernel_rfl)) (fun _ _ _ h => h) (Or.inl ⟨by rfl, ?_⟩) ?_ ?_
               rotate_left
               ·intro w'
                go_simp
                with_reducible rfl
               rotate_left
               ·exact qP
               refine pure_ (i := 12) (N := some 66) (v := ?_) (a' := ?_) #[true, true, true, true, true, true, true, true, true, true, true, true, true, false, false, false, false, false, false, false, false] rfl rfl (any_of HT_.out (by kernel_rfl)) (fun _ _ _ h => h) (Or.inl ⟨by rfl, ?_⟩) ?_ ?_
               rotate_left
               ·intro w'
                go_simp
                with_reducible rfl
               rotate_left
               ·exact qP
               refine pure_ (i := 13) (N := some 67) (v := ?_) (a' := ?_) #[true, true, true, true, true, true, true, true, true, true, true, true, true, true, false, false, false, false, false, false, false] rfl rfl (any_of HT_.out (by kernel_rfl)) (fun _ _ _ h => h) (Or.inl ⟨by rfl, ?_⟩) ?_ ?_
               rotate_left
               ·intro w'
                go_simp
                with_reducible rfl
               rotate_left
               ·exact qP
               refine pure_ (i := 14) (N := some 68) (v := ?_) (a' := ?_) #[true, true, true, true, true, true, true, true, true, true, true, true, true, true, true, false, false, false, false, false, false] rfl rfl (any_of HT_.out (by kernel_rfl)) (fun _ _ _ h => h) (Or.inl ⟨by rfl, ?_⟩) ?_ ?_
               rotate_left
               ·intro w'
                go_simp
                with_reducible rfl
               rotate_left
               ·exact qP
               refine pure_ (i := 16) (N := some 70) (v := ?_) (a' := ?_) #[true, true, true, true, true, true, true, true, true, true, true, true, true, true, true, false, true, false, false, false, false] rfl rfl (any_of HT_.out (by kernel_rfl)) (fun _ _ _ h => h) (Or.inl ⟨by rfl, ?_⟩) ?_ ?_
               rotate_left
               ·intro w'
                go_simp
                with_reducible rfl
               rotate_left
               ·exact qP
               refine pure_ (i := 17) (N := some 71) (v := ?_) (a' := ?_) #[true, true, true, true, true, true, true, true, true, true, true, true, true, true, true, false, true, true, false, false, false] rfl rfl (any_of HT_.out (by kernel_rfl)) (fun _ _ _ h => h) (Or.inl ⟨by rfl, ?_⟩) ?_ ?_
               rotate_left
               ·intro w'
                go_simp
                with_reducible rfl
               rotate_left
               ·exact qP
               refine take_ (i := 15) (N := some 69) (v := ?_) (a' := ?_) #[true, true, true, true, true, true, true, true, true, true, true, true, true, true, true, true, true, true, false, false, false] rfl rfl (take_ofW HT_.out HW_.out (by kernel_rfl)) (fun _ _ _ h => h) (Or.inl ⟨by rfl, ?_⟩) hHeld ?_ ?_
               rotate_left
               ·rintro w' ⟨s0, s1, s2, s3⟩
                go_simp
                with_reducible rfl
               rotate_left
               ·exact qP
               refine take_ (i := 18) (N := some 72) (v := ?_) (a' := ?_) #[true, true, true, true, true, true, true, true, true, true, true, true, true, true, true, true, true, true, true, false, false] rfl rfl (take_ofW HT_.out HW_.out (by kernel_rfl)) (fun _ _ _ h => h) (Or.inl ⟨by rfl, ?_⟩) hHeld ?_ ?_
               rotate_left
               ·rintro w' ⟨s0, s1, s2, s3⟩
                go_simp
                with_reducible rfl
               rotate_left
               ·exact qP
               refine pure_ (i := 19) (N := some 73) (v := ?_) (a' := ?_) #[true, true, true, true, true, true, true, true, true, true, true, true, true, true, true, true, true, true, true, true, false] rfl rfl (any_of HT_.out (by kernel_rfl)) (fun _ _ _ h => h) (Or.inl ⟨by rfl, ?_⟩) ?_ ?_
               rotate_left
               ·intro w'
                go_simp
                with_reducible rfl
               rotate_left
               ·exact qP
               refine pure_ (i := 20) (N := some 74) (v := ?_) (a' := ?_) #[true, true, true, true, true, true, true, true, true, true, true, true, true, true, true, true, true, true, true, true, true] rfl rfl (any_of HT_.out (by kernel_rfl)) (fun _ _ _ h => h) (Or.inl ⟨by rfl, ?_⟩) ?_ ?_
               rotate_left
               ·intro w'
                go_simp
                with_reducible rfl
               rotate_left
               ·exact qP
               refine done_ (done_of HT_.out (by kernel_rfl)) ?_
               try go_wp2
               have n0_ := am (Kd.R_drew HO_1294000.out)
               have n1_ := am (blk_drew BK1289.out)
               have n2_ := am (blk_drew BK1293.out)
               have n3_ := am (below_drew1 HB.out)
               clear HO_1294000
               clear BK1289
               clear BK1293
               clear HB
               have HO_1294000 := n0_
               have BK1289 := n1_
               have BK1293 := n2_
               have HB := n3_
               clear n0_ n1_ n2_ n3_
               obtain ⟨Ao33, co33, eo33⟩ := Kd.R_slice HO_1294000.out
               (first | subst eo33 | (injection eo33 with f1_ f2_ f3_; have f4_ := f1_.symm; have f5_ := f3_.symm; clear f1_ f2_ f3_; subst f4_; subst f5_))
               have p1300 : 0 ≤ (x42_1 : Int) := qd
               have q1300 : x42_1 < (x1294000_2.length : Int) := qd
               obtain ⟨ad1300, e1300, hx1300_0⟩ := Kd.at_int (Kd.R_reads' HO_1294000.out).2.2 x42_1 p1300 q1300
               cases e1300
               replace p1300 := eq_true p1300
               replace q1300 := eq_true q1300
               have p30 : 0 ≤ (x42_1 : Int) := qd
               have q30 : (x42_1 : Int) < ((x1294000_2.length : Int) : Int) := qd
               obtain ⟨go30, co30, eo30, gb30, gl30, cl30, HG30⟩ := Kd.R_form HO_1294000.out (by omega)
               (first | cases eo30 | (injection eo30 with ea_ en_ ec_; (first | subst ea_ | (injection ea_ with ea_; subst ea_)); subst ec_; clear en_))
               have GB30 := am gb30
               have GG30 := am HG30
               clear gb30 gl30 HG30
               (first | simp only [add_plain] at hx1300_0 | skip)
               obtain ⟨hx30_0, hf30_0⟩ := Kd.R_celln 0 HO_1294000.out (x42_1 : Int) p30 q30
               replace p30 := eq_true p30
               replace q30 := eq_true q30
               have HP34 := Kd.R_putn HO_1294000.out (x42_1 : Int) (Go.bits .or .i64 (rd x1294000_2 x42_1) (ji29))
               rw [← Ny1301.out] at HP34
               have HQ34 := am HP34
               clear HP34
               refine start_ (n := 10) (S := fun w' => w'.cell? ⟨gb1293, 0, none⟩ = some (.slice (some ⟨go30, 0, none⟩) x1294000_2.length co33) ∧ w'.cell? ⟨go30, (x42_1).toNat, none⟩ = some (.int .i64 (rd x1294000_2 x42_1))) (ds := [9]) #[false, false, false, false, false, false, false, false, false, false] (by kernel_rfl) rfl rfl ⟨(blk_cell BK1293.out 0).trans rfl, hx1300_0⟩ (fun hHeld => ?_); refine with_tabW spec_StairB.tab19 spec_StairB.bits19 (fun HT_ HW_ => ?_)
               generalize w31.drew = w32 at HO_1294000 BK1289 BK1293 HB GG30 HQ34 hf30_0 hx1300_0 hx30_0 hHeld ⊢
               refine pure_ (i := 0) (N := some 75) (v := ?_) (a' := ?_) #[true, false, false, false, false, false, false, false, false, false] rfl rfl (any_of HT_.out (by kernel_rfl)) (fun _ _ _ h => h) (Or.inl ⟨by rfl, ?_⟩) ?_ ?_
               rotate_left
               ·intro w'
                go_simp
                with_reducible rfl
               rotate_left
               ·exact qP
               refine pure_ (i := 2) (N := some 77) (v := ?_) (a' := ?_) #[true, false, true, false, false, false, false, false, false, false] rfl rfl (any_of HT_.out (by kernel_rfl)) (fun _ _ _ h => h) (Or.inl ⟨by rfl, ?_⟩) ?_ ?_
               rotate_left
               ·intro w'
                go_simp
                with_reducible rfl
               rotate_left
               ·exact qP
               refine pure_ (i := 5) (N := some 80) (v := ?_) (a' := ?_) #[true, false, true, false, false, true, false, false, false, false] rfl rfl (any_of HT_.out (by kernel_rfl)) (fun _ _ _ h => h) (Or.inl ⟨by rfl, ?_⟩) ?_ ?_
               rotate_left
               ·intro w'
                go_simp
                with_reducible rfl
               rotate_left
               ·exact qP
               refine pure_ (i := 6) (N := some 81) (v := ?_) (a' := ?_) #[true, false, true, false, false, true, true, false, false, false] rfl rfl (any_of HT_.out (by kernel_rfl)) (fun _ _ _ h => h) (Or.inl ⟨by rfl, ?_⟩) ?_ ?_
               rotate_left
               ·intro w'
                go_simp
                with_reducible rfl
               rotate_left
               ·exact qP
               refine take_ (i := 1) (N := some 76) (v := ?_) (a' := ?_) #[true, true, true, false, false, true, true, false, false, false] rfl rfl (take_ofW HT_.out HW_.out (by kernel_rfl)) (fun _ _ _ h => h) (Or.inl ⟨by rfl, ?_⟩) hHeld ?_ ?_
               rotate_left
               ·rintro w' ⟨s0, s1⟩
                go_simp
                with_reducible rfl
               rotate_left
               ·exact qP
               refine pure_ (i := 3) (N := some 78) (v := ?_) (a' := ?_) #[true, true, true, true, false, true, true, false, false, false] rfl rfl (any_of HT_.out (by kernel_rfl)) (fun _ _ _ h => h) (Or.inl ⟨by rfl, ?_⟩) ?_ ?_
               rotate_left
               ·intro w'
                go_simp
                with_reducible rfl
               rotate_left
               ·exact qP
               refine take_ (i := 4) (N := some 79) (v := ?_) (a' := ?_) #[true, true, true, true, true, true, true, false, false, false] rfl rfl (take_ofW HT_.out HW_.out (by kernel_rfl)) (fun _ _ _ h => h) (Or.inl ⟨by rfl, ?_⟩) hHeld ?_ ?_
               rotate_left
               ·rintro w' ⟨s0, s1⟩
                go_simp
                with_reducible rfl
               rotate_left
               ·exact qP
               refine pure_ (i := 7) (N := some 82) (v := ?_) (a' := ?_) #[true, true, true, true, true, true, true, true, false, false] rfl rfl (any_of HT_.out (by kernel_rfl)) (fun _ _ _ h => h) (Or.inl ⟨by rfl, ?_⟩) ?_ ?_
               rotate_left
               ·intro w'
                go_simp
                with_reducible rfl
               rotate_left
               ·exact qP
               refine pure_ (i := 8) (N := some 83) (v := ?_) (a' := ?_) #[true, true, true, true, true, true, true, true, true, false] rfl rfl (any_of HT_.out (by kernel_rfl)) (fun _ _ _ h => h) (Or.inl ⟨by rfl, ?_⟩) ?_ ?_
               rotate_left
               ·intro w'
                go_simp
                with_reducible rfl
               rotate_left
               ·exact qP
               refine last_ (i := 9) (N := none) #[true, true, true, true, true, true, true, true, true, true] rfl rfl (one_of HT_.out (by kernel_rfl)) (by decide) (fun K hK => ?_)
               refine skip_ (w1 := ?_) (by rfl) rfl ?_ ?_
               rotate_left
               ·go_simp
                rfl
               refine hK.out _ _ ?_
               clear hK K
               refine done_ (done_of HT_.out (by kernel_rfl)) ?_
               try go_wp2
               go_roundg k2
               case measure => have := HK1.out; have := HK2.out; omega
               case rel => exact ⟨(wrap64 (x49_2 + 1)), (y1301), (.slice (some ⟨go30, 0, none⟩) x1294000_2.length co33), qe, H', ⟨by have := HK1.out; have := HK2.out; omega⟩, ⟨qR HQ34.out⟩, ⟨by (with_reducible repeat (first | refine blk_drewN ?_ _ | refine blk_drew ?_ | refine blk_alloc ?_ _)); refine blk_far ?_ (by have h_ := Kd.R_ne HO_1294000.out BK1289.out (by decide); intro e_; exact h_ (by rw [e_]; rfl)) _; refine qb ?_; exact BK1289.out⟩, ⟨by (with_reducible repeat (first | refine blk_drewN ?_ _ | refine blk_drew ?_ | refine blk_alloc ?_ _)); refine blk_far ?_ (by have h_ := Kd.R_ne HO_1294000.out BK1293.out (by decide); intro e_; exact h_ (by rw [e_]; rfl)) _; refine qb ?_; exact BK1293.out⟩, ⟨qB⟩⟩
              ·rw [if_neg c25] at H
               have c25b0 := decide_eq_false c25
               clear c25
               have H' := am H
               clear H
               have p1295 : 0 ≤ (x49_2 : Int) := qd
               have q1295 : x49_2 < (x4_1.length : Int) := qd
               obtain ⟨ad1295, A1295_0, c1295_0, e1295, hx1295_0, hl1295_0, hi1295_0⟩ := at_L1 HR1.out x49_2 p1295 q1295
               obtain rfl : ad1294 = ad1295 := (by injection e1295)
               replace hx1295_0 := (HB.out.cell (World.block_lt_of_cell? W2 _ hx1295_0)).trans hx1295_0
               have HR1295_0 := am hi1295_0
               have HC1295_0 := am hl1295_0
               clear hi1295_0 hl1295_0
               replace p1295 := eq_true p1295
               replace q1295 := eq_true q1295
               try go_wp2
               have n0_ := am (Kd.R_drew HO_1294000.out)
               have n1_ := am (blk_drew BK1289.out)
               have n2_ := am (blk_drew BK1293.out)
               have n3_ := am (below_drew1 HB.out)
               clear HO_1294000
               clear BK1289
               clear BK1293
               clear HB
               have HO_1294000 := n0_
               have BK1289 := n1_
               have BK1293 := n2_
               have HB := n3_
               clear n0_ n1_ n2_ n3_
               have p1296 : 0 ≤ (0 : Int) := (by omega)
               have q1296 : 0 < ((rd_L1 x4_1 x42_1).length : Int) := qd
               obtain ⟨ad1296, e1296, hx1296_0⟩ := Kd.at_int HR1294_0.out 0 p1296 q1296
               have hw1296_0 := hx1296_0
               (try rw [show ((0 : Int)).toNat = 0 from rfl] at hw1296_0)
               (try rw [show 0 * 1 = 0 from rfl] at hw1296_0)
               (try rw [Addr.add_zero'] at hw1296_0)
               cases e1296
               have qi1296 : (0 < (rd_L1 x4_1 x42_1).length) = True := eq_true (by omega)
               (try rw [show ((0 : Int)).toNat = 0 from rfl] at hx1296_0)
               (try rw [Addr.add_zero'] at hx1296_0)
               replace hx1296_0 := (HB.out.cell (World.block_lt_of_cell? W2 _ hx1296_0)).trans hx1296_0
               replace p1296 := eq_true p1296
               replace q1296 := eq_true q1296
               have p1297 : 0 ≤ (0 : Int) := (by omega)
               have q1297 : 0 < ((rd_L1 x4_1 x49_2).length : Int) := qd
               obtain ⟨ad1297, e1297, hx1297_0⟩ := Kd.at_int HR1295_0.out 0 p1297 q1297
               have hw1297_0 := hx1297_0
               (try rw [show ((0 : Int)).toNat = 0 from rfl] at hw1297_0)
               (try rw [show 0 * 1 = 0 from rfl] at hw1297_0)
               (try rw [Addr.add_zero'] at hw1297_0)
               cases e1297
               have qi1297 : (0 < (rd_L1 x4_1 x49_2).length) = True := eq_true (by omega)
               (try rw [show ((0 : Int)).toNat = 0 from rfl] at hx1297_0)
               (try rw [Addr.add_zero'] at hx1297_0)
               replace hx1297_0 := (HB.out.cell (World.block_lt_of_cell? W2 _ hx1297_0)).trans hx1297_0
               replace p1297 := eq_true p1297
               replace q1297 := eq_true q1297
               have p1298 : 0 ≤ (1 : Int) := (by omega)
               have q1298 : 1 < ((rd_L1 x4_1 x49_2).length : Int) := qd
               obtain ⟨ad1298, e1298, hx1298_0⟩ := Kd.at_int HR1295_0.out 1 p1298 q1298
               have hw1298_0 := hx1298_0
               (try rw [show ((1 : Int)).toNat = 1 from rfl] at hw1298_0)
               (try rw [show 1 * 1 = 1 from rfl] at hw1298_0)
               (try simp only [Nat.reduceMul, Nat.reduceEqDiff, Go.Addr.add, ↓reduceIte] at hw1298_0)
               obtain rfl : ad1297 = ad1298 := (by injection e1298)
               (try simp only [show (1 : Int).toNat = 1 from rfl, Nat.reduceMul, Nat.reduceEqDiff, Go.Addr.add, ↓reduceIte] at hx1298_0)
               have qi1298 : (1 < (rd_L1 x4_1 x49_2).length) = True := eq_true (by omega)
               (try rw [show ((1 : Int)).toNat = 1 from rfl] at hx1298_0)
               replace hx1298_0 := (HB.out.cell (World.block_lt_of_cell? W2 _ hx1298_0)).trans hx1298_0
               replace p1298 := eq_true p1298
               replace q1298 := eq_true q1298
               have p1299 : 0 ≤ (1 : Int) := (by omega)
               have q1299 : 1 < ((rd_L1 x4_1 x42_1).length : Int) := qd
               obtain ⟨ad1299, e1299, hx1299_0⟩ := Kd.at_int HR1294_0.out 1 p1299 q1299
               have hw1299_0 := hx1299_0
               (try rw [show ((1 : Int)).toNat = 1 from rfl] at hw1299_0)
               (try rw [show 1 * 1 = 1 from rfl] at hw1299_0)
               (try simp only [Nat.reduceMul, Nat.reduceEqDiff, Go.Addr.add, ↓reduceIte] at hw1299_0)
               obtain rfl : ad1296 = ad1299 := (by injection e1299)
               (try simp only [show (1 : Int).toNat = 1 from rfl, Nat.reduceMul, Nat.reduceEqDiff, Go.Addr.add, ↓reduceIte] at hx1299_0)
               have qi1299 : (1 < (rd_L1 x4_1 x42_1).length) = True := eq_true (by omega)
               (try rw [show ((1 : Int)).toNat = 1 from rfl] at hx1299_0)
               replace hx1299_0 := (HB.out.cell (World.block_lt_of_cell? W2 _ hx1299_0)).trans hx1299_0
               replace p1299 := eq_true p1299
               replace q1299 := eq_true q1299
               refine start_ (n := 21) (S := fun w' => w'.cell? ad1296 = some (.int .i64 (rd (rd_L1 x4_1 x42_1) 0)) ∧ w'.cell? ad1297 = some (.int .i64 (rd (rd_L1 x4_1 x49_2) 0)) ∧ w'.cell? ⟨ad1297.block, ad1297.off + 1, none⟩ = some (.int .i64 (rd (rd_L1 x4_1 x49_2) 1)) ∧ w'.cell? ⟨ad1296.block, ad1296.off + 1, none⟩ = some (.int .i64 (rd (rd_L1 x4_1 x42_1) 1))) (ds := []) #[false, false, false, false, false, false, false, false, false, false, false, false, false, false, false, false, false, false, false, false, false] (by kernel_rfl) rfl rfl ⟨((HB.out.cell (World.block_lt_of_cell? W2 _ hw1296_0)).trans hw1296_0), ((HB.out.cell (World.block_lt_of_cell? W2 _ hw1297_0)).trans hw1297_0), ((HB.out.cell (World.block_lt_of_cell? W2 _ hw1298_0)).trans hw1298_0), ((HB.out.cell (World.block_lt_of_cell? W2 _ hw1299_0)).trans hw1299_0)⟩ (fun hHeld => ?_); refine with_tabW spec_StairB.tab18 spec_StairB.bits18 (fun HT_ HW_ => ?_)
               generalize wr.drew = w35 at HO_1294000 BK1289 BK1293 HB hx1296_0 hx1297_0 hx1298_0 hx1299_0 hHeld ⊢
               refine pure_ (i := 0) (N := some 54) (v := ?_) (a' := ?_) #[true, false, false, false, false, false, false, false, false, false, false, false, false, false, false, false, false, false, false, false, false] rfl rfl (any_of HT_.out (by kernel_rfl)) (fun _ _ _ h => h) (Or.inl ⟨by rfl, ?_⟩) ?_ ?_
               rotate_left
               ·intro w'
                go_simp
                with_reducible rfl
               rotate_left
               ·exact qP
               refine pure_ (i := 1) (N := some 55) (v := ?_) (a' := ?_) #[true, true, false, false, false, false, false, false, false, false, false, false, false, false, false, false, false, false, false, false, false] rfl rfl (any_of HT_.out (by kernel_rfl)) (fun _ _ _ h => h) (Or.inl ⟨by rfl, ?_⟩) ?_ ?_
               rotate_left
               ·intro w'
                go_simp
                with_reducible rfl
               rotate_left
               ·exact qP
               refine pure_ (i := 2) (N := some 56) (v := ?_) (a' := ?_) #[true, true, true, false, false, false, false, false, false, false, false, false, false, false, false, false, false, false, false, false, false] rfl rfl (any_of HT_.out (by kernel_rfl)) (fun _ _ _ h => h) (Or.inl ⟨by rfl, ?_⟩) ?_ ?_
               rotate_left
               ·intro w'
                go_simp
                with_reducible rfl
               rotate_left
               ·exact qP
               refine pure_ (i := 3) (N := some 57) (v := ?_) (a' := ?_) #[true, true, true, true, false, false, false, false, false, false, false, false, false, false, false, false, false, false, false, false, false] rfl rfl (any_of HT_.out (by kernel_rfl)) (fun _ _ _ h => h) (Or.inl ⟨by rfl, ?_⟩) ?_ ?_
               rotate_left
               ·intro w'
                go_simp
                with_reducible rfl
               rotate_left
               ·exact qP
               refine pure_ (i := 4) (N := some 58) (v := ?_) (a' := ?_) #[true, true, true, true, true, false, false, false, false, false, false, false, false, false, false, false, false, false, false, false, false] rfl rfl (any_of HT_.out (by kernel_rfl)) (fun _ _ _ h => h) (Or.inl ⟨by rfl, ?_⟩) ?_ ?_
               rotate_left
               ·intro w'
                go_simp
                with_reducible rfl
               rotate_left
               ·exact qP
               refine pure_ (i := 5) (N := some 59) (v := ?_) (a' := ?_) #[true, true, true, true, true, true, false, false, false, false, false, false, false, false, false, false, false, false, false, false, false] rfl rfl (any_of HT_.out (by kernel_rfl)) (fun _ _ _ h => h) (Or.inl ⟨by rfl, ?_⟩) ?_ ?_
               rotate_left
               ·intro w'
                go_simp
                with_reducible rfl
               rotate_left
               ·exact qP
               refine pure_ (i := 7) (N := some 61) (v := ?_) (a' := ?_) #[true, true, true, true, true, true, false, true, false, false, false, false, false, false, false, false, false, false, false, false, false] rfl rfl (any_of HT_.out (by kernel_rfl)) (fun _ _ _ h => h) (Or.inl ⟨by rfl, ?_⟩) ?_ ?_
               rotate_left
               ·intro w'
                go_simp
                with_reducible rfl
               rotate_left
               ·exact qP
               refine pure_ (i := 8) (N := some 62) (v := ?_) (a' := ?_) #[true, true, true, true, true, true, false, true, true, false, false, false, false, false, false, false, false, false, false, false, false] rfl rfl (any_of HT_.out (by kernel_rfl)) (fun _ _ _ h => h) (Or.inl ⟨by rfl, ?_⟩) ?_ ?_
               rotate_left
               ·intro w'
                go_simp
                with_reducible rfl
               rotate_left
               ·exact qP
               refine take_ (i := 6) (N := some 60) (v := ?_) (a' := ?_) #[true, true, true, true, true, true, true, true, true, false, false, false, false, false, false, false, false, false, false, false, false] rfl rfl (take_ofW HT_.out HW_.out (by kernel_rfl)) (fun _ _ _ h => h) (Or.inl ⟨by rfl, ?_⟩) hHeld ?_ ?_
               rotate_left
               ·rintro w' ⟨s0, s1, s2, s3⟩
                go_simp
                with_reducible rfl
               rotate_left
               ·exact qP
               refine take_ (i := 9) (N := some 63) (v := ?_) (a' := ?_) #[true, true, true, true, true, true, true, true, true, true, false, false, false, false, false, false, false, false, false, false, false] rfl rfl (take_ofW HT_.out HW_.out (by kernel_rfl)) (fun _ _ _ h => h) (Or.inl ⟨by rfl, ?_⟩) hHeld ?_ ?_
               rotate_left
               ·rintro w' ⟨s0, s1, s2, s3⟩
                go_simp
                with_reducible rfl
               rotate_left
               ·exact qP
               refine pure_ (i := 10) (N := some 64) (v := ?_) (a' := ?_) #[true, true, true, true, true, true, true, true, true, true, true, false, false, false, false, false, false, false, false, false, false] rfl rfl (any_of HT_.out (by kernel_rfl)) (fun _ _ _ h => h) (Or.inl ⟨by rfl, ?_⟩) ?_ ?_
               rotate_left
               ·intro w'
                go_simp
                with_reducible rfl
               rotate_left
               ·exact qP
               refine pure_ (i := 11) (N := some 65) (v := ?_) (a' := ?_) #[true, true, true, true, true, true, true, true, true, true, true, true, false, false, false, false, false, false, false, false, false] rfl rfl (any_of HT_.out (by kernel_rfl)) (fun _ _ _ h => h) (Or.inl ⟨by rfl, ?_⟩) ?_ ?_
               rotate_left
               ·intro w'
                go_simp
                with_reducible rfl
               rotate_left
               ·exact qP
               refine pure_ (i := 12) (N := some 66) (v := ?_) (a' := ?_) #[true, true, true, true, true, true, true, true, true, true, true, true, true, false, false, false, false, false, false, false, false] rfl rfl (any_of HT_.out (by kernel_rfl)) (fun _ _ _ h => h) (Or.inl ⟨by rfl, ?_⟩) ?_ ?_
               rotate_left
               ·intro w'
                go_simp
                with_reducible rfl
               rotate_left
               ·exact qP
               refine pure_ (i := 13) (N := some 67) (v := ?_) (a' := ?_) #[true, true, true, true, true, true, true, true, true, true, true, true, true, true, false, false, false, false, false, false, false] rfl rfl (any_of HT_.out (by kernel_rfl)) (fun _ _ _ h => h) (Or.inl ⟨by rfl, ?_⟩) ?_ ?_
               rotate_left
               ·intro w'
                go_simp
                with_reducible rfl
               rotate_left
               ·exact qP
               refine pure_ (i := 14) (N := some 68) (v := ?_) (a' := ?_) #[true, true, true, true, true, true, true, true, true, true, true, true, true, true, true, false, false, false, false, false, false] rfl rfl (any_of HT_.out (by kernel_rfl)) (fun _ _ _ h => h) (Or.inl ⟨by rfl, ?_⟩) ?_ ?_
               rotate_left
               ·intro w'
                go_simp
                with_reducible rfl
               rotate_left
               ·exact qP
               refine pure_ (i := 16) (N := some 70) (v := ?_) (a' := ?_) #[true, true, true, true, true, true, true, true, true, true, true, true, true, true, true, false, true, false, false, false, false] rfl rfl (any_of HT_.out (by kernel_rfl)) (fun _ _ _ h => h) (Or.inl ⟨by rfl, ?_⟩) ?_ ?_
               rotate_left
               ·intro w'
                go_simp
                with_reducible rfl
               rotate_left
               ·exact qP
               refine pure_ (i := 17) (N := some 71) (v := ?_) (a' := ?_) #[true, true, true, true, true, true, true, true, true, true, true, true, true, true, true, false, true, true, false, false, false] rfl rfl (any_of HT_.out (by kernel_rfl)) (fun _ _ _ h => h) (Or.inl ⟨by rfl, ?_⟩) ?_ ?_
               rotate_left
               ·intro w'
                go_simp
                with_reducible rfl
               rotate_left
               ·exact qP
               refine take_ (i := 15) (N := some 69) (v := ?_) (a' := ?_) #[true, true, true, true, true, true, true, true, true, true, true, true, true, true, true, true, true, true, false, false, false] rfl rfl (take_ofW HT_.out HW_.out (by kernel_rfl)) (fun _ _ _ h => h) (Or.inl ⟨by rfl, ?_⟩) hHeld ?_ ?_
               rotate_left
               ·rintro w' ⟨s0, s1, s2, s3⟩
                go_simp
                with_reducible rfl
               rotate_left
               ·exact qP
               refine take_ (i := 18) (N := some 72) (v := ?_) (a' := ?_) #[true, true, true, true, true, true, true, true, true, true, true, true, true, true, true, true, true, true, true, false, false] rfl rfl (take_ofW HT_.out HW_.out (by kernel_rfl)) (fun _ _ _ h => h) (Or.inl ⟨by rfl, ?_⟩) hHeld ?_ ?_
               rotate_left
               ·rintro w' ⟨s0, s1, s2, s3⟩
                go_simp
                with_reducible rfl
               rotate_left
               ·exact qP
               refine pure_ (i := 19) (N := some 73) (v := ?_) (a' := ?_) #[true, true, true, true, true, true, true, true, true, true, true, true, true, true, true, true, true, true, true, true, false] rfl rfl (any_of HT_.out (by kernel_rfl)) (fun _ _ _ h => h) (Or.inl ⟨by rfl, ?_⟩) ?_ ?_
               rotate_left
               ·intro w'
                go_simp
                with_reducible rfl
               rotate_left
               ·exact qP
               refine pure_ (i := 20) (N := some 74) (v := ?_) (a' := ?_) #[true, true, true, true, true, true, true, true, true, true, true, true, true, true, true, true, true, true, true, true, true] rfl rfl (any_of HT_.out (by kernel_rfl)) (fun _ _ _ h => h) (Or.inl ⟨by rfl, ?_⟩) ?_ ?_
               rotate_left
               ·intro w'
                go_simp
                with_reducible rfl
               rotate_left
               ·exact qP
               refine done_ (done_of HT_.out (by kernel_rfl)) ?_
               try go_wp2
               go_roundg k2
               case measure => have := HK1.out; have := HK2.out; omega
               case rel => exact ⟨(wrap64 (x49_2 + 1)), (x1294000_2), (u1294000), qe, H', ⟨by have := HK1.out; have := HK2.out; omega⟩, ⟨qR HO_1294000.out⟩, ⟨qb BK1289.out⟩, ⟨qb BK1293.out⟩, ⟨qB⟩⟩
             ·rw [if_neg c22] at H
              have c22b0 := decide_eq_false c22
              clear c22
              have H' := am H
              clear H
              have p1295 : 0 ≤ (x49_2 : Int) := qd
              have q1295 : x49_2 < (x4_1.length : Int) := qd
              obtain ⟨ad1295, A1295_0, c1295_0, e1295, hx1295_0, hl1295_0, hi1295_0⟩ := at_L1 HR1.out x49_2 p1295 q1295
              obtain rfl : ad1294 = ad1295 := (by injection e1295)
              replace hx1295_0 := (HB.out.cell (World.block_lt_of_cell? W2 _ hx1295_0)).trans hx1295_0
              have HR1295_0 := am hi1295_0
              have HC1295_0 := am hl1295_0
              clear hi1295_0 hl1295_0
              replace p1295 := eq_true p1295
              replace q1295 := eq_true q1295
              try go_wp2
              have n0_ := am (Kd.R_drew HO_1294000.out)
              have n1_ := am (blk_drew BK1289.out)
              have n2_ := am (blk_drew BK1293.out)
              have n3_ := am (below_drew1 HB.out)
              clear HO_1294000
              clear BK1289
              clear BK1293
              clear HB
              have HO_1294000 := n0_
              have BK1289 := n1_
              have BK1293 := n2_
              have HB := n3_
              clear n0_ n1_ n2_ n3_
              have p1296 : 0 ≤ (0 : Int) := (by omega)
              have q1296 : 0 < ((rd_L1 x4_1 x42_1).length : Int) := qd
              obtain ⟨ad1296, e1296, hx1296_0⟩ := Kd.at_int HR1294_0.out 0 p1296 q1296
              have hw1296_0 := hx1296_0
              (try rw [show ((0 : Int)).toNat = 0 from rfl] at hw1296_0)
              (try rw [show 0 * 1 = 0 from rfl] at hw1296_0)
              (try rw [Addr.add_zero'] at hw1296_0)
              cases e1296
              have qi1296 : (0 < (rd_L1 x4_1 x42_1).length) = True := eq_true (by omega)
              (try rw [show ((0 : Int)).toNat = 0 from rfl] at hx1296_0)
              (try rw [Addr.add_zero'] at hx1296_0)
              replace hx1296_0 := (HB.out.cell (World.block_lt_of_cell? W2 _ hx1296_0)).trans hx1296_0
              replace p1296 := eq_true p1296
              replace q1296 := eq_true q1296
              have p1297 : 0 ≤ (0 : Int) := (by omega)
              have q1297 : 0 < ((rd_L1 x4_1 x49_2).length : Int) := qd
              obtain ⟨ad1297, e1297, hx1297_0⟩ := Kd.at_int HR1295_0.out 0 p1297 q1297
              have hw1297_0 := hx1297_0
              (try rw [show ((0 : Int)).toNat = 0 from rfl] at hw1297_0)
              (try rw [show 0 * 1 = 0 from rfl] at hw1297_0)
              (try rw [Addr.add_zero'] at hw1297_0)
              cases e1297
              have qi1297 : (0 < (rd_L1 x4_1 x49_2).length) = True := eq_true (by omega)
              (try rw [show ((0 : Int)).toNat = 0 from rfl] at hx1297_0)
              (try rw [Addr.add_zero'] at hx1297_0)
              replace hx1297_0 := (HB.out.cell (World.block_lt_of_cell? W2 _ hx1297_0)).trans hx1297_0
              replace p1297 := eq_true p1297
              replace q1297 := eq_true q1297
              refine start_ (n := 21) (S := fun w' => w'.cell? ad1296 = some (.int .i64 (rd (rd_L1 x4_1 x42_1) 0)) ∧ w'.cell? ad1297 = some (.int .i64 (rd (rd_L1 x4_1 x49_2) 0))) (ds := []) #[false, false, false, false, false, false, false, false, false, false, false, false, false, false, false, false, false, false, false, false, false] (by kernel_rfl) rfl rfl ⟨((HB.out.cell (World.block_lt_of_cell? W2 _ hw1296_0)).trans hw1296_0), ((HB.out.cell (World.block_lt_of_cell? W2 _ hw1297_0)).trans hw1297_0)⟩ (fun hHeld => ?_); refine with_tabW spec_StairB.tab18 spec_StairB.bits18 (fun HT_ HW_ => ?_)
              generalize wr.drew = w36 at HO_1294000 BK1289 BK1293 HB hx1296_0 hx1297_0 hHeld ⊢
              refine pure_ (i := 0) (N := some 54) (v := ?_) (a' := ?_) #[true, false, false, false, false, false, false, false, false, false, false, false, false, false, false, false, false, false, false, false, false] rfl rfl (any_of HT_.out (by kernel_rfl)) (fun _ _ _ h => h) (Or.inl ⟨by rfl, ?_⟩) ?_ ?_
              rotate_left
              ·intro w'
               go_simp
               with_reducible rfl
              rotate_left
              ·exact qP
              refine pure_ (i := 1) (N := some 55) (v := ?_) (a' := ?_) #[true, true, false, false, false, false, false, false, false, false, false, false, false, false, false, false, false, false, false, false, false] rfl rfl (any_of HT_.out (by kernel_rfl)) (fun _ _ _ h => h) (Or.inl ⟨by rfl, ?_⟩) ?_ ?_
              rotate_left
              ·intro w'
               go_simp
               with_reducible rfl
              rotate_left
              ·exact qP
              refine pure_ (i := 2) (N := some 56) (v := ?_) (a' := ?_) #[true, true, true, false, false, false, false, false, false, false, false, false, false, false, false, false, false, false, false, false, false] rfl rfl (any_of HT_.out (by kernel_rfl)) (fun _ _ _ h => h) (Or.inl ⟨by rfl, ?_⟩) ?_ ?_
              rotate_left
              ·intro w'
               go_simp
               with_reducible rfl
              rotate_left
              ·exact qP
              refine pure_ (i := 3) (N := some 57) (v := ?_) (a' := ?_) #[true, true, true, true, false, false, false, false, false, false, false, false, false, false, false, false, false, false, false, false, false] rfl rfl (any_of HT_.out (by kernel_rfl)) (fun _ _ _ h => h) (Or.inl ⟨by rfl, ?_⟩) ?_ ?_
              rotate_left
              ·intro w'
               go_simp
               with_reducible rfl
              rotate_left
              ·exact qP
              refine pure_ (i := 4) (N := some 58) (v := ?_) (a' := ?_) #[true, true, true, true, true, false, false, false, false, false, false, false, false, false, false, false, false, false, false, false, false] rfl rfl (any_of HT_.out (by kernel_rfl)) (fun _ _ _ h => h) (Or.inl ⟨by rfl, ?_⟩) ?_ ?_
              rotate_left
              ·intro w'
               go_simp
               with_reducible rfl
              rotate_left
              ·exact qP
              refine pure_ (i := 5) (N := some 59) (v := ?_) (a' := ?_) #[true, true, true, true, true, true, false, false, false, false, false, false, false, false, false, false, false, false, false, false, false] rfl rfl (any_of HT_.out (by kernel_rfl)) (fun _ _ _ h => h) (Or.inl ⟨by rfl, ?_⟩) ?_ ?_
              rotate_left
              ·intro w'
               go_simp
               with_reducible rfl
              rotate_left
              ·exact qP
              refine pure_ (i := 7) (N := some 61) (v := ?_) (a' := ?_) #[true, true, true, true, true, true, false, true, false, false, false, false, false, false, false, false, false, false, false, false, false] rfl rfl (any_of HT_.out (by kernel_rfl)) (fun _ _ _ h => h) (Or.inl ⟨by rfl, ?_⟩) ?_ ?_
              rotate_left
              ·intro w'
               go_simp
               with_reducible rfl
              rotate_left
              ·exact qP
              refine pure_ (i := 8) (N := some 62) (v := ?_) (a' := ?_) #[true, true, true, true, true, true, false, true, true, false, false, false, false, false, false, false, false, false, false, false, false] rfl rfl (any_of HT_.out (by kernel_rfl)) (fun _ _ _ h => h) (Or.inl ⟨by rfl, ?_⟩) ?_ ?_
              rotate_left
              ·intro w'
               go_simp
               with_reducible rfl
              rotate_left
              ·exact qP
              refine take_ (i := 6) (N := some 60) (v := ?_) (a' := ?_) #[true, true, true, true, true, true, true, true, true, false, false, false, false, false, false, false, false, false, false, false, false] rfl rfl (take_ofW HT_.out HW_.out (by kernel_rfl)) (fun _ _ _ h => h) (Or.inl ⟨by rfl, ?_⟩) hHeld ?_ ?_
              rotate_left
              ·rintro w' ⟨s0, s1⟩
               go_simp
               with_reducible rfl
              rotate_left
              ·exact qP
              refine take_ (i := 9) (N := some 63) (v := ?_) (a' := ?_) #[true, true, true, true, true, true, true, true, true, true, false, false, false, false, false, false, false, false, false, false, false] rfl rfl (take_ofW HT_.out HW_.out (by kernel_rfl)) (fun _ _ _ h => h) (Or.inl ⟨by rfl, ?_⟩) hHeld ?_ ?_
              rotate_left
              ·rintro w' ⟨s0, s1⟩
               go_simp
               with_reducible rfl
              rotate_left
              ·exact qP
              refine pure_ (i := 10) (N := some 64) (v := ?_) (a' := ?_) #[true, true, true, true, true, true, true, true, true, true, true, false, false, false, false, false, false, false, false, false, false] rfl rfl (any_of HT_.out (by kernel_rfl)) (fun _ _ _ h => h) (Or.inl ⟨by rfl, ?_⟩) ?_ ?_
              rotate_left
              ·intro w'
               go_simp
               with_reducible rfl
              rotate_left
              ·exact qP
              refine pure_ (i := 11) (N := some 65) (v := ?_) (a' := ?_) #[true, true, true, true, true, true, true, true, true, true, true, true, false, false, false, false, false, false, false, false, false] rfl rfl (any_of HT_.out (by kernel_rfl)) (fun _ _ _ h => h) (Or.inl ⟨by rfl, ?_⟩) ?_ ?_
              rotate_left
              ·intro w'
               go_simp
               with_reducible rfl
              rotate_left
              ·exact qP
              refine pure_ (i := 12) (N := some 66) (v := ?_) (a' := ?_) #[true, true, true, true, true, true, true, true, true, true, true, true, true, false, false, false, false, false, false, false, false] rfl rfl (any_of HT_.out (by kernel_rfl)) (fun _ _ _ h => h) (Or.inl ⟨by rfl, ?_⟩) ?_ ?_
              rotate_left
              ·intro w'
               go_simp
               with_reducible rfl
              rotate_left
              ·exact qP
              refine pure_ (i := 13) (N := some 67) (v := undef) (a' := ?_) #[true, true, true, true, true, true, true, true, true, true, true, true, true, true, false, false, false, false, false, false, false] rfl rfl (any_of HT_.out (by kernel_rfl)) (fun _ _ _ h => h) (Or.inr ⟨by rfl, rfl⟩) ?_ ?_
              rotate_left
              ·exact qP
              refine pure_ (i := 14) (N := some 68) (v := undef) (a' := ?_) #[true, true, true, true, true, true, true, true, true, true, true, true, true, true, true, false, false, false, false, false, false] rfl rfl (any_of HT_.out (by kernel_rfl)) (fun _ _ _ h => h) (Or.inr ⟨by rfl, rfl⟩) ?_ ?_
              rotate_left
              ·exact qP
              refine pure_ (i := 15) (N := some 69) (v := undef) (a' := ?_) #[true, true, true, true, true, true, true, true, true, true, true, true, true, true, true, true, false, false, false, false, false] rfl rfl (any_of HT_.out (by kernel_rfl)) (fun _ _ _ h => h) (Or.inr ⟨by rfl, rfl⟩) ?_ ?_
              rotate_left
              ·exact qP
              refine pure_ (i := 16) (N := some 70) (v := undef) (a' := ?_) #[true, true, true, true, true, true, true, true, true, true, true, true, true, true, true, true, true, false, false, false, false] rfl rfl (any_of HT_.out (by kernel_rfl)) (fun _ _ _ h => h) (Or.inr ⟨by rfl, rfl⟩) ?_ ?_
              rotate_left
              ·exact qP
              refine pure_ (i := 17) (N := some 71) (v := undef) (a' := ?_) #[true, true, true, true, true, true, true, true, true, true, true, true, true, true, true, true, true, true, false, false, false] rfl rfl (any_of HT_.out (by kernel_rfl)) (fun _ _ _ h => h) (Or.inr ⟨by rfl, rfl⟩) ?_ ?_
              rotate_left
              ·exact qP
              refine pure_ (i := 18) (N := some 72) (v := undef) (a' := ?_) #[true, true, true, true, true, true, true, true, true, true, true, true, true, true, true, true, true, true, true, false, false] rfl rfl (any_of HT_.out (by kernel_rfl)) (fun _ _ _ h => h) (Or.inr ⟨by rfl, rfl⟩) ?_ ?_
              rotate_left
              ·exact qP
              refine pure_ (i := 19) (N := some 73) (v := undef) (a' := ?_) #[true, true, true, true, true, true, true, true, true, true, true, true, true, true, true, true, true, true, true, true, false] rfl rfl (any_of HT_.out (by kernel_rfl)) (fun _ _ _ h => h) (Or.inr ⟨by rfl, rfl⟩) ?_ ?_
              rotate_left
              ·exact qP
              refine pure_ (i := 20) (N := some 74) (v := ?_) (a' := ?_) #[true, true, true, true, true, true, true, true, true, true, true, true, true, true, true, true, true, true, true, true, true] rfl rfl (any_of HT_.out (by kernel_rfl)) (fun _ _ _ h => h) (Or.inl ⟨by rfl, ?_⟩) ?_ ?_
              rotate_left
              ·intro w'
               go_simp
               with_reducible rfl
              rotate_left
              ·exact qP
              refine done_ (done_of HT_.out (by kernel_rfl)) ?_
              try go_wp2
              go_roundg k2
              case measure => have := HK1.out; have := HK2.out; omega
              case rel => exact ⟨(wrap64 (x49_2 + 1)), (x1294000_2), (u1294000), qe, H', ⟨by have := HK1.out; have := HK2.out; omega⟩, ⟨qR HO_1294000.out⟩, ⟨qb BK1289.out⟩, ⟨qb BK1293.out⟩, ⟨qB⟩⟩
           ·rw [if_neg c15] at H
            have c15b0 := decide_eq_false c15
            clear c15
            have H' := am H
            clear H
            go_wp2
            go_roundg k2
            case measure => have := HK1.out; have := HK2.out; omega
            case rel => exact ⟨(wrap64 (x42_1 + 1)), (x1294000_2), (u1294000), qe, H', ⟨by have := HK1.out; have := HK2.out; omega⟩, ⟨qR HO_1294000.out⟩, ⟨qb BK1289.out⟩, ⟨qb BK1293.out⟩, ⟨qB⟩⟩
        ·rw [if_neg c12] at H
         have c12b0 := decide_eq_false c12
         clear c12
         simp only [Option.some.injEq, Prod.mk.injEq] at H
         obtain ⟨rfl, rfl⟩ := H
         have hnb37 := NB1293_1289.out
         have hnc37 := NB1289_1293.out
         have hcz38_0 := qz wr BK1293.out
         have hfz38_0 := blk_frozen BK1293.out 0
         obtain ⟨Ao39, co39, eo39⟩ := Kd.R_slice HO_1294000.out
         subst eo39
         have hcz40_0 := qz wr BK1289.out
         have hfz40_0 := blk_frozen BK1289.out 0
         go_wp2
         refine bodyPost_ret (results_ct rfl _ _ gb1289 26 #[.slice Ao39 x1294000_1.length co39] (0, 0) _ rfl (by (with_reducible repeat (first | refine blk_drewN ?_ _ | refine blk_drew ?_ | refine blk_alloc ?_ _)); refine blk_put (cs := #[.slice none 0 0]) ?_ 0 _ rfl; refine qb ?_; exact BK1289.out) Try.underlying26 rfl (by kernel_rfl)) rfl ?_
         exact ⟨_, rfl, Kd.R_lower (qR (Kd.R_mono (Kd.R_far (p := ⟨gb1289, 0, none⟩) (Kd.R_types HO_1294000.out BK1289.out (by decide)) (fun _ hk => hk.2) (.slice Ao39 x1294000_1.length co39)) (fun _ hk => trivial))) HBW.out.size, below_set (by repeat (first | (with_reducible first | exact (HBW.out.trans (HB.out.mono HBW.out.size)) | apply below_alloc | apply pw_below_drewN | apply below_drew1) | exact (HBW.out.trans (HB.out.mono HBW.out.size)))) GE1289.out⟩
     ·rw [if_neg c3] at H
      exact absurd H (by simp)
end Go.Proofs.Ytmbojobkiainlaa.F
end

section
namespace Go.Proofs.Ytmbojobkiainlaa.F
open Go.RowKit Go.Proofs.YtmbojobkiainlaaW.PrintWords Go.Proofs.YtmbojobkiainlaaW.PrintLast Go.Proofs.YtmbojobkiainlaaW.PrintMore
attribute [local go_sem] max2_int min2_int max_two min_two max_three min_three max_four min_four
set_option linter.unusedVariables false
set_option linter.unusedSimpArgs false
mutual
def spec_l1Cur_surePoset.l0 : Nat → Int → List (List Int) → Int → List Int → Int → Int → Option (List Int × Int × Int)
 | 0, _, _, _, _, _, _ => none
 | k + 1, x9, x10, x11, x1000, x1001, x1002 => if x11 > 0 then (spec_l1Cur_surePoset.j1 k x9 x10 x11 (decide (x9 > 1)) x1000 x1001 x1002) else (spec_l1Cur_surePoset.j1 k x9 x10 x11 false x1000 x1001 x1002)
def spec_l1Cur_surePoset.j1 : Nat → Int → List (List Int) → Int → Bool → List Int → Int → Int → Option (List Int × Int × Int)
 | 0, _, _, _, _, _, _, _ => none
 | k + 1, x9, x10, x11, x61, x1000, x1001, x1002 => if x61 = true then ((spec_l1Cur_pick.f x1000 x1001 x1002 (wrap64 (x9 - 1))).bind fun bt213 => ((spec_l1Cur_pick.f x1000 bt213.2.1 bt213.2.2 (wrap64 ((wrap64 (x9 - 1)) - bt213.1))).bind fun bt216 => (if x10.length < 5864062014805 then (spec_l1Cur_surePoset.l0 k x9 (x10 ++ [(([bt213.1, wrap64 ((wrap64 (bt213.1 + 1)) + bt216.1)] : List Int))]) (wrap64 (x11 - 1)) x1000 bt216.2.1 bt216.2.2) else (none)))) else ((spec_poFrom.f k x9 x10).bind fun t225 => (some (t225, x1001, x1002)))
end
def spec_l1Cur_surePoset.f (k : Nat) (s0_0 : List Int) (s0_1 : Int) (s0_2 : Int) (a1 : Int) : Option (List Int × Int × Int) := (spec_l1Cur_pick.f s0_0 s0_1 s0_2 5).bind fun bt178 => (if bt178.1 = 0 then ((spec_l1Cur_pick.f s0_0 bt178.2.1 bt178.2.2 2).bind fun bt181 => ((spec_l1Most.f 1 (wrap64 (Int.tdiv a1 2))).bind fun t184 => ((spec_l1Cur_pick.f s0_0 bt181.2.1 bt181.2.2 t184).bind fun bt185 => ((spec_poRectangle.f k (wrap64 (1 + bt181.1)) (wrap64 (1 + bt185.1))).bind fun t188 => (some (t188, bt185.2.1, bt185.2.2)))))) else (if bt178.1 = 1 then ((spec_l1Cur_pick.f s0_0 bt178.2.1 bt178.2.2 2).bind fun bt191 => ((spec_Staircase.f k (wrap64 (1 + bt191.1))).bind fun bt194 => (some (bt194.1, bt191.2.1, bt191.2.2)))) else (if bt178.1 = 2 then ((spec_l1Cur_pick.f s0_0 bt178.2.1 bt178.2.2 a1).bind fun bt199 => ((spec_Fence.f k (wrap64 (1 + bt199.1))).bind fun bt202 => (some (bt202.1, bt199.2.1, bt199.2.2)))) else ((spec_l1Cur_pick.f s0_0 bt178.2.1 bt178.2.2 a1).bind fun bt207 => ((spec_l1Cur_pick.f s0_0 bt207.2.1 bt207.2.2 (wrap64 (2 * (wrap64 (1 + bt207.1))))).bind fun bt210 => (spec_l1Cur_surePoset.l0 k (wrap64 (1 + bt207.1)) ([] : List (List Int)) bt210.1 s0_0 bt210.2.1 bt210.2.2))))))
theorem spec_l1Cur_surePoset.mono_l : ∀ k, (∀ y0 y1 y2 y3 y4 y5, LeO (spec_l1Cur_surePoset.l0 k y0 y1 y2 y3 y4 y5) (spec_l1Cur_surePoset.l0 (k + 1) y0 y1 y2 y3 y4 y5)) ∧ (∀ y0 y1 y2 y3 y4 y5 y6, LeO (spec_l1Cur_surePoset.j1 k y0 y1 y2 y3 y4 y5 y6) (spec_l1Cur_surePoset.j1 (k + 1) y0 y1 y2 y3 y4 y5 y6))
 | 0 => ⟨fun _ _ _ _ _ _ r h => by simp [spec_l1Cur_surePoset.l0] at h, fun _ _ _ _ _ _ _ r h => by simp [spec_l1Cur_surePoset.j1] at h⟩
 | k + 1 => by
  obtain ⟨ih0, ih1⟩ := spec_l1Cur_surePoset.mono_l k
  refine ⟨?_, ?_⟩
  ·intro y0 y1 y2 y3 y4 y5
   unfold spec_l1Cur_surePoset.l0
   repeat' first
   | (with_reducible exact spec_Fence.mono _ _)
   | (with_reducible exact spec_Staircase.mono _ _)
   | (with_reducible exact spec_poFrom.mono _ _ _)
   | (with_reducible exact spec_poRectangle.mono _ _ _)
   | (with_reducible exact LeO.refl _)
   | (with_reducible exact LeO.none _)
   | (with_reducible refine LeO.ite ?_ ?_)
   | (with_reducible refine LeO.bind ?_ (fun _ => ?_))
   | exact ih0 _ _ _ _ _ _
   | exact ih1 _ _ _ _ _ _ _
   | exact spec_Fence.mono _ _
   | exact spec_Staircase.mono _ _
   | exact spec_poFrom.mono _ _ _
   | exact spec_poRectangle.mono _ _ _
   | exact LeO.none _
   | refine LeO.ite ?_ ?_
   | refine LeO.bind ?_ (fun _ => ?_)
  ·intro y0 y1 y2 y3 y4 y5 y6
   unfold spec_l1Cur_surePoset.j1
   repeat' first
   | (with_reducible exact spec_Fence.mono _ _)
   | (with_reducible exact spec_Staircase.mono _ _)
   | (with_reducible exact spec_poFrom.mono _ _ _)
   | (with_reducible exact spec_poRectangle.mono _ _ _)
   | (with_reducible exact LeO.refl _)
   | (with_reducible exact LeO.none _)
   | (with_reducible refine LeO.ite ?_ ?_)
   | (with_reducible refine LeO.bind ?_ (fun _ => ?_))
   | exact ih0 _ _ _ _ _ _
   | exact ih1 _ _ _ _ _ _ _
   | exact spec_Fence.mono _ _
   | exact spec_Staircase.mono _ _
   | exact spec_poFrom.mono _ _ _
   | exact spec_poRectangle.mono _ _ _
   | exact LeO.none _
   | refine LeO.ite ?_ ?_
   | refine LeO.bind ?_ (fun _ => ?_)
theorem spec_l1Cur_surePoset.mono : ∀ a0 a1 a2 a3 k, LeO (spec_l1Cur_surePoset.f k a0 a1 a2 a3) (spec_l1Cur_surePoset.f (k + 1) a0 a1 a2 a3) := by
 intro a0 a1 a2 a3 k
 obtain ⟨ih0, ih1⟩ := spec_l1Cur_surePoset.mono_l k
 unfold spec_l1Cur_surePoset.f
 repeat' first
  | (with_reducible exact spec_Fence.mono _ _)
  | (with_reducible exact spec_Staircase.mono _ _)
  | (with_reducible exact spec_poFrom.mono _ _ _)
  | (with_reducible exact spec_poRectangle.mono _ _ _)
  | (with_reducible exact LeO.refl _)
  | (with_reducible exact LeO.none _)
  | (with_reducible refine LeO.ite ?_ ?_)
  | (with_reducible refine LeO.bind ?_ (fun _ => ?_))
  | exact ih0 _ _ _ _ _ _
  | exact ih1 _ _ _ _ _ _ _
  | exact spec_Fence.mono _ _
  | exact spec_Staircase.mono _ _
  | exact spec_poFrom.mono _ _ _
  | exact spec_poRectangle.mono _ _ _
  | exact LeO.none _
  | refine LeO.ite ?_ ?_
  | refine LeO.bind ?_ (fun _ => ?_)
set_option maxHeartbeats 8000000 in
set_option maxRecDepth 100000 in
theorem spec_l1Cur_surePoset.calls (k : Nat) (g : Nat) (s0_0 : List Int) (s0_1 : Int) (s0_2 : Int) (a1 : Int) (r1 : List Int) (r2 : Int) (r3 : Int) (w0 w : World) (hI : IsS67 w0 w g s0_0 s0_1 s0_2) (hB : Below w0.heap.size w0 w) (h : spec_l1Cur_surePoset.f k s0_0 s0_1 s0_2 a1 = some (r1, r2, r3)) :
 Calls Try.prog 124 #[.pointer (some ⟨g, 0, none⟩), .int .i64 a1] w fun e w' => ∃ v0_ : Value, e = .returned (.agg #[v0_]) ∧ Kd.R (Kd.int .i64) 3 w' w.heap.size (fun _ => True) v0_ r1 ∧ IsS67 w0 w' g s0_0 r2 r3 ∧ Below w0.heap.size w0 w' ∧ KeepBut w w' g none := by
 have hu26 := Try.underlying26
 have HI0 := am hI
 have HK := am (KeepBut.refl w g none)
 have HL := am hB.size
 clear hI
 have HW0 := am hB.size
 have HB := am hB
 clear hB
 have H : ((spec_l1Cur_pick.f s0_0 s0_1 s0_2 5).bind fun bt178 => (if bt178.1 = 0 then ((spec_l1Cur_pick.f s0_0 bt178.2.1 bt178.2.2 2).bind fun bt181 => ((spec_l1Most.f 1 (wrap64 (Int.tdiv a1 2))).bind fun t184 => ((spec_l1Cur_pick.f s0_0 bt181.2.1 bt181.2.2 t184).bind fun bt185 => ((spec_poRectangle.f k (wrap64 (1 + bt181.1)) (wrap64 (1 + bt185.1))).bind fun t188 => (some (t188, bt185.2.1, bt185.2.2)))))) else (if bt178.1 = 1 then ((spec_l1Cur_pick.f s0_0 bt178.2.1 bt178.2.2 2).bind fun bt191 => ((spec_Staircase.f k (wrap64 (1 + bt191.1))).bind fun bt194 => (some (bt194.1, bt191.2.1, bt191.2.2)))) else (if bt178.1 = 2 then ((spec_l1Cur_pick.f s0_0 bt178.2.1 bt178.2.2 a1).bind fun bt199 => ((spec_Fence.f k (wrap64 (1 + bt199.1))).bind fun bt202 => (some (bt202.1, bt199.2.1, bt199.2.2)))) else ((spec_l1Cur_pick.f s0_0 bt178.2.1 bt178.2.2 a1).bind fun bt207 => ((spec_l1Cur_pick.f s0_0 bt207.2.1 bt207.2.2 (wrap64 (2 * (wrap64 (1 + bt207.1))))).bind fun bt210 => (spec_l1Cur_surePoset.l0 k (wrap64 (1 + bt207.1)) ([] : List (List Int)) bt210.1 s0_0 bt210.2.1 bt210.2.2))))))) = some (r1, r2, r3) := h
 clear h
 replace H := Option.bind_eq_some_iff.mp H
 obtain ⟨⟨t178, t179, t180⟩, A30, H⟩ := H
 replace H : (if t178 = 0 then ((spec_l1Cur_pick.f s0_0 t179 t180 2).bind fun bt181 => ((spec_l1Most.f 1 (wrap64 (Int.tdiv a1 2))).bind fun t184 => ((spec_l1Cur_pick.f s0_0 bt181.2.1 bt181.2.2 t184).bind fun bt185 => ((spec_poRectangle.f k (wrap64 (1 + bt181.1)) (wrap64 (1 + bt185.1))).bind fun t188 => (some (t188, bt185.2.1, bt185.2.2)))))) else (if t178 = 1 then ((spec_l1Cur_pick.f s0_0 t179 t180 2).bind fun bt191 => ((spec_Staircase.f k (wrap64 (1 + bt191.1))).bind fun bt194 => (some (bt194.1, bt191.2.1, bt191.2.2)))) else (if t178 = 2 then ((spec_l1Cur_pick.f s0_0 t179 t180 a1).bind fun bt199 => ((spec_Fence.f k (wrap64 (1 + bt199.1))).bind fun bt202 => (some (bt202.1, bt199.2.1, bt199.2.2)))) else ((spec_l1Cur_pick.f s0_0 t179 t180 a1).bind fun bt207 => ((spec_l1Cur_pick.f s0_0 bt207.2.1 bt207.2.2 (wrap64 (2 * (wrap64 (1 + bt207.1))))).bind fun bt210 => (spec_l1Cur_surePoset.l0 k (wrap64 (1 + bt207.1)) ([] : List (List Int)) bt210.1 s0_0 bt210.2.1 bt210.2.2)))))) = some (r1, r2, r3) := H
 have A3 := am A30
 clear A30
 by_cases c4 : t178 = 0
 ·rw [if_pos c4] at H
  have c4b0 : (t178 == 0) = true := beq_iff_eq.mpr c4
  have c4b1 : (t178 != 0) = false := bne_eq_false_iff_eq.mpr c4
  clear c4
  replace H := Option.bind_eq_some_iff.mp H
  obtain ⟨⟨t181, t182, t183⟩, A50, H⟩ := H
  replace H : ((spec_l1Most.f 1 (wrap64 (Int.tdiv a1 2))).bind fun t184 => ((spec_l1Cur_pick.f s0_0 t182 t183 t184).bind fun bt185 => ((spec_poRectangle.f k (wrap64 (1 + t181)) (wrap64 (1 + bt185.1))).bind fun t188 => (some (t188, bt185.2.1, bt185.2.2))))) = some (r1, r2, r3) := H
  have A5 := am A50
  clear A50
  replace H := Option.bind_eq_some_iff.mp H
  obtain ⟨t184, A60, H⟩ := H
  replace H : ((spec_l1Cur_pick.f s0_0 t182 t183 t184).bind fun bt185 => ((spec_poRectangle.f k (wrap64 (1 + t181)) (wrap64 (1 + bt185.1))).bind fun t188 => (some (t188, bt185.2.1, bt185.2.2)))) = some (r1, r2, r3) := H
  have A6 := am A60
  clear A60
  replace H := Option.bind_eq_some_iff.mp H
  obtain ⟨⟨t185, t186, t187⟩, A70, H⟩ := H
  replace H : ((spec_poRectangle.f k (wrap64 (1 + t181)) (wrap64 (1 + t185))).bind fun t188 => (some (t188, t186, t187))) = some (r1, r2, r3) := H
  have A7 := am A70
  clear A70
  replace H := Option.bind_eq_some_iff.mp H
  obtain ⟨t188, A80, H⟩ := H
  replace H : (some (t188, t186, t187)) = some (r1, r2, r3) := H
  have A8 := am A80
  clear A80
  simp only [Option.some.injEq, Prod.mk.injEq] at H
  obtain ⟨rfl, rfl, rfl⟩ := H
  go_enter Try.func124, Try.ntmps124
  go_wp2_with (first | ((with_reducible refine gate_dst (N := 4) rfl ?_); refine qx (N := 4) (cs := #[.slice none 0 0]) (t := 26) ?_; intro gb177 hg w9 hbox hb; have n0_ := am (IsS67.below qI67 hb); have n1_ := am (KeepBut.trans qK (KeepBut.of_below hb g none) (.inl rfl)); have n2_ := am (below_step qB hb); have BK177 := am (hbox); have GW177 := am ((by rw [hg]; exact (keep_size (w := w) (g := g) (row := none) qK) : w.heap.size ≤ gb177)); have GE177 := am ((Nat.le_trans HW0.out (by rw [hg]; exact (keep_size (w := w) (g := g) (row := none) qK) : w.heap.size ≤ gb177) : w0.heap.size ≤ gb177)); have NB0_177 := am ((by rw [hg]; exact Nat.ne_of_lt (IsS67.lt (show IsS67 w0 _ g s0_0 s0_1 s0_2 from qI67)) : g ≠ gb177)); have NB177_0 := am ((by rw [hg]; exact Nat.ne_of_gt (IsS67.lt (show IsS67 w0 _ g s0_0 s0_1 s0_2 from qI67)) : gb177 ≠ g)); clear HI0 HK HB; have HI0 := n0_; have HK := n1_; have HB := n2_; clear n0_ n1_ n2_; clear hb hbox hg) | ((with_reducible refine gate_callee (f := 68) rfl ?_); refine gL (some 14) Try.func68 #[.pointer (some ⟨g, 0, none⟩), .int .i64 5] ?_; (with_reducible refine (spec_l1Cur_pick.calls g s0_0 s0_1 s0_2 5 t178 t179 t180 w0 _ ?side1 ?side2 A3.out).mono ?_); (case side1 => exact qI67); (case side2 => exact qB); rintro e w10 ⟨rfl, hi, hb, hk⟩; refine ⟨_, rfl, ?_⟩; replace BK177 := am (KeepBut.blk hk (g' := gb177) (o := .cells #[.slice none 0 0] 26 (0, 0)) (qb BK177.out) NB177_0.out (by simp)); have n1_ := am (KeepBut.trans qK hk (.inl rfl)); have n2_ := am (hb); replace HI0 := am (hi); clear HK HB; have HK := n1_; have HB := n2_; clear n1_ n2_; (try clear hb); (try clear hb2); (try clear hk); (try clear hi)) | ((with_reducible refine gate_callee (f := 68) rfl ?_); refine gL (some 18) Try.func68 #[.pointer (some ⟨g, 0, none⟩), .int .i64 2] ?_; (with_reducible refine (spec_l1Cur_pick.calls g s0_0 t179 t180 2 t181 t182 t183 w0 _ ?side1 ?side2 A5.out).mono ?_); (case side1 => exact qI67); (case side2 => exact qB); rintro e w11 ⟨rfl, hi, hb, hk⟩; refine ⟨_, rfl, ?_⟩; replace BK177 := am (KeepBut.blk hk (g' := gb177) (o := .cells #[.slice none 0 0] 26 (0, 0)) (qb BK177.out) NB177_0.out (by simp)); have n1_ := am (KeepBut.trans qK hk (.inl rfl)); have n2_ := am (hb); replace HI0 := am (hi); clear HK HB; have HK := n1_; have HB := n2_; clear n1_ n2_; (try clear hb); (try clear hb2); (try clear hk); (try clear hi)) | ((with_reducible refine gate_callee (f := 95) rfl ?_); refine gL (some 23) Try.func95 #[.int .i64 1, .int .i64 (wrap64 (Int.tdiv a1 2))] ?_; (with_reducible refine (spec_l1Most.calls 1 (wrap64 (Int.tdiv a1 2)) t184 _ A6.out).mono ?_); rintro e w' ⟨rfl, ⟨nd, rfl⟩⟩; refine ⟨_, rfl, ?_⟩; (try (rw [drewN_self w11]; generalize hq_ : World.drewN w11 _ = w11; have n0_ : Aside0 (w11.heap[gb177]? = some (.cells #[.slice none 0 0] 26 (0, 0))) := ⟨by rw [← hq_]; exact (qb BK177.out)⟩; have n1_ : Aside0 (IsS67 w0 w11 g s0_0 t182 t183) := ⟨by rw [← hq_]; exact qI67⟩; have n2_ : Aside0 (KeepBut w w11 g none) := ⟨by rw [← hq_]; exact qK⟩; have n3_ : Aside0 (Below w0.heap.size w0 w11) := ⟨by rw [← hq_]; exact qB⟩; clear BK177 HI0 HK HB hq_; have BK177 := n0_; have HI0 := n1_; have HK := n2_; have HB := n3_; clear n0_ n1_ n2_ n3_))) | ((with_reducible refine gate_callee (f := 68) rfl ?_); refine gL (some 24) Try.func68 #[.pointer (some ⟨g, 0, none⟩), .int .i64 t184] ?_; (with_reducible refine (spec_l1Cur_pick.calls g s0_0 t182 t183 t184 t185 t186 t187 w0 _ ?side1 ?side2 A7.out).mono ?_); (case side1 => exact qI67); (case side2 => exact qB); rintro e w12 ⟨rfl, hi, hb, hk⟩; refine ⟨_, rfl, ?_⟩; replace BK177 := am (KeepBut.blk hk (g' := gb177) (o := .cells #[.slice none 0 0] 26 (0, 0)) (qb BK177.out) NB177_0.out (by simp)); have n1_ := am (KeepBut.trans qK hk (.inl rfl)); have n2_ := am (hb); replace HI0 := am (hi); clear HK HB; have HK := n1_; have HB := n2_; clear n1_ n2_; (try clear hb); (try clear hb2); (try clear hk); (try clear hi)) | ((with_reducible refine gate_callee (f := 151) rfl ?_); refine gL (some 26) Try.func151 #[.int .i64 (wrap64 (1 + t181)), .int .i64 (wrap64 (1 + t185))] ?_; (with_reducible refine (spec_poRectangle.calls k (wrap64 (1 + t181)) (wrap64 (1 + t185)) t188 _ A8.out).mono ?_); rintro e w13 ⟨v189, rfl, ho0, hb⟩; refine ⟨_, rfl, ?_⟩; have HO190 := am (Kd.R_lower ho0 (keep_size (w := w) (g := g) (row := none) qK)); have n1_ := am (IsS67.below qI67 hb); replace BK177 := am (blk_below (g := gb177) (o := .cells #[.slice none 0 0] 26 (0, 0)) (qb BK177.out) hb); have n3_ := am (KeepBut.trans qK (KeepBut.of_below hb g none) (.inl rfl)); replace HB := am (below_step qB hb); clear HI0 HK; have HI0 := n1_; have HK := n3_; clear n1_ n3_; (try clear hb); (try clear hb2); (try clear hk); (try clear hi); (try clear ho0); obtain ⟨Ao14, co14, eo14⟩ := Kd.R_slice HO190.out; subst eo14; have hnb15 := NB177_0.out; have hnc15 := NB0_177.out; have hcz16_0 := qz w13 BK177.out; have hfz16_0 := blk_frozen BK177.out 0))
  refine bodyPost_ret (results_cell_row rfl _ _ gb177 26 #[.slice Ao14 t188.length co14] (0, 0) _ rfl (by (with_reducible repeat (first | refine blk_drewN ?_ _ | refine blk_drew ?_ | refine blk_alloc ?_ _)); refine blk_put (cs := #[.slice none 0 0]) ?_ 0 _ rfl; refine qb ?_; exact BK177.out) Try.underlying26 rfl (by kernel_rfl)) rfl ?_
  exact ⟨_, qr, qR (Kd.R_mono (Kd.R_far (p := ⟨gb177, 0, none⟩) (Kd.R_types HO190.out BK177.out (by decide)) (fun _ hk => hk.2) (.slice Ao14 t188.length co14)) (fun _ hk => trivial)), qI67, qB, qK⟩
 ·rw [if_neg c4] at H
  have c4b0 : (t178 == 0) = false := beq_eq_false_iff_ne.mpr c4
  have c4b1 : (t178 != 0) = true := bne_iff_ne.mpr c4
  by_cases c17 : t178 = 1
  ·rw [if_pos c17] at H
   have c17b0 : (t178 == 1) = true := beq_iff_eq.mpr c17
   have c17b1 : (t178 != 1) = false := bne_eq_false_iff_eq.mpr c17
   clear c17
   replace H := Option.bind_eq_some_iff.mp H
   obtain ⟨⟨t191, t192, t193⟩, A180, H⟩ := H
   replace H : ((spec_Staircase.f k (wrap64 (1 + t191))).bind fun bt194 => (some (bt194.1, t192, t193))) = some (r1, r2, r3) := H
   have A18 := am A180
   clear A180
   replace H := Option.bind_eq_some_iff.mp H
   obtain ⟨⟨t194, t197⟩, A190, H⟩ := H
   replace H : (some (t194, t192, t193)) = some (r1, r2, r3) := H
   have A19 := am A190
   clear A190
   simp only [Option.some.injEq, Prod.mk.injEq] at H
   obtain ⟨rfl, rfl, rfl⟩ := H
   go_enter Try.func124, Try.ntmps124
   go_wp2_with (first | ((with_reducible refine gate_dst (N := 4) rfl ?_); refine qx (N := 4) (cs := #[.slice none 0 0]) (t := 26) ?_; intro gb177 hg w20 hbox hb; have n0_ := am (IsS67.below qI67 hb); have n1_ := am (KeepBut.trans qK (KeepBut.of_below hb g none) (.inl rfl)); have n2_ := am (below_step qB hb); have BK177 := am (hbox); have GW177 := am ((by rw [hg]; exact (keep_size (w := w) (g := g) (row := none) qK) : w.heap.size ≤ gb177)); have GE177 := am ((Nat.le_trans HW0.out (by rw [hg]; exact (keep_size (w := w) (g := g) (row := none) qK) : w.heap.size ≤ gb177) : w0.heap.size ≤ gb177)); have NB0_177 := am ((by rw [hg]; exact Nat.ne_of_lt (IsS67.lt (show IsS67 w0 _ g s0_0 s0_1 s0_2 from qI67)) : g ≠ gb177)); have NB177_0 := am ((by rw [hg]; exact Nat.ne_of_gt (IsS67.lt (show IsS67 w0 _ g s0_0 s0_1 s0_2 from qI67)) : gb177 ≠ g)); clear HI0 HK HB; have HI0 := n0_; have HK := n1_; have HB := n2_; clear n0_ n1_ n2_; clear hb hbox hg) | ((with_reducible refine gate_callee (f := 68) rfl ?_); refine gL (some 14) Try.func68 #[.pointer (some ⟨g, 0, none⟩), .int .i64 5] ?_; (with_reducible refine (spec_l1Cur_pick.calls g s0_0 s0_1 s0_2 5 t178 t179 t180 w0 _ ?side1 ?side2 A3.out).mono ?_); (case side1 => exact qI67); (case side2 => exact qB); rintro e w21 ⟨rfl, hi, hb, hk⟩; refine ⟨_, rfl, ?_⟩; replace BK177 := am (KeepBut.blk hk (g' := gb177) (o := .cells #[.slice none 0 0] 26 (0, 0)) (qb BK177.out) NB177_0.out (by simp)); have n1_ := am (KeepBut.trans qK hk (.inl rfl)); have n2_ := am (hb); replace HI0 := am (hi); clear HK HB; have HK := n1_; have HB := n2_; clear n1_ n2_; (try clear hb); (try clear hb2); (try clear hk); (try clear hi)) | ((with_reducible refine gate_callee (f := 68) rfl ?_); refine gL (some 31) Try.func68 #[.pointer (some ⟨g, 0, none⟩), .int .i64 2] ?_; (with_reducible refine (spec_l1Cur_pick.calls g s0_0 t179 t180 2 t191 t192 t193 w0 _ ?side1 ?side2 A18.out).mono ?_); (case side1 => exact qI67); (case side2 => exact qB); rintro e w22 ⟨rfl, hi, hb, hk⟩; refine ⟨_, rfl, ?_⟩; replace BK177 := am (KeepBut.blk hk (g' := gb177) (o := .cells #[.slice none 0 0] 26 (0, 0)) (qb BK177.out) NB177_0.out (by simp)); have n1_ := am (KeepBut.trans qK hk (.inl rfl)); have n2_ := am (hb); replace HI0 := am (hi); clear HK HB; have HK := n1_; have HB := n2_; clear n1_ n2_; (try clear hb); (try clear hb2); (try clear hk); (try clear hi)) | ((with_reducible refine gate_callee (f := 152) rfl ?_); refine gL (some 33) Try.func152 #[.int .i64 (wrap64 (1 + t191))] ?_; (with_reducible refine (spec_Staircase.calls k (wrap64 (1 + t191)) t194 t197 _ A19.out).mono ?_); rintro e w23 ⟨v195, rfl, ho0, hb⟩; refine ⟨_, rfl, ?_⟩; have HO196 := am (Kd.R_lower ho0 (keep_size (w := w) (g := g) (row := none) qK)); have n1_ := am (IsS67.below qI67 hb); replace BK177 := am (blk_below (g := gb177) (o := .cells #[.slice none 0 0] 26 (0, 0)) (qb BK177.out) hb); have n3_ := am (KeepBut.trans qK (KeepBut.of_below hb g none) (.inl rfl)); replace HB := am (below_step qB hb); clear HI0 HK; have HI0 := n1_; have HK := n3_; clear n1_ n3_; (try clear hb); (try clear hb2); (try clear hk); (try clear hi); (try clear ho0)) | ((with_reducible refine gate_dst (N := 5) rfl ?_); refine qx (N := 5) (cs := #[.slice none 0 0]) (t := 26) ?_; intro gb198 hg w24 hbox hb; replace HO196 := am (Kd.R_below (qR HO196.out) hb); have n1_ := am (IsS67.below qI67 hb); have n2_ := am (blk_below (g := gb177) (o := .cells #[.slice none 0 0] 26 (0, 0)) (qb BK177.out) hb); have n3_ := am (KeepBut.trans qK (KeepBut.of_below hb g none) (.inl rfl)); have n4_ := am (below_step qB hb); have BK198 := am (hbox); have GW198 := am ((by rw [hg]; exact (keep_size (w := w) (g := g) (row := none) qK) : w.heap.size ≤ gb198)); have GE198 := am ((Nat.le_trans HW0.out (by rw [hg]; exact (keep_size (w := w) (g := g) (row := none) qK) : w.heap.size ≤ gb198) : w0.heap.size ≤ gb198)); have NB177_198 := am ((by rw [hg]; exact Nat.ne_of_lt (blk_lt (g := gb177) (o := .cells #[.slice none 0 0] 26 (0, 0)) (qb BK177.out)) : gb177 ≠ gb198)); have NB198_177 := am ((by rw [hg]; exact Nat.ne_of_gt (blk_lt (g := gb177) (o := .cells #[.slice none 0 0] 26 (0, 0)) (qb BK177.out)) : gb198 ≠ gb177)); have NB0_198 := am ((by rw [hg]; exact Nat.ne_of_lt (IsS67.lt (show IsS67 w0 _ g s0_0 t192 t193 from qI67)) : g ≠ gb198)); have NB198_0 := am ((by rw [hg]; exact Nat.ne_of_gt (IsS67.lt (show IsS67 w0 _ g s0_0 t192 t193 from qI67)) : gb198 ≠ g)); clear HI0 BK177 HK HB; have HI0 := n1_; have BK177 := n2_; have HK := n3_; have HB := n4_; clear n1_ n2_ n3_ n4_; clear hb hbox hg; obtain ⟨Ao25, co25, eo25⟩ := Kd.R_slice HO196.out; subst eo25; have hnb26 := NB198_177.out; have hnc26 := NB177_198.out; have hnb27 := NB198_0.out; have hnc27 := NB0_198.out; have hcz28_0 := qz w24 BK198.out; have hfz28_0 := blk_frozen BK198.out 0; have hnb29 := NB177_0.out; have hnc29 := NB0_177.out; have hcz30_0 := qz w24 BK177.out; have hfz30_0 := blk_frozen BK177.out 0))
   refine bodyPost_ret (results_cell_row rfl _ _ gb177 26 #[.slice Ao25 t194.length co25] (0, 0) _ rfl (by (with_reducible repeat (first | refine blk_drewN ?_ _ | refine blk_drew ?_ | refine blk_alloc ?_ _)); refine blk_put (cs := #[.slice none 0 0]) ?_ 0 _ rfl; (with_reducible repeat (first | refine blk_drewN ?_ _ | refine blk_drew ?_ | refine blk_alloc ?_ _)); refine blk_far ?_ NB177_198.out _; refine qb ?_; exact BK177.out) Try.underlying26 rfl (by kernel_rfl)) rfl ?_
   exact ⟨_, qr, qR (Kd.R_mono (Kd.R_far (p := ⟨gb177, 0, none⟩) (Kd.R_far (p := ⟨gb198, 0, none⟩) (Kd.R_types (Kd.R_types HO196.out BK198.out (by decide)) BK177.out (by decide)) (fun _ hk => hk.1.2) (.slice Ao25 t194.length co25)) (fun _ hk => hk.2) (.slice Ao25 t194.length co25)) (fun _ hk => trivial)), qI67, qB, qK⟩
  ·rw [if_neg c17] at H
   have c17b0 : (t178 == 1) = false := beq_eq_false_iff_ne.mpr c17
   have c17b1 : (t178 != 1) = true := bne_iff_ne.mpr c17
   by_cases c31 : t178 = 2
   ·rw [if_pos c31] at H
    have c31b0 : (t178 == 2) = true := beq_iff_eq.mpr c31
    have c31b1 : (t178 != 2) = false := bne_eq_false_iff_eq.mpr c31
    clear c31
    replace H := Option.bind_eq_some_iff.mp H
    obtain ⟨⟨t199, t200, t201⟩, A320, H⟩ := H
    replace H : ((spec_Fence.f k (wrap64 (1 + t199))).bind fun bt202 => (some (bt202.1, t200, t201))) = some (r1, r2, r3) := H
    have A32 := am A320
    clear A320
    replace H := Option.bind_eq_some_iff.mp H
    obtain ⟨⟨t202, t205⟩, A330, H⟩ := H
    replace H : (some (t202, t200, t201)) = some (r1, r2, r3) := H
    have A33 := am A330
    clear A330
    simp only [Option.some.injEq, Prod.mk.injEq] at H
    obtain ⟨rfl, rfl, rfl⟩ := H
    go_enter Try.func124, Try.ntmps124
    go_wp2_with (first | ((with_reducible refine gate_dst (N := 4) rfl ?_); refine qx (N := 4) (cs := #[.slice none 0 0]) (t := 26) ?_; intro gb177 hg w34 hbox hb; have n0_ := am (IsS67.below qI67 hb); have n1_ := am (KeepBut.trans qK (KeepBut.of_below hb g none) (.inl rfl)); have n2_ := am (below_step qB hb); have BK177 := am (hbox); have GW177 := am ((by rw [hg]; exact (keep_size (w := w) (g := g) (row := none) qK) : w.heap.size ≤ gb177)); have GE177 := am ((Nat.le_trans HW0.out (by rw [hg]; exact (keep_size (w := w) (g := g) (row := none) qK) : w.heap.size ≤ gb177) : w0.heap.size ≤ gb177)); have NB0_177 := am ((by rw [hg]; exact Nat.ne_of_lt (IsS67.lt (show IsS67 w0 _ g s0_0 s0_1 s0_2 from qI67)) : g ≠ gb177)); have NB177_0 := am ((by rw [hg]; exact Nat.ne_of_gt (IsS67.lt (show IsS67 w0 _ g s0_0 s0_1 s0_2 from qI67)) : gb177 ≠ g)); clear HI0 HK HB; have HI0 := n0_; have HK := n1_; have HB := n2_; clear n0_ n1_ n2_; clear hb hbox hg) | ((with_reducible refine gate_callee (f := 68) rfl ?_); refine gL (some 14) Try.func68 #[.pointer (some ⟨g, 0, none⟩), .int .i64 5] ?_; (with_reducible refine (spec_l1Cur_pick.calls g s0_0 s0_1 s0_2 5 t178 t179 t180 w0 _ ?side1 ?side2 A3.out).mono ?_); (case side1 => exact qI67); (case side2 => exact qB); rintro e w35 ⟨rfl, hi, hb, hk⟩; refine ⟨_, rfl, ?_⟩; replace BK177 := am (KeepBut.blk hk (g' := gb177) (o := .cells #[.slice none 0 0] 26 (0, 0)) (qb BK177.out) NB177_0.out (by simp)); have n1_ := am (KeepBut.trans qK hk (.inl rfl)); have n2_ := am (hb); replace HI0 := am (hi); clear HK HB; have HK := n1_; have HB := n2_; clear n1_ n2_; (try clear hb); (try clear hb2); (try clear hk); (try clear hi)) | ((with_reducible refine gate_callee (f := 68) rfl ?_); refine gL (some 42) Try.func68 #[.pointer (some ⟨g, 0, none⟩), .int .i64 a1] ?_; (with_reducible refine (spec_l1Cur_pick.calls g s0_0 t179 t180 a1 t199 t200 t201 w0 _ ?side1 ?side2 A32.out).mono ?_); (case side1 => exact qI67); (case side2 => exact qB); rintro e w36 ⟨rfl, hi, hb, hk⟩; refine ⟨_, rfl, ?_⟩; replace BK177 := am (KeepBut.blk hk (g' := gb177) (o := .cells #[.slice none 0 0] 26 (0, 0)) (qb BK177.out) NB177_0.out (by simp)); have n1_ := am (KeepBut.trans qK hk (.inl rfl)); have n2_ := am (hb); replace HI0 := am (hi); clear HK HB; have HK := n1_; have HB := n2_; clear n1_ n2_; (try clear hb); (try clear hb2); (try clear hk); (try clear hi)) | ((with_reducible refine gate_callee (f := 153) rfl ?_); refine gL (some 44) Try.func153 #[.int .i64 (wrap64 (1 + t199))] ?_; (with_reducible refine (spec_Fence.calls k (wrap64 (1 + t199)) t202 t205 _ A33.out).mono ?_); rintro e w37 ⟨v203, rfl, ho0, hb⟩; refine ⟨_, rfl, ?_⟩; have HO204 := am (Kd.R_lower ho0 (keep_size (w := w) (g := g) (row := none) qK)); have n1_ := am (IsS67.below qI67 hb); replace BK177 := am (blk_below (g := gb177) (o := .cells #[.slice none 0 0] 26 (0, 0)) (qb BK177.out) hb); have n3_ := am (KeepBut.trans qK (KeepBut.of_below hb g none) (.inl rfl)); replace HB := am (below_step qB hb); clear HI0 HK; have HI0 := n1_; have HK := n3_; clear n1_ n3_; (try clear hb); (try clear hb2); (try clear hk); (try clear hi); (try clear ho0)) | ((with_reducible refine gate_dst (N := 7) rfl ?_); refine qx (N := 7) (cs := #[.slice none 0 0]) (t := 26) ?_; intro gb206 hg w38 hbox hb; replace HO204 := am (Kd.R_below (qR HO204.out) hb); have n1_ := am (IsS67.below qI67 hb); have n2_ := am (blk_below (g := gb177) (o := .cells #[.slice none 0 0] 26 (0, 0)) (qb BK177.out) hb); have n3_ := am (KeepBut.trans qK (KeepBut.of_below hb g none) (.inl rfl)); have n4_ := am (below_step qB hb); have BK206 := am (hbox); have GW206 := am ((by rw [hg]; exact (keep_size (w := w) (g := g) (row := none) qK) : w.heap.size ≤ gb206)); have GE206 := am ((Nat.le_trans HW0.out (by rw [hg]; exact (keep_size (w := w) (g := g) (row := none) qK) : w.heap.size ≤ gb206) : w0.heap.size ≤ gb206)); have NB177_206 := am ((by rw [hg]; exact Nat.ne_of_lt (blk_lt (g := gb177) (o := .cells #[.slice none 0 0] 26 (0, 0)) (qb BK177.out)) : gb177 ≠ gb206)); have NB206_177 := am ((by rw [hg]; exact Nat.ne_of_gt (blk_lt (g := gb177) (o := .cells #[.slice none 0 0] 26 (0, 0)) (qb BK177.out)) : gb206 ≠ gb177)); have NB0_206 := am ((by rw [hg]; exact Nat.ne_of_lt (IsS67.lt (show IsS67 w0 _ g s0_0 t200 t201 from qI67)) : g ≠ gb206)); have NB206_0 := am ((by rw [hg]; exact Nat.ne_of_gt (IsS67.lt (show IsS67 w0 _ g s0_0 t200 t201 from qI67)) : gb206 ≠ g)); clear HI0 BK177 HK HB; have HI0 := n1_; have BK177 := n2_; have HK := n3_; have HB := n4_; clear n1_ n2_ n3_ n4_; clear hb hbox hg; obtain ⟨Ao39, co39, eo39⟩ := Kd.R_slice HO204.out; subst eo39; have hnb40 := NB206_177.out; have hnc40 := NB177_206.out; have hnb41 := NB206_0.out; have hnc41 := NB0_206.out; have hcz42_0 := qz w38 BK206.out; have hfz42_0 := blk_frozen BK206.out 0; have hnb43 := NB177_0.out; have hnc43 := NB0_177.out; have hcz44_0 := qz w38 BK177.out; have hfz44_0 := blk_frozen BK177.out 0))
    refine bodyPost_ret (results_cell_row rfl _ _ gb177 26 #[.slice Ao39 t202.length co39] (0, 0) _ rfl (by (with_reducible repeat (first | refine blk_drewN ?_ _ | refine blk_drew ?_ | refine blk_alloc ?_ _)); refine blk_put (cs := #[.slice none 0 0]) ?_ 0 _ rfl; (with_reducible repeat (first | refine blk_drewN ?_ _ | refine blk_drew ?_ | refine blk_alloc ?_ _)); refine blk_far ?_ NB177_206.out _; refine qb ?_; exact BK177.out) Try.underlying26 rfl (by kernel_rfl)) rfl ?_
    exact ⟨_, qr, qR (Kd.R_mono (Kd.R_far (p := ⟨gb177, 0, none⟩) (Kd.R_far (p := ⟨gb206, 0, none⟩) (Kd.R_types (Kd.R_types HO204.out BK206.out (by decide)) BK177.out (by decide)) (fun _ hk => hk.1.2) (.slice Ao39 t202.length co39)) (fun _ hk => hk.2) (.slice Ao39 t202.length co39)) (fun _ hk => trivial)), qI67, qB, qK⟩
   ·rw [if_neg c31] at H
    have c31b0 : (t178 == 2) = false := beq_eq_false_iff_ne.mpr c31
    have c31b1 : (t178 != 2) = true := bne_iff_ne.mpr c31
    replace H := Option.bind_eq_some_iff.mp H
    obtain ⟨⟨t207, t208, t209⟩, A450, H⟩ := H
    replace H : ((spec_l1Cur_pick.f s0_0 t208 t209 (wrap64 (2 * (wrap64 (1 + t207))))).bind fun bt210 => (spec_l1Cur_surePoset.l0 k (wrap64 (1 + t207)) ([] : List (List Int)) bt210.1 s0_0 bt210.2.1 bt210.2.2)) = some (r1, r2, r3) := H
    have A45 := am A450
    clear A450
    replace H := Option.bind_eq_some_iff.mp H
    obtain ⟨⟨t210, t211, t212⟩, A460, H⟩ := H
    replace H : (spec_l1Cur_surePoset.l0 k (wrap64 (1 + t207)) ([] : List (List Int)) t210 s0_0 t211 t212) = some (r1, r2, r3) := H
    have A46 := am A460
    clear A460
    have H' := am H
    clear H
    go_enter Try.func124, Try.ntmps124
    go_wp2_with (first | ((with_reducible refine gate_dst (N := 4) rfl ?_); refine qx (N := 4) (cs := #[.slice none 0 0]) (t := 26) ?_; intro gb177 hg w47 hbox hb; have n0_ := am (IsS67.below qI67 hb); have n1_ := am (KeepBut.trans qK (KeepBut.of_below hb g none) (.inl rfl)); have n2_ := am (below_step qB hb); have BK177 := am (hbox); have GW177 := am ((by rw [hg]; exact (keep_size (w := w) (g := g) (row := none) qK) : w.heap.size ≤ gb177)); have GE177 := am ((Nat.le_trans HW0.out (by rw [hg]; exact (keep_size (w := w) (g := g) (row := none) qK) : w.heap.size ≤ gb177) : w0.heap.size ≤ gb177)); have NB0_177 := am ((by rw [hg]; exact Nat.ne_of_lt (IsS67.lt (show IsS67 w0 _ g s0_0 s0_1 s0_2 from qI67)) : g ≠ gb177)); have NB177_0 := am ((by rw [hg]; exact Nat.ne_of_gt (IsS67.lt (show IsS67 w0 _ g s0_0 s0_1 s0_2 from qI67)) : gb177 ≠ g)); clear HI0 HK HB; have HI0 := n0_; have HK := n1_; have HB := n2_; clear n0_ n1_ n2_; clear hb hbox hg) | ((with_reducible refine gate_callee (f := 68) rfl ?_); refine gL (some 14) Try.func68 #[.pointer (some ⟨g, 0, none⟩), .int .i64 5] ?_; (with_reducible refine (spec_l1Cur_pick.calls g s0_0 s0_1 s0_2 5 t178 t179 t180 w0 _ ?side1 ?side2 A3.out).mono ?_); (case side1 => exact qI67); (case side2 => exact qB); rintro e w48 ⟨rfl, hi, hb, hk⟩; refine ⟨_, rfl, ?_⟩; replace BK177 := am (KeepBut.blk hk (g' := gb177) (o := .cells #[.slice none 0 0] 26 (0, 0)) (qb BK177.out) NB177_0.out (by simp)); have n1_ := am (KeepBut.trans qK hk (.inl rfl)); have n2_ := am (hb); replace HI0 := am (hi); clear HK HB; have HK := n1_; have HB := n2_; clear n1_ n2_; (try clear hb); (try clear hb2); (try clear hk); (try clear hi)) | ((with_reducible refine gate_callee (f := 68) rfl ?_); refine gL (some 50) Try.func68 #[.pointer (some ⟨g, 0, none⟩), .int .i64 a1] ?_; (with_reducible refine (spec_l1Cur_pick.calls g s0_0 t179 t180 a1 t207 t208 t209 w0 _ ?side1 ?side2 A45.out).mono ?_); (case side1 => exact qI67); (case side2 => exact qB); rintro e w49 ⟨rfl, hi, hb, hk⟩; refine ⟨_, rfl, ?_⟩; replace BK177 := am (KeepBut.blk hk (g' := gb177) (o := .cells #[.slice none 0 0] 26 (0, 0)) (qb BK177.out) NB177_0.out (by simp)); have n1_ := am (KeepBut.trans qK hk (.inl rfl)); have n2_ := am (hb); replace HI0 := am (hi); clear HK HB; have HK := n1_; have HB := n2_; clear n1_ n2_; (try clear hb); (try clear hb2); (try clear hk); (try clear hi)) | ((with_reducible refine gate_callee (f := 68) rfl ?_); refine gL (some 55) Try.func68 #[.pointer (some ⟨g, 0, none⟩), .int .i64 (wrap64 (2 * (wrap64 (1 + t207))))] ?_; (with_reducible refine (spec_l1Cur_pick.calls g s0_0 t208 t209 (wrap64 (2 * (wrap64 (1 + t207)))) t210 t211 t212 w0 _ ?side1 ?side2 A46.out).mono ?_); (case side1 => exact qI67); (case side2 => exact qB); rintro e w50 ⟨rfl, hi, hb, hk⟩; refine ⟨_, rfl, ?_⟩; replace BK177 := am (KeepBut.blk hk (g' := gb177) (o := .cells #[.slice none 0 0] 26 (0, 0)) (qb BK177.out) NB177_0.out (by simp)); have n1_ := am (KeepBut.trans qK hk (.inl rfl)); have n2_ := am (hb); replace HI0 := am (hi); clear HK HB; have HK := n1_; have HB := n2_; clear n1_ n2_; (try clear hb); (try clear hb2); (try clear hk); (try clear hi)))
    go_loopg [10, 11] k (fun kq v10 v11 w' => ∃ (x10_1 : List (List Int)) (x11_1 : Int) (x1001_1 : Int) (x1002_1 : Int), v11 = .int .i64 x11_1 ∧ Aside0 (spec_l1Cur_surePoset.l0 kq (wrap64 (1 + t207)) x10_1 x11_1 s0_0 x1001_1 x1002_1 = some (r1, r2, r3)) ∧ Aside0 (kq ≤ k) ∧ Aside0 (Kd.S (Kd.slice 3 (Kd.int .i64)) 24 w' w.heap.size (fun _ => True) v10 x10_1) ∧ Aside0 (w'.heap[gb177]? = some (.cells #[(.slice none 0 0)] 26 (0, 0))) ∧ Aside0 (IsS67 w0 w' g s0_0 x1001_1 x1002_1) ∧ Aside0 (KeepBut w w' g none) ∧ Aside0 (Below w0.heap.size w0 w'))
    case atStart => exact ⟨(([] : List (List Int))), (t210), (t211), (t212), qe, H', ⟨Nat.le_refl _⟩, ⟨by first | exact Kd.S_nil _ _ _ _ _ | exact Kd.N_nil _ _ _ _ _ | exact Kd.V_nil _ _ _ _ _ | exact Kd.Q_nil _ _ _ _ _ | exact Kd.R_nil _ _ _ _ _⟩, ⟨qb BK177.out⟩, ⟨qI67⟩, ⟨qK⟩, ⟨qB⟩⟩
    case round =>
     clear H'
     try clear c1
     try clear c2
     try clear p2
     try clear c3
     try clear c4
     try clear c4b0
     try clear c4b1
     try clear c6
     try clear p6
     try clear c9
     try clear c12
     try clear c15
     try clear c17
     try clear c17b0
     try clear c17b1
     try clear c26
     try clear c27
     try clear c29
     try clear c31
     try clear c31b0
     try clear c31b1
     try clear c40
     try clear c41
     try clear c43
     try clear hcz16_0
     try clear hcz28_0
     try clear hcz30_0
     try clear hcz42_0
     try clear hcz44_0
     try clear hfz16_0
     try clear hfz28_0
     try clear hfz30_0
     try clear hfz42_0
     try clear hfz44_0
     obtain ⟨x10_1, x11_1, x1001_1, x1002_1, rfl, HA, HK1, HO_10, BK177, HI0, HK, HB⟩ := hrel
     cases gk with
     | zero => exact absurd HA.out (by simp [spec_l1Cur_surePoset.l0])
     | succ k1 =>
      have H := HA.out
      clear HA
      simp only [spec_l1Cur_surePoset.l0] at H
      have HC51 := am H
      clear H
      go_upto_region 13 with (fail)
      go_cut [61] (fun v61 wc => ∃ (kq : Nat) (x61_50 : Bool), v61 = .bool x61_50 ∧ Aside0 (spec_l1Cur_surePoset.j1 kq (wrap64 (1 + t207)) x10_1 x11_1 x61_50 s0_0 x1001_1 x1002_1 = some (r1, r2, r3)) ∧ Aside0 (kq ≤ k1) ∧ Aside0 (Kd.S (Kd.slice 3 (Kd.int .i64)) 24 wc w.heap.size (fun _ => True) u10 x10_1) ∧ Aside0 (wc.heap[gb177]? = some (.cells #[(.slice none 0 0)] 26 (0, 0))) ∧ Aside0 (IsS67 w0 wc g s0_0 x1001_1 x1002_1) ∧ Aside0 (KeepBut w wc g none) ∧ Aside0 (Below w0.heap.size w0 wc))
      case first =>
       have H := HC51.out
       clear HC51
       by_cases c52 : x11_1 > 0
       ·rw [if_pos c52] at H
        have c52b0 : decide (0 < x11_1) = true := decide_eq_true c52
        clear c52
        (first | rw [c52b0] | (simp only [i64_w, i32_w]; rw [c52b0]) | skip)
        have H' := am H
        clear H
        go_wp2
        go_meet
        case rel => exact ⟨_, (decide ((wrap64 (1 + t207)) > 1)), qe, H', ⟨by have := HK1.out; first | omega | exact Nat.le_refl _⟩, ⟨qS HO_10.out⟩, ⟨qb BK177.out⟩, ⟨qI67⟩, ⟨qK⟩, ⟨qB⟩⟩
       ·rw [if_neg c52] at H
        have c52b0 : decide (0 < x11_1) = false := decide_eq_false c52
        clear c52
        (first | rw [c52b0] | (simp only [i64_w, i32_w]; rw [c52b0]) | skip)
        have H' := am H
        clear H
        go_wp2
        go_meet
        case rel => exact ⟨_, (false), qe, H', ⟨by have := HK1.out; first | omega | exact Nat.le_refl _⟩, ⟨qS HO_10.out⟩, ⟨qb BK177.out⟩, ⟨qI67⟩, ⟨qK⟩, ⟨qB⟩⟩
      case rest =>
       clear HC51
       try clear c1
       try clear c2
       try clear p2
       try clear c3
       try clear c4
       try clear c4b0
       try clear c4b1
       try clear c5
       try clear c6
       try clear p6
       try clear c9
       try clear c12
       try clear c15
       try clear c17
       try clear c17b0
       try clear c17b1
       try clear c26
       try clear c27
       try clear c29
       try clear c31
       try clear c31b0
       try clear c31b1
       try clear c40
       try clear c41
       try clear c43
       try clear c52
       try clear c52b0
       try clear hcz16_0
       try clear hcz28_0
       try clear hcz30_0
       try clear hcz42_0
       try clear hcz44_0
       try clear hfz16_0
       try clear hfz28_0
       try clear hfz30_0
       try clear hfz42_0
       try clear hfz44_0
       try clear p2
       try clear p6
       obtain ⟨kq, x61_50, rfl, HA, HJ50, HO_10, BK177, HI0, HK, HB⟩ := hcut
       cases kq with
       | zero => exact absurd HA.out (by simp [spec_l1Cur_surePoset.j1])
       | succ kj50 =>
        have H := HA.out
        clear HA
        simp only [spec_l1Cur_surePoset.j1] at H
        by_cases c53 : x61_50 = true
        ·subst c53
         have H1 : ((spec_l1Cur_pick.f s0_0 x1001_1 x1002_1 (wrap64 ((wrap64 (1 + t207)) - 1))).bind fun bt213 => ((spec_l1Cur_pick.f s0_0 bt213.2.1 bt213.2.2 (wrap64 ((wrap64 ((wrap64 (1 + t207)) - 1)) - bt213.1))).bind fun bt216 => (if x10_1.length < 5864062014805 then (spec_l1Cur_surePoset.l0 kj50 (wrap64 (1 + t207)) (x10_1 ++ [(([bt213.1, wrap64 ((wrap64 (bt213.1 + 1)) + bt216.1)] : List Int))]) (wrap64 (x11_1 - 1)) s0_0 bt216.2.1 bt216.2.2) else (none)))) = some (r1, r2, r3) := by rw [if_pos rfl] at H; exact H
         clear H
         have H := H1
         clear H1
         replace H := Option.bind_eq_some_iff.mp H
         obtain ⟨⟨t213, t214, t215⟩, A540, H⟩ := H
         replace H : ((spec_l1Cur_pick.f s0_0 t214 t215 (wrap64 ((wrap64 ((wrap64 (1 + t207)) - 1)) - t213))).bind fun bt216 => (if x10_1.length < 5864062014805 then (spec_l1Cur_surePoset.l0 kj50 (wrap64 (1 + t207)) (x10_1 ++ [(([t213, wrap64 ((wrap64 (t213 + 1)) + bt216.1)] : List Int))]) (wrap64 (x11_1 - 1)) s0_0 bt216.2.1 bt216.2.2) else (none))) = some (r1, r2, r3) := H
         have A54 := am A540
         clear A540
         replace H := Option.bind_eq_some_iff.mp H
         obtain ⟨⟨t216, t217, t218⟩, A550, H⟩ := H
         replace H : (if x10_1.length < 5864062014805 then (spec_l1Cur_surePoset.l0 kj50 (wrap64 (1 + t207)) (x10_1 ++ [(([t213, wrap64 ((wrap64 (t213 + 1)) + t216)] : List Int))]) (wrap64 (x11_1 - 1)) s0_0 t217 t218) else (none)) = some (r1, r2, r3) := H
         have A55 := am A550
         clear A550
         obtain ⟨y219, hy219⟩ : ∃ y_ : List Int, y_ = (([t213, wrap64 ((wrap64 (t213 + 1)) + t216)] : List Int)) := ⟨_, rfl⟩
         replace H : (if x10_1.length < 5864062014805 then (spec_l1Cur_surePoset.l0 kj50 (wrap64 (1 + t207)) (x10_1 ++ [y219]) (wrap64 (x11_1 - 1)) s0_0 t217 t218) else (none)) = some (r1, r2, r3) := by first | (rw [hy219]; with_reducible exact H) | (have H2_ := (Option.bind_some _ _).symm.trans H; rw [hy219]; with_reducible exact H2_) | (have H2_ := (Option.bind_some _ _).symm.trans H; with_reducible exact H2_) | with_reducible exact H | (rw [hy219]; exact H) | exact H
         have Ny219 := am hy219
         clear hy219
         by_cases c56 : x10_1.length < 5864062014805
         rotate_left
         ·rw [if_neg c56] at H
          exact absurd H (by simp)
         rw [if_pos c56] at H
         have LMc56 := am c56
         clear c56
         obtain ⟨y222, hy222⟩ : ∃ y_ : List (List Int), y_ = (x10_1 ++ [y219]) := ⟨_, rfl⟩
         replace H : (spec_l1Cur_surePoset.l0 kj50 (wrap64 (1 + t207)) y222 (wrap64 (x11_1 - 1)) s0_0 t217 t218) = some (r1, r2, r3) := by first | (rw [hy222]; with_reducible exact H) | (have H2_ := (Option.bind_some _ _).symm.trans H; rw [hy222]; with_reducible exact H2_) | (have H2_ := (Option.bind_some _ _).symm.trans H; with_reducible exact H2_) | with_reducible exact H | (rw [hy222]; exact H) | exact H
         have Ny222 := am hy222
         clear hy222
         have H' := am H
         clear H
         go_wp2_with (first | ((with_reducible refine gate_callee (f := 68) rfl ?_); refine gL (some 67) Try.func68 #[.pointer (some ⟨g, 0, none⟩), .int .i64 (wrap64 ((wrap64 (1 + t207)) - 1))] ?_; (with_reducible refine (spec_l1Cur_pick.calls g s0_0 x1001_1 x1002_1 (wrap64 ((wrap64 (1 + t207)) - 1)) t213 t214 t215 w0 _ ?side1 ?side2 A54.out).mono ?_); (case side1 => exact qI67); (case side2 => exact qB); rintro e w57 ⟨rfl, hi, hb, hk⟩; refine ⟨_, rfl, ?_⟩; replace HO_10 := am (Kd.S_mono (Kd.S_keep (IsS67.apartS (show IsS67 w0 _ g s0_0 x1001_1 x1002_1 from qI67) (qS HO_10.out) (by decide)) hk (fun _ h => h.2)) (fun _ h => h.1)); replace BK177 := am (KeepBut.blk hk (g' := gb177) (o := .cells #[.slice none 0 0] 26 (0, 0)) (qb BK177.out) NB177_0.out (by simp)); have n2_ := am (KeepBut.trans qK hk (.inl rfl)); have n3_ := am (hb); replace HI0 := am (hi); clear HK HB; have HK := n2_; have HB := n3_; clear n2_ n3_; (try clear hb); (try clear hb2); (try clear hk); (try clear hi)) | ((with_reducible refine gate_callee (f := 68) rfl ?_); refine gL (some 77) Try.func68 #[.pointer (some ⟨g, 0, none⟩), .int .i64 (wrap64 ((wrap64 ((wrap64 (1 + t207)) - 1)) - t213))] ?_; (with_reducible refine (spec_l1Cur_pick.calls g s0_0 t214 t215 (wrap64 ((wrap64 ((wrap64 (1 + t207)) - 1)) - t213)) t216 t217 t218 w0 _ ?side1 ?side2 A55.out).mono ?_); (case side1 => exact qI67); (case side2 => exact qB); rintro e w58 ⟨rfl, hi, hb, hk⟩; refine ⟨_, rfl, ?_⟩; replace HO_10 := am (Kd.S_mono (Kd.S_keep (IsS67.apartS (show IsS67 w0 _ g s0_0 t214 t215 from qI67) (qS HO_10.out) (by decide)) hk (fun _ h => h.2)) (fun _ h => h.1)); replace BK177 := am (KeepBut.blk hk (g' := gb177) (o := .cells #[.slice none 0 0] 26 (0, 0)) (qb BK177.out) NB177_0.out (by simp)); have n2_ := am (KeepBut.trans qK hk (.inl rfl)); have n3_ := am (hb); replace HI0 := am (hi); clear HK HB; have HK := n2_; have HB := n3_; clear n2_ n3_; (try clear hb); (try clear hb2); (try clear hk); (try clear hi)) | ((with_reducible refine gate_dst (N := 79) rfl ?_); refine Kd.R_lit (Kd.int .i64) _ 3 ?hg (N := 79) ?hd (xs := ([t213, wrap64 ((wrap64 (t213 + 1)) + t216)] : List Int)) (inner := [.int .i64 t213, .int .i64 (wrap64 ((wrap64 (t213 + 1)) + t216))]) (ok := fun _ => True) (okp := fun _ => True) ?hr ?hp (fun _ hk => hk) trivial (Below.refl _ _) (Nat.le_refl _) (by simp) ?_; (case hd => rfl); (case hg => rfl); (case hr => first | (go_simp; done) | (go_simp; rfl)); (case hp => exact (Reps.one (show Kd.M (Kd.int .i64) _ _ _ t213 [.int .i64 t213] from rfl) (Reps.one (show Kd.M (Kd.int .i64) _ _ _ (wrap64 ((wrap64 (t213 + 1)) + t216)) [.int .i64 (wrap64 ((wrap64 (t213 + 1)) + t216))] from rfl) (Reps.none _ _)))); intro v220 w59 ho60 hb hg_ hnew_; clear hg_ hnew_; (first | rw [← Ny219.out] at ho60 | (simp only [Int.reduceToNat] at ho60; rw [← Ny219.out] at ho60)); replace HO_10 := am (Kd.S_elder' (qS HO_10.out) (Kd.R_base ho60) hb); have HO221 := am (Kd.R_lower ho60 (keep_size (w := w) (g := g) (row := none) qK)); replace BK177 := am (blk_below (g := gb177) (o := .cells #[.slice none 0 0] 26 (0, 0)) (qb BK177.out) hb); have n3_ := am (IsS67.below qI67 hb); have n4_ := am (KeepBut.trans qK (KeepBut.of_below hb g none) (.inl rfl)); replace HB := am (below_step qB hb); clear HI0 HK; have HI0 := n3_; have HK := n4_; clear n3_ n4_; clear hb ho60; obtain ⟨Ao62, co62, eo62⟩ := Kd.R_slice HO221.out; subst eo62) | ((with_reducible refine gate_builtin (b := .append) (xs := #[.tmp 68, .tmp 80]) rfl ?_); at_builtin; refine Kd.S_append (Kd.slice 3 (Kd.int .i64)) w.heap.size rfl (.tmp 68) (.tmp 80) 58 24 (.slice none 0 0) 24 rfl Try.underlying58 info24 rfl (by decide) (by omega) u10 x10_1 y219 [.slice Ao62 y219.length co62] (fun _ => True) (fun k_ => some k_ = (.slice Ao62 y219.length co62 : Value).ownBlock) rfl rfl ?aP (fun k_ hk_ => ((Kd.R_mono (ok' := fun k_ => ((fun _ => True)) k_ ∧ some k_ ≠ (u10 : Value).ownBlock) (Kd.R_apart' (HO221.out) (Kd.S_typed HO_10.out) (by decide)) (fun k_ hk => ⟨trivial, hk.2⟩))).1 k_ hk_.symm) ?aF ?aO (Below.refl _ _) ?aS ?aL ?_; (case aP => exact Kd.M_row (Kd.R_mono (Kd.R_tight rfl (Kd.R_mono (ok' := fun k_ => ((fun _ => True)) k_ ∧ some k_ ≠ (u10 : Value).ownBlock) (Kd.R_apart' (HO221.out) (Kd.S_typed HO_10.out) (by decide)) (fun k_ hk => ⟨trivial, hk.2⟩))) (fun _ h_ => h_))); (case aF => exact (fun _ _ => trivial)); (case aO => exact (qS (Kd.S_mono HO_10.out (fun k_ hk => ⟨trivial, fun e_ => hk.2 e_⟩)))); (case aS => exact (keep_size (w := w) (g := g) (row := none) qK)); (case aL => have := LMc56.out; omega); intro v223 w61 ho hb hg hat; rw [← Ny222.out] at ho; replace BK177 := am (blk_grown (g := gb177) (o := .cells #[.slice none 0 0] 26 (0, 0)) (qb BK177.out) hg (Kd.S_ne HO_10.out BK177.out (by decide))); have n1_ := am (IsS67.grown qI67 hg (IsS67.own_neS HI0.out HO_10.out (by decide))); have n2_ := am (below_weaken qB HL.out hb); have n3_ := am (KeepBut.trans qK (KeepBut.of_grown hg g) (Kd.S_base2 HO_10.out)); have HO224 := am (ho); clear HI0 HB HK HO_10 HO221; have HI0 := n1_; have HB := n2_; have HK := n3_; clear n1_ n2_ n3_; clear ho hb hg hat))
         go_roundg kj50
         case measure => have := HK1.out; have := HJ50.out; omega
         case rel => exact ⟨(y222), (wrap64 (x11_1 - 1)), (t217), (t218), qe, H', ⟨by have := HK1.out; have := HJ50.out; omega⟩, ⟨qS HO224.out⟩, ⟨qb BK177.out⟩, ⟨qI67⟩, ⟨qK⟩, ⟨qB⟩⟩
        ·replace c53 := Bool.eq_false_iff.mpr c53
         subst c53
         have H1 : ((spec_poFrom.f kj50 (wrap64 (1 + t207)) x10_1).bind fun t225 => (some (t225, x1001_1, x1002_1))) = some (r1, r2, r3) := by rw [if_neg (show ¬ (false = true) by decide)] at H; exact H
         clear H
         have H := H1
         clear H1
         replace H := Option.bind_eq_some_iff.mp H
         obtain ⟨t225, A630, H⟩ := H
         replace H : (some (t225, x1001_1, x1002_1)) = some (r1, r2, r3) := H
         have A63 := am A630
         clear A630
         simp only [Option.some.injEq, Prod.mk.injEq] at H
         obtain ⟨rfl, rfl, rfl⟩ := H
         obtain ⟨Ao64, co64, eo64⟩ := Kd.S_slice HO_10.out
         subst eo64
         go_wp2_with (first | ((with_reducible refine gate_callee (f := 154) rfl ?_); refine gL (some 84) Try.func154 #[.int .i64 (wrap64 (1 + t207)), .slice Ao64 x10_1.length co64] ?_; (with_reducible refine (spec_poFrom.calls kj50 (wrap64 (1 + t207)) _ _ x10_1 t225 _ ?side1 ?side2 A63.out).mono ?_); (case side1 => exact qC (Kd.S_reads' HO_10.out).2.2); (case side2 => exact (Kd.S_reads' HO_10.out).2.1); rintro e w65 ⟨v226, rfl, ho0, hb⟩; refine ⟨_, rfl, ?_⟩; replace HO_10 := am (Kd.S_elder' (qS HO_10.out) (Kd.R_base ho0) hb); have HO227 := am (Kd.R_lower ho0 (keep_size (w := w) (g := g) (row := none) qK)); replace BK177 := am (blk_below (g := gb177) (o := .cells #[.slice none 0 0] 26 (0, 0)) (qb BK177.out) hb); have n3_ := am (IsS67.below qI67 hb); have n4_ := am (KeepBut.trans qK (KeepBut.of_below hb g none) (.inl rfl)); replace HB := am (below_step qB hb); clear HI0 HK; have HI0 := n3_; have HK := n4_; clear n3_ n4_; (try clear hb); (try clear hb2); (try clear hk); (try clear hi); (try clear ho0); obtain ⟨Ao66, co66, eo66⟩ := Kd.R_slice HO227.out; subst eo66; have hnb67 := NB177_0.out; have hnc67 := NB0_177.out; have hcz68_0 := qz w65 BK177.out; have hfz68_0 := blk_frozen BK177.out 0))
         refine bodyPost_ret (results_cell_row rfl _ _ gb177 26 #[.slice Ao66 t225.length co66] (0, 0) _ rfl (by (with_reducible repeat (first | refine blk_drewN ?_ _ | refine blk_drew ?_ | refine blk_alloc ?_ _)); refine blk_put (cs := #[.slice none 0 0]) ?_ 0 _ rfl; refine qb ?_; exact BK177.out) Try.underlying26 rfl (by kernel_rfl)) rfl ?_
         exact ⟨_, qr, qR (Kd.R_mono (Kd.R_far (p := ⟨gb177, 0, none⟩) (Kd.R_types HO227.out BK177.out (by decide)) (fun _ hk => hk.2) (.slice Ao66 t225.length co66)) (fun _ hk => trivial)), qI67, qB, qK⟩
end Go.Proofs.Ytmbojobkiainlaa.F
end
