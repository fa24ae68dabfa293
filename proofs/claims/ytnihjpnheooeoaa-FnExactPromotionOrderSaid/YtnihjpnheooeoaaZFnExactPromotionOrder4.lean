/- Part 4 of the texts below the row of FnExactPromotionOrder: printed functions with their contracts, and plain lemmas. No condition. -/
import Derived.Test.YtnihjpnheooeoaaZFnExactPromotionOrder3
import Derived.Lib.SliceRun
import Derived.Maps.RangeWalk
import Derived.Maps.OwnOps
import Derived.Maps.Ext
import Derived.DeepKeys4
import Derived.LoopTactic
import Derived.Deep.LoopGhost
import Derived.Lib.Hide
import Derived.Laws.CopyOwn
section
namespace Go.Proofs.Ytnihjpnheooeoaa.Q
open Go.RowKit Go.Proofs.YtnihjpnheooeoaaW.PrintWords
set_option linter.unusedVariables false
/-- So many motions. -/
def itN {α : Type} (f : α → α) : Nat → α → α
  | 0, x => x
  | t + 1, x => f (itN f t x)
theorem itN_in {α : Type} (f : α → α) : ∀ t x, itN f t (f x) = itN f (t + 1) x
  | 0, _ => rfl
  | t + 1, x => by show f (itN f t (f x)) = _; rw [itN_in f t x]; rfl
theorem itN_add {α : Type} (f : α → α) (a : Nat) : ∀ b x, itN f (b + a) x = itN f b (itN f a x)
  | 0, x => by rw [Nat.zero_add]; rfl
  | b + 1, x => by rw [Nat.add_right_comm]; show f _ = f _; rw [itN_add f a b x]
/-- Things upon which f moves as a permutation. -/
structure Mv {α : Type} (f : α → α) (L : List α) : Prop where
  to_ : ∀ x ∈ L, f x ∈ L
  inj : ∀ x ∈ L, ∀ y ∈ L, f x = f y → x = y
theorem Mv.it {α : Type} {f : α → α} {L : List α} (h : Mv f L) : ∀ t x, x ∈ L → itN f t x ∈ L
  | 0, _, hx => hx
  | t + 1, x, hx => h.to_ _ (h.it t x hx)
theorem Mv.it_inj {α : Type} {f : α → α} {L : List α} (h : Mv f L) : ∀ t x y, x ∈ L → y ∈ L → itN f t x = itN f t y → x = y
  | 0, _, _, _, _, e => e
  | t + 1, x, y, hx, hy, e => h.it_inj t x y hx hy (h.inj _ (h.it t x hx) _ (h.it t y hy) e)
/-- The way of x, so far. -/
def wayN {α : Type} (f : α → α) (c : Nat) (x : α) : List α := (List.range c).map fun i => itN f i x
theorem wayN_succ {α : Type} (f : α → α) (c : Nat) (x : α) : wayN f (c + 1) x = wayN f c x ++ [itN f c x] := by
  unfold wayN; rw [List.range_succ, List.map_append]; rfl
theorem wayN_len {α : Type} (f : α → α) (c : Nat) (x : α) : (wayN f c x).length = c := by simp [wayN]
theorem mem_wayN {α : Type} {f : α → α} {c : Nat} {x y : α} : y ∈ wayN f c x ↔ ∃ i, i < c ∧ itN f i x = y := by
  unfold wayN
  rw [List.mem_map]
  exact ⟨fun ⟨i, hi, e⟩ => ⟨i, List.mem_range.1 hi, e⟩, fun ⟨i, hi, e⟩ => ⟨i, List.mem_range.2 hi, e⟩⟩
/-- A cycle: x, f x, .., and f leads from the last one to x. -/
structure Cyc {α : Type} (f : α → α) (o : List α) : Prop where
  ex : ∃ x c, 0 < c ∧ o = wayN f c x ∧ o.Nodup ∧ itN f c x = x
theorem itN_mul {α : Type} {f : α → α} {c : Nat} {x : α} (h : itN f c x = x) : ∀ q, itN f (c * q) x = x
  | 0 => rfl
  | q + 1 => by rw [Nat.mul_succ, itN_add, h, itN_mul h q]
theorem Cyc.back {α : Type} {f : α → α} {o : List α} (h : Cyc f o) : ∀ y ∈ o, ∀ t, itN f t y = y ↔ o.length ∣ t := by
  obtain ⟨x, c, hc, rfl, hn, hx⟩ := h.ex
  intro y hy t
  obtain ⟨i, hi, rfl⟩ := mem_wayN.1 hy
  rw [wayN_len]
  have key : itN f t (itN f i x) = itN f ((t + i) % c) x := by
    rw [← itN_add]
    have e : t + i = (t + i) % c + c * ((t + i) / c) := (Nat.mod_add_div _ _).symm
    conv => lhs; rw [e]
    rw [itN_add, itN_mul hx]
  have hinj : ∀ a b, a < c → b < c → itN f a x = itN f b x → a = b := fun a b ha hb e => by
    have h1 := List.pairwise_iff_getElem.1 hn
    rcases Nat.lt_trichotomy a b with h2 | h2 | h2
    · have := h1 a b (by rw [wayN_len]; exact ha) (by rw [wayN_len]; exact hb) h2
      simp only [wayN, List.getElem_map, List.getElem_range] at this
      exact absurd e this
    · exact h2
    · have := h1 b a (by rw [wayN_len]; exact hb) (by rw [wayN_len]; exact ha) h2
      simp only [wayN, List.getElem_map, List.getElem_range] at this
      exact absurd e.symm this
  rw [key]
  constructor
  · intro e
    have h1 := hinj _ _ (Nat.mod_lt _ hc) hi e
    have h2 : (t + i) % c = i % c := by rw [h1, Nat.mod_eq_of_lt hi]
    have h3 : (t + i - i) % c = 0 := Nat.sub_mod_eq_zero_of_mod_eq h2
    rw [Nat.add_sub_cancel] at h3
    exact Nat.dvd_of_mod_eq_zero h3
  · rintro ⟨q, rfl⟩
    rw [Nat.mul_add_mod, Nat.mod_eq_of_lt hi]
theorem Cyc.pos {α : Type} {f : α → α} {o : List α} (h : Cyc f o) : 0 < o.length := by
  obtain ⟨x, c, hc, rfl, _, _⟩ := h.ex
  rw [wayN_len]; exact hc
/-- What was met so far: whole cycles. -/
structure Met {α : Type} (f : α → α) (L V : List α) (out : List (List α)) : Prop where
  flat : V = out.flatten
  nodup : V.Nodup
  sub : ∀ x ∈ V, x ∈ L
  to_ : ∀ x ∈ V, f x ∈ V
  back : ∀ x ∈ L, f x ∈ V → x ∈ V
  cyc : ∀ o ∈ out, Cyc f o
theorem Met.nil {α : Type} (f : α → α) (L : List α) : Met f L [] [] := by
  constructor
  · rfl
  · exact List.nodup_nil
  · intro _ h; cases h
  · intro _ h; cases h
  · intro _ _ h; cases h
  · intro _ h; cases h
theorem len_le_of {α : Type} : ∀ {l m : List α}, l.Nodup → (∀ x ∈ l, x ∈ m) → l.length ≤ m.length := by
  intro l
  induction l with
  | nil => intro m _ _; exact Nat.zero_le _
  | cons x l ih =>
    intro m hn h
    obtain ⟨h1, h2⟩ := List.nodup_cons.1 hn
    obtain ⟨a, b, rfl⟩ := List.append_of_mem (h x List.mem_cons_self)
    have := ih (m := a ++ b) h2 (fun y hy => by
      have h3 := h y (List.mem_cons_of_mem _ hy)
      rw [List.mem_append, List.mem_cons] at h3
      rw [List.mem_append]
      rcases h3 with h3 | rfl | h3
      · exact Or.inl h3
      · exact absurd hy h1
      · exact Or.inr h3)
    rw [List.length_append] at this
    rw [List.length_append, List.length_cons, List.length_cons]
    omega
/-- A further cycle: it comes back to x behind c motions, and none before is met. -/
theorem new_cycle {α : Type} {f : α → α} {L V : List α} {out : List (List α)} (hf : Mv f L) (hV : Met f L V out) {x : α} (hx : x ∈ L) (hxV : x ∉ V) :
    ∃ c, 0 < c ∧ V.length + c ≤ L.length ∧ itN f c x = x ∧ (∀ j, j < c → itN f j x ∉ V ++ wayN f j x) ∧ Met f L (V ++ wayN f c x) (out ++ [wayN f c x]) := by
  have hway : ∀ j y, y ∈ wayN f j x → y ∈ L := fun j y hy => by
    obtain ⟨i, _, rfl⟩ := mem_wayN.1 hy
    exact hf.it i x hx
  have hout : ∀ j, itN f j x ∉ V := by
    intro j
    induction j with
    | zero => exact hxV
    | succ j ih => exact fun h => ih (hV.back _ (hf.it j x hx) h)
  have hnd : ∀ j, (wayN f j x).Nodup → (V ++ wayN f j x).Nodup := fun j hj => by
    rw [List.nodup_append]
    refine ⟨hV.nodup, hj, ?_⟩
    intro a ha b hb e
    subst e
    obtain ⟨i, _, rfl⟩ := mem_wayN.1 hb
    exact hout i ha
  -- the first return
  have key : ∀ d j, L.length - V.length - j = d → (wayN f j x).Nodup → ∃ c, j ≤ c ∧ 0 < c ∧ itN f c x ∈ wayN f c x ∧ (wayN f c x).Nodup ∧ ∀ i, j ≤ i → i < c → itN f i x ∉ wayN f i x := by
    intro d
    induction d with
    | zero =>
      intro j hd hj
      by_cases hm : itN f j x ∈ wayN f j x
      · obtain ⟨i, hi, _⟩ := mem_wayN.1 hm
        exact ⟨j, Nat.le_refl _, by omega, hm, hj, fun i h1 h2 => by omega⟩
      · exfalso
        have hn2 : (wayN f (j + 1) x).Nodup := by
          rw [wayN_succ, List.nodup_append]
          exact ⟨hj, List.pairwise_singleton _ _, fun a ha b hb e => hm (by rw [List.mem_singleton] at hb; rw [← hb, ← e]; exact ha)⟩
        have := len_le_of (hnd _ hn2) (fun y hy => by
          rcases List.mem_append.1 hy with h | h
          · exact hV.sub y h
          · exact hway _ y h)
        rw [List.length_append, wayN_len] at this
        omega
    | succ d ih =>
      intro j hd hj
      by_cases hm : itN f j x ∈ wayN f j x
      · obtain ⟨i, hi, _⟩ := mem_wayN.1 hm
        exact ⟨j, Nat.le_refl _, by omega, hm, hj, fun i h1 h2 => by omega⟩
      · have hn2 : (wayN f (j + 1) x).Nodup := by
          rw [wayN_succ, List.nodup_append]
          exact ⟨hj, List.pairwise_singleton _ _, fun a ha b hb e => hm (by rw [List.mem_singleton] at hb; rw [← hb, ← e]; exact ha)⟩
        obtain ⟨c, h1, h2, h3, h4, h5⟩ := ih (j + 1) (by omega) hn2
        refine ⟨c, by omega, h2, h3, h4, fun i g1 g2 => ?_⟩
        rcases Nat.lt_or_ge j i with h | h
        · exact h5 i (by omega) g2
        · have : i = j := by omega
          rw [this]; exact hm
  obtain ⟨c, _, hc, hm, hn, hbef⟩ := key _ 0 rfl (by unfold wayN; exact List.nodup_nil)
  have hret : itN f c x = x := by
    obtain ⟨i, hi, e⟩ := mem_wayN.1 hm
    have e2 : itN f i (itN f (c - i) x) = itN f i x := by rw [← itN_add, show i + (c - i) = c by omega, e]
    have e3 := hf.it_inj i _ _ (hf.it _ x hx) hx e2
    rcases Nat.eq_zero_or_pos i with h0 | h0
    · rw [h0, Nat.sub_zero] at e3; exact e3
    · exfalso
      exact hbef (c - i) (Nat.zero_le _) (by omega) (mem_wayN.2 ⟨0, by omega, e3.symm⟩)
  have hVc := hnd c hn
  have hle := len_le_of hVc (fun y hy => by
    rcases List.mem_append.1 hy with h | h
    · exact hV.sub y h
    · exact hway _ y h)
  rw [List.length_append, wayN_len] at hle
  refine ⟨c, hc, hle, hret, fun j hj h => ?_, ?_⟩
  · rcases List.mem_append.1 h with h | h
    · exact hout j h
    · exact hbef j (Nat.zero_le _) hj h
  · refine ⟨by rw [List.flatten_append, ← hV.flat]; simp, hVc, fun y hy => ?_, fun y hy => ?_, fun y hy h => ?_, fun o ho => ?_⟩
    · rcases List.mem_append.1 hy with h | h
      · exact hV.sub y h
      · exact hway _ y h
    · rcases List.mem_append.1 hy with h | h
      · exact List.mem_append_left _ (hV.to_ y h)
      · refine List.mem_append_right _ ?_
        obtain ⟨i, hi, rfl⟩ := mem_wayN.1 h
        by_cases hl : i + 1 = c
        · exact mem_wayN.2 ⟨0, hc, by show x = itN f (i + 1) x; rw [hl, hret]⟩
        · exact mem_wayN.2 ⟨i + 1, by omega, rfl⟩
    · rcases List.mem_append.1 h with h | h
      · exact List.mem_append_left _ (hV.back y hy h)
      · refine List.mem_append_right _ ?_
        obtain ⟨i, hi, e⟩ := mem_wayN.1 h
        cases i with
        | zero =>
          have e2 : f (itN f (c - 1) x) = f y := by
            rw [← e]
            show itN f (c - 1 + 1) x = x
            rw [show c - 1 + 1 = c by omega, hret]
          have := hf.inj _ (hf.it _ x hx) _ hy e2
          exact mem_wayN.2 ⟨c - 1, by omega, this⟩
        | succ i => exact mem_wayN.2 ⟨i, by omega, hf.inj _ (hf.it _ x hx) _ hy e⟩
    · rcases List.mem_append.1 ho with h | h
      · exact hV.cyc o h
      · rw [List.mem_singleton.1 h]
        exact ⟨⟨x, c, hc, rfl, hn, hret⟩⟩
/-- How many come back behind t motions, by the lengths of the cycles. -/
def fixN (t : Nat) : List Nat → Nat
  | [] => 0
  | c :: l => (if t % c = 0 then c else 0) + fixN t l
theorem Met.fixed {α : Type} {f : α → α} {L V : List α} {out : List (List α)} (h : Met f L V out) (t : Nat) (P : α → Bool) (hP : ∀ x ∈ V, P x = true ↔ itN f t x = x) : V.countP P = fixN t (out.map List.length) := by
  have key : ∀ l : List (List α), (∀ o ∈ l, Cyc f o ∧ ∀ x ∈ o, P x = true ↔ itN f t x = x) → l.flatten.countP P = fixN t (l.map List.length) := by
    intro l
    induction l with
    | nil => intro _; rfl
    | cons o l ih =>
      intro hl
      rw [List.flatten_cons, List.countP_append, ih (fun o ho => hl o (List.mem_cons_of_mem _ ho)), List.map_cons]
      show _ = (if t % o.length = 0 then o.length else 0) + fixN t (l.map List.length)
      congr 1
      obtain ⟨h1, h2⟩ := hl o List.mem_cons_self
      by_cases hd : t % o.length = 0
      · rw [if_pos hd, List.countP_eq_length]
        intro x hx
        exact (h2 x hx).2 ((h1.back x hx t).2 (Nat.dvd_of_mod_eq_zero hd))
      · rw [if_neg hd, List.countP_eq_zero]
        intro x hx hp
        exact hd (Nat.mod_eq_zero_of_dvd ((h1.back x hx t).1 ((h2 x hx).1 hp)))
  rw [h.flat]
  refine key out (fun o ho => ⟨h.cyc o ho, fun x hx => hP x ?_⟩)
  rw [h.flat]
  exact List.mem_flatten.2 ⟨o, ho, hx⟩
/-- The least common multiple of a list. -/
def lcmL : Nat → List Nat → Nat
  | a, [] => a
  | a, c :: l => lcmL (Nat.lcm a c) l
theorem lcmL_dvd : ∀ l a m, lcmL a l ∣ m ↔ a ∣ m ∧ ∀ c ∈ l, c ∣ m
  | [], a, m => by simp [lcmL]
  | c :: l, a, m => by
    unfold lcmL
    rw [lcmL_dvd l, Nat.lcm_dvd_iff]
    constructor
    · rintro ⟨⟨h1, h2⟩, h3⟩
      refine ⟨h1, fun x hx => ?_⟩
      rcases List.mem_cons.1 hx with rfl | hx
      · exact h2
      · exact h3 x hx
    · rintro ⟨h1, h2⟩
      exact ⟨⟨h1, h2 c List.mem_cons_self⟩, fun x hx => h2 x (List.mem_cons_of_mem _ hx)⟩
theorem lcmL_first (l : List Nat) (a : Nat) : a ∣ lcmL a l := ((lcmL_dvd l a _).1 (Nat.dvd_refl _)).1
theorem lcmL_pos : ∀ l a, 0 < a → (∀ c ∈ l, 0 < c) → 0 < lcmL a l
  | [], a, ha, _ => ha
  | c :: l, a, ha, h => lcmL_pos l _ (Nat.lcm_pos ha (h c List.mem_cons_self)) (fun x hx => h x (List.mem_cons_of_mem _ hx))
/-- The same numbers, whatever often: the same multiple. -/
theorem lcmL_same {l m : List Nat} (h1 : ∀ c ∈ l, c ∈ m) (h2 : ∀ c ∈ m, c ∈ l) : lcmL 1 l = lcmL 1 m :=
  Nat.dvd_antisymm ((lcmL_dvd l 1 _).2 ⟨Nat.one_dvd _, fun c hc => ((lcmL_dvd m 1 _).1 (Nat.dvd_refl _)).2 c (h1 c hc)⟩) ((lcmL_dvd m 1 _).2 ⟨Nat.one_dvd _, fun c hc => ((lcmL_dvd l 1 _).1 (Nat.dvd_refl _)).2 c (h2 c hc)⟩)
/-- The multiple, unless it is too great. -/
def lcmTo (M : Nat) (l : List Nat) : Int × Bool := if lcmL 1 l ≤ M then (((lcmL 1 l : Nat) : Int), true) else (0, false)
end Go.Proofs.Ytnihjpnheooeoaa.Q
end

section
namespace Go.Proofs.Ytnihjpnheooeoaa.Q
open Go.RowKit Go.Proofs.YtnihjpnheooeoaaW.PrintWords Go.Proofs.Ytnihjpnheooeoaa.F
set_option linter.unusedVariables false
theorem has_eq {a j : Nat} (ha : a < 2 ^ 62) (hj : j ≤ 64) : impl_has.f (a : Int) (j : Int) = some (a.testBit j) := by
  unfold impl_has.f
  rw [if_pos (Int.natCast_nonneg _), shrN a j hj]
  congr 1
  have h1 : a / 2 ^ j < 2 ^ 62 := Nat.lt_of_le_of_lt (Nat.div_le_self _ _) ha
  have := bits_andN (a := a / 2 ^ j) (b := 1) h1 (by decide)
  rw [show ((1 : Nat) : Int) = 1 from rfl] at this
  rw [this, ← odd_bit, Nat.and_one_is_mod]
  rw [Bool.eq_iff_iff, beq_iff_eq, beq_iff_eq]
  omega

end Go.Proofs.Ytnihjpnheooeoaa.Q
end

section
namespace Go.Proofs.Ytnihjpnheooeoaa.Q
open Go.RowKit Go.Proofs.YtnihjpnheooeoaaW.PrintWords
set_option linter.unusedVariables false
theorem getD_set {α : Type} (l : List α) (i j : Nat) (v d : α) (hi : i < l.length) : (l.set i v).getD j d = if i = j then v else l.getD j d := by
  simp only [List.getD_eq_getElem?_getD, List.getElem?_set]
  by_cases h : i = j
  · subst h; simp [hi]
  · simp [h]
theorem ext_getD {a b : List Int} (hl : a.length = b.length) (h : ∀ i, i < a.length → a.getD i 0 = b.getD i 0) : a = b := by
  apply List.ext_getElem hl
  intro i h1 h2
  have := h i h1
  rw [List.getD_eq_getElem?_getD, List.getD_eq_getElem?_getD, List.getElem?_eq_getElem h1, List.getElem?_eq_getElem h2] at this
  exact this
theorem reverse_getD (l : List Int) (i : Nat) (h : i < l.length) : l.reverse.getD i 0 = l.getD (l.length - 1 - i) 0 := by
  rw [List.getD_eq_getElem?_getD, List.getD_eq_getElem?_getD, List.getElem?_reverse h]
end Go.Proofs.Ytnihjpnheooeoaa.Q
end

section
namespace Go.Proofs.Ytnihjpnheooeoaa.Q
open Go.RowKit Go.Proofs.YtnihjpnheooeoaaW.PrintWords Go.Proofs.Ytnihjpnheooeoaa.F
set_option linter.unusedVariables false
theorem l1Same_run {a b : List Int} (hl : a.length = b.length) (h : a.length ≤ 1000) : ∀ i, i ≤ a.length → ∀ v : Bool, (v = true ↔ ∀ j, i ≤ j → j < a.length → a.getD j 0 = b.getD j 0) → Ev (fun k => spec_l1Same.l0 k a b (a.length : Int) (i : Int)) v := by
  refine downTo _ ?_ ?_
  · intro v hv
    refine Ev.step (by intro k; simp only [spec_l1Same.l0]; rfl) (Ev.no (by omega) (Ev.ret ?_))
    symm; rw [hv]; intro j h1 h2; omega
  · intro i hi ih v hv
    refine Ev.step (by intro k; simp only [spec_l1Same.l0]; rfl) (Ev.yes (by omega) (Ev.yes (by omega) (Ev.yes (by omega) (Ev.yes (by omega) ?_))))
    rw [rdN, rdN, wid (by omega) (by omega)]
    refine Ev.ite (fun he => ?_) (fun he => ?_)
    · refine ih v (hv.trans ?_)
      constructor
      · intro g j h1 h2
        exact g j (by omega) h2
      · intro g j h1 h2
        rcases Nat.lt_or_ge i j with h3 | h3
        · exact g j h3 h2
        · have : j = i := by omega
          rw [this]; exact he
    · refine Ev.ret ?_
      cases v with
      | false => rfl
      | true => exact absurd (hv.1 rfl i (Nat.le_refl _) hi) he
theorem l1Same_ev {a b : List Int} (hl : a.length = b.length) (h : a.length ≤ 1000) : Ev (fun k => spec_l1Same.f k a b) (decide (a = b)) := by
  unfold spec_l1Same.f
  refine Ev.yes (by omega) (l1Same_run hl h 0 (Nat.zero_le _) _ ?_)
  rw [decide_eq_true_eq]
  exact ⟨fun g j _ _ => by rw [g], fun g => ext_getD hl (fun i hi => g i (Nat.zero_le _) hi)⟩
end Go.Proofs.Ytnihjpnheooeoaa.Q
end

section
namespace Go.Proofs.Ytnihjpnheooeoaa.Q
open Go.RowKit Go.Proofs.YtnihjpnheooeoaaW.PrintWords Go.Proofs.Ytnihjpnheooeoaa.F
set_option linter.unusedVariables false
theorem eqIntS_ev (a b : List Int) (h : a.length ≤ 9223372036854775807) : Ev (fun k => laws_eqIntS.f k a b) (decide (a = b)) := by
  unfold laws_eqIntS.f
  refine Ev.ite (fun hl => ?_) (fun hl => Ev.ret ?_)
  · have hl' : a.length = b.length := by omega
    have key : ∀ i, i ≤ a.length → a.take i = b.take i → Ev (fun k => laws_eqIntS.l0 k a b (i : Int)) (decide (a = b)) := by
      refine downTo _ ?_ ?_
      · intro hp
        refine Ev.step (by intro k; simp only [laws_eqIntS.l0]; rfl) (Ev.no (by omega) (Ev.ret ?_))
        rw [List.take_length, hl', List.take_length] at hp
        simp [hp]
      · intro i hi ih hp
        refine Ev.step (by intro k; simp only [laws_eqIntS.l0]; rfl) (Ev.yes (by omega) (Ev.yes (by omega) (Ev.yes (by omega) ?_)))
        rw [wid1 hi (by omega), rdN, rdN]
        have ga : a.getD i 0 = a[i] := by rw [List.getD_eq_getElem?_getD, List.getElem?_eq_getElem hi]; rfl
        have gb : b.getD i 0 = b[i]'(by omega) := by rw [List.getD_eq_getElem?_getD, List.getElem?_eq_getElem (by omega)]; rfl
        rw [ga, gb]
        refine Ev.ite (fun h => ih ?_) (fun h => Ev.ret ?_)
        · rw [List.take_add_one, List.take_add_one, hp, List.getElem?_eq_getElem hi, List.getElem?_eq_getElem (show i < b.length by omega), h]
        · rw [decide_eq_false]
          intro e
          subst e
          exact h rfl
    exact key 0 (by omega) rfl
  · rw [decide_eq_false]
    intro e
    subst e
    exact hl rfl
theorem eqIntS_refl (a : List Int) (h : a.length ≤ 9223372036854775807) : Ev (fun k => laws_eqIntS.f k a a) true := evc (eqIntS_ev a a h) (by simp)
end Go.Proofs.Ytnihjpnheooeoaa.Q
end

section
namespace Go.Proofs.Ytnihjpnheooeoaa.Q
open Go.RowKit Go.Proofs.YtnihjpnheooeoaaW.PrintWords Go.Proofs.Ytnihjpnheooeoaa.F
set_option linter.unusedVariables false
theorem eqPoset_refl (a : List Int) (h : a.length ≤ 9223372036854775807) : Ev (fun k => laws_eqPoset.f k a a) true := by
  unfold laws_eqPoset.f
  exact Ev.bind (eqIntS_refl a h) (Ev.yes rfl (Ev.ret rfl))
end Go.Proofs.Ytnihjpnheooeoaa.Q
end

section
namespace Go.Proofs.Ytnihjpnheooeoaa.Q
open Go.RowKit Go.Proofs.YtnihjpnheooeoaaW.PrintWords Go.Proofs.Ytnihjpnheooeoaa.F
set_option linter.unusedVariables false
theorem szIntS_eq (l : List Int) (a : Nat) (ha : a ≤ 1048576) (h : l.length ≤ maxLen) : laws_szIntS.f l (a : Int) = some (if l.length ≤ a then ((a - l.length : Nat) : Int) else -1) := by
  unfold laws_szIntS.f
  unfold maxLen at h
  have e : wrap64 ((a : Int) - (l.length : Int)) = (a : Int) - (l.length : Int) := wid (by omega) (by omega)
  rw [e]
  by_cases hc : l.length ≤ a
  · rw [if_neg (by omega), if_pos hc]; congr 1; omega
  · rw [if_pos (by omega), if_neg hc]
end Go.Proofs.Ytnihjpnheooeoaa.Q
end

section
namespace Go.Proofs.Ytnihjpnheooeoaa.Q
open Go.RowKit Go.Proofs.YtnihjpnheooeoaaW.PrintWords Go.Proofs.Ytnihjpnheooeoaa.F
set_option linter.unusedVariables false
theorem szPoset_eq (l : List Int) (a : Nat) (ha : a ≤ 1048576) (h : l.length ≤ maxLen) : laws_szPoset.f l (a : Int) = some (if l.length ≤ a then ((a - l.length : Nat) : Int) else -1) := by
  unfold laws_szPoset.f
  rw [szIntS_eq l a ha h]
  by_cases hc : l.length ≤ a
  · simp only [if_pos hc, Option.bind_some]; rw [if_neg (by omega)]
  · simp only [if_neg hc, Option.bind_some]; rw [if_pos (by omega)]
end Go.Proofs.Ytnihjpnheooeoaa.Q
end

section
namespace Go.Proofs.Ytnihjpnheooeoaa.Q
open Go.RowKit Go.Proofs.YtnihjpnheooeoaaW.PrintWords Go.Proofs.Ytnihjpnheooeoaa.F
set_option linter.unusedVariables false
theorem toIntS_ev (l : List Int) (h : l.length ≤ 1048576) : Ev (fun k => laws_toIntS.f k l) l := by
  unfold laws_toIntS.f
  refine Ev.yes (by omega) (Ev.yes (by omega) ?_)
  have key : ∀ i, i ≤ l.length → ∀ acc : List Int, acc.length = l.length → acc.take i = l.take i → Ev (fun k => laws_toIntS.l0 k l acc (i : Int)) l := by
    refine downTo _ ?_ ?_
    · intro acc ha hi
      refine Ev.step (by intro k; simp only [laws_toIntS.l0]; rfl) (Ev.no (by omega) (Ev.ret ?_))
      rw [List.take_length, ← ha, List.take_length] at hi
      exact hi
    · intro i hi ih acc ha hp
      refine Ev.step (by intro k; simp only [laws_toIntS.l0]; rfl) (Ev.yes (by omega) (Ev.yes (by omega) (Ev.yes (by omega) ?_)))
      rw [wid1 hi (by omega), rdN, Int.toNat_natCast]
      refine ih _ (by simp [ha]) ?_
      rw [List.take_add_one, List.take_add_one, List.take_set_of_le (Nat.le_refl _), hp, List.getElem?_set, List.getD_eq_getElem?_getD, List.getElem?_eq_getElem hi]
      simp [ha, hi]
  exact key 0 (by omega) _ (by simp) (by simp)
end Go.Proofs.Ytnihjpnheooeoaa.Q
end

section
namespace Go.Proofs.Ytnihjpnheooeoaa.Q
open Go.RowKit Go.Proofs.YtnihjpnheooeoaaW.PrintWords Go.Proofs.Ytnihjpnheooeoaa.F
set_option linter.unusedVariables false
theorem toPoset_ev (l : List Int) (h : l.length ≤ 1048576) : Ev (fun k => laws_toPoset.f k l) l := by
  unfold laws_toPoset.f
  exact Ev.bind (toIntS_ev l h) (Ev.ret rfl)
end Go.Proofs.Ytnihjpnheooeoaa.Q
end

section
namespace Go.Proofs.Ytnihjpnheooeoaa.Q
open Go.RowKit Go.Proofs.YtnihjpnheooeoaaW.PrintWords
set_option linter.unusedVariables false
/-- a, a + 1, .., n of them. -/
def upFrom (a : Nat) (n : Nat) : List Int := (List.range' a n).map Int.ofNat
theorem upFrom_len (a n : Nat) : (upFrom a n).length = n := by simp [upFrom]
theorem upFrom_get {a n i : Nat} (h : i < n) : (upFrom a n).getD i 0 = ((a + i : Nat) : Int) := by
  rw [List.getD_eq_getElem?_getD]
  simp [upFrom, h]
end Go.Proofs.Ytnihjpnheooeoaa.Q
end

section
namespace Go.Proofs.Ytnihjpnheooeoaa.Q
open Go.RowKit Go.Proofs.YtnihjpnheooeoaaW.PrintWords Go.Proofs.Ytnihjpnheooeoaa.F
set_option linter.unusedVariables false
theorem heldIntS_ev (a n : Nat) (h : a + n ≤ 4611686018427387904) : Ev (fun k => laws_heldIntS.f k (upFrom a n) (a : Int)) ((a + n : Nat) : Int) := by
  unfold laws_heldIntS.f
  have key : ∀ i, i ≤ n → Ev (fun k => laws_heldIntS.l0 k (upFrom a n) ((a + i : Nat) : Int) (i : Int)) ((a + n : Nat) : Int) := by
    refine downTo _ ?_ ?_
    · refine Ev.step (by intro k; simp only [laws_heldIntS.l0]; rfl) (Ev.no (by rw [upFrom_len]; omega) (Ev.ret rfl))
    · intro i hi ih
      refine Ev.step (by intro k; simp only [laws_heldIntS.l0]; rfl) (Ev.yes (by rw [upFrom_len]; omega) (Ev.yes (by omega) (Ev.yes ?_ ?_)))
      · rw [rdN, upFrom_get hi]
      · rw [wid1 hi (by omega), wid1 (i := a + i) (n := a + n) (by omega) (by omega)]
        exact ih
  exact key 0 (by omega)
theorem heldIntS_ev1 (n : Nat) (h : n ≤ 4611686018427387000) : Ev (fun k => laws_heldIntS.f k (upFrom 1 n) 1) ((1 + n : Nat) : Int) := heldIntS_ev 1 n (by omega)
end Go.Proofs.Ytnihjpnheooeoaa.Q
end

section
namespace Go.Proofs.Ytnihjpnheooeoaa.Q
open Go.RowKit Go.Proofs.YtnihjpnheooeoaaW.PrintWords Go.Proofs.Ytnihjpnheooeoaa.F
set_option linter.unusedVariables false
theorem markIntS_ev (l : List Int) (a : Nat) (h : a + l.length ≤ 4611686018427387904) : Ev (fun k => laws_markIntS.f k l (a : Int)) (((a + l.length : Nat) : Int), upFrom a l.length) := by
  unfold laws_markIntS.f
  have key : ∀ i, i ≤ l.length → ∀ acc : List Int, acc.length = l.length → acc.take i = upFrom a i → Ev (fun k => laws_markIntS.l0 k acc ((a + i : Nat) : Int) (i : Int)) (((a + l.length : Nat) : Int), upFrom a l.length) := by
    refine downTo _ ?_ ?_
    · intro acc ha hp
      refine Ev.step (by intro k; simp only [laws_markIntS.l0]; rfl) (Ev.no (by omega) (Ev.ret ?_))
      rw [← ha, List.take_length] at hp
      rw [hp, ha]
    · intro i hi ih acc ha hp
      refine Ev.step (by intro k; simp only [laws_markIntS.l0]; rfl) (Ev.yes (by omega) (Ev.yes (by omega) ?_))
      rw [wid1 hi (by omega), wid1 (i := a + i) (n := a + l.length) (by omega) (by omega), Int.toNat_natCast]
      refine ih _ (by simp [ha]) ?_
      rw [List.take_add_one, List.take_set_of_le (Nat.le_refl _), hp, List.getElem?_set]
      simp [ha, hi, upFrom, List.range'_concat]
  exact key 0 (by omega) l rfl (by simp [upFrom])
theorem markIntS_ev1 (l : List Int) (h : l.length ≤ 4611686018427387000) : Ev (fun k => laws_markIntS.f k l 1) (((1 + l.length : Nat) : Int), upFrom 1 l.length) := markIntS_ev l 1 (by omega)
end Go.Proofs.Ytnihjpnheooeoaa.Q
end

section
namespace Go.Proofs.Ytnihjpnheooeoaa.Q
end Go.Proofs.Ytnihjpnheooeoaa.Q
end

section
namespace Go.Proofs.Ytnihjpnheooeoaa.Q
open Go.RowKit Go.Proofs.YtnihjpnheooeoaaW.PrintWords Go.Proofs.Ytnihjpnheooeoaa.F
set_option linter.unusedVariables false
theorem poIn_eq {a j : Nat} (hj : j ≤ 64) : spec_poIn.f (a : Int) (j : Int) = some (a.testBit j) := by
  unfold spec_poIn.f
  rw [if_pos (Int.natCast_nonneg _)]
  congr 1
  rw [Bool.eq_iff_iff, beq_iff_eq]
  exact bit_test hj
end Go.Proofs.Ytnihjpnheooeoaa.Q
end

section
namespace Go.Proofs.Ytnihjpnheooeoaa.Q
open Go.RowKit Go.Proofs.YtnihjpnheooeoaaW.PrintWords
set_option linter.unusedVariables false
/-- What is less than element i, as a set. -/
def L (p : List Int) (i : Nat) : Nat := (p.getD i 0).toNat
def rowOk (p : List Int) (i : Nat) : Bool := decide (0 ≤ p.getD i 0) && decide (p.getD i 0 ≤ 2 ^ i - 1) && allFrom (fun j => !(L p i).testBit j || decide (Go.bits .andNot .i64 (p.getD j 0) (p.getD i 0) = 0)) i 0
def isPo (p : List Int) : Bool := decide (1 ≤ p.length) && decide (p.length ≤ 10) && allFrom (rowOk p) p.length 0
structure PO (p : List Int) : Prop where
  pos : 1 ≤ p.length
  small : p.length ≤ 10
  val : ∀ i, i < p.length → p.getD i 0 = (L p i : Int)
  lt : ∀ i, i < p.length → L p i < 2 ^ i
  tr : ∀ i j, i < p.length → (L p i).testBit j = true → ndiff (L p j) (L p i) = 0
theorem L_big {p : List Int} {i : Nat} (h : p.length ≤ i) : L p i = 0 := by
  unfold L; rw [List.getD_eq_getElem?_getD, List.getElem?_eq_none h]; rfl
theorem isPo_iff (p : List Int) : isPo p = true ↔ PO p := by
  unfold isPo
  rw [Bool.and_eq_true, Bool.and_eq_true, decide_eq_true_eq, decide_eq_true_eq, allFrom_iff]
  constructor
  · rintro ⟨⟨h1, h2⟩, h3⟩
    have hv : ∀ i, i < p.length → p.getD i 0 = (L p i : Int) ∧ L p i < 2 ^ i := by
      intro i hi
      have := h3 i (Nat.zero_le _) hi
      simp only [rowOk, Bool.and_eq_true, decide_eq_true_eq] at this
      obtain ⟨⟨a, b⟩, _⟩ := this
      rw [pow_int] at b
      have hp : 0 < 2 ^ i := Nat.two_pow_pos i
      unfold L
      generalize 2 ^ i = z at *
      omega
    refine ⟨h1, h2, fun i hi => (hv i hi).1, fun i hi => (hv i hi).2, fun i j hi hj => ?_⟩
    have hji : j < i := lt_of_bit (hv i hi).2 hj
    have := h3 i (Nat.zero_le _) hi
    simp only [rowOk, Bool.and_eq_true] at this
    have h4 := (allFrom_iff _ _ _).1 this.2 j (Nat.zero_le _) hji
    rw [hj] at h4
    simp only [Bool.not_true, Bool.false_or, decide_eq_true_eq] at h4
    rw [(hv i hi).1, (hv j (by omega)).1, bits_andNotN (lt_pow (hv j (by omega)).2 (by omega)) (lt_pow (hv i hi).2 (by omega))] at h4
    exact_mod_cast h4
  · intro h
    refine ⟨⟨h.pos, h.small⟩, fun i _ hi => ?_⟩
    have hs := h.small
    have hl := h.lt i hi
    simp only [rowOk, Bool.and_eq_true, decide_eq_true_eq]
    refine ⟨⟨by rw [h.val i hi]; omega, by rw [h.val i hi, pow_int]; generalize 2 ^ i = z at *; omega⟩, ?_⟩
    rw [allFrom_iff]
    intro j _ hj
    cases hb : (L p i).testBit j with
    | false => rfl
    | true =>
      simp only [Bool.not_true, Bool.false_or, decide_eq_true_eq]
      rw [h.val i hi, h.val j (by omega), bits_andNotN (lt_pow (h.lt j (by omega)) (by omega)) (lt_pow hl (by omega)), h.tr i j hi hb]
      rfl
theorem isPo_false {p : List Int} (h : ¬ PO p) : isPo p = false := by
  cases e : isPo p with
  | false => rfl
  | true => exact absurd ((isPo_iff p).1 e) h

/-- The elements of a set, in order. -/
def itemsN (m : Nat) : List Nat := (List.range 10).filter m.testBit
def ints (l : List Nat) : List Int := l.map Int.ofNat
theorem ints_len (l : List Nat) : (ints l).length = l.length := by simp [ints]
theorem ints_app (a b : List Nat) : ints (a ++ b) = ints a ++ ints b := by simp [ints]
theorem ints_get (l : List Nat) (i : Nat) : (ints l).getD i 0 = ((l.getD i 0 : Nat) : Int) := by
  simp only [ints, List.getD_eq_getElem?_getD, List.getElem?_map]
  cases l[i]? <;> rfl
theorem rd_ints (l : List Nat) (i : Nat) : rd (ints l) (i : Int) = ((l.getD i 0 : Nat) : Int) := by rw [rdN, ints_get]
theorem mem_itemsN {m j : Nat} : j ∈ itemsN m ↔ j < 10 ∧ m.testBit j = true := by
  unfold itemsN; rw [List.mem_filter, List.mem_range]
theorem itemsN_len (m : Nat) : (itemsN m).length ≤ 10 := by
  unfold itemsN; have := List.length_filter_le m.testBit (List.range 10); simpa using this
theorem rowOk_false {p : List Int} {i : Nat} (h : ¬ (0 ≤ p.getD i 0 ∧ p.getD i 0 ≤ 2 ^ i - 1)) : rowOk p i = false := by
  unfold rowOk; rw [range_false h]; rfl
theorem rowOk_true {p : List Int} {i : Nat} (h : 0 ≤ p.getD i 0 ∧ p.getD i 0 ≤ 2 ^ i - 1) :
    rowOk p i = allFrom (fun j => !(L p i).testBit j || decide (Go.bits .andNot .i64 (p.getD j 0) (p.getD i 0) = 0)) i 0 := by
  unfold rowOk; rw [range_true h]; rfl
theorem all_drop_step {α : Type} (f : α → Bool) (l : List α) (d : α) {i : Nat} (h : i < l.length) : (l.drop i).all f = (f (l.getD i d) && (l.drop (i + 1)).all f) := by
  rw [List.drop_eq_getElem_cons h, List.all_cons, List.getD_eq_getElem?_getD, List.getElem?_eq_getElem h]; rfl
theorem items_lt {m i : Nat} {j : Nat} (hm : m < 2 ^ i) (hj : j < (itemsN m).length) : (itemsN m).getD j 0 < i := by
  rw [List.getD_eq_getElem?_getD, List.getElem?_eq_getElem hj]
  have := List.getElem_mem hj
  exact lt_of_bit hm (mem_itemsN.1 this).2
theorem items_all {m i : Nat} (hm : m < 2 ^ i) (hi : i ≤ 10) (f : Nat → Bool) : (itemsN m).all f = allFrom (fun j => !m.testBit j || f j) i 0 := by
  rw [Bool.eq_iff_iff, List.all_eq_true, allFrom_iff]
  constructor
  · intro h j _ hj
    cases hb : m.testBit j with
    | false => rfl
    | true => rw [h j (mem_itemsN.2 ⟨by omega, hb⟩)]; rfl
  · intro h j hj
    obtain ⟨h1, h2⟩ := mem_itemsN.1 hj
    have := h j (Nat.zero_le _) (lt_of_bit hm h2)
    rw [h2] at this
    simpa using this
end Go.Proofs.Ytnihjpnheooeoaa.Q
end

section
namespace Go.Proofs.Ytnihjpnheooeoaa.Q
open Go.RowKit Go.Proofs.YtnihjpnheooeoaaW.PrintWords Go.Proofs.Ytnihjpnheooeoaa.F
set_option linter.unusedVariables false
theorem tmodN (a b : Nat) : Int.tmod (a : Int) (b : Int) = ((a % b : Nat) : Int) := by
  rw [Int.tmod_eq_emod_of_nonneg (Int.natCast_nonneg _)]; rfl
theorem tdivN (a b : Nat) : Int.tdiv (a : Int) (b : Int) = ((a / b : Nat) : Int) := by
  rw [Int.tdiv_eq_ediv_of_nonneg (Int.natCast_nonneg _)]; rfl
theorem gcd_turn (a b : Nat) : Nat.gcd a b = Nat.gcd b (a % b) := by
  rw [Nat.gcd_comm a b, Nat.gcd_rec b a, Nat.gcd_comm]
theorem gcd_ev : ∀ b a : Nat, Ev (fun k => impl_gcd.f k (a : Int) (b : Int)) ((Nat.gcd a b : Nat) : Int) := by
  intro b
  induction b using Nat.strongRecOn with
  | _ b ih =>
    intro a
    unfold impl_gcd.f
    refine Ev.step (by intro k; simp only [impl_gcd.l0]; rfl) ?_
    by_cases h : b = 0
    · subst h; exact Ev.yes rfl (Ev.ret (by simp))
    · refine Ev.no (by omega) ?_
      rw [tmodN, gcd_turn]
      have := ih (a % b) (Nat.mod_lt _ (by omega)) b
      unfold impl_gcd.f at this
      exact this
theorem lcm_parts {a c : Nat} (hc : 0 < c) : a * (c / Nat.gcd a c) = Nat.lcm a c := by
  unfold Nat.lcm
  rw [Nat.mul_div_assoc _ (Nat.gcd_dvd_right a c)]
theorem common_run {M : Nat} (hM : M ≤ 1000000) {l : List Nat} (hl : l.length ≤ 1000) (hpos : ∀ c ∈ l, 0 < c ∧ c ≤ 1000) : ∀ i, i ≤ l.length → ∀ a : Nat, 0 < a → a ≤ M →
    Ev (fun k => impl_common.l0 k (M : Int) (a : Int) (ints l) (l.length : Int) (i : Int)) (if lcmL a (l.drop i) ≤ M then (((lcmL a (l.drop i) : Nat) : Int), true) else (0, false)) := by
  refine downTo _ ?_ ?_
  · intro a ha haM
    rw [List.drop_length]
    refine Ev.step (by intro k; simp only [impl_common.l0]; rfl) (Ev.no (by omega) (Ev.ret ?_))
    show _ = if a ≤ M then _ else _
    rw [if_pos haM]; rfl
  · intro i hi ih a ha haM
    have hd : l.drop i = l[i] :: l.drop (i + 1) := List.drop_eq_getElem_cons hi
    obtain ⟨hc, hc2⟩ := hpos _ (List.getElem_mem hi)
    have hg : l.getD i 0 = l[i] := by rw [List.getD_eq_getElem?_getD, List.getElem?_eq_getElem hi]; rfl
    rw [hd]
    refine Ev.step (by intro k; simp only [impl_common.l0]; rfl) (Ev.yes (by omega) (Ev.yes (by omega) (Ev.yes (by rw [ints_len]; omega) ?_)))
    rw [rd_ints, hg]
    generalize l[i] = c at hc hc2 ⊢
    refine Ev.bind (gcd_ev c a) ?_
    have hgp : 0 < Nat.gcd a c := Nat.gcd_pos_of_pos_left c ha
    have hgd := Nat.gcd_dvd_right a c
    have hq : 0 < c / Nat.gcd a c := Nat.div_pos (Nat.le_of_dvd hc hgd) hgp
    have hq2 : c / Nat.gcd a c ≤ c := Nat.div_le_self _ _
    have hlcm := lcm_parts (a := a) hc
    have hlp : 0 < Nat.lcm a c := Nat.lcm_pos ha hc
    refine Ev.no (by omega) ?_
    rw [tdivN, wid (n := ((c / Nat.gcd a c : Nat) : Int)) (by omega) (by omega)]
    refine Ev.no (by omega) ?_
    generalize c / Nat.gcd a c = q at hq hq2 hlcm ⊢
    have hmq : M / q ≤ M := Nat.div_le_self _ _
    have hbig : M / q < a ↔ M < Nat.lcm a c := by
      rw [← hlcm, Nat.div_lt_iff_lt_mul hq]
    rw [tdivN]
    generalize M / q = z at hmq hbig ⊢
    rw [wid (n := (z : Int)) (by omega) (by omega)]
    show Ev _ (if lcmL (Nat.lcm a c) (l.drop (i + 1)) ≤ M then _ else _)
    have hrest : ∀ x ∈ l.drop (i + 1), 0 < x := fun x hx => (hpos x (List.mem_of_mem_drop hx)).1
    by_cases hb : M < Nat.lcm a c
    · have h1 := hbig.2 hb
      refine Ev.yes (by omega) (Ev.ret ?_)
      have h2 := Nat.le_of_dvd (lcmL_pos _ _ hlp hrest) (lcmL_first (l.drop (i + 1)) (Nat.lcm a c))
      rw [if_neg (by omega)]
    · have h1 : ¬ (z < a) := fun h => hb (hbig.1 h)
      refine Ev.no (by omega) ?_
      have hm : (a : Int) * (q : Int) = ((Nat.lcm a c : Nat) : Int) := by rw [← hlcm]; exact (Int.natCast_mul _ _).symm
      rw [hm, wid (by omega) (by omega), wid1 hi (by omega)]
      exact ih (Nat.lcm a c) hlp (by omega)
theorem common_ev {l : List Nat} (hl : l.length ≤ 1000) (hpos : ∀ c ∈ l, 0 < c ∧ c ≤ 1000) : Ev (fun k => impl_common.f k (ints l) 1000000) (lcmTo 1000000 l) := by
  unfold impl_common.f lcmTo
  have := common_run (M := 1000000) (Nat.le_refl _) hl hpos 0 (Nat.zero_le _) 1 Nat.one_pos (by decide)
  rw [List.drop_zero] at this
  rw [ints_len]
  exact this
end Go.Proofs.Ytnihjpnheooeoaa.Q
end

section
namespace Go.Proofs.Ytnihjpnheooeoaa.Q
open Go.RowKit Go.Proofs.YtnihjpnheooeoaaW.PrintWords Go.Proofs.Ytnihjpnheooeoaa.F
set_option linter.unusedVariables false
theorem items_ev (m : Nat) (hm : m < 2 ^ 62) : Ev (fun k => impl_items.f k (m : Int)) (ints (itemsN m)) := by
  show Ev (fun k => impl_items.l0 k (m : Int) [] 0) _
  have key : ∀ i, i ≤ 10 → ∀ acc : List Int, acc.length ≤ i → Ev (fun k => impl_items.l0 k (m : Int) acc (i : Int)) (acc ++ ints ((List.range' i (10 - i)).filter m.testBit)) := by
    refine downTo 10 ?_ ?_
    · intro acc _
      refine Ev.step (by intro k; simp only [impl_items.l0]; rfl) ?_
      refine Ev.no (by omega) (Ev.ret (by simp [ints]))
    · intro i hi ih acc ha
      refine Ev.step (by intro k; simp only [impl_items.l0]; rfl) ?_
      refine Ev.yes (by omega) (Ev.call (has_eq hm (by omega)) ?_)
      have hr : List.range' i (10 - i) = i :: List.range' (i + 1) (10 - (i + 1)) := by
        rw [show 10 - i = (10 - (i + 1)) + 1 by omega, List.range'_succ]
      rw [hr, wid1 hi (by omega)]
      cases hb : m.testBit i with
      | true =>
        refine Ev.yes rfl (Ev.yes (by omega) (evc (ih (acc ++ [(i : Int)]) (by simp; omega)) ?_))
        rw [List.filter_cons_of_pos hb]
        simp [ints]
      | false =>
        refine Ev.no (by simp) (evc (ih acc (by omega)) ?_)
        rw [List.filter_cons_of_neg (by simp [hb])]
  have := key 0 (by omega) [] (by simp)
  exact evc this (by simp [itemsN, List.range_eq_range'])

end Go.Proofs.Ytnihjpnheooeoaa.Q
end

section
namespace Go.Proofs.Ytnihjpnheooeoaa.Q
open Go.RowKit Go.Proofs.YtnihjpnheooeoaaW.PrintWords Go.Proofs.Ytnihjpnheooeoaa.F
set_option linter.unusedVariables false
theorem rdL_at {rows : List (List Int)} {i : Nat} (h : i < rows.length) : rd_L1 rows (i : Int) = rows[i] := by
  unfold rd_L1
  rw [Int.toNat_natCast, List.getD_eq_getElem?_getD, List.getElem?_eq_getElem h]; rfl
end Go.Proofs.Ytnihjpnheooeoaa.Q
end

section
namespace Go.Proofs.Ytnihjpnheooeoaa.Q
open Go.RowKit Go.Proofs.YtnihjpnheooeoaaW.PrintWords
set_option linter.unusedVariables false
/-- The set of the e below n with c e. -/
def maskOf : Nat → (Nat → Bool) → Nat
  | 0, _ => 0
  | n + 1, c => if c n then maskOf n c ||| 2 ^ n else maskOf n c
theorem maskOf_bit (n : Nat) (c : Nat → Bool) (i : Nat) : (maskOf n c).testBit i = (decide (i < n) && c i) := by
  induction n with
  | zero => simp [maskOf]
  | succ n ih =>
    unfold maskOf
    by_cases hc : c n = true
    · rw [if_pos hc, Nat.testBit_or, ih, pow_bit]
      by_cases h : n = i
      · subst h; simp [hc]
      · have : decide (i < n + 1) = decide (i < n) := by rw [decide_eq_decide]; omega
        rw [this]; simp [h]
    · rw [if_neg hc, ih]
      by_cases h : n = i
      · subst h; simp at hc; simp [hc]
      · have : decide (i < n + 1) = decide (i < n) := by rw [decide_eq_decide]; omega
        rw [this]
theorem maskOf_lt (n : Nat) (c : Nat → Bool) : maskOf n c < 2 ^ n := by
  apply Nat.lt_pow_two_of_testBit
  intro i hi
  rw [maskOf_bit, decide_eq_false (by omega)]; rfl
def subB (a b : Nat) : Bool := ndiff a b == 0
theorem ndiff_zero {a b : Nat} : ndiff a b = 0 ↔ ∀ i, a.testBit i = true → b.testBit i = true := by
  constructor
  · intro h i hi
    have := ndiff_bit a b i
    rw [h, hi, Nat.zero_testBit] at this
    cases hb : b.testBit i with
    | true => rfl
    | false => rw [hb] at this; simp at this
  · intro h
    apply Nat.eq_of_testBit_eq
    intro i
    rw [ndiff_bit, Nat.zero_testBit]
    cases ha : a.testBit i with
    | false => rfl
    | true => rw [h i ha]; rfl
theorem subB_iff {a b : Nat} : subB a b = true ↔ ∀ i, a.testBit i = true → b.testBit i = true := by unfold subB; rw [beq_iff_eq]; exact ndiff_zero
/-- The set of all elements of a poset. -/
def allN (p : List Int) : Nat := 2 ^ p.length - 1
theorem allN_bit (p : List Int) (i : Nat) : (allN p).testBit i = decide (i < p.length) := by unfold allN; rw [Nat.testBit_two_pow_sub_one]
theorem allN_lt (p : List Int) : allN p < 2 ^ p.length := by unfold allN; have := Nat.two_pow_pos p.length; omega
/-- A number that is a set of elements of p. -/
def setB (p : List Int) (x : Int) : Bool := decide (0 ≤ x) && decide (x ≤ ((allN p : Nat) : Int))
theorem setB_iff {p : List Int} {x : Int} : setB p x = true ↔ ∃ s : Nat, x = (s : Int) ∧ s < 2 ^ p.length := by
  unfold setB
  rw [Bool.and_eq_true, decide_eq_true_eq, decide_eq_true_eq]
  have := Nat.two_pow_pos p.length
  unfold allN
  constructor
  · rintro ⟨h1, h2⟩; exact ⟨x.toNat, by omega, by omega⟩
  · rintro ⟨s, rfl, h⟩; omega
/-- A set that has with each element all that are less. -/
def idealB (p : List Int) (s : Nat) : Bool := allFrom (fun i => !s.testBit i || subB (L p i) s) p.length 0
theorem idealB_iff {p : List Int} {s : Nat} : idealB p s = true ↔ ∀ i, i < p.length → s.testBit i = true → ∀ j, (L p i).testBit j = true → s.testBit j = true := by
  unfold idealB
  rw [allFrom_iff]
  constructor
  · intro h i hi hs
    have := h i (Nat.zero_le _) hi
    rw [hs] at this
    exact subB_iff.1 (by simpa using this)
  · intro h i _ hi
    cases hs : s.testBit i with
    | false => rfl
    | true => rw [subB_iff.2 (h i hi hs)]; rfl
def closeN (p : List Int) (s : Nat) : Nat := (itemsN s).foldl (fun a e => a ||| L p e) s
theorem foldl_or_bit (g : Nat → Nat) (l : List Nat) (a i : Nat) : (l.foldl (fun a e => a ||| g e) a).testBit i = (a.testBit i || l.any fun e => (g e).testBit i) := by
  induction l generalizing a with
  | nil => simp
  | cons x l ih => rw [List.foldl_cons, ih, Nat.testBit_or, List.any_cons, Bool.or_assoc]
theorem closeN_bit {p : List Int} {s i : Nat} : (closeN p s).testBit i = (s.testBit i || (itemsN s).any fun e => (L p e).testBit i) := foldl_or_bit _ _ _ _
theorem closeN_eq {p : List Int} (hp : PO p) {s : Nat} (hs : s < 2 ^ p.length) : (closeN p s == s) = idealB p s := by
  have hn := hp.small
  rw [Bool.eq_iff_iff, beq_iff_eq, idealB_iff]
  constructor
  · intro h i hi hb j hj
    have := closeN_bit (p := p) (s := s) (i := j)
    rw [h] at this
    rw [this]
    have : (itemsN s).any (fun e => (L p e).testBit j) = true := List.any_eq_true.2 ⟨i, mem_itemsN.2 ⟨by omega, hb⟩, hj⟩
    rw [this]; simp
  · intro h
    apply Nat.eq_of_testBit_eq
    intro i
    rw [closeN_bit]
    cases hb : s.testBit i with
    | true => rfl
    | false =>
      rw [Bool.false_or, ← Bool.not_eq_true, List.any_eq_true]
      rintro ⟨e, he, hj⟩
      obtain ⟨_, h2⟩ := mem_itemsN.1 he
      have := h e (lt_of_bit hs h2) h2 i hj
      rw [this] at hb; cases hb
theorem L_lt {p : List Int} (hp : PO p) {i : Nat} (hi : i < p.length) : L p i < 2 ^ p.length := lt_pow (hp.lt i hi) (by omega)
theorem foldl_or_lt (g : Nat → Nat) (l : List Nat) (a n : Nat) (ha : a < 2 ^ n) (hg : ∀ e, e ∈ l → g e < 2 ^ n) : l.foldl (fun a e => a ||| g e) a < 2 ^ n := by
  induction l generalizing a with
  | nil => exact ha
  | cons x l ih => exact ih _ (or_lt ha (hg x List.mem_cons_self)) (fun e he => hg e (List.mem_cons_of_mem _ he))
theorem closeN_lt {p : List Int} (hp : PO p) {s : Nat} (hs : s < 2 ^ p.length) : closeN p s < 2 ^ p.length :=
  foldl_or_lt _ _ _ _ hs (fun e he => L_lt hp (lt_of_bit hs (mem_itemsN.1 he).2))
theorem foldl_drop_step {α β : Type} (f : β → α → β) (l : List α) (d : α) (b : β) {i : Nat} (h : i < l.length) : (l.drop i).foldl f b = (l.drop (i + 1)).foldl f (f b (l.getD i d)) := by
  rw [List.drop_eq_getElem_cons h, List.foldl_cons, List.getD_eq_getElem?_getD, List.getElem?_eq_getElem h]; rfl
end Go.Proofs.Ytnihjpnheooeoaa.Q
end

section
namespace Go.Proofs.Ytnihjpnheooeoaa.Q
open Go.RowKit Go.Proofs.YtnihjpnheooeoaaW.PrintWords
set_option linter.unusedVariables false
def sumL : List Nat → Nat
  | [] => 0
  | x :: l => x + sumL l
theorem sumL_append (a b : List Nat) : sumL (a ++ b) = sumL a + sumL b := by
  induction a with
  | nil => simp [sumL]
  | cons x a ih => simp only [List.cons_append, sumL, ih]; omega
theorem sumL_le (l : List Nat) (b n : Nat) (h : ∀ x ∈ l, x ≤ b) (hn : l.length ≤ n) : sumL l ≤ n * b := by
  induction l generalizing n with
  | nil => exact Nat.zero_le _
  | cons x l ih =>
    cases n with
    | zero => simp at hn
    | succ n =>
      have h1 := h x List.mem_cons_self
      have h2 := ih n (fun y hy => h y (List.mem_cons_of_mem _ hy)) (by simpa using hn)
      rw [Nat.add_mul]; simp only [sumL]; omega
/-- The elements that can come behind those of s. -/
def nextN (p : List Int) (s : Nat) : List Nat := (List.range 10).filter fun e => decide (e < p.length) && !s.testBit e && subB (L p e) s
theorem mem_nextN {p : List Int} {s e : Nat} : e ∈ nextN p s ↔ e < 10 ∧ e < p.length ∧ s.testBit e = false ∧ subB (L p e) s = true := by
  unfold nextN
  rw [List.mem_filter, List.mem_range, Bool.and_eq_true, Bool.and_eq_true, decide_eq_true_eq, Bool.not_eq_true']
  constructor
  · rintro ⟨a, ⟨b, c⟩, d⟩; exact ⟨a, b, c, d⟩
  · rintro ⟨a, b, c, d⟩; exact ⟨a, ⟨b, c⟩, d⟩
theorem nextN_len (p : List Int) (s : Nat) : (nextN p s).length ≤ 10 := by
  unfold nextN; exact Nat.le_trans (List.length_filter_le _ _) (by simp)
def cnt (p : List Int) : Nat → Nat → Nat
  | 0, s => if s = allN p then 1 else 0
  | d + 1, s => if s = allN p then 1 else sumL ((nextN p s).map fun e => cnt p d (s ||| 2 ^ e))
theorem cnt_le (p : List Int) (d s : Nat) : cnt p d s ≤ 10 ^ d := by
  induction d generalizing s with
  | zero => unfold cnt; split <;> simp
  | succ d ih =>
    unfold cnt
    have h1 : 1 ≤ 10 ^ (d + 1) := Nat.one_le_pow _ _ (by decide)
    split
    · exact h1
    · have := sumL_le ((nextN p s).map fun e => cnt p d (s ||| 2 ^ e)) (10 ^ d) 10 (fun x hx => by obtain ⟨e, _, rfl⟩ := List.mem_map.1 hx; exact ih _) (by rw [List.length_map]; exact nextN_len p s)
      rw [Nat.pow_succ]; omega
def miss (p : List Int) (s : Nat) : Nat := (List.range p.length).countP fun e => !s.testBit e
theorem miss_le (p : List Int) (s : Nat) : miss p s ≤ p.length := by unfold miss; have := List.countP_le_length (p := fun e => !s.testBit e) (l := List.range p.length); simpa using this
theorem countP_lt {α : Type} (f g : α → Bool) (l : List α) (h : ∀ x ∈ l, f x = true → g x = true) (x : α) (hx : x ∈ l) (hg : g x = true) (hf : f x = false) : l.countP f < l.countP g := by
  induction l with
  | nil => cases hx
  | cons y l ih =>
    have hle : l.countP f ≤ l.countP g := List.countP_mono_left (fun z hz => h z (List.mem_cons_of_mem _ hz))
    rw [List.countP_cons, List.countP_cons]
    rcases List.mem_cons.1 hx with rfl | hx'
    · rw [hf, hg]; simp; omega
    · have := ih (fun z hz => h z (List.mem_cons_of_mem _ hz)) hx'
      have hy := h y List.mem_cons_self
      cases hfy : f y with
      | true => rw [hy hfy]; simp; omega
      | false => cases g y <;> simp <;> omega
theorem miss_lt {p : List Int} {s e : Nat} (he : e < p.length) (hb : s.testBit e = false) : miss p (s ||| 2 ^ e) < miss p s := by
  unfold miss
  refine countP_lt _ _ _ (fun x _ hx => ?_) e (List.mem_range.2 he) (by rw [hb]; rfl) ?_
  · rw [Nat.testBit_or] at hx
    cases h : s.testBit x with
    | false => rfl
    | true => rw [h] at hx; simp at hx
  · rw [Nat.testBit_or, pow_bit]; simp
theorem miss_zero {p : List Int} {s : Nat} (hs : s < 2 ^ p.length) (h : miss p s = 0) : s = allN p := by
  refine ext_bits hs (allN_lt p) (fun i hi => ?_)
  rw [allN_bit, decide_eq_true hi]
  unfold miss at h
  rw [List.countP_eq_zero] at h
  have := h i (List.mem_range.2 hi)
  simpa using this
theorem add_lt {p : List Int} {s e : Nat} (hs : s < 2 ^ p.length) (he : e < p.length) : s ||| 2 ^ e < 2 ^ p.length := or_lt hs (pow_lt_pow he)
theorem cnt_fuel {p : List Int} : ∀ (d d' s : Nat), s < 2 ^ p.length → miss p s ≤ d → miss p s ≤ d' → cnt p d s = cnt p d' s := by
  intro d
  induction d with
  | zero =>
    intro d' s hs h _
    have := miss_zero hs (by omega)
    subst this
    cases d' <;> simp [cnt]
  | succ d ih =>
    intro d' s hs h h'
    by_cases ha : s = allN p
    · subst ha; cases d' <;> simp [cnt]
    · cases d' with
      | zero => exact absurd (miss_zero hs (by omega)) ha
      | succ d' =>
        simp only [cnt, if_neg ha]
        congr 1
        apply List.map_congr_left
        intro e he
        obtain ⟨_, h1, h2, _⟩ := mem_nextN.1 he
        have := miss_lt h1 h2
        exact ih d' _ (add_lt hs h1) (by omega) (by omega)
/-- In how many orders the elements outside of s can follow. -/
def ways (p : List Int) (s : Nat) : Nat := cnt p p.length s
theorem ways_step {p : List Int} {s : Nat} (hs : s < 2 ^ p.length) (ha : s ≠ allN p) : ways p s = sumL ((nextN p s).map fun e => ways p (s ||| 2 ^ e)) := by
  unfold ways
  rw [cnt_fuel p.length (p.length + 1) s hs (miss_le p s) (by have := miss_le p s; omega)]
  simp only [cnt, if_neg ha]
theorem ways_all (p : List Int) : ways p (allN p) = 1 := by unfold ways; cases p.length <;> simp [cnt]
theorem ways_le {p : List Int} (h : p.length ≤ 10) (s : Nat) : ways p s ≤ 10000000000 := by
  unfold ways
  exact Nat.le_trans (cnt_le p _ s) (Nat.le_trans (Nat.pow_le_pow_right (by decide) h) (by decide))
theorem ways_cnt {p : List Int} {s d : Nat} (hs : s < 2 ^ p.length) (hd : p.length ≤ d) : ways p s = cnt p d s := cnt_fuel _ _ s hs (miss_le p s) (by have := miss_le p s; omega)
theorem idealB_all (p : List Int) (hp : PO p) : idealB p (allN p) = true := by
  rw [idealB_iff]
  intro i hi _ j hj
  rw [allN_bit, decide_eq_true_eq]
  have := lt_of_bit (hp.lt i hi) hj
  omega
theorem idealB_add {p : List Int} (hp : PO p) {s e : Nat} (hs : idealB p s = true) (he : e ∈ nextN p s) : idealB p (s ||| 2 ^ e) = true := by
  obtain ⟨_, h1, _, h3⟩ := mem_nextN.1 he
  rw [idealB_iff] at hs ⊢
  intro i hi hb j hj
  rw [Nat.testBit_or, pow_bit, Bool.or_eq_true, decide_eq_true_eq] at hb
  rw [Nat.testBit_or, Bool.or_eq_true]
  left
  rcases hb with hb | rfl
  · exact hs i hi hb j hj
  · exact subB_iff.1 h3 j hj
end Go.Proofs.Ytnihjpnheooeoaa.Q
end

section
namespace Go.Proofs.Ytnihjpnheooeoaa.Q
open Go.RowKit Go.Proofs.YtnihjpnheooeoaaW.PrintWords Go.Proofs.Ytnihjpnheooeoaa.F
set_option linter.unusedVariables false
theorem all_eq {p : List Int} (h : p.length ≤ 61) : impl_Poset_all.f p = some ((allN p : Nat) : Int) := by
  unfold impl_Poset_all.f
  rw [show impl_Poset_n.f p = some (p.length : Int) from rfl]
  simp only [Option.bind_some]
  rw [if_pos (by omega), mask_eq h, pow_int]
  unfold allN
  have := Nat.two_pow_pos p.length
  congr 1
  omega
end Go.Proofs.Ytnihjpnheooeoaa.Q
end

section
namespace Go.Proofs.Ytnihjpnheooeoaa.Q
open Go.RowKit Go.Proofs.YtnihjpnheooeoaaW.PrintWords Go.Proofs.Ytnihjpnheooeoaa.F
set_option linter.unusedVariables false
theorem close_ev {p : List Int} (hp : PO p) {s : Nat} (hs : s < 2 ^ p.length) : Ev (fun k => impl_Poset_close.f k p (s : Int)) ((closeN p s : Nat) : Int) := by
  have hn := hp.small
  unfold impl_Poset_close.f closeN
  refine Ev.bind (items_ev s (lt_pow hs (by omega))) ?_
  rw [ints_len]
  have hl := itemsN_len s
  have key : ∀ i, i ≤ (itemsN s).length → ∀ a : Nat, a < 2 ^ p.length → Ev (fun k => impl_Poset_close.l0 k (a : Int) (ints (itemsN s)) ((itemsN s).length : Int) (i : Int) p) (((itemsN s).drop i).foldl (fun a e => a ||| L p e) a : Nat) := by
    refine downTo _ ?_ ?_
    · intro a ha
      refine Ev.step (by intro k; simp only [impl_Poset_close.l0]; rfl) (Ev.no (by omega) (Ev.ret ?_))
      rw [List.drop_length]; rfl
    · intro i hi ih a ha
      have hlt := items_lt hs hi
      refine Ev.step (by intro k; simp only [impl_Poset_close.l0]; rfl) (Ev.yes (by omega) (Ev.yes (by omega) (Ev.yes (by rw [ints_len]; omega) ?_)))
      rw [rd_ints, wid1 hi (by omega), rdN, foldl_drop_step _ _ 0 _ hi]
      refine Ev.yes (by omega) (Ev.yes (by omega) ?_)
      rw [hp.val _ hlt, bits_orN (lt_pow ha (by omega)) (lt_pow (L_lt hp hlt) (by omega))]
      exact ih _ (or_lt ha (L_lt hp hlt))
  exact key 0 (by omega) s hs
end Go.Proofs.Ytnihjpnheooeoaa.Q
end

section
namespace Go.Proofs.Ytnihjpnheooeoaa.Q
open Go.RowKit Go.Proofs.YtnihjpnheooeoaaW.PrintWords Go.Proofs.Ytnihjpnheooeoaa.F
set_option linter.unusedVariables false
def cntAt (p : List Int) (m t : Nat) : Nat := if m ≤ t then ways p t else 0
/-- The table, drawn up from m on. -/
def Cl (p : List Int) (m : Nat) : List Int := (List.range (2 ^ p.length)).map fun t => ((cntAt p m t : Nat) : Int)
theorem Cl_len (p : List Int) (m : Nat) : (Cl p m).length = 2 ^ p.length := by simp [Cl]
theorem Cl_get (p : List Int) (m : Nat) {t : Nat} (ht : t < 2 ^ p.length) : (Cl p m).getD t 0 = ((cntAt p m t : Nat) : Int) := by
  unfold Cl
  rw [List.getD_eq_getElem?_getD, List.getElem?_map, List.getElem?_range ht]; rfl
theorem Cl_ext {p : List Int} {m : Nat} {l : List Int} (hl : l.length = 2 ^ p.length) (h : ∀ t, t < 2 ^ p.length → l.getD t 0 = ((cntAt p m t : Nat) : Int)) : l = Cl p m := by
  apply List.ext_getElem
  · rw [hl, Cl_len]
  · intro t h1 h2
    have := h t (by omega)
    rw [← Cl_get p m (by omega), List.getD_eq_getElem?_getD, List.getD_eq_getElem?_getD, List.getElem?_eq_getElem h1, List.getElem?_eq_getElem h2] at this
    exact this
theorem getD_setC (l : List Int) (i : Nat) (v : Int) (hi : i < l.length) (t : Nat) : (l.set i v).getD t 0 = if i = t then v else l.getD t 0 := by
  by_cases h : i = t
  · subst h; rw [if_pos rfl, List.getD_eq_getElem?_getD, List.getElem?_set_self hi]; rfl
  · rw [if_neg h, List.getD_eq_getElem?_getD, List.getElem?_set_ne h, List.getD_eq_getElem?_getD]
theorem add_gtC {s e : Nat} (hb : s.testBit e = false) : s < s ||| 2 ^ e := by
  have h1 : s ≤ s ||| 2 ^ e := Nat.left_le_or
  rcases Nat.lt_or_ge s (s ||| 2 ^ e) with h | h
  · exact h
  · have he : s = s ||| 2 ^ e := by omega
    have : (s ||| 2 ^ e).testBit e = true := by rw [Nat.testBit_or, pow_bit]; simp
    rw [← he, hb] at this; cases this
/-- What can come next among the elements from i on. -/
def nextFrom (p : List Int) (s i : Nat) : List Nat := (List.range' i (p.length - i)).filter fun e => !s.testBit e && subB (L p e) s
theorem nextFrom_zero {p : List Int} (h : p.length ≤ 10) (s : Nat) : nextFrom p s 0 = nextN p s := by
  unfold nextFrom nextN
  have e0 : p.length + (10 - p.length) = 10 := by omega
  have e : List.range 10 = List.range p.length ++ (List.range (10 - p.length)).map (p.length + ·) := by rw [← List.range_add, e0]
  rw [e, List.filter_append, Nat.sub_zero, ← List.range_eq_range']
  have e2 : ((List.range (10 - p.length)).map (p.length + ·)).filter (fun e => decide (e < p.length) && !s.testBit e && subB (L p e) s) = [] := by
    rw [List.filter_eq_nil_iff]
    intro x hx
    obtain ⟨y, _, rfl⟩ := List.mem_map.1 hx
    rw [decide_eq_false (by omega)]; simp
  rw [e2, List.append_nil]
  apply List.filter_congr
  intro x hx
  rw [List.mem_range] at hx
  rw [decide_eq_true hx]; rfl
theorem nextFrom_end (p : List Int) (s : Nat) : nextFrom p s p.length = [] := by unfold nextFrom; simp
theorem nextFrom_step {p : List Int} {s i : Nat} (h : i < p.length) : nextFrom p s i = if !s.testBit i && subB (L p i) s then i :: nextFrom p s (i + 1) else nextFrom p s (i + 1) := by
  unfold nextFrom
  rw [show p.length - i = (p.length - (i + 1)) + 1 by omega, List.range'_succ, List.filter_cons]
theorem liCounts_ev {p : List Int} (hp : PO p) : Ev (fun k => spec_liCounts.f k p) (Cl p 0) := by
  have hn := hp.small
  have hn1 := hp.pos
  have h2 : (2 : Nat) ^ p.length ≤ 1024 := Nat.le_trans (Nat.pow_le_pow_right (by decide) hn) (by decide)
  have h3 : 2 ≤ 2 ^ p.length := Nat.le_trans (by decide) (Nat.pow_le_pow_right (by decide) hn1 : 2 ^ 1 ≤ 2 ^ p.length)
  have hal2 : allN p + 1 = 2 ^ p.length := by unfold allN; omega
  have outer : ∀ s : Nat, s ≤ allN p → Ev (fun k => spec_liCounts.l0 k (Cl p s) ((s : Int) - 1) p) (Cl p 0) := by
    intro s
    induction s with
    | zero =>
      intro _
      exact Ev.step (by intro k; simp only [spec_liCounts.l0]; rfl) (Ev.no (by omega) (Ev.now _))
    | succ s ih =>
      intro hs
      have hs2 : s < 2 ^ p.length := by omega
      have e1 : (((s + 1 : Nat) : Int) - 1) = (s : Int) := by omega
      have e2 : wrap64 ((s : Int) - 1) = (s : Int) - 1 := wid (by omega) (by omega)
      rw [e1]
      refine Ev.step (by intro k; simp only [spec_liCounts.l0]; rfl) (Ev.yes (by omega) ?_)
      have hall : s ≠ allN p := by omega
      have hst := ways_step hs2 hall
      rw [← nextFrom_zero hn] at hst
      have inner : ∀ i, i ≤ p.length → ∀ v : Nat, v + sumL ((nextFrom p s i).map fun e => ways p (s ||| 2 ^ e)) = ways p s →
          Ev (fun k => spec_liCounts.l1 k ((Cl p (s + 1)).set s (v : Int)) (s : Int) p (p.length : Int) (i : Int) p) (Cl p 0) := by
        refine downTo _ ?_ ?_
        · intro v hv
          rw [nextFrom_end] at hv
          have hv' : v = ways p s := by simpa [sumL] using hv
          refine Ev.step (by intro k; simp only [spec_liCounts.l1]; rfl) (Ev.no (by omega) ?_)
          rw [e2]
          have he : (Cl p (s + 1)).set s (v : Int) = Cl p s := by
            apply Cl_ext
            · rw [List.length_set, Cl_len]
            · intro t ht
              rw [getD_setC _ _ _ (by rw [Cl_len]; exact hs2)]
              split
              · rename_i h; subst h; unfold cntAt; rw [if_pos (Nat.le_refl _), hv']
              · rename_i h
                rw [Cl_get _ _ ht]; unfold cntAt
                by_cases hst : s ≤ t
                · rw [if_pos hst, if_pos (by omega)]
                · rw [if_neg hst, if_neg (by omega)]
          rw [he]
          exact ih (by omega)
        · intro i hi ihi v hv
          refine Ev.step (by intro k; simp only [spec_liCounts.l1]; rfl) (Ev.yes (by omega) (Ev.yes (by omega) (Ev.yes (by omega) (Ev.call (poIn_eq (by omega)) ?_))))
          rw [wid1 (i := i) (n := p.length) hi (by omega)]
          rw [nextFrom_step hi] at hv
          cases hb : s.testBit i with
          | true =>
            rw [hb] at hv
            exact Ev.yes rfl (ihi v (by simpa using hv))
          | false =>
            rw [hb] at hv
            refine Ev.no (by simp) ?_
            rw [rdN, hp.val i hi, bits_andNotN (lt_pow (L_lt hp hi) (by omega)) (lt_pow hs2 (by omega))]
            cases hc : subB (L p i) s with
            | false =>
              rw [hc] at hv
              refine Ev.no (fun h => ?_) (ihi v (by simpa using hv))
              have h4 : ndiff (L p i) s = 0 := by exact_mod_cast h
              unfold subB at hc; rw [h4] at hc; simp at hc
            | true =>
              rw [hc] at hv
              have h4 : ndiff (L p i) s = 0 := by unfold subB at hc; exact beq_iff_eq.1 hc
              have hsi : s ||| 2 ^ i < 2 ^ p.length := or_lt hs2 (pow_lt_pow hi)
              have hgt := add_gtC hb
              have hw1 := ways_le hn (s ||| 2 ^ i)
              have hw2 := ways_le hn s
              have hv2 : (v + ways p (s ||| 2 ^ i)) + sumL ((nextFrom p s (i + 1)).map fun e => ways p (s ||| 2 ^ e)) = ways p s := by
                simp only [Bool.not_false, Bool.true_and, if_true, List.map_cons, sumL] at hv
                omega
              refine Ev.yes (by rw [h4]; rfl) (Ev.yes (by omega) (Ev.yes (by rw [List.length_set, Cl_len]; omega) ?_))
              rw [shlN (by omega), bits_orN (lt_pow hs2 (by omega)) (Nat.pow_lt_pow_right (by decide) (by omega))]
              refine Ev.yes (by omega) (Ev.yes (by rw [List.length_set, Cl_len]; omega) ?_)
              rw [rdN, rdN, getD_setC _ _ _ (by rw [Cl_len]; exact hs2), if_pos rfl, getD_setC _ _ _ (by rw [Cl_len]; exact hs2), if_neg (by omega), Cl_get _ _ hsi]
              unfold cntAt
              rw [if_pos (by omega), Int.toNat_natCast, List.set_set]
              have ew : wrap64 ((v : Int) + ((ways p (s ||| 2 ^ i) : Nat) : Int)) = ((v + ways p (s ||| 2 ^ i) : Nat) : Int) := by rw [wid (by omega) (by omega)]; omega
              rw [ew]
              exact ihi _ hv2
      have := inner 0 (by omega) 0 (by rw [Nat.zero_add]; exact hst.symm)
      have e0 : (Cl p (s + 1)).set s ((0 : Nat) : Int) = Cl p (s + 1) := by
        apply Cl_ext
        · rw [List.length_set, Cl_len]
        · intro t ht
          rw [getD_setC _ _ _ (by rw [Cl_len]; exact hs2)]
          split
          · rename_i h; subst h; unfold cntAt; rw [if_neg (by omega)]
          · exact Cl_get _ _ ht
      rw [e0] at this
      exact this
  unfold spec_liCounts.f
  rw [shlN (by omega), Int.toNat_natCast]
  refine Ev.yes (by omega) (Ev.yes (by omega) (Ev.call rfl ?_))
  have ew1 : wrap64 (((2 ^ p.length : Nat) : Int) - 1) = ((allN p : Nat) : Int) := by rw [wid (by omega) (by omega)]; omega
  have ew2 : wrap64 (((2 ^ p.length : Nat) : Int) - 2) = ((allN p : Nat) : Int) - 1 := by rw [wid (by omega) (by omega)]; omega
  rw [ew1, ew2]
  refine Ev.yes (by omega) (Ev.yes (by rw [List.length_replicate]; omega) ?_)
  have e : (List.replicate (2 ^ p.length) (0 : Int)).set (((allN p : Nat) : Int)).toNat 1 = Cl p (allN p) := by
    rw [Int.toNat_natCast]
    apply Cl_ext
    · rw [List.length_set, List.length_replicate]
    · intro t ht
      rw [getD_setC _ _ _ (by rw [List.length_replicate]; omega)]
      split
      · rename_i h; subst h; unfold cntAt; rw [if_pos (Nat.le_refl _), ways_all]; rfl
      · rename_i h
        unfold cntAt
        rw [if_neg (by omega), List.getD_eq_getElem?_getD, List.getElem?_replicate, if_pos ht]; rfl
  rw [e]
  exact outer (allN p) (Nat.le_refl _)
end Go.Proofs.Ytnihjpnheooeoaa.Q
end

section
namespace Go.Proofs.Ytnihjpnheooeoaa.Q
open Go.RowKit Go.Proofs.YtnihjpnheooeoaaW.PrintWords Go.Proofs.Ytnihjpnheooeoaa.F
set_option linter.unusedVariables false
def wayAt (p : List Int) (m t : Nat) : Nat := if m ≤ t then (if idealB p t then ways p t else 0) else 0
/-- The table, drawn up from m on. -/
def Wl (p : List Int) (m : Nat) : List Int := (List.range (2 ^ p.length)).map fun t => ((wayAt p m t : Nat) : Int)
theorem Wl_len (p : List Int) (m : Nat) : (Wl p m).length = 2 ^ p.length := by simp [Wl]
theorem Wl_get (p : List Int) (m : Nat) {t : Nat} (ht : t < 2 ^ p.length) : (Wl p m).getD t 0 = ((wayAt p m t : Nat) : Int) := by
  unfold Wl
  rw [List.getD_eq_getElem?_getD, List.getElem?_map, List.getElem?_range ht]; rfl
theorem Wl_ext {p : List Int} {m : Nat} {l : List Int} (hl : l.length = 2 ^ p.length) (h : ∀ t, t < 2 ^ p.length → l.getD t 0 = ((wayAt p m t : Nat) : Int)) : l = Wl p m := by
  apply List.ext_getElem
  · rw [hl, Wl_len]
  · intro t h1 h2
    have := h t (by omega)
    rw [← Wl_get p m (by omega), List.getD_eq_getElem?_getD, List.getD_eq_getElem?_getD, List.getElem?_eq_getElem h1, List.getElem?_eq_getElem h2] at this
    exact this
theorem getD_setW (l : List Int) (i : Nat) (v : Int) (hi : i < l.length) (t : Nat) : (l.set i v).getD t 0 = if i = t then v else l.getD t 0 := by
  by_cases h : i = t
  · subst h; rw [if_pos rfl, List.getD_eq_getElem?_getD, List.getElem?_set_self hi]; rfl
  · rw [if_neg h, List.getD_eq_getElem?_getD, List.getElem?_set_ne h, List.getD_eq_getElem?_getD]
theorem add_gt {s e : Nat} (hb : s.testBit e = false) : s < s ||| 2 ^ e := by
  have h1 : s ≤ s ||| 2 ^ e := Nat.left_le_or
  rcases Nat.lt_or_ge s (s ||| 2 ^ e) with h | h
  · exact h
  · have he : s = s ||| 2 ^ e := by omega
    have : (s ||| 2 ^ e).testBit e = true := by rw [Nat.testBit_or, pow_bit]; simp
    rw [← he, hb] at this; cases this
theorem nextN_items (p : List Int) (hp : PO p) (s : Nat) : nextN p s = (itemsN (ndiff (allN p) s)).filter fun e => subB (L p e) s := by
  unfold nextN itemsN
  rw [List.filter_filter]
  apply List.filter_congr
  intro e he
  rw [ndiff_bit, allN_bit]
  cases decide (e < p.length) <;> cases s.testBit e <;> cases subB (L p e) s <;> rfl
theorem ways_table {p : List Int} (hp : PO p) : Ev (fun k => impl_Poset_ways.f k p) (Wl p 0) := by
  have hn := hp.small
  have h2 : (2 : Nat) ^ p.length ≤ 1024 := Nat.le_trans (Nat.pow_le_pow_right (by decide) hn) (by decide)
  have hal := allN_lt p
  have hal2 : allN p + 1 = 2 ^ p.length := by unfold allN; have := Nat.two_pow_pos p.length; omega
  have outer : ∀ s : Nat, s ≤ allN p → Ev (fun k => impl_Poset_ways.l0 k (Wl p s) ((s : Int) - 1) p) (Wl p 0) := by
    intro s
    induction s with
    | zero =>
      intro _
      exact Ev.step (by intro k; simp only [impl_Poset_ways.l0]; rfl) (Ev.no (by omega) (Ev.ret rfl))
    | succ s ih =>
      intro hs
      have hs2 : s < 2 ^ p.length := by omega
      have e1 : (((s + 1 : Nat) : Int) - 1) = (s : Int) := by omega
      have e2 : wrap64 ((s : Int) - 1) = (s : Int) - 1 := wid (by omega) (by omega)
      rw [e1]
      refine Ev.step (by intro k; simp only [impl_Poset_ways.l0]; rfl) (Ev.yes (by omega) ?_)
      refine Ev.bind (close_ev hp hs2) ?_
      have hcl := closeN_eq hp hs2
      have hall : s ≠ allN p := by omega
      by_cases hid : idealB p s = true
      · rw [hid, beq_iff_eq] at hcl
        rw [hcl]
        refine Ev.yes rfl (Ev.call (all_eq (by omega)) ?_)
        rw [bits_andNotN (lt_pow hal (by omega)) (lt_pow hs2 (by omega))]
        have hit : ndiff (allN p) s < 2 ^ p.length := ndiff_lt hal
        refine Ev.bind (items_ev _ (lt_pow hit (by omega))) ?_
        rw [ints_len]
        generalize hI : itemsN (ndiff (allN p) s) = I
        have hIl : I.length ≤ 10 := by rw [← hI]; exact itemsN_len _
        have inner : ∀ i, i ≤ I.length → ∀ v : Nat, v + sumL (((I.drop i).filter fun e => subB (L p e) s).map fun e => ways p (s ||| 2 ^ e)) = ways p s →
            Ev (fun k => impl_Poset_ways.l1 k ((Wl p (s + 1)).set s (v : Int)) (s : Int) (ints I) (I.length : Int) (i : Int) p) (Wl p 0) := by
          refine downTo _ ?_ ?_
          · intro v hv
            rw [List.drop_length] at hv
            have hv' : v = ways p s := by simpa [sumL] using hv
            refine Ev.step (by intro k; simp only [impl_Poset_ways.l1]; rfl) (Ev.no (by omega) ?_)
            rw [e2]
            have he : (Wl p (s + 1)).set s (v : Int) = Wl p s := by
              apply Wl_ext
              · rw [List.length_set, Wl_len]
              · intro t ht
                rw [getD_setW _ _ _ (by rw [Wl_len]; exact hs2)]
                split
                · rename_i h; subst h; unfold wayAt; rw [if_pos (Nat.le_refl _), if_pos hid, hv']
                · rename_i h
                  rw [Wl_get _ _ ht]; unfold wayAt
                  by_cases hst : s ≤ t
                  · rw [if_pos hst, if_pos (by omega)]
                  · rw [if_neg hst, if_neg (by omega)]
            rw [he]
            exact ih (by omega)
          · intro i hi ihi v hv
            obtain ⟨hm, hlt⟩ : I.getD i 0 ∈ I ∧ I.getD i 0 < p.length := by
              have hm : I.getD i 0 ∈ I := by rw [List.getD_eq_getElem?_getD, List.getElem?_eq_getElem hi]; exact List.getElem_mem hi
              refine ⟨hm, ?_⟩
              have := items_lt hit (j := i) (by rw [hI]; exact hi)
              rw [hI] at this; exact this
            have hbit : s.testBit (I.getD i 0) = false := by
              have hm' := hm
              rw [← hI, mem_itemsN, ndiff_bit] at hm'
              have := hm'.2
              rw [hI] at this
              cases h : s.testBit (I.getD i 0) with
              | false => rfl
              | true => rw [h] at this; simp at this
            have hdrop : I.drop i = I.getD i 0 :: I.drop (i + 1) := by
              rw [List.drop_eq_getElem_cons hi, List.getD_eq_getElem?_getD, List.getElem?_eq_getElem hi]; rfl
            generalize hE : I.getD i 0 = E at hm hlt hbit hdrop
            rw [hdrop] at hv
            refine Ev.step (by intro k; simp only [impl_Poset_ways.l1]; rfl) (Ev.yes (by omega) (Ev.yes (by omega) (Ev.yes (by rw [ints_len]; omega) ?_)))
            rw [rd_ints, hE, wid1 hi (by omega), rdN]
            refine Ev.yes (by omega) (Ev.yes (by omega) ?_)
            rw [hp.val _ hlt, bits_andNotN (lt_pow (L_lt hp hlt) (by omega)) (lt_pow hs2 (by omega))]
            have hwl := Wl_len p (s + 1)
            by_cases hsub : subB (L p E) s = true
            · have hz : ndiff (L p E) s = 0 := by unfold subB at hsub; rw [beq_iff_eq] at hsub; exact hsub
              rw [hz]
              rw [List.filter_cons, hsub, if_pos rfl, List.map_cons] at hv
              simp only [sumL] at hv
              have hor : s ||| 2 ^ E < 2 ^ p.length := add_lt hs2 hlt
              rw [shlN (by omega), bits_orN (lt_pow hs2 (by omega)) (lt_pow (pow_lt_pow hlt) (by omega))]
              refine Ev.yes rfl (Ev.yes (by omega) (Ev.yes (by rw [List.length_set, hwl]; omega) (Ev.yes (by omega) (Ev.yes (by rw [List.length_set, hwl]; omega) ?_))))
              rw [rdN, rdN, getD_setW _ _ _ (by rw [hwl]; exact hs2), if_pos rfl, getD_setW _ _ _ (by rw [hwl]; exact hs2), Int.toNat_natCast, List.set_set]
              have hgt := add_gt hbit
              rw [if_neg (by omega), Wl_get _ _ hor]
              have hnx : E ∈ nextN p s := by rw [mem_nextN]; exact ⟨by omega, hlt, hbit, hsub⟩
              have hw : wayAt p (s + 1) (s ||| 2 ^ E) = ways p (s ||| 2 ^ E) := by
                unfold wayAt; rw [if_pos (by omega), if_pos (idealB_add hp hid hnx)]
              have hb := ways_le hn s
              rw [hw, wid (by omega) (by omega)]
              have := ihi (v + ways p (s ||| 2 ^ E)) (by omega)
              rw [Int.natCast_add] at this
              exact this
            · have hz : ndiff (L p E) s ≠ 0 := by intro h; apply hsub; unfold subB; rw [h]; rfl
              rw [List.filter_cons, if_neg hsub] at hv
              refine Ev.no (by omega) ?_
              exact ihi v hv
        have hstart : Wl p (s + 1) = (Wl p (s + 1)).set s ((0 : Nat) : Int) := by
          symm
          apply Wl_ext
          · rw [List.length_set, Wl_len]
          · intro t ht
            rw [getD_setW _ _ _ (by rw [Wl_len]; exact hs2)]
            split
            · rename_i h; subst h; unfold wayAt; rw [if_neg (by omega)]
            · exact Wl_get _ _ ht
        rw [hstart]
        refine inner 0 (by omega) 0 ?_
        rw [ways_step hs2 hall, nextN_items p hp, hI]; simp
      · rw [Bool.not_eq_true] at hid
        rw [hid, beq_eq_false_iff_ne] at hcl
        refine Ev.no (by omega) ?_
        rw [e2]
        have he : Wl p (s + 1) = Wl p s := by
          apply Wl_ext (Wl_len _ _)
          intro t ht
          rw [Wl_get _ _ ht]; unfold wayAt
          by_cases hst : s ≤ t
          · rw [if_pos hst]
            by_cases h : s = t
            · subst h; rw [if_neg (by omega), hid]; rfl
            · rw [if_pos (by omega)]
          · rw [if_neg hst, if_neg (by omega)]
        rw [he]
        exact ih (by omega)
  unfold impl_Poset_ways.f
  refine Ev.call (all_eq (by omega)) ?_
  have e3 : wrap64 (((allN p : Nat) : Int) + 1) = ((2 ^ p.length : Nat) : Int) := by rw [← hal2]; exact wid (by omega) (by omega)
  rw [e3]
  refine Ev.yes (by omega) (Ev.yes (by omega) ?_)
  rw [Int.toNat_natCast]
  refine Ev.call rfl (Ev.call (all_eq (by omega)) (Ev.yes (by omega) (Ev.yes (by rw [List.length_replicate]; omega) (Ev.call (all_eq (by omega)) ?_))))
  have e4 : wrap64 (((allN p : Nat) : Int) - 1) = ((allN p : Nat) : Int) - 1 := wid (by omega) (by omega)
  rw [e4, Int.toNat_natCast]
  have he : (List.replicate (2 ^ p.length) (0 : Int)).set (allN p) 1 = Wl p (allN p) := by
    apply Wl_ext
    · rw [List.length_set, List.length_replicate]
    · intro t ht
      rw [getD_setW _ _ _ (by rw [List.length_replicate]; exact hal)]
      split
      · rename_i h; subst h; unfold wayAt; rw [if_pos (Nat.le_refl _), if_pos (idealB_all p hp), ways_all]; rfl
      · unfold wayAt
        rw [if_neg (by omega), List.getD_eq_getElem?_getD, List.getElem?_replicate]
        split <;> rfl
  rw [he]
  exact outer _ (Nat.le_refl _)
end Go.Proofs.Ytnihjpnheooeoaa.Q
end

section
namespace Go.Proofs.Ytnihjpnheooeoaa.Q
open Go.RowKit Go.Proofs.YtnihjpnheooeoaaW.PrintWords
set_option linter.unusedVariables false
/-- The elements of l are put behind the set s one by one, each behind all that are less. -/
def ordRun (p : List Int) : Nat → List Int → Option Nat
  | s, [] => some s
  | s, e :: l => if (0 ≤ e ∧ e < (p.length : Int)) ∧ s.testBit e.toNat = false ∧ subB (L p e.toNat) s = true then ordRun p (s ||| 2 ^ e.toNat) l else none
def ordB (p w : List Int) : Bool := ordRun p 0 w == some (allN p)
theorem ordB_iff {p w : List Int} : ordB p w = true ↔ ordRun p 0 w = some (allN p) := by unfold ordB; rw [beq_iff_eq]
theorem ordRun_app (p x y : List Int) : ∀ s, ordRun p s (x ++ y) = (ordRun p s x).bind fun t => ordRun p t y := by
  induction x with
  | nil => intro s; rfl
  | cons e x ih =>
    intro s
    simp only [List.cons_append, ordRun]
    split
    · exact ih _
    · rfl
theorem ordRun_range {p l : List Int} : ∀ {s t : Nat}, ordRun p s l = some t → ∀ e ∈ l, 0 ≤ e ∧ e < (p.length : Int) := by
  induction l with
  | nil => intro s t h e he; cases he
  | cons x l ih =>
    intro s t h e he
    simp only [ordRun] at h
    split at h
    · rename_i hc
      rcases List.mem_cons.1 he with rfl | he
      · exact hc.1
      · exact ih h e he
    · cases h
def pcard (n s : Nat) : Nat := (List.range n).countP s.testBit
theorem pcard_succ (n s : Nat) : pcard (n + 1) s = pcard n s + if s.testBit n then 1 else 0 := by
  unfold pcard; rw [List.range_succ, List.countP_append, List.countP_singleton]
theorem pcard_above {n e : Nat} (s : Nat) (h : n ≤ e) : pcard n (s ||| 2 ^ e) = pcard n s := by
  unfold pcard
  apply List.countP_congr
  intro x hx
  rw [List.mem_range] at hx
  rw [Nat.testBit_or, pow_bit, decide_eq_false (by omega), Bool.or_false]
theorem pcard_add {n s e : Nat} (he : e < n) (hb : s.testBit e = false) : pcard n (s ||| 2 ^ e) = pcard n s + 1 := by
  induction n with
  | zero => omega
  | succ n ih =>
    rw [pcard_succ, pcard_succ, Nat.testBit_or, pow_bit]
    rcases Nat.lt_succ_iff_lt_or_eq.1 he with h | h
    · rw [ih h, decide_eq_false (by omega), Bool.or_false]; omega
    · subst h; rw [pcard_above s (Nat.le_refl _), hb]; simp
theorem pcard_zero (n : Nat) : pcard n 0 = 0 := by unfold pcard; rw [List.countP_eq_zero]; intro x _; simp
theorem pcard_le (n s : Nat) : pcard n s ≤ n := by unfold pcard; have := List.countP_le_length (p := s.testBit) (l := List.range n); simpa using this
theorem pcard_all (p : List Int) : pcard p.length (allN p) = p.length := by
  unfold pcard
  have : (List.range p.length).countP (allN p).testBit = (List.range p.length).length := by
    rw [List.countP_eq_length]; intro x hx; rw [List.mem_range] at hx; rw [allN_bit, decide_eq_true hx]
  rw [this, List.length_range]
theorem all_of_pcard {p : List Int} {s : Nat} (hs : s < 2 ^ p.length) (h : pcard p.length s = p.length) : s = allN p := by
  refine ext_bits hs (allN_lt p) (fun i hi => ?_)
  rw [allN_bit, decide_eq_true hi]
  have h2 : (List.range p.length).countP s.testBit = (List.range p.length).length := by rw [List.length_range]; exact h
  rw [List.countP_eq_length] at h2
  exact h2 i (List.mem_range.2 hi)
theorem ordRun_card {p l : List Int} : ∀ {s t : Nat}, s < 2 ^ p.length → ordRun p s l = some t → t < 2 ^ p.length ∧ pcard p.length t = pcard p.length s + l.length := by
  induction l with
  | nil => intro s t hs h; simp only [ordRun, Option.some.injEq] at h; subst h; exact ⟨hs, rfl⟩
  | cons x l ih =>
    intro s t hs h
    simp only [ordRun] at h
    split at h
    · rename_i hc
      obtain ⟨⟨h0, h1⟩, h2, h3⟩ := hc
      have hx : x.toNat < p.length := by omega
      obtain ⟨g1, g2⟩ := ih (or_lt hs (pow_lt_pow hx)) h
      refine ⟨g1, ?_⟩
      rw [g2, pcard_add hx h2, List.length_cons]; omega
    · cases h
theorem ordB_len {p w : List Int} (h : ordB p w = true) : w.length = p.length := by
  have := (ordRun_card (Nat.two_pow_pos _) (ordB_iff.1 h)).2
  rw [pcard_all, pcard_zero] at this; omega
theorem ordB_eq (p w : List Int) : (decide (w.length = p.length) && (ordRun p 0 w).isSome) = ordB p w := by
  rw [Bool.eq_iff_iff, Bool.and_eq_true, decide_eq_true_eq]
  constructor
  · rintro ⟨hl, hs⟩
    obtain ⟨t, ht⟩ := Option.isSome_iff_exists.1 hs
    obtain ⟨g1, g2⟩ := ordRun_card (Nat.two_pow_pos _) ht
    rw [pcard_zero, hl, Nat.zero_add] at g2
    rw [ordB_iff, ht, all_of_pcard g1 g2]
  · intro h
    exact ⟨ordB_len h, by rw [ordB_iff.1 h]; rfl⟩
theorem ordB_range {p w : List Int} (h : ordB p w = true) : ∀ e ∈ w, 0 ≤ e ∧ e < (p.length : Int) := ordRun_range (ordB_iff.1 h)
theorem drop_getD (w : List Int) {i : Nat} (h : i < w.length) : w.drop i = w.getD i 0 :: w.drop (i + 1) := by
  rw [List.drop_eq_getElem_cons h, List.getD_eq_getElem?_getD, List.getElem?_eq_getElem h]; rfl
end Go.Proofs.Ytnihjpnheooeoaa.Q
end

section
namespace Go.Proofs.Ytnihjpnheooeoaa.Q
open Go.RowKit Go.Proofs.YtnihjpnheooeoaaW.PrintWords
set_option linter.unusedVariables false
theorem sizes_eq (n : Nat) : (decide ((1 : Int) ≤ (n : Int)) && decide ((n : Int) ≤ 10)) = (decide (1 ≤ n) && decide (n ≤ 10)) := by
  rw [Bool.eq_iff_iff]; simp only [Bool.and_eq_true, decide_eq_true_eq]; omega
end Go.Proofs.Ytnihjpnheooeoaa.Q
end

section
namespace Go.Proofs.Ytnihjpnheooeoaa.Q
open Go.RowKit Go.Proofs.YtnihjpnheooeoaaW.PrintWords Go.Proofs.Ytnihjpnheooeoaa.F
set_option linter.unusedVariables false
theorem poGood_ev (p : List Int) : Ev (fun k => spec_poGood.f k p) (isPo p) := by
  unfold spec_poGood.f
  refine Ev.call (l1In_eq _ _ _) ?_
  unfold isPo
  rw [sizes_eq]
  cases hs : (decide (1 ≤ p.length) && decide (p.length ≤ 10)) with
  | false => exact Ev.no (by simp) (Ev.ret rfl)
  | true =>
  refine Ev.yes rfl ?_
  rw [Bool.and_eq_true, decide_eq_true_eq, decide_eq_true_eq] at hs
  obtain ⟨h1, h2⟩ := hs
  have key : ∀ i, i ≤ p.length → Ev (fun k => spec_poGood.l0 k p (p.length : Int) (i : Int) p) (allFrom (rowOk p) p.length i) := by
    refine downTo p.length ?_ ?_
    · refine Ev.step (by intro k; simp only [spec_poGood.l0]; rfl) ?_
      exact Ev.no (by omega) (Ev.ret (allFrom_end _ _).symm)
    · intro i hi ih
      refine Ev.step (by intro k; simp only [spec_poGood.l0]; rfl) ?_
      refine Ev.yes (by omega) (Ev.yes (by omega) (Ev.yes (by omega) ?_))
      rw [rdN, mask_eq (by omega)]
      refine Ev.call (l1In_eq _ _ _) ?_
      rw [allFrom_step _ hi]
      by_cases hb : 0 ≤ p.getD i 0 ∧ p.getD i 0 ≤ 2 ^ i - 1
      rotate_left
      · exact Ev.no (by rw [range_false hb]; simp) (Ev.ret (by rw [rowOk_false hb]; rfl))
      refine Ev.yes (range_true hb) ?_
      have hv : p.getD i 0 = (L p i : Int) := by unfold L; omega
      rw [rowOk_true hb]
      generalize hx : p.getD i 0 = x at *
      have inner : ∀ j, j ≤ i → Ev (fun k => spec_poGood.l1 k (i : Int) x (j : Int) p (p.length : Int) (i : Int) p)
          (allFrom (fun j => !(L p i).testBit j || decide (Go.bits .andNot .i64 (p.getD j 0) x = 0)) i j && allFrom (rowOk p) p.length (i + 1)) := by
        refine downTo i ?_ ?_
        · refine Ev.step (by intro k; simp only [spec_poGood.l1]; rfl) ?_
          refine Ev.no (by omega) ?_
          rw [wid1 hi (by omega), allFrom_end, Bool.true_and]
          exact ih
        · intro j hj ihj
          refine Ev.step (by intro k; simp only [spec_poGood.l1]; rfl) ?_
          refine Ev.yes (by omega) (Ev.yes (by omega) ?_)
          rw [allFrom_step _ hj, wid1 hj (by omega), rdN]
          cases hbit : (L p i).testBit j with
          | false => exact Ev.no (by rw [hv, bit_test (by omega), hbit]; simp) (evc ihj (by simp))
          | true =>
            refine Ev.yes (by rw [hv, bit_test (by omega), hbit]) (Ev.yes (by omega) ?_)
            refine Ev.ite (fun h => evc ihj ?_) (fun h => Ev.ret ?_)
            · rw [decide_eq_true h]; simp
            · rw [decide_eq_false h]; simp
      exact inner 0 (by omega)
  exact key 0 (by omega)
end Go.Proofs.Ytnihjpnheooeoaa.Q
end

section
namespace Go.Proofs.Ytnihjpnheooeoaa.Q
open Go.RowKit Go.Proofs.YtnihjpnheooeoaaW.PrintWords
set_option linter.unusedVariables false
abbrev I10 := Int × Int × Int × Int × Int × Int × Int × Int × Int × Int
def T10 (w : List Int) : I10 := (w.getD 0 0, w.getD 1 0, w.getD 2 0, w.getD 3 0, w.getD 4 0, w.getD 5 0, w.getD 6 0, w.getD 7 0, w.getD 8 0, w.getD 9 0)
end Go.Proofs.Ytnihjpnheooeoaa.Q
end

section
namespace Go.Proofs.Ytnihjpnheooeoaa.Q
open Go.RowKit Go.Proofs.YtnihjpnheooeoaaW.PrintWords Go.Proofs.Ytnihjpnheooeoaa.F
set_option linter.unusedVariables false
theorem within_eq (a b c : Int) : impl_within.f a b c = some (decide (b ≤ a) && decide (a ≤ c)) := by
  unfold impl_within.f
  by_cases h : b ≤ a
  · rw [if_pos h]; simp [h]
  · rw [if_neg h]; simp [h]
end Go.Proofs.Ytnihjpnheooeoaa.Q
end

section
namespace Go.Proofs.Ytnihjpnheooeoaa.Q
open Go.RowKit Go.Proofs.YtnihjpnheooeoaaW.PrintWords Go.Proofs.Ytnihjpnheooeoaa.F
set_option linter.unusedVariables false
theorem IsPoset_ev (p : List Int) : Ev (fun k => impl_IsPoset.f k p) (isPo p) := by
  unfold impl_IsPoset.f
  refine Ev.call (show impl_Poset_n.f p = some (p.length : Int) from rfl) (Ev.call (within_eq _ _ _) ?_)
  unfold isPo
  rw [sizes_eq]
  cases hs : (decide (1 ≤ p.length) && decide (p.length ≤ 10)) with
  | false => exact Ev.no (by simp) (Ev.ret rfl)
  | true =>
  refine Ev.yes rfl ?_
  rw [Bool.and_eq_true, decide_eq_true_eq, decide_eq_true_eq] at hs
  obtain ⟨h1, h2⟩ := hs
  have key : ∀ i, i ≤ p.length → Ev (fun k => impl_IsPoset.l0 k p (p.length : Int) (i : Int) p) (allFrom (rowOk p) p.length i) := by
    refine downTo p.length ?_ ?_
    · refine Ev.step (by intro k; simp only [impl_IsPoset.l0]; rfl) ?_
      exact Ev.no (by omega) (Ev.ret (allFrom_end _ _).symm)
    · intro i hi ih
      refine Ev.step (by intro k; simp only [impl_IsPoset.l0]; rfl) ?_
      refine Ev.yes (by omega) (Ev.yes (by omega) (Ev.yes (by omega) ?_))
      rw [rdN, mask_eq (by omega)]
      refine Ev.call (within_eq _ _ _) ?_
      rw [allFrom_step _ hi]
      by_cases hb : 0 ≤ p.getD i 0 ∧ p.getD i 0 ≤ 2 ^ i - 1
      rotate_left
      · exact Ev.no (by rw [range_false hb]; simp) (Ev.ret (by rw [rowOk_false hb]; rfl))
      refine Ev.yes (range_true hb) ?_
      have hv : p.getD i 0 = (L p i : Int) := by unfold L; omega
      have hm : L p i < 2 ^ i := by
        have := hb.2
        rw [hv, pow_int] at this
        have hp : 0 < 2 ^ i := Nat.two_pow_pos i
        generalize 2 ^ i = z at *
        omega
      rw [rowOk_true hb, ← items_all hm (by omega) (fun j => decide (Go.bits .andNot .i64 (p.getD j 0) (p.getD i 0) = 0)), hv]
      refine Ev.bind (items_ev _ (lt_pow hm (by omega))) ?_
      have inner : ∀ j, j ≤ (itemsN (L p i)).length → Ev (fun k => impl_IsPoset.l1 k (L p i : Int) p (p.length : Int) (i : Int) (ints (itemsN (L p i))) ((ints (itemsN (L p i))).length : Int) (j : Int) p)
          (((itemsN (L p i)).drop j).all (fun j => decide (Go.bits .andNot .i64 (p.getD j 0) (L p i : Int) = 0)) && allFrom (rowOk p) p.length (i + 1)) := by
        rw [ints_len]
        refine downTo _ ?_ ?_
        · refine Ev.step (by intro k; simp only [impl_IsPoset.l1]; rfl) ?_
          refine Ev.no (by omega) ?_
          rw [wid1 hi (by omega), List.drop_length, List.all_nil, Bool.true_and]
          exact ih
        · intro j hj ihj
          have hlt := items_lt hm hj
          have hl := itemsN_len (L p i)
          refine Ev.step (by intro k; simp only [impl_IsPoset.l1]; rfl) ?_
          refine Ev.yes (by omega) (Ev.yes (by omega) (Ev.yes (by rw [ints_len]; omega) ?_))
          rw [rd_ints, all_drop_step _ _ 0 hj, wid1 hj (by omega), rdN]
          refine Ev.yes (by omega) (Ev.yes (by omega) ?_)
          refine Ev.ite (fun h => evc ihj ?_) (fun h => Ev.ret ?_)
          · rw [decide_eq_true h]; simp
          · rw [decide_eq_false h]; simp
      exact inner 0 (by omega)
  exact key 0 (by omega)
end Go.Proofs.Ytnihjpnheooeoaa.Q
end

section
namespace Go.Proofs.Ytnihjpnheooeoaa.Q
open Go.RowKit Go.Proofs.YtnihjpnheooeoaaW.PrintWords
set_option linter.unusedVariables false
def swp (w : List Int) (i : Nat) : List Int := (w.set i (w.getD (i + 1) 0)).set (i + 1) (w.getD i 0)
/-- The toggle at i: neighbours are exchanged unless the first one is less. -/
def togL (p w : List Int) (i : Nat) : List Int := if (L p (w.getD (i + 1) 0).toNat).testBit (w.getD i 0).toNat then w else swp w i
theorem swp_len (w : List Int) (i : Nat) : (swp w i).length = w.length := by unfold swp; rw [List.length_set, List.length_set]
theorem togL_len (p w : List Int) (i : Nat) : (togL p w i).length = w.length := by unfold togL; split; rfl; exact swp_len w i
theorem swp_getD {w : List Int} {i : Nat} (h : i + 1 < w.length) (j : Nat) : (swp w i).getD j 0 = if i + 1 = j then w.getD i 0 else if i = j then w.getD (i + 1) 0 else w.getD j 0 := by
  unfold swp
  rw [getD_set _ _ _ _ _ (by rw [List.length_set]; exact h)]
  split
  · rfl
  · rw [getD_set _ _ _ _ _ (by omega)]
structure OrdAt (p w : List Int) (i a b s : Nat) (x y : List Int) : Prop where
  dec : w = x ++ (a : Int) :: (b : Int) :: y
  len : x.length = i
  ha : a < p.length
  hb : b < p.length
  run : ordRun p 0 x = some s
  slt : s < 2 ^ p.length
  na : s.testBit a = false
  nb : (s ||| 2 ^ a).testBit b = false
  la : subB (L p a) s = true
  lb : subB (L p b) (s ||| 2 ^ a) = true
  rest : ordRun p (s ||| 2 ^ a ||| 2 ^ b) y = some (allN p)
theorem ord_at {p w : List Int} {i : Nat} (h : ordB p w = true) (hi : i + 1 < w.length) : ∃ a b s x y, OrdAt p w i a b s x y := by
  have hr := ordB_iff.1 h
  have e : w = w.take i ++ w.getD i 0 :: w.getD (i + 1) 0 :: w.drop (i + 2) := by
    have h1 := drop_getD w (show i < w.length by omega)
    have h2 := drop_getD w hi
    rw [← h2, ← h1, List.take_append_drop]
  have hmem : ∀ j, j < w.length → 0 ≤ w.getD j 0 ∧ w.getD j 0 < (p.length : Int) := fun j hj => by
    rw [List.getD_eq_getElem?_getD, List.getElem?_eq_getElem hj]
    exact ordB_range h _ (List.getElem_mem hj)
  have ma := hmem i (by omega)
  have mb := hmem (i + 1) hi
  obtain ⟨a, ea⟩ := Int.eq_ofNat_of_zero_le ma.1
  obtain ⟨b, eb⟩ := Int.eq_ofNat_of_zero_le mb.1
  rw [ea] at ma
  rw [eb] at mb
  rw [ea, eb] at e
  rw [e, ordRun_app] at hr
  obtain ⟨s, h1, h2⟩ := Option.bind_eq_some_iff.1 hr
  simp only [ordRun, Int.toNat_natCast] at h2
  split at h2
  rotate_left
  · cases h2
  rename_i c1
  split at h2
  rotate_left
  · cases h2
  rename_i c2
  exact ⟨a, b, s, _, _, ⟨e, by rw [List.length_take]; omega, by omega, by omega, h1, (ordRun_card (Nat.two_pow_pos _) h1).1, c1.2.1, c2.2.1, c1.2.2, c2.2.2, h2⟩⟩
theorem app_get (x : List Int) (a b : Int) (y : List Int) : (x ++ a :: b :: y).getD x.length 0 = a ∧ (x ++ a :: b :: y).getD (x.length + 1) 0 = b := by
  constructor
  · rw [List.getD_eq_getElem?_getD, List.getElem?_append_right (Nat.le_refl _), Nat.sub_self]; rfl
  · rw [List.getD_eq_getElem?_getD, List.getElem?_append_right (by omega), Nat.add_sub_cancel_left]; rfl
theorem app_swp (x : List Int) (a b : Int) (y : List Int) : swp (x ++ a :: b :: y) x.length = x ++ b :: a :: y := by
  unfold swp
  rw [(app_get x a b y).1, (app_get x a b y).2, List.set_append_right _ _ (Nat.le_refl _), Nat.sub_self, List.set_append_right _ _ (by omega), Nat.add_sub_cancel_left]
  rfl
theorem OrdAt.get {p w : List Int} {i a b s : Nat} {x y : List Int} (h : OrdAt p w i a b s x y) : w.getD i 0 = (a : Int) ∧ w.getD (i + 1) 0 = (b : Int) := by
  have := app_get x (a : Int) (b : Int) y
  rw [← h.dec, h.len] at this
  exact this
theorem OrdAt.ba {p w : List Int} {i a b s : Nat} {x y : List Int} (h : OrdAt p w i a b s x y) : (L p a).testBit b = false := by
  cases e : (L p a).testBit b with
  | false => rfl
  | true =>
    have h1 := subB_iff.1 h.la b e
    have h2 := h.nb
    rw [Nat.testBit_or, h1] at h2
    simp at h2
theorem OrdAt.tog {p w : List Int} {i a b s : Nat} {x y : List Int} (h : OrdAt p w i a b s x y) : togL p w i = if (L p b).testBit a then w else swp w i := by
  unfold togL
  rw [h.get.1, h.get.2, Int.toNat_natCast, Int.toNat_natCast]
theorem togL_ord {p w : List Int} {i : Nat} (h : ordB p w = true) (hi : i + 1 < w.length) : ordB p (togL p w i) = true := by
  obtain ⟨a, b, s, x, y, H⟩ := ord_at h hi
  rw [H.tog]
  split
  · exact h
  rename_i hc
  have hc : (L p b).testBit a = false := by simpa using hc
  have e : swp w i = x ++ (b : Int) :: (a : Int) :: y := by rw [H.dec, ← H.len]; exact app_swp x _ _ y
  have hnb : s.testBit b = false ∧ a ≠ b := by
    have h2 := H.nb
    rw [Nat.testBit_or, pow_bit, Bool.or_eq_false_iff, decide_eq_false_iff_not] at h2
    exact h2
  rw [ordB_iff, e, ordRun_app, H.run]
  simp only [Option.bind_some, ordRun, Int.toNat_natCast]
  have ha := H.ha
  have hb := H.hb
  have g1 : subB (L p b) s = true := by
    rw [subB_iff]
    intro j hj
    have h1 := subB_iff.1 H.lb j hj
    rw [Nat.testBit_or, pow_bit, Bool.or_eq_true, decide_eq_true_eq] at h1
    rcases h1 with h1 | h1
    · exact h1
    · subst h1; rw [hc] at hj; cases hj
  have g2 : (s ||| 2 ^ b).testBit a = false := by
    rw [Nat.testBit_or, pow_bit, H.na, decide_eq_false (fun e => hnb.2 e.symm)]; rfl
  have g3 : subB (L p a) (s ||| 2 ^ b) = true := by
    rw [subB_iff]
    intro j hj
    rw [Nat.testBit_or, subB_iff.1 H.la j hj]; rfl
  rw [if_pos ⟨by omega, hnb.1, g1⟩, if_pos ⟨by omega, g2, g3⟩]
  have : s ||| 2 ^ b ||| 2 ^ a = s ||| 2 ^ a ||| 2 ^ b := by rw [Nat.or_assoc, Nat.or_comm (2 ^ b), ← Nat.or_assoc]
  rw [this]; exact H.rest
/-- All toggles below d, from 0 on. -/
def upL (p w : List Int) : Nat → List Int
  | 0 => w
  | d + 1 => togL p (upL p w d) d
theorem upL_ok {p w : List Int} (h : ordB p w = true) : ∀ d, d + 1 ≤ w.length → ordB p (upL p w d) = true ∧ (upL p w d).length = w.length := by
  intro d
  induction d with
  | zero => intro _; exact ⟨h, rfl⟩
  | succ d ih =>
    intro hd
    obtain ⟨h1, h2⟩ := ih (by omega)
    exact ⟨togL_ord h1 (by omega), by unfold upL; rw [togL_len, h2]⟩
/-- All toggles below d, down to lo. -/
def dnL (p : List Int) (lo : Nat) (w : List Int) : Nat → List Int
  | 0 => w
  | d + 1 => dnL p lo (togL p w (lo + d)) d
theorem dnL_ok {p : List Int} (lo : Nat) : ∀ (d : Nat) (w : List Int), ordB p w = true → lo + d + 1 ≤ w.length → ordB p (dnL p lo w d) = true ∧ (dnL p lo w d).length = w.length := by
  intro d
  induction d with
  | zero => intro w h _; exact ⟨h, rfl⟩
  | succ d ih =>
    intro w h hd
    obtain ⟨h1, h2⟩ := ih (togL p w (lo + d)) (togL_ord h (by omega)) (by rw [togL_len]; omega)
    exact ⟨h1, by rw [show dnL p lo w (d + 1) = dnL p lo (togL p w (lo + d)) d from rfl, h2, togL_len]⟩
def proL (p w : List Int) : List Int := upL p w (p.length - 1)
def unL (p w : List Int) : List Int := dnL p 0 w (p.length - 1)
/-- A toggle undoes itself. -/
theorem togL_togL {p w : List Int} {i : Nat} (h : ordB p w = true) (hi : i + 1 < w.length) : togL p (togL p w i) i = w := by
  obtain ⟨a, b, s, x, y, H⟩ := ord_at h hi
  rw [H.tog]
  split
  · rename_i hc; rw [H.tog, if_pos hc]
  · have e : swp w i = x ++ (b : Int) :: (a : Int) :: y := by rw [H.dec, ← H.len]; exact app_swp x _ _ y
    have g := app_get x (b : Int) (a : Int) y
    rw [H.len] at g
    unfold togL
    rw [e, g.1, g.2, Int.toNat_natCast, Int.toNat_natCast, H.ba, if_neg (by simp), ← H.len, app_swp, ← H.dec]
theorem dnL_upL {p w : List Int} (h : ordB p w = true) : ∀ d, d + 1 ≤ w.length → dnL p 0 (upL p w d) d = w := by
  intro d
  induction d with
  | zero => intro _; rfl
  | succ d ih =>
    intro hd
    have h1 := upL_ok h d (by omega)
    show dnL p 0 (togL p (togL p (upL p w d) d) (0 + d)) d = w
    rw [Nat.zero_add, togL_togL h1.1 (by omega)]
    exact ih (by omega)
theorem upL_dnL {p : List Int} : ∀ d (w : List Int), ordB p w = true → d + 1 ≤ w.length → upL p (dnL p 0 w d) d = w := by
  intro d
  induction d with
  | zero => intro w _ _; rfl
  | succ d ih =>
    intro w h hd
    show togL p (upL p (dnL p 0 (togL p w (0 + d)) d) d) d = w
    rw [Nat.zero_add, ih _ (togL_ord h (by omega)) (by rw [togL_len]; omega)]
    exact togL_togL h (by omega)
end Go.Proofs.Ytnihjpnheooeoaa.Q
end

section
namespace Go.Proofs.Ytnihjpnheooeoaa.F
open Go.RowKit Go.Proofs.YtnihjpnheooeoaaW.PrintWords Go.Proofs.YtnihjpnheooeoaaW.PrintLast Go.Proofs.YtnihjpnheooeoaaW.PrintMore
set_option linter.unusedVariables false
set_option linter.unusedSimpArgs false
def slices_Clone_int_int.f (l0 : List Int) : Option (List Int) := if l0.length < 17592186044416 then some l0 else none
theorem slices_Clone_int_int.info : (Try.prog.info? 3).map (fun i => (i.zero, i.size, i.bytes)) = some (some (.int .i64 0), 1, 8) := by kernel_rfl
theorem slices_Clone_int_int.nil_ (w : World) (a : Option Addr) (n c n' c' : Nat) : (binOp .eql 25 (.slice a n c) (.slice none n' c')).run Try.prog w = .ok (.bool a.isNone) w := Lib.run_eql_slice_nil w _ _ a n c n' c' Try.underlying25
set_option maxHeartbeats 8000000 in
set_option maxRecDepth 100000 in
theorem slices_Clone_int_int.calls (A0 : Option Addr) (c0 : Nat) (l0 : List Int) (r : List Int) (w : World) (hr0 : Kd.C (Kd.int .i64) w A0 l0.length l0) (hc0 : l0.length ≤ c0) (h : slices_Clone_int_int.f l0 = some r) :
    Calls Try.prog 64 #[.slice A0 l0.length c0] w fun e w' => ∃ v0_ : Value, e = .returned (v0_) ∧ Kd.R (Kd.int .i64) 3 w' w.heap.size (fun _ => True) v0_ r ∧ Below w.heap.size w w' := by
  unfold slices_Clone_int_int.f at h
  by_cases c2 : l0.length < 17592186044416
  · rw [if_pos c2] at h
    obtain rfl := Option.some.inj h
    clear h
    have LMc2 := Aside0.mk c2
    clear c2
    cases A0 with
    | none =>
      have h0 : l0.length = 0 := by
        rcases Nat.eq_zero_or_pos l0.length with h | h
        · exact h
        · obtain ⟨ad, e, _⟩ := hr0.2.2 h; cases e
      obtain rfl : l0 = [] := List.length_eq_zero_iff.1 h0
      clear h0 hr0 hc0 LMc2
      have q22 := slices_Clone_int_int.nil_
      go_enter Try.func64, Try.ntmps64
      go_wp2
      go_ret
      exact ⟨_, rfl, Kd.R_nil _ _ _ _ _, Below.refl _ _⟩
    | some ad =>
      have HR0 := Aside0.mk hr0
      have HC0 := Aside0.mk hc0
      clear hr0 hc0
      have HB := Aside0.mk (Below.refl w.heap.size w)
      have q22 := slices_Clone_int_int.nil_
      go_enter Try.func64, Try.ntmps64
      go_wp2_with (first | ((with_reducible refine gate_dst (N := 5) rfl ?_); refine Kd.R_lit (Kd.int .i64) _ 3 ?hg (N := 5) ?hd (xs := ([] : List Int)) (inner := []) (ok := fun _ => True) (okp := fun _ => True) ?hr ?hp (fun _ hk => hk) trivial (Below.refl _ _) (Nat.le_refl _) (by simp) ?_; (case hd => rfl); (case hg => rfl); (case hr => first | (go_simp; done) | (go_simp; rfl)); (case hp => exact (Reps.none _ _)); intro v663 w3 ho4 hb hg_ hnew_; clear hg_ hnew_; have n0_ := Aside0.mk (Kd.R_lower ho4 (below_size (by repeat (first | (with_reducible first | exact HB.out | apply below_alloc | apply pw_below_drewN | apply below_drew1) | exact HB.out)))); have n1_ := Aside0.mk (below_step (by repeat (first | (with_reducible first | exact HB.out | apply below_alloc | apply pw_below_drewN | apply below_drew1) | exact HB.out)) hb); clear HB; have HO664 := n0_; have HB := n1_; clear n0_ n1_; clear hb ho4) | ((with_reducible refine gate_builtin (b := .append) (xs := #[.tmp 5, .tmp 6]) rfl ?_); at_builtin; refine Kd.R_append_rows (Kd.int .i64) (w0 := w) w.heap.size rfl (.tmp 5) (.tmp 6) 25 3 (.int .i64 0) 8 rfl Try.underlying25 slices_Clone_int_int.info rfl (by decide) (by omega) v663 [] l0 _ _ _ (fun _ => True) (fun _ => False) rfl rfl ?aO ?aR (fun _ _ h => h) (fun _ h => h.elim) ?aF ?aB ?aS ?aL ?_; (case aR => repeat (first | exact (Kd.C_below HR0.out HB.out) | (with_reducible refine Kd.C_alloc ?_ _) | (with_reducible refine Kd.C_drewN ?_ _) | (with_reducible refine Kd.C_drew ?_))); (case aB => exact (by repeat (first | (with_reducible first | exact HB.out | apply below_alloc | apply pw_below_drewN | apply below_drew1) | exact HB.out))); (case aF => exact (fun _ _ => trivial)); (case aO => exact (by (with_reducible repeat (first | apply Kd.R_alloc | apply Kd.R_drewN | apply Kd.R_drew)); exact HO664.out)); (case aS => exact (below_size (by repeat (first | (with_reducible first | exact HB.out | apply below_alloc | apply pw_below_drewN | apply below_drew1) | exact HB.out)))); (case aL => have := LMc2.out; simp; omega); intro v666 w5 ho hb hg hat; rw [List.nil_append] at ho; have n0_ := Aside0.mk (hb); have n1_ := Aside0.mk (ho); clear HB; clear HO664; have HB := n0_; have HO667 := n1_; clear n0_ n1_; clear ho hb hg hat))
      go_ret
      exact ⟨_, by first | rfl | (simp; done) | (simp [*]; done), by (with_reducible repeat (first | apply Kd.R_alloc | apply Kd.R_drewN | apply Kd.R_drew)); exact HO667.out, by repeat (first | (with_reducible first | exact HB.out | apply below_alloc | apply pw_below_drewN | apply below_drew1) | exact HB.out)⟩
  · rw [if_neg c2] at h; cases h
end Go.Proofs.Ytnihjpnheooeoaa.F
end

section
namespace Go.Proofs.Ytnihjpnheooeoaa.F
open Go.RowKit Go.Maps Go.Proofs.YtnihjpnheooeoaaW.PrintWords Go.Proofs.YtnihjpnheooeoaaW.PrintLast Go.Proofs.YtnihjpnheooeoaaW.PrintMore
set_option linter.unusedVariables false
set_option linter.unusedSimpArgs false
abbrev Ln : Type := S58
abbrev lnC (x : Ln) : Array Value := #[.int .i64 x.f0, .int .i64 x.f1, .int .i64 x.f2, .int .i64 x.f3, .int .i64 x.f4, .int .i64 x.f5, .int .i64 x.f6, .int .i64 x.f7, .int .i64 x.f8, .int .i64 x.f9]
def lnWf (n : Int) : Bool := decide (-9223372036854775808 ≤ n) && decide (n ≤ 9223372036854775807)
def lnOk (x : Ln) : Bool := lnWf x.f0 && lnWf x.f1 && lnWf x.f2 && lnWf x.f3 && lnWf x.f4 && lnWf x.f5 && lnWf x.f6 && lnWf x.f7 && lnWf x.f8 && lnWf x.f9
def lnEq (x y : Ln) : Bool := (x.f0 == y.f0) && (x.f1 == y.f1) && (x.f2 == y.f2) && (x.f3 == y.f3) && (x.f4 == y.f4) && (x.f5 == y.f5) && (x.f6 == y.f6) && (x.f7 == y.f7) && (x.f8 == y.f8) && (x.f9 == y.f9)
theorem lnEq_iff {x y : Ln} : lnEq x y = true ↔ x = y := by
  cases x; cases y
  simp only [lnEq, Bool.and_eq_true, beq_iff_eq, S58.mk.injEq, and_assoc]
def lnIn (V : List Ln) (x : Ln) : Bool := V.any (lnEq x)
theorem lnIn_iff {V : List Ln} {x : Ln} : lnIn V x = true ↔ x ∈ V := by
  unfold lnIn
  rw [List.any_eq_true]
  constructor
  · rintro ⟨y, hy, e⟩; rw [lnEq_iff.1 e]; exact hy
  · intro h; exact ⟨x, h, lnEq_iff.2 rfl⟩
/-- One cycle: what was met, what this cycle has, where it stands. -/
def cyRun (F : Ln → Option Ln) : Nat → List Ln → List Ln → Ln → Option (List Ln × List Ln)
  | 0, _, _, _ => none
  | k + 1, V, own, x => if lnOk x = true then (if lnIn V x = true then some (V, own) else if V.length ≤ 100000 ∧ own.length ≤ 100000 then (F x).bind fun y => cyRun F k (V ++ [x]) (own ++ [x]) y else none) else none
def cyAll (F : Ln → Option Ln) (k : Nat) : List Ln → List Ln → List (List Ln) → Option (List (List Ln))
  | [], _, out => some out
  | x :: l, V, out => if lnOk x = true then (if lnIn V x = true then cyAll F k l V out else if out.length ≤ 100000 then (cyRun F k V [] x).bind fun q => cyAll F k l q.1 (out ++ [q.2]) else none) else none
theorem cyRun_mono {F F' : Ln → Option Ln} (hF : ∀ x, LeO (F x) (F' x)) : ∀ k V own x, LeO (cyRun F k V own x) (cyRun F' (k + 1) V own x)
  | 0, _, _, _ => fun r h => by cases h
  | k + 1, V, own, x => by
    unfold cyRun
    exact LeO.ite (LeO.ite (LeO.refl _) (LeO.ite (LeO.bind (hF _) (fun y => cyRun_mono hF k _ _ _)) (LeO.refl _))) (LeO.refl _)
theorem cyAll_mono {F F' : Ln → Option Ln} (hF : ∀ x, LeO (F x) (F' x)) (k : Nat) : ∀ l V out, LeO (cyAll F k l V out) (cyAll F' (k + 1) l V out)
  | [], _, _ => LeO.refl _
  | x :: l, V, out => by
    unfold cyAll
    exact LeO.ite (LeO.ite (cyAll_mono hF k l V out) (LeO.ite (LeO.bind (cyRun_mono hF k _ _ _) (fun q => cyAll_mono hF k l _ _)) (LeO.refl _))) (LeO.refl _)
theorem ln_law : Keyed Try.prog 58 := Keyed.of_law (deep_law_laid (by kernel_rfl) (m := 2) (by omega) (of_decide_eq_true (by kernel_rfl)) (by kernel_rfl) (by rw [Try.underlying58]))
theorem ln_wf {n : Int} (h : lnWf n = true) : (Lit.int .i64 n).wf = true := by
  unfold lnWf at h
  rw [Bool.and_eq_true, decide_eq_true_eq, decide_eq_true_eq] at h
  exact WalkArith.wf_i64 h
theorem ln_key {x : Ln} (h : lnOk x = true) : ∃ l, keyOf Try.prog 58 (.agg (lnC x)) = some l := by
  unfold lnOk at h
  simp only [Bool.and_eq_true] at h
  obtain ⟨⟨⟨⟨⟨⟨⟨⟨⟨h0, h1⟩, h2⟩, h3⟩, h4⟩, h5⟩, h6⟩, h7⟩, h8⟩, h9⟩ := h
  have hps : 0 < Try.prog.types.size := of_decide_eq_true (by kernel_rfl)
  obtain ⟨mt, hsz⟩ : ∃ m, Try.prog.types.size = m + 1 := ⟨Try.prog.types.size - 1, by omega⟩
  have hc : Try.prog.cellsOf 58 = 10 := by kernel_rfl
  have hc1 : Try.prog.cellsOf 3 = 1 := by kernel_rfl
  have hk : Try.prog.keyType 58 = true := by kernel_rfl
  simp [keyOf, Try.underlying58, Try.underlying3, hk, Value.formed, hc, hc1, hsz, Program.keyLits, Value.cells, List.range, List.range.loop, ln_wf h0, ln_wf h1, ln_wf h2, ln_wf h3, ln_wf h4, ln_wf h5, ln_wf h6, ln_wf h7, ln_wf h8, ln_wf h9]
theorem ln_inj {x y : Ln} {l : Lit} (hx : keyOf Try.prog 58 (.agg (lnC x)) = some l) (hy : keyOf Try.prog 58 (.agg (lnC y)) = some l) : x = y := by
  have e := ln_law.inj hx hy
  cases x; cases y
  simp only [Value.agg.injEq, lnC, Array.mk.injEq, List.cons.injEq, Value.int.injEq, true_and, and_true] at e
  simp only [S58.mk.injEq]
  exact e
/-- The map tells what was met. -/
def LnMet (D : DataW Unit) (V : List Ln) : Prop := ∀ x l, lnOk x = true → keyOf Try.prog 58 (.agg (lnC x)) = some l → D.atKey l (.lit (.bool false)) = .lit (.bool (lnIn V x))
theorem lnMet_nil : LnMet (.map []) [] := fun _ _ _ _ => rfl
set_option maxRecDepth 100000 in
theorem lnMet_put {D : DataW Unit} {V : List Ln} (hD : Maps.IsMap D) (h : LnMet D V) {x : Ln} {l : Lit} (hx : lnOk x = true) (hl : keyOf Try.prog 58 (.agg (lnC x)) = some l) : LnMet (D.put l (.lit (.bool true))) (V ++ [x]) := by
  intro y ly hy hly
  by_cases e : y = x
  · subst e
    have : ly = l := by rw [hl] at hly; exact (Option.some.inj hly).symm
    subst this
    rw [Maps.atKey_put_same hD (ln_law.key hly) _ _]
    rw [(lnIn_iff (V := V ++ [y])).2 (by simp)]
  · rw [Maps.atKey_put_other (fun e2 => e (ln_inj hly (by first | (rw [e2]; exact hl) | (rw [← e2]; exact hl)))) _ _, h y ly hy hly]
    congr 2
    unfold lnIn
    rw [List.any_append]
    have : lnEq y x = false := by
      cases h : lnEq y x with
      | false => rfl
      | true => exact absurd (lnEq_iff.1 h) e
    simp [this]
theorem wpList_lookup_own_bool {H : Type} {P : Program} (w : World) {ops : Array Oper} {rest : List Oper} {o : Oper} {a : Act} {Q : Exit → Act → World → Prop}
    (hg : o.guard = none) (m x : Operand) (t : TypeId) (hop : o.op = Op.lookup t m x false)
    (k e : TypeId) (K : Keyed P k) (ht : P.underlying t = some (.map k e)) (he : P.underlying e = some .bool) (hz : (zeroValue e).run P w = .ok (.bool false) w) (b n : Nat) (D : DataW H)
    (hm : a.eval m = .map (some b)) (hown : w.ownsMap P k (plainElem P e) b n D) (key : Value) (kl : Lit) (hx : a.eval x = key) (hkey : keyOf P k key = some kl)
    (hK : ∀ c : Bool, D.atKey kl (.lit (.bool false)) = .lit (.bool c) → wpList P ops Q rest (a.put o.dst (.bool c)) w) :
    wpList P ops Q (o :: rest) a w := by
  refine wpList_plain hg fun K' hK' => ?_
  obtain ⟨v, ps, hrun, hv⟩ := hown.lookup K ht hz (plainElem_bool he false) hkey
  obtain ⟨c, rfl, hat⟩ : ∃ c, v = .bool c ∧ D.atKey kl (.lit (.bool false)) = .lit (.bool c) := by
    unfold plainElem at hv
    rw [he] at hv
    cases v <;> simp at hv
    exact ⟨_, rfl, hv.1.symm⟩
  unfold Oper.wp
  simp [execOp, hop, hm, hx, hrun, Result.andThen]
  exact hK' _ _ (hK c hat)

theorem ln_put {w : World} {g : Nat} {x : Ln} (h : w.heap[g]? = some (.cells (lnC x) 58 (0, 0))) (y : Ln) : ((((((((((w.setCell ⟨g, 0, none⟩ (.int .i64 y.f0)).setCell ⟨g, 1, none⟩ (.int .i64 y.f1)).setCell ⟨g, 2, none⟩ (.int .i64 y.f2)).setCell ⟨g, 3, none⟩ (.int .i64 y.f3)).setCell ⟨g, 4, none⟩ (.int .i64 y.f4)).setCell ⟨g, 5, none⟩ (.int .i64 y.f5)).setCell ⟨g, 6, none⟩ (.int .i64 y.f6)).setCell ⟨g, 7, none⟩ (.int .i64 y.f7)).setCell ⟨g, 8, none⟩ (.int .i64 y.f8)).setCell ⟨g, 9, none⟩ (.int .i64 y.f9)).heap[g]? = some (.cells (lnC y) 58 (0, 0)) := by
  have h0 : (w.setCell ⟨g, 0, none⟩ (.int .i64 y.f0)).heap[g]? = some (.cells #[.int .i64 y.f0, .int .i64 x.f1, .int .i64 x.f2, .int .i64 x.f3, .int .i64 x.f4, .int .i64 x.f5, .int .i64 x.f6, .int .i64 x.f7, .int .i64 x.f8, .int .i64 x.f9] 58 (0, 0)) := blk_put h 0 _ rfl
  have h1 : ((w.setCell ⟨g, 0, none⟩ (.int .i64 y.f0)).setCell ⟨g, 1, none⟩ (.int .i64 y.f1)).heap[g]? = some (.cells #[.int .i64 y.f0, .int .i64 y.f1, .int .i64 x.f2, .int .i64 x.f3, .int .i64 x.f4, .int .i64 x.f5, .int .i64 x.f6, .int .i64 x.f7, .int .i64 x.f8, .int .i64 x.f9] 58 (0, 0)) := blk_put h0 1 _ rfl
  have h2 : (((w.setCell ⟨g, 0, none⟩ (.int .i64 y.f0)).setCell ⟨g, 1, none⟩ (.int .i64 y.f1)).setCell ⟨g, 2, none⟩ (.int .i64 y.f2)).heap[g]? = some (.cells #[.int .i64 y.f0, .int .i64 y.f1, .int .i64 y.f2, .int .i64 x.f3, .int .i64 x.f4, .int .i64 x.f5, .int .i64 x.f6, .int .i64 x.f7, .int .i64 x.f8, .int .i64 x.f9] 58 (0, 0)) := blk_put h1 2 _ rfl
  have h3 : ((((w.setCell ⟨g, 0, none⟩ (.int .i64 y.f0)).setCell ⟨g, 1, none⟩ (.int .i64 y.f1)).setCell ⟨g, 2, none⟩ (.int .i64 y.f2)).setCell ⟨g, 3, none⟩ (.int .i64 y.f3)).heap[g]? = some (.cells #[.int .i64 y.f0, .int .i64 y.f1, .int .i64 y.f2, .int .i64 y.f3, .int .i64 x.f4, .int .i64 x.f5, .int .i64 x.f6, .int .i64 x.f7, .int .i64 x.f8, .int .i64 x.f9] 58 (0, 0)) := blk_put h2 3 _ rfl
  have h4 : (((((w.setCell ⟨g, 0, none⟩ (.int .i64 y.f0)).setCell ⟨g, 1, none⟩ (.int .i64 y.f1)).setCell ⟨g, 2, none⟩ (.int .i64 y.f2)).setCell ⟨g, 3, none⟩ (.int .i64 y.f3)).setCell ⟨g, 4, none⟩ (.int .i64 y.f4)).heap[g]? = some (.cells #[.int .i64 y.f0, .int .i64 y.f1, .int .i64 y.f2, .int .i64 y.f3, .int .i64 y.f4, .int .i64 x.f5, .int .i64 x.f6, .int .i64 x.f7, .int .i64 x.f8, .int .i64 x.f9] 58 (0, 0)) := blk_put h3 4 _ rfl
  have h5 : ((((((w.setCell ⟨g, 0, none⟩ (.int .i64 y.f0)).setCell ⟨g, 1, none⟩ (.int .i64 y.f1)).setCell ⟨g, 2, none⟩ (.int .i64 y.f2)).setCell ⟨g, 3, none⟩ (.int .i64 y.f3)).setCell ⟨g, 4, none⟩ (.int .i64 y.f4)).setCell ⟨g, 5, none⟩ (.int .i64 y.f5)).heap[g]? = some (.cells #[.int .i64 y.f0, .int .i64 y.f1, .int .i64 y.f2, .int .i64 y.f3, .int .i64 y.f4, .int .i64 y.f5, .int .i64 x.f6, .int .i64 x.f7, .int .i64 x.f8, .int .i64 x.f9] 58 (0, 0)) := blk_put h4 5 _ rfl
  have h6 : (((((((w.setCell ⟨g, 0, none⟩ (.int .i64 y.f0)).setCell ⟨g, 1, none⟩ (.int .i64 y.f1)).setCell ⟨g, 2, none⟩ (.int .i64 y.f2)).setCell ⟨g, 3, none⟩ (.int .i64 y.f3)).setCell ⟨g, 4, none⟩ (.int .i64 y.f4)).setCell ⟨g, 5, none⟩ (.int .i64 y.f5)).setCell ⟨g, 6, none⟩ (.int .i64 y.f6)).heap[g]? = some (.cells #[.int .i64 y.f0, .int .i64 y.f1, .int .i64 y.f2, .int .i64 y.f3, .int .i64 y.f4, .int .i64 y.f5, .int .i64 y.f6, .int .i64 x.f7, .int .i64 x.f8, .int .i64 x.f9] 58 (0, 0)) := blk_put h5 6 _ rfl
  have h7 : ((((((((w.setCell ⟨g, 0, none⟩ (.int .i64 y.f0)).setCell ⟨g, 1, none⟩ (.int .i64 y.f1)).setCell ⟨g, 2, none⟩ (.int .i64 y.f2)).setCell ⟨g, 3, none⟩ (.int .i64 y.f3)).setCell ⟨g, 4, none⟩ (.int .i64 y.f4)).setCell ⟨g, 5, none⟩ (.int .i64 y.f5)).setCell ⟨g, 6, none⟩ (.int .i64 y.f6)).setCell ⟨g, 7, none⟩ (.int .i64 y.f7)).heap[g]? = some (.cells #[.int .i64 y.f0, .int .i64 y.f1, .int .i64 y.f2, .int .i64 y.f3, .int .i64 y.f4, .int .i64 y.f5, .int .i64 y.f6, .int .i64 y.f7, .int .i64 x.f8, .int .i64 x.f9] 58 (0, 0)) := blk_put h6 7 _ rfl
  have h8 : (((((((((w.setCell ⟨g, 0, none⟩ (.int .i64 y.f0)).setCell ⟨g, 1, none⟩ (.int .i64 y.f1)).setCell ⟨g, 2, none⟩ (.int .i64 y.f2)).setCell ⟨g, 3, none⟩ (.int .i64 y.f3)).setCell ⟨g, 4, none⟩ (.int .i64 y.f4)).setCell ⟨g, 5, none⟩ (.int .i64 y.f5)).setCell ⟨g, 6, none⟩ (.int .i64 y.f6)).setCell ⟨g, 7, none⟩ (.int .i64 y.f7)).setCell ⟨g, 8, none⟩ (.int .i64 y.f8)).heap[g]? = some (.cells #[.int .i64 y.f0, .int .i64 y.f1, .int .i64 y.f2, .int .i64 y.f3, .int .i64 y.f4, .int .i64 y.f5, .int .i64 y.f6, .int .i64 y.f7, .int .i64 y.f8, .int .i64 x.f9] 58 (0, 0)) := blk_put h7 8 _ rfl
  have h9 : ((((((((((w.setCell ⟨g, 0, none⟩ (.int .i64 y.f0)).setCell ⟨g, 1, none⟩ (.int .i64 y.f1)).setCell ⟨g, 2, none⟩ (.int .i64 y.f2)).setCell ⟨g, 3, none⟩ (.int .i64 y.f3)).setCell ⟨g, 4, none⟩ (.int .i64 y.f4)).setCell ⟨g, 5, none⟩ (.int .i64 y.f5)).setCell ⟨g, 6, none⟩ (.int .i64 y.f6)).setCell ⟨g, 7, none⟩ (.int .i64 y.f7)).setCell ⟨g, 8, none⟩ (.int .i64 y.f8)).setCell ⟨g, 9, none⟩ (.int .i64 y.f9)).heap[g]? = some (.cells #[.int .i64 y.f0, .int .i64 y.f1, .int .i64 y.f2, .int .i64 y.f3, .int .i64 y.f4, .int .i64 y.f5, .int .i64 y.f6, .int .i64 y.f7, .int .i64 y.f8, .int .i64 y.f9] 58 (0, 0)) := blk_put h8 9 _ rfl
  exact h9
theorem ln_far {w : World} {g g' : Nat} {o : Obj} (h : w.heap[g']? = some o) (hne : g' ≠ g) (y : Ln) : ((((((((((w.setCell ⟨g, 0, none⟩ (.int .i64 y.f0)).setCell ⟨g, 1, none⟩ (.int .i64 y.f1)).setCell ⟨g, 2, none⟩ (.int .i64 y.f2)).setCell ⟨g, 3, none⟩ (.int .i64 y.f3)).setCell ⟨g, 4, none⟩ (.int .i64 y.f4)).setCell ⟨g, 5, none⟩ (.int .i64 y.f5)).setCell ⟨g, 6, none⟩ (.int .i64 y.f6)).setCell ⟨g, 7, none⟩ (.int .i64 y.f7)).setCell ⟨g, 8, none⟩ (.int .i64 y.f8)).setCell ⟨g, 9, none⟩ (.int .i64 y.f9)).heap[g']? = some o := ((Below.heap_setCell _ ⟨g, 9, none⟩ _ _ hne).trans ((Below.heap_setCell _ ⟨g, 8, none⟩ _ _ hne).trans ((Below.heap_setCell _ ⟨g, 7, none⟩ _ _ hne).trans ((Below.heap_setCell _ ⟨g, 6, none⟩ _ _ hne).trans ((Below.heap_setCell _ ⟨g, 5, none⟩ _ _ hne).trans ((Below.heap_setCell _ ⟨g, 4, none⟩ _ _ hne).trans ((Below.heap_setCell _ ⟨g, 3, none⟩ _ _ hne).trans ((Below.heap_setCell _ ⟨g, 2, none⟩ _ _ hne).trans ((Below.heap_setCell _ ⟨g, 1, none⟩ _ _ hne).trans ((Below.heap_setCell _ ⟨g, 0, none⟩ _ _ hne).trans h))))))))))
theorem ln_below {B : Nat} {w0 w : World} {g : Nat} (h : Below B w0 w) (hg : B ≤ g) (y : Ln) : Below B w0 ((((((((((w.setCell ⟨g, 0, none⟩ (.int .i64 y.f0)).setCell ⟨g, 1, none⟩ (.int .i64 y.f1)).setCell ⟨g, 2, none⟩ (.int .i64 y.f2)).setCell ⟨g, 3, none⟩ (.int .i64 y.f3)).setCell ⟨g, 4, none⟩ (.int .i64 y.f4)).setCell ⟨g, 5, none⟩ (.int .i64 y.f5)).setCell ⟨g, 6, none⟩ (.int .i64 y.f6)).setCell ⟨g, 7, none⟩ (.int .i64 y.f7)).setCell ⟨g, 8, none⟩ (.int .i64 y.f8)).setCell ⟨g, 9, none⟩ (.int .i64 y.f9)) := (Below.setCell (p := ⟨g, 9, none⟩) (Below.setCell (p := ⟨g, 8, none⟩) (Below.setCell (p := ⟨g, 7, none⟩) (Below.setCell (p := ⟨g, 6, none⟩) (Below.setCell (p := ⟨g, 5, none⟩) (Below.setCell (p := ⟨g, 4, none⟩) (Below.setCell (p := ⟨g, 3, none⟩) (Below.setCell (p := ⟨g, 2, none⟩) (Below.setCell (p := ⟨g, 1, none⟩) (Below.setCell (p := ⟨g, 0, none⟩) h hg _) hg _) hg _) hg _) hg _) hg _) hg _) hg _) hg _) hg _)
theorem ln_S {α : Type} {d : Kd α} {e : Nat} {w : World} {g base : Nat} {v : Value} {xs : List α} {ok : Nat → Prop} (h : Kd.S d e w base ok v xs) (hok : ∀ k, ok k → k ≠ g) (y : Ln) : Kd.S d e ((((((((((w.setCell ⟨g, 0, none⟩ (.int .i64 y.f0)).setCell ⟨g, 1, none⟩ (.int .i64 y.f1)).setCell ⟨g, 2, none⟩ (.int .i64 y.f2)).setCell ⟨g, 3, none⟩ (.int .i64 y.f3)).setCell ⟨g, 4, none⟩ (.int .i64 y.f4)).setCell ⟨g, 5, none⟩ (.int .i64 y.f5)).setCell ⟨g, 6, none⟩ (.int .i64 y.f6)).setCell ⟨g, 7, none⟩ (.int .i64 y.f7)).setCell ⟨g, 8, none⟩ (.int .i64 y.f8)).setCell ⟨g, 9, none⟩ (.int .i64 y.f9)) base ok v xs := (Kd.S_far (p := ⟨g, 9, none⟩) (Kd.S_far (p := ⟨g, 8, none⟩) (Kd.S_far (p := ⟨g, 7, none⟩) (Kd.S_far (p := ⟨g, 6, none⟩) (Kd.S_far (p := ⟨g, 5, none⟩) (Kd.S_far (p := ⟨g, 4, none⟩) (Kd.S_far (p := ⟨g, 3, none⟩) (Kd.S_far (p := ⟨g, 2, none⟩) (Kd.S_far (p := ⟨g, 1, none⟩) (Kd.S_far (p := ⟨g, 0, none⟩) h (fun k hk => hok k hk) _) (fun k hk => hok k hk) _) (fun k hk => hok k hk) _) (fun k hk => hok k hk) _) (fun k hk => hok k hk) _) (fun k hk => hok k hk) _) (fun k hk => hok k hk) _) (fun k hk => hok k hk) _) (fun k hk => hok k hk) _) (fun k hk => hok k hk) _)
theorem ln_R {α : Type} {d : Kd α} {e : Nat} {w : World} {g base : Nat} {v : Value} {xs : List α} {ok : Nat → Prop} (h : Kd.R d e w base ok v xs) (hok : ∀ k, ok k → k ≠ g) (y : Ln) : Kd.R d e ((((((((((w.setCell ⟨g, 0, none⟩ (.int .i64 y.f0)).setCell ⟨g, 1, none⟩ (.int .i64 y.f1)).setCell ⟨g, 2, none⟩ (.int .i64 y.f2)).setCell ⟨g, 3, none⟩ (.int .i64 y.f3)).setCell ⟨g, 4, none⟩ (.int .i64 y.f4)).setCell ⟨g, 5, none⟩ (.int .i64 y.f5)).setCell ⟨g, 6, none⟩ (.int .i64 y.f6)).setCell ⟨g, 7, none⟩ (.int .i64 y.f7)).setCell ⟨g, 8, none⟩ (.int .i64 y.f8)).setCell ⟨g, 9, none⟩ (.int .i64 y.f9)) base ok v xs := (Kd.R_far (p := ⟨g, 9, none⟩) (Kd.R_far (p := ⟨g, 8, none⟩) (Kd.R_far (p := ⟨g, 7, none⟩) (Kd.R_far (p := ⟨g, 6, none⟩) (Kd.R_far (p := ⟨g, 5, none⟩) (Kd.R_far (p := ⟨g, 4, none⟩) (Kd.R_far (p := ⟨g, 3, none⟩) (Kd.R_far (p := ⟨g, 2, none⟩) (Kd.R_far (p := ⟨g, 1, none⟩) (Kd.R_far (p := ⟨g, 0, none⟩) h (fun k hk => hok k hk) _) (fun k hk => hok k hk) _) (fun k hk => hok k hk) _) (fun k hk => hok k hk) _) (fun k hk => hok k hk) _) (fun k hk => hok k hk) _) (fun k hk => hok k hk) _) (fun k hk => hok k hk) _) (fun k hk => hok k hk) _) (fun k hk => hok k hk) _)
theorem ln_kept {P : Program} {k : TypeId} {R : Value → Option (DataW Unit × List MemPlace)} {w : World} {b n g : Nat} {D : DataW Unit} (h : w.ownsMap P k R b n D) (hne : b ≠ g) (y : Ln) : ((((((((((w.setCell ⟨g, 0, none⟩ (.int .i64 y.f0)).setCell ⟨g, 1, none⟩ (.int .i64 y.f1)).setCell ⟨g, 2, none⟩ (.int .i64 y.f2)).setCell ⟨g, 3, none⟩ (.int .i64 y.f3)).setCell ⟨g, 4, none⟩ (.int .i64 y.f4)).setCell ⟨g, 5, none⟩ (.int .i64 y.f5)).setCell ⟨g, 6, none⟩ (.int .i64 y.f6)).setCell ⟨g, 7, none⟩ (.int .i64 y.f7)).setCell ⟨g, 8, none⟩ (.int .i64 y.f8)).setCell ⟨g, 9, none⟩ (.int .i64 y.f9)).ownsMap P k R b n D := by
  obtain ⟨es, clock, hb, F, hs, hD⟩ := h
  exact ⟨es, clock, ln_far hb hne y, F, hs, hD⟩
theorem cy_grown {w w' : World} (hb : Below w.heap.size w w') : w.grownBy w' none := ⟨hb.os, hb.tape, hb.output, hb.size, fun k hk _ => hb.block k hk⟩
theorem ln_same {a : DataW Unit} {b c : Bool} (h : a = .lit (.bool b)) (h2 : a = .lit (.bool c)) {v : Bool} (hv : b = v) : c = v := by
  rw [h] at h2
  injection h2 with h2
  injection h2 with h2
  exact h2 ▸ hv
theorem cy_infoS : (Try.prog.info? 74).map (fun i => (i.zero, i.size, i.bytes)) = some (some (.slice none 0 0), 1, 24) := by kernel_rfl
theorem cy_infoL : (Try.prog.info? 58).map (fun i => (i.zero, i.size, i.bytes)) = some (some (.agg #[.int .i64 0, .int .i64 0, .int .i64 0, .int .i64 0, .int .i64 0, .int .i64 0, .int .i64 0, .int .i64 0, .int .i64 0, .int .i64 0]), 10, 80) := by kernel_rfl
theorem ln_zero (w : World) : (zeroValue 4).run Try.prog w = .ok (.bool false) w := by kernel_rfl
theorem ln_emptyO {X : World} {base n e sz : Nat} (hn : base ≤ n) (hx : X.heap[n]? = some (.cells #[] e (0, 0))) : X.ownsRow base e sz (.slice (some ⟨n, 0, none⟩) 0 0) 0 [] :=
  ⟨by simp, .inr ⟨n, 0, #[], rfl, hn, hx, by omega, by omega, by simp, by simp⟩⟩
theorem ln_emptyR {α : Type} (d : Kd α) {X : World} {base n e : Nat} {ok : Nat → Prop} (hn : base ≤ n) (hx : X.heap[n]? = some (.cells #[] e (0, 0))) (hok : ok n) : d.R e X base ok (.slice (some ⟨n, 0, none⟩) 0 0) ([] : List α) :=
  ⟨fun k hk => by
    have : n = k := by simpa [Value.ownBlock] using hk
    exact this ▸ hok, [], ln_emptyO hn hx, Reps.none _ _⟩
theorem drop_at {α : Type} (l : List α) (z : α) {i : Nat} (h : i < l.length) : l.drop i = l.getD i z :: l.drop (i + 1) := by
  rw [List.drop_eq_getElem_cons h, List.getD_eq_getElem?_getD, List.getElem?_eq_getElem h]; rfl
theorem cy_apart {α β : Type} {d : Kd α} {d2 : Kd β} {e e2 b base base2 N : Nat} {W : World} {v v2 : Value} {xs : List α} {ys : List β} {g2 : Nat} (hs : Kd.S d e W base (fun k => k ≠ b ∧ k < N) v xs) (hr : Kd.R d2 e2 W base2 (fun k => N ≤ k ∧ k ≠ g2) v2 ys) (hb : b < N) : ∀ k, some k = v2.ownBlock → k ≠ b ∧ some k ≠ v.ownBlock := fun k hk => by
  have h1 := hr.1 k hk.symm
  refine ⟨by omega, fun e => ?_⟩
  have h2 := (Kd.S_R hs).1 k e.symm
  omega
theorem cy_apart2 {β : Type} {d2 : Kd β} {e2 base2 N k : Nat} {W : World} {v2 : Value} {ys : List β} {g2 : Nat} (hr : Kd.R d2 e2 W base2 (fun k => N ≤ k ∧ k ≠ g2) v2 ys) (hk : k < N) : ¬ (some k = v2.ownBlock) := fun e => by
  have := hr.1 k e.symm
  omega
theorem cy_apart3 {α : Type} {d : Kd α} {e b base N : Nat} {W : World} {v : Value} {xs : List α} (hs : Kd.S d e W base (fun k => k ≠ b ∧ k < N) v xs) : some b ≠ v.ownBlock := fun e => ((Kd.S_R hs).1 b e.symm).1 rfl
theorem cy_lt {k b N : Nat} (e : k = b) (h1 : b < N) (h2 : N ≤ k) : False := by omega
theorem cy_le {n j : Nat} (e : n + 1 = j) : n ≤ j := by omega
theorem cy_new {N g M k : Nat} (h : N ≤ M) (hg : g < M) (hk : M ≤ k) : N ≤ k ∧ k ≠ g := by omega
theorem cy_apart4 {β : Type} {d2 : Kd β} {e2 base2 N : Nat} {W : World} {v2 : Value} {ys : List β} {g2 : Nat} (hr : Kd.R d2 e2 W base2 (fun k => N ≤ k ∧ k ≠ g2) v2 ys) : some g2 ≠ v2.ownBlock := fun e => (hr.1 g2 e.symm).2 rfl
set_option maxHeartbeats 8000000 in
set_option maxRecDepth 100000 in
theorem cycles_line.calls (F : Ln → Option Ln) (k : Nat) (fb : Value) (A0 : Option Addr) (c0 : Nat) (l0 : List Ln) (r : List (List Ln)) (w : World)
    (HF : Aside0 (∀ (x y : Ln) (W : World), F x = some y → Below w.heap.size w W → Calls Try.prog 63 #[fb, .agg (lnC x)] W fun e w' => e = .returned (.agg #[.int .i64 y.f0, .int .i64 y.f1, .int .i64 y.f2, .int .i64 y.f3, .int .i64 y.f4, .int .i64 y.f5, .int .i64 y.f6, .int .i64 y.f7, .int .i64 y.f8, .int .i64 y.f9]) ∧ Below W.heap.size W w'))
    (hr0 : Kd.C k58 w A0 l0.length l0) (hc0 : l0.length ≤ c0) (h : cyAll F k l0 [] [] = some r) :
    Calls Try.prog 62 #[.slice A0 l0.length c0, .func (.func 63) #[fb] #[]] w fun e w' => ∃ v0_ : Value, e = .returned v0_ ∧ Kd.S (Kd.slice 58 k58) 74 w' w.heap.size (fun _ => True) v0_ r ∧ Below w.heap.size w w' := by
  have hu58 := Try.underlying58
  have hmm := @run_makeMap Try.prog
  have HR0 := Aside0.mk hr0
  have HC0 := Aside0.mk hc0
  have HRUN := Aside0.mk h
  clear hr0 hc0 h
  go_enter Try.func62, Try.ntmps62
  go_wp2_with (fail)
  clear hmm
  have hsz1 : (w.alloc (.cells #[] 74 (0, 0))).heap.size = w.heap.size + 1 := by simp
  have HM0 : Aside0 (((w.alloc (.cells #[] 74 (0, 0))).alloc (.map #[] 0)).ownsMap Try.prog 58 (plainElem (H := Unit) Try.prog 4) (w.heap.size + 1) 0 (.map [])) := ⟨by have := World.ownsMap_made (H := Unit) (w.alloc (.cells #[] 74 (0, 0))) Try.prog 58 (plainElem Try.prog 4); rwa [hsz1] at this⟩
  have HO0 : Aside0 (((w.alloc (.cells #[] 74 (0, 0))).alloc (.map #[] 0)).heap[w.heap.size]? = some (.cells #[] 74 (0, 0))) := ⟨blk_alloc (blk_new w _) _⟩
  have HB0 : Aside0 (Below w.heap.size w ((w.alloc (.cells #[] 74 (0, 0))).alloc (.map #[] 0))) := ⟨below_alloc (below_alloc (Below.refl w.heap.size w) _) _⟩
  clear hsz1
  go_loopg [5, 15] (l0.length + 1) (fun kq v5 v15 w' => ∃ (i : Nat) (V : List Ln) (out : List (List Ln)) (D : DataW Unit), v15 = .int .i64 (i : Int) ∧ Aside0 (kq + i = l0.length + 1 ∧ i ≤ l0.length) ∧ Aside0 (cyAll F k (l0.drop i) V out = some r) ∧ Aside0 (Kd.S (Kd.slice 58 k58) 74 w' w.heap.size (fun k => k ≠ w.heap.size + 1) v5 out) ∧ Aside0 (w'.ownsMap Try.prog 58 (plainElem Try.prog 4) (w.heap.size + 1) V.length D) ∧ Aside0 (LnMet D V) ∧ Aside0 (Below w.heap.size w w'))
  case atStart => exact ⟨0, [], [], _, rfl, ⟨rfl, Nat.zero_le _⟩, HRUN, ⟨⟨fun _ => 0, ln_emptyR _ (Nat.le_refl _) HO0.out (by omega)⟩⟩, HM0, ⟨lnMet_nil⟩, HB0⟩
  case round =>
    clear HRUN HM0 HO0 HB0
    obtain ⟨i, V, out, D, rfl, HK, HRUN, HS, HM, HMET, HB⟩ := hrel
    obtain ⟨WA, rfl⟩ : ∃ x, x = wr := ⟨wr, rfl⟩
    obtain ⟨Ao, co, e5⟩ := Kd.S_slice HS.out
    subst e5
    have HBS : Aside0 (w.heap.size + 1 < WA.heap.size) := ⟨HM.out.lt⟩
    cases gk with
    | zero => exact absurd HK.out (by omega)
    | succ k1 =>
      by_cases hi : i < l0.length
      · obtain ⟨x, hx⟩ : ∃ x, x = rd_T58 l0 (i : Int) := ⟨_, rfl⟩
        have hR := HRUN.out
        have hdx : l0.drop i = x :: l0.drop (i + 1) := by rw [hx]; exact drop_at l0 z58 hi
        rw [hdx] at hR
        unfold cyAll at hR
        clear HRUN hdx
        split at hR
        rotate_left
        · cases hR
        rename_i hok
        obtain ⟨l, hl⟩ := ln_key hok
        have HOK := Aside0.mk hok
        have HL := Aside0.mk hl
        clear hok hl
        obtain ⟨ad, e0, hx0, hx1, hx2, hx3, hx4, hx5, hx6, hx7, hx8, hx9⟩ := at_T58 (Kd.C_below HR0.out HB.out) (i : Int) (by omega) (by omega)
        rw [← hx] at hx0 hx1 hx2 hx3 hx4 hx5 hx6 hx7 hx8 hx9
        rw [Int.toNat_natCast] at hx0 hx1 hx2 hx3 hx4 hx5 hx6 hx7 hx8 hx9
        clear hx
        cases e0
        have e1 : (0 : Int) ≤ (i : Int) := by omega
        have e2 : (i : Int) < (l0.length : Int) := by omega
        have e3 : decide ((i : Int) < (l0.length : Int)) = true := decide_eq_true e2
        have e4 : decide (i < l0.length) = true := decide_eq_true hi
        have e5 := eq_true hi
        have HI := Aside0.mk hi
        have hwi : wrap64 ((i : Int) + 1) = ((i + 1 : Nat) : Int) := by have := Kd.C_max HR0.out; unfold wrap64; omega
        clear hi
        cases hin : lnIn V x with
        | true =>
          rw [if_pos hin] at hR
          have HRN := Aside0.mk hR
          have HIN := Aside0.mk hin
          clear hR hin
          go_wp2_with (first | (at_lookup; refine wpList_lookup_own_bool _ rfl _ _ 85 rfl 58 4 ln_law Try.underlying85 Try.underlying4 (ln_zero _) (w.heap.size + 1) V.length D rfl (HM.out.alloc _) _ l rfl HL.out ?_; intro c0 hat; obtain rfl := ln_same (HMET.out x l HOK.out HL.out) hat HIN.out; clear hat))
          go_roundg k1
          case measure => omega
          case rel => exact ⟨i + 1, V, out, D, by first | rfl | rw [hwi], ⟨by have := HK.out; have := HI.out; omega⟩, HRN, ⟨Kd.S_alloc HS.out _⟩, ⟨HM.out.alloc _⟩, HMET, ⟨below_alloc HB.out _⟩⟩
        | false =>
          rw [if_neg (by rw [hin]; exact Bool.false_ne_true)] at hR
          split at hR
          rotate_left
          · cases hR
          rename_i hlo
          have HLO := Aside0.mk hlo
          have HRN := Aside0.mk hR
          have HIN := Aside0.mk hin
          clear hR hin hlo
          go_wp2_with (first | (at_lookup; refine wpList_lookup_own_bool _ rfl _ _ 85 rfl 58 4 ln_law Try.underlying85 Try.underlying4 (ln_zero _) (w.heap.size + 1) V.length D rfl (HM.out.alloc _) _ l rfl HL.out ?_; intro c0 hat; obtain rfl := ln_same (HMET.out x l HOK.out HL.out) hat HIN.out; clear hat))
          have HSb : Aside0 (Kd.S (Kd.slice 58 k58) 74 WA w.heap.size (fun k => k ≠ w.heap.size + 1 ∧ k < WA.heap.size) (.slice Ao out.length co) out) := ⟨Kd.S_mono (Kd.S_bound HS.out) (fun k hk => ⟨hk.1, hk.2.2.1⟩)⟩
          have HN1 : Aside0 ((((WA.alloc (.cells (lnC x) 58 (0, 0))).alloc (.cells #[] 58 (0, 0))).alloc (.cells (lnC x) 58 (0, 0))).heap[WA.heap.size + 1]? = some (.cells #[] 58 (0, 0))) := ⟨by have h1 := blk_new (WA.alloc (.cells (lnC x) 58 (0, 0))) (.cells #[] 58 (0, 0)); rw [show (WA.alloc (.cells (lnC x) 58 (0, 0))).heap.size = WA.heap.size + 1 by simp] at h1; exact blk_alloc h1 _⟩
          have HN2 : Aside0 ((((WA.alloc (.cells (lnC x) 58 (0, 0))).alloc (.cells #[] 58 (0, 0))).alloc (.cells (lnC x) 58 (0, 0))).heap[WA.heap.size + 2]? = some (.cells (lnC x) 58 (0, 0))) := ⟨by have h1 := blk_new ((WA.alloc (.cells (lnC x) 58 (0, 0))).alloc (.cells #[] 58 (0, 0))) (.cells (lnC x) 58 (0, 0)); rwa [show ((WA.alloc (.cells (lnC x) 58 (0, 0))).alloc (.cells #[] 58 (0, 0))).heap.size = WA.heap.size + 2 by simp] at h1⟩
          go_loopg [9, 10] k (fun kq v9 v10 w' => ∃ (V2 own : List Ln) (x2 : Ln) (g2 : Nat) (D2 : DataW Unit), v10 = .pointer (some ⟨g2, 0, none⟩) ∧ Aside0 ((cyRun F kq V2 own x2).bind (fun q => cyAll F k (l0.drop (i + 1)) q.1 (out ++ [q.2])) = some r) ∧ Aside0 (Kd.S (Kd.slice 58 k58) 74 w' w.heap.size (fun k => k ≠ w.heap.size + 1 ∧ k < WA.heap.size) (.slice Ao out.length co) out) ∧ Aside0 (Kd.R k58 58 w' w.heap.size (fun k => WA.heap.size ≤ k ∧ k ≠ g2) v9 own) ∧ Aside0 (w'.heap[g2]? = some (.cells (lnC x2) 58 (0, 0))) ∧ Aside0 (WA.heap.size ≤ g2) ∧ Aside0 (w'.ownsMap Try.prog 58 (plainElem Try.prog 4) (w.heap.size + 1) V2.length D2) ∧ Aside0 (LnMet D2 V2) ∧ Aside0 (Below w.heap.size w w') ∧ Aside0 (WA.heap.size ≤ w'.heap.size))
          case atStart => exact ⟨V, [], x, WA.heap.size + 2, D, rfl, HRN, ⟨Kd.S_alloc (Kd.S_alloc (Kd.S_alloc HSb.out _) _) _⟩, ⟨ln_emptyR _ (by have := HBS.out; omega) HN1.out ⟨by omega, by omega⟩⟩, HN2, ⟨by omega⟩, ⟨((HM.out.alloc _).alloc _).alloc _⟩, HMET, ⟨below_alloc (below_alloc (below_alloc HB.out _) _) _⟩, ⟨by simp; omega⟩⟩
          case round =>
            clear HRN HS HSb HN1 HN2 HM HMET HB HIN
            obtain ⟨V2, own, x2, g2, D2, rfl, HRN, HS, HR, BK, HG, HM, HMET, HB, HWS⟩ := hrel
            obtain ⟨WB, rfl⟩ : ∃ x, x = wr := ⟨wr, rfl⟩
            obtain ⟨Ax, cx, e9⟩ := Kd.R_slice HR.out
            subst e9
            have hcb0 : WB.cell? ⟨g2, 0, none⟩ = some (.int .i64 x2.f0) := (blk_cell BK.out 0).trans rfl
            have hcb1 : WB.cell? ⟨g2, 1, none⟩ = some (.int .i64 x2.f1) := (blk_cell BK.out 1).trans rfl
            have hcb2 : WB.cell? ⟨g2, 2, none⟩ = some (.int .i64 x2.f2) := (blk_cell BK.out 2).trans rfl
            have hcb3 : WB.cell? ⟨g2, 3, none⟩ = some (.int .i64 x2.f3) := (blk_cell BK.out 3).trans rfl
            have hcb4 : WB.cell? ⟨g2, 4, none⟩ = some (.int .i64 x2.f4) := (blk_cell BK.out 4).trans rfl
            have hcb5 : WB.cell? ⟨g2, 5, none⟩ = some (.int .i64 x2.f5) := (blk_cell BK.out 5).trans rfl
            have hcb6 : WB.cell? ⟨g2, 6, none⟩ = some (.int .i64 x2.f6) := (blk_cell BK.out 6).trans rfl
            have hcb7 : WB.cell? ⟨g2, 7, none⟩ = some (.int .i64 x2.f7) := (blk_cell BK.out 7).trans rfl
            have hcb8 : WB.cell? ⟨g2, 8, none⟩ = some (.int .i64 x2.f8) := (blk_cell BK.out 8).trans rfl
            have hcb9 : WB.cell? ⟨g2, 9, none⟩ = some (.int .i64 x2.f9) := (blk_cell BK.out 9).trans rfl
            cases gk with
            | zero => exact absurd HRN.out (by simp [cyRun])
            | succ k2 =>
              have hR := HRN.out
              unfold cyRun at hR
              clear HRN
              split at hR
              rotate_left
              · cases hR
              rename_i hok2
              obtain ⟨l2, hl2⟩ := ln_key hok2
              have HOK2 := Aside0.mk hok2
              have HL2 := Aside0.mk hl2
              clear hok2 hl2
              cases hin2 : lnIn V2 x2 with
              | true =>
                rw [if_pos hin2, Option.bind_some] at hR
                have HRN := Aside0.mk hR
                have HIN2 := Aside0.mk hin2
                clear hR hin2
                go_wp2_with (first | (at_lookup; refine wpList_lookup_own_bool _ rfl _ _ 85 rfl 58 4 ln_law Try.underlying85 Try.underlying4 (ln_zero _) (w.heap.size + 1) V2.length D2 rfl HM.out _ l2 rfl HL2.out ?_; intro c0 hat; obtain rfl := ln_same (HMET.out x2 l2 HOK2.out HL2.out) hat HIN2.out; clear hat) | ((with_reducible refine gate_dst (N := 41) rfl ?_); refine Kd.S_append (Kd.slice 58 k58) (w0 := w) w.heap.size rfl (.tmp 38) (.tmp 40) 53 74 (.slice none 0 0) 24 rfl Try.underlying53 cy_infoS rfl (by decide) (by omega) (.slice Ao out.length co) out own [.slice Ax own.length cx] (fun k => k ≠ w.heap.size + 1) (fun k_ => some k_ = (Value.slice Ax own.length cx).ownBlock) rfl rfl ?aP ?aK ?aF ?aO ?aB ?aS ?aL ?_; (case aP => exact ⟨_, rfl, Kd.R_tight rfl HR.out⟩); (case aK => exact cy_apart HS.out HR.out HBS.out); (case aF => exact (fun k hk => by have := HBS.out; have := HWS.out; omega)); (case aO => exact Kd.S_mono HS.out (fun k_ hk_ => ⟨hk_.1, cy_apart2 HR.out hk_.2⟩)); (case aB => exact HB.out); (case aS => exact HB.out.size); (case aL => have := HLO.out; omega); intro v8 w8 hs8 hb8 hg8 hat8; have HS8 := Aside0.mk hs8; have HB8 := Aside0.mk hb8; have HM8 := Aside0.mk (HM.out.kept hg8 (cy_apart3 HS.out)); clear hs8 hb8 hg8 hat8))
                go_roundg k1
                case measure => omega
                case rel => exact ⟨i + 1, V2, out ++ [own], D2, by first | rfl | rw [hwi], ⟨by have := HK.out; have := HI.out; omega⟩, HRN, HS8, HM8, HMET, HB8⟩
              | false =>
                rw [if_neg (by rw [hin2]; exact Bool.false_ne_true)] at hR
                split at hR
                rotate_left
                · cases hR
                rename_i hle
                rw [Option.bind_assoc] at hR
                obtain ⟨y, hy, hR⟩ := Option.bind_eq_some_iff.1 hR
                have HRN := Aside0.mk hR
                have HIN2 := Aside0.mk hin2
                have HY := Aside0.mk hy
                have HLE := Aside0.mk hle
                clear hR hin2 hy hle
                go_wp2_with (first | (at_lookup; refine wpList_lookup_own_bool _ rfl _ _ 85 rfl 58 4 ln_law Try.underlying85 Try.underlying4 (ln_zero _) (w.heap.size + 1) V2.length D2 rfl HM.out _ l2 rfl HL2.out ?_; intro c0 hat; obtain rfl := ln_same (HMET.out x2 l2 HOK2.out HL2.out) hat HIN2.out; clear hat) | (at_mapUpdate; refine wpList_mapUpdate_own _ rfl _ _ _ 85 rfl 58 4 ln_law Try.underlying85 _ (w.heap.size + 1) V2.length D2 rfl HM.out (by have := HLE.out; unfold maxLen; omega) _ _ l2 rfl rfl HL2.out (.lit (.bool true)) [] (plainElem_bool Try.underlying4 true) ?_; intro w4 hown4 hgrow4; have HM4 := Aside0.mk hown4; have HS4 := Aside0.mk (Kd.S_grown HS.out hgrow4 (fun k hk e => hk.1 (Option.some.inj e))); have HR4 := Aside0.mk (Kd.R_grown HR.out hgrow4 (fun k hk e => cy_lt (Option.some.inj e) HBS.out hk.1)); have BK4 := Aside0.mk ((hgrow4.block g2 (blk_lt BK.out) (fun e => cy_lt (Option.some.inj e) HBS.out HG.out)).trans BK.out); have HB4 := Aside0.mk (HB.out.grown hgrow4 HB.out.size (fun j hj => cy_le (Option.some.inj hj))); have HW4 := Aside0.mk (Nat.le_trans HWS.out hgrow4.size); have hcc0 : w4.cell? ⟨g2, 0, none⟩ = some (.int .i64 x2.f0) := (blk_cell BK4.out 0).trans rfl; have hcc1 : w4.cell? ⟨g2, 1, none⟩ = some (.int .i64 x2.f1) := (blk_cell BK4.out 1).trans rfl; have hcc2 : w4.cell? ⟨g2, 2, none⟩ = some (.int .i64 x2.f2) := (blk_cell BK4.out 2).trans rfl; have hcc3 : w4.cell? ⟨g2, 3, none⟩ = some (.int .i64 x2.f3) := (blk_cell BK4.out 3).trans rfl; have hcc4 : w4.cell? ⟨g2, 4, none⟩ = some (.int .i64 x2.f4) := (blk_cell BK4.out 4).trans rfl; have hcc5 : w4.cell? ⟨g2, 5, none⟩ = some (.int .i64 x2.f5) := (blk_cell BK4.out 5).trans rfl; have hcc6 : w4.cell? ⟨g2, 6, none⟩ = some (.int .i64 x2.f6) := (blk_cell BK4.out 6).trans rfl; have hcc7 : w4.cell? ⟨g2, 7, none⟩ = some (.int .i64 x2.f7) := (blk_cell BK4.out 7).trans rfl; have hcc8 : w4.cell? ⟨g2, 8, none⟩ = some (.int .i64 x2.f8) := (blk_cell BK4.out 8).trans rfl; have hcc9 : w4.cell? ⟨g2, 9, none⟩ = some (.int .i64 x2.f9) := (blk_cell BK4.out 9).trans rfl; clear hown4 hgrow4; clear hcb0; clear hcb1; clear hcb2; clear hcb3; clear hcb4; clear hcb5; clear hcb6; clear hcb7; clear hcb8; clear hcb9) | ((with_reducible refine gate_dst (N := 36) rfl ?_); refine Kd.R_append k58 (w0 := w) w.heap.size rfl (.tmp 33) (.tmp 35) 74 58 (.agg #[.int .i64 0, .int .i64 0, .int .i64 0, .int .i64 0, .int .i64 0, .int .i64 0, .int .i64 0, .int .i64 0, .int .i64 0, .int .i64 0]) 80 rfl Try.underlying74 cy_infoL rfl (by decide) (by omega) (.slice Ax own.length cx) own x2 [.int .i64 x2.f0, .int .i64 x2.f1, .int .i64 x2.f2, .int .i64 x2.f3, .int .i64 x2.f4, .int .i64 x2.f5, .int .i64 x2.f6, .int .i64 x2.f7, .int .i64 x2.f8, .int .i64 x2.f9] (fun k => WA.heap.size ≤ k ∧ k ≠ g2) (fun _ => False) rfl rfl ?aP (fun _ hk => hk.elim) ?aF ?aO ?aB ?aS ?aL ?_; (case aP => exact k58_mkM _ _ _ x2); (case aF => exact (fun k hk => cy_new HW4.out (blk_lt BK4.out) hk)); (case aO => exact HR4.out); (case aB => exact HB4.out); (case aS => exact HB4.out.size); (case aL => have := HLE.out; omega); intro v5 w5 ho5 hb5 hg5 hat5; have HR5 := Aside0.mk ho5; have HB5 := Aside0.mk hb5; have HS5 := Aside0.mk (Kd.S_grown HS4.out hg5 (fun k hk e => cy_apart2 HR4.out hk.2 e)); have HM5 := Aside0.mk (HM4.out.kept hg5 (cy_apart2 HR4.out HBS.out)); have BK5 := Aside0.mk ((hg5.block g2 (blk_lt BK4.out) (cy_apart4 HR4.out)).trans BK4.out); have HW5 := Aside0.mk (Nat.le_trans HW4.out hg5.size); have hcd0 : w5.cell? ⟨g2, 0, none⟩ = some (.int .i64 x2.f0) := (blk_cell BK5.out 0).trans rfl; have hcd1 : w5.cell? ⟨g2, 1, none⟩ = some (.int .i64 x2.f1) := (blk_cell BK5.out 1).trans rfl; have hcd2 : w5.cell? ⟨g2, 2, none⟩ = some (.int .i64 x2.f2) := (blk_cell BK5.out 2).trans rfl; have hcd3 : w5.cell? ⟨g2, 3, none⟩ = some (.int .i64 x2.f3) := (blk_cell BK5.out 3).trans rfl; have hcd4 : w5.cell? ⟨g2, 4, none⟩ = some (.int .i64 x2.f4) := (blk_cell BK5.out 4).trans rfl; have hcd5 : w5.cell? ⟨g2, 5, none⟩ = some (.int .i64 x2.f5) := (blk_cell BK5.out 5).trans rfl; have hcd6 : w5.cell? ⟨g2, 6, none⟩ = some (.int .i64 x2.f6) := (blk_cell BK5.out 6).trans rfl; have hcd7 : w5.cell? ⟨g2, 7, none⟩ = some (.int .i64 x2.f7) := (blk_cell BK5.out 7).trans rfl; have hcd8 : w5.cell? ⟨g2, 8, none⟩ = some (.int .i64 x2.f8) := (blk_cell BK5.out 8).trans rfl; have hcd9 : w5.cell? ⟨g2, 9, none⟩ = some (.int .i64 x2.f9) := (blk_cell BK5.out 9).trans rfl; clear ho5 hb5 hg5 hat5; clear hcc0; clear hcc1; clear hcc2; clear hcc3; clear hcc4; clear hcc5; clear hcc6; clear hcc7; clear hcc8; clear hcc9) | (go_at_call 63; (with_reducible refine (HF.out x2 y _ HY.out ?hbl).mono ?_); (case hbl => exact below_alloc HB5.out _); rintro e w6 ⟨rfl, hb6⟩; have HB6 := Aside0.mk (below_step (below_alloc HB5.out _) hb6); have BK6 := Aside0.mk (blk_below (blk_new w5 (.cells (lnC x2) 58 (0, 0))) hb6); have hce0 : w6.cell? ⟨w5.heap.size, 0, none⟩ = some (.int .i64 x2.f0) := (blk_cell BK6.out 0).trans rfl; have hce1 : w6.cell? ⟨w5.heap.size, 1, none⟩ = some (.int .i64 x2.f1) := (blk_cell BK6.out 1).trans rfl; have hce2 : w6.cell? ⟨w5.heap.size, 2, none⟩ = some (.int .i64 x2.f2) := (blk_cell BK6.out 2).trans rfl; have hce3 : w6.cell? ⟨w5.heap.size, 3, none⟩ = some (.int .i64 x2.f3) := (blk_cell BK6.out 3).trans rfl; have hce4 : w6.cell? ⟨w5.heap.size, 4, none⟩ = some (.int .i64 x2.f4) := (blk_cell BK6.out 4).trans rfl; have hce5 : w6.cell? ⟨w5.heap.size, 5, none⟩ = some (.int .i64 x2.f5) := (blk_cell BK6.out 5).trans rfl; have hce6 : w6.cell? ⟨w5.heap.size, 6, none⟩ = some (.int .i64 x2.f6) := (blk_cell BK6.out 6).trans rfl; have hce7 : w6.cell? ⟨w5.heap.size, 7, none⟩ = some (.int .i64 x2.f7) := (blk_cell BK6.out 7).trans rfl; have hce8 : w6.cell? ⟨w5.heap.size, 8, none⟩ = some (.int .i64 x2.f8) := (blk_cell BK6.out 8).trans rfl; have hce9 : w6.cell? ⟨w5.heap.size, 9, none⟩ = some (.int .i64 x2.f9) := (blk_cell BK6.out 9).trans rfl; have hcf0 := blk_frozen BK6.out 0; have hcf1 := blk_frozen BK6.out 1; have hcf2 := blk_frozen BK6.out 2; have hcf3 := blk_frozen BK6.out 3; have hcf4 := blk_frozen BK6.out 4; have hcf5 := blk_frozen BK6.out 5; have hcf6 := blk_frozen BK6.out 6; have hcf7 := blk_frozen BK6.out 7; have hcf8 := blk_frozen BK6.out 8; have hcf9 := blk_frozen BK6.out 9; have HR6 := Aside0.mk (Kd.R_below (Kd.R_alloc (Kd.R_elderB HR5.out w5.heap.size (Nat.le_refl _)) _) hb6); have HS6 := Aside0.mk (Kd.S_below (Kd.S_alloc HS5.out _) hb6); have HM6 := Aside0.mk ((HM5.out.alloc _).kept (cy_grown hb6) (fun e => nomatch e)); have HW6 := Aside0.mk (Nat.le_trans HW5.out (Nat.le_trans (by simp) hb6.size)); clear hb6; clear hcd0; clear hcd1; clear hcd2; clear hcd3; clear hcd4; clear hcd5; clear hcd6; clear hcd7; clear hcd8; clear hcd9))
                have hg : w.heap.size ≤ w5.heap.size := HB5.out.size
                have HL2' : (V2 ++ [x2]).length = V2.length + 1 := by rw [List.length_append, List.length_singleton]
                go_roundg k2
                case measure => omega
                case rel => exact ⟨V2 ++ [x2], own ++ [x2], y, w5.heap.size, _, rfl, HRN, ⟨ln_S HS6.out (fun k hk e => absurd HW5.out (by omega)) y⟩, ⟨ln_R (Kd.R_mono HR6.out (fun k hk => ⟨hk.1.1, hk.2⟩)) (fun k hk => hk.2) y⟩, ⟨ln_put BK6.out y⟩, HW5, ⟨by rw [HL2']; exact ln_kept HM6.out (by have := HBS.out; have := HW5.out; omega) y⟩, ⟨lnMet_put HM.out.isMap HMET.out HOK2.out HL2.out⟩, ⟨ln_below HB6.out hg y⟩, ⟨Nat.le_trans HW6.out (by simp)⟩⟩
      · have hE : i = l0.length := by have := HK.out; omega
        have hR := HRUN.out
        rw [hE, List.drop_length] at hR
        have hR := Option.some.inj (show some out = some r from hR)
        subst hR
        have e3 : decide ((i : Int) < (l0.length : Int)) = false := decide_eq_false (by omega)
        have e4 : decide (i < l0.length) = false := decide_eq_false hi
        have e5 : (i < l0.length) = False := eq_false hi
        clear hi
        go_wp2_with (fail)
        go_ret
        exact ⟨_, rfl, Kd.S_mono HS.out (fun _ _ => trivial), HB.out⟩
end Go.Proofs.Ytnihjpnheooeoaa.F
end

section
namespace Go.Proofs.Ytnihjpnheooeoaa.F
open Go.RowKit Go.Proofs.YtnihjpnheooeoaaW.PrintWords Go.Proofs.YtnihjpnheooeoaaW.PrintLast Go.Proofs.YtnihjpnheooeoaaW.PrintMore
set_option linter.unusedVariables false
set_option linter.unusedSimpArgs false
theorem exch_keep {W : World} {x : Addr} {v : Value} (h : W.cell? x = some v) (o1 o2 o3 : Obj) : (((W.alloc o1).alloc o2).alloc o3).cell? x = some v := by
  have f1 : ∀ (W : World) (o : Obj), W.cell? x = some v → (W.alloc o).cell? x = some v := fun W o h => ((below_alloc (Below.refl W.heap.size W) o).cell (p := x) (World.block_lt_of_cell? _ _ h)).trans h
  exact f1 _ _ (f1 _ _ (f1 _ _ h))
set_option maxHeartbeats 8000000 in
set_option maxRecDepth 100000 in
theorem exch0_t (A0 : Option Addr) (c0 : Nat) (p : List Int) (a1_0 a1_1 a1_2 a1_3 a1_4 a1_5 a1_6 a1_7 a1_8 a1_9 : Int) (w : World) (hr : Kd.C (Kd.int .i64) w A0 p.length p) (h0 : 0 ≤ a1_0) (h1 : a1_0 < (p.length : Int)) (hA : impl_has.f (rd p a1_0) a1_1 = some true) :
    Calls Try.prog 80 #[.agg #[.slice A0 p.length c0], .agg #[.int .i64 a1_0, .int .i64 a1_1, .int .i64 a1_2, .int .i64 a1_3, .int .i64 a1_4, .int .i64 a1_5, .int .i64 a1_6, .int .i64 a1_7, .int .i64 a1_8, .int .i64 a1_9], .int .i64 0] w fun e w' => e = .returned (.agg #[.int .i64 a1_0, .int .i64 a1_1, .int .i64 a1_2, .int .i64 a1_3, .int .i64 a1_4, .int .i64 a1_5, .int .i64 a1_6, .int .i64 a1_7, .int .i64 a1_8, .int .i64 a1_9]) ∧ Below w.heap.size w w' := by
  have hu28 := Try.underlying34
  have hu58 := Try.underlying58
  have hwI : IntKind.i64.wrap (0 + 1) = 1 := by decide
  have hwJ : IntKind.i64.wrap 1 = 1 := by decide
  obtain ⟨ad, rfl, hc⟩ := Kd.at_int hr a1_0 h0 h1
  have hc3 := exch_keep hc
  have HA := Aside0.mk hA
  clear hA hr hc
  go_enter Try.func80, Try.ntmps80
  go_wp2_with (fail)
  go_quiet (fail)
  go_wp2_with (go_at_call 74; ((with_reducible refine (impl_has.calls (rd p a1_0) a1_1 _ _ HA.out).mono ?_); rintro e w' ⟨rfl, ⟨nd, rfl⟩⟩))
  refine bodyPost_ret (v := .agg #[.int .i64 a1_0, .int .i64 a1_1, .int .i64 a1_2, .int .i64 a1_3, .int .i64 a1_4, .int .i64 a1_5, .int .i64 a1_6, .int .i64 a1_7, .int .i64 a1_8, .int .i64 a1_9]) (by simp [results, Try.results80, go_sem]) rfl ⟨rfl, ?_⟩
  repeat (with_reducible first | exact Below.refl _ _ | refine below_set ?_ (by omega) | apply pw_below_drewN | apply below_drew1 | apply below_alloc)
set_option maxHeartbeats 8000000 in
set_option maxRecDepth 100000 in
theorem exch0_ft (A0 : Option Addr) (c0 : Nat) (p : List Int) (a1_0 a1_1 a1_2 a1_3 a1_4 a1_5 a1_6 a1_7 a1_8 a1_9 : Int) (w : World) (hr : Kd.C (Kd.int .i64) w A0 p.length p) (h0 : 0 ≤ a1_0) (h1 : a1_0 < (p.length : Int)) (hA : impl_has.f (rd p a1_0) a1_1 = some false) (h2 : 0 ≤ a1_1) (h3 : a1_1 < (p.length : Int)) (hB : impl_has.f (rd p a1_1) a1_0 = some true) :
    Calls Try.prog 80 #[.agg #[.slice A0 p.length c0], .agg #[.int .i64 a1_0, .int .i64 a1_1, .int .i64 a1_2, .int .i64 a1_3, .int .i64 a1_4, .int .i64 a1_5, .int .i64 a1_6, .int .i64 a1_7, .int .i64 a1_8, .int .i64 a1_9], .int .i64 0] w fun e w' => e = .returned (.agg #[.int .i64 a1_0, .int .i64 a1_1, .int .i64 a1_2, .int .i64 a1_3, .int .i64 a1_4, .int .i64 a1_5, .int .i64 a1_6, .int .i64 a1_7, .int .i64 a1_8, .int .i64 a1_9]) ∧ Below w.heap.size w w' := by
  have hu28 := Try.underlying34
  have hu58 := Try.underlying58
  have hwI : IntKind.i64.wrap (0 + 1) = 1 := by decide
  have hwJ : IntKind.i64.wrap 1 = 1 := by decide
  obtain ⟨ad, rfl, hc⟩ := Kd.at_int hr a1_0 h0 h1
  have hc3 := exch_keep hc
  have HA := Aside0.mk hA
  obtain ⟨ad', e', hc'⟩ := Kd.at_int hr a1_1 h2 h3
  cases e'
  have hc3' := exch_keep hc'
  have HB := Aside0.mk hB
  clear hA hB hr hc hc'
  go_enter Try.func80, Try.ntmps80
  go_wp2_with (fail)
  go_quiet (fail)
  go_wp2_with (go_at_call 74; first | ((with_reducible refine (impl_has.calls (rd p a1_0) a1_1 _ _ HA.out).mono ?_); rintro e w' ⟨rfl, ⟨nd, rfl⟩⟩) | ((with_reducible refine (impl_has.calls (rd p a1_1) a1_0 _ _ HB.out).mono ?_); rintro e w' ⟨rfl, ⟨nd, rfl⟩⟩))
  refine bodyPost_ret (v := .agg #[.int .i64 a1_0, .int .i64 a1_1, .int .i64 a1_2, .int .i64 a1_3, .int .i64 a1_4, .int .i64 a1_5, .int .i64 a1_6, .int .i64 a1_7, .int .i64 a1_8, .int .i64 a1_9]) (by simp [results, Try.results80, go_sem]) rfl ⟨rfl, ?_⟩
  repeat (with_reducible first | exact Below.refl _ _ | refine below_set ?_ (by omega) | apply pw_below_drewN | apply below_drew1 | apply below_alloc)
set_option maxHeartbeats 8000000 in
set_option maxRecDepth 100000 in
theorem exch0_ff (A0 : Option Addr) (c0 : Nat) (p : List Int) (a1_0 a1_1 a1_2 a1_3 a1_4 a1_5 a1_6 a1_7 a1_8 a1_9 : Int) (w : World) (hr : Kd.C (Kd.int .i64) w A0 p.length p) (h0 : 0 ≤ a1_0) (h1 : a1_0 < (p.length : Int)) (hA : impl_has.f (rd p a1_0) a1_1 = some false) (h2 : 0 ≤ a1_1) (h3 : a1_1 < (p.length : Int)) (hB : impl_has.f (rd p a1_1) a1_0 = some false) :
    Calls Try.prog 80 #[.agg #[.slice A0 p.length c0], .agg #[.int .i64 a1_0, .int .i64 a1_1, .int .i64 a1_2, .int .i64 a1_3, .int .i64 a1_4, .int .i64 a1_5, .int .i64 a1_6, .int .i64 a1_7, .int .i64 a1_8, .int .i64 a1_9], .int .i64 0] w fun e w' => e = .returned (.agg #[.int .i64 a1_1, .int .i64 a1_0, .int .i64 a1_2, .int .i64 a1_3, .int .i64 a1_4, .int .i64 a1_5, .int .i64 a1_6, .int .i64 a1_7, .int .i64 a1_8, .int .i64 a1_9]) ∧ Below w.heap.size w w' := by
  have hu28 := Try.underlying34
  have hu58 := Try.underlying58
  have hwI : IntKind.i64.wrap (0 + 1) = 1 := by decide
  have hwJ : IntKind.i64.wrap 1 = 1 := by decide
  obtain ⟨ad, rfl, hc⟩ := Kd.at_int hr a1_0 h0 h1
  have hc3 := exch_keep hc
  have HA := Aside0.mk hA
  obtain ⟨ad', e', hc'⟩ := Kd.at_int hr a1_1 h2 h3
  cases e'
  have hc3' := exch_keep hc'
  have HB := Aside0.mk hB
  clear hA hB hr hc hc'
  go_enter Try.func80, Try.ntmps80
  go_wp2_with (fail)
  go_quiet (fail)
  go_wp2_with (go_at_call 74; first | ((with_reducible refine (impl_has.calls (rd p a1_0) a1_1 _ _ HA.out).mono ?_); rintro e w' ⟨rfl, ⟨nd, rfl⟩⟩) | ((with_reducible refine (impl_has.calls (rd p a1_1) a1_0 _ _ HB.out).mono ?_); rintro e w' ⟨rfl, ⟨nd, rfl⟩⟩))
  refine bodyPost_ret (v := .agg #[.int .i64 a1_1, .int .i64 a1_0, .int .i64 a1_2, .int .i64 a1_3, .int .i64 a1_4, .int .i64 a1_5, .int .i64 a1_6, .int .i64 a1_7, .int .i64 a1_8, .int .i64 a1_9]) (by simp [results, Try.results80, go_sem]) rfl ⟨rfl, ?_⟩
  repeat (with_reducible first | exact Below.refl _ _ | refine below_set ?_ (by omega) | apply pw_below_drewN | apply below_drew1 | apply below_alloc)
def exchange0.f (l0_0 : List Int) (a1_0 a1_1 a1_2 a1_3 a1_4 a1_5 a1_6 a1_7 a1_8 a1_9 : Int) (a2 : Int) : Option (Int × Int × Int × Int × Int × Int × Int × Int × Int × Int) := if 0 ≤ a1_0 then (if a1_0 < (l0_0.length : Int) then ((impl_has.f (rd l0_0 a1_0) a1_1).bind fun t1 => (if t1 = true then (some (a1_0, a1_1, a1_2, a1_3, a1_4, a1_5, a1_6, a1_7, a1_8, a1_9)) else (if 0 ≤ a1_1 then (if a1_1 < (l0_0.length : Int) then ((impl_has.f (rd l0_0 a1_1) a1_0).bind fun t2 => (if t2 = true then (some (a1_0, a1_1, a1_2, a1_3, a1_4, a1_5, a1_6, a1_7, a1_8, a1_9)) else (some (a1_1, a1_0, a1_2, a1_3, a1_4, a1_5, a1_6, a1_7, a1_8, a1_9)))) else (none)) else (none)))) else (none)) else (none)
theorem exchange0.calls (A0_0 : Option Addr) (c0_0 : Nat) (l0_0 : List Int) (a1_0 a1_1 a1_2 a1_3 a1_4 a1_5 a1_6 a1_7 a1_8 a1_9 : Int) (a2 : Int) (r1 r2 r3 r4 r5 r6 r7 r8 r9 r10 : Int) (w : World) (hr0_0 : Kd.C (Kd.int .i64) w A0_0 l0_0.length l0_0) (h : exchange0.f l0_0 a1_0 a1_1 a1_2 a1_3 a1_4 a1_5 a1_6 a1_7 a1_8 a1_9 a2 = some (r1, r2, r3, r4, r5, r6, r7, r8, r9, r10)) :
    Calls Try.prog 80 #[.agg #[.slice A0_0 l0_0.length c0_0], .agg #[.int .i64 a1_0, .int .i64 a1_1, .int .i64 a1_2, .int .i64 a1_3, .int .i64 a1_4, .int .i64 a1_5, .int .i64 a1_6, .int .i64 a1_7, .int .i64 a1_8, .int .i64 a1_9], .int .i64 0] w fun e w' => e = .returned (.agg #[.int .i64 r1, .int .i64 r2, .int .i64 r3, .int .i64 r4, .int .i64 r5, .int .i64 r6, .int .i64 r7, .int .i64 r8, .int .i64 r9, .int .i64 r10]) ∧ Below w.heap.size w w' := by
  unfold exchange0.f at h
  by_cases h0 : 0 ≤ a1_0
  rotate_left
  · rw [if_neg h0] at h; cases h
  by_cases h1 : a1_0 < (l0_0.length : Int)
  rotate_left
  · rw [if_pos h0, if_neg h1] at h; cases h
  rw [if_pos h0, if_pos h1] at h
  obtain ⟨t1, hA, h⟩ := Option.bind_eq_some_iff.1 h
  cases t1 with
  | true =>
    rw [if_pos rfl] at h
    simp only [Option.some.injEq, Prod.mk.injEq] at h
    obtain ⟨rfl, rfl, rfl, rfl, rfl, rfl, rfl, rfl, rfl, rfl⟩ := h
    exact exch0_t A0_0 c0_0 l0_0 a1_0 a1_1 a1_2 a1_3 a1_4 a1_5 a1_6 a1_7 a1_8 a1_9 w hr0_0 h0 h1 hA
  | false =>
    rw [if_neg (by simp)] at h
    by_cases h2 : 0 ≤ a1_1
    rotate_left
    · rw [if_neg h2] at h; cases h
    by_cases h3 : a1_1 < (l0_0.length : Int)
    rotate_left
    · rw [if_pos h2, if_neg h3] at h; cases h
    rw [if_pos h2, if_pos h3] at h
    obtain ⟨t2, hB, h⟩ := Option.bind_eq_some_iff.1 h
    cases t2 with
    | true =>
      rw [if_pos rfl] at h
      simp only [Option.some.injEq, Prod.mk.injEq] at h
      obtain ⟨rfl, rfl, rfl, rfl, rfl, rfl, rfl, rfl, rfl, rfl⟩ := h
      exact exch0_ft A0_0 c0_0 l0_0 a1_0 a1_1 a1_2 a1_3 a1_4 a1_5 a1_6 a1_7 a1_8 a1_9 w hr0_0 h0 h1 hA h2 h3 hB
    | false =>
      rw [if_neg (by simp)] at h
      simp only [Option.some.injEq, Prod.mk.injEq] at h
      obtain ⟨rfl, rfl, rfl, rfl, rfl, rfl, rfl, rfl, rfl, rfl⟩ := h
      exact exch0_ff A0_0 c0_0 l0_0 a1_0 a1_1 a1_2 a1_3 a1_4 a1_5 a1_6 a1_7 a1_8 a1_9 w hr0_0 h0 h1 hA h2 h3 hB
set_option maxHeartbeats 8000000 in
set_option maxRecDepth 100000 in
theorem exch1_t (A0 : Option Addr) (c0 : Nat) (p : List Int) (a1_0 a1_1 a1_2 a1_3 a1_4 a1_5 a1_6 a1_7 a1_8 a1_9 : Int) (w : World) (hr : Kd.C (Kd.int .i64) w A0 p.length p) (h0 : 0 ≤ a1_1) (h1 : a1_1 < (p.length : Int)) (hA : impl_has.f (rd p a1_1) a1_2 = some true) :
    Calls Try.prog 80 #[.agg #[.slice A0 p.length c0], .agg #[.int .i64 a1_0, .int .i64 a1_1, .int .i64 a1_2, .int .i64 a1_3, .int .i64 a1_4, .int .i64 a1_5, .int .i64 a1_6, .int .i64 a1_7, .int .i64 a1_8, .int .i64 a1_9], .int .i64 1] w fun e w' => e = .returned (.agg #[.int .i64 a1_0, .int .i64 a1_1, .int .i64 a1_2, .int .i64 a1_3, .int .i64 a1_4, .int .i64 a1_5, .int .i64 a1_6, .int .i64 a1_7, .int .i64 a1_8, .int .i64 a1_9]) ∧ Below w.heap.size w w' := by
  have hu28 := Try.underlying34
  have hu58 := Try.underlying58
  have hwI : IntKind.i64.wrap (1 + 1) = 2 := by decide
  have hwJ : IntKind.i64.wrap 2 = 2 := by decide
  obtain ⟨ad, rfl, hc⟩ := Kd.at_int hr a1_1 h0 h1
  have hc3 := exch_keep hc
  have HA := Aside0.mk hA
  clear hA hr hc
  go_enter Try.func80, Try.ntmps80
  go_wp2_with (fail)
  go_quiet (fail)
  go_wp2_with (go_at_call 74; ((with_reducible refine (impl_has.calls (rd p a1_1) a1_2 _ _ HA.out).mono ?_); rintro e w' ⟨rfl, ⟨nd, rfl⟩⟩))
  refine bodyPost_ret (v := .agg #[.int .i64 a1_0, .int .i64 a1_1, .int .i64 a1_2, .int .i64 a1_3, .int .i64 a1_4, .int .i64 a1_5, .int .i64 a1_6, .int .i64 a1_7, .int .i64 a1_8, .int .i64 a1_9]) (by simp [results, Try.results80, go_sem]) rfl ⟨rfl, ?_⟩
  repeat (with_reducible first | exact Below.refl _ _ | refine below_set ?_ (by omega) | apply pw_below_drewN | apply below_drew1 | apply below_alloc)
set_option maxHeartbeats 8000000 in
set_option maxRecDepth 100000 in
theorem exch1_ft (A0 : Option Addr) (c0 : Nat) (p : List Int) (a1_0 a1_1 a1_2 a1_3 a1_4 a1_5 a1_6 a1_7 a1_8 a1_9 : Int) (w : World) (hr : Kd.C (Kd.int .i64) w A0 p.length p) (h0 : 0 ≤ a1_1) (h1 : a1_1 < (p.length : Int)) (hA : impl_has.f (rd p a1_1) a1_2 = some false) (h2 : 0 ≤ a1_2) (h3 : a1_2 < (p.length : Int)) (hB : impl_has.f (rd p a1_2) a1_1 = some true) :
    Calls Try.prog 80 #[.agg #[.slice A0 p.length c0], .agg #[.int .i64 a1_0, .int .i64 a1_1, .int .i64 a1_2, .int .i64 a1_3, .int .i64 a1_4, .int .i64 a1_5, .int .i64 a1_6, .int .i64 a1_7, .int .i64 a1_8, .int .i64 a1_9], .int .i64 1] w fun e w' => e = .returned (.agg #[.int .i64 a1_0, .int .i64 a1_1, .int .i64 a1_2, .int .i64 a1_3, .int .i64 a1_4, .int .i64 a1_5, .int .i64 a1_6, .int .i64 a1_7, .int .i64 a1_8, .int .i64 a1_9]) ∧ Below w.heap.size w w' := by
  have hu28 := Try.underlying34
  have hu58 := Try.underlying58
  have hwI : IntKind.i64.wrap (1 + 1) = 2 := by decide
  have hwJ : IntKind.i64.wrap 2 = 2 := by decide
  obtain ⟨ad, rfl, hc⟩ := Kd.at_int hr a1_1 h0 h1
  have hc3 := exch_keep hc
  have HA := Aside0.mk hA
  obtain ⟨ad', e', hc'⟩ := Kd.at_int hr a1_2 h2 h3
  cases e'
  have hc3' := exch_keep hc'
  have HB := Aside0.mk hB
  clear hA hB hr hc hc'
  go_enter Try.func80, Try.ntmps80
  go_wp2_with (fail)
  go_quiet (fail)
  go_wp2_with (go_at_call 74; first | ((with_reducible refine (impl_has.calls (rd p a1_1) a1_2 _ _ HA.out).mono ?_); rintro e w' ⟨rfl, ⟨nd, rfl⟩⟩) | ((with_reducible refine (impl_has.calls (rd p a1_2) a1_1 _ _ HB.out).mono ?_); rintro e w' ⟨rfl, ⟨nd, rfl⟩⟩))
  refine bodyPost_ret (v := .agg #[.int .i64 a1_0, .int .i64 a1_1, .int .i64 a1_2, .int .i64 a1_3, .int .i64 a1_4, .int .i64 a1_5, .int .i64 a1_6, .int .i64 a1_7, .int .i64 a1_8, .int .i64 a1_9]) (by simp [results, Try.results80, go_sem]) rfl ⟨rfl, ?_⟩
  repeat (with_reducible first | exact Below.refl _ _ | refine below_set ?_ (by omega) | apply pw_below_drewN | apply below_drew1 | apply below_alloc)
set_option maxHeartbeats 8000000 in
set_option maxRecDepth 100000 in
theorem exch1_ff (A0 : Option Addr) (c0 : Nat) (p : List Int) (a1_0 a1_1 a1_2 a1_3 a1_4 a1_5 a1_6 a1_7 a1_8 a1_9 : Int) (w : World) (hr : Kd.C (Kd.int .i64) w A0 p.length p) (h0 : 0 ≤ a1_1) (h1 : a1_1 < (p.length : Int)) (hA : impl_has.f (rd p a1_1) a1_2 = some false) (h2 : 0 ≤ a1_2) (h3 : a1_2 < (p.length : Int)) (hB : impl_has.f (rd p a1_2) a1_1 = some false) :
    Calls Try.prog 80 #[.agg #[.slice A0 p.length c0], .agg #[.int .i64 a1_0, .int .i64 a1_1, .int .i64 a1_2, .int .i64 a1_3, .int .i64 a1_4, .int .i64 a1_5, .int .i64 a1_6, .int .i64 a1_7, .int .i64 a1_8, .int .i64 a1_9], .int .i64 1] w fun e w' => e = .returned (.agg #[.int .i64 a1_0, .int .i64 a1_2, .int .i64 a1_1, .int .i64 a1_3, .int .i64 a1_4, .int .i64 a1_5, .int .i64 a1_6, .int .i64 a1_7, .int .i64 a1_8, .int .i64 a1_9]) ∧ Below w.heap.size w w' := by
  have hu28 := Try.underlying34
  have hu58 := Try.underlying58
  have hwI : IntKind.i64.wrap (1 + 1) = 2 := by decide
  have hwJ : IntKind.i64.wrap 2 = 2 := by decide
  obtain ⟨ad, rfl, hc⟩ := Kd.at_int hr a1_1 h0 h1
  have hc3 := exch_keep hc
  have HA := Aside0.mk hA
  obtain ⟨ad', e', hc'⟩ := Kd.at_int hr a1_2 h2 h3
  cases e'
  have hc3' := exch_keep hc'
  have HB := Aside0.mk hB
  clear hA hB hr hc hc'
  go_enter Try.func80, Try.ntmps80
  go_wp2_with (fail)
  go_quiet (fail)
  go_wp2_with (go_at_call 74; first | ((with_reducible refine (impl_has.calls (rd p a1_1) a1_2 _ _ HA.out).mono ?_); rintro e w' ⟨rfl, ⟨nd, rfl⟩⟩) | ((with_reducible refine (impl_has.calls (rd p a1_2) a1_1 _ _ HB.out).mono ?_); rintro e w' ⟨rfl, ⟨nd, rfl⟩⟩))
  refine bodyPost_ret (v := .agg #[.int .i64 a1_0, .int .i64 a1_2, .int .i64 a1_1, .int .i64 a1_3, .int .i64 a1_4, .int .i64 a1_5, .int .i64 a1_6, .int .i64 a1_7, .int .i64 a1_8, .int .i64 a1_9]) (by simp [results, Try.results80, go_sem]) rfl ⟨rfl, ?_⟩
  repeat (with_reducible first | exact Below.refl _ _ | refine below_set ?_ (by omega) | apply pw_below_drewN | apply below_drew1 | apply below_alloc)
def exchange1.f (l0_0 : List Int) (a1_0 a1_1 a1_2 a1_3 a1_4 a1_5 a1_6 a1_7 a1_8 a1_9 : Int) (a2 : Int) : Option (Int × Int × Int × Int × Int × Int × Int × Int × Int × Int) := if 0 ≤ a1_1 then (if a1_1 < (l0_0.length : Int) then ((impl_has.f (rd l0_0 a1_1) a1_2).bind fun t1 => (if t1 = true then (some (a1_0, a1_1, a1_2, a1_3, a1_4, a1_5, a1_6, a1_7, a1_8, a1_9)) else (if 0 ≤ a1_2 then (if a1_2 < (l0_0.length : Int) then ((impl_has.f (rd l0_0 a1_2) a1_1).bind fun t2 => (if t2 = true then (some (a1_0, a1_1, a1_2, a1_3, a1_4, a1_5, a1_6, a1_7, a1_8, a1_9)) else (some (a1_0, a1_2, a1_1, a1_3, a1_4, a1_5, a1_6, a1_7, a1_8, a1_9)))) else (none)) else (none)))) else (none)) else (none)
theorem exchange1.calls (A0_0 : Option Addr) (c0_0 : Nat) (l0_0 : List Int) (a1_0 a1_1 a1_2 a1_3 a1_4 a1_5 a1_6 a1_7 a1_8 a1_9 : Int) (a2 : Int) (r1 r2 r3 r4 r5 r6 r7 r8 r9 r10 : Int) (w : World) (hr0_0 : Kd.C (Kd.int .i64) w A0_0 l0_0.length l0_0) (h : exchange1.f l0_0 a1_0 a1_1 a1_2 a1_3 a1_4 a1_5 a1_6 a1_7 a1_8 a1_9 a2 = some (r1, r2, r3, r4, r5, r6, r7, r8, r9, r10)) :
    Calls Try.prog 80 #[.agg #[.slice A0_0 l0_0.length c0_0], .agg #[.int .i64 a1_0, .int .i64 a1_1, .int .i64 a1_2, .int .i64 a1_3, .int .i64 a1_4, .int .i64 a1_5, .int .i64 a1_6, .int .i64 a1_7, .int .i64 a1_8, .int .i64 a1_9], .int .i64 1] w fun e w' => e = .returned (.agg #[.int .i64 r1, .int .i64 r2, .int .i64 r3, .int .i64 r4, .int .i64 r5, .int .i64 r6, .int .i64 r7, .int .i64 r8, .int .i64 r9, .int .i64 r10]) ∧ Below w.heap.size w w' := by
  unfold exchange1.f at h
  by_cases h0 : 0 ≤ a1_1
  rotate_left
  · rw [if_neg h0] at h; cases h
  by_cases h1 : a1_1 < (l0_0.length : Int)
  rotate_left
  · rw [if_pos h0, if_neg h1] at h; cases h
  rw [if_pos h0, if_pos h1] at h
  obtain ⟨t1, hA, h⟩ := Option.bind_eq_some_iff.1 h
  cases t1 with
  | true =>
    rw [if_pos rfl] at h
    simp only [Option.some.injEq, Prod.mk.injEq] at h
    obtain ⟨rfl, rfl, rfl, rfl, rfl, rfl, rfl, rfl, rfl, rfl⟩ := h
    exact exch1_t A0_0 c0_0 l0_0 a1_0 a1_1 a1_2 a1_3 a1_4 a1_5 a1_6 a1_7 a1_8 a1_9 w hr0_0 h0 h1 hA
  | false =>
    rw [if_neg (by simp)] at h
    by_cases h2 : 0 ≤ a1_2
    rotate_left
    · rw [if_neg h2] at h; cases h
    by_cases h3 : a1_2 < (l0_0.length : Int)
    rotate_left
    · rw [if_pos h2, if_neg h3] at h; cases h
    rw [if_pos h2, if_pos h3] at h
    obtain ⟨t2, hB, h⟩ := Option.bind_eq_some_iff.1 h
    cases t2 with
    | true =>
      rw [if_pos rfl] at h
      simp only [Option.some.injEq, Prod.mk.injEq] at h
      obtain ⟨rfl, rfl, rfl, rfl, rfl, rfl, rfl, rfl, rfl, rfl⟩ := h
      exact exch1_ft A0_0 c0_0 l0_0 a1_0 a1_1 a1_2 a1_3 a1_4 a1_5 a1_6 a1_7 a1_8 a1_9 w hr0_0 h0 h1 hA h2 h3 hB
    | false =>
      rw [if_neg (by simp)] at h
      simp only [Option.some.injEq, Prod.mk.injEq] at h
      obtain ⟨rfl, rfl, rfl, rfl, rfl, rfl, rfl, rfl, rfl, rfl⟩ := h
      exact exch1_ff A0_0 c0_0 l0_0 a1_0 a1_1 a1_2 a1_3 a1_4 a1_5 a1_6 a1_7 a1_8 a1_9 w hr0_0 h0 h1 hA h2 h3 hB
set_option maxHeartbeats 8000000 in
set_option maxRecDepth 100000 in
theorem exch2_t (A0 : Option Addr) (c0 : Nat) (p : List Int) (a1_0 a1_1 a1_2 a1_3 a1_4 a1_5 a1_6 a1_7 a1_8 a1_9 : Int) (w : World) (hr : Kd.C (Kd.int .i64) w A0 p.length p) (h0 : 0 ≤ a1_2) (h1 : a1_2 < (p.length : Int)) (hA : impl_has.f (rd p a1_2) a1_3 = some true) :
    Calls Try.prog 80 #[.agg #[.slice A0 p.length c0], .agg #[.int .i64 a1_0, .int .i64 a1_1, .int .i64 a1_2, .int .i64 a1_3, .int .i64 a1_4, .int .i64 a1_5, .int .i64 a1_6, .int .i64 a1_7, .int .i64 a1_8, .int .i64 a1_9], .int .i64 2] w fun e w' => e = .returned (.agg #[.int .i64 a1_0, .int .i64 a1_1, .int .i64 a1_2, .int .i64 a1_3, .int .i64 a1_4, .int .i64 a1_5, .int .i64 a1_6, .int .i64 a1_7, .int .i64 a1_8, .int .i64 a1_9]) ∧ Below w.heap.size w w' := by
  have hu28 := Try.underlying34
  have hu58 := Try.underlying58
  have hwI : IntKind.i64.wrap (2 + 1) = 3 := by decide
  have hwJ : IntKind.i64.wrap 3 = 3 := by decide
  obtain ⟨ad, rfl, hc⟩ := Kd.at_int hr a1_2 h0 h1
  have hc3 := exch_keep hc
  have HA := Aside0.mk hA
  clear hA hr hc
  go_enter Try.func80, Try.ntmps80
  go_wp2_with (fail)
  go_quiet (fail)
  go_wp2_with (go_at_call 74; ((with_reducible refine (impl_has.calls (rd p a1_2) a1_3 _ _ HA.out).mono ?_); rintro e w' ⟨rfl, ⟨nd, rfl⟩⟩))
  refine bodyPost_ret (v := .agg #[.int .i64 a1_0, .int .i64 a1_1, .int .i64 a1_2, .int .i64 a1_3, .int .i64 a1_4, .int .i64 a1_5, .int .i64 a1_6, .int .i64 a1_7, .int .i64 a1_8, .int .i64 a1_9]) (by simp [results, Try.results80, go_sem]) rfl ⟨rfl, ?_⟩
  repeat (with_reducible first | exact Below.refl _ _ | refine below_set ?_ (by omega) | apply pw_below_drewN | apply below_drew1 | apply below_alloc)
set_option maxHeartbeats 8000000 in
set_option maxRecDepth 100000 in
theorem exch2_ft (A0 : Option Addr) (c0 : Nat) (p : List Int) (a1_0 a1_1 a1_2 a1_3 a1_4 a1_5 a1_6 a1_7 a1_8 a1_9 : Int) (w : World) (hr : Kd.C (Kd.int .i64) w A0 p.length p) (h0 : 0 ≤ a1_2) (h1 : a1_2 < (p.length : Int)) (hA : impl_has.f (rd p a1_2) a1_3 = some false) (h2 : 0 ≤ a1_3) (h3 : a1_3 < (p.length : Int)) (hB : impl_has.f (rd p a1_3) a1_2 = some true) :
    Calls Try.prog 80 #[.agg #[.slice A0 p.length c0], .agg #[.int .i64 a1_0, .int .i64 a1_1, .int .i64 a1_2, .int .i64 a1_3, .int .i64 a1_4, .int .i64 a1_5, .int .i64 a1_6, .int .i64 a1_7, .int .i64 a1_8, .int .i64 a1_9], .int .i64 2] w fun e w' => e = .returned (.agg #[.int .i64 a1_0, .int .i64 a1_1, .int .i64 a1_2, .int .i64 a1_3, .int .i64 a1_4, .int .i64 a1_5, .int .i64 a1_6, .int .i64 a1_7, .int .i64 a1_8, .int .i64 a1_9]) ∧ Below w.heap.size w w' := by
  have hu28 := Try.underlying34
  have hu58 := Try.underlying58
  have hwI : IntKind.i64.wrap (2 + 1) = 3 := by decide
  have hwJ : IntKind.i64.wrap 3 = 3 := by decide
  obtain ⟨ad, rfl, hc⟩ := Kd.at_int hr a1_2 h0 h1
  have hc3 := exch_keep hc
  have HA := Aside0.mk hA
  obtain ⟨ad', e', hc'⟩ := Kd.at_int hr a1_3 h2 h3
  cases e'
  have hc3' := exch_keep hc'
  have HB := Aside0.mk hB
  clear hA hB hr hc hc'
  go_enter Try.func80, Try.ntmps80
  go_wp2_with (fail)
  go_quiet (fail)
  go_wp2_with (go_at_call 74; first | ((with_reducible refine (impl_has.calls (rd p a1_2) a1_3 _ _ HA.out).mono ?_); rintro e w' ⟨rfl, ⟨nd, rfl⟩⟩) | ((with_reducible refine (impl_has.calls (rd p a1_3) a1_2 _ _ HB.out).mono ?_); rintro e w' ⟨rfl, ⟨nd, rfl⟩⟩))
  refine bodyPost_ret (v := .agg #[.int .i64 a1_0, .int .i64 a1_1, .int .i64 a1_2, .int .i64 a1_3, .int .i64 a1_4, .int .i64 a1_5, .int .i64 a1_6, .int .i64 a1_7, .int .i64 a1_8, .int .i64 a1_9]) (by simp [results, Try.results80, go_sem]) rfl ⟨rfl, ?_⟩
  repeat (with_reducible first | exact Below.refl _ _ | refine below_set ?_ (by omega) | apply pw_below_drewN | apply below_drew1 | apply below_alloc)
set_option maxHeartbeats 8000000 in
set_option maxRecDepth 100000 in
theorem exch2_ff (A0 : Option Addr) (c0 : Nat) (p : List Int) (a1_0 a1_1 a1_2 a1_3 a1_4 a1_5 a1_6 a1_7 a1_8 a1_9 : Int) (w : World) (hr : Kd.C (Kd.int .i64) w A0 p.length p) (h0 : 0 ≤ a1_2) (h1 : a1_2 < (p.length : Int)) (hA : impl_has.f (rd p a1_2) a1_3 = some false) (h2 : 0 ≤ a1_3) (h3 : a1_3 < (p.length : Int)) (hB : impl_has.f (rd p a1_3) a1_2 = some false) :
    Calls Try.prog 80 #[.agg #[.slice A0 p.length c0], .agg #[.int .i64 a1_0, .int .i64 a1_1, .int .i64 a1_2, .int .i64 a1_3, .int .i64 a1_4, .int .i64 a1_5, .int .i64 a1_6, .int .i64 a1_7, .int .i64 a1_8, .int .i64 a1_9], .int .i64 2] w fun e w' => e = .returned (.agg #[.int .i64 a1_0, .int .i64 a1_1, .int .i64 a1_3, .int .i64 a1_2, .int .i64 a1_4, .int .i64 a1_5, .int .i64 a1_6, .int .i64 a1_7, .int .i64 a1_8, .int .i64 a1_9]) ∧ Below w.heap.size w w' := by
  have hu28 := Try.underlying34
  have hu58 := Try.underlying58
  have hwI : IntKind.i64.wrap (2 + 1) = 3 := by decide
  have hwJ : IntKind.i64.wrap 3 = 3 := by decide
  obtain ⟨ad, rfl, hc⟩ := Kd.at_int hr a1_2 h0 h1
  have hc3 := exch_keep hc
  have HA := Aside0.mk hA
  obtain ⟨ad', e', hc'⟩ := Kd.at_int hr a1_3 h2 h3
  cases e'
  have hc3' := exch_keep hc'
  have HB := Aside0.mk hB
  clear hA hB hr hc hc'
  go_enter Try.func80, Try.ntmps80
  go_wp2_with (fail)
  go_quiet (fail)
  go_wp2_with (go_at_call 74; first | ((with_reducible refine (impl_has.calls (rd p a1_2) a1_3 _ _ HA.out).mono ?_); rintro e w' ⟨rfl, ⟨nd, rfl⟩⟩) | ((with_reducible refine (impl_has.calls (rd p a1_3) a1_2 _ _ HB.out).mono ?_); rintro e w' ⟨rfl, ⟨nd, rfl⟩⟩))
  refine bodyPost_ret (v := .agg #[.int .i64 a1_0, .int .i64 a1_1, .int .i64 a1_3, .int .i64 a1_2, .int .i64 a1_4, .int .i64 a1_5, .int .i64 a1_6, .int .i64 a1_7, .int .i64 a1_8, .int .i64 a1_9]) (by simp [results, Try.results80, go_sem]) rfl ⟨rfl, ?_⟩
  repeat (with_reducible first | exact Below.refl _ _ | refine below_set ?_ (by omega) | apply pw_below_drewN | apply below_drew1 | apply below_alloc)
def exchange2.f (l0_0 : List Int) (a1_0 a1_1 a1_2 a1_3 a1_4 a1_5 a1_6 a1_7 a1_8 a1_9 : Int) (a2 : Int) : Option (Int × Int × Int × Int × Int × Int × Int × Int × Int × Int) := if 0 ≤ a1_2 then (if a1_2 < (l0_0.length : Int) then ((impl_has.f (rd l0_0 a1_2) a1_3).bind fun t1 => (if t1 = true then (some (a1_0, a1_1, a1_2, a1_3, a1_4, a1_5, a1_6, a1_7, a1_8, a1_9)) else (if 0 ≤ a1_3 then (if a1_3 < (l0_0.length : Int) then ((impl_has.f (rd l0_0 a1_3) a1_2).bind fun t2 => (if t2 = true then (some (a1_0, a1_1, a1_2, a1_3, a1_4, a1_5, a1_6, a1_7, a1_8, a1_9)) else (some (a1_0, a1_1, a1_3, a1_2, a1_4, a1_5, a1_6, a1_7, a1_8, a1_9)))) else (none)) else (none)))) else (none)) else (none)
theorem exchange2.calls (A0_0 : Option Addr) (c0_0 : Nat) (l0_0 : List Int) (a1_0 a1_1 a1_2 a1_3 a1_4 a1_5 a1_6 a1_7 a1_8 a1_9 : Int) (a2 : Int) (r1 r2 r3 r4 r5 r6 r7 r8 r9 r10 : Int) (w : World) (hr0_0 : Kd.C (Kd.int .i64) w A0_0 l0_0.length l0_0) (h : exchange2.f l0_0 a1_0 a1_1 a1_2 a1_3 a1_4 a1_5 a1_6 a1_7 a1_8 a1_9 a2 = some (r1, r2, r3, r4, r5, r6, r7, r8, r9, r10)) :
    Calls Try.prog 80 #[.agg #[.slice A0_0 l0_0.length c0_0], .agg #[.int .i64 a1_0, .int .i64 a1_1, .int .i64 a1_2, .int .i64 a1_3, .int .i64 a1_4, .int .i64 a1_5, .int .i64 a1_6, .int .i64 a1_7, .int .i64 a1_8, .int .i64 a1_9], .int .i64 2] w fun e w' => e = .returned (.agg #[.int .i64 r1, .int .i64 r2, .int .i64 r3, .int .i64 r4, .int .i64 r5, .int .i64 r6, .int .i64 r7, .int .i64 r8, .int .i64 r9, .int .i64 r10]) ∧ Below w.heap.size w w' := by
  unfold exchange2.f at h
  by_cases h0 : 0 ≤ a1_2
  rotate_left
  · rw [if_neg h0] at h; cases h
  by_cases h1 : a1_2 < (l0_0.length : Int)
  rotate_left
  · rw [if_pos h0, if_neg h1] at h; cases h
  rw [if_pos h0, if_pos h1] at h
  obtain ⟨t1, hA, h⟩ := Option.bind_eq_some_iff.1 h
  cases t1 with
  | true =>
    rw [if_pos rfl] at h
    simp only [Option.some.injEq, Prod.mk.injEq] at h
    obtain ⟨rfl, rfl, rfl, rfl, rfl, rfl, rfl, rfl, rfl, rfl⟩ := h
    exact exch2_t A0_0 c0_0 l0_0 a1_0 a1_1 a1_2 a1_3 a1_4 a1_5 a1_6 a1_7 a1_8 a1_9 w hr0_0 h0 h1 hA
  | false =>
    rw [if_neg (by simp)] at h
    by_cases h2 : 0 ≤ a1_3
    rotate_left
    · rw [if_neg h2] at h; cases h
    by_cases h3 : a1_3 < (l0_0.length : Int)
    rotate_left
    · rw [if_pos h2, if_neg h3] at h; cases h
    rw [if_pos h2, if_pos h3] at h
    obtain ⟨t2, hB, h⟩ := Option.bind_eq_some_iff.1 h
    cases t2 with
    | true =>
      rw [if_pos rfl] at h
      simp only [Option.some.injEq, Prod.mk.injEq] at h
      obtain ⟨rfl, rfl, rfl, rfl, rfl, rfl, rfl, rfl, rfl, rfl⟩ := h
      exact exch2_ft A0_0 c0_0 l0_0 a1_0 a1_1 a1_2 a1_3 a1_4 a1_5 a1_6 a1_7 a1_8 a1_9 w hr0_0 h0 h1 hA h2 h3 hB
    | false =>
      rw [if_neg (by simp)] at h
      simp only [Option.some.injEq, Prod.mk.injEq] at h
      obtain ⟨rfl, rfl, rfl, rfl, rfl, rfl, rfl, rfl, rfl, rfl⟩ := h
      exact exch2_ff A0_0 c0_0 l0_0 a1_0 a1_1 a1_2 a1_3 a1_4 a1_5 a1_6 a1_7 a1_8 a1_9 w hr0_0 h0 h1 hA h2 h3 hB
set_option maxHeartbeats 8000000 in
set_option maxRecDepth 100000 in
theorem exch3_t (A0 : Option Addr) (c0 : Nat) (p : List Int) (a1_0 a1_1 a1_2 a1_3 a1_4 a1_5 a1_6 a1_7 a1_8 a1_9 : Int) (w : World) (hr : Kd.C (Kd.int .i64) w A0 p.length p) (h0 : 0 ≤ a1_3) (h1 : a1_3 < (p.length : Int)) (hA : impl_has.f (rd p a1_3) a1_4 = some true) :
    Calls Try.prog 80 #[.agg #[.slice A0 p.length c0], .agg #[.int .i64 a1_0, .int .i64 a1_1, .int .i64 a1_2, .int .i64 a1_3, .int .i64 a1_4, .int .i64 a1_5, .int .i64 a1_6, .int .i64 a1_7, .int .i64 a1_8, .int .i64 a1_9], .int .i64 3] w fun e w' => e = .returned (.agg #[.int .i64 a1_0, .int .i64 a1_1, .int .i64 a1_2, .int .i64 a1_3, .int .i64 a1_4, .int .i64 a1_5, .int .i64 a1_6, .int .i64 a1_7, .int .i64 a1_8, .int .i64 a1_9]) ∧ Below w.heap.size w w' := by
  have hu28 := Try.underlying34
  have hu58 := Try.underlying58
  have hwI : IntKind.i64.wrap (3 + 1) = 4 := by decide
  have hwJ : IntKind.i64.wrap 4 = 4 := by decide
  obtain ⟨ad, rfl, hc⟩ := Kd.at_int hr a1_3 h0 h1
  have hc3 := exch_keep hc
  have HA := Aside0.mk hA
  clear hA hr hc
  go_enter Try.func80, Try.ntmps80
  go_wp2_with (fail)
  go_quiet (fail)
  go_wp2_with (go_at_call 74; ((with_reducible refine (impl_has.calls (rd p a1_3) a1_4 _ _ HA.out).mono ?_); rintro e w' ⟨rfl, ⟨nd, rfl⟩⟩))
  refine bodyPost_ret (v := .agg #[.int .i64 a1_0, .int .i64 a1_1, .int .i64 a1_2, .int .i64 a1_3, .int .i64 a1_4, .int .i64 a1_5, .int .i64 a1_6, .int .i64 a1_7, .int .i64 a1_8, .int .i64 a1_9]) (by simp [results, Try.results80, go_sem]) rfl ⟨rfl, ?_⟩
  repeat (with_reducible first | exact Below.refl _ _ | refine below_set ?_ (by omega) | apply pw_below_drewN | apply below_drew1 | apply below_alloc)
set_option maxHeartbeats 8000000 in
set_option maxRecDepth 100000 in
theorem exch3_ft (A0 : Option Addr) (c0 : Nat) (p : List Int) (a1_0 a1_1 a1_2 a1_3 a1_4 a1_5 a1_6 a1_7 a1_8 a1_9 : Int) (w : World) (hr : Kd.C (Kd.int .i64) w A0 p.length p) (h0 : 0 ≤ a1_3) (h1 : a1_3 < (p.length : Int)) (hA : impl_has.f (rd p a1_3) a1_4 = some false) (h2 : 0 ≤ a1_4) (h3 : a1_4 < (p.length : Int)) (hB : impl_has.f (rd p a1_4) a1_3 = some true) :
    Calls Try.prog 80 #[.agg #[.slice A0 p.length c0], .agg #[.int .i64 a1_0, .int .i64 a1_1, .int .i64 a1_2, .int .i64 a1_3, .int .i64 a1_4, .int .i64 a1_5, .int .i64 a1_6, .int .i64 a1_7, .int .i64 a1_8, .int .i64 a1_9], .int .i64 3] w fun e w' => e = .returned (.agg #[.int .i64 a1_0, .int .i64 a1_1, .int .i64 a1_2, .int .i64 a1_3, .int .i64 a1_4, .int .i64 a1_5, .int .i64 a1_6, .int .i64 a1_7, .int .i64 a1_8, .int .i64 a1_9]) ∧ Below w.heap.size w w' := by
  have hu28 := Try.underlying34
  have hu58 := Try.underlying58
  have hwI : IntKind.i64.wrap (3 + 1) = 4 := by decide
  have hwJ : IntKind.i64.wrap 4 = 4 := by decide
  obtain ⟨ad, rfl, hc⟩ := Kd.at_int hr a1_3 h0 h1
  have hc3 := exch_keep hc
  have HA := Aside0.mk hA
  obtain ⟨ad', e', hc'⟩ := Kd.at_int hr a1_4 h2 h3
  cases e'
  have hc3' := exch_keep hc'
  have HB := Aside0.mk hB
  clear hA hB hr hc hc'
  go_enter Try.func80, Try.ntmps80
  go_wp2_with (fail)
  go_quiet (fail)
  go_wp2_with (go_at_call 74; first | ((with_reducible refine (impl_has.calls (rd p a1_3) a1_4 _ _ HA.out).mono ?_); rintro e w' ⟨rfl, ⟨nd, rfl⟩⟩) | ((with_reducible refine (impl_has.calls (rd p a1_4) a1_3 _ _ HB.out).mono ?_); rintro e w' ⟨rfl, ⟨nd, rfl⟩⟩))
  refine bodyPost_ret (v := .agg #[.int .i64 a1_0, .int .i64 a1_1, .int .i64 a1_2, .int .i64 a1_3, .int .i64 a1_4, .int .i64 a1_5, .int .i64 a1_6, .int .i64 a1_7, .int .i64 a1_8, .int .i64 a1_9]) (by simp [results, Try.results80, go_sem]) rfl ⟨rfl, ?_⟩
  repeat (with_reducible first | exact Below.refl _ _ | refine below_set ?_ (by omega) | apply pw_below_drewN | apply below_drew1 | apply below_alloc)
set_option maxHeartbeats 8000000 in
set_option maxRecDepth 100000 in
theorem exch3_ff (A0 : Option Addr) (c0 : Nat) (p : List Int) (a1_0 a1_1 a1_2 a1_3 a1_4 a1_5 a1_6 a1_7 a1_8 a1_9 : Int) (w : World) (hr : Kd.C (Kd.int .i64) w A0 p.length p) (h0 : 0 ≤ a1_3) (h1 : a1_3 < (p.length : Int)) (hA : impl_has.f (rd p a1_3) a1_4 = some false) (h2 : 0 ≤ a1_4) (h3 : a1_4 < (p.length : Int)) (hB : impl_has.f (rd p a1_4) a1_3 = some false) :
    Calls Try.prog 80 #[.agg #[.slice A0 p.length c0], .agg #[.int .i64 a1_0, .int .i64 a1_1, .int .i64 a1_2, .int .i64 a1_3, .int .i64 a1_4, .int .i64 a1_5, .int .i64 a1_6, .int .i64 a1_7, .int .i64 a1_8, .int .i64 a1_9], .int .i64 3] w fun e w' => e = .returned (.agg #[.int .i64 a1_0, .int .i64 a1_1, .int .i64 a1_2, .int .i64 a1_4, .int .i64 a1_3, .int .i64 a1_5, .int .i64 a1_6, .int .i64 a1_7, .int .i64 a1_8, .int .i64 a1_9]) ∧ Below w.heap.size w w' := by
  have hu28 := Try.underlying34
  have hu58 := Try.underlying58
  have hwI : IntKind.i64.wrap (3 + 1) = 4 := by decide
  have hwJ : IntKind.i64.wrap 4 = 4 := by decide
  obtain ⟨ad, rfl, hc⟩ := Kd.at_int hr a1_3 h0 h1
  have hc3 := exch_keep hc
  have HA := Aside0.mk hA
  obtain ⟨ad', e', hc'⟩ := Kd.at_int hr a1_4 h2 h3
  cases e'
  have hc3' := exch_keep hc'
  have HB := Aside0.mk hB
  clear hA hB hr hc hc'
  go_enter Try.func80, Try.ntmps80
  go_wp2_with (fail)
  go_quiet (fail)
  go_wp2_with (go_at_call 74; first | ((with_reducible refine (impl_has.calls (rd p a1_3) a1_4 _ _ HA.out).mono ?_); rintro e w' ⟨rfl, ⟨nd, rfl⟩⟩) | ((with_reducible refine (impl_has.calls (rd p a1_4) a1_3 _ _ HB.out).mono ?_); rintro e w' ⟨rfl, ⟨nd, rfl⟩⟩))
  refine bodyPost_ret (v := .agg #[.int .i64 a1_0, .int .i64 a1_1, .int .i64 a1_2, .int .i64 a1_4, .int .i64 a1_3, .int .i64 a1_5, .int .i64 a1_6, .int .i64 a1_7, .int .i64 a1_8, .int .i64 a1_9]) (by simp [results, Try.results80, go_sem]) rfl ⟨rfl, ?_⟩
  repeat (with_reducible first | exact Below.refl _ _ | refine below_set ?_ (by omega) | apply pw_below_drewN | apply below_drew1 | apply below_alloc)
def exchange3.f (l0_0 : List Int) (a1_0 a1_1 a1_2 a1_3 a1_4 a1_5 a1_6 a1_7 a1_8 a1_9 : Int) (a2 : Int) : Option (Int × Int × Int × Int × Int × Int × Int × Int × Int × Int) := if 0 ≤ a1_3 then (if a1_3 < (l0_0.length : Int) then ((impl_has.f (rd l0_0 a1_3) a1_4).bind fun t1 => (if t1 = true then (some (a1_0, a1_1, a1_2, a1_3, a1_4, a1_5, a1_6, a1_7, a1_8, a1_9)) else (if 0 ≤ a1_4 then (if a1_4 < (l0_0.length : Int) then ((impl_has.f (rd l0_0 a1_4) a1_3).bind fun t2 => (if t2 = true then (some (a1_0, a1_1, a1_2, a1_3, a1_4, a1_5, a1_6, a1_7, a1_8, a1_9)) else (some (a1_0, a1_1, a1_2, a1_4, a1_3, a1_5, a1_6, a1_7, a1_8, a1_9)))) else (none)) else (none)))) else (none)) else (none)
theorem exchange3.calls (A0_0 : Option Addr) (c0_0 : Nat) (l0_0 : List Int) (a1_0 a1_1 a1_2 a1_3 a1_4 a1_5 a1_6 a1_7 a1_8 a1_9 : Int) (a2 : Int) (r1 r2 r3 r4 r5 r6 r7 r8 r9 r10 : Int) (w : World) (hr0_0 : Kd.C (Kd.int .i64) w A0_0 l0_0.length l0_0) (h : exchange3.f l0_0 a1_0 a1_1 a1_2 a1_3 a1_4 a1_5 a1_6 a1_7 a1_8 a1_9 a2 = some (r1, r2, r3, r4, r5, r6, r7, r8, r9, r10)) :
    Calls Try.prog 80 #[.agg #[.slice A0_0 l0_0.length c0_0], .agg #[.int .i64 a1_0, .int .i64 a1_1, .int .i64 a1_2, .int .i64 a1_3, .int .i64 a1_4, .int .i64 a1_5, .int .i64 a1_6, .int .i64 a1_7, .int .i64 a1_8, .int .i64 a1_9], .int .i64 3] w fun e w' => e = .returned (.agg #[.int .i64 r1, .int .i64 r2, .int .i64 r3, .int .i64 r4, .int .i64 r5, .int .i64 r6, .int .i64 r7, .int .i64 r8, .int .i64 r9, .int .i64 r10]) ∧ Below w.heap.size w w' := by
  unfold exchange3.f at h
  by_cases h0 : 0 ≤ a1_3
  rotate_left
  · rw [if_neg h0] at h; cases h
  by_cases h1 : a1_3 < (l0_0.length : Int)
  rotate_left
  · rw [if_pos h0, if_neg h1] at h; cases h
  rw [if_pos h0, if_pos h1] at h
  obtain ⟨t1, hA, h⟩ := Option.bind_eq_some_iff.1 h
  cases t1 with
  | true =>
    rw [if_pos rfl] at h
    simp only [Option.some.injEq, Prod.mk.injEq] at h
    obtain ⟨rfl, rfl, rfl, rfl, rfl, rfl, rfl, rfl, rfl, rfl⟩ := h
    exact exch3_t A0_0 c0_0 l0_0 a1_0 a1_1 a1_2 a1_3 a1_4 a1_5 a1_6 a1_7 a1_8 a1_9 w hr0_0 h0 h1 hA
  | false =>
    rw [if_neg (by simp)] at h
    by_cases h2 : 0 ≤ a1_4
    rotate_left
    · rw [if_neg h2] at h; cases h
    by_cases h3 : a1_4 < (l0_0.length : Int)
    rotate_left
    · rw [if_pos h2, if_neg h3] at h; cases h
    rw [if_pos h2, if_pos h3] at h
    obtain ⟨t2, hB, h⟩ := Option.bind_eq_some_iff.1 h
    cases t2 with
    | true =>
      rw [if_pos rfl] at h
      simp only [Option.some.injEq, Prod.mk.injEq] at h
      obtain ⟨rfl, rfl, rfl, rfl, rfl, rfl, rfl, rfl, rfl, rfl⟩ := h
      exact exch3_ft A0_0 c0_0 l0_0 a1_0 a1_1 a1_2 a1_3 a1_4 a1_5 a1_6 a1_7 a1_8 a1_9 w hr0_0 h0 h1 hA h2 h3 hB
    | false =>
      rw [if_neg (by simp)] at h
      simp only [Option.some.injEq, Prod.mk.injEq] at h
      obtain ⟨rfl, rfl, rfl, rfl, rfl, rfl, rfl, rfl, rfl, rfl⟩ := h
      exact exch3_ff A0_0 c0_0 l0_0 a1_0 a1_1 a1_2 a1_3 a1_4 a1_5 a1_6 a1_7 a1_8 a1_9 w hr0_0 h0 h1 hA h2 h3 hB
set_option maxHeartbeats 8000000 in
set_option maxRecDepth 100000 in
theorem exch4_t (A0 : Option Addr) (c0 : Nat) (p : List Int) (a1_0 a1_1 a1_2 a1_3 a1_4 a1_5 a1_6 a1_7 a1_8 a1_9 : Int) (w : World) (hr : Kd.C (Kd.int .i64) w A0 p.length p) (h0 : 0 ≤ a1_4) (h1 : a1_4 < (p.length : Int)) (hA : impl_has.f (rd p a1_4) a1_5 = some true) :
    Calls Try.prog 80 #[.agg #[.slice A0 p.length c0], .agg #[.int .i64 a1_0, .int .i64 a1_1, .int .i64 a1_2, .int .i64 a1_3, .int .i64 a1_4, .int .i64 a1_5, .int .i64 a1_6, .int .i64 a1_7, .int .i64 a1_8, .int .i64 a1_9], .int .i64 4] w fun e w' => e = .returned (.agg #[.int .i64 a1_0, .int .i64 a1_1, .int .i64 a1_2, .int .i64 a1_3, .int .i64 a1_4, .int .i64 a1_5, .int .i64 a1_6, .int .i64 a1_7, .int .i64 a1_8, .int .i64 a1_9]) ∧ Below w.heap.size w w' := by
  have hu28 := Try.underlying34
  have hu58 := Try.underlying58
  have hwI : IntKind.i64.wrap (4 + 1) = 5 := by decide
  have hwJ : IntKind.i64.wrap 5 = 5 := by decide
  obtain ⟨ad, rfl, hc⟩ := Kd.at_int hr a1_4 h0 h1
  have hc3 := exch_keep hc
  have HA := Aside0.mk hA
  clear hA hr hc
  go_enter Try.func80, Try.ntmps80
  go_wp2_with (fail)
  go_quiet (fail)
  go_wp2_with (go_at_call 74; ((with_reducible refine (impl_has.calls (rd p a1_4) a1_5 _ _ HA.out).mono ?_); rintro e w' ⟨rfl, ⟨nd, rfl⟩⟩))
  refine bodyPost_ret (v := .agg #[.int .i64 a1_0, .int .i64 a1_1, .int .i64 a1_2, .int .i64 a1_3, .int .i64 a1_4, .int .i64 a1_5, .int .i64 a1_6, .int .i64 a1_7, .int .i64 a1_8, .int .i64 a1_9]) (by simp [results, Try.results80, go_sem]) rfl ⟨rfl, ?_⟩
  repeat (with_reducible first | exact Below.refl _ _ | refine below_set ?_ (by omega) | apply pw_below_drewN | apply below_drew1 | apply below_alloc)
set_option maxHeartbeats 8000000 in
set_option maxRecDepth 100000 in
theorem exch4_ft (A0 : Option Addr) (c0 : Nat) (p : List Int) (a1_0 a1_1 a1_2 a1_3 a1_4 a1_5 a1_6 a1_7 a1_8 a1_9 : Int) (w : World) (hr : Kd.C (Kd.int .i64) w A0 p.length p) (h0 : 0 ≤ a1_4) (h1 : a1_4 < (p.length : Int)) (hA : impl_has.f (rd p a1_4) a1_5 = some false) (h2 : 0 ≤ a1_5) (h3 : a1_5 < (p.length : Int)) (hB : impl_has.f (rd p a1_5) a1_4 = some true) :
    Calls Try.prog 80 #[.agg #[.slice A0 p.length c0], .agg #[.int .i64 a1_0, .int .i64 a1_1, .int .i64 a1_2, .int .i64 a1_3, .int .i64 a1_4, .int .i64 a1_5, .int .i64 a1_6, .int .i64 a1_7, .int .i64 a1_8, .int .i64 a1_9], .int .i64 4] w fun e w' => e = .returned (.agg #[.int .i64 a1_0, .int .i64 a1_1, .int .i64 a1_2, .int .i64 a1_3, .int .i64 a1_4, .int .i64 a1_5, .int .i64 a1_6, .int .i64 a1_7, .int .i64 a1_8, .int .i64 a1_9]) ∧ Below w.heap.size w w' := by
  have hu28 := Try.underlying34
  have hu58 := Try.underlying58
  have hwI : IntKind.i64.wrap (4 + 1) = 5 := by decide
  have hwJ : IntKind.i64.wrap 5 = 5 := by decide
  obtain ⟨ad, rfl, hc⟩ := Kd.at_int hr a1_4 h0 h1
  have hc3 := exch_keep hc
  have HA := Aside0.mk hA
  obtain ⟨ad', e', hc'⟩ := Kd.at_int hr a1_5 h2 h3
  cases e'
  have hc3' := exch_keep hc'
  have HB := Aside0.mk hB
  clear hA hB hr hc hc'
  go_enter Try.func80, Try.ntmps80
  go_wp2_with (fail)
  go_quiet (fail)
  go_wp2_with (go_at_call 74; first | ((with_reducible refine (impl_has.calls (rd p a1_4) a1_5 _ _ HA.out).mono ?_); rintro e w' ⟨rfl, ⟨nd, rfl⟩⟩) | ((with_reducible refine (impl_has.calls (rd p a1_5) a1_4 _ _ HB.out).mono ?_); rintro e w' ⟨rfl, ⟨nd, rfl⟩⟩))
  refine bodyPost_ret (v := .agg #[.int .i64 a1_0, .int .i64 a1_1, .int .i64 a1_2, .int .i64 a1_3, .int .i64 a1_4, .int .i64 a1_5, .int .i64 a1_6, .int .i64 a1_7, .int .i64 a1_8, .int .i64 a1_9]) (by simp [results, Try.results80, go_sem]) rfl ⟨rfl, ?_⟩
  repeat (with_reducible first | exact Below.refl _ _ | refine below_set ?_ (by omega) | apply pw_below_drewN | apply below_drew1 | apply below_alloc)
set_option maxHeartbeats 8000000 in
set_option maxRecDepth 100000 in
theorem exch4_ff (A0 : Option Addr) (c0 : Nat) (p : List Int) (a1_0 a1_1 a1_2 a1_3 a1_4 a1_5 a1_6 a1_7 a1_8 a1_9 : Int) (w : World) (hr : Kd.C (Kd.int .i64) w A0 p.length p) (h0 : 0 ≤ a1_4) (h1 : a1_4 < (p.length : Int)) (hA : impl_has.f (rd p a1_4) a1_5 = some false) (h2 : 0 ≤ a1_5) (h3 : a1_5 < (p.length : Int)) (hB : impl_has.f (rd p a1_5) a1_4 = some false) :
    Calls Try.prog 80 #[.agg #[.slice A0 p.length c0], .agg #[.int .i64 a1_0, .int .i64 a1_1, .int .i64 a1_2, .int .i64 a1_3, .int .i64 a1_4, .int .i64 a1_5, .int .i64 a1_6, .int .i64 a1_7, .int .i64 a1_8, .int .i64 a1_9], .int .i64 4] w fun e w' => e = .returned (.agg #[.int .i64 a1_0, .int .i64 a1_1, .int .i64 a1_2, .int .i64 a1_3, .int .i64 a1_5, .int .i64 a1_4, .int .i64 a1_6, .int .i64 a1_7, .int .i64 a1_8, .int .i64 a1_9]) ∧ Below w.heap.size w w' := by
  have hu28 := Try.underlying34
  have hu58 := Try.underlying58
  have hwI : IntKind.i64.wrap (4 + 1) = 5 := by decide
  have hwJ : IntKind.i64.wrap 5 = 5 := by decide
  obtain ⟨ad, rfl, hc⟩ := Kd.at_int hr a1_4 h0 h1
  have hc3 := exch_keep hc
  have HA := Aside0.mk hA
  obtain ⟨ad', e', hc'⟩ := Kd.at_int hr a1_5 h2 h3
  cases e'
  have hc3' := exch_keep hc'
  have HB := Aside0.mk hB
  clear hA hB hr hc hc'
  go_enter Try.func80, Try.ntmps80
  go_wp2_with (fail)
  go_quiet (fail)
  go_wp2_with (go_at_call 74; first | ((with_reducible refine (impl_has.calls (rd p a1_4) a1_5 _ _ HA.out).mono ?_); rintro e w' ⟨rfl, ⟨nd, rfl⟩⟩) | ((with_reducible refine (impl_has.calls (rd p a1_5) a1_4 _ _ HB.out).mono ?_); rintro e w' ⟨rfl, ⟨nd, rfl⟩⟩))
  refine bodyPost_ret (v := .agg #[.int .i64 a1_0, .int .i64 a1_1, .int .i64 a1_2, .int .i64 a1_3, .int .i64 a1_5, .int .i64 a1_4, .int .i64 a1_6, .int .i64 a1_7, .int .i64 a1_8, .int .i64 a1_9]) (by simp [results, Try.results80, go_sem]) rfl ⟨rfl, ?_⟩
  repeat (with_reducible first | exact Below.refl _ _ | refine below_set ?_ (by omega) | apply pw_below_drewN | apply below_drew1 | apply below_alloc)
def exchange4.f (l0_0 : List Int) (a1_0 a1_1 a1_2 a1_3 a1_4 a1_5 a1_6 a1_7 a1_8 a1_9 : Int) (a2 : Int) : Option (Int × Int × Int × Int × Int × Int × Int × Int × Int × Int) := if 0 ≤ a1_4 then (if a1_4 < (l0_0.length : Int) then ((impl_has.f (rd l0_0 a1_4) a1_5).bind fun t1 => (if t1 = true then (some (a1_0, a1_1, a1_2, a1_3, a1_4, a1_5, a1_6, a1_7, a1_8, a1_9)) else (if 0 ≤ a1_5 then (if a1_5 < (l0_0.length : Int) then ((impl_has.f (rd l0_0 a1_5) a1_4).bind fun t2 => (if t2 = true then (some (a1_0, a1_1, a1_2, a1_3, a1_4, a1_5, a1_6, a1_7, a1_8, a1_9)) else (some (a1_0, a1_1, a1_2, a1_3, a1_5, a1_4, a1_6, a1_7, a1_8, a1_9)))) else (none)) else (none)))) else (none)) else (none)
theorem exchange4.calls (A0_0 : Option Addr) (c0_0 : Nat) (l0_0 : List Int) (a1_0 a1_1 a1_2 a1_3 a1_4 a1_5 a1_6 a1_7 a1_8 a1_9 : Int) (a2 : Int) (r1 r2 r3 r4 r5 r6 r7 r8 r9 r10 : Int) (w : World) (hr0_0 : Kd.C (Kd.int .i64) w A0_0 l0_0.length l0_0) (h : exchange4.f l0_0 a1_0 a1_1 a1_2 a1_3 a1_4 a1_5 a1_6 a1_7 a1_8 a1_9 a2 = some (r1, r2, r3, r4, r5, r6, r7, r8, r9, r10)) :
    Calls Try.prog 80 #[.agg #[.slice A0_0 l0_0.length c0_0], .agg #[.int .i64 a1_0, .int .i64 a1_1, .int .i64 a1_2, .int .i64 a1_3, .int .i64 a1_4, .int .i64 a1_5, .int .i64 a1_6, .int .i64 a1_7, .int .i64 a1_8, .int .i64 a1_9], .int .i64 4] w fun e w' => e = .returned (.agg #[.int .i64 r1, .int .i64 r2, .int .i64 r3, .int .i64 r4, .int .i64 r5, .int .i64 r6, .int .i64 r7, .int .i64 r8, .int .i64 r9, .int .i64 r10]) ∧ Below w.heap.size w w' := by
  unfold exchange4.f at h
  by_cases h0 : 0 ≤ a1_4
  rotate_left
  · rw [if_neg h0] at h; cases h
  by_cases h1 : a1_4 < (l0_0.length : Int)
  rotate_left
  · rw [if_pos h0, if_neg h1] at h; cases h
  rw [if_pos h0, if_pos h1] at h
  obtain ⟨t1, hA, h⟩ := Option.bind_eq_some_iff.1 h
  cases t1 with
  | true =>
    rw [if_pos rfl] at h
    simp only [Option.some.injEq, Prod.mk.injEq] at h
    obtain ⟨rfl, rfl, rfl, rfl, rfl, rfl, rfl, rfl, rfl, rfl⟩ := h
    exact exch4_t A0_0 c0_0 l0_0 a1_0 a1_1 a1_2 a1_3 a1_4 a1_5 a1_6 a1_7 a1_8 a1_9 w hr0_0 h0 h1 hA
  | false =>
    rw [if_neg (by simp)] at h
    by_cases h2 : 0 ≤ a1_5
    rotate_left
    · rw [if_neg h2] at h; cases h
    by_cases h3 : a1_5 < (l0_0.length : Int)
    rotate_left
    · rw [if_pos h2, if_neg h3] at h; cases h
    rw [if_pos h2, if_pos h3] at h
    obtain ⟨t2, hB, h⟩ := Option.bind_eq_some_iff.1 h
    cases t2 with
    | true =>
      rw [if_pos rfl] at h
      simp only [Option.some.injEq, Prod.mk.injEq] at h
      obtain ⟨rfl, rfl, rfl, rfl, rfl, rfl, rfl, rfl, rfl, rfl⟩ := h
      exact exch4_ft A0_0 c0_0 l0_0 a1_0 a1_1 a1_2 a1_3 a1_4 a1_5 a1_6 a1_7 a1_8 a1_9 w hr0_0 h0 h1 hA h2 h3 hB
    | false =>
      rw [if_neg (by simp)] at h
      simp only [Option.some.injEq, Prod.mk.injEq] at h
      obtain ⟨rfl, rfl, rfl, rfl, rfl, rfl, rfl, rfl, rfl, rfl⟩ := h
      exact exch4_ff A0_0 c0_0 l0_0 a1_0 a1_1 a1_2 a1_3 a1_4 a1_5 a1_6 a1_7 a1_8 a1_9 w hr0_0 h0 h1 hA h2 h3 hB
set_option maxHeartbeats 8000000 in
set_option maxRecDepth 100000 in
theorem exch5_t (A0 : Option Addr) (c0 : Nat) (p : List Int) (a1_0 a1_1 a1_2 a1_3 a1_4 a1_5 a1_6 a1_7 a1_8 a1_9 : Int) (w : World) (hr : Kd.C (Kd.int .i64) w A0 p.length p) (h0 : 0 ≤ a1_5) (h1 : a1_5 < (p.length : Int)) (hA : impl_has.f (rd p a1_5) a1_6 = some true) :
    Calls Try.prog 80 #[.agg #[.slice A0 p.length c0], .agg #[.int .i64 a1_0, .int .i64 a1_1, .int .i64 a1_2, .int .i64 a1_3, .int .i64 a1_4, .int .i64 a1_5, .int .i64 a1_6, .int .i64 a1_7, .int .i64 a1_8, .int .i64 a1_9], .int .i64 5] w fun e w' => e = .returned (.agg #[.int .i64 a1_0, .int .i64 a1_1, .int .i64 a1_2, .int .i64 a1_3, .int .i64 a1_4, .int .i64 a1_5, .int .i64 a1_6, .int .i64 a1_7, .int .i64 a1_8, .int .i64 a1_9]) ∧ Below w.heap.size w w' := by
  have hu28 := Try.underlying34
  have hu58 := Try.underlying58
  have hwI : IntKind.i64.wrap (5 + 1) = 6 := by decide
  have hwJ : IntKind.i64.wrap 6 = 6 := by decide
  obtain ⟨ad, rfl, hc⟩ := Kd.at_int hr a1_5 h0 h1
  have hc3 := exch_keep hc
  have HA := Aside0.mk hA
  clear hA hr hc
  go_enter Try.func80, Try.ntmps80
  go_wp2_with (fail)
  go_quiet (fail)
  go_wp2_with (go_at_call 74; ((with_reducible refine (impl_has.calls (rd p a1_5) a1_6 _ _ HA.out).mono ?_); rintro e w' ⟨rfl, ⟨nd, rfl⟩⟩))
  refine bodyPost_ret (v := .agg #[.int .i64 a1_0, .int .i64 a1_1, .int .i64 a1_2, .int .i64 a1_3, .int .i64 a1_4, .int .i64 a1_5, .int .i64 a1_6, .int .i64 a1_7, .int .i64 a1_8, .int .i64 a1_9]) (by simp [results, Try.results80, go_sem]) rfl ⟨rfl, ?_⟩
  repeat (with_reducible first | exact Below.refl _ _ | refine below_set ?_ (by omega) | apply pw_below_drewN | apply below_drew1 | apply below_alloc)
set_option maxHeartbeats 8000000 in
set_option maxRecDepth 100000 in
theorem exch5_ft (A0 : Option Addr) (c0 : Nat) (p : List Int) (a1_0 a1_1 a1_2 a1_3 a1_4 a1_5 a1_6 a1_7 a1_8 a1_9 : Int) (w : World) (hr : Kd.C (Kd.int .i64) w A0 p.length p) (h0 : 0 ≤ a1_5) (h1 : a1_5 < (p.length : Int)) (hA : impl_has.f (rd p a1_5) a1_6 = some false) (h2 : 0 ≤ a1_6) (h3 : a1_6 < (p.length : Int)) (hB : impl_has.f (rd p a1_6) a1_5 = some true) :
    Calls Try.prog 80 #[.agg #[.slice A0 p.length c0], .agg #[.int .i64 a1_0, .int .i64 a1_1, .int .i64 a1_2, .int .i64 a1_3, .int .i64 a1_4, .int .i64 a1_5, .int .i64 a1_6, .int .i64 a1_7, .int .i64 a1_8, .int .i64 a1_9], .int .i64 5] w fun e w' => e = .returned (.agg #[.int .i64 a1_0, .int .i64 a1_1, .int .i64 a1_2, .int .i64 a1_3, .int .i64 a1_4, .int .i64 a1_5, .int .i64 a1_6, .int .i64 a1_7, .int .i64 a1_8, .int .i64 a1_9]) ∧ Below w.heap.size w w' := by
  have hu28 := Try.underlying34
  have hu58 := Try.underlying58
  have hwI : IntKind.i64.wrap (5 + 1) = 6 := by decide
  have hwJ : IntKind.i64.wrap 6 = 6 := by decide
  obtain ⟨ad, rfl, hc⟩ := Kd.at_int hr a1_5 h0 h1
  have hc3 := exch_keep hc
  have HA := Aside0.mk hA
  obtain ⟨ad', e', hc'⟩ := Kd.at_int hr a1_6 h2 h3
  cases e'
  have hc3' := exch_keep hc'
  have HB := Aside0.mk hB
  clear hA hB hr hc hc'
  go_enter Try.func80, Try.ntmps80
  go_wp2_with (fail)
  go_quiet (fail)
  go_wp2_with (go_at_call 74; first | ((with_reducible refine (impl_has.calls (rd p a1_5) a1_6 _ _ HA.out).mono ?_); rintro e w' ⟨rfl, ⟨nd, rfl⟩⟩) | ((with_reducible refine (impl_has.calls (rd p a1_6) a1_5 _ _ HB.out).mono ?_); rintro e w' ⟨rfl, ⟨nd, rfl⟩⟩))
  refine bodyPost_ret (v := .agg #[.int .i64 a1_0, .int .i64 a1_1, .int .i64 a1_2, .int .i64 a1_3, .int .i64 a1_4, .int .i64 a1_5, .int .i64 a1_6, .int .i64 a1_7, .int .i64 a1_8, .int .i64 a1_9]) (by simp [results, Try.results80, go_sem]) rfl ⟨rfl, ?_⟩
  repeat (with_reducible first | exact Below.refl _ _ | refine below_set ?_ (by omega) | apply pw_below_drewN | apply below_drew1 | apply below_alloc)
set_option maxHeartbeats 8000000 in
set_option maxRecDepth 100000 in
theorem exch5_ff (A0 : Option Addr) (c0 : Nat) (p : List Int) (a1_0 a1_1 a1_2 a1_3 a1_4 a1_5 a1_6 a1_7 a1_8 a1_9 : Int) (w : World) (hr : Kd.C (Kd.int .i64) w A0 p.length p) (h0 : 0 ≤ a1_5) (h1 : a1_5 < (p.length : Int)) (hA : impl_has.f (rd p a1_5) a1_6 = some false) (h2 : 0 ≤ a1_6) (h3 : a1_6 < (p.length : Int)) (hB : impl_has.f (rd p a1_6) a1_5 = some false) :
    Calls Try.prog 80 #[.agg #[.slice A0 p.length c0], .agg #[.int .i64 a1_0, .int .i64 a1_1, .int .i64 a1_2, .int .i64 a1_3, .int .i64 a1_4, .int .i64 a1_5, .int .i64 a1_6, .int .i64 a1_7, .int .i64 a1_8, .int .i64 a1_9], .int .i64 5] w fun e w' => e = .returned (.agg #[.int .i64 a1_0, .int .i64 a1_1, .int .i64 a1_2, .int .i64 a1_3, .int .i64 a1_4, .int .i64 a1_6, .int .i64 a1_5, .int .i64 a1_7, .int .i64 a1_8, .int .i64 a1_9]) ∧ Below w.heap.size w w' := by
  have hu28 := Try.underlying34
  have hu58 := Try.underlying58
  have hwI : IntKind.i64.wrap (5 + 1) = 6 := by decide
  have hwJ : IntKind.i64.wrap 6 = 6 := by decide
  obtain ⟨ad, rfl, hc⟩ := Kd.at_int hr a1_5 h0 h1
  have hc3 := exch_keep hc
  have HA := Aside0.mk hA
  obtain ⟨ad', e', hc'⟩ := Kd.at_int hr a1_6 h2 h3
  cases e'
  have hc3' := exch_keep hc'
  have HB := Aside0.mk hB
  clear hA hB hr hc hc'
  go_enter Try.func80, Try.ntmps80
  go_wp2_with (fail)
  go_quiet (fail)
  go_wp2_with (go_at_call 74; first | ((with_reducible refine (impl_has.calls (rd p a1_5) a1_6 _ _ HA.out).mono ?_); rintro e w' ⟨rfl, ⟨nd, rfl⟩⟩) | ((with_reducible refine (impl_has.calls (rd p a1_6) a1_5 _ _ HB.out).mono ?_); rintro e w' ⟨rfl, ⟨nd, rfl⟩⟩))
  refine bodyPost_ret (v := .agg #[.int .i64 a1_0, .int .i64 a1_1, .int .i64 a1_2, .int .i64 a1_3, .int .i64 a1_4, .int .i64 a1_6, .int .i64 a1_5, .int .i64 a1_7, .int .i64 a1_8, .int .i64 a1_9]) (by simp [results, Try.results80, go_sem]) rfl ⟨rfl, ?_⟩
  repeat (with_reducible first | exact Below.refl _ _ | refine below_set ?_ (by omega) | apply pw_below_drewN | apply below_drew1 | apply below_alloc)
def exchange5.f (l0_0 : List Int) (a1_0 a1_1 a1_2 a1_3 a1_4 a1_5 a1_6 a1_7 a1_8 a1_9 : Int) (a2 : Int) : Option (Int × Int × Int × Int × Int × Int × Int × Int × Int × Int) := if 0 ≤ a1_5 then (if a1_5 < (l0_0.length : Int) then ((impl_has.f (rd l0_0 a1_5) a1_6).bind fun t1 => (if t1 = true then (some (a1_0, a1_1, a1_2, a1_3, a1_4, a1_5, a1_6, a1_7, a1_8, a1_9)) else (if 0 ≤ a1_6 then (if a1_6 < (l0_0.length : Int) then ((impl_has.f (rd l0_0 a1_6) a1_5).bind fun t2 => (if t2 = true then (some (a1_0, a1_1, a1_2, a1_3, a1_4, a1_5, a1_6, a1_7, a1_8, a1_9)) else (some (a1_0, a1_1, a1_2, a1_3, a1_4, a1_6, a1_5, a1_7, a1_8, a1_9)))) else (none)) else (none)))) else (none)) else (none)
theorem exchange5.calls (A0_0 : Option Addr) (c0_0 : Nat) (l0_0 : List Int) (a1_0 a1_1 a1_2 a1_3 a1_4 a1_5 a1_6 a1_7 a1_8 a1_9 : Int) (a2 : Int) (r1 r2 r3 r4 r5 r6 r7 r8 r9 r10 : Int) (w : World) (hr0_0 : Kd.C (Kd.int .i64) w A0_0 l0_0.length l0_0) (h : exchange5.f l0_0 a1_0 a1_1 a1_2 a1_3 a1_4 a1_5 a1_6 a1_7 a1_8 a1_9 a2 = some (r1, r2, r3, r4, r5, r6, r7, r8, r9, r10)) :
    Calls Try.prog 80 #[.agg #[.slice A0_0 l0_0.length c0_0], .agg #[.int .i64 a1_0, .int .i64 a1_1, .int .i64 a1_2, .int .i64 a1_3, .int .i64 a1_4, .int .i64 a1_5, .int .i64 a1_6, .int .i64 a1_7, .int .i64 a1_8, .int .i64 a1_9], .int .i64 5] w fun e w' => e = .returned (.agg #[.int .i64 r1, .int .i64 r2, .int .i64 r3, .int .i64 r4, .int .i64 r5, .int .i64 r6, .int .i64 r7, .int .i64 r8, .int .i64 r9, .int .i64 r10]) ∧ Below w.heap.size w w' := by
  unfold exchange5.f at h
  by_cases h0 : 0 ≤ a1_5
  rotate_left
  · rw [if_neg h0] at h; cases h
  by_cases h1 : a1_5 < (l0_0.length : Int)
  rotate_left
  · rw [if_pos h0, if_neg h1] at h; cases h
  rw [if_pos h0, if_pos h1] at h
  obtain ⟨t1, hA, h⟩ := Option.bind_eq_some_iff.1 h
  cases t1 with
  | true =>
    rw [if_pos rfl] at h
    simp only [Option.some.injEq, Prod.mk.injEq] at h
    obtain ⟨rfl, rfl, rfl, rfl, rfl, rfl, rfl, rfl, rfl, rfl⟩ := h
    exact exch5_t A0_0 c0_0 l0_0 a1_0 a1_1 a1_2 a1_3 a1_4 a1_5 a1_6 a1_7 a1_8 a1_9 w hr0_0 h0 h1 hA
  | false =>
    rw [if_neg (by simp)] at h
    by_cases h2 : 0 ≤ a1_6
    rotate_left
    · rw [if_neg h2] at h; cases h
    by_cases h3 : a1_6 < (l0_0.length : Int)
    rotate_left
    · rw [if_pos h2, if_neg h3] at h; cases h
    rw [if_pos h2, if_pos h3] at h
    obtain ⟨t2, hB, h⟩ := Option.bind_eq_some_iff.1 h
    cases t2 with
    | true =>
      rw [if_pos rfl] at h
      simp only [Option.some.injEq, Prod.mk.injEq] at h
      obtain ⟨rfl, rfl, rfl, rfl, rfl, rfl, rfl, rfl, rfl, rfl⟩ := h
      exact exch5_ft A0_0 c0_0 l0_0 a1_0 a1_1 a1_2 a1_3 a1_4 a1_5 a1_6 a1_7 a1_8 a1_9 w hr0_0 h0 h1 hA h2 h3 hB
    | false =>
      rw [if_neg (by simp)] at h
      simp only [Option.some.injEq, Prod.mk.injEq] at h
      obtain ⟨rfl, rfl, rfl, rfl, rfl, rfl, rfl, rfl, rfl, rfl⟩ := h
      exact exch5_ff A0_0 c0_0 l0_0 a1_0 a1_1 a1_2 a1_3 a1_4 a1_5 a1_6 a1_7 a1_8 a1_9 w hr0_0 h0 h1 hA h2 h3 hB
set_option maxHeartbeats 8000000 in
set_option maxRecDepth 100000 in
theorem exch6_t (A0 : Option Addr) (c0 : Nat) (p : List Int) (a1_0 a1_1 a1_2 a1_3 a1_4 a1_5 a1_6 a1_7 a1_8 a1_9 : Int) (w : World) (hr : Kd.C (Kd.int .i64) w A0 p.length p) (h0 : 0 ≤ a1_6) (h1 : a1_6 < (p.length : Int)) (hA : impl_has.f (rd p a1_6) a1_7 = some true) :
    Calls Try.prog 80 #[.agg #[.slice A0 p.length c0], .agg #[.int .i64 a1_0, .int .i64 a1_1, .int .i64 a1_2, .int .i64 a1_3, .int .i64 a1_4, .int .i64 a1_5, .int .i64 a1_6, .int .i64 a1_7, .int .i64 a1_8, .int .i64 a1_9], .int .i64 6] w fun e w' => e = .returned (.agg #[.int .i64 a1_0, .int .i64 a1_1, .int .i64 a1_2, .int .i64 a1_3, .int .i64 a1_4, .int .i64 a1_5, .int .i64 a1_6, .int .i64 a1_7, .int .i64 a1_8, .int .i64 a1_9]) ∧ Below w.heap.size w w' := by
  have hu28 := Try.underlying34
  have hu58 := Try.underlying58
  have hwI : IntKind.i64.wrap (6 + 1) = 7 := by decide
  have hwJ : IntKind.i64.wrap 7 = 7 := by decide
  obtain ⟨ad, rfl, hc⟩ := Kd.at_int hr a1_6 h0 h1
  have hc3 := exch_keep hc
  have HA := Aside0.mk hA
  clear hA hr hc
  go_enter Try.func80, Try.ntmps80
  go_wp2_with (fail)
  go_quiet (fail)
  go_wp2_with (go_at_call 74; ((with_reducible refine (impl_has.calls (rd p a1_6) a1_7 _ _ HA.out).mono ?_); rintro e w' ⟨rfl, ⟨nd, rfl⟩⟩))
  refine bodyPost_ret (v := .agg #[.int .i64 a1_0, .int .i64 a1_1, .int .i64 a1_2, .int .i64 a1_3, .int .i64 a1_4, .int .i64 a1_5, .int .i64 a1_6, .int .i64 a1_7, .int .i64 a1_8, .int .i64 a1_9]) (by simp [results, Try.results80, go_sem]) rfl ⟨rfl, ?_⟩
  repeat (with_reducible first | exact Below.refl _ _ | refine below_set ?_ (by omega) | apply pw_below_drewN | apply below_drew1 | apply below_alloc)
set_option maxHeartbeats 8000000 in
set_option maxRecDepth 100000 in
theorem exch6_ft (A0 : Option Addr) (c0 : Nat) (p : List Int) (a1_0 a1_1 a1_2 a1_3 a1_4 a1_5 a1_6 a1_7 a1_8 a1_9 : Int) (w : World) (hr : Kd.C (Kd.int .i64) w A0 p.length p) (h0 : 0 ≤ a1_6) (h1 : a1_6 < (p.length : Int)) (hA : impl_has.f (rd p a1_6) a1_7 = some false) (h2 : 0 ≤ a1_7) (h3 : a1_7 < (p.length : Int)) (hB : impl_has.f (rd p a1_7) a1_6 = some true) :
    Calls Try.prog 80 #[.agg #[.slice A0 p.length c0], .agg #[.int .i64 a1_0, .int .i64 a1_1, .int .i64 a1_2, .int .i64 a1_3, .int .i64 a1_4, .int .i64 a1_5, .int .i64 a1_6, .int .i64 a1_7, .int .i64 a1_8, .int .i64 a1_9], .int .i64 6] w fun e w' => e = .returned (.agg #[.int .i64 a1_0, .int .i64 a1_1, .int .i64 a1_2, .int .i64 a1_3, .int .i64 a1_4, .int .i64 a1_5, .int .i64 a1_6, .int .i64 a1_7, .int .i64 a1_8, .int .i64 a1_9]) ∧ Below w.heap.size w w' := by
  have hu28 := Try.underlying34
  have hu58 := Try.underlying58
  have hwI : IntKind.i64.wrap (6 + 1) = 7 := by decide
  have hwJ : IntKind.i64.wrap 7 = 7 := by decide
  obtain ⟨ad, rfl, hc⟩ := Kd.at_int hr a1_6 h0 h1
  have hc3 := exch_keep hc
  have HA := Aside0.mk hA
  obtain ⟨ad', e', hc'⟩ := Kd.at_int hr a1_7 h2 h3
  cases e'
  have hc3' := exch_keep hc'
  have HB := Aside0.mk hB
  clear hA hB hr hc hc'
  go_enter Try.func80, Try.ntmps80
  go_wp2_with (fail)
  go_quiet (fail)
  go_wp2_with (go_at_call 74; first | ((with_reducible refine (impl_has.calls (rd p a1_6) a1_7 _ _ HA.out).mono ?_); rintro e w' ⟨rfl, ⟨nd, rfl⟩⟩) | ((with_reducible refine (impl_has.calls (rd p a1_7) a1_6 _ _ HB.out).mono ?_); rintro e w' ⟨rfl, ⟨nd, rfl⟩⟩))
  refine bodyPost_ret (v := .agg #[.int .i64 a1_0, .int .i64 a1_1, .int .i64 a1_2, .int .i64 a1_3, .int .i64 a1_4, .int .i64 a1_5, .int .i64 a1_6, .int .i64 a1_7, .int .i64 a1_8, .int .i64 a1_9]) (by simp [results, Try.results80, go_sem]) rfl ⟨rfl, ?_⟩
  repeat (with_reducible first | exact Below.refl _ _ | refine below_set ?_ (by omega) | apply pw_below_drewN | apply below_drew1 | apply below_alloc)
set_option maxHeartbeats 8000000 in
set_option maxRecDepth 100000 in
theorem exch6_ff (A0 : Option Addr) (c0 : Nat) (p : List Int) (a1_0 a1_1 a1_2 a1_3 a1_4 a1_5 a1_6 a1_7 a1_8 a1_9 : Int) (w : World) (hr : Kd.C (Kd.int .i64) w A0 p.length p) (h0 : 0 ≤ a1_6) (h1 : a1_6 < (p.length : Int)) (hA : impl_has.f (rd p a1_6) a1_7 = some false) (h2 : 0 ≤ a1_7) (h3 : a1_7 < (p.length : Int)) (hB : impl_has.f (rd p a1_7) a1_6 = some false) :
    Calls Try.prog 80 #[.agg #[.slice A0 p.length c0], .agg #[.int .i64 a1_0, .int .i64 a1_1, .int .i64 a1_2, .int .i64 a1_3, .int .i64 a1_4, .int .i64 a1_5, .int .i64 a1_6, .int .i64 a1_7, .int .i64 a1_8, .int .i64 a1_9], .int .i64 6] w fun e w' => e = .returned (.agg #[.int .i64 a1_0, .int .i64 a1_1, .int .i64 a1_2, .int .i64 a1_3, .int .i64 a1_4, .int .i64 a1_5, .int .i64 a1_7, .int .i64 a1_6, .int .i64 a1_8, .int .i64 a1_9]) ∧ Below w.heap.size w w' := by
  have hu28 := Try.underlying34
  have hu58 := Try.underlying58
  have hwI : IntKind.i64.wrap (6 + 1) = 7 := by decide
  have hwJ : IntKind.i64.wrap 7 = 7 := by decide
  obtain ⟨ad, rfl, hc⟩ := Kd.at_int hr a1_6 h0 h1
  have hc3 := exch_keep hc
  have HA := Aside0.mk hA
  obtain ⟨ad', e', hc'⟩ := Kd.at_int hr a1_7 h2 h3
  cases e'
  have hc3' := exch_keep hc'
  have HB := Aside0.mk hB
  clear hA hB hr hc hc'
  go_enter Try.func80, Try.ntmps80
  go_wp2_with (fail)
  go_quiet (fail)
  go_wp2_with (go_at_call 74; first | ((with_reducible refine (impl_has.calls (rd p a1_6) a1_7 _ _ HA.out).mono ?_); rintro e w' ⟨rfl, ⟨nd, rfl⟩⟩) | ((with_reducible refine (impl_has.calls (rd p a1_7) a1_6 _ _ HB.out).mono ?_); rintro e w' ⟨rfl, ⟨nd, rfl⟩⟩))
  refine bodyPost_ret (v := .agg #[.int .i64 a1_0, .int .i64 a1_1, .int .i64 a1_2, .int .i64 a1_3, .int .i64 a1_4, .int .i64 a1_5, .int .i64 a1_7, .int .i64 a1_6, .int .i64 a1_8, .int .i64 a1_9]) (by simp [results, Try.results80, go_sem]) rfl ⟨rfl, ?_⟩
  repeat (with_reducible first | exact Below.refl _ _ | refine below_set ?_ (by omega) | apply pw_below_drewN | apply below_drew1 | apply below_alloc)
def exchange6.f (l0_0 : List Int) (a1_0 a1_1 a1_2 a1_3 a1_4 a1_5 a1_6 a1_7 a1_8 a1_9 : Int) (a2 : Int) : Option (Int × Int × Int × Int × Int × Int × Int × Int × Int × Int) := if 0 ≤ a1_6 then (if a1_6 < (l0_0.length : Int) then ((impl_has.f (rd l0_0 a1_6) a1_7).bind fun t1 => (if t1 = true then (some (a1_0, a1_1, a1_2, a1_3, a1_4, a1_5, a1_6, a1_7, a1_8, a1_9)) else (if 0 ≤ a1_7 then (if a1_7 < (l0_0.length : Int) then ((impl_has.f (rd l0_0 a1_7) a1_6).bind fun t2 => (if t2 = true then (some (a1_0, a1_1, a1_2, a1_3, a1_4, a1_5, a1_6, a1_7, a1_8, a1_9)) else (some (a1_0, a1_1, a1_2, a1_3, a1_4, a1_5, a1_7, a1_6, a1_8, a1_9)))) else (none)) else (none)))) else (none)) else (none)
theorem exchange6.calls (A0_0 : Option Addr) (c0_0 : Nat) (l0_0 : List Int) (a1_0 a1_1 a1_2 a1_3 a1_4 a1_5 a1_6 a1_7 a1_8 a1_9 : Int) (a2 : Int) (r1 r2 r3 r4 r5 r6 r7 r8 r9 r10 : Int) (w : World) (hr0_0 : Kd.C (Kd.int .i64) w A0_0 l0_0.length l0_0) (h : exchange6.f l0_0 a1_0 a1_1 a1_2 a1_3 a1_4 a1_5 a1_6 a1_7 a1_8 a1_9 a2 = some (r1, r2, r3, r4, r5, r6, r7, r8, r9, r10)) :
    Calls Try.prog 80 #[.agg #[.slice A0_0 l0_0.length c0_0], .agg #[.int .i64 a1_0, .int .i64 a1_1, .int .i64 a1_2, .int .i64 a1_3, .int .i64 a1_4, .int .i64 a1_5, .int .i64 a1_6, .int .i64 a1_7, .int .i64 a1_8, .int .i64 a1_9], .int .i64 6] w fun e w' => e = .returned (.agg #[.int .i64 r1, .int .i64 r2, .int .i64 r3, .int .i64 r4, .int .i64 r5, .int .i64 r6, .int .i64 r7, .int .i64 r8, .int .i64 r9, .int .i64 r10]) ∧ Below w.heap.size w w' := by
  unfold exchange6.f at h
  by_cases h0 : 0 ≤ a1_6
  rotate_left
  · rw [if_neg h0] at h; cases h
  by_cases h1 : a1_6 < (l0_0.length : Int)
  rotate_left
  · rw [if_pos h0, if_neg h1] at h; cases h
  rw [if_pos h0, if_pos h1] at h
  obtain ⟨t1, hA, h⟩ := Option.bind_eq_some_iff.1 h
  cases t1 with
  | true =>
    rw [if_pos rfl] at h
    simp only [Option.some.injEq, Prod.mk.injEq] at h
    obtain ⟨rfl, rfl, rfl, rfl, rfl, rfl, rfl, rfl, rfl, rfl⟩ := h
    exact exch6_t A0_0 c0_0 l0_0 a1_0 a1_1 a1_2 a1_3 a1_4 a1_5 a1_6 a1_7 a1_8 a1_9 w hr0_0 h0 h1 hA
  | false =>
    rw [if_neg (by simp)] at h
    by_cases h2 : 0 ≤ a1_7
    rotate_left
    · rw [if_neg h2] at h; cases h
    by_cases h3 : a1_7 < (l0_0.length : Int)
    rotate_left
    · rw [if_pos h2, if_neg h3] at h; cases h
    rw [if_pos h2, if_pos h3] at h
    obtain ⟨t2, hB, h⟩ := Option.bind_eq_some_iff.1 h
    cases t2 with
    | true =>
      rw [if_pos rfl] at h
      simp only [Option.some.injEq, Prod.mk.injEq] at h
      obtain ⟨rfl, rfl, rfl, rfl, rfl, rfl, rfl, rfl, rfl, rfl⟩ := h
      exact exch6_ft A0_0 c0_0 l0_0 a1_0 a1_1 a1_2 a1_3 a1_4 a1_5 a1_6 a1_7 a1_8 a1_9 w hr0_0 h0 h1 hA h2 h3 hB
    | false =>
      rw [if_neg (by simp)] at h
      simp only [Option.some.injEq, Prod.mk.injEq] at h
      obtain ⟨rfl, rfl, rfl, rfl, rfl, rfl, rfl, rfl, rfl, rfl⟩ := h
      exact exch6_ff A0_0 c0_0 l0_0 a1_0 a1_1 a1_2 a1_3 a1_4 a1_5 a1_6 a1_7 a1_8 a1_9 w hr0_0 h0 h1 hA h2 h3 hB
set_option maxHeartbeats 8000000 in
set_option maxRecDepth 100000 in
theorem exch7_t (A0 : Option Addr) (c0 : Nat) (p : List Int) (a1_0 a1_1 a1_2 a1_3 a1_4 a1_5 a1_6 a1_7 a1_8 a1_9 : Int) (w : World) (hr : Kd.C (Kd.int .i64) w A0 p.length p) (h0 : 0 ≤ a1_7) (h1 : a1_7 < (p.length : Int)) (hA : impl_has.f (rd p a1_7) a1_8 = some true) :
    Calls Try.prog 80 #[.agg #[.slice A0 p.length c0], .agg #[.int .i64 a1_0, .int .i64 a1_1, .int .i64 a1_2, .int .i64 a1_3, .int .i64 a1_4, .int .i64 a1_5, .int .i64 a1_6, .int .i64 a1_7, .int .i64 a1_8, .int .i64 a1_9], .int .i64 7] w fun e w' => e = .returned (.agg #[.int .i64 a1_0, .int .i64 a1_1, .int .i64 a1_2, .int .i64 a1_3, .int .i64 a1_4, .int .i64 a1_5, .int .i64 a1_6, .int .i64 a1_7, .int .i64 a1_8, .int .i64 a1_9]) ∧ Below w.heap.size w w' := by
  have hu28 := Try.underlying34
  have hu58 := Try.underlying58
  have hwI : IntKind.i64.wrap (7 + 1) = 8 := by decide
  have hwJ : IntKind.i64.wrap 8 = 8 := by decide
  obtain ⟨ad, rfl, hc⟩ := Kd.at_int hr a1_7 h0 h1
  have hc3 := exch_keep hc
  have HA := Aside0.mk hA
  clear hA hr hc
  go_enter Try.func80, Try.ntmps80
  go_wp2_with (fail)
  go_quiet (fail)
  go_wp2_with (go_at_call 74; ((with_reducible refine (impl_has.calls (rd p a1_7) a1_8 _ _ HA.out).mono ?_); rintro e w' ⟨rfl, ⟨nd, rfl⟩⟩))
  refine bodyPost_ret (v := .agg #[.int .i64 a1_0, .int .i64 a1_1, .int .i64 a1_2, .int .i64 a1_3, .int .i64 a1_4, .int .i64 a1_5, .int .i64 a1_6, .int .i64 a1_7, .int .i64 a1_8, .int .i64 a1_9]) (by simp [results, Try.results80, go_sem]) rfl ⟨rfl, ?_⟩
  repeat (with_reducible first | exact Below.refl _ _ | refine below_set ?_ (by omega) | apply pw_below_drewN | apply below_drew1 | apply below_alloc)
set_option maxHeartbeats 8000000 in
set_option maxRecDepth 100000 in
theorem exch7_ft (A0 : Option Addr) (c0 : Nat) (p : List Int) (a1_0 a1_1 a1_2 a1_3 a1_4 a1_5 a1_6 a1_7 a1_8 a1_9 : Int) (w : World) (hr : Kd.C (Kd.int .i64) w A0 p.length p) (h0 : 0 ≤ a1_7) (h1 : a1_7 < (p.length : Int)) (hA : impl_has.f (rd p a1_7) a1_8 = some false) (h2 : 0 ≤ a1_8) (h3 : a1_8 < (p.length : Int)) (hB : impl_has.f (rd p a1_8) a1_7 = some true) :
    Calls Try.prog 80 #[.agg #[.slice A0 p.length c0], .agg #[.int .i64 a1_0, .int .i64 a1_1, .int .i64 a1_2, .int .i64 a1_3, .int .i64 a1_4, .int .i64 a1_5, .int .i64 a1_6, .int .i64 a1_7, .int .i64 a1_8, .int .i64 a1_9], .int .i64 7] w fun e w' => e = .returned (.agg #[.int .i64 a1_0, .int .i64 a1_1, .int .i64 a1_2, .int .i64 a1_3, .int .i64 a1_4, .int .i64 a1_5, .int .i64 a1_6, .int .i64 a1_7, .int .i64 a1_8, .int .i64 a1_9]) ∧ Below w.heap.size w w' := by
  have hu28 := Try.underlying34
  have hu58 := Try.underlying58
  have hwI : IntKind.i64.wrap (7 + 1) = 8 := by decide
  have hwJ : IntKind.i64.wrap 8 = 8 := by decide
  obtain ⟨ad, rfl, hc⟩ := Kd.at_int hr a1_7 h0 h1
  have hc3 := exch_keep hc
  have HA := Aside0.mk hA
  obtain ⟨ad', e', hc'⟩ := Kd.at_int hr a1_8 h2 h3
  cases e'
  have hc3' := exch_keep hc'
  have HB := Aside0.mk hB
  clear hA hB hr hc hc'
  go_enter Try.func80, Try.ntmps80
  go_wp2_with (fail)
  go_quiet (fail)
  go_wp2_with (go_at_call 74; first | ((with_reducible refine (impl_has.calls (rd p a1_7) a1_8 _ _ HA.out).mono ?_); rintro e w' ⟨rfl, ⟨nd, rfl⟩⟩) | ((with_reducible refine (impl_has.calls (rd p a1_8) a1_7 _ _ HB.out).mono ?_); rintro e w' ⟨rfl, ⟨nd, rfl⟩⟩))
  refine bodyPost_ret (v := .agg #[.int .i64 a1_0, .int .i64 a1_1, .int .i64 a1_2, .int .i64 a1_3, .int .i64 a1_4, .int .i64 a1_5, .int .i64 a1_6, .int .i64 a1_7, .int .i64 a1_8, .int .i64 a1_9]) (by simp [results, Try.results80, go_sem]) rfl ⟨rfl, ?_⟩
  repeat (with_reducible first | exact Below.refl _ _ | refine below_set ?_ (by omega) | apply pw_below_drewN | apply below_drew1 | apply below_alloc)
set_option maxHeartbeats 8000000 in
set_option maxRecDepth 100000 in
theorem exch7_ff (A0 : Option Addr) (c0 : Nat) (p : List Int) (a1_0 a1_1 a1_2 a1_3 a1_4 a1_5 a1_6 a1_7 a1_8 a1_9 : Int) (w : World) (hr : Kd.C (Kd.int .i64) w A0 p.length p) (h0 : 0 ≤ a1_7) (h1 : a1_7 < (p.length : Int)) (hA : impl_has.f (rd p a1_7) a1_8 = some false) (h2 : 0 ≤ a1_8) (h3 : a1_8 < (p.length : Int)) (hB : impl_has.f (rd p a1_8) a1_7 = some false) :
    Calls Try.prog 80 #[.agg #[.slice A0 p.length c0], .agg #[.int .i64 a1_0, .int .i64 a1_1, .int .i64 a1_2, .int .i64 a1_3, .int .i64 a1_4, .int .i64 a1_5, .int .i64 a1_6, .int .i64 a1_7, .int .i64 a1_8, .int .i64 a1_9], .int .i64 7] w fun e w' => e = .returned (.agg #[.int .i64 a1_0, .int .i64 a1_1, .int .i64 a1_2, .int .i64 a1_3, .int .i64 a1_4, .int .i64 a1_5, .int .i64 a1_6, .int .i64 a1_8, .int .i64 a1_7, .int .i64 a1_9]) ∧ Below w.heap.size w w' := by
  have hu28 := Try.underlying34
  have hu58 := Try.underlying58
  have hwI : IntKind.i64.wrap (7 + 1) = 8 := by decide
  have hwJ : IntKind.i64.wrap 8 = 8 := by decide
  obtain ⟨ad, rfl, hc⟩ := Kd.at_int hr a1_7 h0 h1
  have hc3 := exch_keep hc
  have HA := Aside0.mk hA
  obtain ⟨ad', e', hc'⟩ := Kd.at_int hr a1_8 h2 h3
  cases e'
  have hc3' := exch_keep hc'
  have HB := Aside0.mk hB
  clear hA hB hr hc hc'
  go_enter Try.func80, Try.ntmps80
  go_wp2_with (fail)
  go_quiet (fail)
  go_wp2_with (go_at_call 74; first | ((with_reducible refine (impl_has.calls (rd p a1_7) a1_8 _ _ HA.out).mono ?_); rintro e w' ⟨rfl, ⟨nd, rfl⟩⟩) | ((with_reducible refine (impl_has.calls (rd p a1_8) a1_7 _ _ HB.out).mono ?_); rintro e w' ⟨rfl, ⟨nd, rfl⟩⟩))
  refine bodyPost_ret (v := .agg #[.int .i64 a1_0, .int .i64 a1_1, .int .i64 a1_2, .int .i64 a1_3, .int .i64 a1_4, .int .i64 a1_5, .int .i64 a1_6, .int .i64 a1_8, .int .i64 a1_7, .int .i64 a1_9]) (by simp [results, Try.results80, go_sem]) rfl ⟨rfl, ?_⟩
  repeat (with_reducible first | exact Below.refl _ _ | refine below_set ?_ (by omega) | apply pw_below_drewN | apply below_drew1 | apply below_alloc)
def exchange7.f (l0_0 : List Int) (a1_0 a1_1 a1_2 a1_3 a1_4 a1_5 a1_6 a1_7 a1_8 a1_9 : Int) (a2 : Int) : Option (Int × Int × Int × Int × Int × Int × Int × Int × Int × Int) := if 0 ≤ a1_7 then (if a1_7 < (l0_0.length : Int) then ((impl_has.f (rd l0_0 a1_7) a1_8).bind fun t1 => (if t1 = true then (some (a1_0, a1_1, a1_2, a1_3, a1_4, a1_5, a1_6, a1_7, a1_8, a1_9)) else (if 0 ≤ a1_8 then (if a1_8 < (l0_0.length : Int) then ((impl_has.f (rd l0_0 a1_8) a1_7).bind fun t2 => (if t2 = true then (some (a1_0, a1_1, a1_2, a1_3, a1_4, a1_5, a1_6, a1_7, a1_8, a1_9)) else (some (a1_0, a1_1, a1_2, a1_3, a1_4, a1_5, a1_6, a1_8, a1_7, a1_9)))) else (none)) else (none)))) else (none)) else (none)
theorem exchange7.calls (A0_0 : Option Addr) (c0_0 : Nat) (l0_0 : List Int) (a1_0 a1_1 a1_2 a1_3 a1_4 a1_5 a1_6 a1_7 a1_8 a1_9 : Int) (a2 : Int) (r1 r2 r3 r4 r5 r6 r7 r8 r9 r10 : Int) (w : World) (hr0_0 : Kd.C (Kd.int .i64) w A0_0 l0_0.length l0_0) (h : exchange7.f l0_0 a1_0 a1_1 a1_2 a1_3 a1_4 a1_5 a1_6 a1_7 a1_8 a1_9 a2 = some (r1, r2, r3, r4, r5, r6, r7, r8, r9, r10)) :
    Calls Try.prog 80 #[.agg #[.slice A0_0 l0_0.length c0_0], .agg #[.int .i64 a1_0, .int .i64 a1_1, .int .i64 a1_2, .int .i64 a1_3, .int .i64 a1_4, .int .i64 a1_5, .int .i64 a1_6, .int .i64 a1_7, .int .i64 a1_8, .int .i64 a1_9], .int .i64 7] w fun e w' => e = .returned (.agg #[.int .i64 r1, .int .i64 r2, .int .i64 r3, .int .i64 r4, .int .i64 r5, .int .i64 r6, .int .i64 r7, .int .i64 r8, .int .i64 r9, .int .i64 r10]) ∧ Below w.heap.size w w' := by
  unfold exchange7.f at h
  by_cases h0 : 0 ≤ a1_7
  rotate_left
  · rw [if_neg h0] at h; cases h
  by_cases h1 : a1_7 < (l0_0.length : Int)
  rotate_left
  · rw [if_pos h0, if_neg h1] at h; cases h
  rw [if_pos h0, if_pos h1] at h
  obtain ⟨t1, hA, h⟩ := Option.bind_eq_some_iff.1 h
  cases t1 with
  | true =>
    rw [if_pos rfl] at h
    simp only [Option.some.injEq, Prod.mk.injEq] at h
    obtain ⟨rfl, rfl, rfl, rfl, rfl, rfl, rfl, rfl, rfl, rfl⟩ := h
    exact exch7_t A0_0 c0_0 l0_0 a1_0 a1_1 a1_2 a1_3 a1_4 a1_5 a1_6 a1_7 a1_8 a1_9 w hr0_0 h0 h1 hA
  | false =>
    rw [if_neg (by simp)] at h
    by_cases h2 : 0 ≤ a1_8
    rotate_left
    · rw [if_neg h2] at h; cases h
    by_cases h3 : a1_8 < (l0_0.length : Int)
    rotate_left
    · rw [if_pos h2, if_neg h3] at h; cases h
    rw [if_pos h2, if_pos h3] at h
    obtain ⟨t2, hB, h⟩ := Option.bind_eq_some_iff.1 h
    cases t2 with
    | true =>
      rw [if_pos rfl] at h
      simp only [Option.some.injEq, Prod.mk.injEq] at h
      obtain ⟨rfl, rfl, rfl, rfl, rfl, rfl, rfl, rfl, rfl, rfl⟩ := h
      exact exch7_ft A0_0 c0_0 l0_0 a1_0 a1_1 a1_2 a1_3 a1_4 a1_5 a1_6 a1_7 a1_8 a1_9 w hr0_0 h0 h1 hA h2 h3 hB
    | false =>
      rw [if_neg (by simp)] at h
      simp only [Option.some.injEq, Prod.mk.injEq] at h
      obtain ⟨rfl, rfl, rfl, rfl, rfl, rfl, rfl, rfl, rfl, rfl⟩ := h
      exact exch7_ff A0_0 c0_0 l0_0 a1_0 a1_1 a1_2 a1_3 a1_4 a1_5 a1_6 a1_7 a1_8 a1_9 w hr0_0 h0 h1 hA h2 h3 hB
set_option maxHeartbeats 8000000 in
set_option maxRecDepth 100000 in
theorem exch8_t (A0 : Option Addr) (c0 : Nat) (p : List Int) (a1_0 a1_1 a1_2 a1_3 a1_4 a1_5 a1_6 a1_7 a1_8 a1_9 : Int) (w : World) (hr : Kd.C (Kd.int .i64) w A0 p.length p) (h0 : 0 ≤ a1_8) (h1 : a1_8 < (p.length : Int)) (hA : impl_has.f (rd p a1_8) a1_9 = some true) :
    Calls Try.prog 80 #[.agg #[.slice A0 p.length c0], .agg #[.int .i64 a1_0, .int .i64 a1_1, .int .i64 a1_2, .int .i64 a1_3, .int .i64 a1_4, .int .i64 a1_5, .int .i64 a1_6, .int .i64 a1_7, .int .i64 a1_8, .int .i64 a1_9], .int .i64 8] w fun e w' => e = .returned (.agg #[.int .i64 a1_0, .int .i64 a1_1, .int .i64 a1_2, .int .i64 a1_3, .int .i64 a1_4, .int .i64 a1_5, .int .i64 a1_6, .int .i64 a1_7, .int .i64 a1_8, .int .i64 a1_9]) ∧ Below w.heap.size w w' := by
  have hu28 := Try.underlying34
  have hu58 := Try.underlying58
  have hwI : IntKind.i64.wrap (8 + 1) = 9 := by decide
  have hwJ : IntKind.i64.wrap 9 = 9 := by decide
  obtain ⟨ad, rfl, hc⟩ := Kd.at_int hr a1_8 h0 h1
  have hc3 := exch_keep hc
  have HA := Aside0.mk hA
  clear hA hr hc
  go_enter Try.func80, Try.ntmps80
  go_wp2_with (fail)
  go_quiet (fail)
  go_wp2_with (go_at_call 74; ((with_reducible refine (impl_has.calls (rd p a1_8) a1_9 _ _ HA.out).mono ?_); rintro e w' ⟨rfl, ⟨nd, rfl⟩⟩))
  refine bodyPost_ret (v := .agg #[.int .i64 a1_0, .int .i64 a1_1, .int .i64 a1_2, .int .i64 a1_3, .int .i64 a1_4, .int .i64 a1_5, .int .i64 a1_6, .int .i64 a1_7, .int .i64 a1_8, .int .i64 a1_9]) (by simp [results, Try.results80, go_sem]) rfl ⟨rfl, ?_⟩
  repeat (with_reducible first | exact Below.refl _ _ | refine below_set ?_ (by omega) | apply pw_below_drewN | apply below_drew1 | apply below_alloc)
set_option maxHeartbeats 8000000 in
set_option maxRecDepth 100000 in
theorem exch8_ft (A0 : Option Addr) (c0 : Nat) (p : List Int) (a1_0 a1_1 a1_2 a1_3 a1_4 a1_5 a1_6 a1_7 a1_8 a1_9 : Int) (w : World) (hr : Kd.C (Kd.int .i64) w A0 p.length p) (h0 : 0 ≤ a1_8) (h1 : a1_8 < (p.length : Int)) (hA : impl_has.f (rd p a1_8) a1_9 = some false) (h2 : 0 ≤ a1_9) (h3 : a1_9 < (p.length : Int)) (hB : impl_has.f (rd p a1_9) a1_8 = some true) :
    Calls Try.prog 80 #[.agg #[.slice A0 p.length c0], .agg #[.int .i64 a1_0, .int .i64 a1_1, .int .i64 a1_2, .int .i64 a1_3, .int .i64 a1_4, .int .i64 a1_5, .int .i64 a1_6, .int .i64 a1_7, .int .i64 a1_8, .int .i64 a1_9], .int .i64 8] w fun e w' => e = .returned (.agg #[.int .i64 a1_0, .int .i64 a1_1, .int .i64 a1_2, .int .i64 a1_3, .int .i64 a1_4, .int .i64 a1_5, .int .i64 a1_6, .int .i64 a1_7, .int .i64 a1_8, .int .i64 a1_9]) ∧ Below w.heap.size w w' := by
  have hu28 := Try.underlying34
  have hu58 := Try.underlying58
  have hwI : IntKind.i64.wrap (8 + 1) = 9 := by decide
  have hwJ : IntKind.i64.wrap 9 = 9 := by decide
  obtain ⟨ad, rfl, hc⟩ := Kd.at_int hr a1_8 h0 h1
  have hc3 := exch_keep hc
  have HA := Aside0.mk hA
  obtain ⟨ad', e', hc'⟩ := Kd.at_int hr a1_9 h2 h3
  cases e'
  have hc3' := exch_keep hc'
  have HB := Aside0.mk hB
  clear hA hB hr hc hc'
  go_enter Try.func80, Try.ntmps80
  go_wp2_with (fail)
  go_quiet (fail)
  go_wp2_with (go_at_call 74; first | ((with_reducible refine (impl_has.calls (rd p a1_8) a1_9 _ _ HA.out).mono ?_); rintro e w' ⟨rfl, ⟨nd, rfl⟩⟩) | ((with_reducible refine (impl_has.calls (rd p a1_9) a1_8 _ _ HB.out).mono ?_); rintro e w' ⟨rfl, ⟨nd, rfl⟩⟩))
  refine bodyPost_ret (v := .agg #[.int .i64 a1_0, .int .i64 a1_1, .int .i64 a1_2, .int .i64 a1_3, .int .i64 a1_4, .int .i64 a1_5, .int .i64 a1_6, .int .i64 a1_7, .int .i64 a1_8, .int .i64 a1_9]) (by simp [results, Try.results80, go_sem]) rfl ⟨rfl, ?_⟩
  repeat (with_reducible first | exact Below.refl _ _ | refine below_set ?_ (by omega) | apply pw_below_drewN | apply below_drew1 | apply below_alloc)
set_option maxHeartbeats 8000000 in
set_option maxRecDepth 100000 in
theorem exch8_ff (A0 : Option Addr) (c0 : Nat) (p : List Int) (a1_0 a1_1 a1_2 a1_3 a1_4 a1_5 a1_6 a1_7 a1_8 a1_9 : Int) (w : World) (hr : Kd.C (Kd.int .i64) w A0 p.length p) (h0 : 0 ≤ a1_8) (h1 : a1_8 < (p.length : Int)) (hA : impl_has.f (rd p a1_8) a1_9 = some false) (h2 : 0 ≤ a1_9) (h3 : a1_9 < (p.length : Int)) (hB : impl_has.f (rd p a1_9) a1_8 = some false) :
    Calls Try.prog 80 #[.agg #[.slice A0 p.length c0], .agg #[.int .i64 a1_0, .int .i64 a1_1, .int .i64 a1_2, .int .i64 a1_3, .int .i64 a1_4, .int .i64 a1_5, .int .i64 a1_6, .int .i64 a1_7, .int .i64 a1_8, .int .i64 a1_9], .int .i64 8] w fun e w' => e = .returned (.agg #[.int .i64 a1_0, .int .i64 a1_1, .int .i64 a1_2, .int .i64 a1_3, .int .i64 a1_4, .int .i64 a1_5, .int .i64 a1_6, .int .i64 a1_7, .int .i64 a1_9, .int .i64 a1_8]) ∧ Below w.heap.size w w' := by
  have hu28 := Try.underlying34
  have hu58 := Try.underlying58
  have hwI : IntKind.i64.wrap (8 + 1) = 9 := by decide
  have hwJ : IntKind.i64.wrap 9 = 9 := by decide
  obtain ⟨ad, rfl, hc⟩ := Kd.at_int hr a1_8 h0 h1
  have hc3 := exch_keep hc
  have HA := Aside0.mk hA
  obtain ⟨ad', e', hc'⟩ := Kd.at_int hr a1_9 h2 h3
  cases e'
  have hc3' := exch_keep hc'
  have HB := Aside0.mk hB
  clear hA hB hr hc hc'
  go_enter Try.func80, Try.ntmps80
  go_wp2_with (fail)
  go_quiet (fail)
  go_wp2_with (go_at_call 74; first | ((with_reducible refine (impl_has.calls (rd p a1_8) a1_9 _ _ HA.out).mono ?_); rintro e w' ⟨rfl, ⟨nd, rfl⟩⟩) | ((with_reducible refine (impl_has.calls (rd p a1_9) a1_8 _ _ HB.out).mono ?_); rintro e w' ⟨rfl, ⟨nd, rfl⟩⟩))
  refine bodyPost_ret (v := .agg #[.int .i64 a1_0, .int .i64 a1_1, .int .i64 a1_2, .int .i64 a1_3, .int .i64 a1_4, .int .i64 a1_5, .int .i64 a1_6, .int .i64 a1_7, .int .i64 a1_9, .int .i64 a1_8]) (by simp [results, Try.results80, go_sem]) rfl ⟨rfl, ?_⟩
  repeat (with_reducible first | exact Below.refl _ _ | refine below_set ?_ (by omega) | apply pw_below_drewN | apply below_drew1 | apply below_alloc)
def exchange8.f (l0_0 : List Int) (a1_0 a1_1 a1_2 a1_3 a1_4 a1_5 a1_6 a1_7 a1_8 a1_9 : Int) (a2 : Int) : Option (Int × Int × Int × Int × Int × Int × Int × Int × Int × Int) := if 0 ≤ a1_8 then (if a1_8 < (l0_0.length : Int) then ((impl_has.f (rd l0_0 a1_8) a1_9).bind fun t1 => (if t1 = true then (some (a1_0, a1_1, a1_2, a1_3, a1_4, a1_5, a1_6, a1_7, a1_8, a1_9)) else (if 0 ≤ a1_9 then (if a1_9 < (l0_0.length : Int) then ((impl_has.f (rd l0_0 a1_9) a1_8).bind fun t2 => (if t2 = true then (some (a1_0, a1_1, a1_2, a1_3, a1_4, a1_5, a1_6, a1_7, a1_8, a1_9)) else (some (a1_0, a1_1, a1_2, a1_3, a1_4, a1_5, a1_6, a1_7, a1_9, a1_8)))) else (none)) else (none)))) else (none)) else (none)
theorem exchange8.calls (A0_0 : Option Addr) (c0_0 : Nat) (l0_0 : List Int) (a1_0 a1_1 a1_2 a1_3 a1_4 a1_5 a1_6 a1_7 a1_8 a1_9 : Int) (a2 : Int) (r1 r2 r3 r4 r5 r6 r7 r8 r9 r10 : Int) (w : World) (hr0_0 : Kd.C (Kd.int .i64) w A0_0 l0_0.length l0_0) (h : exchange8.f l0_0 a1_0 a1_1 a1_2 a1_3 a1_4 a1_5 a1_6 a1_7 a1_8 a1_9 a2 = some (r1, r2, r3, r4, r5, r6, r7, r8, r9, r10)) :
    Calls Try.prog 80 #[.agg #[.slice A0_0 l0_0.length c0_0], .agg #[.int .i64 a1_0, .int .i64 a1_1, .int .i64 a1_2, .int .i64 a1_3, .int .i64 a1_4, .int .i64 a1_5, .int .i64 a1_6, .int .i64 a1_7, .int .i64 a1_8, .int .i64 a1_9], .int .i64 8] w fun e w' => e = .returned (.agg #[.int .i64 r1, .int .i64 r2, .int .i64 r3, .int .i64 r4, .int .i64 r5, .int .i64 r6, .int .i64 r7, .int .i64 r8, .int .i64 r9, .int .i64 r10]) ∧ Below w.heap.size w w' := by
  unfold exchange8.f at h
  by_cases h0 : 0 ≤ a1_8
  rotate_left
  · rw [if_neg h0] at h; cases h
  by_cases h1 : a1_8 < (l0_0.length : Int)
  rotate_left
  · rw [if_pos h0, if_neg h1] at h; cases h
  rw [if_pos h0, if_pos h1] at h
  obtain ⟨t1, hA, h⟩ := Option.bind_eq_some_iff.1 h
  cases t1 with
  | true =>
    rw [if_pos rfl] at h
    simp only [Option.some.injEq, Prod.mk.injEq] at h
    obtain ⟨rfl, rfl, rfl, rfl, rfl, rfl, rfl, rfl, rfl, rfl⟩ := h
    exact exch8_t A0_0 c0_0 l0_0 a1_0 a1_1 a1_2 a1_3 a1_4 a1_5 a1_6 a1_7 a1_8 a1_9 w hr0_0 h0 h1 hA
  | false =>
    rw [if_neg (by simp)] at h
    by_cases h2 : 0 ≤ a1_9
    rotate_left
    · rw [if_neg h2] at h; cases h
    by_cases h3 : a1_9 < (l0_0.length : Int)
    rotate_left
    · rw [if_pos h2, if_neg h3] at h; cases h
    rw [if_pos h2, if_pos h3] at h
    obtain ⟨t2, hB, h⟩ := Option.bind_eq_some_iff.1 h
    cases t2 with
    | true =>
      rw [if_pos rfl] at h
      simp only [Option.some.injEq, Prod.mk.injEq] at h
      obtain ⟨rfl, rfl, rfl, rfl, rfl, rfl, rfl, rfl, rfl, rfl⟩ := h
      exact exch8_ft A0_0 c0_0 l0_0 a1_0 a1_1 a1_2 a1_3 a1_4 a1_5 a1_6 a1_7 a1_8 a1_9 w hr0_0 h0 h1 hA h2 h3 hB
    | false =>
      rw [if_neg (by simp)] at h
      simp only [Option.some.injEq, Prod.mk.injEq] at h
      obtain ⟨rfl, rfl, rfl, rfl, rfl, rfl, rfl, rfl, rfl, rfl⟩ := h
      exact exch8_ff A0_0 c0_0 l0_0 a1_0 a1_1 a1_2 a1_3 a1_4 a1_5 a1_6 a1_7 a1_8 a1_9 w hr0_0 h0 h1 hA h2 h3 hB
def impl_Poset_exchange.f (l0_0 : List Int) (a1_0 a1_1 a1_2 a1_3 a1_4 a1_5 a1_6 a1_7 a1_8 a1_9 : Int) (a2 : Int) : Option (Int × Int × Int × Int × Int × Int × Int × Int × Int × Int) := if a2 = 0 then exchange0.f l0_0 a1_0 a1_1 a1_2 a1_3 a1_4 a1_5 a1_6 a1_7 a1_8 a1_9 a2 else if a2 = 1 then exchange1.f l0_0 a1_0 a1_1 a1_2 a1_3 a1_4 a1_5 a1_6 a1_7 a1_8 a1_9 a2 else if a2 = 2 then exchange2.f l0_0 a1_0 a1_1 a1_2 a1_3 a1_4 a1_5 a1_6 a1_7 a1_8 a1_9 a2 else if a2 = 3 then exchange3.f l0_0 a1_0 a1_1 a1_2 a1_3 a1_4 a1_5 a1_6 a1_7 a1_8 a1_9 a2 else if a2 = 4 then exchange4.f l0_0 a1_0 a1_1 a1_2 a1_3 a1_4 a1_5 a1_6 a1_7 a1_8 a1_9 a2 else if a2 = 5 then exchange5.f l0_0 a1_0 a1_1 a1_2 a1_3 a1_4 a1_5 a1_6 a1_7 a1_8 a1_9 a2 else if a2 = 6 then exchange6.f l0_0 a1_0 a1_1 a1_2 a1_3 a1_4 a1_5 a1_6 a1_7 a1_8 a1_9 a2 else if a2 = 7 then exchange7.f l0_0 a1_0 a1_1 a1_2 a1_3 a1_4 a1_5 a1_6 a1_7 a1_8 a1_9 a2 else if a2 = 8 then exchange8.f l0_0 a1_0 a1_1 a1_2 a1_3 a1_4 a1_5 a1_6 a1_7 a1_8 a1_9 a2 else none
theorem impl_Poset_exchange.calls (A0_0 : Option Addr) (c0_0 : Nat) (l0_0 : List Int) (a1_0 a1_1 a1_2 a1_3 a1_4 a1_5 a1_6 a1_7 a1_8 a1_9 : Int) (a2 : Int) (r1 r2 r3 r4 r5 r6 r7 r8 r9 r10 : Int) (w : World) (hr0_0 : Kd.C (Kd.int .i64) w A0_0 l0_0.length l0_0) (hc0_0 : l0_0.length ≤ c0_0) (h : impl_Poset_exchange.f l0_0 a1_0 a1_1 a1_2 a1_3 a1_4 a1_5 a1_6 a1_7 a1_8 a1_9 a2 = some (r1, r2, r3, r4, r5, r6, r7, r8, r9, r10)) :
    Calls Try.prog 80 #[.agg #[.slice A0_0 l0_0.length c0_0], .agg #[.int .i64 a1_0, .int .i64 a1_1, .int .i64 a1_2, .int .i64 a1_3, .int .i64 a1_4, .int .i64 a1_5, .int .i64 a1_6, .int .i64 a1_7, .int .i64 a1_8, .int .i64 a1_9], .int .i64 a2] w fun e w' => e = .returned (.agg #[.int .i64 r1, .int .i64 r2, .int .i64 r3, .int .i64 r4, .int .i64 r5, .int .i64 r6, .int .i64 r7, .int .i64 r8, .int .i64 r9, .int .i64 r10]) ∧ Below w.heap.size w w' := by
  unfold impl_Poset_exchange.f at h
  by_cases h0 : a2 = 0
  · rw [if_pos h0] at h
    subst h0
    exact exchange0.calls A0_0 c0_0 l0_0 a1_0 a1_1 a1_2 a1_3 a1_4 a1_5 a1_6 a1_7 a1_8 a1_9 0 r1 r2 r3 r4 r5 r6 r7 r8 r9 r10 w hr0_0 h
  rw [if_neg h0] at h
  by_cases h1 : a2 = 1
  · rw [if_pos h1] at h
    subst h1
    exact exchange1.calls A0_0 c0_0 l0_0 a1_0 a1_1 a1_2 a1_3 a1_4 a1_5 a1_6 a1_7 a1_8 a1_9 1 r1 r2 r3 r4 r5 r6 r7 r8 r9 r10 w hr0_0 h
  rw [if_neg h1] at h
  by_cases h2 : a2 = 2
  · rw [if_pos h2] at h
    subst h2
    exact exchange2.calls A0_0 c0_0 l0_0 a1_0 a1_1 a1_2 a1_3 a1_4 a1_5 a1_6 a1_7 a1_8 a1_9 2 r1 r2 r3 r4 r5 r6 r7 r8 r9 r10 w hr0_0 h
  rw [if_neg h2] at h
  by_cases h3 : a2 = 3
  · rw [if_pos h3] at h
    subst h3
    exact exchange3.calls A0_0 c0_0 l0_0 a1_0 a1_1 a1_2 a1_3 a1_4 a1_5 a1_6 a1_7 a1_8 a1_9 3 r1 r2 r3 r4 r5 r6 r7 r8 r9 r10 w hr0_0 h
  rw [if_neg h3] at h
  by_cases h4 : a2 = 4
  · rw [if_pos h4] at h
    subst h4
    exact exchange4.calls A0_0 c0_0 l0_0 a1_0 a1_1 a1_2 a1_3 a1_4 a1_5 a1_6 a1_7 a1_8 a1_9 4 r1 r2 r3 r4 r5 r6 r7 r8 r9 r10 w hr0_0 h
  rw [if_neg h4] at h
  by_cases h5 : a2 = 5
  · rw [if_pos h5] at h
    subst h5
    exact exchange5.calls A0_0 c0_0 l0_0 a1_0 a1_1 a1_2 a1_3 a1_4 a1_5 a1_6 a1_7 a1_8 a1_9 5 r1 r2 r3 r4 r5 r6 r7 r8 r9 r10 w hr0_0 h
  rw [if_neg h5] at h
  by_cases h6 : a2 = 6
  · rw [if_pos h6] at h
    subst h6
    exact exchange6.calls A0_0 c0_0 l0_0 a1_0 a1_1 a1_2 a1_3 a1_4 a1_5 a1_6 a1_7 a1_8 a1_9 6 r1 r2 r3 r4 r5 r6 r7 r8 r9 r10 w hr0_0 h
  rw [if_neg h6] at h
  by_cases h7 : a2 = 7
  · rw [if_pos h7] at h
    subst h7
    exact exchange7.calls A0_0 c0_0 l0_0 a1_0 a1_1 a1_2 a1_3 a1_4 a1_5 a1_6 a1_7 a1_8 a1_9 7 r1 r2 r3 r4 r5 r6 r7 r8 r9 r10 w hr0_0 h
  rw [if_neg h7] at h
  by_cases h8 : a2 = 8
  · rw [if_pos h8] at h
    subst h8
    exact exchange8.calls A0_0 c0_0 l0_0 a1_0 a1_1 a1_2 a1_3 a1_4 a1_5 a1_6 a1_7 a1_8 a1_9 8 r1 r2 r3 r4 r5 r6 r7 r8 r9 r10 w hr0_0 h
  rw [if_neg h8] at h
  cases h
end Go.Proofs.Ytnihjpnheooeoaa.F
end

section
namespace Go.Proofs.Ytnihjpnheooeoaa.F
open Go.RowKit Go.Proofs.YtnihjpnheooeoaaW.PrintWords Go.Proofs.YtnihjpnheooeoaaW.PrintLast Go.Proofs.YtnihjpnheooeoaaW.PrintMore
attribute [local go_sem] max2_int min2_int max_two min_two max_three min_three max_four min_four
set_option linter.unusedVariables false
set_option linter.unusedSimpArgs false

/-! ### impl_Poset_promoted: function 63 -/
def impl_Poset_promoted.l0 : Nat → Int → Int → List Int → Int → Int → Int → Int → Int → Int → Int → Int → Int → Int → Option (Int × Int × Int × Int × Int × Int × Int × Int × Int × Int)
  | 0, _, _, _, _, _, _, _, _, _, _, _, _, _ => none
  | k + 1, x8, x9, x103000, x104000, x104001, x104002, x104003, x104004, x104005, x104006, x104007, x104008, x104009 => if x9 < x8 then ((impl_Poset_exchange.f x103000 x104000 x104001 x104002 x104003 x104004 x104005 x104006 x104007 x104008 x104009 x9).bind fun bt106 => (impl_Poset_promoted.l0 k x8 (wrap64 (x9 + 1)) x103000 bt106.1 bt106.2.1 bt106.2.2.1 bt106.2.2.2.1 bt106.2.2.2.2.1 bt106.2.2.2.2.2.1 bt106.2.2.2.2.2.2.1 bt106.2.2.2.2.2.2.2.1 bt106.2.2.2.2.2.2.2.2.1 bt106.2.2.2.2.2.2.2.2.2)) else (some (x104000, x104001, x104002, x104003, x104004, x104005, x104006, x104007, x104008, x104009))
def impl_Poset_promoted.f (k : Nat) (l0_0 : List Int) (a1_0 : Int) (a1_1 : Int) (a1_2 : Int) (a1_3 : Int) (a1_4 : Int) (a1_5 : Int) (a1_6 : Int) (a1_7 : Int) (a1_8 : Int) (a1_9 : Int) : Option (Int × Int × Int × Int × Int × Int × Int × Int × Int × Int) := (impl_Poset_n.f l0_0).bind fun t105 => (impl_Poset_promoted.l0 k (wrap64 (t105 - 1)) 0 l0_0 a1_0 a1_1 a1_2 a1_3 a1_4 a1_5 a1_6 a1_7 a1_8 a1_9)
theorem impl_Poset_promoted.mono_l : ∀ k, (∀ y0 y1 y2 y3 y4 y5 y6 y7 y8 y9 y10 y11 y12, LeO (impl_Poset_promoted.l0 k y0 y1 y2 y3 y4 y5 y6 y7 y8 y9 y10 y11 y12) (impl_Poset_promoted.l0 (k + 1) y0 y1 y2 y3 y4 y5 y6 y7 y8 y9 y10 y11 y12))
  | 0 => fun _ _ _ _ _ _ _ _ _ _ _ _ _ r h => by simp [impl_Poset_promoted.l0] at h
  | k + 1 => by
    have ih0 := impl_Poset_promoted.mono_l k
    · intro y0 y1 y2 y3 y4 y5 y6 y7 y8 y9 y10 y11 y12
      unfold impl_Poset_promoted.l0
      repeat' first
      | (with_reducible exact ih0 _ _ _ _ _ _ _ _ _ _ _ _ _)
      | (with_reducible exact LeO.refl _)
      | (with_reducible exact LeO.none _)
      | (with_reducible refine LeO.ite ?_ ?_)
      | (with_reducible refine LeO.bind ?_ (fun _ => ?_))
      | exact ih0 _ _ _ _ _ _ _ _ _ _ _ _ _
      | exact LeO.none _
      | refine LeO.ite ?_ ?_
      | refine LeO.bind ?_ (fun _ => ?_)
theorem impl_Poset_promoted.mono : ∀ a0 a1 a2 a3 a4 a5 a6 a7 a8 a9 a10 k, LeO (impl_Poset_promoted.f k a0 a1 a2 a3 a4 a5 a6 a7 a8 a9 a10) (impl_Poset_promoted.f (k + 1) a0 a1 a2 a3 a4 a5 a6 a7 a8 a9 a10) := by
  intro a0 a1 a2 a3 a4 a5 a6 a7 a8 a9 a10 k
  have ih0 := impl_Poset_promoted.mono_l k
  unfold impl_Poset_promoted.f
  repeat' first
      | (with_reducible exact ih0 _ _ _ _ _ _ _ _ _ _ _ _ _)
      | (with_reducible exact LeO.refl _)
      | (with_reducible exact LeO.none _)
      | (with_reducible refine LeO.ite ?_ ?_)
      | (with_reducible refine LeO.bind ?_ (fun _ => ?_))
      | exact ih0 _ _ _ _ _ _ _ _ _ _ _ _ _
      | exact LeO.none _
      | refine LeO.ite ?_ ?_
      | refine LeO.bind ?_ (fun _ => ?_)
set_option maxHeartbeats 8000000 in
set_option maxRecDepth 100000 in
theorem impl_Poset_promoted.calls (k : Nat) (A0_0 : Option Addr) (c0_0 : Nat) (l0_0 : List Int) (a1_0 : Int) (a1_1 : Int) (a1_2 : Int) (a1_3 : Int) (a1_4 : Int) (a1_5 : Int) (a1_6 : Int) (a1_7 : Int) (a1_8 : Int) (a1_9 : Int) (r1 : Int) (r2 : Int) (r3 : Int) (r4 : Int) (r5 : Int) (r6 : Int) (r7 : Int) (r8 : Int) (r9 : Int) (r10 : Int) (w : World) (hr0_0 : Kd.C (Kd.int .i64) w A0_0 l0_0.length l0_0) (hc0_0 : l0_0.length ≤ c0_0) (h : impl_Poset_promoted.f k l0_0 a1_0 a1_1 a1_2 a1_3 a1_4 a1_5 a1_6 a1_7 a1_8 a1_9 = some (r1, r2, r3, r4, r5, r6, r7, r8, r9, r10)) :
    Calls Try.prog 63 #[.agg #[.slice A0_0 l0_0.length c0_0], .agg #[.int .i64 a1_0, .int .i64 a1_1, .int .i64 a1_2, .int .i64 a1_3, .int .i64 a1_4, .int .i64 a1_5, .int .i64 a1_6, .int .i64 a1_7, .int .i64 a1_8, .int .i64 a1_9]] w fun e w' => e = .returned (.agg #[.int .i64 r1, .int .i64 r2, .int .i64 r3, .int .i64 r4, .int .i64 r5, .int .i64 r6, .int .i64 r7, .int .i64 r8, .int .i64 r9, .int .i64 r10]) ∧ Below w.heap.size w w' := by
  have hu34 := Try.underlying34
  have hu58 := Try.underlying58
  have HR0_0 := Aside0.mk hr0_0
  have HC0_0 := Aside0.mk hc0_0
  clear hr0_0 hc0_0
  have HB := Aside0.mk (Below.refl w.heap.size w)
  have H : ((impl_Poset_n.f l0_0).bind fun t105 => (impl_Poset_promoted.l0 k (wrap64 (t105 - 1)) 0 l0_0 a1_0 a1_1 a1_2 a1_3 a1_4 a1_5 a1_6 a1_7 a1_8 a1_9)) = some (r1, r2, r3, r4, r5, r6, r7, r8, r9, r10) := h
  clear h
  replace H := Option.bind_eq_some_iff.mp H
  obtain ⟨t105, A30, H⟩ := H
  replace H : (impl_Poset_promoted.l0 k (wrap64 (t105 - 1)) 0 l0_0 a1_0 a1_1 a1_2 a1_3 a1_4 a1_5 a1_6 a1_7 a1_8 a1_9) = some (r1, r2, r3, r4, r5, r6, r7, r8, r9, r10) := H
  have A3 := Aside0.mk A30
  clear A30
  have H' := Aside0.mk H
  clear H
  go_enter Try.func63, Try.ntmps63
  go_wp2_with (first | ((with_reducible refine gate_dst (N := 2) rfl ?_); refine box_event ?hg (N := 2) ?hd (cs := #[.slice A0_0 l0_0.length c0_0]) (t := 34) ?hr ?_; (case hd => rfl); (case hg => rfl); (case hr => first | (go_simp; done) | (go_simp; rfl)); intro gb102 hg w4 hbox hb; have n0_ := Aside0.mk (below_step (by repeat (first | (with_reducible first | exact HB.out | apply below_alloc | apply pw_below_drewN | apply below_drew1) | exact HB.out)) hb); have n1_ := Aside0.mk (hbox); have n2_ := Aside0.mk ((by rw [hg]; exact (below_size (by repeat (first | (with_reducible first | exact HB.out | apply below_alloc | apply pw_below_drewN | apply below_drew1) | exact HB.out))) : w.heap.size ≤ gb102)); have n3_ := Aside0.mk ((by rw [hg]; exact (below_size (by repeat (first | (with_reducible first | exact HB.out | apply below_alloc | apply pw_below_drewN | apply below_drew1) | exact HB.out))) : w.heap.size ≤ gb102)); clear HB; have HB := n0_; have BK102 := n1_; have GW102 := n2_; have GE102 := n3_; clear n0_ n1_ n2_ n3_; clear hb hbox hg) | ((with_reducible refine gate_dst (N := 3) rfl ?_); refine box_event ?hg (N := 3) ?hd (cs := #[.int .i64 a1_0, .int .i64 a1_1, .int .i64 a1_2, .int .i64 a1_3, .int .i64 a1_4, .int .i64 a1_5, .int .i64 a1_6, .int .i64 a1_7, .int .i64 a1_8, .int .i64 a1_9]) (t := 58) ?hr ?_; (case hd => rfl); (case hg => rfl); (case hr => first | (go_simp; done) | (go_simp; rfl)); intro gb103 hg w5 hbox hb; have n0_ := Aside0.mk (blk_below (g := gb102) (o := .cells #[.slice A0_0 l0_0.length c0_0] 34 (0, 0)) (by (with_reducible repeat (first | refine blk_drewN ?_ _ | refine blk_drew ?_ | refine blk_alloc ?_ _)); exact BK102.out) hb); have n1_ := Aside0.mk (below_step (by repeat (first | (with_reducible first | exact HB.out | apply below_alloc | apply pw_below_drewN | apply below_drew1 | refine below_set ?_ GE102.out) | exact HB.out)) hb); have n2_ := Aside0.mk (hbox); have n3_ := Aside0.mk ((by rw [hg]; exact (below_size (by repeat (first | (with_reducible first | exact HB.out | apply below_alloc | apply pw_below_drewN | apply below_drew1 | refine below_set ?_ GE102.out) | exact HB.out))) : w.heap.size ≤ gb103)); have n4_ := Aside0.mk ((by rw [hg]; exact (below_size (by repeat (first | (with_reducible first | exact HB.out | apply below_alloc | apply pw_below_drewN | apply below_drew1 | refine below_set ?_ GE102.out) | exact HB.out))) : w.heap.size ≤ gb103)); have n5_ := Aside0.mk ((by rw [hg]; exact Nat.ne_of_lt (blk_lt (g := gb102) (o := .cells #[.slice A0_0 l0_0.length c0_0] 34 (0, 0)) (by (with_reducible repeat (first | refine blk_drewN ?_ _ | refine blk_drew ?_ | refine blk_alloc ?_ _)); exact BK102.out)) : gb102 ≠ gb103)); have n6_ := Aside0.mk ((by rw [hg]; exact Nat.ne_of_gt (blk_lt (g := gb102) (o := .cells #[.slice A0_0 l0_0.length c0_0] 34 (0, 0)) (by (with_reducible repeat (first | refine blk_drewN ?_ _ | refine blk_drew ?_ | refine blk_alloc ?_ _)); exact BK102.out)) : gb103 ≠ gb102)); clear BK102; clear HB; have BK102 := n0_; have HB := n1_; have BK103 := n2_; have GW103 := n3_; have GE103 := n4_; have NB102_103 := n5_; have NB103_102 := n6_; clear n0_ n1_ n2_ n3_ n4_ n5_ n6_; clear hb hbox hg) | ((with_reducible refine gate_dst (N := 4) rfl ?_); refine box_event ?hg (N := 4) ?hd (cs := #[.int .i64 0, .int .i64 0, .int .i64 0, .int .i64 0, .int .i64 0, .int .i64 0, .int .i64 0, .int .i64 0, .int .i64 0, .int .i64 0]) (t := 58) ?hr ?_; (case hd => rfl); (case hg => rfl); (case hr => first | (go_simp; done) | (go_simp; rfl)); intro gb104 hg w6 hbox hb; have n0_ := Aside0.mk (blk_below (g := gb102) (o := .cells #[.slice A0_0 l0_0.length c0_0] 34 (0, 0)) (by (with_reducible repeat (first | refine blk_drewN ?_ _ | refine blk_drew ?_ | refine blk_alloc ?_ _)); exact BK102.out) hb); have n1_ := Aside0.mk (blk_below (g := gb103) (o := .cells #[.int .i64 a1_0, .int .i64 a1_1, .int .i64 a1_2, .int .i64 a1_3, .int .i64 a1_4, .int .i64 a1_5, .int .i64 a1_6, .int .i64 a1_7, .int .i64 a1_8, .int .i64 a1_9] 58 (0, 0)) (by (with_reducible repeat (first | refine blk_drewN ?_ _ | refine blk_drew ?_ | refine blk_alloc ?_ _)); exact BK103.out) hb); have n2_ := Aside0.mk (below_step (by repeat (first | (with_reducible first | exact HB.out | apply below_alloc | apply pw_below_drewN | apply below_drew1 | refine below_set ?_ GE102.out | refine below_set ?_ GE103.out) | exact HB.out)) hb); have n3_ := Aside0.mk (hbox); have n4_ := Aside0.mk ((by rw [hg]; exact (below_size (by repeat (first | (with_reducible first | exact HB.out | apply below_alloc | apply pw_below_drewN | apply below_drew1 | refine below_set ?_ GE102.out | refine below_set ?_ GE103.out) | exact HB.out))) : w.heap.size ≤ gb104)); have n5_ := Aside0.mk ((by rw [hg]; exact (below_size (by repeat (first | (with_reducible first | exact HB.out | apply below_alloc | apply pw_below_drewN | apply below_drew1 | refine below_set ?_ GE102.out | refine below_set ?_ GE103.out) | exact HB.out))) : w.heap.size ≤ gb104)); have n6_ := Aside0.mk ((by rw [hg]; exact Nat.ne_of_lt (blk_lt (g := gb102) (o := .cells #[.slice A0_0 l0_0.length c0_0] 34 (0, 0)) (by (with_reducible repeat (first | refine blk_drewN ?_ _ | refine blk_drew ?_ | refine blk_alloc ?_ _)); exact BK102.out)) : gb102 ≠ gb104)); have n7_ := Aside0.mk ((by rw [hg]; exact Nat.ne_of_gt (blk_lt (g := gb102) (o := .cells #[.slice A0_0 l0_0.length c0_0] 34 (0, 0)) (by (with_reducible repeat (first | refine blk_drewN ?_ _ | refine blk_drew ?_ | refine blk_alloc ?_ _)); exact BK102.out)) : gb104 ≠ gb102)); have n8_ := Aside0.mk ((by rw [hg]; exact Nat.ne_of_lt (blk_lt (g := gb103) (o := .cells #[.int .i64 a1_0, .int .i64 a1_1, .int .i64 a1_2, .int .i64 a1_3, .int .i64 a1_4, .int .i64 a1_5, .int .i64 a1_6, .int .i64 a1_7, .int .i64 a1_8, .int .i64 a1_9] 58 (0, 0)) (by (with_reducible repeat (first | refine blk_drewN ?_ _ | refine blk_drew ?_ | refine blk_alloc ?_ _)); exact BK103.out)) : gb103 ≠ gb104)); have n9_ := Aside0.mk ((by rw [hg]; exact Nat.ne_of_gt (blk_lt (g := gb103) (o := .cells #[.int .i64 a1_0, .int .i64 a1_1, .int .i64 a1_2, .int .i64 a1_3, .int .i64 a1_4, .int .i64 a1_5, .int .i64 a1_6, .int .i64 a1_7, .int .i64 a1_8, .int .i64 a1_9] 58 (0, 0)) (by (with_reducible repeat (first | refine blk_drewN ?_ _ | refine blk_drew ?_ | refine blk_alloc ?_ _)); exact BK103.out)) : gb104 ≠ gb103)); clear BK102; clear BK103; clear HB; have BK102 := n0_; have BK103 := n1_; have HB := n2_; have BK104 := n3_; have GW104 := n4_; have GE104 := n5_; have NB102_104 := n6_; have NB104_102 := n7_; have NB103_104 := n8_; have NB104_103 := n9_; clear n0_ n1_ n2_ n3_ n4_ n5_ n6_ n7_ n8_ n9_; clear hb hbox hg; have hnb7 := NB102_103.out; have hnc7 := NB103_102.out; have hnb8 := NB102_104.out; have hnc8 := NB104_102.out; have hcz9_0 : w6.cell? ⟨gb102, 0, none⟩ = some (.slice A0_0 l0_0.length c0_0) := (blk_cell BK102.out 0).trans rfl; have hfz9_0 := blk_frozen BK102.out 0) | ((with_reducible refine gate_callee (f := 73) rfl ?_); refine goesL_ (some 7) rfl rfl Try.func73 (by kernel_rfl) rfl #[.agg #[.slice A0_0 l0_0.length c0_0]] rfl (by (try simp only [List.map_toArray, List.map_cons, List.map_nil]); first | done | rfl | (simp only [List.length_drop, List.length_take]; rfl)) ?_; (with_reducible refine (impl_Poset_n.calls _ _ l0_0 t105 _ ?side1 ?side2 A3.out).mono ?_); (case side1 => repeat (first | exact (Kd.C_below HR0_0.out HB.out) | (with_reducible refine Kd.C_alloc ?_ _) | (with_reducible refine Kd.C_drewN ?_ _) | (with_reducible refine Kd.C_drew ?_))); (case side2 => exact HC0_0.out); rintro e w10 ⟨rfl, hb⟩; refine ⟨_, rfl, ?_⟩; have n0_ := Aside0.mk (blk_below (g := gb102) (o := .cells #[.slice A0_0 l0_0.length c0_0] 34 (0, 0)) (by (with_reducible repeat (first | refine blk_drewN ?_ _ | refine blk_drew ?_ | refine blk_alloc ?_ _)); exact BK102.out) hb); have n1_ := Aside0.mk (blk_below (g := gb103) (o := .cells #[.int .i64 a1_0, .int .i64 a1_1, .int .i64 a1_2, .int .i64 a1_3, .int .i64 a1_4, .int .i64 a1_5, .int .i64 a1_6, .int .i64 a1_7, .int .i64 a1_8, .int .i64 a1_9] 58 (0, 0)) (by (with_reducible repeat (first | refine blk_drewN ?_ _ | refine blk_drew ?_ | refine blk_alloc ?_ _)); exact BK103.out) hb); have n2_ := Aside0.mk (blk_below (g := gb104) (o := .cells #[.int .i64 0, .int .i64 0, .int .i64 0, .int .i64 0, .int .i64 0, .int .i64 0, .int .i64 0, .int .i64 0, .int .i64 0, .int .i64 0] 58 (0, 0)) (by (with_reducible repeat (first | refine blk_drewN ?_ _ | refine blk_drew ?_ | refine blk_alloc ?_ _)); exact BK104.out) hb); have n3_ := Aside0.mk (below_step (by repeat (first | (with_reducible first | exact HB.out | apply below_alloc | apply pw_below_drewN | apply below_drew1 | refine below_set ?_ GE102.out | refine below_set ?_ GE103.out | refine below_set ?_ GE104.out) | exact HB.out)) hb); clear BK102; clear BK103; clear BK104; clear HB; have BK102 := n0_; have BK103 := n1_; have BK104 := n2_; have HB := n3_; clear n0_ n1_ n2_ n3_; (try clear hb); (try clear hb2); (try clear hk); (try clear hi)))
  go_loopg [9] k (fun kq v9 w' => ∃ (x9_1 : Int) (x104000_1 : Int) (x104001_1 : Int) (x104002_1 : Int) (x104003_1 : Int) (x104004_1 : Int) (x104005_1 : Int) (x104006_1 : Int) (x104007_1 : Int) (x104008_1 : Int) (x104009_1 : Int), v9 = .int .i64 x9_1 ∧ Aside0 (impl_Poset_promoted.l0 kq (wrap64 (t105 - 1)) x9_1 l0_0 x104000_1 x104001_1 x104002_1 x104003_1 x104004_1 x104005_1 x104006_1 x104007_1 x104008_1 x104009_1 = some (r1, r2, r3, r4, r5, r6, r7, r8, r9, r10)) ∧ Aside0 (kq ≤ k) ∧ Aside0 (w'.heap[gb102]? = some (.cells #[(.slice A0_0 l0_0.length c0_0)] 34 (0, 0))) ∧ Aside0 (w'.heap[gb103]? = some (.cells #[.int .i64 x104000_1, .int .i64 x104001_1, .int .i64 x104002_1, .int .i64 x104003_1, .int .i64 x104004_1, .int .i64 x104005_1, .int .i64 x104006_1, .int .i64 x104007_1, .int .i64 x104008_1, .int .i64 x104009_1] 58 (0, 0))) ∧ Aside0 (w'.heap[gb104]? = some (.cells #[.int .i64 0, .int .i64 0, .int .i64 0, .int .i64 0, .int .i64 0, .int .i64 0, .int .i64 0, .int .i64 0, .int .i64 0, .int .i64 0] 58 (0, 0))) ∧ Aside0 (Below w.heap.size w w'))
  case atStart => exact ⟨(0), (a1_0), (a1_1), (a1_2), (a1_3), (a1_4), (a1_5), (a1_6), (a1_7), (a1_8), (a1_9), (by first | rfl | (simp; done) | (simp [*]; done)), H', ⟨Nat.le_refl _⟩, ⟨by (with_reducible repeat (first | refine blk_drewN ?_ _ | refine blk_drew ?_ | refine blk_alloc ?_ _)); exact BK102.out⟩, ⟨by (with_reducible repeat (first | refine blk_drewN ?_ _ | refine blk_drew ?_ | refine blk_alloc ?_ _)); exact BK103.out⟩, ⟨by (with_reducible repeat (first | refine blk_drewN ?_ _ | refine blk_drew ?_ | refine blk_alloc ?_ _)); exact BK104.out⟩, ⟨by repeat (first | (with_reducible first | exact HB.out | apply below_alloc | apply pw_below_drewN | apply below_drew1 | refine below_set ?_ GE102.out | refine below_set ?_ GE103.out | refine below_set ?_ GE104.out) | exact HB.out)⟩⟩
  case round =>
    clear H'
    try clear p2
    try clear c6
    try clear p6
    try clear c7
    try clear c8
    try clear hcz9_0
    try clear hfz9_0
    obtain ⟨x9_1, x104000_1, x104001_1, x104002_1, x104003_1, x104004_1, x104005_1, x104006_1, x104007_1, x104008_1, x104009_1, rfl, HA, HK1, BK102, BK103, BK104, HB⟩ := hrel
    cases gk with
    | zero => exact absurd HA.out (by simp [impl_Poset_promoted.l0])
    | succ k1 =>
      have H := HA.out
      clear HA
      simp only [impl_Poset_promoted.l0] at H
      by_cases c11 : x9_1 < (wrap64 (t105 - 1))
      · rw [if_pos c11] at H
        have c11b0 : decide (x9_1 < (wrap64 (t105 - 1))) = true := decide_eq_true c11
        clear c11
        replace H := Option.bind_eq_some_iff.mp H
        obtain ⟨⟨t106, t107, t108, t109, t110, t111, t112, t113, t114, t115⟩, A120, H⟩ := H
        replace H : (impl_Poset_promoted.l0 k1 (wrap64 (t105 - 1)) (wrap64 (x9_1 + 1)) l0_0 t106 t107 t108 t109 t110 t111 t112 t113 t114 t115) = some (r1, r2, r3, r4, r5, r6, r7, r8, r9, r10) := H
        have A12 := Aside0.mk A120
        clear A120
        have H' := Aside0.mk H
        clear H
        have hnb13 := NB102_103.out
        have hnc13 := NB103_102.out
        have hnb14 := NB102_104.out
        have hnc14 := NB104_102.out
        have hcz15_0 : wr.cell? ⟨gb102, 0, none⟩ = some (.slice A0_0 l0_0.length c0_0) := (blk_cell BK102.out 0).trans rfl
        have hfz15_0 := blk_frozen BK102.out 0
        have hnb16 := NB103_104.out
        have hnc16 := NB104_103.out
        have hcz17_0 : wr.cell? ⟨gb103, 0, none⟩ = some (.int .i64 x104000_1) := (blk_cell BK103.out 0).trans rfl
        have hcz17_1 : wr.cell? ⟨gb103, 1, none⟩ = some (.int .i64 x104001_1) := (blk_cell BK103.out 1).trans rfl
        have hcz17_2 : wr.cell? ⟨gb103, 2, none⟩ = some (.int .i64 x104002_1) := (blk_cell BK103.out 2).trans rfl
        have hcz17_3 : wr.cell? ⟨gb103, 3, none⟩ = some (.int .i64 x104003_1) := (blk_cell BK103.out 3).trans rfl
        have hcz17_4 : wr.cell? ⟨gb103, 4, none⟩ = some (.int .i64 x104004_1) := (blk_cell BK103.out 4).trans rfl
        have hcz17_5 : wr.cell? ⟨gb103, 5, none⟩ = some (.int .i64 x104005_1) := (blk_cell BK103.out 5).trans rfl
        have hcz17_6 : wr.cell? ⟨gb103, 6, none⟩ = some (.int .i64 x104006_1) := (blk_cell BK103.out 6).trans rfl
        have hcz17_7 : wr.cell? ⟨gb103, 7, none⟩ = some (.int .i64 x104007_1) := (blk_cell BK103.out 7).trans rfl
        have hcz17_8 : wr.cell? ⟨gb103, 8, none⟩ = some (.int .i64 x104008_1) := (blk_cell BK103.out 8).trans rfl
        have hcz17_9 : wr.cell? ⟨gb103, 9, none⟩ = some (.int .i64 x104009_1) := (blk_cell BK103.out 9).trans rfl
        have hfz17_0 := blk_frozen BK103.out 0
        have hfz17_1 := blk_frozen BK103.out 1
        have hfz17_2 := blk_frozen BK103.out 2
        have hfz17_3 := blk_frozen BK103.out 3
        have hfz17_4 := blk_frozen BK103.out 4
        have hfz17_5 := blk_frozen BK103.out 5
        have hfz17_6 := blk_frozen BK103.out 6
        have hfz17_7 := blk_frozen BK103.out 7
        have hfz17_8 := blk_frozen BK103.out 8
        have hfz17_9 := blk_frozen BK103.out 9
        go_wp2_with (first | ((with_reducible refine gate_callee (f := 80) rfl ?_); refine goesL_ (some 15) rfl rfl Try.func80 (by kernel_rfl) rfl #[.agg #[.slice A0_0 l0_0.length c0_0], .agg #[.int .i64 x104000_1, .int .i64 x104001_1, .int .i64 x104002_1, .int .i64 x104003_1, .int .i64 x104004_1, .int .i64 x104005_1, .int .i64 x104006_1, .int .i64 x104007_1, .int .i64 x104008_1, .int .i64 x104009_1], .int .i64 x9_1] rfl (by (try simp only [List.map_toArray, List.map_cons, List.map_nil]); first | done | rfl | (simp only [List.length_drop, List.length_take]; rfl)) ?_; (with_reducible refine (impl_Poset_exchange.calls _ _ l0_0 x104000_1 x104001_1 x104002_1 x104003_1 x104004_1 x104005_1 x104006_1 x104007_1 x104008_1 x104009_1 x9_1 t106 t107 t108 t109 t110 t111 t112 t113 t114 t115 _ ?side1 ?side2 A12.out).mono ?_); (case side1 => repeat (first | exact (Kd.C_below HR0_0.out HB.out) | (with_reducible refine Kd.C_alloc ?_ _) | (with_reducible refine Kd.C_drewN ?_ _) | (with_reducible refine Kd.C_drew ?_))); (case side2 => exact HC0_0.out); rintro e w18 ⟨rfl, hb⟩; refine ⟨_, rfl, ?_⟩; have n0_ := Aside0.mk (blk_below (g := gb102) (o := .cells #[.slice A0_0 l0_0.length c0_0] 34 (0, 0)) (by (with_reducible repeat (first | refine blk_drewN ?_ _ | refine blk_drew ?_ | refine blk_alloc ?_ _)); exact BK102.out) hb); have n1_ := Aside0.mk (blk_below (g := gb103) (o := .cells #[.int .i64 x104000_1, .int .i64 x104001_1, .int .i64 x104002_1, .int .i64 x104003_1, .int .i64 x104004_1, .int .i64 x104005_1, .int .i64 x104006_1, .int .i64 x104007_1, .int .i64 x104008_1, .int .i64 x104009_1] 58 (0, 0)) (by (with_reducible repeat (first | refine blk_drewN ?_ _ | refine blk_drew ?_ | refine blk_alloc ?_ _)); exact BK103.out) hb); have n2_ := Aside0.mk (blk_below (g := gb104) (o := .cells #[.int .i64 0, .int .i64 0, .int .i64 0, .int .i64 0, .int .i64 0, .int .i64 0, .int .i64 0, .int .i64 0, .int .i64 0, .int .i64 0] 58 (0, 0)) (by (with_reducible repeat (first | refine blk_drewN ?_ _ | refine blk_drew ?_ | refine blk_alloc ?_ _)); exact BK104.out) hb); have n3_ := Aside0.mk (below_step (by repeat (first | (with_reducible first | exact HB.out | apply below_alloc | apply pw_below_drewN | apply below_drew1 | refine below_set ?_ GE102.out | refine below_set ?_ GE103.out | refine below_set ?_ GE104.out) | exact HB.out)) hb); clear BK102; clear BK103; clear BK104; clear HB; have BK102 := n0_; have BK103 := n1_; have BK104 := n2_; have HB := n3_; clear n0_ n1_ n2_ n3_; (try clear hb); (try clear hb2); (try clear hk); (try clear hi); have hcz19_0 : w18.cell? ⟨gb103, 0, none⟩ = some (.int .i64 x104000_1) := (blk_cell BK103.out 0).trans rfl; have hcz19_1 : w18.cell? ⟨gb103, 1, none⟩ = some (.int .i64 x104001_1) := (blk_cell BK103.out 1).trans rfl; have hcz19_2 : w18.cell? ⟨gb103, 2, none⟩ = some (.int .i64 x104002_1) := (blk_cell BK103.out 2).trans rfl; have hcz19_3 : w18.cell? ⟨gb103, 3, none⟩ = some (.int .i64 x104003_1) := (blk_cell BK103.out 3).trans rfl; have hcz19_4 : w18.cell? ⟨gb103, 4, none⟩ = some (.int .i64 x104004_1) := (blk_cell BK103.out 4).trans rfl; have hcz19_5 : w18.cell? ⟨gb103, 5, none⟩ = some (.int .i64 x104005_1) := (blk_cell BK103.out 5).trans rfl; have hcz19_6 : w18.cell? ⟨gb103, 6, none⟩ = some (.int .i64 x104006_1) := (blk_cell BK103.out 6).trans rfl; have hcz19_7 : w18.cell? ⟨gb103, 7, none⟩ = some (.int .i64 x104007_1) := (blk_cell BK103.out 7).trans rfl; have hcz19_8 : w18.cell? ⟨gb103, 8, none⟩ = some (.int .i64 x104008_1) := (blk_cell BK103.out 8).trans rfl; have hcz19_9 : w18.cell? ⟨gb103, 9, none⟩ = some (.int .i64 x104009_1) := (blk_cell BK103.out 9).trans rfl; have hfz19_0 := blk_frozen BK103.out 0; have hfz19_1 := blk_frozen BK103.out 1; have hfz19_2 := blk_frozen BK103.out 2; have hfz19_3 := blk_frozen BK103.out 3; have hfz19_4 := blk_frozen BK103.out 4; have hfz19_5 := blk_frozen BK103.out 5; have hfz19_6 := blk_frozen BK103.out 6; have hfz19_7 := blk_frozen BK103.out 7; have hfz19_8 := blk_frozen BK103.out 8; have hfz19_9 := blk_frozen BK103.out 9))
        go_roundg k1
        case measure => have := HK1.out; omega
        case rel => exact ⟨(wrap64 (x9_1 + 1)), (t106), (t107), (t108), (t109), (t110), (t111), (t112), (t113), (t114), (t115), (by first | rfl | (simp; done) | (simp [*]; done)), H', ⟨by have := HK1.out; omega⟩, ⟨by (with_reducible repeat (first | refine blk_drewN ?_ _ | refine blk_drew ?_ | refine blk_alloc ?_ _)); refine blk_far ?_ NB102_103.out _; (with_reducible repeat (first | refine blk_drewN ?_ _ | refine blk_drew ?_ | refine blk_alloc ?_ _)); refine blk_far ?_ NB102_103.out _; (with_reducible repeat (first | refine blk_drewN ?_ _ | refine blk_drew ?_ | refine blk_alloc ?_ _)); refine blk_far ?_ NB102_103.out _; (with_reducible repeat (first | refine blk_drewN ?_ _ | refine blk_drew ?_ | refine blk_alloc ?_ _)); refine blk_far ?_ NB102_103.out _; (with_reducible repeat (first | refine blk_drewN ?_ _ | refine blk_drew ?_ | refine blk_alloc ?_ _)); refine blk_far ?_ NB102_103.out _; (with_reducible repeat (first | refine blk_drewN ?_ _ | refine blk_drew ?_ | refine blk_alloc ?_ _)); refine blk_far ?_ NB102_103.out _; (with_reducible repeat (first | refine blk_drewN ?_ _ | refine blk_drew ?_ | refine blk_alloc ?_ _)); refine blk_far ?_ NB102_103.out _; (with_reducible repeat (first | refine blk_drewN ?_ _ | refine blk_drew ?_ | refine blk_alloc ?_ _)); refine blk_far ?_ NB102_103.out _; (with_reducible repeat (first | refine blk_drewN ?_ _ | refine blk_drew ?_ | refine blk_alloc ?_ _)); refine blk_far ?_ NB102_103.out _; (with_reducible repeat (first | refine blk_drewN ?_ _ | refine blk_drew ?_ | refine blk_alloc ?_ _)); refine blk_far ?_ NB102_103.out _; (with_reducible repeat (first | refine blk_drewN ?_ _ | refine blk_drew ?_ | refine blk_alloc ?_ _)); exact BK102.out⟩, ⟨by (with_reducible repeat (first | refine blk_drewN ?_ _ | refine blk_drew ?_ | refine blk_alloc ?_ _)); refine blk_put (cs := #[.int .i64 t106, .int .i64 t107, .int .i64 t108, .int .i64 t109, .int .i64 t110, .int .i64 t111, .int .i64 t112, .int .i64 t113, .int .i64 t114, .int .i64 x104009_1]) ?_ 9 _ rfl; (with_reducible repeat (first | refine blk_drewN ?_ _ | refine blk_drew ?_ | refine blk_alloc ?_ _)); refine blk_put (cs := #[.int .i64 t106, .int .i64 t107, .int .i64 t108, .int .i64 t109, .int .i64 t110, .int .i64 t111, .int .i64 t112, .int .i64 t113, .int .i64 x104008_1, .int .i64 x104009_1]) ?_ 8 _ rfl; (with_reducible repeat (first | refine blk_drewN ?_ _ | refine blk_drew ?_ | refine blk_alloc ?_ _)); refine blk_put (cs := #[.int .i64 t106, .int .i64 t107, .int .i64 t108, .int .i64 t109, .int .i64 t110, .int .i64 t111, .int .i64 t112, .int .i64 x104007_1, .int .i64 x104008_1, .int .i64 x104009_1]) ?_ 7 _ rfl; (with_reducible repeat (first | refine blk_drewN ?_ _ | refine blk_drew ?_ | refine blk_alloc ?_ _)); refine blk_put (cs := #[.int .i64 t106, .int .i64 t107, .int .i64 t108, .int .i64 t109, .int .i64 t110, .int .i64 t111, .int .i64 x104006_1, .int .i64 x104007_1, .int .i64 x104008_1, .int .i64 x104009_1]) ?_ 6 _ rfl; (with_reducible repeat (first | refine blk_drewN ?_ _ | refine blk_drew ?_ | refine blk_alloc ?_ _)); refine blk_put (cs := #[.int .i64 t106, .int .i64 t107, .int .i64 t108, .int .i64 t109, .int .i64 t110, .int .i64 x104005_1, .int .i64 x104006_1, .int .i64 x104007_1, .int .i64 x104008_1, .int .i64 x104009_1]) ?_ 5 _ rfl; (with_reducible repeat (first | refine blk_drewN ?_ _ | refine blk_drew ?_ | refine blk_alloc ?_ _)); refine blk_put (cs := #[.int .i64 t106, .int .i64 t107, .int .i64 t108, .int .i64 t109, .int .i64 x104004_1, .int .i64 x104005_1, .int .i64 x104006_1, .int .i64 x104007_1, .int .i64 x104008_1, .int .i64 x104009_1]) ?_ 4 _ rfl; (with_reducible repeat (first | refine blk_drewN ?_ _ | refine blk_drew ?_ | refine blk_alloc ?_ _)); refine blk_put (cs := #[.int .i64 t106, .int .i64 t107, .int .i64 t108, .int .i64 x104003_1, .int .i64 x104004_1, .int .i64 x104005_1, .int .i64 x104006_1, .int .i64 x104007_1, .int .i64 x104008_1, .int .i64 x104009_1]) ?_ 3 _ rfl; (with_reducible repeat (first | refine blk_drewN ?_ _ | refine blk_drew ?_ | refine blk_alloc ?_ _)); refine blk_put (cs := #[.int .i64 t106, .int .i64 t107, .int .i64 x104002_1, .int .i64 x104003_1, .int .i64 x104004_1, .int .i64 x104005_1, .int .i64 x104006_1, .int .i64 x104007_1, .int .i64 x104008_1, .int .i64 x104009_1]) ?_ 2 _ rfl; (with_reducible repeat (first | refine blk_drewN ?_ _ | refine blk_drew ?_ | refine blk_alloc ?_ _)); refine blk_put (cs := #[.int .i64 t106, .int .i64 x104001_1, .int .i64 x104002_1, .int .i64 x104003_1, .int .i64 x104004_1, .int .i64 x104005_1, .int .i64 x104006_1, .int .i64 x104007_1, .int .i64 x104008_1, .int .i64 x104009_1]) ?_ 1 _ rfl; (with_reducible repeat (first | refine blk_drewN ?_ _ | refine blk_drew ?_ | refine blk_alloc ?_ _)); refine blk_put (cs := #[.int .i64 x104000_1, .int .i64 x104001_1, .int .i64 x104002_1, .int .i64 x104003_1, .int .i64 x104004_1, .int .i64 x104005_1, .int .i64 x104006_1, .int .i64 x104007_1, .int .i64 x104008_1, .int .i64 x104009_1]) ?_ 0 _ rfl; (with_reducible repeat (first | refine blk_drewN ?_ _ | refine blk_drew ?_ | refine blk_alloc ?_ _)); exact BK103.out⟩, ⟨by (with_reducible repeat (first | refine blk_drewN ?_ _ | refine blk_drew ?_ | refine blk_alloc ?_ _)); refine blk_far ?_ NB104_103.out _; (with_reducible repeat (first | refine blk_drewN ?_ _ | refine blk_drew ?_ | refine blk_alloc ?_ _)); refine blk_far ?_ NB104_103.out _; (with_reducible repeat (first | refine blk_drewN ?_ _ | refine blk_drew ?_ | refine blk_alloc ?_ _)); refine blk_far ?_ NB104_103.out _; (with_reducible repeat (first | refine blk_drewN ?_ _ | refine blk_drew ?_ | refine blk_alloc ?_ _)); refine blk_far ?_ NB104_103.out _; (with_reducible repeat (first | refine blk_drewN ?_ _ | refine blk_drew ?_ | refine blk_alloc ?_ _)); refine blk_far ?_ NB104_103.out _; (with_reducible repeat (first | refine blk_drewN ?_ _ | refine blk_drew ?_ | refine blk_alloc ?_ _)); refine blk_far ?_ NB104_103.out _; (with_reducible repeat (first | refine blk_drewN ?_ _ | refine blk_drew ?_ | refine blk_alloc ?_ _)); refine blk_far ?_ NB104_103.out _; (with_reducible repeat (first | refine blk_drewN ?_ _ | refine blk_drew ?_ | refine blk_alloc ?_ _)); refine blk_far ?_ NB104_103.out _; (with_reducible repeat (first | refine blk_drewN ?_ _ | refine blk_drew ?_ | refine blk_alloc ?_ _)); refine blk_far ?_ NB104_103.out _; (with_reducible repeat (first | refine blk_drewN ?_ _ | refine blk_drew ?_ | refine blk_alloc ?_ _)); refine blk_far ?_ NB104_103.out _; (with_reducible repeat (first | refine blk_drewN ?_ _ | refine blk_drew ?_ | refine blk_alloc ?_ _)); exact BK104.out⟩, ⟨by repeat (first | (with_reducible first | exact HB.out | apply below_alloc | apply pw_below_drewN | apply below_drew1 | refine below_set ?_ GE102.out | refine below_set ?_ GE103.out | refine below_set ?_ GE104.out) | exact HB.out)⟩⟩
      · rw [if_neg c11] at H
        have c11b0 : decide (x9_1 < (wrap64 (t105 - 1))) = false := decide_eq_false c11
        clear c11
        simp only [Option.some.injEq, Prod.mk.injEq] at H
        obtain ⟨rfl, rfl, rfl, rfl, rfl, rfl, rfl, rfl, rfl, rfl⟩ := H
        have hnb20 := NB103_102.out
        have hnc20 := NB102_103.out
        have hnb21 := NB103_104.out
        have hnc21 := NB104_103.out
        have hcz22_0 : wr.cell? ⟨gb103, 0, none⟩ = some (.int .i64 x104000_1) := (blk_cell BK103.out 0).trans rfl
        have hcz22_1 : wr.cell? ⟨gb103, 1, none⟩ = some (.int .i64 x104001_1) := (blk_cell BK103.out 1).trans rfl
        have hcz22_2 : wr.cell? ⟨gb103, 2, none⟩ = some (.int .i64 x104002_1) := (blk_cell BK103.out 2).trans rfl
        have hcz22_3 : wr.cell? ⟨gb103, 3, none⟩ = some (.int .i64 x104003_1) := (blk_cell BK103.out 3).trans rfl
        have hcz22_4 : wr.cell? ⟨gb103, 4, none⟩ = some (.int .i64 x104004_1) := (blk_cell BK103.out 4).trans rfl
        have hcz22_5 : wr.cell? ⟨gb103, 5, none⟩ = some (.int .i64 x104005_1) := (blk_cell BK103.out 5).trans rfl
        have hcz22_6 : wr.cell? ⟨gb103, 6, none⟩ = some (.int .i64 x104006_1) := (blk_cell BK103.out 6).trans rfl
        have hcz22_7 : wr.cell? ⟨gb103, 7, none⟩ = some (.int .i64 x104007_1) := (blk_cell BK103.out 7).trans rfl
        have hcz22_8 : wr.cell? ⟨gb103, 8, none⟩ = some (.int .i64 x104008_1) := (blk_cell BK103.out 8).trans rfl
        have hcz22_9 : wr.cell? ⟨gb103, 9, none⟩ = some (.int .i64 x104009_1) := (blk_cell BK103.out 9).trans rfl
        have hfz22_0 := blk_frozen BK103.out 0
        have hfz22_1 := blk_frozen BK103.out 1
        have hfz22_2 := blk_frozen BK103.out 2
        have hfz22_3 := blk_frozen BK103.out 3
        have hfz22_4 := blk_frozen BK103.out 4
        have hfz22_5 := blk_frozen BK103.out 5
        have hfz22_6 := blk_frozen BK103.out 6
        have hfz22_7 := blk_frozen BK103.out 7
        have hfz22_8 := blk_frozen BK103.out 8
        have hfz22_9 := blk_frozen BK103.out 9
        have hnb23 := NB104_102.out
        have hnc23 := NB102_104.out
        have hcz24_0 : wr.cell? ⟨gb104, 0, none⟩ = some (.int .i64 0) := (blk_cell BK104.out 0).trans rfl
        have hcz24_1 : wr.cell? ⟨gb104, 1, none⟩ = some (.int .i64 0) := (blk_cell BK104.out 1).trans rfl
        have hcz24_2 : wr.cell? ⟨gb104, 2, none⟩ = some (.int .i64 0) := (blk_cell BK104.out 2).trans rfl
        have hcz24_3 : wr.cell? ⟨gb104, 3, none⟩ = some (.int .i64 0) := (blk_cell BK104.out 3).trans rfl
        have hcz24_4 : wr.cell? ⟨gb104, 4, none⟩ = some (.int .i64 0) := (blk_cell BK104.out 4).trans rfl
        have hcz24_5 : wr.cell? ⟨gb104, 5, none⟩ = some (.int .i64 0) := (blk_cell BK104.out 5).trans rfl
        have hcz24_6 : wr.cell? ⟨gb104, 6, none⟩ = some (.int .i64 0) := (blk_cell BK104.out 6).trans rfl
        have hcz24_7 : wr.cell? ⟨gb104, 7, none⟩ = some (.int .i64 0) := (blk_cell BK104.out 7).trans rfl
        have hcz24_8 : wr.cell? ⟨gb104, 8, none⟩ = some (.int .i64 0) := (blk_cell BK104.out 8).trans rfl
        have hcz24_9 : wr.cell? ⟨gb104, 9, none⟩ = some (.int .i64 0) := (blk_cell BK104.out 9).trans rfl
        have hfz24_0 := blk_frozen BK104.out 0
        have hfz24_1 := blk_frozen BK104.out 1
        have hfz24_2 := blk_frozen BK104.out 2
        have hfz24_3 := blk_frozen BK104.out 3
        have hfz24_4 := blk_frozen BK104.out 4
        have hfz24_5 := blk_frozen BK104.out 5
        have hfz24_6 := blk_frozen BK104.out 6
        have hfz24_7 := blk_frozen BK104.out 7
        have hfz24_8 := blk_frozen BK104.out 8
        have hfz24_9 := blk_frozen BK104.out 9
        go_wp2
        refine bodyPost_ret (results_cell_row rfl _ _ gb104 58 #[.int .i64 x104000_1, .int .i64 x104001_1, .int .i64 x104002_1, .int .i64 x104003_1, .int .i64 x104004_1, .int .i64 x104005_1, .int .i64 x104006_1, .int .i64 x104007_1, .int .i64 x104008_1, .int .i64 x104009_1] (0, 0) _ rfl (by (with_reducible repeat (first | refine blk_drewN ?_ _ | refine blk_drew ?_ | refine blk_alloc ?_ _)); refine blk_put (cs := #[.int .i64 x104000_1, .int .i64 x104001_1, .int .i64 x104002_1, .int .i64 x104003_1, .int .i64 x104004_1, .int .i64 x104005_1, .int .i64 x104006_1, .int .i64 x104007_1, .int .i64 x104008_1, .int .i64 0]) ?_ 9 _ rfl; (with_reducible repeat (first | refine blk_drewN ?_ _ | refine blk_drew ?_ | refine blk_alloc ?_ _)); refine blk_put (cs := #[.int .i64 x104000_1, .int .i64 x104001_1, .int .i64 x104002_1, .int .i64 x104003_1, .int .i64 x104004_1, .int .i64 x104005_1, .int .i64 x104006_1, .int .i64 x104007_1, .int .i64 0, .int .i64 0]) ?_ 8 _ rfl; (with_reducible repeat (first | refine blk_drewN ?_ _ | refine blk_drew ?_ | refine blk_alloc ?_ _)); refine blk_put (cs := #[.int .i64 x104000_1, .int .i64 x104001_1, .int .i64 x104002_1, .int .i64 x104003_1, .int .i64 x104004_1, .int .i64 x104005_1, .int .i64 x104006_1, .int .i64 0, .int .i64 0, .int .i64 0]) ?_ 7 _ rfl; (with_reducible repeat (first | refine blk_drewN ?_ _ | refine blk_drew ?_ | refine blk_alloc ?_ _)); refine blk_put (cs := #[.int .i64 x104000_1, .int .i64 x104001_1, .int .i64 x104002_1, .int .i64 x104003_1, .int .i64 x104004_1, .int .i64 x104005_1, .int .i64 0, .int .i64 0, .int .i64 0, .int .i64 0]) ?_ 6 _ rfl; (with_reducible repeat (first | refine blk_drewN ?_ _ | refine blk_drew ?_ | refine blk_alloc ?_ _)); refine blk_put (cs := #[.int .i64 x104000_1, .int .i64 x104001_1, .int .i64 x104002_1, .int .i64 x104003_1, .int .i64 x104004_1, .int .i64 0, .int .i64 0, .int .i64 0, .int .i64 0, .int .i64 0]) ?_ 5 _ rfl; (with_reducible repeat (first | refine blk_drewN ?_ _ | refine blk_drew ?_ | refine blk_alloc ?_ _)); refine blk_put (cs := #[.int .i64 x104000_1, .int .i64 x104001_1, .int .i64 x104002_1, .int .i64 x104003_1, .int .i64 0, .int .i64 0, .int .i64 0, .int .i64 0, .int .i64 0, .int .i64 0]) ?_ 4 _ rfl; (with_reducible repeat (first | refine blk_drewN ?_ _ | refine blk_drew ?_ | refine blk_alloc ?_ _)); refine blk_put (cs := #[.int .i64 x104000_1, .int .i64 x104001_1, .int .i64 x104002_1, .int .i64 0, .int .i64 0, .int .i64 0, .int .i64 0, .int .i64 0, .int .i64 0, .int .i64 0]) ?_ 3 _ rfl; (with_reducible repeat (first | refine blk_drewN ?_ _ | refine blk_drew ?_ | refine blk_alloc ?_ _)); refine blk_put (cs := #[.int .i64 x104000_1, .int .i64 x104001_1, .int .i64 0, .int .i64 0, .int .i64 0, .int .i64 0, .int .i64 0, .int .i64 0, .int .i64 0, .int .i64 0]) ?_ 2 _ rfl; (with_reducible repeat (first | refine blk_drewN ?_ _ | refine blk_drew ?_ | refine blk_alloc ?_ _)); refine blk_put (cs := #[.int .i64 x104000_1, .int .i64 0, .int .i64 0, .int .i64 0, .int .i64 0, .int .i64 0, .int .i64 0, .int .i64 0, .int .i64 0, .int .i64 0]) ?_ 1 _ rfl; (with_reducible repeat (first | refine blk_drewN ?_ _ | refine blk_drew ?_ | refine blk_alloc ?_ _)); refine blk_put (cs := #[.int .i64 0, .int .i64 0, .int .i64 0, .int .i64 0, .int .i64 0, .int .i64 0, .int .i64 0, .int .i64 0, .int .i64 0, .int .i64 0]) ?_ 0 _ rfl; (with_reducible repeat (first | refine blk_drewN ?_ _ | refine blk_drew ?_ | refine blk_alloc ?_ _)); exact BK104.out) Try.underlying58 rfl (by kernel_rfl)) rfl ?_
        exact ⟨by first | rfl | (simp [errW_none, errW_some] <;> rfl) | (simp [*, errW_none, errW_some] <;> rfl), by repeat (first | (with_reducible first | exact HB.out | apply below_alloc | apply pw_below_drewN | apply below_drew1 | refine below_set ?_ GE102.out | refine below_set ?_ GE103.out | refine below_set ?_ GE104.out) | exact HB.out)⟩

end Go.Proofs.Ytnihjpnheooeoaa.F
end

section
namespace Go.Proofs.Ytnihjpnheooeoaa.F
open Go.RowKit Go.Proofs.YtnihjpnheooeoaaW.PrintWords Go.Proofs.YtnihjpnheooeoaaW.PrintLast Go.Proofs.YtnihjpnheooeoaaW.PrintMore
set_option linter.unusedVariables false
set_option linter.unusedSimpArgs false
def impl_lineOf.f (l0 : List Int) : Option (Int × Int × Int × Int × Int × Int × Int × Int × Int × Int) := if l0.length ≤ 10 then some (l0.getD 0 0, l0.getD 1 0, l0.getD 2 0, l0.getD 3 0, l0.getD 4 0, l0.getD 5 0, l0.getD 6 0, l0.getD 7 0, l0.getD 8 0, l0.getD 9 0) else none
theorem impl_lineOf.sz : (Try.prog.info? 3).map (·.size) = some 1 := by kernel_rfl
theorem impl_lineOf.src {w : World} {A : Option Addr} {l : List Int} (h : Kd.C (Kd.int .i64) w A l.length l) (hp : 0 < l.length) : ∃ ad, A = some ad ∧ ∀ j v, (l.map (Value.int .i64))[j]? = some v → w.cell? (ad.add j) = some v := by
  obtain ⟨ad, e, hc⟩ := (Kd.reads_of_C (d := (0 : Int)) h).2.2 hp
  refine ⟨ad, e, fun j v hv => ?_⟩
  rw [List.getElem?_map] at hv
  rcases Nat.lt_or_ge j l.length with hj | hj
  · rw [hc j hj, List.getD_eq_getElem?_getD, List.getElem?_eq_getElem hj]
    rw [List.getElem?_eq_getElem hj] at hv
    exact hv
  · rw [List.getElem?_eq_none hj] at hv; cases hv
theorem impl_lineOf.one (l : List Int) : ∀ v ∈ l.map (Value.int .i64), v.oneCell' = true := by
  intro v hv
  obtain ⟨x, _, rfl⟩ := List.mem_map.1 hv
  rfl
def impl_lineOf.Is (l : List Int) (r1 r2 r3 r4 r5 r6 r7 r8 r9 r10 : Int) : Prop := (l.getD 0 0, l.getD 1 0, l.getD 2 0, l.getD 3 0, l.getD 4 0, l.getD 5 0, l.getD 6 0, l.getD 7 0, l.getD 8 0, l.getD 9 0) = (r1, r2, r3, r4, r5, r6, r7, r8, r9, r10)
theorem impl_lineOf.put (l : List Int) (h : l.length ≤ 10) : (splice [Value.int .i64 0, Value.int .i64 0, Value.int .i64 0, Value.int .i64 0, Value.int .i64 0, Value.int .i64 0, Value.int .i64 0, Value.int .i64 0, Value.int .i64 0, Value.int .i64 0] 0 (l.map (Value.int .i64))).toArray = #[.int .i64 (l.getD 0 0), .int .i64 (l.getD 1 0), .int .i64 (l.getD 2 0), .int .i64 (l.getD 3 0), .int .i64 (l.getD 4 0), .int .i64 (l.getD 5 0), .int .i64 (l.getD 6 0), .int .i64 (l.getD 7 0), .int .i64 (l.getD 8 0), .int .i64 (l.getD 9 0)] := by
  match l, h with
  | [], _ => rfl
  | x0 :: [], _ => rfl
  | x0 :: x1 :: [], _ => rfl
  | x0 :: x1 :: x2 :: [], _ => rfl
  | x0 :: x1 :: x2 :: x3 :: [], _ => rfl
  | x0 :: x1 :: x2 :: x3 :: x4 :: [], _ => rfl
  | x0 :: x1 :: x2 :: x3 :: x4 :: x5 :: [], _ => rfl
  | x0 :: x1 :: x2 :: x3 :: x4 :: x5 :: x6 :: [], _ => rfl
  | x0 :: x1 :: x2 :: x3 :: x4 :: x5 :: x6 :: x7 :: [], _ => rfl
  | x0 :: x1 :: x2 :: x3 :: x4 :: x5 :: x6 :: x7 :: x8 :: [], _ => rfl
  | x0 :: x1 :: x2 :: x3 :: x4 :: x5 :: x6 :: x7 :: x8 :: x9 :: [], _ => rfl
  | x0 :: x1 :: x2 :: x3 :: x4 :: x5 :: x6 :: x7 :: x8 :: x9 :: _ :: _, h => exact absurd h (by simp)
theorem impl_lineOf.sp {w : World} {g : Nat} {t : TypeId} {l : List Int} {r1 r2 r3 r4 r5 r6 r7 r8 r9 r10 : Int} (h : w.heap[g]? = some (.cells (splice [Value.int .i64 0, Value.int .i64 0, Value.int .i64 0, Value.int .i64 0, Value.int .i64 0, Value.int .i64 0, Value.int .i64 0, Value.int .i64 0, Value.int .i64 0, Value.int .i64 0] 0 (l.map (Value.int .i64))).toArray t (0, 0))) (hl : l.length ≤ 10) (hv : impl_lineOf.Is l r1 r2 r3 r4 r5 r6 r7 r8 r9 r10) :
    w.heap[g]? = some (.cells #[.int .i64 r1, .int .i64 r2, .int .i64 r3, .int .i64 r4, .int .i64 r5, .int .i64 r6, .int .i64 r7, .int .i64 r8, .int .i64 r9, .int .i64 r10] t (0, 0)) := by
  rw [impl_lineOf.put l hl] at h
  unfold impl_lineOf.Is at hv
  simp only [Prod.mk.injEq] at hv
  obtain ⟨rfl, rfl, rfl, rfl, rfl, rfl, rfl, rfl, rfl, rfl⟩ := hv
  exact h
theorem below_then_ {n m : Nat} {w W w2 : World} (h : Below n w W) (hm : n ≤ m) (k : Below m W w2) : Below n w w2 := h.trans (Below.mono k hm)
set_option maxHeartbeats 8000000 in
set_option maxRecDepth 100000 in
theorem impl_lineOf.calls (A0 : Option Addr) (c0 : Nat) (l0 : List Int) (r1 r2 r3 r4 r5 r6 r7 r8 r9 r10 : Int) (w : World) (hr0 : Kd.C (Kd.int .i64) w A0 l0.length l0) (hc0 : l0.length ≤ c0) (h : impl_lineOf.f l0 = some (r1, r2, r3, r4, r5, r6, r7, r8, r9, r10)) :
    Calls Try.prog 61 #[.slice A0 l0.length c0] w fun e w' => e = .returned (.agg #[.int .i64 r1, .int .i64 r2, .int .i64 r3, .int .i64 r4, .int .i64 r5, .int .i64 r6, .int .i64 r7, .int .i64 r8, .int .i64 r9, .int .i64 r10]) ∧ Below w.heap.size w w' := by
  have hu58 := Try.underlying58
  have HR0 := Aside0.mk hr0
  have HC0 := Aside0.mk hc0
  clear hr0 hc0
  have HB := Aside0.mk (Below.refl w.heap.size w)
  unfold impl_lineOf.f at h
  by_cases hl : l0.length ≤ 10
  rotate_left
  · rw [if_neg hl] at h; cases h
  rw [if_pos hl] at h
  have HL := Aside0.mk hl
  have HV : Aside0 (impl_lineOf.Is l0 r1 r2 r3 r4 r5 r6 r7 r8 r9 r10) := ⟨Option.some.inj h⟩
  clear h hl
  go_enter Try.func61, Try.ntmps61
  go_wp2_with (first | ((with_reducible refine gate_dst (N := 2) rfl ?_); refine box_event ?hg (N := 2) ?hd (cs := #[.int .i64 0, .int .i64 0, .int .i64 0, .int .i64 0, .int .i64 0, .int .i64 0, .int .i64 0, .int .i64 0, .int .i64 0, .int .i64 0]) (t := 58) ?hr ?_; (case hd => rfl); (case hg => rfl); (case hr => first | (go_simp; done) | (go_simp; rfl)); intro g2 hg w2 hbox hb; have BK2 := Aside0.mk hbox; have LT2 := Aside0.mk (blk_lt hbox); have GE2 := Aside0.mk (show w.heap.size ≤ g2 by omega); have HB2 := Aside0.mk (HB.out.trans hb); clear HB hbox hb hg) | ((with_reducible refine gate_dst (N := 3) rfl ?_); refine box_event ?hg (N := 3) ?hd (cs := #[.int .i64 0, .int .i64 0, .int .i64 0, .int .i64 0, .int .i64 0, .int .i64 0, .int .i64 0, .int .i64 0, .int .i64 0, .int .i64 0]) (t := 58) ?hr ?_; (case hd => rfl); (case hg => rfl); (case hr => first | (go_simp; done) | (go_simp; rfl)); intro g3 hg w3 hbox hb; have BK3 := Aside0.mk hbox; have hne : g2 ≠ g3 := (by have := LT2.out; omega); have hne2 : g3 ≠ g2 := fun e => hne e.symm; have LT3 := Aside0.mk (show g2 < g3 by have := LT2.out; omega); have GE3 := Aside0.mk (show w.heap.size ≤ g3 by have := GE2.out; have := LT2.out; omega); have BK2' := Aside0.mk (blk_below BK2.out hb); clear BK2; have HB3 := Aside0.mk (HB2.out.trans (Below.mono hb HB2.out.size)); clear HB2 hbox hb hg; have zc0 : w3.cell? ⟨g3, 0, none⟩ = some (.int .i64 0) := (blk_cell BK3.out 0).trans rfl; have zf0 := blk_frozen BK3.out 0; have zc1 : w3.cell? ⟨g3, 1, none⟩ = some (.int .i64 0) := (blk_cell BK3.out 1).trans rfl; have zf1 := blk_frozen BK3.out 1; have zc2 : w3.cell? ⟨g3, 2, none⟩ = some (.int .i64 0) := (blk_cell BK3.out 2).trans rfl; have zf2 := blk_frozen BK3.out 2; have zc3 : w3.cell? ⟨g3, 3, none⟩ = some (.int .i64 0) := (blk_cell BK3.out 3).trans rfl; have zf3 := blk_frozen BK3.out 3; have zc4 : w3.cell? ⟨g3, 4, none⟩ = some (.int .i64 0) := (blk_cell BK3.out 4).trans rfl; have zf4 := blk_frozen BK3.out 4; have zc5 : w3.cell? ⟨g3, 5, none⟩ = some (.int .i64 0) := (blk_cell BK3.out 5).trans rfl; have zf5 := blk_frozen BK3.out 5; have zc6 : w3.cell? ⟨g3, 6, none⟩ = some (.int .i64 0) := (blk_cell BK3.out 6).trans rfl; have zf6 := blk_frozen BK3.out 6; have zc7 : w3.cell? ⟨g3, 7, none⟩ = some (.int .i64 0) := (blk_cell BK3.out 7).trans rfl; have zf7 := blk_frozen BK3.out 7; have zc8 : w3.cell? ⟨g3, 8, none⟩ = some (.int .i64 0) := (blk_cell BK3.out 8).trans rfl; have zf8 := blk_frozen BK3.out 8; have zc9 : w3.cell? ⟨g3, 9, none⟩ = some (.int .i64 0) := (blk_cell BK3.out 9).trans rfl; have zf9 := blk_frozen BK3.out 9) | ((with_reducible refine wpList_copy_splice rfl (.tmp 5) (.tmp 6) 25 25 rfl 3 Try.underlying25 impl_lineOf.sz (some ⟨g3, 0, none⟩) A0 10 10 l0.length c0 rfl rfl g3 0 [Value.int .i64 0, Value.int .i64 0, Value.int .i64 0, Value.int .i64 0, Value.int .i64 0, Value.int .i64 0, Value.int .i64 0, Value.int .i64 0, Value.int .i64 0, Value.int .i64 0] 58 ?cg (l0.map (Value.int .i64)) ?cn ?cp ?cf ?c1 g3 _ (Below.refl _ _) (Nat.le_refl _) ?_); (case cg => ((with_reducible repeat (refine blk_put (cs := #[Value.int .i64 0, Value.int .i64 0, Value.int .i64 0, Value.int .i64 0, Value.int .i64 0, Value.int .i64 0, Value.int .i64 0, Value.int .i64 0, Value.int .i64 0, Value.int .i64 0]) ?_ _ _ rfl)); exact BK3.out)); (case cn => (have := HL.out; rw [List.length_map]; exact (Nat.min_eq_left this).symm)); (case cp => exact fun h_ => ⟨rfl, impl_lineOf.src (Kd.C_below HR0.out (by repeat (with_reducible first | exact HB3.out | refine below_set ?_ GE3.out))) (by rw [List.length_map] at h_; exact h_)⟩); (case cf => (have := HL.out; rw [List.length_map]; simpa using this)); (case c1 => exact impl_lineOf.one l0); intro w4 hk hb4; have BK4 := Aside0.mk (impl_lineOf.sp hk.out HL.out HV.out); have BK5 : Aside0 (w4.heap[g2]? = some (.cells #[.int .i64 0, .int .i64 0, .int .i64 0, .int .i64 0, .int .i64 0, .int .i64 0, .int .i64 0, .int .i64 0, .int .i64 0, .int .i64 0] 58 (0, 0))) := ⟨(hb4.block g2 LT3.out).trans (by (with_reducible repeat (refine blk_far ?_ (show g2 ≠ (Addr.mk g3 _ none).block from hne) _)); exact BK2'.out)⟩; have HB4 : Aside0 (Below w.heap.size w w4) := ⟨below_then_ (by repeat (with_reducible first | exact HB3.out | refine below_set ?_ GE3.out)) GE3.out hb4⟩; clear hk hb4 BK3 BK2' HB3; clear zc0 zf0 zc1 zf1 zc2 zf2 zc3 zf3 zc4 zf4 zc5 zf5 zc6 zf6 zc7 zf7 zc8 zf8 zc9 zf9; have zc0 : w4.cell? ⟨g3, 0, none⟩ = some (.int .i64 r1) := (blk_cell BK4.out 0).trans rfl; have zf0 := blk_frozen BK4.out 0; have zc1 : w4.cell? ⟨g3, 1, none⟩ = some (.int .i64 r2) := (blk_cell BK4.out 1).trans rfl; have zf1 := blk_frozen BK4.out 1; have zc2 : w4.cell? ⟨g3, 2, none⟩ = some (.int .i64 r3) := (blk_cell BK4.out 2).trans rfl; have zf2 := blk_frozen BK4.out 2; have zc3 : w4.cell? ⟨g3, 3, none⟩ = some (.int .i64 r4) := (blk_cell BK4.out 3).trans rfl; have zf3 := blk_frozen BK4.out 3; have zc4 : w4.cell? ⟨g3, 4, none⟩ = some (.int .i64 r5) := (blk_cell BK4.out 4).trans rfl; have zf4 := blk_frozen BK4.out 4; have zc5 : w4.cell? ⟨g3, 5, none⟩ = some (.int .i64 r6) := (blk_cell BK4.out 5).trans rfl; have zf5 := blk_frozen BK4.out 5; have zc6 : w4.cell? ⟨g3, 6, none⟩ = some (.int .i64 r7) := (blk_cell BK4.out 6).trans rfl; have zf6 := blk_frozen BK4.out 6; have zc7 : w4.cell? ⟨g3, 7, none⟩ = some (.int .i64 r8) := (blk_cell BK4.out 7).trans rfl; have zf7 := blk_frozen BK4.out 7; have zc8 : w4.cell? ⟨g3, 8, none⟩ = some (.int .i64 r9) := (blk_cell BK4.out 8).trans rfl; have zf8 := blk_frozen BK4.out 8; have zc9 : w4.cell? ⟨g3, 9, none⟩ = some (.int .i64 r10) := (blk_cell BK4.out 9).trans rfl; have zf9 := blk_frozen BK4.out 9; have yc0 : w4.cell? ⟨g2, 0, none⟩ = some (.int .i64 0) := (blk_cell BK5.out 0).trans rfl; have yf0 := blk_frozen BK5.out 0; have yc1 : w4.cell? ⟨g2, 1, none⟩ = some (.int .i64 0) := (blk_cell BK5.out 1).trans rfl; have yf1 := blk_frozen BK5.out 1; have yc2 : w4.cell? ⟨g2, 2, none⟩ = some (.int .i64 0) := (blk_cell BK5.out 2).trans rfl; have yf2 := blk_frozen BK5.out 2; have yc3 : w4.cell? ⟨g2, 3, none⟩ = some (.int .i64 0) := (blk_cell BK5.out 3).trans rfl; have yf3 := blk_frozen BK5.out 3; have yc4 : w4.cell? ⟨g2, 4, none⟩ = some (.int .i64 0) := (blk_cell BK5.out 4).trans rfl; have yf4 := blk_frozen BK5.out 4; have yc5 : w4.cell? ⟨g2, 5, none⟩ = some (.int .i64 0) := (blk_cell BK5.out 5).trans rfl; have yf5 := blk_frozen BK5.out 5; have yc6 : w4.cell? ⟨g2, 6, none⟩ = some (.int .i64 0) := (blk_cell BK5.out 6).trans rfl; have yf6 := blk_frozen BK5.out 6; have yc7 : w4.cell? ⟨g2, 7, none⟩ = some (.int .i64 0) := (blk_cell BK5.out 7).trans rfl; have yf7 := blk_frozen BK5.out 7; have yc8 : w4.cell? ⟨g2, 8, none⟩ = some (.int .i64 0) := (blk_cell BK5.out 8).trans rfl; have yf8 := blk_frozen BK5.out 8; have yc9 : w4.cell? ⟨g2, 9, none⟩ = some (.int .i64 0) := (blk_cell BK5.out 9).trans rfl; have yf9 := blk_frozen BK5.out 9))
  refine bodyPost_ret (results_cell_row rfl _ _ g2 58 #[.int .i64 r1, .int .i64 r2, .int .i64 r3, .int .i64 r4, .int .i64 r5, .int .i64 r6, .int .i64 r7, .int .i64 r8, .int .i64 r9, .int .i64 r10] (0, 0) _ rfl ?_ Try.underlying58 rfl (by kernel_rfl)) rfl ⟨rfl, ?_⟩
  · refine blk_put (cs := #[.int .i64 r1, .int .i64 r2, .int .i64 r3, .int .i64 r4, .int .i64 r5, .int .i64 r6, .int .i64 r7, .int .i64 r8, .int .i64 r9, .int .i64 0]) ?_ 9 _ rfl
    refine blk_put (cs := #[.int .i64 r1, .int .i64 r2, .int .i64 r3, .int .i64 r4, .int .i64 r5, .int .i64 r6, .int .i64 r7, .int .i64 r8, .int .i64 0, .int .i64 0]) ?_ 8 _ rfl
    refine blk_put (cs := #[.int .i64 r1, .int .i64 r2, .int .i64 r3, .int .i64 r4, .int .i64 r5, .int .i64 r6, .int .i64 r7, .int .i64 0, .int .i64 0, .int .i64 0]) ?_ 7 _ rfl
    refine blk_put (cs := #[.int .i64 r1, .int .i64 r2, .int .i64 r3, .int .i64 r4, .int .i64 r5, .int .i64 r6, .int .i64 0, .int .i64 0, .int .i64 0, .int .i64 0]) ?_ 6 _ rfl
    refine blk_put (cs := #[.int .i64 r1, .int .i64 r2, .int .i64 r3, .int .i64 r4, .int .i64 r5, .int .i64 0, .int .i64 0, .int .i64 0, .int .i64 0, .int .i64 0]) ?_ 5 _ rfl
    refine blk_put (cs := #[.int .i64 r1, .int .i64 r2, .int .i64 r3, .int .i64 r4, .int .i64 0, .int .i64 0, .int .i64 0, .int .i64 0, .int .i64 0, .int .i64 0]) ?_ 4 _ rfl
    refine blk_put (cs := #[.int .i64 r1, .int .i64 r2, .int .i64 r3, .int .i64 0, .int .i64 0, .int .i64 0, .int .i64 0, .int .i64 0, .int .i64 0, .int .i64 0]) ?_ 3 _ rfl
    refine blk_put (cs := #[.int .i64 r1, .int .i64 r2, .int .i64 0, .int .i64 0, .int .i64 0, .int .i64 0, .int .i64 0, .int .i64 0, .int .i64 0, .int .i64 0]) ?_ 2 _ rfl
    refine blk_put (cs := #[.int .i64 r1, .int .i64 0, .int .i64 0, .int .i64 0, .int .i64 0, .int .i64 0, .int .i64 0, .int .i64 0, .int .i64 0, .int .i64 0]) ?_ 1 _ rfl
    refine blk_put (cs := #[.int .i64 0, .int .i64 0, .int .i64 0, .int .i64 0, .int .i64 0, .int .i64 0, .int .i64 0, .int .i64 0, .int .i64 0, .int .i64 0]) ?_ 0 _ rfl
    exact BK5.out
  · repeat (with_reducible first | exact HB4.out | refine below_set ?_ GE2.out)
end Go.Proofs.Ytnihjpnheooeoaa.F
end
