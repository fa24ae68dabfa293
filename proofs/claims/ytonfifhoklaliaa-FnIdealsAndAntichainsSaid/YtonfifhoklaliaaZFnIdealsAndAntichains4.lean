/- Part 4 of the texts below the row of FnIdealsAndAntichains: printed functions with their contracts, and plain lemmas. No condition. -/
import Derived.Test.YtonfifhoklaliaaZFnIdealsAndAntichains3
import Derived.Lib.Hide
section
namespace Go.Proofs.Ytonfifhoklaliaa.F
open Go.RowKit Go.Proofs.YtonfifhoklaliaaW.PrintWords Go.Proofs.YtonfifhoklaliaaW.PrintLast Go.Proofs.YtonfifhoklaliaaW.PrintMore
set_option linter.unusedVariables false
set_option linter.unusedSimpArgs false
def impl_AntichainsOf.f (k : Nat) (l0_0 : List Int) : Option (List Int × Bool) := (impl_IsPoset.f k l0_0).bind fun t => if t = true then (sets_antichains.f (fun x => lit_antichains.f k x l0_0) k l0_0).bind fun l => some (l, true) else some ([], false)
theorem antichains_mono_l {F F' : Int → Option Bool} (hF : ∀ x, LeO (F x) (F' x)) : ∀ k y0 y1 y2, LeO (sets_antichains.l0 F k y0 y1 y2) (sets_antichains.l0 F' k y0 y1 y2)
 | 0, _, _, _ => fun r h => by simp [sets_antichains.l0] at h
 | k + 1, y0, y1, y2 => by
  unfold sets_antichains.l0
  exact LeO.ite (LeO.bind (hF _) (fun _ => LeO.ite (LeO.ite (antichains_mono_l hF k _ _ _) (LeO.none _)) (antichains_mono_l hF k _ _ _))) (LeO.refl _)
theorem antichains_mono (a0 : List Int) (k : Nat) : LeO (sets_antichains.f (fun x => lit_antichains.f k x a0) k a0) (sets_antichains.f (fun x => lit_antichains.f (k + 1) x a0) (k + 1) a0) := fun r h => by
 refine sets_antichains.mono _ _ _ r ?_
 unfold sets_antichains.f at h ⊢
 exact LeO.bind (LeO.refl _) (fun _ => antichains_mono_l (fun x => lit_antichains.mono x a0 k) k _ _ _) r h
theorem impl_AntichainsOf.mono : ∀ a0 k, LeO (impl_AntichainsOf.f k a0) (impl_AntichainsOf.f (k + 1) a0) := fun a0 k =>
 LeO.bind (impl_IsPoset.mono _ _) (fun _ => LeO.ite (LeO.bind (antichains_mono a0 k) (fun _ => LeO.refl _)) (LeO.refl _))
/-- The world in which the literal's variable lies. -/
theorem antichains_call (k : Nat) (A0_0 : Option Addr) (c0_0 : Nat) (l0_0 : List Int) (l : List Int) (g : Nat) (W : World) (hcB : W.cell? ⟨g, 0, none⟩ = some (.slice A0_0 l0_0.length c0_0)) (hg : g < W.heap.size) (hrW : Kd.C (Kd.int .i64) W A0_0 l0_0.length l0_0) (hc0_0 : l0_0.length ≤ c0_0)
 (h : sets_antichains.f (fun x => lit_antichains.f k x l0_0) k l0_0 = some l) :
 Calls Try.prog 99 #[.agg #[.slice A0_0 l0_0.length c0_0], .func (.func 100) #[] #[.pointer (some ⟨g, 0, none⟩)]] W fun e w' => ∃ v0_ : Value, e = .returned (v0_) ∧ (Kd.R (Kd.int .i64) 3 w' W.heap.size (fun _ => True) v0_ l ∧ Below W.heap.size W w') := by
 have HF : Aside0 (∀ (x0_ : Int) (r_ : Bool) (W' : World), lit_antichains.f k x0_ l0_0 = some r_ → Below W.heap.size W W' → Calls Try.prog 100 #[.int .i64 x0_, .pointer (some ⟨g, 0, none⟩)] W' fun e w' => e = .returned (.bool r_) ∧ Below W'.heap.size W' w') :=
  ⟨fun x0_ r_ W' hF hb => lit_antichains.calls g k x0_ A0_0 c0_0 l0_0 r_ W' ((hb.cell (p := ⟨g, 0, none⟩) hg).trans hcB) (Kd.C_below hrW hb) hc0_0 hF⟩
 exact sets_antichains.calls (fun x => lit_antichains.f k x l0_0) g k A0_0 c0_0 l0_0 l W HF hrW hc0_0 h
set_option maxHeartbeats 8000000 in
set_option maxRecDepth 100000 in
theorem impl_AntichainsOf.calls (k : Nat) (A0_0 : Option Addr) (c0_0 : Nat) (l0_0 : List Int) (r1 : List Int) (r2 : Bool) (w : World) (hr0_0 : Kd.C (Kd.int .i64) w A0_0 l0_0.length l0_0) (hc0_0 : l0_0.length ≤ c0_0) (h : impl_AntichainsOf.f k l0_0 = some (r1, r2)) :
 Calls Try.prog 28 #[.agg #[.slice A0_0 l0_0.length c0_0]] w fun e w' => ∃ v0_ : Value, e = .returned (.tuple #[v0_, .bool r2]) ∧ Kd.R (Kd.int .i64) 3 w' w.heap.size (fun _ => True) v0_ r1 ∧ Below w.heap.size w w' := by
 unfold impl_AntichainsOf.f at h
 have hmf : ∀ (fn : Fn) (first cap : Array Value) (w : World), (Instr.makeFunc fn first cap).run Try.prog w = .ok (.func fn first cap) w := fun _ _ _ _ => rfl
 have hu39 := Try.underlying28
 obtain ⟨t, ht, h⟩ := Option.bind_eq_some_iff.1 h
 obtain ⟨W, hW⟩ : ∃ W, W = (w.alloc (.cells #[.slice A0_0 l0_0.length c0_0] 28 (0, 0))) := ⟨_, rfl⟩
 have hsz : W.heap.size = w.heap.size + 1 := by rw [hW]; simp
 have hcB : W.cell? ⟨w.heap.size, 0, none⟩ = some (.slice A0_0 l0_0.length c0_0) := by rw [hW, World.cell?_alloc_at _ _ _ _ rfl]; rfl
 have hbW : Below w.heap.size w W := by rw [hW]; exact (Below.refl _ _).alloc (Nat.le_refl _) _
 have hrW : Kd.C (Kd.int .i64) W A0_0 l0_0.length l0_0 := Kd.C_below hr0_0 hbW
 have hcall1 := impl_IsPoset.calls k A0_0 c0_0 l0_0 t W hrW hc0_0 ht
 have hcall1' : Aside0 (Calls Try.prog 30 #[.agg #[.slice A0_0 l0_0.length c0_0]] (w.alloc (.cells #[.slice A0_0 l0_0.length c0_0] 28 (0, 0))) fun e w' => e = .returned (.bool t) ∧ Below W.heap.size W w') := ⟨by rw [← hW]; exact hcall1⟩
 cases t with
 | false =>
  rw [if_neg Bool.false_ne_true] at h
  obtain ⟨rfl, rfl⟩ := Prod.mk.inj (Option.some.inj h)
  have HbW := am hbW
  have HsW := am hsz
  clear hW hrW hcall1 ht hcB hsz hbW h
  go_enter Try.func28, Try.ntmps28
  go_wp2_with fail
  refine hcall1'.out.mono ?_
  rintro e w1 ⟨rfl, hb⟩
  have Hb := am hb
  clear hb hmf hcall1'
  go_wp2
  go_ret2
  refine ⟨_, rfl, Kd.R_nil _ _ _ _ _, HbW.out.trans (Hb.out.mono (by have := HsW.out; omega))⟩
 | true =>
  rw [if_pos rfl] at h
  obtain ⟨l, hl, h⟩ := Option.bind_eq_some_iff.1 h
  obtain ⟨rfl, rfl⟩ := Prod.mk.inj (Option.some.inj h)
  have HC2 : Aside0 (∀ w1, Below W.heap.size W w1 → Calls Try.prog 99 #[.agg #[.slice A0_0 l0_0.length c0_0], .func (.func 100) #[] #[.pointer (some ⟨w.heap.size, 0, none⟩)]] w1 fun e w' => ∃ v0_ : Value, e = .returned (v0_) ∧ (Kd.R (Kd.int .i64) 3 w' w1.heap.size (fun _ => True) v0_ l ∧ Below w1.heap.size w1 w')) :=
   ⟨fun w1 hb => antichains_call k A0_0 c0_0 l0_0 l w.heap.size w1 ((hb.cell (p := ⟨w.heap.size, 0, none⟩) (by rw [hsz]; show w.heap.size < w.heap.size + 1; omega)).trans hcB) (by have := hb.size; omega) (Kd.C_below hrW hb) hc0_0 hl⟩
  have HcB : Aside0 (∀ w1, Below W.heap.size W w1 → w1.cell? ⟨w.heap.size, 0, none⟩ = some (.slice A0_0 l0_0.length c0_0)) := ⟨fun w1 hb => (hb.cell (p := ⟨w.heap.size, 0, none⟩) (by rw [hsz]; show w.heap.size < w.heap.size + 1; omega)).trans hcB⟩
  have HbW := am hbW
  have HsW := am hsz
  have HW := Lib.hid hW
  clear hW hrW hcall1 ht hcB hsz hbW h hl
  go_enter Try.func28, Try.ntmps28
  go_wp2_with fail
  refine hcall1'.out.mono ?_
  rintro e w1 ⟨rfl, hb⟩
  have hcz := HcB.out w1 hb
  have Hb := am hb
  have hcall := am (HC2.out w1 hb)
  clear hb hcall1' HC2 HcB
  go_wp2_with fail
  refine hcall.out.mono ?_
  rintro e w2 ⟨v, rfl, ho, hb⟩
  have Ho := am ho
  have Hb2 := am hb
  clear ho hb hmf hcall hcz
  go_wp2
  go_ret2
  refine ⟨_, rfl, Kd.R_lower Ho.out (by have h1 := HsW.out; have h2 := Hb.out.size; omega), (HbW.out.trans (Hb.out.mono (by have := HsW.out; omega))).trans (Hb2.out.mono (by have h1 := HsW.out; have h2 := Hb.out.size; omega))⟩
end Go.Proofs.Ytonfifhoklaliaa.F
end

section
namespace Go.Proofs.Ytonfifhoklaliaa.Q
open Go.RowKit Go.Proofs.YtonfifhoklaliaaW.PrintWords Go.Proofs.Ytonfifhoklaliaa.F
set_option linter.unusedVariables false
theorem antis_run {F : Int → Option Bool} {c : Nat → Bool} {N : Nat} (hN : N ≤ 1024) (hF : ∀ s : Nat, s < N → F (s : Int) = some (c s)) : ∀ (d i : Nat), i + d = N → ∀ (k : Nat) (acc : List Int), d < k → acc.length ≤ i → sets_antichains.l0 F k acc (N : Int) (i : Int) = some (acc ++ ints ((List.range' i d).filter c))
 | 0, i, h, 0, acc, hk, _ => by omega
 | 0, i, h, k + 1, acc, hk, _ => by
  simp only [sets_antichains.l0]
  rw [if_neg (by omega)]
  simp [ints]
 | d + 1, i, h, 0, acc, hk, _ => by omega
 | d + 1, i, h, k + 1, acc, hk, ha => by
  simp only [sets_antichains.l0]
  rw [if_pos (by omega), hF i (by omega), Option.bind_some, wid1 (show i < N by omega) (by omega), List.range'_succ, List.filter_cons]
  cases hc : c i with
  | true =>
   rw [if_pos rfl, if_pos (by omega), if_pos rfl, antis_run hN hF d (i + 1) (by omega) k (acc ++ [(i : Int)]) (by omega) (by rw [List.length_append, List.length_singleton]; omega)]
   rw [List.append_assoc]; rfl
  | false =>
   rw [if_neg (by simp), if_neg (by simp), antis_run hN hF d (i + 1) (by omega) k acc (by omega) (by omega)]
def anV (p : List Int) : List Int × Bool := if isPo p = true then (ints (antisN p), true) else ([], false)
theorem small10 {n : Nat} (h : n ≤ 10) : 2 ^ n ≤ 1024 := Nat.le_trans (Nat.pow_le_pow_right (by decide) h) (by decide)
theorem anti_impl (p : List Int) : Ev (fun k => impl_AntichainsOf.f k p) (anV p) := by
 unfold impl_AntichainsOf.f anV
 refine Ev.bind (IsPoset_ev p) ?_
 cases hpo : isPo p with
 | false => exact Ev.no (by simp) (Ev.now _)
 | true =>
 have hp := (isPo_iff p).1 hpo
 refine Ev.yes rfl (Ev.bind (a := ints (antisN p)) ?_ (Ev.now _))
 have hn := hp.small
 have h2 := small10 hn
 have hpos := Nat.two_pow_pos p.length
 obtain ⟨K, hK⟩ := Ev.all (g := fun s k => lit_antichains.f k (s : Int) p) (r := fun s => topN p s == s) (2 ^ p.length) (fun s hs => by
  unfold lit_antichains.f
  refine Ev.bind (top_ev hp hs) (Ev.ret ?_)
  rw [Bool.eq_iff_iff, beq_iff_eq, beq_iff_eq]
  omega)
 refine ⟨K + 2 ^ p.length + 1, fun k hk => ?_⟩
 show sets_antichains.f _ k p = _
 unfold sets_antichains.f
 rw [all_eq (by omega), Option.bind_some]
 have e : wrap64 (((allN p : Nat) : Int) + 1) = ((2 ^ p.length : Nat) : Int) := by
  rw [wid (by unfold allN; omega) (by unfold allN; omega)]
  unfold allN; omega
 rw [e]
 have := antis_run (F := fun x => lit_antichains.f k x p) (c := fun s => topN p s == s) h2 (fun s hs => hK k (by omega) s hs) (2 ^ p.length) 0 (by omega) k [] (by omega) (by simp)
 rw [show ((0 : Nat) : Int) = 0 from rfl] at this
 rw [this, List.nil_append, ← List.range_eq_range']
 rfl
theorem anti_spec (p : List Int) : Ev (fun k => spec_AntichainsOf.f k p) (anV p) := by
 unfold spec_AntichainsOf.f anV
 refine Ev.bind (poGood_ev p) ?_
 cases hpo : isPo p with
 | false => exact Ev.no (by simp) (Ev.now _)
 | true =>
 have hp := (isPo_iff p).1 hpo
 have hn := hp.small
 have h2 := small10 hn
 refine Ev.yes rfl ?_
 have key : ∀ i, i ≤ 2 ^ p.length → ∀ acc : List Int, acc.length ≤ i → Ev (fun k => spec_AntichainsOf.l0 k acc (i : Int) p) (acc ++ ints ((List.range' i (2 ^ p.length - i)).filter fun s => topN p s == s), true) := by
  refine downTo _ ?_ ?_
  ·intro acc _
   refine Ev.step (by intro k; simp only [spec_AntichainsOf.l0]; rfl) ?_
   rw [shlN (by omega), Nat.sub_self]
   exact Ev.no (by omega) (Ev.ret (by simp [ints]))
  ·intro i hi ih acc ha
   refine Ev.step (by intro k; simp only [spec_AntichainsOf.l0]; rfl) ?_
   rw [shlN (by omega)]
   refine Ev.yes (by omega) (Ev.bind (poTop_ev hp hi) ?_)
   rw [show 2 ^ p.length - i = (2 ^ p.length - (i + 1)) + 1 by omega, List.range'_succ, List.filter_cons, wid1 hi (by omega)]
   cases hc : topN p i == i with
   | true =>
    rw [if_pos rfl]
    refine Ev.yes (by have := eq_of_beq hc; omega) (Ev.yes (by omega) (evc (ih (acc ++ [(i : Int)]) (by rw [List.length_append, List.length_singleton]; omega)) ?_))
    rw [List.append_assoc]; rfl
   | false =>
    rw [if_neg (by simp)]
    have hne := beq_eq_false_iff_ne.1 hc
    exact Ev.no (by omega) (ih acc (by omega))
 have := key 0 (Nat.zero_le _) [] (Nat.le_refl _)
 rw [Nat.sub_zero, ← List.range_eq_range'] at this
 exact this
end Go.Proofs.Ytonfifhoklaliaa.Q
end

section
namespace Go.Proofs.Ytonfifhoklaliaa.F
open Go.RowKit Go.Proofs.YtonfifhoklaliaaW.PrintWords Go.Proofs.YtonfifhoklaliaaW.PrintLast Go.Proofs.YtonfifhoklaliaaW.PrintMore
set_option linter.unusedVariables false
set_option linter.unusedSimpArgs false
def impl_Poset_ideals.f (k : Nat) (l0_0 : List Int) : Option (List Int) := sets_ideals.f (fun x => lit_ideals.f k x l0_0) k l0_0
theorem ideals_mono_l {F F' : Int → Option Bool} (hF : ∀ x, LeO (F x) (F' x)) : ∀ k y0 y1 y2, LeO (sets_ideals.l0 F k y0 y1 y2) (sets_ideals.l0 F' k y0 y1 y2)
 | 0, _, _, _ => fun r h => by simp [sets_ideals.l0] at h
 | k + 1, y0, y1, y2 => by
  unfold sets_ideals.l0
  exact LeO.ite (LeO.bind (hF _) (fun _ => LeO.ite (LeO.ite (ideals_mono_l hF k _ _ _) (LeO.none _)) (ideals_mono_l hF k _ _ _))) (LeO.refl _)
theorem impl_Poset_ideals.mono : ∀ a0 k, LeO (impl_Poset_ideals.f k a0) (impl_Poset_ideals.f (k + 1) a0) := fun a0 k r h => by
 unfold impl_Poset_ideals.f at h ⊢
 refine sets_ideals.mono _ _ _ r ?_
 unfold sets_ideals.f at h ⊢
 exact LeO.bind (LeO.refl _) (fun _ => ideals_mono_l (fun x => lit_ideals.mono x a0 k) k _ _ _) r h
set_option maxHeartbeats 8000000 in
set_option maxRecDepth 100000 in
theorem impl_Poset_ideals.calls (k : Nat) (A0_0 : Option Addr) (c0_0 : Nat) (l0_0 : List Int) (r : List Int) (w : World) (hr0_0 : Kd.C (Kd.int .i64) w A0_0 l0_0.length l0_0) (hc0_0 : l0_0.length ≤ c0_0) (h : impl_Poset_ideals.f k l0_0 = some r) :
 Calls Try.prog 97 #[.agg #[.slice A0_0 l0_0.length c0_0]] w fun e w' => ∃ v0_ : Value, e = .returned (v0_) ∧ Kd.R (Kd.int .i64) 3 w' w.heap.size (fun _ => True) v0_ r ∧ Below w.heap.size w w' := by
 unfold impl_Poset_ideals.f at h
 have hmf : ∀ (fn : Fn) (first cap : Array Value) (w : World), (Instr.makeFunc fn first cap).run Try.prog w = .ok (.func fn first cap) w := fun _ _ _ _ => rfl
 have hu39 := Try.underlying28
 obtain ⟨W, hW⟩ : ∃ W, W = (w.alloc (.cells #[.slice A0_0 l0_0.length c0_0] 28 (0, 0))) := ⟨_, rfl⟩
 have hsz : W.heap.size = w.heap.size + 1 := by rw [hW]; simp
 have hcB : W.cell? ⟨w.heap.size, 0, none⟩ = some (.slice A0_0 l0_0.length c0_0) := by rw [hW, World.cell?_alloc_at _ _ _ _ rfl]; rfl
 have hbW : Below w.heap.size w W := by rw [hW]; exact (Below.refl _ _).alloc (Nat.le_refl _) _
 have hrW : Kd.C (Kd.int .i64) W A0_0 l0_0.length l0_0 := Kd.C_below hr0_0 hbW
 have HF : Aside0 (∀ (x0_ : Int) (r_ : Bool) (W' : World), lit_ideals.f k x0_ l0_0 = some r_ → Below W.heap.size W W' → Calls Try.prog 158 #[.int .i64 x0_, .pointer (some ⟨w.heap.size, 0, none⟩)] W' fun e w' => e = .returned (.bool r_) ∧ Below W'.heap.size W' w') :=
  ⟨fun x0_ r_ W' hF hb => lit_ideals.calls w.heap.size k x0_ A0_0 c0_0 l0_0 r_ W' ((hb.cell (p := ⟨w.heap.size, 0, none⟩) (by rw [hsz]; show w.heap.size < w.heap.size + 1; omega)).trans hcB) (Kd.C_below hrW hb) hc0_0 hF⟩
 have hcall := sets_ideals.calls (fun x => lit_ideals.f k x l0_0) w.heap.size k A0_0 c0_0 l0_0 r W HF hrW hc0_0 h
 have hcall' : Aside0 (Calls Try.prog 99 #[.agg #[.slice A0_0 l0_0.length c0_0], .func (.func 158) #[] #[.pointer (some ⟨w.heap.size, 0, none⟩)]] (w.alloc (.cells #[.slice A0_0 l0_0.length c0_0] 28 (0, 0))) fun e w' => ∃ v0_ : Value, e = .returned (v0_) ∧ (Kd.R (Kd.int .i64) 3 w' W.heap.size (fun _ => True) v0_ r ∧ Below W.heap.size W w')) := ⟨by rw [← hW]; exact hcall⟩
 have HW := Lib.hid hW
 clear hcall HF h hW hrW hr0_0 hc0_0
 have HsW := am hsz
 have HbW := am hbW
 clear hcB hsz hbW
 go_enter Try.func97, Try.ntmps97
 go_wp2_with fail
 refine hcall'.out.mono ?_
 rintro e w1 ⟨v, rfl, ho, hb⟩
 have Ho := am ho
 have Hb := am hb
 clear ho hb hmf hcall'
 go_wp2
 go_ret
 refine ⟨_, rfl, Kd.R_lower Ho.out (by have := HsW.out; omega), HbW.out.trans (Hb.out.mono (by have := HsW.out; omega))⟩
end Go.Proofs.Ytonfifhoklaliaa.F
end

section
namespace Go.Proofs.Ytonfifhoklaliaa.F
open Go.RowKit Go.Proofs.YtonfifhoklaliaaW.PrintWords Go.Proofs.YtonfifhoklaliaaW.PrintLast Go.Proofs.YtonfifhoklaliaaW.PrintMore
attribute [local go_sem] max2_int min2_int max_two min_two max_three min_three max_four min_four
set_option linter.unusedVariables false
set_option linter.unusedSimpArgs false
def impl_IdealsOf.f (k : Nat) (l0_0 : List Int) : Option (List Int × Bool) := (impl_IsPoset.f k l0_0).bind fun t220 => (if t220 = true then ((impl_Poset_ideals.f k l0_0).bind fun t221 => (some (t221, true))) else (some (([] : List Int), false)))
theorem impl_IdealsOf.mono : ∀ a0 k, LeO (impl_IdealsOf.f k a0) (impl_IdealsOf.f (k + 1) a0) := by
 intro a0 k
 unfold impl_IdealsOf.f
 repeat' first
  | (with_reducible exact impl_IsPoset.mono _ _)
  | (with_reducible exact impl_Poset_ideals.mono _ _)
  | (with_reducible exact LeO.refl _)
  | (with_reducible exact LeO.none _)
  | (with_reducible refine LeO.ite ?_ ?_)
  | (with_reducible refine LeO.bind ?_ (fun _ => ?_))
  | exact impl_IsPoset.mono _ _
  | exact impl_Poset_ideals.mono _ _
  | exact LeO.none _
  | refine LeO.ite ?_ ?_
  | refine LeO.bind ?_ (fun _ => ?_)
set_option maxHeartbeats 8000000 in
set_option maxRecDepth 100000 in
theorem impl_IdealsOf.calls (k : Nat) (A0_0 : Option Addr) (c0_0 : Nat) (l0_0 : List Int) (r1 : List Int) (r2 : Bool) (w : World) (hr0_0 : Kd.C (Kd.int .i64) w A0_0 l0_0.length l0_0) (hc0_0 : l0_0.length ≤ c0_0) (h : impl_IdealsOf.f k l0_0 = some (r1, r2)) :
 Calls Try.prog 26 #[.agg #[.slice A0_0 l0_0.length c0_0]] w fun e w' => ∃ v0_ : Value, e = .returned (.tuple #[v0_, .bool r2]) ∧ Kd.R (Kd.int .i64) 3 w' w.heap.size (fun _ => True) v0_ r1 ∧ Below w.heap.size w w' := by
 have hu28 := Try.underlying28
 have HR0_0 := am hr0_0
 have HC0_0 := am hc0_0
 clear hr0_0 hc0_0
 have HB := am (Below.refl w.heap.size w)
 have H : ((impl_IsPoset.f k l0_0).bind fun t220 => (if t220 = true then ((impl_Poset_ideals.f k l0_0).bind fun t221 => (some (t221, true))) else (some (([] : List Int), false)))) = some (r1, r2) := h
 clear h
 replace H := Option.bind_eq_some_iff.mp H
 obtain ⟨t220, A20, H⟩ := H
 replace H : (if t220 = true then ((impl_Poset_ideals.f k l0_0).bind fun t221 => (some (t221, true))) else (some (([] : List Int), false))) = some (r1, r2) := H
 have A2 := am A20
 clear A20
 by_cases c3 : t220 = true
 ·subst c3
  have H1 : ((impl_Poset_ideals.f k l0_0).bind fun t221 => (some (t221, true))) = some (r1, r2) := by rw [if_pos rfl] at H; exact H
  clear H
  have H := H1
  clear H1
  replace H := Option.bind_eq_some_iff.mp H
  obtain ⟨t221, A40, H⟩ := H
  replace H : (some (t221, true)) = some (r1, r2) := H
  have A4 := am A40
  clear A40
  simp only [Option.some.injEq, Prod.mk.injEq] at H
  obtain ⟨rfl, rfl⟩ := H
  go_enter Try.func26, Try.ntmps26
  go_wp2_with (first | ((with_reducible refine gate_dst (N := 1) rfl ?_); refine qx (N := 1) (cs := #[.slice A0_0 l0_0.length c0_0]) (t := 28) ?_; intro gb219 hg w5 hbox hb; have n0_ := am (below_step qB hb); have BK219 := am (hbox); have GW219 := am (qg w hg); have GE219 := am (qg w hg); clear HB; have HB := n0_; clear n0_; clear hb hbox hg; have hcz6_0 := qz w5 BK219.out; have hfz6_0 := blk_frozen BK219.out 0) | ((with_reducible refine gate_callee (f := 30) rfl ?_); refine gL (some 5) Try.func30 #[.agg #[.slice A0_0 l0_0.length c0_0]] ?_; (with_reducible refine (impl_IsPoset.calls k _ _ l0_0 true _ ?side1 ?side2 A2.out).mono ?_); (case side1 => exact qC (Kd.C_below HR0_0.out HB.out)); (case side2 => exact HC0_0.out); rintro e w7 ⟨rfl, hb⟩; refine ⟨_, rfl, ?_⟩; replace BK219 := am (blk_below (g := gb219) (o := .cells #[.slice A0_0 l0_0.length c0_0] 28 (0, 0)) (qb BK219.out) hb); replace HB := am (below_step qB hb); (try clear hb); (try clear hb2); (try clear hk); (try clear hi); have hcz8_0 := qz w7 BK219.out; have hfz8_0 := blk_frozen BK219.out 0) | ((with_reducible refine gate_callee (f := 97) rfl ?_); refine gL (some 8) Try.func97 #[.agg #[.slice A0_0 l0_0.length c0_0]] ?_; (with_reducible refine (impl_Poset_ideals.calls k _ _ l0_0 t221 _ ?side1 ?side2 A4.out).mono ?_); (case side1 => exact qC (Kd.C_below HR0_0.out HB.out)); (case side2 => exact HC0_0.out); rintro e w9 ⟨v222, rfl, ho0, hb⟩; refine ⟨_, rfl, ?_⟩; have HO223 := am (Kd.R_lower ho0 (below_size qB)); replace BK219 := am (blk_below (g := gb219) (o := .cells #[.slice A0_0 l0_0.length c0_0] 28 (0, 0)) (qb BK219.out) hb); replace HB := am (below_step qB hb); (try clear hb); (try clear hb2); (try clear hk); (try clear hi); (try clear ho0)))
  go_ret2
  exact ⟨_, qr, qR HO223.out, qB⟩
 ·replace c3 := Bool.eq_false_iff.mpr c3
  subst c3
  have H1 : (some (([] : List Int), false)) = some (r1, r2) := by rw [if_neg (show ¬ (false = true) by decide)] at H; exact H
  clear H
  have H := H1
  clear H1
  simp only [Option.some.injEq, Prod.mk.injEq] at H
  obtain ⟨rfl, rfl⟩ := H
  go_enter Try.func26, Try.ntmps26
  go_wp2_with (first | ((with_reducible refine gate_dst (N := 1) rfl ?_); refine qx (N := 1) (cs := #[.slice A0_0 l0_0.length c0_0]) (t := 28) ?_; intro gb219 hg w10 hbox hb; have n0_ := am (below_step qB hb); have BK219 := am (hbox); have GW219 := am (qg w hg); have GE219 := am (qg w hg); clear HB; have HB := n0_; clear n0_; clear hb hbox hg; have hcz11_0 := qz w10 BK219.out; have hfz11_0 := blk_frozen BK219.out 0) | ((with_reducible refine gate_callee (f := 30) rfl ?_); refine gL (some 5) Try.func30 #[.agg #[.slice A0_0 l0_0.length c0_0]] ?_; (with_reducible refine (impl_IsPoset.calls k _ _ l0_0 false _ ?side1 ?side2 A2.out).mono ?_); (case side1 => exact qC (Kd.C_below HR0_0.out HB.out)); (case side2 => exact HC0_0.out); rintro e w12 ⟨rfl, hb⟩; refine ⟨_, rfl, ?_⟩; replace BK219 := am (blk_below (g := gb219) (o := .cells #[.slice A0_0 l0_0.length c0_0] 28 (0, 0)) (qb BK219.out) hb); replace HB := am (below_step qB hb); (try clear hb); (try clear hb2); (try clear hk); (try clear hi)))
  go_ret2
  exact ⟨_, qr, by first | exact Kd.R_nil _ _ _ _ _ | exact Kd.N_nil _ _ _ _ _ | exact Kd.V_nil _ _ _ _ _ | exact Kd.Q_nil _ _ _ _ _ | exact Kd.S_nil _ _ _ _ _, qB⟩
def impl_CountIdeals.f (k : Nat) (l0_0 : List Int) : Option (Int × Bool) := (impl_IdealsOf.f k l0_0).bind fun bt225 => (some ((bt225.1.length : Int), bt225.2))
theorem impl_CountIdeals.mono : ∀ a0 k, LeO (impl_CountIdeals.f k a0) (impl_CountIdeals.f (k + 1) a0) := by
 intro a0 k
 unfold impl_CountIdeals.f
 repeat' first
  | (with_reducible exact impl_IdealsOf.mono _ _)
  | (with_reducible exact LeO.refl _)
  | (with_reducible exact LeO.none _)
  | (with_reducible refine LeO.ite ?_ ?_)
  | (with_reducible refine LeO.bind ?_ (fun _ => ?_))
  | exact impl_IdealsOf.mono _ _
  | exact LeO.none _
  | refine LeO.ite ?_ ?_
  | refine LeO.bind ?_ (fun _ => ?_)
set_option maxHeartbeats 8000000 in
set_option maxRecDepth 100000 in
theorem impl_CountIdeals.calls (k : Nat) (A0_0 : Option Addr) (c0_0 : Nat) (l0_0 : List Int) (r1 : Int) (r2 : Bool) (w : World) (hr0_0 : Kd.C (Kd.int .i64) w A0_0 l0_0.length l0_0) (hc0_0 : l0_0.length ≤ c0_0) (h : impl_CountIdeals.f k l0_0 = some (r1, r2)) :
 Calls Try.prog 12 #[.agg #[.slice A0_0 l0_0.length c0_0]] w fun e w' => e = .returned (.tuple #[.int .i64 r1, .bool r2]) ∧ Below w.heap.size w w' := by
 have hu28 := Try.underlying28
 have HR0_0 := am hr0_0
 have HC0_0 := am hc0_0
 clear hr0_0 hc0_0
 have HB := am (Below.refl w.heap.size w)
 have H : ((impl_IdealsOf.f k l0_0).bind fun bt225 => (some ((bt225.1.length : Int), bt225.2))) = some (r1, r2) := h
 clear h
 replace H := Option.bind_eq_some_iff.mp H
 obtain ⟨⟨t225, t228⟩, A20, H⟩ := H
 replace H : (some ((t225.length : Int), t228)) = some (r1, r2) := H
 have A2 := am A20
 clear A20
 simp only [Option.some.injEq, Prod.mk.injEq] at H
 obtain ⟨rfl, rfl⟩ := H
 go_enter Try.func12, Try.ntmps12
 go_wp2_with (first | ((with_reducible refine gate_dst (N := 1) rfl ?_); refine qx (N := 1) (cs := #[.slice A0_0 l0_0.length c0_0]) (t := 28) ?_; intro gb224 hg w3 hbox hb; have n0_ := am (below_step qB hb); have BK224 := am (hbox); have GW224 := am (qg w hg); have GE224 := am (qg w hg); clear HB; have HB := n0_; clear n0_; clear hb hbox hg; have hcz4_0 := qz w3 BK224.out; have hfz4_0 := blk_frozen BK224.out 0) | ((with_reducible refine gate_callee (f := 26) rfl ?_); refine gL (some 8) Try.func26 #[.agg #[.slice A0_0 l0_0.length c0_0]] ?_; (with_reducible refine (impl_IdealsOf.calls k _ _ l0_0 t225 t228 _ ?side1 ?side2 A2.out).mono ?_); (case side1 => exact qC (Kd.C_below HR0_0.out HB.out)); (case side2 => exact HC0_0.out); rintro e w5 ⟨v226, rfl, ho0, hb⟩; refine ⟨_, rfl, ?_⟩; have HO227 := am (Kd.R_lower ho0 (below_size qB)); replace BK224 := am (blk_below (g := gb224) (o := .cells #[.slice A0_0 l0_0.length c0_0] 28 (0, 0)) (qb BK224.out) hb); replace HB := am (below_step qB hb); (try clear hb); (try clear hb2); (try clear hk); (try clear hi); (try clear ho0); obtain ⟨Ao6, co6, eo6⟩ := Kd.R_slice HO227.out; subst eo6))
 go_ret2
 exact ⟨qr, qB⟩
end Go.Proofs.Ytonfifhoklaliaa.F
end

section
namespace Go.Proofs.Ytonfifhoklaliaa.Q
open Go.RowKit Go.Proofs.YtonfifhoklaliaaW.PrintWords Go.Proofs.Ytonfifhoklaliaa.F
set_option linter.unusedVariables false
theorem sets_run {F : Int → Option Bool} {c : Nat → Bool} {N : Nat} (hN : N ≤ 1024) (hF : ∀ s : Nat, s < N → F (s : Int) = some (c s)) : ∀ (d i : Nat), i + d = N → ∀ (k : Nat) (acc : List Int), d < k → acc.length ≤ i → sets_ideals.l0 F k acc (N : Int) (i : Int) = some (acc ++ ints ((List.range' i d).filter c))
 | 0, i, h, 0, acc, hk, _ => by omega
 | 0, i, h, k + 1, acc, hk, _ => by
  simp only [sets_ideals.l0]
  rw [if_neg (by omega)]
  simp [ints]
 | d + 1, i, h, 0, acc, hk, _ => by omega
 | d + 1, i, h, k + 1, acc, hk, ha => by
  simp only [sets_ideals.l0]
  rw [if_pos (by omega), hF i (by omega), Option.bind_some, wid1 (show i < N by omega) (by omega), List.range'_succ, List.filter_cons]
  cases hc : c i with
  | true =>
   rw [if_pos rfl, if_pos (by omega), if_pos rfl, sets_run hN hF d (i + 1) (by omega) k (acc ++ [(i : Int)]) (by omega) (by rw [List.length_append, List.length_singleton]; omega)]
   rw [List.append_assoc]; rfl
  | false =>
   rw [if_neg (by simp), if_neg (by simp), sets_run hN hF d (i + 1) (by omega) k acc (by omega) (by omega)]
theorem two_pow_small {n : Nat} (h : n ≤ 10) : 2 ^ n ≤ 1024 := Nat.le_trans (Nat.pow_le_pow_right (by decide) h) (by decide)
theorem ideals_ev {p : List Int} (hp : PO p) : Ev (fun k => impl_Poset_ideals.f k p) (ints (idealsN p)) := by
 have hn := hp.small
 have h2 := two_pow_small hn
 have hpos := Nat.two_pow_pos p.length
 obtain ⟨K, hK⟩ := Ev.all (g := fun s k => lit_ideals.f k (s : Int) p) (r := fun s => idealB p s) (2 ^ p.length) (fun s hs => by
  unfold lit_ideals.f
  refine Ev.bind (close_ev hp hs) (Ev.ret ?_)
  rw [← closeN_eq hp hs, Bool.eq_iff_iff, beq_iff_eq, beq_iff_eq]
  omega)
 refine ⟨K + 2 ^ p.length + 1, fun k hk => ?_⟩
 show sets_ideals.f _ k p = _
 unfold sets_ideals.f
 rw [all_eq (by omega), Option.bind_some]
 have e : wrap64 (((allN p : Nat) : Int) + 1) = ((2 ^ p.length : Nat) : Int) := by
  rw [wid (by unfold allN; omega) (by unfold allN; omega)]
  unfold allN; omega
 rw [e]
 have := sets_run (F := fun x => lit_ideals.f k x p) (c := idealB p) h2 (fun s hs => hK k (by omega) s hs) (2 ^ p.length) 0 (by omega) k [] (by omega) (by simp)
 rw [show ((0 : Nat) : Int) = 0 from rfl] at this
 rw [this, List.nil_append, ← List.range_eq_range']
 rfl
end Go.Proofs.Ytonfifhoklaliaa.Q
end

section
namespace Go.Proofs.Ytonfifhoklaliaa.F
open Go.RowKit Go.Proofs.YtonfifhoklaliaaW.PrintWords Go.Proofs.YtonfifhoklaliaaW.PrintLast Go.Proofs.YtonfifhoklaliaaW.PrintMore
set_option linter.unusedVariables false
set_option linter.unusedSimpArgs false
mutual
def spec_StairA.l0 : Nat → Int → List (List Int) → Int → Option ((List (List Int)))
 | 0, _, _, _ => none
 | k + 1, x0, x4, x5 => if x5 ≤ x0 then (spec_StairA.l1 k x0 x4 x5 0) else (some x4)
def spec_StairA.l1 : Nat → Int → List (List Int) → Int → Int → Option ((List (List Int)))
 | 0, _, _, _, _ => none
 | k + 1, x0, x4, x5, x6 => if (wrap64 (x6 + x5)) ≤ x0 then (if x4.length < 5864062014805 then (spec_StairA.l1 k x0 (x4 ++ [(([x6, wrap64 (x6 + x5)] : List Int))]) x5 (wrap64 (x6 + 1))) else (none)) else (spec_StairA.l0 k x0 x4 (wrap64 (x5 + 1)))
end
def spec_StairA.f (k : Nat) (a0 : Int) : Option ((List (List Int))) := spec_StairA.l0 k a0 ([] : List (List Int)) 1
theorem spec_StairA.mono_l : ∀ k, (∀ y0 y1 y2, LeO (spec_StairA.l0 k y0 y1 y2) (spec_StairA.l0 (k + 1) y0 y1 y2)) ∧ (∀ y0 y1 y2 y3, LeO (spec_StairA.l1 k y0 y1 y2 y3) (spec_StairA.l1 (k + 1) y0 y1 y2 y3))
 | 0 => ⟨fun _ _ _ r h => by simp [spec_StairA.l0] at h, fun _ _ _ _ r h => by simp [spec_StairA.l1] at h⟩
 | k + 1 => by
  obtain ⟨ih0, ih1⟩ := spec_StairA.mono_l k
  refine ⟨?_, ?_⟩
  ·intro y0 y1 y2
   unfold spec_StairA.l0
   repeat' first
   | (with_reducible exact LeO.refl _)
   | (with_reducible exact LeO.none _)
   | (with_reducible refine LeO.ite ?_ ?_)
   | (with_reducible refine LeO.bind ?_ (fun _ => ?_))
   | exact ih0 _ _ _
   | exact ih1 _ _ _ _
   | exact LeO.none _
   | refine LeO.ite ?_ ?_
   | refine LeO.bind ?_ (fun _ => ?_)
  ·intro y0 y1 y2 y3
   unfold spec_StairA.l1
   repeat' first
   | (with_reducible exact LeO.refl _)
   | (with_reducible exact LeO.none _)
   | (with_reducible refine LeO.ite ?_ ?_)
   | (with_reducible refine LeO.bind ?_ (fun _ => ?_))
   | exact ih0 _ _ _
   | exact ih1 _ _ _ _
   | exact LeO.none _
   | refine LeO.ite ?_ ?_
   | refine LeO.bind ?_ (fun _ => ?_)
theorem spec_StairA.mono : ∀ a0 k, LeO (spec_StairA.f k a0) (spec_StairA.f (k + 1) a0) := by
 intro a0 k
 obtain ⟨ih0, ih1⟩ := spec_StairA.mono_l k
 unfold spec_StairA.f
 repeat' first
  | (with_reducible exact LeO.refl _)
  | (with_reducible exact LeO.none _)
  | (with_reducible refine LeO.ite ?_ ?_)
  | (with_reducible refine LeO.bind ?_ (fun _ => ?_))
  | exact ih0 _ _ _
  | exact ih1 _ _ _ _
  | exact LeO.none _
  | refine LeO.ite ?_ ?_
  | refine LeO.bind ?_ (fun _ => ?_)
mutual
def spec_StairB.l0 : Nat → List (List Int) → List (List Int) → Int → Int → List Int → Option (List Int × Bool)
 | 0, _, _, _, _, _ => none
 | k + 1, x1, x40, x41, x42, x1523000 => if x42 < x41 then (if 0 ≤ x42 then (if x42 < (x40.length : Int) then (spec_StairB.l1 k x1 x42 (rd_L1 x40 x42) x40 x41 x42 x1 (x1.length : Int) 0 x1523000) else (none)) else (none)) else (some (x1523000, true))
def spec_StairB.l1 : Nat → List (List Int) → Int → List Int → List (List Int) → Int → Int → List (List Int) → Int → Int → List Int → Option (List Int × Bool)
 | 0, _, _, _, _, _, _, _, _, _, _ => none
 | k + 1, x1, x8, x9, x40, x41, x42, x47, x48, x49, x1523000 => if x49 < x48 then (if 0 ≤ x49 then (if x49 < (x47.length : Int) then (if x8 = x49 then (spec_StairB.l1 k x1 x8 x9 x40 x41 x42 x47 x48 (wrap64 (x49 + 1)) x1523000) else (if 0 < (x9.length : Int) then (if 0 < ((rd_L1 x47 x49).length : Int) then (if (rd x9 0) ≤ (rd (rd_L1 x47 x49) 0) then (if 1 < ((rd_L1 x47 x49).length : Int) then (if 1 < (x9.length : Int) then (if (rd (rd_L1 x47 x49) 1) ≤ (rd x9 1) then (if 0 ≤ x8 then (if x8 < (x1523000.length : Int) then (spec_StairB.l1 k x1 x8 x9 x40 x41 x42 x47 x48 (wrap64 (x49 + 1)) (x1523000.set (x8 : Int).toNat (Go.bits .or .i64 (rd x1523000 x8) (shl .i64 1 x49)))) else (none)) else (none)) else (spec_StairB.l1 k x1 x8 x9 x40 x41 x42 x47 x48 (wrap64 (x49 + 1)) x1523000)) else (none)) else (none)) else (spec_StairB.l1 k x1 x8 x9 x40 x41 x42 x47 x48 (wrap64 (x49 + 1)) x1523000)) else (none)) else (none))) else (none)) else (none)) else (spec_StairB.l0 k x1 x40 x41 (wrap64 (x42 + 1)) x1523000)
end
def spec_StairB.f (k : Nat) (a0 : Int) (l1 : List (List Int)) : Option (List Int × Bool) := if 0 ≤ (l1.length : Int) then (if ((l1.length : Int) : Int).toNat ≤ 35184372088832 then (spec_StairB.l0 k l1 l1 (l1.length : Int) 0 (List.replicate ((l1.length : Int) : Int).toNat 0)) else (none)) else (none)
theorem spec_StairB.mono_l : ∀ k, (∀ y0 y1 y2 y3 y4, LeO (spec_StairB.l0 k y0 y1 y2 y3 y4) (spec_StairB.l0 (k + 1) y0 y1 y2 y3 y4)) ∧ (∀ y0 y1 y2 y3 y4 y5 y6 y7 y8 y9, LeO (spec_StairB.l1 k y0 y1 y2 y3 y4 y5 y6 y7 y8 y9) (spec_StairB.l1 (k + 1) y0 y1 y2 y3 y4 y5 y6 y7 y8 y9))
 | 0 => ⟨fun _ _ _ _ _ r h => by simp [spec_StairB.l0] at h, fun _ _ _ _ _ _ _ _ _ _ r h => by simp [spec_StairB.l1] at h⟩
 | k + 1 => by
  obtain ⟨ih0, ih1⟩ := spec_StairB.mono_l k
  refine ⟨?_, ?_⟩
  ·intro y0 y1 y2 y3 y4
   unfold spec_StairB.l0
   repeat' first
   | (with_reducible exact LeO.refl _)
   | (with_reducible exact LeO.none _)
   | (with_reducible refine LeO.ite ?_ ?_)
   | (with_reducible refine LeO.bind ?_ (fun _ => ?_))
   | exact ih0 _ _ _ _ _
   | exact ih1 _ _ _ _ _ _ _ _ _ _
   | exact LeO.none _
   | refine LeO.ite ?_ ?_
   | refine LeO.bind ?_ (fun _ => ?_)
  ·intro y0 y1 y2 y3 y4 y5 y6 y7 y8 y9
   unfold spec_StairB.l1
   repeat' first
   | (with_reducible exact LeO.refl _)
   | (with_reducible exact LeO.none _)
   | (with_reducible refine LeO.ite ?_ ?_)
   | (with_reducible refine LeO.bind ?_ (fun _ => ?_))
   | exact ih0 _ _ _ _ _
   | exact ih1 _ _ _ _ _ _ _ _ _ _
   | exact LeO.none _
   | refine LeO.ite ?_ ?_
   | refine LeO.bind ?_ (fun _ => ?_)
theorem spec_StairB.mono : ∀ a0 a1 k, LeO (spec_StairB.f k a0 a1) (spec_StairB.f (k + 1) a0 a1) := by
 intro a0 a1 k
 obtain ⟨ih0, ih1⟩ := spec_StairB.mono_l k
 unfold spec_StairB.f
 repeat' first
  | (with_reducible exact LeO.refl _)
  | (with_reducible exact LeO.none _)
  | (with_reducible refine LeO.ite ?_ ?_)
  | (with_reducible refine LeO.bind ?_ (fun _ => ?_))
  | exact ih0 _ _ _ _ _
  | exact ih1 _ _ _ _ _ _ _ _ _ _
  | exact LeO.none _
  | refine LeO.ite ?_ ?_
  | refine LeO.bind ?_ (fun _ => ?_)
def spec_StairB.T18 : Bool × List (List Nat × List Nat) := (true, [([], []), ([], []), ([0, 1], [0, 1]), ([2], [2]), ([3], [3]), ([4, 3], [3, 4]), ([5, 3], [3, 5]), ([3], [3]), ([7, 3], [3, 7]), ([8, 3], [3, 8]), ([6, 9, 3], [3, 6, 9]), ([3, 10], [3, 10]), ([11, 3], [11]), ([12], [12]), ([13, 12], [12, 13]), ([14, 12], [12, 14]), ([12], [12]), ([16, 12], [12, 16]), ([17, 12], [12, 17]), ([15, 18, 12], [12, 15, 18]), ([12, 19], [12, 19])])
def spec_StairB.B18 : List Nat := [0, 0, 3, 7, 15, 31, 63, 15, 143, 399, 1023, 2047, 4095, 8191, 16383, 32767, 8191, 73727, 204799, 524287, 1048575]
theorem spec_StairB.tab18 : rtab .any (opsOf Try.f17 18) = spec_StairB.T18 := by kernel_rfl
theorem spec_StairB.bits18 : waitsOk spec_StairB.T18.2 spec_StairB.B18 = true := by kernel_rfl
def spec_StairB.T19 : Bool × List (List Nat × List Nat) := (true, [([], []), ([0], [0]), ([], []), ([1, 2], [1, 2]), ([3], [3]), ([], []), ([5], [5]), ([4, 6], [4, 6]), ([1, 2, 0, 1, 2, 3, 4, 5, 6, 7], [1, 2]), ([8, 7, 0, 1, 2, 3, 4, 5, 6, 7], [7, 8])])
def spec_StairB.B19 : List Nat := [0, 1, 0, 7, 15, 0, 32, 127, 255, 511]
theorem spec_StairB.tab19 : rtab .any (opsOf Try.f17 19) = spec_StairB.T19 := by kernel_rfl
theorem spec_StairB.bits19 : waitsOk spec_StairB.T19.2 spec_StairB.B19 = true := by kernel_rfl
def spec_Staircase.f (k : Nat) (a0 : Int) : Option (List Int × Bool) := (spec_l1In.f a0 1 4).bind fun b => if b = true then (spec_StairA.f k a0).bind fun st => spec_StairB.f k a0 st else some ([], false)
theorem spec_Staircase.mono : ∀ a0 k, LeO (spec_Staircase.f k a0) (spec_Staircase.f (k + 1) a0) := fun a0 k => LeO.bind (LeO.refl _) (fun b => LeO.ite (LeO.bind (spec_StairA.mono _ _) (fun st => spec_StairB.mono _ _ _)) (LeO.refl _))
set_option maxHeartbeats 8000000 in
set_option maxRecDepth 100000 in
theorem spec_Staircase.calls (k : Nat) (a0 : Int) (r1 : List Int) (r2 : Bool) (w : World) (h : spec_Staircase.f k a0 = some (r1, r2)) :
 Calls Try.prog 17 #[.int .i64 a0] w fun e w' => ∃ v0_ : Value, e = .returned (.tuple #[.agg #[v0_], .bool r2]) ∧ Kd.R (Kd.int .i64) 3 w' w.heap.size (fun _ => True) v0_ r1 ∧ Below w.heap.size w w' := by
 have hu28 := Try.underlying28
 unfold spec_Staircase.f at h
 obtain ⟨b, hb1, h⟩ := Option.bind_eq_some_iff.1 h
 have HIN := am hb1
 have HB := am (Below.refl w.heap.size w)
 clear hb1
 cases b with
 | false =>
  obtain ⟨rfl, rfl⟩ : [] = r1 ∧ false = r2 := by simpa using h
  clear h
  go_enter Try.func17, Try.ntmps17
  go_wp2_with (first | ((with_reducible refine gate_dst (N := 2) rfl ?_); refine qx (N := 2) (cs := #[.slice none 0 0]) (t := 28) ?_; intro gb1518 hg w5 hbox hb; have n0_ := am (below_step qB hb); have BK1518 := am (hbox); have GW1518 := am (qg w hg); have GE1518 := am (qg w hg); clear HB; have HB := n0_; clear n0_; clear hb hbox hg) | (go_at_call 90; (with_reducible refine (spec_l1In.calls a0 1 4 false _ HIN.out).mono ?_); rintro e w' ⟨rfl, ⟨nd, rfl⟩⟩; have hcz : (w5.drewN nd).cell? ⟨gb1518, 0, none⟩ = some (.slice none 0 0) := (blk_cell (blk_drewN BK1518.out nd) 0).trans rfl; have hfz := blk_frozen (blk_drewN BK1518.out nd) 0))
  refine bodyPost_ret (results_ct rfl _ _ gb1518 28 #[.slice none 0 0] (0, 0) _ rfl (by refine blk_put (cs := #[.slice none 0 0]) ?_ 0 _ rfl; refine qb ?_; exact BK1518.out) Try.underlying28 rfl (by kernel_rfl)) rfl ?_
  exact ⟨_, rfl, Kd.R_nil _ _ _ _ _, below_set qB GE1518.out⟩
 | true =>
  have h := (if_pos rfl).symm.trans h
  obtain ⟨st0, hst, h⟩ := Option.bind_eq_some_iff.1 h
  have H' := am (show spec_StairA.l0 k a0 ([] : List (List Int)) 1 = some st0 from hst)
  have HBRUN := am h
  clear hst h
  go_enter Try.func17, Try.ntmps17
  go_wp2_with (first | ((with_reducible refine gate_dst (N := 2) rfl ?_); refine qx (N := 2) (cs := #[.slice none 0 0]) (t := 28) ?_; intro gb1518 hg w5 hbox hb; have n0_ := am (below_step qB hb); have BK1518 := am (hbox); have GW1518 := am (qg w hg); have GE1518 := am (qg w hg); clear HB; have HB := n0_; clear n0_; clear hb hbox hg) | (go_at_call 90; (with_reducible refine (spec_l1In.calls a0 1 4 true _ HIN.out).mono ?_); rintro e w' ⟨rfl, ⟨nd, rfl⟩⟩; have BKA := am (blk_drewN BK1518.out nd); have HBA := am (pw_below_drewN HB.out nd); clear BK1518 HB; generalize w5.drewN nd = W1 at BKA HBA ⊢; have HB := am (Below.refl W1.heap.size W1)))
  go_loopg [4, 5] k (fun kq v4 v5 w' => ∃ (x4_1 : List (List Int)) (x5_1 : Int), v5 = .int .i64 x5_1 ∧ Aside0 (spec_StairA.l0 kq a0 x4_1 x5_1 = some st0) ∧ Aside0 (kq ≤ k) ∧ Aside0 (Kd.S (Kd.slice 3 (Kd.int .i64)) 26 w' W1.heap.size (fun _ => True) v4 x4_1) ∧ Aside0 (Below W1.heap.size W1 w'))
  case atStart => exact ⟨(([] : List (List Int))), (1), qe, H', ⟨Nat.le_refl _⟩, ⟨by first | exact Kd.S_nil _ _ _ _ _ | exact Kd.N_nil _ _ _ _ _ | exact Kd.V_nil _ _ _ _ _ | exact Kd.Q_nil _ _ _ _ _ | exact Kd.R_nil _ _ _ _ _⟩, ⟨qB⟩⟩
  case round =>
   clear H'
   try clear c1
   obtain ⟨x4_1, x5_1, rfl, HA, HK1, HO_4, HB⟩ := hrel
   cases gk with
   | zero => exact absurd HA.out (by simp [spec_StairA.l0])
   | succ k1 =>
    have H := HA.out
    clear HA
    simp only [spec_StairA.l0] at H
    by_cases c2 : x5_1 ≤ a0
    ·rw [if_pos c2] at H
     have c2b0 := decide_eq_true c2
     clear c2
     have H' := am H
     clear H
     go_wp2
     go_loopg [4, 6] k1 (fun kq v4 v6 w' => ∃ (x4_2 : List (List Int)) (x6_2 : Int), v6 = .int .i64 x6_2 ∧ Aside0 (spec_StairA.l1 kq a0 x4_2 x5_1 x6_2 = some st0) ∧ Aside0 (kq ≤ k1) ∧ Aside0 (Kd.S (Kd.slice 3 (Kd.int .i64)) 26 w' W1.heap.size (fun _ => True) v4 x4_2) ∧ Aside0 (Below W1.heap.size W1 w'))
     case atStart => exact ⟨(x4_1), (0), qe, H', ⟨Nat.le_refl _⟩, ⟨qS HO_4.out⟩, ⟨qB⟩⟩
     case round =>
      clear H'
      try clear c1
      try clear c2
      try clear c2b0
      try clear p2
      obtain ⟨x4_2, x6_2, rfl, HA, HK2, HO_4, HB⟩ := hrel
      cases gk with
      | zero => exact absurd HA.out (by simp [spec_StairA.l1])
      | succ k2 =>
       have H := HA.out
       clear HA
       simp only [spec_StairA.l1] at H
       by_cases c3 : (wrap64 (x6_2 + x5_1)) ≤ a0
       ·rw [if_pos c3] at H
        have c3b0 : decide ((wrap64 (x6_2 + x5_1)) ≤ a0) = true := decide_eq_true c3
        clear c3
        obtain ⟨y1512, hy1512⟩ : ∃ y_ : List Int, y_ = (([x6_2, wrap64 (x6_2 + x5_1)] : List Int)) := ⟨_, rfl⟩
        replace H : (if x4_2.length < 5864062014805 then (spec_StairA.l1 k2 a0 (x4_2 ++ [y1512]) x5_1 (wrap64 (x6_2 + 1))) else (none)) = some st0 := by first | (rw [hy1512]; with_reducible exact H) | (have H2_ := (Option.bind_some _ _).symm.trans H; rw [hy1512]; with_reducible exact H2_) | (have H2_ := (Option.bind_some _ _).symm.trans H; with_reducible exact H2_) | with_reducible exact H | (rw [hy1512]; exact H) | exact H
        have Ny1512 := am hy1512
        clear hy1512
        by_cases c4 : x4_2.length < 5864062014805
        rotate_left
        ·rw [if_neg c4] at H
         exact absurd H (by simp)
        rw [if_pos c4] at H
        have LMc4 := am c4
        clear c4
        obtain ⟨y1515, hy1515⟩ : ∃ y_ : List (List Int), y_ = (x4_2 ++ [y1512]) := ⟨_, rfl⟩
        replace H : (spec_StairA.l1 k2 a0 y1515 x5_1 (wrap64 (x6_2 + 1))) = some st0 := by first | (rw [hy1515]; with_reducible exact H) | (have H2_ := (Option.bind_some _ _).symm.trans H; rw [hy1515]; with_reducible exact H2_) | (have H2_ := (Option.bind_some _ _).symm.trans H; with_reducible exact H2_) | with_reducible exact H | (rw [hy1515]; exact H) | exact H
        have Ny1515 := am hy1515
        clear hy1515
        have H' := am H
        clear H
        go_wp2_with (first | ((with_reducible refine gate_dst (N := 33) rfl ?_); refine Kd.R_lit (Kd.int .i64) _ 3 ?hg (N := 33) ?hd (xs := ([x6_2, wrap64 (x6_2 + x5_1)] : List Int)) (inner := [.int .i64 x6_2, .int .i64 (wrap64 (x6_2 + x5_1))]) (ok := fun _ => True) (okp := fun _ => True) ?hr ?hp (fun _ hk => hk) trivial (Below.refl _ _) (Nat.le_refl _) (by simp) ?_; (case hd => rfl); (case hg => rfl); (case hr => first | (go_simp; done) | (go_simp; rfl)); (case hp => exact (Reps.one (show Kd.M (Kd.int .i64) _ _ _ x6_2 [.int .i64 x6_2] from rfl) (Reps.one (show Kd.M (Kd.int .i64) _ _ _ (wrap64 (x6_2 + x5_1)) [.int .i64 (wrap64 (x6_2 + x5_1))] from rfl) (Reps.none _ _)))); intro v1513 w5 ho6 hb hg_ hnew_; clear hg_ hnew_; (first | rw [← Ny1512.out] at ho6 | (simp only [Int.reduceToNat] at ho6; rw [← Ny1512.out] at ho6)); replace HO_4 := am (Kd.S_elder' (qS HO_4.out) (Kd.R_base ho6) hb); have HO1514 := am (Kd.R_lower ho6 (below_size qB)); replace HB := am (below_step qB hb); clear hb ho6; obtain ⟨Ao8, co8, eo8⟩ := Kd.R_slice HO1514.out; subst eo8) | ((with_reducible refine gate_builtin (b := .append) (xs := #[.tmp 28, .tmp 34]) rfl ?_); at_builtin; refine Kd.S_append (Kd.slice 3 (Kd.int .i64)) (w0 := W1) W1.heap.size rfl (.tmp 28) (.tmp 34) 56 26 (.slice none 0 0) 24 rfl Try.underlying56 info26 rfl (by decide) (by omega) u4 x4_2 y1512 [.slice Ao8 y1512.length co8] (fun _ => True) (fun k_ => some k_ = (.slice Ao8 y1512.length co8 : Value).ownBlock) rfl rfl ?aP (fun k_ hk_ => ((Kd.R_mono (ok' := fun k_ => ((fun _ => True)) k_ ∧ some k_ ≠ (u4 : Value).ownBlock) (Kd.R_apart' (HO1514.out) (Kd.S_typed HO_4.out) (by decide)) (fun k_ hk => ⟨trivial, hk.2⟩))).1 k_ hk_.symm) ?aF ?aO ?aB ?aS ?aL ?_; (case aP => exact Kd.M_row (Kd.R_mono (Kd.R_tight rfl (Kd.R_mono (ok' := fun k_ => ((fun _ => True)) k_ ∧ some k_ ≠ (u4 : Value).ownBlock) (Kd.R_apart' (HO1514.out) (Kd.S_typed HO_4.out) (by decide)) (fun k_ hk => ⟨trivial, hk.2⟩))) (fun _ h_ => h_))); (case aB => exact qB); (case aF => exact (fun _ _ => trivial)); (case aO => exact (qS (Kd.S_mono HO_4.out (fun k_ hk => ⟨trivial, fun e_ => hk.2 e_⟩)))); (case aS => exact (below_size qB)); (case aL => have := LMc4.out; omega); intro v1516 w7 ho hb hg hat; rw [← Ny1515.out] at ho; have n0_ := am (hb); have HO1517 := am (ho); clear HB HO_4 HO1514; have HB := n0_; clear n0_; clear ho hb hg hat))
        go_roundg k2
        case measure => have := HK1.out; have := HK2.out; omega
        case rel => exact ⟨(y1515), (wrap64 (x6_2 + 1)), qe, H', ⟨by have := HK1.out; have := HK2.out; omega⟩, ⟨qS HO1517.out⟩, ⟨qB⟩⟩
       ·rw [if_neg c3] at H
        have c3b0 : decide ((wrap64 (x6_2 + x5_1)) ≤ a0) = false := decide_eq_false c3
        clear c3
        have H' := am H
        clear H
        go_wp2
        go_roundg k2
        case measure => have := HK1.out; have := HK2.out; omega
        case rel => exact ⟨(x4_2), (wrap64 (x5_1 + 1)), qe, H', ⟨by have := HK1.out; have := HK2.out; omega⟩, ⟨qS HO_4.out⟩, ⟨qB⟩⟩
    ·rw [if_neg c2] at H
     have c2b0 := decide_eq_false c2
     clear c2
     obtain rfl := Option.some.inj H
     obtain ⟨As1, cs1, es1⟩ := Kd.S_slice HO_4.out
     subst es1
     have HR1 := am (Kd.S_reads' HO_4.out).2.2
     have HC1 := am (Kd.S_reads' HO_4.out).2.1
     have BK1518 := am (blk_below BKA.out HB.out)
     have HBW := am (HBA.out.trans (HB.out.mono HBA.out.size))
     obtain ⟨W2, rfl⟩ : ∃ x, x = wr := ⟨wr, rfl⟩
     clear HB HO_4 BKA HBA
     have HB := am (Below.refl W2.heap.size W2)
     have H : (if 0 ≤ (x4_1.length : Int) then (if ((x4_1.length : Int) : Int).toNat ≤ 35184372088832 then (spec_StairB.l0 k x4_1 x4_1 (x4_1.length : Int) 0 (List.replicate ((x4_1.length : Int) : Int).toNat 0)) else (none)) else (none)) = some (r1, r2) := HBRUN.out
     clear HBRUN
     by_cases c3 : 0 ≤ (x4_1.length : Int)
     ·rw [if_pos c3] at H
      have c3b0 := eq_true c3
      have c3b1 : decide (0 ≤ (x4_1.length : Int)) = true := decide_eq_true c3
      clear c3
      by_cases c4 : ((x4_1.length : Int) : Int).toNat ≤ 35184372088832
      rotate_left
      ·rw [if_neg c4] at H
       exact absurd H (by simp)
      rw [if_pos c4] at H
      have c4b0 := eq_true c4
      have c4b1 : decide (((x4_1.length : Int) : Int).toNat ≤ 35184372088832) = true := decide_eq_true c4
      clear c4
      obtain ⟨y1519, hy1519⟩ : ∃ y_ : List Int, y_ = (List.replicate ((x4_1.length : Int) : Int).toNat 0) := ⟨_, rfl⟩
      replace H : (spec_StairB.l0 k x4_1 x4_1 (x4_1.length : Int) 0 y1519) = some (r1, r2) := by first | (rw [hy1519]; with_reducible exact H) | (have H2_ := (Option.bind_some _ _).symm.trans H; rw [hy1519]; with_reducible exact H2_) | (have H2_ := (Option.bind_some _ _).symm.trans H; with_reducible exact H2_) | with_reducible exact H | (rw [hy1519]; exact H) | exact H
      have Ny1519 := am hy1519
      clear hy1519
      have H' := am H
      clear H
      go_wp2_with (first | ((with_reducible refine gate_dst (N := 38) rfl ?_); refine Kd.R_make (Kd.int .i64) _ 3 rfl (N := 38) rfl 26 _ _ rfl (x4_1.length : Int) rfl rfl Try.underlying26 (.int .i64 0) 8 info3 rfl (by decide) (by omega) 0 (ok := fun _ => True) (okp := fun _ => True) rfl (fun _ hk => hk) trivial (qd) (Nat.le_trans (Nat.mul_le_mul_right _ (qd : (x4_1.length : Int).toNat ≤ 35184372088832)) (by omega)) (Below.refl _ _) (Nat.le_refl _) ?_; intro v1520 w6 ho7 hb hg_ hnew_; clear hg_ hnew_; (first | rw [← Ny1519.out] at ho7 | (simp only [Int.reduceToNat] at ho7; rw [← Ny1519.out] at ho7)); have HO1521 := am (Kd.R_lower ho7 (below_size qB)); replace BK1518 := am (blk_below (g := gb1518) (o := .cells #[.slice none 0 0] 28 (0, 0)) (qb BK1518.out) hb); replace HB := am (below_step qB hb); clear hb ho7; obtain ⟨Ao8, co8, eo8⟩ := Kd.R_slice HO1521.out; subst eo8) | ((with_reducible refine gate_dst (N := 7) rfl ?_); refine qx (N := 7) (cs := #[.slice none 0 0]) (t := 28) ?_; intro gb1522 hg w9 hbox hb; replace HO1521 := am (Kd.R_below (qR HO1521.out) hb); have n1_ := am (blk_below (g := gb1518) (o := .cells #[.slice none 0 0] 28 (0, 0)) (qb BK1518.out) hb); have n2_ := am (below_step qB hb); have BK1522 := am (hbox); have GW1522 := am (qg W2 hg); have GE1522 := am (qg W2 hg); have NB1518_1522 := am ((by rw [hg]; exact Nat.ne_of_lt (blk_lt (g := gb1518) (o := .cells #[.slice none 0 0] 28 (0, 0)) (qb BK1518.out)) : gb1518 ≠ gb1522)); have NB1522_1518 := am ((by rw [hg]; exact Nat.ne_of_gt (blk_lt (g := gb1518) (o := .cells #[.slice none 0 0] 28 (0, 0)) (qb BK1518.out)) : gb1522 ≠ gb1518)); clear BK1518 HB; have BK1518 := n1_; have HB := n2_; clear n1_ n2_; clear hb hbox hg; have hnb10 := NB1522_1518.out; have hnc10 := NB1518_1522.out; have hcz11_0 := qz w9 BK1522.out; have hfz11_0 := blk_frozen BK1522.out 0))
      go_loopg [42] k (fun kq v42 w' => ∃ (x42_1 : Int) (x1523000_1 : List Int) (u1523000 : Value), v42 = .int .i64 x42_1 ∧ Aside0 (spec_StairB.l0 kq x4_1 x4_1 (x4_1.length : Int) x42_1 x1523000_1 = some (r1, r2)) ∧ Aside0 (kq ≤ k) ∧ Aside0 (Kd.R (Kd.int .i64) 3 w' W2.heap.size (fun _ => True) u1523000 x1523000_1) ∧ Aside0 (w'.heap[gb1518]? = some (.cells #[(.slice none 0 0)] 28 (0, 0))) ∧ Aside0 (w'.heap[gb1522]? = some (.cells #[u1523000] 28 (0, 0))) ∧ Aside0 (Below W2.heap.size W2 w'))
      case atStart => exact ⟨(0), (y1519), (.slice Ao8 y1519.length co8), qe, H', ⟨Nat.le_refl _⟩, ⟨qR (Kd.R_mono (Kd.R_far (p := ⟨gb1522, 0, none⟩) (Kd.R_types HO1521.out BK1522.out (by decide)) (fun _ hk => hk.2) (.slice Ao8 y1519.length co8)) (fun _ hk => trivial))⟩, ⟨by (with_reducible repeat (first | refine blk_drewN ?_ _ | refine blk_drew ?_ | refine blk_alloc ?_ _)); refine blk_far ?_ NB1518_1522.out _; refine qb ?_; exact BK1518.out⟩, ⟨by (with_reducible repeat (first | refine blk_drewN ?_ _ | refine blk_drew ?_ | refine blk_alloc ?_ _)); refine blk_put (cs := #[.slice none 0 0]) ?_ 0 _ rfl; refine qb ?_; exact BK1522.out⟩, ⟨qB⟩⟩
      case round =>
       clear H'
       try clear c1
       try clear p2
       try clear c3
       try clear c3b0
       try clear c3b1
       try clear c4
       try clear c4b0
       try clear c4b1
       try clear c10
       try clear hcz11_0
       try clear hfz11_0
       obtain ⟨x42_1, x1523000_1, u1523000, rfl, HA, HK1, HO_1523000, BK1518, BK1522, HB⟩ := hrel
       cases gk with
       | zero => exact absurd HA.out (by simp [spec_StairB.l0])
       | succ k1 =>
        have H := HA.out
        clear HA
        simp only [spec_StairB.l0] at H
        by_cases c12 : x42_1 < (x4_1.length : Int)
        ·rw [if_pos c12] at H
         have c12b0 := decide_eq_true c12
         clear c12
         by_cases c13 : 0 ≤ x42_1
         rotate_left
         ·rw [if_neg c13] at H
          exact absurd H (by simp)
         rw [if_pos c13] at H
         have c13b0 := decide_eq_true c13
         clear c13
         by_cases c14 : x42_1 < (x4_1.length : Int)
         rotate_left
         ·rw [if_neg c14] at H
          exact absurd H (by simp)
         rw [if_pos c14] at H
         have c14b0 := decide_eq_true c14
         clear c14
         have H' := am H
         clear H
         have p1523 : 0 ≤ (x42_1 : Int) := qd
         have q1523 : x42_1 < (x4_1.length : Int) := qd
         obtain ⟨ad1523, A1523_0, c1523_0, e1523, hx1523_0, hl1523_0, hi1523_0⟩ := at_L1 HR1.out x42_1 p1523 q1523
         cases e1523
         replace hx1523_0 := (HB.out.cell (World.block_lt_of_cell? W2 _ hx1523_0)).trans hx1523_0
         have HR1523_0 := am hi1523_0
         have HC1523_0 := am hl1523_0
         clear hi1523_0 hl1523_0
         replace p1523 := eq_true p1523
         replace q1523 := eq_true q1523
         go_wp2
         go_loopg [49] k1 (fun kq v49 w' => ∃ (x49_2 : Int) (x1523000_2 : List Int) (u1523000 : Value), v49 = .int .i64 x49_2 ∧ Aside0 (spec_StairB.l1 kq x4_1 x42_1 (rd_L1 x4_1 x42_1) x4_1 (x4_1.length : Int) x42_1 x4_1 (x4_1.length : Int) x49_2 x1523000_2 = some (r1, r2)) ∧ Aside0 (kq ≤ k1) ∧ Aside0 (Kd.R (Kd.int .i64) 3 w' W2.heap.size (fun _ => True) u1523000 x1523000_2) ∧ Aside0 (w'.heap[gb1518]? = some (.cells #[(.slice none 0 0)] 28 (0, 0))) ∧ Aside0 (w'.heap[gb1522]? = some (.cells #[u1523000] 28 (0, 0))) ∧ Aside0 (Below W2.heap.size W2 w'))
         case atStart => exact ⟨(0), (x1523000_1), (u1523000), qe, H', ⟨Nat.le_refl _⟩, ⟨qR HO_1523000.out⟩, ⟨qb BK1518.out⟩, ⟨qb BK1522.out⟩, ⟨qB⟩⟩
         case round =>
          clear H'
          try clear c1
          try clear p1
          try clear q1
          try clear hx1
          try clear p2
          try clear c3
          try clear c3b0
          try clear c3b1
          try clear c4
          try clear c4b0
          try clear c4b1
          try clear c10
          try clear c12
          try clear c12b0
          try clear c13
          try clear c13b0
          try clear c14
          try clear c14b0
          try clear hcz11_0
          try clear hfz11_0
          try clear hx1523_0
          try clear p1523
          try clear p2
          try clear q1523
          obtain ⟨x49_2, x1523000_2, u1523000, rfl, HA, HK2, HO_1523000, BK1518, BK1522, HB⟩ := hrel
          cases gk with
          | zero => exact absurd HA.out (by simp [spec_StairB.l1])
          | succ k2 =>
           have H := HA.out
           clear HA
           simp only [spec_StairB.l1] at H
           by_cases c15 : x49_2 < (x4_1.length : Int)
           ·rw [if_pos c15] at H
            have c15b0 := decide_eq_true c15
            clear c15
            by_cases c16 : 0 ≤ x49_2
            rotate_left
            ·rw [if_neg c16] at H
             exact absurd H (by simp)
            rw [if_pos c16] at H
            have c16b0 := decide_eq_true c16
            clear c16
            by_cases c17 : x49_2 < (x4_1.length : Int)
            rotate_left
            ·rw [if_neg c17] at H
             exact absurd H (by simp)
            rw [if_pos c17] at H
            have c17b0 := decide_eq_true c17
            clear c17
            by_cases c18 : x42_1 = x49_2
            ·rw [if_pos c18] at H
             have c18b0 : (x42_1 == x49_2) = true := beq_iff_eq.mpr c18
             have c18b1 : (x42_1 != x49_2) = false := bne_eq_false_iff_eq.mpr c18
             clear c18
             have H' := am H
             clear H
             have p1524 : 0 ≤ (x49_2 : Int) := qd
             have q1524 : x49_2 < (x4_1.length : Int) := qd
             obtain ⟨ad1524, A1524_0, c1524_0, e1524, hx1524_0, hl1524_0, hi1524_0⟩ := at_L1 HR1.out x49_2 p1524 q1524
             obtain rfl : ad1523 = ad1524 := (by injection e1524)
             replace hx1524_0 := (HB.out.cell (World.block_lt_of_cell? W2 _ hx1524_0)).trans hx1524_0
             have HR1524_0 := am hi1524_0
             have HC1524_0 := am hl1524_0
             clear hi1524_0 hl1524_0
             replace p1524 := eq_true p1524
             replace q1524 := eq_true q1524
             try go_wp2
             have n0_ := am (Kd.R_drew HO_1523000.out)
             have n1_ := am (blk_drew BK1518.out)
             have n2_ := am (blk_drew BK1522.out)
             have n3_ := am (below_drew1 HB.out)
             clear HO_1523000
             clear BK1518
             clear BK1522
             clear HB
             have HO_1523000 := n0_
             have BK1518 := n1_
             have BK1522 := n2_
             have HB := n3_
             clear n0_ n1_ n2_ n3_
             refine start_ (n := 21) (S := fun w' => True) (ds := []) #[false, false, false, false, false, false, false, false, false, false, false, false, false, false, false, false, false, false, false, false, false] (by kernel_rfl) rfl rfl trivial (fun hHeld => ?_); refine with_tabW spec_StairB.tab18 spec_StairB.bits18 (fun HT_ HW_ => ?_)
             generalize wr.drew = w19 at HO_1523000 BK1518 BK1522 HB hHeld ⊢
             refine pure_ (i := 0) (N := some 54) (v := ?_) (a' := ?_) #[true, false, false, false, false, false, false, false, false, false, false, false, false, false, false, false, false, false, false, false, false] rfl rfl (any_of HT_.out (by kernel_rfl)) (fun _ _ _ h => h) (Or.inl ⟨by rfl, ?_⟩) ?_ ?_
             rotate_left
             ·intro w'
              go_simp
              with_reducible rfl
             rotate_left
             ·exact qP
             refine pure_ (i := 1) (N := some 55) (v := ?_) (a' := ?_) #[true, true, false, false, false, false, false, false, false, false, false, false, false, false, false, false, false, false, false, false, false] rfl rfl (any_of HT_.out (by kernel_rfl)) (fun _ _ _ h => h) (Or.inl ⟨by rfl, ?_⟩) ?_ ?_
             rotate_left
             ·intro w'
              go_simp
              with_reducible rfl
             rotate_left
             ·exact qP
             refine pure_ (i := 2) (N := some 56) (v := ?_) (a' := ?_) #[true, true, true, false, false, false, false, false, false, false, false, false, false, false, false, false, false, false, false, false, false] rfl rfl (any_of HT_.out (by kernel_rfl)) (fun _ _ _ h => h) (Or.inl ⟨by rfl, ?_⟩) ?_ ?_
             rotate_left
             ·intro w'
              go_simp
              with_reducible rfl
             rotate_left
             ·exact qP
             refine pure_ (i := 3) (N := some 57) (v := ?_) (a' := ?_) #[true, true, true, true, false, false, false, false, false, false, false, false, false, false, false, false, false, false, false, false, false] rfl rfl (any_of HT_.out (by kernel_rfl)) (fun _ _ _ h => h) (Or.inl ⟨by rfl, ?_⟩) ?_ ?_
             rotate_left
             ·intro w'
              go_simp
              with_reducible rfl
             rotate_left
             ·exact qP
             refine pure_ (i := 4) (N := some 58) (v := undef) (a' := ?_) #[true, true, true, true, true, false, false, false, false, false, false, false, false, false, false, false, false, false, false, false, false] rfl rfl (any_of HT_.out (by kernel_rfl)) (fun _ _ _ h => h) (Or.inr ⟨by rfl, rfl⟩) ?_ ?_
             rotate_left
             ·exact qP
             refine pure_ (i := 5) (N := some 59) (v := undef) (a' := ?_) #[true, true, true, true, true, true, false, false, false, false, false, false, false, false, false, false, false, false, false, false, false] rfl rfl (any_of HT_.out (by kernel_rfl)) (fun _ _ _ h => h) (Or.inr ⟨by rfl, rfl⟩) ?_ ?_
             rotate_left
             ·exact qP
             refine pure_ (i := 6) (N := some 60) (v := undef) (a' := ?_) #[true, true, true, true, true, true, true, false, false, false, false, false, false, false, false, false, false, false, false, false, false] rfl rfl (any_of HT_.out (by kernel_rfl)) (fun _ _ _ h => h) (Or.inr ⟨by rfl, rfl⟩) ?_ ?_
             rotate_left
             ·exact qP
             refine pure_ (i := 7) (N := some 61) (v := undef) (a' := ?_) #[true, true, true, true, true, true, true, true, false, false, false, false, false, false, false, false, false, false, false, false, false] rfl rfl (any_of HT_.out (by kernel_rfl)) (fun _ _ _ h => h) (Or.inr ⟨by rfl, rfl⟩) ?_ ?_
             rotate_left
             ·exact qP
             refine pure_ (i := 8) (N := some 62) (v := undef) (a' := ?_) #[true, true, true, true, true, true, true, true, true, false, false, false, false, false, false, false, false, false, false, false, false] rfl rfl (any_of HT_.out (by kernel_rfl)) (fun _ _ _ h => h) (Or.inr ⟨by rfl, rfl⟩) ?_ ?_
             rotate_left
             ·exact qP
             refine pure_ (i := 9) (N := some 63) (v := undef) (a' := ?_) #[true, true, true, true, true, true, true, true, true, true, false, false, false, false, false, false, false, false, false, false, false] rfl rfl (any_of HT_.out (by kernel_rfl)) (fun _ _ _ h => h) (Or.inr ⟨by rfl, rfl⟩) ?_ ?_
             rotate_left
             ·exact qP
             refine pure_ (i := 10) (N := some 64) (v := undef) (a' := ?_) #[true, true, true, true, true, true, true, true, true, true, true, false, false, false, false, false, false, false, false, false, false] rfl rfl (any_of HT_.out (by kernel_rfl)) (fun _ _ _ h => h) (Or.inr ⟨by rfl, rfl⟩) ?_ ?_
             rotate_left
             ·exact qP
             refine pure_ (i := 11) (N := some 65) (v := ?_) (a' := ?_) #[true, true, true, true, true, true, true, true, true, true, true, true, false, false, false, false, false, false, false, false, false] rfl rfl (any_of HT_.out (by kernel_rfl)) (fun _ _ _ h => h) (Or.inl ⟨by rfl, ?_⟩) ?_ ?_
             rotate_left
             ·intro w'
              go_simp
              with_reducible rfl
             rotate_left
             ·exact qP
             refine pure_ (i := 12) (N := some 66) (v := ?_) (a' := ?_) #[true, true, true, true, true, true, true, true, true, true, true, true, true, false, false, false, false, false, false, false, false] rfl rfl (any_of HT_.out (by kernel_rfl)) (fun _ _ _ h => h) (Or.inl ⟨by rfl, ?_⟩) ?_ ?_
             rotate_left
             ·intro w'
              go_simp
              with_reducible rfl
             rotate_left
             ·exact qP
             refine pure_ (i := 13) (N := some 67) (v := undef) (a' := ?_) #[true, true, true, true, true, true, true, true, true, true, true, true, true, true, false, false, false, false, false, false, false] rfl rfl (any_of HT_.out (by kernel_rfl)) (fun _ _ _ h => h) (Or.inr ⟨by rfl, rfl⟩) ?_ ?_
             rotate_left
             ·exact qP
             refine pure_ (i := 14) (N := some 68) (v := undef) (a' := ?_) #[true, true, true, true, true, true, true, true, true, true, true, true, true, true, true, false, false, false, false, false, false] rfl rfl (any_of HT_.out (by kernel_rfl)) (fun _ _ _ h => h) (Or.inr ⟨by rfl, rfl⟩) ?_ ?_
             rotate_left
             ·exact qP
             refine pure_ (i := 15) (N := some 69) (v := undef) (a' := ?_) #[true, true, true, true, true, true, true, true, true, true, true, true, true, true, true, true, false, false, false, false, false] rfl rfl (any_of HT_.out (by kernel_rfl)) (fun _ _ _ h => h) (Or.inr ⟨by rfl, rfl⟩) ?_ ?_
             rotate_left
             ·exact qP
             refine pure_ (i := 16) (N := some 70) (v := undef) (a' := ?_) #[true, true, true, true, true, true, true, true, true, true, true, true, true, true, true, true, true, false, false, false, false] rfl rfl (any_of HT_.out (by kernel_rfl)) (fun _ _ _ h => h) (Or.inr ⟨by rfl, rfl⟩) ?_ ?_
             rotate_left
             ·exact qP
             refine pure_ (i := 17) (N := some 71) (v := undef) (a' := ?_) #[true, true, true, true, true, true, true, true, true, true, true, true, true, true, true, true, true, true, false, false, false] rfl rfl (any_of HT_.out (by kernel_rfl)) (fun _ _ _ h => h) (Or.inr ⟨by rfl, rfl⟩) ?_ ?_
             rotate_left
             ·exact qP
             refine pure_ (i := 18) (N := some 72) (v := undef) (a' := ?_) #[true, true, true, true, true, true, true, true, true, true, true, true, true, true, true, true, true, true, true, false, false] rfl rfl (any_of HT_.out (by kernel_rfl)) (fun _ _ _ h => h) (Or.inr ⟨by rfl, rfl⟩) ?_ ?_
             rotate_left
             ·exact qP
             refine pure_ (i := 19) (N := some 73) (v := undef) (a' := ?_) #[true, true, true, true, true, true, true, true, true, true, true, true, true, true, true, true, true, true, true, true, false] rfl rfl (any_of HT_.out (by kernel_rfl)) (fun _ _ _ h => h) (Or.inr ⟨by rfl, rfl⟩) ?_ ?_
             rotate_left
             ·exact qP
             refine pure_ (i := 20) (N := some 74) (v := ?_) (a' := ?_) #[true, true, true, true, true, true, true, true, true, true, true, true, true, true, true, true, true, true, true, true, true] rfl rfl (any_of HT_.out (by kernel_rfl)) (fun _ _ _ h => h) (Or.inl ⟨by rfl, ?_⟩) ?_ ?_
             rotate_left
             ·intro w'
              go_simp
              with_reducible rfl
             rotate_left
             ·exact qP
             refine done_ (done_of HT_.out (by kernel_rfl)) ?_
             try go_wp2
             go_roundg k2
             case measure => have := HK1.out; have := HK2.out; omega
             case rel => exact ⟨(wrap64 (x49_2 + 1)), (x1523000_2), (u1523000), qe, H', ⟨by have := HK1.out; have := HK2.out; omega⟩, ⟨qR HO_1523000.out⟩, ⟨qb BK1518.out⟩, ⟨qb BK1522.out⟩, ⟨qB⟩⟩
            ·rw [if_neg c18] at H
             have c18b0 : (x42_1 == x49_2) = false := beq_eq_false_iff_ne.mpr c18
             have c18b1 : (x42_1 != x49_2) = true := bne_iff_ne.mpr c18
             by_cases c20 : 0 < ((rd_L1 x4_1 x42_1).length : Int)
             rotate_left
             ·rw [if_neg c20] at H
              exact absurd H (by simp)
             rw [if_pos c20] at H
             have c20b0 := decide_eq_true c20
             have c20b1 : decide (0 < (rd_L1 x4_1 x42_1).length) = true := decide_eq_true (by omega)
             clear c20
             by_cases c21 : 0 < ((rd_L1 x4_1 x49_2).length : Int)
             rotate_left
             ·rw [if_neg c21] at H
              exact absurd H (by simp)
             rw [if_pos c21] at H
             have c21b0 := decide_eq_true c21
             have c21b1 : decide (0 < (rd_L1 x4_1 x49_2).length) = true := decide_eq_true (by omega)
             clear c21
             by_cases c22 : (rd (rd_L1 x4_1 x42_1) 0) ≤ (rd (rd_L1 x4_1 x49_2) 0)
             ·rw [if_pos c22] at H
              have c22b0 := decide_eq_true c22
              clear c22
              by_cases c23 : 1 < ((rd_L1 x4_1 x49_2).length : Int)
              rotate_left
              ·rw [if_neg c23] at H
               exact absurd H (by simp)
              rw [if_pos c23] at H
              have c23b0 := decide_eq_true c23
              have c23b1 : decide (1 < (rd_L1 x4_1 x49_2).length) = true := decide_eq_true (by omega)
              clear c23
              by_cases c24 : 1 < ((rd_L1 x4_1 x42_1).length : Int)
              rotate_left
              ·rw [if_neg c24] at H
               exact absurd H (by simp)
              rw [if_pos c24] at H
              have c24b0 := decide_eq_true c24
              have c24b1 : decide (1 < (rd_L1 x4_1 x42_1).length) = true := decide_eq_true (by omega)
              clear c24
              by_cases c25 : (rd (rd_L1 x4_1 x49_2) 1) ≤ (rd (rd_L1 x4_1 x42_1) 1)
              ·rw [if_pos c25] at H
               have c25b0 := decide_eq_true c25
               clear c25
               by_cases c26 : 0 ≤ x42_1
               rotate_left
               ·rw [if_neg c26] at H
                exact absurd H (by simp)
               rw [if_pos c26] at H
               have c26b0 := decide_eq_true c26
               clear c26
               by_cases c27 : x42_1 < (x1523000_2.length : Int)
               rotate_left
               ·rw [if_neg c27] at H
                exact absurd H (by simp)
               rw [if_pos c27] at H
               have c27b0 := decide_eq_true c27
               clear c27
               have c28b0 := eq_true (qd : 0 ≤ x49_2)
               obtain ⟨ji29, hji29⟩ : ∃ j_ : Int, (shl .i64 1 x49_2) = j_ := ⟨_, rfl⟩
               replace H : (spec_StairB.l1 k2 x4_1 x42_1 (rd_L1 x4_1 x42_1) x4_1 (x4_1.length : Int) x42_1 x4_1 (x4_1.length : Int) (wrap64 (x49_2 + 1)) (x1523000_2.set (x42_1 : Int).toNat (Go.bits .or .i64 (rd x1523000_2 x42_1) (ji29)))) = some (r1, r2) := by first | (rw [hji29] at H; exact H) | (simp only [hji29] at H ⊢; exact H)
               have hji29_ : (IntKind.i64.wrap (1 * 2 ^ min x49_2.toNat 64)) = ji29 := hji29
               have hji29z : x49_2 ≤ 64 → (IntKind.i64.wrap (1 * 2 ^ x49_2.toNat)) = ji29 := shl_small hji29
               have hji29u : (IntKind.i64.wrap (2 ^ min x49_2.toNat 64)) = ji29 := by have h_ := hji29_; rw [Int.one_mul] at h_; exact h_
               have hji29v : x49_2 ≤ 64 → (IntKind.i64.wrap (2 ^ x49_2.toNat)) = ji29 := fun hle_ => by have h_ := hji29z hle_; rw [Int.one_mul] at h_; exact h_
               have hji29y : (wrap64 (1 * 2 ^ min x49_2.toNat 64)) = ji29 := (i64_w _).symm.trans hji29_
               have hji29x : x49_2 ≤ 64 → (wrap64 (1 * 2 ^ x49_2.toNat)) = ji29 := fun h_ => (i64_w _).symm.trans (hji29z h_)
               obtain ⟨y1530, hy1530⟩ : ∃ y_ : List Int, y_ = (x1523000_2.set (x42_1 : Int).toNat (Go.bits .or .i64 (rd x1523000_2 x42_1) (ji29))) := ⟨_, rfl⟩
               replace H : (spec_StairB.l1 k2 x4_1 x42_1 (rd_L1 x4_1 x42_1) x4_1 (x4_1.length : Int) x42_1 x4_1 (x4_1.length : Int) (wrap64 (x49_2 + 1)) y1530) = some (r1, r2) := by first | (rw [hy1530]; with_reducible exact H) | (have H2_ := (Option.bind_some _ _).symm.trans H; rw [hy1530]; with_reducible exact H2_) | (have H2_ := (Option.bind_some _ _).symm.trans H; with_reducible exact H2_) | with_reducible exact H | (rw [hy1530]; exact H) | exact H
               have Ny1530 := am hy1530
               clear hy1530
               have H' := am H
               clear H
               have p1524 : 0 ≤ (x49_2 : Int) := qd
               have q1524 : x49_2 < (x4_1.length : Int) := qd
               obtain ⟨ad1524, A1524_0, c1524_0, e1524, hx1524_0, hl1524_0, hi1524_0⟩ := at_L1 HR1.out x49_2 p1524 q1524
               obtain rfl : ad1523 = ad1524 := (by injection e1524)
               replace hx1524_0 := (HB.out.cell (World.block_lt_of_cell? W2 _ hx1524_0)).trans hx1524_0
               have HR1524_0 := am hi1524_0
               have HC1524_0 := am hl1524_0
               clear hi1524_0 hl1524_0
               replace p1524 := eq_true p1524
               replace q1524 := eq_true q1524
               try go_wp2
               have n0_ := am (Kd.R_drew HO_1523000.out)
               have n1_ := am (blk_drew BK1518.out)
               have n2_ := am (blk_drew BK1522.out)
               have n3_ := am (below_drew1 HB.out)
               clear HO_1523000
               clear BK1518
               clear BK1522
               clear HB
               have HO_1523000 := n0_
               have BK1518 := n1_
               have BK1522 := n2_
               have HB := n3_
               clear n0_ n1_ n2_ n3_
               have p1525 : 0 ≤ (0 : Int) := (by omega)
               have q1525 : 0 < ((rd_L1 x4_1 x42_1).length : Int) := qd
               obtain ⟨ad1525, e1525, hx1525_0⟩ := Kd.at_int HR1523_0.out 0 p1525 q1525
               have hw1525_0 := hx1525_0
               (try rw [show ((0 : Int)).toNat = 0 from rfl] at hw1525_0)
               (try rw [show 0 * 1 = 0 from rfl] at hw1525_0)
               (try rw [Addr.add_zero'] at hw1525_0)
               cases e1525
               have qi1525 : (0 < (rd_L1 x4_1 x42_1).length) = True := eq_true (by omega)
               (try rw [show ((0 : Int)).toNat = 0 from rfl] at hx1525_0)
               (try rw [Addr.add_zero'] at hx1525_0)
               replace hx1525_0 := (HB.out.cell (World.block_lt_of_cell? W2 _ hx1525_0)).trans hx1525_0
               replace p1525 := eq_true p1525
               replace q1525 := eq_true q1525
               have p1526 : 0 ≤ (0 : Int) := (by omega)
               have q1526 : 0 < ((rd_L1 x4_1 x49_2).length : Int) := qd
               obtain ⟨ad1526, e1526, hx1526_0⟩ := Kd.at_int HR1524_0.out 0 p1526 q1526
               have hw1526_0 := hx1526_0
               (try rw [show ((0 : Int)).toNat = 0 from rfl] at hw1526_0)
               (try rw [show 0 * 1 = 0 from rfl] at hw1526_0)
               (try rw [Addr.add_zero'] at hw1526_0)
               cases e1526
               have qi1526 : (0 < (rd_L1 x4_1 x49_2).length) = True := eq_true (by omega)
               (try rw [show ((0 : Int)).toNat = 0 from rfl] at hx1526_0)
               (try rw [Addr.add_zero'] at hx1526_0)
               replace hx1526_0 := (HB.out.cell (World.block_lt_of_cell? W2 _ hx1526_0)).trans hx1526_0
               replace p1526 := eq_true p1526
               replace q1526 := eq_true q1526
               have p1527 : 0 ≤ (1 : Int) := (by omega)
               have q1527 : 1 < ((rd_L1 x4_1 x49_2).length : Int) := qd
               obtain ⟨ad1527, e1527, hx1527_0⟩ := Kd.at_int HR1524_0.out 1 p1527 q1527
               have hw1527_0 := hx1527_0
               (try rw [show ((1 : Int)).toNat = 1 from rfl] at hw1527_0)
               (try rw [show 1 * 1 = 1 from rfl] at hw1527_0)
               (try simp only [Nat.reduceMul, Nat.reduceEqDiff, Go.Addr.add, ↓reduceIte] at hw1527_0)
               obtain rfl : ad1526 = ad1527 := (by injection e1527)
               (try simp only [show (1 : Int).toNat = 1 from rfl, Nat.reduceMul, Nat.reduceEqDiff, Go.Addr.add, ↓reduceIte] at hx1527_0)
               have qi1527 : (1 < (rd_L1 x4_1 x49_2).length) = True := eq_true (by omega)
               (try rw [show ((1 : Int)).toNat = 1 from rfl] at hx1527_0)
               replace hx1527_0 := (HB.out.cell (World.block_lt_of_cell? W2 _ hx1527_0)).trans hx1527_0
               replace p1527 := eq_true p1527
               replace q1527 := eq_true q1527
               have p1528 : 0 ≤ (1 : Int) := (by omega)
               have q1528 : 1 < ((rd_L1 x4_1 x42_1).length : Int) := qd
               obtain ⟨ad1528, e1528, hx1528_0⟩ := Kd.at_int HR1523_0.out 1 p1528 q1528
               have hw1528_0 := hx1528_0
               (try rw [show ((1 : Int)).toNat = 1 from rfl] at hw1528_0)
               (try rw [show 1 * 1 = 1 from rfl] at hw1528_0)
               (try simp only [Nat.reduceMul, Nat.reduceEqDiff, Go.Addr.add, ↓reduceIte] at hw1528_0)
               obtain rfl : ad1525 = ad1528 := (by injection e1528)
               (try simp only [show (1 : Int).toNat = 1 from rfl, Nat.reduceMul, Nat.reduceEqDiff, Go.Addr.add, ↓reduceIte] at hx1528_0)
               have qi1528 : (1 < (rd_L1 x4_1 x42_1).length) = True := eq_true (by omega)
               (try rw [show ((1 : Int)).toNat = 1 from rfl] at hx1528_0)
               replace hx1528_0 := (HB.out.cell (World.block_lt_of_cell? W2 _ hx1528_0)).trans hx1528_0
               replace p1528 := eq_true p1528
               replace q1528 := eq_true q1528
               refine start_ (n := 21) (S := fun w' => w'.cell? ad1525 = some (.int .i64 (rd (rd_L1 x4_1 x42_1) 0)) ∧ w'.cell? ad1526 = some (.int .i64 (rd (rd_L1 x4_1 x49_2) 0)) ∧ w'.cell? ⟨ad1526.block, ad1526.off + 1, none⟩ = some (.int .i64 (rd (rd_L1 x4_1 x49_2) 1)) ∧ w'.cell? ⟨ad1525.block, ad1525.off + 1, none⟩ = some (.int .i64 (rd (rd_L1 x4_1 x42_1) 1))) (ds := []) #[false, false, false, false, false, false, false, false, false, false, false, false, false, false, false, false, false, false, false, false, false] (by kernel_rfl) rfl rfl ⟨((HB.out.cell (World.block_lt_of_cell? W2 _ hw1525_0)).trans hw1525_0), ((HB.out.cell (World.block_lt_of_cell? W2 _ hw1526_0)).trans hw1526_0), ((HB.out.cell (World.block_lt_of_cell? W2 _ hw1527_0)).trans hw1527_0), ((HB.out.cell (World.block_lt_of_cell? W2 _ hw1528_0)).trans hw1528_0)⟩ (fun hHeld => ?_); refine with_tabW spec_StairB.tab18 spec_StairB.bits18 (fun HT_ HW_ => ?_)
               generalize wr.drew = w31 at HO_1523000 BK1518 BK1522 HB hx1525_0 hx1526_0 hx1527_0 hx1528_0 hHeld ⊢
               refine pure_ (i := 0) (N := some 54) (v := ?_) (a' := ?_) #[true, false, false, false, false, false, false, false, false, false, false, false, false, false, false, false, false, false, false, false, false] rfl rfl (any_of HT_.out (by kernel_rfl)) (fun _ _ _ h => h) (Or.inl ⟨by rfl, ?_⟩) ?_ ?_
               rotate_left
               ·intro w'
                go_simp
                with_reducible rfl
               rotate_left
               ·exact qP
               refine pure_ (i := 1) (N := some 55) (v := ?_) (a' := ?_) #[true, true, false, false, false, false, false, false, false, false, false, false, false, false, false, false, false, false, false, false, false] rfl rfl (any_of HT_.out (by kernel_rfl)) (fun _ _ _ h => h) (Or.inl ⟨by rfl, ?_⟩) ?_ ?_
               rotate_left
               ·intro w'
                go_simp
                with_reducible rfl
               rotate_left
               ·exact qP
               refine pure_ (i := 2) (N := some 56) (v := ?_) (a' := ?_) #[true, true, true, false, false, false, false, false, false, false, false, false, false, false, false, false, false, false, false, false, false] rfl rfl (any_of HT_.out (by kernel_rfl)) (fun _ _ _ h => h) (Or.inl ⟨by rfl, ?_⟩) ?_ ?_
               rotate_left
               ·intro w'
                go_simp
                with_reducible rfl
               rotate_left
               ·exact qP
               refine pure_ (i := 3) (N := some 57) (v := ?_) (a' := ?_) #[true, true, true, true, false, false, false, false, false, false, false, false, false, false, false, false, false, false, false, false, false] rfl rfl (any_of HT_.out (by kernel_rfl)) (fun _ _ _ h => h) (Or.inl ⟨by rfl, ?_⟩) ?_ ?_
               rotate_left
               ·intro w'
                go_simp
                with_reducible rfl
               rotate_left
               ·exact qP
               refine pure_ (i := 4) (N := some 58) (v := ?_) (a' := ?_) #[true, true, true, true, true, false, false, false, false, false, false, false, false, false, false, false, false, false, false, false, false] rfl rfl (any_of HT_.out (by kernel_rfl)) (fun _ _ _ h => h) (Or.inl ⟨by rfl, ?_⟩) ?_ ?_
               rotate_left
               ·intro w'
                go_simp
                with_reducible rfl
               rotate_left
               ·exact qP
               refine pure_ (i := 5) (N := some 59) (v := ?_) (a' := ?_) #[true, true, true, true, true, true, false, false, false, false, false, false, false, false, false, false, false, false, false, false, false] rfl rfl (any_of HT_.out (by kernel_rfl)) (fun _ _ _ h => h) (Or.inl ⟨by rfl, ?_⟩) ?_ ?_
               rotate_left
               ·intro w'
                go_simp
                with_reducible rfl
               rotate_left
               ·exact qP
               refine pure_ (i := 7) (N := some 61) (v := ?_) (a' := ?_) #[true, true, true, true, true, true, false, true, false, false, false, false, false, false, false, false, false, false, false, false, false] rfl rfl (any_of HT_.out (by kernel_rfl)) (fun _ _ _ h => h) (Or.inl ⟨by rfl, ?_⟩) ?_ ?_
               rotate_left
               ·intro w'
                go_simp
                with_reducible rfl
               rotate_left
               ·exact qP
               refine pure_ (i := 8) (N := some 62) (v := ?_) (a' := ?_) #[true, true, true, true, true, true, false, true, true, false, false, false, false, false, false, false, false, false, false, false, false] rfl rfl (any_of HT_.out (by kernel_rfl)) (fun _ _ _ h => h) (Or.inl ⟨by rfl, ?_⟩) ?_ ?_
               rotate_left
               ·intro w'
                go_simp
                with_reducible rfl
               rotate_left
               ·exact qP
               refine take_ (i := 6) (N := some 60) (v := ?_) (a' := ?_) #[true, true, true, true, true, true, true, true, true, false, false, false, false, false, false, false, false, false, false, false, false] rfl rfl (take_ofW HT_.out HW_.out (by kernel_rfl)) (fun _ _ _ h => h) (Or.inl ⟨by rfl, ?_⟩) hHeld ?_ ?_
               rotate_left
               ·rintro w' ⟨s0, s1, s2, s3⟩
                go_simp
                with_reducible rfl
               rotate_left
               ·exact qP
               refine take_ (i := 9) (N := some 63) (v := ?_) (a' := ?_) #[true, true, true, true, true, true, true, true, true, true, false, false, false, false, false, false, false, false, false, false, false] rfl rfl (take_ofW HT_.out HW_.out (by kernel_rfl)) (fun _ _ _ h => h) (Or.inl ⟨by rfl, ?_⟩) hHeld ?_ ?_
               rotate_left
               ·rintro w' ⟨s0, s1, s2, s3⟩
                go_simp
                with_reducible rfl
               rotate_left
               ·exact qP
               refine pure_ (i := 10) (N := some 64) (v := ?_) (a' := ?_) #[true, true, true, true, true, true, true, true, true, true, true, false, false, false, false, false, false, false, false, false, false] rfl rfl (any_of HT_.out (by kernel_rfl)) (fun _ _ _ h => h) (Or.inl ⟨by rfl, ?_⟩) ?_ ?_
               rotate_left
               ·intro w'
                go_simp
                with_reducible rfl
               rotate_left
               ·exact qP
               refine pure_ (i := 11) (N := some 65) (v := ?_) (a' := ?_) #[true, true, true, true, true, true, true, true, true, true, true, true, false, false, false, false, false, false, false, false, false] rfl rfl (any_of HT_.out (by kernel_rfl)) (fun _ _ _ h => h) (Or.inl ⟨by rfl, ?_⟩) ?_ ?_
               rotate_left
               ·intro w'
                go_simp
                with_reducible rfl
               rotate_left
               ·exact qP
               refine pure_ (i := 12) (N := some 66) (v := ?_) (a' := ?_) #[true, true, true, true, true, true, true, true, true, true, true, true, true, false, false, false, false, false, false, false, false] rfl rfl (any_of HT_.out (by kernel_rfl)) (fun _ _ _ h => h) (Or.inl ⟨by rfl, ?_⟩) ?_ ?_
               rotate_left
               ·intro w'
                go_simp
                with_reducible rfl
               rotate_left
               ·exact qP
               refine pure_ (i := 13) (N := some 67) (v := ?_) (a' := ?_) #[true, true, true, true, true, true, true, true, true, true, true, true, true, true, false, false, false, false, false, false, false] rfl rfl (any_of HT_.out (by kernel_rfl)) (fun _ _ _ h => h) (Or.inl ⟨by rfl, ?_⟩) ?_ ?_
               rotate_left
               ·intro w'
                go_simp
                with_reducible rfl
               rotate_left
               ·exact qP
               refine pure_ (i := 14) (N := some 68) (v := ?_) (a' := ?_) #[true, true, true, true, true, true, true, true, true, true, true, true, true, true, true, false, false, false, false, false, false] rfl rfl (any_of HT_.out (by kernel_rfl)) (fun _ _ _ h => h) (Or.inl ⟨by rfl, ?_⟩) ?_ ?_
               rotate_left
               ·intro w'
                go_simp
                with_reducible rfl
               rotate_left
               ·exact qP
               refine pure_ (i := 16) (N := some 70) (v := ?_) (a' := ?_) #[true, true, true, true, true, true, true, true, true, true, true, true, true, true, true, false, true, false, false, false, false] rfl rfl (any_of HT_.out (by kernel_rfl)) (fun _ _ _ h => h) (Or.inl ⟨by rfl, ?_⟩) ?_ ?_
               rotate_left
               ·intro w'
                go_simp
                with_reducible rfl
               rotate_left
               ·exact qP
               refine pure_ (i := 17) (N := some 71) (v := ?_) (a' := ?_) #[true, true, true, true, true, true, true, true, true, true, true, true, true, true, true, false, true, true, false, false, false] rfl rfl (any_of HT_.out (by kernel_rfl)) (fun _ _ _ h => h) (Or.inl ⟨by rfl, ?_⟩) ?_ ?_
               rotate_left
               ·intro w'
                go_simp
                with_reducible rfl
               rotate_left
               ·exact qP
               refine take_ (i := 15) (N := some 69) (v := ?_) (a' := ?_) #[true, true, true, true, true, true, true, true, true, true, true, true, true, true, true, true, true, true, false, false, false] rfl rfl (take_ofW HT_.out HW_.out (by kernel_rfl)) (fun _ _ _ h => h) (Or.inl ⟨by rfl, ?_⟩) hHeld ?_ ?_
               rotate_left
               ·rintro w' ⟨s0, s1, s2, s3⟩
                go_simp
                with_reducible rfl
               rotate_left
               ·exact qP
               refine take_ (i := 18) (N := some 72) (v := ?_) (a' := ?_) #[true, true, true, true, true, true, true, true, true, true, true, true, true, true, true, true, true, true, true, false, false] rfl rfl (take_ofW HT_.out HW_.out (by kernel_rfl)) (fun _ _ _ h => h) (Or.inl ⟨by rfl, ?_⟩) hHeld ?_ ?_
               rotate_left
               ·rintro w' ⟨s0, s1, s2, s3⟩
                go_simp
                with_reducible rfl
               rotate_left
               ·exact qP
               refine pure_ (i := 19) (N := some 73) (v := ?_) (a' := ?_) #[true, true, true, true, true, true, true, true, true, true, true, true, true, true, true, true, true, true, true, true, false] rfl rfl (any_of HT_.out (by kernel_rfl)) (fun _ _ _ h => h) (Or.inl ⟨by rfl, ?_⟩) ?_ ?_
               rotate_left
               ·intro w'
                go_simp
                with_reducible rfl
               rotate_left
               ·exact qP
               refine pure_ (i := 20) (N := some 74) (v := ?_) (a' := ?_) #[true, true, true, true, true, true, true, true, true, true, true, true, true, true, true, true, true, true, true, true, true] rfl rfl (any_of HT_.out (by kernel_rfl)) (fun _ _ _ h => h) (Or.inl ⟨by rfl, ?_⟩) ?_ ?_
               rotate_left
               ·intro w'
                go_simp
                with_reducible rfl
               rotate_left
               ·exact qP
               refine done_ (done_of HT_.out (by kernel_rfl)) ?_
               try go_wp2
               have n0_ := am (Kd.R_drew HO_1523000.out)
               have n1_ := am (blk_drew BK1518.out)
               have n2_ := am (blk_drew BK1522.out)
               have n3_ := am (below_drew1 HB.out)
               clear HO_1523000
               clear BK1518
               clear BK1522
               clear HB
               have HO_1523000 := n0_
               have BK1518 := n1_
               have BK1522 := n2_
               have HB := n3_
               clear n0_ n1_ n2_ n3_
               obtain ⟨Ao33, co33, eo33⟩ := Kd.R_slice HO_1523000.out
               (first | subst eo33 | (injection eo33 with f1_ f2_ f3_; have f4_ := f1_.symm; have f5_ := f3_.symm; clear f1_ f2_ f3_; subst f4_; subst f5_))
               have p1529 : 0 ≤ (x42_1 : Int) := qd
               have q1529 : x42_1 < (x1523000_2.length : Int) := qd
               obtain ⟨ad1529, e1529, hx1529_0⟩ := Kd.at_int (Kd.R_reads' HO_1523000.out).2.2 x42_1 p1529 q1529
               cases e1529
               replace p1529 := eq_true p1529
               replace q1529 := eq_true q1529
               have p30 : 0 ≤ (x42_1 : Int) := qd
               have q30 : (x42_1 : Int) < ((x1523000_2.length : Int) : Int) := qd
               obtain ⟨go30, co30, eo30, gb30, gl30, cl30, HG30⟩ := Kd.R_form HO_1523000.out (by omega)
               (first | cases eo30 | (injection eo30 with ea_ en_ ec_; (first | subst ea_ | (injection ea_ with ea_; subst ea_)); subst ec_; clear en_))
               have GB30 := am gb30
               have GG30 := am HG30
               clear gb30 gl30 HG30
               (first | simp only [add_plain] at hx1529_0 | skip)
               obtain ⟨hx30_0, hf30_0⟩ := Kd.R_celln 0 HO_1523000.out (x42_1 : Int) p30 q30
               replace p30 := eq_true p30
               replace q30 := eq_true q30
               have HP34 := Kd.R_putn HO_1523000.out (x42_1 : Int) (Go.bits .or .i64 (rd x1523000_2 x42_1) (ji29))
               rw [← Ny1530.out] at HP34
               have HQ34 := am HP34
               clear HP34
               refine start_ (n := 10) (S := fun w' => w'.cell? ⟨gb1522, 0, none⟩ = some (.slice (some ⟨go30, 0, none⟩) x1523000_2.length co33) ∧ w'.cell? ⟨go30, (x42_1).toNat, none⟩ = some (.int .i64 (rd x1523000_2 x42_1))) (ds := [9]) #[false, false, false, false, false, false, false, false, false, false] (by kernel_rfl) rfl rfl ⟨(blk_cell BK1522.out 0).trans rfl, hx1529_0⟩ (fun hHeld => ?_); refine with_tabW spec_StairB.tab19 spec_StairB.bits19 (fun HT_ HW_ => ?_)
               generalize w31.drew = w32 at HO_1523000 BK1518 BK1522 HB GG30 HQ34 hf30_0 hx1529_0 hx30_0 hHeld ⊢
               refine pure_ (i := 0) (N := some 75) (v := ?_) (a' := ?_) #[true, false, false, false, false, false, false, false, false, false] rfl rfl (any_of HT_.out (by kernel_rfl)) (fun _ _ _ h => h) (Or.inl ⟨by rfl, ?_⟩) ?_ ?_
               rotate_left
               ·intro w'
                go_simp
                with_reducible rfl
               rotate_left
               ·exact qP
               refine pure_ (i := 2) (N := some 77) (v := ?_) (a' := ?_) #[true, false, true, false, false, false, false, false, false, false] rfl rfl (any_of HT_.out (by kernel_rfl)) (fun _ _ _ h => h) (Or.inl ⟨by rfl, ?_⟩) ?_ ?_
               rotate_left
               ·intro w'
                go_simp
                with_reducible rfl
               rotate_left
               ·exact qP
               refine pure_ (i := 5) (N := some 80) (v := ?_) (a' := ?_) #[true, false, true, false, false, true, false, false, false, false] rfl rfl (any_of HT_.out (by kernel_rfl)) (fun _ _ _ h => h) (Or.inl ⟨by rfl, ?_⟩) ?_ ?_
               rotate_left
               ·intro w'
                go_simp
                with_reducible rfl
               rotate_left
               ·exact qP
               refine pure_ (i := 6) (N := some 81) (v := ?_) (a' := ?_) #[true, false, true, false, false, true, true, false, false, false] rfl rfl (any_of HT_.out (by kernel_rfl)) (fun _ _ _ h => h) (Or.inl ⟨by rfl, ?_⟩) ?_ ?_
               rotate_left
               ·intro w'
                go_simp
                with_reducible rfl
               rotate_left
               ·exact qP
               refine take_ (i := 1) (N := some 76) (v := ?_) (a' := ?_) #[true, true, true, false, false, true, true, false, false, false] rfl rfl (take_ofW HT_.out HW_.out (by kernel_rfl)) (fun _ _ _ h => h) (Or.inl ⟨by rfl, ?_⟩) hHeld ?_ ?_
               rotate_left
               ·rintro w' ⟨s0, s1⟩
                go_simp
                with_reducible rfl
               rotate_left
               ·exact qP
               refine pure_ (i := 3) (N := some 78) (v := ?_) (a' := ?_) #[true, true, true, true, false, true, true, false, false, false] rfl rfl (any_of HT_.out (by kernel_rfl)) (fun _ _ _ h => h) (Or.inl ⟨by rfl, ?_⟩) ?_ ?_
               rotate_left
               ·intro w'
                go_simp
                with_reducible rfl
               rotate_left
               ·exact qP
               refine take_ (i := 4) (N := some 79) (v := ?_) (a' := ?_) #[true, true, true, true, true, true, true, false, false, false] rfl rfl (take_ofW HT_.out HW_.out (by kernel_rfl)) (fun _ _ _ h => h) (Or.inl ⟨by rfl, ?_⟩) hHeld ?_ ?_
               rotate_left
               ·rintro w' ⟨s0, s1⟩
                go_simp
                with_reducible rfl
               rotate_left
               ·exact qP
               refine pure_ (i := 7) (N := some 82) (v := ?_) (a' := ?_) #[true, true, true, true, true, true, true, true, false, false] rfl rfl (any_of HT_.out (by kernel_rfl)) (fun _ _ _ h => h) (Or.inl ⟨by rfl, ?_⟩) ?_ ?_
               rotate_left
               ·intro w'
                go_simp
                with_reducible rfl
               rotate_left
               ·exact qP
               refine pure_ (i := 8) (N := some 83) (v := ?_) (a' := ?_) #[true, true, true, true, true, true, true, true, true, false] rfl rfl (any_of HT_.out (by kernel_rfl)) (fun _ _ _ h => h) (Or.inl ⟨by rfl, ?_⟩) ?_ ?_
               rotate_left
               ·intro w'
                go_simp
                with_reducible rfl
               rotate_left
               ·exact qP
               refine last_ (i := 9) (N := none) #[true, true, true, true, true, true, true, true, true, true] rfl rfl (one_of HT_.out (by kernel_rfl)) (by decide) (fun K hK => ?_)
               refine skip_ (w1 := ?_) (by rfl) rfl ?_ ?_
               rotate_left
               ·go_simp
                rfl
               refine hK.out _ _ ?_
               clear hK K
               refine done_ (done_of HT_.out (by kernel_rfl)) ?_
               try go_wp2
               go_roundg k2
               case measure => have := HK1.out; have := HK2.out; omega
               case rel => exact ⟨(wrap64 (x49_2 + 1)), (y1530), (.slice (some ⟨go30, 0, none⟩) x1523000_2.length co33), qe, H', ⟨by have := HK1.out; have := HK2.out; omega⟩, ⟨qR HQ34.out⟩, ⟨by (with_reducible repeat (first | refine blk_drewN ?_ _ | refine blk_drew ?_ | refine blk_alloc ?_ _)); refine blk_far ?_ (by have h_ := Kd.R_ne HO_1523000.out BK1518.out (by decide); intro e_; exact h_ (by rw [e_]; rfl)) _; refine qb ?_; exact BK1518.out⟩, ⟨by (with_reducible repeat (first | refine blk_drewN ?_ _ | refine blk_drew ?_ | refine blk_alloc ?_ _)); refine blk_far ?_ (by have h_ := Kd.R_ne HO_1523000.out BK1522.out (by decide); intro e_; exact h_ (by rw [e_]; rfl)) _; refine qb ?_; exact BK1522.out⟩, ⟨qB⟩⟩
              ·rw [if_neg c25] at H
               have c25b0 := decide_eq_false c25
               clear c25
               have H' := am H
               clear H
               have p1524 : 0 ≤ (x49_2 : Int) := qd
               have q1524 : x49_2 < (x4_1.length : Int) := qd
               obtain ⟨ad1524, A1524_0, c1524_0, e1524, hx1524_0, hl1524_0, hi1524_0⟩ := at_L1 HR1.out x49_2 p1524 q1524
               obtain rfl : ad1523 = ad1524 := (by injection e1524)
               replace hx1524_0 := (HB.out.cell (World.block_lt_of_cell? W2 _ hx1524_0)).trans hx1524_0
               have HR1524_0 := am hi1524_0
               have HC1524_0 := am hl1524_0
               clear hi1524_0 hl1524_0
               replace p1524 := eq_true p1524
               replace q1524 := eq_true q1524
               try go_wp2
               have n0_ := am (Kd.R_drew HO_1523000.out)
               have n1_ := am (blk_drew BK1518.out)
               have n2_ := am (blk_drew BK1522.out)
               have n3_ := am (below_drew1 HB.out)
               clear HO_1523000
               clear BK1518
               clear BK1522
               clear HB
               have HO_1523000 := n0_
               have BK1518 := n1_
               have BK1522 := n2_
               have HB := n3_
               clear n0_ n1_ n2_ n3_
               have p1525 : 0 ≤ (0 : Int) := (by omega)
               have q1525 : 0 < ((rd_L1 x4_1 x42_1).length : Int) := qd
               obtain ⟨ad1525, e1525, hx1525_0⟩ := Kd.at_int HR1523_0.out 0 p1525 q1525
               have hw1525_0 := hx1525_0
               (try rw [show ((0 : Int)).toNat = 0 from rfl] at hw1525_0)
               (try rw [show 0 * 1 = 0 from rfl] at hw1525_0)
               (try rw [Addr.add_zero'] at hw1525_0)
               cases e1525
               have qi1525 : (0 < (rd_L1 x4_1 x42_1).length) = True := eq_true (by omega)
               (try rw [show ((0 : Int)).toNat = 0 from rfl] at hx1525_0)
               (try rw [Addr.add_zero'] at hx1525_0)
               replace hx1525_0 := (HB.out.cell (World.block_lt_of_cell? W2 _ hx1525_0)).trans hx1525_0
               replace p1525 := eq_true p1525
               replace q1525 := eq_true q1525
               have p1526 : 0 ≤ (0 : Int) := (by omega)
               have q1526 : 0 < ((rd_L1 x4_1 x49_2).length : Int) := qd
               obtain ⟨ad1526, e1526, hx1526_0⟩ := Kd.at_int HR1524_0.out 0 p1526 q1526
               have hw1526_0 := hx1526_0
               (try rw [show ((0 : Int)).toNat = 0 from rfl] at hw1526_0)
               (try rw [show 0 * 1 = 0 from rfl] at hw1526_0)
               (try rw [Addr.add_zero'] at hw1526_0)
               cases e1526
               have qi1526 : (0 < (rd_L1 x4_1 x49_2).length) = True := eq_true (by omega)
               (try rw [show ((0 : Int)).toNat = 0 from rfl] at hx1526_0)
               (try rw [Addr.add_zero'] at hx1526_0)
               replace hx1526_0 := (HB.out.cell (World.block_lt_of_cell? W2 _ hx1526_0)).trans hx1526_0
               replace p1526 := eq_true p1526
               replace q1526 := eq_true q1526
               have p1527 : 0 ≤ (1 : Int) := (by omega)
               have q1527 : 1 < ((rd_L1 x4_1 x49_2).length : Int) := qd
               obtain ⟨ad1527, e1527, hx1527_0⟩ := Kd.at_int HR1524_0.out 1 p1527 q1527
               have hw1527_0 := hx1527_0
               (try rw [show ((1 : Int)).toNat = 1 from rfl] at hw1527_0)
               (try rw [show 1 * 1 = 1 from rfl] at hw1527_0)
               (try simp only [Nat.reduceMul, Nat.reduceEqDiff, Go.Addr.add, ↓reduceIte] at hw1527_0)
               obtain rfl : ad1526 = ad1527 := (by injection e1527)
               (try simp only [show (1 : Int).toNat = 1 from rfl, Nat.reduceMul, Nat.reduceEqDiff, Go.Addr.add, ↓reduceIte] at hx1527_0)
               have qi1527 : (1 < (rd_L1 x4_1 x49_2).length) = True := eq_true (by omega)
               (try rw [show ((1 : Int)).toNat = 1 from rfl] at hx1527_0)
               replace hx1527_0 := (HB.out.cell (World.block_lt_of_cell? W2 _ hx1527_0)).trans hx1527_0
               replace p1527 := eq_true p1527
               replace q1527 := eq_true q1527
               have p1528 : 0 ≤ (1 : Int) := (by omega)
               have q1528 : 1 < ((rd_L1 x4_1 x42_1).length : Int) := qd
               obtain ⟨ad1528, e1528, hx1528_0⟩ := Kd.at_int HR1523_0.out 1 p1528 q1528
               have hw1528_0 := hx1528_0
               (try rw [show ((1 : Int)).toNat = 1 from rfl] at hw1528_0)
               (try rw [show 1 * 1 = 1 from rfl] at hw1528_0)
               (try simp only [Nat.reduceMul, Nat.reduceEqDiff, Go.Addr.add, ↓reduceIte] at hw1528_0)
               obtain rfl : ad1525 = ad1528 := (by injection e1528)
               (try simp only [show (1 : Int).toNat = 1 from rfl, Nat.reduceMul, Nat.reduceEqDiff, Go.Addr.add, ↓reduceIte] at hx1528_0)
               have qi1528 : (1 < (rd_L1 x4_1 x42_1).length) = True := eq_true (by omega)
               (try rw [show ((1 : Int)).toNat = 1 from rfl] at hx1528_0)
               replace hx1528_0 := (HB.out.cell (World.block_lt_of_cell? W2 _ hx1528_0)).trans hx1528_0
               replace p1528 := eq_true p1528
               replace q1528 := eq_true q1528
               refine start_ (n := 21) (S := fun w' => w'.cell? ad1525 = some (.int .i64 (rd (rd_L1 x4_1 x42_1) 0)) ∧ w'.cell? ad1526 = some (.int .i64 (rd (rd_L1 x4_1 x49_2) 0)) ∧ w'.cell? ⟨ad1526.block, ad1526.off + 1, none⟩ = some (.int .i64 (rd (rd_L1 x4_1 x49_2) 1)) ∧ w'.cell? ⟨ad1525.block, ad1525.off + 1, none⟩ = some (.int .i64 (rd (rd_L1 x4_1 x42_1) 1))) (ds := []) #[false, false, false, false, false, false, false, false, false, false, false, false, false, false, false, false, false, false, false, false, false] (by kernel_rfl) rfl rfl ⟨((HB.out.cell (World.block_lt_of_cell? W2 _ hw1525_0)).trans hw1525_0), ((HB.out.cell (World.block_lt_of_cell? W2 _ hw1526_0)).trans hw1526_0), ((HB.out.cell (World.block_lt_of_cell? W2 _ hw1527_0)).trans hw1527_0), ((HB.out.cell (World.block_lt_of_cell? W2 _ hw1528_0)).trans hw1528_0)⟩ (fun hHeld => ?_); refine with_tabW spec_StairB.tab18 spec_StairB.bits18 (fun HT_ HW_ => ?_)
               generalize wr.drew = w35 at HO_1523000 BK1518 BK1522 HB hx1525_0 hx1526_0 hx1527_0 hx1528_0 hHeld ⊢
               refine pure_ (i := 0) (N := some 54) (v := ?_) (a' := ?_) #[true, false, false, false, false, false, false, false, false, false, false, false, false, false, false, false, false, false, false, false, false] rfl rfl (any_of HT_.out (by kernel_rfl)) (fun _ _ _ h => h) (Or.inl ⟨by rfl, ?_⟩) ?_ ?_
               rotate_left
               ·intro w'
                go_simp
                with_reducible rfl
               rotate_left
               ·exact qP
               refine pure_ (i := 1) (N := some 55) (v := ?_) (a' := ?_) #[true, true, false, false, false, false, false, false, false, false, false, false, false, false, false, false, false, false, false, false, false] rfl rfl (any_of HT_.out (by kernel_rfl)) (fun _ _ _ h => h) (Or.inl ⟨by rfl, ?_⟩) ?_ ?_
               rotate_left
               ·intro w'
                go_simp
                with_reducible rfl
               rotate_left
               ·exact qP
               refine pure_ (i := 2) (N := some 56) (v := ?_) (a' := ?_) #[true, true, true, false, false, false, false, false, false, false, false, false, false, false, false, false, false, false, false, false, false] rfl rfl (any_of HT_.out (by kernel_rfl)) (fun _ _ _ h => h) (Or.inl ⟨by rfl, ?_⟩) ?_ ?_
               rotate_left
               ·intro w'
                go_simp
                with_reducible rfl
               rotate_left
               ·exact qP
               refine pure_ (i := 3) (N := some 57) (v := ?_) (a' := ?_) #[true, true, true, true, false, false, false, false, false, false, false, false, false, false, false, false, false, false, false, false, false] rfl rfl (any_of HT_.out (by kernel_rfl)) (fun _ _ _ h => h) (Or.inl ⟨by rfl, ?_⟩) ?_ ?_
               rotate_left
               ·intro w'
                go_simp
                with_reducible rfl
               rotate_left
               ·exact qP
               refine pure_ (i := 4) (N := some 58) (v := ?_) (a' := ?_) #[true, true, true, true, true, false, false, false, false, false, false, false, false, false, false, false, false, false, false, false, false] rfl rfl (any_of HT_.out (by kernel_rfl)) (fun _ _ _ h => h) (Or.inl ⟨by rfl, ?_⟩) ?_ ?_
               rotate_left
               ·intro w'
                go_simp
                with_reducible rfl
               rotate_left
               ·exact qP
               refine pure_ (i := 5) (N := some 59) (v := ?_) (a' := ?_) #[true, true, true, true, true, true, false, false, false, false, false, false, false, false, false, false, false, false, false, false, false] rfl rfl (any_of HT_.out (by kernel_rfl)) (fun _ _ _ h => h) (Or.inl ⟨by rfl, ?_⟩) ?_ ?_
               rotate_left
               ·intro w'
                go_simp
                with_reducible rfl
               rotate_left
               ·exact qP
               refine pure_ (i := 7) (N := some 61) (v := ?_) (a' := ?_) #[true, true, true, true, true, true, false, true, false, false, false, false, false, false, false, false, false, false, false, false, false] rfl rfl (any_of HT_.out (by kernel_rfl)) (fun _ _ _ h => h) (Or.inl ⟨by rfl, ?_⟩) ?_ ?_
               rotate_left
               ·intro w'
                go_simp
                with_reducible rfl
               rotate_left
               ·exact qP
               refine pure_ (i := 8) (N := some 62) (v := ?_) (a' := ?_) #[true, true, true, true, true, true, false, true, true, false, false, false, false, false, false, false, false, false, false, false, false] rfl rfl (any_of HT_.out (by kernel_rfl)) (fun _ _ _ h => h) (Or.inl ⟨by rfl, ?_⟩) ?_ ?_
               rotate_left
               ·intro w'
                go_simp
                with_reducible rfl
               rotate_left
               ·exact qP
               refine take_ (i := 6) (N := some 60) (v := ?_) (a' := ?_) #[true, true, true, true, true, true, true, true, true, false, false, false, false, false, false, false, false, false, false, false, false] rfl rfl (take_ofW HT_.out HW_.out (by kernel_rfl)) (fun _ _ _ h => h) (Or.inl ⟨by rfl, ?_⟩) hHeld ?_ ?_
               rotate_left
               ·rintro w' ⟨s0, s1, s2, s3⟩
                go_simp
                with_reducible rfl
               rotate_left
               ·exact qP
               refine take_ (i := 9) (N := some 63) (v := ?_) (a' := ?_) #[true, true, true, true, true, true, true, true, true, true, false, false, false, false, false, false, false, false, false, false, false] rfl rfl (take_ofW HT_.out HW_.out (by kernel_rfl)) (fun _ _ _ h => h) (Or.inl ⟨by rfl, ?_⟩) hHeld ?_ ?_
               rotate_left
               ·rintro w' ⟨s0, s1, s2, s3⟩
                go_simp
                with_reducible rfl
               rotate_left
               ·exact qP
               refine pure_ (i := 10) (N := some 64) (v := ?_) (a' := ?_) #[true, true, true, true, true, true, true, true, true, true, true, false, false, false, false, false, false, false, false, false, false] rfl rfl (any_of HT_.out (by kernel_rfl)) (fun _ _ _ h => h) (Or.inl ⟨by rfl, ?_⟩) ?_ ?_
               rotate_left
               ·intro w'
                go_simp
                with_reducible rfl
               rotate_left
               ·exact qP
               refine pure_ (i := 11) (N := some 65) (v := ?_) (a' := ?_) #[true, true, true, true, true, true, true, true, true, true, true, true, false, false, false, false, false, false, false, false, false] rfl rfl (any_of HT_.out (by kernel_rfl)) (fun _ _ _ h => h) (Or.inl ⟨by rfl, ?_⟩) ?_ ?_
               rotate_left
               ·intro w'
                go_simp
                with_reducible rfl
               rotate_left
               ·exact qP
               refine pure_ (i := 12) (N := some 66) (v := ?_) (a' := ?_) #[true, true, true, true, true, true, true, true, true, true, true, true, true, false, false, false, false, false, false, false, false] rfl rfl (any_of HT_.out (by kernel_rfl)) (fun _ _ _ h => h) (Or.inl ⟨by rfl, ?_⟩) ?_ ?_
               rotate_left
               ·intro w'
                go_simp
                with_reducible rfl
               rotate_left
               ·exact qP
               refine pure_ (i := 13) (N := some 67) (v := ?_) (a' := ?_) #[true, true, true, true, true, true, true, true, true, true, true, true, true, true, false, false, false, false, false, false, false] rfl rfl (any_of HT_.out (by kernel_rfl)) (fun _ _ _ h => h) (Or.inl ⟨by rfl, ?_⟩) ?_ ?_
               rotate_left
               ·intro w'
                go_simp
                with_reducible rfl
               rotate_left
               ·exact qP
               refine pure_ (i := 14) (N := some 68) (v := ?_) (a' := ?_) #[true, true, true, true, true, true, true, true, true, true, true, true, true, true, true, false, false, false, false, false, false] rfl rfl (any_of HT_.out (by kernel_rfl)) (fun _ _ _ h => h) (Or.inl ⟨by rfl, ?_⟩) ?_ ?_
               rotate_left
               ·intro w'
                go_simp
                with_reducible rfl
               rotate_left
               ·exact qP
               refine pure_ (i := 16) (N := some 70) (v := ?_) (a' := ?_) #[true, true, true, true, true, true, true, true, true, true, true, true, true, true, true, false, true, false, false, false, false] rfl rfl (any_of HT_.out (by kernel_rfl)) (fun _ _ _ h => h) (Or.inl ⟨by rfl, ?_⟩) ?_ ?_
               rotate_left
               ·intro w'
                go_simp
                with_reducible rfl
               rotate_left
               ·exact qP
               refine pure_ (i := 17) (N := some 71) (v := ?_) (a' := ?_) #[true, true, true, true, true, true, true, true, true, true, true, true, true, true, true, false, true, true, false, false, false] rfl rfl (any_of HT_.out (by kernel_rfl)) (fun _ _ _ h => h) (Or.inl ⟨by rfl, ?_⟩) ?_ ?_
               rotate_left
               ·intro w'
                go_simp
                with_reducible rfl
               rotate_left
               ·exact qP
               refine take_ (i := 15) (N := some 69) (v := ?_) (a' := ?_) #[true, true, true, true, true, true, true, true, true, true, true, true, true, true, true, true, true, true, false, false, false] rfl rfl (take_ofW HT_.out HW_.out (by kernel_rfl)) (fun _ _ _ h => h) (Or.inl ⟨by rfl, ?_⟩) hHeld ?_ ?_
               rotate_left
               ·rintro w' ⟨s0, s1, s2, s3⟩
                go_simp
                with_reducible rfl
               rotate_left
               ·exact qP
               refine take_ (i := 18) (N := some 72) (v := ?_) (a' := ?_) #[true, true, true, true, true, true, true, true, true, true, true, true, true, true, true, true, true, true, true, false, false] rfl rfl (take_ofW HT_.out HW_.out (by kernel_rfl)) (fun _ _ _ h => h) (Or.inl ⟨by rfl, ?_⟩) hHeld ?_ ?_
               rotate_left
               ·rintro w' ⟨s0, s1, s2, s3⟩
                go_simp
                with_reducible rfl
               rotate_left
               ·exact qP
               refine pure_ (i := 19) (N := some 73) (v := ?_) (a' := ?_) #[true, true, true, true, true, true, true, true, true, true, true, true, true, true, true, true, true, true, true, true, false] rfl rfl (any_of HT_.out (by kernel_rfl)) (fun _ _ _ h => h) (Or.inl ⟨by rfl, ?_⟩) ?_ ?_
               rotate_left
               ·intro w'
                go_simp
                with_reducible rfl
               rotate_left
               ·exact qP
               refine pure_ (i := 20) (N := some 74) (v := ?_) (a' := ?_) #[true, true, true, true, true, true, true, true, true, true, true, true, true, true, true, true, true, true, true, true, true] rfl rfl (any_of HT_.out (by kernel_rfl)) (fun _ _ _ h => h) (Or.inl ⟨by rfl, ?_⟩) ?_ ?_
               rotate_left
               ·intro w'
                go_simp
                with_reducible rfl
               rotate_left
               ·exact qP
               refine done_ (done_of HT_.out (by kernel_rfl)) ?_
               try go_wp2
               go_roundg k2
               case measure => have := HK1.out; have := HK2.out; omega
               case rel => exact ⟨(wrap64 (x49_2 + 1)), (x1523000_2), (u1523000), qe, H', ⟨by have := HK1.out; have := HK2.out; omega⟩, ⟨qR HO_1523000.out⟩, ⟨qb BK1518.out⟩, ⟨qb BK1522.out⟩, ⟨qB⟩⟩
             ·rw [if_neg c22] at H
              have c22b0 := decide_eq_false c22
              clear c22
              have H' := am H
              clear H
              have p1524 : 0 ≤ (x49_2 : Int) := qd
              have q1524 : x49_2 < (x4_1.length : Int) := qd
              obtain ⟨ad1524, A1524_0, c1524_0, e1524, hx1524_0, hl1524_0, hi1524_0⟩ := at_L1 HR1.out x49_2 p1524 q1524
              obtain rfl : ad1523 = ad1524 := (by injection e1524)
              replace hx1524_0 := (HB.out.cell (World.block_lt_of_cell? W2 _ hx1524_0)).trans hx1524_0
              have HR1524_0 := am hi1524_0
              have HC1524_0 := am hl1524_0
              clear hi1524_0 hl1524_0
              replace p1524 := eq_true p1524
              replace q1524 := eq_true q1524
              try go_wp2
              have n0_ := am (Kd.R_drew HO_1523000.out)
              have n1_ := am (blk_drew BK1518.out)
              have n2_ := am (blk_drew BK1522.out)
              have n3_ := am (below_drew1 HB.out)
              clear HO_1523000
              clear BK1518
              clear BK1522
              clear HB
              have HO_1523000 := n0_
              have BK1518 := n1_
              have BK1522 := n2_
              have HB := n3_
              clear n0_ n1_ n2_ n3_
              have p1525 : 0 ≤ (0 : Int) := (by omega)
              have q1525 : 0 < ((rd_L1 x4_1 x42_1).length : Int) := qd
              obtain ⟨ad1525, e1525, hx1525_0⟩ := Kd.at_int HR1523_0.out 0 p1525 q1525
              have hw1525_0 := hx1525_0
              (try rw [show ((0 : Int)).toNat = 0 from rfl] at hw1525_0)
              (try rw [show 0 * 1 = 0 from rfl] at hw1525_0)
              (try rw [Addr.add_zero'] at hw1525_0)
              cases e1525
              have qi1525 : (0 < (rd_L1 x4_1 x42_1).length) = True := eq_true (by omega)
              (try rw [show ((0 : Int)).toNat = 0 from rfl] at hx1525_0)
              (try rw [Addr.add_zero'] at hx1525_0)
              replace hx1525_0 := (HB.out.cell (World.block_lt_of_cell? W2 _ hx1525_0)).trans hx1525_0
              replace p1525 := eq_true p1525
              replace q1525 := eq_true q1525
              have p1526 : 0 ≤ (0 : Int) := (by omega)
              have q1526 : 0 < ((rd_L1 x4_1 x49_2).length : Int) := qd
              obtain ⟨ad1526, e1526, hx1526_0⟩ := Kd.at_int HR1524_0.out 0 p1526 q1526
              have hw1526_0 := hx1526_0
              (try rw [show ((0 : Int)).toNat = 0 from rfl] at hw1526_0)
              (try rw [show 0 * 1 = 0 from rfl] at hw1526_0)
              (try rw [Addr.add_zero'] at hw1526_0)
              cases e1526
              have qi1526 : (0 < (rd_L1 x4_1 x49_2).length) = True := eq_true (by omega)
              (try rw [show ((0 : Int)).toNat = 0 from rfl] at hx1526_0)
              (try rw [Addr.add_zero'] at hx1526_0)
              replace hx1526_0 := (HB.out.cell (World.block_lt_of_cell? W2 _ hx1526_0)).trans hx1526_0
              replace p1526 := eq_true p1526
              replace q1526 := eq_true q1526
              refine start_ (n := 21) (S := fun w' => w'.cell? ad1525 = some (.int .i64 (rd (rd_L1 x4_1 x42_1) 0)) ∧ w'.cell? ad1526 = some (.int .i64 (rd (rd_L1 x4_1 x49_2) 0))) (ds := []) #[false, false, false, false, false, false, false, false, false, false, false, false, false, false, false, false, false, false, false, false, false] (by kernel_rfl) rfl rfl ⟨((HB.out.cell (World.block_lt_of_cell? W2 _ hw1525_0)).trans hw1525_0), ((HB.out.cell (World.block_lt_of_cell? W2 _ hw1526_0)).trans hw1526_0)⟩ (fun hHeld => ?_); refine with_tabW spec_StairB.tab18 spec_StairB.bits18 (fun HT_ HW_ => ?_)
              generalize wr.drew = w36 at HO_1523000 BK1518 BK1522 HB hx1525_0 hx1526_0 hHeld ⊢
              refine pure_ (i := 0) (N := some 54) (v := ?_) (a' := ?_) #[true, false, false, false, false, false, false, false, false, false, false, false, false, false, false, false, false, false, false, false, false] rfl rfl (any_of HT_.out (by kernel_rfl)) (fun _ _ _ h => h) (Or.inl ⟨by rfl, ?_⟩) ?_ ?_
              rotate_left
              ·intro w'
               go_simp
               with_reducible rfl
              rotate_left
              ·exact qP
              refine pure_ (i := 1) (N := some 55) (v := ?_) (a' := ?_) #[true, true, false, false, false, false, false, false, false, false, false, false, false, false, false, false, false, false, false, false, false] rfl rfl (any_of HT_.out (by kernel_rfl)) (fun _ _ _ h => h) (Or.inl ⟨by rfl, ?_⟩) ?_ ?_
              rotate_left
              ·intro w'
               go_simp
               with_reducible rfl
              rotate_left
              ·exact qP
              refine pure_ (i := 2) (N := some 56) (v := ?_) (a' := ?_) #[true, true, true, false, false, false, false, false, false, false, false, false, false, false, false, false, false, false, false, false, false] rfl rfl (any_of HT_.out (by kernel_rfl)) (fun _ _ _ h => h) (Or.inl ⟨by rfl, ?_⟩) ?_ ?_
              rotate_left
              ·intro w'
               go_simp
               with_reducible rfl
              rotate_left
              ·exact qP
              refine pure_ (i := 3) (N := some 57) (v := ?_) (a' := ?_) #[true, true, true, true, false, false, false, false, false, false, false, false, false, false, false, false, false, false, false, false, false] rfl rfl (any_of HT_.out (by kernel_rfl)) (fun _ _ _ h => h) (Or.inl ⟨by rfl, ?_⟩) ?_ ?_
              rotate_left
              ·intro w'
               go_simp
               with_reducible rfl
              rotate_left
              ·exact qP
              refine pure_ (i := 4) (N := some 58) (v := ?_) (a' := ?_) #[true, true, true, true, true, false, false, false, false, false, false, false, false, false, false, false, false, false, false, false, false] rfl rfl (any_of HT_.out (by kernel_rfl)) (fun _ _ _ h => h) (Or.inl ⟨by rfl, ?_⟩) ?_ ?_
              rotate_left
              ·intro w'
               go_simp
               with_reducible rfl
              rotate_left
              ·exact qP
              refine pure_ (i := 5) (N := some 59) (v := ?_) (a' := ?_) #[true, true, true, true, true, true, false, false, false, false, false, false, false, false, false, false, false, false, false, false, false] rfl rfl (any_of HT_.out (by kernel_rfl)) (fun _ _ _ h => h) (Or.inl ⟨by rfl, ?_⟩) ?_ ?_
              rotate_left
              ·intro w'
               go_simp
               with_reducible rfl
              rotate_left
              ·exact qP
              refine pure_ (i := 7) (N := some 61) (v := ?_) (a' := ?_) #[true, true, true, true, true, true, false, true, false, false, false, false, false, false, false, false, false, false, false, false, false] rfl rfl (any_of HT_.out (by kernel_rfl)) (fun _ _ _ h => h) (Or.inl ⟨by rfl, ?_⟩) ?_ ?_
              rotate_left
              ·intro w'
               go_simp
               with_reducible rfl
              rotate_left
              ·exact qP
              refine pure_ (i := 8) (N := some 62) (v := ?_) (a' := ?_) #[true, true, true, true, true, true, false, true, true, false, false, false, false, false, false, false, false, false, false, false, false] rfl rfl (any_of HT_.out (by kernel_rfl)) (fun _ _ _ h => h) (Or.inl ⟨by rfl, ?_⟩) ?_ ?_
              rotate_left
              ·intro w'
               go_simp
               with_reducible rfl
              rotate_left
              ·exact qP
              refine take_ (i := 6) (N := some 60) (v := ?_) (a' := ?_) #[true, true, true, true, true, true, true, true, true, false, false, false, false, false, false, false, false, false, false, false, false] rfl rfl (take_ofW HT_.out HW_.out (by kernel_rfl)) (fun _ _ _ h => h) (Or.inl ⟨by rfl, ?_⟩) hHeld ?_ ?_
              rotate_left
              ·rintro w' ⟨s0, s1⟩
               go_simp
               with_reducible rfl
              rotate_left
              ·exact qP
              refine take_ (i := 9) (N := some 63) (v := ?_) (a' := ?_) #[true, true, true, true, true, true, true, true, true, true, false, false, false, false, false, false, false, false, false, false, false] rfl rfl (take_ofW HT_.out HW_.out (by kernel_rfl)) (fun _ _ _ h => h) (Or.inl ⟨by rfl, ?_⟩) hHeld ?_ ?_
              rotate_left
              ·rintro w' ⟨s0, s1⟩
               go_simp
               with_reducible rfl
              rotate_left
              ·exact qP
              refine pure_ (i := 10) (N := some 64) (v := ?_) (a' := ?_) #[true, true, true, true, true, true, true, true, true, true, true, false, false, false, false, false, false, false, false, false, false] rfl rfl (any_of HT_.out (by kernel_rfl)) (fun _ _ _ h => h) (Or.inl ⟨by rfl, ?_⟩) ?_ ?_
              rotate_left
              ·intro w'
               go_simp
               with_reducible rfl
              rotate_left
              ·exact qP
              refine pure_ (i := 11) (N := some 65) (v := ?_) (a' := ?_) #[true, true, true, true, true, true, true, true, true, true, true, true, false, false, false, false, false, false, false, false, false] rfl rfl (any_of HT_.out (by kernel_rfl)) (fun _ _ _ h => h) (Or.inl ⟨by rfl, ?_⟩) ?_ ?_
              rotate_left
              ·intro w'
               go_simp
               with_reducible rfl
              rotate_left
              ·exact qP
              refine pure_ (i := 12) (N := some 66) (v := ?_) (a' := ?_) #[true, true, true, true, true, true, true, true, true, true, true, true, true, false, false, false, false, false, false, false, false] rfl rfl (any_of HT_.out (by kernel_rfl)) (fun _ _ _ h => h) (Or.inl ⟨by rfl, ?_⟩) ?_ ?_
              rotate_left
              ·intro w'
               go_simp
               with_reducible rfl
              rotate_left
              ·exact qP
              refine pure_ (i := 13) (N := some 67) (v := undef) (a' := ?_) #[true, true, true, true, true, true, true, true, true, true, true, true, true, true, false, false, false, false, false, false, false] rfl rfl (any_of HT_.out (by kernel_rfl)) (fun _ _ _ h => h) (Or.inr ⟨by rfl, rfl⟩) ?_ ?_
              rotate_left
              ·exact qP
              refine pure_ (i := 14) (N := some 68) (v := undef) (a' := ?_) #[true, true, true, true, true, true, true, true, true, true, true, true, true, true, true, false, false, false, false, false, false] rfl rfl (any_of HT_.out (by kernel_rfl)) (fun _ _ _ h => h) (Or.inr ⟨by rfl, rfl⟩) ?_ ?_
              rotate_left
              ·exact qP
              refine pure_ (i := 15) (N := some 69) (v := undef) (a' := ?_) #[true, true, true, true, true, true, true, true, true, true, true, true, true, true, true, true, false, false, false, false, false] rfl rfl (any_of HT_.out (by kernel_rfl)) (fun _ _ _ h => h) (Or.inr ⟨by rfl, rfl⟩) ?_ ?_
              rotate_left
              ·exact qP
              refine pure_ (i := 16) (N := some 70) (v := undef) (a' := ?_) #[true, true, true, true, true, true, true, true, true, true, true, true, true, true, true, true, true, false, false, false, false] rfl rfl (any_of HT_.out (by kernel_rfl)) (fun _ _ _ h => h) (Or.inr ⟨by rfl, rfl⟩) ?_ ?_
              rotate_left
              ·exact qP
              refine pure_ (i := 17) (N := some 71) (v := undef) (a' := ?_) #[true, true, true, true, true, true, true, true, true, true, true, true, true, true, true, true, true, true, false, false, false] rfl rfl (any_of HT_.out (by kernel_rfl)) (fun _ _ _ h => h) (Or.inr ⟨by rfl, rfl⟩) ?_ ?_
              rotate_left
              ·exact qP
              refine pure_ (i := 18) (N := some 72) (v := undef) (a' := ?_) #[true, true, true, true, true, true, true, true, true, true, true, true, true, true, true, true, true, true, true, false, false] rfl rfl (any_of HT_.out (by kernel_rfl)) (fun _ _ _ h => h) (Or.inr ⟨by rfl, rfl⟩) ?_ ?_
              rotate_left
              ·exact qP
              refine pure_ (i := 19) (N := some 73) (v := undef) (a' := ?_) #[true, true, true, true, true, true, true, true, true, true, true, true, true, true, true, true, true, true, true, true, false] rfl rfl (any_of HT_.out (by kernel_rfl)) (fun _ _ _ h => h) (Or.inr ⟨by rfl, rfl⟩) ?_ ?_
              rotate_left
              ·exact qP
              refine pure_ (i := 20) (N := some 74) (v := ?_) (a' := ?_) #[true, true, true, true, true, true, true, true, true, true, true, true, true, true, true, true, true, true, true, true, true] rfl rfl (any_of HT_.out (by kernel_rfl)) (fun _ _ _ h => h) (Or.inl ⟨by rfl, ?_⟩) ?_ ?_
              rotate_left
              ·intro w'
               go_simp
               with_reducible rfl
              rotate_left
              ·exact qP
              refine done_ (done_of HT_.out (by kernel_rfl)) ?_
              try go_wp2
              go_roundg k2
              case measure => have := HK1.out; have := HK2.out; omega
              case rel => exact ⟨(wrap64 (x49_2 + 1)), (x1523000_2), (u1523000), qe, H', ⟨by have := HK1.out; have := HK2.out; omega⟩, ⟨qR HO_1523000.out⟩, ⟨qb BK1518.out⟩, ⟨qb BK1522.out⟩, ⟨qB⟩⟩
           ·rw [if_neg c15] at H
            have c15b0 := decide_eq_false c15
            clear c15
            have H' := am H
            clear H
            go_wp2
            go_roundg k2
            case measure => have := HK1.out; have := HK2.out; omega
            case rel => exact ⟨(wrap64 (x42_1 + 1)), (x1523000_2), (u1523000), qe, H', ⟨by have := HK1.out; have := HK2.out; omega⟩, ⟨qR HO_1523000.out⟩, ⟨qb BK1518.out⟩, ⟨qb BK1522.out⟩, ⟨qB⟩⟩
        ·rw [if_neg c12] at H
         have c12b0 := decide_eq_false c12
         clear c12
         simp only [Option.some.injEq, Prod.mk.injEq] at H
         obtain ⟨rfl, rfl⟩ := H
         have hnb37 := NB1522_1518.out
         have hnc37 := NB1518_1522.out
         have hcz38_0 := qz wr BK1522.out
         have hfz38_0 := blk_frozen BK1522.out 0
         obtain ⟨Ao39, co39, eo39⟩ := Kd.R_slice HO_1523000.out
         subst eo39
         have hcz40_0 := qz wr BK1518.out
         have hfz40_0 := blk_frozen BK1518.out 0
         go_wp2
         refine bodyPost_ret (results_ct rfl _ _ gb1518 28 #[.slice Ao39 x1523000_1.length co39] (0, 0) _ rfl (by (with_reducible repeat (first | refine blk_drewN ?_ _ | refine blk_drew ?_ | refine blk_alloc ?_ _)); refine blk_put (cs := #[.slice none 0 0]) ?_ 0 _ rfl; refine qb ?_; exact BK1518.out) Try.underlying28 rfl (by kernel_rfl)) rfl ?_
         exact ⟨_, rfl, Kd.R_lower (qR (Kd.R_mono (Kd.R_far (p := ⟨gb1518, 0, none⟩) (Kd.R_types HO_1523000.out BK1518.out (by decide)) (fun _ hk => hk.2) (.slice Ao39 x1523000_1.length co39)) (fun _ hk => trivial))) HBW.out.size, below_set (by repeat (first | (with_reducible first | exact (HBW.out.trans (HB.out.mono HBW.out.size)) | apply below_alloc | apply pw_below_drewN | apply below_drew1) | exact (HBW.out.trans (HB.out.mono HBW.out.size)))) GE1518.out⟩
     ·rw [if_neg c3] at H
      exact absurd H (by simp)
end Go.Proofs.Ytonfifhoklaliaa.F
end

section
namespace Go.Proofs.Ytonfifhoklaliaa.F
open Go.RowKit Go.Proofs.YtonfifhoklaliaaW.PrintWords Go.Proofs.YtonfifhoklaliaaW.PrintLast Go.Proofs.YtonfifhoklaliaaW.PrintMore
attribute [local go_sem] max2_int min2_int max_two min_two max_three min_three max_four min_four
set_option linter.unusedVariables false
set_option linter.unusedSimpArgs false
mutual
def spec_l1Cur_surePoset.l0 : Nat → Int → List (List Int) → Int → List Int → Int → Int → Option (List Int × Int × Int)
 | 0, _, _, _, _, _, _ => none
 | k + 1, x9, x10, x11, x1000, x1001, x1002 => if x11 > 0 then (spec_l1Cur_surePoset.j1 k x9 x10 x11 (decide (x9 > 1)) x1000 x1001 x1002) else (spec_l1Cur_surePoset.j1 k x9 x10 x11 false x1000 x1001 x1002)
def spec_l1Cur_surePoset.j1 : Nat → Int → List (List Int) → Int → Bool → List Int → Int → Int → Option (List Int × Int × Int)
 | 0, _, _, _, _, _, _, _ => none
 | k + 1, x9, x10, x11, x61, x1000, x1001, x1002 => if x61 = true then ((spec_l1Cur_pick.f x1000 x1001 x1002 (wrap64 (x9 - 1))).bind fun bt320 => ((spec_l1Cur_pick.f x1000 bt320.2.1 bt320.2.2 (wrap64 ((wrap64 (x9 - 1)) - bt320.1))).bind fun bt323 => (if x10.length < 5864062014805 then (spec_l1Cur_surePoset.l0 k x9 (x10 ++ [(([bt320.1, wrap64 ((wrap64 (bt320.1 + 1)) + bt323.1)] : List Int))]) (wrap64 (x11 - 1)) x1000 bt323.2.1 bt323.2.2) else (none)))) else ((spec_poFrom.f k x9 x10).bind fun t332 => (some (t332, x1001, x1002)))
end
def spec_l1Cur_surePoset.f (k : Nat) (s0_0 : List Int) (s0_1 : Int) (s0_2 : Int) (a1 : Int) : Option (List Int × Int × Int) := (spec_l1Cur_pick.f s0_0 s0_1 s0_2 5).bind fun bt285 => (if bt285.1 = 0 then ((spec_l1Cur_pick.f s0_0 bt285.2.1 bt285.2.2 2).bind fun bt288 => ((spec_l1Most.f 1 (wrap64 (Int.tdiv a1 2))).bind fun t291 => ((spec_l1Cur_pick.f s0_0 bt288.2.1 bt288.2.2 t291).bind fun bt292 => ((spec_poRectangle.f k (wrap64 (1 + bt288.1)) (wrap64 (1 + bt292.1))).bind fun t295 => (some (t295, bt292.2.1, bt292.2.2)))))) else (if bt285.1 = 1 then ((spec_l1Cur_pick.f s0_0 bt285.2.1 bt285.2.2 2).bind fun bt298 => ((spec_Staircase.f k (wrap64 (1 + bt298.1))).bind fun bt301 => (some (bt301.1, bt298.2.1, bt298.2.2)))) else (if bt285.1 = 2 then ((spec_l1Cur_pick.f s0_0 bt285.2.1 bt285.2.2 a1).bind fun bt306 => ((spec_Fence.f k (wrap64 (1 + bt306.1))).bind fun bt309 => (some (bt309.1, bt306.2.1, bt306.2.2)))) else ((spec_l1Cur_pick.f s0_0 bt285.2.1 bt285.2.2 a1).bind fun bt314 => ((spec_l1Cur_pick.f s0_0 bt314.2.1 bt314.2.2 (wrap64 (2 * (wrap64 (1 + bt314.1))))).bind fun bt317 => (spec_l1Cur_surePoset.l0 k (wrap64 (1 + bt314.1)) ([] : List (List Int)) bt317.1 s0_0 bt317.2.1 bt317.2.2))))))
theorem spec_l1Cur_surePoset.mono_l : ∀ k, (∀ y0 y1 y2 y3 y4 y5, LeO (spec_l1Cur_surePoset.l0 k y0 y1 y2 y3 y4 y5) (spec_l1Cur_surePoset.l0 (k + 1) y0 y1 y2 y3 y4 y5)) ∧ (∀ y0 y1 y2 y3 y4 y5 y6, LeO (spec_l1Cur_surePoset.j1 k y0 y1 y2 y3 y4 y5 y6) (spec_l1Cur_surePoset.j1 (k + 1) y0 y1 y2 y3 y4 y5 y6))
 | 0 => ⟨fun _ _ _ _ _ _ r h => by simp [spec_l1Cur_surePoset.l0] at h, fun _ _ _ _ _ _ _ r h => by simp [spec_l1Cur_surePoset.j1] at h⟩
 | k + 1 => by
  obtain ⟨ih0, ih1⟩ := spec_l1Cur_surePoset.mono_l k
  refine ⟨?_, ?_⟩
  ·intro y0 y1 y2 y3 y4 y5
   unfold spec_l1Cur_surePoset.l0
   repeat' first
   | (with_reducible exact spec_Fence.mono _ _)
   | (with_reducible exact spec_Staircase.mono _ _)
   | (with_reducible exact spec_poFrom.mono _ _ _)
   | (with_reducible exact spec_poRectangle.mono _ _ _)
   | (with_reducible exact LeO.refl _)
   | (with_reducible exact LeO.none _)
   | (with_reducible refine LeO.ite ?_ ?_)
   | (with_reducible refine LeO.bind ?_ (fun _ => ?_))
   | exact ih0 _ _ _ _ _ _
   | exact ih1 _ _ _ _ _ _ _
   | exact spec_Fence.mono _ _
   | exact spec_Staircase.mono _ _
   | exact spec_poFrom.mono _ _ _
   | exact spec_poRectangle.mono _ _ _
   | exact LeO.none _
   | refine LeO.ite ?_ ?_
   | refine LeO.bind ?_ (fun _ => ?_)
  ·intro y0 y1 y2 y3 y4 y5 y6
   unfold spec_l1Cur_surePoset.j1
   repeat' first
   | (with_reducible exact spec_Fence.mono _ _)
   | (with_reducible exact spec_Staircase.mono _ _)
   | (with_reducible exact spec_poFrom.mono _ _ _)
   | (with_reducible exact spec_poRectangle.mono _ _ _)
   | (with_reducible exact LeO.refl _)
   | (with_reducible exact LeO.none _)
   | (with_reducible refine LeO.ite ?_ ?_)
   | (with_reducible refine LeO.bind ?_ (fun _ => ?_))
   | exact ih0 _ _ _ _ _ _
   | exact ih1 _ _ _ _ _ _ _
   | exact spec_Fence.mono _ _
   | exact spec_Staircase.mono _ _
   | exact spec_poFrom.mono _ _ _
   | exact spec_poRectangle.mono _ _ _
   | exact LeO.none _
   | refine LeO.ite ?_ ?_
   | refine LeO.bind ?_ (fun _ => ?_)
theorem spec_l1Cur_surePoset.mono : ∀ a0 a1 a2 a3 k, LeO (spec_l1Cur_surePoset.f k a0 a1 a2 a3) (spec_l1Cur_surePoset.f (k + 1) a0 a1 a2 a3) := by
 intro a0 a1 a2 a3 k
 obtain ⟨ih0, ih1⟩ := spec_l1Cur_surePoset.mono_l k
 unfold spec_l1Cur_surePoset.f
 repeat' first
  | (with_reducible exact spec_Fence.mono _ _)
  | (with_reducible exact spec_Staircase.mono _ _)
  | (with_reducible exact spec_poFrom.mono _ _ _)
  | (with_reducible exact spec_poRectangle.mono _ _ _)
  | (with_reducible exact LeO.refl _)
  | (with_reducible exact LeO.none _)
  | (with_reducible refine LeO.ite ?_ ?_)
  | (with_reducible refine LeO.bind ?_ (fun _ => ?_))
  | exact ih0 _ _ _ _ _ _
  | exact ih1 _ _ _ _ _ _ _
  | exact spec_Fence.mono _ _
  | exact spec_Staircase.mono _ _
  | exact spec_poFrom.mono _ _ _
  | exact spec_poRectangle.mono _ _ _
  | exact LeO.none _
  | refine LeO.ite ?_ ?_
  | refine LeO.bind ?_ (fun _ => ?_)
set_option maxHeartbeats 8000000 in
set_option maxRecDepth 100000 in
theorem spec_l1Cur_surePoset.calls (k : Nat) (g : Nat) (s0_0 : List Int) (s0_1 : Int) (s0_2 : Int) (a1 : Int) (r1 : List Int) (r2 : Int) (r3 : Int) (w0 w : World) (hI : IsS74 w0 w g s0_0 s0_1 s0_2) (hB : Below w0.heap.size w0 w) (h : spec_l1Cur_surePoset.f k s0_0 s0_1 s0_2 a1 = some (r1, r2, r3)) :
 Calls Try.prog 170 #[.pointer (some ⟨g, 0, none⟩), .int .i64 a1] w fun e w' => ∃ v0_ : Value, e = .returned (.agg #[v0_]) ∧ Kd.R (Kd.int .i64) 3 w' w.heap.size (fun _ => True) v0_ r1 ∧ IsS74 w0 w' g s0_0 r2 r3 ∧ Below w0.heap.size w0 w' ∧ KeepBut w w' g none := by
 have hu28 := Try.underlying28
 have HI0 := am hI
 have HK := am (KeepBut.refl w g none)
 have HL := am hB.size
 clear hI
 have HW0 := am hB.size
 have HB := am hB
 clear hB
 have H : ((spec_l1Cur_pick.f s0_0 s0_1 s0_2 5).bind fun bt285 => (if bt285.1 = 0 then ((spec_l1Cur_pick.f s0_0 bt285.2.1 bt285.2.2 2).bind fun bt288 => ((spec_l1Most.f 1 (wrap64 (Int.tdiv a1 2))).bind fun t291 => ((spec_l1Cur_pick.f s0_0 bt288.2.1 bt288.2.2 t291).bind fun bt292 => ((spec_poRectangle.f k (wrap64 (1 + bt288.1)) (wrap64 (1 + bt292.1))).bind fun t295 => (some (t295, bt292.2.1, bt292.2.2)))))) else (if bt285.1 = 1 then ((spec_l1Cur_pick.f s0_0 bt285.2.1 bt285.2.2 2).bind fun bt298 => ((spec_Staircase.f k (wrap64 (1 + bt298.1))).bind fun bt301 => (some (bt301.1, bt298.2.1, bt298.2.2)))) else (if bt285.1 = 2 then ((spec_l1Cur_pick.f s0_0 bt285.2.1 bt285.2.2 a1).bind fun bt306 => ((spec_Fence.f k (wrap64 (1 + bt306.1))).bind fun bt309 => (some (bt309.1, bt306.2.1, bt306.2.2)))) else ((spec_l1Cur_pick.f s0_0 bt285.2.1 bt285.2.2 a1).bind fun bt314 => ((spec_l1Cur_pick.f s0_0 bt314.2.1 bt314.2.2 (wrap64 (2 * (wrap64 (1 + bt314.1))))).bind fun bt317 => (spec_l1Cur_surePoset.l0 k (wrap64 (1 + bt314.1)) ([] : List (List Int)) bt317.1 s0_0 bt317.2.1 bt317.2.2))))))) = some (r1, r2, r3) := h
 clear h
 replace H := Option.bind_eq_some_iff.mp H
 obtain ⟨⟨t285, t286, t287⟩, A30, H⟩ := H
 replace H : (if t285 = 0 then ((spec_l1Cur_pick.f s0_0 t286 t287 2).bind fun bt288 => ((spec_l1Most.f 1 (wrap64 (Int.tdiv a1 2))).bind fun t291 => ((spec_l1Cur_pick.f s0_0 bt288.2.1 bt288.2.2 t291).bind fun bt292 => ((spec_poRectangle.f k (wrap64 (1 + bt288.1)) (wrap64 (1 + bt292.1))).bind fun t295 => (some (t295, bt292.2.1, bt292.2.2)))))) else (if t285 = 1 then ((spec_l1Cur_pick.f s0_0 t286 t287 2).bind fun bt298 => ((spec_Staircase.f k (wrap64 (1 + bt298.1))).bind fun bt301 => (some (bt301.1, bt298.2.1, bt298.2.2)))) else (if t285 = 2 then ((spec_l1Cur_pick.f s0_0 t286 t287 a1).bind fun bt306 => ((spec_Fence.f k (wrap64 (1 + bt306.1))).bind fun bt309 => (some (bt309.1, bt306.2.1, bt306.2.2)))) else ((spec_l1Cur_pick.f s0_0 t286 t287 a1).bind fun bt314 => ((spec_l1Cur_pick.f s0_0 bt314.2.1 bt314.2.2 (wrap64 (2 * (wrap64 (1 + bt314.1))))).bind fun bt317 => (spec_l1Cur_surePoset.l0 k (wrap64 (1 + bt314.1)) ([] : List (List Int)) bt317.1 s0_0 bt317.2.1 bt317.2.2)))))) = some (r1, r2, r3) := H
 have A3 := am A30
 clear A30
 by_cases c4 : t285 = 0
 ·rw [if_pos c4] at H
  have c4b0 : (t285 == 0) = true := beq_iff_eq.mpr c4
  have c4b1 : (t285 != 0) = false := bne_eq_false_iff_eq.mpr c4
  clear c4
  replace H := Option.bind_eq_some_iff.mp H
  obtain ⟨⟨t288, t289, t290⟩, A50, H⟩ := H
  replace H : ((spec_l1Most.f 1 (wrap64 (Int.tdiv a1 2))).bind fun t291 => ((spec_l1Cur_pick.f s0_0 t289 t290 t291).bind fun bt292 => ((spec_poRectangle.f k (wrap64 (1 + t288)) (wrap64 (1 + bt292.1))).bind fun t295 => (some (t295, bt292.2.1, bt292.2.2))))) = some (r1, r2, r3) := H
  have A5 := am A50
  clear A50
  replace H := Option.bind_eq_some_iff.mp H
  obtain ⟨t291, A60, H⟩ := H
  replace H : ((spec_l1Cur_pick.f s0_0 t289 t290 t291).bind fun bt292 => ((spec_poRectangle.f k (wrap64 (1 + t288)) (wrap64 (1 + bt292.1))).bind fun t295 => (some (t295, bt292.2.1, bt292.2.2)))) = some (r1, r2, r3) := H
  have A6 := am A60
  clear A60
  replace H := Option.bind_eq_some_iff.mp H
  obtain ⟨⟨t292, t293, t294⟩, A70, H⟩ := H
  replace H : ((spec_poRectangle.f k (wrap64 (1 + t288)) (wrap64 (1 + t292))).bind fun t295 => (some (t295, t293, t294))) = some (r1, r2, r3) := H
  have A7 := am A70
  clear A70
  replace H := Option.bind_eq_some_iff.mp H
  obtain ⟨t295, A80, H⟩ := H
  replace H : (some (t295, t293, t294)) = some (r1, r2, r3) := H
  have A8 := am A80
  clear A80
  simp only [Option.some.injEq, Prod.mk.injEq] at H
  obtain ⟨rfl, rfl, rfl⟩ := H
  go_enter Try.func170, Try.ntmps170
  go_wp2_with (first | ((with_reducible refine gate_dst (N := 4) rfl ?_); refine qx (N := 4) (cs := #[.slice none 0 0]) (t := 28) ?_; intro gb284 hg w9 hbox hb; have n0_ := am (IsS74.below qI74 hb); have n1_ := am (KeepBut.trans qK (KeepBut.of_below hb g none) (.inl rfl)); have n2_ := am (below_step qB hb); have BK284 := am (hbox); have GW284 := am ((by rw [hg]; exact (keep_size (w := w) (g := g) (row := none) qK) : w.heap.size ≤ gb284)); have GE284 := am ((Nat.le_trans HW0.out (by rw [hg]; exact (keep_size (w := w) (g := g) (row := none) qK) : w.heap.size ≤ gb284) : w0.heap.size ≤ gb284)); have NB0_284 := am ((by rw [hg]; exact Nat.ne_of_lt (IsS74.lt (show IsS74 w0 _ g s0_0 s0_1 s0_2 from qI74)) : g ≠ gb284)); have NB284_0 := am ((by rw [hg]; exact Nat.ne_of_gt (IsS74.lt (show IsS74 w0 _ g s0_0 s0_1 s0_2 from qI74)) : gb284 ≠ g)); clear HI0 HK HB; have HI0 := n0_; have HK := n1_; have HB := n2_; clear n0_ n1_ n2_; clear hb hbox hg) | ((with_reducible refine gate_callee (f := 115) rfl ?_); refine gL (some 14) Try.func115 #[.pointer (some ⟨g, 0, none⟩), .int .i64 5] ?_; (with_reducible refine (spec_l1Cur_pick.calls g s0_0 s0_1 s0_2 5 t285 t286 t287 w0 _ ?side1 ?side2 A3.out).mono ?_); (case side1 => exact qI74); (case side2 => exact qB); rintro e w10 ⟨rfl, hi, hb, hk⟩; refine ⟨_, rfl, ?_⟩; replace BK284 := am (KeepBut.blk hk (g' := gb284) (o := .cells #[.slice none 0 0] 28 (0, 0)) (qb BK284.out) NB284_0.out (by simp)); have n1_ := am (KeepBut.trans qK hk (.inl rfl)); have n2_ := am (hb); replace HI0 := am (hi); clear HK HB; have HK := n1_; have HB := n2_; clear n1_ n2_; (try clear hb); (try clear hb2); (try clear hk); (try clear hi)) | ((with_reducible refine gate_callee (f := 115) rfl ?_); refine gL (some 18) Try.func115 #[.pointer (some ⟨g, 0, none⟩), .int .i64 2] ?_; (with_reducible refine (spec_l1Cur_pick.calls g s0_0 t286 t287 2 t288 t289 t290 w0 _ ?side1 ?side2 A5.out).mono ?_); (case side1 => exact qI74); (case side2 => exact qB); rintro e w11 ⟨rfl, hi, hb, hk⟩; refine ⟨_, rfl, ?_⟩; replace BK284 := am (KeepBut.blk hk (g' := gb284) (o := .cells #[.slice none 0 0] 28 (0, 0)) (qb BK284.out) NB284_0.out (by simp)); have n1_ := am (KeepBut.trans qK hk (.inl rfl)); have n2_ := am (hb); replace HI0 := am (hi); clear HK HB; have HK := n1_; have HB := n2_; clear n1_ n2_; (try clear hb); (try clear hb2); (try clear hk); (try clear hi)) | ((with_reducible refine gate_callee (f := 152) rfl ?_); refine gL (some 23) Try.func152 #[.int .i64 1, .int .i64 (wrap64 (Int.tdiv a1 2))] ?_; (with_reducible refine (spec_l1Most.calls 1 (wrap64 (Int.tdiv a1 2)) t291 _ A6.out).mono ?_); rintro e w' ⟨rfl, ⟨nd, rfl⟩⟩; refine ⟨_, rfl, ?_⟩; (try (rw [drewN_self w11]; generalize hq_ : World.drewN w11 _ = w11; have n0_ : Aside0 (w11.heap[gb284]? = some (.cells #[.slice none 0 0] 28 (0, 0))) := ⟨by rw [← hq_]; exact (qb BK284.out)⟩; have n1_ : Aside0 (IsS74 w0 w11 g s0_0 t289 t290) := ⟨by rw [← hq_]; exact qI74⟩; have n2_ : Aside0 (KeepBut w w11 g none) := ⟨by rw [← hq_]; exact qK⟩; have n3_ : Aside0 (Below w0.heap.size w0 w11) := ⟨by rw [← hq_]; exact qB⟩; clear BK284 HI0 HK HB hq_; have BK284 := n0_; have HI0 := n1_; have HK := n2_; have HB := n3_; clear n0_ n1_ n2_ n3_))) | ((with_reducible refine gate_callee (f := 115) rfl ?_); refine gL (some 24) Try.func115 #[.pointer (some ⟨g, 0, none⟩), .int .i64 t291] ?_; (with_reducible refine (spec_l1Cur_pick.calls g s0_0 t289 t290 t291 t292 t293 t294 w0 _ ?side1 ?side2 A7.out).mono ?_); (case side1 => exact qI74); (case side2 => exact qB); rintro e w12 ⟨rfl, hi, hb, hk⟩; refine ⟨_, rfl, ?_⟩; replace BK284 := am (KeepBut.blk hk (g' := gb284) (o := .cells #[.slice none 0 0] 28 (0, 0)) (qb BK284.out) NB284_0.out (by simp)); have n1_ := am (KeepBut.trans qK hk (.inl rfl)); have n2_ := am (hb); replace HI0 := am (hi); clear HK HB; have HK := n1_; have HB := n2_; clear n1_ n2_; (try clear hb); (try clear hb2); (try clear hk); (try clear hi)) | ((with_reducible refine gate_callee (f := 82) rfl ?_); refine gL (some 26) Try.func82 #[.int .i64 (wrap64 (1 + t288)), .int .i64 (wrap64 (1 + t292))] ?_; (with_reducible refine (spec_poRectangle.calls k (wrap64 (1 + t288)) (wrap64 (1 + t292)) t295 _ A8.out).mono ?_); rintro e w13 ⟨v296, rfl, ho0, hb⟩; refine ⟨_, rfl, ?_⟩; have HO297 := am (Kd.R_lower ho0 (keep_size (w := w) (g := g) (row := none) qK)); have n1_ := am (IsS74.below qI74 hb); replace BK284 := am (blk_below (g := gb284) (o := .cells #[.slice none 0 0] 28 (0, 0)) (qb BK284.out) hb); have n3_ := am (KeepBut.trans qK (KeepBut.of_below hb g none) (.inl rfl)); replace HB := am (below_step qB hb); clear HI0 HK; have HI0 := n1_; have HK := n3_; clear n1_ n3_; (try clear hb); (try clear hb2); (try clear hk); (try clear hi); (try clear ho0); obtain ⟨Ao14, co14, eo14⟩ := Kd.R_slice HO297.out; subst eo14; have hnb15 := NB284_0.out; have hnc15 := NB0_284.out; have hcz16_0 := qz w13 BK284.out; have hfz16_0 := blk_frozen BK284.out 0))
  refine bodyPost_ret (results_cell_row rfl _ _ gb284 28 #[.slice Ao14 t295.length co14] (0, 0) _ rfl (by (with_reducible repeat (first | refine blk_drewN ?_ _ | refine blk_drew ?_ | refine blk_alloc ?_ _)); refine blk_put (cs := #[.slice none 0 0]) ?_ 0 _ rfl; refine qb ?_; exact BK284.out) Try.underlying28 rfl (by kernel_rfl)) rfl ?_
  exact ⟨_, qr, qR (Kd.R_mono (Kd.R_far (p := ⟨gb284, 0, none⟩) (Kd.R_types HO297.out BK284.out (by decide)) (fun _ hk => hk.2) (.slice Ao14 t295.length co14)) (fun _ hk => trivial)), qI74, qB, qK⟩
 ·rw [if_neg c4] at H
  have c4b0 : (t285 == 0) = false := beq_eq_false_iff_ne.mpr c4
  have c4b1 : (t285 != 0) = true := bne_iff_ne.mpr c4
  by_cases c17 : t285 = 1
  ·rw [if_pos c17] at H
   have c17b0 : (t285 == 1) = true := beq_iff_eq.mpr c17
   have c17b1 : (t285 != 1) = false := bne_eq_false_iff_eq.mpr c17
   clear c17
   replace H := Option.bind_eq_some_iff.mp H
   obtain ⟨⟨t298, t299, t300⟩, A180, H⟩ := H
   replace H : ((spec_Staircase.f k (wrap64 (1 + t298))).bind fun bt301 => (some (bt301.1, t299, t300))) = some (r1, r2, r3) := H
   have A18 := am A180
   clear A180
   replace H := Option.bind_eq_some_iff.mp H
   obtain ⟨⟨t301, t304⟩, A190, H⟩ := H
   replace H : (some (t301, t299, t300)) = some (r1, r2, r3) := H
   have A19 := am A190
   clear A190
   simp only [Option.some.injEq, Prod.mk.injEq] at H
   obtain ⟨rfl, rfl, rfl⟩ := H
   go_enter Try.func170, Try.ntmps170
   go_wp2_with (first | ((with_reducible refine gate_dst (N := 4) rfl ?_); refine qx (N := 4) (cs := #[.slice none 0 0]) (t := 28) ?_; intro gb284 hg w20 hbox hb; have n0_ := am (IsS74.below qI74 hb); have n1_ := am (KeepBut.trans qK (KeepBut.of_below hb g none) (.inl rfl)); have n2_ := am (below_step qB hb); have BK284 := am (hbox); have GW284 := am ((by rw [hg]; exact (keep_size (w := w) (g := g) (row := none) qK) : w.heap.size ≤ gb284)); have GE284 := am ((Nat.le_trans HW0.out (by rw [hg]; exact (keep_size (w := w) (g := g) (row := none) qK) : w.heap.size ≤ gb284) : w0.heap.size ≤ gb284)); have NB0_284 := am ((by rw [hg]; exact Nat.ne_of_lt (IsS74.lt (show IsS74 w0 _ g s0_0 s0_1 s0_2 from qI74)) : g ≠ gb284)); have NB284_0 := am ((by rw [hg]; exact Nat.ne_of_gt (IsS74.lt (show IsS74 w0 _ g s0_0 s0_1 s0_2 from qI74)) : gb284 ≠ g)); clear HI0 HK HB; have HI0 := n0_; have HK := n1_; have HB := n2_; clear n0_ n1_ n2_; clear hb hbox hg) | ((with_reducible refine gate_callee (f := 115) rfl ?_); refine gL (some 14) Try.func115 #[.pointer (some ⟨g, 0, none⟩), .int .i64 5] ?_; (with_reducible refine (spec_l1Cur_pick.calls g s0_0 s0_1 s0_2 5 t285 t286 t287 w0 _ ?side1 ?side2 A3.out).mono ?_); (case side1 => exact qI74); (case side2 => exact qB); rintro e w21 ⟨rfl, hi, hb, hk⟩; refine ⟨_, rfl, ?_⟩; replace BK284 := am (KeepBut.blk hk (g' := gb284) (o := .cells #[.slice none 0 0] 28 (0, 0)) (qb BK284.out) NB284_0.out (by simp)); have n1_ := am (KeepBut.trans qK hk (.inl rfl)); have n2_ := am (hb); replace HI0 := am (hi); clear HK HB; have HK := n1_; have HB := n2_; clear n1_ n2_; (try clear hb); (try clear hb2); (try clear hk); (try clear hi)) | ((with_reducible refine gate_callee (f := 115) rfl ?_); refine gL (some 31) Try.func115 #[.pointer (some ⟨g, 0, none⟩), .int .i64 2] ?_; (with_reducible refine (spec_l1Cur_pick.calls g s0_0 t286 t287 2 t298 t299 t300 w0 _ ?side1 ?side2 A18.out).mono ?_); (case side1 => exact qI74); (case side2 => exact qB); rintro e w22 ⟨rfl, hi, hb, hk⟩; refine ⟨_, rfl, ?_⟩; replace BK284 := am (KeepBut.blk hk (g' := gb284) (o := .cells #[.slice none 0 0] 28 (0, 0)) (qb BK284.out) NB284_0.out (by simp)); have n1_ := am (KeepBut.trans qK hk (.inl rfl)); have n2_ := am (hb); replace HI0 := am (hi); clear HK HB; have HK := n1_; have HB := n2_; clear n1_ n2_; (try clear hb); (try clear hb2); (try clear hk); (try clear hi)) | ((with_reducible refine gate_callee (f := 17) rfl ?_); refine gL (some 33) Try.func17 #[.int .i64 (wrap64 (1 + t298))] ?_; (with_reducible refine (spec_Staircase.calls k (wrap64 (1 + t298)) t301 t304 _ A19.out).mono ?_); rintro e w23 ⟨v302, rfl, ho0, hb⟩; refine ⟨_, rfl, ?_⟩; have HO303 := am (Kd.R_lower ho0 (keep_size (w := w) (g := g) (row := none) qK)); have n1_ := am (IsS74.below qI74 hb); replace BK284 := am (blk_below (g := gb284) (o := .cells #[.slice none 0 0] 28 (0, 0)) (qb BK284.out) hb); have n3_ := am (KeepBut.trans qK (KeepBut.of_below hb g none) (.inl rfl)); replace HB := am (below_step qB hb); clear HI0 HK; have HI0 := n1_; have HK := n3_; clear n1_ n3_; (try clear hb); (try clear hb2); (try clear hk); (try clear hi); (try clear ho0)) | ((with_reducible refine gate_dst (N := 5) rfl ?_); refine qx (N := 5) (cs := #[.slice none 0 0]) (t := 28) ?_; intro gb305 hg w24 hbox hb; replace HO303 := am (Kd.R_below (qR HO303.out) hb); have n1_ := am (IsS74.below qI74 hb); have n2_ := am (blk_below (g := gb284) (o := .cells #[.slice none 0 0] 28 (0, 0)) (qb BK284.out) hb); have n3_ := am (KeepBut.trans qK (KeepBut.of_below hb g none) (.inl rfl)); have n4_ := am (below_step qB hb); have BK305 := am (hbox); have GW305 := am ((by rw [hg]; exact (keep_size (w := w) (g := g) (row := none) qK) : w.heap.size ≤ gb305)); have GE305 := am ((Nat.le_trans HW0.out (by rw [hg]; exact (keep_size (w := w) (g := g) (row := none) qK) : w.heap.size ≤ gb305) : w0.heap.size ≤ gb305)); have NB284_305 := am ((by rw [hg]; exact Nat.ne_of_lt (blk_lt (g := gb284) (o := .cells #[.slice none 0 0] 28 (0, 0)) (qb BK284.out)) : gb284 ≠ gb305)); have NB305_284 := am ((by rw [hg]; exact Nat.ne_of_gt (blk_lt (g := gb284) (o := .cells #[.slice none 0 0] 28 (0, 0)) (qb BK284.out)) : gb305 ≠ gb284)); have NB0_305 := am ((by rw [hg]; exact Nat.ne_of_lt (IsS74.lt (show IsS74 w0 _ g s0_0 t299 t300 from qI74)) : g ≠ gb305)); have NB305_0 := am ((by rw [hg]; exact Nat.ne_of_gt (IsS74.lt (show IsS74 w0 _ g s0_0 t299 t300 from qI74)) : gb305 ≠ g)); clear HI0 BK284 HK HB; have HI0 := n1_; have BK284 := n2_; have HK := n3_; have HB := n4_; clear n1_ n2_ n3_ n4_; clear hb hbox hg; obtain ⟨Ao25, co25, eo25⟩ := Kd.R_slice HO303.out; subst eo25; have hnb26 := NB305_284.out; have hnc26 := NB284_305.out; have hnb27 := NB305_0.out; have hnc27 := NB0_305.out; have hcz28_0 := qz w24 BK305.out; have hfz28_0 := blk_frozen BK305.out 0; have hnb29 := NB284_0.out; have hnc29 := NB0_284.out; have hcz30_0 := qz w24 BK284.out; have hfz30_0 := blk_frozen BK284.out 0))
   refine bodyPost_ret (results_cell_row rfl _ _ gb284 28 #[.slice Ao25 t301.length co25] (0, 0) _ rfl (by (with_reducible repeat (first | refine blk_drewN ?_ _ | refine blk_drew ?_ | refine blk_alloc ?_ _)); refine blk_put (cs := #[.slice none 0 0]) ?_ 0 _ rfl; (with_reducible repeat (first | refine blk_drewN ?_ _ | refine blk_drew ?_ | refine blk_alloc ?_ _)); refine blk_far ?_ NB284_305.out _; refine qb ?_; exact BK284.out) Try.underlying28 rfl (by kernel_rfl)) rfl ?_
   exact ⟨_, qr, qR (Kd.R_mono (Kd.R_far (p := ⟨gb284, 0, none⟩) (Kd.R_far (p := ⟨gb305, 0, none⟩) (Kd.R_types (Kd.R_types HO303.out BK305.out (by decide)) BK284.out (by decide)) (fun _ hk => hk.1.2) (.slice Ao25 t301.length co25)) (fun _ hk => hk.2) (.slice Ao25 t301.length co25)) (fun _ hk => trivial)), qI74, qB, qK⟩
  ·rw [if_neg c17] at H
   have c17b0 : (t285 == 1) = false := beq_eq_false_iff_ne.mpr c17
   have c17b1 : (t285 != 1) = true := bne_iff_ne.mpr c17
   by_cases c31 : t285 = 2
   ·rw [if_pos c31] at H
    have c31b0 : (t285 == 2) = true := beq_iff_eq.mpr c31
    have c31b1 : (t285 != 2) = false := bne_eq_false_iff_eq.mpr c31
    clear c31
    replace H := Option.bind_eq_some_iff.mp H
    obtain ⟨⟨t306, t307, t308⟩, A320, H⟩ := H
    replace H : ((spec_Fence.f k (wrap64 (1 + t306))).bind fun bt309 => (some (bt309.1, t307, t308))) = some (r1, r2, r3) := H
    have A32 := am A320
    clear A320
    replace H := Option.bind_eq_some_iff.mp H
    obtain ⟨⟨t309, t312⟩, A330, H⟩ := H
    replace H : (some (t309, t307, t308)) = some (r1, r2, r3) := H
    have A33 := am A330
    clear A330
    simp only [Option.some.injEq, Prod.mk.injEq] at H
    obtain ⟨rfl, rfl, rfl⟩ := H
    go_enter Try.func170, Try.ntmps170
    go_wp2_with (first | ((with_reducible refine gate_dst (N := 4) rfl ?_); refine qx (N := 4) (cs := #[.slice none 0 0]) (t := 28) ?_; intro gb284 hg w34 hbox hb; have n0_ := am (IsS74.below qI74 hb); have n1_ := am (KeepBut.trans qK (KeepBut.of_below hb g none) (.inl rfl)); have n2_ := am (below_step qB hb); have BK284 := am (hbox); have GW284 := am ((by rw [hg]; exact (keep_size (w := w) (g := g) (row := none) qK) : w.heap.size ≤ gb284)); have GE284 := am ((Nat.le_trans HW0.out (by rw [hg]; exact (keep_size (w := w) (g := g) (row := none) qK) : w.heap.size ≤ gb284) : w0.heap.size ≤ gb284)); have NB0_284 := am ((by rw [hg]; exact Nat.ne_of_lt (IsS74.lt (show IsS74 w0 _ g s0_0 s0_1 s0_2 from qI74)) : g ≠ gb284)); have NB284_0 := am ((by rw [hg]; exact Nat.ne_of_gt (IsS74.lt (show IsS74 w0 _ g s0_0 s0_1 s0_2 from qI74)) : gb284 ≠ g)); clear HI0 HK HB; have HI0 := n0_; have HK := n1_; have HB := n2_; clear n0_ n1_ n2_; clear hb hbox hg) | ((with_reducible refine gate_callee (f := 115) rfl ?_); refine gL (some 14) Try.func115 #[.pointer (some ⟨g, 0, none⟩), .int .i64 5] ?_; (with_reducible refine (spec_l1Cur_pick.calls g s0_0 s0_1 s0_2 5 t285 t286 t287 w0 _ ?side1 ?side2 A3.out).mono ?_); (case side1 => exact qI74); (case side2 => exact qB); rintro e w35 ⟨rfl, hi, hb, hk⟩; refine ⟨_, rfl, ?_⟩; replace BK284 := am (KeepBut.blk hk (g' := gb284) (o := .cells #[.slice none 0 0] 28 (0, 0)) (qb BK284.out) NB284_0.out (by simp)); have n1_ := am (KeepBut.trans qK hk (.inl rfl)); have n2_ := am (hb); replace HI0 := am (hi); clear HK HB; have HK := n1_; have HB := n2_; clear n1_ n2_; (try clear hb); (try clear hb2); (try clear hk); (try clear hi)) | ((with_reducible refine gate_callee (f := 115) rfl ?_); refine gL (some 42) Try.func115 #[.pointer (some ⟨g, 0, none⟩), .int .i64 a1] ?_; (with_reducible refine (spec_l1Cur_pick.calls g s0_0 t286 t287 a1 t306 t307 t308 w0 _ ?side1 ?side2 A32.out).mono ?_); (case side1 => exact qI74); (case side2 => exact qB); rintro e w36 ⟨rfl, hi, hb, hk⟩; refine ⟨_, rfl, ?_⟩; replace BK284 := am (KeepBut.blk hk (g' := gb284) (o := .cells #[.slice none 0 0] 28 (0, 0)) (qb BK284.out) NB284_0.out (by simp)); have n1_ := am (KeepBut.trans qK hk (.inl rfl)); have n2_ := am (hb); replace HI0 := am (hi); clear HK HB; have HK := n1_; have HB := n2_; clear n1_ n2_; (try clear hb); (try clear hb2); (try clear hk); (try clear hi)) | ((with_reducible refine gate_callee (f := 20) rfl ?_); refine gL (some 44) Try.func20 #[.int .i64 (wrap64 (1 + t306))] ?_; (with_reducible refine (spec_Fence.calls k (wrap64 (1 + t306)) t309 t312 _ A33.out).mono ?_); rintro e w37 ⟨v310, rfl, ho0, hb⟩; refine ⟨_, rfl, ?_⟩; have HO311 := am (Kd.R_lower ho0 (keep_size (w := w) (g := g) (row := none) qK)); have n1_ := am (IsS74.below qI74 hb); replace BK284 := am (blk_below (g := gb284) (o := .cells #[.slice none 0 0] 28 (0, 0)) (qb BK284.out) hb); have n3_ := am (KeepBut.trans qK (KeepBut.of_below hb g none) (.inl rfl)); replace HB := am (below_step qB hb); clear HI0 HK; have HI0 := n1_; have HK := n3_; clear n1_ n3_; (try clear hb); (try clear hb2); (try clear hk); (try clear hi); (try clear ho0)) | ((with_reducible refine gate_dst (N := 7) rfl ?_); refine qx (N := 7) (cs := #[.slice none 0 0]) (t := 28) ?_; intro gb313 hg w38 hbox hb; replace HO311 := am (Kd.R_below (qR HO311.out) hb); have n1_ := am (IsS74.below qI74 hb); have n2_ := am (blk_below (g := gb284) (o := .cells #[.slice none 0 0] 28 (0, 0)) (qb BK284.out) hb); have n3_ := am (KeepBut.trans qK (KeepBut.of_below hb g none) (.inl rfl)); have n4_ := am (below_step qB hb); have BK313 := am (hbox); have GW313 := am ((by rw [hg]; exact (keep_size (w := w) (g := g) (row := none) qK) : w.heap.size ≤ gb313)); have GE313 := am ((Nat.le_trans HW0.out (by rw [hg]; exact (keep_size (w := w) (g := g) (row := none) qK) : w.heap.size ≤ gb313) : w0.heap.size ≤ gb313)); have NB284_313 := am ((by rw [hg]; exact Nat.ne_of_lt (blk_lt (g := gb284) (o := .cells #[.slice none 0 0] 28 (0, 0)) (qb BK284.out)) : gb284 ≠ gb313)); have NB313_284 := am ((by rw [hg]; exact Nat.ne_of_gt (blk_lt (g := gb284) (o := .cells #[.slice none 0 0] 28 (0, 0)) (qb BK284.out)) : gb313 ≠ gb284)); have NB0_313 := am ((by rw [hg]; exact Nat.ne_of_lt (IsS74.lt (show IsS74 w0 _ g s0_0 t307 t308 from qI74)) : g ≠ gb313)); have NB313_0 := am ((by rw [hg]; exact Nat.ne_of_gt (IsS74.lt (show IsS74 w0 _ g s0_0 t307 t308 from qI74)) : gb313 ≠ g)); clear HI0 BK284 HK HB; have HI0 := n1_; have BK284 := n2_; have HK := n3_; have HB := n4_; clear n1_ n2_ n3_ n4_; clear hb hbox hg; obtain ⟨Ao39, co39, eo39⟩ := Kd.R_slice HO311.out; subst eo39; have hnb40 := NB313_284.out; have hnc40 := NB284_313.out; have hnb41 := NB313_0.out; have hnc41 := NB0_313.out; have hcz42_0 := qz w38 BK313.out; have hfz42_0 := blk_frozen BK313.out 0; have hnb43 := NB284_0.out; have hnc43 := NB0_284.out; have hcz44_0 := qz w38 BK284.out; have hfz44_0 := blk_frozen BK284.out 0))
    refine bodyPost_ret (results_cell_row rfl _ _ gb284 28 #[.slice Ao39 t309.length co39] (0, 0) _ rfl (by (with_reducible repeat (first | refine blk_drewN ?_ _ | refine blk_drew ?_ | refine blk_alloc ?_ _)); refine blk_put (cs := #[.slice none 0 0]) ?_ 0 _ rfl; (with_reducible repeat (first | refine blk_drewN ?_ _ | refine blk_drew ?_ | refine blk_alloc ?_ _)); refine blk_far ?_ NB284_313.out _; refine qb ?_; exact BK284.out) Try.underlying28 rfl (by kernel_rfl)) rfl ?_
    exact ⟨_, qr, qR (Kd.R_mono (Kd.R_far (p := ⟨gb284, 0, none⟩) (Kd.R_far (p := ⟨gb313, 0, none⟩) (Kd.R_types (Kd.R_types HO311.out BK313.out (by decide)) BK284.out (by decide)) (fun _ hk => hk.1.2) (.slice Ao39 t309.length co39)) (fun _ hk => hk.2) (.slice Ao39 t309.length co39)) (fun _ hk => trivial)), qI74, qB, qK⟩
   ·rw [if_neg c31] at H
    have c31b0 : (t285 == 2) = false := beq_eq_false_iff_ne.mpr c31
    have c31b1 : (t285 != 2) = true := bne_iff_ne.mpr c31
    replace H := Option.bind_eq_some_iff.mp H
    obtain ⟨⟨t314, t315, t316⟩, A450, H⟩ := H
    replace H : ((spec_l1Cur_pick.f s0_0 t315 t316 (wrap64 (2 * (wrap64 (1 + t314))))).bind fun bt317 => (spec_l1Cur_surePoset.l0 k (wrap64 (1 + t314)) ([] : List (List Int)) bt317.1 s0_0 bt317.2.1 bt317.2.2)) = some (r1, r2, r3) := H
    have A45 := am A450
    clear A450
    replace H := Option.bind_eq_some_iff.mp H
    obtain ⟨⟨t317, t318, t319⟩, A460, H⟩ := H
    replace H : (spec_l1Cur_surePoset.l0 k (wrap64 (1 + t314)) ([] : List (List Int)) t317 s0_0 t318 t319) = some (r1, r2, r3) := H
    have A46 := am A460
    clear A460
    have H' := am H
    clear H
    go_enter Try.func170, Try.ntmps170
    go_wp2_with (first | ((with_reducible refine gate_dst (N := 4) rfl ?_); refine qx (N := 4) (cs := #[.slice none 0 0]) (t := 28) ?_; intro gb284 hg w47 hbox hb; have n0_ := am (IsS74.below qI74 hb); have n1_ := am (KeepBut.trans qK (KeepBut.of_below hb g none) (.inl rfl)); have n2_ := am (below_step qB hb); have BK284 := am (hbox); have GW284 := am ((by rw [hg]; exact (keep_size (w := w) (g := g) (row := none) qK) : w.heap.size ≤ gb284)); have GE284 := am ((Nat.le_trans HW0.out (by rw [hg]; exact (keep_size (w := w) (g := g) (row := none) qK) : w.heap.size ≤ gb284) : w0.heap.size ≤ gb284)); have NB0_284 := am ((by rw [hg]; exact Nat.ne_of_lt (IsS74.lt (show IsS74 w0 _ g s0_0 s0_1 s0_2 from qI74)) : g ≠ gb284)); have NB284_0 := am ((by rw [hg]; exact Nat.ne_of_gt (IsS74.lt (show IsS74 w0 _ g s0_0 s0_1 s0_2 from qI74)) : gb284 ≠ g)); clear HI0 HK HB; have HI0 := n0_; have HK := n1_; have HB := n2_; clear n0_ n1_ n2_; clear hb hbox hg) | ((with_reducible refine gate_callee (f := 115) rfl ?_); refine gL (some 14) Try.func115 #[.pointer (some ⟨g, 0, none⟩), .int .i64 5] ?_; (with_reducible refine (spec_l1Cur_pick.calls g s0_0 s0_1 s0_2 5 t285 t286 t287 w0 _ ?side1 ?side2 A3.out).mono ?_); (case side1 => exact qI74); (case side2 => exact qB); rintro e w48 ⟨rfl, hi, hb, hk⟩; refine ⟨_, rfl, ?_⟩; replace BK284 := am (KeepBut.blk hk (g' := gb284) (o := .cells #[.slice none 0 0] 28 (0, 0)) (qb BK284.out) NB284_0.out (by simp)); have n1_ := am (KeepBut.trans qK hk (.inl rfl)); have n2_ := am (hb); replace HI0 := am (hi); clear HK HB; have HK := n1_; have HB := n2_; clear n1_ n2_; (try clear hb); (try clear hb2); (try clear hk); (try clear hi)) | ((with_reducible refine gate_callee (f := 115) rfl ?_); refine gL (some 50) Try.func115 #[.pointer (some ⟨g, 0, none⟩), .int .i64 a1] ?_; (with_reducible refine (spec_l1Cur_pick.calls g s0_0 t286 t287 a1 t314 t315 t316 w0 _ ?side1 ?side2 A45.out).mono ?_); (case side1 => exact qI74); (case side2 => exact qB); rintro e w49 ⟨rfl, hi, hb, hk⟩; refine ⟨_, rfl, ?_⟩; replace BK284 := am (KeepBut.blk hk (g' := gb284) (o := .cells #[.slice none 0 0] 28 (0, 0)) (qb BK284.out) NB284_0.out (by simp)); have n1_ := am (KeepBut.trans qK hk (.inl rfl)); have n2_ := am (hb); replace HI0 := am (hi); clear HK HB; have HK := n1_; have HB := n2_; clear n1_ n2_; (try clear hb); (try clear hb2); (try clear hk); (try clear hi)) | ((with_reducible refine gate_callee (f := 115) rfl ?_); refine gL (some 55) Try.func115 #[.pointer (some ⟨g, 0, none⟩), .int .i64 (wrap64 (2 * (wrap64 (1 + t314))))] ?_; (with_reducible refine (spec_l1Cur_pick.calls g s0_0 t315 t316 (wrap64 (2 * (wrap64 (1 + t314)))) t317 t318 t319 w0 _ ?side1 ?side2 A46.out).mono ?_); (case side1 => exact qI74); (case side2 => exact qB); rintro e w50 ⟨rfl, hi, hb, hk⟩; refine ⟨_, rfl, ?_⟩; replace BK284 := am (KeepBut.blk hk (g' := gb284) (o := .cells #[.slice none 0 0] 28 (0, 0)) (qb BK284.out) NB284_0.out (by simp)); have n1_ := am (KeepBut.trans qK hk (.inl rfl)); have n2_ := am (hb); replace HI0 := am (hi); clear HK HB; have HK := n1_; have HB := n2_; clear n1_ n2_; (try clear hb); (try clear hb2); (try clear hk); (try clear hi)))
    go_loopg [10, 11] k (fun kq v10 v11 w' => ∃ (x10_1 : List (List Int)) (x11_1 : Int) (x1001_1 : Int) (x1002_1 : Int), v11 = .int .i64 x11_1 ∧ Aside0 (spec_l1Cur_surePoset.l0 kq (wrap64 (1 + t314)) x10_1 x11_1 s0_0 x1001_1 x1002_1 = some (r1, r2, r3)) ∧ Aside0 (kq ≤ k) ∧ Aside0 (Kd.S (Kd.slice 3 (Kd.int .i64)) 26 w' w.heap.size (fun _ => True) v10 x10_1) ∧ Aside0 (w'.heap[gb284]? = some (.cells #[(.slice none 0 0)] 28 (0, 0))) ∧ Aside0 (IsS74 w0 w' g s0_0 x1001_1 x1002_1) ∧ Aside0 (KeepBut w w' g none) ∧ Aside0 (Below w0.heap.size w0 w'))
    case atStart => exact ⟨(([] : List (List Int))), (t317), (t318), (t319), qe, H', ⟨Nat.le_refl _⟩, ⟨by first | exact Kd.S_nil _ _ _ _ _ | exact Kd.N_nil _ _ _ _ _ | exact Kd.V_nil _ _ _ _ _ | exact Kd.Q_nil _ _ _ _ _ | exact Kd.R_nil _ _ _ _ _⟩, ⟨qb BK284.out⟩, ⟨qI74⟩, ⟨qK⟩, ⟨qB⟩⟩
    case round =>
     clear H'
     try clear c1
     try clear c2
     try clear p2
     try clear c3
     try clear c4
     try clear c4b0
     try clear c4b1
     try clear p6
     try clear c8
     try clear c11
     try clear c15
     try clear c17
     try clear c17b0
     try clear c17b1
     try clear c20
     try clear c26
     try clear c27
     try clear c29
     try clear c31
     try clear c31b0
     try clear c31b1
     try clear c40
     try clear c41
     try clear c43
     try clear hcz16_0
     try clear hcz28_0
     try clear hcz30_0
     try clear hcz42_0
     try clear hcz44_0
     try clear hfz16_0
     try clear hfz28_0
     try clear hfz30_0
     try clear hfz42_0
     try clear hfz44_0
     obtain ⟨x10_1, x11_1, x1001_1, x1002_1, rfl, HA, HK1, HO_10, BK284, HI0, HK, HB⟩ := hrel
     cases gk with
     | zero => exact absurd HA.out (by simp [spec_l1Cur_surePoset.l0])
     | succ k1 =>
      have H := HA.out
      clear HA
      simp only [spec_l1Cur_surePoset.l0] at H
      have HC51 := am H
      clear H
      go_upto_region 13 with (fail)
      go_cut [61] (fun v61 wc => ∃ (kq : Nat) (x61_50 : Bool), v61 = .bool x61_50 ∧ Aside0 (spec_l1Cur_surePoset.j1 kq (wrap64 (1 + t314)) x10_1 x11_1 x61_50 s0_0 x1001_1 x1002_1 = some (r1, r2, r3)) ∧ Aside0 (kq ≤ k1) ∧ Aside0 (Kd.S (Kd.slice 3 (Kd.int .i64)) 26 wc w.heap.size (fun _ => True) u10 x10_1) ∧ Aside0 (wc.heap[gb284]? = some (.cells #[(.slice none 0 0)] 28 (0, 0))) ∧ Aside0 (IsS74 w0 wc g s0_0 x1001_1 x1002_1) ∧ Aside0 (KeepBut w wc g none) ∧ Aside0 (Below w0.heap.size w0 wc))
      case first =>
       have H := HC51.out
       clear HC51
       by_cases c52 : x11_1 > 0
       ·rw [if_pos c52] at H
        have c52b0 : decide (0 < x11_1) = true := decide_eq_true c52
        clear c52
        (first | rw [c52b0] | (simp only [i64_w, i32_w]; rw [c52b0]) | skip)
        have H' := am H
        clear H
        go_wp2
        go_meet
        case rel => exact ⟨_, (decide ((wrap64 (1 + t314)) > 1)), qe, H', ⟨by have := HK1.out; first | omega | exact Nat.le_refl _⟩, ⟨qS HO_10.out⟩, ⟨qb BK284.out⟩, ⟨qI74⟩, ⟨qK⟩, ⟨qB⟩⟩
       ·rw [if_neg c52] at H
        have c52b0 : decide (0 < x11_1) = false := decide_eq_false c52
        clear c52
        (first | rw [c52b0] | (simp only [i64_w, i32_w]; rw [c52b0]) | skip)
        have H' := am H
        clear H
        go_wp2
        go_meet
        case rel => exact ⟨_, (false), qe, H', ⟨by have := HK1.out; first | omega | exact Nat.le_refl _⟩, ⟨qS HO_10.out⟩, ⟨qb BK284.out⟩, ⟨qI74⟩, ⟨qK⟩, ⟨qB⟩⟩
      case rest =>
       clear HC51
       try clear c1
       try clear c2
       try clear p2
       try clear c3
       try clear c4
       try clear c4b0
       try clear c4b1
       try clear c5
       try clear p6
       try clear c8
       try clear c11
       try clear c15
       try clear c17
       try clear c17b0
       try clear c17b1
       try clear c20
       try clear c26
       try clear c27
       try clear c29
       try clear c31
       try clear c31b0
       try clear c31b1
       try clear c40
       try clear c41
       try clear c43
       try clear c52
       try clear c52b0
       try clear hcz16_0
       try clear hcz28_0
       try clear hcz30_0
       try clear hcz42_0
       try clear hcz44_0
       try clear hfz16_0
       try clear hfz28_0
       try clear hfz30_0
       try clear hfz42_0
       try clear hfz44_0
       try clear p2
       try clear p6
       obtain ⟨kq, x61_50, rfl, HA, HJ50, HO_10, BK284, HI0, HK, HB⟩ := hcut
       cases kq with
       | zero => exact absurd HA.out (by simp [spec_l1Cur_surePoset.j1])
       | succ kj50 =>
        have H := HA.out
        clear HA
        simp only [spec_l1Cur_surePoset.j1] at H
        by_cases c53 : x61_50 = true
        ·subst c53
         have H1 : ((spec_l1Cur_pick.f s0_0 x1001_1 x1002_1 (wrap64 ((wrap64 (1 + t314)) - 1))).bind fun bt320 => ((spec_l1Cur_pick.f s0_0 bt320.2.1 bt320.2.2 (wrap64 ((wrap64 ((wrap64 (1 + t314)) - 1)) - bt320.1))).bind fun bt323 => (if x10_1.length < 5864062014805 then (spec_l1Cur_surePoset.l0 kj50 (wrap64 (1 + t314)) (x10_1 ++ [(([bt320.1, wrap64 ((wrap64 (bt320.1 + 1)) + bt323.1)] : List Int))]) (wrap64 (x11_1 - 1)) s0_0 bt323.2.1 bt323.2.2) else (none)))) = some (r1, r2, r3) := by rw [if_pos rfl] at H; exact H
         clear H
         have H := H1
         clear H1
         replace H := Option.bind_eq_some_iff.mp H
         obtain ⟨⟨t320, t321, t322⟩, A540, H⟩ := H
         replace H : ((spec_l1Cur_pick.f s0_0 t321 t322 (wrap64 ((wrap64 ((wrap64 (1 + t314)) - 1)) - t320))).bind fun bt323 => (if x10_1.length < 5864062014805 then (spec_l1Cur_surePoset.l0 kj50 (wrap64 (1 + t314)) (x10_1 ++ [(([t320, wrap64 ((wrap64 (t320 + 1)) + bt323.1)] : List Int))]) (wrap64 (x11_1 - 1)) s0_0 bt323.2.1 bt323.2.2) else (none))) = some (r1, r2, r3) := H
         have A54 := am A540
         clear A540
         replace H := Option.bind_eq_some_iff.mp H
         obtain ⟨⟨t323, t324, t325⟩, A550, H⟩ := H
         replace H : (if x10_1.length < 5864062014805 then (spec_l1Cur_surePoset.l0 kj50 (wrap64 (1 + t314)) (x10_1 ++ [(([t320, wrap64 ((wrap64 (t320 + 1)) + t323)] : List Int))]) (wrap64 (x11_1 - 1)) s0_0 t324 t325) else (none)) = some (r1, r2, r3) := H
         have A55 := am A550
         clear A550
         obtain ⟨y326, hy326⟩ : ∃ y_ : List Int, y_ = (([t320, wrap64 ((wrap64 (t320 + 1)) + t323)] : List Int)) := ⟨_, rfl⟩
         replace H : (if x10_1.length < 5864062014805 then (spec_l1Cur_surePoset.l0 kj50 (wrap64 (1 + t314)) (x10_1 ++ [y326]) (wrap64 (x11_1 - 1)) s0_0 t324 t325) else (none)) = some (r1, r2, r3) := by first | (rw [hy326]; with_reducible exact H) | (have H2_ := (Option.bind_some _ _).symm.trans H; rw [hy326]; with_reducible exact H2_) | (have H2_ := (Option.bind_some _ _).symm.trans H; with_reducible exact H2_) | with_reducible exact H | (rw [hy326]; exact H) | exact H
         have Ny326 := am hy326
         clear hy326
         by_cases c56 : x10_1.length < 5864062014805
         rotate_left
         ·rw [if_neg c56] at H
          exact absurd H (by simp)
         rw [if_pos c56] at H
         have LMc56 := am c56
         clear c56
         obtain ⟨y329, hy329⟩ : ∃ y_ : List (List Int), y_ = (x10_1 ++ [y326]) := ⟨_, rfl⟩
         replace H : (spec_l1Cur_surePoset.l0 kj50 (wrap64 (1 + t314)) y329 (wrap64 (x11_1 - 1)) s0_0 t324 t325) = some (r1, r2, r3) := by first | (rw [hy329]; with_reducible exact H) | (have H2_ := (Option.bind_some _ _).symm.trans H; rw [hy329]; with_reducible exact H2_) | (have H2_ := (Option.bind_some _ _).symm.trans H; with_reducible exact H2_) | with_reducible exact H | (rw [hy329]; exact H) | exact H
         have Ny329 := am hy329
         clear hy329
         have H' := am H
         clear H
         go_wp2_with (first | ((with_reducible refine gate_callee (f := 115) rfl ?_); refine gL (some 67) Try.func115 #[.pointer (some ⟨g, 0, none⟩), .int .i64 (wrap64 ((wrap64 (1 + t314)) - 1))] ?_; (with_reducible refine (spec_l1Cur_pick.calls g s0_0 x1001_1 x1002_1 (wrap64 ((wrap64 (1 + t314)) - 1)) t320 t321 t322 w0 _ ?side1 ?side2 A54.out).mono ?_); (case side1 => exact qI74); (case side2 => exact qB); rintro e w57 ⟨rfl, hi, hb, hk⟩; refine ⟨_, rfl, ?_⟩; replace HO_10 := am (Kd.S_mono (Kd.S_keep (IsS74.apartS (show IsS74 w0 _ g s0_0 x1001_1 x1002_1 from qI74) (qS HO_10.out) (by decide)) hk (fun _ h => h.2)) (fun _ h => h.1)); replace BK284 := am (KeepBut.blk hk (g' := gb284) (o := .cells #[.slice none 0 0] 28 (0, 0)) (qb BK284.out) NB284_0.out (by simp)); have n2_ := am (KeepBut.trans qK hk (.inl rfl)); have n3_ := am (hb); replace HI0 := am (hi); clear HK HB; have HK := n2_; have HB := n3_; clear n2_ n3_; (try clear hb); (try clear hb2); (try clear hk); (try clear hi)) | ((with_reducible refine gate_callee (f := 115) rfl ?_); refine gL (some 77) Try.func115 #[.pointer (some ⟨g, 0, none⟩), .int .i64 (wrap64 ((wrap64 ((wrap64 (1 + t314)) - 1)) - t320))] ?_; (with_reducible refine (spec_l1Cur_pick.calls g s0_0 t321 t322 (wrap64 ((wrap64 ((wrap64 (1 + t314)) - 1)) - t320)) t323 t324 t325 w0 _ ?side1 ?side2 A55.out).mono ?_); (case side1 => exact qI74); (case side2 => exact qB); rintro e w58 ⟨rfl, hi, hb, hk⟩; refine ⟨_, rfl, ?_⟩; replace HO_10 := am (Kd.S_mono (Kd.S_keep (IsS74.apartS (show IsS74 w0 _ g s0_0 t321 t322 from qI74) (qS HO_10.out) (by decide)) hk (fun _ h => h.2)) (fun _ h => h.1)); replace BK284 := am (KeepBut.blk hk (g' := gb284) (o := .cells #[.slice none 0 0] 28 (0, 0)) (qb BK284.out) NB284_0.out (by simp)); have n2_ := am (KeepBut.trans qK hk (.inl rfl)); have n3_ := am (hb); replace HI0 := am (hi); clear HK HB; have HK := n2_; have HB := n3_; clear n2_ n3_; (try clear hb); (try clear hb2); (try clear hk); (try clear hi)) | ((with_reducible refine gate_dst (N := 79) rfl ?_); refine Kd.R_lit (Kd.int .i64) _ 3 ?hg (N := 79) ?hd (xs := ([t320, wrap64 ((wrap64 (t320 + 1)) + t323)] : List Int)) (inner := [.int .i64 t320, .int .i64 (wrap64 ((wrap64 (t320 + 1)) + t323))]) (ok := fun _ => True) (okp := fun _ => True) ?hr ?hp (fun _ hk => hk) trivial (Below.refl _ _) (Nat.le_refl _) (by simp) ?_; (case hd => rfl); (case hg => rfl); (case hr => first | (go_simp; done) | (go_simp; rfl)); (case hp => exact (Reps.one (show Kd.M (Kd.int .i64) _ _ _ t320 [.int .i64 t320] from rfl) (Reps.one (show Kd.M (Kd.int .i64) _ _ _ (wrap64 ((wrap64 (t320 + 1)) + t323)) [.int .i64 (wrap64 ((wrap64 (t320 + 1)) + t323))] from rfl) (Reps.none _ _)))); intro v327 w59 ho60 hb hg_ hnew_; clear hg_ hnew_; (first | rw [← Ny326.out] at ho60 | (simp only [Int.reduceToNat] at ho60; rw [← Ny326.out] at ho60)); replace HO_10 := am (Kd.S_elder' (qS HO_10.out) (Kd.R_base ho60) hb); have HO328 := am (Kd.R_lower ho60 (keep_size (w := w) (g := g) (row := none) qK)); replace BK284 := am (blk_below (g := gb284) (o := .cells #[.slice none 0 0] 28 (0, 0)) (qb BK284.out) hb); have n3_ := am (IsS74.below qI74 hb); have n4_ := am (KeepBut.trans qK (KeepBut.of_below hb g none) (.inl rfl)); replace HB := am (below_step qB hb); clear HI0 HK; have HI0 := n3_; have HK := n4_; clear n3_ n4_; clear hb ho60; obtain ⟨Ao62, co62, eo62⟩ := Kd.R_slice HO328.out; subst eo62) | ((with_reducible refine gate_builtin (b := .append) (xs := #[.tmp 68, .tmp 80]) rfl ?_); at_builtin; refine Kd.S_append (Kd.slice 3 (Kd.int .i64)) w.heap.size rfl (.tmp 68) (.tmp 80) 56 26 (.slice none 0 0) 24 rfl Try.underlying56 info26 rfl (by decide) (by omega) u10 x10_1 y326 [.slice Ao62 y326.length co62] (fun _ => True) (fun k_ => some k_ = (.slice Ao62 y326.length co62 : Value).ownBlock) rfl rfl ?aP (fun k_ hk_ => ((Kd.R_mono (ok' := fun k_ => ((fun _ => True)) k_ ∧ some k_ ≠ (u10 : Value).ownBlock) (Kd.R_apart' (HO328.out) (Kd.S_typed HO_10.out) (by decide)) (fun k_ hk => ⟨trivial, hk.2⟩))).1 k_ hk_.symm) ?aF ?aO (Below.refl _ _) ?aS ?aL ?_; (case aP => exact Kd.M_row (Kd.R_mono (Kd.R_tight rfl (Kd.R_mono (ok' := fun k_ => ((fun _ => True)) k_ ∧ some k_ ≠ (u10 : Value).ownBlock) (Kd.R_apart' (HO328.out) (Kd.S_typed HO_10.out) (by decide)) (fun k_ hk => ⟨trivial, hk.2⟩))) (fun _ h_ => h_))); (case aF => exact (fun _ _ => trivial)); (case aO => exact (qS (Kd.S_mono HO_10.out (fun k_ hk => ⟨trivial, fun e_ => hk.2 e_⟩)))); (case aS => exact (keep_size (w := w) (g := g) (row := none) qK)); (case aL => have := LMc56.out; omega); intro v330 w61 ho hb hg hat; rw [← Ny329.out] at ho; replace BK284 := am (blk_grown (g := gb284) (o := .cells #[.slice none 0 0] 28 (0, 0)) (qb BK284.out) hg (Kd.S_ne HO_10.out BK284.out (by decide))); have n1_ := am (IsS74.grown qI74 hg (IsS74.own_neS HI0.out HO_10.out (by decide))); have n2_ := am (below_weaken qB HL.out hb); have n3_ := am (KeepBut.trans qK (KeepBut.of_grown hg g) (Kd.S_base2 HO_10.out)); have HO331 := am (ho); clear HI0 HB HK HO_10 HO328; have HI0 := n1_; have HB := n2_; have HK := n3_; clear n1_ n2_ n3_; clear ho hb hg hat))
         go_roundg kj50
         case measure => have := HK1.out; have := HJ50.out; omega
         case rel => exact ⟨(y329), (wrap64 (x11_1 - 1)), (t324), (t325), qe, H', ⟨by have := HK1.out; have := HJ50.out; omega⟩, ⟨qS HO331.out⟩, ⟨qb BK284.out⟩, ⟨qI74⟩, ⟨qK⟩, ⟨qB⟩⟩
        ·replace c53 := Bool.eq_false_iff.mpr c53
         subst c53
         have H1 : ((spec_poFrom.f kj50 (wrap64 (1 + t314)) x10_1).bind fun t332 => (some (t332, x1001_1, x1002_1))) = some (r1, r2, r3) := by rw [if_neg (show ¬ (false = true) by decide)] at H; exact H
         clear H
         have H := H1
         clear H1
         replace H := Option.bind_eq_some_iff.mp H
         obtain ⟨t332, A630, H⟩ := H
         replace H : (some (t332, x1001_1, x1002_1)) = some (r1, r2, r3) := H
         have A63 := am A630
         clear A630
         simp only [Option.some.injEq, Prod.mk.injEq] at H
         obtain ⟨rfl, rfl, rfl⟩ := H
         obtain ⟨Ao64, co64, eo64⟩ := Kd.S_slice HO_10.out
         subst eo64
         go_wp2_with (first | ((with_reducible refine gate_callee (f := 92) rfl ?_); refine gL (some 84) Try.func92 #[.int .i64 (wrap64 (1 + t314)), .slice Ao64 x10_1.length co64] ?_; (with_reducible refine (spec_poFrom.calls kj50 (wrap64 (1 + t314)) _ _ x10_1 t332 _ ?side1 ?side2 A63.out).mono ?_); (case side1 => exact qC (Kd.S_reads' HO_10.out).2.2); (case side2 => exact (Kd.S_reads' HO_10.out).2.1); rintro e w65 ⟨v333, rfl, ho0, hb⟩; refine ⟨_, rfl, ?_⟩; replace HO_10 := am (Kd.S_elder' (qS HO_10.out) (Kd.R_base ho0) hb); have HO334 := am (Kd.R_lower ho0 (keep_size (w := w) (g := g) (row := none) qK)); replace BK284 := am (blk_below (g := gb284) (o := .cells #[.slice none 0 0] 28 (0, 0)) (qb BK284.out) hb); have n3_ := am (IsS74.below qI74 hb); have n4_ := am (KeepBut.trans qK (KeepBut.of_below hb g none) (.inl rfl)); replace HB := am (below_step qB hb); clear HI0 HK; have HI0 := n3_; have HK := n4_; clear n3_ n4_; (try clear hb); (try clear hb2); (try clear hk); (try clear hi); (try clear ho0); obtain ⟨Ao66, co66, eo66⟩ := Kd.R_slice HO334.out; subst eo66; have hnb67 := NB284_0.out; have hnc67 := NB0_284.out; have hcz68_0 := qz w65 BK284.out; have hfz68_0 := blk_frozen BK284.out 0))
         refine bodyPost_ret (results_cell_row rfl _ _ gb284 28 #[.slice Ao66 t332.length co66] (0, 0) _ rfl (by (with_reducible repeat (first | refine blk_drewN ?_ _ | refine blk_drew ?_ | refine blk_alloc ?_ _)); refine blk_put (cs := #[.slice none 0 0]) ?_ 0 _ rfl; refine qb ?_; exact BK284.out) Try.underlying28 rfl (by kernel_rfl)) rfl ?_
         exact ⟨_, qr, qR (Kd.R_mono (Kd.R_far (p := ⟨gb284, 0, none⟩) (Kd.R_types HO334.out BK284.out (by decide)) (fun _ hk => hk.2) (.slice Ao66 t332.length co66)) (fun _ hk => trivial)), qI74, qB, qK⟩
def spec_l1Cur_poset.l0 : Nat → Int → List Int → Int → Int → List Int → Option (List Int × Int × Int)
 | 0, _, _, _, _, _ => none
 | k + 1, x7, x1000, x1001, x1002, x342000 => if x7 < 11 then (if x342000.length < 17592186044416 then (spec_l1Cur_poset.l0 k (wrap64 (x7 + 1)) x1000 x1001 x1002 (x342000 ++ [0])) else (none)) else (some (x342000, x1001, x1002))
def spec_l1Cur_poset.f (k : Nat) (s0_0 : List Int) (s0_1 : Int) (s0_2 : Int) (a1 : Int) : Option (List Int × Int × Int) := (spec_l1Cur_surePoset.f k s0_0 s0_1 s0_2 a1).bind fun bt336 => ((spec_l1Own.f bt336.1).bind fun t342 => ((spec_l1Cur_pick.f s0_0 bt336.2.1 bt336.2.2 20).bind fun bt345 => (if bt345.1 = 0 then ((spec_l1Cur_pick.f s0_0 bt345.2.1 bt345.2.2 (t342.length : Int)).bind fun bt348 => (if 0 ≤ bt348.1 then ((spec_l1Cur_among.f s0_0 bt348.2.1 bt348.2.2 (([(-1), 1, 3, shl .i64 1 bt348.1, 4611686018427387904] : List Int))).bind fun bt354 => (if bt348.1 < (t342.length : Int) then (some ((t342.set (bt348.1 : Int).toNat bt354.1), bt354.2.1, bt354.2.2)) else (none))) else (none))) else (if bt345.1 = 1 then (some (([] : List Int), bt345.2.1, bt345.2.2)) else (if bt345.1 = 2 then (spec_l1Cur_poset.l0 k 0 s0_0 bt345.2.1 bt345.2.2 t342) else (some (t342, bt345.2.1, bt345.2.2)))))))
theorem spec_l1Cur_poset.mono_l : ∀ k, (∀ y0 y1 y2 y3 y4, LeO (spec_l1Cur_poset.l0 k y0 y1 y2 y3 y4) (spec_l1Cur_poset.l0 (k + 1) y0 y1 y2 y3 y4))
 | 0 => fun _ _ _ _ _ r h => by simp [spec_l1Cur_poset.l0] at h
 | k + 1 => by
  have ih0 := spec_l1Cur_poset.mono_l k
  ·intro y0 y1 y2 y3 y4
   unfold spec_l1Cur_poset.l0
   repeat' first
   | (with_reducible exact spec_l1Cur_surePoset.mono _ _ _ _ _)
   | (with_reducible exact LeO.refl _)
   | (with_reducible exact LeO.none _)
   | (with_reducible refine LeO.ite ?_ ?_)
   | (with_reducible refine LeO.bind ?_ (fun _ => ?_))
   | exact ih0 _ _ _ _ _
   | exact spec_l1Cur_surePoset.mono _ _ _ _ _
   | exact LeO.none _
   | refine LeO.ite ?_ ?_
   | refine LeO.bind ?_ (fun _ => ?_)
theorem spec_l1Cur_poset.mono : ∀ a0 a1 a2 a3 k, LeO (spec_l1Cur_poset.f k a0 a1 a2 a3) (spec_l1Cur_poset.f (k + 1) a0 a1 a2 a3) := by
 intro a0 a1 a2 a3 k
 have ih0 := spec_l1Cur_poset.mono_l k
 unfold spec_l1Cur_poset.f
 repeat' first
  | (with_reducible exact spec_l1Cur_surePoset.mono _ _ _ _ _)
  | (with_reducible exact LeO.refl _)
  | (with_reducible exact LeO.none _)
  | (with_reducible refine LeO.ite ?_ ?_)
  | (with_reducible refine LeO.bind ?_ (fun _ => ?_))
  | exact ih0 _ _ _ _ _
  | exact spec_l1Cur_surePoset.mono _ _ _ _ _
  | exact LeO.none _
  | refine LeO.ite ?_ ?_
  | refine LeO.bind ?_ (fun _ => ?_)
def spec_l1Cur_poset.T6 : Bool × List (List Nat × List Nat) := (true, [([], []), ([0], [0]), ([], []), ([], []), ([], []), ([4], [4]), ([5], [5]), ([3, 6], [3, 6]), ([1, 2, 0, 1, 2, 3, 4, 5, 6, 7], [1, 2]), ([8, 7, 7, 0, 1, 2, 3, 4, 5, 6, 7], [7, 8])])
def spec_l1Cur_poset.B6 : List Nat := [0, 1, 0, 0, 0, 16, 48, 120, 255, 511]
theorem spec_l1Cur_poset.tab6 : rtab .any (opsOf Try.f155 6) = spec_l1Cur_poset.T6 := by kernel_rfl
theorem spec_l1Cur_poset.bits6 : waitsOk spec_l1Cur_poset.T6.2 spec_l1Cur_poset.B6 = true := by kernel_rfl
set_option maxHeartbeats 8000000 in
set_option maxRecDepth 100000 in
theorem spec_l1Cur_poset.calls (k : Nat) (g : Nat) (s0_0 : List Int) (s0_1 : Int) (s0_2 : Int) (a1 : Int) (r1 : List Int) (r2 : Int) (r3 : Int) (w0 w : World) (hI : IsS74 w0 w g s0_0 s0_1 s0_2) (hB : Below w0.heap.size w0 w) (h : spec_l1Cur_poset.f k s0_0 s0_1 s0_2 a1 = some (r1, r2, r3)) :
 Calls Try.prog 155 #[.pointer (some ⟨g, 0, none⟩), .int .i64 a1] w fun e w' => ∃ v0_ : Value, e = .returned (.agg #[v0_]) ∧ Kd.R (Kd.int .i64) 3 w' w.heap.size (fun _ => True) v0_ r1 ∧ IsS74 w0 w' g s0_0 r2 r3 ∧ Below w0.heap.size w0 w' ∧ KeepBut w w' g none := by
 have hu28 := Try.underlying28
 have HI0 := am hI
 have HK := am (KeepBut.refl w g none)
 have HL := am hB.size
 clear hI
 have HW0 := am hB.size
 have HB := am hB
 clear hB
 have H : ((spec_l1Cur_surePoset.f k s0_0 s0_1 s0_2 a1).bind fun bt336 => ((spec_l1Own.f bt336.1).bind fun t342 => ((spec_l1Cur_pick.f s0_0 bt336.2.1 bt336.2.2 20).bind fun bt345 => (if bt345.1 = 0 then ((spec_l1Cur_pick.f s0_0 bt345.2.1 bt345.2.2 (t342.length : Int)).bind fun bt348 => (if 0 ≤ bt348.1 then ((spec_l1Cur_among.f s0_0 bt348.2.1 bt348.2.2 (([(-1), 1, 3, shl .i64 1 bt348.1, 4611686018427387904] : List Int))).bind fun bt354 => (if bt348.1 < (t342.length : Int) then (some ((t342.set (bt348.1 : Int).toNat bt354.1), bt354.2.1, bt354.2.2)) else (none))) else (none))) else (if bt345.1 = 1 then (some (([] : List Int), bt345.2.1, bt345.2.2)) else (if bt345.1 = 2 then (spec_l1Cur_poset.l0 k 0 s0_0 bt345.2.1 bt345.2.2 t342) else (some (t342, bt345.2.1, bt345.2.2)))))))) = some (r1, r2, r3) := h
 clear h
 replace H := Option.bind_eq_some_iff.mp H
 obtain ⟨⟨t336, t339, t340⟩, A30, H⟩ := H
 replace H : ((spec_l1Own.f t336).bind fun t342 => ((spec_l1Cur_pick.f s0_0 t339 t340 20).bind fun bt345 => (if bt345.1 = 0 then ((spec_l1Cur_pick.f s0_0 bt345.2.1 bt345.2.2 (t342.length : Int)).bind fun bt348 => (if 0 ≤ bt348.1 then ((spec_l1Cur_among.f s0_0 bt348.2.1 bt348.2.2 (([(-1), 1, 3, shl .i64 1 bt348.1, 4611686018427387904] : List Int))).bind fun bt354 => (if bt348.1 < (t342.length : Int) then (some ((t342.set (bt348.1 : Int).toNat bt354.1), bt354.2.1, bt354.2.2)) else (none))) else (none))) else (if bt345.1 = 1 then (some (([] : List Int), bt345.2.1, bt345.2.2)) else (if bt345.1 = 2 then (spec_l1Cur_poset.l0 k 0 s0_0 bt345.2.1 bt345.2.2 t342) else (some (t342, bt345.2.1, bt345.2.2))))))) = some (r1, r2, r3) := H
 have A3 := am A30
 clear A30
 replace H := Option.bind_eq_some_iff.mp H
 obtain ⟨t342, A40, H⟩ := H
 replace H : ((spec_l1Cur_pick.f s0_0 t339 t340 20).bind fun bt345 => (if bt345.1 = 0 then ((spec_l1Cur_pick.f s0_0 bt345.2.1 bt345.2.2 (t342.length : Int)).bind fun bt348 => (if 0 ≤ bt348.1 then ((spec_l1Cur_among.f s0_0 bt348.2.1 bt348.2.2 (([(-1), 1, 3, shl .i64 1 bt348.1, 4611686018427387904] : List Int))).bind fun bt354 => (if bt348.1 < (t342.length : Int) then (some ((t342.set (bt348.1 : Int).toNat bt354.1), bt354.2.1, bt354.2.2)) else (none))) else (none))) else (if bt345.1 = 1 then (some (([] : List Int), bt345.2.1, bt345.2.2)) else (if bt345.1 = 2 then (spec_l1Cur_poset.l0 k 0 s0_0 bt345.2.1 bt345.2.2 t342) else (some (t342, bt345.2.1, bt345.2.2)))))) = some (r1, r2, r3) := H
 have A4 := am A40
 clear A40
 replace H := Option.bind_eq_some_iff.mp H
 obtain ⟨⟨t345, t346, t347⟩, A50, H⟩ := H
 replace H : (if t345 = 0 then ((spec_l1Cur_pick.f s0_0 t346 t347 (t342.length : Int)).bind fun bt348 => (if 0 ≤ bt348.1 then ((spec_l1Cur_among.f s0_0 bt348.2.1 bt348.2.2 (([(-1), 1, 3, shl .i64 1 bt348.1, 4611686018427387904] : List Int))).bind fun bt354 => (if bt348.1 < (t342.length : Int) then (some ((t342.set (bt348.1 : Int).toNat bt354.1), bt354.2.1, bt354.2.2)) else (none))) else (none))) else (if t345 = 1 then (some (([] : List Int), t346, t347)) else (if t345 = 2 then (spec_l1Cur_poset.l0 k 0 s0_0 t346 t347 t342) else (some (t342, t346, t347))))) = some (r1, r2, r3) := H
 have A5 := am A50
 clear A50
 by_cases c6 : t345 = 0
 ·rw [if_pos c6] at H
  have c6b0 : (t345 == 0) = true := beq_iff_eq.mpr c6
  have c6b1 : (t345 != 0) = false := bne_eq_false_iff_eq.mpr c6
  clear c6
  replace H := Option.bind_eq_some_iff.mp H
  obtain ⟨⟨t348, t349, t350⟩, A70, H⟩ := H
  replace H : (if 0 ≤ t348 then ((spec_l1Cur_among.f s0_0 t349 t350 (([(-1), 1, 3, shl .i64 1 t348, 4611686018427387904] : List Int))).bind fun bt354 => (if t348 < (t342.length : Int) then (some ((t342.set (t348 : Int).toNat bt354.1), bt354.2.1, bt354.2.2)) else (none))) else (none)) = some (r1, r2, r3) := H
  have A7 := am A70
  clear A70
  by_cases c8 : 0 ≤ t348
  rotate_left
  ·rw [if_neg c8] at H
   exact absurd H (by simp)
  rw [if_pos c8] at H
  have c8b0 := eq_true c8
  have c8b1 := decide_eq_true c8
  clear c8
  obtain ⟨ji9, hji9⟩ : ∃ j_ : Int, (shl .i64 1 t348) = j_ := ⟨_, rfl⟩
  replace H : ((spec_l1Cur_among.f s0_0 t349 t350 (([(-1), 1, 3, ji9, 4611686018427387904] : List Int))).bind fun bt354 => (if t348 < (t342.length : Int) then (some ((t342.set (t348 : Int).toNat bt354.1), bt354.2.1, bt354.2.2)) else (none))) = some (r1, r2, r3) := by first | (rw [hji9] at H; exact H) | (simp only [hji9] at H ⊢; exact H)
  (try rw [hji9] at A3)
  (try rw [hji9] at A4)
  (try rw [hji9] at A5)
  (try rw [hji9] at A7)
  have hji9_ : (IntKind.i64.wrap (1 * 2 ^ min t348.toNat 64)) = ji9 := hji9
  have hji9z : t348 ≤ 64 → (IntKind.i64.wrap (1 * 2 ^ t348.toNat)) = ji9 := shl_small hji9
  have hji9u : (IntKind.i64.wrap (2 ^ min t348.toNat 64)) = ji9 := by have h_ := hji9_; rw [Int.one_mul] at h_; exact h_
  have hji9v : t348 ≤ 64 → (IntKind.i64.wrap (2 ^ t348.toNat)) = ji9 := fun hle_ => by have h_ := hji9z hle_; rw [Int.one_mul] at h_; exact h_
  have hji9y : (wrap64 (1 * 2 ^ min t348.toNat 64)) = ji9 := (i64_w _).symm.trans hji9_
  have hji9x : t348 ≤ 64 → (wrap64 (1 * 2 ^ t348.toNat)) = ji9 := fun h_ => (i64_w _).symm.trans (hji9z h_)
  obtain ⟨y351, hy351⟩ : ∃ y_ : List Int, y_ = (([(-1), 1, 3, ji9, 4611686018427387904] : List Int)) := ⟨_, rfl⟩
  replace H : ((spec_l1Cur_among.f s0_0 t349 t350 y351).bind fun bt354 => (if t348 < (t342.length : Int) then (some ((t342.set (t348 : Int).toNat bt354.1), bt354.2.1, bt354.2.2)) else (none))) = some (r1, r2, r3) := by first | (rw [hy351]; with_reducible exact H) | (have H2_ := (Option.bind_some _ _).symm.trans H; rw [hy351]; with_reducible exact H2_) | (have H2_ := (Option.bind_some _ _).symm.trans H; with_reducible exact H2_) | with_reducible exact H | (rw [hy351]; exact H) | exact H
  have Ny351 := am hy351
  clear hy351
  replace H := Option.bind_eq_some_iff.mp H
  obtain ⟨⟨t354, t355, t356⟩, A100, H⟩ := H
  replace H : (if t348 < (t342.length : Int) then (some ((t342.set (t348 : Int).toNat t354), t355, t356)) else (none)) = some (r1, r2, r3) := H
  have A10 := am A100
  clear A100
  by_cases c11 : t348 < (t342.length : Int)
  rotate_left
  ·rw [if_neg c11] at H
   exact absurd H (by simp)
  rw [if_pos c11] at H
  have c11b0 := decide_eq_true c11
  clear c11
  obtain ⟨y357, hy357⟩ : ∃ y_ : List Int, y_ = (t342.set (t348 : Int).toNat t354) := ⟨_, rfl⟩
  replace H : (some (y357, t355, t356)) = some (r1, r2, r3) := by first | (rw [hy357]; with_reducible exact H) | (have H2_ := (Option.bind_some _ _).symm.trans H; rw [hy357]; with_reducible exact H2_) | (have H2_ := (Option.bind_some _ _).symm.trans H; with_reducible exact H2_) | with_reducible exact H | (rw [hy357]; exact H) | exact H
  have Ny357 := am hy357
  clear hy357
  simp only [Option.some.injEq, Prod.mk.injEq] at H
  obtain ⟨rfl, rfl, rfl⟩ := H
  go_enter Try.func155, Try.ntmps155
  try go_wp2_with (first | ((with_reducible refine gate_dst (N := 4) rfl ?_); refine qx (N := 4) (cs := #[.slice none 0 0]) (t := 28) ?_; intro gb335 hg w13 hbox hb; have n0_ := am (IsS74.below qI74 hb); have n1_ := am (KeepBut.trans qK (KeepBut.of_below hb g none) (.inl rfl)); have n2_ := am (below_step qB hb); have BK335 := am (hbox); have GW335 := am ((by rw [hg]; exact (keep_size (w := w) (g := g) (row := none) qK) : w.heap.size ≤ gb335)); have GE335 := am ((Nat.le_trans HW0.out (by rw [hg]; exact (keep_size (w := w) (g := g) (row := none) qK) : w.heap.size ≤ gb335) : w0.heap.size ≤ gb335)); have NB0_335 := am ((by rw [hg]; exact Nat.ne_of_lt (IsS74.lt (show IsS74 w0 _ g s0_0 s0_1 s0_2 from qI74)) : g ≠ gb335)); have NB335_0 := am ((by rw [hg]; exact Nat.ne_of_gt (IsS74.lt (show IsS74 w0 _ g s0_0 s0_1 s0_2 from qI74)) : gb335 ≠ g)); clear HI0 HK HB; have HI0 := n0_; have HK := n1_; have HB := n2_; clear n0_ n1_ n2_; clear hb hbox hg) | ((with_reducible refine gate_callee (f := 170) rfl ?_); refine gL (some 10) Try.func170 #[.pointer (some ⟨g, 0, none⟩), .int .i64 a1] ?_; (with_reducible refine (spec_l1Cur_surePoset.calls k g s0_0 s0_1 s0_2 a1 t336 t339 t340 w0 _ ?side1 ?side2 A3.out).mono ?_); (case side1 => exact qI74); (case side2 => exact qB); rintro e w14 ⟨v337, rfl, ho0, hi, hb, hk⟩; refine ⟨_, rfl, ?_⟩; replace BK335 := am (KeepBut.blk hk (g' := gb335) (o := .cells #[.slice none 0 0] 28 (0, 0)) (qb BK335.out) NB335_0.out (by simp)); have HO338 := am (Kd.R_lower ho0 (keep_size (w := w) (g := g) (row := none) qK)); have n2_ := am (KeepBut.trans qK hk (.inl rfl)); have n3_ := am (hb); replace HI0 := am (hi); clear HK HB; have HK := n2_; have HB := n3_; clear n2_ n3_; (try clear hb); (try clear hb2); (try clear hk); (try clear hi); (try clear ho0)) | ((with_reducible refine gate_dst (N := 5) rfl ?_); refine qx (N := 5) (cs := #[.slice none 0 0]) (t := 28) ?_; intro gb341 hg w15 hbox hb; replace HO338 := am (Kd.R_below (qR HO338.out) hb); have n1_ := am (IsS74.below qI74 hb); have n2_ := am (blk_below (g := gb335) (o := .cells #[.slice none 0 0] 28 (0, 0)) (qb BK335.out) hb); have n3_ := am (KeepBut.trans qK (KeepBut.of_below hb g none) (.inl rfl)); have n4_ := am (below_step qB hb); have BK341 := am (hbox); have GW341 := am ((by rw [hg]; exact (keep_size (w := w) (g := g) (row := none) qK) : w.heap.size ≤ gb341)); have GE341 := am ((Nat.le_trans HW0.out (by rw [hg]; exact (keep_size (w := w) (g := g) (row := none) qK) : w.heap.size ≤ gb341) : w0.heap.size ≤ gb341)); have NB335_341 := am ((by rw [hg]; exact Nat.ne_of_lt (blk_lt (g := gb335) (o := .cells #[.slice none 0 0] 28 (0, 0)) (qb BK335.out)) : gb335 ≠ gb341)); have NB341_335 := am ((by rw [hg]; exact Nat.ne_of_gt (blk_lt (g := gb335) (o := .cells #[.slice none 0 0] 28 (0, 0)) (qb BK335.out)) : gb341 ≠ gb335)); have NB0_341 := am ((by rw [hg]; exact Nat.ne_of_lt (IsS74.lt (show IsS74 w0 _ g s0_0 t339 t340 from qI74)) : g ≠ gb341)); have NB341_0 := am ((by rw [hg]; exact Nat.ne_of_gt (IsS74.lt (show IsS74 w0 _ g s0_0 t339 t340 from qI74)) : gb341 ≠ g)); clear HI0 BK335 HK HB; have HI0 := n1_; have BK335 := n2_; have HK := n3_; have HB := n4_; clear n1_ n2_ n3_ n4_; clear hb hbox hg; obtain ⟨Ao16, co16, eo16⟩ := Kd.R_slice HO338.out; subst eo16; have hnb17 := NB341_335.out; have hnc17 := NB335_341.out; have hnb18 := NB341_0.out; have hnc18 := NB0_341.out; have hcz19_0 := qz w15 BK341.out; have hfz19_0 := blk_frozen BK341.out 0) | ((with_reducible refine gate_callee (f := 164) rfl ?_); refine gL (some 13) Try.func164 #[.slice Ao16 t336.length co16] ?_; (with_reducible refine (spec_l1Own.calls _ _ t336 t342 _ ?side1 ?side2 A4.out).mono ?_); (case side1 => refine (Kd.R_reads' (e := 3) (base := w.heap.size) (ok := fun k_ => True) (n := t336.length) (c := co16) ?_).2.2; exact (qR ((Kd.R_mono (Kd.R_far (p := ⟨gb341, 0, none⟩) (Kd.R_types HO338.out BK341.out (by decide)) (fun _ hk => hk.2) (.slice Ao16 t336.length co16)) (fun _ h_ => h_.1))))); (case side2 => exact (Kd.R_reads' HO338.out).2.1); rintro e w20 ⟨v343, rfl, ho0, hb⟩; refine ⟨_, rfl, ?_⟩; have n0_ := am (Kd.R_elder' (qR ((Kd.R_mono (Kd.R_far (p := ⟨gb341, 0, none⟩) (Kd.R_types HO338.out BK341.out (by decide)) (fun _ hk => hk.2) (.slice Ao16 t336.length co16)) (fun _ h_ => h_.1)))) (Kd.R_base ho0) hb); have HO344 := am (Kd.R_lower (Kd.R_new' ho0 (Kd.R_lt (qR ((Kd.R_mono (Kd.R_far (p := ⟨gb341, 0, none⟩) (Kd.R_types HO338.out BK341.out (by decide)) (fun _ hk => hk.2) (.slice Ao16 t336.length co16)) (fun _ h_ => h_.1)))))) (keep_size (w := w) (g := g) (row := none) qK)); have n2_ := am (IsS74.below (show IsS74 w0 (w15.setCell ⟨gb341, 0, none⟩ (.slice Ao16 t336.length co16)) g s0_0 t339 t340 from qI74) hb); replace BK335 := am (blk_below (g := gb335) (o := .cells #[.slice none 0 0] 28 (0, 0)) (by (with_reducible repeat (first | refine blk_drewN ?_ _ | refine blk_drew ?_ | refine blk_alloc ?_ _)); refine blk_far ?_ NB335_341.out _; refine qb ?_; exact BK335.out) hb); replace BK341 := am (blk_below (g := gb341) (o := .cells #[.slice Ao16 t336.length co16] 28 (0, 0)) (by (with_reducible repeat (first | refine blk_drewN ?_ _ | refine blk_drew ?_ | refine blk_alloc ?_ _)); refine blk_put (cs := #[.slice none 0 0]) ?_ 0 _ rfl; refine qb ?_; exact BK341.out) hb); have n5_ := am (KeepBut.trans qK (KeepBut.of_below hb g none) (.inl rfl)); replace HB := am (below_step qB hb); clear HO338 HI0 HK; have HO338 := n0_; have HI0 := n2_; have HK := n5_; clear n0_ n2_ n5_; (try clear hb); (try clear hb2); (try clear hk); (try clear hi); (try clear ho0); obtain ⟨Ao21, co21, eo21⟩ := Kd.R_slice HO344.out; subst eo21; have hcz22_0 := qz w20 BK341.out; have hfz22_0 := blk_frozen BK341.out 0) | ((with_reducible refine gate_callee (f := 115) rfl ?_); refine gL (some 16) Try.func115 #[.pointer (some ⟨g, 0, none⟩), .int .i64 20] ?_; (with_reducible refine (spec_l1Cur_pick.calls g s0_0 t339 t340 20 t345 t346 t347 w0 _ ?side1 ?side2 A5.out).mono ?_); (case side1 => exact qI74); (case side2 => exact qB); rintro e w23 ⟨rfl, hi, hb, hk⟩; refine ⟨_, rfl, ?_⟩; replace BK335 := am (KeepBut.blk hk (g' := gb335) (o := .cells #[.slice none 0 0] 28 (0, 0)) (by (with_reducible repeat (first | refine blk_drewN ?_ _ | refine blk_drew ?_ | refine blk_alloc ?_ _)); refine blk_far ?_ NB335_341.out _; refine qb ?_; exact BK335.out) NB335_0.out (by simp)); replace HO338 := am (Kd.R_mono (Kd.R_keep (IsS74.apart (show IsS74 w0 _ g s0_0 t339 t340 from qI74) (qR ((Kd.R_mono (Kd.R_far (p := ⟨gb341, 0, none⟩) (Kd.R_types HO338.out BK341.out (by decide)) (fun _ hk => hk.2) (.slice Ao21 t342.length co21)) (fun _ h_ => h_.1)))) (by decide)) hk (fun _ h => h.2)) (fun _ h => h.1)); have n2_ := am (KeepBut.blk hk (g' := gb341) (o := .cells #[.slice Ao21 t342.length co21] 28 (0, 0)) (by (with_reducible repeat (first | refine blk_drewN ?_ _ | refine blk_drew ?_ | refine blk_alloc ?_ _)); refine blk_put (cs := #[.slice Ao16 t336.length co16]) ?_ 0 _ rfl; refine qb ?_; exact BK341.out) NB341_0.out (by simp)); replace HO344 := am (Kd.R_mono (Kd.R_keep (IsS74.apart (show IsS74 w0 _ g s0_0 t339 t340 from qI74) (qR ((Kd.R_mono (Kd.R_far (p := ⟨gb341, 0, none⟩) (Kd.R_types HO344.out BK341.out (by decide)) (fun _ hk => hk.2) (.slice Ao21 t342.length co21)) (fun _ h_ => h_.1)))) (by decide)) hk (fun _ h => h.2)) (fun _ h => h.1)); have n4_ := am (KeepBut.trans qK hk (.inl rfl)); have n5_ := am (hb); replace HI0 := am (hi); clear BK341 HK HB; have BK341 := n2_; have HK := n4_; have HB := n5_; clear n2_ n4_ n5_; (try clear hb); (try clear hb2); (try clear hk); (try clear hi); have hcz24_0 := qz w23 BK341.out; have hfz24_0 := blk_frozen BK341.out 0) | ((with_reducible refine gate_callee (f := 115) rfl ?_); refine gL (some 23) Try.func115 #[.pointer (some ⟨g, 0, none⟩), .int .i64 (t342.length : Int)] ?_; (with_reducible refine (spec_l1Cur_pick.calls g s0_0 t346 t347 (t342.length : Int) t348 t349 t350 w0 _ ?side1 ?side2 A7.out).mono ?_); (case side1 => exact qI74); (case side2 => exact qB); rintro e w25 ⟨rfl, hi, hb, hk⟩; refine ⟨_, rfl, ?_⟩; replace BK335 := am (KeepBut.blk hk (g' := gb335) (o := .cells #[.slice none 0 0] 28 (0, 0)) (qb BK335.out) NB335_0.out (by simp)); replace HO338 := am (Kd.R_mono (Kd.R_keep (IsS74.apart (show IsS74 w0 _ g s0_0 t346 t347 from qI74) (qR HO338.out) (by decide)) hk (fun _ h => h.2)) (fun _ h => h.1)); replace BK341 := am (KeepBut.blk hk (g' := gb341) (o := .cells #[.slice Ao21 t342.length co21] 28 (0, 0)) (qb BK341.out) NB341_0.out (by simp)); replace HO344 := am (Kd.R_mono (Kd.R_keep (IsS74.apart (show IsS74 w0 _ g s0_0 t346 t347 from qI74) (qR HO344.out) (by decide)) hk (fun _ h => h.2)) (fun _ h => h.1)); have n4_ := am (KeepBut.trans qK hk (.inl rfl)); have n5_ := am (hb); replace HI0 := am (hi); clear HK HB; have HK := n4_; have HB := n5_; clear n4_ n5_; (try clear hb); (try clear hb2); (try clear hk); (try clear hi)))
  have n0_ := am (Kd.R_drew HO338.out)
  have n1_ := am (Kd.R_drew HO344.out)
  have n2_ := am (blk_drew BK335.out)
  have n3_ := am (blk_drew BK341.out)
  have n4_ := am (IsS74.drew HI0.out)
  have n5_ := am (keep_drew HK.out)
  have n6_ := am (below_drew1 HB.out)
  clear HO338
  clear HO344
  clear BK335
  clear BK341
  clear HI0
  clear HK
  clear HB
  have HO338 := n0_
  have HO344 := n1_
  have BK335 := n2_
  have BK341 := n3_
  have HI0 := n4_
  have HK := n5_
  have HB := n6_
  clear n0_ n1_ n2_ n3_ n4_ n5_ n6_
  refine start_ (n := 10) (S := fun w' => w'.cell? ⟨gb341, 0, none⟩ = some (.slice Ao21 t342.length co21)) (ds := [9]) #[false, false, false, false, false, false, false, false, false, false] (by kernel_rfl) rfl rfl ((blk_cell BK341.out 0).trans rfl) (fun hHeld => ?_); refine with_tabW spec_l1Cur_poset.tab6 spec_l1Cur_poset.bits6 (fun HT_ HW_ => ?_)
  generalize w25.drew = w26 at HO338 HO344 BK335 BK341 HI0 HK HB hHeld ⊢
  refine pure_ (i := 0) (N := some 24) (v := ?_) (a' := ?_) #[true, false, false, false, false, false, false, false, false, false] rfl rfl (any_of HT_.out (by kernel_rfl)) (fun _ _ _ h => h) (Or.inl ⟨by rfl, ?_⟩) ?_ ?_
  rotate_left
  ·intro w'
   go_simp
   with_reducible rfl
  rotate_left
  ·exact qP
  refine pure_ (i := 2) (N := some 26) (v := ?_) (a' := ?_) #[true, false, true, false, false, false, false, false, false, false] rfl rfl (any_of HT_.out (by kernel_rfl)) (fun _ _ _ h => h) (Or.inl ⟨by rfl, ?_⟩) ?_ ?_
  rotate_left
  ·intro w'
   go_simp
   with_reducible rfl
  rotate_left
  ·exact qP
  refine pure_ (i := 3) (N := some 27) (v := ?_) (a' := ?_) #[true, false, true, true, false, false, false, false, false, false] rfl rfl (any_of HT_.out (by kernel_rfl)) (fun _ _ _ h => h) (Or.inl ⟨by rfl, ?_⟩) ?_ ?_
  rotate_left
  ·intro w'
   go_simp
   with_reducible rfl
  rotate_left
  ·exact qP
  refine pure_ (i := 4) (N := some 28) (v := ?_) (a' := ?_) #[true, false, true, true, true, false, false, false, false, false] rfl rfl (any_of HT_.out (by kernel_rfl)) (fun _ _ _ h => h) (Or.inl ⟨by rfl, ?_⟩) ?_ ?_
  rotate_left
  ·intro w'
   go_simp
   with_reducible rfl
  rotate_left
  ·exact qP
  refine pure_ (i := 5) (N := some 29) (v := ?_) (a' := ?_) #[true, false, true, true, true, true, false, false, false, false] rfl rfl (any_of HT_.out (by kernel_rfl)) (fun _ _ _ h => h) (Or.inl ⟨by rfl, ?_⟩) ?_ ?_
  rotate_left
  ·intro w'
   go_simp
   with_reducible rfl
  rotate_left
  ·exact qP
  refine take_ (i := 1) (N := some 25) (v := ?_) (a' := ?_) #[true, true, true, true, true, true, false, false, false, false] rfl rfl (take_ofW HT_.out HW_.out (by kernel_rfl)) (fun _ _ _ h => h) (Or.inl ⟨by rfl, ?_⟩) hHeld ?_ ?_
  rotate_left
  ·intro w' s0
   go_simp
   with_reducible rfl
  rotate_left
  ·exact qP
  refine one_ (i := 6) (N := some 30) #[true, true, true, true, true, true, true, false, false, false] rfl rfl (one_of HT_.out (by kernel_rfl)) (by decide) (fun K hK => ?_)
  refine Kd.R_lit_step (Kd.int .i64) _ 3 ?hg (N := 30) ?hd (xs := ([(-1), 1, 3, ji9, 4611686018427387904] : List Int)) (inner := [.int .i64 (-1), .int .i64 1, .int .i64 3, .int .i64 ji9, .int .i64 4611686018427387904]) (ok := fun _ => True) (okp := fun _ => True) ?hr ?hp (fun _ hk => hk) trivial (Below.refl _ _) (Nat.le_refl _) (by simp) ?_; (case hd => rfl); (case hg => rfl); (case hr => first | (go_simp; done) | (go_simp; rfl)); (case hp => exact (Reps.one (show Kd.M (Kd.int .i64) _ _ _ (-1) [.int .i64 (-1)] from rfl) (Reps.one (show Kd.M (Kd.int .i64) _ _ _ 1 [.int .i64 1] from rfl) (Reps.one (show Kd.M (Kd.int .i64) _ _ _ 3 [.int .i64 3] from rfl) (Reps.one (show Kd.M (Kd.int .i64) _ _ _ ji9 [.int .i64 ji9] from rfl) (Reps.one (show Kd.M (Kd.int .i64) _ _ _ 4611686018427387904 [.int .i64 4611686018427387904] from rfl) (Reps.none _ _)))))))
  intro v352 w27 ho28 hb hg_ hnew_
  clear hg_ hnew_
  (first | rw [← Ny351.out] at ho28 | (simp only [Int.reduceToNat] at ho28; rw [← Ny351.out] at ho28))
  have n0_ := am (Kd.R_elder' (qR HO338.out) (Kd.R_base ho28) hb)
  have n1_ := am (Kd.R_elder' (qR HO344.out) (Kd.R_base ho28) hb)
  have n2_ := am (Kd.R_lower (Kd.R_new' (Kd.R_new' ho28 (Kd.R_lt (qR HO338.out))) (Kd.R_lt (qR HO344.out))) (keep_size (w := w) (g := g) (row := none) qK))
  have n3_ := am (IsS74.below qI74 hb)
  have n4_ := am (blk_below (g := gb335) (o := .cells #[.slice none 0 0] 28 (0, 0)) (qb BK335.out) hb)
  have n5_ := am (blk_below (g := gb341) (o := .cells #[.slice Ao21 t342.length co21] 28 (0, 0)) (qb BK341.out) hb)
  have n6_ := am (KeepBut.trans qK (KeepBut.of_below hb g none) (.inl rfl))
  have n7_ := am (below_step qB hb)
  clear HO338
  clear HO344
  clear HI0
  clear BK335
  clear BK341
  clear HK
  clear HB
  have HO338 := n0_
  have HO344 := n1_
  have HO353 := n2_
  have HI0 := n3_
  have BK335 := n4_
  have BK341 := n5_
  have HK := n6_
  have HB := n7_
  clear n0_ n1_ n2_ n3_ n4_ n5_ n6_ n7_
  clear hb ho28
  obtain ⟨Ao29, co29, eo29⟩ := Kd.R_slice HO353.out
  (first | subst eo29 | (injection eo29 with f1_ f2_ f3_; have f4_ := f1_.symm; have f5_ := f3_.symm; clear f1_ f2_ f3_; subst f4_; subst f5_))
  refine hK.out _ _ ((blk_cell BK341.out 0).trans rfl) (fun hHeld => ?_)
  clear hK K
  refine norm_ (a' := ?_) ?_ ?_
  rotate_left
  ·show Act.put _ (some 30) _ = _
   simp only [Act.put, List.setIfInBounds_toArray, List.set_cons_zero, List.set_cons_succ, i64_w, i32_w]
   rfl
  refine one_ (i := 7) (N := some 31) #[true, true, true, true, true, true, true, true, false, false] rfl rfl (one_of HT_.out (by kernel_rfl)) (by decide) (fun K hK => ?_)
  refine goes_ Try.func78 (by kernel_rfl) rfl #[.pointer (some ⟨g, 0, none⟩), .slice Ao29 y351.length co29] (by rfl) rfl rfl qA ?_
  with_reducible refine (spec_l1Cur_among.calls g s0_0 t349 t350 _ _ y351 t354 t355 t356 w0 _ ?side1 ?side2 ?side3 ?side4 ?side5 A10.out).mono ?_
  (case side1 => exact qI74)
  (case side2 => exact qB)
  (case side3 => exact qC (Kd.R_reads' HO353.out).2.2)
  (case side4 => exact (Kd.R_reads' HO353.out).2.1)
  (case side5 => exact far_slice (IsS74.own_ne HI0.out HO353.out (by decide)))
  rintro e w30 ⟨rfl, hi, hb, hk⟩
  refine ⟨_, rfl, ?_⟩
  have n0_ := am (KeepBut.blk hk (g' := gb335) (o := .cells #[.slice none 0 0] 28 (0, 0)) (qb BK335.out) NB335_0.out (by simp))
  have n1_ := am (Kd.R_mono (Kd.R_keep (IsS74.apart (show IsS74 w0 _ g s0_0 t349 t350 from qI74) (qR HO338.out) (by decide)) hk (fun _ h => h.2)) (fun _ h => h.1))
  have n2_ := am (KeepBut.blk hk (g' := gb341) (o := .cells #[.slice Ao21 t342.length co21] 28 (0, 0)) (qb BK341.out) NB341_0.out (by simp))
  have n3_ := am (Kd.R_mono (Kd.R_keep (IsS74.apart (show IsS74 w0 _ g s0_0 t349 t350 from qI74) (qR HO344.out) (by decide)) hk (fun _ h => h.2)) (fun _ h => h.1))
  have n4_ := am (Kd.R_mono (Kd.R_keep (IsS74.apart (show IsS74 w0 _ g s0_0 t349 t350 from qI74) (qR HO353.out) (by decide)) hk (fun _ h => h.2)) (fun _ h => h.1))
  have n5_ := am (KeepBut.trans qK hk (.inl rfl))
  have n6_ := am (hb)
  have n7_ := am (hi)
  clear BK335
  clear HO338
  clear BK341
  clear HO344
  clear HO353
  clear HK
  clear HB
  clear HI0
  have BK335 := n0_
  have HO338 := n1_
  have BK341 := n2_
  have HO344 := n3_
  have HO353 := n4_
  have HK := n5_
  have HB := n6_
  have HI0 := n7_
  clear n0_ n1_ n2_ n3_ n4_ n5_ n6_ n7_
  (try clear hb)
  (try clear hb2)
  (try clear hk)
  (try clear hi)
  have p12 : 0 ≤ (t348 : Int) := qd
  have q12 : (t348 : Int) < ((t342.length : Int) : Int) := qd
  obtain ⟨go12, co12, eo12, gb12, gl12, cl12, HG12⟩ := Kd.R_form HO344.out (by omega)
  (first | cases eo12 | (injection eo12 with ea_ en_ ec_; (first | subst ea_ | (injection ea_ with ea_; subst ea_)); subst ec_; clear en_))
  have GB12 := am gb12
  have GG12 := am HG12
  clear gb12 gl12 HG12
  obtain ⟨hx12_0, hf12_0⟩ := Kd.R_celln 0 HO344.out (t348 : Int) p12 q12
  replace p12 := eq_true p12
  replace q12 := eq_true q12
  have HN0_go12 := am (show g ≠ go12 from by have h_ := IsS74.own_ne HI0.out HO344.out (by decide); intro e_; exact h_ (by rw [e_]; rfl))
  have HP31 := Kd.R_putn HO344.out (t348 : Int) t354
  rw [← Ny357.out] at HP31
  have HQ31 := am HP31
  clear HP31
  refine hK.out _ _ ((blk_cell BK341.out 0).trans rfl) (fun hHeld => ?_)
  clear hK K
  refine norm_ (a' := ?_) ?_ ?_
  rotate_left
  ·show Act.put _ (some 31) _ = _
   simp only [Act.put, List.setIfInBounds_toArray, List.set_cons_zero, List.set_cons_succ, i64_w, i32_w]
   rfl
  refine pure_ (i := 8) (N := some 32) (v := ?_) (a' := ?_) #[true, true, true, true, true, true, true, true, true, false] rfl rfl (any_of HT_.out (by kernel_rfl)) (fun _ _ _ h => h) (Or.inl ⟨by rfl, ?_⟩) ?_ ?_
  rotate_left
  ·intro w'
   go_simp
   with_reducible rfl
  rotate_left
  ·exact qP
  refine last_ (i := 9) (N := none) #[true, true, true, true, true, true, true, true, true, true] rfl rfl (one_of HT_.out (by kernel_rfl)) (by decide) (fun K hK => ?_)
  refine skip_ (w1 := ?_) (by rfl) rfl ?_ ?_
  rotate_left
  ·go_simp
   rfl
  refine hK.out _ _ ?_
  clear hK K
  refine done_ (done_of HT_.out (by kernel_rfl)) ?_
  have n0_ : Aside0 (Kd.R (Kd.int .i64) 3 (w30.setCell ⟨go12, (t348 : Int).toNat, none⟩ (.int .i64 t354)) w.heap.size (fun k_ => some k_ ≠ (.slice (some ⟨go12, 0, none⟩) t342.length co21 : Value).ownBlock ∧ some k_ ≠ (.slice Ao29 y351.length co29 : Value).ownBlock) (.slice Ao16 t336.length co16) t336) := ⟨qR (Kd.R_mono (Kd.R_far (p := ⟨go12, (t348 : Int).toNat, none⟩) (Kd.R_mono HO338.out (fun k_ hk => (⟨hk, fun e_ => hk.1.2 (by rw [e_]; rfl)⟩ : _ ∧ k_ ≠ go12))) (fun _ hk => hk.2) (.int .i64 t354)) (fun _ hk => ⟨hk.1.1.2, hk.1.2⟩))⟩
  have n1_ : Aside0 (Kd.R (Kd.int .i64) 3 (w30.setCell ⟨go12, (t348 : Int).toNat, none⟩ (.int .i64 t354)) w.heap.size (fun k_ => some k_ ≠ (.slice Ao16 t336.length co16 : Value).ownBlock ∧ some k_ ≠ (.slice Ao29 y351.length co29 : Value).ownBlock) (.slice (some ⟨go12, 0, none⟩) t342.length co21) y357) := ⟨qR (Kd.R_mono HQ31.out (fun _ hk => ⟨hk.1.2, hk.2⟩))⟩
  have n2_ : Aside0 (Kd.R (Kd.int .i64) 3 (w30.setCell ⟨go12, (t348 : Int).toNat, none⟩ (.int .i64 t354)) w.heap.size (fun k_ => some k_ ≠ (.slice Ao16 t336.length co16 : Value).ownBlock ∧ some k_ ≠ (.slice (some ⟨go12, 0, none⟩) t342.length co21 : Value).ownBlock) (.slice Ao29 y351.length co29) y351) := ⟨qR (Kd.R_mono (Kd.R_far (p := ⟨go12, (t348 : Int).toNat, none⟩) (Kd.R_mono HO353.out (fun k_ hk => (⟨hk, fun e_ => hk.2 (by rw [e_]; rfl)⟩ : _ ∧ k_ ≠ go12))) (fun _ hk => hk.2) (.int .i64 t354)) (fun _ hk => ⟨hk.1.1.2, hk.1.2⟩))⟩
  have n3_ : Aside0 ((w30.setCell ⟨go12, (t348 : Int).toNat, none⟩ (.int .i64 t354)).heap[gb335]? = some (.cells #[.slice none 0 0] 28 (0, 0))) := ⟨by (with_reducible repeat (first | refine blk_drewN ?_ _ | refine blk_drew ?_ | refine blk_alloc ?_ _)); refine blk_far ?_ (by have h_ := Kd.R_ne HO344.out BK335.out (by decide); intro e_; exact h_ (by rw [e_]; rfl)) _; refine qb ?_; exact BK335.out⟩
  have n4_ : Aside0 ((w30.setCell ⟨go12, (t348 : Int).toNat, none⟩ (.int .i64 t354)).heap[gb341]? = some (.cells #[.slice (some ⟨go12, 0, none⟩) t342.length co21] 28 (0, 0))) := ⟨by (with_reducible repeat (first | refine blk_drewN ?_ _ | refine blk_drew ?_ | refine blk_alloc ?_ _)); refine blk_far ?_ (by have h_ := Kd.R_ne HO344.out BK341.out (by decide); intro e_; exact h_ (by rw [e_]; rfl)) _; refine qb ?_; exact BK341.out⟩
  have n5_ : Aside0 (IsS74 w0 (w30.setCell ⟨go12, (t348 : Int).toNat, none⟩ (.int .i64 t354)) g s0_0 t355 t356) := ⟨qI74⟩
  have n6_ : Aside0 (KeepBut w (w30.setCell ⟨go12, (t348 : Int).toNat, none⟩ (.int .i64 t354)) g none) := ⟨qK⟩
  have n7_ : Aside0 (Below w0.heap.size w0 (w30.setCell ⟨go12, (t348 : Int).toNat, none⟩ (.int .i64 t354))) := ⟨qB⟩
  (try clear HO338)
  (try clear HO344)
  (try clear HO353)
  (try clear BK335)
  (try clear BK341)
  (try clear HI0)
  (try clear HK)
  (try clear HB)
  generalize (w30.setCell ⟨go12, (t348 : Int).toNat, none⟩ (.int .i64 t354)) = w32 at n0_ n1_ n2_ n3_ n4_ n5_ n6_ n7_ ⊢
  have HO338 := n0_
  have HO344 := n1_
  have HO353 := n2_
  have BK335 := n3_
  have BK341 := n4_
  have HI0 := n5_
  have HK := n6_
  have HB := n7_
  clear n0_ n1_ n2_ n3_ n4_ n5_ n6_ n7_
  have hcz33_0 := qz w32 BK341.out
  have hfz33_0 := blk_frozen BK341.out 0
  have hnb34 := NB335_0.out
  have hnc34 := NB0_335.out
  have hcz35_0 := qz w32 BK335.out
  have hfz35_0 := blk_frozen BK335.out 0
  try go_wp2
  refine bodyPost_ret (results_cell_row rfl _ _ gb335 28 #[.slice (some ⟨go12, 0, none⟩) t342.length co21] (0, 0) _ rfl (by (with_reducible repeat (first | refine blk_drewN ?_ _ | refine blk_drew ?_ | refine blk_alloc ?_ _)); refine blk_put (cs := #[.slice none 0 0]) ?_ 0 _ rfl; refine qb ?_; exact BK335.out) Try.underlying28 rfl (by kernel_rfl)) rfl ?_
  exact ⟨_, by first | rfl | (simp [errW_none, errW_some] <;> rfl) | (simp only [← hji9]; first | rfl | (simp [errW_none, errW_some] <;> rfl)) | (simp [*, errW_none, errW_some] <;> rfl), qR (Kd.R_mono (Kd.R_far (p := ⟨gb335, 0, none⟩) (Kd.R_types HO344.out BK335.out (by decide)) (fun _ hk => hk.2) (.slice (some ⟨go12, 0, none⟩) t342.length co21)) (fun _ hk => trivial)), qI74, qB, qK⟩
 ·rw [if_neg c6] at H
  have c6b0 : (t345 == 0) = false := beq_eq_false_iff_ne.mpr c6
  have c6b1 : (t345 != 0) = true := bne_iff_ne.mpr c6
  by_cases c36 : t345 = 1
  ·rw [if_pos c36] at H
   have c36b0 : (t345 == 1) = true := beq_iff_eq.mpr c36
   have c36b1 : (t345 != 1) = false := bne_eq_false_iff_eq.mpr c36
   clear c36
   simp only [Option.some.injEq, Prod.mk.injEq] at H
   obtain ⟨rfl, rfl, rfl⟩ := H
   go_enter Try.func155, Try.ntmps155
   go_wp2_with (first | ((with_reducible refine gate_dst (N := 4) rfl ?_); refine qx (N := 4) (cs := #[.slice none 0 0]) (t := 28) ?_; intro gb335 hg w37 hbox hb; have n0_ := am (IsS74.below qI74 hb); have n1_ := am (KeepBut.trans qK (KeepBut.of_below hb g none) (.inl rfl)); have n2_ := am (below_step qB hb); have BK335 := am (hbox); have GW335 := am ((by rw [hg]; exact (keep_size (w := w) (g := g) (row := none) qK) : w.heap.size ≤ gb335)); have GE335 := am ((Nat.le_trans HW0.out (by rw [hg]; exact (keep_size (w := w) (g := g) (row := none) qK) : w.heap.size ≤ gb335) : w0.heap.size ≤ gb335)); have NB0_335 := am ((by rw [hg]; exact Nat.ne_of_lt (IsS74.lt (show IsS74 w0 _ g s0_0 s0_1 s0_2 from qI74)) : g ≠ gb335)); have NB335_0 := am ((by rw [hg]; exact Nat.ne_of_gt (IsS74.lt (show IsS74 w0 _ g s0_0 s0_1 s0_2 from qI74)) : gb335 ≠ g)); clear HI0 HK HB; have HI0 := n0_; have HK := n1_; have HB := n2_; clear n0_ n1_ n2_; clear hb hbox hg) | ((with_reducible refine gate_callee (f := 170) rfl ?_); refine gL (some 10) Try.func170 #[.pointer (some ⟨g, 0, none⟩), .int .i64 a1] ?_; (with_reducible refine (spec_l1Cur_surePoset.calls k g s0_0 s0_1 s0_2 a1 t336 t339 t340 w0 _ ?side1 ?side2 A3.out).mono ?_); (case side1 => exact qI74); (case side2 => exact qB); rintro e w38 ⟨v337, rfl, ho0, hi, hb, hk⟩; refine ⟨_, rfl, ?_⟩; replace BK335 := am (KeepBut.blk hk (g' := gb335) (o := .cells #[.slice none 0 0] 28 (0, 0)) (qb BK335.out) NB335_0.out (by simp)); have HO338 := am (Kd.R_lower ho0 (keep_size (w := w) (g := g) (row := none) qK)); have n2_ := am (KeepBut.trans qK hk (.inl rfl)); have n3_ := am (hb); replace HI0 := am (hi); clear HK HB; have HK := n2_; have HB := n3_; clear n2_ n3_; (try clear hb); (try clear hb2); (try clear hk); (try clear hi); (try clear ho0)) | ((with_reducible refine gate_dst (N := 5) rfl ?_); refine qx (N := 5) (cs := #[.slice none 0 0]) (t := 28) ?_; intro gb341 hg w39 hbox hb; replace HO338 := am (Kd.R_below (qR HO338.out) hb); have n1_ := am (IsS74.below qI74 hb); have n2_ := am (blk_below (g := gb335) (o := .cells #[.slice none 0 0] 28 (0, 0)) (qb BK335.out) hb); have n3_ := am (KeepBut.trans qK (KeepBut.of_below hb g none) (.inl rfl)); have n4_ := am (below_step qB hb); have BK341 := am (hbox); have GW341 := am ((by rw [hg]; exact (keep_size (w := w) (g := g) (row := none) qK) : w.heap.size ≤ gb341)); have GE341 := am ((Nat.le_trans HW0.out (by rw [hg]; exact (keep_size (w := w) (g := g) (row := none) qK) : w.heap.size ≤ gb341) : w0.heap.size ≤ gb341)); have NB335_341 := am ((by rw [hg]; exact Nat.ne_of_lt (blk_lt (g := gb335) (o := .cells #[.slice none 0 0] 28 (0, 0)) (qb BK335.out)) : gb335 ≠ gb341)); have NB341_335 := am ((by rw [hg]; exact Nat.ne_of_gt (blk_lt (g := gb335) (o := .cells #[.slice none 0 0] 28 (0, 0)) (qb BK335.out)) : gb341 ≠ gb335)); have NB0_341 := am ((by rw [hg]; exact Nat.ne_of_lt (IsS74.lt (show IsS74 w0 _ g s0_0 t339 t340 from qI74)) : g ≠ gb341)); have NB341_0 := am ((by rw [hg]; exact Nat.ne_of_gt (IsS74.lt (show IsS74 w0 _ g s0_0 t339 t340 from qI74)) : gb341 ≠ g)); clear HI0 BK335 HK HB; have HI0 := n1_; have BK335 := n2_; have HK := n3_; have HB := n4_; clear n1_ n2_ n3_ n4_; clear hb hbox hg; obtain ⟨Ao40, co40, eo40⟩ := Kd.R_slice HO338.out; subst eo40; have hnb41 := NB341_335.out; have hnc41 := NB335_341.out; have hnb42 := NB341_0.out; have hnc42 := NB0_341.out; have hcz43_0 := qz w39 BK341.out; have hfz43_0 := blk_frozen BK341.out 0) | ((with_reducible refine gate_callee (f := 164) rfl ?_); refine gL (some 13) Try.func164 #[.slice Ao40 t336.length co40] ?_; (with_reducible refine (spec_l1Own.calls _ _ t336 t342 _ ?side1 ?side2 A4.out).mono ?_); (case side1 => refine (Kd.R_reads' (e := 3) (base := w.heap.size) (ok := fun k_ => True) (n := t336.length) (c := co40) ?_).2.2; exact (qR ((Kd.R_mono (Kd.R_far (p := ⟨gb341, 0, none⟩) (Kd.R_types HO338.out BK341.out (by decide)) (fun _ hk => hk.2) (.slice Ao40 t336.length co40)) (fun _ h_ => h_.1))))); (case side2 => exact (Kd.R_reads' HO338.out).2.1); rintro e w44 ⟨v343, rfl, ho0, hb⟩; refine ⟨_, rfl, ?_⟩; have n0_ := am (Kd.R_elder' (qR ((Kd.R_mono (Kd.R_far (p := ⟨gb341, 0, none⟩) (Kd.R_types HO338.out BK341.out (by decide)) (fun _ hk => hk.2) (.slice Ao40 t336.length co40)) (fun _ h_ => h_.1)))) (Kd.R_base ho0) hb); have HO344 := am (Kd.R_lower (Kd.R_new' ho0 (Kd.R_lt (qR ((Kd.R_mono (Kd.R_far (p := ⟨gb341, 0, none⟩) (Kd.R_types HO338.out BK341.out (by decide)) (fun _ hk => hk.2) (.slice Ao40 t336.length co40)) (fun _ h_ => h_.1)))))) (keep_size (w := w) (g := g) (row := none) qK)); have n2_ := am (IsS74.below (show IsS74 w0 (w39.setCell ⟨gb341, 0, none⟩ (.slice Ao40 t336.length co40)) g s0_0 t339 t340 from qI74) hb); replace BK335 := am (blk_below (g := gb335) (o := .cells #[.slice none 0 0] 28 (0, 0)) (by (with_reducible repeat (first | refine blk_drewN ?_ _ | refine blk_drew ?_ | refine blk_alloc ?_ _)); refine blk_far ?_ NB335_341.out _; refine qb ?_; exact BK335.out) hb); replace BK341 := am (blk_below (g := gb341) (o := .cells #[.slice Ao40 t336.length co40] 28 (0, 0)) (by (with_reducible repeat (first | refine blk_drewN ?_ _ | refine blk_drew ?_ | refine blk_alloc ?_ _)); refine blk_put (cs := #[.slice none 0 0]) ?_ 0 _ rfl; refine qb ?_; exact BK341.out) hb); have n5_ := am (KeepBut.trans qK (KeepBut.of_below hb g none) (.inl rfl)); replace HB := am (below_step qB hb); clear HO338 HI0 HK; have HO338 := n0_; have HI0 := n2_; have HK := n5_; clear n0_ n2_ n5_; (try clear hb); (try clear hb2); (try clear hk); (try clear hi); (try clear ho0); obtain ⟨Ao45, co45, eo45⟩ := Kd.R_slice HO344.out; subst eo45; have hcz46_0 := qz w44 BK341.out; have hfz46_0 := blk_frozen BK341.out 0) | ((with_reducible refine gate_callee (f := 115) rfl ?_); refine gL (some 16) Try.func115 #[.pointer (some ⟨g, 0, none⟩), .int .i64 20] ?_; (with_reducible refine (spec_l1Cur_pick.calls g s0_0 t339 t340 20 t345 t346 t347 w0 _ ?side1 ?side2 A5.out).mono ?_); (case side1 => exact qI74); (case side2 => exact qB); rintro e w47 ⟨rfl, hi, hb, hk⟩; refine ⟨_, rfl, ?_⟩; replace BK335 := am (KeepBut.blk hk (g' := gb335) (o := .cells #[.slice none 0 0] 28 (0, 0)) (by (with_reducible repeat (first | refine blk_drewN ?_ _ | refine blk_drew ?_ | refine blk_alloc ?_ _)); refine blk_far ?_ NB335_341.out _; refine qb ?_; exact BK335.out) NB335_0.out (by simp)); replace HO338 := am (Kd.R_mono (Kd.R_keep (IsS74.apart (show IsS74 w0 _ g s0_0 t339 t340 from qI74) (qR ((Kd.R_mono (Kd.R_far (p := ⟨gb341, 0, none⟩) (Kd.R_types HO338.out BK341.out (by decide)) (fun _ hk => hk.2) (.slice Ao45 t342.length co45)) (fun _ h_ => h_.1)))) (by decide)) hk (fun _ h => h.2)) (fun _ h => h.1)); have n2_ := am (KeepBut.blk hk (g' := gb341) (o := .cells #[.slice Ao45 t342.length co45] 28 (0, 0)) (by (with_reducible repeat (first | refine blk_drewN ?_ _ | refine blk_drew ?_ | refine blk_alloc ?_ _)); refine blk_put (cs := #[.slice Ao40 t336.length co40]) ?_ 0 _ rfl; refine qb ?_; exact BK341.out) NB341_0.out (by simp)); replace HO344 := am (Kd.R_mono (Kd.R_keep (IsS74.apart (show IsS74 w0 _ g s0_0 t339 t340 from qI74) (qR ((Kd.R_mono (Kd.R_far (p := ⟨gb341, 0, none⟩) (Kd.R_types HO344.out BK341.out (by decide)) (fun _ hk => hk.2) (.slice Ao45 t342.length co45)) (fun _ h_ => h_.1)))) (by decide)) hk (fun _ h => h.2)) (fun _ h => h.1)); have n4_ := am (KeepBut.trans qK hk (.inl rfl)); have n5_ := am (hb); replace HI0 := am (hi); clear BK341 HK HB; have BK341 := n2_; have HK := n4_; have HB := n5_; clear n2_ n4_ n5_; (try clear hb); (try clear hb2); (try clear hk); (try clear hi); have hcz48_0 := qz w47 BK341.out; have hfz48_0 := blk_frozen BK341.out 0; have hnb49 := NB335_0.out; have hnc49 := NB0_335.out; have hcz50_0 := qz w47 BK335.out; have hfz50_0 := blk_frozen BK335.out 0))
   refine bodyPost_ret (results_cell_row rfl _ _ gb335 28 #[.slice none 0 0] (0, 0) _ rfl (by (with_reducible repeat (first | refine blk_drewN ?_ _ | refine blk_drew ?_ | refine blk_alloc ?_ _)); refine blk_put (cs := #[.slice none 0 0]) ?_ 0 _ rfl; (with_reducible repeat (first | refine blk_drewN ?_ _ | refine blk_drew ?_ | refine blk_alloc ?_ _)); refine blk_far ?_ NB335_341.out _; refine qb ?_; exact BK335.out) Try.underlying28 rfl (by kernel_rfl)) rfl ?_
   exact ⟨_, qr, by first | exact Kd.R_nil _ _ _ _ _ | exact Kd.N_nil _ _ _ _ _ | exact Kd.V_nil _ _ _ _ _ | exact Kd.Q_nil _ _ _ _ _ | exact Kd.S_nil _ _ _ _ _, qI74, qB, qK⟩
  ·rw [if_neg c36] at H
   have c36b0 : (t345 == 1) = false := beq_eq_false_iff_ne.mpr c36
   have c36b1 : (t345 != 1) = true := bne_iff_ne.mpr c36
   by_cases c51 : t345 = 2
   ·rw [if_pos c51] at H
    have c51b0 : (t345 == 2) = true := beq_iff_eq.mpr c51
    have c51b1 : (t345 != 2) = false := bne_eq_false_iff_eq.mpr c51
    clear c51
    have H' := am H
    clear H
    go_enter Try.func155, Try.ntmps155
    go_wp2_with (first | ((with_reducible refine gate_dst (N := 4) rfl ?_); refine qx (N := 4) (cs := #[.slice none 0 0]) (t := 28) ?_; intro gb335 hg w52 hbox hb; have n0_ := am (IsS74.below qI74 hb); have n1_ := am (KeepBut.trans qK (KeepBut.of_below hb g none) (.inl rfl)); have n2_ := am (below_step qB hb); have BK335 := am (hbox); have GW335 := am ((by rw [hg]; exact (keep_size (w := w) (g := g) (row := none) qK) : w.heap.size ≤ gb335)); have GE335 := am ((Nat.le_trans HW0.out (by rw [hg]; exact (keep_size (w := w) (g := g) (row := none) qK) : w.heap.size ≤ gb335) : w0.heap.size ≤ gb335)); have NB0_335 := am ((by rw [hg]; exact Nat.ne_of_lt (IsS74.lt (show IsS74 w0 _ g s0_0 s0_1 s0_2 from qI74)) : g ≠ gb335)); have NB335_0 := am ((by rw [hg]; exact Nat.ne_of_gt (IsS74.lt (show IsS74 w0 _ g s0_0 s0_1 s0_2 from qI74)) : gb335 ≠ g)); clear HI0 HK HB; have HI0 := n0_; have HK := n1_; have HB := n2_; clear n0_ n1_ n2_; clear hb hbox hg) | ((with_reducible refine gate_callee (f := 170) rfl ?_); refine gL (some 10) Try.func170 #[.pointer (some ⟨g, 0, none⟩), .int .i64 a1] ?_; (with_reducible refine (spec_l1Cur_surePoset.calls k g s0_0 s0_1 s0_2 a1 t336 t339 t340 w0 _ ?side1 ?side2 A3.out).mono ?_); (case side1 => exact qI74); (case side2 => exact qB); rintro e w53 ⟨v337, rfl, ho0, hi, hb, hk⟩; refine ⟨_, rfl, ?_⟩; replace BK335 := am (KeepBut.blk hk (g' := gb335) (o := .cells #[.slice none 0 0] 28 (0, 0)) (qb BK335.out) NB335_0.out (by simp)); have HO338 := am (Kd.R_lower ho0 (keep_size (w := w) (g := g) (row := none) qK)); have n2_ := am (KeepBut.trans qK hk (.inl rfl)); have n3_ := am (hb); replace HI0 := am (hi); clear HK HB; have HK := n2_; have HB := n3_; clear n2_ n3_; (try clear hb); (try clear hb2); (try clear hk); (try clear hi); (try clear ho0)) | ((with_reducible refine gate_dst (N := 5) rfl ?_); refine qx (N := 5) (cs := #[.slice none 0 0]) (t := 28) ?_; intro gb341 hg w54 hbox hb; replace HO338 := am (Kd.R_below (qR HO338.out) hb); have n1_ := am (IsS74.below qI74 hb); have n2_ := am (blk_below (g := gb335) (o := .cells #[.slice none 0 0] 28 (0, 0)) (qb BK335.out) hb); have n3_ := am (KeepBut.trans qK (KeepBut.of_below hb g none) (.inl rfl)); have n4_ := am (below_step qB hb); have BK341 := am (hbox); have GW341 := am ((by rw [hg]; exact (keep_size (w := w) (g := g) (row := none) qK) : w.heap.size ≤ gb341)); have GE341 := am ((Nat.le_trans HW0.out (by rw [hg]; exact (keep_size (w := w) (g := g) (row := none) qK) : w.heap.size ≤ gb341) : w0.heap.size ≤ gb341)); have NB335_341 := am ((by rw [hg]; exact Nat.ne_of_lt (blk_lt (g := gb335) (o := .cells #[.slice none 0 0] 28 (0, 0)) (qb BK335.out)) : gb335 ≠ gb341)); have NB341_335 := am ((by rw [hg]; exact Nat.ne_of_gt (blk_lt (g := gb335) (o := .cells #[.slice none 0 0] 28 (0, 0)) (qb BK335.out)) : gb341 ≠ gb335)); have NB0_341 := am ((by rw [hg]; exact Nat.ne_of_lt (IsS74.lt (show IsS74 w0 _ g s0_0 t339 t340 from qI74)) : g ≠ gb341)); have NB341_0 := am ((by rw [hg]; exact Nat.ne_of_gt (IsS74.lt (show IsS74 w0 _ g s0_0 t339 t340 from qI74)) : gb341 ≠ g)); clear HI0 BK335 HK HB; have HI0 := n1_; have BK335 := n2_; have HK := n3_; have HB := n4_; clear n1_ n2_ n3_ n4_; clear hb hbox hg; obtain ⟨Ao55, co55, eo55⟩ := Kd.R_slice HO338.out; subst eo55; have hnb56 := NB341_335.out; have hnc56 := NB335_341.out; have hnb57 := NB341_0.out; have hnc57 := NB0_341.out; have hcz58_0 := qz w54 BK341.out; have hfz58_0 := blk_frozen BK341.out 0) | ((with_reducible refine gate_callee (f := 164) rfl ?_); refine gL (some 13) Try.func164 #[.slice Ao55 t336.length co55] ?_; (with_reducible refine (spec_l1Own.calls _ _ t336 t342 _ ?side1 ?side2 A4.out).mono ?_); (case side1 => refine (Kd.R_reads' (e := 3) (base := w.heap.size) (ok := fun k_ => True) (n := t336.length) (c := co55) ?_).2.2; exact (qR ((Kd.R_mono (Kd.R_far (p := ⟨gb341, 0, none⟩) (Kd.R_types HO338.out BK341.out (by decide)) (fun _ hk => hk.2) (.slice Ao55 t336.length co55)) (fun _ h_ => h_.1))))); (case side2 => exact (Kd.R_reads' HO338.out).2.1); rintro e w59 ⟨v343, rfl, ho0, hb⟩; refine ⟨_, rfl, ?_⟩; have n0_ := am (Kd.R_elder' (qR ((Kd.R_mono (Kd.R_far (p := ⟨gb341, 0, none⟩) (Kd.R_types HO338.out BK341.out (by decide)) (fun _ hk => hk.2) (.slice Ao55 t336.length co55)) (fun _ h_ => h_.1)))) (Kd.R_base ho0) hb); have HO344 := am (Kd.R_lower (Kd.R_new' ho0 (Kd.R_lt (qR ((Kd.R_mono (Kd.R_far (p := ⟨gb341, 0, none⟩) (Kd.R_types HO338.out BK341.out (by decide)) (fun _ hk => hk.2) (.slice Ao55 t336.length co55)) (fun _ h_ => h_.1)))))) (keep_size (w := w) (g := g) (row := none) qK)); have n2_ := am (IsS74.below (show IsS74 w0 (w54.setCell ⟨gb341, 0, none⟩ (.slice Ao55 t336.length co55)) g s0_0 t339 t340 from qI74) hb); replace BK335 := am (blk_below (g := gb335) (o := .cells #[.slice none 0 0] 28 (0, 0)) (by (with_reducible repeat (first | refine blk_drewN ?_ _ | refine blk_drew ?_ | refine blk_alloc ?_ _)); refine blk_far ?_ NB335_341.out _; refine qb ?_; exact BK335.out) hb); replace BK341 := am (blk_below (g := gb341) (o := .cells #[.slice Ao55 t336.length co55] 28 (0, 0)) (by (with_reducible repeat (first | refine blk_drewN ?_ _ | refine blk_drew ?_ | refine blk_alloc ?_ _)); refine blk_put (cs := #[.slice none 0 0]) ?_ 0 _ rfl; refine qb ?_; exact BK341.out) hb); have n5_ := am (KeepBut.trans qK (KeepBut.of_below hb g none) (.inl rfl)); replace HB := am (below_step qB hb); clear HO338 HI0 HK; have HO338 := n0_; have HI0 := n2_; have HK := n5_; clear n0_ n2_ n5_; (try clear hb); (try clear hb2); (try clear hk); (try clear hi); (try clear ho0); obtain ⟨Ao60, co60, eo60⟩ := Kd.R_slice HO344.out; subst eo60; have hcz61_0 := qz w59 BK341.out; have hfz61_0 := blk_frozen BK341.out 0) | ((with_reducible refine gate_callee (f := 115) rfl ?_); refine gL (some 16) Try.func115 #[.pointer (some ⟨g, 0, none⟩), .int .i64 20] ?_; (with_reducible refine (spec_l1Cur_pick.calls g s0_0 t339 t340 20 t345 t346 t347 w0 _ ?side1 ?side2 A5.out).mono ?_); (case side1 => exact qI74); (case side2 => exact qB); rintro e w62 ⟨rfl, hi, hb, hk⟩; refine ⟨_, rfl, ?_⟩; replace BK335 := am (KeepBut.blk hk (g' := gb335) (o := .cells #[.slice none 0 0] 28 (0, 0)) (by (with_reducible repeat (first | refine blk_drewN ?_ _ | refine blk_drew ?_ | refine blk_alloc ?_ _)); refine blk_far ?_ NB335_341.out _; refine qb ?_; exact BK335.out) NB335_0.out (by simp)); replace HO338 := am (Kd.R_mono (Kd.R_keep (IsS74.apart (show IsS74 w0 _ g s0_0 t339 t340 from qI74) (qR ((Kd.R_mono (Kd.R_far (p := ⟨gb341, 0, none⟩) (Kd.R_types HO338.out BK341.out (by decide)) (fun _ hk => hk.2) (.slice Ao60 t342.length co60)) (fun _ h_ => h_.1)))) (by decide)) hk (fun _ h => h.2)) (fun _ h => h.1)); have n2_ := am (KeepBut.blk hk (g' := gb341) (o := .cells #[.slice Ao60 t342.length co60] 28 (0, 0)) (by (with_reducible repeat (first | refine blk_drewN ?_ _ | refine blk_drew ?_ | refine blk_alloc ?_ _)); refine blk_put (cs := #[.slice Ao55 t336.length co55]) ?_ 0 _ rfl; refine qb ?_; exact BK341.out) NB341_0.out (by simp)); replace HO344 := am (Kd.R_mono (Kd.R_keep (IsS74.apart (show IsS74 w0 _ g s0_0 t339 t340 from qI74) (qR ((Kd.R_mono (Kd.R_far (p := ⟨gb341, 0, none⟩) (Kd.R_types HO344.out BK341.out (by decide)) (fun _ hk => hk.2) (.slice Ao60 t342.length co60)) (fun _ h_ => h_.1)))) (by decide)) hk (fun _ h => h.2)) (fun _ h => h.1)); have n4_ := am (KeepBut.trans qK hk (.inl rfl)); have n5_ := am (hb); replace HI0 := am (hi); clear BK341 HK HB; have BK341 := n2_; have HK := n4_; have HB := n5_; clear n2_ n4_ n5_; (try clear hb); (try clear hb2); (try clear hk); (try clear hi)))
    go_loopg [7] k (fun kq v7 w' => ∃ (x7_1 : Int) (x342000_1 : List Int) (u342000 : Value), v7 = .int .i64 x7_1 ∧ Aside0 (spec_l1Cur_poset.l0 kq x7_1 s0_0 t346 t347 x342000_1 = some (r1, r2, r3)) ∧ Aside0 (kq ≤ k) ∧ Aside0 (Kd.R (Kd.int .i64) 3 w' w.heap.size (fun _ => True) u342000 x342000_1) ∧ Aside0 (w'.heap[gb335]? = some (.cells #[(.slice none 0 0)] 28 (0, 0))) ∧ Aside0 (w'.heap[gb341]? = some (.cells #[u342000] 28 (0, 0))) ∧ Aside0 (IsS74 w0 w' g s0_0 t346 t347) ∧ Aside0 (KeepBut w w' g none) ∧ Aside0 (Below w0.heap.size w0 w'))
    case atStart => exact ⟨(0), (t342), (.slice Ao60 t342.length co60), qe, H', ⟨Nat.le_refl _⟩, ⟨qR (Kd.R_mono HO344.out (fun _ hk => trivial))⟩, ⟨qb BK335.out⟩, ⟨qb BK341.out⟩, ⟨qI74⟩, ⟨qK⟩, ⟨qB⟩⟩
    case round =>
     clear H'
     try clear c1
     try clear p1
     try clear q1
     try clear hx1
     try clear p2
     try clear c3
     try clear c4
     try clear c5
     try clear c6
     try clear c6b0
     try clear c6b1
     try clear p6
     try clear c7
     try clear c8
     try clear c8b0
     try clear c8b1
     try clear c11
     try clear c11b0
     try clear p12
     try clear q12
     try clear hx12
     try clear hf12
     try clear c15
     try clear c16
     try clear c17
     try clear c18
     try clear c34
     try clear c36
     try clear c36b0
     try clear c36b1
     try clear c41
     try clear c42
     try clear c49
     try clear c51
     try clear c51b0
     try clear c51b1
     try clear c56
     try clear c57
     try clear hcz19_0
     try clear hcz22_0
     try clear hcz24_0
     try clear hcz33_0
     try clear hcz35_0
     try clear hcz43_0
     try clear hcz46_0
     try clear hcz48_0
     try clear hcz50_0
     try clear hcz58_0
     try clear hcz61_0
     try clear hfz19_0
     try clear hfz22_0
     try clear hfz24_0
     try clear hfz33_0
     try clear hfz35_0
     try clear hfz43_0
     try clear hfz46_0
     try clear hfz48_0
     try clear hfz50_0
     try clear hfz58_0
     try clear hfz61_0
     try clear hx12_0
     try clear p12
     try clear q12
     obtain ⟨x7_1, x342000_1, u342000, rfl, HA, HK1, HO_342000, BK335, BK341, HI0, HK, HB⟩ := hrel
     cases gk with
     | zero => exact absurd HA.out (by simp [spec_l1Cur_poset.l0])
     | succ k1 =>
      have H := HA.out
      clear HA
      simp only [spec_l1Cur_poset.l0] at H
      by_cases c63 : x7_1 < 11
      ·rw [if_pos c63] at H
       have c63b0 := decide_eq_true c63
       clear c63
       by_cases c64 : x342000_1.length < 17592186044416
       rotate_left
       ·rw [if_neg c64] at H
        exact absurd H (by simp)
       rw [if_pos c64] at H
       have LMc64 := am c64
       clear c64
       obtain ⟨y358, hy358⟩ : ∃ y_ : List Int, y_ = (x342000_1 ++ [0]) := ⟨_, rfl⟩
       replace H : (spec_l1Cur_poset.l0 k1 (wrap64 (x7_1 + 1)) s0_0 t346 t347 y358) = some (r1, r2, r3) := by first | (rw [hy358]; with_reducible exact H) | (have H2_ := (Option.bind_some _ _).symm.trans H; rw [hy358]; with_reducible exact H2_) | (have H2_ := (Option.bind_some _ _).symm.trans H; with_reducible exact H2_) | with_reducible exact H | (rw [hy358]; exact H) | exact H
       have Ny358 := am hy358
       clear hy358
       have H' := am H
       clear H
       have hnb65 := NB341_335.out
       have hnc65 := NB335_341.out
       have hnb66 := NB341_0.out
       have hnc66 := NB0_341.out
       have hcz67_0 := qz wr BK341.out
       have hfz67_0 := blk_frozen BK341.out 0
       go_wp2_with (first | ((with_reducible refine gate_builtin (b := .append) (xs := #[.tmp 43, .tmp 44]) rfl ?_); at_builtin; refine Kd.R_append (Kd.int .i64) w.heap.size rfl (.tmp 43) (.tmp 44) 26 3 (.int .i64 0) 8 rfl Try.underlying26 info3 rfl (by decide) (by omega) u342000 x342000_1 0 [.int .i64 0] (fun _ => True) (fun _ => False) rfl rfl ?aP (fun _ hk => hk.elim) ?aF ?aO (Below.refl _ _) ?aS ?aL ?_; (case aP => exact rfl); (case aF => exact (fun _ _ => trivial)); (case aO => exact (qR HO_342000.out)); (case aS => exact (keep_size (w := w) (g := g) (row := none) qK)); (case aL => have := LMc64.out; omega); intro v359 w68 ho hb hg hat; rw [← Ny358.out] at ho; replace BK335 := am (blk_grown (g := gb335) (o := .cells #[.slice none 0 0] 28 (0, 0)) (qb BK335.out) hg (Kd.R_ne HO_342000.out BK335.out (by decide))); replace BK341 := am (blk_grown (g := gb341) (o := .cells #[u342000] 28 (0, 0)) (qb BK341.out) hg (Kd.R_ne HO_342000.out BK341.out (by decide))); have n2_ := am (IsS74.grown qI74 hg (IsS74.own_ne HI0.out HO_342000.out (by decide))); have n3_ := am (below_weaken qB HL.out hb); have n4_ := am (KeepBut.trans qK (KeepBut.of_grown hg g) (Kd.R_base2 HO_342000.out)); have HO360 := am (ho); clear HI0 HB HK HO_342000; have HI0 := n2_; have HB := n3_; have HK := n4_; clear n2_ n3_ n4_; clear ho hb hg hat; obtain ⟨Ao69, co69, eo69⟩ := Kd.R_slice HO360.out; subst eo69; have hcz70_0 := qz w68 BK341.out; have hfz70_0 := blk_frozen BK341.out 0))
       go_roundg k1
       case measure => have := HK1.out; omega
       case rel => exact ⟨(wrap64 (x7_1 + 1)), (y358), (.slice Ao69 y358.length co69), qe, H', ⟨by have := HK1.out; omega⟩, ⟨qR (Kd.R_mono (Kd.R_far (p := ⟨gb341, 0, none⟩) (Kd.R_types HO360.out BK341.out (by decide)) (fun _ hk => hk.2) (.slice Ao69 y358.length co69)) (fun _ hk => trivial))⟩, ⟨by (with_reducible repeat (first | refine blk_drewN ?_ _ | refine blk_drew ?_ | refine blk_alloc ?_ _)); refine blk_far ?_ NB335_341.out _; refine qb ?_; exact BK335.out⟩, ⟨by (with_reducible repeat (first | refine blk_drewN ?_ _ | refine blk_drew ?_ | refine blk_alloc ?_ _)); refine blk_put (cs := #[u342000]) ?_ 0 _ rfl; refine qb ?_; exact BK341.out⟩, ⟨qI74⟩, ⟨qK⟩, ⟨qB⟩⟩
      ·rw [if_neg c63] at H
       have c63b0 := decide_eq_false c63
       clear c63
       simp only [Option.some.injEq, Prod.mk.injEq] at H
       obtain ⟨rfl, rfl, rfl⟩ := H
       have hnb71 := NB341_335.out
       have hnc71 := NB335_341.out
       have hnb72 := NB341_0.out
       have hnc72 := NB0_341.out
       have hcz73_0 := qz wr BK341.out
       have hfz73_0 := blk_frozen BK341.out 0
       obtain ⟨Ao74, co74, eo74⟩ := Kd.R_slice HO_342000.out
       subst eo74
       have hnb75 := NB335_0.out
       have hnc75 := NB0_335.out
       have hcz76_0 := qz wr BK335.out
       have hfz76_0 := blk_frozen BK335.out 0
       go_wp2
       refine bodyPost_ret (results_cell_row rfl _ _ gb335 28 #[.slice Ao74 x342000_1.length co74] (0, 0) _ rfl (by (with_reducible repeat (first | refine blk_drewN ?_ _ | refine blk_drew ?_ | refine blk_alloc ?_ _)); refine blk_put (cs := #[.slice none 0 0]) ?_ 0 _ rfl; refine qb ?_; exact BK335.out) Try.underlying28 rfl (by kernel_rfl)) rfl ?_
       exact ⟨_, qr, qR (Kd.R_mono (Kd.R_far (p := ⟨gb335, 0, none⟩) (Kd.R_types HO_342000.out BK335.out (by decide)) (fun _ hk => hk.2) (.slice Ao74 x342000_1.length co74)) (fun _ hk => trivial)), qI74, qB, qK⟩
   ·rw [if_neg c51] at H
    have c51b0 : (t345 == 2) = false := beq_eq_false_iff_ne.mpr c51
    have c51b1 : (t345 != 2) = true := bne_iff_ne.mpr c51
    simp only [Option.some.injEq, Prod.mk.injEq] at H
    obtain ⟨rfl, rfl, rfl⟩ := H
    go_enter Try.func155, Try.ntmps155
    go_wp2_with (first | ((with_reducible refine gate_dst (N := 4) rfl ?_); refine qx (N := 4) (cs := #[.slice none 0 0]) (t := 28) ?_; intro gb335 hg w77 hbox hb; have n0_ := am (IsS74.below qI74 hb); have n1_ := am (KeepBut.trans qK (KeepBut.of_below hb g none) (.inl rfl)); have n2_ := am (below_step qB hb); have BK335 := am (hbox); have GW335 := am ((by rw [hg]; exact (keep_size (w := w) (g := g) (row := none) qK) : w.heap.size ≤ gb335)); have GE335 := am ((Nat.le_trans HW0.out (by rw [hg]; exact (keep_size (w := w) (g := g) (row := none) qK) : w.heap.size ≤ gb335) : w0.heap.size ≤ gb335)); have NB0_335 := am ((by rw [hg]; exact Nat.ne_of_lt (IsS74.lt (show IsS74 w0 _ g s0_0 s0_1 s0_2 from qI74)) : g ≠ gb335)); have NB335_0 := am ((by rw [hg]; exact Nat.ne_of_gt (IsS74.lt (show IsS74 w0 _ g s0_0 s0_1 s0_2 from qI74)) : gb335 ≠ g)); clear HI0 HK HB; have HI0 := n0_; have HK := n1_; have HB := n2_; clear n0_ n1_ n2_; clear hb hbox hg) | ((with_reducible refine gate_callee (f := 170) rfl ?_); refine gL (some 10) Try.func170 #[.pointer (some ⟨g, 0, none⟩), .int .i64 a1] ?_; (with_reducible refine (spec_l1Cur_surePoset.calls k g s0_0 s0_1 s0_2 a1 t336 t339 t340 w0 _ ?side1 ?side2 A3.out).mono ?_); (case side1 => exact qI74); (case side2 => exact qB); rintro e w78 ⟨v337, rfl, ho0, hi, hb, hk⟩; refine ⟨_, rfl, ?_⟩; replace BK335 := am (KeepBut.blk hk (g' := gb335) (o := .cells #[.slice none 0 0] 28 (0, 0)) (qb BK335.out) NB335_0.out (by simp)); have HO338 := am (Kd.R_lower ho0 (keep_size (w := w) (g := g) (row := none) qK)); have n2_ := am (KeepBut.trans qK hk (.inl rfl)); have n3_ := am (hb); replace HI0 := am (hi); clear HK HB; have HK := n2_; have HB := n3_; clear n2_ n3_; (try clear hb); (try clear hb2); (try clear hk); (try clear hi); (try clear ho0)) | ((with_reducible refine gate_dst (N := 5) rfl ?_); refine qx (N := 5) (cs := #[.slice none 0 0]) (t := 28) ?_; intro gb341 hg w79 hbox hb; replace HO338 := am (Kd.R_below (qR HO338.out) hb); have n1_ := am (IsS74.below qI74 hb); have n2_ := am (blk_below (g := gb335) (o := .cells #[.slice none 0 0] 28 (0, 0)) (qb BK335.out) hb); have n3_ := am (KeepBut.trans qK (KeepBut.of_below hb g none) (.inl rfl)); have n4_ := am (below_step qB hb); have BK341 := am (hbox); have GW341 := am ((by rw [hg]; exact (keep_size (w := w) (g := g) (row := none) qK) : w.heap.size ≤ gb341)); have GE341 := am ((Nat.le_trans HW0.out (by rw [hg]; exact (keep_size (w := w) (g := g) (row := none) qK) : w.heap.size ≤ gb341) : w0.heap.size ≤ gb341)); have NB335_341 := am ((by rw [hg]; exact Nat.ne_of_lt (blk_lt (g := gb335) (o := .cells #[.slice none 0 0] 28 (0, 0)) (qb BK335.out)) : gb335 ≠ gb341)); have NB341_335 := am ((by rw [hg]; exact Nat.ne_of_gt (blk_lt (g := gb335) (o := .cells #[.slice none 0 0] 28 (0, 0)) (qb BK335.out)) : gb341 ≠ gb335)); have NB0_341 := am ((by rw [hg]; exact Nat.ne_of_lt (IsS74.lt (show IsS74 w0 _ g s0_0 t339 t340 from qI74)) : g ≠ gb341)); have NB341_0 := am ((by rw [hg]; exact Nat.ne_of_gt (IsS74.lt (show IsS74 w0 _ g s0_0 t339 t340 from qI74)) : gb341 ≠ g)); clear HI0 BK335 HK HB; have HI0 := n1_; have BK335 := n2_; have HK := n3_; have HB := n4_; clear n1_ n2_ n3_ n4_; clear hb hbox hg; obtain ⟨Ao80, co80, eo80⟩ := Kd.R_slice HO338.out; subst eo80; have hnb81 := NB341_335.out; have hnc81 := NB335_341.out; have hnb82 := NB341_0.out; have hnc82 := NB0_341.out; have hcz83_0 := qz w79 BK341.out; have hfz83_0 := blk_frozen BK341.out 0) | ((with_reducible refine gate_callee (f := 164) rfl ?_); refine gL (some 13) Try.func164 #[.slice Ao80 t336.length co80] ?_; (with_reducible refine (spec_l1Own.calls _ _ t336 t342 _ ?side1 ?side2 A4.out).mono ?_); (case side1 => refine (Kd.R_reads' (e := 3) (base := w.heap.size) (ok := fun k_ => True) (n := t336.length) (c := co80) ?_).2.2; exact (qR ((Kd.R_mono (Kd.R_far (p := ⟨gb341, 0, none⟩) (Kd.R_types HO338.out BK341.out (by decide)) (fun _ hk => hk.2) (.slice Ao80 t336.length co80)) (fun _ h_ => h_.1))))); (case side2 => exact (Kd.R_reads' HO338.out).2.1); rintro e w84 ⟨v343, rfl, ho0, hb⟩; refine ⟨_, rfl, ?_⟩; have n0_ := am (Kd.R_elder' (qR ((Kd.R_mono (Kd.R_far (p := ⟨gb341, 0, none⟩) (Kd.R_types HO338.out BK341.out (by decide)) (fun _ hk => hk.2) (.slice Ao80 t336.length co80)) (fun _ h_ => h_.1)))) (Kd.R_base ho0) hb); have HO344 := am (Kd.R_lower (Kd.R_new' ho0 (Kd.R_lt (qR ((Kd.R_mono (Kd.R_far (p := ⟨gb341, 0, none⟩) (Kd.R_types HO338.out BK341.out (by decide)) (fun _ hk => hk.2) (.slice Ao80 t336.length co80)) (fun _ h_ => h_.1)))))) (keep_size (w := w) (g := g) (row := none) qK)); have n2_ := am (IsS74.below (show IsS74 w0 (w79.setCell ⟨gb341, 0, none⟩ (.slice Ao80 t336.length co80)) g s0_0 t339 t340 from qI74) hb); replace BK335 := am (blk_below (g := gb335) (o := .cells #[.slice none 0 0] 28 (0, 0)) (by (with_reducible repeat (first | refine blk_drewN ?_ _ | refine blk_drew ?_ | refine blk_alloc ?_ _)); refine blk_far ?_ NB335_341.out _; refine qb ?_; exact BK335.out) hb); replace BK341 := am (blk_below (g := gb341) (o := .cells #[.slice Ao80 t336.length co80] 28 (0, 0)) (by (with_reducible repeat (first | refine blk_drewN ?_ _ | refine blk_drew ?_ | refine blk_alloc ?_ _)); refine blk_put (cs := #[.slice none 0 0]) ?_ 0 _ rfl; refine qb ?_; exact BK341.out) hb); have n5_ := am (KeepBut.trans qK (KeepBut.of_below hb g none) (.inl rfl)); replace HB := am (below_step qB hb); clear HO338 HI0 HK; have HO338 := n0_; have HI0 := n2_; have HK := n5_; clear n0_ n2_ n5_; (try clear hb); (try clear hb2); (try clear hk); (try clear hi); (try clear ho0); obtain ⟨Ao85, co85, eo85⟩ := Kd.R_slice HO344.out; subst eo85; have hcz86_0 := qz w84 BK341.out; have hfz86_0 := blk_frozen BK341.out 0) | ((with_reducible refine gate_callee (f := 115) rfl ?_); refine gL (some 16) Try.func115 #[.pointer (some ⟨g, 0, none⟩), .int .i64 20] ?_; (with_reducible refine (spec_l1Cur_pick.calls g s0_0 t339 t340 20 t345 t346 t347 w0 _ ?side1 ?side2 A5.out).mono ?_); (case side1 => exact qI74); (case side2 => exact qB); rintro e w87 ⟨rfl, hi, hb, hk⟩; refine ⟨_, rfl, ?_⟩; replace BK335 := am (KeepBut.blk hk (g' := gb335) (o := .cells #[.slice none 0 0] 28 (0, 0)) (by (with_reducible repeat (first | refine blk_drewN ?_ _ | refine blk_drew ?_ | refine blk_alloc ?_ _)); refine blk_far ?_ NB335_341.out _; refine qb ?_; exact BK335.out) NB335_0.out (by simp)); replace HO338 := am (Kd.R_mono (Kd.R_keep (IsS74.apart (show IsS74 w0 _ g s0_0 t339 t340 from qI74) (qR ((Kd.R_mono (Kd.R_far (p := ⟨gb341, 0, none⟩) (Kd.R_types HO338.out BK341.out (by decide)) (fun _ hk => hk.2) (.slice Ao85 t342.length co85)) (fun _ h_ => h_.1)))) (by decide)) hk (fun _ h => h.2)) (fun _ h => h.1)); have n2_ := am (KeepBut.blk hk (g' := gb341) (o := .cells #[.slice Ao85 t342.length co85] 28 (0, 0)) (by (with_reducible repeat (first | refine blk_drewN ?_ _ | refine blk_drew ?_ | refine blk_alloc ?_ _)); refine blk_put (cs := #[.slice Ao80 t336.length co80]) ?_ 0 _ rfl; refine qb ?_; exact BK341.out) NB341_0.out (by simp)); replace HO344 := am (Kd.R_mono (Kd.R_keep (IsS74.apart (show IsS74 w0 _ g s0_0 t339 t340 from qI74) (qR ((Kd.R_mono (Kd.R_far (p := ⟨gb341, 0, none⟩) (Kd.R_types HO344.out BK341.out (by decide)) (fun _ hk => hk.2) (.slice Ao85 t342.length co85)) (fun _ h_ => h_.1)))) (by decide)) hk (fun _ h => h.2)) (fun _ h => h.1)); have n4_ := am (KeepBut.trans qK hk (.inl rfl)); have n5_ := am (hb); replace HI0 := am (hi); clear BK341 HK HB; have BK341 := n2_; have HK := n4_; have HB := n5_; clear n2_ n4_ n5_; (try clear hb); (try clear hb2); (try clear hk); (try clear hi); have hcz88_0 := qz w87 BK341.out; have hfz88_0 := blk_frozen BK341.out 0; have hnb89 := NB335_0.out; have hnc89 := NB0_335.out; have hcz90_0 := qz w87 BK335.out; have hfz90_0 := blk_frozen BK335.out 0))
    refine bodyPost_ret (results_cell_row rfl _ _ gb335 28 #[.slice Ao85 t342.length co85] (0, 0) _ rfl (by (with_reducible repeat (first | refine blk_drewN ?_ _ | refine blk_drew ?_ | refine blk_alloc ?_ _)); refine blk_put (cs := #[.slice none 0 0]) ?_ 0 _ rfl; refine qb ?_; exact BK335.out) Try.underlying28 rfl (by kernel_rfl)) rfl ?_
    exact ⟨_, qr, qR (Kd.R_mono (Kd.R_far (p := ⟨gb335, 0, none⟩) (Kd.R_types HO344.out BK335.out (by decide)) (fun _ hk => hk.2) (.slice Ao85 t342.length co85)) (fun _ hk => trivial)), qI74, qB, qK⟩
end Go.Proofs.Ytonfifhoklaliaa.F
end

section
namespace Go.Proofs.Ytonfifhoklaliaa.Q
open Go.RowKit Go.Proofs.YtonfifhoklaliaaW.PrintWords Go.Proofs.Ytonfifhoklaliaa.F
set_option linter.unusedVariables false
def okPo : Option (List Int) → Bool
 | some p => decide (1 ≤ p.length) && (decide (p.length ≤ 10) && p.all fun n => (Lit.int .i64 n).wf)
 | none => false
theorem okPo_parts {o : Option (List Int)} (h : okPo o = true) : ∃ p, o = some p ∧ 1 ≤ p.length ∧ p.length ≤ 10 ∧ wfL p := by
 cases o with
 | none => cases h
 | some p =>
  simp only [okPo, Bool.and_eq_true, decide_eq_true_eq, List.all_eq_true] at h
  exact ⟨p, rfl, h.1, h.2.1, h.2.2⟩
theorem allPoRect : (List.range 2).all (fun a => (List.range 5).all fun b => okPo (spec_poRectangle.f 200 ((a : Int) + 1) ((b : Int) + 1))) = true := by decide +kernel
theorem allPoStair : (List.range 2).all (fun a => okPo ((spec_Staircase.f 200 ((a : Int) + 1)).map Prod.fst)) = true := by decide +kernel
theorem allPoFence : (List.range 10).all (fun a => okPo ((spec_Fence.f 400 ((a : Int) + 1)).map Prod.fst)) = true := by decide +kernel
structure Drawn (p : List Int) (n : Nat) : Prop where
 len : p.length ≤ n
 wf : wfL p
theorem sure_loop {l : List Int} (hl : bytesL l) {n : Nat} (hn1 : 1 ≤ n) (hn : n ≤ 100) : ∀ (d : Nat) (ps : List (List Int)) (B : Nat) (a s : Int), d ≤ 200 → ps.length + d ≤ 400 → pairsOk n ps → cAt B a → B + 4 * d ≤ 100000 →
 ∃ p a' s', Ev (fun k => spec_l1Cur_surePoset.l0 k (n : Int) ps (d : Int) l a s) (p, a', s') ∧ p.length = n ∧ wfL p ∧ cAt (B + 4 * d) a' := by
 intro d
 induction d with
 | zero =>
  intro ps B a s _ _ hp ha hB
  obtain ⟨r, g1, g2, g3⟩ := poFrom_ok (by omega) hp
  refine ⟨r, a, s, Ev.step (by intro k; simp only [spec_l1Cur_surePoset.l0]; rfl) (Ev.no (by omega) (Ev.step (by intro k; simp only [spec_l1Cur_surePoset.j1]; rfl) (Ev.no (by simp) (Ev.bind g1 (Ev.now _))))), g2, g3, ha⟩
 | succ d ih =>
  intro ps B a s hd hps hp ha hB
  by_cases h1 : n = 1
  ·obtain ⟨r, g1, g2, g3⟩ := poFrom_ok (by omega) hp
   refine ⟨r, a, s, Ev.step (by intro k; simp only [spec_l1Cur_surePoset.l0]; rfl) (Ev.yes (by omega) ?_), g2, g3, cAt_mono ha (by omega)⟩
   rw [decide_eq_false (by omega)]
   exact Ev.step (by intro k; simp only [spec_l1Cur_surePoset.j1]; rfl) (Ev.no (by simp) (Ev.bind g1 (Ev.now _)))
  ·obtain ⟨x, a1, s1, e1, h2, x0, x1⟩ := cpick_ok hl s (wrap64 ((n : Int) - 1)) ha (by omega)
   have hw1 : wrap64 ((n : Int) - 1) = (n : Int) - 1 := wid (by omega) (by omega)
   rw [hw1] at x1
   have hxn : x < (n : Int) - 1 ∨ x = 0 := by omega
   have hxl : 0 ≤ x ∧ x + 1 < (n : Int) := by omega
   obtain ⟨y, a2, s2, e2, h3, y0, y1⟩ := cpick_ok hl s1 (wrap64 ((wrap64 ((n : Int) - 1)) - x)) h2 (by omega)
   have hrow : pairsOk n (ps ++ [([x, wrap64 ((wrap64 (x + 1)) + y)] : List Int)]) := by
    refine ⟨by rw [List.length_append, List.length_singleton]; omega, fun c hc => ?_⟩
    rcases List.mem_append.1 hc with h | h
    ·exact hp.2 c h
    ·rw [List.mem_singleton.1 h]
     exact ⟨rfl, by show 0 ≤ x; omega, by show x < _; omega⟩
   obtain ⟨p, a', s', g1, g2, g3, g4⟩ := ih _ (B + 2 + 2) a2 s2 (by omega) (by rw [List.length_append, List.length_singleton]; omega) hrow h3 (by omega)
   refine ⟨p, a', s', Ev.step (by intro k; simp only [spec_l1Cur_surePoset.l0]; rfl) (Ev.yes (by omega) ?_), g2, g3, cAt_mono g4 (by omega)⟩
   rw [decide_eq_true (by omega)]
   refine Ev.step (by intro k; simp only [spec_l1Cur_surePoset.j1]; rfl) (Ev.yes (show true = true from rfl) ?_)
   refine Ev.call e1 (Ev.call e2 (Ev.yes (by omega) ?_))
   rw [show wrap64 (((d + 1 : Nat) : Int) - 1) = (d : Int) by rw [wid (by omega) (by omega)]; omega]
   exact g1
theorem sure_ok {l : List Int} (hl : bytesL l) {B : Nat} {a : Int} (s : Int) {most : Nat} (h1 : 1 ≤ most) (h2 : most ≤ 10) (ha : cAt B a) (hB : B ≤ 10000) : ∃ p a' s', Ev (fun k => spec_l1Cur_surePoset.f k l a s (most : Int)) (p, a', s') ∧ 1 ≤ p.length ∧ p.length ≤ 10 ∧ wfL p ∧ cAt (B + 100) a' := by
 unfold spec_l1Cur_surePoset.f
 obtain ⟨c, a0, s0, e0, hc, c0, c1⟩ := cpick_ok hl s 5 ha (by omega)
 by_cases q0 : c = 0
 ·obtain ⟨x, a1, s1, e1, hx, x0, x1⟩ := cpick_ok hl s0 2 hc (by omega)
  obtain ⟨t, ht, t1, t5⟩ : ∃ t : Nat, spec_l1Most.f 1 (wrap64 (Int.tdiv (most : Int) 2)) = some (t : Int) ∧ 1 ≤ t ∧ t ≤ 5 := by
   have e : wrap64 (Int.tdiv (most : Int) 2) = ((most / 2 : Nat) : Int) := by
    rw [Int.tdiv_eq_ediv_of_nonneg (by omega), wid (by omega) (by omega)]; omega
   unfold spec_l1Most.f
   rw [e]
   by_cases h : (1 : Int) > ((most / 2 : Nat) : Int)
   ·rw [if_pos h]; exact ⟨1, rfl, by omega, by omega⟩
   ·rw [if_neg h]; exact ⟨most / 2, rfl, by omega, by omega⟩
  obtain ⟨y, a2, s2, e2, hy, y0, y1⟩ := cpick_ok hl s1 (t : Int) hx (by omega)
  obtain ⟨u, rfl⟩ := Int.eq_ofNat_of_zero_le x0
  obtain ⟨v, rfl⟩ := Int.eq_ofNat_of_zero_le y0
  have hk := List.all_eq_true.1 (List.all_eq_true.1 allPoRect u (List.mem_range.2 (by omega))) v (List.mem_range.2 (by omega))
  obtain ⟨p, g1, g2, g3, g4⟩ := okPo_parts hk
  refine ⟨p, a2, s2, Ev.call e0 (Ev.yes q0 (Ev.call e1 (Ev.call ht (Ev.call e2 ?_)))), g2, g3, g4, cAt_mono hy (by omega)⟩
  rw [show wrap64 (1 + (u : Int)) = (u : Int) + 1 by rw [wid (by omega) (by omega)]; omega, show wrap64 (1 + (v : Int)) = (v : Int) + 1 by rw [wid (by omega) (by omega)]; omega]
  exact Ev.bind (Ev.of (spec_poRectangle.mono _ _) g1) (Ev.now _)
 by_cases q1 : c = 1
 ·obtain ⟨x, a1, s1, e1, hx, x0, x1⟩ := cpick_ok hl s0 2 hc (by omega)
  obtain ⟨u, rfl⟩ := Int.eq_ofNat_of_zero_le x0
  have hk := List.all_eq_true.1 allPoStair u (List.mem_range.2 (by omega))
  obtain ⟨p, g1, g2, g3, g4⟩ := okPo_parts hk
  obtain ⟨⟨p2, b2⟩, g5, g6⟩ := Option.map_eq_some_iff.1 g1
  have g6 : p2 = p := g6
  subst g6
  refine ⟨p2, a1, s1, Ev.call e0 (Ev.no q0 (Ev.yes q1 (Ev.call e1 ?_))), g2, g3, g4, cAt_mono hx (by omega)⟩
  rw [show wrap64 (1 + (u : Int)) = (u : Int) + 1 by rw [wid (by omega) (by omega)]; omega]
  exact Ev.bind (Ev.of (spec_Staircase.mono _) g5) (Ev.now _)
 obtain ⟨x, a1, s1, e1, hx, x0, x1⟩ := cpick_ok hl s0 (most : Int) hc (by omega)
 obtain ⟨u, rfl⟩ := Int.eq_ofNat_of_zero_le x0
 have hu : u < 10 := by omega
 by_cases q2 : c = 2
 ·have hk := List.all_eq_true.1 allPoFence u (List.mem_range.2 hu)
  obtain ⟨p, g1, g2, g3, g4⟩ := okPo_parts hk
  obtain ⟨⟨p2, b2⟩, g5, g6⟩ := Option.map_eq_some_iff.1 g1
  have g6 : p2 = p := g6
  subst g6
  refine ⟨p2, a1, s1, Ev.call e0 (Ev.no q0 (Ev.no q1 (Ev.yes q2 (Ev.call e1 ?_)))), g2, g3, g4, cAt_mono hx (by omega)⟩
  rw [show wrap64 (1 + (u : Int)) = (u : Int) + 1 by rw [wid (by omega) (by omega)]; omega]
  exact Ev.bind (Ev.of (spec_Fence.mono _) g5) (Ev.now _)
 have hw : wrap64 (1 + (u : Int)) = ((u + 1 : Nat) : Int) := by rw [wid (by omega) (by omega)]; omega
 have hw2 : wrap64 (2 * (wrap64 (1 + (u : Int)))) = ((2 * (u + 1) : Nat) : Int) := by rw [hw, wid (by omega) (by omega)]; omega
 obtain ⟨y, a2, s2, e2, hy, y0, y1⟩ := cpick_ok hl s1 (wrap64 (2 * (wrap64 (1 + (u : Int))))) hx (by omega)
 rw [hw2] at y1
 obtain ⟨v, rfl⟩ := Int.eq_ofNat_of_zero_le y0
 obtain ⟨p, a', s', g1, g2, g3, g4⟩ := sure_loop hl (n := u + 1) (by omega) (by omega) v [] (B + 2 + 2 + 2) a2 s2 (by omega) (by simp; omega) ⟨by simp, fun c hc => by cases hc⟩ hy (by omega)
 refine ⟨p, a', s', Ev.call e0 (Ev.no q0 (Ev.no q1 (Ev.no q2 (Ev.call e1 (Ev.call e2 ?_))))), by omega, by omega, g3, cAt_mono g4 (by omega)⟩
 rw [hw]
 exact g1
theorem wfL_zeros {l : List Int} (hl : List Int) (h : wfL l) : wfL (l ++ [0]) := wfL_app h (fun x hx => by rw [List.mem_singleton.1 hx]; decide)
theorem zeros_run {l : List Int} (a s : Int) : ∀ d (x : Nat), x + d = 11 → ∀ p : List Int, p.length + d ≤ 1000 → wfL p → ∃ q, Ev (fun k => spec_l1Cur_poset.l0 k (x : Int) l a s p) (q, a, s) ∧ q.length = p.length + d ∧ wfL q
 | 0, x, hx, p, hp, hw => ⟨p, Ev.step (by intro k; simp only [spec_l1Cur_poset.l0]; rfl) (Ev.no (by omega) (Ev.now _)), rfl, hw⟩
 | d + 1, x, hx, p, hp, hw => by
  obtain ⟨q, g1, g2, g3⟩ := zeros_run a s d (x + 1) (by omega) (p ++ [0]) (by rw [List.length_append, List.length_singleton]; omega) (wfL_zeros [] hw)
  refine ⟨q, Ev.step (by intro k; simp only [spec_l1Cur_poset.l0]; rfl) (Ev.yes (by omega) (Ev.yes (by omega) ?_)), by rw [g2, List.length_append, List.length_singleton]; omega, g3⟩
  rw [show wrap64 ((x : Int) + 1) = ((x + 1 : Nat) : Int) by rw [wid (by omega) (by omega)]; omega]
  exact g1
theorem poset_ok {l : List Int} (hl : bytesL l) {B : Nat} {a : Int} (s : Int) {most : Nat} (h1 : 1 ≤ most) (h2 : most ≤ 10) (ha : cAt B a) (hB : B ≤ 10000) : ∃ p a' s', Ev (fun k => spec_l1Cur_poset.f k l a s (most : Int)) (p, a', s') ∧ p.length ≤ 21 ∧ wfL p ∧ cAt (B + 120) a' := by
 unfold spec_l1Cur_poset.f
 obtain ⟨p, a0, s0, e0, p1, p2, p3, hp⟩ := sure_ok hl s h1 h2 ha hB
 have hown : spec_l1Own.f p = some p := by
  unfold spec_l1Own.f
  rw [Option.bind_some, if_pos (by simp; omega), List.nil_append]
 obtain ⟨c, a1, s1, e1, hc, c0, c1⟩ := cpick_ok hl s0 20 hp (by omega)
 by_cases q0 : c = 0
 ·obtain ⟨x, a2, s2, e2, hx, x0, x1⟩ := cpick_ok hl s1 (p.length : Int) hc (by omega)
  obtain ⟨y, a3, s3, e3, hy, y1⟩ := among_ok hl s2 hx (by omega) (m := ([(-1), 1, 3, shl .i64 1 x, 4611686018427387904] : List Int)) (by simp)
  have hwf : (Lit.int .i64 y).wf = true := by
   simp only [List.mem_cons, List.mem_nil_iff, or_false] at y1
   rcases y1 with rfl | rfl | rfl | rfl | rfl
   ·decide
   ·decide
   ·decide
   ·exact wf_wrapI _
   ·decide
  refine ⟨p.set x.toNat y, a3, s3, Ev.bind e0 (Ev.call hown (Ev.call e1 (Ev.yes q0 (Ev.call e2 (Ev.yes x0 (Ev.call e3 (Ev.yes (by omega) (Ev.now _)))))))), by rw [List.length_set]; omega, wfL_set p3 hwf _, cAt_mono hy (by omega)⟩
 by_cases q1 : c = 1
 ·exact ⟨[], a1, s1, Ev.bind e0 (Ev.call hown (Ev.call e1 (Ev.no q0 (Ev.yes q1 (Ev.now _))))), by simp, (fun n hn => by cases hn), cAt_mono hc (by omega)⟩
 by_cases q2 : c = 2
 ·obtain ⟨q, g1, g2, g3⟩ := zeros_run (l := l) a1 s1 11 0 rfl p (by omega) p3
  exact ⟨q, a1, s1, Ev.bind e0 (Ev.call hown (Ev.call e1 (Ev.no q0 (Ev.no q1 (Ev.yes q2 g1))))), by omega, g3, cAt_mono hc (by omega)⟩
 ·exact ⟨p, a1, s1, Ev.bind e0 (Ev.call hown (Ev.call e1 (Ev.no q0 (Ev.no q1 (Ev.no q2 (Ev.now _)))))), by omega, p3, cAt_mono hc (by omega)⟩
end Go.Proofs.Ytonfifhoklaliaa.Q
end
