/- Part 5 of the texts below the row of FnExactPromotionOrder: printed functions with their contracts, and plain lemmas. No condition. -/
import Derived.Test.YtnihjpnheooeoaaZFnExactPromotionOrder4
import Derived.Shelf.SlicesE.DeleteFunc
import Derived.Deep.RegionHeld3
import Derived.Lib.Hide
import Derived.Deep.RegionWith
import Derived.OneCell
import Derived.Laws.EntriesVeiled
section
namespace Go.Proofs.Ytnihjpnheooeoaa.Q
open Go.RowKit Go.Proofs.YtnihjpnheooeoaaW.PrintWords Go.Proofs.Ytnihjpnheooeoaa.F
set_option linter.unusedVariables false
theorem lineOf_eq {w : List Int} (h : w.length ≤ 10) : impl_lineOf.f w = some (T10 w) := by unfold impl_lineOf.f; rw [if_pos h]; rfl
/-- What each of the program's exchanges does. -/
def exG (p : List Int) (a b : Int) (t t' : I10) : Option I10 :=
  if 0 ≤ a then (if a < (p.length : Int) then ((impl_has.f (rd p a) b).bind fun q => (if q = true then (some t) else (if 0 ≤ b then (if b < (p.length : Int) then ((impl_has.f (rd p b) a).bind fun q2 => (if q2 = true then (some t) else (some t'))) else (none)) else (none)))) else (none)) else (none)
theorem exG_eq {p : List Int} (hp : PO p) {a b : Nat} (ha : a < p.length) (hb : b < p.length) (h : (L p a).testBit b = false) (t t' : I10) :
    exG p (a : Int) (b : Int) t t' = some (if (L p b).testBit a then t else t') := by
  have hn := hp.small
  unfold exG
  rw [if_pos (by omega), if_pos (by omega), rdN, hp.val a ha, has_eq (lt_pow (L_lt hp ha) (by omega)) (by omega), h]
  simp only [Option.bind_some]
  rw [if_neg (by simp), if_pos (by omega), if_pos (by omega), rdN, hp.val b hb, has_eq (lt_pow (L_lt hp hb) (by omega)) (by omega)]
  simp only [Option.bind_some]
  cases (L p b).testBit a <;> rfl
def ex10 (p w : List Int) (i : Int) : Option I10 := impl_Poset_exchange.f p (w.getD 0 0) (w.getD 1 0) (w.getD 2 0) (w.getD 3 0) (w.getD 4 0) (w.getD 5 0) (w.getD 6 0) (w.getD 7 0) (w.getD 8 0) (w.getD 9 0) i
theorem ex10_eq {p : List Int} (hp : PO p) {w : List Int} (h : ordB p w = true) {i : Nat} (hi : i + 1 < w.length) : ex10 p w (i : Int) = some (T10 (togL p w i)) := by
  obtain ⟨a, b, s, x, y, H⟩ := ord_at h hi
  have hn := hp.small
  have hl := ordB_len h
  obtain ⟨ga, gb⟩ := H.get
  have key : ∀ t', t' = T10 (swp w i) → exG p (w.getD i 0) (w.getD (i + 1) 0) (T10 w) t' = some (T10 (togL p w i)) := by
    rintro t' rfl
    rw [ga, gb, exG_eq hp H.ha H.hb H.ba, H.tog]
    cases (L p b).testBit a <;> rfl
  have sg := swp_getD hi
  clear ga gb H
  unfold ex10 impl_Poset_exchange.f
  match i, hi with
  | 0, _ => rw [if_pos (by decide)]; exact key _ (by unfold T10; simp only [sg] <;> rfl)
  | 1, _ => rw [if_neg (by decide), if_pos (by decide)]; exact key _ (by unfold T10; simp only [sg] <;> rfl)
  | 2, _ => rw [if_neg (by decide), if_neg (by decide), if_pos (by decide)]; exact key _ (by unfold T10; simp only [sg] <;> rfl)
  | 3, _ => rw [if_neg (by decide), if_neg (by decide), if_neg (by decide), if_pos (by decide)]; exact key _ (by unfold T10; simp only [sg] <;> rfl)
  | 4, _ => rw [if_neg (by decide), if_neg (by decide), if_neg (by decide), if_neg (by decide), if_pos (by decide)]; exact key _ (by unfold T10; simp only [sg] <;> rfl)
  | 5, _ => rw [if_neg (by decide), if_neg (by decide), if_neg (by decide), if_neg (by decide), if_neg (by decide), if_pos (by decide)]; exact key _ (by unfold T10; simp only [sg] <;> rfl)
  | 6, _ => rw [if_neg (by decide), if_neg (by decide), if_neg (by decide), if_neg (by decide), if_neg (by decide), if_neg (by decide), if_pos (by decide)]; exact key _ (by unfold T10; simp only [sg] <;> rfl)
  | 7, _ => rw [if_neg (by decide), if_neg (by decide), if_neg (by decide), if_neg (by decide), if_neg (by decide), if_neg (by decide), if_neg (by decide), if_pos (by decide)]; exact key _ (by unfold T10; simp only [sg] <;> rfl)
  | 8, _ => rw [if_neg (by decide), if_neg (by decide), if_neg (by decide), if_neg (by decide), if_neg (by decide), if_neg (by decide), if_neg (by decide), if_neg (by decide), if_pos (by decide)]; exact key _ (by unfold T10; simp only [sg] <;> rfl)
  | _ + 9, hj => exact absurd hj (by omega)
theorem l1Own_eq {w : List Int} (h : w.length ≤ 1000) : spec_l1Own.f w = some w := by
  unfold spec_l1Own.f
  simp only [Option.bind_some]
  rw [if_pos (by simp; omega)]; rfl
theorem liToggle_eq {p : List Int} (hp : PO p) {w : List Int} (h : ordB p w = true) {i : Nat} (hi : i + 1 < w.length) : spec_liToggle.f p w (i : Int) = some (togL p w i) := by
  obtain ⟨a, b, s, x, y, H⟩ := ord_at h hi
  have hn := hp.small
  have hl := ordB_len h
  have ha := H.ha
  have hb := H.hb
  unfold spec_liToggle.f
  rw [l1Own_eq (by omega)]
  simp only [Option.bind_some]
  rw [wid1 (i := i) (n := w.length) (by omega) (by omega), if_pos (by omega), if_pos (by omega), if_pos (by omega), if_pos (by omega), rdN, rdN, H.get.1, H.get.2]
  have e : spec_liLess.f p (a : Int) (b : Int) = some ((L p b).testBit a) := by
    unfold spec_liLess.f
    rw [if_pos (by omega), if_pos (by omega), rdN, hp.val b hb, poIn_eq (by omega)]; rfl
  rw [e, H.tog]
  simp only [Option.bind_some]
  cases hc : (L p b).testBit a with
  | true => rw [if_pos rfl, if_pos rfl]
  | false =>
    rw [if_neg (by simp), if_pos (by omega), if_pos (by omega), if_neg (by simp), Int.toNat_natCast, Int.toNat_natCast]
    unfold swp
    rw [H.get.1, H.get.2]
end Go.Proofs.Ytnihjpnheooeoaa.Q
end

section
namespace Go.Proofs.Ytnihjpnheooeoaa.Q
open Go.RowKit Go.Proofs.YtnihjpnheooeoaaW.PrintWords Go.Proofs.Ytnihjpnheooeoaa.F
set_option linter.unusedVariables false
theorem upL_len (p w : List Int) : ∀ d, (upL p w d).length = w.length := by
  intro d
  induction d with
  | zero => rfl
  | succ d ih => unfold upL; rw [togL_len, ih]
theorem liUp_ev {p : List Int} (hp : PO p) {w : List Int} (hw : ordB p w = true) (d : Nat) (hd : d + 1 ≤ w.length) : Ev (fun k => spec_liUp.f k p w (d : Int)) (upL p w d) := by
  have hn := hp.small
  have hl := ordB_len hw
  unfold spec_liUp.f
  have key : ∀ i, i ≤ d → Ev (fun k => spec_liUp.l0 k (upL p w i) (d : Int) (i : Int) p) (upL p w d) := by
    refine downTo _ ?_ ?_
    · exact Ev.step (by intro k; simp only [spec_liUp.l0]; rfl) (Ev.no (by omega) (Ev.now _))
    · intro i hi ih
      have := upL_ok hw i (by omega)
      refine Ev.step (by intro k; simp only [spec_liUp.l0]; rfl) (Ev.yes (by omega) (Ev.call (liToggle_eq hp this.1 (by omega)) ?_))
      rw [wid1 hi (by omega)]
      exact ih
  exact key 0 (by omega)
def pro10 (k : Nat) (p w : List Int) : Option I10 := impl_Poset_promoted.f k p (w.getD 0 0) (w.getD 1 0) (w.getD 2 0) (w.getD 3 0) (w.getD 4 0) (w.getD 5 0) (w.getD 6 0) (w.getD 7 0) (w.getD 8 0) (w.getD 9 0)
theorem pro10_ev {p : List Int} (hp : PO p) {w : List Int} (hw : ordB p w = true) : Ev (fun k => pro10 k p w) (T10 (proL p w)) := by
  have h1 := hp.pos
  have h2 := hp.small
  have hl := ordB_len hw
  unfold pro10 impl_Poset_promoted.f
  refine Ev.call (show impl_Poset_n.f p = some (p.length : Int) from rfl) ?_
  have ew : wrap64 ((p.length : Int) - 1) = ((p.length - 1 : Nat) : Int) := by rw [wid (by omega) (by omega)]; omega
  rw [ew]
  have key : ∀ i, i ≤ p.length - 1 → ∀ v, v = upL p w i → Ev (fun k => impl_Poset_promoted.l0 k ((p.length - 1 : Nat) : Int) (i : Int) p (v.getD 0 0) (v.getD 1 0) (v.getD 2 0) (v.getD 3 0) (v.getD 4 0) (v.getD 5 0) (v.getD 6 0) (v.getD 7 0) (v.getD 8 0) (v.getD 9 0)) (T10 (proL p w)) := by
    refine downTo _ ?_ ?_
    · rintro v rfl
      exact Ev.step (by intro k; simp only [impl_Poset_promoted.l0]; rfl) (Ev.no (by omega) (Ev.now _))
    · rintro i hi ih v rfl
      have := upL_ok hw i (by omega)
      refine Ev.step (by intro k; simp only [impl_Poset_promoted.l0]; rfl) (Ev.yes (by omega) (Ev.call (ex10_eq hp this.1 (by omega)) ?_))
      rw [wid1 (i := i) (n := p.length) (by omega) (by omega)]
      exact ih _ rfl
  exact key 0 (by omega) w rfl
end Go.Proofs.Ytnihjpnheooeoaa.Q
end

section
namespace Go.Proofs.Ytnihjpnheooeoaa.Q
open Go.RowKit Go.Proofs.YtnihjpnheooeoaaW.PrintWords Go.Proofs.Ytnihjpnheooeoaa.F
set_option linter.unusedVariables false
def itL (f : List Int → List Int) (w : List Int) : Nat → List Int
  | 0 => w
  | t + 1 => itL f (f w) t
theorem itL_ok {p : List Int} {f : List Int → List Int} (hf : ∀ w, ordB p w = true → ordB p (f w) = true) : ∀ (t : Nat) (w : List Int), ordB p w = true → ordB p (itL f w t) = true := by
  intro t
  induction t with
  | zero => intro w h; exact h
  | succ t ih => intro w h; exact ih (f w) (hf w h)
theorem proL_ok {p : List Int} (hp : PO p) {w : List Int} (h : ordB p w = true) : ordB p (proL p w) = true := by
  have := hp.pos
  have := ordB_len h
  exact (upL_ok h (p.length - 1) (by omega)).1
theorem unL_ok {p : List Int} (hp : PO p) {w : List Int} (h : ordB p w = true) : ordB p (unL p w) = true := by
  have := hp.pos
  have := ordB_len h
  exact (dnL_ok 0 (p.length - 1) w h (by omega)).1
/-- A list behind so many promotions. -/
def promL (p w : List Int) (t : Int) : List Int := if 0 ≤ t then itL (proL p) w t.toNat else itL (unL p) w (-t).toNat
theorem promL_ok {p : List Int} (hp : PO p) {w : List Int} (h : ordB p w = true) (t : Int) : ordB p (promL p w t) = true := by
  unfold promL
  split
  · exact itL_ok (fun w => proL_ok hp) _ w h
  · exact itL_ok (fun w => unL_ok hp) _ w h
theorem liPromote_down {p : List Int} (hp : PO p) : ∀ (t : Nat) (w : List Int), t ≤ 1000 → ordB p w = true → Ev (fun k => spec_liPromote.l1 k w (-(t : Int)) p) (itL (unL p) w t) := by
  have h1 := hp.pos
  have h2 := hp.small
  intro t
  induction t with
  | zero =>
    intro w _ hw
    have := ordB_len hw
    exact Ev.step (by intro k; simp only [spec_liPromote.l1]; rfl) (Ev.no (by omega) (Ev.call (l1Own_eq (w := w) (by omega)) (Ev.now _)))
  | succ t ih =>
    intro w ht hw
    have hl := ordB_len hw
    refine Ev.step (by intro k; simp only [spec_liPromote.l1]; rfl) (Ev.yes (by omega) ?_)
    rw [show wrap64 ((w.length : Int) - 2) = ((p.length - 1 : Nat) : Int) - 1 by rw [wid (by omega) (by omega)]; omega]
    have key : ∀ d, d + 1 ≤ p.length → ∀ v, ordB p v = true → dnL p 0 v d = unL p w → Ev (fun k => spec_liPromote.l2 k v (-((t + 1 : Nat) : Int)) ((d : Int) - 1) p) (itL (unL p) w (t + 1)) := by
      intro d
      induction d with
      | zero =>
        intro _ v hv he
        refine Ev.step (by intro k; simp only [spec_liPromote.l2]; rfl) (Ev.no (by omega) ?_)
        rw [show wrap64 (-((t + 1 : Nat) : Int) + 1) = -(t : Int) by rw [wid (by omega) (by omega)]; omega]
        have hv2 : v = unL p w := he
        rw [hv2] at hv ⊢
        exact ih _ (by omega) hv
      | succ d ihd =>
        intro hd v hv he
        have hlv := ordB_len hv
        have ei : ((d + 1 : Nat) : Int) - 1 = (d : Int) := by omega
        rw [ei]
        refine Ev.step (by intro k; simp only [spec_liPromote.l2]; rfl) (Ev.yes (by omega) (Ev.call (liToggle_eq hp hv (by omega)) ?_))
        rw [show wrap64 ((d : Int) - 1) = (d : Int) - 1 from wid (by omega) (by omega)]
        refine ihd (by omega) _ (togL_ord hv (by omega)) ?_
        rw [← he]
        show dnL p 0 (togL p v d) d = dnL p 0 (togL p v (0 + d)) d
        rw [Nat.zero_add]
    exact key (p.length - 1) (by omega) w hw rfl
theorem liPromote_up {p : List Int} (hp : PO p) : ∀ (t : Nat) (w : List Int), t ≤ 1000 → ordB p w = true → Ev (fun k => spec_liPromote.l0 k w (t : Int) p) (itL (proL p) w t) := by
  have h1 := hp.pos
  have h2 := hp.small
  intro t
  induction t with
  | zero =>
    intro w _ hw
    refine Ev.step (by intro k; simp only [spec_liPromote.l0]; rfl) (Ev.no (by omega) ?_)
    exact liPromote_down hp 0 w (by omega) hw
  | succ t ih =>
    intro w ht hw
    have hl := ordB_len hw
    refine Ev.step (by intro k; simp only [spec_liPromote.l0]; rfl) (Ev.yes (by omega) ?_)
    rw [show wrap64 ((w.length : Int) - 1) = ((p.length - 1 : Nat) : Int) by rw [wid (by omega) (by omega)]; omega]
    refine Ev.bind (liUp_ev hp hw (p.length - 1) (by omega)) ?_
    rw [show wrap64 (((t + 1 : Nat) : Int) - 1) = (t : Int) by rw [wid (by omega) (by omega)]; omega]
    exact ih _ (by omega) (proL_ok hp hw)
theorem liPromote_ev {p : List Int} (hp : PO p) {w : List Int} (hw : ordB p w = true) (t : Int) (h0 : -1000 ≤ t) (h1 : t ≤ 1000) : Ev (fun k => spec_liPromote.f k p w t) (promL p w t) := by
  unfold spec_liPromote.f promL
  split
  · obtain ⟨n, rfl⟩ := Int.eq_ofNat_of_zero_le (show 0 ≤ t by assumption)
    exact liPromote_up hp n w (by omega) hw
  · obtain ⟨n, hn⟩ := Int.eq_ofNat_of_zero_le (show 0 ≤ -t by omega)
    obtain rfl : t = -(n : Int) := by omega
    refine Ev.step (by intro k; simp only [spec_liPromote.l0]; rfl) (Ev.no (by omega) ?_)
    rw [show (-(-(n : Int))).toNat = n by omega]
    exact liPromote_down hp n w (by omega) hw
end Go.Proofs.Ytnihjpnheooeoaa.Q
end

section
namespace Go.Proofs.Ytnihjpnheooeoaa.F
open Go.RowKit Go.Proofs.YtnihjpnheooeoaaW.PrintWords Go.Proofs.YtnihjpnheooeoaaW.PrintLast Go.Proofs.YtnihjpnheooeoaaW.PrintMore
set_option linter.unusedVariables false
set_option linter.unusedSimpArgs false
/-- Whether an element is struck. -/
def nextDel (p : List Int) (s x : Int) : Bool := Go.bits .andNot .i64 (rd p x) s != 0
def impl_Poset_next.f (k : Nat) (l0_0 : List Int) (a1 : Int) : Option (List Int) :=
  (impl_Poset_all.f l0_0).bind fun t => (impl_items.f k (Go.bits .andNot .i64 t a1)).bind fun l => if (∀ x ∈ l, 0 ≤ x ∧ x < (l0_0.length : Int)) ∧ (1 ≤ l0_0.length ∧ l.length ≤ 1000) then some (l.filter fun x => !nextDel l0_0 a1 x) else none
theorem impl_Poset_next.mono : ∀ a0 a1 k, LeO (impl_Poset_next.f k a0 a1) (impl_Poset_next.f (k + 1) a0 a1) := fun a0 a1 k => LeO.bind (LeO.refl _) (fun _ => LeO.bind (impl_items.mono _ _) (fun _ => LeO.refl _))
set_option maxHeartbeats 8000000 in
set_option maxRecDepth 100000 in
theorem next_lit (gp gs : Nat) (e : Nat) (A0 : Option Addr) (c0 : Nat) (p : List Int) (s : Int) (w : World) (hp : w.cell? ⟨gp, 0, none⟩ = some (.slice A0 p.length c0)) (hs : w.cell? ⟨gs, 0, none⟩ = some (.int .i64 s)) (hr : Kd.C (Kd.int .i64) w A0 p.length p) (he : e < p.length) :
    Calls Try.prog 90 #[.int .i64 (e : Int), .pointer (some ⟨gp, 0, none⟩), .pointer (some ⟨gs, 0, none⟩)] w fun en w' => en = .returned (.bool (nextDel p s (e : Int))) ∧ ∃ q, w' = w.drewN q := by
  have hu28 := Try.underlying34
  unfold nextDel
  obtain ⟨ad, rfl, hc⟩ := Kd.at_int hr (e : Int) (by omega) (by omega)
  rw [Int.toNat_natCast] at hc
  have c1 : 0 ≤ (e : Int) := by omega
  have c2 : (e : Int) < (p.length : Int) := by omega
  have c3 : decide (e < p.length) = true := decide_eq_true he
  have c4 : (e < p.length) = True := eq_true he
  clear hr
  go_enter Try.func90, Try.ntmps90
  go_wp2_with (fail)
  go_quiet (fail)
  go_wp2
  go_ret
  exact ⟨rfl, _, rfl⟩
def next_ren : Go.Shelf.Ren := ⟨fun | 6 => 103 | 10 => 89 | n => n, fun | 0 => 0 | 3 => 3 | 4 => 4 | 22 => 25 | 23 => 3 | 25 => 24 | n => n, fun n => n⟩
theorem next_lay : SlLaysH.n10 Try.prog next_ren := {
  mixed := by kernel_rfl
  f6 := ⟨Try.f103.name, by decide, Try.func103⟩
  f10 := ⟨Try.f89.name, by decide, Try.func89⟩
  t0 := by kernel_rfl
  a0 := fun w => by kernel_rfl
  z0 := fun w => by kernel_rfl
  v0 := fun w => by kernel_rfl
  t3 := by kernel_rfl
  a3 := fun w => by kernel_rfl
  z3 := fun w => by kernel_rfl
  v3 := fun w => by kernel_rfl
  t4 := by kernel_rfl
  a4 := fun w => by kernel_rfl
  z4 := fun w => by kernel_rfl
  v4 := fun w => by kernel_rfl
  t22 := by kernel_rfl
  a22 := fun w => by kernel_rfl
  z22 := fun w => by kernel_rfl
  v22 := fun w => by kernel_rfl
  a23 := fun w => by kernel_rfl
  z23 := fun w => by kernel_rfl
  t25 := by kernel_rfl
  a25 := fun w => by kernel_rfl
  z25 := fun w => by kernel_rfl
  v25 := fun w => by kernel_rfl }
def finV {n : Nat} (x : Fin n) : Int := ((x : Nat) : Int)
def finE {n : Nat} (x : Fin n) : Value := .int .i64 (finV x)
theorem fin_list {n : Nat} (l : List Int) (h : ∀ x ∈ l, 0 ≤ x ∧ x < (n : Int)) : ∃ lf : List (Fin n), l = lf.map finV := by
  induction l with
  | nil => exact ⟨[], rfl⟩
  | cons x l ih =>
    obtain ⟨lf, e⟩ := ih (fun y hy => h y (List.mem_cons_of_mem _ hy))
    have hx := h x List.mem_cons_self
    refine ⟨⟨x.toNat, by omega⟩ :: lf, ?_⟩
    rw [List.map_cons, ← e]
    show _ = finV _ :: l
    unfold finV
    congr 1
    show x = ((x.toNat : Nat) : Int)
    omega
theorem next_C {w W : World} {A : Option Addr} {n : Nat} {p : List Int} (h : Kd.C (Kd.int .i64) w A n p) (hc : ∀ a : Addr, A.map (·.block) = some a.block → ∀ v, w.cell? a = some v → W.cell? a = some v) : Kd.C (Kd.int .i64) W A n p := by
  obtain ⟨h1, h2, h3⟩ := Kd.reads_of_C (d := (0 : Int)) h
  refine Kd.C_of_reads (d := (0 : Int)) ⟨h1, h2, fun hn => ?_⟩
  obtain ⟨ad, e, hr⟩ := h3 hn
  refine ⟨ad, e, fun j hj => hc _ ?_ _ (hr j hj)⟩
  subst e
  unfold Addr.add
  split <;> rfl
section
open Go.Sort Go.Shelf Go.Lib
theorem next_del {n : Nat} (hn : 0 < n) (gp gs g cap : Nat) (lf : List (Fin n)) (A0 : Option Addr) (c0 : Nat) (p : List Int) (hpn : p.length = n) (s : Int) (W : World) (base : Nat) (ok : Nat → Prop)
    (hR : Kd.R (Kd.int .i64) 3 W base ok (.slice (some ⟨g, 0, none⟩) (lf.map finV).length cap) (lf.map finV)) (hl : lf.length ≤ 1000) (hp : W.cell? ⟨gp, 0, none⟩ = some (.slice A0 p.length c0)) (hs : W.cell? ⟨gs, 0, none⟩ = some (.int .i64 s)) (hr : Kd.C (Kd.int .i64) W A0 p.length p)
    (n1 : gp ≠ g) (n2 : gs ≠ g) (n3 : ∀ ad, A0 = some ad → ad.block ≠ g) :
    Calls Try.prog 89 #[.slice (some ⟨g, 0, none⟩) (lf.map finV).length cap, .func (.func 90) #[] #[.pointer (some ⟨gp, 0, none⟩), .pointer (some ⟨gs, 0, none⟩)]] W fun e w' =>
      ∃ v : Value, e = .returned v ∧ Kd.R (Kd.int .i64) 3 w' base ok v ((lf.map finV).filter fun x => !nextDel p s x) ∧ W.grownBy w' (some g) := by
  have hInh : Inhabited (Fin n) := ⟨⟨0, hn⟩⟩
  have hown := Kd.own_of_R hR
  have hok := hR.1
  obtain ⟨hx1, hx2⟩ := hown
  rcases hx2 with ⟨e, _⟩ | ⟨g', cap', cur, e, hg, hh, hnc, hcm, hcs, ht⟩
  · cases e
  injection e with e1 e2 e3
  injection e1 with e4
  injection e4 with e5
  subst e5; subst e3
  have hlen : (lf.map finV).length = lf.length := List.length_map _
  have hcell : ∀ j (hj : j < lf.length), cur[j]? = some (finE lf[j]) := fun j hj => by
    have h1 : (cur.toList.take ((lf.map finV).length * 1))[j]? = some (finE lf[j]) := by
      rw [ht]
      unfold encs
      rw [List.getElem?_map, List.getElem?_map, List.getElem?_eq_getElem hj]; rfl
    rw [List.getElem?_take, if_pos (by omega)] at h1
    simpa using h1
  have hH : Holds (finE (n := n)) W g 0 lf.toArray := fun j hj => by
    have hj' : j < lf.length := by simpa using hj
    refine ⟨?_, blk_frozen hh _⟩
    rw [Nat.zero_add, blk_cell hh j, hcell j hj']
    congr 2
    simp [getElem!_pos, hj']
  have eg : ∀ args w, (callFunc 90 args).run Try.prog w = .ok (.enter 90 args) w := enters_of Try.func90 (by kernel_rfl) rfl
  have lp := World.block_lt_of_cell? W _ hp
  have ls := World.block_lt_of_cell? W _ hs
  have hP : PredAt Try.prog 90 #[.pointer (some ⟨gp, 0, none⟩), .pointer (some ⟨gs, 0, none⟩)] (finE (n := n)) (fun x => nextDel p s (finV x)) W := fun W1 x hb =>
    next_lit gp gs x A0 c0 p s W1 ((hb.cell (p := ⟨gp, 0, none⟩) lp).trans hp) ((hb.cell (p := ⟨gs, 0, none⟩) ls).trans hs) (Kd.C_below hr hb) (by have := x.2; omega)
  have hO : PredOver Try.prog 90 #[.pointer (some ⟨gp, 0, none⟩), .pointer (some ⟨gs, 0, none⟩)] (finE (n := n)) (fun x => nextDel p s (finV x)) g 0 lf.toArray.size W := fun m os dk x _ => by
    have hcl : ∀ a : Addr, a.block ≠ g → ∀ v, W.cell? a = some v → (sortWorld (finE (n := n)) W g 0 m dk os).cell? a = some v := fun a ha v hv => by
      have hlt := World.block_lt_of_cell? W _ hv
      unfold sortWorld
      rw [cell?_grow _ _ _ (by rw [size_putRow]; exact hlt), cell?_putRow_other _ _ _ _ _ _ (Or.inl ha)]
      exact hv
    refine next_lit gp gs x A0 c0 p s _ (hcl _ n1 _ hp) (hcl _ n2 _ hs) (next_C hr (fun a ha v hv => hcl a ?_ v hv)) (by have := x.2; omega)
    cases A0 with
    | none => cases ha
    | some ad =>
      have h3 : ad.block = a.block := Option.some.inj ha
      rw [← h3]; exact n3 ad rfl
  have hcon := AnyE.slices_DeleteFunc next_lay (finE (n := n)) (fun _ => rfl) (fun x => nextDel p s (finV x)) 90 #[.pointer (some ⟨gp, 0, none⟩), .pointer (some ⟨gs, 0, none⟩)] eg ⟨0, hn⟩ (fun w => by kernel_rfl) g 0 cap lf.toArray W hP hO hH (by simp; omega) (by simp; omega)
  have hsz : lf.toArray.size = (lf.map finV).length := by simp
  rw [hsz] at hcon
  refine Calls.mono hcon ?_
  rintro e w' ⟨rfl, q, rfl⟩
  have hf : (lf.map finV).filter (fun x => !nextDel p s x) = (lf.filter fun x => !nextDel p s (finV x)).map finV := by rw [List.filter_map]; rfl
  rw [hf]
  generalize hF : lf.filter (fun x => !nextDel p s (finV x)) = ff
  have hle : ff.length ≤ lf.length := by rw [← hF]; exact List.length_filter_le _ _
  generalize hD : (ff ++ List.replicate ((lf.map finV).length - ff.length) (⟨0, hn⟩ : Fin n)).toArray = D
  have hDs : ff.length ≤ D.size := by rw [← hD]; simp
  have hDg : ∀ j (hj : j < ff.length), D[j]! = ff[j] := fun j hj => by
    rw [getElem!_pos D j (by omega)]
    subst hD
    simp [List.getElem_append_left hj]
  have hhp : (putRow finE (Sort.ahead W q) g 0 D).heap[g]? = some (.cells (putCells finE 0 D cur) 3 (0, 0)) := by
    simp [putRow, mapBlock, Array.getElem?_modify, Sort.ahead, hh, onCells]
  have hown' : (putRow finE (Sort.ahead W q) g 0 D).ownsRow base 3 1 (.slice (some ⟨g, 0, none⟩) ff.length cap) (ff.map finV).length (encs (Value.int .i64) (ff.map finV)) := by
    refine ⟨by simp [encs], .inr ⟨g, cap, putCells finE 0 D cur, by rw [List.length_map], hg, hhp, by rw [List.length_map]; omega, hcm, by simp [putCells]; omega, ?_⟩⟩
    apply List.ext_getElem?
    intro j
    rw [List.getElem?_take]
    unfold encs
    rw [List.getElem?_map, List.getElem?_map, List.length_map, Nat.mul_one]
    by_cases hj : j < ff.length
    · rw [if_pos hj, List.getElem?_eq_getElem hj]
      have hjc : j < cur.size := by omega
      simp only [putCells, Array.getElem?_toList, Array.getElem?_mapIdx, Option.map_some]
      rw [Array.getElem?_eq_getElem hjc, Option.map_some, if_pos (by omega), Nat.sub_zero, hDg j hj]
      rfl
    · rw [if_neg hj, List.getElem?_eq_none (by omega)]; rfl
  refine ⟨_, rfl, Kd.R_of_own hown' (fun k hk => hok k hk), ?_⟩
  refine ⟨rfl, rfl, rfl, ?_, ?_⟩
  · simp [putRow, mapBlock, Sort.ahead]
  · intro k hk hne
    have hne' : g ≠ k := fun e => hne (by rw [e])
    simp [putRow, mapBlock, Array.getElem?_modify, Sort.ahead, hne']
theorem next_nil (A : Option Addr) (c : Nat) (fv : Value) (W : World) : Calls Try.prog 89 #[.slice A 0 c, fv] W fun e w' => e = .returned (.slice A 0 c) ∧ ∃ q, w' = W.drewN q := by
  have hi := Aside0.mk (AnyE.slices_IndexFunc_empty (P := Try.prog) (ρ := next_ren) { next_lay with } A c fv W)
  go_enter Try.func89, Try.ntmps89
  go_wp2_with (go_at_call 103; refine hi.out.mono ?_; rintro e w' ⟨rfl, rfl⟩)
  go_ret
  exact ⟨rfl, 0, rfl⟩
end
theorem next_any (gp gs : Nat) (v : Value) (l : List Int) (A0 : Option Addr) (c0 : Nat) (p : List Int) (s : Int) (W : World) (base : Nat)
    (hR : Kd.R (Kd.int .i64) 3 W base (fun _ => True) v l) (hin : (∀ x ∈ l, 0 ≤ x ∧ x < (p.length : Int)) ∧ (1 ≤ p.length ∧ l.length ≤ 1000)) (hp : W.cell? ⟨gp, 0, none⟩ = some (.slice A0 p.length c0)) (hs : W.cell? ⟨gs, 0, none⟩ = some (.int .i64 s)) (hr : Kd.C (Kd.int .i64) W A0 p.length p)
    (n1 : gp < base) (n2 : gs < base) (n3 : ∀ ad, A0 = some ad → ad.block < base) :
    Calls Try.prog 89 #[v, .func (.func 90) #[] #[.pointer (some ⟨gp, 0, none⟩), .pointer (some ⟨gs, 0, none⟩)]] W fun e w' =>
      ∃ v' : Value, e = .returned v' ∧ Kd.R (Kd.int .i64) 3 w' base (fun _ => True) v' (l.filter fun x => !nextDel p s x) ∧ W.grownBy w' v.ownBlock := by
  rcases (Kd.own_of_R hR).2 with ⟨rfl, h0⟩ | ⟨g, cap, cur, e, hg, hh, r⟩
  · obtain rfl : l = [] := List.length_eq_zero_iff.1 h0
    refine (next_nil none 0 _ W).mono ?_
    rintro e w' ⟨rfl, q, rfl⟩
    exact ⟨_, rfl, Kd.R_nil _ _ _ _ _, ⟨rfl, rfl, rfl, Nat.le_refl _, fun _ _ _ => rfl⟩⟩
  · subst e
    obtain ⟨lf, rfl⟩ := fin_list l hin.1
    refine (next_del (by omega) gp gs g cap lf A0 c0 p rfl s W base _ hR (by have := hin.2.2; rw [List.length_map] at this; exact this) hp hs hr (by omega) (by omega) (fun ad h => by have := n3 ad h; omega)).mono ?_
    rintro e w' ⟨v', rfl, hr', hgr⟩
    exact ⟨v', rfl, hr', hgr⟩
theorem next_held_call {w W w1 : World} {a b : Addr} {u v : Value} (h : W.cell? a = some u ∧ W.cell? b = some v ∧ Below w.heap.size w W) (hb : Below W.heap.size W w1) : w1.cell? a = some u ∧ w1.cell? b = some v ∧ Below w.heap.size w w1 :=
  ⟨(hb.cell (p := a) (World.block_lt_of_cell? _ _ h.1)).trans h.1, (hb.cell (p := b) (World.block_lt_of_cell? _ _ h.2.1)).trans h.2.1, below_step h.2.2 hb⟩
theorem next_held_lt {w W w1 : World} {a b : Addr} {u v : Value} (h : W.cell? a = some u ∧ W.cell? b = some v ∧ Below w.heap.size w W) (hb : Below W.heap.size W w1) : b.block < W.heap.size ∧ w.heap.size ≤ W.heap.size := ⟨World.block_lt_of_cell? _ _ h.2.1, h.2.2.size⟩
theorem next_held_row {W : World} {base b : Nat} {ok : Nat → Prop} {v : Value} {l : List Int} (h : Kd.R (Kd.int .i64) 3 W base ok v l) (hb : b < base) : ∀ k, v.ownBlock = some k → b < k := fun k hk => Nat.lt_of_lt_of_le hb ((Kd.R_bound h).1 k hk).2.1
theorem next_held_grown {w W w1 : World} {u v : Value} {row : Option Nat} (h : W.cell? ⟨w.heap.size, 0, none⟩ = some u ∧ W.cell? ⟨w.heap.size + 1, 0, none⟩ = some v ∧ Below w.heap.size w W) (hg : W.grownBy w1 row) (hr : ∀ k, row = some k → w.heap.size + 1 < k) : w1.cell? ⟨w.heap.size, 0, none⟩ = some u ∧ w1.cell? ⟨w.heap.size + 1, 0, none⟩ = some v ∧ Below w.heap.size w w1 := by
  have l1 : w.heap.size < W.heap.size := World.block_lt_of_cell? _ _ h.1
  have l2 : w.heap.size + 1 < W.heap.size := World.block_lt_of_cell? _ _ h.2.1
  refine ⟨(World.cell?_of_block (hg.block _ l1 (fun e => ?_))).trans h.1, (World.cell?_of_block (hg.block _ l2 (fun e => ?_))).trans h.2.1, h.2.2.trans ⟨hg.os, hg.tape, hg.output, hg.size, fun k hk => hg.block k (by omega) (fun e => ?_)⟩⟩
  · have := hr _ e.symm; change w.heap.size + 1 < w.heap.size at this; omega
  · have := hr _ e.symm; change w.heap.size + 1 < w.heap.size + 1 at this; omega
  · have := hr _ e.symm; omega
theorem next_held_drew {w W : World} {a b : Addr} {u v : Value} (h : W.cell? a = some u ∧ W.cell? b = some v ∧ Below w.heap.size w W) : W.drew.cell? a = some u ∧ W.drew.cell? b = some v ∧ Below w.heap.size w W.drew := ⟨h.1, h.2.1, below_drew h.2.2⟩
theorem next_held_start (w : World) (u v : Value) (t t' : TypeId) : ((w.alloc (.cells #[u] t)).alloc (.cells #[v] t')).cell? ⟨w.heap.size, 0, none⟩ = some u ∧ ((w.alloc (.cells #[u] t)).alloc (.cells #[v] t')).cell? ⟨w.heap.size + 1, 0, none⟩ = some v ∧ Below w.heap.size w ((w.alloc (.cells #[u] t)).alloc (.cells #[v] t')) := by
  refine ⟨?_, ?_, below_alloc (below_alloc (Below.refl _ _) _) _⟩
  · rw [World.cell?_alloc_past _ _ _ (by simp), World.cell?_alloc_at _ _ _ _ rfl]; rfl
  · rw [World.cell?_alloc_at _ _ _ _ (by simp)]; rfl
set_option maxHeartbeats 8000000 in
set_option maxRecDepth 100000 in
theorem impl_Poset_next.calls (k : Nat) (A0_0 : Option Addr) (c0_0 : Nat) (l0_0 : List Int) (a1 : Int) (r : List Int) (w : World) (hr0_0 : Kd.C (Kd.int .i64) w A0_0 l0_0.length l0_0) (hc0_0 : l0_0.length ≤ c0_0) (h : impl_Poset_next.f k l0_0 a1 = some r) :
    Calls Try.prog 79 #[.agg #[.slice A0_0 l0_0.length c0_0], .int .i64 a1] w fun e w' => ∃ v0_ : Value, e = .returned (v0_) ∧ Kd.R (Kd.int .i64) 3 w' w.heap.size (fun _ => True) v0_ r ∧ Below w.heap.size w w' := by
  unfold impl_Poset_next.f at h
  obtain ⟨t, hall, h⟩ := Option.bind_eq_some_iff.1 h
  obtain ⟨l, hit, h⟩ := Option.bind_eq_some_iff.1 h
  split at h
  rotate_left
  · cases h
  rename_i hin
  have HF := Aside0.mk (Option.some.inj h)
  have HALL := Aside0.mk hall
  have HIT := Aside0.mk hit
  have HIN := Aside0.mk hin
  have HR := Aside0.mk hr0_0
  have HC := Aside0.mk hc0_0
  have HL : Aside0 (∀ ad, A0_0 = some ad → ad.block < w.heap.size) := ⟨fun ad e => by
    obtain ⟨ad', e', hc⟩ := Kd.at_int hr0_0 0 (by omega) (by have := hin.2.1; omega)
    rw [e] at e'
    obtain rfl := Option.some.inj e'
    have := World.block_lt_of_cell? w _ hc
    unfold Addr.add at this
    split at this <;> exact this⟩
  have hmf : ∀ (fn : Fn) (first cap : Array Value) (w : World), (Instr.makeFunc fn first cap).run Try.prog w = .ok (.func fn first cap) w := fun _ _ _ _ => rfl
  clear h hall hit hin hr0_0 hc0_0
  go_enter Try.func79, Try.ntmps79
  go_wp2_with (fail)
  go_region_held3 (fun w' => w'.cell? ⟨w.heap.size, 0, none⟩ = some (.slice A0_0 l0_0.length c0_0) ∧ w'.cell? ⟨w.heap.size + 1, 0, none⟩ = some (.int .i64 a1) ∧ Below w.heap.size w w')
    (first | exact next_held_grown (by assumption) hgr hrow_.out | exact next_held_call (by assumption) hb1 | exact next_held_drew (by assumption) | exact next_held_start _ _ _ _ _ | exact next_held_drew (next_held_start _ _ _ _ _) | go_keep)
    (first | (go_at_call 51; (with_reducible refine (impl_Poset_all.calls _ _ l0_0 t _ (Kd.C_below HR.out (by go_split_ands; assumption)) HC.out HALL.out).mono ?_); rintro e w1 ⟨rfl, hb1⟩)
           | (go_at_call 53; (with_reducible refine (impl_items.calls k _ l _ HIT.out).mono ?_); rintro e w1 ⟨v, rfl, ho, hb1⟩; have hlt_ := Aside0.mk (next_held_lt (a := ⟨w.heap.size, 0, none⟩) (b := ⟨w.heap.size + 1, 0, none⟩) (w := w) (by assumption) hb1); have HO := Aside0.mk ho; clear ho)
           | (go_at_call 89; (with_reducible refine (next_any w.heap.size (w.heap.size + 1) v l A0_0 c0_0 l0_0 a1 _ ?_ ?r1 HIN.out ?p1 ?s1 ?c1 ?n1 ?n2 ?n3).mono ?_); (case r1 => (with_reducible repeat (first | apply Kd.R_drew | apply Kd.R_drewN)); exact HO.out); (case p1 => go_split_ands; assumption); (case s1 => go_split_ands; assumption); (case c1 => exact Kd.C_below HR.out (by go_split_ands; assumption)); (case n1 => have := hlt_.out.1; show w.heap.size < _; exact Nat.lt_of_succ_lt this); (case n2 => exact hlt_.out.1); (case n3 => intro ad e_; have := HL.out ad e_; have := hlt_.out.2; omega); rintro e w2 ⟨v2, rfl, ho2, hgr⟩; have hrow_ := Aside0.mk (next_held_row HO.out hlt_.out.1); have HO2 := Aside0.mk ho2; clear ho2))
  all_goals
    go_wp2
    go_ret
    have HO3 := HO2.out
    rw [HF.out] at HO3
    refine ⟨_, rfl, Kd.R_lower HO3 hlt_.out.2, by go_split_ands; assumption⟩
end Go.Proofs.Ytnihjpnheooeoaa.F
end

section
namespace Go.Proofs.Ytnihjpnheooeoaa.Q
open Go.RowKit Go.Proofs.YtnihjpnheooeoaaW.PrintWords Go.Proofs.Ytnihjpnheooeoaa.F
set_option linter.unusedVariables false
theorem nextDel_eq {p : List Int} (hp : PO p) {s e : Nat} (hs : s < 2 ^ p.length) (he : e < p.length) : nextDel p (s : Int) (e : Int) = !subB (L p e) s := by
  have hn := hp.small
  unfold nextDel subB
  rw [rdN, hp.val e he, bits_andNotN (lt_pow (L_lt hp he) (by omega)) (lt_pow hs (by omega))]
  rw [Bool.eq_iff_iff, bne_iff_ne, Bool.not_eq_true', beq_eq_false_iff_ne]
  constructor
  · intro h h2; exact h (by rw [h2]; rfl)
  · intro h h2; exact h (by exact_mod_cast h2)
theorem filter_ints (l : List Nat) (f : Int → Bool) (g : Nat → Bool) (h : ∀ e ∈ l, f (e : Int) = g e) : (ints l).filter f = ints (l.filter g) := by
  induction l with
  | nil => rfl
  | cons x l ih =>
    have h1 := h x List.mem_cons_self
    have h2 := ih (fun e he => h e (List.mem_cons_of_mem _ he))
    have e1 : ints (x :: l) = (x : Int) :: ints l := rfl
    rw [e1, List.filter_cons, List.filter_cons, h1, h2]
    split <;> rfl
theorem next_ev {p : List Int} (hp : PO p) {s : Nat} (hs : s < 2 ^ p.length) : Ev (fun k => impl_Poset_next.f k p (s : Int)) (ints (nextN p s)) := by
  have hn := hp.small
  have hal := allN_lt p
  unfold impl_Poset_next.f
  refine Ev.call (all_eq (by omega)) ?_
  rw [bits_andNotN (lt_pow hal (by omega)) (lt_pow hs (by omega))]
  have hit : ndiff (allN p) s < 2 ^ p.length := ndiff_lt hal
  refine Ev.bind (items_ev _ (lt_pow hit (by omega))) ?_
  have hlt : ∀ e ∈ itemsN (ndiff (allN p) s), e < p.length := fun e he => lt_of_bit hit (mem_itemsN.1 he).2
  refine Ev.yes ⟨fun x hx => ?_, hp.pos, ?_⟩ (Ev.ret ?_)
  · obtain ⟨e, he, rfl⟩ := List.mem_map.1 hx
    have := hlt e he
    show 0 ≤ ((e : Nat) : Int) ∧ ((e : Nat) : Int) < _
    omega
  · rw [ints_len]; have := itemsN_len (ndiff (allN p) s); omega
  · rw [nextN_items p hp s]
    refine filter_ints _ _ _ (fun e he => ?_)
    rw [nextDel_eq hp hs (hlt e he), Bool.not_not]
theorem nextN_get {p : List Int} {s i : Nat} (h : i < (nextN p s).length) : (nextN p s).getD i 0 ∈ nextN p s := by
  rw [List.getD_eq_getElem?_getD, List.getElem?_eq_getElem h]; exact List.getElem_mem h
end Go.Proofs.Ytnihjpnheooeoaa.Q
end

section
namespace Go.Proofs.Ytnihjpnheooeoaa.Q
open Go.RowKit Go.Proofs.YtnihjpnheooeoaaW.PrintWords Go.Proofs.Ytnihjpnheooeoaa.F
set_option linter.unusedVariables false
theorem idealB_zero (p : List Int) : idealB p 0 = true := by
  rw [idealB_iff]
  intro i _ h
  rw [Nat.zero_testBit] at h; cases h
theorem Wl_next {p : List Int} (hp : PO p) {s e : Nat} (hs : s < 2 ^ p.length) (hid : idealB p s = true) (he : e ∈ nextN p s) :
    s ||| 2 ^ e < 2 ^ p.length ∧ (Wl p 0).getD (s ||| 2 ^ e) 0 = ((ways p (s ||| 2 ^ e) : Nat) : Int) := by
  obtain ⟨_, h1, _, _⟩ := mem_nextN.1 he
  have h2 : s ||| 2 ^ e < 2 ^ p.length := or_lt hs (pow_lt_pow h1)
  refine ⟨h2, ?_⟩
  rw [Wl_get p 0 h2]
  unfold wayAt
  rw [if_pos (Nat.zero_le _), if_pos (idealB_add hp hid he)]
theorem Cl_at {p : List Int} {t : Nat} (h : t < 2 ^ p.length) : (Cl p 0).getD t 0 = ((ways p t : Nat) : Int) := by
  rw [Cl_get p 0 h]; unfold cntAt; rw [if_pos (Nat.zero_le _)]
/-- Ways are added up, in the machine's numbers. -/
def rkF (p : List Int) (s : Nat) (acc : Int) (l : List Nat) : Int := l.foldl (fun a e => wrap64 (a + ((ways p (s ||| 2 ^ e) : Nat) : Int))) acc
/-- What can come next among the elements from i on, below own. -/
def nextTo (p : List Int) (s own i : Nat) : List Nat := (List.range' i (own - i)).filter fun e => !s.testBit e && subB (L p e) s
theorem nextTo_step {p : List Int} {s own i : Nat} (h : i < own) : nextTo p s own i = if !s.testBit i && subB (L p i) s then i :: nextTo p s own (i + 1) else nextTo p s own (i + 1) := by
  unfold nextTo
  rw [show own - i = (own - (i + 1)) + 1 by omega, List.range'_succ, List.filter_cons]
theorem nextTo_end (p : List Int) (s own : Nat) : nextTo p s own own = [] := by unfold nextTo; simp
theorem nextTo_eq {p : List Int} (hn : p.length ≤ 10) {s own : Nat} (h : own ≤ p.length) : (nextN p s).filter (fun e => decide (e < own)) = nextTo p s own 0 := by
  rw [← nextFrom_zero hn]
  unfold nextFrom nextTo
  rw [Nat.sub_zero, Nat.sub_zero, ← List.range_eq_range', ← List.range_eq_range', List.filter_filter]
  have e0 : own + (p.length - own) = p.length := by omega
  have e : List.range p.length = List.range own ++ (List.range (p.length - own)).map (own + ·) := by rw [← List.range_add, e0]
  rw [e, List.filter_append]
  have e2 : ((List.range (p.length - own)).map (own + ·)).filter (fun e => decide (e < own) && (!s.testBit e && subB (L p e) s)) = [] := by
    rw [List.filter_eq_nil_iff]
    intro x hx
    obtain ⟨y, _, rfl⟩ := List.mem_map.1 hx
    rw [decide_eq_false (by omega)]; simp
  rw [e2, List.append_nil]
  apply List.filter_congr
  intro x hx
  rw [List.mem_range] at hx
  rw [decide_eq_true hx]; rfl
/-- The first of some elements at which so many orders are reached, and what is left of the number. -/
def pick (p : List Int) (s : Nat) : List Nat → Nat → Nat × Nat
  | [], r => (0, r)
  | e :: l, r => if r < ways p (s ||| 2 ^ e) then (e, r) else pick p s l (r - ways p (s ||| 2 ^ e))
theorem pick_ok {p : List Int} {s : Nat} : ∀ (l : List Nat) (r : Nat), r < sumL (l.map fun e => ways p (s ||| 2 ^ e)) → (pick p s l r).1 ∈ l ∧ (pick p s l r).2 < ways p (s ||| 2 ^ (pick p s l r).1) := by
  intro l
  induction l with
  | nil => intro r h; simp [sumL] at h
  | cons e l ih =>
    intro r h
    simp only [List.map_cons, sumL] at h
    unfold pick
    split
    · rename_i h1; exact ⟨List.mem_cons_self, h1⟩
    · obtain ⟨h1, h2⟩ := ih (r - ways p (s ||| 2 ^ e)) (by omega)
      exact ⟨List.mem_cons_of_mem _ h1, h2⟩
/-- The order with a rank, from a set on. -/
def linW (p : List Int) : Nat → Nat → Nat → List Nat
  | 0, _, _ => []
  | d + 1, s, r => (pick p s (nextN p s) r).1 :: linW p d (s ||| 2 ^ (pick p s (nextN p s) r).1) (pick p s (nextN p s) r).2
theorem linW_len (p : List Int) : ∀ d s r, (linW p d s r).length = d := by
  intro d
  induction d with
  | zero => intro s r; rfl
  | succ d ih => intro s r; simp only [linW, List.length_cons, ih]
end Go.Proofs.Ytnihjpnheooeoaa.Q
end

section
namespace Go.Proofs.Ytnihjpnheooeoaa.Q
open Go.RowKit Go.Proofs.YtnihjpnheooeoaaW.PrintWords Go.Proofs.Ytnihjpnheooeoaa.F
set_option linter.unusedVariables false
theorem with_spec_in {p : List Int} (hp : PO p) {s : Nat} (hs : s < 2 ^ p.length) (acc R : List Int) (ha : acc.length ≤ 10) : ∀ i, i ≤ p.length → ∀ r : Nat, r < sumL ((nextFrom p s i).map fun e => ways p (s ||| 2 ^ e)) →
    Ev (fun k => spec_liWith.l0 k (Cl p 0) (((pick p s (nextFrom p s i) r).2 : Nat) : Int) (acc ++ [(((pick p s (nextFrom p s i) r).1 : Nat) : Int)]) ((s ||| 2 ^ (pick p s (nextFrom p s i) r).1 : Nat) : Int) p) R →
    Ev (fun k => spec_liWith.l1 k (Cl p 0) (r : Int) acc (s : Int) p (p.length : Int) (i : Int) p) R := by
  have hn := hp.small
  refine downTo _ ?_ ?_
  · intro r hr _
    rw [nextFrom_end] at hr
    simp [sumL] at hr
  · intro i hi ih r hr h
    rw [nextFrom_step hi] at hr h
    refine Ev.step (by intro k; simp only [spec_liWith.l1]; rfl) (Ev.yes (by omega) (Ev.yes (by omega) (Ev.yes (by omega) (Ev.call (poIn_eq (by omega)) ?_))))
    have skip : Ev (fun k => spec_liWith.l1 k (Cl p 0) (r : Int) acc (s : Int) p (p.length : Int) ((i + 1 : Nat) : Int) p) R → Ev (fun k => spec_liWith.j2 k (Cl p 0) (r : Int) acc (s : Int) (i : Int) p (p.length : Int) (i : Int) true p) R := fun g => by
      refine Ev.step (by intro k; simp only [spec_liWith.j2]; rfl) (Ev.yes (show true = true from rfl) ?_)
      rw [wid1 (i := i) (n := p.length) hi (by omega)]; exact g
    cases hb : s.testBit i with
    | true =>
      rw [hb] at hr h
      exact Ev.yes rfl (skip (ih r (by simpa using hr) (by simpa using h)))
    | false =>
      rw [hb] at hr h
      refine Ev.no (by simp) ?_
      rw [rdN, hp.val i hi, bits_andNotN (lt_pow (L_lt hp hi) (by omega)) (lt_pow hs (by omega))]
      cases hc : subB (L p i) s with
      | false =>
        rw [hc] at hr h
        have e : ((((ndiff (L p i) s : Nat) : Int) != 0)) = true := by
          rw [bne_iff_ne]
          intro h5
          have h4 : ndiff (L p i) s = 0 := by exact_mod_cast h5
          unfold subB at hc; rw [h4] at hc; simp at hc
        rw [e]
        exact skip (ih r (by simpa using hr) (by simpa using h))
      | true =>
        rw [hc] at hr h
        have h4 : ndiff (L p i) s = 0 := by unfold subB at hc; exact beq_iff_eq.1 hc
        have e : ((((ndiff (L p i) s : Nat) : Int) != 0)) = false := by rw [h4]; rfl
        rw [e]
        have hsi : s ||| 2 ^ i < 2 ^ p.length := or_lt hs (pow_lt_pow hi)
        have hw := ways_le hn (s ||| 2 ^ i)
        refine Ev.step (by intro k; simp only [spec_liWith.j2]; rfl) (Ev.no (by simp) (Ev.yes (by omega) ?_))
        rw [shlN (by omega), bits_orN (lt_pow hs (by omega)) (Nat.pow_lt_pow_right (by decide) (by omega))]
        refine Ev.yes (by omega) (Ev.yes (by rw [Cl_len]; omega) ?_)
        rw [rdN, Cl_at hsi]
        simp only [Bool.not_false, Bool.true_and, if_true, List.map_cons, sumL, pick] at hr h
        by_cases hlt : r < ways p (s ||| 2 ^ i)
        · rw [if_pos hlt] at h
          exact Ev.yes (by omega) (Ev.yes (by omega) h)
        · rw [if_neg hlt] at h
          refine Ev.no (by omega) ?_
          rw [wid1 (i := i) (n := p.length) hi (by omega)]
          have hr2 : r ≤ r := Nat.le_refl _
          have hsum : r - ways p (s ||| 2 ^ i) < sumL ((nextFrom p s (i + 1)).map fun e => ways p (s ||| 2 ^ e)) := by omega
          have ew : wrap64 ((r : Int) - ((ways p (s ||| 2 ^ i) : Nat) : Int)) = ((r - ways p (s ||| 2 ^ i) : Nat) : Int) := by
            have hb2 : sumL ((nextFrom p s (i + 1)).map fun e => ways p (s ||| 2 ^ e)) ≤ 10 * 10000000000 := sumL_le _ _ _ (fun x hx => by obtain ⟨e, _, rfl⟩ := List.mem_map.1 hx; exact ways_le hn _) (by
              rw [List.length_map]; unfold nextFrom
              exact Nat.le_trans (List.length_filter_le _ _) (by rw [List.length_range']; omega))
            rw [wid (by omega) (by omega)]; omega
          rw [ew]
          exact ih _ hsum h
theorem liWith_run {p : List Int} (hp : PO p) : ∀ (d s r : Nat) (acc : List Int), s < 2 ^ p.length → pcard p.length s = acc.length → acc.length + d = p.length → r < ways p s →
    Ev (fun k => spec_liWith.l0 k (Cl p 0) (r : Int) acc (s : Int) p) (acc ++ ints (linW p d s r)) := by
  have hn := hp.small
  intro d
  induction d with
  | zero =>
    intro s r acc hs hc hd hr
    refine Ev.step (by intro k; simp only [spec_liWith.l0]; rfl) (Ev.no (by omega) (Ev.ret ?_))
    simp [linW, ints]
  | succ d ih =>
    intro s r acc hs hc hd hr
    have hall : s ≠ allN p := by
      intro e
      rw [e, pcard_all] at hc; omega
    have hst := ways_step hs hall
    rw [← nextFrom_zero hn] at hst
    have hr' : r < sumL ((nextFrom p s 0).map fun e => ways p (s ||| 2 ^ e)) := by omega
    obtain ⟨h1, h2⟩ := pick_ok _ r hr'
    have h1' : (pick p s (nextFrom p s 0) r).1 ∈ nextN p s := by rw [← nextFrom_zero hn]; exact h1
    obtain ⟨_, m1, m2, m3⟩ := mem_nextN.1 h1'
    refine Ev.step (by intro k; simp only [spec_liWith.l0]; rfl) (Ev.yes (by omega) ?_)
    refine with_spec_in hp hs acc _ (by omega) 0 (Nat.zero_le _) r hr' ?_
    have := ih (s ||| 2 ^ (pick p s (nextFrom p s 0) r).1) (pick p s (nextFrom p s 0) r).2 (acc ++ [(((pick p s (nextFrom p s 0) r).1 : Nat) : Int)]) (or_lt hs (pow_lt_pow m1)) (by rw [pcard_add m1 m2, hc, List.length_append, List.length_singleton]) (by rw [List.length_append, List.length_singleton]; omega) h2
    refine evc this ?_
    rw [List.append_assoc, nextFrom_zero hn]
    rfl
theorem liWith_ev {p : List Int} (hp : PO p) {r : Nat} (hr : r < ways p 0) : Ev (fun k => spec_liWith.f k p (Cl p 0) (r : Int)) (ints (linW p p.length 0 r)) := by
  unfold spec_liWith.f
  have := liWith_run hp p.length 0 r [] (Nat.two_pow_pos _) (by rw [pcard_zero]; rfl) (by simp) hr
  rw [List.nil_append] at this
  exact this
end Go.Proofs.Ytnihjpnheooeoaa.Q
end

section
namespace Go.Proofs.Ytnihjpnheooeoaa.F
open Go.RowKit Go.Proofs.YtnihjpnheooeoaaW.PrintWords Go.Proofs.YtnihjpnheooeoaaW.PrintLast Go.Proofs.YtnihjpnheooeoaaW.PrintMore
set_option linter.unusedVariables false
set_option linter.unusedSimpArgs false
/-- The four captured variables: the poset, the list of orders, the order under way, the function itself. -/
structure FewA where
  gp : Nat
  go : Nat
  gw : Nat
  gf : Nat
  A0 : Option Addr
  c0 : Nat
  p : List Int
  w : World
def FewA.caps (S : FewA) : Array Value := #[.pointer (some ⟨S.gp, 0, none⟩), .pointer (some ⟨S.go, 0, none⟩), .pointer (some ⟨S.gw, 0, none⟩), .pointer (some ⟨S.gf, 0, none⟩)]
structure FewA.Ok (S : FewA) : Prop where
  C : Kd.C (Kd.int .i64) S.w S.A0 S.p.length S.p
  le : S.p.length ≤ S.c0
  bp : S.w.heap.size ≤ S.gp
  bo : S.w.heap.size ≤ S.go
  bw : S.w.heap.size ≤ S.gw
  bf : S.w.heap.size ≤ S.gf
  po : S.gp ≠ S.go
  pw : S.gp ≠ S.gw
  pf : S.gp ≠ S.gf
  ow : S.go ≠ S.gw
  of_ : S.go ≠ S.gf
  wf : S.gw ≠ S.gf
def FewA.ok (S : FewA) (av : Nat → Prop) (k : Nat) : Prop := k ≠ S.gp ∧ k ≠ S.go ∧ k ≠ S.gw ∧ k ≠ S.gf ∧ ¬ av k
/-- What holds between the calls. -/
structure FewI (S : FewA) (av : Nat → Prop) (vo vw : Value) (o : List (List Int)) (wl : List Int) (W : World) : Prop where
  below : Below S.w.heap.size S.w W
  cp : W.heap[S.gp]? = some (.cells #[.slice S.A0 S.p.length S.c0] 34 (0, 0))
  co : W.heap[S.go]? = some (.cells #[vo] 46 (0, 0))
  cw : W.heap[S.gw]? = some (.cells #[vw] 25 (0, 0))
  cf : W.heap[S.gf]? = some (.cells #[.func (.func 78) #[] S.caps] 84 (0, 0))
  HO : Kd.S (Kd.slice 3 (Kd.int .i64)) 25 W S.w.heap.size (fun k => S.ok av k ∧ some k ≠ vw.ownBlock) vo o
  HW : Kd.R (Kd.int .i64) 3 W S.w.heap.size (S.ok av) vw wl
  avlt : ∀ k, av k → k < W.heap.size
  nav : ¬ av S.gp ∧ ¬ av S.go ∧ ¬ av S.gw ∧ ¬ av S.gf
theorem FewI.step {S : FewA} {av : Nat → Prop} {vo vw : Value} {o : List (List Int)} {wl : List Int} {W W1 : World} (h : FewI S av vo vw o wl W) (hb : Below W.heap.size W W1) : FewI S av vo vw o wl W1 :=
  ⟨below_step h.below hb, blk_below h.cp hb, blk_below h.co hb, blk_below h.cw hb, blk_below h.cf hb, Kd.S_below h.HO hb, Kd.R_below h.HW hb, fun k hk => Nat.lt_of_lt_of_le (h.avlt k hk) hb.size, h.nav⟩
theorem FewI.far {S : FewA} (hS : S.Ok) {av : Nat → Prop} {vo vw : Value} {o : List (List Int)} {wl : List Int} {W : World} (h : FewI S av vo vw o wl W) {k : Nat} (hk : W.heap.size ≤ k) : S.ok av k :=
  ⟨by have := blk_lt h.cp; omega, by have := blk_lt h.co; omega, by have := blk_lt h.cw; omega, by have := blk_lt h.cf; omega, fun ha => by have := h.avlt k ha; omega⟩
def FewKeep (av : Nat → Prop) (W W' : World) : Prop := W.heap.size ≤ W'.heap.size ∧ ∀ k, av k → W'.heap[k]? = W.heap[k]?
theorem FewKeep.refl (av : Nat → Prop) (W : World) : FewKeep av W W := ⟨Nat.le_refl _, fun _ _ => rfl⟩
theorem FewKeep.trans {av : Nat → Prop} {W1 W2 W3 : World} (h : FewKeep av W1 W2) (h' : FewKeep av W2 W3) : FewKeep av W1 W3 := ⟨Nat.le_trans h.1 h'.1, fun k hk => (h'.2 k hk).trans (h.2 k hk)⟩
theorem FewKeep.of_below {av : Nat → Prop} {W W1 : World} (hlt : ∀ k, av k → k < W.heap.size) (hb : Below W.heap.size W W1) : FewKeep av W W1 := ⟨hb.size, fun k hk => hb.block k (hlt k hk)⟩
theorem few_size (w : World) (a : Addr) (v : Value) : (w.setCell a v).heap.size = w.heap.size := by
  rcases a with ⟨b, o, sp⟩
  simp [World.setCell]
/-- A new list of orders is stored. -/
theorem FewI.put_out {S : FewA} (hS : S.Ok) {av : Nat → Prop} {vo vw v1 : Value} {o o' : List (List Int)} {wl : List Int} {W w1 : World} (h : FewI S av vo vw o wl W)
    (hs : Kd.S (Kd.slice 3 (Kd.int .i64)) 25 w1 S.w.heap.size (fun k => S.ok av k ∧ some k ≠ vw.ownBlock) v1 o') (hb : Below S.w.heap.size S.w w1) (hg : W.grownBy w1 vo.ownBlock) :
    FewI S av v1 vw o' wl (w1.setCell ⟨S.go, 0, none⟩ v1) ∧ FewKeep av W (w1.setCell ⟨S.go, 0, none⟩ v1) := by
  have hvo : ∀ k, vo.ownBlock = some k → S.ok av k ∧ some k ≠ vw.ownBlock := (Kd.S_R h.HO).1
  have hne : ∀ k, ¬ S.ok av k → some k ≠ vo.ownBlock := fun k hk e => hk (hvo k e.symm).1
  have hgo : S.w.heap.size ≤ S.go := hS.bo
  have g1 := blk_grown h.cp hg (hne _ (fun h => h.1 rfl))
  have g2 := blk_grown h.co hg (hne _ (fun h => h.2.1 rfl))
  have g3 := blk_grown h.cw hg (hne _ (fun h => h.2.2.1 rfl))
  have g4 := blk_grown h.cf hg (hne _ (fun h => h.2.2.2.1 rfl))
  have hs' := Kd.S_far hs (p := ⟨S.go, 0, none⟩) (fun k hk => hk.1.2.1) v1
  have hw0 := Kd.R_step (Kd.R_tight2 rfl h.HW) (w1 := w1) (fun k ho hk => hg.block k hk (fun e => (hvo k e.symm).2 ho.1))
  have hw' := Kd.R_far (Kd.R_mono (ok' := S.ok av) hw0 (fun k hk => hk.2)) (p := ⟨S.go, 0, none⟩) (fun k hk => hk.2.1) v1
  refine ⟨⟨below_set hb hgo, ?_, one_setCell g2, ?_, ?_, hs', hw', fun k hk => ?_, h.nav⟩, ?_, fun k hk => ?_⟩
  · exact (Below.heap_setCell _ _ _ _ hS.po).trans g1
  · exact (Below.heap_setCell _ _ _ _ (Ne.symm hS.ow)).trans g3
  · exact (Below.heap_setCell _ _ _ _ (Ne.symm hS.of_)).trans g4
  · rw [few_size]; exact Nat.lt_of_lt_of_le (h.avlt k hk) hg.size
  · rw [few_size]; exact hg.size
  · have hkg : k ≠ S.go := fun e => h.nav.2.1 (e ▸ hk)
    exact (Below.heap_setCell _ _ _ _ hkg).trans (hg.block k (h.avlt k hk) (hne k (fun h => h.2.2.2.2 hk)))
theorem FewI.go_kept {S : FewA} {av : Nat → Prop} {vo vw : Value} {o : List (List Int)} {wl : List Int} {W w1 : World} (h : FewI S av vo vw o wl W) (hg : W.grownBy w1 vo.ownBlock) : w1.heap[S.go]? = some (.cells #[vo] 46 (0, 0)) :=
  blk_grown h.co hg (fun e => ((Kd.S_R h.HO).1 _ e.symm).1.2.1 rfl)
theorem FewI.vw_lt {S : FewA} {av : Nat → Prop} {vo vw : Value} {o : List (List Int)} {wl : List Int} {W : World} (h : FewI S av vo vw o wl W) {k : Nat} (hk : W.heap.size ≤ k) : some k ≠ vw.ownBlock := fun e => by
  have := Kd.R_lt h.HW k e.symm; omega
theorem few_new {S : FewA} (hS : S.Ok) {av : Nat → Prop} {vo vw v2 : Value} {o : List (List Int)} {wl l2 : List Int} {W W2 : World} (h : FewI S av vo vw o wl W) (hr : Kd.R (Kd.int .i64) 3 W2 W.heap.size (fun _ => True) v2 l2) :
    ∀ k, some k = v2.ownBlock → (S.ok av k ∧ some k ≠ vw.ownBlock) ∧ some k ≠ vo.ownBlock := fun k hk => by
  have hb := Kd.R_base hr k hk.symm
  refine ⟨⟨h.far hS hb, h.vw_lt hb⟩, fun e => ?_⟩
  have := Kd.S_lt h.HO k e.symm; omega
theorem few_old {S : FewA} {av : Nat → Prop} {vo vw v2 : Value} {o : List (List Int)} {wl l2 : List Int} {W W2 : World} (h : FewI S av vo vw o wl W) (hb : Below W.heap.size W W2) (hr : Kd.R (Kd.int .i64) 3 W2 W.heap.size (fun _ => True) v2 l2) :
    Kd.S (Kd.slice 3 (Kd.int .i64)) 25 W2 S.w.heap.size (fun k => (S.ok av k ∧ some k ≠ vw.ownBlock) ∧ ¬ some k = v2.ownBlock) vo o := by
  refine Kd.S_below (Kd.S_mono (Kd.S_bound h.HO) (fun k hk => ⟨hk.1, fun e => ?_⟩)) hb
  have h1 := Kd.R_base hr k e.symm
  have h2 := hk.2.2.1
  omega
/-- A new order under way is stored. -/
theorem FewI.put_w {S : FewA} (hS : S.Ok) {av : Nat → Prop} {vo vw v1 : Value} {o : List (List Int)} {wl wl' : List Int} {W w1 : World} (h : FewI S av vo vw o wl W)
    (hr : Kd.R (Kd.int .i64) 3 w1 S.w.heap.size (S.ok av) v1 wl') (hb : Below S.w.heap.size S.w w1) (hg : W.grownBy w1 vw.ownBlock) (hat : v1.ownBlock = vw.ownBlock ∨ ∃ b, v1.ownBlock = some b ∧ W.heap.size ≤ b) :
    FewI S av vo v1 o wl' (w1.setCell ⟨S.gw, 0, none⟩ v1) ∧ FewKeep av W (w1.setCell ⟨S.gw, 0, none⟩ v1) := by
  have hvw : ∀ k, vw.ownBlock = some k → S.ok av k := h.HW.1
  have hne : ∀ k, ¬ S.ok av k → some k ≠ vw.ownBlock := fun k hk e => hk (hvw k e.symm)
  have hgw : S.w.heap.size ≤ S.gw := hS.bw
  have g1 := blk_grown h.cp hg (hne _ (fun h => h.1 rfl))
  have g2 := blk_grown h.co hg (hne _ (fun h => h.2.1 rfl))
  have g3 := blk_grown h.cw hg (hne _ (fun h => h.2.2.1 rfl))
  have g4 := blk_grown h.cf hg (hne _ (fun h => h.2.2.2.1 rfl))
  have hs' := Kd.S_far (Kd.S_after h.HO hg hat) (p := ⟨S.gw, 0, none⟩) (fun k hk => hk.1.2.2.1) v1
  have hw' := Kd.R_far hr (p := ⟨S.gw, 0, none⟩) (fun k hk => hk.2.2.1) v1
  refine ⟨⟨below_set hb hgw, ?_, ?_, one_setCell g3, ?_, hs', hw', fun k hk => ?_, h.nav⟩, ?_, fun k hk => ?_⟩
  · exact (Below.heap_setCell _ _ _ _ hS.pw).trans g1
  · exact (Below.heap_setCell _ _ _ _ hS.ow).trans g2
  · exact (Below.heap_setCell _ _ _ _ (Ne.symm hS.wf)).trans g4
  · rw [few_size]; exact Nat.lt_of_lt_of_le (h.avlt k hk) hg.size
  · rw [few_size]; exact hg.size
  · have hkg : k ≠ S.gw := fun e => h.nav.2.2.1 (e ▸ hk)
    exact (Below.heap_setCell _ _ _ _ hkg).trans (hg.block k (h.avlt k hk) (hne k (fun h => h.2.2.2.2 hk)))
theorem FewI.gw_kept {S : FewA} {av : Nat → Prop} {vo vw : Value} {o : List (List Int)} {wl : List Int} {W w1 : World} (h : FewI S av vo vw o wl W) (hg : W.grownBy w1 vw.ownBlock) : w1.heap[S.gw]? = some (.cells #[vw] 25 (0, 0)) :=
  blk_grown h.cw hg (fun e => (h.HW.1 _ e.symm).2.2.1 rfl)
theorem FewI.gf_kept {S : FewA} {av : Nat → Prop} {vo vw : Value} {o : List (List Int)} {wl : List Int} {W w1 : World} (h : FewI S av vo vw o wl W) (hg : W.grownBy w1 vw.ownBlock) : w1.heap[S.gf]? = some (.cells #[.func (.func 78) #[] S.caps] 84 (0, 0)) :=
  blk_grown h.cf hg (fun e => (h.HW.1 _ e.symm).2.2.2.1 rfl)
def fewAv (av : Nat → Prop) (v : Value) (k : Nat) : Prop := av k ∨ some k = v.ownBlock
/-- A fresh row is to be left alone too. -/
theorem FewI.with_row {S : FewA} {av : Nat → Prop} {vo vw vl : Value} {o : List (List Int)} {wl l : List Int} {W W2 : World} (h : FewI S av vo vw o wl W) (hb : Below W.heap.size W W2) (hr : Kd.R (Kd.int .i64) 3 W2 W.heap.size (fun _ => True) vl l) : FewI S (fewAv av vl) vo vw o wl W2 := by
  have h2 := h.step hb
  have hv : ∀ k, some k = vl.ownBlock → W.heap.size ≤ k := fun k e => Kd.R_base hr k e.symm
  refine ⟨h2.below, h2.cp, h2.co, h2.cw, h2.cf, ?_, ?_, ?_, ?_⟩
  · refine Kd.S_below (Kd.S_mono (Kd.S_bound h.HO) (fun k hk => ⟨⟨hk.1.1.1, hk.1.1.2.1, hk.1.1.2.2.1, hk.1.1.2.2.2.1, fun hx => ?_⟩, hk.1.2⟩)) hb
    rcases hx with hx | hx
    · exact hk.1.1.2.2.2.2 hx
    · have := hv k hx; have := hk.2.2.1; omega
  · refine Kd.R_below (Kd.R_mono (Kd.R_bound h.HW) (fun k hk => ⟨hk.1.1, hk.1.2.1, hk.1.2.2.1, hk.1.2.2.2.1, fun hx => ?_⟩)) hb
    rcases hx with hx | hx
    · exact hk.1.2.2.2.2 hx
    · have := hv k hx; have := hk.2.2.1; omega
  · intro k hk
    rcases hk with hk | hk
    · exact h2.avlt k hk
    · exact Kd.R_lt hr k hk.symm
  · have l1 := blk_lt h.cp
    have l2 := blk_lt h.co
    have l3 := blk_lt h.cw
    have l4 := blk_lt h.cf
    refine ⟨?_, ?_, ?_, ?_⟩ <;> rintro (hx | hx)
    · exact h.nav.1 hx
    · have := hv _ hx; omega
    · exact h.nav.2.1 hx
    · have := hv _ hx; omega
    · exact h.nav.2.2.1 hx
    · have := hv _ hx; omega
    · exact h.nav.2.2.2 hx
    · have := hv _ hx; omega
/-- .. and forgotten. -/
theorem FewI.forget {S : FewA} {av : Nat → Prop} {vo vw vl : Value} {o : List (List Int)} {wl : List Int} {W : World} (h : FewI S (fewAv av vl) vo vw o wl W) : FewI S av vo vw o wl W :=
  ⟨h.below, h.cp, h.co, h.cw, h.cf, Kd.S_mono h.HO (fun k hk => ⟨⟨hk.1.1, hk.1.2.1, hk.1.2.2.1, hk.1.2.2.2.1, fun hx => hk.1.2.2.2.2 (.inl hx)⟩, hk.2⟩), Kd.R_mono h.HW (fun k hk => ⟨hk.1, hk.2.1, hk.2.2.1, hk.2.2.2.1, fun hx => hk.2.2.2.2 (.inl hx)⟩), fun k hk => h.avlt k (.inl hk), fun hx => h.nav.1 (.inl hx), fun hx => h.nav.2.1 (.inl hx), fun hx => h.nav.2.2.1 (.inl hx), fun hx => h.nav.2.2.2 (.inl hx)⟩
theorem FewKeep.forget {av : Nat → Prop} {vl : Value} {W W1 : World} (h : FewKeep (fewAv av vl) W W1) : FewKeep av W W1 := ⟨h.1, fun k hk => h.2 k (.inl hk)⟩
theorem few_cell {av : Nat → Prop} {l : List Int} {W W1 : World} {b g c : Nat} (hr : Kd.R (Kd.int .i64) 3 W b (fun _ => True) (.slice (some ⟨g, 0, none⟩) l.length c) l) (hk : FewKeep (fewAv av (.slice (some ⟨g, 0, none⟩) l.length c)) W W1) (i : Nat) (hi : i < l.length) :
    W1.cell? ⟨g, i, none⟩ = some (.int .i64 (rd l (i : Int))) := by
  have h1 := Kd.R_move (Kd.R_tight rfl hr) (w1 := W1) (fun k hk' => hk.2 k (.inr hk'))
  have h2 := (Kd.R_cell (0 : Int) h1 (i : Int) (by omega) (by omega)).1
  rwa [Int.toNat_natCast] at h2
theorem few_rd {l : List Int} {i : Nat} {e : Int} {m : List Int} (h : l.drop i = e :: m) : i < l.length ∧ rd l (i : Int) = e ∧ l.drop (i + 1) = m := by
  have hi : i < l.length := by
    rcases Nat.lt_or_ge i l.length with h' | h'
    · exact h'
    · rw [List.drop_eq_nil_of_le h'] at h; cases h
  rw [List.drop_eq_getElem_cons hi] at h
  injection h with h1 h2
  refine ⟨hi, ?_, h2⟩
  unfold rd
  rw [Int.toNat_natCast, ← h1]
  simp [hi]
def few_row (g : Int → List Int → Option (List (List Int))) (s : Int) (w : List Int) : List Int → Option (List (List Int))
  | [] => some []
  | e :: l => if 0 ≤ e ∧ w.length ≤ 1000 then (g (Go.bits .or .i64 s (shl .i64 1 e)) (w ++ [e])).bind fun o => (few_row g s w l).bind fun o' => some (o ++ o') else none
def few_put (F : Nat) (p : List Int) : Nat → Int → List Int → Option (List (List Int))
  | 0, _, _ => none
  | d + 1, s, w => (impl_Poset_all.f p).bind fun t => if s = t then (if w.length ≤ 1000 then some [w] else none) else (impl_Poset_next.f F p s).bind fun l => if l.length ≤ 1000 then few_row (few_put F p d) s w l else none
theorem few_shl (e : Int) : shl .i64 1 e = IntKind.i64.wrap (2 ^ min e.toNat 64) := by
  unfold shl
  rw [Int.one_mul]
  rfl
theorem few_w64 (n : Nat) (h : n ≤ 1001) : wrap64 (n : Int) = (n : Int) := by
  unfold wrap64
  omega
theorem few_empty {X : World} {base n e sz : Nat} (hn : base ≤ n) (hx : X.heap[n]? = some (.cells #[] e (0, 0))) : X.ownsRow base e sz (.slice (some ⟨n, 0, none⟩) 0 0) 0 [] :=
  ⟨by simp, .inr ⟨n, 0, #[], rfl, hn, hx, by omega, by omega, by simp, by simp⟩⟩
theorem few_emptyR {α : Type} (d : Kd α) {X : World} {base n e : Nat} {ok : Nat → Prop} (hn : base ≤ n) (hx : X.heap[n]? = some (.cells #[] e (0, 0))) (hok : ok n) : d.R e X base ok (.slice (some ⟨n, 0, none⟩) 0 0) ([] : List α) :=
  ⟨fun k hk => by
    have : n = k := by simpa [Value.ownBlock] using hk
    exact this ▸ hok, [], few_empty hn hx, Reps.none _ _⟩
/-- The world in which the function is made. -/
def fewWorld (w2 : World) (c : Array Value) : World :=
  ((((w2.alloc (.cells #[] 25)).alloc (.cells #[] 3)).alloc (.cells #[.slice (some ⟨w2.heap.size, 0, none⟩) 0 0] 46)).alloc (.cells #[.slice (some ⟨w2.heap.size + 1, 0, none⟩) 0 0] 25)).alloc (.cells #[.func (.func 78) #[] c] 84)
theorem few_start {w w2 : World} {A : Option Addr} {c : Nat} {p : List Int} (hC : Kd.C (Kd.int .i64) w A p.length p) (hle : p.length ≤ c) (hb : Below w.heap.size w w2) (hp : w2.heap[w.heap.size]? = some (.cells #[.slice A p.length c] 34 (0, 0))) :
    ∃ S : FewA, S.Ok ∧ S.p = p ∧ S.w = w ∧ S.gp = w.heap.size ∧ S.go = w2.heap.size + 1 + 1 ∧ S.gw = w2.heap.size + 1 + 1 + 1 ∧ S.gf = w2.heap.size + 1 + 1 + 1 + 1 ∧
      FewI S (fun _ => False) (.slice (some ⟨w2.heap.size, 0, none⟩) 0 0) (.slice (some ⟨w2.heap.size + 1, 0, none⟩) 0 0) [] [] (fewWorld w2 S.caps) := by
  have hlt := blk_lt hp
  have hsz := hb.size
  refine ⟨⟨w.heap.size, w2.heap.size + 1 + 1, w2.heap.size + 1 + 1 + 1, w2.heap.size + 1 + 1 + 1 + 1, A, c, p, w⟩, ⟨hC, hle, Nat.le_refl _, by simp; omega, by simp; omega, by simp; omega, by simp; omega, by simp; omega, by simp; omega, by simp, by simp, by simp⟩, rfl, rfl, rfl, rfl, rfl, rfl, ?_⟩
  unfold FewA.caps fewWorld
  have k1 : ∀ a : Obj, (w2.alloc a).heap[w2.heap.size]? = some a := fun a => blk_new w2 a
  have k2 : ∀ a b : Obj, ((w2.alloc a).alloc b).heap[w2.heap.size + 1]? = some b := fun a b => by simpa using blk_new (w2.alloc a) b
  have k3 : ∀ a b c : Obj, (((w2.alloc a).alloc b).alloc c).heap[w2.heap.size + 1 + 1]? = some c := fun a b c => by simpa using blk_new ((w2.alloc a).alloc b) c
  have k4 : ∀ a b c d : Obj, ((((w2.alloc a).alloc b).alloc c).alloc d).heap[w2.heap.size + 1 + 1 + 1]? = some d := fun a b c d => by simpa using blk_new (((w2.alloc a).alloc b).alloc c) d
  have k5 : ∀ a b c d e : Obj, (((((w2.alloc a).alloc b).alloc c).alloc d).alloc e).heap[w2.heap.size + 1 + 1 + 1 + 1]? = some e := fun a b c d e => by simpa using blk_new ((((w2.alloc a).alloc b).alloc c).alloc d) e
  refine ⟨?_, ?_, ?_, ?_, ?_, ?_, ?_, fun k hk => hk.elim, ⟨id, id, id, id⟩⟩
  · exact below_alloc (below_alloc (below_alloc (below_alloc (below_alloc hb _) _) _) _) _
  · exact (blk_alloc (blk_alloc (blk_alloc (blk_alloc (blk_alloc hp _) _) _) _) _)
  · exact (blk_alloc (blk_alloc (k3 _ _ _) _) _)
  · exact (blk_alloc (k4 _ _ _ _) _)
  · exact k5 _ _ _ _ _
  · refine ⟨fun _ => 0, few_emptyR _ hsz ((blk_alloc (blk_alloc (blk_alloc (blk_alloc (k1 _) _) _) _) _)) ⟨⟨?_, ?_, ?_, ?_, id⟩, ?_⟩⟩
    · show w2.heap.size ≠ w.heap.size; omega
    · show w2.heap.size ≠ w2.heap.size + 1 + 1; omega
    · show w2.heap.size ≠ w2.heap.size + 1 + 1 + 1; omega
    · show w2.heap.size ≠ w2.heap.size + 1 + 1 + 1 + 1; omega
    · intro e
      simp [Value.ownBlock] at e
  · refine few_emptyR _ (Nat.le_succ_of_le hsz) ((blk_alloc (blk_alloc (blk_alloc (k2 _ _) _) _) _)) ⟨?_, ?_, ?_, ?_, id⟩
    · show w2.heap.size + 1 ≠ w.heap.size; omega
    · show w2.heap.size + 1 ≠ w2.heap.size + 1 + 1; omega
    · show w2.heap.size + 1 ≠ w2.heap.size + 1 + 1 + 1; omega
    · show w2.heap.size + 1 ≠ w2.heap.size + 1 + 1 + 1 + 1; omega
set_option maxHeartbeats 8000000 in
set_option maxRecDepth 100000 in
theorem few_all {S : FewA} (hS : S.Ok) {av : Nat → Prop} {vo vw : Value} {o : List (List Int)} {wl : List Int} {W : World} (h : FewI S av vo vw o wl W) (s : Int) (hal : impl_Poset_all.f S.p = some s) (hlen : wl.length ≤ 1000) (hol : (o.length + 1) * 24 ≤ 140737488355328) :
    Calls Try.prog 78 #[.int .i64 s, .pointer (some ⟨S.gp, 0, none⟩), .pointer (some ⟨S.go, 0, none⟩), .pointer (some ⟨S.gw, 0, none⟩), .pointer (some ⟨S.gf, 0, none⟩)] W fun e W' => e = .returned (.tuple #[]) ∧ ∃ vo', FewI S av vo' vw (o ++ [wl]) wl W' ∧ FewKeep av W W' := by
  have hu28 := Try.underlying34
  obtain ⟨Aw, cw, rfl, hlw, hCw⟩ := Kd.R_reads h.HW
  have hcp : W.cell? ⟨S.gp, 0, none⟩ = some (.slice S.A0 S.p.length S.c0) := (blk_cell h.cp 0).trans rfl
  have HALL := Aside0.mk (impl_Poset_all.calls S.A0 S.c0 S.p s W (Kd.C_below hS.C h.below) hS.le hal)
  have hco := blk_cell h.co 0
  have hcw := blk_cell h.cw 0
  have hfo := blk_frozen h.co 0
  have HI := Aside0.mk h
  have HLW := Aside0.mk hlw
  have HCW := Aside0.mk hCw
  have HL := Aside0.mk hlen
  have HOL := Aside0.mk hol
  clear h hlw hCw hlen hol hal
  go_enter Try.func78, Try.ntmps78
  go_wp2_with (go_at_call 51; (with_reducible refine HALL.out.mono ?_); rintro e W1 ⟨rfl, hb1⟩; have HI1 := Aside0.mk (HI.out.step hb1); have hco1 : W1.cell? ⟨S.go, 0, none⟩ = some vo := (blk_cell HI1.out.co 0).trans rfl; have hcw1 : W1.cell? ⟨S.gw, 0, none⟩ = some (.slice Aw wl.length cw) := (blk_cell HI1.out.cw 0).trans rfl;  have HCW1 := Aside0.mk (Kd.C_below HCW.out hb1); have HB1 := Aside0.mk hb1; clear hb1)
  refine wp_region_any (by kernel_rfl) ?_
  change wpAny _ _ _ _ _ _ _ (World.drew _)
  refine wpAny_ready (rs := [0, 1]) (by kernel_rfl) (by simp) ?_
  refine AllReady.cons rfl (fun K hK => ?_) ?_
  · -- 0
    go_simp
    refine hK _ _ ?_
    clear hK K
    refine wpAny_ready (rs := [1]) (by kernel_rfl) (by simp) ?_
    refine AllReady.cons rfl (fun K hK => ?_) ?_
    · -- 1
      go_simp
      refine hK _ _ ?_
      clear hK K
      refine wpAny_ready (rs := [2]) (by kernel_rfl) (by simp) ?_
      refine AllReady.cons rfl (fun K hK => ?_) ?_
      · -- 2
        go_simp
        go_at_call 64
        (with_reducible refine (slices_Clone_int_int.calls Aw cw wl wl _ (by (with_reducible repeat (first | apply Kd.C_drewN | apply Kd.C_drew)); exact HCW1.out) HLW.out (by unfold slices_Clone_int_int.f; rw [if_pos (by have := HL.out; omega)])).mono ?_)
        rintro e W2 ⟨v2, rfl, hr2, hb2⟩
        obtain ⟨A2, c2, rfl⟩ := Kd.R_slice hr2
        have HB2 : Aside0 (Below W1.heap.size W1 W2) := ⟨(below_drew (Below.refl W1.heap.size W1)).trans hb2⟩
        have HR2 : Aside0 (Kd.R (Kd.int .i64) 3 W2 W1.heap.size (fun _ => True) (.slice A2 wl.length c2) wl) := ⟨hr2⟩
        clear hr2 hb2
        have HI2 := Aside0.mk (HI1.out.step HB2.out)
        have hco2 : W2.cell? ⟨S.go, 0, none⟩ = some vo := (blk_cell HI2.out.co 0).trans rfl
        show K _ _
        refine hK _ _ ?_
        clear hK K
        refine wpAny_ready (rs := [3]) (by kernel_rfl) (by simp) ?_
        refine AllReady.cons rfl (fun K hK => ?_) ?_
        · -- 3
          go_simp
          have hco3 : (W2.alloc (.cells #[.slice A2 wl.length c2] 25)).cell? ⟨S.go, 0, none⟩ = some vo := (blk_cell (blk_alloc HI2.out.co _) 0).trans rfl
          refine hK _ _ ?_
          clear hK K
          refine wpAny_ready (rs := [4]) (by kernel_rfl) (by simp) ?_
          refine AllReady.cons rfl (fun K hK => ?_) ?_
          · -- 4
            refine Kd.S_append_step (Kd.slice 3 (Kd.int .i64)) (w0 := S.w) (W := W2) S.w.heap.size (by rfl) (.tmp 12) (.tmp 15) 46 25 (.slice none 0 0) 24 rfl Try.underlying46 info25 rfl (by decide) (by omega) vo o wl [.slice A2 wl.length c2] (fun k => S.ok av k ∧ some k ≠ (Value.slice Aw wl.length cw).ownBlock) (fun k => some k = (Value.slice A2 wl.length c2).ownBlock) rfl rfl ?_ (few_new hS HI1.out HR2.out) (fun k hk => ⟨HI2.out.far hS hk, HI2.out.vw_lt hk⟩) (few_old HI1.out HB2.out HR2.out) HI2.out.below HI2.out.below.size HOL.out ?_
            · exact Kd.M_row (Kd.R_tight rfl (Kd.R_lower HR2.out HI1.out.below.size))
            intro v1 w1 hs1 hb1_ hg1 hat1
            obtain ⟨A1, n1, c1, rfl⟩ : ∃ A n c, v1 = .slice A n c := by obtain ⟨A, c, e⟩ := Kd.S_slice hs1; exact ⟨A, _, c, e⟩
            have HP := Aside0.mk (HI2.out.put_out hS hs1 hb1_ hg1)
            have hco4 : w1.cell? ⟨S.go, 0, none⟩ = some vo := (blk_cell (HI2.out.go_kept hg1) 0).trans rfl
            have hfo4 := blk_frozen (HI2.out.go_kept hg1) 0
            clear hs1 hb1_ hg1 hat1
            show K (Act.put _ (some 16) _) w1
            refine hK _ _ ?_
            clear hK K
            refine wpAny_ready (rs := [5]) (by kernel_rfl) (by simp) ?_
            refine AllReady.cons rfl (fun K hK => ?_) ?_
            · -- 5
              go_simp
              refine hK _ _ ?_
              clear hK K
              refine wpAny_done (by kernel_rfl) ?_ _
              go_wp2
              exact bodyPost_ret (v := .tuple #[]) (by simp [results, Try.results78, go_sem]) rfl ⟨rfl, _, HP.out.1, (FewKeep.of_below HI.out.avlt HB1.out).trans ((FewKeep.of_below HI1.out.avlt HB2.out).trans HP.out.2)⟩
            exact AllReady.nil
          exact AllReady.nil
        exact AllReady.nil
      exact AllReady.nil
    exact AllReady.nil
  refine AllReady.cons rfl (fun K hK => ?_) ?_
  · -- 1
    go_simp
    refine hK _ _ ?_
    clear hK K
    refine wpAny_ready (rs := [0, 2]) (by kernel_rfl) (by simp) ?_
    refine AllReady.cons rfl (fun K hK => ?_) ?_
    · -- 0
      go_simp
      refine hK _ _ ?_
      clear hK K
      refine wpAny_ready (rs := [2]) (by kernel_rfl) (by simp) ?_
      refine AllReady.cons rfl (fun K hK => ?_) ?_
      · -- 2
        go_simp
        go_at_call 64
        (with_reducible refine (slices_Clone_int_int.calls Aw cw wl wl _ (by (with_reducible repeat (first | apply Kd.C_drewN | apply Kd.C_drew)); exact HCW1.out) HLW.out (by unfold slices_Clone_int_int.f; rw [if_pos (by have := HL.out; omega)])).mono ?_)
        rintro e W2 ⟨v2, rfl, hr2, hb2⟩
        obtain ⟨A2, c2, rfl⟩ := Kd.R_slice hr2
        have HB2 : Aside0 (Below W1.heap.size W1 W2) := ⟨(below_drew (Below.refl W1.heap.size W1)).trans hb2⟩
        have HR2 : Aside0 (Kd.R (Kd.int .i64) 3 W2 W1.heap.size (fun _ => True) (.slice A2 wl.length c2) wl) := ⟨hr2⟩
        clear hr2 hb2
        have HI2 := Aside0.mk (HI1.out.step HB2.out)
        have hco2 : W2.cell? ⟨S.go, 0, none⟩ = some vo := (blk_cell HI2.out.co 0).trans rfl
        show K _ _
        refine hK _ _ ?_
        clear hK K
        refine wpAny_ready (rs := [3]) (by kernel_rfl) (by simp) ?_
        refine AllReady.cons rfl (fun K hK => ?_) ?_
        · -- 3
          go_simp
          have hco3 : (W2.alloc (.cells #[.slice A2 wl.length c2] 25)).cell? ⟨S.go, 0, none⟩ = some vo := (blk_cell (blk_alloc HI2.out.co _) 0).trans rfl
          refine hK _ _ ?_
          clear hK K
          refine wpAny_ready (rs := [4]) (by kernel_rfl) (by simp) ?_
          refine AllReady.cons rfl (fun K hK => ?_) ?_
          · -- 4
            refine Kd.S_append_step (Kd.slice 3 (Kd.int .i64)) (w0 := S.w) (W := W2) S.w.heap.size (by rfl) (.tmp 12) (.tmp 15) 46 25 (.slice none 0 0) 24 rfl Try.underlying46 info25 rfl (by decide) (by omega) vo o wl [.slice A2 wl.length c2] (fun k => S.ok av k ∧ some k ≠ (Value.slice Aw wl.length cw).ownBlock) (fun k => some k = (Value.slice A2 wl.length c2).ownBlock) rfl rfl ?_ (few_new hS HI1.out HR2.out) (fun k hk => ⟨HI2.out.far hS hk, HI2.out.vw_lt hk⟩) (few_old HI1.out HB2.out HR2.out) HI2.out.below HI2.out.below.size HOL.out ?_
            · exact Kd.M_row (Kd.R_tight rfl (Kd.R_lower HR2.out HI1.out.below.size))
            intro v1 w1 hs1 hb1_ hg1 hat1
            obtain ⟨A1, n1, c1, rfl⟩ : ∃ A n c, v1 = .slice A n c := by obtain ⟨A, c, e⟩ := Kd.S_slice hs1; exact ⟨A, _, c, e⟩
            have HP := Aside0.mk (HI2.out.put_out hS hs1 hb1_ hg1)
            have hco4 : w1.cell? ⟨S.go, 0, none⟩ = some vo := (blk_cell (HI2.out.go_kept hg1) 0).trans rfl
            have hfo4 := blk_frozen (HI2.out.go_kept hg1) 0
            clear hs1 hb1_ hg1 hat1
            show K (Act.put _ (some 16) _) w1
            refine hK _ _ ?_
            clear hK K
            refine wpAny_ready (rs := [5]) (by kernel_rfl) (by simp) ?_
            refine AllReady.cons rfl (fun K hK => ?_) ?_
            · -- 5
              go_simp
              refine hK _ _ ?_
              clear hK K
              refine wpAny_done (by kernel_rfl) ?_ _
              go_wp2
              exact bodyPost_ret (v := .tuple #[]) (by simp [results, Try.results78, go_sem]) rfl ⟨rfl, _, HP.out.1, (FewKeep.of_below HI.out.avlt HB1.out).trans ((FewKeep.of_below HI1.out.avlt HB2.out).trans HP.out.2)⟩
            exact AllReady.nil
          exact AllReady.nil
        exact AllReady.nil
      exact AllReady.nil
    refine AllReady.cons rfl (fun K hK => ?_) ?_
    · -- 2
      go_simp
      go_at_call 64
      (with_reducible refine (slices_Clone_int_int.calls Aw cw wl wl _ (by (with_reducible repeat (first | apply Kd.C_drewN | apply Kd.C_drew)); exact HCW1.out) HLW.out (by unfold slices_Clone_int_int.f; rw [if_pos (by have := HL.out; omega)])).mono ?_)
      rintro e W2 ⟨v2, rfl, hr2, hb2⟩
      obtain ⟨A2, c2, rfl⟩ := Kd.R_slice hr2
      have HB2 : Aside0 (Below W1.heap.size W1 W2) := ⟨(below_drew (Below.refl W1.heap.size W1)).trans hb2⟩
      have HR2 : Aside0 (Kd.R (Kd.int .i64) 3 W2 W1.heap.size (fun _ => True) (.slice A2 wl.length c2) wl) := ⟨hr2⟩
      clear hr2 hb2
      have HI2 := Aside0.mk (HI1.out.step HB2.out)
      have hco2 : W2.cell? ⟨S.go, 0, none⟩ = some vo := (blk_cell HI2.out.co 0).trans rfl
      show K _ _
      refine hK _ _ ?_
      clear hK K
      refine wpAny_ready (rs := [0, 3]) (by kernel_rfl) (by simp) ?_
      refine AllReady.cons rfl (fun K hK => ?_) ?_
      · -- 0
        go_simp
        refine hK _ _ ?_
        clear hK K
        refine wpAny_ready (rs := [3]) (by kernel_rfl) (by simp) ?_
        refine AllReady.cons rfl (fun K hK => ?_) ?_
        · -- 3
          go_simp
          have hco3 : (W2.alloc (.cells #[.slice A2 wl.length c2] 25)).cell? ⟨S.go, 0, none⟩ = some vo := (blk_cell (blk_alloc HI2.out.co _) 0).trans rfl
          refine hK _ _ ?_
          clear hK K
          refine wpAny_ready (rs := [4]) (by kernel_rfl) (by simp) ?_
          refine AllReady.cons rfl (fun K hK => ?_) ?_
          · -- 4
            refine Kd.S_append_step (Kd.slice 3 (Kd.int .i64)) (w0 := S.w) (W := W2) S.w.heap.size (by rfl) (.tmp 12) (.tmp 15) 46 25 (.slice none 0 0) 24 rfl Try.underlying46 info25 rfl (by decide) (by omega) vo o wl [.slice A2 wl.length c2] (fun k => S.ok av k ∧ some k ≠ (Value.slice Aw wl.length cw).ownBlock) (fun k => some k = (Value.slice A2 wl.length c2).ownBlock) rfl rfl ?_ (few_new hS HI1.out HR2.out) (fun k hk => ⟨HI2.out.far hS hk, HI2.out.vw_lt hk⟩) (few_old HI1.out HB2.out HR2.out) HI2.out.below HI2.out.below.size HOL.out ?_
            · exact Kd.M_row (Kd.R_tight rfl (Kd.R_lower HR2.out HI1.out.below.size))
            intro v1 w1 hs1 hb1_ hg1 hat1
            obtain ⟨A1, n1, c1, rfl⟩ : ∃ A n c, v1 = .slice A n c := by obtain ⟨A, c, e⟩ := Kd.S_slice hs1; exact ⟨A, _, c, e⟩
            have HP := Aside0.mk (HI2.out.put_out hS hs1 hb1_ hg1)
            have hco4 : w1.cell? ⟨S.go, 0, none⟩ = some vo := (blk_cell (HI2.out.go_kept hg1) 0).trans rfl
            have hfo4 := blk_frozen (HI2.out.go_kept hg1) 0
            clear hs1 hb1_ hg1 hat1
            show K (Act.put _ (some 16) _) w1
            refine hK _ _ ?_
            clear hK K
            refine wpAny_ready (rs := [5]) (by kernel_rfl) (by simp) ?_
            refine AllReady.cons rfl (fun K hK => ?_) ?_
            · -- 5
              go_simp
              refine hK _ _ ?_
              clear hK K
              refine wpAny_done (by kernel_rfl) ?_ _
              go_wp2
              exact bodyPost_ret (v := .tuple #[]) (by simp [results, Try.results78, go_sem]) rfl ⟨rfl, _, HP.out.1, (FewKeep.of_below HI.out.avlt HB1.out).trans ((FewKeep.of_below HI1.out.avlt HB2.out).trans HP.out.2)⟩
            exact AllReady.nil
          exact AllReady.nil
        exact AllReady.nil
      refine AllReady.cons rfl (fun K hK => ?_) ?_
      · -- 3
        go_simp
        have hco3 : (W2.alloc (.cells #[.slice A2 wl.length c2] 25)).cell? ⟨S.go, 0, none⟩ = some vo := (blk_cell (blk_alloc HI2.out.co _) 0).trans rfl
        refine hK _ _ ?_
        clear hK K
        refine wpAny_ready (rs := [0]) (by kernel_rfl) (by simp) ?_
        refine AllReady.cons rfl (fun K hK => ?_) ?_
        · -- 0
          go_simp
          refine hK _ _ ?_
          clear hK K
          refine wpAny_ready (rs := [4]) (by kernel_rfl) (by simp) ?_
          refine AllReady.cons rfl (fun K hK => ?_) ?_
          · -- 4
            refine Kd.S_append_step (Kd.slice 3 (Kd.int .i64)) (w0 := S.w) (W := W2) S.w.heap.size (by rfl) (.tmp 12) (.tmp 15) 46 25 (.slice none 0 0) 24 rfl Try.underlying46 info25 rfl (by decide) (by omega) vo o wl [.slice A2 wl.length c2] (fun k => S.ok av k ∧ some k ≠ (Value.slice Aw wl.length cw).ownBlock) (fun k => some k = (Value.slice A2 wl.length c2).ownBlock) rfl rfl ?_ (few_new hS HI1.out HR2.out) (fun k hk => ⟨HI2.out.far hS hk, HI2.out.vw_lt hk⟩) (few_old HI1.out HB2.out HR2.out) HI2.out.below HI2.out.below.size HOL.out ?_
            · exact Kd.M_row (Kd.R_tight rfl (Kd.R_lower HR2.out HI1.out.below.size))
            intro v1 w1 hs1 hb1_ hg1 hat1
            obtain ⟨A1, n1, c1, rfl⟩ : ∃ A n c, v1 = .slice A n c := by obtain ⟨A, c, e⟩ := Kd.S_slice hs1; exact ⟨A, _, c, e⟩
            have HP := Aside0.mk (HI2.out.put_out hS hs1 hb1_ hg1)
            have hco4 : w1.cell? ⟨S.go, 0, none⟩ = some vo := (blk_cell (HI2.out.go_kept hg1) 0).trans rfl
            have hfo4 := blk_frozen (HI2.out.go_kept hg1) 0
            clear hs1 hb1_ hg1 hat1
            show K (Act.put _ (some 16) _) w1
            refine hK _ _ ?_
            clear hK K
            refine wpAny_ready (rs := [5]) (by kernel_rfl) (by simp) ?_
            refine AllReady.cons rfl (fun K hK => ?_) ?_
            · -- 5
              go_simp
              refine hK _ _ ?_
              clear hK K
              refine wpAny_done (by kernel_rfl) ?_ _
              go_wp2
              exact bodyPost_ret (v := .tuple #[]) (by simp [results, Try.results78, go_sem]) rfl ⟨rfl, _, HP.out.1, (FewKeep.of_below HI.out.avlt HB1.out).trans ((FewKeep.of_below HI1.out.avlt HB2.out).trans HP.out.2)⟩
            exact AllReady.nil
          exact AllReady.nil
        exact AllReady.nil
      exact AllReady.nil
    exact AllReady.nil
  exact AllReady.nil
set_option maxHeartbeats 8000000 in
set_option maxRecDepth 100000 in
theorem few_step {S : FewA} (hS : S.Ok) (F d : Nat) (t s : Int) (l wl : List Int) (out : List (List Int)) (hal : impl_Poset_all.f S.p = some t) (hst : ¬ s = t) (hnx : impl_Poset_next.f F S.p s = some l) (hl : l.length ≤ 1000) (hrow : few_row (few_put F S.p d) s wl l = some out)
    (ih : ∀ (s : Int) (wl : List Int) (out : List (List Int)), few_put F S.p d s wl = some out → ∀ {av : Nat → Prop} {vo vw : Value} {o : List (List Int)} {W : World}, FewI S av vo vw o wl W → (o.length + out.length) * 24 ≤ 140737488355328 →
      Calls Try.prog 78 #[.int .i64 s, .pointer (some ⟨S.gp, 0, none⟩), .pointer (some ⟨S.go, 0, none⟩), .pointer (some ⟨S.gw, 0, none⟩), .pointer (some ⟨S.gf, 0, none⟩)] W fun e W' => e = .returned (.tuple #[]) ∧ ∃ vo' vw', FewI S av vo' vw' (o ++ out) wl W' ∧ FewKeep av W W')
    {av : Nat → Prop} {vo vw : Value} {o : List (List Int)} {W : World} (h : FewI S av vo vw o wl W) (hol : (o.length + out.length) * 24 ≤ 140737488355328) :
    Calls Try.prog 78 #[.int .i64 s, .pointer (some ⟨S.gp, 0, none⟩), .pointer (some ⟨S.go, 0, none⟩), .pointer (some ⟨S.gw, 0, none⟩), .pointer (some ⟨S.gf, 0, none⟩)] W fun e W' => e = .returned (.tuple #[]) ∧ ∃ vo' vw', FewI S av vo' vw' (o ++ out) wl W' ∧ FewKeep av W W' := by
  have hu28 := Try.underlying34
  have hcp : W.cell? ⟨S.gp, 0, none⟩ = some (.slice S.A0 S.p.length S.c0) := (blk_cell h.cp 0).trans rfl
  have hst' : (s == t) = false := beq_eq_false_iff_ne.mpr hst
  have HALL := Aside0.mk (impl_Poset_all.calls S.A0 S.c0 S.p t W (Kd.C_below hS.C h.below) hS.le hal)
  have HI := Aside0.mk h
  have HOL := Aside0.mk hol
  have HNX := Aside0.mk hnx
  have HROW := Aside0.mk hrow
  have HL := Aside0.mk hl
  have IH := Aside0.mk @ih
  clear h hol hal hnx hrow hl ih hst
  go_enter Try.func78, Try.ntmps78
  go_wp2_with (first
    | (go_at_call 51; (with_reducible refine HALL.out.mono ?_); rintro e W1 ⟨rfl, hb1⟩; have HI1 := Aside0.mk (HI.out.step hb1); have hcp1 : W1.cell? ⟨S.gp, 0, none⟩ = some (.slice S.A0 S.p.length S.c0) := (blk_cell HI1.out.cp 0).trans rfl; have HB1 := Aside0.mk hb1; clear hb1)
    | (go_at_call 79; (with_reducible refine (impl_Poset_next.calls F S.A0 S.c0 S.p s l _ (Kd.C_below hS.C HI1.out.below) hS.le HNX.out).mono ?_); rintro e W2 ⟨vl, rfl, hr2, hb2⟩; obtain ⟨Al, cl, rfl⟩ := Kd.R_slice hr2; have HI2 := Aside0.mk (HI1.out.with_row hb2 hr2); have HB2 := Aside0.mk hb2; have HR2 := Aside0.mk hr2; clear hb2 hr2))
  go_loopg [21] (l.length + 1) (fun kq v21 w' => ∃ (i : Nat) (vo' vw' : Value) (o' rest : List (List Int)), v21 = .int .i64 (i : Int) ∧ Aside0 (kq + i = l.length + 1 ∧ i ≤ l.length) ∧ Aside0 (few_row (few_put F S.p d) s wl (l.drop i) = some rest) ∧ Aside0 (o' ++ rest = o ++ out) ∧ Aside0 (FewI S (fewAv av (.slice Al l.length cl)) vo' vw' o' wl w') ∧ Aside0 (FewKeep (fewAv av (.slice Al l.length cl)) W2 w'))
  case atStart => exact ⟨0, vo, vw, o, out, rfl, ⟨rfl, Nat.zero_le _⟩, HROW, ⟨rfl⟩, HI2, ⟨FewKeep.refl _ _⟩⟩
  case round =>
    obtain ⟨i, vo', vw', o', rest, rfl, HK, HRO, HEQ, HI3, HKP⟩ := hrel
    cases gk with
    | zero => exact absurd HK.out (by omega)
    | succ k1 =>
      obtain ⟨Aw, cw, rfl⟩ := Kd.R_slice HI3.out.HW
      have hcw' : wr.cell? ⟨S.gw, 0, none⟩ = some (.slice Aw wl.length cw) := (blk_cell HI3.out.cw 0).trans rfl
      have hfw' := blk_frozen HI3.out.cw 0
      by_cases hi : i < l.length
      · obtain ⟨e, hd⟩ : ∃ e, l.drop i = e :: l.drop (i + 1) := ⟨_, List.drop_eq_getElem_cons hi⟩
        obtain ⟨g, cap, ev, hgb, hgl, _⟩ := Kd.R_form HR2.out (by omega)
        injection ev with e1 e2 e3
        subst e1; subst e3
        clear e2
        have hcell : wr.cell? ⟨g, i, none⟩ = some (.int .i64 e) := by
          have := few_cell HR2.out HKP.out i hi
          rwa [(few_rd hd).2.1] at this
        have HRO' := HRO.out
        rw [hd] at HRO'
        unfold few_row at HRO'
        split at HRO'
        rotate_left
        · cases HRO'
        rename_i hew
        obtain ⟨o1, hA, HRO'⟩ := Option.bind_eq_some_iff.1 HRO'
        obtain ⟨o2, hB, HRO'⟩ := Option.bind_eq_some_iff.1 HRO'
        rw [few_shl] at hA
        have HSZ : Aside0 ((o'.length + o1.length) * 24 ≤ 140737488355328) := ⟨by have h1 := congrArg List.length HEQ.out; have h2 := congrArg List.length (Option.some.inj HRO'); have h3 := HOL.out; simp only [List.length_append] at h1 h2; omega⟩
        have HA := Aside0.mk hA
        have HB := Aside0.mk hB
        have HRE := Aside0.mk (Option.some.inj HRO')
        have HEW := Aside0.mk hew.2
        have he0 : (0 : Int) ≤ e := hew.1
        clear hA hB HRO' hew HRO hd
        have c1 : (0 : Int) ≤ (i : Int) := by omega
        have c2 : (i : Int) < (l.length : Int) := by omega
        have c3 : decide ((i : Int) < (l.length : Int)) = true := decide_eq_true c2
        have c5 : decide (i < l.length) = true := decide_eq_true hi
        have c4 := eq_true hi
        clear hi
        go_wp2_with ((with_reducible refine gate_builtin (b := .append) (xs := #[.tmp 25, .tmp 27]) rfl ?_); at_builtin; refine Kd.R_append (Kd.int .i64) (w0 := S.w) S.w.heap.size rfl (.tmp 25) (.tmp 27) 25 3 (.int .i64 0) 8 rfl Try.underlying25 info3 rfl (by decide) (by omega) (.slice Aw wl.length cw) wl e [.int .i64 e] (S.ok (fewAv av (.slice (some ⟨g, 0, none⟩) l.length cl))) (fun _ => False) rfl rfl ?aP (fun _ hk => hk.elim) ?aF ?aO ?aB ?aS ?aL ?_; (case aP => exact rfl); (case aB => exact HI3.out.below); (case aF => exact fun k hk => HI3.out.far hS hk); (case aO => exact HI3.out.HW); (case aS => exact HI3.out.below.size); (case aL => have := HEW.out; omega); intro v1 w1 hr1 hb1 hg1 hat1; obtain ⟨A1, n1, k1_, rfl⟩ : ∃ A n c, v1 = .slice A n c := (by obtain ⟨A, c, e⟩ := Kd.R_slice hr1; exact ⟨A, _, c, e⟩); have HP := Aside0.mk (HI3.out.put_w hS hr1 hb1 hg1 hat1); have hcw1 : w1.cell? ⟨S.gw, 0, none⟩ = some (.slice Aw wl.length cw) := (blk_cell (HI3.out.gw_kept hg1) 0).trans rfl; have hfw1 := blk_frozen (HI3.out.gw_kept hg1) 0; clear hr1 hb1 hg1 hat1)
        obtain ⟨W4, hW4⟩ : ∃ x, x = w1.setCell ⟨S.gw, 0, none⟩ (.slice A1 n1 k1_) := ⟨_, rfl⟩
        rw [← hW4]
        have HP4 := HP.out
        rw [← hW4] at HP4
        have HP5 := Aside0.mk HP4
        clear HP4 HP hW4 hcw1 hfw1 hcell hcw' hfw'
        have hcf4 : W4.cell? ⟨S.gf, 0, none⟩ = some (.func (.func 78) #[] S.caps) := (blk_cell HP5.out.1.cf 0).trans rfl
        unfold FewA.caps at hcf4
        go_region_with (go_at_call 78; (with_reducible refine (IH.out _ _ _ HA.out (HP5.out.1.step (below_drew (Below.refl _ _))) HSZ.out).mono ?_); rintro e' W5 ⟨rfl, vo2, vw2, hI5, hk5⟩; obtain ⟨A5, c5, rfl⟩ := Kd.R_slice hI5.HW; have hcw5 : W5.cell? ⟨S.gw, 0, none⟩ = some (.slice A5 (wl ++ [e]).length c5) := (blk_cell hI5.cw 0).trans rfl; have hfw5 := blk_frozen hI5.cw 0; have hlc5 := (Kd.R_reads' hI5.HW).2.1; have HI5 := Aside0.mk hI5; have HK5 := Aside0.mk hk5; clear hI5 hk5)
        rw [List.length_append, List.length_singleton] at hcw5 hlc5
        have hw5 : wrap64 (wl.length : Int) = (wl.length : Int) := few_w64 _ (Nat.le_succ_of_le HEW.out)
        have hwi : wrap64 ((i : Int) + 1) = ((i + 1 : Nat) : Int) := few_w64 (i + 1) (by have := HL.out; omega)
        have c6 : (0 : Int) ≤ (wl.length : Int) := by omega
        have c7 : (wl.length : Int) ≤ (c5 : Int) := by omega
        have c8 : (wl.length ≤ c5) = True := eq_true (by omega)
        go_wp2_with (fail)
        have HW5 := Aside0.mk (HI5.out.put_w hS (w1 := W5) (v1 := .slice A5 wl.length c5) (wl' := wl) (by have := Kd.R_take HI5.out.HW (m := wl.length) (by simp); simpa using this) HI5.out.below (World.grownBy.refl _ _) (.inl (by first | rfl | (cases A5 <;> rfl))))
        go_roundg k1
        case measure => omega
        case rel => exact ⟨i + 1, vo2, .slice A5 wl.length c5, o' ++ o1, o2, by rw [hwi], ⟨by have := HK.out; omega⟩, HB, ⟨by rw [List.append_assoc, HRE.out]; exact HEQ.out⟩, ⟨HW5.out.1⟩, ⟨HKP.out.trans (HP5.out.2.trans (FewKeep.trans (W2 := W5) HK5.out HW5.out.2))⟩⟩
      · have c3 : decide ((i : Int) < (l.length : Int)) = false := decide_eq_false (by omega)
        go_wp2_with (fail)
        have hil : i = l.length := by have := HK.out; omega
        have HRO' := HRO.out
        rw [hil, List.drop_length] at HRO'
        unfold few_row at HRO'
        have hre := Option.some.inj HRO'
        have hoo := HEQ.out
        rw [← hre, List.append_nil] at hoo
        exact bodyPost_end (v := .tuple #[]) (by simp [results, Try.results78, go_sem]) rfl ⟨rfl, vo', _, hoo ▸ HI3.out.forget, ((FewKeep.of_below HI.out.avlt HB1.out).trans (FewKeep.of_below HI1.out.avlt HB2.out)).trans HKP.out.forget⟩
theorem few_put_calls {S : FewA} (hS : S.Ok) (F : Nat) : ∀ (d : Nat) (s : Int) (wl : List Int) (out : List (List Int)), few_put F S.p d s wl = some out → ∀ (av : Nat → Prop) (vo vw : Value) (o : List (List Int)) (W : World), FewI S av vo vw o wl W → (o.length + out.length) * 24 ≤ 140737488355328 →
    Calls Try.prog 78 #[.int .i64 s, .pointer (some ⟨S.gp, 0, none⟩), .pointer (some ⟨S.go, 0, none⟩), .pointer (some ⟨S.gw, 0, none⟩), .pointer (some ⟨S.gf, 0, none⟩)] W fun e W' => e = .returned (.tuple #[]) ∧ ∃ vo' vw', FewI S av vo' vw' (o ++ out) wl W' ∧ FewKeep av W W'
  | 0, _, _, _, h => by cases h
  | d + 1, s, wl, out, h => by
    intro av vo vw o W hI hol
    unfold few_put at h
    obtain ⟨t, hal, h⟩ := Option.bind_eq_some_iff.1 h
    split at h
    · rename_i hst
      subst hst
      split at h
      rotate_left
      · cases h
      rename_i hlen
      obtain rfl := Option.some.inj h
      refine (few_all hS hI s hal hlen (by simpa using hol)).mono ?_
      rintro e W' ⟨rfl, vo', h1, h2⟩
      exact ⟨rfl, vo', _, h1, h2⟩
    · rename_i hst
      obtain ⟨l, hnx, h⟩ := Option.bind_eq_some_iff.1 h
      split at h
      rotate_left
      · cases h
      rename_i hl
      exact few_step hS F d t s l wl out hal hst hnx hl h (fun s wl out h av vo vw o W hI hs => few_put_calls hS F d s wl out h av vo vw o W hI hs) hI hol
def impl_few.f (k : Nat) (l0_0 : List Int) : Option (List (List Int) × Bool) :=
  (impl_IsPoset.f k l0_0).bind fun b => if b = true then ((impl_Poset_ways.f k l0_0).bind fun ways => if 0 < ways.length then (if rd ways 0 > 500 then some ([], false) else (few_put k l0_0 k 0 []).bind fun o => if o.length ≤ 1000 then some (o, true) else none) else none) else some ([], false)
theorem few_row_mono {g g' : Int → List Int → Option (List (List Int))} (h : ∀ s w, LeO (g s w) (g' s w)) (s : Int) (w : List Int) : ∀ l, LeO (few_row g s w l) (few_row g' s w l)
  | [] => LeO.refl _
  | e :: l => by
    unfold few_row
    exact LeO.ite (LeO.bind (h _ _) (fun _ => LeO.bind (few_row_mono h s w l) (fun _ => LeO.refl _))) (LeO.refl _)
theorem few_put_mono (p : List Int) (k : Nat) : ∀ d s w, LeO (few_put k p d s w) (few_put (k + 1) p (d + 1) s w)
  | 0, s, w => fun r h => by cases h
  | d + 1, s, w => by
    unfold few_put
    exact LeO.bind (LeO.refl _) (fun t => LeO.ite (LeO.refl _) (LeO.bind (impl_Poset_next.mono _ _ _) (fun l => LeO.ite (few_row_mono (fun s w => few_put_mono p k d s w) s w l) (LeO.refl _))))
theorem impl_few.mono : ∀ a0 k, LeO (impl_few.f k a0) (impl_few.f (k + 1) a0) := fun a0 k => by
  unfold impl_few.f
  exact LeO.bind (impl_IsPoset.mono _ _) (fun b => LeO.ite (LeO.bind (impl_Poset_ways.mono _ _) (fun ways => LeO.ite (LeO.ite (LeO.refl _) (LeO.bind (few_put_mono _ _ _ _ _) (fun _ => LeO.refl _))) (LeO.refl _))) (LeO.refl _))
set_option maxHeartbeats 8000000 in
set_option maxRecDepth 100000 in
theorem impl_few.calls (k : Nat) (A0_0 : Option Addr) (c0_0 : Nat) (l0_0 : List Int) (r1 : List (List Int)) (r2 : Bool) (w : World) (hr0_0 : Kd.C (Kd.int .i64) w A0_0 l0_0.length l0_0) (hc0_0 : l0_0.length ≤ c0_0) (h : impl_few.f k l0_0 = some (r1, r2)) :
    Calls Try.prog 60 #[.agg #[.slice A0_0 l0_0.length c0_0]] w fun e w' => ∃ v0_ : Value, e = .returned (.tuple #[v0_, .bool r2]) ∧ Kd.S (Kd.slice 3 (Kd.int .i64)) 25 w' w.heap.size (fun _ => True) v0_ r1 ∧ Below w.heap.size w w' := by
  have hu28 := Try.underlying34
  have hmf : ∀ (fn : Fn) (first cap : Array Value) (w : World), (Instr.makeFunc fn first cap).run Try.prog w = .ok (.func fn first cap) w := fun _ _ _ _ => rfl
  unfold impl_few.f at h
  obtain ⟨b, hb, h⟩ := Option.bind_eq_some_iff.1 h
  have HR := Aside0.mk hr0_0
  have HC := Aside0.mk hc0_0
  have HBP := Aside0.mk hb
  clear hr0_0 hc0_0 hb
  cases b
  · obtain ⟨rfl, rfl⟩ : [] = r1 ∧ false = r2 := by simpa using h
    clear h
    go_enter Try.func60, Try.ntmps60
    go_wp2_with (fail)
    refine (impl_IsPoset.calls k A0_0 c0_0 l0_0 false _ (by (with_reducible repeat (first | refine Kd.C_alloc ?_ _ | refine Kd.C_drewN ?_ _ | refine Kd.C_drew ?_)); exact HR.out) HC.out HBP.out).mono ?_
    rintro e w1 ⟨rfl, hb1⟩
    have HB1 := Aside0.mk hb1
    clear hb1
    go_wp2_with (fail)
    refine bodyPost_ret (results_tmp2 rfl _ _ _) rfl ?_
    exact ⟨_, rfl, ⟨fun _ => 0, Kd.R_nil _ _ _ _ _⟩, (below_alloc (Below.refl _ _) _).trans (HB1.out.mono (by simp))⟩
  · have h := (if_pos rfl).symm.trans h
    obtain ⟨ways, hw, h⟩ := Option.bind_eq_some_iff.1 h
    split at h
    rotate_left
    · cases h
    rename_i hlw
    have HW := Aside0.mk hw
    have HLW := Aside0.mk hlw
    clear hw hlw
    split at h
    · rename_i hgt
      obtain ⟨rfl, rfl⟩ : [] = r1 ∧ false = r2 := by simpa using h
      clear h
      have hgt' : decide (500 < rd ways 0) = true := decide_eq_true hgt
      go_enter Try.func60, Try.ntmps60
      go_wp2_with (fail)
      refine (impl_IsPoset.calls k A0_0 c0_0 l0_0 true _ (by (with_reducible repeat (first | refine Kd.C_alloc ?_ _ | refine Kd.C_drewN ?_ _ | refine Kd.C_drew ?_)); exact HR.out) HC.out HBP.out).mono ?_
      rintro e w1 ⟨rfl, hb1⟩
      have hP1 := blk_below (blk_new w (.cells #[.slice A0_0 l0_0.length c0_0] 34)) hb1
      have hp1 : w1.cell? ⟨w.heap.size, 0, none⟩ = some (.slice A0_0 l0_0.length c0_0) := (blk_cell hP1 0).trans rfl
      have HP1 := Aside0.mk hP1
      have HB1 := Aside0.mk ((below_alloc (Below.refl w.heap.size w) _).trans (hb1.mono (by simp)))
      clear hb1 hP1
      go_wp2_with (fail)
      refine (impl_Poset_ways.calls k A0_0 c0_0 l0_0 ways _ (Kd.C_below HR.out HB1.out) HC.out HW.out).mono ?_
      rintro e w2 ⟨vw, rfl, hrw, hb2⟩
      obtain ⟨gq, cq, rfl, _, _, _⟩ := Kd.R_form hrw HLW.out
      have hq2 := (Kd.R_cell (0 : Int) hrw 0 (by omega) (by have := HLW.out; omega)).1
      have hq3 : w2.cell? ⟨gq, 0, none⟩ = some (.int .i64 (rd ways 0)) := hq2
      have hP2 := Aside0.mk (blk_below HP1.out hb2)
      have HB2 := Aside0.mk (below_step HB1.out hb2)
      have hlw1 : (0 : Int) < (ways.length : Int) := by have := HLW.out; omega
      have hlw2 := HLW.out
      have hlw3 : decide (0 < ways.length) = true := decide_eq_true hlw2
      clear hb2 hrw hq2
      go_wp2_with (fail)
      refine bodyPost_ret (results_tmp2 rfl _ _ _) rfl ?_
      exact ⟨_, rfl, ⟨fun _ => 0, Kd.R_nil _ _ _ _ _⟩, HB2.out⟩
    · rename_i hgt
      have hgt' : decide (500 < rd ways 0) = false := decide_eq_false hgt
      obtain ⟨o, hput, h⟩ := Option.bind_eq_some_iff.1 h
      split at h
      rotate_left
      · cases h
      rename_i hol
      obtain ⟨rfl, rfl⟩ : o = r1 ∧ true = r2 := by simpa using h
      clear h
      have HPUT := Aside0.mk hput
      have HOL := Aside0.mk hol
      clear hput hol
      go_enter Try.func60, Try.ntmps60
      go_wp2_with (fail)
      refine (impl_IsPoset.calls k A0_0 c0_0 l0_0 true _ (by (with_reducible repeat (first | refine Kd.C_alloc ?_ _ | refine Kd.C_drewN ?_ _ | refine Kd.C_drew ?_)); exact HR.out) HC.out HBP.out).mono ?_
      rintro e w1 ⟨rfl, hb1⟩
      have hP1 := blk_below (blk_new w (.cells #[.slice A0_0 l0_0.length c0_0] 34)) hb1
      have hp1 : w1.cell? ⟨w.heap.size, 0, none⟩ = some (.slice A0_0 l0_0.length c0_0) := (blk_cell hP1 0).trans rfl
      have HP1 := Aside0.mk hP1
      have HB1 := Aside0.mk ((below_alloc (Below.refl w.heap.size w) _).trans (hb1.mono (by simp)))
      clear hb1 hP1
      go_wp2_with (fail)
      refine (impl_Poset_ways.calls k A0_0 c0_0 l0_0 ways _ (Kd.C_below HR.out HB1.out) HC.out HW.out).mono ?_
      rintro e w2 ⟨vw, rfl, hrw, hb2⟩
      obtain ⟨gq, cq, rfl, _, _, _⟩ := Kd.R_form hrw HLW.out
      have hq2 := (Kd.R_cell (0 : Int) hrw 0 (by omega) (by have := HLW.out; omega)).1
      have hq3 : w2.cell? ⟨gq, 0, none⟩ = some (.int .i64 (rd ways 0)) := hq2
      have hP2 := Aside0.mk (blk_below HP1.out hb2)
      have HB2 := Aside0.mk (below_step HB1.out hb2)
      have hlw1 : (0 : Int) < (ways.length : Int) := by have := HLW.out; omega
      have hlw2 := HLW.out
      have hlw3 : decide (0 < ways.length) = true := decide_eq_true hlw2
      clear hb2 hrw hq2
      obtain ⟨S, hS, rfl, hSw, e1, e2, e3, e4, hI⟩ := few_start HR.out HC.out HB2.out hP2.out
      have HS := Aside0.mk hS
      have hcaps : S.caps = #[.pointer (some ⟨w.heap.size, 0, none⟩), .pointer (some ⟨w2.heap.size + 1 + 1, 0, none⟩), .pointer (some ⟨w2.heap.size + 1 + 1 + 1, 0, none⟩), .pointer (some ⟨w2.heap.size + 1 + 1 + 1 + 1, 0, none⟩)] := by unfold FewA.caps; rw [e1, e2, e3, e4]
      have hcall := few_put_calls hS k k 0 [] o HPUT.out (fun _ => False) _ _ [] _ hI (by have := HOL.out; simp; omega)
      unfold fewWorld at hcall
      rw [hcaps, e1, e2, e3, e4] at hcall
      have HCALL := Aside0.mk hcall
      clear hcall hI hS
      go_wp2_with (fail)
      refine HCALL.out.mono ?_
      rintro e W5 ⟨rfl, vo', vw', h5, h6⟩
      obtain ⟨A5, n5, c5, rfl⟩ : ∃ A n c, vo' = .slice A n c := by obtain ⟨A, c, e⟩ := Kd.S_slice h5.HO; exact ⟨A, _, c, e⟩
      have hco5 : W5.cell? ⟨w2.heap.size + 1 + 1, 0, none⟩ = some (.slice A5 n5 c5) := by rw [← e2]; exact (blk_cell h5.co 0).trans rfl
      have H5 := Aside0.mk h5
      clear h5 h6 HCALL
      go_wp2_with (fail)
      refine bodyPost_ret (results_tmp2 rfl _ _ _) rfl ⟨_, rfl, ?_, ?_⟩
      · have := H5.out.HO
        rw [hSw, List.nil_append] at this
        exact Kd.S_mono this (fun _ _ => trivial)
      · have := H5.out.below
        rwa [hSw] at this
end Go.Proofs.Ytnihjpnheooeoaa.F
end

section
namespace Go.Proofs.Ytnihjpnheooeoaa.Q
open Go.RowKit Go.Proofs.YtnihjpnheooeoaaW.PrintWords Go.Proofs.Ytnihjpnheooeoaa.F
set_option linter.unusedVariables false
/-- All orders from a set on. -/
def allW (p : List Int) : Nat → Nat → List (List Nat)
  | 0, _ => [[]]
  | d + 1, s => (nextN p s).flatMap fun e => (allW p d (s ||| 2 ^ e)).map (e :: ·)
theorem pick_range (p : List Int) (s : Nat) (g : Nat → Nat → List Nat) : ∀ l : List Nat,
    (List.range (sumL (l.map fun e => ways p (s ||| 2 ^ e)))).map (fun r => (pick p s l r).1 :: g (s ||| 2 ^ (pick p s l r).1) (pick p s l r).2) = l.flatMap fun e => (List.range (ways p (s ||| 2 ^ e))).map fun r => e :: g (s ||| 2 ^ e) r := by
  intro l
  induction l with
  | nil => rfl
  | cons e l ih =>
    simp only [List.map_cons, sumL, List.flatMap_cons]
    rw [List.range_add, List.map_append, List.map_map, ← ih]
    congr 1
    · refine List.map_congr_left fun r hr => ?_
      have hr := List.mem_range.1 hr
      simp only [pick, if_pos hr]
    · refine List.map_congr_left fun r hr => ?_
      simp only [Function.comp, pick]
      rw [if_neg (by omega), Nat.add_sub_cancel_left]
theorem allW_eq {p : List Int} (hp : PO p) : ∀ (d s : Nat), s < 2 ^ p.length → pcard p.length s + d = p.length → allW p d s = (List.range (ways p s)).map (linW p d s) := by
  intro d
  induction d with
  | zero =>
    intro s hs hc
    rw [all_of_pcard hs (by omega), ways_all]
    rfl
  | succ d ih =>
    intro s hs hc
    have hall : s ≠ allN p := by
      intro e
      rw [e, pcard_all] at hc; omega
    rw [ways_step hs hall]
    have h := pick_range p s (linW p d) (nextN p s)
    refine Eq.trans ?_ h.symm
    unfold allW
    rw [List.flatMap_def, List.flatMap_def]
    congr 1
    refine List.map_congr_left fun e he => ?_
    obtain ⟨_, m1, m2, _⟩ := mem_nextN.1 he
    rw [ih _ (or_lt hs (pow_lt_pow m1)) (by rw [pcard_add m1 m2]; omega), List.map_map]
    rfl
theorem allW_len {p : List Int} : ∀ (d s : Nat), ∀ w ∈ allW p d s, w.length = d := by
  intro d
  induction d with
  | zero => intro s w hw; unfold allW at hw; rw [List.mem_singleton.1 hw]; rfl
  | succ d ih =>
    intro s w hw
    unfold allW at hw
    obtain ⟨e, _, hw⟩ := List.mem_flatMap.1 hw
    obtain ⟨v, hv, rfl⟩ := List.mem_map.1 hw
    rw [List.length_cons, ih _ _ hv]
theorem few_row_ev {g : Nat → Int → List Int → Option (List (List Int))} {p : List Int} {d s : Nat} {w : List Int} (hw : w.length ≤ 1000) (hs : s < 2 ^ 61) : ∀ l : List Nat, (∀ e ∈ l, e < 61 ∧ Ev (fun k => g k ((s ||| 2 ^ e : Nat) : Int) (w ++ [(e : Int)])) ((allW p d (s ||| 2 ^ e)).map fun v => (w ++ [(e : Int)]) ++ ints v)) →
    Ev (fun k => few_row (g k) (s : Int) w (ints l)) ((l.flatMap fun e => (allW p d (s ||| 2 ^ e)).map (e :: ·)).map fun v => w ++ ints v) := by
  intro l
  induction l with
  | nil => intro _; exact Ev.ret rfl
  | cons e l ih =>
    intro h
    obtain ⟨he, hg⟩ := h e List.mem_cons_self
    have h2 := ih (fun x hx => h x (List.mem_cons_of_mem _ hx))
    have e1 : ints (e :: l) = (e : Int) :: ints l := rfl
    rw [e1]
    simp only [few_row]
    refine Ev.yes ⟨by omega, hw⟩ ?_
    rw [shlN (by omega), bits_orN (Nat.lt_trans hs (by decide)) (Nat.pow_lt_pow_right (by decide) (by omega))]
    refine Ev.bind hg (Ev.bind h2 (Ev.ret ?_))
    rw [List.flatMap_cons, List.map_append, List.map_map]
    congr 1
    refine List.map_congr_left fun v _ => ?_
    show (w ++ [(e : Int)]) ++ ints v = w ++ ints (e :: v)
    rw [List.append_assoc]; rfl
theorem few_put_ev {p : List Int} (hp : PO p) : ∀ (d s : Nat) (w : List Int), s < 2 ^ p.length → idealB p s = true → pcard p.length s = w.length → w.length + d = p.length →
    Ev (fun k => few_put k p (k + (d + 1)) (s : Int) w) ((allW p d s).map fun v => w ++ ints v) := by
  have hn := hp.small
  intro d
  induction d with
  | zero =>
    intro s w hs hid hc hd
    have hall : s = allN p := all_of_pcard hs (by omega)
    simp only [few_put]
    refine Ev.call (all_eq (by omega)) (Ev.yes (show ((s : Nat) : Int) = ((allN p : Nat) : Int) from by rw [hall]) (Ev.yes (by omega) (Ev.ret ?_)))
    simp [allW, ints]
  | succ d ih =>
    intro s w hs hid hc hd
    have hall : s ≠ allN p := by
      intro e
      rw [e, pcard_all] at hc; omega
    simp only [few_put]
    refine Ev.call (all_eq (by omega)) (Ev.no (show ¬ (((s : Nat) : Int) = ((allN p : Nat) : Int)) from fun h => hall (by exact_mod_cast h)) (Ev.bind (next_ev hp hs) (Ev.yes ?_ ?_)))
    · rw [ints_len]
      have : (nextN p s).length ≤ 10 := by unfold nextN; exact Nat.le_trans (List.length_filter_le _ _) (by simp)
      omega
    · have := few_row_ev (g := fun k => few_put k p (k + (d + 1))) (p := p) (d := d) (w := w) (by omega) (lt_pow hs (by omega)) (nextN p s) (fun e he => by
        obtain ⟨_, m1, m2, _⟩ := mem_nextN.1 he
        refine ⟨by omega, ?_⟩
        exact ih (s ||| 2 ^ e) (w ++ [(e : Int)]) (or_lt hs (pow_lt_pow m1)) (idealB_add hp hid he) (by rw [pcard_add m1 m2, hc, List.length_append, List.length_singleton]) (by rw [List.length_append, List.length_singleton]; omega))
      exact this
theorem few_put_monoF (p : List Int) (k : Nat) : ∀ d s w, LeO (few_put k p d s w) (few_put (k + 1) p d s w)
  | 0, s, w => fun r h => by cases h
  | d + 1, s, w => by
    unfold few_put
    exact LeO.bind (LeO.refl _) (fun t => LeO.ite (LeO.refl _) (LeO.bind (impl_Poset_next.mono _ _ _) (fun l => LeO.ite (few_row_mono (fun s w => few_put_monoF p k d s w) s w l) (LeO.refl _))))
/-- All orders, the first ranks first. -/
def rowsTo (p : List Int) (r : Nat) : List (List Int) := (List.range r).map fun r => ints (linW p p.length 0 r)
theorem rowsTo_len (p : List Int) (r : Nat) : (rowsTo p r).length = r := by simp [rowsTo]
theorem rowsTo_mem {p : List Int} {r : Nat} : ∀ q ∈ rowsTo p r, q.length = p.length := by
  intro q hq
  obtain ⟨x, _, rfl⟩ := List.mem_map.1 hq
  rw [ints_len, linW_len]
theorem few_all_ev {p : List Int} (hp : PO p) : Ev (fun k => few_put k p k 0 []) (rowsTo p (ways p 0)) := by
  have h := few_put_ev hp p.length 0 [] (Nat.two_pow_pos _) (idealB_zero p) (by rw [pcard_zero]; rfl) (by simp)
  rw [allW_eq hp p.length 0 (Nat.two_pow_pos _) (by rw [pcard_zero]; omega), List.map_map] at h
  obtain ⟨K, h⟩ := h
  refine ⟨K + (p.length + 1), fun k hk => ?_⟩
  have h1 := h (k - (p.length + 1)) (by omega)
  dsimp only at h1
  rw [show k - (p.length + 1) + (p.length + 1) = k by omega] at h1
  have h2 := at_rounds (g := fun F => few_put F p k 0 []) (fun F => few_put_monoF p F k 0 []) (show k - (p.length + 1) ≤ k by omega) h1
  refine Eq.trans h2 ?_
  rfl
theorem first_way {p : List Int} (hp : PO p) : rd (Wl p 0) 0 = ((ways p 0 : Nat) : Int) := by
  refine (rdN (Wl p 0) 0).trans ?_
  rw [Wl_get p 0 (Nat.two_pow_pos _)]; unfold wayAt; rw [if_pos (Nat.le_refl _), if_pos (idealB_zero p)]
theorem first_cnt {p : List Int} (hp : PO p) : rd (Cl p 0) 0 = ((ways p 0 : Nat) : Int) := (rdN (Cl p 0) 0).trans (Cl_at (Nat.two_pow_pos _))
/-- The program's list. -/
theorem few_ev (p : List Int) : Ev (fun k => impl_few.f k p) (if isPo p = true ∧ ways p 0 ≤ 500 then (rowsTo p (ways p 0), true) else ([], false)) := by
  unfold impl_few.f
  refine Ev.bind (IsPoset_ev p) ?_
  cases hpo : isPo p with
  | false => exact Ev.no (by simp) (Ev.ret (by simp))
  | true =>
    have hP := (isPo_iff p).1 hpo
    have h2 : 0 < 2 ^ p.length := Nat.two_pow_pos _
    refine Ev.yes rfl (Ev.bind (ways_table hP) (Ev.yes (by rw [Wl_len]; omega) ?_))
    rw [first_way hP]
    by_cases hw : ways p 0 ≤ 500
    · rw [if_pos ⟨rfl, hw⟩]
      exact Ev.no (by omega) (Ev.bind (few_all_ev hP) (Ev.yes (by rw [rowsTo_len]; omega) (Ev.now _)))
    · rw [if_neg (fun h => hw h.2)]
      exact Ev.yes (by omega) (Ev.now _)
/-- The reference's list. -/
theorem liAll_run {p : List Int} (hp : PO p) (hw : ways p 0 ≤ 500) : ∀ r, r ≤ ways p 0 → Ev (fun k => spec_liAll.l0 k (Cl p 0) (rowsTo p r) (r : Int) p) (rowsTo p (ways p 0), true) := by
  have h2 : 0 < 2 ^ p.length := Nat.two_pow_pos _
  refine downTo _ ?_ ?_
  · refine Ev.step (by intro k; simp only [spec_liAll.l0]; rfl) (Ev.yes (by rw [Cl_len]; omega) ?_)
    rw [first_cnt hp]
    exact Ev.no (by omega) (Ev.now _)
  · intro r hr ih
    refine Ev.step (by intro k; simp only [spec_liAll.l0]; rfl) (Ev.yes (by rw [Cl_len]; omega) ?_)
    rw [first_cnt hp]
    refine Ev.yes (by omega) (Ev.bind (liWith_ev hp hr) (Ev.yes (by rw [rowsTo_len]; omega) ?_))
    rw [wid (by omega) (by omega)]
    have e : rowsTo p r ++ [ints (linW p p.length 0 r)] = rowsTo p (r + 1) := by unfold rowsTo; rw [List.range_succ, List.map_append]; rfl
    rw [e]
    exact ih
theorem liAll_ev {p : List Int} (hp : PO p) : Ev (fun k => spec_liAll.f k p) (if ways p 0 ≤ 500 then (rowsTo p (ways p 0), true) else ([], false)) := by
  unfold spec_liAll.f
  have h2 : 0 < 2 ^ p.length := Nat.two_pow_pos _
  refine Ev.bind (liCounts_ev hp) (Ev.yes (by rw [Cl_len]; omega) ?_)
  rw [first_cnt hp]
  by_cases hw : ways p 0 ≤ 500
  · rw [if_pos hw]
    exact Ev.no (by omega) (liAll_run hp hw 0 (Nat.zero_le _))
  · rw [if_neg hw]
    exact Ev.yes (by omega) (Ev.now _)
end Go.Proofs.Ytnihjpnheooeoaa.Q
end

section
namespace Go.Proofs.Ytnihjpnheooeoaa.Q
open Go.RowKit Go.Proofs.YtnihjpnheooeoaaW.PrintWords Go.Proofs.Ytnihjpnheooeoaa.F
set_option linter.unusedVariables false
theorem mem_allW {p : List Int} (hp : PO p) : ∀ d s, s < 2 ^ p.length → pcard p.length s + d = p.length → ∀ w : List Nat, w ∈ allW p d s ↔ ordRun p s (ints w) = some (allN p) ∧ w.length = d := by
  have hn := hp.small
  intro d
  induction d with
  | zero =>
    intro s hs hc w
    unfold allW
    rw [List.mem_singleton]
    constructor
    · rintro rfl; exact ⟨by show some s = _; rw [all_of_pcard hs (by omega)], rfl⟩
    · rintro ⟨_, h⟩; exact List.length_eq_zero_iff.1 h
  | succ d ih =>
    intro s hs hc w
    unfold allW
    rw [List.mem_flatMap]
    constructor
    · rintro ⟨e, he, hw⟩
      obtain ⟨v, hv, rfl⟩ := List.mem_map.1 hw
      obtain ⟨m0, m1, m2, m3⟩ := mem_nextN.1 he
      obtain ⟨h1, h2⟩ := (ih _ (or_lt hs (pow_lt_pow m1)) (by rw [pcard_add m1 m2]; omega) v).1 hv
      refine ⟨?_, by rw [List.length_cons, h2]⟩
      show ordRun p s ((e : Int) :: ints v) = _
      unfold ordRun
      rw [Int.toNat_natCast, if_pos ⟨⟨by omega, by omega⟩, m2, m3⟩]
      exact h1
    · rintro ⟨h1, h2⟩
      cases w with
      | nil => cases h2
      | cons e v =>
        have h3 : ordRun p s ((e : Int) :: ints v) = some (allN p) := h1
        unfold ordRun at h3
        rw [Int.toNat_natCast] at h3
        split at h3
        rotate_left
        · cases h3
        rename_i hc2
        obtain ⟨⟨c1, c2⟩, c3, c4⟩ := hc2
        have hen : e < p.length := by omega
        refine ⟨e, mem_nextN.2 ⟨by omega, hen, c3, c4⟩, List.mem_map.2 ⟨v, ?_, rfl⟩⟩
        exact (ih _ (or_lt hs (pow_lt_pow hen)) (by rw [pcard_add hen c3]; omega) v).2 ⟨h3, by rw [List.length_cons] at h2; omega⟩
theorem nextN_nodup (p : List Int) (s : Nat) : (nextN p s).Nodup := by
  unfold nextN
  exact List.Pairwise.filter _ List.nodup_range
theorem allW_nodup (p : List Int) : ∀ d s, (allW p d s).Nodup := by
  intro d
  induction d with
  | zero => intro s; unfold allW; exact List.pairwise_singleton _ _
  | succ d ih =>
    intro s
    unfold allW
    refine List.pairwise_flatMap.2 ⟨fun e _ => ?_, ?_⟩
    · refine List.pairwise_map.2 (List.Pairwise.imp ?_ (ih _))
      intro a b hab h
      exact hab (List.cons.inj h).2
    · refine List.Pairwise.imp ?_ (nextN_nodup p s)
      intro a b hab x hx y hy h
      obtain ⟨v, _, rfl⟩ := List.mem_map.1 hx
      obtain ⟨u, _, rfl⟩ := List.mem_map.1 hy
      exact hab (List.cons.inj h).1
theorem ints_inj {a b : List Nat} (h : ints a = ints b) : a = b := by
  unfold ints at h
  refine List.map_inj_right (fun x y e => ?_) |>.1 h
  exact Int.ofNat.inj e
theorem rows_allW {p : List Int} (hp : PO p) : rowsTo p (ways p 0) = (allW p p.length 0).map ints := by
  rw [allW_eq hp p.length 0 (Nat.two_pow_pos _) (by rw [pcard_zero]; omega), List.map_map]
  rfl
theorem rows_nodup {p : List Int} (hp : PO p) : (rowsTo p (ways p 0)).Nodup := by
  rw [rows_allW hp]
  refine List.pairwise_map.2 (List.Pairwise.imp ?_ (allW_nodup p _ _))
  intro a b hab h
  exact hab (ints_inj h)
theorem ord_nat {p w : List Int} (h : ordB p w = true) : w = ints (w.map Int.toNat) := by
  unfold ints
  rw [List.map_map]
  symm
  have : ∀ x ∈ w, (Int.ofNat ∘ Int.toNat) x = id x := fun x hx => by
    have := (ordB_range h x hx).1
    show Int.ofNat x.toNat = x
    exact Int.toNat_of_nonneg this
  rw [List.map_congr_left this, List.map_id]
theorem mem_rows {p : List Int} (hp : PO p) (w : List Int) : w ∈ rowsTo p (ways p 0) ↔ ordB p w = true := by
  rw [rows_allW hp]
  constructor
  · intro h
    obtain ⟨v, hv, rfl⟩ := List.mem_map.1 h
    exact ordB_iff.2 ((mem_allW hp _ 0 (Nat.two_pow_pos _) (by rw [pcard_zero]; omega) v).1 hv).1
  · intro h
    have e := ord_nat h
    refine List.mem_map.2 ⟨w.map Int.toNat, (mem_allW hp _ 0 (Nat.two_pow_pos _) (by rw [pcard_zero]; omega) _).2 ⟨?_, ?_⟩, e.symm⟩
    · rw [← e]; exact ordB_iff.1 h
    · rw [List.length_map]; exact ordB_len h
end Go.Proofs.Ytnihjpnheooeoaa.Q
end

section
namespace Go.Proofs.Ytnihjpnheooeoaa.F
open Go.RowKit Go.Maps Go.Proofs.YtnihjpnheooeoaaW.PrintWords Go.Proofs.YtnihjpnheooeoaaW.PrintLast Go.Proofs.YtnihjpnheooeoaaW.PrintMore
set_option linter.unusedVariables false
set_option linter.unusedSimpArgs false
def toLn (t : Int × Int × Int × Int × Int × Int × Int × Int × Int × Int) : Ln := ⟨t.1, t.2.1, t.2.2.1, t.2.2.2.1, t.2.2.2.2.1, t.2.2.2.2.2.1, t.2.2.2.2.2.2.1, t.2.2.2.2.2.2.2.1, t.2.2.2.2.2.2.2.2.1, t.2.2.2.2.2.2.2.2.2⟩
def lcMove (k : Nat) (p : List Int) (x : Ln) : Option Ln := (impl_Poset_promoted.f k p x.f0 x.f1 x.f2 x.f3 x.f4 x.f5 x.f6 x.f7 x.f8 x.f9).bind fun t => some (toLn t)
def lcLines : List (List Int) → List Ln → Option (List Ln)
  | [], out => some out
  | x :: l, out => if out.length ≤ 100000 then (impl_lineOf.f x).bind fun t => lcLines l (out ++ [toLn t]) else none
def impl_linearCycles.f (k : Nat) (l0_0 : List Int) : Option (List (List Ln) × Bool) := (impl_few.f k l0_0).bind fun q => if q.2 = true then (lcLines q.1 []).bind fun ls => (cyAll (lcMove k l0_0) k ls [] []).bind fun rows => some (rows, true) else some ([], false)
theorem impl_linearCycles.mono : ∀ a0 k, LeO (impl_linearCycles.f k a0) (impl_linearCycles.f (k + 1) a0) := fun a0 k => by
  unfold impl_linearCycles.f
  refine LeO.bind (impl_few.mono _ _) (fun q => LeO.ite (LeO.bind (LeO.refl _) (fun ls => LeO.bind (cyAll_mono (fun x => ?_) k _ _ _) (fun _ => LeO.refl _))) (LeO.refl _))
  unfold lcMove
  exact LeO.bind (impl_Poset_promoted.mono _ _ _ _ _ _ _ _ _ _ _ _) (fun _ => LeO.refl _)
theorem lc_apart {β : Type} {d2 : Kd β} {e2 base2 N k : Nat} {W : World} {v2 : Value} {ys : List β} (hr : Kd.R d2 e2 W base2 (fun k => N ≤ k) v2 ys) (hk : k < N) : ¬ (some k = v2.ownBlock) := fun e => by
  have := hr.1 k e.symm
  omega
theorem lc_move {k : Nat} {A0 : Option Addr} {c0 : Nat} {l0 : List Int} {w W W1 : World} (hr : Kd.C (Kd.int .i64) w A0 l0.length l0) (hc : l0.length ≤ c0) (hb : Below w.heap.size w W) {x y : Ln} (hF : lcMove k l0 x = some y) (hb1 : Below W.heap.size W W1) :
    Calls Try.prog 63 #[.agg #[.slice A0 l0.length c0], .agg (lnC x)] W1 fun e w' => e = .returned (.agg #[.int .i64 y.f0, .int .i64 y.f1, .int .i64 y.f2, .int .i64 y.f3, .int .i64 y.f4, .int .i64 y.f5, .int .i64 y.f6, .int .i64 y.f7, .int .i64 y.f8, .int .i64 y.f9]) ∧ Below W1.heap.size W1 w' := by
  unfold lcMove at hF
  obtain ⟨⟨f0, f1, f2, f3, f4, f5, f6, f7, f8, f9⟩, h1, h2⟩ := Option.bind_eq_some_iff.1 hF
  have h2 := Option.some.inj h2
  subst h2
  exact impl_Poset_promoted.calls k A0 c0 l0 x.f0 x.f1 x.f2 x.f3 x.f4 x.f5 x.f6 x.f7 x.f8 x.f9 f0 f1 f2 f3 f4 f5 f6 f7 f8 f9 W1 (Kd.C_below (Kd.C_below hr hb) hb1) hc h1
set_option maxHeartbeats 8000000 in
set_option maxRecDepth 100000 in
theorem impl_linearCycles.calls (k : Nat) (A0_0 : Option Addr) (c0_0 : Nat) (l0_0 : List Int) (r1 : List (List Ln)) (r2 : Bool) (w : World) (hr0_0 : Kd.C (Kd.int .i64) w A0_0 l0_0.length l0_0) (hc0_0 : l0_0.length ≤ c0_0) (h : impl_linearCycles.f k l0_0 = some (r1, r2)) :
    Calls Try.prog 35 #[.agg #[.slice A0_0 l0_0.length c0_0]] w fun e w' => ∃ v0_ : Value, e = .returned (.tuple #[v0_, .bool r2]) ∧ Kd.S (Kd.slice 58 k58) 74 w' w.heap.size (fun _ => True) v0_ r1 ∧ Below w.heap.size w w' := by
  have hu30 := Try.underlying34
  have hu58 := Try.underlying58
  have hmf : ∀ (fn : Fn) (first cap : Array Value) (w : World), (Instr.makeFunc fn first cap).run Try.prog w = .ok (.func fn first cap) w := fun _ _ _ _ => rfl
  unfold impl_linearCycles.f at h
  obtain ⟨⟨all, b⟩, hb, h⟩ := Option.bind_eq_some_iff.1 h
  have HR0 := Aside0.mk hr0_0
  have HC0 := Aside0.mk hc0_0
  have HFEW := Aside0.mk hb
  have HP0 : Aside0 ((w.alloc (.cells #[.slice A0_0 l0_0.length c0_0] 34 (0, 0))).heap[w.heap.size]? = some (.cells #[.slice A0_0 l0_0.length c0_0] 34 (0, 0))) := ⟨blk_new w _⟩
  have HB0 : Aside0 (Below w.heap.size w (w.alloc (.cells #[.slice A0_0 l0_0.length c0_0] 34 (0, 0)))) := ⟨below_alloc (Below.refl w.heap.size w) _⟩
  clear hr0_0 hc0_0 hb
  cases b with
  | false =>
    obtain ⟨rfl, rfl⟩ : [] = r1 ∧ false = r2 := by simpa using h
    clear h
    go_enter Try.func35, Try.ntmps35
    go_wp2_with (go_at_call 60; (with_reducible refine (impl_few.calls k A0_0 c0_0 l0_0 all false _ (Kd.C_below HR0.out HB0.out) HC0.out HFEW.out).mono ?_); rintro e w1 ⟨v1, rfl, hs1, hb1⟩; have HB1 := Aside0.mk (HB0.out.trans (hb1.mono HB0.out.size)); clear hb1 hs1)
    refine bodyPost_ret (results_tmp2 rfl _ _ _) rfl ?_
    exact ⟨_, rfl, Kd.S_nil _ _ _ _ _, HB1.out⟩
  | true =>
    have h := (if_pos rfl).symm.trans h
    obtain ⟨ls, hls, h⟩ := Option.bind_eq_some_iff.1 h
    obtain ⟨rows, hrows, h⟩ := Option.bind_eq_some_iff.1 h
    obtain ⟨rfl, rfl⟩ : rows = r1 ∧ true = r2 := by simpa using h
    have HLS := Aside0.mk hls
    have HRW := Aside0.mk hrows
    clear h hls hrows
    go_enter Try.func35, Try.ntmps35
    go_wp2_with (go_at_call 60; (with_reducible refine (impl_few.calls k A0_0 c0_0 l0_0 all true _ (Kd.C_below HR0.out HB0.out) HC0.out HFEW.out).mono ?_); rintro e WA ⟨v1, rfl, hs1, hb1⟩; have HB1 := Aside0.mk (HB0.out.trans (hb1.mono HB0.out.size)); have HP1 := Aside0.mk (blk_below HP0.out hb1); obtain ⟨Aa, ca, ea⟩ := Kd.S_slice hs1; subst ea; have HS1 := Aside0.mk (Kd.S_mono (Kd.S_bound (Kd.S_lower hs1 HB0.out.size)) (ok' := fun k => k < WA.heap.size) (fun k hk => hk.2.2.1)); clear hb1 hs1)
    have HPL : Aside0 (w.heap.size < WA.heap.size) := ⟨blk_lt HP1.out⟩
    have HN : Aside0 ((WA.alloc (.cells #[] 58 (0, 0))).heap[WA.heap.size]? = some (.cells #[] 58 (0, 0))) := ⟨blk_new WA _⟩
    go_loopg [6, 19] (all.length + 1) (fun kq v6 v19 w' => ∃ (i : Nat) (out : List Ln), v19 = .int .i64 (i : Int) ∧ Aside0 (kq + i = all.length + 1 ∧ i ≤ all.length) ∧ Aside0 (lcLines (all.drop i) out = some ls) ∧ Aside0 (Kd.R k58 58 w' w.heap.size (fun k => WA.heap.size ≤ k) v6 out) ∧ Aside0 (Kd.S (Kd.slice 3 (Kd.int .i64)) 25 w' w.heap.size (fun k => k < WA.heap.size) (.slice Aa all.length ca) all) ∧ Aside0 (w'.heap[w.heap.size]? = some (.cells #[.slice A0_0 l0_0.length c0_0] 34 (0, 0))) ∧ Aside0 (Below w.heap.size w w') ∧ Aside0 (WA.heap.size ≤ w'.heap.size))
    case atStart => exact ⟨0, [], rfl, ⟨rfl, Nat.zero_le _⟩, HLS, ⟨ln_emptyR _ HB1.out.size HN.out (Nat.le_refl _)⟩, ⟨Kd.S_alloc HS1.out _⟩, ⟨blk_alloc HP1.out _⟩, ⟨below_alloc HB1.out _⟩, ⟨by simp⟩⟩
    case round =>
      clear HLS HS1 HP1 HB1 HN
      obtain ⟨i, out, rfl, HK, HLS, HR, HS, HP, HB, HWS⟩ := hrel
      obtain ⟨WB, rfl⟩ : ∃ x, x = wr := ⟨wr, rfl⟩
      obtain ⟨Ax, cx, e6⟩ := Kd.R_slice HR.out
      subst e6
      have hcp : WB.cell? ⟨w.heap.size, 0, none⟩ = some (.slice A0_0 l0_0.length c0_0) := (blk_cell HP.out 0).trans rfl
      cases gk with
      | zero => exact absurd HK.out (by omega)
      | succ k1 =>
        by_cases hi : i < all.length
        · obtain ⟨x, hx⟩ : ∃ x, x = rd_L1 all (i : Int) := ⟨_, rfl⟩
          have hR := HLS.out
          have hdx : all.drop i = x :: all.drop (i + 1) := by rw [hx]; exact drop_at all [] hi
          rw [hdx] at hR
          unfold lcLines at hR
          clear HLS hdx
          split at hR
          rotate_left
          · cases hR
          rename_i hlo
          obtain ⟨⟨f0, f1, f2, f3, f4, f5, f6, f7, f8, f9⟩, ht, hR⟩ := Option.bind_eq_some_iff.1 hR
          have HT := Aside0.mk ht
          have HLS := Aside0.mk hR
          have HLO := Aside0.mk hlo
          clear ht hR hlo
          obtain ⟨ad, A1, c1, e0, hcl, hle, hC⟩ := at_L1 (Kd.S_reads' HS.out).2.2 (i : Int) (by omega) (by omega)
          rw [← hx] at hcl hle hC
          rw [Int.toNat_natCast] at hcl
          clear hx
          cases e0
          have HCR := Aside0.mk hC
          have HLE := Aside0.mk hle
          clear hC hle
          have e1 : (0 : Int) ≤ (i : Int) := by omega
          have e2 : (i : Int) < (all.length : Int) := by omega
          have e3 : decide ((i : Int) < (all.length : Int)) = true := decide_eq_true e2
          have e4 : decide (i < all.length) = true := decide_eq_true hi
          have e5 := eq_true hi
          have HI := Aside0.mk hi
          have hwi : wrap64 ((i : Int) + 1) = ((i + 1 : Nat) : Int) := by have := Kd.C_max (Kd.S_reads' HS.out).2.2; unfold wrap64; omega
          clear hi
          go_wp2_with (first | (go_at_call 61; (with_reducible refine (impl_lineOf.calls A1 c1 x f0 f1 f2 f3 f4 f5 f6 f7 f8 f9 _ HCR.out HLE.out HT.out).mono ?_); rintro e w4 ⟨rfl, hb4⟩; have HR4 := Aside0.mk (Kd.R_below HR.out hb4); have HS4 := Aside0.mk (Kd.S_below HS.out hb4); have HP4 := Aside0.mk (blk_below HP.out hb4); have HB4 := Aside0.mk (below_step HB.out hb4); have HW4 := Aside0.mk (Nat.le_trans HWS.out hb4.size); clear hb4) | ((with_reducible refine gate_dst (N := 27) rfl ?_); refine Kd.R_append k58 (w0 := w) w.heap.size rfl (.tmp 23) (.tmp 26) 74 58 (.agg #[.int .i64 0, .int .i64 0, .int .i64 0, .int .i64 0, .int .i64 0, .int .i64 0, .int .i64 0, .int .i64 0, .int .i64 0, .int .i64 0]) 80 rfl Try.underlying74 cy_infoL rfl (by decide) (by omega) (.slice Ax out.length cx) out (toLn (f0, f1, f2, f3, f4, f5, f6, f7, f8, f9)) [.int .i64 f0, .int .i64 f1, .int .i64 f2, .int .i64 f3, .int .i64 f4, .int .i64 f5, .int .i64 f6, .int .i64 f7, .int .i64 f8, .int .i64 f9] (fun k => WA.heap.size ≤ k) (fun _ => False) rfl rfl ?aP (fun _ hk => hk.elim) ?aF ?aO ?aB ?aS ?aL ?_; (case aP => exact k58_mkM _ _ _ (toLn (f0, f1, f2, f3, f4, f5, f6, f7, f8, f9))); (case aF => exact (fun k hk => Nat.le_trans HW4.out hk)); (case aO => exact HR4.out); (case aB => exact HB4.out); (case aS => exact HB4.out.size); (case aL => have := HLO.out; omega); intro v5 w5 ho5 hb5 hg5 hat5; have HR5 := Aside0.mk ho5; have HB5 := Aside0.mk hb5; have HS5 := Aside0.mk (Kd.S_grown HS4.out hg5 (fun k hk e => lc_apart HR4.out hk e)); have HP5 := Aside0.mk (blk_grown HP4.out hg5 (lc_apart HR4.out HPL.out)); have HW5 := Aside0.mk (Nat.le_trans HW4.out hg5.size); clear ho5 hb5 hg5 hat5))
          go_roundg k1
          case measure => omega
          case rel => exact ⟨i + 1, out ++ [toLn (f0, f1, f2, f3, f4, f5, f6, f7, f8, f9)], by first | rfl | rw [hwi], ⟨by have := HK.out; have := HI.out; omega⟩, HLS, HR5, HS5, HP5, HB5, HW5⟩
        · have hE : i = all.length := by have := HK.out; omega
          have hR := HLS.out
          rw [hE, List.drop_length] at hR
          have hR := Option.some.inj (show some out = some ls from hR)
          subst hR
          have e3 : decide ((i : Int) < (all.length : Int)) = false := decide_eq_false (by omega)
          have e4 : decide (i < all.length) = false := decide_eq_false hi
          have e5 : (i < all.length) = False := eq_false hi
          clear hi
          go_wp2_with (go_at_call 62; (with_reducible refine (cycles_line.calls (lcMove k l0_0) k (.agg #[.slice A0_0 l0_0.length c0_0]) Ax cx out rows WB ?hF ?hC ?hc HRW.out).mono ?_); (case hF => exact ⟨fun x y W hF hbl => lc_move HR0.out HC0.out HB.out hF hbl⟩); (case hC => exact (Kd.R_reads' HR.out).2.2); (case hc => exact (Kd.R_reads' HR.out).2.1); rintro e w6 ⟨v6, rfl, hs6, hb6⟩; have HS6 := Aside0.mk (Kd.S_lower hs6 HB.out.size); have HB6 := Aside0.mk (below_step HB.out hb6); clear hs6 hb6)
          refine bodyPost_ret (results_tmp2 rfl _ _ _) rfl ?_
          exact ⟨_, rfl, HS6.out, HB6.out⟩
end Go.Proofs.Ytnihjpnheooeoaa.F
end

section
namespace Go.Proofs.Ytnihjpnheooeoaa.F
open Go.RowKit Go.Proofs.YtnihjpnheooeoaaW.PrintWords Go.Proofs.YtnihjpnheooeoaaW.PrintLast Go.Proofs.YtnihjpnheooeoaaW.PrintMore
attribute [local go_sem] max2_int min2_int max_two min_two max_three min_three max_four min_four
set_option linter.unusedVariables false
set_option linter.unusedSimpArgs false

/-! ### impl_PromotionOrder: function 23 -/
def impl_PromotionOrder.f (k : Nat) (l0_0 : List Int) : Option (Int × Bool) := (impl_linearCycles.f k l0_0).bind fun bt667 => (if bt667.2 = true then ((impl_line_37.f k bt667.1).bind fun t671 => ((impl_common.f k t671 1000000).bind fun bt674 => (some (bt674.1, bt674.2)))) else (some (0, false)))
theorem impl_PromotionOrder.mono : ∀ a0 k, LeO (impl_PromotionOrder.f k a0) (impl_PromotionOrder.f (k + 1) a0) := by
  intro a0 k
  unfold impl_PromotionOrder.f
  repeat' first
      | (with_reducible exact impl_common.mono _ _ _)
      | (with_reducible exact impl_line_37.mono _ _)
      | (with_reducible exact impl_linearCycles.mono _ _)
      | (with_reducible exact LeO.refl _)
      | (with_reducible exact LeO.none _)
      | (with_reducible refine LeO.ite ?_ ?_)
      | (with_reducible refine LeO.bind ?_ (fun _ => ?_))
      | exact impl_common.mono _ _ _
      | exact impl_line_37.mono _ _
      | exact impl_linearCycles.mono _ _
      | exact LeO.none _
      | refine LeO.ite ?_ ?_
      | refine LeO.bind ?_ (fun _ => ?_)
set_option maxHeartbeats 8000000 in
set_option maxRecDepth 100000 in
theorem impl_PromotionOrder.calls (k : Nat) (A0_0 : Option Addr) (c0_0 : Nat) (l0_0 : List Int) (r1 : Int) (r2 : Bool) (w : World) (hr0_0 : Kd.C (Kd.int .i64) w A0_0 l0_0.length l0_0) (hc0_0 : l0_0.length ≤ c0_0) (h : impl_PromotionOrder.f k l0_0 = some (r1, r2)) :
    Calls Try.prog 23 #[.agg #[.slice A0_0 l0_0.length c0_0]] w fun e w' => e = .returned (.tuple #[.int .i64 r1, .bool r2]) ∧ Below w.heap.size w w' := by
  have hu34 := Try.underlying34
  have HR0_0 := Aside0.mk hr0_0
  have HC0_0 := Aside0.mk hc0_0
  clear hr0_0 hc0_0
  have HB := Aside0.mk (Below.refl w.heap.size w)
  have H : ((impl_linearCycles.f k l0_0).bind fun bt667 => (if bt667.2 = true then ((impl_line_37.f k bt667.1).bind fun t671 => ((impl_common.f k t671 1000000).bind fun bt674 => (some (bt674.1, bt674.2)))) else (some (0, false)))) = some (r1, r2) := h
  clear h
  replace H := Option.bind_eq_some_iff.mp H
  obtain ⟨⟨t667, t670⟩, A20, H⟩ := H
  replace H : (if t670 = true then ((impl_line_37.f k t667).bind fun t671 => ((impl_common.f k t671 1000000).bind fun bt674 => (some (bt674.1, bt674.2)))) else (some (0, false))) = some (r1, r2) := H
  have A2 := Aside0.mk A20
  clear A20
  by_cases c3 : t670 = true
  · subst c3
    have H1 : ((impl_line_37.f k t667).bind fun t671 => ((impl_common.f k t671 1000000).bind fun bt674 => (some (bt674.1, bt674.2)))) = some (r1, r2) := by rw [if_pos rfl] at H; exact H
    clear H
    have H := H1
    clear H1
    replace H := Option.bind_eq_some_iff.mp H
    obtain ⟨t671, A40, H⟩ := H
    replace H : ((impl_common.f k t671 1000000).bind fun bt674 => (some (bt674.1, bt674.2))) = some (r1, r2) := H
    have A4 := Aside0.mk A40
    clear A40
    replace H := Option.bind_eq_some_iff.mp H
    obtain ⟨⟨t674, t675⟩, A50, H⟩ := H
    replace H : (some (t674, t675)) = some (r1, r2) := H
    have A5 := Aside0.mk A50
    clear A50
    simp only [Option.some.injEq, Prod.mk.injEq] at H
    obtain ⟨rfl, rfl⟩ := H
    go_enter Try.func23, Try.ntmps23
    go_wp2_with (first | ((with_reducible refine gate_dst (N := 1) rfl ?_); refine box_event ?hg (N := 1) ?hd (cs := #[.slice A0_0 l0_0.length c0_0]) (t := 34) ?hr ?_; (case hd => rfl); (case hg => rfl); (case hr => first | (go_simp; done) | (go_simp; rfl)); intro gb666 hg w6 hbox hb; have n0_ := Aside0.mk (below_step (by repeat (first | (with_reducible first | exact HB.out | apply below_alloc | apply pw_below_drewN | apply below_drew1) | exact HB.out)) hb); have n1_ := Aside0.mk (hbox); have n2_ := Aside0.mk ((by rw [hg]; exact (below_size (by repeat (first | (with_reducible first | exact HB.out | apply below_alloc | apply pw_below_drewN | apply below_drew1) | exact HB.out))) : w.heap.size ≤ gb666)); have n3_ := Aside0.mk ((by rw [hg]; exact (below_size (by repeat (first | (with_reducible first | exact HB.out | apply below_alloc | apply pw_below_drewN | apply below_drew1) | exact HB.out))) : w.heap.size ≤ gb666)); clear HB; have HB := n0_; have BK666 := n1_; have GW666 := n2_; have GE666 := n3_; clear n0_ n1_ n2_ n3_; clear hb hbox hg; have hcz7_0 : w6.cell? ⟨gb666, 0, none⟩ = some (.slice A0_0 l0_0.length c0_0) := (blk_cell BK666.out 0).trans rfl; have hfz7_0 := blk_frozen BK666.out 0) | ((with_reducible refine gate_callee (f := 35) rfl ?_); refine goesL_ (some 8) rfl rfl Try.func35 (by kernel_rfl) rfl #[.agg #[.slice A0_0 l0_0.length c0_0]] rfl (by (try simp only [List.map_toArray, List.map_cons, List.map_nil]); first | done | rfl | (simp only [List.length_drop, List.length_take]; rfl)) ?_; (with_reducible refine (impl_linearCycles.calls k _ _ l0_0 t667 true _ ?side1 ?side2 A2.out).mono ?_); (case side1 => repeat (first | exact (Kd.C_below HR0_0.out HB.out) | (with_reducible refine Kd.C_alloc ?_ _) | (with_reducible refine Kd.C_drewN ?_ _) | (with_reducible refine Kd.C_drew ?_))); (case side2 => exact HC0_0.out); rintro e w8 ⟨v668, rfl, ho0, hb⟩; refine ⟨_, rfl, ?_⟩; have n0_ := Aside0.mk (Kd.S_lower ho0 (below_size (by repeat (first | (with_reducible first | exact HB.out | apply below_alloc | apply pw_below_drewN | apply below_drew1 | refine below_set ?_ GE666.out) | exact HB.out)))); have n1_ := Aside0.mk (blk_below (g := gb666) (o := .cells #[.slice A0_0 l0_0.length c0_0] 34 (0, 0)) (by (with_reducible repeat (first | refine blk_drewN ?_ _ | refine blk_drew ?_ | refine blk_alloc ?_ _)); exact BK666.out) hb); have n2_ := Aside0.mk (below_step (by repeat (first | (with_reducible first | exact HB.out | apply below_alloc | apply pw_below_drewN | apply below_drew1 | refine below_set ?_ GE666.out) | exact HB.out)) hb); clear BK666; clear HB; have HO669 := n0_; have BK666 := n1_; have HB := n2_; clear n0_ n1_ n2_; (try clear hb); (try clear hb2); (try clear hk); (try clear hi); (try clear ho0); obtain ⟨Ao9, co9, eo9⟩ := Kd.S_slice HO669.out; subst eo9) | ((with_reducible refine gate_callee (f := 37) rfl ?_); refine goesL_ (some 14) rfl rfl Try.func37 (by kernel_rfl) rfl #[.slice Ao9 t667.length co9] rfl (by (try simp only [List.map_toArray, List.map_cons, List.map_nil]); first | done | rfl | (simp only [List.length_drop, List.length_take]; rfl)) ?_; (with_reducible refine (impl_line_37.calls k _ _ t667 t671 _ ?side1 ?side2 A4.out).mono ?_); (case side1 => repeat (first | exact (Kd.S_reads' HO669.out).2.2 | (with_reducible refine Kd.C_alloc ?_ _) | (with_reducible refine Kd.C_drewN ?_ _) | (with_reducible refine Kd.C_drew ?_))); (case side2 => exact (Kd.S_reads' HO669.out).2.1); rintro e w10 ⟨v672, rfl, ho0, hb⟩; refine ⟨_, rfl, ?_⟩; have n0_ := Aside0.mk (Kd.S_below (by (with_reducible repeat (first | apply Kd.S_alloc | apply Kd.S_drewN | apply Kd.S_drew)); exact HO669.out) hb); have n1_ := Aside0.mk (Kd.R_lower ho0 (below_size (by repeat (first | (with_reducible first | exact HB.out | apply below_alloc | apply pw_below_drewN | apply below_drew1 | refine below_set ?_ GE666.out) | exact HB.out)))); have n2_ := Aside0.mk (blk_below (g := gb666) (o := .cells #[.slice A0_0 l0_0.length c0_0] 34 (0, 0)) (by (with_reducible repeat (first | refine blk_drewN ?_ _ | refine blk_drew ?_ | refine blk_alloc ?_ _)); exact BK666.out) hb); have n3_ := Aside0.mk (below_step (by repeat (first | (with_reducible first | exact HB.out | apply below_alloc | apply pw_below_drewN | apply below_drew1 | refine below_set ?_ GE666.out) | exact HB.out)) hb); clear HO669; clear BK666; clear HB; have HO669 := n0_; have HO673 := n1_; have BK666 := n2_; have HB := n3_; clear n0_ n1_ n2_ n3_; (try clear hb); (try clear hb2); (try clear hk); (try clear hi); (try clear ho0); obtain ⟨Ao11, co11, eo11⟩ := Kd.R_slice HO673.out; subst eo11) | ((with_reducible refine gate_callee (f := 48) rfl ?_); refine goesL_ (some 15) rfl rfl Try.func48 (by kernel_rfl) rfl #[.slice Ao11 t671.length co11, .int .i64 1000000] rfl (by (try simp only [List.map_toArray, List.map_cons, List.map_nil]); first | done | rfl | (simp only [List.length_drop, List.length_take]; rfl)) ?_; (with_reducible refine (impl_common.calls k _ _ t671 1000000 t674 t675 _ ?side1 ?side2 A5.out).mono ?_); (case side1 => repeat (first | exact (Kd.R_reads' HO673.out).2.2 | (with_reducible refine Kd.C_alloc ?_ _) | (with_reducible refine Kd.C_drewN ?_ _) | (with_reducible refine Kd.C_drew ?_))); (case side2 => exact (Kd.R_reads' HO673.out).2.1); rintro e w' ⟨rfl, ⟨nd, rfl⟩⟩; refine ⟨_, rfl, ?_⟩))
    go_ret2
    exact ⟨by first | rfl | (simp [errW_none, errW_some] <;> rfl) | (simp [*, errW_none, errW_some] <;> rfl), by repeat (first | (with_reducible first | exact HB.out | apply below_alloc | apply pw_below_drewN | apply below_drew1 | refine below_set ?_ GE666.out) | exact HB.out)⟩
  · replace c3 := Bool.eq_false_iff.mpr c3
    subst c3
    have H1 : (some (0, false)) = some (r1, r2) := by rw [if_neg (show ¬ (false = true) by decide)] at H; exact H
    clear H
    have H := H1
    clear H1
    simp only [Option.some.injEq, Prod.mk.injEq] at H
    obtain ⟨rfl, rfl⟩ := H
    go_enter Try.func23, Try.ntmps23
    go_wp2_with (first | ((with_reducible refine gate_dst (N := 1) rfl ?_); refine box_event ?hg (N := 1) ?hd (cs := #[.slice A0_0 l0_0.length c0_0]) (t := 34) ?hr ?_; (case hd => rfl); (case hg => rfl); (case hr => first | (go_simp; done) | (go_simp; rfl)); intro gb666 hg w12 hbox hb; have n0_ := Aside0.mk (below_step (by repeat (first | (with_reducible first | exact HB.out | apply below_alloc | apply pw_below_drewN | apply below_drew1) | exact HB.out)) hb); have n1_ := Aside0.mk (hbox); have n2_ := Aside0.mk ((by rw [hg]; exact (below_size (by repeat (first | (with_reducible first | exact HB.out | apply below_alloc | apply pw_below_drewN | apply below_drew1) | exact HB.out))) : w.heap.size ≤ gb666)); have n3_ := Aside0.mk ((by rw [hg]; exact (below_size (by repeat (first | (with_reducible first | exact HB.out | apply below_alloc | apply pw_below_drewN | apply below_drew1) | exact HB.out))) : w.heap.size ≤ gb666)); clear HB; have HB := n0_; have BK666 := n1_; have GW666 := n2_; have GE666 := n3_; clear n0_ n1_ n2_ n3_; clear hb hbox hg; have hcz13_0 : w12.cell? ⟨gb666, 0, none⟩ = some (.slice A0_0 l0_0.length c0_0) := (blk_cell BK666.out 0).trans rfl; have hfz13_0 := blk_frozen BK666.out 0) | ((with_reducible refine gate_callee (f := 35) rfl ?_); refine goesL_ (some 8) rfl rfl Try.func35 (by kernel_rfl) rfl #[.agg #[.slice A0_0 l0_0.length c0_0]] rfl (by (try simp only [List.map_toArray, List.map_cons, List.map_nil]); first | done | rfl | (simp only [List.length_drop, List.length_take]; rfl)) ?_; (with_reducible refine (impl_linearCycles.calls k _ _ l0_0 t667 false _ ?side1 ?side2 A2.out).mono ?_); (case side1 => repeat (first | exact (Kd.C_below HR0_0.out HB.out) | (with_reducible refine Kd.C_alloc ?_ _) | (with_reducible refine Kd.C_drewN ?_ _) | (with_reducible refine Kd.C_drew ?_))); (case side2 => exact HC0_0.out); rintro e w14 ⟨v668, rfl, ho0, hb⟩; refine ⟨_, rfl, ?_⟩; have n0_ := Aside0.mk (Kd.S_lower ho0 (below_size (by repeat (first | (with_reducible first | exact HB.out | apply below_alloc | apply pw_below_drewN | apply below_drew1 | refine below_set ?_ GE666.out) | exact HB.out)))); have n1_ := Aside0.mk (blk_below (g := gb666) (o := .cells #[.slice A0_0 l0_0.length c0_0] 34 (0, 0)) (by (with_reducible repeat (first | refine blk_drewN ?_ _ | refine blk_drew ?_ | refine blk_alloc ?_ _)); exact BK666.out) hb); have n2_ := Aside0.mk (below_step (by repeat (first | (with_reducible first | exact HB.out | apply below_alloc | apply pw_below_drewN | apply below_drew1 | refine below_set ?_ GE666.out) | exact HB.out)) hb); clear BK666; clear HB; have HO669 := n0_; have BK666 := n1_; have HB := n2_; clear n0_ n1_ n2_; (try clear hb); (try clear hb2); (try clear hk); (try clear hi); (try clear ho0)))
    go_ret2
    exact ⟨by first | rfl | (simp [errW_none, errW_some] <;> rfl) | (simp [*, errW_none, errW_some] <;> rfl), by repeat (first | (with_reducible first | exact HB.out | apply below_alloc | apply pw_below_drewN | apply below_drew1 | refine below_set ?_ GE666.out) | exact HB.out)⟩

end Go.Proofs.Ytnihjpnheooeoaa.F
end

section
namespace Go.Proofs.Ytnihjpnheooeoaa.Q
open Go.RowKit Go.Proofs.YtnihjpnheooeoaaW.PrintWords Go.Proofs.Ytnihjpnheooeoaa.F
set_option linter.unusedVariables false
def enc (w : List Int) : Ln := toLn (T10 w)
def dec (n : Nat) (x : Ln) : List Int := [x.f0, x.f1, x.f2, x.f3, x.f4, x.f5, x.f6, x.f7, x.f8, x.f9].take n
theorem dec_enc {w : List Int} {n : Nat} (hn : w.length = n) (h : n ≤ 10) : dec n (enc w) = w := by
  subst hn
  unfold dec
  refine ext_getD (by rw [List.length_take]; simp only [List.length_cons, List.length_nil]; omega) (fun i hi => ?_)
  rw [List.length_take] at hi
  have h1 : i < w.length := by omega
  have h2 : i < 10 := by omega
  rw [List.getD_eq_getElem?_getD, List.getElem?_take, if_pos h1]
  match i, h2 with
  | 0, _ => rfl
  | 1, _ => rfl
  | 2, _ => rfl
  | 3, _ => rfl
  | 4, _ => rfl
  | 5, _ => rfl
  | 6, _ => rfl
  | 7, _ => rfl
  | 8, _ => rfl
  | 9, _ => rfl
  | _ + 10, h => exact absurd h (by omega)
/-- The motion on lines, for all lines. -/
def mv (p : List Int) (x : Ln) : Ln := enc (proL p (dec p.length x))
def allLn (p : List Int) : List Ln := (rowsTo p (ways p 0)).map enc
theorem mv_enc {p w : List Int} (hp : PO p) (hw : ordB p w = true) : mv p (enc w) = enc (proL p w) := by
  unfold mv; rw [dec_enc (ordB_len hw) hp.small]
theorem enc_inj {p w v : List Int} (hp : PO p) (hw : ordB p w = true) (hv : ordB p v = true) (h : enc w = enc v) : w = v := by
  have h1 := dec_enc (ordB_len hw) hp.small
  have h2 := dec_enc (ordB_len hv) hp.small
  rw [← h1, h, h2]
theorem mem_allLn {p : List Int} (hp : PO p) {x : Ln} : x ∈ allLn p ↔ ∃ w, ordB p w = true ∧ enc w = x := by
  unfold allLn
  rw [List.mem_map]
  exact ⟨fun ⟨w, h, e⟩ => ⟨w, (mem_rows hp w).1 h, e⟩, fun ⟨w, h, e⟩ => ⟨w, (mem_rows hp w).2 h, e⟩⟩
theorem proL_ord {p : List Int} (hp : PO p) {w : List Int} (h : ordB p w = true) : ordB p (proL p w) = true := by
  have := hp.pos
  have := ordB_len h
  exact (upL_ok h (p.length - 1) (by omega)).1
theorem unL_proL {p w : List Int} (hp : PO p) (h : ordB p w = true) : unL p (proL p w) = w := by
  have := hp.pos
  have := ordB_len h
  exact dnL_upL h (p.length - 1) (by omega)
theorem mv_Mv {p : List Int} (hp : PO p) : Mv (mv p) (allLn p) := by
  constructor
  · intro x hx
    obtain ⟨w, hw, rfl⟩ := (mem_allLn hp).1 hx
    rw [mv_enc hp hw]
    exact (mem_allLn hp).2 ⟨_, proL_ord hp hw, rfl⟩
  · intro x hx y hy e
    obtain ⟨w, hw, rfl⟩ := (mem_allLn hp).1 hx
    obtain ⟨v, hv, rfl⟩ := (mem_allLn hp).1 hy
    rw [mv_enc hp hw, mv_enc hp hv] at e
    have h := enc_inj hp (proL_ord hp hw) (proL_ord hp hv) e
    have h2 := congrArg (unL p) h
    rw [unL_proL hp hw, unL_proL hp hv] at h2
    rw [h2]
theorem allLn_len (p : List Int) : (allLn p).length = ways p 0 := by unfold allLn; rw [List.length_map, rowsTo_len]
theorem allLn_nodup {p : List Int} (hp : PO p) : (allLn p).Nodup := by
  unfold allLn
  refine List.pairwise_map.2 (List.Pairwise.imp_of_mem ?_ (rows_nodup hp))
  intro a b ha hb hab e
  exact hab (enc_inj hp ((mem_rows hp a).1 ha) ((mem_rows hp b).1 hb) e)
theorem lnOk_enc {p w : List Int} (hp : PO p) (hw : ordB p w = true) : lnOk (enc w) = true := by
  have hn := hp.small
  have key : ∀ i, lnWf (w.getD i 0) = true := fun i => by
    have h : 0 ≤ w.getD i 0 ∧ w.getD i 0 ≤ 10 := by
      rw [List.getD_eq_getElem?_getD]
      rcases Nat.lt_or_ge i w.length with h | h
      · rw [List.getElem?_eq_getElem h]
        have := ordB_range hw _ (List.getElem_mem h)
        show 0 ≤ w[i] ∧ w[i] ≤ 10
        omega
      · rw [List.getElem?_eq_none h]; exact ⟨Int.le_refl _, by decide⟩
    unfold lnWf
    rw [Bool.and_eq_true, decide_eq_true_eq, decide_eq_true_eq]
    omega
  unfold lnOk enc toLn T10
  simp only [key, Bool.and_true]
theorem cyRun_eq {F : Ln → Option Ln} {f : Ln → Ln} {V : List Ln} {x : Ln} {c N : Nat} (hN : V.length + c ≤ N) (hN2 : N ≤ 1000) (hc : 0 < c) (hret : itN f c x = x) (hbef : ∀ j, j < c → itN f j x ∉ V ++ wayN f j x) (hF : ∀ j, F (itN f j x) = some (f (itN f j x))) (hok : ∀ j, lnOk (itN f j x) = true) :
    ∀ d j k, j + d = c → d < k → cyRun F k (V ++ wayN f j x) (wayN f j x) (itN f j x) = some (V ++ wayN f c x, wayN f c x) := by
  intro d
  induction d with
  | zero =>
    intro j k hj hk
    obtain ⟨k, rfl⟩ : ∃ k', k = k' + 1 := ⟨k - 1, by omega⟩
    have : j = c := by omega
    subst this
    unfold cyRun
    rw [if_pos (hok _), if_pos (lnIn_iff.2 ?_)]
    rw [hret]
    exact List.mem_append_right _ (mem_wayN.2 ⟨0, hc, rfl⟩)
  | succ d ih =>
    intro j k hj hk
    obtain ⟨k, rfl⟩ : ∃ k', k = k' + 1 := ⟨k - 1, by omega⟩
    unfold cyRun
    rw [if_pos (hok _), if_neg (fun h => hbef j (by omega) (lnIn_iff.1 h)), if_pos ⟨by rw [List.length_append, wayN_len]; omega, by rw [wayN_len]; omega⟩, hF, Option.bind_some, List.append_assoc, ← wayN_succ]
    exact ih (j + 1) k (by omega) (by omega)
theorem met_len {f : Ln → Ln} {L V : List Ln} {out : List (List Ln)} (h : Met f L V out) : out.length ≤ V.length := by
  rw [h.flat]
  have key : ∀ l : List (List Ln), (∀ o ∈ l, 0 < o.length) → l.length ≤ l.flatten.length := by
    intro l
    induction l with
    | nil => intro _; exact Nat.le_refl _
    | cons o l ih =>
      intro hl
      have h1 := ih (fun o ho => hl o (List.mem_cons_of_mem _ ho))
      have h2 := hl o List.mem_cons_self
      rw [List.flatten_cons, List.length_append, List.length_cons]
      omega
  exact key out (fun o ho => (h.cyc o ho).pos)
theorem cyAll_eq {F : Ln → Option Ln} {f : Ln → Ln} {L : List Ln} (hf : Mv f L) (hL : L.length ≤ 1000) (hF : ∀ x ∈ L, F x = some (f x)) (hok : ∀ x ∈ L, lnOk x = true) {k : Nat} (hk : L.length < k) :
    ∀ (l V : List Ln) (out : List (List Ln)), (∀ x ∈ l, x ∈ L) → Met f L V out → ∃ V' out', Met f L V' out' ∧ (∀ x ∈ V, x ∈ V') ∧ (∀ x ∈ l, x ∈ V') ∧ cyAll F k l V out = some out' := by
  intro l
  induction l with
  | nil => intro V out _ hV; exact ⟨V, out, hV, fun x h => h, (by intro x h; cases h), rfl⟩
  | cons x l ih =>
    intro V out hl hV
    have hx := hl x List.mem_cons_self
    by_cases hin : x ∈ V
    · obtain ⟨V', out', h1, h2, h3, h4⟩ := ih V out (fun y hy => hl y (List.mem_cons_of_mem _ hy)) hV
      refine ⟨V', out', h1, h2, fun y hy => ?_, ?_⟩
      · rcases List.mem_cons.1 hy with rfl | hy
        · exact h2 _ hin
        · exact h3 y hy
      · unfold cyAll
        rw [if_pos (hok x hx), if_pos (lnIn_iff.2 hin)]
        exact h4
    · obtain ⟨c, hc, hle, hret, hbef, hM⟩ := new_cycle hf hV hx hin
      obtain ⟨V', out', h1, h2, h3, h4⟩ := ih _ _ (fun y hy => hl y (List.mem_cons_of_mem _ hy)) hM
      refine ⟨V', out', h1, fun y hy => h2 y (List.mem_append_left _ hy), fun y hy => ?_, ?_⟩
      · rcases List.mem_cons.1 hy with rfl | hy
        · exact h2 _ (List.mem_append_right _ (mem_wayN.2 ⟨0, hc, rfl⟩))
        · exact h3 y hy
      · have hl2 := met_len hV
        have hV2 : V.length ≤ L.length := by omega
        have hrun := cyRun_eq (F := F) (V := V) hle hL hc hret hbef (fun j => hF _ (hf.it j x hx)) (fun j => hok _ (hf.it j x hx)) c 0 k (by omega) (by omega)
        have e0 : wayN f 0 x = [] := rfl
        rw [e0, List.append_nil] at hrun
        unfold cyAll
        rw [if_pos (hok x hx), if_neg (fun h => hin (lnIn_iff.1 h)), if_pos (by omega)]
        have e1 : itN f 0 x = x := rfl
        rw [e1] at hrun
        rw [hrun, Option.bind_some]
        exact h4
theorem lcLines_eq : ∀ (l : List (List Int)) (out : List Ln), (∀ w ∈ l, w.length ≤ 10) → out.length + l.length ≤ 1000 → lcLines l out = some (out ++ l.map enc)
  | [], out, _, _ => by rw [List.map_nil, List.append_nil]; rfl
  | w :: l, out, h, hl => by
    rw [List.length_cons] at hl
    unfold lcLines
    rw [if_pos (by omega), lineOf_eq (h w List.mem_cons_self), Option.bind_some, lcLines_eq l _ (fun v hv => h v (List.mem_cons_of_mem _ hv)) (by rw [List.length_append, List.length_singleton]; omega), List.append_assoc]
    rfl
theorem lcMove_enc (k : Nat) (p w : List Int) : lcMove k p (enc w) = (pro10 k p w).bind fun t => some (toLn t) := rfl
theorem ev_mem {α β : Type} {g : Nat → α → Option β} {r : α → β} : ∀ l : List α, (∀ x ∈ l, Ev (fun k => g k x) (r x)) → ∃ K, ∀ k, K ≤ k → ∀ x ∈ l, g k x = some (r x)
  | [], _ => ⟨0, fun k _ x hx => by cases hx⟩
  | y :: l, h => by
    obtain ⟨K, hK⟩ := ev_mem l (fun x hx => h x (List.mem_cons_of_mem _ hx))
    obtain ⟨K', hK'⟩ := h y List.mem_cons_self
    refine ⟨K + K', fun k hk x hx => ?_⟩
    rcases List.mem_cons.1 hx with rfl | hx
    · exact hK' k (by omega)
    · exact hK k (by omega) x hx
/-- The program's cycles are whole, and have each order once. -/
theorem linearCycles_ev {p : List Int} (hp : PO p) (hw : ways p 0 ≤ 500) : ∃ V out, Met (mv p) (allLn p) V out ∧ List.Perm V (allLn p) ∧ Ev (fun k => impl_linearCycles.f k p) (out, true) := by
  have hn := hp.small
  have hfew := few_ev p
  rw [if_pos ⟨(isPo_iff p).2 hp, hw⟩] at hfew
  obtain ⟨K1, h1⟩ := hfew
  obtain ⟨K2, h2⟩ := ev_mem (g := fun k w => pro10 k p w) (r := fun w => T10 (proL p w)) (rowsTo p (ways p 0)) (fun w h => pro10_ev hp ((mem_rows hp w).1 h))
  have hok : ∀ x ∈ allLn p, lnOk x = true := fun x hx => by
    obtain ⟨w, hw2, rfl⟩ := (mem_allLn hp).1 hx
    exact lnOk_enc hp hw2
  have hF : ∀ k, K2 ≤ k → ∀ x ∈ allLn p, lcMove k p x = some (mv p x) := fun k hk x hx => by
    obtain ⟨w, hw2, rfl⟩ := (mem_allLn hp).1 hx
    rw [lcMove_enc, h2 k hk w ((mem_rows hp w).2 hw2), Option.bind_some, mv_enc hp hw2]
    rfl
  have hlen := allLn_len p
  obtain ⟨V, out, hM, _, hall, hrun⟩ := cyAll_eq (mv_Mv hp) (by omega) (hF (K2 + 600) (by omega)) hok (k := K2 + 600) (by omega) (allLn p) [] [] (fun x h => h) (Met.nil _ _)
  have hperm : List.Perm V (allLn p) := (List.perm_ext_iff_of_nodup hM.nodup (allLn_nodup hp)).2 fun x => ⟨fun h => hM.sub x h, fun h => hall x h⟩
  refine ⟨V, out, hM, hperm, K1 + K2 + 600, fun k hk => ?_⟩
  have h3 := h1 k (by omega)
  dsimp only at h3
  show impl_linearCycles.f k p = _
  unfold impl_linearCycles.f
  rw [h3, Option.bind_some, if_pos rfl, lcLines_eq _ [] (fun w h => by rw [rowsTo_mem w h]; omega) (by rw [rowsTo_len, List.length_nil]; omega), Option.bind_some, List.nil_append]
  obtain ⟨V2, out2, hM2, _, hall2, hrun2⟩ := cyAll_eq (mv_Mv hp) (by omega) (hF k (by omega)) hok (k := k) (by omega) (allLn p) [] [] (fun x h => h) (Met.nil _ _)
  have hsame : out2 = out := by
    have hm : ∀ j, K2 + 600 ≤ j → cyAll (lcMove j p) j (allLn p) [] [] = some out := by
      intro j hj
      induction j with
      | zero => omega
      | succ j ih =>
        rcases Nat.lt_or_ge j (K2 + 600) with h | h
        · rw [show j + 1 = K2 + 600 by omega]; exact hrun
        · exact cyAll_mono (fun x => by unfold lcMove; exact LeO.bind (impl_Poset_promoted.mono _ _ _ _ _ _ _ _ _ _ _ _) (fun _ => LeO.refl _)) j (allLn p) [] [] _ (ih h)
    have := hm k (by omega)
    rw [hrun2] at this
    exact Option.some.inj this
  subst hsame
  rw [show (rowsTo p (ways p 0)).map enc = allLn p from rfl, hrun2]
  rfl
theorem linearCycles_none {p : List Int} (h : ¬ (isPo p = true ∧ ways p 0 ≤ 500)) : Ev (fun k => impl_linearCycles.f k p) ([], false) := by
  have hfew := few_ev p
  rw [if_neg h] at hfew
  unfold impl_linearCycles.f
  exact Ev.bind hfew (Ev.no (by simp) (Ev.now _))
/-- So many promotions of a list and of its line. -/
theorem it_enc {p : List Int} (hp : PO p) : ∀ t w, ordB p w = true → itN (mv p) t (enc w) = enc (itL (proL p) w t)
  | 0, _, _ => rfl
  | t + 1, w, hw => by
    show _ = enc (itL (proL p) (proL p w) t)
    rw [← it_enc hp t (proL p w) (proL_ord hp hw), ← mv_enc hp hw, itN_in]
theorem itL_ord {p : List Int} (hp : PO p) : ∀ t w, ordB p w = true → ordB p (itL (proL p) w t) = true
  | 0, _, h => h
  | t + 1, w, h => itL_ord hp t _ (proL_ord hp h)
theorem back_iff {p : List Int} (hp : PO p) {w : List Int} (hw : ordB p w = true) (t : Nat) : itN (mv p) t (enc w) = enc w ↔ itL (proL p) w t = w := by
  rw [it_enc hp t w hw]
  exact ⟨fun h => enc_inj hp (itL_ord hp t w hw) hw h, fun h => by rw [h]⟩
end Go.Proofs.Ytnihjpnheooeoaa.Q
end

section
namespace Go.Proofs.Ytnihjpnheooeoaa.Q
open Go.RowKit Go.Proofs.YtnihjpnheooeoaaW.PrintWords Go.Proofs.Ytnihjpnheooeoaa.F
set_option linter.unusedVariables false
theorem lens_ev {out : List (List Ln)} (hl : out.length ≤ 1000) : Ev (fun k => impl_line_37.f k out) (ints (out.map List.length)) := by
  unfold impl_line_37.f
  have key : ∀ i, i ≤ out.length → Ev (fun k => impl_line_37.l0 k (ints ((out.take i).map List.length)) out (out.length : Int) (i : Int)) (ints (out.map List.length)) := by
    refine downTo _ ?_ ?_
    · rw [List.take_length]
      exact Ev.step (by intro k; simp only [impl_line_37.l0]; rfl) (Ev.no (by omega) (Ev.now _))
    · intro i hi ih
      refine Ev.step (by intro k; simp only [impl_line_37.l0]; rfl) (Ev.yes (by omega) (Ev.yes (by omega) (Ev.yes (by omega) (Ev.yes (by rw [ints_len, List.length_map, List.length_take]; omega) ?_))))
      have hrd : ∀ z : List Ln, out.getD (i : Int).toNat z = out[i] := fun z => by rw [Int.toNat_natCast, List.getD_eq_getElem?_getD, List.getElem?_eq_getElem hi]; rfl
      rw [wid1 hi (by omega)]
      have e : ints ((out.take i).map List.length) ++ [((out.getD (i : Int).toNat ([] : List Ln)).length : Int)] = ints ((out.take (i + 1)).map List.length) := by
        rw [hrd, List.take_add_one, List.getElem?_eq_getElem hi, List.map_append, ints_app]
        rfl
      have ih2 := ih
      rw [← e] at ih2
      exact ih2
  have := key 0 (Nat.zero_le _)
  exact this
theorem fixN_le (t : Nat) : ∀ l : List Nat, fixN t l ≤ l.sum
  | [] => Nat.le_refl _
  | c :: l => by
    have := fixN_le t l
    unfold fixN
    rw [List.sum_cons]
    split <;> omega
theorem met_sum {f : Ln → Ln} {L V : List Ln} {out : List (List Ln)} (h : Met f L V out) : (out.map List.length).sum = V.length := by
  rw [h.flat, List.length_flatten]
theorem fixed_run {t : Nat} (ht : t ≤ 100) {l : List Nat} (hl : l.length ≤ 1000) (hs : l.sum ≤ 1000) (hpos : ∀ c ∈ l, 0 < c) : ∀ i, i ≤ l.length → ∀ a : Nat, a ≤ 1000 → Ev (fun k => impl_fixed.l0 k (t : Int) (a : Int) (ints l) (l.length : Int) (i : Int)) (((a + fixN t (l.drop i) : Nat) : Int)) ∨ 1000 < a + (l.drop i).sum := by
  refine downTo _ ?_ ?_
  · intro a _
    left
    rw [List.drop_length]
    exact Ev.step (by intro k; simp only [impl_fixed.l0]; rfl) (Ev.no (by omega) (Ev.now _))
  · intro i hi ih a ha
    have hd : l.drop i = l[i] :: l.drop (i + 1) := List.drop_eq_getElem_cons hi
    have hc := hpos _ (List.getElem_mem hi)
    have hg : l.getD i 0 = l[i] := by rw [List.getD_eq_getElem?_getD, List.getElem?_eq_getElem hi]; rfl
    rw [hd, List.sum_cons]
    by_cases hbig : 1000 < a + (l[i] + (l.drop (i + 1)).sum)
    · right; exact hbig
    left
    refine Ev.step (by intro k; simp only [impl_fixed.l0]; rfl) (Ev.yes (by omega) (Ev.yes (by omega) (Ev.yes (by rw [ints_len]; omega) ?_)))
    rw [rd_ints, hg, wid1 hi (by omega)]
    generalize l[i] = c at hc hbig ⊢
    refine Ev.no (by omega) ?_
    rw [tmodN]
    show Ev _ (((a + ((if t % c = 0 then c else 0) + fixN t (l.drop (i + 1))) : Nat) : Int))
    by_cases h : t % c = 0
    · rw [if_pos h]
      refine Ev.yes (by omega) ?_
      rw [show wrap64 ((a : Int) + (c : Int)) = ((a + c : Nat) : Int) by rw [wid (by omega) (by omega)]; omega]
      rcases ih (a + c) (by omega) with h1 | h1
      · rw [Nat.add_assoc] at h1; exact h1
      · omega
    · rw [if_neg h, Nat.zero_add]
      refine Ev.no (by omega) ?_
      rcases ih a ha with h1 | h1
      · exact h1
      · omega
theorem fixed_ev {f : Ln → Ln} {L V : List Ln} {out : List (List Ln)} {t : Nat} (ht : t ≤ 100) (h : Met f L V out) (hV : V.length ≤ 500) : Ev (fun k => impl_fixed.f k (ints (out.map List.length)) (t : Int)) ((fixN t (out.map List.length) : Nat) : Int) := by
  unfold impl_fixed.f
  have hs := met_sum h
  have hl := met_len h
  rw [ints_len]
  rcases fixed_run ht (l := out.map List.length) (by rw [List.length_map]; omega) (by omega) (fun c hc => by
    obtain ⟨o, ho, rfl⟩ := List.mem_map.1 hc
    exact (h.cyc o ho).pos) 0 (Nat.zero_le _) 0 (by omega) with h1 | h1
  · rw [List.drop_zero, Nat.zero_add] at h1; exact h1
  · rw [List.drop_zero] at h1; omega
end Go.Proofs.Ytnihjpnheooeoaa.Q
end

section
namespace Go.Proofs.Ytnihjpnheooeoaa.F
open Go.RowKit Go.Proofs.YtnihjpnheooeoaaW.PrintWords Go.Proofs.YtnihjpnheooeoaaW.PrintLast Go.Proofs.YtnihjpnheooeoaaW.PrintMore
set_option linter.unusedVariables false
set_option linter.unusedSimpArgs false
theorem laws_FnExactPromotionOrder.belowD {w w' : World} (h : Drawn0 w w') : Below w.heap.size w w' := by
  obtain ⟨m, rfl⟩ := h
  exact pw_below_drewN (Below.refl _ _) m
set_option maxHeartbeats 8000000 in
set_option maxRecDepth 100000 in
theorem laws_FnExactPromotionOrder.calls0 (k k1 : Nat) (A0 : Option Addr) (c0 : Nat) (l0 : List Int) (z1 : Int) (w : World) (hr0 : Kd.C (Kd.int .i64) w A0 l0.length l0) (hc0 : l0.length ≤ c0) (hy0_ : laws_szPoset.f l0 1048576 = some z1) (hx : decide (z1 < 0) = true) :
    Calls Try.prog 7 #[.agg #[.slice A0 l0.length c0]] w fun e w' => e = .returned (.bool true) ∧ Below w.heap.size w w' := by
  have HR0 := Aside0.mk hr0
  have HC0 := Aside0.mk hc0
  clear hr0 hc0
  have hy0 := Aside0.mk hy0_
  clear hy0_
  have HT0 := Aside0.mk (Below.refl w.heap.size w)
  go_enter Try.func7, Try.ntmps7
  go_wp2_with (first | ((with_reducible refine gate_dst (N := 1) rfl ?_); refine box_event ?hg (N := 1) ?hd (cs := #[.slice A0 l0.length c0]) (t := 31) ?hr ?_; (case hd => rfl); (case hg => rfl); (case hr => first | (go_simp; done) | (go_simp; rfl)); intro g1 hg_ w1 hbox_ hb_; have HB1 := Aside0.mk hb_; have HZ1 : Aside0 (w.heap.size ≤ w1.heap.size) := ⟨hb_.size⟩; have HT1 := Aside0.mk (HT0.out.trans (Below.mono hb_ HT0.out.size)); have HG1 : Aside0 (w.heap.size ≤ g1 ∧ g1 < w1.heap.size) := ⟨Nat.le_of_eq hg_.symm, blk_lt hbox_⟩; have HBK_ := Aside0.mk hbox_; clear hb_ hbox_ hg_; have HBK1 := HBK_; clear HBK_; have hcz1 : w1.cell? ⟨g1, 0, none⟩ = some (.slice A0 l0.length c0) := (blk_cell HBK1.out 0).trans rfl; have hfz1 := blk_frozen HBK1.out 0))
  have hcall_ := laws_szPoset.calls _ _ l0 1048576 z1 _ (Kd.C_below HR0.out HT1.out) HC0.out hy0.out
  refine hcall_.mono ?_
  clear hcall_ 
  rintro e w2 ⟨rfl, hb_⟩
  have HB2 := Aside0.mk hb_
  have HZ2 : Aside0 (w1.heap.size ≤ w2.heap.size) := ⟨hb_.size⟩
  have HT2 := Aside0.mk (HT1.out.trans (Below.mono hb_ HT1.out.size))
  clear hb_
  have n_ := Aside0.mk (blk_below HBK1.out HB2.out)
  clear HBK1 hcz1
  have HBK1 := n_
  clear n_
  have hcz1 : w2.cell? ⟨g1, 0, none⟩ = some (.slice A0 l0.length c0) := (blk_cell HBK1.out 0).trans rfl
  go_wp2
  go_ret
  exact ⟨by first | rfl | (simp; done) | (simp [*]; done), by repeat (first | (with_reducible first | exact HT2.out | apply below_alloc | apply pw_below_drewN | apply below_drew1) | exact HT2.out)⟩
set_option maxHeartbeats 8000000 in
set_option maxRecDepth 100000 in
theorem laws_FnExactPromotionOrder.calls1 (k k1 : Nat) (A0 : Option Addr) (c0 : Nat) (l0 : List Int) (z1 : Int) (v2 : Int) (v3 : Bool) (w : World) (hr0 : Kd.C (Kd.int .i64) w A0 l0.length l0) (hc0 : l0.length ≤ c0) (hy0_ : laws_szPoset.f l0 1048576 = some z1) (hy1 : decide (z1 < 0) = false) (hy2_ : laws_toPoset.f k1 l0 = some l0) (hy3_ : spec_PromotionOrder.f k l0 = some (v2, v3)) (hy4_ : impl_PromotionOrder.f k l0 = some (v2, v3)) (hy5_ : laws_eqPoset.f k1 l0 l0 = some true) :
    Calls Try.prog 7 #[.agg #[.slice A0 l0.length c0]] w fun e w' => e = .returned (.bool true) ∧ Below w.heap.size w w' := by
  have HR0 := Aside0.mk hr0
  have HC0 := Aside0.mk hc0
  clear hr0 hc0
  have hy0 := Aside0.mk hy0_
  clear hy0_
  have hy2 := Aside0.mk hy2_
  clear hy2_
  have hy3 := Aside0.mk hy3_
  clear hy3_
  have hy4 := Aside0.mk hy4_
  clear hy4_
  have hy5 := Aside0.mk hy5_
  clear hy5_
  have HT0 := Aside0.mk (Below.refl w.heap.size w)
  go_enter Try.func7, Try.ntmps7
  go_wp2_with (first | ((with_reducible refine gate_dst (N := 1) rfl ?_); refine box_event ?hg (N := 1) ?hd (cs := #[.slice A0 l0.length c0]) (t := 31) ?hr ?_; (case hd => rfl); (case hg => rfl); (case hr => first | (go_simp; done) | (go_simp; rfl)); intro g1 hg_ w1 hbox_ hb_; have HB1 := Aside0.mk hb_; have HZ1 : Aside0 (w.heap.size ≤ w1.heap.size) := ⟨hb_.size⟩; have HT1 := Aside0.mk (HT0.out.trans (Below.mono hb_ HT0.out.size)); have HG1 : Aside0 (w.heap.size ≤ g1 ∧ g1 < w1.heap.size) := ⟨Nat.le_of_eq hg_.symm, blk_lt hbox_⟩; have HBK_ := Aside0.mk hbox_; clear hb_ hbox_ hg_; have HBK1 := HBK_; clear HBK_; have hcz1 : w1.cell? ⟨g1, 0, none⟩ = some (.slice A0 l0.length c0) := (blk_cell HBK1.out 0).trans rfl; have hfz1 := blk_frozen HBK1.out 0))
  have hcall_ := laws_szPoset.calls _ _ l0 1048576 z1 _ (Kd.C_below HR0.out HT1.out) HC0.out hy0.out
  refine hcall_.mono ?_
  clear hcall_ 
  rintro e w2 ⟨rfl, hb_⟩
  have HB2 := Aside0.mk hb_
  have HZ2 : Aside0 (w1.heap.size ≤ w2.heap.size) := ⟨hb_.size⟩
  have HT2 := Aside0.mk (HT1.out.trans (Below.mono hb_ HT1.out.size))
  clear hb_
  have n_ := Aside0.mk (blk_below HBK1.out HB2.out)
  clear HBK1 hcz1
  have HBK1 := n_
  clear n_
  have hcz1 : w2.cell? ⟨g1, 0, none⟩ = some (.slice A0 l0.length c0) := (blk_cell HBK1.out 0).trans rfl
  go_wp2_with fail
  have hcall_ := laws_toPoset.calls k1 _ _ l0 l0 _ (Kd.C_below HR0.out HT2.out) HC0.out hy2.out
  refine hcall_.mono ?_
  clear hcall_ 
  rintro e w3 ⟨v1x, rfl, hx1_, hb_⟩
  have HB3 := Aside0.mk hb_
  have HZ3 : Aside0 (w2.heap.size ≤ w3.heap.size) := ⟨hb_.size⟩
  have HT3 := Aside0.mk (HT2.out.trans (Below.mono hb_ HT2.out.size))
  clear hb_
  have n_ := Aside0.mk (blk_below HBK1.out HB3.out)
  clear HBK1 hcz1
  have HBK1 := n_
  clear n_
  have hcz1 : w3.cell? ⟨g1, 0, none⟩ = some (.slice A0 l0.length c0) := (blk_cell HBK1.out 0).trans rfl
  have HX1 := Aside0.mk (Kd.R_lower (Kd.R_mono (ok' := fun k_ => w2.heap.size ≤ k_ ∧ k_ < w3.heap.size) (Kd.R_bound hx1_) (fun k_ h_ => ⟨h_.2.1, h_.2.2.1⟩)) HT2.out.size)
  clear hx1_
  go_wp2_with fail
  obtain ⟨A1_, c1_, e1_, hl1_, hC1_⟩ := Kd.R_reads HX1.out
  have hcall_ := spec_PromotionOrder.calls k _ _ l0 v2 v3 _ hC1_ hl1_ hy3.out
  rw [← e1_] at hcall_
  refine hcall_.mono ?_
  clear hcall_ hC1_ hl1_ e1_ c1_ A1_
  rintro e w4 ⟨rfl, hb_⟩
  have HB4 := Aside0.mk hb_
  have HZ4 : Aside0 (w3.heap.size ≤ w4.heap.size) := ⟨hb_.size⟩
  have HT4 := Aside0.mk (HT3.out.trans (Below.mono hb_ HT3.out.size))
  clear hb_
  have n_ := Aside0.mk (Kd.R_below HX1.out HB4.out)
  clear HX1
  have HX1 := n_
  clear n_
  have n_ := Aside0.mk (blk_below HBK1.out HB4.out)
  clear HBK1 hcz1
  have HBK1 := n_
  clear n_
  have hcz1 : w4.cell? ⟨g1, 0, none⟩ = some (.slice A0 l0.length c0) := (blk_cell HBK1.out 0).trans rfl
  go_wp2_with fail
  have hcall_ := laws_toPoset.calls k1 _ _ l0 l0 _ (Kd.C_below HR0.out HT4.out) HC0.out hy2.out
  refine hcall_.mono ?_
  clear hcall_ 
  rintro e w5 ⟨v2x, rfl, hx2_, hb_⟩
  have HB5 := Aside0.mk hb_
  have HZ5 : Aside0 (w4.heap.size ≤ w5.heap.size) := ⟨hb_.size⟩
  have HT5 := Aside0.mk (HT4.out.trans (Below.mono hb_ HT4.out.size))
  clear hb_
  have n_ := Aside0.mk (Kd.R_below HX1.out HB5.out)
  clear HX1
  have HX1 := n_
  clear n_
  have n_ := Aside0.mk (blk_below HBK1.out HB5.out)
  clear HBK1 hcz1
  have HBK1 := n_
  clear n_
  have hcz1 : w5.cell? ⟨g1, 0, none⟩ = some (.slice A0 l0.length c0) := (blk_cell HBK1.out 0).trans rfl
  have HX2 := Aside0.mk (Kd.R_lower (Kd.R_mono (ok' := fun k_ => w4.heap.size ≤ k_ ∧ k_ < w5.heap.size) (Kd.R_bound hx2_) (fun k_ h_ => ⟨h_.2.1, h_.2.2.1⟩)) HT4.out.size)
  clear hx2_
  obtain ⟨Aq2, cq2, eq_⟩ := Kd.R_slice HX2.out
  subst eq_
  go_wp2_with (first | ((with_reducible refine gate_dst (N := 6) rfl ?_); refine box_event ?hg (N := 6) ?hd (cs := #[.slice none 0 0]) (t := 34) ?hr ?_; (case hd => rfl); (case hg => rfl); (case hr => first | (go_simp; done) | (go_simp; rfl)); intro g6 hg_ w6 hbox_ hb_; have HB6 := Aside0.mk hb_; have HZ6 : Aside0 (w5.heap.size ≤ w6.heap.size) := ⟨hb_.size⟩; have HT6 := Aside0.mk (HT5.out.trans (Below.mono hb_ HT5.out.size)); have HG6 : Aside0 (w5.heap.size ≤ g6 ∧ g6 < w6.heap.size) := ⟨Nat.le_of_eq hg_.symm, blk_lt hbox_⟩; have HBK_ := Aside0.mk hbox_; clear hb_ hbox_ hg_; have n_ := Aside0.mk (Kd.R_below HX1.out HB6.out); clear HX1; have HX1 := n_; clear n_; have n_ := Aside0.mk (Kd.R_below HX2.out HB6.out); clear HX2; have HX2 := n_; clear n_; have n_ := Aside0.mk (blk_below HBK1.out HB6.out); clear HBK1 hcz1; have HBK1 := n_; clear n_; have hcz1 : w6.cell? ⟨g1, 0, none⟩ = some (.slice A0 l0.length c0) := (blk_cell HBK1.out 0).trans rfl; have HBK6 := HBK_; clear HBK_; have hcz6 : w6.cell? ⟨g6, 0, none⟩ = some (.slice none 0 0) := (blk_cell HBK6.out 0).trans rfl; have hfz6 := blk_frozen HBK6.out 0) | ((with_reducible refine gate_store (t := 34) (p := 6) rfl ?_); refine store_event (t := 34) (p := 6) (v := ?vo_) (w1 := (w6.setCell ⟨g6, 0, none⟩ (.slice Aq2 l0.length cq2))) ?hg ?ho ?hn ?hr ?_; (case ho => rfl); (case hg => rfl); (case hn => rfl); (case hr => first | (go_simp; done) | (go_simp; rfl)); intro w7 hw_; have hlt_ : w.heap.size ≤ g6 := (by have z1 := HZ1.out; have z2 := HZ2.out; have z3 := HZ3.out; have z4 := HZ4.out; have z5 := HZ5.out; have z6 := HZ6.out; have hg_ := HG6.out; have h0_ := HT0.out.size; omega); have HT7 : Aside0 (Below w.heap.size w w7) := ⟨by rw [hw_]; exact below_set HT6.out hlt_⟩; have HZ7 : Aside0 (w6.heap.size ≤ w7.heap.size) := ⟨by rw [hw_]; simp [World.setCell]⟩; have n_ : Aside0 (Kd.R (Kd.int .i64) 3 w7 w.heap.size (fun k_ => w2.heap.size ≤ k_ ∧ k_ < w3.heap.size) v1x l0) := ⟨by rw [hw_]; exact Kd.R_far HX1.out (p := ⟨g6, 0, none⟩) (fun k_ h_ => by have z1 := HZ1.out; have z2 := HZ2.out; have z3 := HZ3.out; have z4 := HZ4.out; have z5 := HZ5.out; have z6 := HZ6.out; have hg_ := HG6.out; show k_ ≠ g6; omega) _⟩; clear HX1; have HX1 := n_; clear n_; have n_ : Aside0 (Kd.R (Kd.int .i64) 3 w7 w.heap.size (fun k_ => w4.heap.size ≤ k_ ∧ k_ < w5.heap.size) (.slice Aq2 l0.length cq2) l0) := ⟨by rw [hw_]; exact Kd.R_far HX2.out (p := ⟨g6, 0, none⟩) (fun k_ h_ => by have z1 := HZ1.out; have z2 := HZ2.out; have z3 := HZ3.out; have z4 := HZ4.out; have z5 := HZ5.out; have z6 := HZ6.out; have hg_ := HG6.out; show k_ ≠ g6; omega) _⟩; clear HX2; have HX2 := n_; clear n_; have nb1_ : Aside0 (w7.heap[g1]? = some (.cells #[.slice A0 l0.length c0] 31 (0, 0))) := ⟨by rw [hw_]; exact (Below.heap_setCell _ _ _ _ (by have z1 := HZ1.out; have z2 := HZ2.out; have z3 := HZ3.out; have z4 := HZ4.out; have z5 := HZ5.out; have z6 := HZ6.out; have h1_ := HG1.out; have h2_ := HG6.out; show g1 ≠ g6; omega)).trans HBK1.out⟩; have nb6_ : Aside0 (w7.heap[g6]? = some (.cells #[.slice Aq2 l0.length cq2] 34 (0, 0))) := ⟨by rw [hw_]; exact one_setCell HBK6.out⟩; clear hcz1; clear hcz6; clear hw_; clear HBK1; have HBK1 := nb1_; clear nb1_; have hcz1 : w7.cell? ⟨g1, 0, none⟩ = some (.slice A0 l0.length c0) := (blk_cell HBK1.out 0).trans rfl; clear HBK6; have HBK6 := nb6_; clear nb6_; have hcz6 : w7.cell? ⟨g6, 0, none⟩ = some (.slice Aq2 l0.length cq2) := (blk_cell HBK6.out 0).trans rfl))
  obtain ⟨A2_, c2_, e2_, hl2_, hC2_⟩ := Kd.R_reads HX2.out
  have hcall_ := impl_PromotionOrder.calls k _ _ l0 v2 v3 _ hC2_ hl2_ hy4.out
  rw [← e2_] at hcall_
  refine hcall_.mono ?_
  clear hcall_ hC2_ hl2_ e2_ c2_ A2_
  rintro e w8 ⟨rfl, hb_⟩
  have HB8 := Aside0.mk hb_
  have HZ8 : Aside0 (w7.heap.size ≤ w8.heap.size) := ⟨hb_.size⟩
  have HT8 := Aside0.mk (HT7.out.trans (Below.mono hb_ HT7.out.size))
  clear hb_
  have n_ := Aside0.mk (Kd.R_below HX1.out HB8.out)
  clear HX1
  have HX1 := n_
  clear n_
  have n_ := Aside0.mk (Kd.R_below HX2.out HB8.out)
  clear HX2
  have HX2 := n_
  clear n_
  have n_ := Aside0.mk (blk_below HBK1.out HB8.out)
  clear HBK1 hcz1
  have HBK1 := n_
  clear n_
  have hcz1 : w8.cell? ⟨g1, 0, none⟩ = some (.slice A0 l0.length c0) := (blk_cell HBK1.out 0).trans rfl
  have n_ := Aside0.mk (blk_below HBK6.out HB8.out)
  clear HBK6 hcz6
  have HBK6 := n_
  clear n_
  have hcz6 : w8.cell? ⟨g6, 0, none⟩ = some (.slice Aq2 l0.length cq2) := (blk_cell HBK6.out 0).trans rfl
  go_wp2_with fail
  have HB9 := Aside0.mk (below_drew (Below.refl w8.heap.size w8))
  have HZ9 : Aside0 (w8.heap.size ≤ w8.drew.heap.size) := ⟨Nat.le_refl _⟩
  have HT9 := Aside0.mk (HT8.out.trans (Below.mono HB9.out HT8.out.size))
  have n_ := Aside0.mk (Kd.R_below HX1.out HB9.out)
  clear HX1
  have HX1 := n_
  clear n_
  have n_ := Aside0.mk (Kd.R_below HX2.out HB9.out)
  clear HX2
  have HX2 := n_
  clear n_
  have n_ := Aside0.mk (blk_below HBK1.out HB9.out)
  clear HBK1 hcz1
  have HBK1 := n_
  clear n_
  have hcz1 : w8.drew.cell? ⟨g1, 0, none⟩ = some (.slice A0 l0.length c0) := (blk_cell HBK1.out 0).trans rfl
  have n_ := Aside0.mk (blk_below HBK6.out HB9.out)
  clear HBK6 hcz6
  have HBK6 := n_
  clear n_
  have hcz6 : w8.drew.cell? ⟨g6, 0, none⟩ = some (.slice Aq2 l0.length cq2) := (blk_cell HBK6.out 0).trans rfl
  go_region_held3 (fun w_ => w_.cell? ⟨g1, 0, none⟩ = some (.slice A0 l0.length c0) ∧ w_.cell? ⟨g6, 0, none⟩ = some (.slice Aq2 l0.length cq2)) (exact ⟨hcz1, hcz6⟩) (first | (go_at_call 17; have hcall_ := laws_toPoset.calls k1 _ _ l0 l0 _ (Kd.C_below HR0.out HT9.out) HC0.out hy2.out; refine hcall_.mono ?_; clear hcall_; rintro e w10 ⟨v3x, rfl, hx3_, hb_⟩; have HB10 := Aside0.mk hb_; have HZ10 : Aside0 (w8.drew.heap.size ≤ w10.heap.size) := ⟨hb_.size⟩; have HT10 := Aside0.mk (HT9.out.trans (Below.mono hb_ HT9.out.size)); clear hb_; have n_ := Aside0.mk (Kd.R_below HX1.out HB10.out); clear HX1; have HX1 := n_; clear n_; have n_ := Aside0.mk (Kd.R_below HX2.out HB10.out); clear HX2; have HX2 := n_; clear n_; have n_ := Aside0.mk (blk_below HBK1.out HB10.out); clear HBK1 hcz1; have HBK1 := n_; clear n_; have hcz1 : w10.cell? ⟨g1, 0, none⟩ = some (.slice A0 l0.length c0) := (blk_cell HBK1.out 0).trans rfl; have n_ := Aside0.mk (blk_below HBK6.out HB10.out); clear HBK6 hcz6; have HBK6 := n_; clear n_; have hcz6 : w10.cell? ⟨g6, 0, none⟩ = some (.slice Aq2 l0.length cq2) := (blk_cell HBK6.out 0).trans rfl; have HX3 := Aside0.mk (Kd.R_lower (Kd.R_mono (ok' := fun k_ => w8.drew.heap.size ≤ k_ ∧ k_ < w10.heap.size) (Kd.R_bound hx3_) (fun k_ h_ => ⟨h_.2.1, h_.2.2.1⟩)) HT9.out.size); clear hx3_) | (go_at_call 19; obtain ⟨A2_, c2_, e2_, hl2_, hC2_⟩ := Kd.R_reads HX2.out; obtain ⟨A3_, c3_, e3_, hl3_, hC3_⟩ := Kd.R_reads HX3.out; have hcall_ := laws_eqPoset.calls k1 _ _ l0 _ _ l0 true _ hC2_ hl2_ hC3_ hl3_ hy5.out; rw [← e2_] at hcall_; rw [← e3_] at hcall_; refine hcall_.mono ?_; clear hcall_ hC2_ hl2_ e2_ c2_ A2_ hC3_ hl3_ e3_ c3_ A3_; rintro e w11 ⟨rfl, hb_⟩; have HB11 := Aside0.mk hb_; have HZ11 : Aside0 (w10.heap.size ≤ w11.heap.size) := ⟨hb_.size⟩; have HT11 := Aside0.mk (HT10.out.trans (Below.mono hb_ HT10.out.size)); clear hb_; have n_ := Aside0.mk (Kd.R_below HX1.out HB11.out); clear HX1; have HX1 := n_; clear n_; have n_ := Aside0.mk (Kd.R_below HX2.out HB11.out); clear HX2; have HX2 := n_; clear n_; have n_ := Aside0.mk (Kd.R_below HX3.out HB11.out); clear HX3; have HX3 := n_; clear n_; have n_ := Aside0.mk (blk_below HBK1.out HB11.out); clear HBK1 hcz1; have HBK1 := n_; clear n_; have hcz1 : w11.cell? ⟨g1, 0, none⟩ = some (.slice A0 l0.length c0) := (blk_cell HBK1.out 0).trans rfl; have n_ := Aside0.mk (blk_below HBK6.out HB11.out); clear HBK6 hcz6; have HBK6 := n_; clear n_; have hcz6 : w11.cell? ⟨g6, 0, none⟩ = some (.slice Aq2 l0.length cq2) := (blk_cell HBK6.out 0).trans rfl))
  go_wp2
  go_ret
  exact ⟨by first | rfl | (simp; done) | (simp [*]; done), by repeat (first | (with_reducible first | exact HT11.out | apply below_alloc | apply pw_below_drewN | apply below_drew1) | exact HT11.out)⟩
open Classical in
noncomputable def laws_FnExactPromotionOrder.f (k : Nat) (l0 : List Int) : Option Bool := if ∃ k1 : Nat, (∃ (z1 : Int), (laws_szPoset.f l0 1048576 = some z1) ∧ (decide (z1 < 0) = true)) ∨ (∃ (z1 : Int) (v2 : Int) (v3 : Bool), (laws_szPoset.f l0 1048576 = some z1) ∧ (decide (z1 < 0) = false) ∧ (laws_toPoset.f k1 l0 = some l0) ∧ (spec_PromotionOrder.f k l0 = some (v2, v3)) ∧ (impl_PromotionOrder.f k l0 = some (v2, v3)) ∧ (laws_eqPoset.f k1 l0 l0 = some true)) then some true else none
theorem laws_FnExactPromotionOrder.calls (k : Nat) (A0 : Option Addr) (c0 : Nat) (l0 : List Int) (r : Bool) (w : World) (hr0 : Kd.C (Kd.int .i64) w A0 l0.length l0) (hc0 : l0.length ≤ c0) (h : laws_FnExactPromotionOrder.f k l0 = some r) :
    Calls Try.prog 7 #[.agg #[.slice A0 l0.length c0]] w fun e w' => e = .returned (.bool r) ∧ Below w.heap.size w w' := by
  unfold laws_FnExactPromotionOrder.f at h
  split at h
  · rename_i hh
    obtain rfl := Option.some.inj h
    obtain ⟨k1, hh⟩ := hh
    rcases hh with ⟨z1, hy0, hx⟩ | ⟨z1, v2, v3, hy0, hy1, hy2, hy3, hy4, hy5⟩
    · exact laws_FnExactPromotionOrder.calls0 k k1 _ _ l0 z1 w hr0 hc0 hy0 hx
    · exact laws_FnExactPromotionOrder.calls1 k k1 _ _ l0 z1 v2 v3 w hr0 hc0 hy0 hy1 hy2 hy3 hy4 hy5
  · cases h
end Go.Proofs.Ytnihjpnheooeoaa.F
end
