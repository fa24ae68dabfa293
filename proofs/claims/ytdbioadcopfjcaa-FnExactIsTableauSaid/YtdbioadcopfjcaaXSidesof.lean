-- EXT loop.example/g01138/impl.sidesOf name=impl_sidesOf rounds=0 making=1
-- sidesOf: how many rows, how long the first one is, and whether this is a rectangle of at most ten cells.
import Derived.Test.YtdbioadcopfjcaaCLitSidesOf
import Derived.Test.YtdbioadcopfjcaaCIndexFuncSidesOf
import Derived.Test.YtdbioadcopfjcaaFImplAreSides
import Derived.Test.YtdbioadcopfjcaaQbase
import Derived.Lib.Hide
namespace Go.Proofs.Ytdbioadcopfjcaa.F
open Go.RowKit Go.Proofs.YtdbioadcopfjcaaW.PrintWords Go.Proofs.YtdbioadcopfjcaaW.PrintLast Go.Proofs.YtdbioadcopfjcaaW.PrintMore
set_option linter.unusedVariables false
set_option linter.unusedSimpArgs false
theorem IndexFunc_sidesOf.tells (P : List Int → Bool) (l : List (List Int)) (h : l.length ≤ 1000) :
    ∃ i : Int, (0 ≤ i ↔ l.any P = true) ∧ Ev (fun k => IndexFunc_sidesOf.f (fun x => some (P x)) k l) i := by
  unfold IndexFunc_sidesOf.f
  have key : ∀ j, j ≤ l.length → ∃ i : Int, (0 ≤ i ↔ (l.drop j).any P = true) ∧ Ev (fun k => IndexFunc_sidesOf.l0 (fun x => some (P x)) k l (l.length : Int) (j : Int)) i := by
    refine Q.downTo _ ?_ ?_
    · refine ⟨-1, by rw [List.drop_length]; simp, Ev.step (by intro k; simp only [IndexFunc_sidesOf.l0]; rfl) (Q.Ev.no (by omega) (Ev.now _))⟩
    · rintro j hj ⟨i, hi, he⟩
      have hd : (l.drop j).any P = (P l[j] || (l.drop (j + 1)).any P) := by rw [List.drop_eq_getElem_cons hj, List.any_cons]
      have hr : rd_L1 l (j : Int) = l[j] := by unfold rd_L1; simp [hj]
      cases hP : P l[j] with
      | true =>
        refine ⟨(j : Int), by rw [hd, hP]; simp, Ev.step (by intro k; simp only [IndexFunc_sidesOf.l0]; rfl) (Q.Ev.yes (by omega) (Q.Ev.yes (by omega) (Q.Ev.yes (by omega) ?_)))⟩
        rw [hr, hP]
        exact Q.Ev.call rfl (Q.Ev.yes rfl (Ev.now _))
      | false =>
        refine ⟨i, by rw [hd, hP, Bool.false_or]; exact hi, Ev.step (by intro k; simp only [IndexFunc_sidesOf.l0]; rfl) (Q.Ev.yes (by omega) (Q.Ev.yes (by omega) (Q.Ev.yes (by omega) ?_)))⟩
        rw [hr, hP, Q.wid1 hj (by omega)]
        exact Q.Ev.call rfl (Q.Ev.no (by simp) he)
  exact key 0 (by omega)
set_option maxHeartbeats 8000000 in
set_option maxRecDepth 100000 in
theorem ContainsFunc_sidesOf.calls (g0_ : Nat) (b : Int) (A0 : Option Addr) (c0 : Nat) (l0 : List (List Int)) (w : World) (hg : w.heap[g0_]? = some (.cells #[.int .i64 b] 3 (0, 0))) (hr0 : Kd.C (Kd.slice 3 (Kd.int .i64)) w A0 l0.length l0) (hc0 : l0.length ≤ c0) (h : l0.length ≤ 1000) :
    Calls Try.prog 59 #[.slice A0 l0.length c0, .func (.func 60) #[] #[.pointer (some ⟨g0_, 0, none⟩)]] w fun e w' => e = .returned (.bool (l0.any fun x => ((x.length : Int) != b))) ∧ Drawn0 w w' := by
  obtain ⟨i, hi, k, he⟩ := IndexFunc_sidesOf.tells (fun x => ((x.length : Int) != b)) l0 h
  have hlt := blk_lt hg
  have hI := IndexFunc_sidesOf.calls (fun x => some ((x.length : Int) != b)) g0_ k A0 c0 l0 i w ⟨fun A c x r W hC hl hF hb => lit_sidesOf.calls g0_ A c x b r W ((hb.cell (p := ⟨g0_, 0, none⟩) hlt).trans ((blk_cell hg 0).trans rfl)) hC hl hF⟩ hr0 hc0 (he k (Nat.le_refl _))
  have HI := Aside0.mk hI
  have hb : decide (0 ≤ i) = (l0.any fun x => ((x.length : Int) != b)) := by rw [Bool.eq_iff_iff, decide_eq_true_eq]; exact hi
  have HB := Aside0.mk hb
  clear hI hi he hg hr0 hc0 h hlt hb
  go_enter Try.func59, Try.ntmps59
  go_wp2_with (go_at_call 65; (with_reducible refine HI.out.mono ?_); rintro e w' ⟨rfl, ⟨nd, rfl⟩⟩)
  go_ret
  exact ⟨by rw [← HB.out]; try simp, ⟨_, rfl⟩⟩
/-- The rows' sides. -/
def impl_sidesOf.b (l : List (List Int)) : Int := ((l.headD []).length : Int)
def impl_sidesOf.f (l : List (List Int)) : Option (Int × Int × Bool) :=
  if l.length = 0 ∨ 10 < l.length then some (0, 0, false) else
  some ((l.length : Int), impl_sidesOf.b l, (impl_areSides.f (l.length : Int) (impl_sidesOf.b l) 10 == some true) && !(l.any fun x => ((x.length : Int) != impl_sidesOf.b l)))
set_option maxHeartbeats 8000000 in
set_option maxRecDepth 100000 in
theorem impl_sidesOf.calls (A0 : Option Addr) (c0 : Nat) (l0 : List (List Int)) (r1 : Int) (r2 : Int) (r3 : Bool) (w : World) (hr0 : Kd.C (Kd.slice 3 (Kd.int .i64)) w A0 l0.length l0) (hc0 : l0.length ≤ c0) (h : impl_sidesOf.f l0 = some (r1, r2, r3)) :
    Calls Try.prog 41 #[.slice A0 l0.length c0] w fun e w' => e = .returned (.tuple #[.int .i64 r1, .int .i64 r2, .bool r3]) ∧ Below w.heap.size w w' := by
  have hmf : ∀ (fn : Fn) (first cap : Array Value) (w : World), (Instr.makeFunc fn first cap).run Try.prog w = .ok (.func fn first cap) w := fun _ _ _ _ => rfl
  unfold impl_sidesOf.f at h
  by_cases c0_ : l0.length = 0
  · rw [if_pos (.inl c0_)] at h
    simp only [Option.some.injEq, Prod.mk.injEq] at h
    obtain ⟨rfl, rfl, rfl⟩ := h
    have c1 : ((l0.length : Int) == 0) = true := beq_iff_eq.mpr (by omega)
    clear c0_ hr0 hc0
    go_enter Try.func41, Try.ntmps41
    go_wp2
    go_ret3
    exact ⟨rfl, Below.refl _ _⟩
  have c1 : ((l0.length : Int) == 0) = false := beq_eq_false_iff_ne.mpr (by omega)
  by_cases c10 : 10 < l0.length
  · rw [if_pos (.inr c10)] at h
    simp only [Option.some.injEq, Prod.mk.injEq] at h
    obtain ⟨rfl, rfl, rfl⟩ := h
    have c2 : decide ((10 : Int) < (l0.length : Int)) = true := decide_eq_true (by omega)
    have c3 : decide (10 < l0.length) = true := decide_eq_true (by omega)
    clear c10 c0_ hr0 hc0
    go_enter Try.func41, Try.ntmps41
    go_wp2
    go_ret3
    exact ⟨rfl, Below.refl _ _⟩
  rw [if_neg (by omega)] at h
  simp only [Option.some.injEq, Prod.mk.injEq] at h
  obtain ⟨rfl, rfl, rfl⟩ := h
  have c2 : decide ((10 : Int) < (l0.length : Int)) = false := decide_eq_false (by omega)
  have c3 : decide (10 < l0.length) = false := decide_eq_false (by omega)
  have p813 : 0 ≤ (0 : Int) := by omega
  have q813 : 0 < (l0.length : Int) := by omega
  obtain ⟨ad813, A813_0, c813_0, e813, hx813_0, hl813_0, hi813_0⟩ := at_L1 hr0 0 p813 q813
  cases e813
  have qi813 : (0 < l0.length) = True := eq_true (by omega)
  rw [show ((0 : Int)).toNat = 0 from rfl, Addr.add_zero'] at hx813_0
  have eb : impl_sidesOf.b l0 = ((rd_L1 l0 0).length : Int) := by
    cases l0 with
    | nil => exact absurd rfl c0_
    | cons x l => rfl
  rw [eb]
  have hC : Aside0 (∀ W : World, Aside0 (W.heap[w.heap.size]? = some (.cells #[.int .i64 ((rd_L1 l0 0).length : Int)] 3 (0, 0))) → Aside0 (Below w.heap.size w W) →
      Calls Try.prog 59 #[.slice (some ad813) l0.length c0, .func (.func 60) #[] #[.pointer (some ⟨w.heap.size, 0, none⟩)]] W fun e w' => e = .returned (.bool (l0.any fun x => ((x.length : Int) != ((rd_L1 l0 0).length : Int)))) ∧ Drawn0 W w') :=
    ⟨fun W h1 h2 => ContainsFunc_sidesOf.calls w.heap.size _ (some ad813) c0 l0 W h1.out (Kd.C_below hr0 h2.out) hc0 (by omega)⟩
  have HL := Aside0.mk hl813_0
  have HI := Aside0.mk hi813_0
  obtain ⟨t, ht⟩ : ∃ t, impl_areSides.f (l0.length : Int) ((rd_L1 l0 0).length : Int) 10 = some t := by
    unfold impl_areSides.f impl_within.f
    split <;> simp only [Option.bind_some] <;> split <;> (try (split <;> simp only [Option.bind_some] <;> split)) <;> exact ⟨_, rfl⟩
  have HT := Aside0.mk ht
  rw [ht]
  generalize hany : (l0.any fun x => ((x.length : Int) != ((rd_L1 l0 0).length : Int))) = an at hC ⊢
  clear hany ht hl813_0 hi813_0 hr0 hc0 c0_ c10 q813 eb p813
  cases t with
  | true =>
    go_enter Try.func41, Try.ntmps41
    go_wp2_with (fail)
    repeat (go_quiet (first | (go_at_call 26; (with_reducible refine (impl_areSides.calls (l0.length : Int) ((rd_L1 l0 0).length : Int) 10 true _ HT.out).mono ?_); rintro e w' ⟨rfl, ⟨nd, rfl⟩⟩; (try first | exact ⟨rfl, _, World.drewN_drewN _ _ _⟩ | exact ⟨rfl, _, Eq.trans (World.drewN_drewN _ _ _) (congrArg (World.drewN _) (Nat.add_assoc _ _ _))⟩)) | (go_at_call 59; (with_reducible refine (hC.out _ ?s1 ?s2).mono ?_); (case s1 => exact ⟨by (with_reducible repeat (first | refine blk_drewN ?_ _ | refine blk_drew ?_)); exact blk_new _ _⟩); (case s2 => exact ⟨by repeat (first | exact Below.refl _ _ | apply below_alloc | apply pw_below_drewN | apply below_drew1)⟩); rintro e w' ⟨rfl, ⟨nd, rfl⟩⟩; (try first | exact ⟨rfl, _, World.drewN_drewN _ _ _⟩ | exact ⟨rfl, _, Eq.trans (World.drewN_drewN _ _ _) (congrArg (World.drewN _) (Nat.add_assoc _ _ _))⟩))); try go_wp2_with (fail))
    go_ret3
    exact ⟨by first | rfl | (simp; done), by repeat (first | exact Below.refl _ _ | apply below_alloc | apply pw_below_drewN | apply below_drew1)⟩
  | false =>
    go_enter Try.func41, Try.ntmps41
    go_wp2_with (fail)
    repeat (go_quiet (first | (go_at_call 26; (with_reducible refine (impl_areSides.calls (l0.length : Int) ((rd_L1 l0 0).length : Int) 10 false _ HT.out).mono ?_); rintro e w' ⟨rfl, ⟨nd, rfl⟩⟩; (try first | exact ⟨rfl, _, World.drewN_drewN _ _ _⟩ | exact ⟨rfl, _, Eq.trans (World.drewN_drewN _ _ _) (congrArg (World.drewN _) (Nat.add_assoc _ _ _))⟩))); try go_wp2_with (fail))
    go_ret3
    exact ⟨by first | rfl | (simp; done), by repeat (first | exact Below.refl _ _ | apply below_alloc | apply pw_below_drewN | apply below_drew1)⟩
end Go.Proofs.Ytdbioadcopfjcaa.F
